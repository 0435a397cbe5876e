/- Contracts of stillroomref13.May and Text. -/
import Derived.Test.YteeijjhgdplifaaGreatDoorVi
namespace Go.Proofs.YteeijjhgdplifaaGreatDoor
open Go.RowKit

set_option maxRecDepth 100000 in
set_option maxHeartbeats 1000000 in
theorem refMay_ok (v : Ver) (hv : v.Ok) (hs : v.t.length ≤ 140737488355328) (w : World) : Calls Tryz.prog 18 #[v.val] w fun e w' => e = .returned (.bool v.may) ∧ Below w.heap.size w w' := by
  obtain ⟨w1, hw1⟩ : ∃ w1, w1 = w.alloc (.cells v.cells.toArray 37) := ⟨_, rfl⟩
  obtain ⟨ga, hga⟩ : ∃ ga, ga = w.heap.size := ⟨_, rfl⟩
  have hb1 : Below w.heap.size w w1 := by rw [hw1]; exact (Below.refl _ _).alloc (Nat.le_refl _) _
  have k1 : Blk w1 ga 37 v.cells := by rw [hw1, hga]; exact Blk.new _ _ v.cells.toArray
  obtain ⟨sa, hsa⟩ : ∃ sa, sa = bl v.t := ⟨_, rfl⟩
  obtain ⟨vc, hvc⟩ : ∃ vc, vc = v.c := ⟨_, rfl⟩
  have c4 : w1.cell? ⟨ga, 4, none⟩ = some (.int .i64 vc) := by rw [k1.cell, Ver.cells_c hv, hvc]
  have c5 : w1.cell? ⟨ga, 5, none⟩ = some (.string sa) := by rw [k1.cell, Ver.cells_t hv, hsa]
  have l1 := k1.lt
  have HK1 := Lib.hid k1
  have HV : Hid (v.ns.length = 4) := Lib.hid hv
  have HVO := Lib.hid hv
  have HB1 := Lib.hid hb1
  have HVC := Lib.hid hvc
  have htag := tag_ok sa w1 (by rw [hsa, bl_size]; exact hs)
  rw [show sa.data.toList = v.t from by rw [hsa]] at htag
  have HTG := Lib.hid htag
  have HW1 := Lib.hid hw1
  have HGA := Lib.hid hga
  obtain ⟨RES, hRES⟩ : ∃ RES, RES = v.may := ⟨_, rfl⟩
  have HRES := Lib.hid hRES
  rw [← hRES]
  obtain ⟨B, hB⟩ : ∃ B, B = !(decide (1 ≤ vc ∧ vc ≤ 4) && tagOk v.t) := ⟨_, rfl⟩
  have HBo := Lib.hid hB
  clear hw1 hga hb1 k1 hsa hvc hv hs htag hRES hB
  rw [show v.val = .agg v.cells.toArray from rfl]
  go_enter Tryz.func18, Tryz.ntmps18
  go_upto_region 1 with fail
  rw [← HW1.out, ← HGA.out]
  go_cut [17] (fun u wx => u = .bool B ∧ wx = w1)
  case first =>
    by_cases h1 : 1 ≤ vc
    · by_cases h4 : vc ≤ 4
      · have hn : Hid (B = !tagOk v.t) := Lib.hid (by rw [HBo.out, decide_eq_true ⟨h1, h4⟩]; rfl)
        go_wp2_with fail
        refine HTG.out.mono ?_
        rintro e w' ⟨rfl, rfl⟩
        go_wp2_with fail
        go_meet
        exact ⟨by (rw [hn.out]; try simp [show ¬ vc < 1 by omega, show ¬ 4 < vc by omega]), rfl⟩
      · have hn : Hid (B = true) := Lib.hid (by rw [HBo.out, decide_eq_false (fun h => h4 h.2)]; rfl)
        go_wp2_with fail
        go_meet
        exact ⟨by (rw [hn.out]; try (simp; omega)), rfl⟩
    · have hn : Hid (B = true) := Lib.hid (by rw [HBo.out, decide_eq_false (fun h => h1 h.1)]; rfl)
      go_wp2_with fail
      go_meet
      exact ⟨by (rw [hn.out]; try (simp; omega)), rfl⟩
  case rest =>
    obtain ⟨rfl, rfl⟩ := hcut
    cases hb : B
    · have hB3 : decide (1 ≤ vc ∧ vc ≤ 4) = true ∧ tagOk v.t = true := by
        have hB2 := HBo.out
        rw [hb] at hB2
        cases h1 : decide (1 ≤ vc ∧ vc ≤ 4) <;> cases h2 : tagOk v.t <;> simp [h1, h2] at hB2 ⊢
      have HC := Lib.hid (of_decide_eq_true hB3.1)
      have HT := Lib.hid hB3.2
      clear hB3 hb c5
      go_wp2_with fail
      go_loopg [3] 4 (fun kq iv wr => ∃ i : Nat, iv = .int .i64 i ∧ i ≤ 4 ∧ kq = 4 - i ∧ wr = wc ∧ Hid (∀ j x, j < i → v.ns[j]? = some x → 0 ≤ x ∧ x ≤ 999999999 ∧ ((j : Int) < vc ∨ x = 0)))
      case atStart => exact ⟨0, rfl, by omega, rfl, rfl, Lib.hid (fun j x h => by omega)⟩
      case round =>
        obtain ⟨i, rfl, hi, rfl, rfl, HP⟩ := hrel
        by_cases hlt : i < 4
        · obtain ⟨x, hx⟩ : ∃ x, v.ns[i]? = some x := ⟨_, List.getElem?_eq_getElem (by rw [HV.out]; exact hlt)⟩
          have cx : wr.cell? ⟨ga, i, none⟩ = some (.int .i64 x) := by rw [HK1.out.cell, Ver.cells_n hx]
          have HX := Lib.hid hx
          have hi4 : (i : Int) < 4 := by omega
          have hi0 : 0 ≤ (i : Int) := by omega
          clear hx
          by_cases hgood : 0 ≤ x ∧ x ≤ 999999999 ∧ ((i : Int) < vc ∨ x = 0)
          · have hp : Hid (∀ j y, j < i + 1 → v.ns[j]? = some y → 0 ≤ y ∧ y ≤ 999999999 ∧ ((j : Int) < vc ∨ y = 0)) := Lib.hid (fun j y hj hy => by
              by_cases e : j = i
              · subst e; rw [HX.out] at hy; injection hy with hy; rw [← hy]; exact hgood
              · exact HP.out j y (by omega) hy)
            obtain ⟨g1, g2, g3⟩ := hgood
            clear HP
            by_cases hic : (i : Int) < vc
            · clear g3
              go_wp2_with fail
              go_roundg (4 - (i + 1))
              case measure => omega
              case rel => exact ⟨i + 1, by go_num, by omega, rfl, rfl, hp⟩
            · obtain rfl : x = 0 := g3.resolve_left hic
              clear g3
              go_wp2_with fail
              go_roundg (4 - (i + 1))
              case measure => omega
              case rel => exact ⟨i + 1, by go_num, by omega, rfl, rfl, hp⟩
          · have hn : Hid (RES = false) := Lib.hid (by
              rw [HRES.out]
              cases hm : v.may with
              | false => rfl
              | true =>
                have := v.may_num hm i hlt
                rw [List.getD_eq_getElem?_getD, HX.out, Option.getD_some, ← HVC.out] at this
                exact absurd this hgood)
            clear HP
            by_cases g1 : 0 ≤ x
            · by_cases g2 : x ≤ 999999999
              · have g3 : vc ≤ (i : Int) := by omega
                have g4 : x ≠ 0 := by omega
                have g5 : (x != 0) = true := by simpa using g4
                clear hgood
                go_wp2_with fail
                go_ret
                exact ⟨by rw [hn.out]; rfl, HB1.out⟩
              · clear hgood
                go_wp2_with fail
                go_ret
                exact ⟨by rw [hn.out]; rfl, HB1.out⟩
            · clear hgood
              go_wp2_with fail
              go_ret
              exact ⟨by rw [hn.out]; rfl, HB1.out⟩
        · obtain rfl : i = 4 := by omega
          have hn : Hid (RES = true) := Lib.hid (by
            rw [HRES.out]
            refine Ver.may_of (by rw [← HVC.out]; exact HC.out) HT.out fun j hj => ?_
            have := HP.out j (v.ns[j]'(by rw [HV.out]; exact hj)) hj (List.getElem?_eq_getElem _)
            rw [List.getD_eq_getElem?_getD, List.getElem?_eq_getElem (by rw [HV.out]; exact hj), Option.getD_some, ← HVC.out]
            exact this)
          clear HP
          go_wp2_with fail
          go_ret
          exact ⟨by rw [hn.out]; rfl, HB1.out⟩
    · have hn : Hid (RES = false) := Lib.hid (by
        rw [HRES.out]
        refine Ver.may_no ?_
        have := HBo.out
        rw [hb] at this
        by_cases h1 : 1 ≤ vc ∧ vc ≤ 4
        · rw [decide_eq_true h1] at this
          exact .inr (by simpa using this.symm)
        · rw [← HVC.out]; exact .inl h1)
      go_wp2_with fail
      go_ret
      exact ⟨by rw [hn.out]; rfl, HB1.out⟩
theorem join_snoc (sep : List UInt8) {xs : List (List UInt8)} (h : xs ≠ []) (y : List UInt8) : Lib.join (xs ++ [y]) sep = Lib.join xs sep ++ sep ++ y := by
  cases xs with
  | nil => exact absurd rfl h
  | cons x r =>
    rw [List.cons_append, Lib.join_cons, Lib.join_cons]
    have : Lib.joinTail sep (r ++ [y]) = Lib.joinTail sep r ++ sep ++ y := by simp [Lib.joinTail]
    rw [this]
    simp [List.append_assoc]
theorem bl_append (a b : List UInt8) : bl a ++ bl b = bl (a ++ b) := by
  rw [bl_eta (bl a ++ bl b)]
  simp
def Ver.front (v : Ver) (i : Nat) : List UInt8 := Lib.join ((v.ns.take i).map Lib.itoa) [46]
theorem front_next {v : Ver} {i : Nat} {x : Int} (hx : v.ns[i]? = some x) (h1 : 1 ≤ i) : v.front (i + 1) = v.front i ++ [46] ++ Lib.itoa x := by
  unfold Ver.front
  rw [List.take_add_one, hx, List.map_append]
  refine join_snoc [46] ?_ _
  intro e
  have h0 : ((v.ns.take i).map Lib.itoa).length = 0 := by rw [e]; rfl
  have hl := (List.getElem?_eq_some_iff.1 hx).1
  rw [List.length_map, List.length_take] at h0
  omega
theorem front_len {v : Ver} (hv : v.Ok) (h : v.may = true) {i : Nat} (hi : i ≤ 4) : (v.front i).length ≤ 40 := by
  have hl : v.ns.length = 4 := hv
  have h1 : ∀ x ∈ (v.ns.take i).map Lib.itoa, x.length ≤ 9 := by
    intro x hx
    obtain ⟨n, hn, rfl⟩ := List.mem_map.1 hx
    obtain ⟨j, hj⟩ := List.getElem?_of_mem hn
    rw [List.getElem?_take] at hj
    split at hj
    · have hj4 : j < 4 := by rw [← hl]; exact (List.getElem?_eq_some_iff.1 hj).1
      have := v.may_num h j hj4
      rw [List.getD_eq_getElem?_getD, hj, Option.getD_some] at this
      exact itoa_len this.1 this.2.1
    · cases hj
  have h2 := join_len (sep := [46]) h1
  have h3 : ((v.ns.take i).map Lib.itoa).length ≤ 4 := by simp [hl]; omega
  have h4 : ((v.ns.take i).map Lib.itoa).length * (9 + [46].length) ≤ 4 * 10 := Nat.mul_le_mul h3 (by decide)
  exact Nat.le_trans h2 h4

set_option maxRecDepth 100000 in
set_option maxHeartbeats 2000000 in
theorem refText_ok (v : Ver) (hv : v.Ok) (hs : v.t.length ≤ 140737488355328) (w : World) : Calls Tryz.prog 74 #[v.val] w fun e w' => e = .returned (.tuple #[.string (bl (tv v).1), .int .i64 (tv v).2]) ∧ Below w.heap.size w w' := by
  obtain ⟨w1, hw1⟩ : ∃ w1, w1 = w.alloc (.cells v.cells.toArray 37) := ⟨_, rfl⟩
  obtain ⟨g1, hg1⟩ : ∃ g1, g1 = w.heap.size := ⟨_, rfl⟩
  have hb1 : Below w.heap.size w w1 := by rw [hw1]; exact (Below.refl _ _).alloc (Nat.le_refl _) _
  have k1 : Blk w1 g1 37 v.cells := by rw [hw1, hg1]; exact Blk.new _ _ v.cells.toArray
  have HK1 := Lib.hid k1
  have HL1 := Lib.hid (rload k1 hv)
  have HV := Lib.hid hv
  have HB1 := Lib.hid hb1
  have HS := Lib.hid hs
  have HW1 := Lib.hid hw1
  have HGN := Lib.hid hg1
  obtain ⟨RES, hRES⟩ : ∃ RES, RES = tv v := ⟨_, rfl⟩
  have HRES := Lib.hid hRES
  rw [← hRES]
  clear hw1 hg1 hb1 k1 hv hs hRES
  rw [show v.val = .agg v.cells.toArray from rfl]
  go_enter Tryz.func74, Tryz.ntmps74
  go_upto_region 1 with fail
  rw [← HW1.out, ← HGN.out]
  go_wp2_with (refine wpList_load_run rfl 37 (.tmp 1) rfl g1 rfl _ HL1.out ?_)
  refine (refMay_ok v HV.out HS.out w1).mono ?_
  rintro e w2 ⟨rfl, hb2⟩
  have k2 := HK1.out.below' hb2
  have HK2 := Lib.hid k2
  have HB2 : Hid (Below w.heap.size w w2) := Lib.hid (HB1.out.trans (hb2.mono HB1.out.size))
  cases hm : v.may
  · have hR : Hid (RES = ([], 20)) := Lib.hid (by rw [HRES.out]; unfold tv; rw [hm]; rfl)
    clear hb2 k2 hm
    go_wp2_with fail
    go_ret2
    exact ⟨by rw [hR.out]; rfl, HB2.out⟩
  · have hR : Hid (RES = (v.text, 0)) := Lib.hid (by rw [HRES.out]; unfold tv; rw [hm]; rfl)
    have HM := Lib.hid hm
    obtain ⟨hc1, hc4⟩ := v.may_c hm
    obtain ⟨k, hk⟩ : ∃ k : Nat, v.c = (k : Int) := ⟨v.c.toNat, by omega⟩
    have hk1 : 1 ≤ k := by omega
    have hk4 : k ≤ 4 := by omega
    have hkI : (k : Int) ≤ 4 := by omega
    have hk1I : 1 ≤ (k : Int) := by omega
    have HKC := Lib.hid hk
    obtain ⟨x0, hx0⟩ : ∃ x, v.ns[0]? = some x := ⟨_, List.getElem?_eq_getElem (by have : v.ns.length = 4 := HV.out; omega)⟩
    have hr0 := v.may_num hm 0 (by omega)
    rw [List.getD_eq_getElem?_getD, hx0, Option.getD_some] at hr0
    obtain ⟨u0, hu0⟩ : ∃ u : Nat, x0 = (u : Int) := ⟨x0.toNat, by omega⟩
    subst hu0
    have c0 : w2.cell? ⟨g1, 0, none⟩ = some (.int .i64 (u0 : Int)) := by rw [k2.cell, Ver.cells_n hx0]
    have c4 : w2.cell? ⟨g1, 4, none⟩ = some (.int .i64 (k : Int)) := by rw [k2.cell, Ver.cells_c HV.out, hk]
    have c5 : w2.cell? ⟨g1, 5, none⟩ = some (.string (bl v.t)) := by rw [k2.cell, Ver.cells_t HV.out]
    have hgl := k2.lt
    have hd0 := digits_ok u0 w2 (by omega)
    have HD0 := Lib.hid hd0
    have HF1 : Hid (bl (Lib.decDigits u0) = bl (v.front 1)) := Lib.hid (by
      unfold Ver.front
      rw [show v.ns.take 1 = [(u0 : Int)] from by rw [show (1 : Nat) = 0 + 1 from rfl, List.take_add_one, hx0]; rfl]
      show _ = bl (Lib.join [Lib.itoa (u0 : Int)] [46])
      rw [Lib.join_one, itoa_nat (by omega)]
      rfl)
    obtain ⟨sa, hsa⟩ : ∃ sa, sa = bl v.t := ⟨_, rfl⟩
    rw [← hsa] at c5
    have HSA := Lib.hid hsa
    have hsaz : sa.size ≤ 140737488355328 := by rw [hsa, bl_size]; exact HS.out
    have HNU : Hid (v.nums = (v.ns.take k).map Lib.itoa) := Lib.hid (by unfold Ver.nums; rw [hk]; rfl)
    clear hb2 k2 hm hc1 hc4 hk hx0 hr0 hd0 hsa
    go_wp2_with fail
    refine HD0.out.mono ?_
    rintro e w' ⟨rfl, rfl⟩
    rw [HF1.out]
    go_wp2_with fail
    go_loopg [5, 4] (k - 1) (fun kq iv sv wr => ∃ i : Nat, iv = .int .i64 i ∧ sv = .string (bl (v.front i)) ∧ 1 ≤ i ∧ i ≤ k ∧ kq = k - i ∧ wr = w2)
    case atStart => exact ⟨1, rfl, rfl, by omega, hk1, rfl, rfl⟩
    case round =>
      obtain ⟨i, rfl, rfl, hi1, hi, rfl, rfl⟩ := hrel
      by_cases hlt : i < k
      · obtain ⟨x, hx⟩ : ∃ x, v.ns[i]? = some x := ⟨_, List.getElem?_eq_getElem (by have : v.ns.length = 4 := HV.out; omega)⟩
        have hxr := v.may_num HM.out i (by omega)
        rw [List.getD_eq_getElem?_getD, hx, Option.getD_some] at hxr
        obtain ⟨u, hu⟩ : ∃ u : Nat, x = (u : Int) := ⟨x.toNat, by omega⟩
        subst hu
        have cx : wr.cell? ⟨g1, i, none⟩ = some (.int .i64 (u : Int)) := by rw [HK2.out.cell, Ver.cells_n hx]
        have hd := digits_ok u wr (by omega)
        have HD := Lib.hid hd
        have HFN := Lib.hid (front_next hx hi1)
        have hi4I : (i : Int) < 4 := by omega
        have hi0I : 0 ≤ (i : Int) := by omega
        obtain ⟨sf, hsf⟩ : ∃ sf, sf = bl (v.front i) := ⟨_, rfl⟩
        obtain ⟨sd, hsd⟩ : ∃ sd, sd = bl (Lib.decDigits u) := ⟨_, rfl⟩
        obtain ⟨sk, hsk⟩ : ∃ sk, sk = bl (v.front i ++ [46]) := ⟨_, rfl⟩
        have hz1 : sf.size ≤ 40 := by rw [hsf, bl_size]; exact front_len HV.out HM.out (by omega)
        have hz2 : sk.size ≤ 41 := by rw [hsk, bl_size, List.length_append]; have := front_len HV.out HM.out (show i ≤ 4 by omega); simp; omega
        have hz3 : sd.size ≤ 9 := by rw [hsd, bl_size]; exact (dec_length_iff u).2 (by omega)
        have e1 : sf ++ ({ data := #[46] } : ByteArray) = sk := by rw [hsf, hsk]; exact bl_append _ [46]
        obtain ⟨sn, hsn⟩ : ∃ sn, sn = bl (v.front (i + 1)) := ⟨_, rfl⟩
        have e2 : sk ++ sd = sn := by
          rw [hsk, hsd, hsn, HFN.out, itoa_nat (by omega)]
          exact bl_append _ _
        rw [← hsf]
        have HSD := Lib.hid hsd
        have HSN := Lib.hid hsn
        clear hx hxr hd hsf hsd hsk hsn
        go_wp2_with fail
        refine HD.out.mono ?_
        rintro e w' ⟨rfl, rfl⟩
        rw [← HSD.out]
        go_wp2_with fail
        go_roundg (k - (i + 1))
        case measure => omega
        case rel => exact ⟨i + 1, by go_num, by rw [HSN.out], by omega, by omega, rfl, rfl⟩
      · obtain rfl : i = k := by omega
        obtain ⟨sj, hsj⟩ : ∃ sj, sj = bl (v.front i) := ⟨_, rfl⟩
        have hsjz : sj.size ≤ 40 := by rw [hsj, bl_size]; exact front_len HV.out HM.out (by omega)
        have hsal : sa.toList = v.t := by rw [HSA.out, bl_toList]
        have HFR : Hid (v.front i = Lib.join v.nums [46]) := Lib.hid (by rw [HNU.out]; rfl)
        rw [← hsj]
        have HSJ := Lib.hid hsj
        clear hsj
        by_cases ht : v.t = []
        · have k1 : sa.toList = [] := by rw [hsal, ht]
          have HT : Hid (sj = bl v.text) := Lib.hid (by rw [HSJ.out, HFR.out]; unfold Ver.text tagText; rw [if_pos ht, List.append_nil])
          clear hsal ht
          go_wp2_with fail
          go_ret2
          exact ⟨by rw [hR.out, ← HT.out]; rfl, HB2.out⟩
        · have k1 : ¬ sa.toList = [] := by rw [hsal]; exact ht
          have k2 : sa.toList.isEmpty = false := by simpa using k1
          obtain ⟨sm, hsm⟩ : ∃ sm, sm = bl (v.front i ++ [45]) := ⟨_, rfl⟩
          have e1 : sj ++ ({ data := #[45] } : ByteArray) = sm := by rw [HSJ.out, hsm]; exact bl_append _ [45]
          obtain ⟨st, hst⟩ : ∃ st, st = bl v.text := ⟨_, rfl⟩
          have e2 : sm ++ sa = st := by
            rw [hsm, HSA.out, hst]
            refine (bl_append _ _).trans ?_
            unfold Ver.text tagText
            rw [if_neg ht, HFR.out, List.append_assoc]
            rfl
          have hsmz : sm.size ≤ 41 := by rw [hsm, bl_size, List.length_append]; have := front_len HV.out HM.out (show i ≤ 4 by omega); simp; omega
          have HT := Lib.hid hst
          clear hsal ht hsm hst
          go_wp2_with fail
          go_ret2
          exact ⟨by rw [hR.out, ← HT.out]; rfl, HB2.out⟩
end Go.Proofs.YteeijjhgdplifaaGreatDoor
