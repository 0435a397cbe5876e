/- Contract of version.may. -/
import Derived.Test.YteeijjhgdplifaaGreatDoorVe
import Derived.Shelf.Strings.SlTrimAscii
namespace Go.Proofs.YteeijjhgdplifaaGreatDoor
open Go.RowKit

theorem dropWhile_nil {α : Type} (p : α → Bool) : ∀ l : List α, l.dropWhile p = [] ↔ l.all p = true
  | [] => by simp
  | a :: l => by
    have ih := dropWhile_nil p l
    by_cases h : p a = true
    · rw [List.dropWhile_cons_of_pos h, ih]; simp [h]
    · rw [List.dropWhile_cons_of_neg h]; simp [h]
theorem trimS_nil (l cs : List UInt8) : Lib.trimS l cs = [] ↔ l.all (cs.contains ·) = true := by
  unfold Lib.trimS Lib.trimLeftS Lib.trimRightS
  rw [dropWhile_nil]
  constructor
  · intro h
    by_cases hd : l.reverse.dropWhile (cs.contains ·) = []
    · have := (dropWhile_nil _ _).1 hd
      rwa [List.all_reverse] at this
    · exfalso
      obtain ⟨b, r, e⟩ := List.exists_cons_of_ne_nil hd
      have h1 := List.head_dropWhile_not (cs.contains ·) hd
      rw [List.all_eq_true] at h
      have h2 := h ((l.reverse.dropWhile (cs.contains ·)).head hd) (by simp)
      rw [h2] at h1
      cases h1
  · intro h
    rw [(dropWhile_nil _ _).2 (by rw [List.all_reverse]; exact h)]
    rfl
def tagSet : List UInt8 := [97, 98, 99, 100, 101, 102, 103, 104, 105, 106, 107, 108, 109, 110, 111, 112, 113, 114, 115, 116, 117, 118, 119, 120, 121, 122, 48, 49, 50, 51, 52, 53, 54, 55, 56, 57]
theorem tagSet_has (b : UInt8) : tagSet.contains b = tagB b := by
  have h : ∀ i : Fin 256, tagSet.contains (UInt8.ofNat i.val) = tagB (UInt8.ofNat i.val) := by decide +kernel
  have := h ⟨b.toNat, b.toNat_lt⟩
  simpa using this
theorem trim_tag (l : List UInt8) : Lib.trimS l tagSet = [] ↔ l.all tagB = true := by
  rw [trimS_nil, List.all_congr rfl (fun b => tagSet_has b)]
theorem trim_ok (s : ByteArray) (hs : s.size ≤ 9223372036854775807) (w : World) : Calls Tryz.prog 55 #[.string s, .string (bl tagSet)] w fun e w' => e = .returned (.string (bl (Lib.trimS s.data.toList tagSet))) ∧ Below w.heap.size w w' := by
  have := Any.strings_Trim_laid Tryz.lays160 (by kernel_rfl) s (bl tagSet) w hs (by rw [bl_size]; decide) (by rw [bl_data]; exact ascii_of_all (by decide))
  rw [bl_data] at this
  exact this

/-- what the loop lays -/
def Ver.upto (v : Ver) (i : Nat) : Ver := ⟨v.ns.take i ++ List.replicate (4 - i) 0, v.c, v.t⟩
theorem Ver.upto_ok {v : Ver} (hv : v.Ok) {i : Nat} (hi : i ≤ 4) : (v.upto i).Ok := by
  have : v.ns.length = 4 := hv
  show (v.ns.take i ++ List.replicate (4 - i) 0).length = 4
  simp [this]; omega
theorem Ver.upto_set {v : Ver} (hv : v.Ok) {i : Nat} {x : Int} (hx : v.ns[i]? = some x) : (v.upto i).cells.set i (.int .i64 x) = (v.upto (i + 1)).cells := by
  have h4 : v.ns.length = 4 := hv
  have hi : i < 4 := by rw [← h4]; exact (List.getElem?_eq_some_iff.1 hx).1
  unfold Ver.cells Ver.upto ints
  simp only
  rw [List.set_append_left _ _ (by simp [h4]; omega), ← List.map_set]
  congr 2
  rw [List.set_append_right _ _ (by simp [h4]; omega)]
  have e : i - (v.ns.take i).length = 0 := by simp [h4]; omega
  rw [e, show 4 - i = (4 - (i + 1)) + 1 by omega, List.replicate_succ, List.set_cons_zero, List.take_add_one, hx]
  simp
theorem Ver.upto_eq {v : Ver} (hv : v.Ok) {k : Nat} (hk : k ≤ 4) : v = v.upto k ↔ ∀ i, i < 4 → k ≤ i → v.ns.getD i 0 = 0 := by
  have h4 : v.ns.length = 4 := hv
  constructor
  · intro e i hi hk
    have e2 : v.ns = v.ns.take k ++ List.replicate (4 - k) 0 := congrArg Ver.ns e
    rw [List.getD_eq_getElem?_getD, e2, List.getElem?_append_right (by simp [h4]; omega), List.getElem?_replicate]
    split <;> rfl
  · intro h
    obtain ⟨l, c, t⟩ := v
    simp only [Ver.upto, Ver.mk.injEq, and_true]
    have hl : l.length = 4 := h4
    show l = l.take k ++ List.replicate (4 - k) 0
    apply List.ext_getElem?
    intro i
    by_cases hi : i < k
    · rw [List.getElem?_append_left (by simp; omega), List.getElem?_take, if_pos hi]
    · rw [List.getElem?_append_right (by simp; omega), List.getElem?_replicate]
      rw [List.length_take, hl, Nat.min_eq_left hk]
      by_cases hi4 : i < 4
      · rw [if_pos (by omega), List.getElem?_eq_getElem (by omega)]
        have : l.getD i 0 = 0 := h i hi4 (by omega)
        rw [List.getD_eq_getElem?_getD, List.getElem?_eq_getElem (by omega), Option.getD_some] at this
        rw [this]
      · rw [if_neg (by omega), List.getElem?_eq_none (by omega)]
/-- may, by its three looks -/
theorem Ver.may_eq {v : Ver} (hv : v.Ok) {k : Nat} (hk : v.c = (k : Int)) (h1 : 1 ≤ k) (h4 : k ≤ 4) (ht : tagOk v.t = true) (hn : ∀ i x, i < k → v.ns[i]? = some x → 0 ≤ x ∧ x ≤ 999999999) : v.may = decide (v = v.upto k) := by
  have hl : v.ns.length = 4 := hv
  rw [Bool.eq_iff_iff, decide_eq_true_eq, Ver.upto_eq hv h4]
  constructor
  · intro h i hi hki
    exact (v.may_num h i hi).2.2.resolve_left (by omega)
  · intro h
    refine Ver.may_of (by omega) ht fun i hi => ?_
    by_cases hik : i < k
    · have := hn i (v.ns[i]) hik (List.getElem?_eq_getElem (by omega))
      rw [List.getD_eq_getElem?_getD, List.getElem?_eq_getElem (by omega), Option.getD_some]
      exact ⟨this.1, this.2, .inl (by omega)⟩
    · rw [h i hi (by omega)]
      exact ⟨by omega, by omega, .inr rfl⟩
theorem Ver.may_no {v : Ver} (h : ¬ (1 ≤ v.c ∧ v.c ≤ 4) ∨ tagOk v.t = false) : v.may = false := by
  cases hm : v.may with
  | false => rfl
  | true =>
    rcases h with h | h
    · exact absurd (v.may_c hm) h
    · rw [v.may_t hm] at h; cases h
theorem Ver.may_bad {v : Ver} {i : Nat} {x : Int} (hx : v.ns[i]? = some x) (hi : i < 4) (h : ¬ (0 ≤ x ∧ x ≤ 999999999)) : v.may = false := by
  cases hm : v.may with
  | false => rfl
  | true =>
    have := v.may_num hm i hi
    rw [List.getD_eq_getElem?_getD, hx, Option.getD_some] at this
    exact absurd ⟨this.1, this.2.1⟩ h

set_option maxRecDepth 100000 in
set_option maxHeartbeats 1000000 in
theorem may_ok (v : Ver) (hv : v.Ok) (hs : v.t.length ≤ 140737488355328) (w : World) : Calls Tryz.prog 36 #[v.val] w fun e w' => e = .returned (.bool v.may) ∧ Below w.heap.size w w' := by
  obtain ⟨sa, hsa⟩ : ∃ sa, sa = bl v.t := ⟨_, rfl⟩
  obtain ⟨w1, hw1⟩ : ∃ w1, w1 = w.alloc (.cells v.cells.toArray 38) := ⟨_, rfl⟩
  obtain ⟨w2, hw2⟩ : ∃ w2, w2 = w1.alloc (.cells #[.int .i64 0, .int .i64 0, .int .i64 0, .int .i64 0, .int .i64 v.c, .string sa] 38) := ⟨_, rfl⟩
  obtain ⟨ga, hga⟩ : ∃ ga, ga = w.heap.size := ⟨_, rfl⟩
  obtain ⟨gb, hgb⟩ : ∃ gb, gb = w1.heap.size := ⟨_, rfl⟩
  have HB1 : Hid (Below w.heap.size w w1) := Lib.hid (by rw [hw1]; exact (Below.refl _ _).alloc (Nat.le_refl _) _)
  have HB2 : Hid (Below w1.heap.size w1 w2) := Lib.hid (by rw [hw2]; exact (Below.refl _ _).alloc (Nat.le_refl _) _)
  have b1 : Blk w1 ga 38 v.cells := by rw [hw1, hga]; exact Blk.new _ _ v.cells.toArray
  have b2 : Blk w2 ga 38 v.cells := b1.below' HB2.out
  have b3 : Blk w2 gb 38 (v.upto 0).cells := by rw [hw2, hgb, hsa]; exact Blk.new _ _ _
  have HBA := Lib.hid b2
  have HBB := Lib.hid b3
  have HB0 : Hid (Below w.heap.size w w2) := Lib.hid (HB1.out.trans (HB2.out.mono HB1.out.size))
  have HGG : Hid (w.heap.size ≤ ga ∧ w.heap.size ≤ gb ∧ ga ≠ gb) := Lib.hid ⟨by omega, by have := HB1.out.size; omega, by have := b1.lt; omega⟩
  have HV : Hid v.Ok := Lib.hid hv
  have c4 : w1.cell? ⟨ga, 4, none⟩ = some (.int .i64 v.c) := by rw [b1.cell, Ver.cells_c hv]
  have c5 : w1.cell? ⟨ga, 5, none⟩ = some (.string sa) := by rw [b1.cell, Ver.cells_t hv, hsa]
  have d4 : w2.cell? ⟨ga, 4, none⟩ = some (.int .i64 v.c) := by rw [b2.cell, Ver.cells_c hv]
  have d5 : w2.cell? ⟨ga, 5, none⟩ = some (.string sa) := by rw [b2.cell, Ver.cells_t hv, hsa]
  have l1 := b1.lt
  have l2 := b2.lt
  have hsz : sa.size = v.t.length := by rw [hsa, bl_size]
  have hda : sa.data.toList = v.t := by rw [hsa]
  have HSZ := Lib.hid hsz
  have HDA := Lib.hid hda
  have HSA := Lib.hid hsa
  have hs63 : sa.size ≤ 140737488355328 := by omega
  have HW1 := Lib.hid hw1
  have HW2 := Lib.hid hw2
  have HGA := Lib.hid hga
  have HGB := Lib.hid hgb
  obtain ⟨RES, hRES⟩ : ∃ RES, RES = v.may := ⟨_, rfl⟩
  have HRES := Lib.hid hRES
  rw [← hRES]
  obtain ⟨vc, hvc⟩ : ∃ vc, vc = v.c := ⟨_, rfl⟩
  rw [← hvc] at c4 d4 hw2
  have HW2 := Lib.hid hw2
  have HVC := Lib.hid hvc
  clear hw1 hw2 hga hgb b1 b2 b3 hv hsa hRES hvc hs hsz hda
  unfold Ver.val
  go_enter Tryz.func36, Tryz.ntmps36
  go_upto_region 1 with fail
  rw [← HW1.out, ← HGA.out]
  go_upto_region 2 with fail
  rw [← HW2.out, ← HGB.out]
  clear c4 c5
  obtain ⟨B, hB⟩ : ∃ B, B = !(decide (1 ≤ vc ∧ vc ≤ 4) && tagOk v.t) := ⟨_, rfl⟩
  have HBo := Lib.hid hB
  clear hB
  go_cut [26] (fun u wx => u = .bool B ∧ Hid (Below w2.heap.size w2 wx))
  case first =>
    go_wp2_with fail
    refine (within_ok vc 1 4 w2).mono ?_
    rintro e w' ⟨rfl, rfl⟩
    by_cases hc : 1 ≤ vc ∧ vc ≤ 4
    · rw [show decide (1 ≤ vc ∧ vc ≤ 4) = true from decide_eq_true hc]
      by_cases h12 : sa.size ≤ 12
      · obtain ⟨A, hA⟩ : ∃ A, A = v.t.all tagB := ⟨_, rfl⟩
        have hn : Hid (B = !A) := Lib.hid (by rw [HBo.out, decide_eq_true hc, hA]; unfold tagOk; rw [show decide (v.t.length ≤ 12) = true from decide_eq_true (by rw [← HSZ.out]; exact h12)]; simp)
        clear hc
        go_wp2_with fail
        refine (trim_ok sa (by omega) w2).mono ?_
        rintro e w3 ⟨rfl, hb3⟩
        have HB3 := Lib.hid hb3
        obtain ⟨st, hst⟩ : ∃ st, st = bl (Lib.trimS sa.data.toList tagSet) := ⟨_, rfl⟩
        rw [← hst]
        have hA2 : st.toList = [] ↔ A = true := by rw [hst, bl_toList, HDA.out, trim_tag, hA]
        clear hb3 hst hA
        cases A
        · have k1 : ¬ st.toList = [] := fun h => by have := hA2.1 h; cases this
          have k2 : st.toList.isEmpty = false := by simpa using k1
          clear hA2
          go_wp2_with fail
          go_meet
          exact ⟨by rw [hn.out]; rfl, HB3⟩
        · have k1 : st.toList = [] := hA2.2 rfl
          clear hA2
          go_wp2_with fail
          go_meet
          exact ⟨by rw [hn.out]; simp; omega, HB3⟩
      · have hn : Hid (B = true) := Lib.hid (by rw [HBo.out, decide_eq_true hc]; unfold tagOk; rw [show decide (v.t.length ≤ 12) = false from decide_eq_false (by rw [← HSZ.out]; exact h12)]; simp)
        clear hc
        go_wp2_with fail
        go_meet
        exact ⟨by rw [hn.out], Lib.hid (Below.refl _ _)⟩
    · rw [show decide (1 ≤ vc ∧ vc ≤ 4) = false from decide_eq_false hc]
      have hn : Hid (B = true) := Lib.hid (by rw [HBo.out, decide_eq_false hc]; simp)
      clear hc
      go_wp2_with fail
      go_meet
      exact ⟨by rw [hn.out], Lib.hid (Below.refl _ _)⟩
  case rest =>
    obtain ⟨rfl, HBW⟩ := hcut
    cases hb : B
    · have hB2 := HBo.out
      rw [hb] at hB2
      have hB3 : decide (1 ≤ vc ∧ vc ≤ 4) = true ∧ tagOk v.t = true := by
        cases h1 : decide (1 ≤ vc ∧ vc ≤ 4) <;> cases h2 : tagOk v.t <;> simp [h1, h2] at hB2 ⊢
      obtain ⟨hc1, hc4⟩ := of_decide_eq_true hB3.1
      obtain ⟨k, rfl⟩ : ∃ k : Nat, vc = (k : Int) := ⟨vc.toNat, by omega⟩
      have hk1 : 1 ≤ k := by omega
      have hk4 : k ≤ 4 := by omega
      have hkI : (k : Int) ≤ 4 := by omega
      have hk0 : 0 ≤ (k : Int) := by omega
      have HT := Lib.hid hB3.2
      have e1 := HBA.out.below' HBW.out
      have e2 := HBB.out.below' HBW.out
      have HE1 := Lib.hid e1
      have HE2 := Lib.hid e2
      have HBX : Hid (Below w.heap.size w wc) := Lib.hid (HB0.out.trans (HBW.out.mono HB0.out.size))
      have c4 : wc.cell? ⟨ga, 4, none⟩ = some (.int .i64 (k : Int)) := by rw [e1.cell, Ver.cells_c HV.out, ← HVC.out]
      have l3 := e1.lt
      clear hB2 hB3 e1 e2 hc1 hc4 d4 d5 hb
      go_wp2_with fail
      go_loopg [32] k (fun kq iv wr => ∃ i : Nat, iv = .int .i64 i ∧ i ≤ k ∧ kq = k - i ∧ Hid (Blk wr ga 38 v.cells) ∧ Hid (Blk wr gb 38 (v.upto i).cells) ∧ Hid (Below w.heap.size w wr) ∧ Hid (∀ j x, j < i → v.ns[j]? = some x → 0 ≤ x ∧ x ≤ 999999999))
      case atStart => exact ⟨0, rfl, by omega, rfl, HE1, HE2, HBX, Lib.hid (fun j x h => by omega)⟩
      case round =>
        obtain ⟨i, rfl, hi, rfl, R1, R2, RB, RP⟩ := hrel
        by_cases hlt : i < k
        · obtain ⟨x, hx⟩ : ∃ x, v.ns[i]? = some x := ⟨_, List.getElem?_eq_getElem (by have : v.ns.length = 4 := HV.out; omega)⟩
          have cx : wr.cell? ⟨ga, i, none⟩ = some (.int .i64 x) := by rw [R1.out.cell, Ver.cells_n hx]
          have l4 := R1.out.lt
          have l5 := R2.out.lt
          have fz := R2.out.frozen i
          have HX := Lib.hid hx
          clear hx
          go_wp2_with fail
          refine (within_ok x 0 999999999 wr).mono ?_
          rintro e w' ⟨rfl, rfl⟩
          by_cases hr : 0 ≤ x ∧ x ≤ 999999999
          · rw [show decide (0 ≤ x ∧ x ≤ 999999999) = true from decide_eq_true hr]
            obtain ⟨w4, hw4⟩ : ∃ w4, w4 = wr.setCell ⟨gb, i, none⟩ (.int .i64 x) := ⟨_, rfl⟩
            have q1 : Hid (Blk w4 ga 38 v.cells) := Lib.hid (by rw [hw4]; exact R1.out.far HGG.out.2.2 _)
            have q2 : Hid (Blk w4 gb 38 (v.upto (i + 1)).cells) := Lib.hid (by rw [hw4, ← Ver.upto_set HV.out HX.out]; exact R2.out.set_ i _)
            have q3 : Hid (Below w.heap.size w w4) := Lib.hid (by rw [hw4]; exact RB.out.setCell (p := ⟨gb, i, none⟩) HGG.out.2.1 _)
            have q4 : Hid (∀ j y, j < i + 1 → v.ns[j]? = some y → 0 ≤ y ∧ y ≤ 999999999) := Lib.hid (fun j y hj hy => by
              by_cases e : j = i
              · subst e; rw [HX.out] at hy; injection hy with hy; rw [← hy]; exact hr
              · exact RP.out j y (by omega) hy)
            have HW4 := Lib.hid hw4
            have hcx : ∃ u, wr.cell? ⟨gb, i, none⟩ = some u := ⟨_, by rw [R2.out.cell]; exact List.getElem?_eq_getElem (by have h4 := Ver.upto_ok HV.out (show i ≤ 4 by omega); have : (v.upto i).ns.length = 4 := h4; simp [Ver.cells, ints, this]; omega)⟩
            obtain ⟨uo, hcx⟩ := hcx
            clear hw4 hr R1 R2 RB RP
            go_wp2_with fail
            rw [← HW4.out]
            go_roundg (k - (i + 1))
            case measure => omega
            case rel => exact ⟨i + 1, by go_num, by omega, rfl, q1, q2, q3, q4⟩
          · rw [show decide (0 ≤ x ∧ x ≤ 999999999) = false from decide_eq_false hr]
            have hn : Hid (RES = false) := Lib.hid (by rw [HRES.out]; exact Ver.may_bad HX.out (by omega) hr)
            clear hr
            go_wp2_with fail
            go_ret
            exact ⟨by rw [hn.out]; rfl, RB.out⟩
        · obtain rfl : i = k := by omega
          have hn : Hid (RES = decide (v = v.upto i)) := Lib.hid (by rw [HRES.out]; exact Ver.may_eq HV.out HVC.out.symm hk1 hk4 HT.out RP.out)
          have hl1 := vload R1.out HV.out
          have hl2 := vload R2.out (Ver.upto_ok HV.out hk4)
          have heq := veql v (v.upto i) HV.out (Ver.upto_ok HV.out hk4) wr
          have HL1 := Lib.hid hl1
          have HL2 := Lib.hid hl2
          have HEQ := Lib.hid heq
          clear hl1 hl2 heq
          go_wp2_with (first | refine wpList_load_run rfl 38 (.tmp 1) rfl ga rfl _ HL1.out ?_ | refine wpList_load_run rfl 38 (.tmp 3) rfl gb rfl _ HL2.out ?_ | refine wpList_eql_run rfl 38 38 (.tmp 45) (.tmp 46) rfl _ _ rfl rfl (by kernel_rfl) _ HEQ.out ?_)
          go_ret
          exact ⟨by rw [hn.out]; rfl, RB.out⟩
    · have hn : Hid (RES = false) := Lib.hid (by
        rw [HRES.out]
        refine Ver.may_no ?_
        have := HBo.out
        rw [hb] at this
        by_cases h1 : 1 ≤ vc ∧ vc ≤ 4
        · rw [decide_eq_true h1] at this
          exact .inr (by simpa using this.symm)
        · rw [← HVC.out]; exact .inl h1)
      have HBX : Hid (Below w.heap.size w wc) := Lib.hid (HB0.out.trans (HBW.out.mono HB0.out.size))
      go_wp2_with fail
      go_ret
      exact ⟨by rw [hn.out]; rfl, HBX.out⟩
end Go.Proofs.YteeijjhgdplifaaGreatDoor
