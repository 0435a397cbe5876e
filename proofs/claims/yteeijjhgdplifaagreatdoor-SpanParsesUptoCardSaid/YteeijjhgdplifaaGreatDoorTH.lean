/- Spans: Has. -/
import Derived.Test.YteeijjhgdplifaaGreatDoorTA
import Derived.Test.YteeijjhgdplifaaGreatDoorSB
namespace Go.Proofs.YteeijjhgdplifaaGreatDoor
open Go.RowKit

theorem wpList_build_two {P : Program} {ops : Array Oper} {rest : List Oper} {o : Oper} {a : Act} {w : World} {Q : Exit → Act → World → Prop} (hg : o.guard = none) (t : TypeId) (i j : Nat) (x y : Operand) (ho : o.op = .build t #[(i, x), (j, y)]) (vx vy : Value) (hx : a.eval x = vx) (hy : a.eval y = vy) (cells : Array Value)
    (hf : P.built t [(i, vx), (j, vy)] = some cells)
    (h : wpList P ops Q rest (a.put o.dst (.agg cells)) w) : wpList P ops Q (o :: rest) a w :=
  wpList_build_run hg t _ ho cells (by simpa [hx, hy] using hf) h
set_option maxRecDepth 100000 in
set_option maxHeartbeats 2000000 in
theorem has_ok (B g : Nat) (cs : List Cut) (v : Ver) (hv : v.Ok) (hs : v.t.length ≤ 140737488355328) (hl : cs.length ≤ 1000000) (w : World) (hg : GT w) (h : SpAt w B g cs) : Calls Tryz.prog 17 #[sp0 g, v.val] w fun e w' => e = .returned (.bool (v.may && par cs ⟨1, v⟩)) ∧ Below w.heap.size w w' := by
  obtain ⟨w1, hw1⟩ : ∃ w1, w1 = w.alloc (.cells v.cells.toArray 38) := ⟨_, rfl⟩
  obtain ⟨g3, hg3⟩ : ∃ g3, g3 = w.heap.size := ⟨_, rfl⟩
  have hb1 : Below w.heap.size w w1 := by rw [hw1]; exact (Below.refl _ _).alloc (Nat.le_refl _) _
  have k1 : Blk w1 g3 38 v.cells := by rw [hw1, hg3]; exact Blk.new _ _ v.cells.toArray
  have HL1 := Lib.hid (vload k1 hv)
  have HGT : Hid (GT w1) := Lib.hid (hg.below hb1)
  have HV := Lib.hid hv
  have HSV := Lib.hid hs
  have HSP := Lib.hid (h.below hb1)
  have HK3 := Lib.hid k1
  have HB1 := Lib.hid hb1
  have HW1 := Lib.hid hw1
  have HG3 := Lib.hid hg3
  obtain ⟨t, ht⟩ : ∃ t : Cut, t = ⟨1, v⟩ := ⟨_, rfl⟩
  obtain ⟨P, hP⟩ : ∃ P, P = par cs t := ⟨_, rfl⟩
  obtain ⟨M, hM⟩ : ∃ M, M = v.may := ⟨_, rfl⟩
  rw [← ht, ← hP, ← hM]
  have HT : Hid t.Ok := Lib.hid (by rw [ht]; exact ok1 hv)
  have HTE := Lib.hid ht
  have HPD := Lib.hid hP
  have HMD := Lib.hid hM
  clear hw1 hg3 hb1 k1 hg hv hs h ht hP hM
  rw [show v.val = .agg v.cells.toArray from rfl]
  go_enter Tryz.func17, Tryz.ntmps17
  go_upto_region 1 with fail
  rw [← HW1.out, ← HG3.out]
  go_wp2_with (first | refine wpList_load_at rfl 38 (.tmp 3) rfl ⟨g3, 0, none⟩ rfl _ HL1.out ?_)
  refine (text_okT v HV.out HSV.out w1 HGT.out).mono ?_
  rintro e w2 ⟨rfl, hb2⟩
  have HSP2 := Lib.hid (HSP.out.below hb2)
  have HB2 : Hid (Below w.heap.size w w2) := Lib.hid (HB1.out.trans (hb2.mono HB1.out.size))
  have HK2 := Lib.hid (HK3.out.below' hb2)
  obtain ⟨T1, hT1⟩ : ∃ T1, T1 = bl (tv v).1 := ⟨_, rfl⟩
  obtain ⟨T2, hT2⟩ : ∃ T2, T2 = (tv v).2 := ⟨_, rfl⟩
  rw [← hT1, ← hT2]
  have HT2 := Lib.hid hT2
  clear hb2 HSP HK3 HL1 HGT hT1 hT2
  go_wp2_with fail
  refine (none_ok (sp0 g) false w2 HSP2.out.none).mono ?_
  rintro e w' ⟨rfl, rfl⟩
  cases hm : M with
  | false =>
    have h20 : T2 = 20 := by rw [HT2.out]; unfold tv; rw [← HMD.out, hm]; rfl
    subst h20
    have HM0 := Lib.hid hm
    clear hm
    go_wp2_with fail
    go_ret
    exact ⟨by rw [HM0.out]; rfl, HB2.out⟩
  | true =>
    have h20 : T2 = 0 := by rw [HT2.out]; unfold tv; rw [← HMD.out, hm]; rfl
    subst h20
    obtain ⟨hok, _, A, c, kb, ho, _⟩ := HSP2.out
    obtain ⟨n, hn⟩ : ∃ n, n = cs.length := ⟨_, rfl⟩
    have hsl := Sl.of_own ho
    rw [← hn] at kb hsl hl
    have c1 : w2.cell? ⟨g, 1, none⟩ = some (.slice A n c) := by rw [kb.cell]; rfl
    have l1 := kb.lt
    have HOK : Hid (Oks cs) := Lib.hid hok
    have HSL := Lib.hid hsl
    have HN := Lib.hid hn
    have H0 : Hid (Below w2.heap.size w2 w2) := Lib.hid (Below.refl _ _)
    have HC0 : Hid (cnt (cs.take 0) t = 0) := Lib.hid rfl
    have HI7 : Hid ((Tryz.prog.info? 57).map (·.size) = some 7) := Lib.hid (by kernel_rfl)
    have HBT : Hid (Tryz.prog.built 57 [(0, .int .i64 1), (1, .agg v.cells.toArray)] = some t.cells.toArray) := Lib.hid (by rw [HTE.out]; exact built_cut 1 HV.out)
    have HM0 := Lib.hid hm
    clear hm hok kb ho hn hsl
    go_wp2_with fail
    go_loopg [26, 7] n (fun kq iv nv wr => ∃ i m : Nat, iv = .int .i64 i ∧ nv = .int .i64 m ∧ i ≤ n ∧ m ≤ i ∧ kq = n - i ∧ Hid (cnt (cs.take i) t = m) ∧ Hid (Below w2.heap.size w2 wr))
    case atStart => exact ⟨0, 0, rfl, rfl, Nat.zero_le _, Nat.le_refl _, rfl, HC0, H0⟩
    case round =>
    clear HC0 H0 c1 l1
    obtain ⟨i, m, rfl, rfl, hi, hm, rfl, HCN, HB⟩ := hrel
    by_cases hlt : i < n
    · have hltI : (i : Int) < (n : Int) := by omega
      have hi0 : 0 ≤ (i : Int) := by omega
      obtain ⟨b, o, rfl, hrd⟩ := creads_of HOK.out HSL.out (by omega)
      obtain ⟨x, hx⟩ : ∃ x, cs[i]? = some x := ⟨_, List.getElem?_eq_getElem (by have := HN.out; omega)⟩
      have LX := Lib.hid (hrd wr HB.out i x hx)
      have HXO : Hid x.Ok := Lib.hid (HOK.out x (List.mem_of_getElem? hx))
      have hcs := cnt_snoc cs t hx
      rw [HCN.out] at hcs
      obtain ⟨g7, hg7⟩ : ∃ g7, g7 = wr.heap.size := ⟨_, rfl⟩
      obtain ⟨w3, hw3⟩ : ∃ w3, w3 = (wr.alloc (.cells #[.int .i64 0, .int .i64 0, .int .i64 0, .int .i64 0, .int .i64 0, .int .i64 0, .string ⟨#[]⟩] 57)).setRow g7 x.cells.toArray := ⟨_, rfl⟩
      have q2 := laid_cut wr x
      have bb2 : Below wr.heap.size wr w3 := by rw [hw3, hg7]; exact q2.2
      have k7 : Blk w3 g7 57 x.cells := by rw [hw3, hg7]; exact q2.1
      have HZ2 : Hid ((wr.alloc (.cells #[.int .i64 0, .int .i64 0, .int .i64 0, .int .i64 0, .int .i64 0, .int .i64 0, .string ⟨#[]⟩] 57)).heap[g7]? = some (.cells (⟨0, Ver.zero⟩ : Cut).cells.toArray 57 (0, 0))) := Lib.hid (by rw [hg7]; exact heap_alloc_new _ _)
      have L7 := Lib.hid (cload k7 HXO.out)
      have L3 := Lib.hid (vload (HK2.out.below' (HB.out.trans (bb2.mono HB.out.size))) HV.out)
      have HIX : Hid ((Tryz.prog.info? 57).map (·.size) = some x.cells.toArray.size) := Lib.hid (by rw [List.size_toArray, Cut.cells_len HXO.out]; exact HI7.out)
      have HZX : Hid ((⟨0, Ver.zero⟩ : Cut).cells.toArray.size = x.cells.toArray.size) := Lib.hid (by rw [show x.cells.toArray.size = 7 from by rw [List.size_toArray, Cut.cells_len HXO.out]]; rfl)
      have HONE : Hid (x.cells.toArray.all (·.oneCell') = true) := Lib.hid (by
        rw [Array.all_eq_true_iff_forall_mem]
        exact fun v hv => cut_one1 x v (by simpa using hv))
      have HB3 : Hid (Below w2.heap.size w2 w3) := Lib.hid (HB.out.trans (bb2.mono HB.out.size))
      have HCS := Lib.hid hcs
      have HG7 := Lib.hid hg7
      have HW3 := Lib.hid hw3
      clear hrd hx hcs hg7 hw3 q2 bb2 k7 HB
      go_upto_region 8 with (first | refine wpList_load_at rfl 57 (.tmp 28) rfl ⟨b, o + i * 7, none⟩ rfl _ LX.out ?_ | refine wpList_store_row rfl 57 (.tmp 9) (.tmp 29) rfl g7 x.cells.toArray (by rw [HG7.out]; rfl) rfl _ _ HZ2.out HIX.out HZX.out HONE.out ?_)
      rw [← HG7.out, ← HW3.out]
      go_wp2_with (first | refine wpList_load_at rfl 57 (.tmp 9) rfl ⟨g7, 0, none⟩ rfl _ L7.out ?_ | refine wpList_load_at rfl 38 (.tmp 3) rfl ⟨g3, 0, none⟩ rfl _ L3.out ?_ | refine wpList_build_two rfl 57 0 1 _ _ rfl _ _ rfl rfl _ HBT.out ?_)
      refine (cutCmp_ok x t HXO.out HT.out w3).mono ?_
      rintro e w4 ⟨rfl, hb4⟩
      have HB4 : Hid (Below w2.heap.size w2 w4) := Lib.hid (HB3.out.trans (hb4.mono HB3.out.size))
      obtain ⟨C, hC⟩ : ∃ C, C = x.cmp t := ⟨_, rfl⟩
      rw [← hC]
      have HCC := Lib.hid hC
      clear hb4 hC
      by_cases h0 : C ≤ 0
      · have HN1 : Hid (cnt (cs.take (i + 1)) t = m + 1) := Lib.hid (by rw [HCS.out, if_pos ((cle_iff _ _).2 (by rw [← HCC.out]; exact h0))])
        go_wp2_with fail
        go_roundg (n - (i + 1))
        case measure => omega
        case rel => exact ⟨i + 1, m + 1, by go_num, by go_num, by omega, by omega, rfl, HN1, HB4⟩
      · have h0n : ¬ C ≤ 0 := h0
        have HN1 : Hid (cnt (cs.take (i + 1)) t = m) := Lib.hid (by rw [HCS.out, if_neg (by rw [cle_iff, ← HCC.out]; exact h0)]; rfl)
        go_wp2_with fail
        go_roundg (n - (i + 1))
        case measure => omega
        case rel => exact ⟨i + 1, m, by go_num, rfl, by omega, by omega, rfl, HN1, HB4⟩
    · obtain rfl : i = n := by omega
      have hni : ¬ (i : Int) < (i : Int) := by omega
      have hP := HPD.out
      have hcn := HCN.out
      rw [List.take_of_length_le (by have := HN.out; omega)] at hcn
      have HP : Hid (P = decide (m % 2 = 1)) := Lib.hid (by rw [hP, par_cnt, hcn])
      have HEND : Hid (Below w.heap.size w wr) := Lib.hid (HB2.out.trans (HB.out.mono HB2.out.size))
      clear hP hcn HB
      rcases Nat.mod_two_eq_zero_or_one m with hm2 | hm2
      · have e1 : (m : Int) % 2 = 0 := by omega
        have HP0 : Hid (P = false) := Lib.hid (by rw [HP.out, hm2]; rfl)
        have hm0 : 0 ≤ (m : Int) := by omega
        clear HP hm2
        go_wp2_with fail
        go_ret
        exact ⟨by rw [HM0.out, HP0.out]; rfl, HEND.out⟩
      · have e1 : (m : Int) % 2 = 1 := by omega
        have HP0 : Hid (P = true) := Lib.hid (by rw [HP.out, hm2]; rfl)
        have hm0 : 0 ≤ (m : Int) := by omega
        clear HP hm2
        go_wp2_with fail
        go_ret
        exact ⟨by rw [HM0.out, HP0.out]; rfl, HEND.out⟩
end Go.Proofs.YteeijjhgdplifaaGreatDoor
