/- Spans: piece, walked. -/
import Derived.Test.YteeijjhgdplifaaGreatDoorTP
namespace Go.Proofs.YteeijjhgdplifaaGreatDoor
open Go.RowKit

theorem wpListw_cv {P : Program} {ops : Array Oper} {rest : List Oper} {o : Oper} {a : Act} {w : World} {Q : Exit → Act → World → Prop} (hw : Region.wanted o (yielded ops a.tmps) = true) (ty : TypeId) (x : Operand) (ho : o.op = .load ty x) (p : Addr) (hx : a.eval x = .pointer (some p)) (v : Value)
    (hr : (loadVar ty p).run P w = .ok v w) (h : wpList P ops Q rest (a.put o.dst v) w) : wpList P ops Q (o :: rest) a w :=
  BigFrame.wpList_want hw fun _ hK => wp_load_at ty x ho p hx v hr (hK _ _ h)
theorem wpListw_eq {P : Program} {ops : Array Oper} {rest : List Oper} {o : Oper} {a : Act} {w : World} {Q : Exit → Act → World → Prop} (hw : Region.wanted o (yielded ops a.tmps) = true) (t ty : TypeId) (x y : Operand) (ho : o.op = .binOp .eql t x y ty) (xs ys : Array Value) (hx : a.eval x = .agg xs) (hy : a.eval y = .agg ys)
    (hg : P.eqGuardType P.depth t = false) (r : Bool) (hr : (Op.equalIn 10000 t (.agg xs) (.agg ys)).run P w = .ok r w) (h : wpList P ops Q rest (a.put o.dst (.bool r)) w) : wpList P ops Q (o :: rest) a w :=
  BigFrame.wpList_want hw fun _ hK => wp_eql_run t ty x y ho xs ys hx hy hg r hr (hK _ _ h)
set_option maxRecDepth 100000 in
set_option maxHeartbeats 8000000 in
theorem piece_ok (a b : Cut) (ha : a.Ok) (hb : b.Ok) (hta : a.v.t.length ≤ 140737488355328) (htb : b.v.t.length ≤ 140737488355328) (w : World) (hg : GT w) : Calls Tryz.prog 39 #[.agg a.cells.toArray, .agg b.cells.toArray] w fun e w' => e = .returned (.string (bl (pieceP a b))) ∧ Below w.heap.size w w' := by
  obtain ⟨w1, hw1⟩ : ∃ w1, w1 = w.alloc (.cells a.cells.toArray 57) := ⟨_, rfl⟩
  obtain ⟨w2, hw2⟩ : ∃ w2, w2 = w1.alloc (.cells b.cells.toArray 57) := ⟨_, rfl⟩
  obtain ⟨g2, hg2⟩ : ∃ g2, g2 = w.heap.size := ⟨_, rfl⟩
  obtain ⟨g3, hg3⟩ : ∃ g3, g3 = g2 + 1 := ⟨_, rfl⟩
  have hb1 : Below w.heap.size w w1 := by rw [hw1]; exact (Below.refl _ _).alloc (Nat.le_refl _) _
  have hb2 : Below w1.heap.size w1 w2 := by rw [hw2]; exact (Below.refl _ _).alloc (Nat.le_refl _) _
  have k1 : Blk w1 g2 57 a.cells := by rw [hw1, hg2]; exact Blk.new _ _ a.cells.toArray
  have k2 : Blk w2 g2 57 a.cells := k1.below' hb2
  have k3 : Blk w2 g3 57 b.cells := by
    have e : g3 = w1.heap.size := by rw [hg3, hg2, hw1]; simp
    rw [hw2, e]; exact Blk.new _ _ b.cells.toArray
  have K2 := Lib.hid k2
  have K3 := Lib.hid k3
  have HB2 : Hid (Below w.heap.size w w2) := Lib.hid (hb1.trans (hb2.mono hb1.size))
  have HLA : Hid (∀ wI, Below w2.heap.size w2 wI → (loadVar 38 ⟨g2, 1, none⟩).run Tryz.prog wI = .ok (.agg a.v.cells.toArray) wI) := Lib.hid (fun wI hb => cvload (k2.below' hb) ha)
  have HLB : Hid (∀ wI, Below w2.heap.size w2 wI → (loadVar 38 ⟨g3, 1, none⟩).run Tryz.prog wI = .ok (.agg b.v.cells.toArray) wI) := Lib.hid (fun wI hh => cvload (k3.below' hh) hb)
  obtain ⟨x, hx⟩ : ∃ x, x = (tv a.v).1 := ⟨_, rfl⟩
  obtain ⟨y, hy⟩ : ∃ y, y = (tv b.v).1 := ⟨_, rfl⟩
  obtain ⟨SX, hSX⟩ : ∃ SX, SX = bl x := ⟨_, rfl⟩
  obtain ⟨SY, hSY⟩ : ∃ SY, SY = bl y := ⟨_, rfl⟩
  have hxl : x.length ≤ 60 := by rw [hx]; exact tv_len ha.1
  have hyl : y.length ≤ 60 := by rw [hy]; exact tv_len hb.1
  have hzx : SX.size ≤ 60 := by rw [hSX, bl_size]; exact hxl
  have hzy : SY.size ≤ 60 := by rw [hSY, bl_size]; exact hyl
  obtain ⟨Ea, hEa⟩ : ∃ E, E = (tv a.v).2 := ⟨_, rfl⟩
  obtain ⟨Eb, hEb⟩ : ∃ E, E = (tv b.v).2 := ⟨_, rfl⟩
  have HTA : Hid (∀ wI, Below w2.heap.size w2 wI → Calls Tryz.prog 20 #[.agg a.v.cells.toArray] wI fun e w' => e = .returned (.tuple #[.string SX, .int .i64 Ea]) ∧ Below w2.heap.size w2 w') := Lib.hid (fun wI hh => by
    rw [hSX, hx, hEa]
    exact (text_okT a.v ha.1 hta wI (hg.below (HB2.out.trans (hh.mono HB2.out.size)))).mono fun e w' h => ⟨h.1, hh.trans (h.2.mono hh.size)⟩)
  have HTB : Hid (∀ wI, Below w2.heap.size w2 wI → Calls Tryz.prog 20 #[.agg b.v.cells.toArray] wI fun e w' => e = .returned (.tuple #[.string SY, .int .i64 Eb]) ∧ Below w2.heap.size w2 w') := Lib.hid (fun wI hh => by
    rw [hSY, hy, hEb]
    exact (text_okT b.v hb.1 htb wI (hg.below (HB2.out.trans (hh.mono HB2.out.size)))).mono fun e w' h => ⟨h.1, hh.trans (h.2.mono hh.size)⟩)
  have HEQ : Hid (∀ wI, (Op.equalIn 10000 38 (.agg a.v.cells.toArray) (.agg b.v.cells.toArray)).run Tryz.prog wI = .ok (decide (a.v = b.v)) wI) := Lib.hid (fun wI => veql a.v b.v ha.1 hb.1 wI)
  obtain ⟨P, hP⟩ : ∃ P, P = pieceP a b := ⟨_, rfl⟩
  have HPL : Hid (¬ (a.a = 1 ∧ b.a = 2 ∧ a.v = b.v) → P.length ≤ 200) := Lib.hid (fun hne => by
    rw [hP]; unfold pieceP; rw [if_neg hne]
    split
    · decide
    · exact lowHigh_len ha hb 44)
  rw [← hP]
  have HP := Lib.hid hP
  have HXE := Lib.hid hx.symm
  have HYE := Lib.hid hy.symm
  have HSX := Lib.hid hSX
  have HSY := Lib.hid hSY
  have HSXL := Lib.hid hxl
  have HSYL := Lib.hid hyl
  have HW1 := Lib.hid hw1
  have HW2 := Lib.hid hw2
  have HG2 := Lib.hid hg2
  have HG3 := Lib.hid hg3
  clear hw1 hw2 hg2 hg3 hb1 hb2 k1 k2 k3 hx hy hSX hSY hxl hyl hEa hEb hP ha hb hta htb hg
  go_enter Tryz.func39, Tryz.ntmps39
  go_upto_region 1 with fail
  rw [← HW1.out, ← HW2.out, ← HG2.out, ← HG3.out]
  go_wp2_with (refine wpList_load_at rfl 38 (.tmp 11) rfl ⟨g2, 1, none⟩ rfl _ (HLA.out w2 (Below.refl _ _)) ?_)
  refine (HTA.out w2 (Below.refl _ _)).mono ?_
  rintro e w3 ⟨rfl, hb3⟩
  have HB3 := Lib.hid hb3
  clear hb3
  go_wp2_with (refine wpList_load_at rfl 38 (.tmp 17) rfl ⟨g3, 1, none⟩ rfl _ (HLB.out w3 HB3.out) ?_)
  refine (HTB.out w3 HB3.out).mono ?_
  rintro e wb ⟨rfl, hb4⟩
  have HB4 := Lib.hid hb4
  have HBW : Hid (Below w.heap.size w wb) := Lib.hid (HB2.out.trans (hb4.mono HB2.out.size))
  have HBBwb : Hid (Below wb.heap.size wb wb) := Lib.hid (Below.refl _ _)
  have cA : wb.cell? ⟨g2, 0, none⟩ = some (.int .i64 a.a) := by rw [(K2.out.below' hb4).cell]; rfl
  have cB : wb.cell? ⟨g3, 0, none⟩ = some (.int .i64 b.a) := by rw [(K3.out.below' hb4).cell]; rfl
  have lA := (K2.out.below' hb4).lt
  have lB := (K3.out.below' hb4).lt
  have LAw := Lib.hid (HLA.out wb hb4)
  have LBw := Lib.hid (HLB.out wb hb4)
  clear hb4 HTA HTB HLA HLB HB3 K2 K3
  by_cases hsame : a.a = 1 ∧ b.a = 2 ∧ a.v = b.v
  · obtain ⟨h1, h2, h3⟩ := hsame
    have HEW : Hid ((Op.equalIn 10000 38 (.agg a.v.cells.toArray) (.agg b.v.cells.toArray)).run Tryz.prog wb = .ok true wb) := Lib.hid (by rw [HEQ.out wb, decide_eq_true h3])
    have HPC : Hid (P = 61 :: x) := Lib.hid (by rw [HP.out]; unfold pieceP; rw [if_pos ⟨h1, h2, h3⟩, HXE.out])
    rw [h1] at cA
    rw [h2] at cB
    obtain ⟨SL, hSL⟩ : ∃ S, S = bl (61 :: x) := ⟨_, rfl⟩
    have eSL : (({ data := #[61] } : ByteArray) ++ SX) = SL := by rw [hSL, HSX.out, show (({ data := #[61] } : ByteArray)) = bl [61] from rfl, bl_app]; rfl
    have zSL : SL.size ≤ 1000 := by rw [hSL, bl_size]; have := HSXL.out; simp only [List.length_cons]; omega
    have HSLN := Lib.hid hSL
    clear h1 h2 h3 hSL
    go_wp2_with (first | refine wpListw_cv rfl 38 (.tmp 31) rfl ⟨g2, 1, none⟩ rfl _ LAw.out ?_ | refine wpListw_cv rfl 38 (.tmp 33) rfl ⟨g3, 1, none⟩ rfl _ LBw.out ?_ | refine wpListw_eq rfl 38 _ (.tmp 32) (.tmp 34) rfl _ _ rfl rfl (by kernel_rfl) _ HEW.out ?_)
    go_ret
    exact ⟨by rw [HPC.out, ← HSLN.out]; rfl, HBW.out⟩
  have HPL2 : Hid (P.length ≤ 200) := Lib.hid (HPL.out hsame)
  have HNE : Hid (pieceP a b = if lowT a ++ highT b = [] then [42] else Lib.join (lowT a ++ highT b) [44]) := Lib.hid (by unfold pieceP; rw [if_neg hsame])
  clear HPL
  have HPL := HPL2
  by_cases h12 : a.a = 1 ∧ b.a = 2
  · obtain ⟨haI, hbI⟩ := h12
    have HEW : Hid ((Op.equalIn 10000 38 (.agg a.v.cells.toArray) (.agg b.v.cells.toArray)).run Tryz.prog wb = .ok false wb) := Lib.hid (by rw [HEQ.out wb, decide_eq_false (fun h => hsame ⟨haI, hbI, h⟩)])
    clear hsame
    rw [haI] at cA
    rw [hbI] at cB
    obtain ⟨SL, hSL⟩ : ∃ S, S = bl (62 :: 61 :: x) := ⟨_, rfl⟩
    have eSL : (({ data := #[62, 61] } : ByteArray) ++ SX) = SL := by rw [hSL, HSX.out, show (({ data := #[62, 61] } : ByteArray)) = bl [62, 61] from rfl, bl_app]; rfl
    have zSL : SL.size ≤ 1000 := by rw [hSL, bl_size]; have := HSXL.out; simp only [List.length_cons]; omega
    obtain ⟨A1, c1, wl, hap, hrow, hbn⟩ := (SRow.nil_ wb wb.heap.size).push HBBwb.out SL (62 :: 61 :: x) hSL (by decide)
    have HAPlow := Lib.hid hap
    have HRWwl : Hid (SRow wl wb.heap.size A1 c1 1 ([] ++ [62 :: 61 :: x])) := Lib.hid hrow
    have HBBwl := Lib.hid hbn
    have cBwl := (hbn.cell (p := ⟨g3, 0, none⟩) (World.block_lt_of_cell? _ _ cB)).trans cB
    have lBwl : g3 < wl.heap.size := World.block_lt_of_cell? _ _ cBwl
    clear hSL hap hrow hbn
    obtain ⟨SH, hSH⟩ : ∃ S, S = bl (60 :: 61 :: y) := ⟨_, rfl⟩
    have eSH : (({ data := #[60, 61] } : ByteArray) ++ SY) = SH := by rw [hSH, HSY.out, show (({ data := #[60, 61] } : ByteArray)) = bl [60, 61] from rfl, bl_app]; rfl
    have zSH : SH.size ≤ 1000 := by rw [hSH, bl_size]; have := HSYL.out; simp only [List.length_cons]; omega
    obtain ⟨A2, c2, wh, hap, hrow, hbn⟩ := (HRWwl.out).push HBBwl.out SH (60 :: 61 :: y) hSH (by decide)
    have HAPhigh := Lib.hid hap
    have HRWwh : Hid (SRow wh wb.heap.size A2 c2 2 ([] ++ [62 :: 61 :: x] ++ [60 :: 61 :: y])) := Lib.hid hrow
    have HBBwh := Lib.hid hbn
    have cBwh := (hbn.cell (p := ⟨g3, 0, none⟩) (World.block_lt_of_cell? _ _ cB)).trans cB
    have lBwh : g3 < wh.heap.size := World.block_lt_of_cell? _ _ cBwh
    clear hSH hap hrow hbn
    have HLO : Hid (lowT a = [62 :: 61 :: x]) := Lib.hid (by unfold lowT; rw [if_pos haI, HXE.out])
    have HHI : Hid (highT b = [60 :: 61 :: y]) := Lib.hid (by unfold highT; rw [if_neg (show ¬ b.a = 1 by omega), if_pos hbI, HYE.out])
    have HPC : Hid (P = Lib.join (([] ++ [62 :: 61 :: x]) ++ [60 :: 61 :: y]) [44]) := Lib.hid (by rw [HP.out, HNE.out, HLO.out, HHI.out]; rfl)
    have HJ := Lib.hid (SRow.join HRWwh.out (by decide) [44] (by rw [← HPC.out]; have := HPL.out; omega))
    have HBE : Hid (Below w.heap.size w wh) := Lib.hid (HBW.out.trans (HBBwh.out.mono HBW.out.size))
    go_wp2_with (first | refine wpListw_cv rfl 38 (.tmp 31) rfl ⟨g2, 1, none⟩ rfl _ LAw.out ?_ | refine wpListw_cv rfl 38 (.tmp 33) rfl ⟨g3, 1, none⟩ rfl _ LBw.out ?_ | refine wpListw_eq rfl 38 _ (.tmp 32) (.tmp 34) rfl _ _ rfl rfl (by kernel_rfl) _ HEW.out ?_ | (at_builtin; refine wpList_app_run _ rfl (.tmp 43) (.tmp 46) 48 48 rfl _ _ rfl rfl _ _ HAPlow.out ?_) | (at_builtin; refine wpList_app_run _ rfl (.tmp 66) (.tmp 69) 48 48 rfl _ _ rfl rfl _ _ HAPhigh.out ?_))
    refine HJ.out.mono ?_
    rintro e w9 ⟨rfl, hb9⟩
    have HB9 : Hid (Below w.heap.size w w9) := Lib.hid (HBE.out.trans (hb9.mono HBE.out.size))
    rw [← HPC.out]
    clear hb9
    go_wp2_with fail
    go_ret
    exact ⟨rfl, HB9.out⟩
  have hn12 : ¬ (a.a = 1 ∧ b.a = 2) := h12
  clear hsame h12
  by_cases ha1 : a.a = 1
  · have haI := ha1
    rw [ha1] at cA
    by_cases hb1 : b.a = 1
    · have hbI := hb1
      rw [hb1] at cB
      obtain ⟨SL, hSL⟩ : ∃ S, S = bl (62 :: 61 :: x) := ⟨_, rfl⟩
      have eSL : (({ data := #[62, 61] } : ByteArray) ++ SX) = SL := by rw [hSL, HSX.out, show (({ data := #[62, 61] } : ByteArray)) = bl [62, 61] from rfl, bl_app]; rfl
      have zSL : SL.size ≤ 1000 := by rw [hSL, bl_size]; have := HSXL.out; simp only [List.length_cons]; omega
      obtain ⟨A1, c1, wl, hap, hrow, hbn⟩ := (SRow.nil_ wb wb.heap.size).push HBBwb.out SL (62 :: 61 :: x) hSL (by decide)
      have HAPlow := Lib.hid hap
      have HRWwl : Hid (SRow wl wb.heap.size A1 c1 1 ([] ++ [62 :: 61 :: x])) := Lib.hid hrow
      have HBBwl := Lib.hid hbn
      have cBwl := (hbn.cell (p := ⟨g3, 0, none⟩) (World.block_lt_of_cell? _ _ cB)).trans cB
      have lBwl : g3 < wl.heap.size := World.block_lt_of_cell? _ _ cBwl
      clear hSL hap hrow hbn
      obtain ⟨SH, hSH⟩ : ∃ S, S = bl (60 :: y) := ⟨_, rfl⟩
      have eSH : (({ data := #[60] } : ByteArray) ++ SY) = SH := by rw [hSH, HSY.out, show (({ data := #[60] } : ByteArray)) = bl [60] from rfl, bl_app]; rfl
      have zSH : SH.size ≤ 1000 := by rw [hSH, bl_size]; have := HSYL.out; simp only [List.length_cons]; omega
      obtain ⟨A2, c2, wh, hap, hrow, hbn⟩ := (HRWwl.out).push HBBwl.out SH (60 :: y) hSH (by decide)
      have HAPhigh := Lib.hid hap
      have HRWwh : Hid (SRow wh wb.heap.size A2 c2 2 ([] ++ [62 :: 61 :: x] ++ [60 :: y])) := Lib.hid hrow
      have HBBwh := Lib.hid hbn
      have cBwh := (hbn.cell (p := ⟨g3, 0, none⟩) (World.block_lt_of_cell? _ _ cB)).trans cB
      have lBwh : g3 < wh.heap.size := World.block_lt_of_cell? _ _ cBwh
      clear hSH hap hrow hbn
      have HLO : Hid (lowT a = [62 :: 61 :: x]) := Lib.hid (by unfold lowT; rw [if_pos haI, HXE.out])
      have HHI : Hid (highT b = [60 :: y]) := Lib.hid (by unfold highT; rw [if_pos hbI, HYE.out])
      have HPC : Hid (P = Lib.join (([] ++ [62 :: 61 :: x]) ++ [60 :: y]) [44]) := Lib.hid (by rw [HP.out, HNE.out, HLO.out, HHI.out]; rfl)
      have HJ := Lib.hid (SRow.join HRWwh.out (by decide) [44] (by rw [← HPC.out]; have := HPL.out; omega))
      have HBE : Hid (Below w.heap.size w wh) := Lib.hid (HBW.out.trans (HBBwh.out.mono HBW.out.size))
      go_wp2_with (first | (at_builtin; refine wpList_app_run _ rfl (.tmp 43) (.tmp 46) 48 48 rfl _ _ rfl rfl _ _ HAPlow.out ?_) | (at_builtin; refine wpList_app_run _ rfl (.tmp 59) (.tmp 62) 48 48 rfl _ _ rfl rfl _ _ HAPhigh.out ?_))
      refine HJ.out.mono ?_
      rintro e w9 ⟨rfl, hb9⟩
      have HB9 : Hid (Below w.heap.size w w9) := Lib.hid (HBE.out.trans (hb9.mono HBE.out.size))
      rw [← HPC.out]
      clear hb9
      go_wp2_with fail
      go_ret
      exact ⟨rfl, HB9.out⟩
    · by_cases hb2 : b.a = 2
      · exact absurd ⟨ha1, hb2⟩ hn12
      · have hbI := hb2
        obtain ⟨kb, hkb⟩ : ∃ kb, kb = b.a := ⟨_, rfl⟩
        have nb1 : ¬ kb = 1 := by omega
        have nb2 : ¬ kb = 2 := by omega
        have mb1 : (kb == 1) = false := by simpa using nb1
        have mb2 : (kb == 2) = false := by simpa using nb2
        rw [← hkb] at cB
        have HKB := Lib.hid hkb
        clear hkb
        obtain ⟨SL, hSL⟩ : ∃ S, S = bl (62 :: 61 :: x) := ⟨_, rfl⟩
        have eSL : (({ data := #[62, 61] } : ByteArray) ++ SX) = SL := by rw [hSL, HSX.out, show (({ data := #[62, 61] } : ByteArray)) = bl [62, 61] from rfl, bl_app]; rfl
        have zSL : SL.size ≤ 1000 := by rw [hSL, bl_size]; have := HSXL.out; simp only [List.length_cons]; omega
        obtain ⟨A1, c1, wl, hap, hrow, hbn⟩ := (SRow.nil_ wb wb.heap.size).push HBBwb.out SL (62 :: 61 :: x) hSL (by decide)
        have HAPlow := Lib.hid hap
        have HRWwl : Hid (SRow wl wb.heap.size A1 c1 1 ([] ++ [62 :: 61 :: x])) := Lib.hid hrow
        have HBBwl := Lib.hid hbn
        have cBwl := (hbn.cell (p := ⟨g3, 0, none⟩) (World.block_lt_of_cell? _ _ cB)).trans cB
        have lBwl : g3 < wl.heap.size := World.block_lt_of_cell? _ _ cBwl
        clear hSL hap hrow hbn
        have HLO : Hid (lowT a = [62 :: 61 :: x]) := Lib.hid (by unfold lowT; rw [if_pos haI, HXE.out])
        have HHI : Hid (highT b = []) := Lib.hid (by unfold highT; rw [if_neg (show ¬ b.a = 1 by omega), if_neg (show ¬ b.a = 2 by omega)])
        have HPC : Hid (P = Lib.join ([] ++ [62 :: 61 :: x]) [44]) := Lib.hid (by rw [HP.out, HNE.out, HLO.out, HHI.out]; rfl)
        have HJ := Lib.hid (SRow.join HRWwl.out (by decide) [44] (by rw [← HPC.out]; have := HPL.out; omega))
        have HBE : Hid (Below w.heap.size w wl) := Lib.hid (HBW.out.trans (HBBwl.out.mono HBW.out.size))
        go_wp2_with ((at_builtin; refine wpList_app_run _ rfl (.tmp 43) (.tmp 46) 48 48 rfl _ _ rfl rfl _ _ HAPlow.out ?_))
        refine HJ.out.mono ?_
        rintro e w9 ⟨rfl, hb9⟩
        have HB9 : Hid (Below w.heap.size w w9) := Lib.hid (HBE.out.trans (hb9.mono HBE.out.size))
        rw [← HPC.out]
        clear hb9
        go_wp2_with fail
        go_ret
        exact ⟨rfl, HB9.out⟩
  · by_cases ha2 : a.a = 2
    · have haI := ha2
      rw [ha2] at cA
      by_cases hb1 : b.a = 1
      · have hbI := hb1
        rw [hb1] at cB
        obtain ⟨SL, hSL⟩ : ∃ S, S = bl (62 :: x) := ⟨_, rfl⟩
        have eSL : (({ data := #[62] } : ByteArray) ++ SX) = SL := by rw [hSL, HSX.out, show (({ data := #[62] } : ByteArray)) = bl [62] from rfl, bl_app]; rfl
        have zSL : SL.size ≤ 1000 := by rw [hSL, bl_size]; have := HSXL.out; simp only [List.length_cons]; omega
        obtain ⟨A1, c1, wl, hap, hrow, hbn⟩ := (SRow.nil_ wb wb.heap.size).push HBBwb.out SL (62 :: x) hSL (by decide)
        have HAPlow := Lib.hid hap
        have HRWwl : Hid (SRow wl wb.heap.size A1 c1 1 ([] ++ [62 :: x])) := Lib.hid hrow
        have HBBwl := Lib.hid hbn
        have cBwl := (hbn.cell (p := ⟨g3, 0, none⟩) (World.block_lt_of_cell? _ _ cB)).trans cB
        have lBwl : g3 < wl.heap.size := World.block_lt_of_cell? _ _ cBwl
        clear hSL hap hrow hbn
        obtain ⟨SH, hSH⟩ : ∃ S, S = bl (60 :: y) := ⟨_, rfl⟩
        have eSH : (({ data := #[60] } : ByteArray) ++ SY) = SH := by rw [hSH, HSY.out, show (({ data := #[60] } : ByteArray)) = bl [60] from rfl, bl_app]; rfl
        have zSH : SH.size ≤ 1000 := by rw [hSH, bl_size]; have := HSYL.out; simp only [List.length_cons]; omega
        obtain ⟨A2, c2, wh, hap, hrow, hbn⟩ := (HRWwl.out).push HBBwl.out SH (60 :: y) hSH (by decide)
        have HAPhigh := Lib.hid hap
        have HRWwh : Hid (SRow wh wb.heap.size A2 c2 2 ([] ++ [62 :: x] ++ [60 :: y])) := Lib.hid hrow
        have HBBwh := Lib.hid hbn
        have cBwh := (hbn.cell (p := ⟨g3, 0, none⟩) (World.block_lt_of_cell? _ _ cB)).trans cB
        have lBwh : g3 < wh.heap.size := World.block_lt_of_cell? _ _ cBwh
        clear hSH hap hrow hbn
        have HLO : Hid (lowT a = [62 :: x]) := Lib.hid (by unfold lowT; rw [if_neg (show ¬ a.a = 1 by omega), if_pos haI, HXE.out])
        have HHI : Hid (highT b = [60 :: y]) := Lib.hid (by unfold highT; rw [if_pos hbI, HYE.out])
        have HPC : Hid (P = Lib.join (([] ++ [62 :: x]) ++ [60 :: y]) [44]) := Lib.hid (by rw [HP.out, HNE.out, HLO.out, HHI.out]; rfl)
        have HJ := Lib.hid (SRow.join HRWwh.out (by decide) [44] (by rw [← HPC.out]; have := HPL.out; omega))
        have HBE : Hid (Below w.heap.size w wh) := Lib.hid (HBW.out.trans (HBBwh.out.mono HBW.out.size))
        go_wp2_with (first | (at_builtin; refine wpList_app_run _ rfl (.tmp 50) (.tmp 53) 48 48 rfl _ _ rfl rfl _ _ HAPlow.out ?_) | (at_builtin; refine wpList_app_run _ rfl (.tmp 59) (.tmp 62) 48 48 rfl _ _ rfl rfl _ _ HAPhigh.out ?_))
        refine HJ.out.mono ?_
        rintro e w9 ⟨rfl, hb9⟩
        have HB9 : Hid (Below w.heap.size w w9) := Lib.hid (HBE.out.trans (hb9.mono HBE.out.size))
        rw [← HPC.out]
        clear hb9
        go_wp2_with fail
        go_ret
        exact ⟨rfl, HB9.out⟩
      · by_cases hb2 : b.a = 2
        · have hbI := hb2
          rw [hb2] at cB
          obtain ⟨SL, hSL⟩ : ∃ S, S = bl (62 :: x) := ⟨_, rfl⟩
          have eSL : (({ data := #[62] } : ByteArray) ++ SX) = SL := by rw [hSL, HSX.out, show (({ data := #[62] } : ByteArray)) = bl [62] from rfl, bl_app]; rfl
          have zSL : SL.size ≤ 1000 := by rw [hSL, bl_size]; have := HSXL.out; simp only [List.length_cons]; omega
          obtain ⟨A1, c1, wl, hap, hrow, hbn⟩ := (SRow.nil_ wb wb.heap.size).push HBBwb.out SL (62 :: x) hSL (by decide)
          have HAPlow := Lib.hid hap
          have HRWwl : Hid (SRow wl wb.heap.size A1 c1 1 ([] ++ [62 :: x])) := Lib.hid hrow
          have HBBwl := Lib.hid hbn
          have cBwl := (hbn.cell (p := ⟨g3, 0, none⟩) (World.block_lt_of_cell? _ _ cB)).trans cB
          have lBwl : g3 < wl.heap.size := World.block_lt_of_cell? _ _ cBwl
          clear hSL hap hrow hbn
          obtain ⟨SH, hSH⟩ : ∃ S, S = bl (60 :: 61 :: y) := ⟨_, rfl⟩
          have eSH : (({ data := #[60, 61] } : ByteArray) ++ SY) = SH := by rw [hSH, HSY.out, show (({ data := #[60, 61] } : ByteArray)) = bl [60, 61] from rfl, bl_app]; rfl
          have zSH : SH.size ≤ 1000 := by rw [hSH, bl_size]; have := HSYL.out; simp only [List.length_cons]; omega
          obtain ⟨A2, c2, wh, hap, hrow, hbn⟩ := (HRWwl.out).push HBBwl.out SH (60 :: 61 :: y) hSH (by decide)
          have HAPhigh := Lib.hid hap
          have HRWwh : Hid (SRow wh wb.heap.size A2 c2 2 ([] ++ [62 :: x] ++ [60 :: 61 :: y])) := Lib.hid hrow
          have HBBwh := Lib.hid hbn
          have cBwh := (hbn.cell (p := ⟨g3, 0, none⟩) (World.block_lt_of_cell? _ _ cB)).trans cB
          have lBwh : g3 < wh.heap.size := World.block_lt_of_cell? _ _ cBwh
          clear hSH hap hrow hbn
          have HLO : Hid (lowT a = [62 :: x]) := Lib.hid (by unfold lowT; rw [if_neg (show ¬ a.a = 1 by omega), if_pos haI, HXE.out])
          have HHI : Hid (highT b = [60 :: 61 :: y]) := Lib.hid (by unfold highT; rw [if_neg (show ¬ b.a = 1 by omega), if_pos hbI, HYE.out])
          have HPC : Hid (P = Lib.join (([] ++ [62 :: x]) ++ [60 :: 61 :: y]) [44]) := Lib.hid (by rw [HP.out, HNE.out, HLO.out, HHI.out]; rfl)
          have HJ := Lib.hid (SRow.join HRWwh.out (by decide) [44] (by rw [← HPC.out]; have := HPL.out; omega))
          have HBE : Hid (Below w.heap.size w wh) := Lib.hid (HBW.out.trans (HBBwh.out.mono HBW.out.size))
          go_wp2_with (first | (at_builtin; refine wpList_app_run _ rfl (.tmp 50) (.tmp 53) 48 48 rfl _ _ rfl rfl _ _ HAPlow.out ?_) | (at_builtin; refine wpList_app_run _ rfl (.tmp 66) (.tmp 69) 48 48 rfl _ _ rfl rfl _ _ HAPhigh.out ?_))
          refine HJ.out.mono ?_
          rintro e w9 ⟨rfl, hb9⟩
          have HB9 : Hid (Below w.heap.size w w9) := Lib.hid (HBE.out.trans (hb9.mono HBE.out.size))
          rw [← HPC.out]
          clear hb9
          go_wp2_with fail
          go_ret
          exact ⟨rfl, HB9.out⟩
        · have hbI := hb2
          obtain ⟨kb, hkb⟩ : ∃ kb, kb = b.a := ⟨_, rfl⟩
          have nb1 : ¬ kb = 1 := by omega
          have nb2 : ¬ kb = 2 := by omega
          have mb1 : (kb == 1) = false := by simpa using nb1
          have mb2 : (kb == 2) = false := by simpa using nb2
          rw [← hkb] at cB
          have HKB := Lib.hid hkb
          clear hkb
          obtain ⟨SL, hSL⟩ : ∃ S, S = bl (62 :: x) := ⟨_, rfl⟩
          have eSL : (({ data := #[62] } : ByteArray) ++ SX) = SL := by rw [hSL, HSX.out, show (({ data := #[62] } : ByteArray)) = bl [62] from rfl, bl_app]; rfl
          have zSL : SL.size ≤ 1000 := by rw [hSL, bl_size]; have := HSXL.out; simp only [List.length_cons]; omega
          obtain ⟨A1, c1, wl, hap, hrow, hbn⟩ := (SRow.nil_ wb wb.heap.size).push HBBwb.out SL (62 :: x) hSL (by decide)
          have HAPlow := Lib.hid hap
          have HRWwl : Hid (SRow wl wb.heap.size A1 c1 1 ([] ++ [62 :: x])) := Lib.hid hrow
          have HBBwl := Lib.hid hbn
          have cBwl := (hbn.cell (p := ⟨g3, 0, none⟩) (World.block_lt_of_cell? _ _ cB)).trans cB
          have lBwl : g3 < wl.heap.size := World.block_lt_of_cell? _ _ cBwl
          clear hSL hap hrow hbn
          have HLO : Hid (lowT a = [62 :: x]) := Lib.hid (by unfold lowT; rw [if_neg (show ¬ a.a = 1 by omega), if_pos haI, HXE.out])
          have HHI : Hid (highT b = []) := Lib.hid (by unfold highT; rw [if_neg (show ¬ b.a = 1 by omega), if_neg (show ¬ b.a = 2 by omega)])
          have HPC : Hid (P = Lib.join ([] ++ [62 :: x]) [44]) := Lib.hid (by rw [HP.out, HNE.out, HLO.out, HHI.out]; rfl)
          have HJ := Lib.hid (SRow.join HRWwl.out (by decide) [44] (by rw [← HPC.out]; have := HPL.out; omega))
          have HBE : Hid (Below w.heap.size w wl) := Lib.hid (HBW.out.trans (HBBwl.out.mono HBW.out.size))
          go_wp2_with ((at_builtin; refine wpList_app_run _ rfl (.tmp 50) (.tmp 53) 48 48 rfl _ _ rfl rfl _ _ HAPlow.out ?_))
          refine HJ.out.mono ?_
          rintro e w9 ⟨rfl, hb9⟩
          have HB9 : Hid (Below w.heap.size w w9) := Lib.hid (HBE.out.trans (hb9.mono HBE.out.size))
          rw [← HPC.out]
          clear hb9
          go_wp2_with fail
          go_ret
          exact ⟨rfl, HB9.out⟩
    · have haI := ha2
      obtain ⟨ka, hka⟩ : ∃ ka, ka = a.a := ⟨_, rfl⟩
      have na1 : ¬ ka = 1 := by omega
      have na2 : ¬ ka = 2 := by omega
      have ma1 : (ka == 1) = false := by simpa using na1
      have ma2 : (ka == 2) = false := by simpa using na2
      rw [← hka] at cA
      have HKA := Lib.hid hka
      clear hka
      by_cases hb1 : b.a = 1
      · have hbI := hb1
        rw [hb1] at cB
        obtain ⟨SH, hSH⟩ : ∃ S, S = bl (60 :: y) := ⟨_, rfl⟩
        have eSH : (({ data := #[60] } : ByteArray) ++ SY) = SH := by rw [hSH, HSY.out, show (({ data := #[60] } : ByteArray)) = bl [60] from rfl, bl_app]; rfl
        have zSH : SH.size ≤ 1000 := by rw [hSH, bl_size]; have := HSYL.out; simp only [List.length_cons]; omega
        obtain ⟨A2, c2, wh, hap, hrow, hbn⟩ := (SRow.nil_ wb wb.heap.size).push HBBwb.out SH (60 :: y) hSH (by decide)
        have HAPhigh := Lib.hid hap
        have HRWwh : Hid (SRow wh wb.heap.size A2 c2 1 ([] ++ [60 :: y])) := Lib.hid hrow
        have HBBwh := Lib.hid hbn
        have cBwh := (hbn.cell (p := ⟨g3, 0, none⟩) (World.block_lt_of_cell? _ _ cB)).trans cB
        have lBwh : g3 < wh.heap.size := World.block_lt_of_cell? _ _ cBwh
        clear hSH hap hrow hbn
        have HLO : Hid (lowT a = []) := Lib.hid (by unfold lowT; rw [if_neg (show ¬ a.a = 1 by omega), if_neg (show ¬ a.a = 2 by omega)])
        have HHI : Hid (highT b = [60 :: y]) := Lib.hid (by unfold highT; rw [if_pos hbI, HYE.out])
        have HPC : Hid (P = Lib.join (([]) ++ [60 :: y]) [44]) := Lib.hid (by rw [HP.out, HNE.out, HLO.out, HHI.out]; rfl)
        have HJ := Lib.hid (SRow.join HRWwh.out (by decide) [44] (by rw [← HPC.out]; have := HPL.out; omega))
        have HBE : Hid (Below w.heap.size w wh) := Lib.hid (HBW.out.trans (HBBwh.out.mono HBW.out.size))
        go_wp2_with ((at_builtin; refine wpList_app_run _ rfl (.tmp 59) (.tmp 62) 48 48 rfl _ _ rfl rfl _ _ HAPhigh.out ?_))
        refine HJ.out.mono ?_
        rintro e w9 ⟨rfl, hb9⟩
        have HB9 : Hid (Below w.heap.size w w9) := Lib.hid (HBE.out.trans (hb9.mono HBE.out.size))
        rw [← HPC.out]
        clear hb9
        go_wp2_with fail
        go_ret
        exact ⟨rfl, HB9.out⟩
      · by_cases hb2 : b.a = 2
        · have hbI := hb2
          rw [hb2] at cB
          obtain ⟨SH, hSH⟩ : ∃ S, S = bl (60 :: 61 :: y) := ⟨_, rfl⟩
          have eSH : (({ data := #[60, 61] } : ByteArray) ++ SY) = SH := by rw [hSH, HSY.out, show (({ data := #[60, 61] } : ByteArray)) = bl [60, 61] from rfl, bl_app]; rfl
          have zSH : SH.size ≤ 1000 := by rw [hSH, bl_size]; have := HSYL.out; simp only [List.length_cons]; omega
          obtain ⟨A2, c2, wh, hap, hrow, hbn⟩ := (SRow.nil_ wb wb.heap.size).push HBBwb.out SH (60 :: 61 :: y) hSH (by decide)
          have HAPhigh := Lib.hid hap
          have HRWwh : Hid (SRow wh wb.heap.size A2 c2 1 ([] ++ [60 :: 61 :: y])) := Lib.hid hrow
          have HBBwh := Lib.hid hbn
          have cBwh := (hbn.cell (p := ⟨g3, 0, none⟩) (World.block_lt_of_cell? _ _ cB)).trans cB
          have lBwh : g3 < wh.heap.size := World.block_lt_of_cell? _ _ cBwh
          clear hSH hap hrow hbn
          have HLO : Hid (lowT a = []) := Lib.hid (by unfold lowT; rw [if_neg (show ¬ a.a = 1 by omega), if_neg (show ¬ a.a = 2 by omega)])
          have HHI : Hid (highT b = [60 :: 61 :: y]) := Lib.hid (by unfold highT; rw [if_neg (show ¬ b.a = 1 by omega), if_pos hbI, HYE.out])
          have HPC : Hid (P = Lib.join (([]) ++ [60 :: 61 :: y]) [44]) := Lib.hid (by rw [HP.out, HNE.out, HLO.out, HHI.out]; rfl)
          have HJ := Lib.hid (SRow.join HRWwh.out (by decide) [44] (by rw [← HPC.out]; have := HPL.out; omega))
          have HBE : Hid (Below w.heap.size w wh) := Lib.hid (HBW.out.trans (HBBwh.out.mono HBW.out.size))
          go_wp2_with ((at_builtin; refine wpList_app_run _ rfl (.tmp 66) (.tmp 69) 48 48 rfl _ _ rfl rfl _ _ HAPhigh.out ?_))
          refine HJ.out.mono ?_
          rintro e w9 ⟨rfl, hb9⟩
          have HB9 : Hid (Below w.heap.size w w9) := Lib.hid (HBE.out.trans (hb9.mono HBE.out.size))
          rw [← HPC.out]
          clear hb9
          go_wp2_with fail
          go_ret
          exact ⟨rfl, HB9.out⟩
        · have hbI := hb2
          obtain ⟨kb, hkb⟩ : ∃ kb, kb = b.a := ⟨_, rfl⟩
          have nb1 : ¬ kb = 1 := by omega
          have nb2 : ¬ kb = 2 := by omega
          have mb1 : (kb == 1) = false := by simpa using nb1
          have mb2 : (kb == 2) = false := by simpa using nb2
          rw [← hkb] at cB
          have HKB := Lib.hid hkb
          clear hkb
          have HLO : Hid (lowT a = []) := Lib.hid (by unfold lowT; rw [if_neg (show ¬ a.a = 1 by omega), if_neg (show ¬ a.a = 2 by omega)])
          have HHI : Hid (highT b = []) := Lib.hid (by unfold highT; rw [if_neg (show ¬ b.a = 1 by omega), if_neg (show ¬ b.a = 2 by omega)])
          have HPC : Hid (P = [42]) := Lib.hid (by rw [HP.out, HNE.out, HLO.out, HHI.out]; rfl)
          go_wp2_with fail
          go_ret
          exact ⟨by rw [HPC.out]; rfl, HBW.out⟩
end Go.Proofs.YteeijjhgdplifaaGreatDoor
