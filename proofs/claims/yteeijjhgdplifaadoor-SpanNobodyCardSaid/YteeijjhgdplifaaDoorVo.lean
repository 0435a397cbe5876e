/- VersionOrder: the walk. -/
import Derived.Test.YteeijjhgdplifaaDoorVh
namespace Go.Proofs.YteeijjhgdplifaaDoor
open Go.RowKit

section
variable {P : Program}
theorem runs_load_run {ops : Array Oper} {o : Oper} {a : Act} {w : World} {R : Value → World → Prop} (hg : o.guard = none) (ty : TypeId) (x : Operand) (ho : o.op = .load ty x) (g : Nat) (hx : a.eval x = .pointer (some ⟨g, 0, none⟩)) (v : Value)
    (hr : (loadVar ty ⟨g, 0, none⟩).run P w = .ok v w) (h : R v w) : Runs P ops o a w R := by
  unfold Runs Region.wanted
  rw [hg]
  show Out P R ((execOp a.eval o).run P w)
  unfold execOp
  simp only [ho, hx, Instr.loadAt, Instr.sureAddr, Sem.run_bind, Sem.run_pure, Result.andThen_ok, hr]
  exact h
theorem wpListw_load_run {ops : Array Oper} {rest : List Oper} {o : Oper} {a : Act} {w : World} {Q : Exit → Act → World → Prop} (hw : Region.wanted o (yielded ops a.tmps) = true) (ty : TypeId) (x : Operand) (ho : o.op = .load ty x) (g : Nat) (hx : a.eval x = .pointer (some ⟨g, 0, none⟩)) (v : Value)
    (hr : (loadVar ty ⟨g, 0, none⟩).run P w = .ok v w) (h : wpList P ops Q rest (a.put o.dst v) w) : wpList P ops Q (o :: rest) a w :=
  BigFrame.wpList_want hw fun _ hK => wp_load_run ty x ho g hx v hr (hK _ _ h)
theorem wpListw_eql_run {ops : Array Oper} {rest : List Oper} {o : Oper} {a : Act} {w : World} {Q : Exit → Act → World → Prop} (hw : Region.wanted o (yielded ops a.tmps) = true) (t ty : TypeId) (x y : Operand) (ho : o.op = .binOp .eql t x y ty) (xs ys : Array Value) (hx : a.eval x = .agg xs) (hy : a.eval y = .agg ys)
    (hg : P.eqGuardType P.depth t = false) (r : Bool) (hr : (Op.equalIn 10000 t (.agg xs) (.agg ys)).run P w = .ok r w) (h : wpList P ops Q rest (a.put o.dst (.bool r)) w) : wpList P ops Q (o :: rest) a w :=
  BigFrame.wpList_want hw fun _ hK => wp_eql_run t ty x y ho xs ys hx hy hg r hr (hK _ _ h)
end
def v1 : Ver := ⟨[1, 0, 0, 0], 1, []⟩
def v10 : Ver := ⟨[1, 0, 0, 0], 2, []⟩
theorem itoa01 : Lib.itoa 1 = [49] ∧ Lib.itoa 0 = [48] := ⟨by rw [itoa_nat (by decide), dec_small (by decide)]; rfl, by rw [itoa_nat (by decide), dec_small (by decide)]; rfl⟩
theorem rv1 : rv [49] = (v1, 0) := rv_some ((readVer_iff _ _).2 ⟨rfl, by decide, by
  show Lib.join [Lib.itoa 1] [46] ++ [] = [49]
  rw [itoa01.1]; rfl⟩)
theorem rv10 : rv [49, 46, 48] = (v10, 0) := rv_some ((readVer_iff _ _).2 ⟨rfl, by decide, by
  show Lib.join [Lib.itoa 1, Lib.itoa 0] [46] ++ [] = [49, 46, 48]
  rw [itoa01.1, itoa01.2]; rfl⟩)
theorem v1_v10 : v1.cmp v10 = -1 := by decide

set_option maxRecDepth 100000 in
set_option maxHeartbeats 2000000 in
theorem versionOrder_walk (a b c : Ver) (ha : a.Ok) (hb : b.Ok) (hc : c.Ok) (w : World) (hg : GV w) : Calls Tryd.prog 3 #[a.val, b.val, c.val] w fun e w' => e = .returned (.bool true) ∧ Below w.heap.size w w' := by
  have HA := Lib.hid ha
  have HB := Lib.hid hb
  have HC := Lib.hid hc
  obtain ⟨w1, hw1⟩ : ∃ w1, w1 = w.alloc (.cells a.cells.toArray 24) := ⟨_, rfl⟩
  obtain ⟨w2, hw2⟩ : ∃ w2, w2 = w1.alloc (.cells b.cells.toArray 24) := ⟨_, rfl⟩
  obtain ⟨w3, hw3⟩ : ∃ w3, w3 = w2.alloc (.cells c.cells.toArray 24) := ⟨_, rfl⟩
  obtain ⟨ga, hga⟩ : ∃ ga, ga = w.heap.size := ⟨_, rfl⟩
  obtain ⟨gb, hgb⟩ : ∃ gb, gb = ga + 1 := ⟨_, rfl⟩
  obtain ⟨gc, hgc⟩ : ∃ gc, gc = gb + 1 := ⟨_, rfl⟩
  have hb1 : Below w.heap.size w w1 := by rw [hw1]; exact (Below.refl _ _).alloc (Nat.le_refl _) _
  have hb2 : Below w1.heap.size w1 w2 := by rw [hw2]; exact (Below.refl _ _).alloc (Nat.le_refl _) _
  have hb3 : Below w2.heap.size w2 w3 := by rw [hw3]; exact (Below.refl _ _).alloc (Nat.le_refl _) _
  have k1 : Blk w1 ga 24 a.cells := by rw [hw1, hga]; exact Blk.new _ _ a.cells.toArray
  have k2 : Blk w2 gb 24 b.cells := by
    have e : gb = w1.heap.size := by rw [hgb, hga, hw1]; simp
    rw [hw2, e]; exact Blk.new _ _ b.cells.toArray
  have k3 : Blk w3 gc 24 c.cells := by
    have e : gc = w2.heap.size := by rw [hgc, hgb, hga, hw2, hw1]; simp
    rw [hw3, e]; exact Blk.new _ _ c.cells.toArray
  have HKA := Lib.hid ((k1.below' hb2).below' hb3)
  have HKB := Lib.hid (k2.below' hb3)
  have HKC := Lib.hid k3
  have HB3 : Hid (Below w.heap.size w w3) := Lib.hid ((hb1.trans (hb2.mono hb1.size)).trans (hb3.mono (Nat.le_trans hb1.size hb2.size)))
  have HG := Lib.hid (hg.below HB3.out)
  obtain ⟨wd, hwd⟩ : ∃ wd, wd = w3.drew := ⟨_, rfl⟩
  have hbd : Below w3.heap.size w3 wd := by rw [hwd]; exact (Below.refl _ _).drew
  have HLX : Hid (∀ wx, Below w3.heap.size w3 wx → Hid ((loadVar 24 ⟨ga, 0, none⟩).run Tryd.prog wx = .ok a.val wx) ∧ Hid ((loadVar 24 ⟨gb, 0, none⟩).run Tryd.prog wx = .ok b.val wx) ∧ Hid ((loadVar 24 ⟨gc, 0, none⟩).run Tryd.prog wx = .ok c.val wx)) :=
    Lib.hid (fun wx h => ⟨Lib.hid (vload (HKA.out.below' h) HA.out), Lib.hid (vload (HKB.out.below' h) HB.out), Lib.hid (vload (HKC.out.below' h) HC.out)⟩)
  have HLD : Hid (∀ wx, Below wd.heap.size wd wx → Hid ((loadVar 24 ⟨ga, 0, none⟩).run Tryd.prog wx = .ok a.val wx) ∧ Hid ((loadVar 24 ⟨gb, 0, none⟩).run Tryd.prog wx = .ok b.val wx) ∧ Hid ((loadVar 24 ⟨gc, 0, none⟩).run Tryd.prog wx = .ok c.val wx)) :=
    Lib.hid (fun wx h => HLX.out wx (hbd.trans (h.mono hbd.size)))
  have HBD := Lib.hid hbd
  have HW1 := Lib.hid hw1
  have HW2 := Lib.hid hw2
  have HW3 := Lib.hid hw3
  have HGA := Lib.hid hga
  have HGB := Lib.hid hgb
  have HGC := Lib.hid hgc
  clear ha hb hc hg hw1 hw2 hw3 hga hgb hgc hb1 hb2 hb3 k1 k2 k3 hbd
  rw [show a.val = .agg a.cells.toArray from rfl, show b.val = .agg b.cells.toArray from rfl, show c.val = .agg c.cells.toArray from rfl]
  go_enter Tryd.func3, Tryd.ntmps3
  go_upto_region 1 with fail
  rw [← HW1.out, ← HW2.out, ← HW3.out, ← HGA.out, ← HGB.out, ← HGC.out]
  try simp only [Act.put, List.setIfInBounds_toArray, List.set_cons_zero, List.set_cons_succ]
  obtain ⟨Inv, hInv⟩ : ∃ Inv : Done → World → Prop, Inv = Chain3 2 5 8 (fun wI => wI = wd) (fun x wI => x = .int .i64 (a.cmp b) ∧ Below wd.heap.size wd wI) (fun x y wI => (x = .int .i64 (a.cmp b) ∧ y = .int .i64 (b.cmp c)) ∧ Below wd.heap.size wd wI) (fun x y z wI => (x = .int .i64 (a.cmp b) ∧ y = .int .i64 (b.cmp c) ∧ z = .int .i64 (a.cmp c)) ∧ Below wd.heap.size wd wI) := ⟨_, rfl⟩
  have HI := Lib.hid hInv
  have hcz : Hid (∀ τ wI, Inv τ wI → τ 8 = none → Hid ((loadVar 24 ⟨ga, 0, none⟩).run Tryd.prog wI = .ok a.val wI) ∧ Hid ((loadVar 24 ⟨gb, 0, none⟩).run Tryd.prog wI = .ok b.val wI) ∧ Hid ((loadVar 24 ⟨gc, 0, none⟩).run Tryd.prog wI = .ok c.val wI)) := by
    intro τ wI h h9
    rw [hInv] at h
    rcases h.upto2 h9 with rfl | ⟨x, _, hb⟩ | ⟨x, y, _, hb⟩
    · exact HLD.out _ (Below.refl _ _)
    · exact HLD.out _ hb
    · exact HLD.out _ hb
  have H00 : Hid (Inv Done.none w3.drew) := by rw [hInv]; exact Chain3.start hwd.symm
  clear hInv hwd
  refine wp_region_inv (by kernel_rfl) [⟨0, false, [], [2, 5, 8]⟩, ⟨1, false, [], [2, 5, 8]⟩, ⟨3, false, [], [5, 8]⟩, ⟨4, false, [], [5, 8]⟩, ⟨6, false, [], [8]⟩, ⟨7, false, [], [8]⟩, ⟨2, true, [], [5, 8]⟩, ⟨5, true, [2], [8]⟩, ⟨8, true, [2, 5], []⟩, ⟨9, false, [2, 5, 8], []⟩, ⟨10, false, [2, 5, 8], []⟩, ⟨11, false, [2, 5, 8], []⟩] (by kernel_rfl) Inv (fun i v => i = 2 ∨ i = 5 ∨ i = 8 → ∃ n : Int, v = .int .i64 n) (fun _ => ⟨.int .i64 0, fun _ => ⟨0, rfl⟩⟩) H00.out ?_
  (apply WpI.pure; (simp only [List.getElem?_toArray, List.getElem?_cons_succ, List.getElem?_cons_zero]; rfl); (intro τ wI hA hI; obtain ⟨f0, f1, f2⟩ := hcz.out τ wI hI (hA.2 8 (by decide)); refine runs_load_run rfl 24 (.tmp 3) rfl ga rfl _ f0.out ?_; exact ⟨hI, Is.rfl'⟩); simp only [Act.put, List.setIfInBounds_toArray, List.set_cons_zero, List.set_cons_succ])
  (apply WpI.pure; (simp only [List.getElem?_toArray, List.getElem?_cons_succ, List.getElem?_cons_zero]; rfl); (intro τ wI hA hI; obtain ⟨f0, f1, f2⟩ := hcz.out τ wI hI (hA.2 8 (by decide)); refine runs_load_run rfl 24 (.tmp 4) rfl gb rfl _ f1.out ?_; exact ⟨hI, Is.rfl'⟩); simp only [Act.put, List.setIfInBounds_toArray, List.set_cons_zero, List.set_cons_succ])
  (apply WpI.pure; (simp only [List.getElem?_toArray, List.getElem?_cons_succ, List.getElem?_cons_zero]; rfl); (intro τ wI hA hI; obtain ⟨f0, f1, f2⟩ := hcz.out τ wI hI (hA.2 8 (by decide)); refine runs_load_run rfl 24 (.tmp 4) rfl gb rfl _ f1.out ?_; exact ⟨hI, Is.rfl'⟩); simp only [Act.put, List.setIfInBounds_toArray, List.set_cons_zero, List.set_cons_succ])
  (apply WpI.pure; (simp only [List.getElem?_toArray, List.getElem?_cons_succ, List.getElem?_cons_zero]; rfl); (intro τ wI hA hI; obtain ⟨f0, f1, f2⟩ := hcz.out τ wI hI (hA.2 8 (by decide)); refine runs_load_run rfl 24 (.tmp 5) rfl gc rfl _ f2.out ?_; exact ⟨hI, Is.rfl'⟩); simp only [Act.put, List.setIfInBounds_toArray, List.set_cons_zero, List.set_cons_succ])
  (apply WpI.pure; (simp only [List.getElem?_toArray, List.getElem?_cons_succ, List.getElem?_cons_zero]; rfl); (intro τ wI hA hI; obtain ⟨f0, f1, f2⟩ := hcz.out τ wI hI (hA.2 8 (by decide)); refine runs_load_run rfl 24 (.tmp 3) rfl ga rfl _ f0.out ?_; exact ⟨hI, Is.rfl'⟩); simp only [Act.put, List.setIfInBounds_toArray, List.set_cons_zero, List.set_cons_succ])
  (apply WpI.pure; (simp only [List.getElem?_toArray, List.getElem?_cons_succ, List.getElem?_cons_zero]; rfl); (intro τ wI hA hI; obtain ⟨f0, f1, f2⟩ := hcz.out τ wI hI (hA.2 8 (by decide)); refine runs_load_run rfl 24 (.tmp 5) rfl gc rfl _ f2.out ?_; exact ⟨hI, Is.rfl'⟩); simp only [Act.put, List.setIfInBounds_toArray, List.set_cons_zero, List.set_cons_succ])
  apply WpI.effect; (simp only [List.getElem?_toArray, List.getElem?_cons_succ, List.getElem?_cons_zero]; rfl)
  · intro τ wI hA hn hI
    have h0 := hI
    rw [HI.out] at h0
    have h5 : τ 5 = none := hA.2 5 (by decide)
    have h8 : τ 8 = none := hA.2 8 (by decide)
    have hK := h0.at0 hn h5 h8
    have HT := Lib.hid (And.intro True.intro (And.intro h5 ( And.intro h8 (True.intro))))
    clear hA hn hI h0 h5 h8
    subst hK
    go_simp
    refine (compare_ok a b HA.out HB.out wI).mono ?_
    rintro e w' ⟨rfl, hb'⟩
    refine ⟨_, rfl, ⟨_, rfl⟩, ?_⟩
    rw [HI.out]
    exact Chain3.put1 HT.out.2.1 (by decide) HT.out.2.2.1 (by decide) ⟨rfl, hb'⟩
  intro v2 hv2
  simp only [Act.put, List.setIfInBounds_toArray, List.set_cons_zero, List.set_cons_succ]
  skip
  apply WpI.effect; (simp only [List.getElem?_toArray, List.getElem?_cons_succ, List.getElem?_cons_zero]; rfl)
  · intro τ wI hA hn hI
    have h0 := hI
    rw [HI.out] at h0
    have h2 : τ 2 = some v2 := hA.1 2 (by decide)
    have h8 : τ 8 = none := hA.2 8 (by decide)
    have hK := h0.at1 h2 hn h8
    have HT := Lib.hid (And.intro True.intro (And.intro h2 ( And.intro h8 (True.intro))))
    clear hA hn hI h0 h2 h8
    obtain ⟨hE, hw⟩ := hK
    have HW := Lib.hid hw
    have HE := Lib.hid hE
    clear hw hE
    go_simp
    refine (compare_ok b c HB.out HC.out wI).mono ?_
    rintro e w' ⟨rfl, hb'⟩
    refine ⟨_, rfl, ⟨_, rfl⟩, ?_⟩
    rw [HI.out]
    exact Chain3.put2 HT.out.2.1 (by decide) HT.out.2.2.1 (by decide) ⟨⟨HE.out, rfl⟩, HW.out.trans (hb'.mono HW.out.size)⟩
  intro v5 hv5
  simp only [Act.put, List.setIfInBounds_toArray, List.set_cons_zero, List.set_cons_succ]
  skip
  apply WpI.effect; (simp only [List.getElem?_toArray, List.getElem?_cons_succ, List.getElem?_cons_zero]; rfl)
  · intro τ wI hA hn hI
    have h0 := hI
    rw [HI.out] at h0
    have h2 : τ 2 = some v2 := hA.1 2 (by decide)
    have h5 : τ 5 = some v5 := hA.1 5 (by decide)
    have hK := h0.at2 h2 h5 hn
    have HT := Lib.hid (And.intro True.intro (And.intro h2 ( And.intro h5 (True.intro))))
    clear hA hn hI h0 h2 h5
    obtain ⟨hE, hw⟩ := hK
    have HW := Lib.hid hw
    have HE := Lib.hid hE
    clear hw hE
    go_simp
    refine (compare_ok a c HA.out HC.out wI).mono ?_
    rintro e w' ⟨rfl, hb'⟩
    refine ⟨_, rfl, ⟨_, rfl⟩, ?_⟩
    rw [HI.out]
    exact Chain3.put3 HT.out.2.1 (by decide) HT.out.2.2.1 (by decide) ⟨⟨HE.out.1, HE.out.2, rfl⟩, HW.out.trans (hb'.mono HW.out.size)⟩
  intro v8 hv8
  simp only [Act.put, List.setIfInBounds_toArray, List.set_cons_zero, List.set_cons_succ]
  obtain ⟨n2, rfl⟩ := hv2 (.inl rfl)
  obtain ⟨n5, rfl⟩ := hv5 (.inr (.inl rfl))
  obtain ⟨n8, rfl⟩ := hv8 (.inr (.inr rfl))
  iterate 3 (apply WpI.pure; (simp only [List.getElem?_toArray, List.getElem?_cons_succ, List.getElem?_cons_zero]; rfl); (intro τ wI hA hI; go_simp; exact ⟨hI, Is.rfl'⟩); simp only [Act.put, List.setIfInBounds_toArray, List.set_cons_zero, List.set_cons_succ])
  refine WpI.done ?_
  intro w5 hI
  rw [HI.out] at hI
  have hE := hI.end_ (by decide) (by decide) (by decide)
  obtain ⟨⟨e2, e5, e8⟩, hb5⟩ := hE
  obtain ⟨X, hX⟩ : ∃ X, X = a.cmp b := ⟨_, rfl⟩
  obtain ⟨Y, hY⟩ : ∃ Y, Y = b.cmp c := ⟨_, rfl⟩
  obtain ⟨Z, hZ⟩ : ∃ Z, Z = a.cmp c := ⟨_, rfl⟩
  have e2' : n2 = X := by rw [hX]; injection e2
  have e5' : n5 = Y := by rw [hY]; injection e5
  have e8' : n8 = Z := by rw [hZ]; injection e8
  have hX1 := Ver.cmp_one HA.out HB.out
  have hY1 := Ver.cmp_one HB.out HC.out
  have hZ1 := Ver.cmp_one HA.out HC.out
  have hT1 : X ≤ 0 → Y ≤ 0 → Z ≤ 0 := by rw [hX, hY, hZ]; exact Ver.cmp_tr HA.out HB.out HC.out
  have hT2 : 0 ≤ X → 0 ≤ Y → 0 ≤ Z := by rw [hX, hY, hZ]; exact Ver.cmp_tr' HA.out HB.out HC.out
  rw [← hX] at hX1
  rw [← hY] at hY1
  rw [← hZ] at hZ1
  have hxa : b.cmp a = -X := by rw [hX]; exact Ver.cmp_anti HA.out HB.out
  have hxe : (X == 0) = decide (a = b) := by
    rw [Bool.eq_iff_iff, beq_iff_eq, decide_eq_true_eq, hX]
    exact Ver.cmp_eq HA.out HB.out
  have hself : a.cmp a = 0 := (Ver.cmp_eq HA.out HA.out).2 rfl
  rw [e2', e5', e8']
  have HX1 := Lib.hid hX1
  have HY1 := Lib.hid hY1
  have HZ1 := Lib.hid hZ1
  have HT1 := Lib.hid hT1
  have HT2 := Lib.hid hT2
  have HXA := Lib.hid hxa
  have HXE := Lib.hid hxe
  have HSF := Lib.hid hself
  have hbw5 : Below w3.heap.size w3 w5 := HBD.out.trans (hb5.mono HBD.out.size)
  have H5 := Lib.hid hbw5
  have HG5 := Lib.hid (HG.out.below hbw5)
  have hXb : -1 ≤ X ∧ X ≤ 1 := by omega
  clear e2 e5 e8 e2' e5' e8' hX hY hZ hX1 hY1 hZ1 hT1 hT2 hxa hxe hself hb5 hbw5 hI hcz H00 HI HLD HBD
  go_wp2_with fail
  refine (parse_ok (bl [49]) (by decide) w5 HG5.out).mono ?_
  rintro e w6 ⟨rfl, hb6⟩
  rw [show (bl [49]).data.toList = [49] from rfl, rv1]
  have hbw6 := H5.out.trans (hb6.mono H5.out.size)
  have HG6 := Lib.hid (HG5.out.below hb6)
  have H6 := Lib.hid hbw6
  obtain ⟨g10, hg10⟩ : ∃ g10, g10 = w6.heap.size := ⟨_, rfl⟩
  obtain ⟨w7, hw7⟩ : ∃ w7, w7 = w6.alloc (.cells #[.int .i64 1, .int .i64 0, .int .i64 0, .int .i64 0, .int .i64 1, .string ⟨#[]⟩] 24) := ⟨_, rfl⟩
  have hb7 : Below w6.heap.size w6 w7 := by rw [hw7]; exact (Below.refl _ _).alloc (Nat.le_refl _) _
  have q7 : Blk w7 g10 24 v1.cells := by rw [hw7, hg10]; exact Blk.new _ _ _
  have Q7 := Lib.hid q7
  have H7 : Hid (Below w3.heap.size w3 w7) := Lib.hid (H6.out.trans (hb7.mono H6.out.size))
  have HG7 := Lib.hid (HG6.out.below hb7)
  have HW7 := Lib.hid hw7
  have HG10 := Lib.hid hg10
  clear hb6 hbw6 hg10 hw7 hb7 q7
  rw [show v1.val = .agg #[.int .i64 1, .int .i64 0, .int .i64 0, .int .i64 0, .int .i64 1, .string ⟨#[]⟩] from rfl]
  go_upto_region 3 with fail
  rw [← HW7.out, ← HG10.out]
  go_wp2_with fail
  refine (parse_ok (bl [49, 46, 48]) (by decide) w7 HG7.out).mono ?_
  rintro e w8 ⟨rfl, hb8⟩
  rw [show (bl [49, 46, 48]).data.toList = [49, 46, 48] from rfl, rv10]
  have Q8 := Lib.hid (Q7.out.below' hb8)
  have H8 : Hid (Below w3.heap.size w3 w8) := Lib.hid (H7.out.trans (hb8.mono H7.out.size))
  obtain ⟨g12, hg12⟩ : ∃ g12, g12 = w8.heap.size := ⟨_, rfl⟩
  obtain ⟨w9, hw9⟩ : ∃ w9, w9 = w8.alloc (.cells #[.int .i64 1, .int .i64 0, .int .i64 0, .int .i64 0, .int .i64 2, .string ⟨#[]⟩] 24) := ⟨_, rfl⟩
  have hb9 : Below w8.heap.size w8 w9 := by rw [hw9]; exact (Below.refl _ _).alloc (Nat.le_refl _) _
  have q9 : Blk w9 g12 24 v10.cells := by rw [hw9, hg12]; exact Blk.new _ _ _
  have H9 : Hid (Below w3.heap.size w3 w9) := Lib.hid (H8.out.trans (hb9.mono H8.out.size))
  have L10 := Lib.hid (vload (Q8.out.below' hb9) (show v1.Ok from rfl))
  have L12 := Lib.hid (vload q9 (show v10.Ok from rfl))
  have HW9 := Lib.hid hw9
  have HG12 := Lib.hid hg12
  clear hb8 hg12 hw9 hb9 q9
  rw [show v10.val = .agg #[.int .i64 1, .int .i64 0, .int .i64 0, .int .i64 0, .int .i64 2, .string ⟨#[]⟩] from rfl]
  go_upto_region 4 with fail
  rw [← HW9.out, ← HG12.out]
  go_wp2_with (first | refine wpList_load_run rfl 24 (.tmp 10) rfl g10 rfl _ L10.out ?_ | refine wpList_load_run rfl 24 (.tmp 12) rfl g12 rfl _ L12.out ?_)
  refine (compare_ok v1 v10 rfl rfl w9).mono ?_
  rintro e wa ⟨rfl, hba⟩
  rw [v1_v10]
  have Ha : Hid (Below w3.heap.size w3 wa) := Lib.hid (H9.out.trans (hba.mono H9.out.size))
  have La := Lib.hid (HLX.out wa Ha.out)
  clear hba
  go_wp2_with (first | refine wpListw_load_run rfl 24 (.tmp 3) rfl ga rfl _ La.out.1.out ?_ | refine wpListw_load_run rfl 24 (.tmp 4) rfl gb rfl _ La.out.2.1.out ?_)
  refine (compare_ok b a HB.out HA.out wa).mono ?_
  rintro e wb ⟨rfl, hbb⟩
  rw [HXA.out]
  have Hb : Hid (Below w3.heap.size w3 wb) := Lib.hid (Ha.out.trans (hbb.mono Ha.out.size))
  have Lb := Lib.hid (HLX.out wb Hb.out)
  have hEQ := veql a b HA.out HB.out wb
  obtain ⟨B, hB⟩ : ∃ B, B = decide (a = b) := ⟨_, rfl⟩
  rw [← hB] at hEQ
  have hxe := HXE.out
  rw [← hB] at hxe
  have HEQ := Lib.hid hEQ
  have nX : (-X != -X) = false := bne_self_eq_false _
  have nB : (B != B) = false := bne_self_eq_false _
  clear hbb hEQ hB
  go_wp2_with (first | refine wpListw_load_run rfl 24 (.tmp 3) rfl ga rfl _ Lb.out.1.out ?_ | refine wpListw_load_run rfl 24 (.tmp 4) rfl gb rfl _ Lb.out.2.1.out ?_ | refine wpListw_eql_run rfl 24 24 (.tmp 46) (.tmp 47) rfl _ _ rfl rfl (by kernel_rfl) _ HEQ.out ?_)
  refine (compare_ok a a HA.out HA.out wb).mono ?_
  rintro e wc ⟨rfl, hbc⟩
  rw [HSF.out]
  have Hc : Hid (Below w.heap.size w wc) := Lib.hid (HB3.out.trans ((Hb.out.trans (hbc.mono Hb.out.size)).mono HB3.out.size))
  clear hbc nX nB hxe
  go_upto_region 6 with fail
  go_cut [78] (fun u wx => u = .bool false ∧ wx = wc)
  case first =>
    clear hXb
    have h1 := HX1.out
    have h2 := HY1.out
    have h3 := HZ1.out
    have h4 := HT1.out
    have h5 := HT2.out
    have hcase : (X = 1 ∧ Y = -1) ∨ (X = -1 ∧ Y = 1) ∨ (X = 0 ∧ Y = 0 ∧ Z = 0) ∨ (X ≤ 0 ∧ Y ≤ 0 ∧ Z ≤ 0 ∧ (X < 0 ∨ Y < 0)) ∨ (0 ≤ X ∧ 0 ≤ Y ∧ 0 ≤ Z ∧ (0 < X ∨ 0 < Y)) := by omega
    clear h1 h2 h3 h4 h5
    rcases hcase with ⟨rfl, rfl⟩ | ⟨rfl, rfl⟩ | ⟨rfl, rfl, rfl⟩ | ⟨h1, h2, h3, h4⟩ | ⟨h1, h2, h3, h4⟩
    · go_wp2_with fail
      all_goals (go_meet; exact ⟨rfl, rfl⟩)
    · go_wp2_with fail
      all_goals (go_meet; exact ⟨rfl, rfl⟩)
    · go_wp2_with fail
      all_goals (go_meet; exact ⟨rfl, rfl⟩)
    · have h5 : ¬ 0 < Z := by omega
      by_cases h6 : 0 ≤ X
      · have h7 : ¬ 0 ≤ Y := by omega
        go_wp2_with fail
        all_goals (go_meet; exact ⟨by (try simp; try omega), rfl⟩)
      · go_wp2_with fail
        all_goals (go_meet; exact ⟨by (try simp; try omega), rfl⟩)
    · have h5 : ¬ Z < 0 := by omega
      by_cases h6 : X ≤ 0
      · have h7 : ¬ Y ≤ 0 := by omega
        go_wp2_with fail
        all_goals (go_meet; exact ⟨by (try simp; try omega), rfl⟩)
      · go_wp2_with fail
        all_goals (go_meet; exact ⟨by (try simp; try omega), rfl⟩)
  case rest =>
    obtain ⟨rfl, rfl⟩ := hcut
    obtain ⟨hx1, hx2⟩ := hXb
    go_wp2_with fail
    go_ret
    exact ⟨by (try simp; try omega), Hc.out⟩
end Go.Proofs.YteeijjhgdplifaaDoor
