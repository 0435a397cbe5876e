/- Cuts between versions, plainly; span's rank, compare, none, All, None, between. -/
import Derived.Test.YteeijjhgdplifaaGreatDoorVd
import Derived.Test.YteeijjhgdplifaaGreatDoorRc
import Derived.Test.YteeijjhgdplifaaGreatDoorVe
import Derived.Test.YteeijjhgdplifaaGreatDoorVh
import Derived.Deep.MidRow
namespace Go.Proofs.YteeijjhgdplifaaGreatDoor
open Go.RowKit

/-- a place between versions -/
structure Cut where
  a : Int
  v : Ver
deriving DecidableEq
def Cut.Ok (c : Cut) : Prop := c.v.Ok ∧ 0 ≤ c.a ∧ c.a ≤ 3
def Cut.cells (c : Cut) : List Value := .int .i64 c.a :: c.v.cells
def Cut.rank (c : Cut) : Int := if c.a = 0 then 0 else if c.a = 3 then 2 else 1
def Cut.edge (c : Cut) : Bool := c.a == 0 || c.a == 3
def Cut.cmp (c d : Cut) : Int := if c.edge || d.edge then c.rank - d.rank else if c.v.cmp d.v = 0 then c.a - d.a else c.v.cmp d.v
theorem Cut.cells_len {c : Cut} (h : c.Ok) : c.cells.length = 7 := by
  have := Ver.cells_size h.1
  have h2 : c.v.cells.length = 6 := by simpa using this
  simp [Cut.cells, h2]
theorem Cut.cells_at (c : Cut) : c.cells[0]? = some (.int .i64 c.a) := rfl

section
variable {P : Program}
theorem runs_load_a {ops : Array Oper} {o : Oper} {a : Act} {w : World} {R : Value → World → Prop} (hg : o.guard = none) (ty : TypeId) (x : Operand) (ho : o.op = .load ty x) (p : Addr) (hx : a.eval x = .pointer (some p)) (v : Value)
    (hr : (loadVar ty p).run P w = .ok v w) (h : R v w) : Runs P ops o a w R := by
  unfold Runs Region.wanted
  rw [hg]
  show Out P R ((execOp a.eval o).run P w)
  unfold execOp
  simp only [ho, hx, Instr.loadAt, Instr.sureAddr, Sem.run_bind, Sem.run_pure, Result.andThen_ok, hr]
  exact h
theorem wp_load_at {o : Oper} {a : Act} {w : World} {K : Act → World → Prop} {Q : Exit → Act → World → Prop} (ty : TypeId) (x : Operand) (ho : o.op = .load ty x) (p : Addr) (hx : a.eval x = .pointer (some p)) (v : Value)
    (hr : (loadVar ty p).run P w = .ok v w) (h : K (a.put o.dst v) w) : o.wp P a w K Q := by
  unfold Oper.wp execOp
  simp only [ho, hx, Instr.loadAt, Instr.sureAddr, Sem.run_bind, Sem.run_pure, Result.andThen_ok, hr]
  exact h
theorem wpList_load_at {ops : Array Oper} {rest : List Oper} {o : Oper} {a : Act} {w : World} {Q : Exit → Act → World → Prop} (hgd : o.guard = none) (ty : TypeId) (x : Operand) (ho : o.op = .load ty x) (p : Addr) (hx : a.eval x = .pointer (some p)) (v : Value)
    (hr : (loadVar ty p).run P w = .ok v w) (h : wpList P ops Q rest (a.put o.dst v) w) : wpList P ops Q (o :: rest) a w :=
  wpList_plain hgd fun _ hK => wp_load_at ty x ho p hx v hr (hK _ _ h)
end
theorem cload {w : World} {g : Nat} {c : Cut} (h : Blk w g 57 c.cells) (hc : c.Ok) : (loadVar 57 ⟨g, 0, none⟩).run Tryz.prog w = .ok (.agg c.cells.toArray) w :=
  run_loadVar_row w g _ _ c.cells.toArray (0, 0) _ h Tryz.underlying57 rfl (by
    have e : c.cells.toArray.size = 7 := by simpa using Cut.cells_len hc
    have hi : (Tryz.prog.info? 57).map (·.size) = some 7 := by kernel_rfl
    rw [e]; exact hi)
theorem cvload {w : World} {g : Nat} {c : Cut} (h : Blk w g 57 c.cells) (hc : c.Ok) : (loadVar 38 ⟨g, 1, none⟩).run Tryz.prog w = .ok (.agg c.v.cells.toArray) w := by
  refine run_loadVar_mid w g 1 _ c.v.cells _ (fun j x hx => ?_) Tryz.underlying38 rfl ?_
  · rw [h.cell, show 1 + j = j + 1 by omega]
    exact hx
  · have := Ver.cells_size hc.1
    have h2 : c.v.cells.length = 6 := by simpa using this
    have hi : (Tryz.prog.info? 38).map (·.size) = some 6 := by kernel_rfl
    rw [h2]; exact hi

set_option maxRecDepth 100000 in
theorem rank_ok (c : Cut) (hc : c.Ok) (w : World) : Calls Tryz.prog 50 #[.agg c.cells.toArray] w fun e w' => e = .returned (.int .i64 c.rank) ∧ Below w.heap.size w w' ∧ w.drawn ≤ w'.drawn := by
  obtain ⟨w1, hw1⟩ : ∃ w1, w1 = w.alloc (.cells c.cells.toArray 57) := ⟨_, rfl⟩
  obtain ⟨g1, hg1⟩ : ∃ g1, g1 = w.heap.size := ⟨_, rfl⟩
  have hb1 : Below w.heap.size w w1 := by rw [hw1]; exact (Below.refl _ _).alloc (Nat.le_refl _) _
  have k1 : Blk w1 g1 57 c.cells := by rw [hw1, hg1]; exact Blk.new _ _ c.cells.toArray
  have c0 : w1.cell? ⟨g1, 0, none⟩ = some (.int .i64 c.a) := by rw [k1.cell]; rfl
  obtain ⟨a, ha⟩ : ∃ a, a = c.a := ⟨_, rfl⟩
  rw [← ha] at c0
  obtain ⟨R, hR⟩ : ∃ R, R = c.rank := ⟨_, rfl⟩
  rw [← hR]
  have HR : Hid (R = if a = 0 then 0 else if a = 3 then 2 else 1) := Lib.hid (by rw [hR, ha]; rfl)
  have HB : Hid (Below w.heap.size w w1 ∧ w.drawn ≤ w1.drawn) := Lib.hid ⟨hb1, by rw [hw1]; exact Nat.le_refl _⟩
  have HW1 := Lib.hid hw1
  have HG1 := Lib.hid hg1
  clear hw1 hg1 hb1 k1 ha hR hc
  by_cases h0 : a = 0
  · subst h0
    go_enter Tryz.func50, Tryz.ntmps50
    go_upto_region 1 with fail
    rw [← HW1.out, ← HG1.out]
    go_wp2_with fail
    go_ret
    exact ⟨by rw [HR.out]; rfl, HB.out⟩
  · by_cases h3 : a = 3
    · subst h3
      go_enter Tryz.func50, Tryz.ntmps50
      go_upto_region 1 with fail
      rw [← HW1.out, ← HG1.out]
      go_wp2_with fail
      go_ret
      exact ⟨by rw [HR.out]; rfl, HB.out⟩
    · have e0 : (a == 0) = false := by simpa using h0
      have e3 : (a == 3) = false := by simpa using h3
      have hr : Hid (R = 1) := Lib.hid (by rw [HR.out, if_neg h0, if_neg h3])
      go_enter Tryz.func50, Tryz.ntmps50
      go_upto_region 1 with fail
      rw [← HW1.out, ← HG1.out]
      go_wp2_with fail
      go_ret
      exact ⟨by rw [hr.out]; rfl, HB.out⟩
theorem rank_bd (c : Cut) : 0 ≤ c.rank ∧ c.rank ≤ 2 := by unfold Cut.rank; split <;> (try split) <;> omega

set_option maxRecDepth 100000 in
set_option maxHeartbeats 4000000 in
theorem cutCmp_g (c d : Cut) (hc : c.Ok) (hd : d.Ok) (w : World) : Calls Tryz.prog 33 #[.agg c.cells.toArray, .agg d.cells.toArray] w fun e w' => e = .returned (.int .i64 (c.cmp d)) ∧ Below w.heap.size w w' ∧ w.drawn ≤ w'.drawn := by
  obtain ⟨w1, hw1⟩ : ∃ w1, w1 = w.alloc (.cells c.cells.toArray 57) := ⟨_, rfl⟩
  obtain ⟨w2, hw2⟩ : ∃ w2, w2 = w1.alloc (.cells d.cells.toArray 57) := ⟨_, rfl⟩
  obtain ⟨g2, hg2⟩ : ∃ g2, g2 = w.heap.size := ⟨_, rfl⟩
  obtain ⟨g3, hg3⟩ : ∃ g3, g3 = g2 + 1 := ⟨_, rfl⟩
  have hb1 : Below w.heap.size w w1 := by rw [hw1]; exact (Below.refl _ _).alloc (Nat.le_refl _) _
  have hb2 : Below w1.heap.size w1 w2 := by rw [hw2]; exact (Below.refl _ _).alloc (Nat.le_refl _) _
  have k1 : Blk w1 g2 57 c.cells := by rw [hw1, hg2]; exact Blk.new _ _ c.cells.toArray
  have k2 : Blk w2 g2 57 c.cells := k1.below' hb2
  have k3 : Blk w2 g3 57 d.cells := by
    have e : g3 = w1.heap.size := by rw [hg3, hg2, hw1]; simp
    rw [hw2, e]; exact Blk.new _ _ d.cells.toArray
  have ca : w2.cell? ⟨g2, 0, none⟩ = some (.int .i64 c.a) := by rw [k2.cell]; rfl
  have cb : w2.cell? ⟨g3, 0, none⟩ = some (.int .i64 d.a) := by rw [k3.cell]; rfl
  have l2 := k2.lt
  have l3 := k3.lt
  obtain ⟨wd, hwd⟩ : ∃ wd, wd = w2.drew := ⟨_, rfl⟩
  have hbd : Below w2.heap.size w2 wd := by rw [hwd]; exact (Below.refl _ _).drew
  have HLX : Hid (∀ wx, Below wd.heap.size wd wx → Hid ((loadVar 57 ⟨g2, 0, none⟩).run Tryz.prog wx = .ok (.agg c.cells.toArray) wx) ∧ Hid ((loadVar 57 ⟨g3, 0, none⟩).run Tryz.prog wx = .ok (.agg d.cells.toArray) wx)) :=
    Lib.hid (fun wx h => ⟨Lib.hid (cload ((k2.below' hbd).below' h) hc), Lib.hid (cload ((k3.below' hbd).below' h) hd)⟩)
  have LVC := Lib.hid (cvload k2 hc)
  have LVD := Lib.hid (cvload k3 hd)
  have HC := Lib.hid hc
  have HD := Lib.hid hd
  have HB2 : Hid (Below w.heap.size w w2) := Lib.hid (hb1.trans (hb2.mono hb1.size))
  have HBD := Lib.hid hbd
  have HD2 : Hid (w.drawn ≤ w2.drawn) := Lib.hid (by rw [hw2, hw1]; exact Nat.le_refl _)
  have HDD : Hid (w.drawn ≤ wd.drawn) := Lib.hid (by rw [hwd]; exact Nat.le_succ_of_le HD2.out)
  have HW1 := Lib.hid hw1
  have HW2 := Lib.hid hw2
  have HG2 := Lib.hid hg2
  have HG3 := Lib.hid hg3
  obtain ⟨a, ha⟩ : ∃ a, a = c.a := ⟨_, rfl⟩
  obtain ⟨b, hb⟩ : ∃ b, b = d.a := ⟨_, rfl⟩
  obtain ⟨RC, hRC⟩ : ∃ RC, RC = c.rank := ⟨_, rfl⟩
  obtain ⟨RD, hRD⟩ : ∃ RD, RD = d.rank := ⟨_, rfl⟩
  have hrc := rank_bd c
  have hrd := rank_bd d
  rw [← hRC] at hrc
  rw [← hRD] at hrd
  obtain ⟨hrc0, hrc2⟩ := hrc
  obtain ⟨hrd0, hrd2⟩ := hrd
  have HRc := Lib.hid hRC.symm
  have HRd := Lib.hid hRD.symm
  obtain ⟨E, hE⟩ : ∃ E, E = (c.edge || d.edge) := ⟨_, rfl⟩
  have HED : Hid (E = (a == 0 || b == 0 || a == 3 || b == 3)) := Lib.hid (by
    rw [hE, ha, hb]; unfold Cut.edge
    cases (c.a == 0) <;> cases (c.a == 3) <;> cases (d.a == 0) <;> cases (d.a == 3) <;> rfl)
  obtain ⟨RES, hRES⟩ : ∃ RES, RES = c.cmp d := ⟨_, rfl⟩
  rw [← hRES]
  have HRES : Hid (RES = if E then RC - RD else if c.v.cmp d.v = 0 then a - b else c.v.cmp d.v) := Lib.hid (by rw [hRES, hE, hRC, hRD, ha, hb]; rfl)
  rw [← ha] at ca
  rw [← hb] at cb
  have ha0 : 0 ≤ a := by rw [ha]; exact hc.2.1
  have ha3 : a ≤ 3 := by rw [ha]; exact hc.2.2
  have hb0 : 0 ≤ b := by rw [hb]; exact hd.2.1
  have hb3 : b ≤ 3 := by rw [hb]; exact hd.2.2
  clear hw1 hw2 hg2 hg3 hb1 hb2 k1 k2 k3 hbd hc hd ha hb hRC hRD hE hRES
  go_enter Tryz.func33, Tryz.ntmps33
  go_upto_region 1 with fail
  rw [← HW1.out, ← HW2.out, ← HG2.out, ← HG3.out]
  go_cut [23] (fun v wx => wx = w2 ∧ v = .bool E)
  case first =>
    by_cases e1 : a = 0
    · have hE : Hid (E = true) := Lib.hid (by rw [HED.out, e1]; rfl)
      subst e1
      go_wp2_with fail
      go_meet
      exact ⟨rfl, by rw [hE.out]⟩
    have n1 : (a == 0) = false := by simpa using e1
    by_cases e2 : b = 0
    · have hE : Hid (E = true) := Lib.hid (by rw [HED.out, e2]; simp)
      subst e2
      go_wp2_with fail
      go_meet
      exact ⟨rfl, by rw [hE.out]⟩
    have n2 : (b == 0) = false := by simpa using e2
    by_cases e3 : a = 3
    · have hE : Hid (E = true) := Lib.hid (by rw [HED.out, e3]; simp)
      subst e3
      go_wp2_with fail
      go_meet
      exact ⟨rfl, by rw [hE.out]⟩
    have n3 : (a == 3) = false := by simpa using e3
    by_cases e4 : b = 3
    · have hE : Hid (E = true) := Lib.hid (by rw [HED.out, e4]; simp)
      subst e4
      go_wp2_with fail
      go_meet
      exact ⟨rfl, by rw [hE.out]⟩
    have n4 : (b == 3) = false := by simpa using e4
    have hE : Hid (E = false) := Lib.hid (by rw [HED.out, n1, n2, n3, n4]; rfl)
    go_wp2_with fail
    go_meet
    exact ⟨rfl, by rw [hE.out]⟩
  case rest =>
  obtain ⟨hcw, rfl⟩ := hcut
  obtain rfl : w2 = _ := hcw.symm
  cases E with
  | true =>
    have HR : Hid (RES = RC - RD) := Lib.hid (by rw [HRES.out]; rfl)
    have wr2 : IntKind.i64.wrap (RC - RD) = RC - RD := by rw [IntKind.wrap_i64]; omega
    clear HED HRES
    go_upto_region 2 with fail
    try simp only [Act.put, List.setIfInBounds_toArray, List.set_cons_zero, List.set_cons_succ]
    obtain ⟨Inv, hInv⟩ : ∃ Inv : Done → World → Prop, Inv = Chain2 1 3 (fun wI => wI = wd) (fun x wI => wd.drawn ≤ wI.drawn ∧ Below wd.heap.size wd wI) (fun x y wI => wd.drawn ≤ wI.drawn ∧ Below wd.heap.size wd wI) := ⟨_, rfl⟩
    have HI := Lib.hid hInv
    have hcz : Hid (∀ τ wI, Inv τ wI → τ 3 = none → Hid ((loadVar 57 ⟨g2, 0, none⟩).run Tryz.prog wI = .ok (.agg c.cells.toArray) wI) ∧ Hid ((loadVar 57 ⟨g3, 0, none⟩).run Tryz.prog wI = .ok (.agg d.cells.toArray) wI)) := by
      intro τ wI h h9
      rw [hInv] at h
      rcases h.upto1 h9 with rfl | ⟨x, _, hb⟩
      · exact HLX.out _ (Below.refl _ _)
      · exact HLX.out _ hb
    have H00 : Hid (Inv Done.none w2.drew) := by rw [hInv]; exact Chain2.start hwd.symm
    clear hInv hwd
    refine wp_region_inv (by kernel_rfl) [⟨0, false, [], [1, 3]⟩, ⟨2, false, [], [3]⟩, ⟨1, true, [], [3]⟩, ⟨3, true, [1], []⟩, ⟨4, false, [1, 3], []⟩, ⟨5, false, [1, 3], []⟩] (by kernel_rfl) Inv (fun i v => (i = 1 → v = .int .i64 RC) ∧ (i = 3 → v = .int .i64 RD)) (fun e => ⟨if e = 1 then .int .i64 RC else .int .i64 RD, fun h => by simp [h], fun h => by simp [h]⟩) H00.out ?_
    (apply WpI.pure; (simp only [List.getElem?_toArray, List.getElem?_cons_succ, List.getElem?_cons_zero]; rfl); (intro τ wI hA hI; obtain ⟨f0, f1⟩ := hcz.out τ wI hI (hA.2 3 (by decide)); refine runs_load_a rfl 57 (.tmp 2) rfl ⟨g2, 0, none⟩ rfl _ f0.out ?_; exact ⟨hI, Is.rfl'⟩); simp only [Act.put, List.setIfInBounds_toArray, List.set_cons_zero, List.set_cons_succ])
    (apply WpI.pure; (simp only [List.getElem?_toArray, List.getElem?_cons_succ, List.getElem?_cons_zero]; rfl); (intro τ wI hA hI; obtain ⟨f0, f1⟩ := hcz.out τ wI hI (hA.2 3 (by decide)); refine runs_load_a rfl 57 (.tmp 3) rfl ⟨g3, 0, none⟩ rfl _ f1.out ?_; exact ⟨hI, Is.rfl'⟩); simp only [Act.put, List.setIfInBounds_toArray, List.set_cons_zero, List.set_cons_succ])
    apply WpI.effect; (simp only [List.getElem?_toArray, List.getElem?_cons_succ, List.getElem?_cons_zero]; rfl)
    · intro τ wI hA hn hI
      have h0 := hI
      rw [HI.out] at h0
      have h3 : τ 3 = none := hA.2 3 (by decide)
      have hK := h0.at0 hn h3
      have HT := Lib.hid (And.intro True.intro (And.intro h3 (True.intro)))
      clear hA hn hI h0 h3
      subst hK



      go_simp
      refine (rank_ok c HC.out wI).mono ?_
      rintro e w' ⟨rfl, hb', hd'⟩
      refine ⟨_, rfl, by rw [HRc.out], ?_⟩
      rw [HI.out]
      exact Chain2.put1 HT.out.2.1 (by decide) ⟨hd', hb'⟩
    intro v1 hv1
    simp only [Act.put, List.setIfInBounds_toArray, List.set_cons_zero, List.set_cons_succ]
    skip
    apply WpI.effect; (simp only [List.getElem?_toArray, List.getElem?_cons_succ, List.getElem?_cons_zero]; rfl)
    · intro τ wI hA hn hI
      have h0 := hI
      rw [HI.out] at h0
      have h1 : τ 1 = some v1 := hA.1 1 (by decide)
      have hK := h0.at1 h1 hn
      have HT := Lib.hid (And.intro True.intro (And.intro h1 (True.intro)))
      clear hA hn hI h0 h1
      obtain ⟨hE, hw⟩ := hK
      have HW := Lib.hid hw
      have HE := Lib.hid hE
      clear hw hE
      go_simp
      refine (rank_ok d HD.out wI).mono ?_
      rintro e w' ⟨rfl, hb', hd'⟩
      refine ⟨_, rfl, by rw [HRd.out], ?_⟩
      rw [HI.out]
      exact Chain2.put2 HT.out.2.1 (by decide) ⟨Nat.le_trans HE.out hd', HW.out.trans (hb'.mono HW.out.size)⟩
    intro v3 hv3
    simp only [Act.put, List.setIfInBounds_toArray, List.set_cons_zero, List.set_cons_succ]
    have e1v := hv1.1 rfl
    subst e1v
    have e3v := hv3.2 rfl
    subst e3v
    iterate 2 (apply WpI.pure; (simp only [List.getElem?_toArray, List.getElem?_cons_succ, List.getElem?_cons_zero]; rfl); (intro τ wI hA hI; go_simp; exact ⟨hI, Is.rfl'⟩); simp only [Act.put, List.setIfInBounds_toArray, List.set_cons_zero, List.set_cons_succ])
    refine WpI.done ?_
    intro w5 hI
    rw [HI.out] at hI
    have hE := hI.end_ (by decide)
    have HB5 : Hid (Below w.heap.size w w5) := Lib.hid ((HB2.out.trans (HBD.out.mono HB2.out.size)).trans (hE.2.mono (Nat.le_trans HB2.out.size HBD.out.size)))
    have HD5 : Hid (w.drawn ≤ w5.drawn) := Lib.hid (Nat.le_trans HDD.out hE.1)
    clear hE hI hcz H00 HI HLX HBD
    go_wp2_with fail
    go_ret
    exact ⟨by rw [HR.out]; rfl, HB5.out, HD5.out⟩
  | false =>
    clear hwd
    obtain ⟨C, hC⟩ : ∃ C, C = c.v.cmp d.v := ⟨_, rfl⟩
    have HCC := Lib.hid hC.symm
    have HR : Hid (RES = if C = 0 then a - b else C) := Lib.hid (by rw [HRES.out, hC]; rfl)
    clear HED HRES hC
    go_wp2_with (first | refine wpList_load_at rfl 38 (.tmp 29) rfl ⟨g2, 1, none⟩ rfl _ LVC.out ?_ | refine wpList_load_at rfl 38 (.tmp 31) rfl ⟨g3, 1, none⟩ rfl _ LVD.out ?_)
    refine (compare_g c.v d.v HC.out.1 HD.out.1 w2).mono ?_
    rintro e w3 ⟨rfl, hb3, hd3⟩
    have HD3 : Hid (w.drawn ≤ w3.drawn) := Lib.hid (Nat.le_trans HD2.out hd3)
    rw [HCC.out]
    have HB3 : Hid (Below w.heap.size w w3) := Lib.hid (HB2.out.trans (hb3.mono HB2.out.size))
    have ca3 : w3.cell? ⟨g2, 0, none⟩ = some (.int .i64 a) := (hb3.cell (p := ⟨g2, 0, none⟩) l2).trans ca
    have cb3 : w3.cell? ⟨g3, 0, none⟩ = some (.int .i64 b) := (hb3.cell (p := ⟨g3, 0, none⟩) l3).trans cb
    have l23 : g2 < w3.heap.size := Nat.lt_of_lt_of_le l2 hb3.size
    have l33 : g3 < w3.heap.size := Nat.lt_of_lt_of_le l3 hb3.size
    clear hb3 hd3 ca cb l2 l3
    by_cases hC0 : C = 0
    · have HR2 : Hid (RES = a - b) := Lib.hid (by rw [HR.out, if_pos hC0])
      subst hC0
      go_wp2_with fail
      go_ret
      exact ⟨by rw [HR2.out]; rfl, HB3.out, HD3.out⟩
    · have HR2 : Hid (RES = C) := Lib.hid (by rw [HR.out, if_neg hC0])
      have n0 : (C == 0) = false := by simpa using hC0
      go_wp2_with fail
      go_ret
      exact ⟨by rw [HR2.out]; rfl, HB3.out, HD3.out⟩
theorem cutCmp_ok (c d : Cut) (hc : c.Ok) (hd : d.Ok) (w : World) : Calls Tryz.prog 33 #[.agg c.cells.toArray, .agg d.cells.toArray] w fun e w' => e = .returned (.int .i64 (c.cmp d)) ∧ Below w.heap.size w w' := (cutCmp_g c d hc hd w).mono fun _ _ h => ⟨h.1, h.2.1⟩
end Go.Proofs.YteeijjhgdplifaaGreatDoor
