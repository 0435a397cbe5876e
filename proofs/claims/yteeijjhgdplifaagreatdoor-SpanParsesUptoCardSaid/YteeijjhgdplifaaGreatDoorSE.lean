/- Spans: slices.Equal at cuts. -/
import Derived.Test.YteeijjhgdplifaaGreatDoorSD
import Derived.Test.YteeijjhgdplifaaGreatDoorS9
namespace Go.Proofs.YteeijjhgdplifaaGreatDoor
open Go.RowKit

theorem runs_neq_run {P : Program} {ops : Array Oper} {o : Oper} {a : Act} {w : World} {R : Value → World → Prop} (hgd : o.guard = none) (t ty : TypeId) (x y : Operand) (ho : o.op = .binOp .neq t x y ty) (xs ys : Array Value) (hx : a.eval x = .agg xs) (hy : a.eval y = .agg ys)
    (hg : P.eqGuardType P.depth t = false) (r : Bool) (hr : (Op.equalIn 10000 t (.agg xs) (.agg ys)).run P w = .ok r w) (h : R (.bool (!r)) w) : Runs P ops o a w R := by
  unfold Runs Region.wanted
  rw [hgd]
  show Out P R ((execOp a.eval o).run P w)
  unfold execOp
  simp only [ho, hx, hy, Sem.run_bind, run_eqGuard_agg w .neq t x y xs ys hg, Result.andThen_ok, run_neq_struct, hr, Sem.run_pure]
  exact h
set_option maxRecDepth 100000 in
set_option maxHeartbeats 2000000 in
theorem equal_ok (cs ds : List Cut) (hok : Oks cs) (hod : Oks ds) (A A2 : Option Addr) (n c m c2 : Nat) (hn : cs.length = n) (hm : ds.length = m) (hX : n ≤ 1000000) (hY : m ≤ 1000000) (F F2 : Nat → Prop) (w : World) (hs : Sl w F 7 (.slice A n c) n (cutsL cs)) (hs2 : Sl w F2 7 (.slice A2 m c2) m (cutsL ds)) :
    Calls Tryz.prog 27 #[.slice A n c, .slice A2 m c2] w fun e w' => e = .returned (.bool (decide (cs = ds))) ∧ Below w.heap.size w w' := by
  obtain ⟨E, hE⟩ : ∃ E, E = decide (cs = ds) := ⟨_, rfl⟩
  rw [← hE]
  have HE := Lib.hid hE
  have HN := Lib.hid hn
  have HM := Lib.hid hm
  have HOK := Lib.hid hok
  have HOD := Lib.hid hod
  have HS := Lib.hid hs
  have HS2 := Lib.hid hs2
  clear hE hn hm hok hod hs hs2
  by_cases hnm : n = m
  · subst hnm
    have e1 : (n == n) = true := beq_self_eq_true _
    have e2 : ((n : Int) == (n : Int)) = true := beq_self_eq_true _
    have H0 : Hid (cs.take 0 = ds.take 0) := Lib.hid rfl
    have HB0 : Hid (Below w.heap.size w w) := Lib.hid (Below.refl _ _)
    go_enter Tryz.func27, Tryz.ntmps27
    go_wp2_with fail
    go_loopg [13] n (fun kq iv wr => ∃ i : Nat, iv = .int .i64 i ∧ i ≤ n ∧ kq = n - i ∧ Hid (cs.take i = ds.take i) ∧ Hid (Below w.heap.size w wr))
    case atStart => exact ⟨0, rfl, Nat.zero_le _, rfl, H0, HB0⟩
    case round =>
    clear H0 HB0 e1 e2
    obtain ⟨i, rfl, hi, rfl, HTK, HB⟩ := hrel
    by_cases hlt : i < n
    · have hltI : (i : Int) < (n : Int) := by omega
      have hi0 : 0 ≤ (i : Int) := by omega
      obtain ⟨b, o, rfl, hrx⟩ := creads_of HOK.out HS.out (by omega)
      obtain ⟨b2, o2, rfl, hry⟩ := creads_of HOD.out HS2.out (by omega)
      obtain ⟨x, hx⟩ : ∃ x, cs[i]? = some x := ⟨_, List.getElem?_eq_getElem (by have := HN.out; omega)⟩
      obtain ⟨y, hy⟩ : ∃ y, ds[i]? = some y := ⟨_, List.getElem?_eq_getElem (by have := HM.out; omega)⟩
      have HRX := Lib.hid hrx
      have HRY := Lib.hid hry
      have HXI := Lib.hid hx
      have HYI := Lib.hid hy
      have HXO : Hid x.Ok := Lib.hid (HOK.out x (List.mem_of_getElem? hx))
      have HYO : Hid y.Ok := Lib.hid (HOD.out y (List.mem_of_getElem? hy))
      clear hrx hry hx hy
      by_cases hxy : x = y
      · have HQ : Hid (decide (x = y) = true) := Lib.hid (decide_eq_true hxy)
        have HTN : Hid (cs.take (i + 1) = ds.take (i + 1)) := Lib.hid (by rw [List.take_add_one, List.take_add_one, HXI.out, HYI.out, HTK.out, hxy])
        clear hxy HTK
        go_upto_region 6 with fail
        try simp only [Act.put, List.setIfInBounds_toArray, List.set_cons_zero, List.set_cons_succ]
        obtain ⟨Inv, hInv⟩ : ∃ Inv : Done → World → Prop, Inv = fun _ wI => (fun wI => Below w.heap.size w wI) wI := ⟨_, rfl⟩
        have HI := Lib.hid hInv
        have hcz : Hid (∀ τ wI, Inv τ wI → Below w.heap.size w wI) := by
          intro τ wI h
          rw [hInv] at h
          exact h
        have H00 : Hid (Inv Done.none wr.drew) := by rw [hInv]; exact HB.out.drew
        clear hInv
        refine wp_region_inv (by kernel_rfl) [⟨0, false, [], []⟩, ⟨1, false, [], []⟩, ⟨2, false, [], []⟩, ⟨3, false, [], []⟩, ⟨4, false, [], []⟩, ⟨5, false, [], []⟩, ⟨6, false, [], []⟩, ⟨7, false, [], []⟩, ⟨8, false, [], []⟩] (by kernel_rfl) Inv (fun _ _ => True) (fun _ => ⟨undef, trivial⟩) H00.out ?_
        iterate 3 (apply WpI.pure; (simp only [List.getElem?_toArray, List.getElem?_cons_succ, List.getElem?_cons_zero]; rfl); (intro τ wI hA hI; have f0 := hcz.out τ wI hI; go_simp; exact ⟨hI, Is.rfl'⟩); simp only [Act.put, List.setIfInBounds_toArray, List.set_cons_zero, List.set_cons_succ])
        (apply WpI.pure; (simp only [List.getElem?_toArray, List.getElem?_cons_succ, List.getElem?_cons_zero]; rfl); (intro τ wI hA hI; have f0 := hcz.out τ wI hI; refine runs_load_a rfl 57 (.tmp 18) rfl ⟨b, o + i * 7, none⟩ rfl _ (HRX.out wI f0 i x HXI.out) ?_; exact ⟨hI, Is.rfl'⟩); simp only [Act.put, List.setIfInBounds_toArray, List.set_cons_zero, List.set_cons_succ])
        iterate 3 (apply WpI.pure; (simp only [List.getElem?_toArray, List.getElem?_cons_succ, List.getElem?_cons_zero]; rfl); (intro τ wI hA hI; have f0 := hcz.out τ wI hI; go_simp; exact ⟨hI, Is.rfl'⟩); simp only [Act.put, List.setIfInBounds_toArray, List.set_cons_zero, List.set_cons_succ])
        (apply WpI.pure; (simp only [List.getElem?_toArray, List.getElem?_cons_succ, List.getElem?_cons_zero]; rfl); (intro τ wI hA hI; have f0 := hcz.out τ wI hI; refine runs_load_a rfl 57 (.tmp 22) rfl ⟨b2, o2 + i * 7, none⟩ rfl _ (HRY.out wI f0 i y HYI.out) ?_; exact ⟨hI, Is.rfl'⟩); simp only [Act.put, List.setIfInBounds_toArray, List.set_cons_zero, List.set_cons_succ])
        (apply WpI.pure; (simp only [List.getElem?_toArray, List.getElem?_cons_succ, List.getElem?_cons_zero]; rfl); (intro τ wI hA hI; have f0 := hcz.out τ wI hI; refine runs_neq_run rfl 57 57 (.tmp 19) (.tmp 23) rfl x.cells.toArray y.cells.toArray rfl rfl (by kernel_rfl) true (by rw [← HQ.out]; exact ceql x y HXO.out HYO.out wI) ?_; exact ⟨hI, Is.rfl'⟩); simp only [Act.put, List.setIfInBounds_toArray, List.set_cons_zero, List.set_cons_succ])
        refine WpI.done ?_
        intro w7 hI
        rw [HI.out] at hI
        have hE := hI
        have HB7 : Hid (Below w.heap.size w w7) := Lib.hid hE
        clear hI hE hcz H00 HI HB
        go_wp2_with fail
        go_roundg (n - (i + 1))
        case measure => omega
        case rel => exact ⟨i + 1, by go_num, by omega, rfl, HTN, HB7⟩
      · have HQ : Hid (decide (x = y) = false) := Lib.hid (decide_eq_false hxy)
        have HE0 : Hid (E = false) := Lib.hid (by
          rw [HE.out]
          refine decide_eq_false fun e => hxy ?_
          have h1 := HXI.out
          rw [e, HYI.out] at h1
          exact (Option.some.inj h1).symm)
        clear hxy HTK
        go_upto_region 6 with fail
        try simp only [Act.put, List.setIfInBounds_toArray, List.set_cons_zero, List.set_cons_succ]
        obtain ⟨Inv, hInv⟩ : ∃ Inv : Done → World → Prop, Inv = fun _ wI => (fun wI => Below w.heap.size w wI) wI := ⟨_, rfl⟩
        have HI := Lib.hid hInv
        have hcz : Hid (∀ τ wI, Inv τ wI → Below w.heap.size w wI) := by
          intro τ wI h
          rw [hInv] at h
          exact h
        have H00 : Hid (Inv Done.none wr.drew) := by rw [hInv]; exact HB.out.drew
        clear hInv
        refine wp_region_inv (by kernel_rfl) [⟨0, false, [], []⟩, ⟨1, false, [], []⟩, ⟨2, false, [], []⟩, ⟨3, false, [], []⟩, ⟨4, false, [], []⟩, ⟨5, false, [], []⟩, ⟨6, false, [], []⟩, ⟨7, false, [], []⟩, ⟨8, false, [], []⟩] (by kernel_rfl) Inv (fun _ _ => True) (fun _ => ⟨undef, trivial⟩) H00.out ?_
        iterate 3 (apply WpI.pure; (simp only [List.getElem?_toArray, List.getElem?_cons_succ, List.getElem?_cons_zero]; rfl); (intro τ wI hA hI; have f0 := hcz.out τ wI hI; go_simp; exact ⟨hI, Is.rfl'⟩); simp only [Act.put, List.setIfInBounds_toArray, List.set_cons_zero, List.set_cons_succ])
        (apply WpI.pure; (simp only [List.getElem?_toArray, List.getElem?_cons_succ, List.getElem?_cons_zero]; rfl); (intro τ wI hA hI; have f0 := hcz.out τ wI hI; refine runs_load_a rfl 57 (.tmp 18) rfl ⟨b, o + i * 7, none⟩ rfl _ (HRX.out wI f0 i x HXI.out) ?_; exact ⟨hI, Is.rfl'⟩); simp only [Act.put, List.setIfInBounds_toArray, List.set_cons_zero, List.set_cons_succ])
        iterate 3 (apply WpI.pure; (simp only [List.getElem?_toArray, List.getElem?_cons_succ, List.getElem?_cons_zero]; rfl); (intro τ wI hA hI; have f0 := hcz.out τ wI hI; go_simp; exact ⟨hI, Is.rfl'⟩); simp only [Act.put, List.setIfInBounds_toArray, List.set_cons_zero, List.set_cons_succ])
        (apply WpI.pure; (simp only [List.getElem?_toArray, List.getElem?_cons_succ, List.getElem?_cons_zero]; rfl); (intro τ wI hA hI; have f0 := hcz.out τ wI hI; refine runs_load_a rfl 57 (.tmp 22) rfl ⟨b2, o2 + i * 7, none⟩ rfl _ (HRY.out wI f0 i y HYI.out) ?_; exact ⟨hI, Is.rfl'⟩); simp only [Act.put, List.setIfInBounds_toArray, List.set_cons_zero, List.set_cons_succ])
        (apply WpI.pure; (simp only [List.getElem?_toArray, List.getElem?_cons_succ, List.getElem?_cons_zero]; rfl); (intro τ wI hA hI; have f0 := hcz.out τ wI hI; refine runs_neq_run rfl 57 57 (.tmp 19) (.tmp 23) rfl x.cells.toArray y.cells.toArray rfl rfl (by kernel_rfl) false (by rw [← HQ.out]; exact ceql x y HXO.out HYO.out wI) ?_; exact ⟨hI, Is.rfl'⟩); simp only [Act.put, List.setIfInBounds_toArray, List.set_cons_zero, List.set_cons_succ])
        refine WpI.done ?_
        intro w7 hI
        rw [HI.out] at hI
        have hE := hI
        have HB7 : Hid (Below w.heap.size w w7) := Lib.hid hE
        clear hI hE hcz H00 HI HB
        go_wp2_with fail
        go_ret
        exact ⟨by rw [HE0.out]; rfl, HB7.out⟩
    · have hni : ¬ (i : Int) < (n : Int) := by omega
      have HE1 : Hid (E = true) := Lib.hid (by
        rw [HE.out]
        have := HTK.out
        rw [List.take_of_length_le (by have := HN.out; omega), List.take_of_length_le (by have := HM.out; omega)] at this
        exact decide_eq_true this)
      clear HTK
      go_wp2_with fail
      go_ret
      exact ⟨by rw [HE1.out]; rfl, HB.out⟩
  · have e1 : (n == m) = false := by simpa using hnm
    have e2 : ((n : Int) == (m : Int)) = false := by rw [beq_eq_false_iff_ne]; omega
    have e3 : ¬ (n : Int) = (m : Int) := by omega
    have HE0 : Hid (E = false) := Lib.hid (by
      rw [HE.out]
      refine decide_eq_false fun e => hnm ?_
      rw [← HN.out, ← HM.out, e])
    go_enter Tryz.func27, Tryz.ntmps27
    go_wp2_with fail
    go_ret
    exact ⟨by rw [HE0.out]; rfl, Below.refl _ _⟩
end Go.Proofs.YteeijjhgdplifaaGreatDoor
