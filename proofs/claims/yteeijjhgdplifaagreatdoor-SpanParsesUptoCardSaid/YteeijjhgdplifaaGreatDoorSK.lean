/- Spans: slices.Compact at cuts. -/
import Derived.Test.YteeijjhgdplifaaGreatDoorSI
namespace Go.Proofs.YteeijjhgdplifaaGreatDoor
open Go.RowKit

theorem runs_eql_run {P : Program} {ops : Array Oper} {o : Oper} {a : Act} {w : World} {R : Value → World → Prop} (hgd : o.guard = none) (t ty : TypeId) (x y : Operand) (ho : o.op = .binOp .eql t x y ty) (xs ys : Array Value) (hx : a.eval x = .agg xs) (hy : a.eval y = .agg ys)
    (hg : P.eqGuardType P.depth t = false) (r : Bool) (hr : (Op.equalIn 10000 t (.agg xs) (.agg ys)).run P w = .ok r w) (h : R (.bool r) w) : Runs P ops o a w R := by
  unfold Runs Region.wanted
  rw [hgd]
  show Out P R ((execOp a.eval o).run P w)
  unfold execOp
  simp only [ho, hx, hy, Sem.run_bind, run_eqGuard_agg w .eql t x y xs ys hg, Result.andThen_ok, run_eql_struct, hr, Sem.run_pure]
  exact h
theorem wp_load_a {P : Program} {o : Oper} {a : Act} {w : World} {K : Act → World → Prop} {Q : Exit → Act → World → Prop} (ty : TypeId) (x : Operand) (ho : o.op = .load ty x) (p : Addr) (hx : a.eval x = .pointer (some p)) (v : Value)
    (hr : (loadVar ty p).run P w = .ok v w) (h : K (a.put o.dst v) w) : o.wp P a w K Q := by
  unfold Oper.wp execOp
  simp only [ho, hx, Instr.loadAt, Instr.sureAddr, Sem.run_bind, Sem.run_pure, Result.andThen_ok, hr]
  exact h
theorem wpList_load_a {P : Program} {ops : Array Oper} {rest : List Oper} {o : Oper} {a : Act} {w : World} {Q : Exit → Act → World → Prop} (hgd : o.guard = none) (ty : TypeId) (x : Operand) (ho : o.op = .load ty x) (p : Addr) (hx : a.eval x = .pointer (some p)) (v : Value)
    (hr : (loadVar ty p).run P w = .ok v w) (h : wpList P ops Q rest (a.put o.dst v) w) : wpList P ops Q (o :: rest) a w :=
  wpList_plain hgd fun _ hK => wp_load_a ty x ho p hx v hr (hK _ _ h)
set_option maxRecDepth 100000 in
set_option maxHeartbeats 4000000 in
theorem compact_ok (cs : List Cut) (g c n : Nat) (hX : n ≤ 1000000) (w0 w : World) (hb : Below w0.heap.size w0 w) (hr : CRow w w0.heap.size (some ⟨g, 0, none⟩) c n cs) :
    Calls Tryz.prog 47 #[.slice (some ⟨g, 0, none⟩) n c] w fun e w' => ∃ m, e = .returned (.slice (some ⟨g, 0, none⟩) m c) ∧ CRow w' w0.heap.size (some ⟨g, 0, none⟩) c m (cmpc cs) ∧ Below w0.heap.size w0 w' := by
  have HB := Lib.hid hb
  have HR := Lib.hid hr
  clear hb hr
  by_cases h2 : n < 2
  · have h2I : (n : Int) < 2 := by omega
    go_enter Tryz.func47, Tryz.ntmps47
    go_wp2_with fail
    go_ret
    refine ⟨n, rfl, ?_, HB.out⟩
    have h := HR.out
    have hl := h.1
    match cs, hl with
    | [], _ => exact h
    | [x], _ => exact h
    | x :: y :: r, hl => simp at hl; omega
  · have h2I : ¬ (n : Int) < 2 := by omega
    have H0 : Hid (∀ j, j < 0 + 1 → Lib.keeps cs.toArray j = true) := Lib.hid (fun j hj => Lib.keeps_lt_one _ j (by omega))
    go_enter Tryz.func47, Tryz.ntmps47
    go_wp2_with fail
    go_loopg [3] n (fun kq iv wr => ∃ k : Nat, iv = .int .i64 (k + 1 : Nat) ∧ k + 1 ≤ n ∧ kq = n - k ∧ Hid (∀ j, j < k + 1 → Lib.keeps cs.toArray j = true) ∧ Hid (Below w0.heap.size w0 wr) ∧ Hid (CRow wr w0.heap.size (some ⟨g, 0, none⟩) c n cs))
    case atStart => exact ⟨0, rfl, by omega, by omega, H0, HB, HR⟩
    case round =>
    clear H0 HB HR
    obtain ⟨k, rfl, hk, rfl, HK, HB, HR⟩ := hrel
    by_cases hlt : k + 1 < n
    · have hltI : ((k + 1 : Nat) : Int) < (n : Int) := by omega
      have hltI2 : (k : Int) + 1 < (n : Int) := by omega
      have hk0 : 0 ≤ (k : Int) := by omega
      have hkn : (k : Int) < (n : Int) := by omega
      have hwk : IntKind.i64.wrap (k : Int) = (k : Int) := by rw [IntKind.wrap_i64]; omega
      obtain ⟨x, hx⟩ : ∃ x, cs[k + 1]? = some x := ⟨_, List.getElem?_eq_getElem (by have := HR.out.1; omega)⟩
      obtain ⟨y, hy⟩ : ∃ y, cs[k]? = some y := ⟨_, List.getElem?_eq_getElem (by have := HR.out.1; omega)⟩
      have HXI := Lib.hid hx
      have HYI := Lib.hid hy
      have HXO : Hid x.Ok := Lib.hid (HR.out.2.1 x (List.mem_of_getElem? hx))
      have HYO : Hid y.Ok := Lib.hid (HR.out.2.1 y (List.mem_of_getElem? hy))
      clear hx hy
      by_cases hxy : x = y
      · have HQ : Hid (decide (x = y) = true) := Lib.hid (decide_eq_true hxy)
        clear hxy
        have hnc : n ≤ c := by
          obtain ⟨A, c', e, h, _⟩ := own_form HR.out.2.2.1
          simp only [Value.slice.injEq] at e
          omega
        have hkc : k + 1 ≤ n := by omega
        have hncI : (n : Int) ≤ (c : Int) := by omega
        go_upto_region 6 with fail
        try simp only [Act.put, List.setIfInBounds_toArray, List.set_cons_zero, List.set_cons_succ]
        obtain ⟨Inv, hInv⟩ : ∃ Inv : Done → World → Prop, Inv = fun _ wI => (fun wI => Below w0.heap.size w0 wI ∧ CRow wI w0.heap.size (some ⟨g, 0, none⟩) c n cs) wI := ⟨_, rfl⟩
        have HI := Lib.hid hInv
        have hcz : Hid (∀ τ wI, Inv τ wI → Below w0.heap.size w0 wI ∧ CRow wI w0.heap.size (some ⟨g, 0, none⟩) c n cs) := by
          intro τ wI h
          rw [hInv] at h
          exact h
        have H00 : Hid (Inv Done.none wr.drew) := by rw [hInv]; exact ⟨HB.out.drew, HR.out.below (Below.refl _ _).drew⟩
        clear hInv
        refine wp_region_inv (by kernel_rfl) [⟨0, false, [], []⟩, ⟨1, false, [], []⟩, ⟨2, false, [], []⟩, ⟨3, false, [], []⟩, ⟨4, false, [], []⟩, ⟨5, false, [], []⟩, ⟨6, false, [], []⟩, ⟨7, false, [], []⟩, ⟨8, false, [], []⟩, ⟨9, false, [], []⟩] (by kernel_rfl) Inv (fun _ _ => True) (fun _ => ⟨undef, trivial⟩) H00.out ?_
        iterate 3 (apply WpI.pure; (simp only [List.getElem?_toArray, List.getElem?_cons_succ, List.getElem?_cons_zero]; rfl); (intro τ wI hA hI; obtain ⟨f0, f1⟩ := hcz.out τ wI hI; go_simp; exact ⟨hI, Is.rfl'⟩); simp only [Act.put, List.setIfInBounds_toArray, List.set_cons_zero, List.set_cons_succ])
        (apply WpI.pure; (simp only [List.getElem?_toArray, List.getElem?_cons_succ, List.getElem?_cons_zero]; rfl); (intro τ wI hA hI; obtain ⟨f0, f1⟩ := hcz.out τ wI hI; refine runs_load_a rfl 57 (.tmp 18) rfl ⟨g, (k + 1) * 7, none⟩ rfl _ (f1.load HXI.out) ?_; exact ⟨hI, Is.rfl'⟩); simp only [Act.put, List.setIfInBounds_toArray, List.set_cons_zero, List.set_cons_succ])
        iterate 4 (apply WpI.pure; (simp only [List.getElem?_toArray, List.getElem?_cons_succ, List.getElem?_cons_zero]; rfl); (intro τ wI hA hI; obtain ⟨f0, f1⟩ := hcz.out τ wI hI; go_simp; exact ⟨hI, Is.rfl'⟩); simp only [Act.put, List.setIfInBounds_toArray, List.set_cons_zero, List.set_cons_succ])
        (apply WpI.pure; (simp only [List.getElem?_toArray, List.getElem?_cons_succ, List.getElem?_cons_zero]; rfl); (intro τ wI hA hI; obtain ⟨f0, f1⟩ := hcz.out τ wI hI; refine runs_load_a rfl 57 (.tmp 23) rfl ⟨g, k * 7, none⟩ rfl _ (f1.load HYI.out) ?_; exact ⟨hI, Is.rfl'⟩); simp only [Act.put, List.setIfInBounds_toArray, List.set_cons_zero, List.set_cons_succ])
        (apply WpI.pure; (simp only [List.getElem?_toArray, List.getElem?_cons_succ, List.getElem?_cons_zero]; rfl); (intro τ wI hA hI; obtain ⟨f0, f1⟩ := hcz.out τ wI hI; refine runs_eql_run rfl 57 57 (.tmp 19) (.tmp 24) rfl x.cells.toArray y.cells.toArray rfl rfl (by kernel_rfl) true (by rw [← HQ.out]; exact ceql x y HXO.out HYO.out wI) ?_; exact ⟨hI, Is.rfl'⟩); simp only [Act.put, List.setIfInBounds_toArray, List.set_cons_zero, List.set_cons_succ])
        refine WpI.done ?_
        intro w7 hI
        rw [HI.out] at hI
        have hE := hI
        have HB7 : Hid (Below w0.heap.size w0 w7) := Lib.hid hE.1
        have HR7 : Hid (CRow w7 w0.heap.size (some ⟨g, 0, none⟩) c n cs) := Lib.hid hE.2
        have HKN : Hid (Lib.keeps cs.toArray (k + 1) = false) := Lib.hid (by
          have e1 : cs.toArray[k + 1]! = x := by have := HXI.out; simp [this]
          have e2 : cs.toArray[k + 1 - 1]! = y := by have := HYI.out; simp [this]
          exact Lib.keeps_neg (by omega) (by rw [e1, e2]; exact of_decide_eq_true HQ.out))
        have HC0 : Hid (Lib.CompInv cs.toArray (k + 1 + (0 + 1)) (k + 1) cs.toArray) := Lib.hid (Lib.CompInv.start HK.out HKN.out)
        clear hI hE hcz H00 HI HB HR HXI HYI HXO HYO
        go_wp2_with fail
        go_loopg [3, 5] n (fun kq s3 s5 wr => ∃ (kk j : Nat) (dk : List Cut), s3 = .int .i64 kk ∧ s5 = .int .i64 (j + 1 : Nat) ∧ k + 1 + (j + 1) ≤ n ∧ kq = n - j ∧ Hid (Lib.CompInv cs.toArray (k + 1 + (j + 1)) kk dk.toArray) ∧ Hid (Below w0.heap.size w0 wr) ∧ Hid (CRow wr w0.heap.size (some ⟨g, 0, none⟩) c n dk))
        case atStart => exact ⟨k + 1, 0, cs, by go_num, by go_num, by omega, by omega, HC0, HB7, HR7⟩
        case round =>
        clear HC0 HB7 HR7 hlt hltI hltI2 hk0 hkn hwk
        obtain ⟨kk, j, dk, rfl, rfl, hj, rfl, HC, HB, HR⟩ := hrel
        by_cases hlt : k + 1 + (j + 1) < n
        · have hltI : ((j + 1 : Nat) : Int) < ((n - (k + 1) : Nat) : Int) := by omega
          have hltI2 : (j : Int) + 1 < ((n - (k + 1) : Nat) : Int) := by omega
          have hltN : j + 1 < n - (k + 1) := by omega
          have hj0 : 0 ≤ (j : Int) := by omega
          have hjn : (j : Int) < ((n - (k + 1) : Nat) : Int) := by omega
          have hwj : IntKind.i64.wrap (j : Int) = (j : Int) := by rw [IntKind.wrap_i64]; omega
          have hkk : kk < k + 1 + (j + 1) := HC.out.lt
          have hkI : (kk : Int) < (n : Int) := by omega
          have hk0 : 0 ≤ (kk : Int) := by omega
          obtain ⟨x, hx⟩ : ∃ x, dk[k + 1 + (j + 1)]? = some x := ⟨_, List.getElem?_eq_getElem (by have := HR.out.1; omega)⟩
          obtain ⟨y, hy⟩ : ∃ y, dk[k + 1 + j]? = some y := ⟨_, List.getElem?_eq_getElem (by have := HR.out.1; omega)⟩
          have HXI := Lib.hid hx
          have HYI := Lib.hid hy
          have HXO : Hid x.Ok := Lib.hid (HR.out.2.1 x (List.mem_of_getElem? hx))
          have HYO : Hid y.Ok := Lib.hid (HR.out.2.1 y (List.mem_of_getElem? hy))
          clear hx hy
          have HX1 : Hid (cs.toArray[k + 1 + (j + 1)]! = x) := Lib.hid (by rw [← HC.out.high _ (by omega)]; have := HXI.out; simp [this])
          have HY1 : Hid (cs.toArray[k + 1 + (j + 1) - 1]! = y) := Lib.hid (by rw [← HC.out.high _ (by omega)]; have := HYI.out; simp [show k + 1 + (j + 1) - 1 = k + 1 + j by omega, this])
          by_cases hxy : x = y
          · have HQ : Hid (decide (x = y) = true) := Lib.hid (decide_eq_true hxy)
            have HC1 : Hid (Lib.CompInv cs.toArray (k + 1 + (j + 1 + 1)) kk dk.toArray) := Lib.hid (HC.out.skip (Lib.keeps_neg (by omega) (by rw [HX1.out, HY1.out]; exact hxy)))
            clear hxy HC HX1 HY1
            go_upto_region 11 with fail
            try simp only [Act.put, List.setIfInBounds_toArray, List.set_cons_zero, List.set_cons_succ]
            obtain ⟨Inv, hInv⟩ : ∃ Inv : Done → World → Prop, Inv = fun _ wI => (fun wI => Below w0.heap.size w0 wI ∧ CRow wI w0.heap.size (some ⟨g, 0, none⟩) c n dk) wI := ⟨_, rfl⟩
            have HI := Lib.hid hInv
            have hcz : Hid (∀ τ wI, Inv τ wI → Below w0.heap.size w0 wI ∧ CRow wI w0.heap.size (some ⟨g, 0, none⟩) c n dk) := by
              intro τ wI h
              rw [hInv] at h
              exact h
            have H00 : Hid (Inv Done.none wr.drew) := by rw [hInv]; exact ⟨HB.out.drew, HR.out.below (Below.refl _ _).drew⟩
            clear hInv
            refine wp_region_inv (by kernel_rfl) [⟨0, false, [], []⟩, ⟨1, false, [], []⟩, ⟨2, false, [], []⟩, ⟨3, false, [], []⟩, ⟨4, false, [], []⟩, ⟨5, false, [], []⟩, ⟨6, false, [], []⟩, ⟨7, false, [], []⟩, ⟨8, false, [], []⟩, ⟨9, false, [], []⟩] (by kernel_rfl) Inv (fun _ _ => True) (fun _ => ⟨undef, trivial⟩) H00.out ?_
            iterate 3 (apply WpI.pure; (simp only [List.getElem?_toArray, List.getElem?_cons_succ, List.getElem?_cons_zero]; rfl); (intro τ wI hA hI; obtain ⟨f0, f1⟩ := hcz.out τ wI hI; go_simp; exact ⟨hI, Is.rfl'⟩); simp only [Act.put, List.setIfInBounds_toArray, List.set_cons_zero, List.set_cons_succ])
            (apply WpI.pure; (simp only [List.getElem?_toArray, List.getElem?_cons_succ, List.getElem?_cons_zero]; rfl); (intro τ wI hA hI; obtain ⟨f0, f1⟩ := hcz.out τ wI hI; refine runs_load_a rfl 57 (.tmp 37) rfl ⟨g, (k + 1) * 7 + (j + 1) * 7, none⟩ rfl _ (by rw [show (k + 1) * 7 + (j + 1) * 7 = (k + 1 + (j + 1)) * 7 by omega]; exact f1.load HXI.out) ?_; exact ⟨hI, Is.rfl'⟩); simp only [Act.put, List.setIfInBounds_toArray, List.set_cons_zero, List.set_cons_succ])
            iterate 4 (apply WpI.pure; (simp only [List.getElem?_toArray, List.getElem?_cons_succ, List.getElem?_cons_zero]; rfl); (intro τ wI hA hI; obtain ⟨f0, f1⟩ := hcz.out τ wI hI; go_simp; exact ⟨hI, Is.rfl'⟩); simp only [Act.put, List.setIfInBounds_toArray, List.set_cons_zero, List.set_cons_succ])
            (apply WpI.pure; (simp only [List.getElem?_toArray, List.getElem?_cons_succ, List.getElem?_cons_zero]; rfl); (intro τ wI hA hI; obtain ⟨f0, f1⟩ := hcz.out τ wI hI; refine runs_load_a rfl 57 (.tmp 42) rfl ⟨g, (k + 1) * 7 + j * 7, none⟩ rfl _ (by rw [show (k + 1) * 7 + j * 7 = (k + 1 + j) * 7 by omega]; exact f1.load HYI.out) ?_; exact ⟨hI, Is.rfl'⟩); simp only [Act.put, List.setIfInBounds_toArray, List.set_cons_zero, List.set_cons_succ])
            (apply WpI.pure; (simp only [List.getElem?_toArray, List.getElem?_cons_succ, List.getElem?_cons_zero]; rfl); (intro τ wI hA hI; obtain ⟨f0, f1⟩ := hcz.out τ wI hI; refine runs_neq_run rfl 57 57 (.tmp 38) (.tmp 43) rfl x.cells.toArray y.cells.toArray rfl rfl (by kernel_rfl) true (by rw [← HQ.out]; exact ceql x y HXO.out HYO.out wI) ?_; exact ⟨hI, Is.rfl'⟩); simp only [Act.put, List.setIfInBounds_toArray, List.set_cons_zero, List.set_cons_succ])
            refine WpI.done ?_
            intro w8 hI
            rw [HI.out] at hI
            have hE := hI
            have HB8 : Hid (Below w0.heap.size w0 w8) := Lib.hid hE.1
            have HR8 : Hid (CRow w8 w0.heap.size (some ⟨g, 0, none⟩) c n dk) := Lib.hid hE.2
            clear hI hE hcz H00 HI HB HR
            go_wp2_with fail
            go_roundg (n - (j + 1))
            case measure => omega
            case rel => exact ⟨kk, j + 1, dk, by go_num, by go_num, by omega, rfl, HC1, HB8, HR8⟩
          · have HQ : Hid (decide (x = y) = false) := Lib.hid (decide_eq_false hxy)
            have HC1 : Hid (Lib.CompInv cs.toArray (k + 1 + (j + 1 + 1)) (kk + 1) (dk.set kk x).toArray) := Lib.hid (by
              have h := HC.out.keep (by have h1 := HC.out.size; have h2 := HR.out.1; simp only [List.size_toArray] at h1 ⊢; omega) (Lib.keeps_pos (by rw [HX1.out, HY1.out]; exact hxy))
              rw [HX1.out, List.setIfInBounds_toArray] at h
              exact h)
            clear hxy HC HX1 HY1
            go_upto_region 11 with fail
            try simp only [Act.put, List.setIfInBounds_toArray, List.set_cons_zero, List.set_cons_succ]
            obtain ⟨Inv, hInv⟩ : ∃ Inv : Done → World → Prop, Inv = fun _ wI => (fun wI => Below w0.heap.size w0 wI ∧ CRow wI w0.heap.size (some ⟨g, 0, none⟩) c n dk) wI := ⟨_, rfl⟩
            have HI := Lib.hid hInv
            have hcz : Hid (∀ τ wI, Inv τ wI → Below w0.heap.size w0 wI ∧ CRow wI w0.heap.size (some ⟨g, 0, none⟩) c n dk) := by
              intro τ wI h
              rw [hInv] at h
              exact h
            have H00 : Hid (Inv Done.none wr.drew) := by rw [hInv]; exact ⟨HB.out.drew, HR.out.below (Below.refl _ _).drew⟩
            clear hInv
            refine wp_region_inv (by kernel_rfl) [⟨0, false, [], []⟩, ⟨1, false, [], []⟩, ⟨2, false, [], []⟩, ⟨3, false, [], []⟩, ⟨4, false, [], []⟩, ⟨5, false, [], []⟩, ⟨6, false, [], []⟩, ⟨7, false, [], []⟩, ⟨8, false, [], []⟩, ⟨9, false, [], []⟩] (by kernel_rfl) Inv (fun _ _ => True) (fun _ => ⟨undef, trivial⟩) H00.out ?_
            iterate 3 (apply WpI.pure; (simp only [List.getElem?_toArray, List.getElem?_cons_succ, List.getElem?_cons_zero]; rfl); (intro τ wI hA hI; obtain ⟨f0, f1⟩ := hcz.out τ wI hI; go_simp; exact ⟨hI, Is.rfl'⟩); simp only [Act.put, List.setIfInBounds_toArray, List.set_cons_zero, List.set_cons_succ])
            (apply WpI.pure; (simp only [List.getElem?_toArray, List.getElem?_cons_succ, List.getElem?_cons_zero]; rfl); (intro τ wI hA hI; obtain ⟨f0, f1⟩ := hcz.out τ wI hI; refine runs_load_a rfl 57 (.tmp 37) rfl ⟨g, (k + 1) * 7 + (j + 1) * 7, none⟩ rfl _ (by rw [show (k + 1) * 7 + (j + 1) * 7 = (k + 1 + (j + 1)) * 7 by omega]; exact f1.load HXI.out) ?_; exact ⟨hI, Is.rfl'⟩); simp only [Act.put, List.setIfInBounds_toArray, List.set_cons_zero, List.set_cons_succ])
            iterate 4 (apply WpI.pure; (simp only [List.getElem?_toArray, List.getElem?_cons_succ, List.getElem?_cons_zero]; rfl); (intro τ wI hA hI; obtain ⟨f0, f1⟩ := hcz.out τ wI hI; go_simp; exact ⟨hI, Is.rfl'⟩); simp only [Act.put, List.setIfInBounds_toArray, List.set_cons_zero, List.set_cons_succ])
            (apply WpI.pure; (simp only [List.getElem?_toArray, List.getElem?_cons_succ, List.getElem?_cons_zero]; rfl); (intro τ wI hA hI; obtain ⟨f0, f1⟩ := hcz.out τ wI hI; refine runs_load_a rfl 57 (.tmp 42) rfl ⟨g, (k + 1) * 7 + j * 7, none⟩ rfl _ (by rw [show (k + 1) * 7 + j * 7 = (k + 1 + j) * 7 by omega]; exact f1.load HYI.out) ?_; exact ⟨hI, Is.rfl'⟩); simp only [Act.put, List.setIfInBounds_toArray, List.set_cons_zero, List.set_cons_succ])
            (apply WpI.pure; (simp only [List.getElem?_toArray, List.getElem?_cons_succ, List.getElem?_cons_zero]; rfl); (intro τ wI hA hI; obtain ⟨f0, f1⟩ := hcz.out τ wI hI; refine runs_neq_run rfl 57 57 (.tmp 38) (.tmp 43) rfl x.cells.toArray y.cells.toArray rfl rfl (by kernel_rfl) false (by rw [← HQ.out]; exact ceql x y HXO.out HYO.out wI) ?_; exact ⟨hI, Is.rfl'⟩); simp only [Act.put, List.setIfInBounds_toArray, List.set_cons_zero, List.set_cons_succ])
            refine WpI.done ?_
            intro w8 hI
            rw [HI.out] at hI
            have hE := hI
            have HB8 : Hid (Below w0.heap.size w0 w8) := Lib.hid hE.1
            have HR8 : Hid (CRow w8 w0.heap.size (some ⟨g, 0, none⟩) c n dk) := Lib.hid hE.2
            have hgb : w0.heap.size ≤ g := HR8.out.2.2.2 g rfl
            have HL : Hid ((loadVar 57 ⟨g, (k + 1) * 7 + (j + 1) * 7, none⟩).run Tryz.prog w8 = .ok (.agg x.cells.toArray) w8) := Lib.hid (by rw [show (k + 1) * 7 + (j + 1) * 7 = (k + 1 + (j + 1)) * 7 by omega]; exact HR8.out.load HXI.out)
            have e7 : x.cells.toArray.size = 7 := by simpa using Cut.cells_len HXO.out
            have HT : Hid (w8.there g (kk * 7) x.cells.toArray.size) := Lib.hid (by rw [e7]; exact HR8.out.there (by omega))
            have HS7 : Hid ((Tryz.prog.info? 57).map (·.size) = some x.cells.toArray.size) := Lib.hid (by rw [e7]; kernel_rfl)
            have HA : Hid (x.cells.toArray.all (·.oneCell') = true) := Lib.hid (all_oneCell_toArray (cut_one1 x))
            have HB9 : Hid (Below w0.heap.size w0 (w8.setCells g (kk * 7) x.cells.toArray.toList)) := Lib.hid (Below.setCells_ hgb _ _ HB8.out)
            have HR9 : Hid (CRow (w8.setCells g (kk * 7) x.cells.toArray.toList) w0.heap.size (some ⟨g, 0, none⟩) c n (dk.set kk x)) := Lib.hid (HR8.out.set (by omega) HXO.out)
            clear hI hE hcz H00 HI HB HR e7 HB8 HR8
            go_wp2_with (first | refine wpList_load_a rfl 57 (.tmp 49) rfl ⟨g, (k + 1) * 7 + (j + 1) * 7, none⟩ rfl _ HL.out ?_ | refine wpList_store_mid rfl 57 (.tmp 51) (.tmp 50) rfl g (kk * 7) x.cells.toArray rfl rfl HT.out HS7.out HA.out ?_)
            go_roundg (n - (j + 1))
            case measure => omega
            case rel => exact ⟨kk + 1, j + 1, dk.set kk x, by go_num, by go_num, by omega, rfl, HC1, HB9, HR9⟩
        · have hni : ¬ ((j + 1 : Nat) : Int) < ((n - (k + 1) : Nat) : Int) := by omega
          have hni2 : ¬ (j : Int) + 1 < ((n - (k + 1) : Nat) : Int) := by omega
          have hend : k + 1 + (j + 1) = n := by omega
          have hkk : kk ≤ n := by have := HC.out.lt; omega
          have hkI : (kk : Int) ≤ (n : Int) := by omega
          have hkc2 : kk ≤ c := by omega
          have hkn1 : kk < n := by have := HC.out.lt; omega
          have hkc1 : kk < c := by omega
          have hkc3 : ¬ kk = c := by omega
          have hkc4 : ¬ c = kk := by omega
          have hkc5 : (kk : Int) < (c : Int) := by omega
          have hk0 : 0 ≤ (kk : Int) := by omega
          have hgb : w0.heap.size ≤ g := HR.out.2.2.2 g rfl
          obtain ⟨vs, hvs⟩ : ∃ vs, ∀ ty, (Builtin.clear_ #[55] ty #[.slice (some ⟨g, kk * 7, none⟩) (n - kk) (c - kk)]).run Tryz.prog wr = .ok (.tuple #[]) (wr.setCells g (kk * 7) vs) := by
            obtain ⟨vs, h⟩ := clear_cuts HR.out hkk (c - kk) 0
            exact ⟨vs, fun _ => h⟩
          have HE : Hid (dk.take kk = cmpc cs) := Lib.hid (by
            have hl := HC.out.len
            have hs := HC.out.size
            have hlo := HC.out.low
            rw [hend, upTo_cmpc cs n (by rw [← show dk.length = n from HR.out.1]; simpa using Nat.le_of_eq hs)] at hl hlo
            have hcl : cs.length = n := by have := HR.out.1; simp only [List.size_toArray] at hs; omega
            rw [List.take_of_length_le (by omega)] at hl hlo
            refine List.ext_getElem? fun i => ?_
            rw [List.getElem?_take]
            by_cases hi : i < kk
            · rw [if_pos hi, hlo i hi]
              have : i < dk.length := by have := HR.out.1; omega
              simp [this]
            · rw [if_neg hi, List.getElem?_eq_none (by omega)])
          have HB9 : Hid (Below w0.heap.size w0 (wr.setCells g (kk * 7) vs)) := Lib.hid (Below.setCells_ hgb _ _ HB.out)
          have HR9 : Hid (CRow (wr.setCells g (kk * 7) vs) w0.heap.size (some ⟨g, 0, none⟩) c kk (cmpc cs)) := Lib.hid (by rw [← HE.out]; exact (HR.out.take hkk).past (Nat.le_refl _) vs)
          clear HB HR HC HE
          go_wp2_with fail
          go_ret
          exact ⟨kk, rfl, HR9.out, HB9.out⟩
      · have HQ : Hid (decide (x = y) = false) := Lib.hid (decide_eq_false hxy)
        clear hxy
        go_upto_region 6 with fail
        try simp only [Act.put, List.setIfInBounds_toArray, List.set_cons_zero, List.set_cons_succ]
        obtain ⟨Inv, hInv⟩ : ∃ Inv : Done → World → Prop, Inv = fun _ wI => (fun wI => Below w0.heap.size w0 wI ∧ CRow wI w0.heap.size (some ⟨g, 0, none⟩) c n cs) wI := ⟨_, rfl⟩
        have HI := Lib.hid hInv
        have hcz : Hid (∀ τ wI, Inv τ wI → Below w0.heap.size w0 wI ∧ CRow wI w0.heap.size (some ⟨g, 0, none⟩) c n cs) := by
          intro τ wI h
          rw [hInv] at h
          exact h
        have H00 : Hid (Inv Done.none wr.drew) := by rw [hInv]; exact ⟨HB.out.drew, HR.out.below (Below.refl _ _).drew⟩
        clear hInv
        refine wp_region_inv (by kernel_rfl) [⟨0, false, [], []⟩, ⟨1, false, [], []⟩, ⟨2, false, [], []⟩, ⟨3, false, [], []⟩, ⟨4, false, [], []⟩, ⟨5, false, [], []⟩, ⟨6, false, [], []⟩, ⟨7, false, [], []⟩, ⟨8, false, [], []⟩, ⟨9, false, [], []⟩] (by kernel_rfl) Inv (fun _ _ => True) (fun _ => ⟨undef, trivial⟩) H00.out ?_
        iterate 3 (apply WpI.pure; (simp only [List.getElem?_toArray, List.getElem?_cons_succ, List.getElem?_cons_zero]; rfl); (intro τ wI hA hI; obtain ⟨f0, f1⟩ := hcz.out τ wI hI; go_simp; exact ⟨hI, Is.rfl'⟩); simp only [Act.put, List.setIfInBounds_toArray, List.set_cons_zero, List.set_cons_succ])
        (apply WpI.pure; (simp only [List.getElem?_toArray, List.getElem?_cons_succ, List.getElem?_cons_zero]; rfl); (intro τ wI hA hI; obtain ⟨f0, f1⟩ := hcz.out τ wI hI; refine runs_load_a rfl 57 (.tmp 18) rfl ⟨g, (k + 1) * 7, none⟩ rfl _ (f1.load HXI.out) ?_; exact ⟨hI, Is.rfl'⟩); simp only [Act.put, List.setIfInBounds_toArray, List.set_cons_zero, List.set_cons_succ])
        iterate 4 (apply WpI.pure; (simp only [List.getElem?_toArray, List.getElem?_cons_succ, List.getElem?_cons_zero]; rfl); (intro τ wI hA hI; obtain ⟨f0, f1⟩ := hcz.out τ wI hI; go_simp; exact ⟨hI, Is.rfl'⟩); simp only [Act.put, List.setIfInBounds_toArray, List.set_cons_zero, List.set_cons_succ])
        (apply WpI.pure; (simp only [List.getElem?_toArray, List.getElem?_cons_succ, List.getElem?_cons_zero]; rfl); (intro τ wI hA hI; obtain ⟨f0, f1⟩ := hcz.out τ wI hI; refine runs_load_a rfl 57 (.tmp 23) rfl ⟨g, k * 7, none⟩ rfl _ (f1.load HYI.out) ?_; exact ⟨hI, Is.rfl'⟩); simp only [Act.put, List.setIfInBounds_toArray, List.set_cons_zero, List.set_cons_succ])
        (apply WpI.pure; (simp only [List.getElem?_toArray, List.getElem?_cons_succ, List.getElem?_cons_zero]; rfl); (intro τ wI hA hI; obtain ⟨f0, f1⟩ := hcz.out τ wI hI; refine runs_eql_run rfl 57 57 (.tmp 19) (.tmp 24) rfl x.cells.toArray y.cells.toArray rfl rfl (by kernel_rfl) false (by rw [← HQ.out]; exact ceql x y HXO.out HYO.out wI) ?_; exact ⟨hI, Is.rfl'⟩); simp only [Act.put, List.setIfInBounds_toArray, List.set_cons_zero, List.set_cons_succ])
        refine WpI.done ?_
        intro w7 hI
        rw [HI.out] at hI
        have hE := hI
        have HB7 : Hid (Below w0.heap.size w0 w7) := Lib.hid hE.1
        have HR7 : Hid (CRow w7 w0.heap.size (some ⟨g, 0, none⟩) c n cs) := Lib.hid hE.2
        have HKN : Hid (∀ j, j < k + 1 + 1 → Lib.keeps cs.toArray j = true) := Lib.hid (fun j hj => by
          by_cases e : j = k + 1
          · subst e
            refine Lib.keeps_pos ?_
            have e1 : cs.toArray[k + 1]! = x := by have := HXI.out; simp [this]
            have e2 : cs.toArray[k + 1 - 1]! = y := by have := HYI.out; simp [this]
            rw [e1, e2]
            exact of_decide_eq_false HQ.out
          · exact HK.out j (by omega))
        clear hI hE hcz H00 HI HB HR HK
        go_wp2_with fail
        go_roundg (n - (k + 1))
        case measure => omega
        case rel => exact ⟨k + 1, by go_num, by omega, rfl, HKN, HB7, HR7⟩
    · have hni : ¬ ((k + 1 : Nat) : Int) < (n : Int) := by omega
      have hni2 : ¬ (k : Int) + 1 < (n : Int) := by omega
      have HE : Hid (cmpc cs = cs) := Lib.hid (by
        have h := upTo_cmpc cs n (by rw [HR.out.1]; exact Nat.le_refl _)
        rw [List.take_of_length_le (by rw [HR.out.1]; exact Nat.le_refl _), Lib.compactUpTo_all _ _ (fun j hj => HK.out j (by omega))] at h
        rw [← h]
        have h3 := Lib.range_map_get cs.toArray
        simp only [List.size_toArray, HR.out.1] at h3
        exact h3)
      clear HK
      go_wp2_with fail
      go_ret
      exact ⟨n, rfl, by rw [HE.out]; exact HR.out, HB.out⟩
end Go.Proofs.YteeijjhgdplifaaGreatDoor
