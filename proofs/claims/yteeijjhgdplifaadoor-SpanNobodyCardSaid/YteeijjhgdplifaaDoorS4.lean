/- Spans: what sets answer that no call made. -/
import Derived.Test.YteeijjhgdplifaaDoorS3
namespace Go.Proofs.YteeijjhgdplifaaDoor
open Go.RowKit

set_option maxRecDepth 100000 in
theorem merge_nob (p q fv : Value) (b1 b2 : Bool) (w : World) (h1 : NoneIs w p b1) (h2 : NoneIs w q b2) (h : b1 = true ∨ b2 = true) : Calls Tryd.prog 45 #[p, q, fv] w fun e w' => e = .returned (.pointer none) ∧ w = w' := by
  have H1 := Lib.hid h1
  have H2 := Lib.hid h2
  clear h1 h2
  cases b1 with
  | true =>
    clear h
    go_enter Tryd.func45, Tryd.ntmps45
    go_wp2_with fail
    refine (none_ok p true w H1.out).mono ?_
    rintro e w' ⟨rfl, rfl⟩
    go_wp2_with fail
    go_ret
    exact ⟨rfl, rfl⟩
  | false =>
    have hb : b2 = true := by simpa using h
    subst hb
    clear h
    go_enter Tryd.func45, Tryd.ntmps45
    go_wp2_with fail
    refine (none_ok p false w H1.out).mono ?_
    rintro e w' ⟨rfl, rfl⟩
    go_wp2_with fail
    refine (none_ok q true w H2.out).mono ?_
    rintro e w' ⟨rfl, rfl⟩
    go_wp2_with fail
    go_ret
    exact ⟨rfl, rfl⟩
set_option maxRecDepth 100000 in
theorem spAnd_nob (p q : Value) (b1 b2 : Bool) (w : World) (h1 : NoneIs w p b1) (h2 : NoneIs w q b2) (h : b1 = true ∨ b2 = true) : Calls Tryd.prog 20 #[p, q] w fun e w' => e = .returned (.pointer none) ∧ w = w' := by
  have H := Lib.hid (fun fv => merge_nob p q fv b1 b2 w h1 h2 h)
  clear h1 h2 h
  go_enter Tryd.func20, Tryd.ntmps20
  go_wp2_with fail
  refine (H.out _).mono ?_
  rintro e w' ⟨rfl, rfl⟩
  go_wp2_with fail
  go_ret
  exact ⟨rfl, rfl⟩
set_option maxRecDepth 100000 in
theorem spOr_nob (p q : Value) (b1 b2 : Bool) (w : World) (h1 : NoneIs w p b1) (h2 : NoneIs w q b2) (h : b1 = true ∨ b2 = true) : Calls Tryd.prog 21 #[p, q] w fun e w' => e = .returned (.pointer none) ∧ w = w' := by
  have H := Lib.hid (fun fv => merge_nob p q fv b1 b2 w h1 h2 h)
  clear h1 h2 h
  go_enter Tryd.func21, Tryd.ntmps21
  go_wp2_with fail
  refine (H.out _).mono ?_
  rintro e w' ⟨rfl, rfl⟩
  go_wp2_with fail
  go_ret
  exact ⟨rfl, rfl⟩
set_option maxRecDepth 100000 in
theorem spNot_nob (p : Value) (w : World) (h : NoneIs w p true) : Calls Tryd.prog 22 #[p] w fun e w' => e = .returned (.pointer none) ∧ Below w.heap.size w w' := by
  have H := Lib.hid h
  clear h
  go_enter Tryd.func22, Tryd.ntmps22
  go_wp2_with fail
  refine (spAll_ok w).mono ?_
  rintro e w1 hp
  obtain ⟨g, rfl, hs, hb⟩ := hp
  have HM := Lib.hid (fun fv => merge_nob (sp0 g) p fv false true w1 hs.none (H.out.below hb) (.inr rfl))
  have HB := Lib.hid hb
  clear hs hb
  go_wp2_with fail
  refine (HM.out _).mono ?_
  rintro e w' ⟨rfl, rfl⟩
  go_wp2_with fail
  go_ret
  exact ⟨rfl, HB.out⟩
set_option maxRecDepth 100000 in
theorem spSame_nob (p q : Value) (b1 b2 : Bool) (w : World) (h1 : NoneIs w p b1) (h2 : NoneIs w q b2) (h : b1 = true ∨ b2 = true) : Calls Tryd.prog 23 #[p, q] w fun e w' => e = .returned (.bool (b1 && b2)) ∧ w = w' := by
  have H1 := Lib.hid h1
  have H2 := Lib.hid h2
  clear h1 h2
  cases b1 with
  | true =>
    clear h
    go_enter Tryd.func23, Tryd.ntmps23
    go_wp2_with fail
    refine (none_ok p true w H1.out).mono ?_
    rintro e w' ⟨rfl, rfl⟩
    go_wp2_with fail
    refine (none_ok p true w H1.out).mono ?_
    rintro e w' ⟨rfl, rfl⟩
    go_wp2_with fail
    refine (none_ok q b2 w H2.out).mono ?_
    rintro e w' ⟨rfl, rfl⟩
    go_wp2_with fail
    go_ret
    exact ⟨by cases b2 <;> rfl, rfl⟩
  | false =>
    have hb : b2 = true := by simpa using h
    subst hb
    clear h
    go_enter Tryd.func23, Tryd.ntmps23
    go_wp2_with fail
    refine (none_ok p false w H1.out).mono ?_
    rintro e w' ⟨rfl, rfl⟩
    go_wp2_with fail
    refine (none_ok q true w H2.out).mono ?_
    rintro e w' ⟨rfl, rfl⟩
    go_wp2_with fail
    refine (none_ok p false w H1.out).mono ?_
    rintro e w' ⟨rfl, rfl⟩
    go_wp2_with fail
    go_ret
    exact ⟨rfl, rfl⟩
set_option maxRecDepth 100000 in
theorem spEmpty_nob (p : Value) (w : World) (h : NoneIs w p true) : Calls Tryd.prog 24 #[p] w fun e w' => e = .returned (.bool true) ∧ w = w' := by
  have H := Lib.hid h
  clear h
  go_enter Tryd.func24, Tryd.ntmps24
  go_wp2_with fail
  refine (none_ok p true w H.out).mono ?_
  rintro e w' ⟨rfl, rfl⟩
  go_wp2_with fail
  go_ret
  exact ⟨rfl, rfl⟩
set_option maxRecDepth 100000 in
theorem spEmpty_ok (B g : Nat) (cs : List Cut) (w : World) (h : SpAt w B g cs) (hl : cs.length ≤ 1000000000) : Calls Tryd.prog 24 #[sp0 g] w fun e w' => e = .returned (.bool (decide (cs = []))) ∧ w = w' := by
  have HN := Lib.hid h.none
  obtain ⟨_, _, A, c, k, _, _⟩ := h
  have c1 : w.cell? ⟨g, 1, none⟩ = some (.slice A cs.length c) := by rw [k.cell]; rfl
  have l1 := k.lt
  obtain ⟨n, hn⟩ : ∃ n, n = cs.length := ⟨_, rfl⟩
  rw [← hn] at c1
  obtain ⟨E, hE⟩ : ∃ E, E = decide (cs = []) := ⟨_, rfl⟩
  rw [← hE]
  have HE : Hid (E = decide (n = 0)) := Lib.hid (by rw [hE, hn]; simp [List.length_eq_zero_iff])
  have C1 := Lib.hid c1
  clear k hn hE hl c1
  have c1 := C1.out
  by_cases h0 : n = 0
  · subst h0
    have HE1 : Hid (E = true) := Lib.hid (by rw [HE.out]; rfl)
    clear HE
    go_enter Tryd.func24, Tryd.ntmps24
    go_wp2_with fail
    refine (none_ok (sp0 g) false w HN.out).mono ?_
    rintro e w' ⟨rfl, rfl⟩
    go_wp2_with fail
    go_ret
    exact ⟨by rw [HE1.out]; rfl, rfl⟩
  · have e1 : (n == 0) = false := by simpa using h0
    have e2 : ((n : Int) == 0) = false := by rw [beq_eq_false_iff_ne]; omega
    have HE1 : Hid (E = false) := Lib.hid (by rw [HE.out]; exact decide_eq_false h0)
    clear HE
    go_enter Tryd.func24, Tryd.ntmps24
    go_wp2_with fail
    refine (none_ok (sp0 g) false w HN.out).mono ?_
    rintro e w' ⟨rfl, rfl⟩
    go_wp2_with fail
    go_ret
    exact ⟨by rw [HE1.out]; rfl, rfl⟩
set_option maxRecDepth 100000 in
theorem spText_nob (p : Value) (w : World) (h : NoneIs w p true) : Calls Tryd.prog 25 #[p] w fun e w' => e = .returned (.string (bl [])) ∧ w = w' := by
  have H := Lib.hid h
  clear h
  go_enter Tryd.func25, Tryd.ntmps25
  go_wp2_with fail
  refine (none_ok p true w H.out).mono ?_
  rintro e w' ⟨rfl, rfl⟩
  go_wp2_with fail
  go_ret
  exact ⟨rfl, rfl⟩
-- Has of a set without cuts, or that no call made
set_option maxRecDepth 100000 in
set_option maxHeartbeats 1000000 in
theorem spHas_nob (p : Value) (b : Bool) (v : Ver) (hv : v.Ok) (ht : v.t.length ≤ 140737488355328) (w : World) (hg : GT w) (h : NoneIs w p b) (hc : b = false → ∃ B g, p = sp0 g ∧ SpAt w B g []) : Calls Tryd.prog 19 #[p, v.val] w fun e w' => e = .returned (.bool false) ∧ Below w.heap.size w w' := by
  obtain ⟨w1, hw1⟩ : ∃ w1, w1 = w.alloc (.cells v.cells.toArray 24) := ⟨_, rfl⟩
  obtain ⟨g3, hg3⟩ : ∃ g3, g3 = w.heap.size := ⟨_, rfl⟩
  have hb1 : Below w.heap.size w w1 := by rw [hw1]; exact (Below.refl _ _).alloc (Nat.le_refl _) _
  have k1 : Blk w1 g3 24 v.cells := by rw [hw1, hg3]; exact Blk.new _ _ v.cells.toArray
  have HL := Lib.hid (vload k1 hv)
  have HV := Lib.hid hv
  have HT := Lib.hid ht
  have HG := Lib.hid (hg.below hb1)
  have HN := Lib.hid h
  have HC : Hid (b = false → ∃ B g, p = sp0 g ∧ SpAt w B g []) := Lib.hid hc
  have HB1 := Lib.hid hb1
  have HW1 := Lib.hid hw1
  have HG3 := Lib.hid hg3
  obtain ⟨tt, htt⟩ : ∃ tt, tt = bl (tv v).1 := ⟨_, rfl⟩
  obtain ⟨te, hte⟩ : ∃ te, te = (tv v).2 := ⟨_, rfl⟩
  have HTT := Lib.hid htt
  have HTE := Lib.hid hte
  clear hw1 hg3 hb1 k1 hv ht hg h hc htt hte
  rw [show v.val = .agg v.cells.toArray from rfl]
  go_enter Tryd.func19, Tryd.ntmps19
  go_upto_region 1 with fail
  rw [← HW1.out, ← HG3.out]
  go_wp2_with (refine wpList_load_run rfl 24 (.tmp 3) rfl g3 rfl _ HL.out ?_)
  refine (text_okT v HV.out HT.out w1 HG.out).mono ?_
  rintro e w2 ⟨rfl, hb2⟩
  rw [← HTT.out, ← HTE.out]
  have HB2 : Hid (Below w.heap.size w w2) := Lib.hid (HB1.out.trans (hb2.mono HB1.out.size))
  have HN2 := Lib.hid (HN.out.below HB2.out)
  clear hb2
  cases b with
  | true =>
    go_wp2_with fail
    refine (none_ok p true w2 HN2.out).mono ?_
    rintro e w' ⟨rfl, rfl⟩
    go_wp2_with fail
    go_ret
    exact ⟨rfl, HB2.out⟩
  | false =>
    obtain ⟨B, g, rfl, hs⟩ := HC.out rfl
    obtain ⟨_, _, A, c, k, o, _⟩ := hs.below HB2.out
    have c1 : w2.cell? ⟨g, 1, none⟩ = some (.slice A 0 c) := by rw [k.cell]; rfl
    have l1 := k.lt
    clear k o hs
    by_cases h0 : te = 0
    · subst h0
      go_wp2_with fail
      refine (none_ok (sp0 g) false w2 HN2.out).mono ?_
      rintro e w' ⟨rfl, rfl⟩
      go_wp2_with fail
      go_loopg [26, 7] 0 (fun kq iv nv wr => iv = .int .i64 0 ∧ nv = .int .i64 0 ∧ kq = 0 ∧ wr = w2)
      case atStart => exact ⟨rfl, rfl, rfl, rfl⟩
      case round =>
      obtain ⟨rfl, rfl, rfl, rfl⟩ := hrel
      go_wp2_with fail
      go_ret
      exact ⟨rfl, HB2.out⟩
    · have e1 : (te == 0) = false := by simpa using h0
      go_wp2_with fail
      refine (none_ok (sp0 g) false w2 HN2.out).mono ?_
      rintro e w' ⟨rfl, rfl⟩
      go_wp2_with fail
      go_ret
      exact ⟨rfl, HB2.out⟩
end Go.Proofs.YteeijjhgdplifaaDoor
