/- WalPlays answers true for any place and size of the journal and all acts. No condition beyond the row's own. -/
import Derived.Test.YtjdobjcbmmdjeaaLawBase
import Derived.Test.YtjdobjcbmmdjeaaL6
import Derived.Test.YtjdobjcbmmdjeaaLawWb
namespace Go.Proofs.Ytjdobjcbmmdjeaa
open Go.RowKit Go.ChangeShapes Go.WideShapes Go.ChangeAt Go.Deep

namespace walPlays
set_option maxRecDepth 100000 in
theorem lifted (os : Os) (started : os.Started) (H : Type) (enc : TypeId × Value → H) :
    ReturnsInHanded {} Try.checked os 10 .any (Rows.walPlaysSpec.pre6 enc Try.prog Try.f10 Rows.walPlaysRow.domain false) (Rows.walPlaysSpec.post enc Try.prog Try.f10 false true false false) := by
  refine returnsInHanded_of_change_sized (C := Try.checked) own started (by kernel_rfl) Try.func10
    (ChangeSpec.witness6 (enc := enc) (C := Try.checked) false ⟨#[], #[.int .i64 0, .int .i64 0, .slice none 0 0], []⟩ 8 (by kernel_rfl) (by kernel_rfl) (by kernel_rfl) (by kernel_rfl)) ?_
  intro W base args ds gs before hval0 hW hcnd hsz0 _
  have hsz : (DataW.weightsEach Try.prog (Try.f10.params.toList ++ Rows.walPlaysSpec.plain.varTypes Try.prog) (ds ++ gs)).all (· ≤ reachBytes) = true := hsz0
  have hval : ∀ (j : Nat) t v, Try.f10.params[j]? = some t → args[j]? = some v → Value.okWide Try.prog W .any base t v := hval0
  have hW' := hW
  obtain ⟨p, q, hA0, hV, rfl, hfz, hnd⟩ := hW
  have hA : DataW.TrodAll enc Try.prog W 0 (fun _ => true) true Try.f10.params.toList args.toList ds p := hA0
  rw [Try.params10] at hA hval hsz
  obtain ⟨v0, vs0, d0, ds0, p0, q0, hargs, rfl, rfl, h0, r0⟩ := trodAll_cons hA
  obtain ⟨v1, vs1, d1, ds1, p1, q1, rfl, rfl, rfl, h1, r1⟩ := trodAll_cons r0
  obtain ⟨v2, vs2, d2, ds2, p2, q2, rfl, rfl, rfl, h2, r2⟩ := trodAll_cons r1
  obtain ⟨rfl, rfl, rfl⟩ := trodAll_nil r2
  obtain rfl : args = #[v0, v1, v2] := by cases args; simp_all
  obtain ⟨n0, rfl⟩ := okWide_int Try.underlying3 (hval 0 3 v0 rfl rfl)
  obtain ⟨fuel0, hf0⟩ := h0
  have hB0 : Within Try.prog reachBytes 3 d0 := within_arg hsz (j := 0) rfl rfl
  obtain ⟨n1, rfl⟩ := okWide_int Try.underlying3 (hval 1 3 v1 rfl rfl)
  obtain ⟨fuel1, hf1⟩ := h1
  have hB1 : Within Try.prog reachBytes 3 d1 := within_arg hsz (j := 1) rfl rfl
  obtain ⟨a2, n2, c2, rfl⟩ := okWide_slice Try.underlying69 (hval 2 69 v2 rfl rfl)
  obtain ⟨fuel2, hf2⟩ := h2
  have hB2 : Within Try.prog reachBytes 69 d2 := within_arg hsz (j := 2) rfl rfl
  obtain ⟨z0, e0, hz0⟩ := open_int1 Try.underlying3 hf0
  simp only [Value.int.injEq, true_and] at e0
  subst e0
  have hat : -9223372036854775808 ≤ n0 ∧ n0 ≤ 9223372036854775807 := by
    simp only [Lit.wf, Bool.and_eq_true, decide_eq_true_eq] at hz0
    exact hz0
  obtain ⟨z1, e1, _⟩ := open_int1 Try.underlying3 hf1
  simp only [Value.int.injEq, true_and] at e1
  subst e1
  obtain ⟨A, m, c, acts, hv2, hacts⟩ := open_wacts Try.underlying69 hf2 hB2
  simp only [Value.slice.injEq] at hv2
  obtain ⟨rfl, rfl, rfl⟩ := hv2
  refine (walPlays_walk _ _ _ _ _ acts W hat hacts).mono fun e W' ⟨he, hbel⟩ => ?_
  subst he
  exact ⟨_, rfl, law_post (tb := 4) rfl rfl rfl rfl Try.underlying4 laidOut (by kernel_rfl) hW' hbel⟩

theorem over : Rows.walPlaysRow.holds Try.pinned (OpenSpec.ofChange Rows.walPlaysSpec) :=
  OpenClaim.holds_of_wide 10 Try.f10 rfl rfl rfl rfl rfl rfl rfl ⟨rfl, rfl, rfl, rfl, rfl⟩ rfl rfl rfl rfl rfl (by kernel_rfl) Try.func10 (by kernel_rfl)
    (of_decide_eq_true (by kernel_rfl)) (by unfold Func.isWrapper; first | (rw [if_pos (by decide +kernel)]; kernel_rfl) | (rw [if_neg (by decide +kernel)]; exact ⟨rfl, rfl⟩))
    (fun os started H enc _ => lifted os started H enc)
end walPlays

/-- The row. -/
theorem walPlays_holds : Rows.WalPlaysSaid := walPlays.over
#print axioms walPlays_holds
end Go.Proofs.Ytjdobjcbmmdjeaa
