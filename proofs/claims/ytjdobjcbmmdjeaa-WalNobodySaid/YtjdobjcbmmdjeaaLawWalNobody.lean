/- WalNobody answers true for every act. No condition beyond the row's own. -/
import Derived.Test.YtjdobjcbmmdjeaaLawBase
import Derived.Test.YtjdobjcbmmdjeaaW3
namespace Go.Proofs.Ytjdobjcbmmdjeaa
open Go.RowKit Go.ChangeShapes Go.WideShapes Go.ChangeAt Go.Deep

theorem wfield_info : ∃ f0 f1 f2 f3 f4 f5 : Field, Try.prog.underlying 58 = some (.struct #[f0, f1, f2, f3, f4, f5]) ∧ oneCellFields Try.prog #[f0, f1, f2, f3, f4, f5] = true ∧
    f0.type = 3 ∧ f1.type = 3 ∧ f2.type = 3 ∧ f3.type = 22 ∧ f4.type = 5 ∧ f5.type = 23 :=
  ⟨_, _, _, _, _, _, Try.underlying58, by kernel_rfl, rfl, rfl, rfl, rfl, rfl, rfl⟩

/-- an Act of stillroomlaw04 that came in -/
theorem open_wact {H : Type} {enc : TypeId × Value → H} {w : World} {B fuel : Nat} {cs : List Value} {x : DataW H × List MemPlace} (h : DataW.trod enc Try.prog w 0 (fun _ => true) true fuel 58 cs = some x) (hB : Within Try.prog B 58 x.1) :
    ∃ (k n back : Int) (A : Option Addr) (m c : Nat) (l : List UInt8) (fill : UInt8) (A2 : Option Addr) (n2 c2 : Nat) (l2 : List Bool),
      cs = [.int .i64 k, .int .i64 n, .int .i64 back, .slice A m c, .int .u8 (fill.toNat : Int), .slice A2 n2 c2] ∧ (-9223372036854775808 ≤ k ∧ k ≤ 9223372036854775807) ∧ (-9223372036854775808 ≤ n ∧ n ≤ 9223372036854775807) ∧ (-9223372036854775808 ≤ back ∧ back ≤ 9223372036854775807) ∧
      Sl w (fun b => b < w.heap.size) 1 (.slice A m c) m (B8 l) ∧ l.length = m ∧ m ≤ B ∧ Sl w (fun b => b < w.heap.size) 1 (.slice A2 n2 c2) n2 (BL l2) ∧ l2.length = n2 ∧ n2 ≤ B := by
  obtain ⟨f0, f1, f2, f3, f4, f5, hu, hone, t0, t1, t2, t3, t4, t5⟩ := wfield_info
  obtain ⟨hl, n, hf⟩ := open_fields hu hone (by kernel_rfl) h hB
  obtain ⟨v0, v1, v2, v3, v4, v5, rfl⟩ := six hl
  obtain ⟨y0, g0, _⟩ := hf 0 f0 v0 rfl rfl
  obtain ⟨y1, g1, _⟩ := hf 1 f1 v1 rfl rfl
  obtain ⟨y2, g2, _⟩ := hf 2 f2 v2 rfl rfl
  obtain ⟨y3, g3, b3⟩ := hf 3 f3 v3 rfl rfl
  obtain ⟨y4, g4, _⟩ := hf 4 f4 v4 rfl rfl
  obtain ⟨y5, g5, b5⟩ := hf 5 f5 v5 rfl rfl
  rw [t0] at g0; rw [t1] at g1; rw [t2] at g2; rw [t3] at g3 b3; rw [t4] at g4; rw [t5] at g5 b5
  obtain ⟨k, rfl, wk⟩ := open_int1 Try.underlying3 g0
  obtain ⟨n', rfl, wn⟩ := open_int1 Try.underlying3 g1
  obtain ⟨back, rfl, wb⟩ := open_int1 Try.underlying3 g2
  obtain ⟨A, m, c, l, rfl, hs, hlen, hm⟩ := open_bytes Try.underlying22 Try.underlying5 (by kernel_rfl) (by kernel_rfl) g3 b3
  obtain ⟨q, rfl, wq⟩ := open_int1 Try.underlying5 g4
  obtain ⟨A2, n2, c2, l2, rfl, hs2, hlen2, hm2⟩ := open_bools Try.underlying23 Try.underlying4 (by kernel_rfl) (by kernel_rfl) g5 b5
  obtain ⟨fill, rfl⟩ := u8_of wq
  exact ⟨k, n', back, A, m, c, l, fill, A2, n2, c2, l2, rfl, i64_of wk, i64_of wn, i64_of wb, hs, hlen, hm, hs2, hlen2, hm2⟩

namespace walNobody
set_option maxRecDepth 100000 in
theorem lifted (os : Os) (started : os.Started) (H : Type) (enc : TypeId × Value → H) :
    ReturnsInHanded {} Try.checked os 7 .any (Rows.walNobodySpec.pre6 enc Try.prog Try.f7 Rows.walNobodyRow.domain false) (Rows.walNobodySpec.post enc Try.prog Try.f7 false true false false) := by
  refine returnsInHanded_of_change_sized (C := Try.checked) own started (by kernel_rfl) Try.func7
    (ChangeSpec.witness6 (enc := enc) (C := Try.checked) false ⟨#[], #[.agg #[.int .i64 0, .int .i64 0, .int .i64 0, .slice none 0 0, .int .u8 0, .slice none 0 0]], []⟩ 8 (by kernel_rfl) (by kernel_rfl) (by kernel_rfl) (by kernel_rfl)) ?_
  intro W base args ds gs before hval0 hW hcnd hsz0 _
  have hsz : (DataW.weightsEach Try.prog (Try.f7.params.toList ++ Rows.walNobodySpec.plain.varTypes Try.prog) (ds ++ gs)).all (· ≤ reachBytes) = true := hsz0
  have hval : ∀ (j : Nat) t v, Try.f7.params[j]? = some t → args[j]? = some v → Value.okWide Try.prog W .any base t v := hval0
  have hW' := hW
  obtain ⟨p, q, hA0, hV, rfl, hfz, hnd⟩ := hW
  have hA : DataW.TrodAll enc Try.prog W 0 (fun _ => true) true Try.f7.params.toList args.toList ds p := hA0
  rw [Try.params7] at hA hval hsz
  obtain ⟨v0, vs0, d0, ds0, p0, q0, hargs, rfl, rfl, h0, r0⟩ := trodAll_cons hA
  obtain ⟨rfl, rfl, rfl⟩ := trodAll_nil r0
  obtain rfl : args = #[v0] := by cases args; simp_all
  obtain ⟨cs0, rfl, _⟩ := okWide_struct Try.underlying58 (hval 0 58 v0 rfl rfl)
  obtain ⟨fuel0, hf0⟩ := h0
  have hB0 : Within Try.prog reachBytes 58 d0 := within_arg hsz (j := 0) rfl rfl
  obtain ⟨k, n, back, A, m, c, l, fill, A2, n2, c2, l2, hcs, _, _, _, hs, _, hm, _, _, _⟩ := open_wact hf0 hB0
  have hcs' : cs0 = #[.int .i64 k, .int .i64 n, .int .i64 back, .slice A m c, .int .u8 (fill.toNat : Int), .slice A2 n2 c2] := by
    cases cs0; simpa [Value.cells] using hcs
  subst hcs'
  refine (walNobody_walk k n back A m c fill A2 n2 c2 l W hs (by rw [reach_eq] at hm; exact hm)).mono fun e W' ⟨he, hbel⟩ => ?_
  subst he
  exact ⟨_, rfl, law_post (tb := 4) rfl rfl rfl rfl Try.underlying4 laidOut (by kernel_rfl) hW' hbel⟩

theorem over : Rows.walNobodyRow.holds Try.pinned (OpenSpec.ofChange Rows.walNobodySpec) :=
  OpenClaim.holds_of_wide 7 Try.f7 rfl rfl rfl rfl rfl rfl rfl ⟨rfl, rfl, rfl, rfl, rfl⟩ rfl rfl rfl rfl rfl (by kernel_rfl) Try.func7 (by kernel_rfl)
    (of_decide_eq_true (by kernel_rfl)) (by unfold Func.isWrapper; first | (rw [if_pos (by decide +kernel)]; kernel_rfl) | (rw [if_neg (by decide +kernel)]; exact ⟨rfl, rfl⟩))
    (fun os started H enc _ => lifted os started H enc)
end walNobody

/-- The row. -/
theorem walNobody_holds : Rows.WalNobodySaid := walNobody.over
#print axioms walNobody_holds
end Go.Proofs.Ytjdobjcbmmdjeaa
