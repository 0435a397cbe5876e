/- BlockNobody answers true for every act: disks that no call made have no sectors, and every call on them is refused. No condition beyond the row's own. -/
import Derived.Test.YtjdobjcbmmdjeaaRows
import Derived.Test.YtjdobjcbmmdjeaaNobody
import Derived.Test.YtjdobjcbmmdjeaaOp
namespace Go.Proofs.Ytjdobjcbmmdjeaa
open Go.RowKit Go.ChangeShapes Go.WideShapes Go.ChangeAt Go.Deep

theorem own : ownKnob Try.prog.godebug = none := by kernel_rfl
theorem laidOut : laidOutB Try.prog = true := by kernel_rfl

theorem field_info : ∃ f0 f1 f2 f3 f4 f5 : Field, Try.prog.underlying 25 = some (.struct #[f0, f1, f2, f3, f4, f5]) ∧ oneCellFields Try.prog #[f0, f1, f2, f3, f4, f5] = true ∧
    f0.type = 3 ∧ f1.type = 3 ∧ f2.type = 22 ∧ f3.type = 5 ∧ f4.type = 4 ∧ f5.type = 23 :=
  ⟨_, _, _, _, _, _, Try.underlying25, by kernel_rfl, rfl, rfl, rfl, rfl, rfl, rfl⟩

theorem six {α : Type} {l : List α} (h : l.length = 6) : ∃ a b c d e f, l = [a, b, c, d, e, f] := by
  match l, h with
  | [a, b, c, d, e, f], _ => exact ⟨a, b, c, d, e, f, rfl⟩

/-- an Act that came in -/
theorem open_act {H : Type} {enc : TypeId × Value → H} {w : World} {B fuel : Nat} {cs : List Value} {x : DataW H × List MemPlace} (h : DataW.trod enc Try.prog w 0 (fun _ => true) true fuel 25 cs = some x) (hB : Within Try.prog B 25 x.1) :
    ∃ (k n : Int) (A : Option Addr) (m c : Nat) (l : List UInt8) (fill : UInt8) (odd : Bool) (A2 : Option Addr) (n2 c2 : Nat) (l2 : List Bool),
      cs = [.int .i64 k, .int .i64 n, .slice A m c, .int .u8 (fill.toNat : Int), .bool odd, .slice A2 n2 c2] ∧ -9223372036854775808 ≤ k ∧ k ≤ 9223372036854775807 ∧ -9223372036854775808 ≤ n ∧ n ≤ 9223372036854775807 ∧
      Sl w (fun b => b < w.heap.size) 1 (.slice A m c) m (B8 l) ∧ l.length = m ∧ m ≤ B ∧ Sl w (fun b => b < w.heap.size) 1 (.slice A2 n2 c2) n2 (BL l2) ∧ l2.length = n2 ∧ n2 ≤ B := by
  obtain ⟨f0, f1, f2, f3, f4, f5, hu, hone, t0, t1, t2, t3, t4, t5⟩ := field_info
  obtain ⟨hl, n, hf⟩ := open_fields hu hone (by kernel_rfl) h hB
  obtain ⟨v0, v1, v2, v3, v4, v5, rfl⟩ := six hl
  obtain ⟨y0, g0, _⟩ := hf 0 f0 v0 rfl rfl
  obtain ⟨y1, g1, _⟩ := hf 1 f1 v1 rfl rfl
  obtain ⟨y2, g2, b2⟩ := hf 2 f2 v2 rfl rfl
  obtain ⟨y3, g3, _⟩ := hf 3 f3 v3 rfl rfl
  obtain ⟨y4, g4, _⟩ := hf 4 f4 v4 rfl rfl
  obtain ⟨y5, g5, b5⟩ := hf 5 f5 v5 rfl rfl
  rw [t0] at g0; rw [t1] at g1; rw [t2] at g2 b2; rw [t3] at g3; rw [t4] at g4; rw [t5] at g5 b5
  obtain ⟨k, rfl, wk⟩ := open_int1 Try.underlying3 g0
  obtain ⟨n', rfl, wn⟩ := open_int1 Try.underlying3 g1
  obtain ⟨A, m, c, l, rfl, hs, hlen, hm⟩ := open_bytes Try.underlying22 Try.underlying5 (by kernel_rfl) (by kernel_rfl) g2 b2
  obtain ⟨q, rfl, wq⟩ := open_int1 Try.underlying5 g3
  obtain ⟨odd, rfl⟩ := open_bool1 Try.underlying4 g4
  obtain ⟨A2, n2, c2, l2, rfl, hs2, hlen2, hm2⟩ := open_bools Try.underlying23 Try.underlying4 (by kernel_rfl) (by kernel_rfl) g5 b5
  obtain ⟨fill, rfl⟩ := u8_of wq
  have hk := i64_of wk
  have hn := i64_of wn
  exact ⟨k, n', A, m, c, l, fill, odd, A2, n2, c2, l2, rfl, hk.1, hk.2, hn.1, hn.2, hs, hlen, hm, hs2, hlen2, hm2⟩

namespace blockNobody
set_option maxRecDepth 100000 in
theorem lifted (os : Os) (started : os.Started) (H : Type) (enc : TypeId × Value → H) :
    ReturnsInHanded {} Try.checked os 3 .any (Rows.blockNobodySpec.pre6 enc Try.prog Try.f3 Rows.blockNobodyRow.domain false) (Rows.blockNobodySpec.post enc Try.prog Try.f3 false true false false) := by
  refine returnsInHanded_of_change_sized (C := Try.checked) own started (by kernel_rfl) Try.func3
    (ChangeSpec.witness6 (enc := enc) (C := Try.checked) false ⟨#[], #[.agg #[.int .i64 0, .int .i64 0, .slice none 0 0, .int .u8 0, .bool false, .slice none 0 0]], []⟩ 8 (by kernel_rfl) (by kernel_rfl) (by kernel_rfl) (by kernel_rfl)) ?_
  intro W base args ds gs before hval0 hW hcnd hsz0 _
  have hsz : (DataW.weightsEach Try.prog (Try.f3.params.toList ++ Rows.blockNobodySpec.plain.varTypes Try.prog) (ds ++ gs)).all (· ≤ reachBytes) = true := hsz0
  have hval : ∀ (j : Nat) t v, Try.f3.params[j]? = some t → args[j]? = some v → Value.okWide Try.prog W .any base t v := hval0
  have hW' := hW
  obtain ⟨p, q, hA0, hV, rfl, hfz, hnd⟩ := hW
  have hA : DataW.TrodAll enc Try.prog W 0 (fun _ => true) true Try.f3.params.toList args.toList ds p := hA0
  rw [Try.params3] at hA hval hsz
  obtain ⟨v0, vs0, d0, ds0, p0, q0, hargs, rfl, rfl, h0, r0⟩ := trodAll_cons hA
  obtain ⟨rfl, rfl, rfl⟩ := trodAll_nil r0
  obtain rfl : args = #[v0] := by cases args; simp_all
  obtain ⟨cs, rfl, _⟩ := okWide_struct Try.underlying25 (hval 0 25 v0 rfl rfl)
  obtain ⟨fuel, hf⟩ := h0
  have hB : Within Try.prog reachBytes 25 d0 := within_arg hsz (j := 0) rfl rfl
  obtain ⟨k, n, A, m, c, l, fill, odd, A2, n2, c2, l2, hcs, _, _, _, _, hs, _, hm, _, _, _⟩ := open_act hf hB
  have hcs' : cs = #[.int .i64 k, .int .i64 n, .slice A m c, .int .u8 (fill.toNat : Int), .bool odd, .slice A2 n2 c2] := by
    cases cs; simpa [Value.cells] using hcs
  subst hcs'
  refine (blockNobody_walk k n A m c fill odd A2 n2 c2 l W hs (by have : reachBytes = 140737488351232 := by decide
                                                                  omega)).mono fun e W' ⟨he, hbel⟩ => ?_
  subst he
  exact ⟨_, rfl, law_post (tb := 4) rfl rfl rfl rfl Try.underlying4 laidOut (by kernel_rfl) hW' hbel⟩

theorem over : Rows.blockNobodyRow.holds Try.pinned (OpenSpec.ofChange Rows.blockNobodySpec) :=
  OpenClaim.holds_of_wide 3 Try.f3 rfl rfl rfl rfl rfl rfl rfl ⟨rfl, rfl, rfl, rfl, rfl⟩ rfl rfl rfl rfl rfl (by kernel_rfl) Try.func3 (by kernel_rfl)
    (of_decide_eq_true (by kernel_rfl)) (by unfold Func.isWrapper; first | (rw [if_pos (by decide +kernel)]; kernel_rfl) | (rw [if_neg (by decide +kernel)]; exact ⟨rfl, rfl⟩))
    (fun os started H enc _ => lifted os started H enc)
end blockNobody

/-- The row. -/
theorem blockNobody_holds : Rows.BlockNobodySaid := blockNobody.over
#print axioms blockNobody_holds
end Go.Proofs.Ytjdobjcbmmdjeaa
