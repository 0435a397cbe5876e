/- RefdbX: what the laws' ends share: infos and paths that came in. -/
import Derived.Test.YtcffmpjdonncgaaRows
import Derived.Test.YtcffmpjdonncgaaOk
import Derived.Test.YtcffmpjdonncgaaPRefx0
namespace Go.Proofs.Ytcffmpjdonncgaa
open Go.RowKit Go.ChangeShapes Go.WideShapes Go.ChangeAt Go.Deep
open Go.Proofs.YtcffmpjdonncgaaW.PrintWords
open Go.Proofs.Ytcffmpjdonncgaa.PRef (S33 k33 k33_mk)

theorem own : ownKnob Try.prog.godebug = none := by kernel_rfl
theorem laidOut : laidOutB Try.prog = true := by kernel_rfl
theorem reach_eq : reachBytes = 140737488351232 := by decide
theorem field_info : ∃ f0 f1 f2 f3 : Field, Try.prog.underlying 33 = some (.struct #[f0, f1, f2, f3]) ∧ oneCellFields Try.prog #[f0, f1, f2, f3] = true ∧ f0.type = 9 ∧ f1.type = 9 ∧ f2.type = 9 ∧ f3.type = 23 :=
  ⟨_, _, _, _, Try.underlying33, by kernel_rfl, rfl, rfl, rfl, rfl⟩
theorem open_info {H : Type} {enc : TypeId × Value → H} {w : World} {fuel : Nat} {cs : List Value} {x : DataW H × List MemPlace} (hl : cs.length = 4) (h : DataW.trod enc Try.prog w 0 (fun _ => true) true fuel 33 cs = some x) (hB : Within Try.prog reachBytes 33 x.1) :
    ∃ b : S33, k33.K w b cs ∧ b.f3.length ≤ 100000000000000 := by
  obtain ⟨f0, f1, f2, f3, hu, hone, t0, t1, t2, t3⟩ := field_info
  obtain ⟨_, n, hf⟩ := open_fields hu hone (by kernel_rfl) h hB
  match cs, hl with
  | [v0, v1, v2, v3], _ =>
    obtain ⟨y0, g0, b0⟩ := hf 0 f0 v0 rfl rfl
    obtain ⟨y1, g1, b1⟩ := hf 1 f1 v1 rfl rfl
    obtain ⟨y2, g2, b2⟩ := hf 2 f2 v2 rfl rfl
    obtain ⟨y3, g3, b3⟩ := hf 3 f3 v3 rfl rfl
    rw [t0] at g0 b0; rw [t1] at g1 b1; rw [t2] at g2 b2; rw [t3] at g3 b3
    obtain ⟨s0, rfl, _⟩ := open_str1 Try.underlying9 g0 b0
    obtain ⟨s1, rfl, _⟩ := open_str1 Try.underlying9 g1 b1
    obtain ⟨s2, rfl, _⟩ := open_str1 Try.underlying9 g2 b2
    obtain ⟨A, m, c, xs, rfl, hC, hc, hm, _⟩ := open_strs Try.underlying23 Try.underlying9 (by kernel_rfl) (by kernel_rfl) (by decide) g3 b3
    obtain rfl : xs.length = m := hC.1
    rw [reach_eq] at hm
    exact ⟨⟨s0, s1, s2, xs⟩, k33_mk w ⟨s0, s1, s2, xs⟩ hc hC, by show xs.length ≤ _; omega⟩
theorem open_infos {H : Type} {enc : TypeId × Value → H} {w : World} {fuel : Nat} {v : Value} {x : DataW H × List MemPlace} (h : DataW.trod enc Try.prog w 0 (fun _ => true) true fuel 22 [v] = some x) (hB : Within Try.prog reachBytes 22 x.1) :
    ∃ A m c l, v = .slice A m c ∧ Kd.C k33 w A m l ∧ m ≤ c ∧ m ≤ 100000000000000 ∧ ∀ x ∈ l, x.f3.length ≤ 100000000000000 := by
  obtain ⟨A, m, c, l, hv, hC, hc, hm, hq⟩ := open_C k33 (fun b : S33 => b.f3.length ≤ 100000000000000) Try.underlying22 (by kernel_rfl) (by decide +kernel) (by decide) (fun fuel cs x hl h hB => open_info hl h hB) h hB
  have hb : Try.prog.bytesOf 33 = 72 := by kernel_rfl
  rw [hb, reach_eq] at hm
  exact ⟨A, m, c, l, hv, hC, hc, by omega, hq⟩
theorem open_paths {H : Type} {enc : TypeId × Value → H} {w : World} {fuel : Nat} {v : Value} {x : DataW H × List MemPlace} (h : DataW.trod enc Try.prog w 0 (fun _ => true) true fuel 23 [v] = some x) (hB : Within Try.prog reachBytes 23 x.1) :
    ∃ A m c ps, v = .slice A m c ∧ Sl w (fun b => b < w.heap.size) 1 (.slice A m c) m (strs ps) ∧ m ≤ 100000000000000 ∧ ∀ s ∈ ps, s.size ≤ 140737488351232 := by
  obtain ⟨A, m, c, ps, hv, hC, hc, hm, hq⟩ := open_strs Try.underlying23 Try.underlying9 (by kernel_rfl) (by kernel_rfl) (by decide) h hB
  rw [reach_eq] at hm
  exact ⟨A, m, c, ps, hv, sl_of_C hC hc, by omega, fun s hs => by have := hq s hs; rwa [reach_eq] at this⟩
end Go.Proofs.Ytcffmpjdonncgaa
