/- What the laws of a journal share: acts that came in. -/
import Derived.Test.YtjdobjcbmmdjeaaLawBase
import Derived.Test.YtjdobjcbmmdjeaaL4
namespace Go.Proofs.Ytjdobjcbmmdjeaa
open Go.RowKit Go.ChangeShapes Go.WideShapes Go.ChangeAt Go.Deep

theorem wfield_info2 : ∃ f0 f1 f2 f3 f4 f5 : Field, Try.prog.underlying 58 = some (.struct #[f0, f1, f2, f3, f4, f5]) ∧ oneCellFields Try.prog #[f0, f1, f2, f3, f4, f5] = true ∧
    f0.type = 3 ∧ f1.type = 3 ∧ f2.type = 3 ∧ f3.type = 22 ∧ f4.type = 5 ∧ f5.type = 23 :=
  ⟨_, _, _, _, _, _, Try.underlying58, by kernel_rfl, rfl, rfl, rfl, rfl, rfl, rfl⟩
instance : Inhabited WActD := ⟨⟨0, 0, 0, none, 0, 0, [], 0, none, 0, 0, []⟩⟩
theorem open_wactD {H : Type} {enc : TypeId × Value → H} {w : World} {fuel : Nat} {cs : List Value} {x : DataW H × List MemPlace} (h : DataW.trod enc Try.prog w 0 (fun _ => true) true fuel 58 cs = some x) (hB : Within Try.prog reachBytes 58 x.1) :
    ∃ a : WActD, cs = a.cells ∧ a.In w := by
  obtain ⟨f0, f1, f2, f3, f4, f5, hu, hone, t0, t1, t2, t3, t4, t5⟩ := wfield_info2
  obtain ⟨hl, n, hf⟩ := open_fields hu hone (by kernel_rfl) h hB
  obtain ⟨v0, v1, v2, v3, v4, v5, rfl⟩ := six hl
  obtain ⟨y0, g0, _⟩ := hf 0 f0 v0 rfl rfl
  obtain ⟨y1, g1, _⟩ := hf 1 f1 v1 rfl rfl
  obtain ⟨y2, g2, _⟩ := hf 2 f2 v2 rfl rfl
  obtain ⟨y3, g3, b3⟩ := hf 3 f3 v3 rfl rfl
  obtain ⟨y4, g4, _⟩ := hf 4 f4 v4 rfl rfl
  obtain ⟨y5, g5, b5⟩ := hf 5 f5 v5 rfl rfl
  rw [t0] at g0; rw [t1] at g1; rw [t2] at g2; rw [t3] at g3 b3; rw [t4] at g4; rw [t5] at g5 b5
  obtain ⟨k, rfl, wk⟩ := open_int1 Try.underlying3 g0
  obtain ⟨n', rfl, wn⟩ := open_int1 Try.underlying3 g1
  obtain ⟨back, rfl, wb⟩ := open_int1 Try.underlying3 g2
  obtain ⟨A, m, c, l, rfl, hs, hlen, hm⟩ := open_bytes Try.underlying22 Try.underlying5 (by kernel_rfl) (by kernel_rfl) g3 b3
  obtain ⟨q, rfl, wq⟩ := open_int1 Try.underlying5 g4
  obtain ⟨A2, n2, c2, l2, rfl, hs2, hlen2, hm2⟩ := open_bools Try.underlying23 Try.underlying4 (by kernel_rfl) (by kernel_rfl) g5 b5
  obtain ⟨fill, rfl⟩ := u8_of wq
  rw [reach_eq] at hm hm2
  exact ⟨⟨k, n', back, A, m, c, l, fill, A2, n2, c2, l2⟩, rfl, ⟨i64_of wk, i64_of wn, i64_of wb, hs, hm, hs2, hm2⟩⟩

set_option maxRecDepth 100000 in
/-- a []Act of stillroomlaw04 that came in -/
theorem open_wacts {H : Type} {enc : TypeId × Value → H} {w : World} {fuel : Nat} {t : TypeId} {v : Value} {x : DataW H × List MemPlace} (ht : Try.prog.underlying t = some (.slice 58))
    (h : DataW.trod enc Try.prog w 0 (fun _ => true) true fuel t [v] = some x) (hB : Within Try.prog reachBytes t x.1) :
    ∃ A m c acts, v = .slice A m c ∧ WActsIn w A m c acts := by
  have hC : Try.prog.cellsOf 58 = 6 := by kernel_rfl
  have hBy : Try.prog.bytesOf 58 = 80 := by kernel_rfl
  rcases open_slice ht h with ⟨hcs, rfl⟩ | ⟨a, len, cap, m, n, D, Pl, hcs, _, hl, hm, hmm, hx, hi⟩
  · simp only [List.cons.injEq, and_true] at hcs
    exact ⟨none, 0, 0, [], hcs, ⟨rfl, Nat.le_refl _, by omega, fun h => absurd h (by omega), by simp⟩⟩
  · simp only [List.cons.injEq, and_true] at hcs
    subst hcs hx
    have hmc : m = cap := by simpa using hmm
    rw [hC] at hi
    obtain ⟨f, hf⟩ := choose_lt (α := WActD) (n := len) (p := fun i b => b.In w ∧ ∀ q u, b.cells[q]? = some u → w.cell? ((a.add (i * 6)).add q) = some u) (fun i hil => by
      obtain ⟨cs', h1, h2⟩ := hi i (by omega)
      obtain ⟨_, hlen, hc⟩ := World.cells?_some h1
      obtain ⟨b, rfl, hb⟩ := open_wactD h2 (within_elem ht hB (List.mem_map.2 ⟨i, List.mem_range.2 hil, rfl⟩))
      refine ⟨b, hb, fun q u hu => ?_⟩
      rw [hc q (by have := (List.getElem?_eq_some_iff.1 hu).1; omega)]
      exact hu)
    have hlm : len ≤ 140737488351232 := by
      have := within_len ht hB
      rw [reach_eq, hBy] at this
      simp only [List.length_map, List.length_range] at this
      omega
    refine ⟨some a, len, cap, (List.range len).map f, rfl, ⟨by simp, hl, hlm, fun h0 => ?_, fun b hb => ?_⟩⟩
    · have h00 := (hf 0 h0).2 0 _ rfl
      obtain ⟨b, o, s⟩ := a
      have hs : s = none := by simpa [Addr.add] using World.cell?_spot h00
      subst hs
      refine ⟨b, o, rfl, ?_, fun i c hic q u hu => ?_⟩
      · have := World.block_lt_of_cell? _ _ h00
        rwa [block_add, block_add] at this
      · simp only [List.getElem?_map, Option.map_eq_some_iff] at hic
        obtain ⟨i', hi', rfl⟩ := hic
        have hil : i < len := by have := (List.getElem?_eq_some_iff.1 hi').1; simpa using this
        rw [List.getElem?_range hil] at hi'
        injection hi' with hi'
        subst hi'
        have := (hf i hil).2 q u hu
        rwa [add_lit0, add_lit0] at this
    · obtain ⟨i, hir, rfl⟩ := List.mem_map.1 hb
      exact (hf i (List.mem_range.1 hir)).1
end Go.Proofs.Ytjdobjcbmmdjeaa
