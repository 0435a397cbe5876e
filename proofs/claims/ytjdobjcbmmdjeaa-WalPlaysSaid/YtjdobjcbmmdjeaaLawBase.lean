/- What the laws' ends share: an Act, and a row of them, opened out of a reading. -/
import Derived.Test.YtjdobjcbmmdjeaaRows
import Derived.Test.YtjdobjcbmmdjeaaL1
namespace Go.Proofs.Ytjdobjcbmmdjeaa
open Go.RowKit Go.ChangeShapes Go.WideShapes Go.ChangeAt Go.Deep

theorem own : ownKnob Try.prog.godebug = none := by kernel_rfl
theorem laidOut : laidOutB Try.prog = true := by kernel_rfl

theorem field_info : ∃ f0 f1 f2 f3 f4 f5 : Field, Try.prog.underlying 25 = some (.struct #[f0, f1, f2, f3, f4, f5]) ∧ oneCellFields Try.prog #[f0, f1, f2, f3, f4, f5] = true ∧
    f0.type = 3 ∧ f1.type = 3 ∧ f2.type = 22 ∧ f3.type = 5 ∧ f4.type = 4 ∧ f5.type = 23 :=
  ⟨_, _, _, _, _, _, Try.underlying25, by kernel_rfl, rfl, rfl, rfl, rfl, rfl, rfl⟩

theorem six {α : Type} {l : List α} (h : l.length = 6) : ∃ a b c d e f, l = [a, b, c, d, e, f] := by
  match l, h with
  | [a, b, c, d, e, f], _ => exact ⟨a, b, c, d, e, f, rfl⟩

/-- an Act that came in -/
theorem open_act {H : Type} {enc : TypeId × Value → H} {w : World} {B fuel : Nat} {cs : List Value} {x : DataW H × List MemPlace} (h : DataW.trod enc Try.prog w 0 (fun _ => true) true fuel 25 cs = some x) (hB : Within Try.prog B 25 x.1) :
    ∃ (k n : Int) (A : Option Addr) (m c : Nat) (l : List UInt8) (fill : UInt8) (odd : Bool) (A2 : Option Addr) (n2 c2 : Nat) (l2 : List Bool),
      cs = [.int .i64 k, .int .i64 n, .slice A m c, .int .u8 (fill.toNat : Int), .bool odd, .slice A2 n2 c2] ∧ -9223372036854775808 ≤ k ∧ k ≤ 9223372036854775807 ∧ -9223372036854775808 ≤ n ∧ n ≤ 9223372036854775807 ∧
      Sl w (fun b => b < w.heap.size) 1 (.slice A m c) m (B8 l) ∧ l.length = m ∧ m ≤ B ∧ Sl w (fun b => b < w.heap.size) 1 (.slice A2 n2 c2) n2 (BL l2) ∧ l2.length = n2 ∧ n2 ≤ B := by
  obtain ⟨f0, f1, f2, f3, f4, f5, hu, hone, t0, t1, t2, t3, t4, t5⟩ := field_info
  obtain ⟨hl, n, hf⟩ := open_fields hu hone (by kernel_rfl) h hB
  obtain ⟨v0, v1, v2, v3, v4, v5, rfl⟩ := six hl
  obtain ⟨y0, g0, _⟩ := hf 0 f0 v0 rfl rfl
  obtain ⟨y1, g1, _⟩ := hf 1 f1 v1 rfl rfl
  obtain ⟨y2, g2, b2⟩ := hf 2 f2 v2 rfl rfl
  obtain ⟨y3, g3, _⟩ := hf 3 f3 v3 rfl rfl
  obtain ⟨y4, g4, _⟩ := hf 4 f4 v4 rfl rfl
  obtain ⟨y5, g5, b5⟩ := hf 5 f5 v5 rfl rfl
  rw [t0] at g0; rw [t1] at g1; rw [t2] at g2 b2; rw [t3] at g3; rw [t4] at g4; rw [t5] at g5 b5
  obtain ⟨k, rfl, wk⟩ := open_int1 Try.underlying3 g0
  obtain ⟨n', rfl, wn⟩ := open_int1 Try.underlying3 g1
  obtain ⟨A, m, c, l, rfl, hs, hlen, hm⟩ := open_bytes Try.underlying22 Try.underlying5 (by kernel_rfl) (by kernel_rfl) g2 b2
  obtain ⟨q, rfl, wq⟩ := open_int1 Try.underlying5 g3
  obtain ⟨odd, rfl⟩ := open_bool1 Try.underlying4 g4
  obtain ⟨A2, n2, c2, l2, rfl, hs2, hlen2, hm2⟩ := open_bools Try.underlying23 Try.underlying4 (by kernel_rfl) (by kernel_rfl) g5 b5
  obtain ⟨fill, rfl⟩ := u8_of wq
  have hk := i64_of wk
  have hn := i64_of wn
  exact ⟨k, n', A, m, c, l, fill, odd, A2, n2, c2, l2, rfl, hk.1, hk.2, hn.1, hn.2, hs, hlen, hm, hs2, hlen2, hm2⟩


instance : Inhabited ActD := ⟨⟨0, 0, none, 0, 0, [], 0, false, none, 0, 0, []⟩⟩

theorem reach_eq : reachBytes = 140737488351232 := by decide

theorem open_actD {H : Type} {enc : TypeId × Value → H} {w : World} {fuel : Nat} {cs : List Value} {x : DataW H × List MemPlace} (h : DataW.trod enc Try.prog w 0 (fun _ => true) true fuel 25 cs = some x) (hB : Within Try.prog reachBytes 25 x.1) :
    ∃ a : ActD, cs = a.cells ∧ a.In w := by
  obtain ⟨k, n, A, m, c, l, fill, odd, A2, n2, c2, l2, rfl, k1, k2, n1, n2', hs, _, hm, hs2, _, hm2⟩ := open_act h hB
  rw [reach_eq] at hm hm2
  exact ⟨⟨k, n, A, m, c, l, fill, odd, A2, n2, c2, l2⟩, rfl, ⟨⟨k1, k2⟩, ⟨n1, n2'⟩, hs, hm, hs2, hm2⟩⟩

set_option maxRecDepth 100000 in
/-- a []Act that came in -/
theorem open_acts {H : Type} {enc : TypeId × Value → H} {w : World} {fuel : Nat} {t : TypeId} {v : Value} {x : DataW H × List MemPlace} (ht : Try.prog.underlying t = some (.slice 25))
    (h : DataW.trod enc Try.prog w 0 (fun _ => true) true fuel t [v] = some x) (hB : Within Try.prog reachBytes t x.1) :
    ∃ A m c acts, v = .slice A m c ∧ ActsIn w A m c acts := by
  have hC : Try.prog.cellsOf 25 = 6 := by kernel_rfl
  have hBy : Try.prog.bytesOf 25 = 72 := by kernel_rfl
  rcases open_slice ht h with ⟨hcs, rfl⟩ | ⟨a, len, cap, m, n, D, Pl, hcs, _, hl, hm, hmm, hx, hi⟩
  · simp only [List.cons.injEq, and_true] at hcs
    exact ⟨none, 0, 0, [], hcs, ⟨rfl, Nat.le_refl _, by omega, fun h => absurd h (by omega), by simp⟩⟩
  · simp only [List.cons.injEq, and_true] at hcs
    subst hcs hx
    have hmc : m = cap := by simpa using hmm
    rw [hC] at hi
    obtain ⟨f, hf⟩ := choose_lt (α := ActD) (n := len) (p := fun i b => b.In w ∧ ∀ q u, b.cells[q]? = some u → w.cell? ((a.add (i * 6)).add q) = some u) (fun i hil => by
      obtain ⟨cs', h1, h2⟩ := hi i (by omega)
      obtain ⟨_, hlen, hc⟩ := World.cells?_some h1
      obtain ⟨b, rfl, hb⟩ := open_actD h2 (within_elem ht hB (List.mem_map.2 ⟨i, List.mem_range.2 hil, rfl⟩))
      refine ⟨b, hb, fun q u hu => ?_⟩
      rw [hc q (by have := (List.getElem?_eq_some_iff.1 hu).1; omega)]
      exact hu)
    have hlm : len ≤ 140737488351232 := by
      have := within_len ht hB
      rw [reach_eq, hBy] at this
      simp only [List.length_map, List.length_range] at this
      omega
    refine ⟨some a, len, cap, (List.range len).map f, rfl, ⟨by simp, hl, hlm, fun h0 => ?_, fun b hb => ?_⟩⟩
    · have h00 := (hf 0 h0).2 0 _ rfl
      obtain ⟨b, o, s⟩ := a
      have hs : s = none := by simpa [Addr.add] using World.cell?_spot h00
      subst hs
      refine ⟨b, o, rfl, ?_, fun i c hic q u hu => ?_⟩
      · have := World.block_lt_of_cell? _ _ h00
        rwa [block_add, block_add] at this
      · simp only [List.getElem?_map, Option.map_eq_some_iff] at hic
        obtain ⟨i', hi', rfl⟩ := hic
        have hil : i < len := by have := (List.getElem?_eq_some_iff.1 hi').1; simpa using this
        rw [List.getElem?_range hil] at hi'
        injection hi' with hi'
        subst hi'
        have := (hf i hil).2 q u hu
        rwa [add_lit0, add_lit0] at this
    · obtain ⟨i, hir, rfl⟩ := List.mem_map.1 hb
      exact (hf i (List.mem_range.1 hir)).1
end Go.Proofs.Ytjdobjcbmmdjeaa
