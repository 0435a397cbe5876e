/- Slices that came in, opened in the printed texts' words (Kd.C). No program in sight. -/
import Derived.Test.YtcffmpjdonncgaaOp
import Derived.Test.YtcffmpjdonncgaaBr
namespace Go.Proofs.Ytcffmpjdonncgaa
open Go.RowKit Go.ChangeShapes Go.WideShapes Go.ChangeAt Go.Deep
open Go.Proofs.YtcffmpjdonncgaaW.PrintWords

theorem choose_list {α : Type} {p : Nat → α → Prop} : ∀ (n : Nat), (∀ i, i < n → ∃ b, p i b) → ∃ xs : List α, xs.length = n ∧ ∀ i b, xs[i]? = some b → p i b
  | 0, _ => ⟨[], rfl, by simp⟩
  | n + 1, h => by
    obtain ⟨xs, hl, hx⟩ := choose_list n (fun i hi => h i (by omega))
    obtain ⟨b, hb⟩ := h n (by omega)
    refine ⟨xs ++ [b], by simp [hl], fun i c hc => ?_⟩
    rcases Nat.lt_or_ge i n with hi | hi
    · rw [List.getElem?_append_left (by omega)] at hc
      exact hx i c hc
    · rw [List.getElem?_append_right (by omega)] at hc
      have hin : i - xs.length = 0 := by
        rcases Nat.eq_zero_or_pos (i - xs.length) with e | e
        · exact e
        · rw [List.getElem?_eq_none (by simp; omega)] at hc; cases hc
      rw [hin] at hc
      simp only [List.getElem?_cons_zero, Option.some.injEq] at hc
      subst hc
      have : i = n := by omega
      subst this
      exact hb
section
variable {H : Type} {enc : TypeId × Value → H} {P : Program} {w : World} {B : Nat}
/-- a slice whose elements are of kind d -/
theorem open_C {α : Type} (d : Kd α) (Q : α → Prop) {t e : TypeId} {fuel : Nat} {v : Value} {x : DataW H × List MemPlace} (ht : P.underlying t = some (.slice e)) (hC : P.cellsOf e = d.sz) (hby : 0 < P.bytesOf e) (hB2 : B ≤ 9223372036854775807)
    (elem : ∀ (fuel : Nat) (cs : List Value) (x : DataW H × List MemPlace), cs.length = d.sz → DataW.trod enc P w 0 (fun _ => true) true fuel e cs = some x → Within P B e x.1 → ∃ b, d.K w b cs ∧ Q b)
    (h : DataW.trod enc P w 0 (fun _ => true) true fuel t [v] = some x) (hB : Within P B t x.1) :
    ∃ A m c xs, v = .slice A m c ∧ Kd.C d w A m xs ∧ m ≤ c ∧ m * P.bytesOf e ≤ B ∧ ∀ x ∈ xs, Q x := by
  rcases open_slice ht h with ⟨hcs, rfl⟩ | ⟨a, len, cap, m, n, D, Pl, hcs, _, hl, hm, hmm, hx, hi⟩
  · simp only [List.cons.injEq, and_true] at hcs
    exact ⟨none, 0, 0, [], hcs, ⟨rfl, by omega, fun h => absurd h (by omega)⟩, Nat.le_refl _, by simp, by simp⟩
  · simp only [List.cons.injEq, and_true] at hcs
    subst hcs hx
    have hmc : m = cap := by simpa using hmm
    rw [hC] at hi
    have hlm : len * P.bytesOf e ≤ B := by
      have := within_len ht hB
      simpa only [List.length_map, List.length_range] using this
    have hlen : len ≤ len * P.bytesOf e := Nat.le_mul_of_pos_right _ hby
    obtain ⟨xs, hxl, hxs⟩ := choose_list (α := α) (p := fun i b => Q b ∧ ∃ c, c.length = d.sz ∧ d.K w b c ∧ ∀ q u, c[q]? = some u → w.cell? (a.add (i * d.sz + q)) = some u) len (fun i hil => by
      obtain ⟨cs', h1, h2⟩ := hi i (by omega)
      obtain ⟨_, hlen, hc⟩ := World.cells?_some h1
      obtain ⟨b, hb, hq⟩ := elem _ _ _ (by omega) h2 (within_elem ht hB (List.mem_map.2 ⟨i, List.mem_range.2 hil, rfl⟩))
      refine ⟨b, hq, cs', by omega, hb, fun q u hu => ?_⟩
      have := hc q (by have := (List.getElem?_eq_some_iff.1 hu).1; omega)
      rw [add_add'] at this
      rw [this]
      exact hu)
    refine ⟨some a, len, cap, xs, rfl, ⟨hxl, by omega, fun h0 => ⟨a, rfl, fun j p hj => (hxs j p hj).2⟩⟩, hl, hlm, fun x hx => ?_⟩
    obtain ⟨i, hi', rfl⟩ := List.mem_iff_getElem.1 hx
    exact (hxs i _ (List.getElem?_eq_getElem hi')).1
/-- a []string -/
theorem open_strs {t e : TypeId} {fuel : Nat} {v : Value} {x : DataW H × List MemPlace} (ht : P.underlying t = some (.slice e)) (he : P.underlying e = some .string) (hC : P.cellsOf e = 1) (hby : P.bytesOf e = 16) (hB2 : B ≤ 9223372036854775807)
    (h : DataW.trod enc P w 0 (fun _ => true) true fuel t [v] = some x) (hB : Within P B t x.1) : ∃ A m c xs, v = .slice A m c ∧ Kd.C Kd.string w A m xs ∧ m ≤ c ∧ m * 16 ≤ B ∧ ∀ s ∈ xs, s.size ≤ B := by
  rw [← hby]
  refine open_C Kd.string (fun s => s.size ≤ B) ht (by rw [hC]; rfl) (by omega) hB2 (fun fuel cs x hl h hB => ?_) h hB
  have hl : cs.length = 1 := hl
  match cs, hl with
  | [u], _ =>
    obtain ⟨s, rfl, hs⟩ := open_str1 he h hB
    exact ⟨s, rfl, hs⟩
end
end Go.Proofs.Ytcffmpjdonncgaa
