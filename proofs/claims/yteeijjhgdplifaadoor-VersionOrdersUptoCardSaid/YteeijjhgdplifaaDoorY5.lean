/- A slice of texts, opened out of the arguments; how long its texts may be where what is read is small. -/
import Derived.Test.YteeijjhgdplifaaDoorVz
import Derived.Test.YteeijjhgdplifaaDoorY1
namespace Go.Proofs.YteeijjhgdplifaaDoor
open Go.RowKit Go.ChangeShapes Go.WideShapes Go.ChangeAt Go.Deep

theorem trod_str1 {H : Type} {enc : TypeId × Value → H} {P : Program} {w : World} {t : TypeId} {fuel : Nat} {cs : List Value} {d : DataW H} {p : List MemPlace} (ht : P.underlying t = some .string) (hl : cs.length = 1) (h : DataW.trod enc P w 0 (fun _ => true) true fuel t cs = some (d, p)) : ∃ s : ByteArray, cs = [.string s] ∧ d = .lit (.string s.data.toList) := by
  match cs, hl with
  | [v], _ =>
    cases fuel with
    | zero => simp [DataW.trod] at h
    | succ m =>
      cases v <;> simp [DataW.trod, ht] at h
      rename_i s _
      exact ⟨s, rfl, h.2.1.symm⟩
theorem bulk_mem {H : Type} {d : DataW H} : ∀ {l : List (DataW H)}, d ∈ l → Rows.uptoBulk d ≤ Rows.uptoBulkAll l
  | [], h => by cases h
  | x :: l, h => by
    simp only [Rows.uptoBulkAll]
    rcases List.mem_cons.1 h with rfl | h
    · omega
    · have := bulk_mem h; omega
/-- A slice of texts that came in. -/
theorem open_texts {H : Type} {enc : TypeId × Value → H} {w : World} {fuel : Nat} {v : Value} {d : DataW H} {p : List MemPlace} (h : DataW.trod enc Tryd.prog w 0 (fun _ => true) true fuel 54 [v] = some (d, p)) :
    ∃ A n c X, v = .slice A n c ∧ X.length = n ∧ Sl w (fun _ => True) 1 (.slice A n c) n (strsL X) ∧ ∀ x ∈ X, x.length ≤ Rows.uptoBulk d := by
  have hC : Tryd.prog.cellsOf 9 = 1 := by kernel_rfl
  rcases open_slice Tryd.underlying54 h with ⟨hcs, hd⟩ | ⟨a, len, cap, m, n, D, Pl, hcs, _, hl, hm, hmm, hx, hi⟩
  · simp only [List.cons.injEq, and_true] at hcs
    exact ⟨none, 0, 0, [], hcs, rfl, Sl.nil_ _ _ _, by simp⟩
  · simp only [List.cons.injEq, and_true] at hcs
    subst hcs
    have hmc : m = cap := by simpa using hmm
    rw [hC] at hi
    have hel : ∀ i, i < len → ∃ s : ByteArray, w.cell? (a.add i) = some (.string s) ∧ D i = .lit (.string s.data.toList) := by
      intro i hil
      obtain ⟨cs', h1, h2⟩ := hi i (by omega)
      obtain ⟨_, hlen, hc⟩ := World.cells?_some h1
      obtain ⟨s, rfl, hD⟩ := trod_str1 Tryd.underlying9 (by omega) h2
      have := hc 0 (by omega)
      rw [add_add', Nat.add_zero, Nat.mul_one] at this
      exact ⟨s, this, hD⟩
    obtain ⟨X, hX⟩ : ∃ X, X = (List.range len).map fun i => match D i with | .lit (.string b) => b | _ => [] := ⟨_, rfl⟩
    have hXl : X.length = len := by rw [hX]; simp
    have hget : ∀ i x, X[i]? = some x → i < len ∧ w.cell? (a.add i) = some (.string (bl x)) ∧ D i = .lit (.string x) := by
      intro i x hx
      have hil : i < len := by have := (List.getElem?_eq_some_iff.1 hx).1; omega
      obtain ⟨s, h1, h2⟩ := hel i hil
      rw [hX, List.getElem?_map, List.getElem?_range hil] at hx
      simp only [Option.map_some, h2, Option.some.injEq] at hx
      subst hx
      exact ⟨hil, by rw [h1, ← bl_eta], h2⟩
    refine ⟨some a, len, cap, X, rfl, hXl, ⟨by simp [strsL, hXl], some a, cap, rfl, hl, fun _ => ⟨a, rfl, trivial, fun j u hu => ?_⟩⟩, fun x hx' => ?_⟩
    · unfold strsL at hu
      rw [List.getElem?_map] at hu
      cases hj : X[j]? with
      | none => rw [hj] at hu; cases hu
      | some x =>
        rw [hj] at hu
        have hu' : Value.string (bl x) = u := Option.some.inj hu
        subst hu'
        exact (hget j x hj).2.1
    · obtain ⟨j, hj⟩ := List.mem_iff_getElem?.1 hx'
      obtain ⟨hjl, _, hD⟩ := hget j x hj
      have h1 : d = .slice ((List.range len).map D) ((List.range (m - len)).map fun j => D (len + j)) := (Prod.mk.inj hx).1
      rw [h1]
      simp only [Rows.uptoBulk]
      have h2 := bulk_mem (List.mem_map.2 ⟨j, List.mem_range.2 hjl, hD⟩ : (DataW.lit (.string x) : DataW H) ∈ (List.range len).map D)
      simp only [Rows.uptoBulk] at h2
      omega
end Go.Proofs.YteeijjhgdplifaaDoor
