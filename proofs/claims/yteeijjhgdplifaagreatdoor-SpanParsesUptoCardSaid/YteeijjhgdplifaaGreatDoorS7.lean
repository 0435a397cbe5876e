/- The order of cuts; sorting them. -/
import Derived.Test.YteeijjhgdplifaaGreatDoorS3
import Derived.Test.YteeijjhgdplifaaGreatDoorSs
namespace Go.Proofs.YteeijjhgdplifaaGreatDoor
open Go.RowKit

theorem Cut.edge_rank (c : Cut) : (c.edge = true ∧ (c.rank = 0 ∨ c.rank = 2)) ∨ (c.edge = false ∧ c.rank = 1) := by
  unfold Cut.edge Cut.rank
  by_cases h0 : c.a = 0
  · left; simp [h0]
  · by_cases h3 : c.a = 3
    · left; simp [h3]
    · right; simp [h0, h3]
theorem Cut.cmp_edge {c d : Cut} (h : c.edge = true ∨ d.edge = true) : c.cmp d = c.rank - d.rank := by
  unfold Cut.cmp
  rw [if_pos]
  rcases h with h | h <;> simp [h]
theorem Cut.cmp_mid {c d : Cut} (hc : c.edge = false) (hd : d.edge = false) : c.cmp d = if c.v.cmp d.v = 0 then c.a - d.a else c.v.cmp d.v := by
  unfold Cut.cmp
  rw [if_neg (by simp [hc, hd])]
theorem Cut.cmp_anti {c d : Cut} (hc : c.Ok) (hd : d.Ok) : d.cmp c = - c.cmp d := by
  rcases c.edge_rank with ⟨e1, _⟩ | ⟨e1, _⟩
  · rw [Cut.cmp_edge (.inr e1), Cut.cmp_edge (.inl e1)]; omega
  · rcases d.edge_rank with ⟨e2, _⟩ | ⟨e2, _⟩
    · rw [Cut.cmp_edge (.inl e2), Cut.cmp_edge (.inr e2)]; omega
    · rw [Cut.cmp_mid e2 e1, Cut.cmp_mid e1 e2]
      have h := Ver.cmp_anti hc.1 hd.1
      by_cases h0 : c.v.cmp d.v = 0
      · rw [if_pos h0, if_pos (by omega)]; omega
      · rw [if_neg h0, if_neg (by omega)]; omega
theorem Cut.cmp_tr {c d e : Cut} (hc : c.Ok) (hd : d.Ok) (he : e.Ok) (h1 : c.cmp d ≤ 0) (h2 : d.cmp e ≤ 0) : c.cmp e ≤ 0 := by
  rcases c.edge_rank with ⟨e1, r1⟩ | ⟨e1, r1⟩ <;> rcases d.edge_rank with ⟨e2, r2⟩ | ⟨e2, r2⟩ <;> rcases e.edge_rank with ⟨e3, r3⟩ | ⟨e3, r3⟩
  · rw [Cut.cmp_edge (.inl e1)] at *; rw [Cut.cmp_edge (.inl e2)] at h2; omega
  · rw [Cut.cmp_edge (.inl e1)] at *; rw [Cut.cmp_edge (.inl e2)] at h2; omega
  · rw [Cut.cmp_edge (.inl e1)] at *; rw [Cut.cmp_edge (.inr e3)] at h2; omega
  · rw [Cut.cmp_edge (.inl e1)] at *; omega
  · rw [Cut.cmp_edge (.inr e2)] at h1; rw [Cut.cmp_edge (.inl e2)] at h2; rw [Cut.cmp_edge (.inr e3)]; omega
  · rw [Cut.cmp_edge (.inr e2)] at h1; rw [Cut.cmp_edge (.inl e2)] at h2; omega
  · rw [Cut.cmp_edge (.inr e3)] at *; omega
  · rw [Cut.cmp_mid e1 e2] at h1
    rw [Cut.cmp_mid e2 e3] at h2
    rw [Cut.cmp_mid e1 e3]
    have t1 : c.v.cmp d.v ≤ 0 := by split at h1 <;> omega
    have t2 : d.v.cmp e.v ≤ 0 := by split at h2 <;> omega
    have t3 := Ver.cmp_tr hc.1 hd.1 he.1 t1 t2
    by_cases h0 : c.v.cmp e.v = 0
    · rw [if_pos h0]
      have t4 := Ver.cmp_anti hc.1 he.1
      have t5 := Ver.cmp_tr hd.1 he.1 hc.1 t2 (by omega)
      have t6 := Ver.cmp_anti hd.1 hc.1
      have t7 : c.v.cmp d.v = 0 := by omega
      have t8 := Ver.cmp_tr he.1 hc.1 hd.1 (by omega) t1
      have t9 := Ver.cmp_anti he.1 hd.1
      have t10 : d.v.cmp e.v = 0 := by omega
      rw [if_pos t7] at h1
      rw [if_pos t10] at h2
      omega
    · rw [if_neg h0]; exact t3
/-- What may be sorted. -/
abbrev OkCut := { c : Cut // c.Ok }
instance : Inhabited OkCut := ⟨⟨⟨0, Ver.zero⟩, rfl, by decide, by decide⟩⟩
def ccf (x y : OkCut) : Int := x.1.cmp y.1
def cenc (x : OkCut) : List Value := x.1.cells
theorem ccf_swo : Go.Sort.SWO (ltOf ccf) := by
  have an : ∀ x y : OkCut, ccf y x = - ccf x y := fun x y => Cut.cmp_anti x.2 y.2
  have tr : ∀ x y z : OkCut, ccf x y ≤ 0 → ccf y z ≤ 0 → ccf x z ≤ 0 := fun x y z => Cut.cmp_tr x.2 y.2 z.2
  constructor
  · intro x
    have := an x x
    simp only [ltOf, decide_eq_false_iff_not]; omega
  · intro x y z h1 h2
    simp only [ltOf, decide_eq_true_eq] at *
    have h3 := tr x y z (by omega) (by omega)
    rcases Int.lt_or_eq_of_le h3 with h | h
    · exact h
    · have a1 := an x z
      have a2 := an x y
      have := tr y z x (by omega) (by omega)
      omega
  · intro x y z h1 h2
    simp only [ltOf, decide_eq_false_iff_not] at *
    have a1 := an x y
    have a2 := an y z
    have a3 := an x z
    have := tr z y x (by omega) (by omega)
    omega
theorem grow_of {w w' : World} (hb : Below w.heap.size w w') (hd : w.drawn ≤ w'.drawn) : ∃ q os', w' = Go.Sort.grow (w.drewN q) os' := by
  refine ⟨w'.drawn - w.drawn, w'.heap.extract w.heap.size w'.heap.size, ?_⟩
  have hh : w'.heap = w.heap ++ w'.heap.extract w.heap.size w'.heap.size := by
    apply Array.ext_getElem?
    intro i
    rw [Array.getElem?_append]
    split
    · rename_i h; exact hb.block i h
    · rename_i h
      rw [Array.getElem?_extract]
      split
      · congr 1; omega
      · rename_i h2
        exact Array.getElem?_eq_none (by have := hb.size; omega)
  obtain ⟨h1, h2, h3, h4, h5⟩ := hb
  cases w' with
  | mk heap' tape' drawn' os' output' =>
    simp only [Go.Sort.grow, World.drewN] at *
    subst h1 h2 h3
    rw [← hh, show w.drawn + (drawn' - w.drawn) = drawn' by omega]
end Go.Proofs.YteeijjhgdplifaaGreatDoor
