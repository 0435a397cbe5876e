/- RefdbX: the least text that is still to come, in plain. -/
import Derived.Test.YtcffmpjdonncgaaG10
namespace Go.Proofs.Ytcffmpjdonncgaa
open Go.RowKit Go.Proofs.YtcffmpjdonncgaaW.PrintWords

/-! ### sorted -/
/-- the texts that are still to come behind out -/
def aft (out : List ByteArray) (s : ByteArray) : Prop := ∀ b, out.getLast? = some b → ltB b s
open Classical in
noncomputable def least (out : List ByteArray) : List ByteArray → Option ByteArray → Option ByteArray
  | [], b => b
  | x :: r, b => least out r (if aft out x ∧ (∀ y, b = some y → ltB x y) then some x else b)
theorem least_spec (out : List ByteArray) : ∀ (l : List ByteArray) (b : Option ByteArray), (∀ y, b = some y → aft out y) →
    (∀ z, least out l b = some z → aft out z ∧ (z ∈ l ∨ b = some z) ∧ (∀ s ∈ l, aft out s → ¬ ltB s z) ∧ ∀ y, b = some y → ¬ ltB y z) ∧ (least out l b = none → b = none ∧ ∀ s ∈ l, ¬ aft out s)
  | [], b, hb => ⟨fun z hz => ⟨hb z hz, .inr hz, by simp, fun y hy => by
      have hz : b = some z := hz
      rw [hz] at hy; injection hy with hy; subst hy; exact ltB_irrefl _⟩, fun h => ⟨h, by simp⟩⟩
  | x :: r, b, hb => by
    unfold least
    by_cases h : aft out x ∧ (∀ y, b = some y → ltB x y)
    · rw [if_pos h]
      obtain ⟨h1, h2⟩ := least_spec out r (some x) (fun y hy => by injection hy with hy; subst hy; exact h.1)
      refine ⟨fun z hz => ?_, fun hz => ?_⟩
      · obtain ⟨k1, k2, k3, k4⟩ := h1 z hz
        refine ⟨k1, .inl (k2.elim (List.mem_cons_of_mem _) (fun e => by injection e with e; subst e; exact List.mem_cons_self)), fun s hs ha => ?_, fun y hy hyz => ?_⟩
        · rcases List.mem_cons.1 hs with rfl | hs
          · exact k4 _ rfl
          · exact k3 s hs ha
        · exact k4 x rfl (ltB_trans (h.2 y hy) hyz)
      · exact absurd (h2 hz).1 (by simp)
    · rw [if_neg h]
      obtain ⟨h1, h2⟩ := least_spec out r b hb
      refine ⟨fun z hz => ?_, fun hz => ?_⟩
      · obtain ⟨k1, k2, k3, k4⟩ := h1 z hz
        refine ⟨k1, k2.imp (List.mem_cons_of_mem _) id, fun s hs ha hsz => ?_, k4⟩
        rcases List.mem_cons.1 hs with rfl | hs
        · refine h ⟨ha, fun y hy => ?_⟩
          rcases ltB_tri s y with h | h | h
          · exact h
          · subst h; exact (k4 s hy hsz).elim
          · exact (k4 y hy (ltB_trans h hsz)).elim
        · exact k3 s hs ha hsz
      · obtain ⟨k1, k2⟩ := h2 hz
        refine ⟨k1, fun s hs ha => ?_⟩
        rcases List.mem_cons.1 hs with rfl | hs
        · exact h ⟨ha, fun y hy => by rw [k1] at hy; cases hy⟩
        · exact k2 s hs ha

theorem rising_get {l : List ByteArray} (h : Rising l) {i j : Nat} {a b : ByteArray} (hij : i < j) (ha : l[i]? = some a) (hb : l[j]? = some b) : ltB a b := by
  obtain ⟨hi, rfl⟩ := List.getElem?_eq_some_iff.1 ha
  obtain ⟨hj, rfl⟩ := List.getElem?_eq_some_iff.1 hb
  exact List.pairwise_iff_getElem.1 h i j hi hj hij
theorem aft_take {m : List ByteArray} (h : Rising m) {j i : Nat} {s : ByteArray} (hj : j ≤ m.length) (hs : m[i]? = some s) : aft (m.take j) s ↔ j ≤ i := by
  unfold aft
  rw [List.getLast?_eq_getElem?, List.length_take, Nat.min_eq_left hj]
  cases j with
  | zero => simp
  | succ j =>
    obtain ⟨b, hb⟩ : ∃ b, m[j]? = some b := ⟨_, List.getElem?_eq_getElem (by omega)⟩
    rw [Nat.add_sub_cancel, List.getElem?_take, if_pos (by omega), hb]
    constructor
    · intro k
      have := k b rfl
      refine Classical.byContradiction fun hn => ?_
      by_cases e : i = j
      · subst e; rw [hb] at hs; injection hs with hs; subst hs; exact ltB_irrefl _ this
      · exact ltB_asymm this (rising_get h (by omega) hs hb)
    · intro hi c hc
      injection hc with hc
      subst hc
      exact rising_get h (by omega) hb hs
theorem least_SU (l : List ByteArray) (j : Nat) (hj : j ≤ (SU l).length) : least ((SU l).take j) l none = (SU l)[j]? := by
  obtain ⟨h1, h2⟩ := least_spec ((SU l).take j) l none (fun y hy => by cases hy)
  have hr := SU_rising l
  cases hz : least ((SU l).take j) l none with
  | none =>
    refine (List.getElem?_eq_none ?_).symm
    refine Classical.byContradiction fun hn => ?_
    obtain ⟨b, hb⟩ : ∃ b, (SU l)[j]? = some b := ⟨_, List.getElem?_eq_getElem (by omega)⟩
    exact (h2 hz).2 b (SU_mem.1 (List.mem_of_getElem? hb)) ((aft_take hr hj hb).2 (Nat.le_refl _))
  | some z =>
    obtain ⟨k1, k2, k3, _⟩ := h1 z hz
    have hzl : z ∈ SU l := SU_mem.2 (k2.elim id (fun h => by cases h))
    obtain ⟨m, hm⟩ := List.getElem?_of_mem hzl
    have hjm := (aft_take hr hj hm).1 k1
    by_cases e : m = j
    · rw [← e, hm]
    · exfalso
      have hml := (List.getElem?_eq_some_iff.1 hm).1
      obtain ⟨b, hb⟩ : ∃ b, (SU l)[j]? = some b := ⟨_, List.getElem?_eq_getElem (by omega)⟩
      exact k3 b (SU_mem.1 (List.mem_of_getElem? hb)) ((aft_take hr hj hb).2 (Nat.le_refl _)) (rising_get hr (by omega) hb hm)
end Go.Proofs.Ytcffmpjdonncgaa
