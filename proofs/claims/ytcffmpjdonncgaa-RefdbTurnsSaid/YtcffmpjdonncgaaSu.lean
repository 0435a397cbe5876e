/- The sorted list of texts, each once: what it has, and that there is but one. No program in sight. -/
import Derived.Test.YtcffmpjdonncgaaSt
namespace Go.Proofs.Ytcffmpjdonncgaa
open Go.RowKit

abbrev ltB (a b : ByteArray) : Prop := a.data.toList < b.data.toList
def Rising (l : List ByteArray) : Prop := l.Pairwise ltB
theorem ba_ext {a b : ByteArray} (h : a.data.toList = b.data.toList) : a = b := by
  cases a; cases b; simp only [ByteArray.mk.injEq]; exact Array.ext' h
theorem ltB_irrefl (a : ByteArray) : ¬ ltB a a := List.lt_irrefl _
theorem ltB_trans {a b c : ByteArray} (h : ltB a b) (k : ltB b c) : ltB a c := List.lt_trans h k
theorem ltB_tri (a b : ByteArray) : ltB a b ∨ a = b ∨ ltB b a := by
  rcases List.le_total a.data.toList b.data.toList with h | h
  · by_cases e : a.data.toList = b.data.toList
    · exact .inr (.inl (ba_ext e))
    · exact .inl (Classical.byContradiction fun k => e (List.le_antisymm h (List.not_lt.1 k)))
  · by_cases e : a.data.toList = b.data.toList
    · exact .inr (.inl (ba_ext e))
    · exact .inr (.inr (Classical.byContradiction fun k => e (List.le_antisymm (List.not_lt.1 k) h)))
theorem ltB_asymm {a b : ByteArray} (h : ltB a b) : ¬ ltB b a := fun k => ltB_irrefl _ (ltB_trans h k)

theorem rising_ext : ∀ {l m : List ByteArray}, Rising l → Rising m → (∀ s, s ∈ l ↔ s ∈ m) → l = m
  | [], [], _, _, _ => rfl
  | [], b :: m, _, _, h => by have := (h b).2 List.mem_cons_self; cases this
  | a :: l, [], _, _, h => by have := (h a).1 List.mem_cons_self; cases this
  | a :: l, b :: m, hl, hm, h => by
    obtain ⟨h1, h2⟩ := List.pairwise_cons.1 hl
    obtain ⟨k1, k2⟩ := List.pairwise_cons.1 hm
    have hab : a = b := by
      rcases List.mem_cons.1 ((h a).1 List.mem_cons_self) with e | e
      · exact e
      · rcases List.mem_cons.1 ((h b).2 List.mem_cons_self) with e2 | e2
        · exact e2.symm
        · exact (ltB_asymm (k1 a e) (h1 b e2)).elim
    subst hab
    rw [rising_ext h2 k2 (fun s => ?_)]
    constructor
    · intro hs
      rcases List.mem_cons.1 ((h s).1 (List.mem_cons_of_mem _ hs)) with e | e
      · subst e; exact (ltB_irrefl _ (h1 _ hs)).elim
      · exact e
    · intro hs
      rcases List.mem_cons.1 ((h s).2 (List.mem_cons_of_mem _ hs)) with e | e
      · subst e; exact (ltB_irrefl _ (k1 _ hs)).elim
      · exact e
theorem Rising.nodup {l : List ByteArray} (h : Rising l) : l.Nodup := List.Pairwise.imp (fun {a b} h e => by subst e; exact ltB_irrefl _ h) h

theorem compactUpTo_ok (zs : List (List UInt8)) (hs : zs.Pairwise (· ≤ ·)) : ∀ m, m ≤ zs.length →
    (Lib.compactUpTo zs.toArray m).Pairwise (· < ·) ∧ (∀ s, s ∈ Lib.compactUpTo zs.toArray m ↔ s ∈ zs.take m) := by
  have hget : ∀ j, (hj : j < zs.length) → zs.toArray[j]! = zs[j] := fun j hj => by simp [hj]
  intro m
  induction m with
  | zero => intro _; simp [Lib.compactUpTo]
  | succ m ih =>
    intro hm
    obtain ⟨h1, h2⟩ := ih (by omega)
    have hml : m < zs.length := by omega
    rw [Lib.compactUpTo_succ, List.take_succ_eq_append_getElem hml, hget m hml]
    have hle : ∀ s ∈ zs.take m, s ≤ zs[m] := by
      intro s hs'
      have := List.pairwise_iff_getElem.1 hs
      obtain ⟨i, hi, rfl⟩ := List.mem_iff_getElem.1 hs'
      have hi2 : i < m := by simp at hi; omega
      rw [List.getElem_take]
      exact this i m (by omega) hml hi2
    by_cases hk : Lib.keeps zs.toArray m = true
    · rw [if_pos hk]
      refine ⟨?_, fun s => by rw [List.mem_append, List.mem_append, h2]⟩
      rw [List.pairwise_append]
      refine ⟨h1, by simp, fun a ha b hb => ?_⟩
      rw [List.mem_singleton] at hb
      subst hb
      have hm0 : 0 < m := by
        rcases Nat.eq_zero_or_pos m with h | h
        · subst h; simp [Lib.compactUpTo] at ha
        · exact h
      have hne : zs[m] ≠ zs[m - 1] := by
        simp only [Lib.keeps, decide_eq_true_eq] at hk
        rcases hk with h | h
        · omega
        · rw [hget m hml, hget (m - 1) (by omega)] at h; exact h
      have hb : a ≤ zs[m - 1] := by
        have ha2 := (h2 a).1 ha
        obtain ⟨i, hi, rfl⟩ := List.mem_iff_getElem.1 ha2
        rw [List.getElem_take]
        have hi2 : i < m := by simp at hi; omega
        by_cases e : i = m - 1
        · subst e; exact List.le_refl _
        · exact List.pairwise_iff_getElem.1 hs i (m - 1) (by omega) (by omega) (by omega)
      have hc : zs[m - 1] ≤ zs[m] := List.pairwise_iff_getElem.1 hs (m - 1) m (by omega) hml (by omega)
      refine Classical.byContradiction fun k => hne ?_
      have k2 := List.not_lt.1 k
      exact List.le_antisymm (List.le_trans k2 hb) hc
    · rw [if_neg hk, List.append_nil]
      refine ⟨h1, fun s => ?_⟩
      have hm0 : ¬ m = 0 ∧ zs[m] = zs[m - 1] := by
        simp only [Lib.keeps, decide_eq_true_eq, not_or, ne_eq, Decidable.not_not] at hk
        obtain ⟨h, h'⟩ := hk
        exact ⟨h, by rw [hget m hml, hget (m - 1) (by omega)] at h'; exact h'⟩
      rw [List.mem_append, h2, List.mem_singleton]
      refine ⟨.inl, fun h => h.elim id fun e => ?_⟩
      subst e
      rw [hm0.2]
      exact List.mem_iff_getElem.2 ⟨m - 1, by simp; omega, by rw [List.getElem_take]⟩
theorem sorted_le (l : List (List UInt8)) : (l.mergeSort leL).Pairwise (· ≤ ·) := by
  have h := List.pairwise_mergeSort (le := leL) (fun a b c h k => by simp only [leL, decide_eq_true_eq] at *; exact List.le_trans h k) (fun a b => by simp only [leL, Bool.or_eq_true, decide_eq_true_eq]; exact List.le_total a b) l
  exact List.Pairwise.imp (fun {a b} h => by simpa [leL] using h) h
theorem SU_mem {l : List ByteArray} {s : ByteArray} : s ∈ SU l ↔ s ∈ l := by
  have h := (compactUpTo_ok _ (sorted_le (raw l)) _ (Nat.le_refl _)).2
  simp only [SU, cooked, List.mem_map]
  constructor
  · rintro ⟨x, hx, rfl⟩
    have := (h x).1 hx
    rw [List.take_length] at this
    have := (List.mergeSort_perm _ _).mem_iff.1 this
    simp only [raw, List.mem_map] at this
    obtain ⟨y, hy, rfl⟩ := this
    exact hy
  · intro hs
    refine ⟨s.data.toList, (h _).2 ?_, rfl⟩
    rw [List.take_length]
    exact (List.mergeSort_perm _ _).mem_iff.2 (List.mem_map.2 ⟨s, hs, rfl⟩)
theorem SU_rising (l : List ByteArray) : Rising (SU l) := by
  have h := (compactUpTo_ok _ (sorted_le (raw l)) _ (Nat.le_refl _)).1
  simp only [Rising, SU, cooked]
  exact List.Pairwise.map _ (fun a b hab => hab) h
theorem SU_of {l m : List ByteArray} (h : Rising m) (hm : ∀ s, s ∈ m ↔ s ∈ l) : SU l = m := rising_ext (SU_rising l) h (fun s => SU_mem.trans (hm s).symm)
theorem SU_congr {l m : List ByteArray} (h : ∀ s, s ∈ l ↔ s ∈ m) : SU l = SU m := rising_ext (SU_rising l) (SU_rising m) (fun s => SU_mem.trans ((h s).trans SU_mem.symm))
theorem SU_id {l : List ByteArray} (h : Rising l) : SU l = l := SU_of h (fun _ => Iff.rfl)
end Go.Proofs.Ytcffmpjdonncgaa
