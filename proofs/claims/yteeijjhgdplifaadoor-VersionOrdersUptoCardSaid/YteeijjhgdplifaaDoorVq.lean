/- Stable merging and sorting of lists, plainly: a list sorted by inserting one by one is what merging of sorted parts makes, in whatever grouping. -/
import Derived.Test.YteeijjhgdplifaaDoorWd
namespace Go.Proofs.YteeijjhgdplifaaDoor

theorem snoc_ind {α : Type} {motive : List α → Prop} (nil : motive []) (snoc : ∀ l x, motive l → motive (l ++ [x])) : ∀ l, motive l := by
  intro l
  have h : ∀ n (l : List α), l.length = n → motive l := by
    intro n
    induction n with
    | zero => intro l hl; obtain rfl := List.length_eq_zero_iff.1 hl; exact nil
    | succ n ih =>
      intro l hl
      have hne : l ≠ [] := by intro h; rw [h] at hl; simp at hl
      rw [← List.dropLast_concat_getLast hne]
      exact snoc _ _ (ih _ (by simp [hl]))
  exact h _ l rfl

/-- A total preorder as a Bool function. -/
structure Pre {α : Type} (le : α → α → Bool) : Prop where
  tot : ∀ x y, le x y = true ∨ le y x = true
  tr : ∀ x y z, le x y = true → le y z = true → le x z = true

def mrg {α : Type} (le : α → α → Bool) : List α → List α → List α
  | [], ys => ys
  | xs, [] => xs
  | x :: xs, y :: ys => if le x y then x :: mrg le xs (y :: ys) else y :: mrg le (x :: xs) ys
termination_by xs ys => xs.length + ys.length

section
variable {α : Type} {le : α → α → Bool}
theorem mrg_nil_l (ys : List α) : mrg le [] ys = ys := by rw [mrg]
theorem mrg_nil_r (xs : List α) : mrg le xs [] = xs := by cases xs <;> simp [mrg]
theorem mrg_le {x y : α} {xs ys : List α} (h : le x y = true) : mrg le (x :: xs) (y :: ys) = x :: mrg le xs (y :: ys) := by rw [mrg, if_pos h]
theorem mrg_gt {x y : α} {xs ys : List α} (h : le x y = false) : mrg le (x :: xs) (y :: ys) = y :: mrg le (x :: xs) ys := by rw [mrg, if_neg (by rw [h]; decide)]

theorem mrg_perm : ∀ (n : Nat) (xs ys : List α), xs.length + ys.length ≤ n → (mrg le xs ys).Perm (xs ++ ys)
  | _, [], ys, _ => by rw [mrg_nil_l]; exact List.Perm.refl _
  | _, x :: xs, [], _ => by rw [mrg_nil_r, List.append_nil]
  | 0, x :: xs, y :: ys, h => by simp at h
  | n + 1, x :: xs, y :: ys, h => by
    simp only [List.length_cons] at h
    cases hl : le x y with
    | true =>
      rw [mrg_le hl]
      exact (mrg_perm n xs (y :: ys) (by simp only [List.length_cons]; omega)).cons x
    | false =>
      rw [mrg_gt hl]
      exact ((mrg_perm n (x :: xs) ys (by simp only [List.length_cons]; omega)).cons y).trans (List.perm_middle (a := y) (l₁ := x :: xs) (l₂ := ys)).symm
theorem mrg_length (xs ys : List α) : (mrg le xs ys).length = xs.length + ys.length := by
  rw [(mrg_perm _ xs ys (Nat.le_refl _)).length_eq, List.length_append]

theorem mrg_assoc (hp : Pre le) : ∀ (n : Nat) (xs ys zs : List α), xs.length + ys.length + zs.length ≤ n → mrg le (mrg le xs ys) zs = mrg le xs (mrg le ys zs)
  | _, [], ys, zs, _ => by rw [mrg_nil_l, mrg_nil_l]
  | _, x :: xs, [], zs, _ => by rw [mrg_nil_r, mrg_nil_l]
  | _, x :: xs, y :: ys, [], _ => by rw [mrg_nil_r, mrg_nil_r]
  | 0, x :: xs, y :: ys, z :: zs, h => by simp at h
  | n + 1, x :: xs, y :: ys, z :: zs, h => by
    simp only [List.length_cons] at h
    cases hxy : le x y with
    | true =>
      rw [mrg_le hxy]
      cases hxz : le x z with
      | true =>
        rw [mrg_le hxz]
        cases hyz : le y z with
        | true =>
          rw [mrg_le hyz, mrg_le hxy, ← mrg_le (le := le) (xs := ys) (ys := zs) hyz, mrg_assoc hp n xs (y :: ys) (z :: zs) (by simp only [List.length_cons]; omega)]
        | false =>
          rw [mrg_gt hyz, mrg_le hxz, ← mrg_gt (le := le) (xs := ys) (ys := zs) hyz, mrg_assoc hp n xs (y :: ys) (z :: zs) (by simp only [List.length_cons]; omega)]
      | false =>
        have hyz : le y z = false := by
          cases h' : le y z with
          | false => rfl
          | true => rw [hp.tr x y z hxy h'] at hxz; exact absurd hxz (by decide)
        rw [mrg_gt hxz, mrg_gt hyz, mrg_gt hxz, ← mrg_le (le := le) (xs := xs) (ys := ys) hxy, mrg_assoc hp n (x :: xs) (y :: ys) zs (by simp only [List.length_cons]; omega)]
    | false =>
      rw [mrg_gt hxy]
      cases hyz : le y z with
      | true =>
        rw [mrg_le hyz, mrg_le hyz, mrg_gt hxy, mrg_assoc hp n (x :: xs) ys (z :: zs) (by simp only [List.length_cons]; omega)]
      | false =>
        have hxz : le x z = false := by
          cases h' : le x z with
          | false => rfl
          | true =>
            have hzy : le z y = true := by
              rcases hp.tot z y with h1 | h1
              · exact h1
              · rw [hyz] at h1; exact absurd h1 (by decide)
            rw [hp.tr x z y h' hzy] at hxy; exact absurd hxy (by decide)
        rw [mrg_gt hyz, mrg_gt hyz, mrg_gt hxz, ← mrg_gt (le := le) (xs := xs) (ys := ys) hxy, mrg_assoc hp n (x :: xs) (y :: ys) zs (by simp only [List.length_cons]; omega)]

/-- Two sorted lists, cut where the merged list is cut, are merged part by part. -/
theorem mrg_cut : ∀ (n : Nat) (l1 r1 l2 r2 : List α), l1.length + r1.length ≤ n → (∀ x ∈ l1, ∀ y ∈ r2, le x y = true) → (∀ x ∈ l2, ∀ y ∈ r1, le x y = false) → mrg le (l1 ++ l2) (r1 ++ r2) = mrg le l1 r1 ++ mrg le l2 r2
  | _, [], [], l2, r2, _, _, _ => by rw [mrg_nil_l]; rfl
  | n + 1, [], y :: r1, l2, r2, h, h1, h2 => by
    rw [mrg_nil_l, List.nil_append]
    cases l2 with
    | nil => rw [mrg_nil_l, mrg_nil_l]
    | cons x l2 =>
      rw [List.cons_append, mrg_gt (h2 x (by simp) y (by simp))]
      have := mrg_cut n [] r1 (x :: l2) r2 (by simp at h ⊢; omega) (by simp) (fun u hu v hv => h2 u hu v (List.mem_cons_of_mem _ hv))
      rw [List.nil_append, mrg_nil_l] at this
      rw [this, List.cons_append]
  | n + 1, x :: l1, [], l2, r2, h, h1, h2 => by
    rw [mrg_nil_r, List.nil_append]
    cases r2 with
    | nil => rw [mrg_nil_r, mrg_nil_r]
    | cons y r2 =>
      rw [List.cons_append, mrg_le (h1 x (by simp) y (by simp))]
      have := mrg_cut n l1 [] l2 (y :: r2) (by simp at h ⊢; omega) (fun u hu v hv => h1 u (List.mem_cons_of_mem _ hu) v hv) (by simp)
      rw [List.nil_append, mrg_nil_r] at this
      rw [this, List.cons_append]
  | 0, x :: l1, _, _, _, h, _, _ => by simp at h
  | 0, [], y :: r1, _, _, h, _, _ => by simp at h
  | n + 1, x :: l1, y :: r1, l2, r2, h, h1, h2 => by
    simp only [List.length_cons] at h
    rw [List.cons_append, List.cons_append]
    cases hxy : le x y with
    | true =>
      rw [mrg_le hxy, mrg_le hxy, List.cons_append]
      have := mrg_cut n l1 (y :: r1) l2 r2 (by simp only [List.length_cons]; omega) (fun u hu v hv => h1 u (List.mem_cons_of_mem _ hu) v hv) h2
      rw [List.cons_append] at this
      rw [this]
    | false =>
      rw [mrg_gt hxy, mrg_gt hxy, List.cons_append]
      have := mrg_cut n (x :: l1) r1 l2 r2 (by simp only [List.length_cons]; omega) h1 (fun u hu v hv => h2 u hu v (List.mem_cons_of_mem _ hv))
      rw [List.cons_append] at this
      rw [this]

/-- A list rises (equals may stand in any order). -/
def Ris (le : α → α → Bool) (l : List α) : Prop := l.Pairwise fun x y => le x y = true

theorem mrg_mem {z : α} (xs ys : List α) : z ∈ mrg le xs ys ↔ z ∈ xs ∨ z ∈ ys := by rw [(mrg_perm _ xs ys (Nat.le_refl _)).mem_iff, List.mem_append]
theorem mrg_ris (hp : Pre le) : ∀ (n : Nat) (xs ys : List α), xs.length + ys.length ≤ n → Ris le xs → Ris le ys → Ris le (mrg le xs ys)
  | _, [], ys, _, _, h => by rw [mrg_nil_l]; exact h
  | _, x :: xs, [], _, h, _ => by rw [mrg_nil_r]; exact h
  | 0, x :: xs, y :: ys, h, _, _ => by simp at h
  | n + 1, x :: xs, y :: ys, h, hx, hy => by
    simp only [List.length_cons] at h
    have hx' := List.pairwise_cons.1 hx
    have hy' := List.pairwise_cons.1 hy
    cases hxy : le x y with
    | true =>
      rw [mrg_le hxy]
      refine List.pairwise_cons.2 ⟨fun z hz => ?_, mrg_ris hp n xs (y :: ys) (by simp only [List.length_cons]; omega) hx'.2 hy⟩
      rcases (mrg_mem _ _).1 hz with h1 | h1
      · exact hx'.1 z h1
      · rcases List.mem_cons.1 h1 with rfl | h1
        · exact hxy
        · exact hp.tr x y z hxy (hy'.1 z h1)
    | false =>
      have hyx : le y x = true := by
        rcases hp.tot x y with h1 | h1
        · rw [hxy] at h1; exact absurd h1 (by decide)
        · exact h1
      rw [mrg_gt hxy]
      refine List.pairwise_cons.2 ⟨fun z hz => ?_, mrg_ris hp n (x :: xs) ys (by simp only [List.length_cons]; omega) hx hy'.2⟩
      rcases (mrg_mem _ _).1 hz with h1 | h1
      · rcases List.mem_cons.1 h1 with rfl | h1
        · exact hyx
        · exact hp.tr y x z hyx (hx'.1 z h1)
      · exact hy'.1 z h1

/-- A list sorted by inserting one by one. -/
def srt (le : α → α → Bool) (l : List α) : List α := l.foldl (fun acc x => mrg le acc [x]) []
theorem srt_snoc (l : List α) (x : α) : srt le (l ++ [x]) = mrg le (srt le l) [x] := by simp [srt, List.foldl_append]
theorem srt_append (hp : Pre le) (a b : List α) : srt le (a ++ b) = mrg le (srt le a) (srt le b) := by
  induction b using snoc_ind with
  | nil => rw [List.append_nil]; show _ = mrg le _ []; rw [mrg_nil_r]
  | snoc b x ih => rw [← List.append_assoc, srt_snoc, ih, srt_snoc, mrg_assoc hp _ _ _ _ (Nat.le_refl _)]
theorem srt_perm (l : List α) : (srt le l).Perm l := by
  induction l using snoc_ind with
  | nil => exact List.Perm.refl _
  | snoc b x ih => rw [srt_snoc]; exact (mrg_perm _ _ _ (Nat.le_refl _)).trans (ih.append_right [x])
theorem srt_ris (hp : Pre le) (l : List α) : Ris le (srt le l) := by
  induction l using snoc_ind with
  | nil => exact List.Pairwise.nil
  | snoc b x ih => rw [srt_snoc]; exact mrg_ris hp _ _ _ (Nat.le_refl _) ih (List.pairwise_singleton _ _)
theorem srt_length (l : List α) : (srt le l).length = l.length := (srt_perm l).length_eq
theorem mrg_last {l : List α} {x : α} (h : ∀ y ∈ l, le y x = true) : mrg le l [x] = l ++ [x] := by
  induction l with
  | nil => rw [mrg_nil_l]; rfl
  | cons y l ih => rw [mrg_le (h y (by simp)), ih (fun z hz => h z (List.mem_cons_of_mem _ hz))]; rfl
theorem srt_fix {l : List α} (h : Ris le l) : srt le l = l := by
  induction l using snoc_ind with
  | nil => rfl
  | snoc b x ih =>
    have h' := List.pairwise_append.1 h
    rw [srt_snoc, ih h'.1, mrg_last (fun y hy => h'.2.2 y hy x (by simp))]

/-- Two places of a list exchanged. -/
def swp (X : List α) (i j : Nat) : List α := match X[i]?, X[j]? with
  | some x, some y => (X.set i y).set j x
  | _, _ => X
theorem swp_some {X : List α} {i j : Nat} {x y : α} (hx : X[i]? = some x) (hy : X[j]? = some y) : swp X i j = (X.set i y).set j x := by unfold swp; rw [hx, hy]
theorem swp_length (X : List α) (i j : Nat) : (swp X i j).length = X.length := by
  unfold swp; split <;> simp
theorem swp_get {X : List α} {i j : Nat} (hi : i < X.length) (hj : j < X.length) (k : Nat) : (swp X i j)[k]? = if k = j then X[i]? else if k = i then X[j]? else X[k]? := by
  rw [swp_some (List.getElem?_eq_getElem hi) (List.getElem?_eq_getElem hj)]
  rw [List.getElem?_set, List.getElem?_set, List.length_set]
  by_cases h1 : k = j
  · subst h1; simp [hj, hi]
  · rw [if_neg (fun h => h1 h.symm), if_neg h1]
    by_cases h2 : k = i
    · subst h2; simp [hi, hj]
    · rw [if_neg (fun h => h2 h.symm), if_neg h2]
theorem swp_up (F T : List α) (x y : α) : swp (F ++ x :: y :: T) F.length (F.length + 1) = F ++ y :: x :: T := by
  rw [swp_some (x := x) (y := y) (by simp) (by rw [List.getElem?_append_right (by omega)]; simp)]
  rw [List.set_append_right _ _ (Nat.le_refl _), Nat.sub_self, List.set_append_right _ _ (by omega), show F.length + 1 - F.length = 1 by omega]
  rfl
theorem swp_down (F T : List α) (x y : α) : swp (F ++ x :: y :: T) (F.length + 1) F.length = F ++ y :: x :: T := by
  rw [swp_some (x := y) (y := x) (by rw [List.getElem?_append_right (by omega)]; simp) (by simp)]
  rw [List.set_append_right _ _ (by omega), show F.length + 1 - F.length = 1 by omega, List.set_append_right _ _ (Nat.le_refl _), Nat.sub_self]
  rfl
/-- A range exchanged with another one. -/
def swapR (X : List α) (a b : Nat) : Nat → List α
  | 0 => X
  | n + 1 => swp (swapR X a b n) (a + n) (b + n)
theorem swapR_length (X : List α) (a b : Nat) : ∀ n, (swapR X a b n).length = X.length
  | 0 => rfl
  | n + 1 => by rw [swapR, swp_length, swapR_length X a b n]
theorem swapR_get {X : List α} {a b : Nat} : ∀ n, a + n ≤ b → b + n ≤ X.length → ∀ k, (swapR X a b n)[k]? = if a ≤ k ∧ k < a + n then X[b + (k - a)]? else if b ≤ k ∧ k < b + n then X[a + (k - b)]? else X[k]?
  | 0, _, _, k => by rw [if_neg (by omega), if_neg (by omega)]; rfl
  | n + 1, h1, h2, k => by
    have hl := swapR_length X a b n
    have ih := swapR_get (X := X) (a := a) (b := b) n (by omega) (by omega)
    rw [swapR, swp_get (X := swapR X a b n) (i := a + n) (j := b + n) (by omega) (by omega), ih (a + n), ih (b + n), ih k]
    repeat' split
    all_goals first
      | rfl
      | (exfalso; omega)
      | (congr 1; omega)
theorem get_app (A B : List α) (k : Nat) : (A ++ B)[k]? = if k < A.length then A[k]? else B[k - A.length]? := List.getElem?_append
theorem swapR_parts {P A M C S : List α} {a b n : Nat} (ha : P.length = a) (hA : A.length = n) (hC : C.length = n) (hb : a + n + M.length = b) : swapR (P ++ (A ++ (M ++ (C ++ S)))) a b n = P ++ (C ++ (M ++ (A ++ S))) := by
  apply List.ext_getElem?
  intro k
  rw [swapR_get n (by omega) (by simp; omega)]
  simp only [get_app]
  repeat' split
  all_goals first
    | rfl
    | (exfalso; omega)
    | (congr 1; omega)

/-- A list, sorted block by block. -/
inductive Bs (le : α → α → Bool) (bs : Nat) : List α → List α → Prop
  | last (X : List α) (h : X.length ≤ bs) : Bs le bs X (srt le X)
  | cons (A X Y : List α) (hA : A.length = bs) (h : Bs le bs X Y) : Bs le bs (A ++ X) (srt le A ++ Y)
theorem srt_nil : srt le ([] : List α) = [] := rfl
theorem Bs.length {bs : Nat} {X Y : List α} (h : Bs le bs X Y) : Y.length = X.length := by
  induction h with
  | last X h => exact srt_length X
  | cons A X Y hA h ih => rw [List.length_append, List.length_append, srt_length, ih]
theorem Bs.small {bs : Nat} {X Y : List α} (h : Bs le bs X Y) (hl : X.length ≤ bs) : Y = srt le X := by
  cases h with
  | last X h => rfl
  | cons A X' Y' hA h =>
    rw [List.length_append] at hl
    have h0 : X' = [] := List.length_eq_zero_iff.1 (by omega)
    subst h0
    have hy : Y'.length = 0 := h.length
    rw [List.length_eq_zero_iff.1 hy, List.append_nil, List.append_nil]
theorem Bs.head {bs : Nat} {X Y : List α} (h : Bs le bs X Y) (hl : bs ≤ X.length) : ∃ A X' Y', X = A ++ X' ∧ Y = srt le A ++ Y' ∧ A.length = bs ∧ Bs le bs X' Y' := by
  cases h with
  | last X h => exact ⟨X, [], [], by simp, by simp, by omega, .last [] (by simp)⟩
  | cons A X' Y' hA h => exact ⟨A, X', Y', rfl, rfl, hA, h⟩
theorem srt_two (hp : Pre le) (A B : List α) : mrg le (srt le A) (srt le B) = srt le (A ++ B) := (srt_append hp A B).symm
theorem ris_append {A B : List α} (h : Ris le (A ++ B)) : Ris le A ∧ Ris le B ∧ ∀ x ∈ A, ∀ y ∈ B, le x y = true := List.pairwise_append.1 h
/-- Where an element goes into a list that rises. -/
theorem mrg_one {L R : List α} {x : α} (h1 : ∀ y ∈ L, le y x = true) (h2 : ∀ y ∈ R, le y x = false) : mrg le (L ++ R) [x] = L ++ (x :: R) := by
  have := mrg_cut (le := le) _ L [x] R [] (Nat.le_refl _) (by simp) (fun u hu v hv => by rw [List.mem_singleton.1 hv]; exact h2 u hu)
  rw [List.append_nil] at this
  rw [this, mrg_last h1, mrg_nil_r, List.append_assoc]; rfl
theorem mrg_one' {L R : List α} {x : α} (h1 : ∀ y ∈ L, le x y = false) (h2 : ∀ y ∈ R, le x y = true) : mrg le [x] (L ++ R) = L ++ (x :: R) := by
  have := mrg_cut (le := le) _ [] L [x] R (Nat.le_refl _) (by simp) (fun u hu v hv => by rw [List.mem_singleton.1 hu]; exact h1 v hv)
  rw [List.nil_append] at this
  rw [this, mrg_nil_l]
  congr 1
  cases R with
  | nil => rw [mrg_nil_r]
  | cons y R => rw [mrg_le (h2 y (by simp)), mrg_nil_l]
end
end Go.Proofs.YteeijjhgdplifaaDoor
