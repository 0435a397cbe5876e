/- VERSIONS, PLAINLY: their order, the version behind. No program in sight. -/
import Derived.Test.YteeijjhgdplifaaGreatDoorVp
import Derived.Lib.Bytealg
namespace Go.Proofs.YteeijjhgdplifaaGreatDoor
open Go

/-- a comparison that orders -/
structure Cmp3 {α : Type} (f : α → α → Int) : Prop where
  one : ∀ x y, f x y = -1 ∨ f x y = 0 ∨ f x y = 1
  anti : ∀ x y, f y x = - f x y
  eq : ∀ x y, f x y = 0 ↔ x = y
  tr : ∀ x y z, f x y ≤ 0 → f y z ≤ 0 → f x z ≤ 0
theorem Cmp3.self {α : Type} {f : α → α → Int} (h : Cmp3 f) (x : α) : f x x = 0 := (h.eq x x).2 rfl
theorem Cmp3.tr' {α : Type} {f : α → α → Int} (h : Cmp3 f) (x y z : α) (h1 : 0 ≤ f x y) (h2 : 0 ≤ f y z) : 0 ≤ f x z := by
  have := h.tr z y x (by rw [h.anti y z]; omega) (by rw [h.anti x y]; omega)
  rw [h.anti x z] at this
  omega
theorem Cmp3.lt_tr {α : Type} {f : α → α → Int} (h : Cmp3 f) (x y z : α) (h1 : f x y < 0) (h2 : f y z ≤ 0) : f x z < 0 := by
  have h3 := h.tr x y z (by omega) h2
  rcases Int.lt_or_eq_of_le h3 with h4 | h4
  · exact h4
  · have e := (h.eq x z).1 h4
    subst e
    have := h.anti x y
    omega
theorem Cmp3.tr_lt {α : Type} {f : α → α → Int} (h : Cmp3 f) (x y z : α) (h1 : f x y ≤ 0) (h2 : f y z < 0) : f x z < 0 := by
  have h3 := h.tr x y z h1 (by omega)
  rcases Int.lt_or_eq_of_le h3 with h4 | h4
  · exact h4
  · have e := (h.eq x z).1 h4
    subst e
    have := h.anti x y
    omega
def lex3 {α β : Type} (f : α → α → Int) (g : β → β → Int) (p q : α × β) : Int := if f p.1 q.1 = 0 then g p.2 q.2 else f p.1 q.1
theorem Cmp3.lex {α β : Type} {f : α → α → Int} {g : β → β → Int} (hf : Cmp3 f) (hg : Cmp3 g) : Cmp3 (lex3 f g) := by
  refine ⟨fun x y => ?_, fun x y => ?_, fun x y => ?_, fun x y z h1 h2 => ?_⟩
  · unfold lex3
    split
    · exact hg.one _ _
    · exact hf.one _ _
  · unfold lex3
    rw [hf.anti x.1 y.1]
    by_cases h : f x.1 y.1 = 0
    · rw [if_pos h, if_pos (by omega), hg.anti x.2 y.2]
    · rw [if_neg h, if_neg (by omega)]
  · unfold lex3
    by_cases h : f x.1 y.1 = 0
    · rw [if_pos h, hg.eq]
      have := (hf.eq _ _).1 h
      constructor
      · intro h2; exact Prod.ext this h2
      · intro h2; rw [h2]
    · rw [if_neg h]
      constructor
      · intro h2; exact absurd h2 h
      · intro h2; exact absurd ((hf.eq _ _).2 (by rw [h2])) h
  · unfold lex3 at *
    by_cases e1 : f x.1 y.1 = 0
    · rw [if_pos e1] at h1
      have e := (hf.eq _ _).1 e1
      rw [e]
      by_cases e2 : f y.1 z.1 = 0
      · rw [if_pos e2] at h2 ⊢
        exact hg.tr _ _ _ h1 h2
      · rw [if_neg e2] at h2 ⊢
        exact h2
    · rw [if_neg e1] at h1
      have hlt : f x.1 y.1 < 0 := by omega
      have h3 : f x.1 z.1 < 0 := by
        by_cases e2 : f y.1 z.1 = 0
        · exact hf.lt_tr _ _ _ hlt (by omega)
        · rw [if_neg e2] at h2
          exact hf.lt_tr _ _ _ hlt h2
      rw [if_neg (by omega)]
      omega
def cmpI (x y : Int) : Int := if x < y then -1 else if y < x then 1 else 0
theorem cmpI_3 : Cmp3 cmpI := by
  refine ⟨fun x y => ?_, fun x y => ?_, fun x y => ?_, fun x y z => ?_⟩ <;> unfold cmpI <;> (repeat' split) <;> omega
theorem compareBytes_one : ∀ a b : List UInt8, Lib.compareBytes a b = -1 ∨ Lib.compareBytes a b = 0 ∨ Lib.compareBytes a b = 1
  | [], [] => by simp [Lib.compareBytes]
  | [], _ :: _ => by simp [Lib.compareBytes]
  | _ :: _, [] => by simp [Lib.compareBytes]
  | a :: as, b :: bs => by
    have := compareBytes_one as bs
    simp only [Lib.compareBytes]
    split
    · simp
    · split
      · simp
      · exact this
theorem u8_lt (a b : UInt8) : a < b ↔ a.toNat < b.toNat := UInt8.lt_iff_toNat_lt
theorem compareBytes_anti : ∀ a b : List UInt8, Lib.compareBytes b a = - Lib.compareBytes a b
  | [], [] => by simp [Lib.compareBytes]
  | [], _ :: _ => by simp [Lib.compareBytes]
  | _ :: _, [] => by simp [Lib.compareBytes]
  | a :: as, b :: bs => by
    have := compareBytes_anti as bs
    simp only [Lib.compareBytes, u8_lt]
    by_cases h1 : a.toNat < b.toNat
    · rw [if_neg (by omega), if_pos h1, if_pos h1]; rfl
    · by_cases h2 : b.toNat < a.toNat
      · rw [if_pos h2, if_neg h1, if_pos h2]
      · rw [if_neg h2, if_neg h1, if_neg h1, if_neg h2, this]
theorem compareBytes_eq : ∀ a b : List UInt8, Lib.compareBytes a b = 0 ↔ a = b
  | [], [] => by simp [Lib.compareBytes]
  | [], _ :: _ => by simp [Lib.compareBytes]
  | _ :: _, [] => by simp [Lib.compareBytes]
  | a :: as, b :: bs => by
    have := compareBytes_eq as bs
    simp only [Lib.compareBytes, u8_lt, List.cons.injEq]
    by_cases h1 : a.toNat < b.toNat
    · rw [if_pos h1]
      exact ⟨fun h => absurd h (by decide), fun h => by rw [h.1] at h1; omega⟩
    · by_cases h2 : b.toNat < a.toNat
      · rw [if_neg h1, if_pos h2]
        exact ⟨fun h => absurd h (by decide), fun h => by rw [h.1] at h2; omega⟩
      · rw [if_neg h1, if_neg h2, this]
        have e : a = b := UInt8.toNat_inj.1 (by omega)
        simp [e]
theorem compareBytes_tr : ∀ a b c : List UInt8, Lib.compareBytes a b ≤ 0 → Lib.compareBytes b c ≤ 0 → Lib.compareBytes a c ≤ 0
  | [], _, [] => by simp [Lib.compareBytes]
  | [], _, _ :: _ => by simp [Lib.compareBytes]
  | _ :: _, [], _ => by intro h; simp [Lib.compareBytes] at h
  | _ :: _, _ :: _, [] => by intro _ h; simp [Lib.compareBytes] at h
  | a :: as, b :: bs, c :: cs => by
    have ih := compareBytes_tr as bs cs
    simp only [Lib.compareBytes, u8_lt]
    by_cases h1 : a.toNat < b.toNat
    · rw [if_pos h1]
      by_cases h3 : b.toNat < c.toNat
      · rw [if_pos h3, if_pos (by omega)]; omega
      · rw [if_neg h3]
        by_cases h4 : c.toNat < b.toNat
        · rw [if_pos h4]; omega
        · rw [if_neg h4, if_pos (by omega)]; omega
    · rw [if_neg h1]
      by_cases h2 : b.toNat < a.toNat
      · rw [if_pos h2]; omega
      · rw [if_neg h2]
        by_cases h3 : b.toNat < c.toNat
        · rw [if_pos h3, if_pos (by omega)]; omega
        · rw [if_neg h3]
          by_cases h4 : c.toNat < b.toNat
          · rw [if_pos h4]; omega
          · rw [if_neg h4, if_neg (by omega), if_neg (by omega)]
            exact ih
theorem compareBytes_3 : Cmp3 Lib.compareBytes := ⟨compareBytes_one, compareBytes_anti, compareBytes_eq, compareBytes_tr⟩
theorem compareBytes_nil (b : List UInt8) (h : b ≠ []) : Lib.compareBytes [] b = -1 := by cases b with
  | nil => exact absurd rfl h
  | cons x r => rfl
/-- tags: none is above all others -/
def cmpT (s t : List UInt8) : Int := if Lib.compareBytes s t ≠ 0 ∧ (s = [] ∨ t = []) then - Lib.compareBytes s t else Lib.compareBytes s t
theorem cmpT_form (s t : List UInt8) : (s = t ∧ cmpT s t = 0) ∨ (s = [] ∧ t ≠ [] ∧ cmpT s t = 1) ∨ (s ≠ [] ∧ t = [] ∧ cmpT s t = -1) ∨ (s ≠ t ∧ s ≠ [] ∧ t ≠ [] ∧ cmpT s t = Lib.compareBytes s t) := by
  unfold cmpT
  by_cases h : s = t
  · subst h
    rw [compareBytes_3.self]
    exact .inl ⟨rfl, rfl⟩
  · have hne : Lib.compareBytes s t ≠ 0 := fun e => h ((compareBytes_eq _ _).1 e)
    by_cases hs : s = []
    · subst hs
      rw [if_pos ⟨hne, .inl rfl⟩, compareBytes_nil t (Ne.symm h)]
      exact .inr (.inl ⟨rfl, Ne.symm h, rfl⟩)
    · by_cases ht : t = []
      · subst ht
        rw [if_pos ⟨hne, .inr rfl⟩, compareBytes_anti [] s, compareBytes_nil s hs]
        exact .inr (.inr (.inl ⟨hs, rfl, rfl⟩))
      · rw [if_neg (fun e => e.2.elim hs ht)]
        exact .inr (.inr (.inr ⟨h, hs, ht, rfl⟩))
theorem cmpT_3 : Cmp3 cmpT := by
  refine ⟨fun x y => ?_, fun x y => ?_, fun x y => ?_, fun x y z h1 h2 => ?_⟩
  · rcases cmpT_form x y with ⟨_, h⟩ | ⟨_, _, h⟩ | ⟨_, _, h⟩ | ⟨_, _, _, h⟩
    · exact .inr (.inl h)
    · exact .inr (.inr h)
    · exact .inl h
    · rw [h]; exact compareBytes_one _ _
  · unfold cmpT
    rw [compareBytes_anti x y]
    by_cases h : Lib.compareBytes x y = 0
    · rw [h]; simp
    · by_cases h2 : x = [] ∨ y = []
      · rw [if_pos ⟨by omega, h2.symm⟩, if_pos ⟨h, h2⟩]
      · rw [if_neg (fun e => h2 e.2.symm), if_neg (fun e => h2 e.2)]
  · rcases cmpT_form x y with ⟨e, h⟩ | ⟨e1, e2, h⟩ | ⟨e1, e2, h⟩ | ⟨e, _, _, h⟩
    · exact ⟨fun _ => e, fun _ => h⟩
    · exact ⟨fun h2 => by omega, fun h2 => absurd (h2 ▸ e1) e2⟩
    · exact ⟨fun h2 => by omega, fun h2 => absurd (h2.trans e2) e1⟩
    · rw [h]; exact compareBytes_eq _ _
  · rcases cmpT_form x y with ⟨e, h⟩ | ⟨e1, e2, h⟩ | ⟨e1, e2, h⟩ | ⟨e, e1, e2, h⟩
    · rw [e]; exact h2
    · omega
    · subst e2
      rcases cmpT_form [] z with ⟨e, h'⟩ | ⟨_, _, h'⟩ | ⟨h', _⟩ | ⟨_, h', _⟩
      · rw [← e]; omega
      · omega
      · exact absurd rfl h'
      · exact absurd rfl h'
    · rcases cmpT_form y z with ⟨e', h'⟩ | ⟨e', _⟩ | ⟨_, e4, h'⟩ | ⟨_, _, e4, h'⟩
      · rw [← e']; exact h1
      · exact absurd e' e2
      · rcases cmpT_form x z with ⟨e5, _⟩ | ⟨e5, _⟩ | ⟨_, _, h'⟩ | ⟨_, _, e5, _⟩
        · exact absurd (e5.trans e4) e1
        · exact absurd e5 e1
        · omega
        · exact absurd e4 e5
      · have := compareBytes_tr x y z (by omega) (by omega)
        rcases cmpT_form x z with ⟨_, h''⟩ | ⟨e5, _⟩ | ⟨_, e5, _⟩ | ⟨_, _, _, h''⟩
        · omega
        · exact absurd e5 e1
        · exact absurd e5 e4
        · omega
/-- rows of numbers, alike in length -/
def cmpL : List Int → List Int → Int
  | a :: as, b :: bs => if cmpI a b = 0 then cmpL as bs else cmpI a b
  | _, _ => 0
/-- whether a is below b (-1), above (1), or b itself (0) -/
def Ver.cmp (a b : Ver) : Int := if cmpL a.ns b.ns = 0 then (if cmpT a.t b.t = 0 then cmpI a.c b.c else cmpT a.t b.t) else cmpL a.ns b.ns
abbrev VKey := Int × Int × Int × Int × List UInt8 × Int
def cmpK : VKey → VKey → Int := lex3 cmpI (lex3 cmpI (lex3 cmpI (lex3 cmpI (lex3 cmpT cmpI))))
theorem cmpK_3 : Cmp3 cmpK := cmpI_3.lex (cmpI_3.lex (cmpI_3.lex (cmpI_3.lex (cmpT_3.lex cmpI_3))))
def Ver.key (v : Ver) : VKey := (v.ns.getD 0 0, v.ns.getD 1 0, v.ns.getD 2 0, v.ns.getD 3 0, v.t, v.c)
theorem Ver.key_inj {a b : Ver} (ha : a.ns.length = 4) (hb : b.ns.length = 4) (h : a.key = b.key) : a = b := by
  obtain ⟨l, c, t⟩ := a
  obtain ⟨l', c', t'⟩ := b
  obtain ⟨x, y, z, u, rfl⟩ := Ver.four ha
  obtain ⟨x', y', z', u', rfl⟩ := Ver.four hb
  simp only [Ver.key, Prod.mk.injEq, List.getD_cons_zero, List.getD_cons_succ] at h
  obtain ⟨rfl, rfl, rfl, rfl, rfl, rfl⟩ := h
  rfl
theorem Ver.cmp_key {a b : Ver} (ha : a.ns.length = 4) (hb : b.ns.length = 4) : a.cmp b = cmpK a.key b.key := by
  obtain ⟨l, c, t⟩ := a
  obtain ⟨l', c', t'⟩ := b
  obtain ⟨x, y, z, u, rfl⟩ := Ver.four ha
  obtain ⟨x', y', z', u', rfl⟩ := Ver.four hb
  simp only [Ver.cmp, Ver.key, cmpK, lex3, cmpL, List.getD_cons_zero, List.getD_cons_succ]
  by_cases h1 : cmpI x x' = 0
  · by_cases h2 : cmpI y y' = 0
    · by_cases h3 : cmpI z z' = 0
      · by_cases h4 : cmpI u u' = 0
        · simp [h1, h2, h3, h4]
        · simp [h1, h2, h3, h4]
      · simp [h1, h2, h3]
    · simp [h1, h2]
  · simp [h1]
/-- a version of four numbers -/
def Ver.Ok (v : Ver) : Prop := v.ns.length = 4
theorem Ver.cmp_one {a b : Ver} (ha : a.Ok) (hb : b.Ok) : a.cmp b = -1 ∨ a.cmp b = 0 ∨ a.cmp b = 1 := by rw [Ver.cmp_key ha hb]; exact cmpK_3.one _ _
theorem Ver.cmp_anti {a b : Ver} (ha : a.Ok) (hb : b.Ok) : b.cmp a = - a.cmp b := by rw [Ver.cmp_key ha hb, Ver.cmp_key hb ha]; exact cmpK_3.anti _ _
theorem Ver.cmp_eq {a b : Ver} (ha : a.Ok) (hb : b.Ok) : a.cmp b = 0 ↔ a = b := by
  rw [Ver.cmp_key ha hb, cmpK_3.eq]
  exact ⟨fun h => Ver.key_inj ha hb h, fun h => by rw [h]⟩
theorem Ver.cmp_tr {a b c : Ver} (ha : a.Ok) (hb : b.Ok) (hc : c.Ok) (h1 : a.cmp b ≤ 0) (h2 : b.cmp c ≤ 0) : a.cmp c ≤ 0 := by
  rw [Ver.cmp_key ha hc]
  rw [Ver.cmp_key ha hb] at h1
  rw [Ver.cmp_key hb hc] at h2
  exact cmpK_3.tr _ _ _ h1 h2
theorem Ver.cmp_tr' {a b c : Ver} (ha : a.Ok) (hb : b.Ok) (hc : c.Ok) (h1 : 0 ≤ a.cmp b) (h2 : 0 ≤ b.cmp c) : 0 ≤ a.cmp c := by
  rw [Ver.cmp_key ha hc]
  rw [Ver.cmp_key ha hb] at h1
  rw [Ver.cmp_key hb hc] at h2
  exact cmpK_3.tr' _ _ _ h1 h2

/-! ### the version behind -/
/-- the version behind all that begin with the first n numbers -/
def Ver.next (v : Ver) (n : Nat) : Ver := ⟨pad ((v.ns.take n).set (n - 1) (v.ns.getD (n - 1) 0 + 1)), n, []⟩
def Ver.bump (v : Ver) (n : Int) : Ver × Int :=
  if v.may = false then (Ver.zero, 20) else if n < 1 ∨ 4 < n then (Ver.zero, 2) else if v.ns.getD (n.toNat - 1) 0 = 999999999 then (Ver.zero, 20) else (v.next n.toNat, 0)
theorem next_length {v : Ver} (hl : v.ns.length = 4) {n : Nat} (hn : n ≤ 4) : (v.next n).ns.length = 4 := by
  unfold Ver.next
  exact pad_length (by simp; omega)
theorem next_at {v : Ver} (hl : v.ns.length = 4) {n : Nat} (h1 : 1 ≤ n) (hn : n ≤ 4) (i : Nat) : (v.next n).ns.getD i 0 = if i < n - 1 then v.ns.getD i 0 else if i = n - 1 then v.ns.getD i 0 + 1 else 0 := by
  unfold Ver.next pad
  simp only [List.getD_eq_getElem?_getD, List.length_set, List.length_take, hl]
  by_cases hi : i < n
  · rw [List.getElem?_append_left (by simp [hl]; omega)]
    by_cases he : i = n - 1
    · subst he
      rw [List.getElem?_set_self (by simp [hl]; omega), if_neg (by omega), if_pos rfl]
      rfl
    · rw [List.getElem?_set_ne (Ne.symm he), List.getElem?_take, if_pos hi, if_pos (by omega)]
  · rw [List.getElem?_append_right (by simp [hl]; omega), if_neg (by omega), if_neg (by omega), List.getElem?_replicate]
    split <;> rfl
theorem next_may {v : Ver} (hl : v.ns.length = 4) (h : v.may = true) {n : Nat} (h1 : 1 ≤ n) (hn : n ≤ 4) : (v.next n).may = decide (v.ns.getD (n - 1) 0 ≠ 999999999) := by
  have hm := fun i hi => v.may_num h i hi
  by_cases he : v.ns.getD (n - 1) 0 = 999999999
  · rw [show decide (v.ns.getD (n - 1) 0 ≠ 999999999) = false from decide_eq_false (fun h => h he)]
    cases hx : (v.next n).may with
    | false => rfl
    | true =>
      have := (v.next n).may_num hx (n - 1) (by omega)
      rw [next_at hl h1 hn, if_neg (by omega), if_pos rfl, he] at this
      omega
  · rw [show decide (v.ns.getD (n - 1) 0 ≠ 999999999) = true from by simp only [decide_eq_true_eq]; exact he]
    refine Ver.may_of ⟨by show 1 ≤ (n : Int); omega, by show (n : Int) ≤ 4; omega⟩ (by rfl) fun i hi => ?_
    rw [next_at hl h1 hn]
    have := hm i hi
    have h9 := hm (n - 1) (by omega)
    show _ ∧ _ ∧ ((i : Int) < (n : Int) ∨ _)
    split
    · exact ⟨this.1, this.2.1, .inl (by omega)⟩
    · split
      · rename_i e
        subst e
        exact ⟨by omega, by omega, .inl (by omega)⟩
      · exact ⟨by omega, by omega, .inr rfl⟩
theorem cmpL_first : ∀ (k : Nat) (l m : List Int), k < l.length → l.length = m.length → (∀ i, i < k → l.getD i 0 = m.getD i 0) → m.getD k 0 < l.getD k 0 → cmpL l m = 1
  | k, [], _, h, _, _, _ => by simp at h
  | k, _ :: _, [], _, h, _, _ => by simp at h
  | 0, a :: l, b :: m, _, _, _, h => by
    simp only [List.getD_cons_zero] at h
    have e : cmpI a b = 1 := by unfold cmpI; rw [if_neg (by omega), if_pos h]
    rw [cmpL, e, if_neg (by decide)]
  | k + 1, a :: l, b :: m, h0, h1, h2, h3 => by
    have e := h2 0 (by omega)
    simp only [List.getD_cons_zero] at e
    subst e
    rw [cmpL, cmpI_3.self, if_pos rfl]
    refine cmpL_first k l m (by simpa using h0) (by simpa using h1) (fun i hi => ?_) (by simpa using h3)
    simpa using h2 (i + 1) (by omega)
/-- the version behind is above all that begin alike -/
theorem next_above {v o : Ver} (hl : v.ns.length = 4) (ho : o.ns.length = 4) {n : Nat} (h1 : 1 ≤ n) (hn : n ≤ 4) (h : ∀ i, i < n → o.ns.getD i 0 = v.ns.getD i 0) : (v.next n).cmp o = 1 := by
  have hc : cmpL (v.next n).ns o.ns = 1 := by
    refine cmpL_first (n - 1) _ _ (by rw [next_length hl hn]; omega) (by rw [next_length hl hn, ho]) (fun i hi => ?_) ?_
    · rw [next_at hl h1 hn, if_pos hi, h i (by omega)]
    · rw [next_at hl h1 hn, if_neg (by omega), if_pos rfl, h _ (by omega)]; omega
  unfold Ver.cmp
  rw [hc]
  rfl
end Go.Proofs.YteeijjhgdplifaaGreatDoor
