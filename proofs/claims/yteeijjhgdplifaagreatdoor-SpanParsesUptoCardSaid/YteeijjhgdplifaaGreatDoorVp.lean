/- VERSIONS, PLAINLY: texts cut at a byte, what may be, a version's text, reading one. No program in sight. -/
import Derived.Lib.Split
import Derived.Lib.SplitLaws
import Derived.Lib.CutLaws
import Derived.Lib.AtoiAllCases
import Derived.Lib.AtoiTie
import Derived.Lib.ItoaMem
import Derived.Lib.Join
import Derived.Lib.SlTrimSet
import Derived.Lib.Bytealg
namespace Go.Proofs.YteeijjhgdplifaaGreatDoor
open Go

/-- a text cut at each c -/
def splitC (c : UInt8) : List UInt8 → List (List UInt8)
  | [] => [[]]
  | b :: r => if b = c then [] :: splitC c r else match splitC c r with
    | [] => [[b]]
    | x :: xs => (b :: x) :: xs
theorem splitC_ne (c : UInt8) : ∀ s, splitC c s ≠ []
  | [] => by simp [splitC]
  | b :: r => by
    unfold splitC
    split
    · simp
    · split <;> simp
theorem splitC_none {c : UInt8} : ∀ {x : List UInt8}, c ∉ x → splitC c x = [x]
  | [], _ => rfl
  | b :: r, h => by
    simp only [List.mem_cons, not_or] at h
    unfold splitC
    rw [if_neg (Ne.symm h.1), splitC_none h.2]
theorem splitC_append {c : UInt8} : ∀ {x : List UInt8} (r : List UInt8), c ∉ x → splitC c (x ++ c :: r) = x :: splitC c r
  | [], r, _ => by simp [splitC]
  | b :: x, r, h => by
    simp only [List.mem_cons, not_or] at h
    rw [List.cons_append, splitC, if_neg (Ne.symm h.1), splitC_append r h.2]
theorem splitC_cases (c : UInt8) (s : List UInt8) : c ∉ s ∨ ∃ x r, s = x ++ c :: r ∧ c ∉ x := by
  induction s with
  | nil => exact .inl (by simp)
  | cons b s ih =>
    by_cases hb : b = c
    · exact .inr ⟨[], s, by rw [hb]; rfl, by simp⟩
    · rcases ih with h | ⟨x, r, rfl, hx⟩
      · exact .inl (by simp [h, Ne.symm hb])
      · exact .inr ⟨b :: x, r, rfl, by simp [hx, Ne.symm hb]⟩
theorem joinTail_cons (sep x : List UInt8) (r : List (List UInt8)) : Lib.joinTail sep (x :: r) = sep ++ x ++ Lib.joinTail sep r := by simp [Lib.joinTail]
theorem join_splitC (c : UInt8) : ∀ s, Lib.join (splitC c s) [c] = s
  | [] => rfl
  | b :: r => by
    have ih := join_splitC c r
    have hne := splitC_ne c r
    unfold splitC
    cases h : splitC c r with
    | nil => exact absurd h hne
    | cons x xs =>
      rw [h, Lib.join_cons] at ih
      split
      · rename_i e
        rw [Lib.join_cons, joinTail_cons, e, List.append_assoc, ih]
        rfl
      · rw [Lib.join_cons, List.cons_append, ih]
theorem splitC_join {c : UInt8} : ∀ (xs : List (List UInt8)), xs ≠ [] → (∀ x ∈ xs, c ∉ x) → splitC c (Lib.join xs [c]) = xs
  | [], h, _ => absurd rfl h
  | [x], _, h => by rw [Lib.join_one, splitC_none (h x (by simp))]
  | x :: y :: r, _, h => by
    have ih := splitC_join (y :: r) (by simp) (fun z hz => h z (List.mem_cons_of_mem _ hz))
    rw [Lib.join_cons] at ih
    rw [Lib.join_cons, joinTail_cons, List.append_assoc, show [c] ++ (y ++ Lib.joinTail [c] r) = c :: (y ++ Lib.joinTail [c] r) from rfl, splitC_append _ (h x (by simp)), ih]
theorem splitC_mem {c : UInt8} : ∀ {s x : List UInt8}, x ∈ splitC c s → c ∉ x ∧ ∀ b ∈ x, b ∈ s
  | [], x, h => by simp [splitC] at h; subst h; simp
  | b :: r, x, h => by
    unfold splitC at h
    split at h
    · rcases List.mem_cons.1 h with rfl | h
      · simp
      · have := splitC_mem h
        exact ⟨this.1, fun z hz => List.mem_cons_of_mem _ (this.2 z hz)⟩
    · rename_i hb
      cases e : splitC c r with
      | nil => exact absurd e (splitC_ne c r)
      | cons y ys =>
        rw [e] at h
        rcases List.mem_cons.1 h with rfl | h
        · have := splitC_mem (s := r) (x := y) (by rw [e]; simp)
          refine ⟨by simp [this.1, Ne.symm hb], fun z hz => ?_⟩
          rcases List.mem_cons.1 hz with rfl | hz
          · simp
          · exact List.mem_cons_of_mem _ (this.2 z hz)
        · have := splitC_mem (s := r) (x := x) (by rw [e]; exact List.mem_cons_of_mem _ h)
          exact ⟨this.1, fun z hz => List.mem_cons_of_mem _ (this.2 z hz)⟩
theorem splitC_length (c : UInt8) : ∀ s, (splitC c s).length = s.count c + 1
  | [] => rfl
  | b :: r => by
    have ih := splitC_length c r
    unfold splitC
    by_cases h : b = c
    · rw [if_pos h, List.length_cons, ih, h, List.count_cons_self]
    · rw [if_neg h, List.count_cons_of_ne h]
      cases e : splitC c r with
      | nil => exact absurd e (splitC_ne c r)
      | cons y ys => rw [e] at ih; simpa using ih

theorem occ_one (s : List UInt8) (c : UInt8) (i : Nat) : Lib.occAt s [c] i = (s[i]? == some c) := by
  unfold Lib.occAt
  cases h : s.drop i with
  | nil =>
    have : s.length ≤ i := by simpa using h
    rw [List.getElem?_eq_none this]; rfl
  | cons b r =>
    have : s[i]? = some b := by rw [← List.head?_drop, h]; rfl
    rw [this]
    simp only [List.isPrefixOf, Bool.and_true]
    rw [Bool.eq_iff_iff, beq_iff_eq, beq_iff_eq, Option.some.injEq]
    exact eq_comm
theorem index_one_miss {s : List UInt8} {c : UInt8} (h : c ∉ s) : Lib.index s [c] = -1 := by
  refine Lib.index_none fun j _ => ?_
  rw [occ_one]
  cases e : s[j]? with
  | none => rfl
  | some b =>
    have : b ≠ c := fun e2 => h (e2 ▸ List.mem_of_getElem? e)
    simpa using this
theorem index_one_hit {x : List UInt8} (r : List UInt8) {c : UInt8} (h : c ∉ x) : Lib.index (x ++ c :: r) [c] = (x.length : Int) := by
  refine Lib.index_first (by simp) ?_ fun j hj => ?_
  · rw [occ_one, List.getElem?_append_right (Nat.le_refl _)]; simp
  · rw [occ_one, List.getElem?_append_left hj]
    have : x[j] ≠ c := fun e => h (e ▸ List.getElem_mem hj)
    rw [List.getElem?_eq_getElem hj]
    simpa using this
theorem count_one_miss {s : List UInt8} {c : UInt8} (h : c ∉ s) : Lib.count s [c] = 0 := Lib.count_miss (index_one_miss h)
theorem count_one_hit {x : List UInt8} (r : List UInt8) {c : UInt8} (h : c ∉ x) : Lib.count (x ++ c :: r) [c] = 1 + Lib.count r [c] := by
  rw [Lib.count_hit (by simp) (index_one_hit r h)]
  congr 2
  rw [List.drop_append, List.drop_of_length_le (by simp)]
  show (c :: r).drop (x.length + 1 - x.length) = r
  rw [show x.length + 1 - x.length = 1 by omega]
  rfl
theorem splitK_one (c : UInt8) : ∀ (n : Nat) (s : List UInt8), s.length ≤ n → Lib.splitK [c] 0 (Lib.count s [c]) s = splitC c s
  | n, s, hn => by
    rcases splitC_cases c s with h | ⟨x, r, rfl, h⟩
    · rw [count_one_miss h, splitC_none h]; rfl
    · rw [count_one_hit r h, splitC_append r h, Nat.add_comm, Lib.splitK, index_one_hit r h, if_neg (by simp)]
      cases n with
      | zero => simp at hn
      | succ n =>
        rw [show ((x.length : Int)).toNat + 0 = x.length from by simp, List.take_left', show (x ++ c :: r).drop ((x.length : Int).toNat + [c].length) = r from by simp [List.drop_append]]
        · rw [splitK_one c n r (by simp at hn; omega)]
        · rfl
theorem split_one (s : List UInt8) (c : UInt8) : Lib.split s [c] = splitC c s := splitK_one c _ s (Nat.le_refl _)
theorem cut_miss {s : List UInt8} {c : UInt8} (h : c ∉ s) : Lib.cut s [c] = (s, [], false) := by
  unfold Lib.cut
  rw [index_one_miss h, if_neg (by decide)]
theorem cut_hit {x : List UInt8} (r : List UInt8) {c : UInt8} (h : c ∉ x) : Lib.cut (x ++ c :: r) [c] = (x, r, true) := by
  unfold Lib.cut
  rw [index_one_hit r h, if_pos (by omega)]
  simp [List.drop_append]
theorem cut_form (s : List UInt8) (c : UInt8) : (Lib.cut s [c] = (s, [], false) ∧ c ∉ s) ∨ ∃ x r, Lib.cut s [c] = (x, r, true) ∧ s = x ++ c :: r ∧ c ∉ x := by
  rcases splitC_cases c s with h | ⟨x, r, rfl, h⟩
  · exact .inl ⟨cut_miss h, h⟩
  · exact .inr ⟨x, r, cut_hit r h, rfl, h⟩

/-! ### decimal digits -/
theorem dec_small {u : Nat} (h : u < 10) : Lib.decDigits u = [UInt8.ofNat (48 + u)] := by rw [Lib.decDigits, dif_pos h]
theorem dec_big {u : Nat} (h : ¬ u < 10) : Lib.decDigits u = Lib.decDigits (u / 10) ++ [UInt8.ofNat (48 + u % 10)] := by rw [Lib.decDigits, dif_neg h]
theorem digit_toNat {d : Nat} (h : d < 10) : (UInt8.ofNat (48 + d)).toNat = 48 + d := by rw [UInt8.toNat_ofNat_of_lt' (by simp [UInt8.size]; omega)]
theorem dec_mem : ∀ (u : Nat) (b : UInt8), b ∈ Lib.decDigits u → 48 ≤ b.toNat ∧ b.toNat ≤ 57 := by
  intro u
  induction u using Nat.strongRecOn with
  | _ u ih =>
    intro b hb
    by_cases h : u < 10
    · rw [dec_small h, List.mem_singleton] at hb
      rw [hb, digit_toNat h]; omega
    · rw [dec_big h, List.mem_append, List.mem_singleton] at hb
      rcases hb with hb | hb
      · exact ih (u / 10) (by omega) b hb
      · rw [hb, digit_toNat (Nat.mod_lt _ (by decide))]; omega
theorem dec_ne (u : Nat) : Lib.decDigits u ≠ [] := by
  intro e
  have := Lib.decDigits_length u
  have h2 := Lib.nDigits_pos u
  rw [e] at this
  simp at this
  omega
theorem nDigits_le {u k : Nat} : u < 10 ^ k → 1 ≤ k → Lib.nDigits u ≤ k := by
  induction k generalizing u with
  | zero => intro _ h; omega
  | succ k ih =>
    intro h _
    by_cases hu : u < 10
    · rw [Lib.nDigits_small hu]; omega
    · rw [Lib.nDigits_big hu]
      cases k with
      | zero => simp at h; omega
      | succ k =>
        have := ih (u := u / 10) (by rw [Nat.pow_succ] at h; omega) (by omega)
        omega
theorem dec_length_iff (u : Nat) : (Lib.decDigits u).length ≤ 9 ↔ u ≤ 999999999 := by
  rw [Lib.decDigits_length]
  constructor
  · intro h
    have h1 := Lib.lt_pow_nDigits u
    have h2 : 10 ^ Lib.nDigits u ≤ 10 ^ 9 := Nat.pow_le_pow_right (by decide) h
    have : (10 : Nat) ^ 9 = 1000000000 := by decide
    omega
  · intro h
    exact nDigits_le (by have : (10 : Nat) ^ 9 = 1000000000 := by decide
                         omega) (by decide)
/-- what parses reads its digits again -/
theorem parse_dec : ∀ (u acc : Nat) (r : List UInt8), Lib.parseUint10 acc (Lib.decDigits u ++ r) = Lib.parseUint10 acc (Lib.decDigits u ++ r) := fun _ _ _ => rfl
theorem decFrom_append : ∀ (l r : List UInt8) (a : Nat), Lib.decFrom a (l ++ r) = (Lib.decFrom a l).bind fun m => Lib.decFrom m r
  | [], r, a => rfl
  | b :: l, r, a => by
    rw [List.cons_append]
    simp only [Lib.decFrom]
    cases Lib.digitVal b with
    | none => rfl
    | some d => exact decFrom_append l r _
theorem digitVal_ofNat {d : Nat} (h : d < 10) : Lib.digitVal (UInt8.ofNat (48 + d)) = some d := by
  unfold Lib.digitVal
  rw [digit_toNat h, if_pos (by omega)]
  simp
theorem decFrom_dec : ∀ u, Lib.decFrom 0 (Lib.decDigits u) = some u := by
  intro u
  induction u using Nat.strongRecOn with
  | _ u ih =>
    by_cases h : u < 10
    · rw [dec_small h, Lib.decFrom, digitVal_ofNat h]
      simp [Lib.decFrom]
    · rw [dec_big h, decFrom_append, ih (u / 10) (by omega)]
      simp only [Option.bind_some, Lib.decFrom, digitVal_ofNat (Nat.mod_lt u (by decide : 0 < 10))]
      congr 1
      omega
theorem atoi_dec (u : Nat) : Lib.atoi (Lib.decDigits u) = some (u : Int) := by
  cases e : Lib.decDigits u with
  | nil => exact absurd e (dec_ne u)
  | cons b r =>
    have hb := dec_mem u b (by rw [e]; simp)
    have h1 : (b == 45) = false := by
      rw [beq_eq_false_iff_ne]; intro h; rw [h] at hb; simp at hb
    have h2 : (b == 43) = false := by
      rw [beq_eq_false_iff_ne]; intro h; rw [h] at hb; simp at hb
    simp only [Lib.atoi, h1, h2, Bool.false_eq_true, if_false, Lib.decNat, List.isEmpty_cons]
    rw [← e, decFrom_dec]
    rfl
theorem atoiAll_dec {u : Nat} (h : u ≤ 999999999) : Lib.atoiAll (Lib.decDigits u) = .ok (u : Int) := by
  rw [Lib.atoiAll_short _ (by have := (dec_length_iff u).2 h; omega), atoi_dec]
  rfl
theorem itoa_nat {n : Int} (h : 0 ≤ n) : Lib.itoa n = Lib.decDigits n.toNat := by
  unfold Lib.itoa
  rw [if_neg (by omega)]

/-! ### versions -/
/-- a version: four numbers, how many, a tag -/
structure Ver where
  ns : List Int
  c : Int
  t : List UInt8
deriving DecidableEq
def tagB (b : UInt8) : Bool := (97 ≤ b.toNat && b.toNat ≤ 122) || (48 ≤ b.toNat && b.toNat ≤ 57)
def tagOk (t : List UInt8) : Bool := t.all tagB && t.length ≤ 12
/-- may a version be? -/
def Ver.may (v : Ver) : Bool := decide (1 ≤ v.c) && decide (v.c ≤ 4) && tagOk v.t && (List.range 4).all fun i => decide (0 ≤ v.ns.getD i 0) && decide (v.ns.getD i 0 ≤ 999999999) && (decide ((i : Int) < v.c) || v.ns.getD i 0 == 0)
def Ver.zero : Ver := ⟨[0, 0, 0, 0], 0, []⟩
def Ver.nums (v : Ver) : List (List UInt8) := (v.ns.take v.c.toNat).map Lib.itoa
def tagText (t : List UInt8) : List UInt8 := if t = [] then [] else 45 :: t
/-- its text -/
def Ver.text (v : Ver) : List UInt8 := Lib.join v.nums [46] ++ tagText v.t
theorem tagOk_no {t : List UInt8} (h : tagOk t = true) {b : UInt8} (hb : tagB b = false) : b ∉ t := by
  intro hm
  simp only [tagOk, Bool.and_eq_true, List.all_eq_true] at h
  have := h.1 b hm
  rw [hb] at this
  cases this
theorem Ver.may_num {v : Ver} (h : v.may = true) (i : Nat) (hi : i < 4) : 0 ≤ v.ns.getD i 0 ∧ v.ns.getD i 0 ≤ 999999999 ∧ ((i : Int) < v.c ∨ v.ns.getD i 0 = 0) := by
  simp only [Ver.may, Bool.and_eq_true, List.all_eq_true, List.mem_range, Bool.or_eq_true, decide_eq_true_eq, beq_iff_eq] at h
  have := h.2 i hi
  exact ⟨this.1.1, this.1.2, this.2⟩
theorem Ver.may_c {v : Ver} (h : v.may = true) : 1 ≤ v.c ∧ v.c ≤ 4 := by
  simp only [Ver.may, Bool.and_eq_true, decide_eq_true_eq] at h
  exact ⟨h.1.1.1, h.1.1.2⟩
theorem Ver.may_t {v : Ver} (h : v.may = true) : tagOk v.t = true := by
  simp only [Ver.may, Bool.and_eq_true, decide_eq_true_eq] at h
  exact h.1.2
theorem Ver.may_of {v : Ver} (hc : 1 ≤ v.c ∧ v.c ≤ 4) (ht : tagOk v.t = true) (hn : ∀ i, i < 4 → 0 ≤ v.ns.getD i 0 ∧ v.ns.getD i 0 ≤ 999999999 ∧ ((i : Int) < v.c ∨ v.ns.getD i 0 = 0)) : v.may = true := by
  simp only [Ver.may, Bool.and_eq_true, List.all_eq_true, List.mem_range, Bool.or_eq_true, decide_eq_true_eq, beq_iff_eq]
  exact ⟨⟨⟨hc.1, hc.2⟩, ht⟩, fun i hi => ⟨⟨(hn i hi).1, (hn i hi).2.1⟩, (hn i hi).2.2⟩⟩
/-- the four numbers of a version that may be -/
theorem Ver.four {v : Ver} (hl : v.ns.length = 4) : ∃ a b c d, v.ns = [a, b, c, d] := by
  match v.ns, hl with
  | [a, b, c, d], _ => exact ⟨a, b, c, d, rfl⟩
theorem Ver.nums_dec {v : Ver} (hl : v.ns.length = 4) (h : v.may = true) : ∀ x ∈ v.nums, ∃ u : Nat, u ≤ 999999999 ∧ x = Lib.decDigits u := by
  intro x hx
  obtain ⟨n, hn, rfl⟩ := List.mem_map.1 hx
  obtain ⟨i, hi⟩ := List.getElem?_of_mem hn
  rw [List.getElem?_take] at hi
  split at hi
  · rename_i hlt
    have hi4 : i < 4 := by rw [← hl]; exact (List.getElem?_eq_some_iff.1 hi).1
    have := v.may_num h i hi4
    rw [List.getD_eq_getElem?_getD, hi, Option.getD_some] at this
    exact ⟨n.toNat, by omega, itoa_nat this.1⟩
  · cases hi
theorem Ver.nums_no {v : Ver} (hl : v.ns.length = 4) (h : v.may = true) {b : UInt8} (hb : b.toNat < 48 ∨ 57 < b.toNat) : ∀ x ∈ v.nums, b ∉ x := by
  intro x hx hm
  obtain ⟨u, _, rfl⟩ := Ver.nums_dec hl h x hx
  have := dec_mem u b hm
  omega
theorem Ver.nums_ne {v : Ver} (hl : v.ns.length = 4) (h : v.may = true) : v.nums ≠ [] := by
  have := v.may_c h
  intro e
  have h2 : v.nums.length = 0 := by rw [e]; rfl
  simp [Ver.nums, hl] at h2
  omega
theorem mem_join {b : UInt8} {sep : List UInt8} : ∀ {xs : List (List UInt8)}, b ∈ Lib.join xs sep → b ∈ sep ∨ ∃ x ∈ xs, b ∈ x
  | [], h => by simp [Lib.join_nil] at h
  | x :: r, h => by
    rw [Lib.join_cons, List.mem_append] at h
    rcases h with h | h
    · exact .inr ⟨x, by simp, h⟩
    · simp only [Lib.joinTail, List.mem_flatten, List.mem_map] at h
      obtain ⟨_, ⟨y, hy, rfl⟩, h⟩ := h
      rcases List.mem_append.1 h with h | h
      · exact .inl h
      · exact .inr ⟨y, by simp [hy], h⟩
/-- a version's text cut at '-' and at '.' -/
theorem Ver.text_cut {v : Ver} (hl : v.ns.length = 4) (h : v.may = true) : Lib.cut v.text [45] = (Lib.join v.nums [46], v.t, decide (v.t ≠ [])) := by
  have hno : (45 : UInt8) ∉ Lib.join v.nums [46] := by
    intro hm
    rcases mem_join hm with h1 | ⟨x, hx, h1⟩
    · simp at h1
    · exact Ver.nums_no hl h (by simp) x hx h1
  unfold Ver.text tagText
  by_cases ht : v.t = []
  · rw [if_pos ht, List.append_nil, cut_miss hno, ht]
    rfl
  · rw [if_neg ht, cut_hit _ hno]
    simp [ht]
theorem Ver.text_split {v : Ver} (hl : v.ns.length = 4) (h : v.may = true) : splitC 46 (Lib.join v.nums [46]) = v.nums :=
  splitC_join _ (Ver.nums_ne hl h) (Ver.nums_no hl h (by simp))

/-! ### the program's reading -/
/-- is a piece a number? -/
def numOk (d : List UInt8) : Option Int := match Lib.atoiAll d with
  | .ok n => if d.length ≤ 9 ∧ Lib.itoa n = d ∧ 0 ≤ n then some n else none
  | _ => none
theorem numOk_some {d : List UInt8} {n : Int} (h : numOk d = some n) : 0 ≤ n ∧ n ≤ 999999999 ∧ d = Lib.itoa n := by
  unfold numOk at h
  split at h
  · split at h
    · rename_i hc
      injection h with h
      subst h
      refine ⟨hc.2.2, ?_, hc.2.1.symm⟩
      have := hc.1
      rw [← hc.2.1, itoa_nat hc.2.2] at this
      have := (dec_length_iff _).1 this
      omega
    · cases h
  · cases h
theorem numOk_dec {u : Nat} (h : u ≤ 999999999) : numOk (Lib.decDigits u) = some (u : Int) := by
  unfold numOk
  rw [atoiAll_dec h]
  simp only
  rw [if_pos ⟨(dec_length_iff u).2 h, by rw [itoa_nat (by omega)]; simp, by omega⟩]
/-- the loop: the numbers so far, padded; what is left -/
def readNums : List Int → List (List UInt8) → Option (List Int)
  | acc, [] => some acc
  | acc, d :: r => match numOk d with
    | some n => if acc.length < 4 then readNums (acc ++ [n]) r else none
    | none => none
theorem readNums_some : ∀ {ds : List (List UInt8)} {acc l : List Int}, acc.length ≤ 4 → readNums acc ds = some l → ∃ ns, l = acc ++ ns ∧ l.length ≤ 4 ∧ ds = ns.map Lib.itoa ∧ ∀ n ∈ ns, 0 ≤ n ∧ n ≤ 999999999
  | [], acc, l, ha, h => by
    simp only [readNums, Option.some.injEq] at h
    subst h
    exact ⟨[], by simp, ha, rfl, by simp⟩
  | d :: r, acc, l, ha, h => by
    simp only [readNums] at h
    split at h
    · rename_i n hn
      split at h
      · rename_i hlt
        obtain ⟨ns, rfl, h1, h2, h3⟩ := readNums_some (acc := acc ++ [n]) (by simp; omega) h
        obtain ⟨k1, k2, k3⟩ := numOk_some hn
        refine ⟨n :: ns, by simp, h1, by rw [h2, k3]; rfl, ?_⟩
        intro m hm
        rcases List.mem_cons.1 hm with rfl | hm
        · exact ⟨k1, k2⟩
        · exact h3 m hm
      · cases h
    · cases h
theorem readNums_dec : ∀ (ns acc : List Int), (∀ n ∈ ns, 0 ≤ n ∧ n ≤ 999999999) → (acc ++ ns).length ≤ 4 → readNums acc (ns.map Lib.itoa) = some (acc ++ ns)
  | [], acc, _, _ => by simp [readNums]
  | n :: ns, acc, h, hl => by
    have hn := h n (by simp)
    have e : numOk (Lib.itoa n) = some n := by
      rw [itoa_nat hn.1, numOk_dec (by omega)]
      congr 1
      omega
    simp only [List.map_cons, readNums, e]
    rw [if_pos (by simp at hl; omega), readNums_dec ns (acc ++ [n]) (fun m hm => h m (List.mem_cons_of_mem _ hm)) (by simpa using hl)]
    simp
def pad (l : List Int) : List Int := l ++ List.replicate (4 - l.length) 0
theorem pad_length {l : List Int} (h : l.length ≤ 4) : (pad l).length = 4 := by simp [pad]; omega
theorem pad_take (l : List Int) : (pad l).take l.length = l := by simp [pad]
/-- what the program reads -/
def readVer (s : List UInt8) : Option Ver :=
  match readNums [] (splitC 46 (Lib.cut s [45]).1) with
  | none => none
  | some l => if Ver.may ⟨pad l, l.length, (Lib.cut s [45]).2.1⟩ = true ∧ ¬ ((Lib.cut s [45]).2.2 = true ∧ (Lib.cut s [45]).2.1 = []) then some ⟨pad l, l.length, (Lib.cut s [45]).2.1⟩ else none
theorem readVer_sound {s : List UInt8} {v : Ver} (h : readVer s = some v) : v.ns.length = 4 ∧ v.may = true ∧ v.text = s := by
  unfold readVer at h
  split at h
  · cases h
  · rename_i l hl
    split at h
    · rename_i hm
      injection h with h
      subst h
      obtain ⟨ns, e, hlen, hds, hns⟩ := readNums_some (acc := []) (by simp) hl
      simp only [List.nil_append] at e
      subst e
      refine ⟨pad_length hlen, hm.1, ?_⟩
      unfold Ver.text Ver.nums
      simp only [Int.toNat_natCast, pad_take]
      rw [← hds, join_splitC]
      rcases cut_form s 45 with ⟨hc, _⟩ | ⟨x, r, hc, hs, _⟩
      · rw [hc]; simp [tagText]
      · rw [hc]
        have hr : r ≠ [] := fun e => hm.2 (by rw [hc]; exact ⟨rfl, e⟩)
        simp only [tagText, if_neg hr]
        exact hs.symm
    · cases h
theorem readVer_text {v : Ver} (hl : v.ns.length = 4) (h : v.may = true) : readVer v.text = some v := by
  have hc := v.may_c h
  unfold readVer
  rw [Ver.text_cut hl h]
  simp only
  rw [Ver.text_split hl h]
  unfold Ver.nums
  have hns : ∀ n ∈ v.ns.take v.c.toNat, 0 ≤ n ∧ n ≤ 999999999 := by
    intro n hn
    obtain ⟨i, hi⟩ := List.getElem?_of_mem hn
    rw [List.getElem?_take] at hi
    split at hi
    · have hi4 : i < 4 := by rw [← hl]; exact (List.getElem?_eq_some_iff.1 hi).1
      have := v.may_num h i hi4
      rw [List.getD_eq_getElem?_getD, hi, Option.getD_some] at this
      exact ⟨this.1, this.2.1⟩
    · cases hi
  have hlen : (v.ns.take v.c.toNat).length = v.c.toNat := by simp [hl]; omega
  rw [readNums_dec _ [] hns (by simp only [List.nil_append, hlen]; omega)]
  simp only [List.nil_append]
  have hp : pad (v.ns.take v.c.toNat) = v.ns := by
    apply List.ext_getElem?
    intro i
    unfold pad
    by_cases hi : i < v.c.toNat
    · rw [List.getElem?_append_left (by omega), List.getElem?_take, if_pos hi]
    · rw [List.getElem?_append_right (by omega), hlen, List.getElem?_replicate]
      by_cases h4 : i < 4
      · rw [if_pos (by omega)]
        have := v.may_num h i h4
        have e : v.ns.getD i 0 = 0 := this.2.2.resolve_left (by omega)
        rw [List.getD_eq_getElem?_getD, List.getElem?_eq_getElem (by omega), Option.getD_some] at e
        rw [List.getElem?_eq_getElem (by omega), e]
      · rw [if_neg (by omega), List.getElem?_eq_none (by omega)]
  have hcc : ((v.ns.take v.c.toNat).length : Int) = v.c := by rw [hlen]; omega
  rw [hp, hcc, if_pos ⟨h, by simp⟩]
theorem readVer_iff (s : List UInt8) (v : Ver) : readVer s = some v ↔ v.ns.length = 4 ∧ v.may = true ∧ v.text = s :=
  ⟨readVer_sound, fun ⟨h1, h2, h3⟩ => h3 ▸ readVer_text h1 h2⟩

/-! ### the document's reading -/
def refScan : List Int → Nat → List UInt8 → Option Ver
  | ns, c, [] => some ⟨ns, c, []⟩
  | ns, c, b :: r =>
    if b = 45 then some ⟨ns, c, r⟩
    else if b = 46 then (if 4 < c + 1 then none else refScan ns (c + 1) r)
    else if b.toNat < 48 ∨ 57 < b.toNat ∨ 999999999 < ns.getD (c - 1) 0 then none
    else refScan (ns.set (c - 1) (ns.getD (c - 1) 0 * 10 + ((b.toNat : Int) - 48))) c r
def refRead (s : List UInt8) : Option Ver := match refScan [0, 0, 0, 0] 1 s with
  | none => none
  | some v => if v.may = true ∧ v.text = s then some v else none
theorem refScan_dec : ∀ (u : Nat) (ns : List Int) (c : Nat) (r : List UInt8), u ≤ 9999999999 → ns.length = 4 → 1 ≤ c → c ≤ 4 → ns.getD (c - 1) 0 = 0 → refScan ns c (Lib.decDigits u ++ r) = refScan (ns.set (c - 1) (u : Int)) c r := by
  intro u
  induction u using Nat.strongRecOn with
  | _ u ih =>
    intro ns c r hu hl hc1 hc4 h0
    have step : ∀ (ms : List Int) (d : Nat) (m : Int), d < 10 → ms.length = 4 → ms.getD (c - 1) 0 = m → m ≤ 999999999 → refScan ms c (UInt8.ofNat (48 + d) :: r) = refScan (ms.set (c - 1) (m * 10 + d)) c r := by
      intro ms d m hd hms hm hle
      have hb := digit_toNat hd
      rw [refScan, if_neg (fun e => by rw [e] at hb; simp at hb; omega), if_neg (fun e => by rw [e] at hb; simp at hb; omega), hb, if_neg (by rw [hm]; omega), hm]
      congr 2
      omega
    by_cases h : u < 10
    · rw [dec_small h, List.singleton_append, step ns u 0 h hl h0 (by omega)]
      simp
    · rw [dec_big h, List.append_assoc, List.singleton_append, ih (u / 10) (by omega) ns c _ (by omega) hl hc1 hc4 h0,
        step (ns.set (c - 1) ((u / 10 : Nat) : Int)) (u % 10) ((u / 10 : Nat) : Int) (Nat.mod_lt _ (by decide)) (by simpa using hl) (by rw [List.getD_eq_getElem?_getD, List.getElem?_set_self (by omega)]; rfl) (by omega), List.set_set]
      congr 2
      omega
theorem refScan_text {v : Ver} (hl : v.ns.length = 4) (h : v.may = true) : refScan [0, 0, 0, 0] 1 v.text = some v := by
  have tl : ∀ ns c, refScan ns c (tagText v.t) = some ⟨ns, c, v.t⟩ := by
    intro ns c
    unfold tagText
    by_cases ht : v.t = []
    · rw [if_pos ht, ht]; rfl
    · rw [if_neg ht, refScan, if_pos rfl]
  have dot : ∀ (ns : List Int) (c : Nat) (r : List UInt8), c < 4 → refScan ns c (46 :: r) = refScan ns (c + 1) r := by
    intro ns c r hc
    rw [refScan, if_neg (by decide), if_pos rfl, if_neg (by omega)]
  have hc := v.may_c h
  have hn := fun i hi => v.may_num h i hi
  obtain ⟨ns, c, t⟩ := v
  obtain ⟨a, b, e, d, rfl⟩ := Ver.four hl
  simp only at hc tl
  have h0 := hn 0 (by decide)
  have h1 := hn 1 (by decide)
  have h2 := hn 2 (by decide)
  have h3 := hn 3 (by decide)
  simp only [List.getD_cons_zero, List.getD_cons_succ] at h0 h1 h2 h3
  have num : ∀ (n : Int) (ns : List Int) (c : Nat) (r : List UInt8), 0 ≤ n → n ≤ 999999999 → ns.length = 4 → 1 ≤ c → c ≤ 4 → ns.getD (c - 1) 0 = 0 → refScan ns c (Lib.itoa n ++ r) = refScan (ns.set (c - 1) n) c r := by
    intro n ns c r g0 g1 g2 g3 g4 g5
    rw [itoa_nat g0, refScan_dec n.toNat ns c r (by omega) g2 g3 g4 g5, show ((n.toNat : Nat) : Int) = n by omega]
  have hc4 : c = 1 ∨ c = 2 ∨ c = 3 ∨ c = 4 := by omega
  unfold Ver.text Ver.nums
  simp only
  rcases hc4 with rfl | rfl | rfl | rfl
  · obtain rfl : b = 0 := h1.2.2.resolve_left (by decide)
    obtain rfl : e = 0 := h2.2.2.resolve_left (by decide)
    obtain rfl : d = 0 := h3.2.2.resolve_left (by decide)
    rw [show ([a, 0, 0, 0].take (1 : Int).toNat).map Lib.itoa = [Lib.itoa a] from rfl, Lib.join_one, num a _ 1 _ h0.1 h0.2.1 rfl (by decide) (by decide) rfl]
    exact tl _ _
  · obtain rfl : e = 0 := h2.2.2.resolve_left (by decide)
    obtain rfl : d = 0 := h3.2.2.resolve_left (by decide)
    rw [show ([a, b, 0, 0].take (2 : Int).toNat).map Lib.itoa = [Lib.itoa a, Lib.itoa b] from rfl, Lib.join_cons, joinTail_cons]
    simp only [Lib.joinTail, List.map_nil, List.flatten_nil, List.append_nil, List.append_assoc, List.cons_append, List.nil_append]
    rw [num a _ 1 _ h0.1 h0.2.1 rfl (by decide) (by decide) rfl, dot _ 1 _ (by decide), num b _ 2 _ h1.1 h1.2.1 rfl (by decide) (by decide) rfl]
    exact tl _ _
  · obtain rfl : d = 0 := h3.2.2.resolve_left (by decide)
    rw [show ([a, b, e, 0].take (3 : Int).toNat).map Lib.itoa = [Lib.itoa a, Lib.itoa b, Lib.itoa e] from rfl, Lib.join_cons, joinTail_cons, joinTail_cons]
    simp only [Lib.joinTail, List.map_nil, List.flatten_nil, List.append_nil, List.append_assoc, List.cons_append, List.nil_append]
    rw [num a _ 1 _ h0.1 h0.2.1 rfl (by decide) (by decide) rfl, dot _ 1 _ (by decide), num b _ 2 _ h1.1 h1.2.1 rfl (by decide) (by decide) rfl, dot _ 2 _ (by decide), num e _ 3 _ h2.1 h2.2.1 rfl (by decide) (by decide) rfl]
    exact tl _ _
  · rw [show ([a, b, e, d].take (4 : Int).toNat).map Lib.itoa = [Lib.itoa a, Lib.itoa b, Lib.itoa e, Lib.itoa d] from rfl, Lib.join_cons, joinTail_cons, joinTail_cons, joinTail_cons]
    simp only [Lib.joinTail, List.map_nil, List.flatten_nil, List.append_nil, List.append_assoc, List.cons_append, List.nil_append]
    rw [num a _ 1 _ h0.1 h0.2.1 rfl (by decide) (by decide) rfl, dot _ 1 _ (by decide), num b _ 2 _ h1.1 h1.2.1 rfl (by decide) (by decide) rfl, dot _ 2 _ (by decide), num e _ 3 _ h2.1 h2.2.1 rfl (by decide) (by decide) rfl, dot _ 3 _ (by decide), num d _ 4 _ h3.1 h3.2.1 rfl (by decide) (by decide) rfl]
    exact tl _ _
theorem refScan_length : ∀ (s : List UInt8) (ns : List Int) (c : Nat) (v : Ver), refScan ns c s = some v → v.ns.length = ns.length
  | [], ns, c, v, h => by simp only [refScan, Option.some.injEq] at h; rw [← h]
  | b :: r, ns, c, v, h => by
    rw [refScan] at h
    split at h
    · simp only [Option.some.injEq] at h; rw [← h]
    · split at h
      · split at h
        · cases h
        · exact refScan_length r ns _ v h
      · split at h
        · cases h
        · have := refScan_length r _ c v h
          simpa using this
/-- both read alike -/
theorem read_alike (s : List UInt8) : refRead s = readVer s := by
  have key : ∀ v, refRead s = some v ↔ readVer s = some v := by
    intro v
    rw [readVer_iff]
    constructor
    · intro h
      unfold refRead at h
      split at h
      · cases h
      · rename_i u hu
        split at h
        · rename_i hm
          injection h with h
          subst h
          exact ⟨by rw [refScan_length _ _ _ _ hu]; rfl, hm⟩
        · cases h
    · rintro ⟨h1, h2, rfl⟩
      unfold refRead
      rw [refScan_text h1 h2]
      simp [h2]
  cases h : readVer s with
  | none =>
    cases h2 : refRead s with
    | none => rfl
    | some v => rw [(key v).1 h2] at h; cases h
  | some v => exact (key v).2 h
end Go.Proofs.YteeijjhgdplifaaGreatDoor
