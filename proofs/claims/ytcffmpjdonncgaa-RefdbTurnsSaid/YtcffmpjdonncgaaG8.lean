/- RefdbX: the order of a graph, in plain: what is ready, how many a path waits for, what refers to what. -/
import Derived.Test.YtcffmpjdonncgaaG5
namespace Go.Proofs.Ytcffmpjdonncgaa
open Go.RowKit Go.Proofs.YtcffmpjdonncgaaW.PrintWords
open Go.Proofs.Ytcffmpjdonncgaa.PRef (S33 k33 k33_open z33)

/-! ### The maps that New fills -/
theorem rev_ind {α : Type} {P : List α → Prop} (h0 : P []) (h1 : ∀ l x, P l → P (l ++ [x])) (l : List α) : P l := by
  have : ∀ m : List α, P m.reverse := fun m => by
    induction m with
    | nil => exact h0
    | cons x m ih => rw [List.reverse_cons]; exact h1 _ _ ih
  have h := this l.reverse
  rwa [List.reverse_reverse] at h
open Classical in
theorem backJ_get (p : ByteArray) : ∀ (ts : List ByteArray) (M : List (ByteArray × List ByteArray)) (a : ByteArray), ts.Nodup → mgetD (backJ p M ts) a = mgetD M a ++ (if a ∈ ts then [p] else [])
  | [], M, a, _ => by simp [backJ]
  | t :: ts, M, a, hn => by
    have e : backJ p M (t :: ts) = backJ p (mput M t (mgetD M t ++ [p])) ts := rfl
    rw [List.nodup_cons] at hn
    rw [e, backJ_get p ts _ a hn.2, mgetD_mput]
    by_cases h : a = t
    · subst h
      rw [if_pos rfl, if_neg hn.1, if_pos List.mem_cons_self, List.append_nil]
    · rw [if_neg h]
      by_cases h2 : a ∈ ts
      · rw [if_pos h2, if_pos (List.mem_cons_of_mem _ h2)]
      · rw [if_neg h2, if_neg (by simp [h, h2])]
open Classical in
theorem backOf_get (k : List (ByteArray × List ByteArray)) (hk : ∀ x ∈ k, x.2.Nodup) (a : ByteArray) : mgetD (backOf k) a = (k.filter fun x => decide (a ∈ x.2)).map (·.1) := by
  revert hk
  refine rev_ind (P := fun k => (∀ x ∈ k, x.2.Nodup) → mgetD (backOf k) a = (k.filter fun x => decide (a ∈ x.2)).map (·.1)) (fun _ => rfl) (fun k x ih hk => ?_) k
  obtain ⟨p, ts⟩ := x
  rw [backOf_snoc, backJ_get p ts _ a (hk (p, ts) (by simp)), ih (fun y hy => hk y (by simp [hy])), List.filter_append, List.map_append]
  congr 1
  by_cases h : a ∈ ts <;> simp [h]
open Classical in
theorem edgeJ_get (p : ByteArray) : ∀ (ts : List ByteArray) (E : List ((ByteArray × ByteArray) × Value)) (a b : ByteArray), mget (edgeJ p E ts) (a, b) = if a = p ∧ b ∈ ts then some (.bool true) else mget E (a, b)
  | [], E, a, b => by simp [edgeJ]
  | t :: ts, E, a, b => by
    have e : edgeJ p E (t :: ts) = edgeJ p (mput E (p, t) (.bool true)) ts := rfl
    rw [e, edgeJ_get p ts _ a b, mget_mput]
    by_cases h : a = p
    · by_cases h2 : b ∈ ts
      · rw [if_pos ⟨h, h2⟩, if_pos ⟨h, List.mem_cons_of_mem _ h2⟩]
      · rw [if_neg (fun h => h2 h.2)]
        by_cases h3 : b = t
        · rw [if_pos (by rw [h, h3]), if_pos ⟨h, by rw [h3]; exact List.mem_cons_self⟩]
        · rw [if_neg (fun e => h3 (Prod.mk.inj e).2), if_neg (fun e => by rcases List.mem_cons.1 e.2 with e | e; exact h3 e; exact h2 e)]
    · rw [if_neg (fun e => h e.1), if_neg (fun e => h (Prod.mk.inj e).1), if_neg (fun e => h e.1)]
open Classical in
theorem edgeOf_get (k : List (ByteArray × List ByteArray)) (a b : ByteArray) : mget (edgeOf k) (a, b) = if ∃ x ∈ k, x.1 = a ∧ b ∈ x.2 then some (.bool true) else none := by
  refine rev_ind (P := fun k => mget (edgeOf k) (a, b) = if ∃ x ∈ k, x.1 = a ∧ b ∈ x.2 then some (.bool true) else none) (by simp [edgeOf, mget]) (fun k x ih => ?_) k
  obtain ⟨p, ts⟩ := x
  rw [edgeOf_snoc, edgeJ_get, ih]
  by_cases h : a = p ∧ b ∈ ts
  · rw [if_pos h, if_pos ⟨(p, ts), by simp, h.1.symm, h.2⟩]
  · rw [if_neg h]
    by_cases h2 : ∃ x ∈ k, x.1 = a ∧ b ∈ x.2
    · obtain ⟨x, hx, hx2⟩ := h2
      rw [if_pos ⟨x, hx, hx2⟩, if_pos ⟨x, by simp [hx], hx2⟩]
    · rw [if_neg h2, if_neg]
      rintro ⟨x, hx, hx2⟩
      rcases List.mem_append.1 hx with hx | hx
      · exact h2 ⟨x, hx, hx2⟩
      · rw [List.mem_singleton] at hx
        subst hx
        exact h ⟨hx2.1.symm, hx2.2⟩

section
variable {l : List S33} {k : List (ByteArray × List ByteArray)}
theorem pk_mem (hp : k.Perm (M1f l l.length)) {a : ByteArray} {ts : List ByteArray} : (a, ts) ∈ k ↔ ∃ x ∈ l, x.f0 = a ∧ SU x.f3 = ts := by
  rw [hp.mem_iff]
  simp only [M1f, List.take_length, List.mem_map, Prod.mk.injEq]
theorem back_mem (hp : k.Perm (M1f l l.length)) {s t : ByteArray} : s ∈ mgetD (backOf k) t ↔ ∃ x ∈ l, x.f0 = s ∧ t ∈ x.f3 := by
  have hk : ∀ x ∈ k, x.2.Nodup := by
    rintro ⟨a, ts⟩ hx
    obtain ⟨x, _, _, rfl⟩ := (pk_mem hp).1 hx
    exact (SU_rising _).nodup
  rw [backOf_get k hk, List.mem_map]
  constructor
  · rintro ⟨⟨a, ts⟩, hx, rfl⟩
    rw [List.mem_filter] at hx
    obtain ⟨x, hx1, rfl, rfl⟩ := (pk_mem hp).1 hx.1
    exact ⟨x, hx1, rfl, SU_mem.1 (by simpa using hx.2)⟩
  · rintro ⟨x, hx, rfl, ht⟩
    exact ⟨(x.f0, SU x.f3), by rw [List.mem_filter]; exact ⟨(pk_mem hp).2 ⟨x, hx, rfl, rfl⟩, by simpa using SU_mem.2 ht⟩, rfl⟩
theorem back_nodup (hp : k.Perm (M1f l l.length)) (hn : (l.map (·.f0)).Nodup) (t : ByteArray) : (mgetD (backOf k) t).Nodup := by
  have hk : ∀ x ∈ k, x.2.Nodup := by
    rintro ⟨a, ts⟩ hx
    obtain ⟨x, _, _, rfl⟩ := (pk_mem hp).1 hx
    exact (SU_rising _).nodup
  rw [backOf_get k hk]
  have hkn : (k.map (·.1)).Nodup := by rw [(hp.map (·.1)).nodup_iff, M1f_keys]; exact hn
  exact (List.filter_sublist.map _).nodup hkn
theorem back_len (hp : k.Perm (M1f l l.length)) (hn : (l.map (·.f0)).Nodup) (t : ByteArray) : (mgetD (backOf k) t).length ≤ l.length := by
  have := (back_nodup hp hn t).length_le_of_subset (l₂ := l.map (·.f0)) (fun s hs => by
    obtain ⟨x, hx, e, _⟩ := (back_mem hp).1 hs
    exact List.mem_map.2 ⟨x, hx, e⟩)
  simpa using this
open Classical in
theorem edge_get (hp : k.Perm (M1f l l.length)) (hn : (l.map (·.f0)).Nodup) {x : S33} (hx : x ∈ l) (t : ByteArray) : mget (edgeOf k) (x.f0, t) = if t ∈ x.f3 then some (.bool true) else none := by
  rw [edgeOf_get]
  by_cases h : t ∈ x.f3
  · rw [if_pos h, if_pos ⟨(x.f0, SU x.f3), (pk_mem hp).2 ⟨x, hx, rfl, rfl⟩, rfl, SU_mem.2 h⟩]
  · rw [if_neg h, if_neg]
    rintro ⟨⟨a, ts⟩, hy, ha, ht⟩
    obtain ⟨y, hy1, hy2, rfl⟩ := (pk_mem hp).1 hy
    have : y = x := map_inj_nodup (·.f0) hn y hy1 x hx (hy2.trans ha)
    subst this
    exact h (SU_mem.1 ht)
end

/-! ### What is ready -/
open Classical in
noncomputable def cnt (out : List ByteArray) (x : S33) : Nat := ((SU x.f3).filter fun t => decide (t ≠ x.f0 ∧ t ∉ out)).length
open Classical in
noncomputable def readyL (l : List S33) (out : List ByteArray) : List ByteArray := SU ((l.filter fun x => decide (x.f0 ∉ out ∧ ∀ t ∈ x.f3, t ≠ x.f0 → t ∈ out)).map (·.f0))
theorem readyL_mem {l : List S33} {out : List ByteArray} {s : ByteArray} : s ∈ readyL l out ↔ ∃ x ∈ l, x.f0 = s ∧ s ∉ out ∧ ∀ t ∈ x.f3, t ≠ s → t ∈ out := by
  unfold readyL
  rw [SU_mem, List.mem_map]
  constructor
  · rintro ⟨x, hx, rfl⟩
    rw [List.mem_filter] at hx
    exact ⟨x, hx.1, rfl, by simpa using hx.2⟩
  · rintro ⟨x, hx, rfl, h⟩
    exact ⟨x, by rw [List.mem_filter]; exact ⟨hx, by simpa using h⟩, rfl⟩
theorem readyL_rising (l : List S33) (out : List ByteArray) : Rising (readyL l out) := SU_rising _
theorem cnt_zero {out : List ByteArray} {x : S33} : cnt out x = 0 ↔ ∀ t ∈ x.f3, t ≠ x.f0 → t ∈ out := by
  classical
  unfold cnt
  rw [List.length_eq_zero_iff, List.filter_eq_nil_iff]
  constructor
  · intro h t ht hne
    have := h t (SU_mem.2 ht)
    simp only [decide_eq_true_eq, not_and, Classical.not_not] at this
    exact this hne
  · intro h t ht
    simp only [decide_eq_true_eq, not_and, Classical.not_not]
    exact fun hne => h t (SU_mem.1 ht) hne
theorem cnt_le (out : List ByteArray) (x : S33) : cnt out x ≤ x.f3.length := Nat.le_trans (List.length_filter_le _ _) (SU_le _)
theorem filter_one {α : Type} [DecidableEq α] {l : List α} (hn : l.Nodup) (P Q : α → Bool) (p : α) (hp : p ∈ l) (hP : P p = true) (hQ : Q p = false) (h : ∀ t, t ≠ p → Q t = P t) : (l.filter P).length = (l.filter Q).length + 1 := by
  induction l with
  | nil => cases hp
  | cons a l ih =>
    rw [List.nodup_cons] at hn
    by_cases e : a = p
    · subst e
      have : l.filter P = l.filter Q := List.filter_congr fun t ht => (h t (fun e => hn.1 (by rw [← e]; exact ht))).symm
      rw [List.filter_cons, List.filter_cons, if_pos hP, if_neg (by rw [hQ]; decide), this, List.length_cons]
    · have hp2 : p ∈ l := (List.mem_cons.1 hp).elim (fun e2 => absurd e2.symm e) id
      have := ih hn.2 hp2
      rw [List.filter_cons, List.filter_cons, h a e]
      split <;> simp [this]
theorem cnt_snoc_in {out : List ByteArray} {x : S33} {p : ByteArray} (hp : p ∈ x.f3) (hne : p ≠ x.f0) (ho : p ∉ out) : cnt out x = cnt (out ++ [p]) x + 1 := by
  classical
  unfold cnt
  refine filter_one (SU_rising _).nodup _ _ p (SU_mem.2 hp) (by simp [hne, ho]) (by simp) (fun t ht => ?_)
  simp [ht]
theorem cnt_snoc_out {out : List ByteArray} {x : S33} {p : ByteArray} (hp : p ∉ x.f3 ∨ p = x.f0) : cnt (out ++ [p]) x = cnt out x := by
  classical
  unfold cnt
  congr 1
  refine List.filter_congr fun t ht => ?_
  rw [decide_eq_decide]
  rw [List.mem_append, List.mem_singleton]
  refine ⟨fun h => ⟨h.1, fun h2 => h.2 (.inl h2)⟩, fun h => ⟨h.1, fun h2 => h2.elim h.2 (fun e => ?_)⟩⟩
  subst e
  exact hp.elim (fun hp => hp (SU_mem.1 ht)) h.1
/-- the order, as far as it is -/
inductive Ord (l : List S33) : List ByteArray → Prop
  | nil : Ord l []
  | snoc {out rest : List ByteArray} {p : ByteArray} (h : Ord l out) (hr : readyL l out = p :: rest) : Ord l (out ++ [p])
def OrdDone (l : List S33) (out : List ByteArray) : Prop := Ord l out ∧ readyL l out = []
theorem Ord.key {l : List S33} {out : List ByteArray} (h : Ord l out) : ∀ s ∈ out, s ∈ l.map (·.f0) := by
  induction h with
  | nil => simp
  | snoc h hr ih =>
    intro s hs
    rcases List.mem_append.1 hs with hs | hs
    · exact ih s hs
    · rw [List.mem_singleton] at hs
      subst hs
      obtain ⟨x, hx, e, _⟩ := readyL_mem.1 (show s ∈ readyL l _ by rw [hr]; exact List.mem_cons_self)
      exact List.mem_map.2 ⟨x, hx, e⟩
theorem Ord.nodup {l : List S33} {out : List ByteArray} (h : Ord l out) : out.Nodup := by
  induction h with
  | nil => exact List.nodup_nil
  | snoc h hr ih =>
    rename_i out rest p
    obtain ⟨x, hx, e, ho, _⟩ := readyL_mem.1 (show p ∈ readyL l _ by rw [hr]; exact List.mem_cons_self)
    rw [List.nodup_append]
    refine ⟨ih, by simp, fun a ha b hb => ?_⟩
    rw [List.mem_singleton] at hb
    subst hb
    rintro rfl
    exact ho ha
theorem Ord.closed {l : List S33} {out : List ByteArray} (h : Ord l out) (hn : (l.map (·.f0)).Nodup) : ∀ x ∈ l, x.f0 ∈ out → ∀ t ∈ x.f3, t ≠ x.f0 → t ∈ out := by
  induction h with
  | nil => simp
  | snoc h hr ih =>
    rename_i out rest p
    intro x hx hs t ht hne
    rcases List.mem_append.1 hs with hs | hs
    · exact List.mem_append_left _ (ih x hx hs t ht hne)
    · rw [List.mem_singleton] at hs
      obtain ⟨y, hy, e, ho, hc⟩ := readyL_mem.1 (show p ∈ readyL l _ by rw [hr]; exact List.mem_cons_self)
      have : y = x := map_inj_nodup (·.f0) hn y hy x hx (e.trans hs.symm)
      subst this
      exact List.mem_append_left _ (hc t ht (by rw [← hs]; exact hne))
theorem Ord.len {l : List S33} {out : List ByteArray} (h : Ord l out) : out.length ≤ l.length := by
  have := h.nodup.length_le_of_subset (l₂ := l.map (·.f0)) (fun s hs => h.key s hs)
  simpa using this
/-- what is told depends on nothing but the steps -/
theorem Ord.uniq {l : List S33} {out out' : List ByteArray} (h : OrdDone l out) (h' : OrdDone l out') : out = out' := by
  have key : ∀ a, Ord l a → ∀ b, Ord l b → (∃ c, b = a ++ c) ∨ ∃ c, a = b ++ c := by
    intro a ha
    induction ha with
    | nil => exact fun b _ => .inl ⟨b, rfl⟩
    | snoc h1 hr ih =>
      rename_i out rest p
      intro b hb
      rcases ih b hb with ⟨c, rfl⟩ | ⟨c, rfl⟩
      · cases c with
        | nil => exact .inr ⟨[p], by simp⟩
        | cons q c =>
          refine .inl ?_
          have : q = p := by
            have : ∀ d, Ord l d → ∀ q c, d = out ++ q :: c → q = p := by
              intro d hd
              induction hd with
              | nil => intro q c e; simp at e
              | snoc h2 hr2 ih2 =>
                rename_i o2 r2 p2
                intro q c e
                rcases List.eq_nil_or_concat c with rfl | ⟨c', z, rfl⟩
                · have e2 : o2 ++ [p2] = out ++ [q] := e
                  have := List.append_inj' e2 rfl
                  obtain ⟨rfl, e3⟩ := this
                  rw [hr] at hr2
                  injection hr2 with hr2 _
                  injection e3 with e3 _
                  rw [← e3, ← hr2]
                · have e2 : o2 ++ [p2] = (out ++ q :: c') ++ [z] := by rw [e]; simp
                  exact ih2 q c' (List.append_inj' e2 rfl).1
            exact this _ hb q c rfl
          subst this
          exact ⟨c, by simp⟩
      · exact .inr ⟨c ++ [p], by simp⟩
  have stop : ∀ a, OrdDone l a → ∀ c, Ord l (a ++ c) → c = [] := by
    intro a ha c hc
    rcases List.eq_nil_or_concat c with e | ⟨c', z, rfl⟩
    · exact e
    · exfalso
      have : ∀ d, Ord l d → ∀ c z, d = a ++ (c ++ [z]) → False := by
        intro d hd
        induction hd with
        | nil => intro c z e; simp at e
        | snoc h2 hr2 ih2 =>
          rename_i o2 r2 p2
          intro c z e
          have e2 : o2 ++ [p2] = (a ++ c) ++ [z] := by rw [e]; simp
          obtain ⟨rfl, _⟩ := List.append_inj' e2 rfl
          rcases List.eq_nil_or_concat c with rfl | ⟨c', z', rfl⟩
          · rw [List.append_nil, ha.2] at hr2
            cases hr2
          · exact ih2 c' z' (by simp)
      exact this _ hc c' z (by simp)
  rcases key out h.1 out' h'.1 with ⟨c, rfl⟩ | ⟨c, rfl⟩
  · rw [stop out h c h'.1, List.append_nil]
  · rw [stop out' h' c h.1, List.append_nil]
/-- the next round's queue -/
theorem ready_next {l : List S33} (hn : (l.map (·.f0)).Nodup) {out rest : List ByteArray} {p : ByteArray} (h : Ord l out) (hr : readyL l out = p :: rest) {ready : List ByteArray} (hri : Rising ready)
    (hm : ∀ s, s ∈ ready ↔ s ∈ rest ∨ ∃ x ∈ l, x.f0 = s ∧ p ∈ x.f3 ∧ s ≠ p ∧ cnt (out ++ [p]) x = 0) : ready = readyL l (out ++ [p]) := by
  refine rising_ext hri (readyL_rising _ _) fun s => ?_
  rw [hm, readyL_mem]
  have hrise : Rising (p :: rest) := by rw [← hr]; exact readyL_rising _ _
  have hpr : p ∉ rest := fun h => ltB_irrefl _ ((List.pairwise_cons.1 hrise).1 p h)
  obtain ⟨xp, hxp, ep, hpo, hpc⟩ := readyL_mem.1 (show p ∈ readyL l out by rw [hr]; exact List.mem_cons_self)
  constructor
  · rintro (hs | ⟨x, hx, rfl, hpx, hsp, hc⟩)
    · obtain ⟨x, hx, e, ho, hc⟩ := readyL_mem.1 (show s ∈ readyL l out by rw [hr]; exact List.mem_cons_of_mem _ hs)
      refine ⟨x, hx, e, ?_, fun t ht hne => List.mem_append_left _ (hc t ht hne)⟩
      rw [List.mem_append, List.mem_singleton]
      rintro (h1 | h1)
      · exact ho h1
      · subst h1; exact hpr hs
    · refine ⟨x, hx, rfl, ?_, fun t ht hne => cnt_zero.1 hc t ht hne⟩
      rw [List.mem_append, List.mem_singleton]
      rintro (h1 | h1)
      · exact hpo (h.closed hn x hx h1 p hpx (Ne.symm hsp))
      · exact hsp h1
  · rintro ⟨x, hx, rfl, ho, hc⟩
    rw [List.mem_append, List.mem_singleton, not_or] at ho
    by_cases hpx : p ∈ x.f3
    · exact .inr ⟨x, hx, rfl, hpx, ho.2, cnt_zero.2 hc⟩
    · left
      have : x.f0 ∈ readyL l out := by
        refine readyL_mem.2 ⟨x, hx, rfl, ho.1, fun t ht hne => ?_⟩
        rcases List.mem_append.1 (hc t ht hne) with h1 | h1
        · exact h1
        · rw [List.mem_singleton] at h1; subst h1; exact (hpx ht).elim
      rw [hr] at this
      exact (List.mem_cons.1 this).elim (fun e => absurd e ho.2) id
/-- where a text is put into a list that rises -/
theorem ins_at {l : List ByteArray} (h : Rising l) (x : ByteArray) : ∃ k, k ≤ l.length ∧ (∀ j p, j < k → l[j]? = some p → ltB p x) ∧ (∀ j p, k ≤ j → l[j]? = some p → ¬ ltB p x) := by
  induction l with
  | nil => exact ⟨0, Nat.le_refl _, fun j p hj => by omega, fun j p _ hp => by simp at hp⟩
  | cons a l ih =>
    obtain ⟨ha, hl⟩ := List.pairwise_cons.1 h
    by_cases hax : ltB a x
    · obtain ⟨k, h1, h2, h3⟩ := ih hl
      refine ⟨k + 1, by simp; omega, fun j p hj hp => ?_, fun j p hj hp => ?_⟩
      · cases j with
        | zero => simp at hp; subst hp; exact hax
        | succ j => exact h2 j p (by omega) (by simpa using hp)
      · cases j with
        | zero => omega
        | succ j => exact h3 j p (by omega) (by simpa using hp)
    · refine ⟨0, Nat.zero_le _, fun j p hj => by omega, fun j p _ hp hpx => ?_⟩
      cases j with
      | zero => simp at hp; subst hp; exact hax hpx
      | succ j => exact hax (ltB_trans (ha p (List.mem_of_getElem? (by simpa using hp))) hpx)
theorem ins_rising {l : List ByteArray} (h : Rising l) {x : ByteArray} {k : Nat} (hk : k ≤ l.length) (h1 : ∀ j p, j < k → l[j]? = some p → ltB p x) (h2 : ∀ j p, k ≤ j → l[j]? = some p → ¬ ltB p x) (hx : x ∉ l) : Rising (l.take k ++ x :: l.drop k) := by
  have hd : ∀ p ∈ l.drop k, ltB x p := by
    intro p hp
    obtain ⟨j, hj, e⟩ := List.getElem_of_mem hp
    have e2 : l[k + j]? = some p := by rw [← List.getElem?_drop, List.getElem?_eq_getElem hj, e]
    rcases ltB_tri x p with h | h | h
    · exact h
    · subst h; exact (hx (List.mem_of_getElem? e2)).elim
    · exact (h2 _ p (by omega) e2 h).elim
  have ht : ∀ p ∈ l.take k, ltB p x := by
    intro p hp
    obtain ⟨j, hj, e⟩ := List.getElem_of_mem hp
    rw [List.length_take] at hj
    have e2 : l[j]? = some p := by rw [← e, List.getElem_take, List.getElem?_eq_getElem (by omega)]
    exact h1 j p (by omega) e2
  have hsplit : (l.take k ++ l.drop k).Pairwise ltB := by rw [List.take_append_drop]; exact h
  obtain ⟨a1, a2, a3⟩ := List.pairwise_append.1 hsplit
  refine List.pairwise_append.2 ⟨a1, List.pairwise_cons.2 ⟨hd, a2⟩, fun a ha b hb => ?_⟩
  rcases List.mem_cons.1 hb with rfl | hb
  · exact ht a ha
  · exact a3 a ha b hb
theorem ins_mem {l : List ByteArray} {x : ByteArray} {k : Nat} (s : ByteArray) : s ∈ l.take k ++ x :: l.drop k ↔ s = x ∨ s ∈ l := by
  conv => rhs; rw [← List.take_append_drop k l]
  simp only [List.mem_append, List.mem_cons]
  constructor
  · rintro (h | h | h)
    · exact .inr (.inl h)
    · exact .inl h
    · exact .inr (.inr h)
  · rintro (h | h | h)
    · exact .inr (.inl h)
    · exact .inl h
    · exact .inr (.inr h)
/-- what slices.Sort makes of texts that are all other ones -/
theorem sort_nodup {l : List ByteArray} (h : l.Nodup) : cooked ((raw l).mergeSort leL) = SU l := by
  have hp : (cooked ((raw l).mergeSort leL)).Perm l := by
    have := (List.mergeSort_perm (raw l) leL).map (fun x => (⟨x.toArray⟩ : ByteArray))
    have e : (raw l).map (fun x => (⟨x.toArray⟩ : ByteArray)) = l := cooked_raw l
    rw [e] at this
    exact this
  have hn : (cooked ((raw l).mergeSort leL)).Nodup := hp.nodup_iff.2 h
  have hs := sorted_le (raw l)
  refine rising_ext ?_ (SU_rising _) (fun s => by rw [hp.mem_iff, SU_mem])
  have e : (cooked ((raw l).mergeSort leL)).Pairwise (fun a b => a.data.toList ≤ b.data.toList) := by
    unfold cooked
    rw [List.pairwise_map]
    exact hs
  refine (List.pairwise_and_iff.2 ⟨e, hn⟩).imp ?_
  rintro a b ⟨h1, h2⟩
  rcases ltB_tri a b with h3 | h3 | h3
  · exact h3
  · exact (h2 h3).elim
  · exact (h2 (ba_ext (List.le_antisymm h1 (List.not_lt.1 (List.lt_asymm h3))))).elim
end Go.Proofs.Ytcffmpjdonncgaa
