/- Sets of versions as cuts, plainly: which places lie in a set; what two sets make together; a set is known by its places. -/
import Derived.Test.YteeijjhgdplifaaGreatDoorS7
namespace Go.Proofs.YteeijjhgdplifaaGreatDoor

def cle (c t : Cut) : Bool := decide (c.cmp t ≤ 0)
/-- does a place lie in a set? -/
def par : List Cut → Cut → Bool
  | [], _ => false
  | c :: cs, t => if cle c t then !par cs t else par cs t
def keepF (f : Cut → Bool) : Bool → List Cut → List Cut
  | _, [] => []
  | now, c :: cs => if f c = now then keepF f now cs else c :: keepF f (f c) cs
/-- the value behind the last cut that is not above a place -/
def lastF (f : Cut → Bool) : Bool → List Cut → Cut → Bool
  | now, [], _ => now
  | now, c :: cs, t => if cle c t then lastF f (f c) cs t else now
def Oks (cs : List Cut) : Prop := ∀ c ∈ cs, c.Ok
theorem cle_iff (c t : Cut) : cle c t = true ↔ c.cmp t ≤ 0 := by simp [cle]
theorem cle_tr {c d e : Cut} (hc : c.Ok) (hd : d.Ok) (he : e.Ok) (h1 : cle c d = true) (h2 : cle d e = true) : cle c e = true := by
  rw [cle_iff] at *; exact Cut.cmp_tr hc hd he h1 h2
theorem cle_refl {c : Cut} (hc : c.Ok) : cle c c = true := by
  rw [cle_iff]; have := Cut.cmp_anti hc hc; omega
/-- rising -/
def Risc (cs : List Cut) : Prop := cs.Pairwise fun c d => cle c d = true
theorem par_none {cs : List Cut} {t : Cut} (h : ∀ c ∈ cs, cle c t = false) : par cs t = false := by
  induction cs with
  | nil => rfl
  | cons c cs ih =>
    rw [par, h c (by simp), if_neg (by decide)]
    exact ih (fun x hx => h x (List.mem_cons_of_mem _ hx))
theorem keepF_mem {f : Cut → Bool} : ∀ {cs : List Cut} {now : Bool} {x : Cut}, x ∈ keepF f now cs → x ∈ cs
  | [], _, _, h => by cases h
  | c :: cs, now, x, h => by
    rw [keepF] at h
    split at h
    · exact List.mem_cons_of_mem _ (keepF_mem h)
    · rcases List.mem_cons.1 h with rfl | h
      · simp
      · exact List.mem_cons_of_mem _ (keepF_mem h)
theorem keepF_sub (f : Cut → Bool) : ∀ (cs : List Cut) (now : Bool), (keepF f now cs).Sublist cs
  | [], _ => List.Sublist.slnil
  | c :: cs, now => by
    rw [keepF]
    split
    · exact (keepF_sub f cs now).cons c
    · exact (keepF_sub f cs _).cons_cons c
theorem above_all {c t : Cut} {cs : List Cut} (hc : c.Ok) (ht : t.Ok) (hk : Oks cs) (hr : ∀ d ∈ cs, cle c d = true) (h : cle c t = false) : ∀ d ∈ cs, cle d t = false := by
  intro d hd
  cases hdt : cle d t with
  | false => rfl
  | true => rw [cle_tr hc (hk d hd) ht (hr d hd) hdt] at h; exact absurd h (by decide)
theorem par_keep {f : Cut → Bool} {t : Cut} (ht : t.Ok) : ∀ {cs : List Cut} {now : Bool}, Oks cs → Risc cs → par (keepF f now cs) t = (now != lastF f now cs t)
  | [], now, _, _ => by cases now <;> rfl
  | c :: cs, now, hk, hr => by
    have hr' := List.pairwise_cons.1 hr
    have hk' : Oks cs := fun x hx => hk x (List.mem_cons_of_mem _ hx)
    rw [keepF, lastF]
    cases hct : cle c t with
    | true =>
      rw [if_pos rfl]
      by_cases hf : f c = now
      · rw [if_pos hf, par_keep ht hk' hr'.2, hf]
      · rw [if_neg hf, par, hct, if_pos rfl, par_keep ht hk' hr'.2]
        have : now = !f c := by cases now <;> cases hfc : f c <;> simp_all
        rw [this]
        cases f c <;> cases lastF f _ cs t <;> rfl
    | false =>
      simp only [Bool.false_eq_true, if_false]
      have ha := above_all (hk c (by simp)) ht hk' hr'.1 hct
      rw [show (now != now) = false by cases now <;> rfl]
      refine par_none fun x hx => ?_
      by_cases hf : f c = now
      · rw [if_pos hf] at hx; exact ha x (keepF_mem hx)
      · rw [if_neg hf] at hx
        rcases List.mem_cons.1 hx with rfl | hx
        · exact hct
        · exact ha x (keepF_mem hx)
theorem par_same {cs : List Cut} {t u : Cut} (h : ∀ c ∈ cs, cle c t = cle c u) : par cs t = par cs u := by
  induction cs with
  | nil => rfl
  | cons c cs ih =>
    rw [par, par, h c (by simp), ih (fun x hx => h x (List.mem_cons_of_mem _ hx))]
/-- What is behind the last cut of a rising list that is not above a place, where f only asks how the list's cuts lie. -/
theorem lastF_at {f : Cut → Bool} {t : Cut} (ht : t.Ok) (z : Bool) (L : List Cut) (hz : (∀ c ∈ L, cle c t = false) → z = f t) (hf : ∀ c ∈ L, cle c t = true → (∀ d ∈ L, cle d t = true → cle d c = true) → f c = f t) : ∀ (pre cs : List Cut), pre ++ cs = L → Oks L → Risc L → (∀ c ∈ pre, cle c t = true) → lastF f (match pre.getLast? with | some c => f c | none => z) cs t = f t
  | pre, [], hL, hk, hr, hp => by
    rw [lastF]
    rw [List.append_nil] at hL
    subst hL
    cases hl : pre.getLast? with
    | none =>
      have : pre = [] := List.getLast?_eq_none_iff.1 hl
      subst this
      exact hz (by simp)
    | some c =>
      obtain ⟨ys, rfl⟩ := List.getLast?_eq_some_iff.1 hl
      refine hf c (by simp) (hp c (by simp)) fun d hd _ => ?_
      rcases List.mem_append.1 hd with hd | hd
      · exact (List.pairwise_append.1 hr).2.2 d hd c (by simp)
      · rw [List.mem_singleton.1 hd]; exact cle_refl (hk c (by simp))
  | pre, c :: cs, hL, hk, hr, hp => by
    rw [lastF]
    cases hct : cle c t with
    | true =>
      rw [if_pos rfl]
      have ih := lastF_at ht z L hz hf (pre ++ [c]) cs (by rw [List.append_assoc]; exact hL) hk hr (fun x hx => by
        rcases List.mem_append.1 hx with hx | hx
        · exact hp x hx
        · rw [List.mem_singleton.1 hx]; exact hct)
      rw [List.getLast?_append] at ih
      simpa using ih
    | false =>
      rw [if_neg (by decide)]
      have hkc : c.Ok := hk c (by rw [← hL]; simp)
      have hkcs : Oks cs := fun x hx => hk x (by rw [← hL]; simp [hx])
      have hrr : Risc (pre ++ c :: cs) := by rw [hL]; exact hr
      have hr2 := List.pairwise_cons.1 (List.pairwise_append.1 hrr).2.1
      have ha := above_all hkc ht hkcs hr2.1 hct
      have hle : ∀ d ∈ L, cle d t = true → d ∈ pre := by
        intro d hd hdt
        rw [← hL] at hd
        rcases List.mem_append.1 hd with hd | hd
        · exact hd
        · rcases List.mem_cons.1 hd with rfl | hd
          · rw [hct] at hdt; exact absurd hdt (by decide)
          · rw [ha d hd] at hdt; exact absurd hdt (by decide)
      cases hl : pre.getLast? with
      | none =>
        have : pre = [] := List.getLast?_eq_none_iff.1 hl
        subst this
        refine hz fun d hd => ?_
        cases hdt : cle d t with
        | false => rfl
        | true => cases hle d hd hdt
      | some e =>
        obtain ⟨ys, rfl⟩ := List.getLast?_eq_some_iff.1 hl
        refine hf e (by rw [← hL]; simp) (hp e (by simp)) fun d hd hdt => ?_
        rcases List.mem_append.1 (hle d hd hdt) with hd' | hd'
        · exact (List.pairwise_append.1 (List.pairwise_append.1 hrr).1).2.2 d hd' e (by simp)
        · rw [List.mem_singleton.1 hd']; exact cle_refl (hk e (by rw [← hL]; simp))
/-- What two sets make together. -/
theorem par_merge {g : Bool → Bool → Bool} (hg : g false false = false) {s o L : List Cut} (hL : Oks L) (hr : Risc L) (hs : ∀ c ∈ s, c ∈ L) (ho : ∀ c ∈ o, c ∈ L) {t : Cut} (ht : t.Ok) :
    par (keepF (fun c => g (par s c) (par o c)) false L) t = g (par s t) (par o t) := by
  rw [par_keep ht hL hr]
  have key : ∀ (x : List Cut), (∀ c ∈ x, c ∈ L) → ∀ c ∈ L, cle c t = true → (∀ d ∈ L, cle d t = true → cle d c = true) → par x c = par x t := by
    intro x hx c hc hct hmax
    refine par_same fun d hd => ?_
    cases h1 : cle d t with
    | true => exact hmax d (hx d hd) h1
    | false =>
      cases h2 : cle d c with
      | false => rfl
      | true => rw [cle_tr (hL d (hx d hd)) (hL c hc) ht h2 hct] at h1; exact absurd h1 (by decide)
  have h := lastF_at (f := fun c => g (par s c) (par o c)) ht false L (fun hn => by
      show false = g (par s t) (par o t)
      rw [par_none (fun c hc => hn c (hs c hc)), par_none (fun c hc => hn c (ho c hc)), hg]) (fun c hc hct hmax => by
      show g (par s c) (par o c) = g (par s t) (par o t)
      rw [key s hs c hc hct hmax, key o ho c hc hct hmax]) [] L rfl hL hr (by simp)
  simp only [List.getLast?_nil] at h
  rw [h]
  simp
/-- A cut in the one form that it has. -/
def Cut.Pr (c : Cut) : Prop := c.Ok ∧ (c.edge = true → c.v = Ver.zero)
theorem Cut.cmp_zero {c d : Cut} (hc : c.Pr) (hd : d.Pr) (h : c.cmp d = 0) : c = d := by
  have ea : ∀ {c : Cut}, c.edge = true → (c.a = 0 ∧ c.rank = 0) ∨ (c.a = 3 ∧ c.rank = 2) := by
    intro c he
    unfold Cut.edge at he
    unfold Cut.rank
    by_cases h0 : c.a = 0
    · left; simp [h0]
    · have h3 : c.a = 3 := by simpa [h0] using he
      right; simp [h3]
  rcases c.edge_rank with ⟨e1, r1⟩ | ⟨e1, r1⟩
  · rw [Cut.cmp_edge (.inl e1)] at h
    rcases d.edge_rank with ⟨e2, r2⟩ | ⟨e2, r2⟩
    · have v1 := hc.2 e1
      have v2 := hd.2 e2
      have a1 := ea e1
      have a2 := ea e2
      cases c; cases d
      simp only [Cut.mk.injEq] at *
      exact ⟨by omega, by rw [v1, v2]⟩
    · omega
  · rcases d.edge_rank with ⟨e2, r2⟩ | ⟨e2, r2⟩
    · rw [Cut.cmp_edge (.inr e2)] at h; omega
    · rw [Cut.cmp_mid e1 e2] at h
      by_cases h0 : c.v.cmp d.v = 0
      · rw [if_pos h0] at h
        have hv := (Ver.cmp_eq hc.1.1 hd.1.1).1 h0
        cases c; cases d
        simp only [Cut.mk.injEq] at *
        exact ⟨by omega, hv⟩
      · rw [if_neg h0] at h; exact absurd h h0
def Prs (cs : List Cut) : Prop := ∀ c ∈ cs, c.Pr
/-- strictly rising -/
def Stc (cs : List Cut) : Prop := cs.Pairwise fun c d => c.cmp d < 0
theorem par_ext : ∀ {xs ys : List Cut}, Prs xs → Prs ys → Stc xs → Stc ys → (∀ t, t ∈ xs ∨ t ∈ ys → par xs t = par ys t) → xs = ys := by
  have first : ∀ {x : Cut} {xs : List Cut}, Prs (x :: xs) → Stc (x :: xs) → par (x :: xs) x = true := by
    intro x xs hp hs
    rw [par, if_pos (cle_refl (hp x (by simp)).1)]
    rw [par_none fun d hd => ?_]
    · rfl
    · have h1 := (List.pairwise_cons.1 hs).1 d hd
      have h2 := Cut.cmp_anti (hp x (by simp)).1 (hp d (List.mem_cons_of_mem _ hd)).1
      simp only [cle, decide_eq_false_iff_not]; omega
  have none_below : ∀ {x y : Cut} {ys : List Cut}, x.Pr → Prs (y :: ys) → Stc (y :: ys) → x.cmp y < 0 → par (y :: ys) x = false := by
    intro x y ys hx hp hs hxy
    have hy := (hp y (by simp)).1
    refine par_none fun d hd => ?_
    have hd' := (hp d hd).1
    have h1 := Cut.cmp_anti hx.1 hd'
    have h2 := Cut.cmp_anti hx.1 hy
    have hyd : y.cmp d ≤ 0 := by
      rcases List.mem_cons.1 hd with rfl | hd
      · have := Cut.cmp_anti hy hy; omega
      · have := (List.pairwise_cons.1 hs).1 d hd; omega
    simp only [cle, decide_eq_false_iff_not]
    intro hdx
    have := Cut.cmp_tr hy hd' hx.1 hyd hdx
    omega
  intro xs
  induction xs with
  | nil =>
    intro ys _ hy _ hsy h
    cases ys with
    | nil => rfl
    | cons y ys =>
      have := h y (.inr (by simp))
      rw [first hy hsy] at this
      exact absurd this (by simp [par])
  | cons x xs ih =>
    intro ys hx hy hsx hsy h
    cases ys with
    | nil =>
      have := h x (.inl (by simp))
      rw [first hx hsx] at this
      exact absurd this (by simp [par])
    | cons y ys =>
      have hxy : x = y := by
        rcases Int.lt_trichotomy (x.cmp y) 0 with h1 | h1 | h1
        · have := h x (.inl (by simp))
          rw [first hx hsx, none_below (hx x (by simp)) hy hsy h1] at this
          exact absurd this (by decide)
        · exact Cut.cmp_zero (hx x (by simp)) (hy y (by simp)) h1
        · have h2 := Cut.cmp_anti (hx x (by simp)).1 (hy y (by simp)).1
          have := h y (.inr (by simp))
          rw [first hy hsy, none_below (hy y (by simp)) hx hsx (by omega)] at this
          exact absurd this (by decide)
      subst hxy
      congr 1
      have hsx' := List.pairwise_cons.1 hsx
      have hsy' := List.pairwise_cons.1 hsy
      refine ih (fun c hc => hx c (List.mem_cons_of_mem _ hc)) (fun c hc => hy c (List.mem_cons_of_mem _ hc)) hsx'.2 hsy'.2 fun t ht => ?_
      have h1 := h t (ht.imp (List.mem_cons_of_mem _) (List.mem_cons_of_mem _))
      have hlt : cle x t = true := by
        rw [cle_iff]
        rcases ht with ht | ht
        · have := hsx'.1 t ht; omega
        · have := hsy'.1 t ht; omega
      rw [par, par, hlt, if_pos rfl, if_pos rfl] at h1
      cases a : par xs t <;> cases b : par ys t <;> simp_all
end Go.Proofs.YteeijjhgdplifaaGreatDoor
