/- Sets of versions as cuts, plainly: what And, Or, Not make; when two sets are the same. -/
import Derived.Test.YteeijjhgdplifaaGreatDoorSF
import Derived.Test.YteeijjhgdplifaaGreatDoorVi
namespace Go.Proofs.YteeijjhgdplifaaGreatDoor

def topC : Cut := ⟨3, Ver.zero⟩
def botC : Cut := ⟨0, Ver.zero⟩
def Cut.M (c : Cut) : Prop := c.Pr ∧ (c.edge = false → c.v.may = true)
/-- Cuts that a set may have. -/
structure IsSet (cs : List Cut) (N : Nat) : Prop where
  m : ∀ c ∈ cs, c.M
  st : Stc cs
  ev : par cs topC = false
  len : cs.length ≤ N
theorem IsSet.prs {cs : List Cut} {N : Nat} (h : IsSet cs N) : Prs cs := fun c hc => (h.m c hc).1
theorem IsSet.oks {cs : List Cut} {N : Nat} (h : IsSet cs N) : Oks cs := fun c hc => (h.m c hc).1.1
theorem IsSet.mono {cs : List Cut} {N M : Nat} (h : IsSet cs N) (hM : N ≤ M) : IsSet cs M := ⟨h.m, h.st, h.ev, Nat.le_trans h.len hM⟩
theorem topC_pr : topC.Pr := ⟨⟨rfl, by decide, by decide⟩, fun _ => rfl⟩
theorem botC_pr : botC.Pr := ⟨⟨rfl, by decide, by decide⟩, fun _ => rfl⟩
theorem topC_m : topC.M := ⟨topC_pr, fun h => by cases h⟩
theorem botC_m : botC.M := ⟨botC_pr, fun h => by cases h⟩
theorem cle_top (c : Cut) : cle c topC = true := by
  rw [cle_iff, Cut.cmp_edge (.inr rfl)]
  have := rank_bd c
  have e : topC.rank = 2 := rfl
  omega
theorem cle_bot (c : Cut) : cle botC c = true := by
  rw [cle_iff, Cut.cmp_edge (.inl rfl)]
  have := rank_bd c
  have e : botC.rank = 0 := rfl
  omega
theorem isSet_none : IsSet [] 0 := ⟨fun c h => (by cases h), List.Pairwise.nil, rfl, Nat.le_refl _⟩
theorem isSet_spl {c d : Cut} (hc : c.M) (hd : d.M) : IsSet (spl c d) 2 := by
  unfold spl
  split
  · exact isSet_none.mono (by decide)
  · rename_i h
    refine ⟨fun x hx => ?_, ?_, ?_, Nat.le_refl _⟩
    · rcases List.mem_cons.1 hx with rfl | hx
      · exact hc
      · rw [List.mem_singleton.1 hx]; exact hd
    · refine List.pairwise_cons.2 ⟨fun x hx => ?_, List.pairwise_singleton _ _⟩
      rw [List.mem_singleton.1 hx]; omega
    · rw [par, cle_top, if_pos rfl, par, cle_top, if_pos rfl]; rfl
theorem par_all {t : Cut} (h : cle topC t = false) : par [botC, topC] t = true := by
  rw [par, cle_bot, if_pos rfl, par, h, if_neg (by decide)]; rfl
theorem all_spl : spl botC topC = [botC, topC] := rfl
/-- What merge makes. -/
structure Merged (g : Bool → Bool → Bool) (s o cs : List Cut) : Prop where
  mem : ∀ c ∈ cs, c ∈ s ∨ c ∈ o
  st : Stc cs
  par : ∀ t, t.Ok → par cs t = g (par s t) (par o t)
  len : cs.length ≤ s.length + o.length
theorem cmpF_len : ∀ (cs : List Cut) (p : Cut), (cmpF p cs).length ≤ cs.length
  | [], _ => Nat.le_refl _
  | c :: cs, p => by
    rw [cmpF]
    split
    · exact Nat.le_succ_of_le (cmpF_len cs p)
    · exact Nat.succ_le_succ (cmpF_len cs c)
theorem cmpc_len (cs : List Cut) : (cmpc cs).length ≤ cs.length := by
  cases cs with
  | nil => exact Nat.le_refl _
  | cons c cs => exact Nat.succ_le_succ (cmpF_len cs c)
theorem merged_of {g : Bool → Bool → Bool} (hg : g false false = false) {s o L : List Cut} (hs : Prs s) (ho : Prs o) (hp : L.Perm (s ++ o)) (hr : L.Pairwise fun c d => c.cmp d ≤ 0) :
    Merged g s o (keepF (fun c => g (par s c) (par o c)) false (cmpc L)) := by
  have hL : Prs L := fun c hc => (List.mem_append.1 (hp.mem_iff.1 hc)).elim (hs c) (ho c)
  have hR : Risc L := hr.imp fun h => (cle_iff _ _).2 h
  have hst := cmpc_strict hL hR
  have hok : Oks (cmpc L) := fun c hc => (hL c ((mem_cmpc L c).1 hc)).1
  refine ⟨fun c hc => ?_, hst.sublist (keepF_sub _ _ _), fun t ht => ?_, ?_⟩
  · exact List.mem_append.1 (hp.mem_iff.1 ((mem_cmpc L c).1 (keepF_mem hc)))
  · exact par_merge hg hok (stc_risc hst) (fun c hc => (mem_cmpc L c).2 (hp.mem_iff.2 (List.mem_append.2 (.inl hc)))) (fun c hc => (mem_cmpc L c).2 (hp.mem_iff.2 (List.mem_append.2 (.inr hc)))) ht
  · have h1 := (keepF_sub (fun c => g (par s c) (par o c)) (cmpc L) false).length_le
    have h2 := cmpc_len L
    have h3 := hp.length_eq
    rw [List.length_append] at h3
    omega
theorem IsSet.merged {g : Bool → Bool → Bool} (hg : g false false = false) {s o cs : List Cut} {N M : Nat} (hs : IsSet s N) (ho : IsSet o M) (h : Merged g s o cs) : IsSet cs (N + M) := by
  refine ⟨fun c hc => (h.mem c hc).elim (hs.m c) (ho.m c), h.st, ?_, ?_⟩
  · rw [h.par _ topC_pr.1, hs.ev, ho.ev, hg]
  · have := h.len; have := hs.len; have := ho.len; omega
/-- Two sets with the same places are the same. -/
theorem same_of {x y : List Cut} {N M : Nat} (hx : IsSet x N) (hy : IsSet y M) (h : ∀ t, t.Ok → cle topC t = false → par x t = par y t) : x = y := by
  refine par_ext hx.prs hy.prs hx.st hy.st fun t ht => ?_
  have hp : t.Pr := ht.elim (hx.prs t) (hy.prs t)
  cases ht : cle topC t with
  | false => exact h t hp.1 ht
  | true =>
    have h1 := (cle_iff _ _).1 ht
    have h2 := (cle_iff _ _).1 (cle_top t)
    have h3 := Cut.cmp_anti topC_pr.1 hp.1
    have e : topC = t := Cut.cmp_zero topC_pr hp (by omega)
    rw [← e, hx.ev, hy.ev]
end Go.Proofs.YteeijjhgdplifaaGreatDoor
/- Ranges, plainly: terms, the document's terms; what a text's range has. -/
namespace Go.Proofs.YteeijjhgdplifaaGreatDoor

theorem cle_aa {v w : Ver} (hv : v.Ok) (hw : w.Ok) : cle ⟨1, v⟩ ⟨1, w⟩ = decide (0 ≤ w.cmp v) := by
  have h := Ver.cmp_anti hv hw
  unfold cle
  rw [Cut.cmp_mid rfl rfl]
  show decide ((if v.cmp w = 0 then (1 : Int) - 1 else v.cmp w) ≤ 0) = _
  by_cases h0 : v.cmp w = 0
  · rw [if_pos h0, Bool.eq_iff_iff, decide_eq_true_eq, decide_eq_true_eq]; omega
  · rw [if_neg h0, Bool.eq_iff_iff, decide_eq_true_eq, decide_eq_true_eq]; omega
theorem cle_ba {v w : Ver} (hv : v.Ok) (hw : w.Ok) : cle ⟨2, v⟩ ⟨1, w⟩ = decide (0 < w.cmp v) := by
  have h := Ver.cmp_anti hv hw
  unfold cle
  rw [Cut.cmp_mid rfl rfl]
  show decide ((if v.cmp w = 0 then (2 : Int) - 1 else v.cmp w) ≤ 0) = _
  by_cases h0 : v.cmp w = 0
  · rw [if_pos h0, Bool.eq_iff_iff, decide_eq_true_eq, decide_eq_true_eq]; omega
  · rw [if_neg h0, Bool.eq_iff_iff, decide_eq_true_eq, decide_eq_true_eq]; omega
theorem cle_ta (w : Ver) : cle topC ⟨1, w⟩ = false := by
  unfold cle
  rw [Cut.cmp_edge (.inl rfl)]
  rfl
theorem ok1 {v : Ver} (h : v.Ok) : (⟨1, v⟩ : Cut).Ok := ⟨h, show (0 : Int) ≤ 1 by decide, show (1 : Int) ≤ 3 by decide⟩
theorem ok2 {v : Ver} (h : v.Ok) : (⟨2, v⟩ : Cut).Ok := ⟨h, show (0 : Int) ≤ 2 by decide, show (2 : Int) ≤ 3 by decide⟩
theorem par_spl {c d t : Cut} (hc : c.Ok) (hd : d.Ok) (ht : t.Ok) : par (spl c d) t = (cle c t && !cle d t) := by
  unfold spl
  have h1 := Cut.cmp_anti hc hd
  by_cases h : 0 ≤ c.cmp d
  · rw [if_pos h]
    have hdc : cle d c = true := (cle_iff _ _).2 (by omega)
    cases h2 : cle c t with
    | false => rfl
    | true => rw [cle_tr hd hc ht hdc h2]; rfl
  · rw [if_neg h]
    have hcd : cle c d = true := (cle_iff _ _).2 (by omega)
    rw [par, par, par]
    cases h2 : cle c t with
    | true => rw [if_pos rfl]; cases cle d t <;> rfl
    | false =>
      cases h3 : cle d t with
      | false => rfl
      | true => rw [cle_tr hc hd ht hcd h3] at h2; cases h2
/-- the place behind the first number that is not 0 -/
def crt : List Int → Nat → Int → Int
  | [], _, d => d
  | a :: r, i, d => if a ≠ 0 then (i + 1 : Nat) else crt r (i + 1) d
def caretC (v : Ver) : Int := crt (v.ns.take v.c.toNat) 0 v.c
theorem crt_step {l : List Int} {i : Nat} {a : Int} (h : l[i]? = some a) (d : Int) : crt (l.drop i) i d = if a ≠ 0 then ((i + 1 : Nat) : Int) else crt (l.drop (i + 1)) (i + 1) d := by
  obtain ⟨h1, h2⟩ := List.getElem?_eq_some_iff.1 h
  rw [List.drop_eq_getElem_cons h1, h2, crt]
def fromC (v : Ver) (n : Int) : List Cut := spl ⟨1, v⟩ (if (v.bump n).2 = 0 then ⟨1, (v.bump n).1⟩ else topC)
def belowT (w v : Ver) (n : Int) : Bool := decide ((v.bump n).2 ≠ 0) || decide (w.cmp (v.bump n).1 < 0)
theorem bump_form {v : Ver} (hv : v.Ok) (n : Int) : (v.bump n).1.Ok ∧ ((v.bump n).2 = 0 → (v.bump n).1.may = true) := by
  unfold Ver.bump
  by_cases h1 : v.may = false
  · rw [if_pos h1]; exact ⟨rfl, fun h => absurd h (show ¬ (20 : Int) = 0 by decide)⟩
  rw [if_neg h1]
  by_cases h2 : n < 1 ∨ 4 < n
  · rw [if_pos h2]; exact ⟨rfl, fun h => absurd h (show ¬ (2 : Int) = 0 by decide)⟩
  rw [if_neg h2]
  by_cases h3 : v.ns.getD (n.toNat - 1) 0 = 999999999
  · rw [if_pos h3]; exact ⟨rfl, fun h => absurd h (show ¬ (20 : Int) = 0 by decide)⟩
  rw [if_neg h3]
  have h1' : v.may = true := by simpa using h1
  refine ⟨next_length hv (by omega), fun _ => ?_⟩
  show (v.next n.toNat).may = true
  rw [next_may hv h1' (by omega) (by omega)]
  exact decide_eq_true h3
theorem mid_m {a : Int} {v : Ver} (ha : a = 1 ∨ a = 2) (hv : v.Ok) (hm : v.may = true) : (⟨a, v⟩ : Cut).M := by
  rcases ha with rfl | rfl
  · exact ⟨⟨ok1 hv, fun h => by cases h⟩, fun _ => hm⟩
  · exact ⟨⟨ok2 hv, fun h => by cases h⟩, fun _ => hm⟩
theorem fromC_set {v : Ver} (hv : v.Ok) (hm : v.may = true) (n : Int) : IsSet (fromC v n) 2 := by
  unfold fromC
  refine isSet_spl (mid_m (.inl rfl) hv hm) ?_
  have h := bump_form hv n
  split
  · rename_i h0
    exact mid_m (.inl rfl) h.1 (h.2 h0)
  · exact topC_m
theorem fromC_par {v w : Ver} (hv : v.Ok) (hw : w.Ok) (n : Int) : par (fromC v n) ⟨1, w⟩ = (decide (0 ≤ w.cmp v) && belowT w v n) := by
  have h := bump_form hv n
  have hk : ∀ u : Ver, u.Ok → (⟨1, u⟩ : Cut).Ok := fun u hu => ok1 hu
  unfold fromC belowT
  by_cases h0 : (v.bump n).2 = 0
  · rw [if_pos h0, par_spl (hk _ hv) (hk _ h.1) (hk _ hw), cle_aa hv hw, cle_aa h.1 hw, show decide ((v.bump n).2 ≠ 0) = false from by simp [h0], Bool.false_or]
    congr 1
    rw [Bool.eq_iff_iff]
    simp only [Bool.not_eq_true', decide_eq_false_iff_not, decide_eq_true_eq]
    omega
  · rw [if_neg h0, par_spl (hk _ hv) topC_pr.1 (hk _ hw), cle_aa hv hw, cle_ta, show decide ((v.bump n).2 ≠ 0) = true from by simp [h0], Bool.true_or, Bool.not_false]
/-- what a term's sign makes of a version -/
def opCuts (op : List UInt8) (v : Ver) : Option (List Cut) :=
  if op = [62, 61] then some (spl ⟨1, v⟩ topC)
  else if op = [62] then some (spl ⟨2, v⟩ topC)
  else if op = [60, 61] then some (spl botC ⟨2, v⟩)
  else if op = [60] then some (spl botC ⟨1, v⟩)
  else if op = [61] then some (spl ⟨1, v⟩ ⟨2, v⟩)
  else if op = [94] then some (fromC v (caretC v))
  else if op = [126] then some (fromC v (min 2 v.c))
  else none
def hasT (op : List UInt8) (v w : Ver) : Bool :=
  if op = [42] then true
  else if op = [62, 61] then decide (0 ≤ w.cmp v)
  else if op = [60, 61] then decide (w.cmp v ≤ 0)
  else if op = [62] then decide (0 < w.cmp v)
  else if op = [60] then decide (w.cmp v < 0)
  else if op = [61] then decide (w.cmp v = 0)
  else if op = [126] then decide (0 ≤ w.cmp v) && belowT w v (if v.c = 1 then 1 else 2)
  else decide (0 ≤ w.cmp v) && belowT w v (caretC v)
theorem opCuts_has {op : List UInt8} {v : Ver} (hv : v.Ok) (hm : v.may = true) {cs : List Cut} (h : opCuts op v = some cs) : IsSet cs 2 ∧ ∀ w : Ver, w.Ok → par cs ⟨1, w⟩ = hasT op v w := by
  have hk : ∀ u : Ver, u.Ok → (⟨1, u⟩ : Cut).Ok := fun u hu => ok1 hu
  have hk2 : ∀ u : Ver, u.Ok → (⟨2, u⟩ : Cut).Ok := fun u hu => ok2 hu
  have m1 := mid_m (.inl rfl) hv hm
  have m2 := mid_m (.inr rfl) hv hm
  unfold opCuts at h
  split at h
  · rename_i e; subst e; injection h with h; subst h
    refine ⟨isSet_spl m1 topC_m, fun w hw => ?_⟩
    rw [par_spl (hk _ hv) topC_pr.1 (hk _ hw), cle_aa hv hw, cle_ta, Bool.not_false, Bool.and_true]
    rfl
  split at h
  · rename_i e; subst e; injection h with h; subst h
    refine ⟨isSet_spl m2 topC_m, fun w hw => ?_⟩
    rw [par_spl (hk2 _ hv) topC_pr.1 (hk _ hw), cle_ba hv hw, cle_ta, Bool.not_false, Bool.and_true]
    rfl
  split at h
  · rename_i e; subst e; injection h with h; subst h
    refine ⟨isSet_spl botC_m m2, fun w hw => ?_⟩
    rw [par_spl botC_pr.1 (hk2 _ hv) (hk _ hw), cle_ba hv hw, cle_bot, Bool.true_and]
    show _ = decide (w.cmp v ≤ 0)
    rw [Bool.eq_iff_iff]
    simp only [Bool.not_eq_true', decide_eq_false_iff_not, decide_eq_true_eq]
    omega
  split at h
  · rename_i e; subst e; injection h with h; subst h
    refine ⟨isSet_spl botC_m m1, fun w hw => ?_⟩
    rw [par_spl botC_pr.1 (hk _ hv) (hk _ hw), cle_aa hv hw, cle_bot, Bool.true_and]
    show _ = decide (w.cmp v < 0)
    rw [Bool.eq_iff_iff]
    simp only [Bool.not_eq_true', decide_eq_false_iff_not, decide_eq_true_eq]
    omega
  split at h
  · rename_i e; subst e; injection h with h; subst h
    refine ⟨isSet_spl m1 m2, fun w hw => ?_⟩
    rw [par_spl (hk _ hv) (hk2 _ hv) (hk _ hw), cle_aa hv hw, cle_ba hv hw]
    show _ = decide (w.cmp v = 0)
    rw [Bool.eq_iff_iff]
    simp only [Bool.and_eq_true, Bool.not_eq_true', decide_eq_false_iff_not, decide_eq_true_eq]
    omega
  split at h
  · rename_i e; subst e; injection h with h; subst h
    exact ⟨fromC_set hv hm _, fun w hw => by rw [fromC_par hv hw]; rfl⟩
  split at h
  · rename_i e; subst e; injection h with h; subst h
    refine ⟨fromC_set hv hm _, fun w hw => ?_⟩
    have hc := v.may_c hm
    have e : min 2 v.c = if v.c = 1 then 1 else 2 := by split <;> omega
    rw [e, fromC_par hv hw]
    rfl
  · cases h
def opSet : List UInt8 := [60, 62, 61, 94, 126]
/-- a term -/
def termP (s : List UInt8) : Option (List Cut) :=
  if s = [42] then some [botC, topC] else
  match readVer (Lib.trimLeftS s opSet) with
  | none => none
  | some v => opCuts (s.take (s.length - (Lib.trimLeftS s opSet).length)) v
def refOps (s : List UInt8) : List (List UInt8) → Option (List UInt8 × Ver)
  | [] => none
  | o :: r => if o.length < s.length ∧ s.take o.length = o then (readVer (s.drop o.length)).map (o, ·) else refOps s r
def allOps : List (List UInt8) := [[62, 61], [60, 61], [62], [60], [61], [94], [126]]
/-- the document's term -/
def refTerm (s : List UInt8) : Option (List UInt8 × Ver) := if s = [42] then some ([42], Ver.zero) else refOps s allOps
theorem readVer_head {s : List UInt8} {v : Ver} (h : readVer s = some v) : ∃ b r, s = b :: r ∧ 48 ≤ b.toNat ∧ b.toNat ≤ 57 := by
  obtain ⟨hl, hm, ht⟩ := readVer_sound h
  have hne := Ver.nums_ne hl hm
  cases hn : v.nums with
  | nil => exact absurd hn hne
  | cons x xs =>
    obtain ⟨u, _, hu⟩ := Ver.nums_dec hl hm x (by rw [hn]; simp)
    cases hd : Lib.decDigits u with
    | nil => exact absurd hd (dec_ne u)
    | cons b r =>
      have hb := dec_mem u b (by rw [hd]; simp)
      refine ⟨b, r ++ Lib.joinTail [46] xs ++ tagText v.t, ?_, hb⟩
      rw [← ht, Ver.text, hn, Lib.join_cons, hu, hd]
      simp
theorem opSet_no {b : UInt8} (h : 48 ≤ b.toNat ∧ b.toNat ≤ 57) : opSet.contains b = false := by
  have e : ∀ i : Fin 256, 48 ≤ i.val ∧ i.val ≤ 57 → opSet.contains (UInt8.ofNat i.val) = false := by decide +kernel
  have := e ⟨b.toNat, b.toNat_lt⟩ h
  simpa using this
theorem trim_pre {o r : List UInt8} (ho : ∀ b ∈ o, opSet.contains b = true) (hr : ∃ b r', r = b :: r' ∧ opSet.contains b = false) : Lib.trimLeftS (o ++ r) opSet = r := by
  unfold Lib.trimLeftS
  rw [List.dropWhile_append_of_pos ho]
  obtain ⟨b, r', rfl, hb⟩ := hr
  rw [List.dropWhile_cons, if_neg (by rw [hb]; decide)]
theorem trim_form (s : List UInt8) : ∃ p, s = p ++ Lib.trimLeftS s opSet ∧ ∀ b ∈ p, opSet.contains b = true := by
  refine ⟨s.takeWhile (opSet.contains ·), (List.takeWhile_append_dropWhile).symm, fun b hb => ?_⟩
  have := List.all_takeWhile (l := s) (p := (opSet.contains ·))
  rw [List.all_eq_true] at this
  exact this b hb
theorem allOps_in : ∀ o ∈ allOps, ∀ b ∈ o, opSet.contains b = true := by decide
theorem refOps_mem {s : List UInt8} : ∀ {l : List (List UInt8)} {o : List UInt8} {v : Ver}, refOps s l = some (o, v) → o ∈ l ∧ s.take o.length = o ∧ readVer (s.drop o.length) = some v
  | [], o, v, h => by cases h
  | p :: l, o, v, h => by
    rw [refOps] at h
    split at h
    · rename_i hp
      cases hr : readVer (s.drop p.length) with
      | none => rw [hr] at h; cases h
      | some u =>
        rw [hr] at h
        simp only [Option.map_some, Option.some.injEq, Prod.mk.injEq] at h
        obtain ⟨rfl, rfl⟩ := h
        exact ⟨by simp, hp.2, hr⟩
    · obtain ⟨h1, h2⟩ := refOps_mem h
      exact ⟨List.mem_cons_of_mem _ h1, h2⟩
theorem refOps_digit {o r : List UInt8} {b : UInt8} (ho : o ∈ allOps) (hb : 48 ≤ b.toNat ∧ b.toNat ≤ 57) : refOps (o ++ b :: r) allOps = (readVer (b :: r)).map (o, ·) := by
  have h61 : b ≠ 61 := fun e => by rw [e] at hb; exact absurd hb (by decide)
  simp only [allOps, List.mem_cons, List.not_mem_nil, or_false] at ho
  rcases ho with rfl | rfl | rfl | rfl | rfl | rfl | rfl <;> simp [allOps, refOps, h61]
theorem opCuts_some {op : List UInt8} {v : Ver} : (∃ cs, opCuts op v = some cs) ↔ op ∈ allOps := by
  unfold opCuts allOps
  constructor
  · rintro ⟨cs, h⟩
    repeat' split at h
    all_goals first | (cases h; done) | (rename_i e; subst e; simp)
  · intro h
    simp only [List.mem_cons, List.not_mem_nil, or_false] at h
    rcases h with rfl | rfl | rfl | rfl | rfl | rfl | rfl <;> exact ⟨_, rfl⟩
theorem term_alike (s : List UInt8) : (termP s = none ∧ refTerm s = none) ∨ ∃ cs op v, termP s = some cs ∧ refTerm s = some (op, v) ∧ v.Ok ∧ v.t.length ≤ 12 ∧ IsSet cs 2 ∧ (∀ w : Ver, w.Ok → par cs ⟨1, w⟩ = hasT op v w) ∧ (op = [42] ∨ op ∈ allOps) ∧ (op ≠ [42] → v.may = true) := by
  unfold termP refTerm
  by_cases hs : s = [42]
  · rw [if_pos hs, if_pos hs]
    refine .inr ⟨_, _, _, rfl, rfl, rfl, by decide, ?_, fun w hw => ?_, .inl rfl, fun h => absurd rfl h⟩
    · rw [← all_spl]; exact isSet_spl botC_m topC_m
    · exact par_all (cle_ta w)
  · rw [if_neg hs, if_neg hs]
    obtain ⟨p, hp, hpo⟩ := trim_form s
    obtain ⟨t, ht⟩ : ∃ t, t = Lib.trimLeftS s opSet := ⟨_, rfl⟩
    rw [← ht] at hp ⊢
    have hpt : s.take (s.length - t.length) = p := by rw [hp, List.length_append, Nat.add_sub_cancel, List.take_left']; rfl
    have back : ∀ {o v}, refOps s allOps = some (o, v) → readVer t = some v ∧ o = p := by
      intro o v h
      obtain ⟨h1, h2, h3⟩ := refOps_mem h
      obtain ⟨b, r, e, hb⟩ := readVer_head h3
      have es : s = o ++ s.drop o.length := by
        have := List.take_append_drop o.length s
        rw [h2] at this
        exact this.symm
      have et := trim_pre (allOps_in o h1) ⟨b, r, e, opSet_no hb⟩
      rw [← es, ← ht] at et
      refine ⟨by rw [et]; exact h3, ?_⟩
      have : o ++ t = p ++ t := by rw [← hp, et]; exact es.symm
      exact List.append_cancel_right this
    cases hr : readVer t with
    | none =>
      refine .inl ⟨rfl, ?_⟩
      cases h : refOps s allOps with
      | none => rfl
      | some x =>
        obtain ⟨o, v⟩ := x
        rw [(back h).1] at hr
        cases hr
    | some v =>
      obtain ⟨hl, hm, _⟩ := readVer_sound hr
      simp only [hpt]
      by_cases hpa : p ∈ allOps
      · obtain ⟨cs, hcs⟩ := opCuts_some.2 hpa
        obtain ⟨b, r, e, hb⟩ := readVer_head hr
        have h2 := opCuts_has hl hm hcs
        have ht12 : v.t.length ≤ 12 := by
          have := v.may_t hm
          unfold tagOk at this
          simp only [Bool.and_eq_true, decide_eq_true_eq] at this
          exact this.2
        refine .inr ⟨cs, p, v, hcs, ?_, hl, ht12, h2.1, h2.2, .inr hpa, fun _ => hm⟩
        rw [hp, e, refOps_digit hpa hb, ← e, hr]
        rfl
      · refine .inl ⟨?_, ?_⟩
        · cases h : opCuts p v with
          | none => rfl
          | some cs => exact absurd (opCuts_some.1 ⟨cs, h⟩) hpa
        · cases h : refOps s allOps with
          | none => rfl
          | some x =>
            obtain ⟨o, v⟩ := x
            have h1 := (refOps_mem h).1
            rw [(back h).2] at h1
            exact absurd h1 hpa
/-- is a text a range? -/
def okP (s : List UInt8) : Bool := decide ((splitC 124 s).length ≤ 16) && (splitC 124 s).all fun a => decide ((splitC 44 a).length ≤ 16) && (splitC 44 a).all fun x => (termP x).isSome
def okA (a : List UInt8) : Bool := decide ((splitC 44 a).length ≤ 16) && (splitC 44 a).all fun x => (termP x).isSome
theorem okP_eq (s : List UInt8) : okP s = (decide ((splitC 124 s).length ≤ 16) && (splitC 124 s).all okA) := rfl
def hasX (x : List UInt8) (t : Cut) : Bool := match termP x with
  | some cs => par cs t
  | none => false
def hasA (a : List UInt8) (t : Cut) : Bool := (splitC 44 a).all (hasX · t)
/-- the places that it has -/
def hasP (s : List UInt8) (t : Cut) : Bool := (splitC 124 s).any (hasA · t)
end Go.Proofs.YteeijjhgdplifaaGreatDoor
