/- Sets of versions as cuts, plainly: what And, Or, Not make; when two sets are the same. -/
import Derived.Test.YteeijjhgdplifaaGreatDoorSF
namespace Go.Proofs.YteeijjhgdplifaaGreatDoor

def topC : Cut := ⟨3, Ver.zero⟩
def botC : Cut := ⟨0, Ver.zero⟩
def Cut.M (c : Cut) : Prop := c.Pr ∧ (c.edge = false → c.v.may = true)
/-- Cuts that a set may have. -/
structure IsSet (cs : List Cut) (N : Nat) : Prop where
  m : ∀ c ∈ cs, c.M
  st : Stc cs
  ev : par cs topC = false
  len : cs.length ≤ N
theorem IsSet.prs {cs : List Cut} {N : Nat} (h : IsSet cs N) : Prs cs := fun c hc => (h.m c hc).1
theorem IsSet.oks {cs : List Cut} {N : Nat} (h : IsSet cs N) : Oks cs := fun c hc => (h.m c hc).1.1
theorem IsSet.mono {cs : List Cut} {N M : Nat} (h : IsSet cs N) (hM : N ≤ M) : IsSet cs M := ⟨h.m, h.st, h.ev, Nat.le_trans h.len hM⟩
theorem topC_pr : topC.Pr := ⟨⟨rfl, by decide, by decide⟩, fun _ => rfl⟩
theorem botC_pr : botC.Pr := ⟨⟨rfl, by decide, by decide⟩, fun _ => rfl⟩
theorem topC_m : topC.M := ⟨topC_pr, fun h => by cases h⟩
theorem botC_m : botC.M := ⟨botC_pr, fun h => by cases h⟩
theorem cle_top (c : Cut) : cle c topC = true := by
  rw [cle_iff, Cut.cmp_edge (.inr rfl)]
  have := rank_bd c
  have e : topC.rank = 2 := rfl
  omega
theorem cle_bot (c : Cut) : cle botC c = true := by
  rw [cle_iff, Cut.cmp_edge (.inl rfl)]
  have := rank_bd c
  have e : botC.rank = 0 := rfl
  omega
theorem isSet_none : IsSet [] 0 := ⟨fun c h => (by cases h), List.Pairwise.nil, rfl, Nat.le_refl _⟩
theorem isSet_spl {c d : Cut} (hc : c.M) (hd : d.M) : IsSet (spl c d) 2 := by
  unfold spl
  split
  · exact isSet_none.mono (by decide)
  · rename_i h
    refine ⟨fun x hx => ?_, ?_, ?_, Nat.le_refl _⟩
    · rcases List.mem_cons.1 hx with rfl | hx
      · exact hc
      · rw [List.mem_singleton.1 hx]; exact hd
    · refine List.pairwise_cons.2 ⟨fun x hx => ?_, List.pairwise_singleton _ _⟩
      rw [List.mem_singleton.1 hx]; omega
    · rw [par, cle_top, if_pos rfl, par, cle_top, if_pos rfl]; rfl
theorem par_all {t : Cut} (h : cle topC t = false) : par [botC, topC] t = true := by
  rw [par, cle_bot, if_pos rfl, par, h, if_neg (by decide)]; rfl
theorem all_spl : spl botC topC = [botC, topC] := rfl
/-- What merge makes. -/
structure Merged (g : Bool → Bool → Bool) (s o cs : List Cut) : Prop where
  mem : ∀ c ∈ cs, c ∈ s ∨ c ∈ o
  st : Stc cs
  par : ∀ t, t.Ok → par cs t = g (par s t) (par o t)
  len : cs.length ≤ s.length + o.length
theorem cmpF_len : ∀ (cs : List Cut) (p : Cut), (cmpF p cs).length ≤ cs.length
  | [], _ => Nat.le_refl _
  | c :: cs, p => by
    rw [cmpF]
    split
    · exact Nat.le_succ_of_le (cmpF_len cs p)
    · exact Nat.succ_le_succ (cmpF_len cs c)
theorem cmpc_len (cs : List Cut) : (cmpc cs).length ≤ cs.length := by
  cases cs with
  | nil => exact Nat.le_refl _
  | cons c cs => exact Nat.succ_le_succ (cmpF_len cs c)
theorem merged_of {g : Bool → Bool → Bool} (hg : g false false = false) {s o L : List Cut} (hs : Prs s) (ho : Prs o) (hp : L.Perm (s ++ o)) (hr : L.Pairwise fun c d => c.cmp d ≤ 0) :
    Merged g s o (keepF (fun c => g (par s c) (par o c)) false (cmpc L)) := by
  have hL : Prs L := fun c hc => (List.mem_append.1 (hp.mem_iff.1 hc)).elim (hs c) (ho c)
  have hR : Risc L := hr.imp fun h => (cle_iff _ _).2 h
  have hst := cmpc_strict hL hR
  have hok : Oks (cmpc L) := fun c hc => (hL c ((mem_cmpc L c).1 hc)).1
  refine ⟨fun c hc => ?_, hst.sublist (keepF_sub _ _ _), fun t ht => ?_, ?_⟩
  · exact List.mem_append.1 (hp.mem_iff.1 ((mem_cmpc L c).1 (keepF_mem hc)))
  · exact par_merge hg hok (stc_risc hst) (fun c hc => (mem_cmpc L c).2 (hp.mem_iff.2 (List.mem_append.2 (.inl hc)))) (fun c hc => (mem_cmpc L c).2 (hp.mem_iff.2 (List.mem_append.2 (.inr hc)))) ht
  · have h1 := (keepF_sub (fun c => g (par s c) (par o c)) (cmpc L) false).length_le
    have h2 := cmpc_len L
    have h3 := hp.length_eq
    rw [List.length_append] at h3
    omega
theorem IsSet.merged {g : Bool → Bool → Bool} (hg : g false false = false) {s o cs : List Cut} {N M : Nat} (hs : IsSet s N) (ho : IsSet o M) (h : Merged g s o cs) : IsSet cs (N + M) := by
  refine ⟨fun c hc => (h.mem c hc).elim (hs.m c) (ho.m c), h.st, ?_, ?_⟩
  · rw [h.par _ topC_pr.1, hs.ev, ho.ev, hg]
  · have := h.len; have := hs.len; have := ho.len; omega
/-- Two sets with the same places are the same. -/
theorem same_of {x y : List Cut} {N M : Nat} (hx : IsSet x N) (hy : IsSet y M) (h : ∀ t, t.Ok → cle topC t = false → par x t = par y t) : x = y := by
  refine par_ext hx.prs hy.prs hx.st hy.st fun t ht => ?_
  have hp : t.Pr := ht.elim (hx.prs t) (hy.prs t)
  cases ht : cle topC t with
  | false => exact h t hp.1 ht
  | true =>
    have h1 := (cle_iff _ _).1 ht
    have h2 := (cle_iff _ _).1 (cle_top t)
    have h3 := Cut.cmp_anti topC_pr.1 hp.1
    have e : topC = t := Cut.cmp_zero topC_pr hp (by omega)
    rw [← e, hx.ev, hy.ev]
end Go.Proofs.YteeijjhgdplifaaGreatDoor
