/- Spans: the three closures that And, Or, Not hand on; what slices.Compact leaves, plainly. -/
import Derived.Test.YteeijjhgdplifaaGreatDoorSA
namespace Go.Proofs.YteeijjhgdplifaaGreatDoor
open Go.RowKit

set_option maxRecDepth 100000 in
theorem fnAnd_ok (a b : Bool) (w : World) : Calls Tryz.prog 28 #[.bool a, .bool b] w fun e w' => e = .returned (.bool (a && b)) ∧ w = w' := by
  cases a <;> cases b
  all_goals
    go_enter Tryz.func28, Tryz.ntmps28
    go_wp2_with fail
    go_ret
    exact ⟨rfl, rfl⟩
set_option maxRecDepth 100000 in
theorem fnOr_ok (a b : Bool) (w : World) : Calls Tryz.prog 29 #[.bool a, .bool b] w fun e w' => e = .returned (.bool (a || b)) ∧ w = w' := by
  cases a <;> cases b
  all_goals
    go_enter Tryz.func29, Tryz.ntmps29
    go_wp2_with fail
    go_ret
    exact ⟨rfl, rfl⟩
set_option maxRecDepth 100000 in
theorem fnNot_ok (a b : Bool) (w : World) : Calls Tryz.prog 25 #[.bool a, .bool b] w fun e w' => e = .returned (.bool (a && !b)) ∧ w = w' := by
  cases a <;> cases b
  all_goals
    go_enter Tryz.func25, Tryz.ntmps25
    go_wp2_with fail
    go_ret
    exact ⟨rfl, rfl⟩
/-- a list without neighbours that are alike: what comes behind p -/
def cmpF : Cut → List Cut → List Cut
  | _, [] => []
  | p, c :: cs => if c = p then cmpF p cs else c :: cmpF c cs
def cmpc : List Cut → List Cut
  | [] => []
  | c :: cs => c :: cmpF c cs
theorem cmpF_mem : ∀ {cs : List Cut} {p x : Cut}, x ∈ cmpF p cs → x ∈ cs
  | [], _, _, h => by cases h
  | c :: cs, p, x, h => by
    rw [cmpF] at h
    split at h
    · exact List.mem_cons_of_mem _ (cmpF_mem h)
    · rcases List.mem_cons.1 h with rfl | h
      · simp
      · exact List.mem_cons_of_mem _ (cmpF_mem h)
theorem mem_cmpF : ∀ {cs : List Cut} {p x : Cut}, x ∈ cs → x = p ∨ x ∈ cmpF p cs
  | [], _, _, h => by cases h
  | c :: cs, p, x, h => by
    rw [cmpF]
    by_cases hc : c = p
    · rw [if_pos hc]
      rcases List.mem_cons.1 h with rfl | h
      · exact .inl hc
      · exact mem_cmpF h
    · rw [if_neg hc]
      rcases List.mem_cons.1 h with rfl | h
      · exact .inr (by simp)
      · rcases mem_cmpF (p := c) h with h | h
        · exact .inr (by simp [h])
        · exact .inr (List.mem_cons_of_mem _ h)
theorem mem_cmpc (cs : List Cut) (x : Cut) : x ∈ cmpc cs ↔ x ∈ cs := by
  cases cs with
  | nil => exact Iff.rfl
  | cons c cs =>
    rw [cmpc, List.mem_cons, List.mem_cons]
    constructor
    · rintro (h | h)
      · exact .inl h
      · exact .inr (cmpF_mem h)
    · rintro (h | h)
      · exact .inl h
      · exact mem_cmpF h
/-- Rising proper cuts, each once, rise strictly. -/
theorem cmpF_strict : ∀ {cs : List Cut} {p : Cut}, p.Pr → Prs cs → Risc (p :: cs) → Stc (p :: cmpF p cs)
  | [], p, _, _, _ => List.pairwise_singleton _ _
  | c :: cs, p, hp, hk, hr => by
    have hr1 := List.pairwise_cons.1 hr
    have hr2 := List.pairwise_cons.1 hr1.2
    have hkc := hk c (by simp)
    have hkcs : Prs cs := fun x hx => hk x (List.mem_cons_of_mem _ hx)
    rw [cmpF]
    by_cases hc : c = p
    · rw [if_pos hc]
      exact cmpF_strict hp hkcs (List.pairwise_cons.2 ⟨fun x hx => hr1.1 x (List.mem_cons_of_mem _ hx), hr2.2⟩)
    · rw [if_neg hc]
      have ih := cmpF_strict hkc hkcs hr1.2
      have hpc : p.cmp c < 0 := by
        have h1 := (cle_iff _ _).1 (hr1.1 c (by simp))
        rcases Int.lt_or_eq_of_le h1 with h | h
        · exact h
        · exact absurd (Cut.cmp_zero hp hkc h).symm hc
      refine List.pairwise_cons.2 ⟨fun x hx => ?_, ih⟩
      rcases List.mem_cons.1 hx with rfl | hx
      · exact hpc
      · have hxc := (List.pairwise_cons.1 ih).1 x hx
        have hxk := hkcs x (cmpF_mem hx)
        have a1 := Cut.cmp_anti hp.1 hxk.1
        have a2 := Cut.cmp_anti hp.1 hkc.1
        have t1 := Cut.cmp_tr hp.1 hkc.1 hxk.1 (by omega) (by omega)
        rcases Int.lt_or_eq_of_le t1 with h | h
        · exact h
        · have t2 := Cut.cmp_tr hkc.1 hxk.1 hp.1 (by omega) (by omega)
          omega
theorem cmpc_strict {cs : List Cut} (hk : Prs cs) (hr : Risc cs) : Stc (cmpc cs) := by
  cases cs with
  | nil => exact List.Pairwise.nil
  | cons c cs => exact cmpF_strict (hk c (by simp)) (fun x hx => hk x (List.mem_cons_of_mem _ hx)) hr
theorem stc_risc {cs : List Cut} (h : Stc cs) : Risc cs := h.imp fun {a b} hab => (cle_iff a b).2 (by omega)
end Go.Proofs.YteeijjhgdplifaaGreatDoor
