/- Spans: what slices.Compact leaves, by the shelf's words. -/
import Derived.Test.YteeijjhgdplifaaGreatDoorSG
import Derived.Lib.SlicesCompact
namespace Go.Proofs.YteeijjhgdplifaaGreatDoor
open Go.RowKit

instance : Inhabited Cut := ⟨⟨0, ⟨[0, 0, 0, 0], 0, []⟩⟩⟩
theorem cmpF_last : ∀ (l : List Cut) (p x : Cut), cmpF p (l ++ [x]) = cmpF p l ++ (if x = (p :: l).getLast (by simp) then [] else [x])
  | [], p, x => by
    rw [List.nil_append, cmpF, cmpF]
    simp only [List.getLast_singleton, List.nil_append]
    rfl
  | c :: l, p, x => by
    rw [List.cons_append, cmpF, cmpF]
    by_cases hc : c = p
    · subst hc
      rw [if_pos rfl, if_pos rfl, cmpF_last l c x]
      congr 2
    · rw [if_neg hc, if_neg hc, cmpF_last l c x]
      rfl
theorem upTo_cmpc (zs : List Cut) : ∀ m, m ≤ zs.length → Lib.compactUpTo zs.toArray m = cmpc (zs.take m)
  | 0, _ => by simp [Lib.compactUpTo, cmpc]
  | m + 1, h => by
    have hm : m < zs.length := by omega
    have hx : zs.toArray[m]! = zs[m] := by simp [hm]
    rw [Lib.compactUpTo_succ, upTo_cmpc zs m (by omega), hx, List.take_succ_eq_append_getElem hm]
    cases m with
    | zero =>
      rw [Lib.keeps_lt_one _ 0 (by omega)]
      simp [cmpc, cmpF]
    | succ m =>
      have hy : zs.toArray[m]! = zs[m] := by simp [show m < zs.length by omega]
      obtain ⟨c, l, hl⟩ : ∃ c l, zs.take (m + 1) = c :: l := by
        cases h0 : zs.take (m + 1) with
        | nil => have := congrArg List.length h0; rw [List.length_take, List.length_nil] at this; omega
        | cons c l => exact ⟨c, l, rfl⟩
      have hlast : (c :: l).getLast (by simp) = zs[m] := by
        have h1 : zs.take (m + 1) = zs.take m ++ [zs[m]] := List.take_succ_eq_append_getElem (by omega)
        simp only [← hl, h1, List.getLast_append, List.getLast_singleton]
        simp
      rw [hl, List.cons_append, cmpc, cmpc, cmpF_last, hlast]
      congr 2
      unfold Lib.keeps
      rw [hx, show m + 1 - 1 = m by omega, hy]
      by_cases e : zs[m + 1] = zs[m]
      · simp [e]
      · simp [e]
end Go.Proofs.YteeijjhgdplifaaGreatDoor
