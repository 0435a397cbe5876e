/- RefdbX: what the laws look with: has. -/
import Derived.Test.YtcffmpjdonncgaaG4
namespace Go.Proofs.Ytcffmpjdonncgaa
open Go.RowKit Go.Proofs.YtcffmpjdonncgaaW.PrintWords

open Classical in
noncomputable def inB (l : List ByteArray) (p : ByteArray) : Bool := decide (p ∈ l)
theorem inB_iff {l : List ByteArray} {p : ByteArray} : inB l p = true ↔ p ∈ l := by classical simp [inB]
theorem inB_no {l : List ByteArray} {p : ByteArray} (h : p ∉ l) : inB l p = false := by
  cases e : inB l p with
  | false => rfl
  | true => exact (h (inB_iff.1 e)).elim
theorem str_eq {a b : ByteArray} : a.toList = b.toList ↔ a = b := by
  rw [ByteArray.toList_eq, ByteArray.toList_eq]
  exact ⟨ba_ext, fun h => by rw [h]⟩
theorem lhas_ok (w : World) (F : Nat → Prop) (A : Option Addr) (n c : Nat) (l : List ByteArray) (p : ByteArray) (h : Sl w F 1 (.slice A n c) n (strs l)) (hn : n ≤ 1000000000) :
    Calls Try.prog 12 #[.slice A n c, .string p] w fun e w' => e = .returned (.bool (inB l p)) ∧ w = w' := by
  have hpl : l.length = n := by have := h.1; rw [strs_length, Nat.mul_one] at this; exact this
  have HP := Lib.hid h
  have HPL := Lib.hid hpl
  clear h hpl
  go_enter Try.func12, Try.ntmps12
  go_wp2_with fail
  go_loopg [5] n (fun kq iv wr => ∃ (i : Nat), iv = .int .i64 i ∧ i ≤ n ∧ kq = n - i ∧ wr = w ∧ Hid (p ∉ l.take i))
  case atStart => exact ⟨0, rfl, Nat.zero_le _, rfl, rfl, Lib.hid (by simp)⟩
  case round =>
    obtain ⟨i, rfl, hi, rfl, rfl, hall⟩ := hrel
    by_cases hlt : i < n
    · obtain ⟨_, A', c', hv, _, hcc⟩ := HP.out
      obtain ⟨ad, hA, _, hcell⟩ := hcc (by omega)
      simp only [Value.slice.injEq] at hv
      obtain ⟨p0, hp0⟩ : ∃ p0, l[i]? = some p0 := ⟨_, List.getElem?_eq_getElem (by rw [HPL.out]; exact hlt)⟩
      have h0 := hcell 0 _ (strs_get (List.getElem?_eq_getElem (show 0 < l.length by rw [HPL.out]; omega)))
      have hsp := spot_none h0
      obtain rfl : A = some ⟨ad.block, ad.off, none⟩ := by rw [hv.1, hA, ← hsp]
      have hc0 := hcell i _ (strs_get hp0)
      rw [hsp, add_lit0] at hc0
      have HP0 := Lib.hid hp0
      clear hcc hcell hA hv h0 hsp hp0
      by_cases he : p0 = p
      · subst he
        have HE : Hid (inB l p0 = true) := Lib.hid (inB_iff.2 (List.mem_of_getElem? HP0.out))
        go_wp2_with fail
        go_ret
        exact ⟨by rw [HE.out]; rfl, rfl⟩
      · have hne : (p0.toList == p.toList) = false := by
          cases e : (p0.toList == p.toList) with
          | false => rfl
          | true => exact (he (str_eq.1 (eq_of_beq e))).elim
        have HN : Hid (p ∉ l.take (i + 1)) := by
          obtain ⟨hil, hxe⟩ := List.getElem?_eq_some_iff.1 HP0.out
          rw [List.take_succ_eq_append_getElem hil, hxe]
          refine Lib.hid fun hp => ?_
          rcases List.mem_append.1 hp with hp | hp
          · exact hall.out hp
          · rw [List.mem_singleton] at hp; exact he hp.symm
        clear he
        go_wp2_with fail
        go_roundg (n - (i + 1))
        case measure => omega
        case rel => exact ⟨i + 1, by go_num, by omega, rfl, rfl, HN⟩
    · obtain rfl : i = n := by omega
      have HE : Hid (inB l p = false) := by
        have := hall.out
        rw [List.take_of_length_le (by rw [HPL.out]; exact Nat.le_refl _)] at this
        exact Lib.hid (inB_no this)
      clear hall
      go_wp2_with fail
      go_ret
      exact ⟨by rw [HE.out]; rfl, rfl⟩
end Go.Proofs.Ytcffmpjdonncgaa
