/- Contracts of cmp.Compare, cmp.Or, slices.Compare, version.within, stillroomref13.sign, digits and tag. -/
import Derived.Test.YteeijjhgdplifaaGreatDoorWd
import Derived.Test.YteeijjhgdplifaaGreatDoorRh
import Derived.Test.YteeijjhgdplifaaGreatDoorVc
import Derived.Test.YteeijjhgdplifaaGreatDoorSh
namespace Go.Proofs.YteeijjhgdplifaaGreatDoor
open Go.RowKit

/-- a text as Go holds it -/
abbrev bl (t : List UInt8) : ByteArray := ⟨t.toArray⟩
theorem bl_data (t : List UInt8) : (bl t).data.toList = t := by simp
theorem bl_toList (t : List UInt8) : (bl t).toList = t := by rw [Lib.toList_data]
theorem bl_size (t : List UInt8) : (bl t).size = t.length := by rw [Lib.size_eq]
theorem bl_eta (s : ByteArray) : s = bl s.data.toList := by cases s; simp
theorem bytesLess_eq : ∀ a b : List UInt8, Op.bytesLess a b = decide (Lib.compareBytes a b < 0)
  | [], [] => rfl
  | [], _ :: _ => rfl
  | _ :: _, [] => rfl
  | a :: x, b :: y => by
    have ih := bytesLess_eq x y
    simp only [Op.bytesLess, Lib.compareBytes, u8_lt]
    by_cases h1 : a.toNat < b.toNat
    · rw [if_pos h1]; simp [h1]
    · by_cases h2 : b.toNat < a.toNat
      · rw [if_neg h1, if_pos h2]
        have hne : (a == b) = false := by rw [beq_eq_false_iff_ne]; intro e; rw [e] at h2; omega
        simp [h1, hne]
      · rw [if_neg h1, if_neg h2, ih]
        have e : a = b := UInt8.toNat_inj.1 (by omega)
        simp [e]
theorem str_lss (s t : ByteArray) : Op.bytesLess s.toList t.toList = decide (Lib.compareBytes s.data.toList t.data.toList < 0) := by rw [bytesLess_eq, Lib.toList_data, Lib.toList_data]
theorem str_eql (s t : ByteArray) : (s.toList == t.toList) = decide (Lib.compareBytes s.data.toList t.data.toList = 0) := by
  rw [Lib.toList_data, Lib.toList_data, Bool.eq_iff_iff, beq_iff_eq, decide_eq_true_eq, compareBytes_eq]

theorem cmpStr_ok (s t : ByteArray) (w : World) : Calls Tryz.prog 75 #[.string s, .string t] w fun e w' => e = .returned (.int .i64 (Lib.compareBytes s.data.toList t.data.toList)) ∧ w = w' := by
  have e1 : (s.toList == s.toList) = true := beq_self_eq_true _
  have e2 : (t.toList == t.toList) = true := beq_self_eq_true _
  have h1 := str_lss s t
  have h2 := str_eql s t
  obtain ⟨c, hc⟩ : ∃ c, c = Lib.compareBytes s.data.toList t.data.toList := ⟨_, rfl⟩
  have hone := compareBytes_one s.data.toList t.data.toList
  rw [← hc] at h1 h2 hone ⊢
  clear hc
  rcases hone with rfl | rfl | rfl
  · have h1' : Op.bytesLess s.toList t.toList = true := h1
    have h2' : (s.toList == t.toList) = false := h2
    clear h1 h2
    go_enter Tryz.func75, Tryz.ntmps75
    go_wp2
    all_goals (go_ret; exact ⟨rfl, rfl⟩)
  · have h1' : Op.bytesLess s.toList t.toList = false := h1
    have h2' : (s.toList == t.toList) = true := h2
    clear h1 h2
    go_enter Tryz.func75, Tryz.ntmps75
    go_wp2
    all_goals (go_ret; exact ⟨rfl, rfl⟩)
  · have h1' : Op.bytesLess s.toList t.toList = false := h1
    have h2' : (s.toList == t.toList) = false := h2
    clear h1 h2
    go_enter Tryz.func75, Tryz.ntmps75
    go_wp2
    all_goals (go_ret; exact ⟨rfl, rfl⟩)
theorem cmpInt_ok (x y : Int) (w : World) : Calls Tryz.prog 78 #[.int .i64 x, .int .i64 y] w fun e w' => e = .returned (.int .i64 (cmpI x y)) ∧ w = w' := by
  by_cases h1 : x < y
  · have e : cmpI x y = -1 := by unfold cmpI; rw [if_pos h1]
    rw [e]
    have n1 : (x != x) = false := bne_self_eq_false _
    have n2 : (y != y) = false := bne_self_eq_false _
    clear e
    go_enter Tryz.func78, Tryz.ntmps78
    go_wp2
    all_goals (go_ret; exact ⟨rfl, rfl⟩)
  · by_cases h2 : y < x
    · have e : cmpI x y = 1 := by unfold cmpI; rw [if_neg h1, if_pos h2]
      rw [e]
      have n1 : (x != x) = false := bne_self_eq_false _
      have n2 : (y != y) = false := bne_self_eq_false _
      clear e
      go_enter Tryz.func78, Tryz.ntmps78
      go_wp2
      all_goals (go_ret; exact ⟨rfl, rfl⟩)
    · have e : cmpI x y = 0 := by unfold cmpI; rw [if_neg h1, if_neg h2]
      rw [e]
      have n1 : (x != x) = false := bne_self_eq_false _
      have n2 : (y != y) = false := bne_self_eq_false _
      clear e
      go_enter Tryz.func78, Tryz.ntmps78
      go_wp2
      all_goals (go_ret; exact ⟨rfl, rfl⟩)
theorem within_ok (x a b : Int) (w : World) : Calls Tryz.prog 54 #[.int .i64 x, .int .i64 a, .int .i64 b] w fun e w' => e = .returned (.bool (decide (a ≤ x ∧ x ≤ b))) ∧ w = w' := by
  by_cases h1 : a ≤ x
  · by_cases h2 : x ≤ b
    · rw [show decide (a ≤ x ∧ x ≤ b) = true from by simp [h1, h2]]
      go_enter Tryz.func54, Tryz.ntmps54
      go_wp2
      all_goals (go_ret; exact ⟨rfl, rfl⟩)
    · rw [show decide (a ≤ x ∧ x ≤ b) = false from by simp [h2]]
      go_enter Tryz.func54, Tryz.ntmps54
      go_wp2
      all_goals (go_ret; exact ⟨rfl, rfl⟩)
  · rw [show decide (a ≤ x ∧ x ≤ b) = false from by simp [h1]]
    go_enter Tryz.func54, Tryz.ntmps54
    go_wp2
    all_goals (go_ret; exact ⟨rfl, rfl⟩)
theorem sign_ok (a b : Bool) (w : World) : Calls Tryz.prog 79 #[.bool a, .bool b] w fun e w' => e = .returned (.int .i64 (if a then -1 else if b then 1 else 0)) ∧ w = w' := by
  cases a <;> cases b
  all_goals
    go_enter Tryz.func79, Tryz.ntmps79
    go_wp2
    all_goals (go_ret; exact ⟨rfl, rfl⟩)
end Go.Proofs.YteeijjhgdplifaaGreatDoor
