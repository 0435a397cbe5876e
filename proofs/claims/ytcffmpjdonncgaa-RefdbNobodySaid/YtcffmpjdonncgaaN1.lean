import Derived.Test.YtcffmpjdonncgaaProg
import Derived.Test.YtcffmpjdonncgaaRl
import Derived.WalkSpells
namespace Go.Proofs.Ytcffmpjdonncgaa
open Go.RowKit

theorem none_nil (w : World) : Calls Try.prog 28 #[.pointer none] w fun e w' => e = .returned (.bool true) ∧ w = w' := by
  go_enter Try.func28, Try.ntmps28
  go_wp2
  go_ret
  exact ⟨rfl, rfl⟩
set_option maxRecDepth 100000 in
theorem none_zero (z : Nat) (w : World) (h : w.cell? ⟨z, 0, none⟩ = some (.map none)) : Calls Try.prog 28 #[.pointer (some ⟨z, 0, none⟩)] w fun e w' => e = .returned (.bool true) ∧ w = w' := by
  have q := fun (w : World) => run_eql_map_nil (P := Try.prog) w 39 _ _ none Try.underlying39
  go_enter Try.func28, Try.ntmps28
  go_wp2
  go_ret
  exact ⟨rfl, rfl⟩
/-- a graph that no call made -/
def NoG (w : World) (P : Value) : Prop := P = .pointer none ∨ ∃ z, P = .pointer (some ⟨z, 0, none⟩) ∧ w.cell? ⟨z, 0, none⟩ = some (.map none) ∧ z < w.heap.size
theorem NoG.isNone {w : World} {P : Value} (h : NoG w P) : Calls Try.prog 28 #[P] w fun e w' => e = .returned (.bool true) ∧ w = w' := by
  rcases h with rfl | ⟨z, rfl, hz, _⟩
  · exact none_nil w
  · exact none_zero z w hz
theorem NoG.below {w w' : World} {P : Value} (h : NoG w P) (hb : Below w.heap.size w w') : NoG w' P := by
  rcases h with h | ⟨z, h, hz, hl⟩
  · exact .inl h
  · exact .inr ⟨z, h, (hb.cell (p := ⟨z, 0, none⟩) hl).trans hz, by have := hb.size; omega⟩

theorem known_none (P : Value) (v : Value) (w : World) (h : NoG w P) : Calls Try.prog 30 #[P, v] w fun e w' => e = .returned (.int .i64 1) ∧ w = w' := by
  have H := Lib.hid (h.isNone); clear h
  go_enter Try.func30, Try.ntmps30
  go_wp2_with fail
  refine (H.out).mono ?_; rintro e w' ⟨rfl, rfl⟩
  go_wp2_with fail
  go_ret
  exact ⟨rfl, rfl⟩

theorem closure_none (P : Value) (v : Value) (w : World) (h : NoG w P) : Calls Try.prog 13 #[P, v] w fun e w' => e = .returned (.tuple #[.slice none 0 0, .int .i64 1]) ∧ w = w' := by
  have H := Lib.hid (known_none P v w h); clear h
  go_enter Try.func13, Try.ntmps13
  go_wp2_with fail
  refine (H.out).mono ?_; rintro e w' ⟨rfl, rfl⟩
  go_wp2_with fail
  go_ret2
  exact ⟨rfl, rfl⟩

theorem dead_none (P : Value) (v : Value) (w : World) (h : NoG w P) : Calls Try.prog 11 #[P, v] w fun e w' => e = .returned (.slice none 0 0) ∧ w = w' := by
  have H := Lib.hid (h.isNone); clear h
  go_enter Try.func11, Try.ntmps11
  go_wp2_with fail
  refine (H.out).mono ?_; rintro e w' ⟨rfl, rfl⟩
  go_wp2_with fail
  go_ret
  exact ⟨rfl, rfl⟩

theorem order_none (P : Value) (w : World) (h : NoG w P) : Calls Try.prog 15 #[P] w fun e w' => e = .returned (.tuple #[.slice none 0 0, .int .i64 1]) ∧ w = w' := by
  have H := Lib.hid (h.isNone); clear h
  go_enter Try.func15, Try.ntmps15
  go_wp2_with fail
  refine (H.out).mono ?_; rintro e w' ⟨rfl, rfl⟩
  go_wp2_with fail
  go_ret2
  exact ⟨rfl, rfl⟩

theorem derived_none (P : Value) (v : Value) (w : World) (h : NoG w P) : Calls Try.prog 17 #[P, v] w fun e w' => e = .returned (.slice none 0 0) ∧ w = w' := by
  have H := Lib.hid (h.isNone); clear h
  go_enter Try.func17, Try.ntmps17
  go_wp2_with fail
  refine (H.out).mono ?_; rintro e w' ⟨rfl, rfl⟩
  go_wp2_with fail
  go_ret
  exact ⟨rfl, rfl⟩

theorem refers_none (P : Value) (v u : Value) (w : World) (h : NoG w P) : Calls Try.prog 18 #[P, v, u] w fun e w' => e = .returned (.bool false) ∧ w = w' := by
  have H := Lib.hid (h.isNone); clear h
  go_enter Try.func18, Try.ntmps18
  go_wp2_with fail
  refine (H.out).mono ?_; rintro e w' ⟨rfl, rfl⟩
  go_wp2_with fail
  go_ret
  exact ⟨rfl, rfl⟩

theorem referrers_none (P : Value) (v : ByteArray) (w : World) (h : NoG w P) : Calls Try.prog 16 #[P, .string v] w fun e w' => e = .returned (.tuple #[.slice none 0 0, .int .i64 1]) ∧ Below w.heap.size w w' := by
  have H := fun u o => Lib.hid (known_none P u _ (h.below ((Below.refl w.heap.size w).alloc (Nat.le_refl _) o))); clear h
  go_enter Try.func16, Try.ntmps16
  go_wp2_with fail
  refine ((H _ _).out).mono ?_; rintro e w' ⟨rfl, rfl⟩
  go_wp2_with fail
  go_ret2
  exact ⟨rfl, (Below.refl _ _).alloc (Nat.le_refl _) _⟩
end Go.Proofs.Ytcffmpjdonncgaa
