/- journals that no call made -/
import Derived.Test.YtjdobjcbmmdjeaaW1
import Derived.Test.YtjdobjcbmmdjeaaRl
import Derived.WalkSpells
namespace Go.Proofs.Ytjdobjcbmmdjeaa
open Go.RowKit

theorem jnone_nil (w : World) : Calls Try.prog 45 #[.pointer none] w fun e w' => e = .returned (.bool true) ∧ w = w' := by
  go_enter Try.func45, Try.ntmps45
  go_wp2
  go_ret
  exact ⟨rfl, rfl⟩
set_option maxRecDepth 100000 in
theorem jnone_zero (z : Nat) (w : World) (h : w.cell? ⟨z, 3, none⟩ = some (.map none)) : Calls Try.prog 45 #[.pointer (some ⟨z, 0, none⟩)] w fun e w' => e = .returned (.bool true) ∧ w = w' := by
  have q := fun (w : World) => run_eql_map_nil (P := Try.prog) w 60 _ _ none Try.underlying60
  go_enter Try.func45, Try.ntmps45
  go_wp2
  go_ret
  exact ⟨rfl, rfl⟩
/-- a journal that no call made -/
def NoJ (w : World) (P : Value) : Prop := P = .pointer none ∨ ∃ z, P = .pointer (some ⟨z, 0, none⟩) ∧ w.cell? ⟨z, 3, none⟩ = some (.map none) ∧ z < w.heap.size
theorem NoJ.isNone {w : World} {P : Value} (h : NoJ w P) : Calls Try.prog 45 #[P] w fun e w' => e = .returned (.bool true) ∧ w = w' := by
  rcases h with rfl | ⟨z, rfl, hz, _⟩
  · exact jnone_nil w
  · exact jnone_zero z w hz
theorem NoJ.below {w w' : World} {P : Value} (h : NoJ w P) (hb : Below w.heap.size w w') : NoJ w' P := by
  rcases h with h | ⟨z, h, hz, hl⟩
  · exact .inl h
  · exact .inr ⟨z, h, (hb.cell (p := ⟨z, 3, none⟩) hl).trans hz, by have := hb.size; omega⟩

theorem get_none (P : Value) (n : Int) (w : World) (h : NoJ w P) : Calls Try.prog 25 #[P, .int .i64 n] w fun e w' => e = .returned (.tuple #[.slice none 0 0, .int .i64 1]) ∧ w = w' := by
  have H := Lib.hid h.isNone; clear h
  go_enter Try.func25, Try.ntmps25
  go_wp2_with fail
  refine (H.out).mono ?_; rintro e w' ⟨rfl, rfl⟩
  go_wp2_with fail
  go_ret2
  exact ⟨rfl, rfl⟩

theorem put_none (P : Value) (n : Int) (v : Value) (w : World) (h : NoJ w P) : Calls Try.prog 26 #[P, .int .i64 n, v] w fun e w' => e = .returned (.int .i64 1) ∧ w = w' := by
  have H := Lib.hid h.isNone; clear h
  go_enter Try.func26, Try.ntmps26
  go_wp2_with fail
  refine (H.out).mono ?_; rintro e w' ⟨rfl, rfl⟩
  go_wp2_with fail
  go_ret
  exact ⟨rfl, rfl⟩

theorem commit_none (P : Value) (w : World) (h : NoJ w P) : Calls Try.prog 28 #[P] w fun e w' => e = .returned (.int .i64 1) ∧ w = w' := by
  have H := Lib.hid h.isNone; clear h
  go_enter Try.func28, Try.ntmps28
  go_wp2_with fail
  refine (H.out).mono ?_; rintro e w' ⟨rfl, rfl⟩
  go_wp2_with fail
  go_ret
  exact ⟨rfl, rfl⟩

theorem abort_none (P : Value) (w : World) (h : NoJ w P) : Calls Try.prog 29 #[P] w fun e w' => e = .returned (.int .i64 1) ∧ w = w' := by
  have H := Lib.hid h.isNone; clear h
  go_enter Try.func29, Try.ntmps29
  go_wp2_with fail
  refine (H.out).mono ?_; rintro e w' ⟨rfl, rfl⟩
  go_wp2_with fail
  go_ret
  exact ⟨rfl, rfl⟩

theorem pending_none (P : Value) (w : World) (h : NoJ w P) : Calls Try.prog 30 #[P] w fun e w' => e = .returned (.slice none 0 0) ∧ w = w' := by
  have H := Lib.hid h.isNone; clear h
  go_enter Try.func30, Try.ntmps30
  go_wp2_with fail
  refine (H.out).mono ?_; rintro e w' ⟨rfl, rfl⟩
  go_wp2_with fail
  go_ret
  exact ⟨rfl, rfl⟩

theorem most_none (P : Value) (w : World) (h : NoJ w P) : Calls Try.prog 31 #[P] w fun e w' => e = .returned (.int .i64 0) ∧ w = w' := by
  have H := Lib.hid h.isNone; clear h
  go_enter Try.func31, Try.ntmps31
  go_wp2_with fail
  refine (H.out).mono ?_; rintro e w' ⟨rfl, rfl⟩
  go_wp2_with fail
  go_ret
  exact ⟨rfl, rfl⟩

theorem open_none (P : Value) (a b : Int) (w : World) (h : Calls Try.prog 13 #[P] w fun e w' => e = .returned (.int .i64 0) ∧ w = w') : Calls Try.prog 32 #[P, .int .i64 a, .int .i64 b] w fun e w' => e = .returned (.tuple #[.pointer none, .int .i64 1]) ∧ w = w' := by
  have H := Lib.hid h; clear h
  go_enter Try.func32, Try.ntmps32
  go_wp2_with fail
  refine (H.out).mono ?_; rintro e w' ⟨rfl, rfl⟩
  go_wp2_with fail
  go_ret2
  exact ⟨rfl, rfl⟩
end Go.Proofs.Ytjdobjcbmmdjeaa
