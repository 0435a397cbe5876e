import Derived.Test.YtjdobjcbmmdjeaaB2
namespace Go.Proofs.Ytjdobjcbmmdjeaa
open Go.RowKit

/-- Disk.Read, out of the disk -/
theorem read_bad (P : Value) (n e0 : Int) (w : World) (h : Calls Try.prog 40 #[P, .int .i64 n] w fun e w' => e = .returned (.tuple #[.slice none 0 0, .int .i64 e0]) ∧ w = w') :
    Calls Try.prog 11 #[P, .int .i64 n] w fun e w' => e = .returned (.tuple #[.slice none 0 0, .int .i64 e0]) ∧ Below w.heap.size w w' := by
  have H := Lib.hid h; clear h
  go_enter Try.func11, Try.ntmps11
  go_wp2_with fail
  refine (H.out).mono ?_; rintro e w' ⟨rfl, rfl⟩
  go_wp2_with fail
  refine (clone_any none 0 0 [] (fun _ => True) _ (Sl.nil_ _ _ _) (by omega)).mono ?_
  rintro e w' ⟨A', c', rfl, ho, hb, _, hn⟩
  obtain ⟨rfl, rfl⟩ := hn rfl
  go_wp2_with fail
  go_ret2
  exact ⟨rfl, hb⟩

/-- Disk.Write refused: there is no such sector -/
theorem write_bad (P : Value) (n e0 : Int) (b : Value) (w : World) (h : Calls Try.prog 40 #[P, .int .i64 n] w fun e w' => e = .returned (.tuple #[.slice none 0 0, .int .i64 e0]) ∧ w = w') (he : e0 ≠ 0) :
    Calls Try.prog 14 #[P, .int .i64 n, b] w fun e w' => e = .returned (.int .i64 e0) ∧ w = w' := by
  have H := Lib.hid h; clear h
  have he : (!(e0 == 0)) = true := by simpa using he
  go_enter Try.func14, Try.ntmps14
  go_wp2_with fail
  refine (H.out).mono ?_; rintro e w' ⟨rfl, rfl⟩
  go_wp2_with fail
  go_ret
  exact ⟨rfl, rfl⟩

/-- Disk.Write refused: not a sector's bytes -/
theorem write_odd (P v : Value) (n : Int) (A : Option Addr) (m c : Nat) (w : World) (h : Calls Try.prog 40 #[P, .int .i64 n] w fun e w' => e = .returned (.tuple #[v, .int .i64 0]) ∧ w = w') (hm : m ≠ 256) :
    Calls Try.prog 14 #[P, .int .i64 n, .slice A m c] w fun e w' => e = .returned (.int .i64 2) ∧ w = w' := by
  have H := Lib.hid h; clear h
  have he : (!((m : Int) == 256)) = true := by simp; omega
  go_enter Try.func14, Try.ntmps14
  go_wp2_with fail
  refine (H.out).mono ?_; rintro e w' ⟨rfl, rfl⟩
  go_wp2_with fail
  go_ret
  exact ⟨rfl, rfl⟩

/-- Disk.Flush of none -/
theorem flush_none (P : Value) (w : World) (h : Calls Try.prog 13 #[P] w fun e w' => e = .returned (.int .i64 0) ∧ w = w') :
    Calls Try.prog 16 #[P] w fun e w' => e = .returned (.int .i64 1) ∧ w = w' := by
  have H := Lib.hid h; clear h
  go_enter Try.func16, Try.ntmps16
  go_wp2_with fail
  refine (H.out).mono ?_; rintro e w' ⟨rfl, rfl⟩
  go_wp2_with fail
  go_ret
  exact ⟨rfl, rfl⟩

/-- Disk.Events -/
theorem events_nil (w : World) : Calls Try.prog 17 #[.pointer none] w fun e w' => e = .returned (.int .i64 0) ∧ w = w' := by
  go_enter Try.func17, Try.ntmps17
  go_wp2
  go_ret
  exact ⟨rfl, rfl⟩
theorem events_any (d : Nat) (A : Option Addr) (n c : Nat) (w : World) (h : w.cell? ⟨d, 2, none⟩ = some (.slice A n c)) :
    Calls Try.prog 17 #[.pointer (some ⟨d, 0, none⟩)] w fun e w' => e = .returned (.int .i64 n) ∧ w = w' := by
  go_enter Try.func17, Try.ntmps17
  go_wp2
  go_ret
  exact ⟨rfl, rfl⟩

/-- Disk.After of none -/
theorem after_none (P : Value) (n : Int) (K : Value) (w : World) (h : Calls Try.prog 13 #[P] w fun e w' => e = .returned (.int .i64 0) ∧ w = w') :
    Calls Try.prog 12 #[P, .int .i64 n, K] w fun e w' => e = .returned (.tuple #[.pointer none, .int .i64 1]) ∧ w = w' := by
  have H := Lib.hid h; clear h
  set_option maxRecDepth 100000 in
  go_enter Try.func12, Try.ntmps12
  set_option maxRecDepth 100000 in
  go_wp2_with fail
  refine (H.out).mono ?_; rintro e w' ⟨rfl, rfl⟩
  set_option maxRecDepth 100000 in
  go_wp2_with fail
  go_ret2
  exact ⟨rfl, rfl⟩
end Go.Proofs.Ytjdobjcbmmdjeaa
