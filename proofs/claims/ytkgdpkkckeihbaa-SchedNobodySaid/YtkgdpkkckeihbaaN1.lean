import Derived.Test.YtkgdpkkckeihbaaRl
import Derived.Test.YtkgdpkkckeihbaaProg
import Derived.Laws.ResultCell
import Derived.Laws.Rows
namespace Go.Proofs.Ytkgdpkkckeihbaa
open Go.RowKit

/-- results in a cell of a struct, and in a slot -/
theorem results_cell_tmp_row {P : Program} {fn : Func} {p u : Tmp} {ty : TypeId} (h : fn.results = #[.cell p ty, .tmp u]) (tmps : Array Value) (w : World) (g : Nat) (t : TypeId) (cs : Array Value) (fr : Nat × Nat) (d : TypeDesc)
    (hp : tmps.getD p undef = .pointer (some ⟨g, 0, none⟩)) (hg : w.heap[g]? = some (.cells cs t fr))
    (hu : P.underlying ty = some d) (hd : (match d with | .struct _ | .array _ _ => true | _ => false) = true) (hi : (P.info? ty).map (·.size) = some cs.size) :
    (results fn tmps).run P w = .ok (.tuple #[.agg cs, tmps.getD u undef]) w := by
  rw [results_cell_tmp h, hp]
  simp [asAddr, run_loadVar_row w g t ty cs fr d hg hu hd hi]

theorem none_nil (w : World) : Calls Try.prog 20 #[.pointer none] w fun e w' => e = .returned (.bool true) ∧ w = w' := by
  go_enter Try.func20, Try.ntmps20
  go_wp2
  go_ret
  exact ⟨rfl, rfl⟩
set_option maxRecDepth 100000 in
theorem none_zero (z : Nat) (w : World) (h : w.cell? ⟨z, 0, none⟩ = some (.map none)) : Calls Try.prog 20 #[.pointer (some ⟨z, 0, none⟩)] w fun e w' => e = .returned (.bool true) ∧ w = w' := by
  have q := fun (w : World) => run_eql_map_nil (P := Try.prog) w 23 _ _ none Try.underlying23
  go_enter Try.func20, Try.ntmps20
  go_wp2
  go_ret
  exact ⟨rfl, rfl⟩
/-- a scheduler that no call made -/
def NoSched (w : World) (P : Value) : Prop := P = .pointer none ∨ ∃ z, P = .pointer (some ⟨z, 0, none⟩) ∧ w.cell? ⟨z, 0, none⟩ = some (.map none) ∧ z < w.heap.size
theorem NoSched.isNone {w : World} {P : Value} (h : NoSched w P) : Calls Try.prog 20 #[P] w fun e w' => e = .returned (.bool true) ∧ w = w' := by
  rcases h with rfl | ⟨z, rfl, hz, _⟩
  · exact none_nil w
  · exact none_zero z w hz
theorem NoSched.below {w w' : World} {P : Value} (h : NoSched w P) (hb : Below w.heap.size w w') : NoSched w' P := by
  rcases h with h | ⟨z, h, hz, hl⟩
  · exact .inl h
  · exact .inr ⟨z, h, (hb.cell (p := ⟨z, 0, none⟩) hl).trans hz, by have := hb.size; omega⟩

theorem state_none (P : Value) (s : ByteArray) (w : World) (h : NoSched w P) : Calls Try.prog 9 #[P, .string s] w fun e w' => e = .returned (.tuple #[.int .i64 0, .int .i64 (-1)]) ∧ w = w' := by
  have H := Lib.hid h.isNone; clear h
  go_enter Try.func9, Try.ntmps9
  go_wp2_with fail
  refine (H.out).mono ?_; rintro e w' ⟨rfl, rfl⟩
  go_wp2_with fail
  go_ret2
  exact ⟨rfl, rfl⟩
theorem over_none (P : Value) (w : World) (h : NoSched w P) : Calls Try.prog 10 #[P] w fun e w' => e = .returned (.bool false) ∧ w = w' := by
  have H := Lib.hid h.isNone; clear h
  go_enter Try.func10, Try.ntmps10
  go_wp2_with fail
  refine (H.out).mono ?_; rintro e w' ⟨rfl, rfl⟩
  go_wp2_with fail
  go_ret
  exact ⟨rfl, rfl⟩
theorem queue_none (P : Value) (n : Int) (w : World) (h : NoSched w P) : Calls Try.prog 11 #[P, .int .i64 n] w fun e w' => e = .returned (.slice none 0 0) ∧ w = w' := by
  have H := Lib.hid h.isNone; clear h
  go_enter Try.func11, Try.ntmps11
  go_wp2_with fail
  refine (H.out).mono ?_; rintro e w' ⟨rfl, rfl⟩
  go_wp2_with fail
  go_ret
  exact ⟨rfl, rfl⟩
theorem ended_none (P : Value) (w : World) (h : NoSched w P) : Calls Try.prog 12 #[P] w fun e w' => e = .returned (.slice none 0 0) ∧ w = w' := by
  have H := Lib.hid h.isNone; clear h
  go_enter Try.func12, Try.ntmps12
  go_wp2_with fail
  refine (H.out).mono ?_; rintro e w' ⟨rfl, rfl⟩
  go_wp2_with fail
  go_ret
  exact ⟨rfl, rfl⟩
theorem step_none (P : Value) (n : Int) (w : World) (h : NoSched w P) : Calls Try.prog 8 #[P, .int .i64 n] w fun e w' => e = .returned (.tuple #[.agg #[.int .i64 0, .string ⟨#[]⟩, .int .i64 0], .int .i64 1]) ∧ Below w.heap.size w w' := by
  have H := fun o => Lib.hid (h.below ((Below.refl w.heap.size w).alloc (Nat.le_refl _) o)).isNone; clear h
  go_enter Try.func8, Try.ntmps8
  go_wp2_with fail
  refine ((H _).out).mono ?_; rintro e w' ⟨rfl, rfl⟩
  go_wp2_with fail
  (try simp only [Exit.inBlock, Exit.then])
  have hb := Blk.new w 32 #[.int .i64 0, .string ⟨#[]⟩, .int .i64 0]
  refine bodyPost_ret (results_cell_tmp_row rfl _ _ w.heap.size 32 #[.int .i64 0, .string ⟨#[]⟩, .int .i64 0] (0, 0) _ rfl hb Try.underlying32 rfl (by kernel_rfl)) rfl ?_
  exact ⟨rfl, (Below.refl _ _).alloc (Nat.le_refl _) _⟩
end Go.Proofs.Ytkgdpkkckeihbaa
