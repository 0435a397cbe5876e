/- '==' of cuts. -/
import Derived.Test.YteeijjhgdplifaaGreatDoorS3
namespace Go.Proofs.YteeijjhgdplifaaGreatDoor
open Go.RowKit

theorem veqlF (f : Nat) (a b : Ver) (ha : a.Ok) (hb : b.Ok) (w : World) : (Op.equalIn (f + 3) 38 (.agg a.cells.toArray) (.agg b.cells.toArray)).run Tryz.prog w = .ok (decide (a = b)) w := by
  obtain ⟨x0, x1, x2, x3, ha⟩ := Ver.four ha
  obtain ⟨y0, y1, y2, y3, hb⟩ := Ver.four hb
  rw [← Ver.eq_cells a b _ _ _ _ _ _ _ _ ha hb]
  have e1 : a.cells.toArray = #[.int .i64 x0, .int .i64 x1, .int .i64 x2, .int .i64 x3, .int .i64 a.c, .string (bl a.t)] := by unfold Ver.cells; rw [ha]; rfl
  have e2 : b.cells.toArray = #[.int .i64 y0, .int .i64 y1, .int .i64 y2, .int .i64 y3, .int .i64 b.c, .string (bl b.t)] := by unfold Ver.cells; rw [hb]; rfl
  rw [e1, e2, show f + 3 = (f + 2) + 1 from rfl, run_equalIn_agg w (f + 2) 38 _ _ (by kernel_rfl) (by kernel_rfl)]
  have ef : (Tryz.prog.fieldsOf 38).toList = [{ name := "Nums", type := 35, offset := 0, embedded := false, tag := "", pkgPath := "", byteOffset := 0 }, { name := "Count", type := 3, offset := 4, embedded := false, tag := "", pkgPath := "", byteOffset := 32 }, { name := "Tag", type := 9, offset := 5, embedded := false, tag := "", pkgPath := "", byteOffset := 40 }] := by kernel_rfl
  rw [ef]
  have n1 : ("Nums" ≠ "_") := by decide
  have n2 : ("Count" ≠ "_") := by decide
  have n3 : ("Tag" ≠ "_") := by decide
  simp only [Op.eqFields, if_pos n1, if_pos n2, if_pos n3, Sem.run_bind]
  rw [part_arr]
  simp only [Result.andThen_ok]
  rw [part_arr]
  simp only [Result.andThen_ok]
  rw [arr_eql w f]
  simp only [Result.andThen_ok]
  cases h0 : (x0 == y0 && (x1 == y1 && (x2 == y2 && x3 == y3)))
  · simp
  simp only [Bool.not_true, Bool.false_eq_true, if_false, Sem.run_bind, Bool.true_and]
  rw [part_int _ 4 (.int .i64 a.c) _ rfl]
  simp only [Result.andThen_ok]
  rw [part_int _ 4 (.int .i64 b.c) _ rfl]
  simp only [Result.andThen_ok]
  rw [run_equalIn_int w (f + 1) 3 .i64 .i64 _ _ Tryz.underlying3]
  simp only [Result.andThen_ok]
  cases h1 : (a.c == b.c)
  · simp
  simp only [Bool.not_true, Bool.false_eq_true, if_false, Sem.run_bind, Bool.true_and]
  rw [part_str _ 5 (.string (bl a.t)) _ rfl]
  simp only [Result.andThen_ok]
  rw [part_str _ 5 (.string (bl b.t)) _ rfl]
  simp only [Result.andThen_ok]
  rw [run_equalIn_string w (f + 1) 9 _ _ Tryz.underlying9]
  simp only [Result.andThen_ok]
  cases h2 : ((bl a.t).toList == (bl b.t).toList) <;> simp
theorem isAgg_ver (w : World) : (isAgg 38).run Tryz.prog w = .ok true w := by
  unfold isAgg
  rw [Sem.run_bind, run_underlying Tryz.underlying38 w]
  rfl
theorem part_ver {c : Cut} (hc : c.Ok) (w : World) : (part 38 c.cells.toArray 1).run Tryz.prog w = .ok (.agg c.v.cells.toArray) w := by
  obtain ⟨i, hi⟩ : ∃ i, Tryz.prog.info? 38 = some i := Option.isSome_iff_exists.1 (by kernel_rfl)
  have h6 : Tryz.prog.cellsOf 38 = 6 := by kernel_rfl
  simp only [part, Sem.run_bind, isAgg_ver, Result.andThen_ok, if_true, run_sizeOf w hi, h6, Sem.run_pure]
  have hl : c.v.cells.length = 6 := by have := Ver.cells_size hc.1; simpa using this
  have e : c.cells.toArray.extract 1 (1 + 6) = c.v.cells.toArray := by
    apply Array.toList_inj.1
    rw [Array.toList_extract]
    simp [Cut.cells, List.extract]
    exact List.take_of_length_le (by omega)
  rw [e]
theorem ceql (c d : Cut) (hc : c.Ok) (hd : d.Ok) (w : World) : (Op.equalIn 10000 57 (.agg c.cells.toArray) (.agg d.cells.toArray)).run Tryz.prog w = .ok (decide (c = d)) w := by
  rw [show (10000 : Nat) = 9999 + 1 from rfl, run_equalIn_agg w 9999 57 _ _ (by kernel_rfl) (by kernel_rfl)]
  have ef : (Tryz.prog.fieldsOf 57).toList = [{ name := "at", type := 3, offset := 0, embedded := false, tag := "", pkgPath := "stillroom/span", byteOffset := 0 }, { name := "v", type := 38, offset := 1, embedded := false, tag := "", pkgPath := "stillroom/span", byteOffset := 8 }] := by kernel_rfl
  rw [ef]
  have n1 : ("at" ≠ "_") := by decide
  have n2 : ("v" ≠ "_") := by decide
  simp only [Op.eqFields, if_pos n1, if_pos n2, Sem.run_bind]
  rw [part_int _ 0 (.int .i64 c.a) _ rfl]
  simp only [Result.andThen_ok]
  rw [part_int _ 0 (.int .i64 d.a) _ rfl]
  simp only [Result.andThen_ok]
  rw [run_equalIn_int w 9998 3 .i64 .i64 _ _ Tryz.underlying3]
  simp only [Result.andThen_ok]
  have hdec : decide (c = d) = (c.a == d.a && decide (c.v = d.v)) := by
    rw [Bool.eq_iff_iff]
    simp only [decide_eq_true_eq, Bool.and_eq_true, beq_iff_eq]
    cases c; cases d
    simp only [Cut.mk.injEq]
  rw [hdec]
  cases h1 : (c.a == d.a)
  · simp
  simp only [Bool.not_true, Bool.false_eq_true, if_false, Sem.run_bind, Bool.true_and]
  rw [part_ver hc]
  simp only [Result.andThen_ok]
  rw [part_ver hd]
  simp only [Result.andThen_ok]
  rw [show (9999 : Nat) = 9996 + 3 from rfl, veqlF 9996 c.v d.v hc.1 hd.1]
  simp only [Result.andThen_ok]
  cases h2 : decide (c.v = d.v) <;> simp
end Go.Proofs.YteeijjhgdplifaaGreatDoor
