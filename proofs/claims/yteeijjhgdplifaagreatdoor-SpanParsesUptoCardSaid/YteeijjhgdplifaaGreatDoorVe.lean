/- Versions in memory: '==' of two, a load of one. -/
import Derived.Test.YteeijjhgdplifaaGreatDoorVd
import Derived.Laws.StructEq
import Derived.ChangeKeysEq
namespace Go.Proofs.YteeijjhgdplifaaGreatDoor
open Go.RowKit

theorem part_int (xs : Array Value) (j : Nat) (v : Value) (w : World) (h : xs[j]? = some v) : (part 3 xs j).run Tryz.prog w = .ok v w := run_part_plain w (by kernel_rfl) h
theorem part_str (xs : Array Value) (j : Nat) (v : Value) (w : World) (h : xs[j]? = some v) : (part 9 xs j).run Tryz.prog w = .ok v w := run_part_plain w (by kernel_rfl) h
theorem arr_eql (w : World) (d : Nat) (x0 x1 x2 x3 y0 y1 y2 y3 : Int) :
    (Op.equalIn (d + 2) 35 (.agg #[.int .i64 x0, .int .i64 x1, .int .i64 x2, .int .i64 x3]) (.agg #[.int .i64 y0, .int .i64 y1, .int .i64 y2, .int .i64 y3])).run Tryz.prog w = .ok (x0 == y0 && (x1 == y1 && (x2 == y2 && x3 == y3))) w := by
  obtain ⟨i, hi⟩ : ∃ i, Tryz.prog.info? 3 = some i := Option.isSome_iff_exists.1 (by kernel_rfl)
  have hc : Tryz.prog.cellsOf 3 = 1 := by kernel_rfl
  rw [run_equalIn_array w (d + 1) _ _ Tryz.underlying35 hi, hc, show List.range 4 = [0, 1, 2, 3] from rfl]
  simp only [Op.eqItems, Sem.run_bind, Nat.mul_one]
  rw [part_int _ 0 (.int .i64 x0) _ rfl]
  simp only [Result.andThen_ok]
  rw [part_int _ 0 (.int .i64 y0) _ rfl]
  simp only [Result.andThen_ok]
  rw [run_equalIn_int w d 3 .i64 .i64 _ _ Tryz.underlying3]
  simp only [Result.andThen_ok]
  cases h0 : x0 == y0
  · simp
  simp only [Bool.not_true, Bool.false_eq_true, if_false, Sem.run_bind]
  rw [part_int _ 1 (.int .i64 x1) _ rfl]
  simp only [Result.andThen_ok]
  rw [part_int _ 1 (.int .i64 y1) _ rfl]
  simp only [Result.andThen_ok]
  rw [run_equalIn_int w d 3 .i64 .i64 _ _ Tryz.underlying3]
  simp only [Result.andThen_ok]
  cases h1 : x1 == y1
  · simp
  simp only [Bool.not_true, Bool.false_eq_true, if_false, Sem.run_bind]
  rw [part_int _ 2 (.int .i64 x2) _ rfl]
  simp only [Result.andThen_ok]
  rw [part_int _ 2 (.int .i64 y2) _ rfl]
  simp only [Result.andThen_ok]
  rw [run_equalIn_int w d 3 .i64 .i64 _ _ Tryz.underlying3]
  simp only [Result.andThen_ok]
  cases h2 : x2 == y2
  · simp
  simp only [Bool.not_true, Bool.false_eq_true, if_false, Sem.run_bind]
  rw [part_int _ 3 (.int .i64 x3) _ rfl]
  simp only [Result.andThen_ok]
  rw [part_int _ 3 (.int .i64 y3) _ rfl]
  simp only [Result.andThen_ok]
  rw [run_equalIn_int w d 3 .i64 .i64 _ _ Tryz.underlying3]
  simp only [Result.andThen_ok]
  cases h3 : x3 == y3 <;> simp
theorem isAgg_arr (w : World) : (isAgg 35).run Tryz.prog w = .ok true w := by
  unfold isAgg
  rw [Sem.run_bind, run_underlying Tryz.underlying35 w]
  rfl
theorem part_arr (x0 x1 x2 x3 : Int) (u v : Value) (w : World) : (part 35 #[.int .i64 x0, .int .i64 x1, .int .i64 x2, .int .i64 x3, u, v] 0).run Tryz.prog w = .ok (.agg #[.int .i64 x0, .int .i64 x1, .int .i64 x2, .int .i64 x3]) w := by
  obtain ⟨i, hi⟩ : ∃ i, Tryz.prog.info? 35 = some i := Option.isSome_iff_exists.1 (by kernel_rfl)
  have hc : Tryz.prog.cellsOf 35 = 4 := by kernel_rfl
  simp only [part, Sem.run_bind, isAgg_arr, Result.andThen_ok, if_true, run_sizeOf w hi, hc, Sem.run_pure]
  rfl
theorem Ver.eq_cells (a b : Ver) (x0 x1 x2 x3 y0 y1 y2 y3 : Int) (ha : a.ns = [x0, x1, x2, x3]) (hb : b.ns = [y0, y1, y2, y3]) : (x0 == y0 && (x1 == y1 && (x2 == y2 && x3 == y3)) && (a.c == b.c && ((bl a.t).toList == (bl b.t).toList))) = decide (a = b) := by
  rw [Bool.eq_iff_iff, decide_eq_true_eq]
  obtain ⟨l, c, t⟩ := a
  obtain ⟨l', c', t'⟩ := b
  simp only at ha hb
  subst ha hb
  simp only [Bool.and_eq_true, beq_iff_eq, bl_toList, Ver.mk.injEq, List.cons.injEq, and_true]

theorem veql (a b : Ver) (ha : a.Ok) (hb : b.Ok) (w : World) : (Op.equalIn 10000 38 (.agg a.cells.toArray) (.agg b.cells.toArray)).run Tryz.prog w = .ok (decide (a = b)) w := by
  obtain ⟨x0, x1, x2, x3, ha⟩ := Ver.four ha
  obtain ⟨y0, y1, y2, y3, hb⟩ := Ver.four hb
  rw [← Ver.eq_cells a b _ _ _ _ _ _ _ _ ha hb]
  have e1 : a.cells.toArray = #[.int .i64 x0, .int .i64 x1, .int .i64 x2, .int .i64 x3, .int .i64 a.c, .string (bl a.t)] := by unfold Ver.cells; rw [ha]; rfl
  have e2 : b.cells.toArray = #[.int .i64 y0, .int .i64 y1, .int .i64 y2, .int .i64 y3, .int .i64 b.c, .string (bl b.t)] := by unfold Ver.cells; rw [hb]; rfl
  rw [e1, e2, show (10000 : Nat) = 9999 + 1 from rfl, run_equalIn_agg w 9999 38 _ _ (by kernel_rfl) (by kernel_rfl)]
  have ef : (Tryz.prog.fieldsOf 38).toList = [{ name := "Nums", type := 35, offset := 0, embedded := false, tag := "", pkgPath := "", byteOffset := 0 }, { name := "Count", type := 3, offset := 4, embedded := false, tag := "", pkgPath := "", byteOffset := 32 }, { name := "Tag", type := 9, offset := 5, embedded := false, tag := "", pkgPath := "", byteOffset := 40 }] := by kernel_rfl
  rw [ef]
  have n1 : ("Nums" ≠ "_") := by decide
  have n2 : ("Count" ≠ "_") := by decide
  have n3 : ("Tag" ≠ "_") := by decide
  simp only [Op.eqFields, if_pos n1, if_pos n2, if_pos n3, Sem.run_bind]
  rw [part_arr]
  simp only [Result.andThen_ok]
  rw [part_arr]
  simp only [Result.andThen_ok]
  rw [arr_eql w 9997]
  simp only [Result.andThen_ok]
  cases h0 : (x0 == y0 && (x1 == y1 && (x2 == y2 && x3 == y3)))
  · simp
  simp only [Bool.not_true, Bool.false_eq_true, if_false, Sem.run_bind, Bool.true_and]
  rw [part_int _ 4 (.int .i64 a.c) _ rfl]
  simp only [Result.andThen_ok]
  rw [part_int _ 4 (.int .i64 b.c) _ rfl]
  simp only [Result.andThen_ok]
  rw [run_equalIn_int w 9998 3 .i64 .i64 _ _ Tryz.underlying3]
  simp only [Result.andThen_ok]
  cases h1 : (a.c == b.c)
  · simp
  simp only [Bool.not_true, Bool.false_eq_true, if_false, Sem.run_bind, Bool.true_and]
  rw [part_str _ 5 (.string (bl a.t)) _ rfl]
  simp only [Result.andThen_ok]
  rw [part_str _ 5 (.string (bl b.t)) _ rfl]
  simp only [Result.andThen_ok]
  rw [run_equalIn_string w 9998 9 _ _ Tryz.underlying9]
  simp only [Result.andThen_ok]
  cases h2 : ((bl a.t).toList == (bl b.t).toList) <;> simp
theorem vload {w : World} {g : Nat} {v : Ver} (h : Blk w g 38 v.cells) (hv : v.Ok) : (loadVar 38 ⟨g, 0, none⟩).run Tryz.prog w = .ok v.val w :=
  run_loadVar_row w g _ _ v.cells.toArray (0, 0) _ h Tryz.underlying38 rfl (by
    have e : v.cells.toArray.size = 6 := by unfold Ver.cells; simp [ints]; rw [show v.ns.length = 4 from hv]
    have hi : (Tryz.prog.info? 38).map (·.size) = some 6 := by kernel_rfl
    rw [e]; exact hi)

theorem reql (a b : Ver) (ha : a.Ok) (hb : b.Ok) (w : World) : (Op.equalIn 10000 37 (.agg a.cells.toArray) (.agg b.cells.toArray)).run Tryz.prog w = .ok (decide (a = b)) w := by
  obtain ⟨x0, x1, x2, x3, ha⟩ := Ver.four ha
  obtain ⟨y0, y1, y2, y3, hb⟩ := Ver.four hb
  rw [← Ver.eq_cells a b _ _ _ _ _ _ _ _ ha hb]
  have e1 : a.cells.toArray = #[.int .i64 x0, .int .i64 x1, .int .i64 x2, .int .i64 x3, .int .i64 a.c, .string (bl a.t)] := by unfold Ver.cells; rw [ha]; rfl
  have e2 : b.cells.toArray = #[.int .i64 y0, .int .i64 y1, .int .i64 y2, .int .i64 y3, .int .i64 b.c, .string (bl b.t)] := by unfold Ver.cells; rw [hb]; rfl
  rw [e1, e2, show (10000 : Nat) = 9999 + 1 from rfl, run_equalIn_agg w 9999 37 _ _ (by kernel_rfl) (by kernel_rfl)]
  have ef : (Tryz.prog.fieldsOf 37).toList = [{ name := "Nums", type := 35, offset := 0, embedded := false, tag := "", pkgPath := "", byteOffset := 0 }, { name := "Count", type := 3, offset := 4, embedded := false, tag := "", pkgPath := "", byteOffset := 32 }, { name := "Tag", type := 9, offset := 5, embedded := false, tag := "", pkgPath := "", byteOffset := 40 }] := by kernel_rfl
  rw [ef]
  have n1 : ("Nums" ≠ "_") := by decide
  have n2 : ("Count" ≠ "_") := by decide
  have n3 : ("Tag" ≠ "_") := by decide
  simp only [Op.eqFields, if_pos n1, if_pos n2, if_pos n3, Sem.run_bind]
  rw [part_arr]
  simp only [Result.andThen_ok]
  rw [part_arr]
  simp only [Result.andThen_ok]
  rw [arr_eql w 9997]
  simp only [Result.andThen_ok]
  cases h0 : (x0 == y0 && (x1 == y1 && (x2 == y2 && x3 == y3)))
  · simp
  simp only [Bool.not_true, Bool.false_eq_true, if_false, Sem.run_bind, Bool.true_and]
  rw [part_int _ 4 (.int .i64 a.c) _ rfl]
  simp only [Result.andThen_ok]
  rw [part_int _ 4 (.int .i64 b.c) _ rfl]
  simp only [Result.andThen_ok]
  rw [run_equalIn_int w 9998 3 .i64 .i64 _ _ Tryz.underlying3]
  simp only [Result.andThen_ok]
  cases h1 : (a.c == b.c)
  · simp
  simp only [Bool.not_true, Bool.false_eq_true, if_false, Sem.run_bind, Bool.true_and]
  rw [part_str _ 5 (.string (bl a.t)) _ rfl]
  simp only [Result.andThen_ok]
  rw [part_str _ 5 (.string (bl b.t)) _ rfl]
  simp only [Result.andThen_ok]
  rw [run_equalIn_string w 9998 9 _ _ Tryz.underlying9]
  simp only [Result.andThen_ok]
  cases h2 : ((bl a.t).toList == (bl b.t).toList) <;> simp
theorem rload {w : World} {g : Nat} {v : Ver} (h : Blk w g 37 v.cells) (hv : v.Ok) : (loadVar 37 ⟨g, 0, none⟩).run Tryz.prog w = .ok v.val w :=
  run_loadVar_row w g _ _ v.cells.toArray (0, 0) _ h Tryz.underlying37 rfl (by
    have e : v.cells.toArray.size = 6 := by unfold Ver.cells; simp [ints]; rw [show v.ns.length = 4 from hv]
    have hi : (Tryz.prog.info? 37).map (·.size) = some 6 := by kernel_rfl
    rw [e]; exact hi)

section
variable {P : Program}
theorem wp_eql_run {o : Oper} {a : Act} {w : World} {K : Act → World → Prop} {Q : Exit → Act → World → Prop} (t ty : TypeId) (x y : Operand) (ho : o.op = .binOp .eql t x y ty) (xs ys : Array Value) (hx : a.eval x = .agg xs) (hy : a.eval y = .agg ys)
    (hg : P.eqGuardType P.depth t = false) (r : Bool) (hr : (Op.equalIn 10000 t (.agg xs) (.agg ys)).run P w = .ok r w) (h : K (a.put o.dst (.bool r)) w) : o.wp P a w K Q := by
  unfold Oper.wp execOp
  simp only [ho, hx, hy, Sem.run_bind, run_eqGuard_agg w .eql t x y xs ys hg, Result.andThen_ok, run_eql_struct, hr, Sem.run_pure]
  exact h
theorem wpList_eql_run {ops : Array Oper} {rest : List Oper} {o : Oper} {a : Act} {w : World} {Q : Exit → Act → World → Prop} (hgd : o.guard = none) (t ty : TypeId) (x y : Operand) (ho : o.op = .binOp .eql t x y ty) (xs ys : Array Value) (hx : a.eval x = .agg xs) (hy : a.eval y = .agg ys)
    (hg : P.eqGuardType P.depth t = false) (r : Bool) (hr : (Op.equalIn 10000 t (.agg xs) (.agg ys)).run P w = .ok r w) (h : wpList P ops Q rest (a.put o.dst (.bool r)) w) : wpList P ops Q (o :: rest) a w :=
  wpList_plain hgd fun _ hK => wp_eql_run t ty x y ho xs ys hx hy hg r hr (hK _ _ h)
theorem wp_load_run {o : Oper} {a : Act} {w : World} {K : Act → World → Prop} {Q : Exit → Act → World → Prop} (ty : TypeId) (x : Operand) (ho : o.op = .load ty x) (g : Nat) (hx : a.eval x = .pointer (some ⟨g, 0, none⟩)) (v : Value)
    (hr : (loadVar ty ⟨g, 0, none⟩).run P w = .ok v w) (h : K (a.put o.dst v) w) : o.wp P a w K Q := by
  unfold Oper.wp execOp
  simp only [ho, hx, Instr.loadAt, Instr.sureAddr, Sem.run_bind, Sem.run_pure, Result.andThen_ok, hr]
  exact h
theorem wpList_load_run {ops : Array Oper} {rest : List Oper} {o : Oper} {a : Act} {w : World} {Q : Exit → Act → World → Prop} (hgd : o.guard = none) (ty : TypeId) (x : Operand) (ho : o.op = .load ty x) (g : Nat) (hx : a.eval x = .pointer (some ⟨g, 0, none⟩)) (v : Value)
    (hr : (loadVar ty ⟨g, 0, none⟩).run P w = .ok v w) (h : wpList P ops Q rest (a.put o.dst v) w) : wpList P ops Q (o :: rest) a w :=
  wpList_plain hgd fun _ hK => wp_load_run ty x ho g hx v hr (hK _ _ h)
end
end Go.Proofs.YteeijjhgdplifaaGreatDoor
