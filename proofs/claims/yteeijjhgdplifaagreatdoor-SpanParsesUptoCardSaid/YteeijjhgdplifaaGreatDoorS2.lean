/- Spans: none, None, between, All; what sets that no call made answer. -/
import Derived.Test.YteeijjhgdplifaaGreatDoorS1
import Derived.Test.YteeijjhgdplifaaGreatDoorVi
namespace Go.Proofs.YteeijjhgdplifaaGreatDoor
open Go.RowKit

section
variable {P : Program}
theorem wpList_build_run {ops : Array Oper} {rest : List Oper} {o : Oper} {a : Act} {w : World} {Q : Exit → Act → World → Prop} (hg : o.guard = none) (t : TypeId) (parts : Array (Nat × Operand)) (ho : o.op = .build t parts) (cells : Array Value)
    (hf : P.built t (parts.map fun (i, x) => (i, a.eval x)).toList = some cells)
    (h : wpList P ops Q rest (a.put o.dst (.agg cells)) w) : wpList P ops Q (o :: rest) a w :=
  wpList_build hg t parts ho (by rw [hf]; rfl) (by rw [hf]; exact h)
end
abbrev sp0 (g : Nat) : Value := .pointer (some ⟨g, 0, none⟩)
/-- Is a pointer to a set none that a call made? -/
def NoneIs (w : World) (p : Value) (b : Bool) : Prop := (p = .pointer none ∧ b = true) ∨ ∃ g m v, p = sp0 g ∧ Blk w g 59 [.bool m, v] ∧ b = !m
theorem NoneIs.below {w w' : World} {p : Value} {b : Bool} (h : NoneIs w p b) (hb : Below w.heap.size w w') : NoneIs w' p b := by
  rcases h with h | ⟨g, m, v, h1, h2, h3⟩
  · exact .inl h
  · exact .inr ⟨g, m, v, h1, h2.below' hb, h3⟩
set_option maxRecDepth 100000 in
theorem none_ok (p : Value) (b : Bool) (w : World) (h : NoneIs w p b) : Calls Tryz.prog 26 #[p] w fun e w' => e = .returned (.bool b) ∧ w = w' := by
  rcases h with ⟨rfl, rfl⟩ | ⟨g, m, v, rfl, hk, rfl⟩
  · go_enter Tryz.func26, Tryz.ntmps26
    go_wp2_with fail
    go_ret
    exact ⟨rfl, rfl⟩
  · have c0 : w.cell? ⟨g, 0, none⟩ = some (.bool m) := by rw [hk.cell]; rfl
    have l0 := hk.lt
    clear hk
    go_enter Tryz.func26, Tryz.ntmps26
    go_wp2_with fail
    go_ret
    exact ⟨rfl, rfl⟩
/-- cuts as cells -/
def cutsL (cs : List Cut) : List Value := cs.flatMap Cut.cells
theorem cutsL_len : ∀ {cs : List Cut}, (∀ c ∈ cs, c.Ok) → (cutsL cs).length = cs.length * 7
  | [], _ => rfl
  | c :: cs, h => by
    have := cutsL_len (cs := cs) (fun x hx => h x (List.mem_cons_of_mem _ hx))
    have h7 := Cut.cells_len (h c (by simp))
    unfold cutsL at this ⊢
    rw [List.flatMap_cons, List.length_append, this, h7, List.length_cons]; omega
/-- A set that a call made: where its cuts lie. -/
structure SpAt (w : World) (B g : Nat) (cs : List Cut) : Prop where
  ok : ∀ c ∈ cs, c.Ok
  ge : B ≤ g
  at_ : ∃ A c, Blk w g 59 [.bool true, .slice A cs.length c] ∧ w.ownsRow 0 57 7 (.slice A cs.length c) cs.length (cutsL cs) ∧ ∀ b, (Value.slice A cs.length c).ownBlock = some b → B ≤ b
theorem SpAt.below {w w' : World} {B g : Nat} {cs : List Cut} (h : SpAt w B g cs) (hb : Below w.heap.size w w') : SpAt w' B g cs := by
  obtain ⟨h1, h2, A, c, k, o, hg⟩ := h
  exact ⟨h1, h2, A, c, k.below' hb, own_below o hb, hg⟩
theorem SpAt.lower {w : World} {B B' g : Nat} {cs : List Cut} (h : SpAt w B g cs) (hB : B' ≤ B) : SpAt w B' g cs := by
  obtain ⟨h1, h2, A, c, k, o, hg⟩ := h
  exact ⟨h1, by omega, A, c, k, o, fun b hb => by have := hg b hb; omega⟩
theorem SpAt.none {w : World} {B g : Nat} {cs : List Cut} (h : SpAt w B g cs) : NoneIs w (sp0 g) false := by
  obtain ⟨h1, h2, A, c, k, o, hg⟩ := h
  exact .inr ⟨g, true, _, rfl, k, rfl⟩
set_option maxRecDepth 100000 in
theorem spNone_ok (w : World) : Calls Tryz.prog 13 #[] w fun e w' => e = .returned (sp0 w.heap.size) ∧ SpAt w' w.heap.size w.heap.size [] ∧ Below w.heap.size w w' := by
  obtain ⟨w1, hw1⟩ : ∃ w1, w1 = w.alloc (.cells #[.bool true, .slice none 0 0] 59) := ⟨_, rfl⟩
  have hb1 : Below w.heap.size w w1 := by rw [hw1]; exact (Below.refl _ _).alloc (Nat.le_refl _) _
  have k1 : Blk w1 w.heap.size 59 [.bool true, .slice none 0 0] := by rw [hw1]; exact Blk.new _ _ _
  have HS : Hid (SpAt w1 w.heap.size w.heap.size []) := Lib.hid ⟨by simp, Nat.le_refl _, none, 0, k1, own_nil0 _ _ _, fun b hb => by simp [Value.ownBlock] at hb⟩
  have HB := Lib.hid hb1
  have HW := Lib.hid hw1
  clear hw1 hb1 k1
  go_enter Tryz.func13, Tryz.ntmps13
  go_wp2_with fail
  rw [← HW.out]
  go_ret
  exact ⟨rfl, HS.out, HB.out⟩
theorem cells_four {v : Ver} (hv : v.Ok) : ∃ a b c d, v.cells.toArray = #[.int .i64 a, .int .i64 b, .int .i64 c, .int .i64 d, .int .i64 v.c, .string (bl v.t)] := by
  obtain ⟨a, b, c, d, h⟩ := Ver.four hv
  exact ⟨a, b, c, d, by unfold Ver.cells; rw [h]; rfl⟩
set_option maxRecDepth 100000 in
theorem built_cut (x : Int) {v : Ver} (hv : v.Ok) : Tryz.prog.built 57 [(0, .int .i64 x), (1, .agg v.cells.toArray)] = some (⟨x, v⟩ : Cut).cells.toArray := by
  obtain ⟨a, b, c, d, h⟩ := Ver.four hv
  have e : v.cells.toArray = #[.int .i64 a, .int .i64 b, .int .i64 c, .int .i64 d, .int .i64 v.c, .string (bl v.t)] := by unfold Ver.cells; rw [h]; rfl
  have e2 : (⟨x, v⟩ : Cut).cells.toArray = #[.int .i64 x, .int .i64 a, .int .i64 b, .int .i64 c, .int .i64 d, .int .i64 v.c, .string (bl v.t)] := by unfold Cut.cells Ver.cells; rw [h]; rfl
  rw [e, e2]
  have hz : (Tryz.prog.info? 57).map (fun i => i.zero) = some (some (.agg #[.int .i64 0, .int .i64 0, .int .i64 0, .int .i64 0, .int .i64 0, .int .i64 0, .string ⟨#[]⟩])) := by kernel_rfl
  cases hq : Tryz.prog.info? 57 with
  | none => rw [hq] at hz; cases hz
  | some it =>
    rw [hq] at hz
    have hz' : it.zero = some (.agg #[.int .i64 0, .int .i64 0, .int .i64 0, .int .i64 0, .int .i64 0, .int .i64 0, .string ⟨#[]⟩]) := Option.some.inj hz
    have hm : [({ name := "at", type := 3, offset := 0, embedded := false, tag := "", pkgPath := "stillroom/span", byteOffset := 0 } : Field), { name := "v", type := 38, offset := 1, embedded := false, tag := "", pkgPath := "stillroom/span", byteOffset := 8 }].mapM (fun f => (Tryz.prog.info? f.type).map fun i => (f.offset, i.size)) = some [(0, 1), (1, 6)] := by kernel_rfl
    unfold Program.built
    rw [hq, Tryz.underlying57]
    simp only [hz']
    rw [hm]
    simp [Instr.fill, Value.cells]
end Go.Proofs.YteeijjhgdplifaaGreatDoor
