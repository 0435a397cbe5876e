/- LAWS FOR ONE OPERATION OF A REGION THAT DRAWS (Runs): make, append, copy. No program in sight. -/
import Derived.Test.YteeijjhgdplifaaGreatDoorWd
import Derived.Test.YteeijjhgdplifaaGreatDoorRh
namespace Go.Proofs.YteeijjhgdplifaaGreatDoor
open Go Go.RowKit
section
variable {P : Program} {ops : Array Oper} {o : Oper} {a : Act} {w : World} {R : Value → World → Prop}

theorem runs_of (hg : o.guard = none) (h : Out P R ((execOp a.eval o).run P w)) : Runs P ops o a w R := by
  unfold Runs Region.wanted
  rw [hg]
  exact h

theorem runs_make (hg : o.guard = none) (l c : Operand) (t : TypeId) (hop : o.op = Op.makeSlice t l c) (e : TypeId) (z : Value) (size bytes : Nat) (h1 : P.underlying t = some (.slice e))
    (hi : (P.info? e).map (fun i => (i.zero, i.size, i.bytes)) = some (some z, size, bytes)) (n : Nat) (hl : a.eval l = .int .i64 (n : Int)) (hc : a.eval c = .int .i64 (n : Int)) (b2 : bytes * n ≤ 281474976710656) (b3 : n ≤ maxLen)
    (h : ∀ w', w'.ownsRow 0 e size (.slice (some ⟨w.heap.size, 0, none⟩) n n) n (madeCells z.cells (n * size)).toList → w.grownBy w' none → w.heap.size < w'.heap.size → R (.slice (some ⟨w.heap.size, 0, none⟩) n n) w') : Runs P ops o a w R := by
  obtain ⟨i, hi1, hz, hsize, hby⟩ := info_parts hi
  obtain ⟨w', hrun, r1, r2⟩ := run_make_full (P := P) w 0 t e i z size h1 hi1 hz hsize .i64 .i64 n (by rw [hby]; exact b2) b3 (Nat.zero_le _)
  refine runs_of hg ?_
  simp only [execOp, hop, hl, hc, Sem.run_bind, hrun, Result.andThen_ok, Sem.run_pure]
  exact h w' r1 r2 (own_lt' r1 rfl)

theorem runs_app (hg : o.guard = none) (s x : Operand) (t : TypeId)
    (ho : o.op = .call { callee := .builtin .append, args := #[s, x], argTypes := #[t, t] })
    (e : TypeId) (z : Value) (size bytes : Nat) (ht : P.underlying t = some (.slice e)) (hi : (P.info? e).map (fun i => (i.zero, i.size, i.bytes)) = some (some z, size, bytes))
    (hzs : z.cells.size = size) (hsz : 0 < size) (hb0 : 0 < bytes) (v : Value) (n : Nat) (xs : List Value) (hs : a.eval s = v) (hown : w.ownsRow 0 e size v n xs)
    (F : Nat → Prop) (vs : Value) (m : Nat) (news : List Value) (hx : a.eval x = vs) (hr : Sl w F size vs m news) (h1 : ∀ u ∈ news, u.oneCell' = true) (hb : (n + m) * bytes ≤ 140737488355328)
    (h : ∀ A' c' w', w'.ownsRow 0 e size (.slice A' (n + m) c') (n + m) (xs ++ news) → Mod (fun b => v.ownBlock = some b) w w' →
      ((Value.slice A' (n + m) c').ownBlock = v.ownBlock ∨ (Value.slice A' (n + m) c').ownBlock = some w.heap.size) → (A' = none ↔ v = .slice none 0 0 ∧ m = 0) → R (.slice A' (n + m) c') w') : Runs P ops o a w R := by
  obtain ⟨A', c', w', hrun, h2, h3, h4, h5⟩ := run_app (P := P) w t o.type e z size bytes ht hi hzs hsz hb0 v n xs hown F vs m news hr h1 hb
  refine runs_of hg ?_
  unfold execOp
  simp only [ho, resolve, invoke, builtin, Sem.run_bind, Sem.run_pure, Result.andThen_ok, List.map_toArray, List.map_cons, List.map_nil, hs, hx, hrun]
  exact h A' c' w' h2 ((Mod.refl _ _).grown h3 (fun k hk _ => hk)) h4 h5

theorem runs_copy (hgd : o.guard = none) (d s : Operand) (dT sT : TypeId)
    (ho : o.op = .call { callee := .builtin .copy, args := #[d, s], argTypes := #[dT, sT] }) (elem : TypeId) (hu : P.underlying dT = some (.slice elem)) (hsz : (P.info? elem).map (·.size) = some 1)
    (g n cap : Nat) (xs : List Value) (hown : w.ownsRow 0 elem 1 (.slice (some ⟨g, 0, none⟩) n cap) n xs) (off dLen dCap : Nat) (hd : a.eval d = .slice (some ⟨g, off, none⟩) dLen dCap)
    (F : Nat → Prop) (vs : Value) (hs : a.eval s = vs) (m : Nat) (news : List Value) (hr : Sl w F 1 vs m news) (h1 : ∀ u ∈ news, u.oneCell' = true) (hm : m ≤ dLen) (hfit : off + m ≤ n)
    (h : ∀ w', w'.ownsRow 0 elem 1 (.slice (some ⟨g, 0, none⟩) n cap) n (splice xs off news) → Mod (fun i => i = g) w w' → R (.int .i64 (m : Int)) w') : Runs P ops o a w R := by
  obtain ⟨w', hrun, h2, h3⟩ := run_copy_at (P := P) dT sT o.type elem hu hsz g n cap xs hown off dLen dCap F vs m news hr h1 hm hfit
  refine runs_of hgd ?_
  unfold execOp
  simp only [ho, resolve, invoke, builtin, Sem.run_bind, Sem.run_pure, Result.andThen_ok, List.map_toArray, List.map_cons, List.map_nil, hd, hs, hrun]
  exact h w' h2 h3
end

theorem zeros_u8 (n : Nat) : (madeCells (Value.int .u8 0).cells (n * 1)).toList = B8 (List.replicate n 0) := by
  rw [Nat.mul_one]
  have := toList_madeCells_one (.int .u8 0) n
  simp only [Value.cells, B8, List.map_replicate] at this ⊢
  exact this
end Go.Proofs.YteeijjhgdplifaaGreatDoor
