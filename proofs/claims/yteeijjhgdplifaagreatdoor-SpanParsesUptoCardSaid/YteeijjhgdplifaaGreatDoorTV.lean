/- The document's ranges: rows of terms. -/
import Derived.Test.YteeijjhgdplifaaGreatDoorTU
import Derived.Test.YteeijjhgdplifaaGreatDoorTT
namespace Go.Proofs.YteeijjhgdplifaaGreatDoor
open Go.RowKit

abbrev Tm := List UInt8 × Ver
def Tm.cells (t : Tm) : List Value := tcells t.1 t.2
def termsL (ts : List Tm) : List Value := ts.flatMap Tm.cells
def TOk (t : Tm) : Prop := (t.1 = [42] ∨ t.1 ∈ allOps) ∧ t.2.Ok ∧ t.2.t.length ≤ 12 ∧ (t.1 ≠ [42] → t.2.may = true)
def TOks (ts : List Tm) : Prop := ∀ t ∈ ts, TOk t
theorem Tm.cells_len {t : Tm} (h : t.2.Ok) : (Tm.cells t).length = 7 := by
  have h2 : t.2.cells.length = 6 := by have := Ver.cells_size h; simpa using this
  show (Value.string (bl t.1) :: t.2.cells).length = 7
  rw [List.length_cons, h2]
theorem Tm.cells_one (t : Tm) : ∀ v ∈ Tm.cells t, v.oneCell' = true := by
  intro v hv
  rcases List.mem_cons.1 hv with rfl | hv
  · rfl
  · have := Ver.cells_one t.2
    rw [Array.all_eq_true_iff_forall_mem] at this
    exact this v (by simpa using hv)
theorem termsL_len : ∀ {ts : List Tm}, TOks ts → (termsL ts).length = ts.length * 7
  | [], _ => rfl
  | t :: ts, h => by
    have := termsL_len (ts := ts) (fun x hx => h x (List.mem_cons_of_mem _ hx))
    have h7 := Tm.cells_len (h t (by simp)).2.1
    unfold termsL at this ⊢
    rw [List.flatMap_cons, List.length_append, this, h7, List.length_cons]; omega
theorem termsL_one (ts : List Tm) : ∀ u ∈ termsL ts, u.oneCell' = true := by
  intro u hu
  unfold termsL at hu
  obtain ⟨t, _, hu⟩ := List.mem_flatMap.1 hu
  exact Tm.cells_one t u hu
theorem tcells_in {ts : List Tm} (hok : TOks ts) {k : Nat} {t : Tm} (hk : ts[k]? = some t) {j : Nat} {v : Value} (hv : (Tm.cells t)[j]? = some v) : (termsL ts)[k * 7 + j]? = some v := by
  have ht := (hok t (List.mem_of_getElem? hk)).2.1
  have hj : j < 7 := by have := (List.getElem?_eq_some_iff.1 hv).1; rw [Tm.cells_len ht] at this; exact this
  induction ts generalizing k with
  | nil => simp at hk
  | cons d ts ih =>
    have e : termsL (d :: ts) = Tm.cells d ++ termsL ts := by unfold termsL; rw [List.flatMap_cons]
    have h7 := Tm.cells_len (hok d (by simp)).2.1
    rw [e]
    cases k with
    | zero =>
      obtain rfl : d = t := by simpa using hk
      rw [Nat.zero_mul, Nat.zero_add, List.getElem?_append_left (by omega)]
      exact hv
    | succ k =>
      rw [List.getElem?_append_right (by omega), h7, show (k + 1) * 7 + j - 7 = k * 7 + j by omega]
      exact ih (fun x hx => hok x (List.mem_cons_of_mem _ hx)) (by simpa using hk)
theorem tmload {w : World} {g : Nat} {t : Tm} (h : Blk w g 64 (Tm.cells t)) (ht : t.2.Ok) : (loadVar 64 ⟨g, 0, none⟩).run Tryz.prog w = .ok (.agg (Tm.cells t).toArray) w :=
  run_loadVar_row w g _ _ (Tm.cells t).toArray (0, 0) _ h Tryz.underlying64 rfl (by
    have e : (Tm.cells t).toArray.size = 7 := by simpa using Tm.cells_len ht
    have hi : (Tryz.prog.info? 64).map (·.size) = some 7 := by kernel_rfl
    rw [e]; exact hi)
/-- a row of terms of the call's own -/
def TRow (w : World) (B : Nat) (A : Option Addr) (c n : Nat) (ts : List Tm) : Prop := ts.length = n ∧ TOks ts ∧ w.ownsRow 0 64 7 (.slice A n c) n (termsL ts) ∧ ∀ b, (Value.slice A n c).ownBlock = some b → B ≤ b
theorem TRow.nil_ (w : World) (B : Nat) : TRow w B none 0 0 [] := ⟨rfl, fun t ht => (by cases ht), own_nil0 _ _ _, fun b hb => by simp [Value.ownBlock] at hb⟩
theorem TRow.below {w w' : World} {B : Nat} {A : Option Addr} {c n : Nat} {ts : List Tm} (h : TRow w B A c n ts) (hb : Below w.heap.size w w') : TRow w' B A c n ts := ⟨h.1, h.2.1, own_below h.2.2.1 hb, h.2.2.2⟩
theorem infoTm : (Tryz.prog.info? 64).map (fun i => (i.zero, i.size, i.bytes)) = some (some (.agg #[.string ⟨#[]⟩, .int .i64 0, .int .i64 0, .int .i64 0, .int .i64 0, .int .i64 0, .string ⟨#[]⟩]), 7, 72) := by kernel_rfl
theorem TRow.app {w w0 : World} {A A' : Option Addr} {c c' n : Nat} {ts : List Tm} {t : Tm} {F : Nat → Prop} (h : TRow w w0.heap.size A c n ts) (hb : Below w0.heap.size w0 w) (ht : TOk t) (hs : Sl w F 7 (.slice A' 1 c') 1 (Tm.cells t)) (hX : n + 1 ≤ 1000000) :
    ∃ A1 c1 w1, (Builtin.append_ #[62, 62] 62 #[.slice A n c, .slice A' 1 c']).run Tryz.prog w = .ok (.slice A1 (n + 1) c1) w1 ∧ TRow w1 w0.heap.size A1 c1 (n + 1) (ts ++ [t]) ∧ Below w0.heap.size w0 w1 := by
  obtain ⟨A7, c7, w7, hap, o7, gr7, a7, _⟩ := run_app (P := Tryz.prog) w 62 62 64 _ 7 72 Tryz.underlying62 infoTm rfl (by decide) (by decide) (.slice A n c) n _ h.2.2.1 F (.slice A' 1 c') 1 (Tm.cells t) hs (Tm.cells_one t) (by omega)
  refine ⟨A7, c7, w7, hap, ⟨by rw [List.length_append, h.1]; rfl, fun x hx => ?_, ?_, fun b hb' => ?_⟩, hb.trans ⟨gr7.os, gr7.tape, gr7.output, gr7.size, fun b hb' => gr7.block b (by have := hb.size; omega) (fun e => by have := h.2.2.2 b e.symm; omega)⟩⟩
  · rcases List.mem_append.1 hx with hx | hx
    · exact h.2.1 x hx
    · rw [List.mem_singleton.1 hx]; exact ht
  · rw [show termsL (ts ++ [t]) = termsL ts ++ Tm.cells t by unfold termsL; simp]
    exact o7
  · rcases a7 with h1 | h1
    · exact h.2.2.2 b (h1 ▸ hb')
    · rw [h1] at hb'; injection hb' with hb'; have := hb.size; omega
theorem TRow.lower {w : World} {B B' : Nat} {A : Option Addr} {c n : Nat} {ts : List Tm} (h : TRow w B A c n ts) (hB : B' ≤ B) : TRow w B' A c n ts := ⟨h.1, h.2.1, h.2.2.1, fun b hb => Nat.le_trans hB (h.2.2.2 b hb)⟩
/-- each text of a row may be read -/
theorem SRow.reads {w : World} {B : Nat} {A : Option Addr} {c n : Nat} {xs : List (List UInt8)} (h : SRow w B A c n xs) (hn : 0 < n) : ∃ g, A = some ⟨g, 0, none⟩ ∧ ∀ k x, xs[k]? = some x → w.cell? ⟨g, k, none⟩ = some (.string (bl x)) := by
  obtain ⟨g, cap, hv, _, hgl⟩ := h.2.1.form hn
  simp only [Value.slice.injEq] at hv
  obtain ⟨rfl, _, _⟩ := hv
  refine ⟨g, rfl, fun k x hk => ?_⟩
  have h1 := h.2.1.cells rfl k _ (strsL_get hk)
  rw [add_lit0, Nat.zero_add] at h1
  exact h1
/-- each term of a row may be read -/
theorem TRow.reads {w : World} {B : Nat} {A : Option Addr} {c n : Nat} {ts : List Tm} (h : TRow w B A c n ts) (hn : 0 < n) : ∃ g, A = some ⟨g, 0, none⟩ ∧ ∀ wr, Below w.heap.size w wr → ∀ k t, ts[k]? = some t → (loadVar 64 ⟨g, k * 7, none⟩).run Tryz.prog wr = .ok (.agg (Tm.cells t).toArray) wr := by
  obtain ⟨g, cap, hv, _, hgl⟩ := h.2.2.1.form hn
  simp only [Value.slice.injEq] at hv
  obtain ⟨rfl, _, _⟩ := hv
  refine ⟨g, rfl, fun wr hb k t hk => ?_⟩
  have ht := (h.2.1 t (List.mem_of_getElem? hk)).2.1
  refine run_loadVar_mid wr g (k * 7) _ (Tm.cells t) _ (fun j v hj => ?_) Tryz.underlying64 rfl ?_
  · have h1 := h.2.2.1.cells rfl (k * 7 + j) _ (tcells_in h.2.1 hk hj)
    rw [add_lit0, Nat.zero_add] at h1
    exact (hb.cell (p := ⟨g, k * 7 + j, none⟩) (World.block_lt_of_cell? w _ h1)).trans h1
  · have hi : (Tryz.prog.info? 64).map (·.size) = some 7 := by kernel_rfl
    rw [Tm.cells_len ht]; exact hi
/-- a row of rows of terms -/
structure TTRow (w : World) (B : Nat) (A : Option Addr) (c n : Nat) (tss : List (List Tm)) (vals : List Value) : Prop where
  len : vals.length = n
  lent : tss.length = n
  own : w.ownsRow 0 62 1 (.slice A n c) n vals
  ge : ∀ b, (Value.slice A n c).ownBlock = some b → B ≤ b
  at_ : ∀ (k : Nat) (ts : List Tm), tss[k]? = some ts → ∃ A' c', vals[k]? = some (Value.slice A' ts.length c') ∧ TRow w B A' c' ts.length ts
theorem TTRow.nil_ (w : World) (B : Nat) : TTRow w B none 0 0 [] [] := ⟨rfl, rfl, own_nil0 _ _ _, fun b hb => by simp [Value.ownBlock] at hb, fun k ts h => by simp at h⟩
theorem TTRow.below {w w' : World} {B : Nat} {A : Option Addr} {c n : Nat} {tss : List (List Tm)} {vals : List Value} (h : TTRow w B A c n tss vals) (hb : Below w.heap.size w w') : TTRow w' B A c n tss vals :=
  ⟨h.len, h.lent, own_below h.own hb, h.ge, fun k ts hk => by obtain ⟨A', c', h1, h2⟩ := h.at_ k ts hk; exact ⟨A', c', h1, h2.below hb⟩⟩
theorem infoTT : (Tryz.prog.info? 62).map (fun i => (i.zero, i.size, i.bytes)) = some (some (.slice none 0 0), 1, 24) := by kernel_rfl
theorem TTRow.app {w w0 : World} {A A' A2 : Option Addr} {c c' c2 n : Nat} {tss : List (List Tm)} {vals : List Value} {ts : List Tm} {F : Nat → Prop} (h : TTRow w w0.heap.size A c n tss vals) (hb : Below w0.heap.size w0 w) (ht : TRow w w0.heap.size A2 c2 ts.length ts) (hs : Sl w F 1 (.slice A' 1 c') 1 [.slice A2 ts.length c2]) (hX : n + 1 ≤ 1000000) :
    ∃ A1 c1 w1, (Builtin.append_ #[32, 32] 32 #[.slice A n c, .slice A' 1 c']).run Tryz.prog w = .ok (.slice A1 (n + 1) c1) w1 ∧ TTRow w1 w0.heap.size A1 c1 (n + 1) (tss ++ [ts]) (vals ++ [.slice A2 ts.length c2]) ∧ Below w0.heap.size w0 w1 ∧ ∀ B' A' c' n' xs, SRow w B' A' c' n' xs → SRow w1 B' A' c' n' xs := by
  obtain ⟨A7, c7, w7, hap, o7, gr7, a7, _⟩ := run_app (P := Tryz.prog) w 32 32 62 _ 1 24 Tryz.underlying32 infoTT rfl (by decide) (by decide) (.slice A n c) n _ h.own F (.slice A' 1 c') 1 [.slice A2 ts.length c2] hs (by simp [Value.oneCell']) (by omega)
  have keep : ∀ {A3 : Option Addr} {c3 n3 : Nat} {us : List Tm}, TRow w w0.heap.size A3 c3 n3 us → TRow w7 w0.heap.size A3 c3 n3 us := fun {A3 c3 n3 us} hu => ⟨hu.1, hu.2.1, own_grown hu.2.2.1 gr7 (fun b hb' e => own_ne hu.2.2.1 h.own (by decide) b hb' e), hu.2.2.2⟩
  refine ⟨A7, c7, w7, hap, ⟨by rw [List.length_append, h.len]; rfl, by rw [List.length_append, h.lent]; rfl, o7, fun b hb' => ?_, fun k us hk => ?_⟩, hb.trans ⟨gr7.os, gr7.tape, gr7.output, gr7.size, fun b hb' => gr7.block b (by have := hb.size; omega) (fun e => by have := h.ge b e.symm; omega)⟩, fun B' A' c' n' xs hx => ⟨hx.1, own_grown hx.2.1 gr7 (fun b hb' e => own_ne hx.2.1 h.own (by decide) b hb' e), hx.2.2⟩⟩
  · rcases a7 with h1 | h1
    · exact h.ge b (h1 ▸ hb')
    · rw [h1] at hb'; injection hb' with hb'; have := hb.size; omega
  · by_cases hkn : k < n
    · rw [List.getElem?_append_left (by rw [h.lent]; exact hkn)] at hk
      obtain ⟨A3, c3, h1, h2⟩ := h.at_ k us hk
      exact ⟨A3, c3, by rw [List.getElem?_append_left (by rw [h.len]; exact hkn)]; exact h1, keep h2⟩
    · rw [List.getElem?_append_right (by rw [h.lent]; omega), h.lent] at hk
      have hk0 : k - n = 0 := by
        rcases Nat.eq_zero_or_pos (k - n) with h | h
        · exact h
        · rw [List.getElem?_eq_none (by simp; omega)] at hk; cases hk
      rw [hk0] at hk
      obtain rfl : ts = us := by simpa using hk
      refine ⟨A2, c2, ?_, keep ht⟩
      rw [List.getElem?_append_right (by rw [h.len]; omega), h.len, hk0]
      rfl
end Go.Proofs.YteeijjhgdplifaaGreatDoor
/- The document's ranges: term. -/
namespace Go.Proofs.YteeijjhgdplifaaGreatDoor
open Go.RowKit

theorem runs_store_row {P : Program} {ops : Array Oper} {o : Oper} {a : Act} {w : World} {R : Value → World → Prop} (hgd : o.guard = none) (ty : TypeId) (x y : Operand) (ho : o.op = .store ty x y)
    (g : Nat) (cells : Array Value) (hx : a.eval x = .pointer (some ⟨g, 0, none⟩)) (hy : a.eval y = .agg cells)
    (t : TypeId) (old : Array Value) (hg : w.heap[g]? = some (.cells old t (0, 0))) (hi : (P.info? ty).map (·.size) = some cells.size)
    (hold : old.size = cells.size) (h1 : cells.all (·.oneCell') = true) (h : R undef (w.setRow g cells)) : Runs P ops o a w R := by
  unfold Runs Region.wanted
  rw [hgd]
  show Out P R ((execOp a.eval o).run P w)
  unfold execOp
  simp only [ho, hx, hy, Instr.storeAt, Instr.sureAddr, Sem.run_bind, Sem.run_pure, Result.andThen_ok, run_storeVar_row w g t ty old cells hg hi hold h1]
  exact h
theorem runs_build_two {P : Program} {ops : Array Oper} {o : Oper} {a : Act} {w : World} {R : Value → World → Prop} (hg : o.guard = none) (t : TypeId) (i j : Nat) (x y : Operand) (ho : o.op = .build t #[(i, x), (j, y)]) (vx vy : Value) (hx : a.eval x = vx) (hy : a.eval y = vy) (cells : Array Value)
    (hf : P.built t [(i, vx), (j, vy)] = some cells) (h : R (.agg cells) w) : Runs P ops o a w R := by
  unfold Runs Region.wanted
  rw [hg]
  show Out P R ((execOp a.eval o).run P w)
  unfold execOp
  have hf2 : P.built t ((#[(i, x), (j, y)] : Array (Nat × Operand)).map fun (i, x) => (i, a.eval x)).toList = some cells := by simpa [hx, hy] using hf
  simp only [ho, Sem.run_bind, run_build w t _ cells hf2, Result.andThen_ok]
  exact h
abbrev zt : Array Value := #[.string ⟨#[]⟩, .int .i64 0, .int .i64 0, .int .i64 0, .int .i64 0, .int .i64 0, .string ⟨#[]⟩]
set_option maxRecDepth 100000 in
theorem built_tm (op : List UInt8) {v : Ver} (hv : v.Ok) : Tryz.prog.built 64 [(0, .string (bl op)), (1, .agg v.cells.toArray)] = some (Tm.cells (op, v)).toArray := by
  obtain ⟨a, b, c, d, h⟩ := Ver.four hv
  have e : v.cells.toArray = #[.int .i64 a, .int .i64 b, .int .i64 c, .int .i64 d, .int .i64 v.c, .string (bl v.t)] := by unfold Ver.cells; rw [h]; rfl
  have e2 : (Tm.cells (op, v)).toArray = #[.string (bl op), .int .i64 a, .int .i64 b, .int .i64 c, .int .i64 d, .int .i64 v.c, .string (bl v.t)] := by unfold Tm.cells tcells Ver.cells; rw [h]; rfl
  rw [e, e2]
  have hz : (Tryz.prog.info? 64).map (fun i => i.zero) = some (some (.agg zt)) := by kernel_rfl
  cases hq : Tryz.prog.info? 64 with
  | none => rw [hq] at hz; cases hz
  | some it =>
    rw [hq] at hz
    have hz' : it.zero = some (.agg zt) := Option.some.inj hz
    have hm : [({ name := "Op", type := 9, offset := 0, embedded := false, tag := "", pkgPath := "", byteOffset := 0 } : Field), { name := "V", type := 37, offset := 1, embedded := false, tag := "", pkgPath := "", byteOffset := 16 }].mapM (fun f => (Tryz.prog.info? f.type).map fun i => (f.offset, i.size)) = some [(0, 1), (1, 6)] := by kernel_rfl
    unfold Program.built
    rw [hq, Tryz.underlying64]
    simp only [hz']
    rw [hm]
    simp [Instr.fill, Value.cells, zt]
theorem refOps_step {s op : List UInt8} {i : Nat} (h : allOps[i]? = some op) : refOps s (allOps.drop i) = if op.length < s.length ∧ s.take op.length = op then (readVer (s.drop op.length)).map (op, ·) else refOps s (allOps.drop (i + 1)) := by
  obtain ⟨h1, h2⟩ := List.getElem?_eq_some_iff.1 h
  rw [List.drop_eq_getElem_cons h1, h2, refOps]
set_option maxRecDepth 100000 in
set_option maxHeartbeats 8000000 in
theorem refTerm_ok (s : ByteArray) (hs : s.size ≤ 4000000000) (w : World) : Calls Tryz.prog 32 #[.string s] w fun e w' => ∃ T : Tm, e = .returned (.tuple #[.agg (Tm.cells T).toArray, .bool (refTerm s.data.toList).isSome]) ∧ T.2.Ok ∧ (∀ T', refTerm s.data.toList = some T' → T = T') ∧ Below w.heap.size w w' := by
  obtain ⟨w1, hw1⟩ : ∃ w1, w1 = w.alloc (.cells zt 64) := ⟨_, rfl⟩
  obtain ⟨g2, hg2⟩ : ∃ g2, g2 = w.heap.size := ⟨_, rfl⟩
  have hb1 : Below w.heap.size w w1 := by rw [hw1]; exact (Below.refl _ _).alloc (Nat.le_refl _) _
  have k2 : Blk w1 g2 64 zt.toList := by rw [hw1, hg2]; exact Blk.new _ _ zt
  have hge : w.heap.size ≤ g2 := by rw [hg2]; exact Nat.le_refl _
  obtain ⟨OKB, hOKB⟩ : ∃ OKB, OKB = (refTerm s.data.toList).isSome := ⟨_, rfl⟩
  rw [← hOKB]
  have HOK := Lib.hid hOKB
  have K2 := Lib.hid k2
  have HB1 := Lib.hid hb1
  have HGE := Lib.hid hge
  have HS := Lib.hid hs
  have HW1 := Lib.hid hw1
  have HG2 := Lib.hid hg2
  clear hOKB k2 hb1 hge hs hw1 hg2
  by_cases h42 : s.data.toList = [42]
  · obtain rfl : s = bl [42] := by rw [← h42]
    have HRT : Hid (refTerm (bl [42]).data.toList = some ([42], Ver.zero)) := Lib.hid rfl
    obtain ⟨we, hwe⟩ : ∃ we, we = w1.setRow g2 (Tm.cells ([42], Ver.zero)).toArray := ⟨_, rfl⟩
    have ke : Blk we g2 64 (Tm.cells ([42], Ver.zero)) := by rw [hwe]; exact K2.out.setRow_ _
    have HBE : Hid (Below w.heap.size w we) := Lib.hid (by rw [hwe]; exact (((Mod.of_below HB1.out).trans ((Mod.refl (fun b => w.heap.size ≤ b) w1).setRow (fun _ => HGE.out) _) (fun _ _ h => h)).below (Nat.le_refl _) (fun _ h => h)))
    have HL := Lib.hid (tmload ke rfl)
    have HZ2 : Hid (w1.heap[g2]? = some (.cells zt 64 (0, 0))) := Lib.hid K2.out
    have HIT : Hid ((Tryz.prog.info? 64).map (·.size) = some (Tm.cells ([42], Ver.zero)).toArray.size) := Lib.hid (by kernel_rfl)
    have HONT : Hid ((Tm.cells ([42], Ver.zero)).toArray.all (·.oneCell') = true) := Lib.hid (all_oneCell_toArray (Tm.cells_one _))
    have HWE := Lib.hid hwe
    clear hwe ke h42
    go_enter Tryz.func32, Tryz.ntmps32
    go_upto_region 1 with fail
    rw [← HW1.out, ← HG2.out]
    go_wp2_with (refine wpList_store_row rfl 64 (.tmp 2) (.tmp 10) rfl g2 (Tm.cells ([42], Ver.zero)).toArray rfl rfl _ _ HZ2.out HIT.out rfl HONT.out ?_)
    rw [← HWE.out]
    refine bodyPost_ret (results_cell2 rfl _ _ g2 _ rfl HL.out) rfl ?_
    exact ⟨[42], Ver.zero, by rw [HOK.out, HRT.out]; rfl, rfl, fun a b h => by rw [HRT.out] at h; have := Option.some.inj h; simpa using this, HBE.out⟩
  have q1 : ¬ s.toList = [42] := by rw [Lib.toList_data]; exact h42
  have q2 : (s.toList == [42]) = false := by simpa using q1
  have HRT : Hid (refTerm s.data.toList = refOps s.data.toList (allOps.drop 0)) := Lib.hid (by unfold refTerm; rw [if_neg h42]; rfl)
  obtain ⟨w2, hw2⟩ : ∃ w2, w2 = w1.alloc (.cells #[.string ⟨#[62, 61]⟩, .string ⟨#[60, 61]⟩, .string ⟨#[62]⟩, .string ⟨#[60]⟩, .string ⟨#[61]⟩, .string ⟨#[94]⟩, .string ⟨#[126]⟩] 9) := ⟨_, rfl⟩
  obtain ⟨gL, hgL⟩ : ∃ gL, gL = w1.heap.size := ⟨_, rfl⟩
  have hb2 : Below w1.heap.size w1 w2 := by rw [hw2]; exact (Below.refl _ _).alloc (Nat.le_refl _) _
  have kL : Blk w2 gL 9 (strsL allOps) := by rw [hw2, hgL]; exact Blk.new _ _ _
  have HB2 : Hid (Below w.heap.size w w2) := Lib.hid (HB1.out.trans (hb2.mono HB1.out.size))
  have K22 := Lib.hid (K2.out.below' hb2)
  have KL := Lib.hid kL
  have HW2 := Lib.hid hw2
  have HGL := Lib.hid hgL
  clear hw2 hgL hb2 kL h42 K2
  go_enter Tryz.func32, Tryz.ntmps32
  go_upto_region 1 with fail
  rw [← HW1.out, ← HG2.out]
  go_upto_region 4 with fail
  rw [← HW2.out, ← HGL.out]
  clear HW1 HW2
  go_wp2_with fail
  go_loopg [5] 7 (fun kq iv wr => ∃ i : Nat, iv = .int .i64 i ∧ i ≤ 7 ∧ kq = 7 - i ∧ Hid (refTerm s.data.toList = refOps s.data.toList (allOps.drop i)) ∧ wr.heap = w2.heap ∧ Hid (Below w2.heap.size w2 wr))
  case atStart => exact ⟨0, rfl, by omega, rfl, HRT, rfl, Lib.hid (Below.refl _ _)⟩
  case round =>
  clear HRT
  obtain ⟨i, rfl, hi, rfl, HRT, hheap, HB⟩ := hrel
  have HHP := Lib.hid hheap
  clear hheap
  by_cases hlt : i < 7
  · have hltI : (i : Int) < 7 := by omega
    have hi0 : 0 ≤ (i : Int) := by omega
    obtain ⟨op, hop⟩ : ∃ op, allOps[i]? = some op := ⟨_, List.getElem?_eq_getElem (show i < 7 from hlt)⟩
    have hst := refOps_step (s := s.data.toList) hop
    rw [← HRT.out] at hst
    have HST := Lib.hid hst
    have HOPM : Hid (op ∈ allOps) := Lib.hid (List.mem_of_getElem? hop)
    obtain ⟨OP, hOP⟩ : ∃ OP, OP = bl op := ⟨_, rfl⟩
    have hopl : op.length ≤ 2 := by
      have := List.mem_of_getElem? hop
      simp only [allOps, List.mem_cons, List.not_mem_nil, or_false] at this
      rcases this with rfl | rfl | rfl | rfl | rfl | rfl | rfl <;> decide
    have hsz : OP.size = op.length := by rw [hOP, bl_size]
    have hcl : w2.cell? ⟨gL, i, none⟩ = some (.string OP) := by rw [KL.out.cell, strsL_get hop, hOP]
    have HCR : Hid (wr.cell? ⟨gL, i, none⟩ = some (.string OP)) := Lib.hid (((HB.out).cell (p := ⟨gL, i, none⟩) (World.block_lt_of_cell? _ _ hcl)).trans hcl)
    obtain ⟨wd, hwd⟩ : ∃ wd, wd = wr.drew := ⟨_, rfl⟩
    have HCL : Hid (wd.cell? ⟨gL, i, none⟩ = some (.string OP)) := Lib.hid (by rw [hwd]; exact HCR.out)
    have hk2 : OP.size ≤ 2 := by omega
    have hss := HS.out
    have HTK : Hid (op.length < s.data.toList.length → (s.extract 0 OP.size).toList = s.data.toList.take op.length) := Lib.hid (fun h => by
      rw [Lib.toList_data, ByteArray.data_extract, Array.toList_extract, List.extract_eq_take_drop, List.drop_zero, Nat.sub_zero, hsz])
    have HOPT : Hid (OP.toList = op) := Lib.hid (by rw [hOP, bl_toList])
    have HSL : Hid (s.data.toList.length = s.size) := Lib.hid (Lib.size_eq s).symm
    have HKL : Hid (OP.size = op.length) := Lib.hid hsz
    have HWD := Lib.hid hwd
    have HOPE := Lib.hid hOP
    clear hop hst hOP hopl hsz hcl
    by_cases hlen : OP.size < s.size
    · have hlenI : (OP.size : Int) < (s.size : Int) := by omega
      have hkleI : (OP.size : Int) ≤ (s.size : Int) := by omega
      have hkle : OP.size ≤ s.size := by omega
      have hk0 : 0 ≤ (OP.size : Int) := by omega
      have HTK2 : Hid ((s.extract 0 OP.size).toList = s.data.toList.take op.length) := Lib.hid (HTK.out (by rw [HSL.out, ← HKL.out]; exact hlen))
      obtain ⟨SXT, hSXT⟩ : ∃ S, S = s.extract 0 OP.size := ⟨_, rfl⟩
      have HSXT := Lib.hid hSXT
      by_cases hm : s.data.toList.take op.length = op
      · have qm : (SXT.toList == OP.toList) = true := by rw [hSXT, HTK2.out, HOPT.out, hm]; exact beq_self_eq_true _
        have HRR : Hid (refTerm s.data.toList = (readVer (s.data.toList.drop op.length)).map (op, ·)) := Lib.hid (by rw [HST.out, if_pos ⟨by rw [HSL.out, ← HKL.out]; exact hlen, hm⟩])
        have eSX : s.extract 0 OP.size = SXT := hSXT.symm
        clear hm hSXT
        go_upto_region 7 with fail
        try simp only [Act.put, List.setIfInBounds_toArray, List.set_cons_zero, List.set_cons_succ]
        obtain ⟨Inv, hInv⟩ : ∃ Inv : Done → World → Prop, Inv = fun _ wI => (fun wI => wI = wd) wI := ⟨_, rfl⟩
        have HI := Lib.hid hInv
        have hcz : Hid (∀ τ wI, Inv τ wI → wI.cell? ⟨gL, i, none⟩ = some (.string OP)) := by
          intro τ wI h
          rw [hInv] at h
          rw [show wI = wd from h]; exact HCL.out
        have H00 : Hid (Inv Done.none wr.drew) := by rw [hInv]; exact hwd.symm
        clear hInv hwd
        refine wp_region_inv (by kernel_rfl) [⟨0, false, [], []⟩, ⟨1, false, [], []⟩, ⟨2, false, [], []⟩, ⟨3, false, [], []⟩, ⟨4, false, [], []⟩, ⟨5, false, [], []⟩, ⟨6, false, [], []⟩, ⟨7, false, [], []⟩, ⟨8, false, [], []⟩, ⟨9, false, [], []⟩, ⟨10, false, [], []⟩, ⟨11, false, [], []⟩, ⟨12, false, [], []⟩, ⟨13, false, [], []⟩, ⟨14, false, [], []⟩, ⟨15, false, [], []⟩, ⟨16, false, [], []⟩, ⟨17, false, [], []⟩, ⟨18, false, [], []⟩, ⟨19, false, [], []⟩, ⟨20, false, [], []⟩, ⟨21, false, [], []⟩] (by kernel_rfl) Inv (fun _ _ => True) (fun _ => ⟨undef, trivial⟩) H00.out ?_
        iterate 22 (apply WpI.pure; (simp only [List.getElem?_toArray, List.getElem?_cons_succ, List.getElem?_cons_zero]; rfl); (intro τ wI hA hI; have f0 := hcz.out τ wI hI; go_simp; exact ⟨hI, Is.rfl'⟩); simp only [Act.put, List.setIfInBounds_toArray, List.set_cons_zero, List.set_cons_succ])
        refine WpI.done ?_
        intro w5 hI
        rw [HI.out] at hI
        have hE := hI
        obtain rfl := hE
        have HCL2 := HCL
        obtain ⟨SR, hSR⟩ : ∃ S, S = s.extract OP.size s.size := ⟨_, rfl⟩
        have eSR : s.extract OP.size s.size = SR := hSR.symm
        obtain ⟨U, hU⟩ : ∃ U, U = (rv (s.data.toList.drop op.length)).1 := ⟨_, rfl⟩
        obtain ⟨E, hE⟩ : ∃ E, E = (rv (s.data.toList.drop op.length)).2 := ⟨_, rfl⟩
        have HPA : Hid (∀ wI, Calls Tryz.prog 49 #[.string SR] wI fun e w' => e = .returned (.tuple #[.agg U.cells.toArray, .int .i64 E]) ∧ Below wI.heap.size wI w') := Lib.hid (fun wI => by
          have h := refParse_ok SR (by rw [hSR, extract_end, bl_size, List.length_drop]; have := HSL.out; have := HS.out; omega) wI
          rw [show SR.data.toList = s.data.toList.drop op.length by rw [hSR, extract_end, HKL.out]] at h
          rw [hU, hE]; exact h)
        have hUE : U.Ok ∧ ((E = 0 ∧ refTerm s.data.toList = some (op, U)) ∨ (E = 20 ∧ refTerm s.data.toList = none)) := by
          rw [HRR.out, hU, hE]
          cases hr : readVer (s.data.toList.drop op.length) with
          | none => rw [rv_none hr]; exact ⟨rfl, .inr ⟨rfl, rfl⟩⟩
          | some v => rw [rv_some hr]; exact ⟨(readVer_sound hr).1, .inl ⟨rfl, rfl⟩⟩
        have HUO := Lib.hid hUE.1
        have HUE := Lib.hid hUE.2
        have cL := HCL.out
        clear hI hcz H00 HI HRT HST HRR hSR hU hE hUE qm
        go_wp2_with fail
        refine (HPA.out _).mono ?_
        rintro e w7 ⟨rfl, hb7⟩
        obtain ⟨g6, hg6⟩ : ∃ g6, g6 = w7.heap.size := ⟨_, rfl⟩
        obtain ⟨w8, hw8⟩ : ∃ w8, w8 = (w7.alloc (.cells zr 37)).setRow g6 U.cells.toArray := ⟨_, rfl⟩
        have q4 := laid_rver w7 U
        have hb8 : Below w7.heap.size w7 w8 := by rw [hw8, hg6]; exact q4.2
        have k6 : Blk w8 g6 37 U.cells := by rw [hw8, hg6]; exact q4.1
        have hb5 : Below w2.heap.size w2 w5 := by rw [HWD.out]; exact HB.out.drew
        have hb58 : Below w5.heap.size w5 w8 := hb7.trans (hb8.mono hb7.size)
        have hb28 : Below w2.heap.size w2 w8 := hb5.trans (hb58.mono hb5.size)
        have HB8 : Hid (Below w.heap.size w w8) := Lib.hid (HB2.out.trans (hb28.mono HB2.out.size))
        have hz8 : w8.heap[g2]? = some (.cells zt 64 (0, 0)) := by
          have h5 : w5.heap[g2]? = some (.cells zt 64 (0, 0)) := by rw [HWD.out]; show wr.heap[g2]? = _; rw [HHP.out]; exact K22.out
          exact (hb58.block g2 (Array.getElem?_eq_some_iff.1 h5).1).trans h5
        have hc8 : w8.cell? ⟨gL, i, none⟩ = some (.string OP) := (hb58.cell (p := ⟨gL, i, none⟩) (World.block_lt_of_cell? _ _ HCL.out)).trans HCL.out
        obtain ⟨wd, hwd⟩ : ∃ wd, wd = w8.drew := ⟨_, rfl⟩
        obtain ⟨we, hwe⟩ : ∃ we, we = wd.setRow g2 (Tm.cells (op, U)).toArray := ⟨_, rfl⟩
        have HCL2 : Hid (wd.cell? ⟨gL, i, none⟩ = some (.string OP)) := Lib.hid (by rw [hwd]; exact hc8)
        have HL6 : Hid ((loadVar 37 ⟨g6, 0, none⟩).run Tryz.prog wd = .ok (.agg U.cells.toArray) wd) := Lib.hid (by rw [hwd]; exact rload k6.drew HUO.out)
        have HZ2 : Hid (wd.heap[g2]? = some (.cells zt 64 (0, 0))) := Lib.hid (by rw [hwd]; exact hz8)
        have HBU : Hid (Tryz.prog.built 64 [(0, .string OP), (1, .agg U.cells.toArray)] = some (Tm.cells (op, U)).toArray) := Lib.hid (by rw [HOPE.out]; exact built_tm op HUO.out)
        have e7 : (Tm.cells (op, U)).toArray.size = 7 := by simpa using Tm.cells_len (t := (op, U)) HUO.out
        have HIT : Hid ((Tryz.prog.info? 64).map (·.size) = some (Tm.cells (op, U)).toArray.size) := Lib.hid (by rw [e7]; kernel_rfl)
        have HZT : Hid (zt.size = (Tm.cells (op, U)).toArray.size) := Lib.hid (by rw [e7]; rfl)
        have HONT : Hid ((Tm.cells (op, U)).toArray.all (·.oneCell') = true) := Lib.hid (all_oneCell_toArray (Tm.cells_one _))
        have ke : Blk we g2 64 (Tm.cells (op, U)) := by rw [hwe]; exact Blk.setRow_ (show Blk wd g2 64 zt.toList from HZ2.out) _
        have HBE : Hid (Below w.heap.size w we) := Lib.hid (by rw [hwe, hwd]; exact (((Mod.of_below HB8.out).drew).trans ((Mod.refl (fun b => w.heap.size ≤ b) w8.drew).setRow (fun _ => HGE.out) _) (fun _ _ h => h)).below (Nat.le_refl _) (fun _ h => h))
        have HL := Lib.hid (tmload ke HUO.out)
        have HZ6 : Hid ((w7.alloc (.cells zr 37)).heap[g6]? = some (.cells Ver.zero.cells.toArray 37 (0, 0))) := Lib.hid (by rw [hg6]; exact heap_alloc_new _ _)
        have HIU : Hid ((Tryz.prog.info? 37).map (·.size) = some U.cells.toArray.size) := Lib.hid (by rw [Ver.cells_size HUO.out]; kernel_rfl)
        have HZU : Hid (Ver.zero.cells.toArray.size = U.cells.toArray.size) := Lib.hid (by rw [Ver.cells_size HUO.out]; rfl)
        have HONU : Hid (U.cells.toArray.all (·.oneCell') = true) := Lib.hid (Ver.cells_one U)
        have HWE := Lib.hid hwe
        have HG6 := Lib.hid hg6
        have HW8 := Lib.hid hw8
        clear hb7 hg6 hw8 q4 hb8 k6 hb5 hb58 hb28 hz8 hc8 hwe e7 ke
        go_upto_region 9 with (refine wpList_store_row rfl 37 (.tmp 6) (.tmp 49) rfl g6 U.cells.toArray (by rw [HG6.out]; rfl) rfl _ _ HZ6.out HIU.out HZU.out HONU.out ?_)
        rw [← HG6.out, ← HW8.out]
        rcases HUE.out with ⟨rfl, hrt⟩ | ⟨rfl, hrt⟩
        · have HRE := Lib.hid hrt
          clear hrt HUE
          try simp only [Act.put, List.setIfInBounds_toArray, List.set_cons_zero, List.set_cons_succ]
          obtain ⟨Inv, hInv⟩ : ∃ Inv : Done → World → Prop, Inv = Chain1 8 (fun wI => wI = wd) (fun u wI => wI = we) := ⟨_, rfl⟩
          have HI := Lib.hid hInv
          have hcz : Hid (∀ τ wI, Inv τ wI → τ 8 = none → wI.cell? ⟨gL, i, none⟩ = some (.string OP)) := by
            intro τ wI h h9
            rw [hInv] at h
            obtain rfl := h.upto0 h9
            exact HCL2.out
          have H00 : Hid (Inv Done.none w8.drew) := by rw [hInv]; exact Chain1.start hwd.symm
          clear hInv hwd
          refine wp_region_inv (by kernel_rfl) [⟨0, false, [], [8]⟩, ⟨1, false, [], [8]⟩, ⟨2, false, [], [8]⟩, ⟨3, false, [], [8]⟩, ⟨4, false, [], [8]⟩, ⟨5, false, [], [8]⟩, ⟨6, false, [], []⟩, ⟨7, false, [], []⟩, ⟨8, true, [], []⟩, ⟨9, false, [8], []⟩] (by kernel_rfl) Inv (fun _ _ => True) (fun _ => ⟨undef, trivial⟩) H00.out ?_
          iterate 4 (apply WpI.pure; (simp only [List.getElem?_toArray, List.getElem?_cons_succ, List.getElem?_cons_zero]; rfl); (intro τ wI hA hI; have f0 := hcz.out τ wI hI (hA.2 8 (by decide)); go_simp; exact ⟨hI, Is.rfl'⟩); simp only [Act.put, List.setIfInBounds_toArray, List.set_cons_zero, List.set_cons_succ])
          (apply WpI.pure; (simp only [List.getElem?_toArray, List.getElem?_cons_succ, List.getElem?_cons_zero]; rfl); (intro τ wI hA hI; have f0 := hcz.out τ wI hI (hA.2 8 (by decide)); have hK := hI; rw [HI.out] at hK; have hK0 := hK.upto0 (hA.2 8 (by decide)); refine runs_load_a rfl 37 (.tmp 6) rfl ⟨g6, 0, none⟩ rfl _ (by rw [hK0]; exact HL6.out) ?_; exact ⟨hI, Is.rfl'⟩); simp only [Act.put, List.setIfInBounds_toArray, List.set_cons_zero, List.set_cons_succ])
          (apply WpI.pure; (simp only [List.getElem?_toArray, List.getElem?_cons_succ, List.getElem?_cons_zero]; rfl); (intro τ wI hA hI; have f0 := hcz.out τ wI hI (hA.2 8 (by decide)); refine runs_build_two rfl 64 0 1 (.tmp 54) (.tmp 55) rfl (.string OP) (.agg U.cells.toArray) rfl rfl _ HBU.out ?_; exact ⟨hI, Is.rfl'⟩); simp only [Act.put, List.setIfInBounds_toArray, List.set_cons_zero, List.set_cons_succ])
          iterate 2 (apply WpI.pure; (simp only [List.getElem?_toArray, List.getElem?_cons_succ, List.getElem?_cons_zero]; rfl); (intro τ wI hA hI; go_simp; exact ⟨hI, Is.rfl'⟩); simp only [Act.put, List.setIfInBounds_toArray, List.set_cons_zero, List.set_cons_succ])
          apply WpI.effect; (simp only [List.getElem?_toArray, List.getElem?_cons_succ, List.getElem?_cons_zero]; rfl)
          · intro τ wI hA hn hI
            have h0 := hI
            rw [HI.out] at h0
            have hK := h0.at0 hn
            have HT := Lib.hid (And.intro True.intro (True.intro))
            clear hA hn hI h0
            subst hK
            refine runs_store_row rfl 64 (.tmp 2) (.tmp 56) rfl g2 (Tm.cells (op, U)).toArray rfl rfl _ _ HZ2.out HIT.out HZT.out HONT.out ?_
            rw [← HWE.out, HI.out]
            exact ⟨trivial, Chain1.put1  rfl⟩
          intro v8 hv8
          simp only [Act.put, List.setIfInBounds_toArray, List.set_cons_zero, List.set_cons_succ]
          clear hv8
          (apply WpI.pure; (simp only [List.getElem?_toArray, List.getElem?_cons_succ, List.getElem?_cons_zero]; rfl); (intro τ wI hA hI; go_simp; exact ⟨hI, Is.rfl'⟩); simp only [Act.put, List.setIfInBounds_toArray, List.set_cons_zero, List.set_cons_succ])
          refine WpI.done ?_
          intro w9 hI
          rw [HI.out] at hI
          have hE := hI.end_
          obtain rfl := hE
          clear hI hcz H00 HI
          go_wp2_with fail
          refine bodyPost_ret (results_cell2 rfl _ _ g2 _ rfl HL.out) rfl ?_
          exact ⟨(op, U), by rw [HOK.out, HRE.out]; rfl, HUO.out, fun T' h => by rw [HRE.out] at h; exact Option.some.inj h, HBE.out⟩
        · have HRE := Lib.hid hrt
          clear hrt HUE
          try simp only [Act.put, List.setIfInBounds_toArray, List.set_cons_zero, List.set_cons_succ]
          obtain ⟨Inv, hInv⟩ : ∃ Inv : Done → World → Prop, Inv = Chain1 8 (fun wI => wI = wd) (fun u wI => wI = we) := ⟨_, rfl⟩
          have HI := Lib.hid hInv
          have hcz : Hid (∀ τ wI, Inv τ wI → τ 8 = none → wI.cell? ⟨gL, i, none⟩ = some (.string OP)) := by
            intro τ wI h h9
            rw [hInv] at h
            obtain rfl := h.upto0 h9
            exact HCL2.out
          have H00 : Hid (Inv Done.none w8.drew) := by rw [hInv]; exact Chain1.start hwd.symm
          clear hInv hwd
          refine wp_region_inv (by kernel_rfl) [⟨0, false, [], [8]⟩, ⟨1, false, [], [8]⟩, ⟨2, false, [], [8]⟩, ⟨3, false, [], [8]⟩, ⟨4, false, [], [8]⟩, ⟨5, false, [], [8]⟩, ⟨6, false, [], []⟩, ⟨7, false, [], []⟩, ⟨8, true, [], []⟩, ⟨9, false, [8], []⟩] (by kernel_rfl) Inv (fun _ _ => True) (fun _ => ⟨undef, trivial⟩) H00.out ?_
          iterate 4 (apply WpI.pure; (simp only [List.getElem?_toArray, List.getElem?_cons_succ, List.getElem?_cons_zero]; rfl); (intro τ wI hA hI; have f0 := hcz.out τ wI hI (hA.2 8 (by decide)); go_simp; exact ⟨hI, Is.rfl'⟩); simp only [Act.put, List.setIfInBounds_toArray, List.set_cons_zero, List.set_cons_succ])
          (apply WpI.pure; (simp only [List.getElem?_toArray, List.getElem?_cons_succ, List.getElem?_cons_zero]; rfl); (intro τ wI hA hI; have f0 := hcz.out τ wI hI (hA.2 8 (by decide)); have hK := hI; rw [HI.out] at hK; have hK0 := hK.upto0 (hA.2 8 (by decide)); refine runs_load_a rfl 37 (.tmp 6) rfl ⟨g6, 0, none⟩ rfl _ (by rw [hK0]; exact HL6.out) ?_; exact ⟨hI, Is.rfl'⟩); simp only [Act.put, List.setIfInBounds_toArray, List.set_cons_zero, List.set_cons_succ])
          (apply WpI.pure; (simp only [List.getElem?_toArray, List.getElem?_cons_succ, List.getElem?_cons_zero]; rfl); (intro τ wI hA hI; have f0 := hcz.out τ wI hI (hA.2 8 (by decide)); refine runs_build_two rfl 64 0 1 (.tmp 54) (.tmp 55) rfl (.string OP) (.agg U.cells.toArray) rfl rfl _ HBU.out ?_; exact ⟨hI, Is.rfl'⟩); simp only [Act.put, List.setIfInBounds_toArray, List.set_cons_zero, List.set_cons_succ])
          iterate 2 (apply WpI.pure; (simp only [List.getElem?_toArray, List.getElem?_cons_succ, List.getElem?_cons_zero]; rfl); (intro τ wI hA hI; go_simp; exact ⟨hI, Is.rfl'⟩); simp only [Act.put, List.setIfInBounds_toArray, List.set_cons_zero, List.set_cons_succ])
          apply WpI.effect; (simp only [List.getElem?_toArray, List.getElem?_cons_succ, List.getElem?_cons_zero]; rfl)
          · intro τ wI hA hn hI
            have h0 := hI
            rw [HI.out] at h0
            have hK := h0.at0 hn
            have HT := Lib.hid (And.intro True.intro (True.intro))
            clear hA hn hI h0
            subst hK
            refine runs_store_row rfl 64 (.tmp 2) (.tmp 56) rfl g2 (Tm.cells (op, U)).toArray rfl rfl _ _ HZ2.out HIT.out HZT.out HONT.out ?_
            rw [← HWE.out, HI.out]
            exact ⟨trivial, Chain1.put1  rfl⟩
          intro v8 hv8
          simp only [Act.put, List.setIfInBounds_toArray, List.set_cons_zero, List.set_cons_succ]
          clear hv8
          (apply WpI.pure; (simp only [List.getElem?_toArray, List.getElem?_cons_succ, List.getElem?_cons_zero]; rfl); (intro τ wI hA hI; go_simp; exact ⟨hI, Is.rfl'⟩); simp only [Act.put, List.setIfInBounds_toArray, List.set_cons_zero, List.set_cons_succ])
          refine WpI.done ?_
          intro w9 hI
          rw [HI.out] at hI
          have hE := hI.end_
          obtain rfl := hE
          clear hI hcz H00 HI
          go_wp2_with fail
          refine bodyPost_ret (results_cell2 rfl _ _ g2 _ rfl HL.out) rfl ?_
          exact ⟨(op, U), by rw [HOK.out, HRE.out]; rfl, HUO.out, fun T' h => (by rw [HRE.out] at h; cases h), HBE.out⟩
      · have qm : (SXT.toList == OP.toList) = false := by rw [hSXT, HTK2.out, HOPT.out]; simpa using hm
        have HRN : Hid (refTerm s.data.toList = refOps s.data.toList (allOps.drop (i + 1))) := Lib.hid (by rw [HST.out, if_neg (fun h => hm h.2)])
        have eSX : s.extract 0 OP.size = SXT := hSXT.symm
        clear hm hSXT
        go_upto_region 7 with fail
        try simp only [Act.put, List.setIfInBounds_toArray, List.set_cons_zero, List.set_cons_succ]
        obtain ⟨Inv, hInv⟩ : ∃ Inv : Done → World → Prop, Inv = fun _ wI => (fun wI => wI = wd) wI := ⟨_, rfl⟩
        have HI := Lib.hid hInv
        have hcz : Hid (∀ τ wI, Inv τ wI → wI.cell? ⟨gL, i, none⟩ = some (.string OP)) := by
          intro τ wI h
          rw [hInv] at h
          rw [show wI = wd from h]; exact HCL.out
        have H00 : Hid (Inv Done.none wr.drew) := by rw [hInv]; exact hwd.symm
        clear hInv hwd
        refine wp_region_inv (by kernel_rfl) [⟨0, false, [], []⟩, ⟨1, false, [], []⟩, ⟨2, false, [], []⟩, ⟨3, false, [], []⟩, ⟨4, false, [], []⟩, ⟨5, false, [], []⟩, ⟨6, false, [], []⟩, ⟨7, false, [], []⟩, ⟨8, false, [], []⟩, ⟨9, false, [], []⟩, ⟨10, false, [], []⟩, ⟨11, false, [], []⟩, ⟨12, false, [], []⟩, ⟨13, false, [], []⟩, ⟨14, false, [], []⟩, ⟨15, false, [], []⟩, ⟨16, false, [], []⟩, ⟨17, false, [], []⟩, ⟨18, false, [], []⟩, ⟨19, false, [], []⟩, ⟨20, false, [], []⟩, ⟨21, false, [], []⟩] (by kernel_rfl) Inv (fun _ _ => True) (fun _ => ⟨undef, trivial⟩) H00.out ?_
        iterate 22 (apply WpI.pure; (simp only [List.getElem?_toArray, List.getElem?_cons_succ, List.getElem?_cons_zero]; rfl); (intro τ wI hA hI; have f0 := hcz.out τ wI hI; go_simp; exact ⟨hI, Is.rfl'⟩); simp only [Act.put, List.setIfInBounds_toArray, List.set_cons_zero, List.set_cons_succ])
        refine WpI.done ?_
        intro w5 hI
        rw [HI.out] at hI
        have hE := hI
        obtain rfl := hE
        have HHN : w5.heap = w2.heap := by rw [HWD.out]; exact HHP.out
        have HBN : Hid (Below w2.heap.size w2 w5) := Lib.hid (by rw [HWD.out]; exact HB.out.drew)
        clear hI hcz H00 HI HRT HST qm
        go_wp2_with fail
        go_roundg (7 - (i + 1))
        case measure => omega
        case rel => exact ⟨i + 1, by go_num, by omega, rfl, HRN, HHN, HBN⟩
    · have hlenI : ¬ (OP.size : Int) < (s.size : Int) := by omega
      have HRN : Hid (refTerm s.data.toList = refOps s.data.toList (allOps.drop (i + 1))) := Lib.hid (by rw [HST.out, if_neg (fun h => by have := h.1; rw [HSL.out, ← HKL.out] at this; exact hlen this)])
      go_upto_region 7 with fail
      try simp only [Act.put, List.setIfInBounds_toArray, List.set_cons_zero, List.set_cons_succ]
      obtain ⟨Inv, hInv⟩ : ∃ Inv : Done → World → Prop, Inv = fun _ wI => (fun wI => wI = wd) wI := ⟨_, rfl⟩
      have HI := Lib.hid hInv
      have hcz : Hid (∀ τ wI, Inv τ wI → wI.cell? ⟨gL, i, none⟩ = some (.string OP)) := by
        intro τ wI h
        rw [hInv] at h
        rw [show wI = wd from h]; exact HCL.out
      have H00 : Hid (Inv Done.none wr.drew) := by rw [hInv]; exact hwd.symm
      clear hInv hwd
      refine wp_region_inv (by kernel_rfl) [⟨0, false, [], []⟩, ⟨1, false, [], []⟩, ⟨2, false, [], []⟩, ⟨3, false, [], []⟩, ⟨4, false, [], []⟩, ⟨5, false, [], []⟩, ⟨6, false, [], []⟩, ⟨7, false, [], []⟩, ⟨8, false, [], []⟩, ⟨9, false, [], []⟩, ⟨10, false, [], []⟩, ⟨11, false, [], []⟩, ⟨12, false, [], []⟩, ⟨13, false, [], []⟩, ⟨14, false, [], []⟩, ⟨15, false, [], []⟩, ⟨16, false, [], []⟩, ⟨17, false, [], []⟩, ⟨18, false, [], []⟩, ⟨19, false, [], []⟩, ⟨20, false, [], []⟩, ⟨21, false, [], []⟩] (by kernel_rfl) Inv (fun _ _ => True) (fun _ => ⟨undef, trivial⟩) H00.out ?_
      iterate 22 (apply WpI.pure; (simp only [List.getElem?_toArray, List.getElem?_cons_succ, List.getElem?_cons_zero]; rfl); (intro τ wI hA hI; have f0 := hcz.out τ wI hI; go_simp; exact ⟨hI, Is.rfl'⟩); simp only [Act.put, List.setIfInBounds_toArray, List.set_cons_zero, List.set_cons_succ])
      refine WpI.done ?_
      intro w5 hI
      rw [HI.out] at hI
      have hE := hI
      obtain rfl := hE
      have HHN : w5.heap = w2.heap := by rw [HWD.out]; exact HHP.out
      have HBN : Hid (Below w2.heap.size w2 w5) := Lib.hid (by rw [HWD.out]; exact HB.out.drew)
      clear hI hcz H00 HI HRT HST
      go_wp2_with fail
      go_roundg (7 - (i + 1))
      case measure => omega
      case rel => exact ⟨i + 1, by go_num, by omega, rfl, HRN, HHN, HBN⟩
  · obtain rfl : i = 7 := by omega
    have HRE : Hid (refTerm s.data.toList = none) := Lib.hid (by rw [HRT.out]; rfl)
    have kz : Blk wr g2 64 zt.toList := by show wr.heap[g2]? = _; rw [HHP.out]; exact K22.out
    obtain ⟨we, hwe⟩ : ∃ we, we = wr.setRow g2 (Tm.cells ([], Ver.zero)).toArray := ⟨_, rfl⟩
    have ke : Blk we g2 64 (Tm.cells ([], Ver.zero)) := by rw [hwe]; exact kz.setRow_ _
    have HBW : Hid (Below w.heap.size w wr) := Lib.hid (HB2.out.trans (HB.out.mono HB2.out.size))
    have HBE : Hid (Below w.heap.size w we) := Lib.hid (by rw [hwe]; exact (((Mod.of_below HBW.out).trans ((Mod.refl (fun b => w.heap.size ≤ b) wr).setRow (fun _ => HGE.out) _) (fun _ _ h => h)).below (Nat.le_refl _) (fun _ h => h)))
    have HL := Lib.hid (tmload ke rfl)
    have HZ2 : Hid (wr.heap[g2]? = some (.cells zt 64 (0, 0))) := Lib.hid kz
    have HIT : Hid ((Tryz.prog.info? 64).map (·.size) = some (Tm.cells ([], Ver.zero)).toArray.size) := Lib.hid (by kernel_rfl)
    have HONT : Hid ((Tm.cells ([], Ver.zero)).toArray.all (·.oneCell') = true) := Lib.hid (all_oneCell_toArray (Tm.cells_one _))
    have HWE := Lib.hid hwe
    clear hwe ke kz HRT
    go_wp2_with (refine wpList_store_row rfl 64 (.tmp 2) (.tmp 59) rfl g2 (Tm.cells ([], Ver.zero)).toArray rfl rfl _ _ HZ2.out HIT.out rfl HONT.out ?_)
    rw [← HWE.out]
    refine bodyPost_ret (results_cell2 rfl _ _ g2 _ rfl HL.out) rfl ?_
    exact ⟨([], Ver.zero), by rw [HOK.out, HRE.out]; rfl, rfl, fun T' h => (by rw [HRE.out] at h; cases h), HBE.out⟩
end Go.Proofs.YteeijjhgdplifaaGreatDoor
