/- VersionBack: the walk. -/
import Derived.Test.YteeijjhgdplifaaDoorVo
import Derived.Test.YteeijjhgdplifaaDoorVi
import Derived.Test.YteeijjhgdplifaaDoorVj
import Derived.Deep.MidRow
namespace Go.Proofs.YteeijjhgdplifaaDoor
open Go.RowKit

section
variable {P : Program}
theorem runs_load_at {ops : Array Oper} {o : Oper} {a : Act} {w : World} {R : Value → World → Prop} (hg : o.guard = none) (ty : TypeId) (x : Operand) (ho : o.op = .load ty x) (p : Addr) (hx : a.eval x = .pointer (some p)) (v : Value)
    (hr : (loadVar ty p).run P w = .ok v w) (h : R v w) : Runs P ops o a w R := by
  unfold Runs Region.wanted
  rw [hg]
  show Out P R ((execOp a.eval o).run P w)
  unfold execOp
  simp only [ho, hx, Instr.loadAt, Instr.sureAddr, Sem.run_bind, Sem.run_pure, Result.andThen_ok, hr]
  exact h
theorem runs_store_row {ops : Array Oper} {o : Oper} {a : Act} {w : World} {R : Value → World → Prop} (hgd : o.guard = none) (ty : TypeId) (x y : Operand) (ho : o.op = .store ty x y)
    (g : Nat) (cells : Array Value) (hx : a.eval x = .pointer (some ⟨g, 0, none⟩)) (hy : a.eval y = .agg cells)
    (t : TypeId) (old : Array Value) (hg : w.heap[g]? = some (.cells old t (0, 0))) (hi : (P.info? ty).map (·.size) = some cells.size)
    (hold : old.size = cells.size) (h1 : cells.all (·.oneCell') = true) (h : R undef (w.setRow g cells)) : Runs P ops o a w R := by
  unfold Runs Region.wanted
  rw [hgd]
  show Out P R ((execOp a.eval o).run P w)
  unfold execOp
  simp only [ho, hx, hy, Instr.storeAt, Instr.sureAddr, Sem.run_bind, Sem.run_pure, Result.andThen_ok, run_storeVar_row w g t ty old cells hg hi hold h1]
  exact h
theorem wp_neq_run {o : Oper} {a : Act} {w : World} {K : Act → World → Prop} {Q : Exit → Act → World → Prop} (t ty : TypeId) (x y : Operand) (ho : o.op = .binOp .neq t x y ty) (xs ys : Array Value) (hx : a.eval x = .agg xs) (hy : a.eval y = .agg ys)
    (hg : P.eqGuardType P.depth t = false) (r : Bool) (hr : (Op.equalIn 10000 t (.agg xs) (.agg ys)).run P w = .ok r w) (h : K (a.put o.dst (.bool (!r))) w) : o.wp P a w K Q := by
  unfold Oper.wp execOp
  simp only [ho, hx, hy, Sem.run_bind, run_eqGuard_agg w .neq t x y xs ys hg, Result.andThen_ok, run_neq_struct, hr, Sem.run_pure]
  exact h
theorem wpListw_neq_run {ops : Array Oper} {rest : List Oper} {o : Oper} {a : Act} {w : World} {Q : Exit → Act → World → Prop} (hw : Region.wanted o (yielded ops a.tmps) = true) (t ty : TypeId) (x y : Operand) (ho : o.op = .binOp .neq t x y ty) (xs ys : Array Value) (hx : a.eval x = .agg xs) (hy : a.eval y = .agg ys)
    (hg : P.eqGuardType P.depth t = false) (r : Bool) (hr : (Op.equalIn 10000 t (.agg xs) (.agg ys)).run P w = .ok r w) (h : wpList P ops Q rest (a.put o.dst (.bool (!r))) w) : wpList P ops Q (o :: rest) a w :=
  BigFrame.wpList_want hw fun _ hK => wp_neq_run t ty x y ho xs ys hx hy hg r hr (hK _ _ h)
end
theorem and3' (n : Int) : bits .and .i64 n 3 = ((n % 4).toNat : Int) := by
  have e : ∀ m : Nat, m &&& 3 = m % 4 := fun m => Nat.and_two_pow_sub_one_eq_mod m 2
  have h : bits .and .i64 n 3 = IntKind.i64.wrap (((n % 18446744073709551616).toNat &&& 3 : Nat) : Int) := by
    unfold bits; rfl
  rw [h, e, IntKind.wrap_i64]
  omega

theorem laid_ver' (w : World) (U : Ver) (T : TypeId) : Blk ((w.alloc (.cells #[.int .i64 0, .int .i64 0, .int .i64 0, .int .i64 0, .int .i64 0, .string ⟨#[]⟩] T)).setRow w.heap.size U.cells.toArray) w.heap.size T U.cells ∧ Below w.heap.size w ((w.alloc (.cells #[.int .i64 0, .int .i64 0, .int .i64 0, .int .i64 0, .int .i64 0, .string ⟨#[]⟩] T)).setRow w.heap.size U.cells.toArray) := by
  have h1 : Below w.heap.size w (w.alloc (.cells #[.int .i64 0, .int .i64 0, .int .i64 0, .int .i64 0, .int .i64 0, .string ⟨#[]⟩] T)) := (Below.refl _ _).alloc (Nat.le_refl _) _
  exact ⟨(Blk.new w T _).setRow_ U.cells, h1.trans (((Mod.refl (fun b => w.heap.size ≤ b) _).setRow (fun _ => Nat.le_refl _) _).below h1.size (fun _ h => h))⟩
theorem cells_set45 {v : Ver} (hv : v.Ok) {tag : List UInt8} : (v.cells.set 4 (.int .i64 4)).set 5 (.string (bl tag)) = (⟨v.ns, 4, tag⟩ : Ver).cells := by
  obtain ⟨a, b, c, d, h⟩ := Ver.four hv
  unfold Ver.cells
  rw [h]
  rfl
theorem cells_setn {ns : List Int} {c : Int} {tag : List UInt8} {k : Nat} {z : Int} (h : ns.length = 4) (hk : k < 4) : (⟨ns, c, tag⟩ : Ver).cells.set k (.int .i64 z) = (⟨ns.set k z, c, tag⟩ : Ver).cells := by
  unfold Ver.cells
  rw [List.set_append_left _ _ (by simp [ints, h]; exact hk)]
  simp [ints, List.map_set]
def likeCells (v : Ver) (rest : List Int) (tag : List UInt8) : List Value := v.cells ++ (ints rest ++ [.string (bl tag)])
abbrev ptr0 (g : Nat) : Value := .pointer (some ⟨g, 0, none⟩)
def bkSh (i : Nat) (v : Value) : Prop := i = 6 ∨ i = 7 → ∃ g : Nat, v = ptr0 g
/-- What holds while the two copies are made, in whatever order. -/
def BkInv (B : Nat) (wd : World) (v : Ver) (rest : List Int) (τ : Done) (wI : World) : Prop :=
  Below B wd wI ∧ (∀ u, τ 6 = some u → ∃ g, u = ptr0 g ∧ B ≤ g ∧ Blk wI g 24 (if (τ 8).isSome then v.cells else Ver.zero.cells))
   ∧ (∀ u, τ 7 = some u → ∃ g, u = ptr0 g ∧ B ≤ g ∧ Blk wI g 22 (if (τ 9).isSome then ints rest else ints [0, 0, 0, 0]))
theorem bk_ne : (24 : TypeId) ≠ 22 := by decide
section
variable {B : Nat} {wd wI : World} {v : Ver} {rest : List Int} {τ : Done}
theorem BkInv.put6 (h : BkInv B wd v rest τ wI) (h8 : τ 8 = none) (hB : B ≤ wd.heap.size) : BkInv B wd v rest (τ.put 6 (ptr0 wI.heap.size)) (wI.alloc (.cells #[.int .i64 0, .int .i64 0, .int .i64 0, .int .i64 0, .int .i64 0, .string ⟨#[]⟩] 24)) := by
  obtain ⟨h1, _, h3⟩ := h
  have hs : B ≤ wI.heap.size := Nat.le_trans hB h1.size
  refine ⟨h1.alloc hs _, fun u hu => ?_, fun u hu => ?_⟩
  · rw [Done.put_same] at hu
    refine ⟨wI.heap.size, (Option.some.inj hu).symm, hs, ?_⟩
    rw [Done.put_other _ _ _ _ (by decide), h8]
    exact Blk.new _ _ _
  · rw [Done.put_other _ _ _ _ (by decide)] at hu
    obtain ⟨g, e, hg, hb⟩ := h3 u hu
    rw [Done.put_other _ _ _ _ (by decide)]
    exact ⟨g, e, hg, hb.alloc _⟩
theorem BkInv.put7 (h : BkInv B wd v rest τ wI) (h9 : τ 9 = none) (hB : B ≤ wd.heap.size) : BkInv B wd v rest (τ.put 7 (ptr0 wI.heap.size)) (wI.alloc (.cells #[.int .i64 0, .int .i64 0, .int .i64 0, .int .i64 0] 22)) := by
  obtain ⟨h1, h2, _⟩ := h
  have hs : B ≤ wI.heap.size := Nat.le_trans hB h1.size
  refine ⟨h1.alloc hs _, fun u hu => ?_, fun u hu => ?_⟩
  · rw [Done.put_other _ _ _ _ (by decide)] at hu
    obtain ⟨g, e, hg, hb⟩ := h2 u hu
    rw [Done.put_other _ _ _ _ (by decide)]
    exact ⟨g, e, hg, hb.alloc _⟩
  · rw [Done.put_same] at hu
    refine ⟨wI.heap.size, (Option.some.inj hu).symm, hs, ?_⟩
    rw [Done.put_other _ _ _ _ (by decide), h9]
    exact Blk.new _ _ _
theorem BkInv.at6 {g : Nat} (h : BkInv B wd v rest τ wI) (h6 : τ 6 = some (ptr0 g)) (h8 : τ 8 = none) : Blk wI g 24 Ver.zero.cells ∧ B ≤ g := by
  obtain ⟨g', e, hg, hb⟩ := h.2.1 _ h6
  injection e with e; injection e with e; injection e with e
  subst e
  rw [h8] at hb
  exact ⟨hb, hg⟩
theorem BkInv.at7 {g : Nat} (h : BkInv B wd v rest τ wI) (h7 : τ 7 = some (ptr0 g)) (h9 : τ 9 = none) : Blk wI g 22 (ints [0, 0, 0, 0]) ∧ B ≤ g := by
  obtain ⟨g', e, hg, hb⟩ := h.2.2 _ h7
  injection e with e; injection e with e; injection e with e
  subst e
  rw [h9] at hb
  exact ⟨hb, hg⟩
theorem BkInv.put8 {g : Nat} (h : BkInv B wd v rest τ wI) (h6 : τ 6 = some (ptr0 g)) (h8 : τ 8 = none) (u0 : Value) : BkInv B wd v rest (τ.put 8 u0) (wI.setRow g v.cells.toArray) := by
  obtain ⟨k6, hg6⟩ := h.at6 h6 h8
  obtain ⟨h1, h2, h3⟩ := h
  refine ⟨h1.trans (((Mod.refl (fun b => B ≤ b) wI).setRow (fun _ => hg6) _).below (Nat.le_trans hg6 (Nat.le_of_lt k6.lt)) (fun _ h => h)), fun u hu => ?_, fun u hu => ?_⟩
  · rw [Done.put_other _ _ _ _ (by decide), h6] at hu
    obtain rfl := Option.some.inj hu
    refine ⟨g, rfl, hg6, ?_⟩
    rw [Done.put_same]
    exact k6.setRow_ v.cells
  · rw [Done.put_other _ _ _ _ (by decide)] at hu
    obtain ⟨g', e, hg, hb⟩ := h3 u hu
    rw [Done.put_other _ _ _ _ (by decide)]
    exact ⟨g', e, hg, hb.setRow_far (k6.ne_ hb bk_ne).symm _⟩
theorem BkInv.put9 {g : Nat} (h : BkInv B wd v rest τ wI) (h7 : τ 7 = some (ptr0 g)) (h9 : τ 9 = none) (u0 : Value) : BkInv B wd v rest (τ.put 9 u0) (wI.setRow g (ints rest).toArray) := by
  obtain ⟨k7, hg7⟩ := h.at7 h7 h9
  obtain ⟨h1, h2, h3⟩ := h
  refine ⟨h1.trans (((Mod.refl (fun b => B ≤ b) wI).setRow (fun _ => hg7) _).below (Nat.le_trans hg7 (Nat.le_of_lt k7.lt)) (fun _ h => h)), fun u hu => ?_, fun u hu => ?_⟩
  · rw [Done.put_other _ _ _ _ (by decide)] at hu
    obtain ⟨g', e, hg, hb⟩ := h2 u hu
    rw [Done.put_other _ _ _ _ (by decide)]
    exact ⟨g', e, hg, hb.setRow_far (hb.ne_ k7 bk_ne) _⟩
  · rw [Done.put_other _ _ _ _ (by decide), h7] at hu
    obtain rfl := Option.some.inj hu
    refine ⟨g, rfl, hg7, ?_⟩
    rw [Done.put_same]
    exact k7.setRow_ (ints rest)
end
set_option maxRecDepth 100000 in
set_option maxHeartbeats 4000000 in
theorem versionBack_walk (v : Ver) (hv : v.Ok) (ht : v.t.length ≤ 140737488355328) (rest : List Int) (hr : rest.length = 4) (tag : List UInt8) (htag : tag.length ≤ 140737488355328) (n : Int) (w : World) (hg : GV w) :
    Calls Tryd.prog 6 #[.agg (likeCells v rest tag).toArray, .int .i64 n] w fun e w' => e = .returned (.bool true) ∧ Below w.heap.size w w' := by
  obtain ⟨w1, hw1⟩ : ∃ w1, w1 = w.alloc (.cells (likeCells v rest tag).toArray 52) := ⟨_, rfl⟩
  obtain ⟨g2, hg2⟩ : ∃ g2, g2 = w.heap.size := ⟨_, rfl⟩
  obtain ⟨wd, hwd⟩ : ∃ wd, wd = w1.drew := ⟨_, rfl⟩
  have hb1 : Below w.heap.size w w1 := by rw [hw1]; exact (Below.refl _ _).alloc (Nat.le_refl _) _
  have k1 : Blk w1 g2 52 (likeCells v rest tag) := by rw [hw1, hg2]; exact Blk.new _ _ (likeCells v rest tag).toArray
  have kd : Blk wd g2 52 (likeCells v rest tag) := by rw [hwd]; exact k1
  have hbd : Below w.heap.size w wd := by rw [hwd]; exact hb1.drew
  obtain ⟨B, hB⟩ : ∃ B, B = wd.heap.size := ⟨_, rfl⟩
  have hvl : v.ns.length = 4 := hv
  have hcl : v.cells.length = 6 := by have := Ver.cells_size hv; simpa using this
  have hil : (ints rest).length = 4 := by simp [ints, hr]
  have hloads : ∀ wI, Below B wd wI → Hid ((loadVar 24 ⟨g2, 0, none⟩).run Tryd.prog wI = .ok (.agg v.cells.toArray) wI) ∧ Hid ((loadVar 22 ⟨g2, 6, none⟩).run Tryd.prog wI = .ok (.agg (ints rest).toArray) wI) ∧ wI.cell? ⟨g2, 10, none⟩ = some (.string (bl tag)) := by
    intro wI hb
    have kI : Blk wI g2 52 (likeCells v rest tag) := kd.below' (hB ▸ hb)
    refine ⟨Lib.hid ?_, Lib.hid ?_, ?_⟩
    · refine run_loadVar_mid wI g2 0 _ v.cells _ (fun j x hx => ?_) Tryd.underlying24 rfl ?_
      · rw [Nat.zero_add, kI.cell]
        unfold likeCells
        rw [List.getElem?_append_left (by exact (List.getElem?_eq_some_iff.1 hx).1)]
        exact hx
      · rw [hcl]; kernel_rfl
    · refine run_loadVar_mid wI g2 6 _ (ints rest) _ (fun j x hx => ?_) Tryd.underlying22 rfl ?_
      · have hj : j < (ints rest).length := (List.getElem?_eq_some_iff.1 hx).1
        rw [kI.cell]
        unfold likeCells
        rw [List.getElem?_append_right (by omega), hcl, show 6 + j - 6 = j by omega, List.getElem?_append_left hj]
        exact hx
      · rw [hil]; kernel_rfl
    · rw [kI.cell]
      unfold likeCells
      rw [List.getElem?_append_right (by omega), hcl, List.getElem?_append_right (by omega), hil]
      rfl
  have HLD := Lib.hid hloads
  have HV := Lib.hid hv
  have HGW := Lib.hid hg
  have HT := Lib.hid ht
  have HTG := Lib.hid htag
  have HR := Lib.hid hr
  have HCL := Lib.hid hcl
  have HIL := Lib.hid hil
  have HG := Lib.hid (hg.below hbd)
  have HBD := Lib.hid hbd
  have HBB := Lib.hid hB
  have HW1 := Lib.hid hw1
  have HG2 := Lib.hid hg2
  have HIV : Hid ((Tryd.prog.info? 24).map (·.size) = some v.cells.toArray.size) := Lib.hid (by rw [Ver.cells_size hv]; kernel_rfl)
  have HIA : Hid ((Tryd.prog.info? 22).map (·.size) = some (ints rest).toArray.size) := Lib.hid (by rw [List.size_toArray, hil]; kernel_rfl)
  have HONE : Hid ((ints rest).toArray.all (·.oneCell') = true) := Lib.hid (by simp [ints, Value.oneCell'])
  clear hv ht hr htag hg hw1 hg2 hb1 k1 kd hbd hvl hcl hil hloads hB
  go_enter Tryd.func6, Tryd.ntmps6
  go_upto_region 1 with fail
  rw [← HW1.out, ← HG2.out]
  try simp only [Act.put, List.setIfInBounds_toArray, List.set_cons_zero, List.set_cons_succ]
  obtain ⟨Inv, hInv⟩ : ∃ Inv : Done → World → Prop, Inv = BkInv B wd v rest := ⟨_, rfl⟩
  have HI := Lib.hid hInv
  have H00 : Hid (Inv Done.none w1.drew) := by
    rw [hInv, ← hwd]
    exact ⟨Below.refl _ _, fun u hu => (by cases hu), fun u hu => (by cases hu)⟩
  have hcz : Hid (∀ τ wI, Inv τ wI → Hid ((loadVar 24 ⟨g2, 0, none⟩).run Tryd.prog wI = .ok (.agg v.cells.toArray) wI) ∧ Hid ((loadVar 22 ⟨g2, 6, none⟩).run Tryd.prog wI = .ok (.agg (ints rest).toArray) wI) ∧ wI.cell? ⟨g2, 10, none⟩ = some (.string (bl tag))) := by
    intro τ wI h
    rw [hInv] at h
    exact HLD.out wI h.1
  clear hInv hwd
  refine wp_region_inv (by kernel_rfl) [⟨0, false, [], [8, 9]⟩, ⟨1, false, [], [8, 9]⟩, ⟨2, false, [], [9]⟩, ⟨3, false, [], [9]⟩, ⟨4, false, [], []⟩, ⟨5, false, [], []⟩, ⟨6, true, [], [8, 9]⟩, ⟨7, true, [], [8, 9]⟩, ⟨8, true, [6, 7], [9]⟩, ⟨9, true, [6, 7, 8], []⟩, ⟨10, false, [6, 7, 8, 9], []⟩] (by kernel_rfl) Inv bkSh (fun i => ⟨ptr0 0, fun _ => ⟨0, rfl⟩⟩) H00.out ?_
  (apply WpI.pure; (simp only [List.getElem?_toArray, List.getElem?_cons_succ, List.getElem?_cons_zero]; rfl); (intro τ wI hA hI; go_simp; exact ⟨hI, Is.rfl'⟩); simp only [Act.put, List.setIfInBounds_toArray, List.set_cons_zero, List.set_cons_succ])
  (apply WpI.pure; (simp only [List.getElem?_toArray, List.getElem?_cons_succ, List.getElem?_cons_zero]; rfl); (intro τ wI hA hI; obtain ⟨f0, f1, f2⟩ := hcz.out τ wI hI; refine runs_load_at rfl 24 (.tmp 16) rfl ⟨g2, 0, none⟩ rfl _ f0.out ?_; exact ⟨hI, Is.rfl'⟩); simp only [Act.put, List.setIfInBounds_toArray, List.set_cons_zero, List.set_cons_succ])
  (apply WpI.pure; (simp only [List.getElem?_toArray, List.getElem?_cons_succ, List.getElem?_cons_zero]; rfl); (intro τ wI hA hI; go_simp; exact ⟨hI, Is.rfl'⟩); simp only [Act.put, List.setIfInBounds_toArray, List.set_cons_zero, List.set_cons_succ])
  (apply WpI.pure; (simp only [List.getElem?_toArray, List.getElem?_cons_succ, List.getElem?_cons_zero]; rfl); (intro τ wI hA hI; obtain ⟨f0, f1, f2⟩ := hcz.out τ wI hI; refine runs_load_at rfl 22 (.tmp 18) rfl ⟨g2, 6, none⟩ rfl _ f1.out ?_; exact ⟨hI, Is.rfl'⟩); simp only [Act.put, List.setIfInBounds_toArray, List.set_cons_zero, List.set_cons_succ])
  (apply WpI.pure; (simp only [List.getElem?_toArray, List.getElem?_cons_succ, List.getElem?_cons_zero]; rfl); (intro τ wI hA hI; go_simp; exact ⟨hI, Is.rfl'⟩); simp only [Act.put, List.setIfInBounds_toArray, List.set_cons_zero, List.set_cons_succ])
  (apply WpI.pure; (simp only [List.getElem?_toArray, List.getElem?_cons_succ, List.getElem?_cons_zero]; rfl); (intro τ wI hA hI; obtain ⟨f0, f1, f2⟩ := hcz.out τ wI hI; go_simp; exact ⟨hI, Is.rfl'⟩); simp only [Act.put, List.setIfInBounds_toArray, List.set_cons_zero, List.set_cons_succ])
  apply WpI.effect; (simp only [List.getElem?_toArray, List.getElem?_cons_succ, List.getElem?_cons_zero]; rfl)
  · intro τ wI hA hn hI
    have h8 := hA.2 8 (by decide)
    rw [HI.out] at hI
    have HX := Lib.hid (hI.put6 h8 (by rw [HBB.out]; exact Nat.le_refl _))
    clear hA hn hI h8
    go_simp
    rw [HI.out]
    exact ⟨fun _ => ⟨_, rfl⟩, HX.out⟩
  intro v6 hv6
  simp only [Act.put, List.setIfInBounds_toArray, List.set_cons_zero, List.set_cons_succ]
  obtain ⟨g5, rfl⟩ := hv6 (.inl rfl)
  apply WpI.effect; (simp only [List.getElem?_toArray, List.getElem?_cons_succ, List.getElem?_cons_zero]; rfl)
  · intro τ wI hA hn hI
    have h9 := hA.2 9 (by decide)
    rw [HI.out] at hI
    have HX := Lib.hid (hI.put7 h9 (by rw [HBB.out]; exact Nat.le_refl _))
    clear hA hn hI h9
    go_simp
    rw [HI.out]
    exact ⟨fun _ => ⟨_, rfl⟩, HX.out⟩
  intro v7 hv7
  simp only [Act.put, List.setIfInBounds_toArray, List.set_cons_zero, List.set_cons_succ]
  obtain ⟨g6, rfl⟩ := hv7 (.inr rfl)
  apply WpI.effect; (simp only [List.getElem?_toArray, List.getElem?_cons_succ, List.getElem?_cons_zero]; rfl)
  · intro τ wI hA hn hI
    have h6 : τ 6 = some (ptr0 g5) := hA.1 6 (by decide)
    rw [HI.out] at hI
    have h0 := (hI.at6 h6 hn).1
    refine runs_store_row rfl 24 (.tmp 5) (.tmp 17) rfl g5 v.cells.toArray rfl rfl _ _ h0 HIV.out (by rw [Ver.cells_size HV.out]; rfl) (Ver.cells_one _) ?_
    rw [HI.out]
    exact ⟨fun h => by omega, hI.put8 h6 hn undef⟩
  intro v8 hv8
  simp only [Act.put, List.setIfInBounds_toArray, List.set_cons_zero, List.set_cons_succ]
  clear hv8
  apply WpI.effect; (simp only [List.getElem?_toArray, List.getElem?_cons_succ, List.getElem?_cons_zero]; rfl)
  · intro τ wI hA hn hI
    have h7 : τ 7 = some (ptr0 g6) := hA.1 7 (by decide)
    rw [HI.out] at hI
    have h0 := (hI.at7 h7 hn).1
    refine runs_store_row rfl 22 (.tmp 6) (.tmp 19) rfl g6 (ints rest).toArray rfl rfl _ _ h0 HIA.out (by rw [List.size_toArray, List.size_toArray, HIL.out]; rfl) HONE.out ?_
    rw [HI.out]
    exact ⟨fun h => by omega, hI.put9 h7 hn undef⟩
  intro v9 hv9
  simp only [Act.put, List.setIfInBounds_toArray, List.set_cons_zero, List.set_cons_succ]
  clear hv9
  (apply WpI.pure; (simp only [List.getElem?_toArray, List.getElem?_cons_succ, List.getElem?_cons_zero]; rfl); (intro τ wI hA hI; go_simp; exact ⟨hI, Is.rfl'⟩); simp only [Act.put, List.setIfInBounds_toArray, List.set_cons_zero, List.set_cons_succ])
  refine WpI.done ?_
  intro w2 hI
  rw [HI.out] at hI
  obtain ⟨hb2, hs5, hs6⟩ := hI
  obtain ⟨g5', e5, hB5, k5⟩ := hs5 (ptr0 g5) rfl
  obtain ⟨g6', e6, hB6, k6⟩ := hs6 (ptr0 g6) rfl
  injection e5 with e5; injection e5 with e5; injection e5 with e5
  injection e6 with e6; injection e6 with e6; injection e6 with e6
  subst e5
  subst e6
  have hs1 : w.heap.size ≤ B := by rw [HBB.out]; exact HBD.out.size
  have K5 : Hid (Blk w2 g5 24 v.cells) := Lib.hid k5
  have K6 : Hid (Blk w2 g6 22 (ints rest)) := Lib.hid k6
  have HB2 : Hid (Below w.heap.size w w2) := Lib.hid (HBD.out.trans (hb2.mono hs1))
  have HG2' := Lib.hid (HG.out.below (HBB.out ▸ hb2))
  clear hb2 hs5 hs6 hB5 hB6 k5 k6 hs1 H00 hcz HLD HI HBD HG HBB HIV HIA HONE HW1 HG2
  have HL5 := Lib.hid (vload K5.out HV.out)
  obtain ⟨tt, htt⟩ : ∃ tt, tt = bl (tv v).1 := ⟨_, rfl⟩
  obtain ⟨te, hte⟩ : ∃ te, te = (tv v).2 := ⟨_, rfl⟩
  have HTT := Lib.hid htt
  have HTE := Lib.hid hte
  clear htt hte
  go_wp2_with (refine wpList_load_run rfl 24 (.tmp 5) rfl g5 rfl _ HL5.out ?_)
  refine (text_ok v HV.out HT.out w2 HG2'.out).mono ?_
  rintro e w3 ⟨rfl, hb3⟩
  rw [← HTT.out, ← HTE.out]
  have K5' := Lib.hid (K5.out.below' hb3)
  have K6' := Lib.hid (K6.out.below' hb3)
  have HB3 : Hid (Below w.heap.size w w3) := Lib.hid (HB2.out.trans (hb3.mono HB2.out.size))
  have HG3 := Lib.hid (HG2'.out.below hb3)
  clear hb3 K5 K6 HB2 HG2' HL5
  cases hm : v.may with
  | false =>
    have e1 : te = 20 := by rw [HTE.out]; unfold tv; rw [if_neg (by rw [hm]; decide)]
    have e2 : tt = bl [] := by rw [HTT.out]; unfold tv; rw [if_neg (by rw [hm]; decide)]
    subst e1
    subst e2
    have e3 : (bl ([] : List UInt8)).toList = [] := bl_toList []
    have e4 : (bl ([] : List UInt8)).toList.isEmpty = true := by rw [e3]; rfl
    clear hm
    go_wp2_with fail
    go_ret
    exact ⟨rfl, HB3.out⟩
  | true =>
    have HM := Lib.hid hm
    have e1 : te = 0 := by rw [HTE.out]; unfold tv; rw [if_pos hm]
    have e2 : tt = bl v.text := by rw [HTT.out]; unfold tv; rw [if_pos hm]
    subst e1
    have hvr : rv v.text = (v, 0) := rv_some (readVer_text HV.out hm)
    have htl : v.text.length ≤ 100 := by
      have h1 := nums_len HV.out hm
      have h2 : v.t.length ≤ 12 := by
        have := Ver.may_t hm
        unfold tagOk at this
        simp at this
        exact this.2
      unfold Ver.text tagText
      split
      · simp only [List.length_append, List.length_nil]; omega
      · simp only [List.length_append, List.length_cons]; omega
    have HSS : Hid (tt.size ≤ 4000000000) := Lib.hid (by rw [e2, bl_size]; omega)
    have HVR : Hid (rv tt.data.toList = (v, 0)) := Lib.hid (by rw [e2, bl_data]; exact hvr)
    clear hm e2 hvr htl HTT HTE
    go_wp2_with fail
    refine (parse_ok tt HSS.out w3 HG3.out).mono ?_
    rintro e w4 ⟨rfl, hb4⟩
    rw [HVR.out]
    have K5 := Lib.hid (K5'.out.below' hb4)
    have K6 := Lib.hid (K6'.out.below' hb4)
    have HB4 : Hid (Below w.heap.size w w4) := Lib.hid (HB3.out.trans (hb4.mono HB3.out.size))
    have HIV : Hid ((Tryd.prog.info? 24).map (·.size) = some v.cells.toArray.size) := Lib.hid (by rw [Ver.cells_size HV.out]; kernel_rfl)
    have HZV : Hid (Ver.zero.cells.toArray.size = v.cells.toArray.size) := Lib.hid (by rw [Ver.cells_size HV.out]; rfl)
    obtain ⟨g10, hg10⟩ : ∃ g10, g10 = w4.heap.size := ⟨_, rfl⟩
    obtain ⟨w5, hw5⟩ : ∃ w5, w5 = (w4.alloc (.cells #[.int .i64 0, .int .i64 0, .int .i64 0, .int .i64 0, .int .i64 0, .string ⟨#[]⟩] 24)).setRow g10 v.cells.toArray := ⟨_, rfl⟩
    have q5 := laid_ver' w4 v 24
    have bb5 : Below w4.heap.size w4 w5 := by rw [hw5, hg10]; exact q5.2
    have Q10 : Blk w5 g10 24 v.cells := by rw [hw5, hg10]; exact q5.1
    have HZ5 : Hid ((w4.alloc (.cells #[.int .i64 0, .int .i64 0, .int .i64 0, .int .i64 0, .int .i64 0, .string ⟨#[]⟩] 24)).heap[g10]? = some (.cells Ver.zero.cells.toArray 24 (0, 0))) := Lib.hid (by rw [hg10]; exact heap_alloc_new _ _)
    have HG10 := Lib.hid hg10
    have HW5 := Lib.hid hw5
    have K5b := Lib.hid (K5.out.below' bb5)
    have K6b := Lib.hid (K6.out.below' bb5)
    have HL5 := Lib.hid (vload K5b.out HV.out)
    have HL10 := Lib.hid (vload Q10 HV.out)
    have HB5 : Hid (Below w.heap.size w w5) := Lib.hid (HB4.out.trans (bb5.mono HB4.out.size))
    have HG5 := Lib.hid ((HG3.out.below hb4).below bb5)
    have ev := veql v v HV.out HV.out w5
    rw [decide_eq_true (rfl : v = v)] at ev
    have HEV := Lib.hid ev
    clear hb4 hg10 hw5 q5 bb5 Q10 ev K5 K6 K5' K6' HB4 HG3
    rw [show v.val = .agg v.cells.toArray from rfl]
    go_upto_region 6 with (refine wpList_store_row rfl 24 (.tmp 10) (.tmp 34) rfl g10 v.cells.toArray (by rw [HG10.out]; rfl) rfl _ _ HZ5.out HIV.out HZV.out (Ver.cells_one _) ?_)
    rw [← HG10.out, ← HW5.out]
    obtain ⟨m, hmm⟩ : ∃ m : Nat, m = (n % 4).toNat := ⟨_, rfl⟩
    have hand : bits .and .i64 n 3 = (m : Int) := by rw [hmm]; exact and3' n
    have hm3 : m ≤ 3 := by omega
    obtain ⟨N, hN⟩ : ∃ N, N = m + 1 := ⟨_, rfl⟩
    have hN1 : 1 ≤ N := by omega
    have hN4 : N ≤ 4 := by omega
    have wN : IntKind.i64.wrap (1 + (m : Int)) = (N : Int) := by
      rw [IntKind.wrap_i64]; omega
    obtain ⟨b, hbb⟩ : ∃ b, b = v.bump (N : Int) := ⟨_, rfl⟩
    have HBB := Lib.hid hbb
    have HNN := Lib.hid hN
    clear hmm hN hbb
    go_wp2_with (first | refine wpListw_load_run rfl 24 (.tmp 10) rfl g10 rfl _ HL10.out ?_ | refine wpListw_load_run rfl 24 (.tmp 5) rfl g5 rfl _ HL5.out ?_ | refine wpListw_neq_run rfl 24 24 (.tmp 39) (.tmp 40) rfl _ _ rfl rfl (by kernel_rfl) _ HEV.out ?_ | refine wpList_load_run rfl 24 (.tmp 5) rfl g5 rfl _ HL5.out ?_)
    refine (bump_ok v HV.out HT.out N w5).mono ?_
    rintro e w6 ⟨rfl, hb6⟩
    rw [← HBB.out]
    have K5 := Lib.hid (K5b.out.below' hb6)
    have K6 := Lib.hid (K6b.out.below' hb6)
    have HB6 : Hid (Below w.heap.size w w6) := Lib.hid (HB5.out.trans (hb6.mono HB5.out.size))
    have HG6 := Lib.hid (HG5.out.below hb6)
    clear hb6 K5b K6b HB5 HG5 HEV HL5 HL10 HZ5 HG10 HW5 hand wN HVR HSS
    have HI6 : Hid ((Tryd.prog.info? 24).map (·.size) = some 6) := Lib.hid (by kernel_rfl)
    obtain ⟨x, hx⟩ : ∃ x, v.ns[m]? = some x := ⟨_, List.getElem?_eq_getElem (by have : v.ns.length = 4 := HV.out; omega)⟩
    have hxd : v.ns.getD (N - 1) 0 = x := by rw [HNN.out, Nat.add_sub_cancel, List.getD_eq_getElem?_getD, hx]; rfl
    have hnm := next_may HV.out HM.out hN1 hN4
    rw [hxd] at hnm
    have hbe := bump_eq HV.out N hN1 hN4 HM.out
    rw [← HBB.out, hnm] at hbe
    by_cases h9 : x = 999999999
    · have hbb : b = (Ver.zero, 20) := by rw [hbe, if_neg (by simp [h9])]
      obtain ⟨Z, hZ⟩ : ∃ Z, Z = Ver.zero := ⟨_, rfl⟩
      rw [← hZ] at hbb
      subst hbb
      have HZO : Hid (Ver.zero.cells.toArray.size = Z.cells.toArray.size) := Lib.hid (by rw [hZ])
      have HIZ : Hid ((Tryd.prog.info? 24).map (·.size) = some Z.cells.toArray.size) := Lib.hid (by rw [hZ]; exact HI6.out)
      clear hnm hbe hxd HBB hZ
      rw [show Z.val = .agg Z.cells.toArray from rfl]
      obtain ⟨g11, hg11⟩ : ∃ g11, g11 = w6.heap.size := ⟨_, rfl⟩
      obtain ⟨w7, hw7⟩ : ∃ w7, w7 = (w6.alloc (.cells #[.int .i64 0, .int .i64 0, .int .i64 0, .int .i64 0, .int .i64 0, .string ⟨#[]⟩] 24)).setRow g11 Z.cells.toArray := ⟨_, rfl⟩
      have qw7 := laid_ver' w6 Z 24
      have bbw7 : Below w6.heap.size w6 w7 := by rw [hw7, hg11]; exact qw7.2
      have Qg11 : Hid (Blk w7 g11 24 Z.cells) := Lib.hid (by rw [hw7, hg11]; exact qw7.1)
      have HZw7 : Hid ((w6.alloc (.cells #[.int .i64 0, .int .i64 0, .int .i64 0, .int .i64 0, .int .i64 0, .string ⟨#[]⟩] 24)).heap[g11]? = some (.cells Ver.zero.cells.toArray 24 (0, 0))) := Lib.hid (by rw [hg11]; exact heap_alloc_new _ _)
      have HNg11 := Lib.hid hg11
      have HWw7 := Lib.hid hw7
      have HBw7 : Hid (Below w.heap.size w w7) := Lib.hid (HB6.out.trans (bbw7.mono HB6.out.size))
      have HGw7 := Lib.hid (HG6.out.below bbw7)
      have K57 := Lib.hid (K5.out.below' bbw7)
      clear hg11 hw7 qw7 bbw7
      go_upto_region 10 with (refine wpList_store_row rfl 24 (.tmp 11) (.tmp 50) rfl g11 Z.cells.toArray (by rw [HNg11.out]; rfl) rfl _ _ HZw7.out HIZ.out HZO.out (Ver.cells_one _) ?_)
      rw [← HNg11.out, ← HWw7.out]
      have c5 : w7.cell? ⟨g5, m, none⟩ = some (.int .i64 x) := by rw [K57.out.cell]; exact Ver.cells_n hx
      subst h9
      have wm : IntKind.i64.wrap ((N : Int) - 1) = (m : Int) := by rw [IntKind.wrap_i64]; have := HNN.out; omega
      have hm4 : (m : Int) < 4 := by omega
      have hm0 : 0 ≤ (m : Int) := by omega
      clear hx
      go_wp2_with fail
      go_ret
      exact ⟨rfl, HBw7.out⟩
    · have hbb : b = (v.next N, 0) := by rw [hbe, if_pos (by simp [h9])]
      have hnok : (v.next N).Ok := next_length HV.out hN4
      obtain ⟨U, hU⟩ : ∃ U, U = v.next N := ⟨_, rfl⟩
      rw [← hU] at hbb hnok
      subst hbb
      have HU := Lib.hid hU
      have HUO := Lib.hid hnok
      have HIU : Hid ((Tryd.prog.info? 24).map (·.size) = some U.cells.toArray.size) := Lib.hid (by rw [Ver.cells_size hnok]; exact HI6.out)
      have HZU : Hid (Ver.zero.cells.toArray.size = U.cells.toArray.size) := Lib.hid (by rw [Ver.cells_size hnok]; rfl)
      clear hnm hbe hxd HBB hU hnok hx h9
      rw [show U.val = .agg U.cells.toArray from rfl]
      obtain ⟨g11, hg11⟩ : ∃ g11, g11 = w6.heap.size := ⟨_, rfl⟩
      obtain ⟨w7, hw7⟩ : ∃ w7, w7 = (w6.alloc (.cells #[.int .i64 0, .int .i64 0, .int .i64 0, .int .i64 0, .int .i64 0, .string ⟨#[]⟩] 24)).setRow g11 U.cells.toArray := ⟨_, rfl⟩
      have qw7 := laid_ver' w6 U 24
      have bbw7 : Below w6.heap.size w6 w7 := by rw [hw7, hg11]; exact qw7.2
      have Qg11 : Hid (Blk w7 g11 24 U.cells) := Lib.hid (by rw [hw7, hg11]; exact qw7.1)
      have HZw7 : Hid ((w6.alloc (.cells #[.int .i64 0, .int .i64 0, .int .i64 0, .int .i64 0, .int .i64 0, .string ⟨#[]⟩] 24)).heap[g11]? = some (.cells Ver.zero.cells.toArray 24 (0, 0))) := Lib.hid (by rw [hg11]; exact heap_alloc_new _ _)
      have HNg11 := Lib.hid hg11
      have HWw7 := Lib.hid hw7
      have HBw7 : Hid (Below w.heap.size w w7) := Lib.hid (HB6.out.trans (bbw7.mono HB6.out.size))
      have HGw7 := Lib.hid (HG6.out.below bbw7)
      have K57 := Lib.hid (K5.out.below' bbw7)
      have K67 := Lib.hid (K6.out.below' bbw7)
      clear hg11 hw7 qw7 bbw7
      go_upto_region 12 with (refine wpList_store_row rfl 24 (.tmp 11) (.tmp 50) rfl g11 U.cells.toArray (by rw [HNg11.out]; rfl) rfl _ _ HZw7.out HIU.out HZU.out (Ver.cells_one _) ?_)
      rw [← HNg11.out, ← HWw7.out]
      have HL5 := Lib.hid (vload K57.out HV.out)
      have HCV : Hid (v.val = .agg v.cells.toArray) := Lib.hid rfl
      obtain ⟨g12, hg12⟩ : ∃ g12, g12 = w7.heap.size := ⟨_, rfl⟩
      obtain ⟨w8, hw8⟩ : ∃ w8, w8 = (w7.alloc (.cells #[.int .i64 0, .int .i64 0, .int .i64 0, .int .i64 0, .int .i64 0, .string ⟨#[]⟩] 24)).setRow g12 v.cells.toArray := ⟨_, rfl⟩
      have q8 := laid_ver' w7 v 24
      have bb8 : Below w7.heap.size w7 w8 := by rw [hw8, hg12]; exact q8.2
      have q12 : Blk w8 g12 24 v.cells := by rw [hw8, hg12]; exact q8.1
      have HZ8 : Hid ((w7.alloc (.cells #[.int .i64 0, .int .i64 0, .int .i64 0, .int .i64 0, .int .i64 0, .string ⟨#[]⟩] 24)).heap[g12]? = some (.cells Ver.zero.cells.toArray 24 (0, 0))) := Lib.hid (by rw [hg12]; exact heap_alloc_new _ _)
      obtain ⟨w9, hw9⟩ : ∃ w9, w9 = w8.setCell ⟨g12, 4, none⟩ (.int .i64 4) := ⟨_, rfl⟩
      obtain ⟨w10, hw10⟩ : ∃ w10, w10 = w9.setCell ⟨g12, 5, none⟩ (.string (bl tag)) := ⟨_, rfl⟩
      have k9 : Blk w9 g12 24 (v.cells.set 4 (.int .i64 4)) := by rw [hw9]; exact q12.set_ 4 _
      have k10 : Blk w10 g12 24 (⟨v.ns, 4, tag⟩ : Ver).cells := by rw [hw10, ← cells_set45 HV.out]; exact k9.set_ 5 _
      have hnew : ∀ gx, gx < w7.heap.size → gx ≠ g12 := fun gx h e => by omega
      have hb12 : w.heap.size ≤ g12 := by rw [hg12]; exact HBw7.out.size
      have hB8 : Below w.heap.size w w8 := HBw7.out.trans (bb8.mono HBw7.out.size)
      have hB10 : Below w.heap.size w w10 := by rw [hw10, hw9]; exact (hB8.setCell (p := ⟨g12, 4, none⟩) hb12 _).setCell (p := ⟨g12, 5, none⟩) hb12 _
      have far : ∀ {gx T cs}, Blk w7 gx T cs → Blk w10 gx T cs := fun {gx T cs} h => by
        rw [hw10, hw9]
        exact ((h.below' bb8).far (p := ⟨g12, 4, none⟩) (hnew gx h.lt) _).far (p := ⟨g12, 5, none⟩) (hnew gx h.lt) _
      have K510 := Lib.hid (far K57.out)
      have K610 := Lib.hid (far K67.out)
      have K1110 := Lib.hid (far Qg11.out)
      have K1210 := Lib.hid k10
      have HNE : Hid (g5 ≠ g12 ∧ g6 ≠ g12 ∧ g11 ≠ g12 ∧ w.heap.size ≤ g12) := Lib.hid ⟨hnew _ K57.out.lt, hnew _ K67.out.lt, hnew _ Qg11.out.lt, hb12⟩
      have HB10 := Lib.hid hB10
      have HIVV : Hid ((Tryd.prog.info? 24).map (·.size) = some v.cells.toArray.size) := Lib.hid (by rw [Ver.cells_size HV.out]; exact HI6.out)
      have HN12 := Lib.hid hg12
      have HW8 := Lib.hid hw8
      have HW9 := Lib.hid hw9
      have HW10 := Lib.hid hw10
      have c4 : w8.cell? ⟨g12, 4, none⟩ = some (.int .i64 v.c) := by rw [q12.cell]; exact Ver.cells_c HV.out
      have f4 := q12.frozen 4
      have l8 := q12.lt
      have c5 : w9.cell? ⟨g12, 5, none⟩ = some (.string (bl v.t)) := by rw [k9.cell, List.getElem?_set_ne (by decide)]; exact Ver.cells_t HV.out
      have f5 := k9.frozen 5
      have l9 := k9.lt
      have C4 := Lib.hid (And.intro c4 (And.intro f4 l8))
      have C5 := Lib.hid (And.intro c5 (And.intro f5 l9))
      clear hg12 hw8 q8 bb8 q12 hw9 hw10 k9 k10 hnew hb12 hB8 hB10 far c4 f4 l8 c5 f5 l9 K57 K67 Qg11 HBw7 HGw7 HB6 HG6 K5 K6 HZw7 HNg11 HWw7 HB3
      go_upto_region 13 with (first | refine wpList_load_run rfl 24 (.tmp 5) rfl g5 rfl _ HL5.out ?_ | refine wpList_store_row rfl 24 (.tmp 12) (.tmp 60) rfl g12 v.cells.toArray (by rw [HN12.out]; rfl) rfl _ _ HZ8.out HIVV.out HZV.out (Ver.cells_one _) ?_)
      rw [← HN12.out, ← HW8.out]
      obtain ⟨c4, f4, l8⟩ := C4.out
      go_upto_region 14 with fail
      rw [← HW9.out]
      clear c4 f4 l8
      obtain ⟨c5, f5, l9⟩ := C5.out
      go_upto_region 15 with fail
      rw [← HW10.out]
      clear c5 f5 l9 C4 C5 HW8 HW9 HW10 HN12 HZ8 HL5
      go_wp2_with fail
      have HS10 : Hid (∃ ns : List Int, ns.length = 4 ∧ (∀ i, i < N → ns.getD i 0 = v.ns.getD i 0) ∧ Blk w10 g12 24 (⟨ns, 4, tag⟩ : Ver).cells) := Lib.hid ⟨v.ns, HV.out, fun _ _ => rfl, K1210.out⟩
      go_loopg [13] (4 - N) (fun kq iv wr => ∃ k : Nat, iv = .int .i64 k ∧ N ≤ k ∧ k ≤ 4 ∧ kq = 4 - k ∧ Hid (∃ ns : List Int, ns.length = 4 ∧ (∀ i, i < N → ns.getD i 0 = v.ns.getD i 0) ∧ Blk wr g12 24 (⟨ns, 4, tag⟩ : Ver).cells) ∧ Hid (Blk wr g5 24 v.cells) ∧ Hid (Blk wr g6 22 (ints rest)) ∧ Hid (Blk wr g11 24 U.cells) ∧ Hid (Below w.heap.size w wr))
      case atStart => exact ⟨N, rfl, Nat.le_refl _, hN4, rfl, HS10, K510, K610, K1110, HB10⟩
      case round =>
      clear HS10 K510 K610 K1110 K1210 HB10
      obtain ⟨k, rfl, hk1, hk4, rfl, HS, K5, K6, K11, HBR⟩ := hrel
      by_cases hlt : k < 4
      · obtain ⟨ns, hns, hag, k12⟩ := HS.out
        obtain ⟨y, hy⟩ : ∃ y, rest[k]? = some y := ⟨_, List.getElem?_eq_getElem (by have := HR.out; omega)⟩
        obtain ⟨o, ho⟩ : ∃ o, ns[k]? = some o := ⟨_, List.getElem?_eq_getElem (by omega)⟩
        obtain ⟨z, hz⟩ : ∃ z, z = bits .and .i64 y 65535 := ⟨_, rfl⟩
        have hzz : bits .and .i64 y 65535 = z := hz.symm
        have cy : wr.cell? ⟨g6, k, none⟩ = some (.int .i64 y) := by rw [K6.out.cell]; exact ints_get hy
        have co : wr.cell? ⟨g12, k, none⟩ = some (.int .i64 o) := by rw [k12.cell]; exact Ver.cells_n (v := ⟨ns, 4, tag⟩) ho
        have fo := k12.frozen k
        have lo := k12.lt
        obtain ⟨wy, hwy⟩ : ∃ wy, wy = wr.setCell ⟨g12, k, none⟩ (.int .i64 z) := ⟨_, rfl⟩
        have f1 : Hid (∃ ns : List Int, ns.length = 4 ∧ (∀ i, i < N → ns.getD i 0 = v.ns.getD i 0) ∧ Blk wy g12 24 (⟨ns, 4, tag⟩ : Ver).cells) := Lib.hid ⟨ns.set k z, by rw [List.length_set]; exact hns, fun i hi => by rw [← hag i hi, List.getD_eq_getElem?_getD, List.getD_eq_getElem?_getD, List.getElem?_set_ne (by omega)], by
          have := k12.set_ k (.int .i64 z)
          rw [cells_setn hns hlt] at this
          rw [hwy]; exact this⟩
        have f2 : Hid (Blk wy g5 24 v.cells) := Lib.hid (by rw [hwy]; exact K5.out.far HNE.out.1 _)
        have f3 : Hid (Blk wy g6 22 (ints rest)) := Lib.hid (by rw [hwy]; exact K6.out.far HNE.out.2.1 _)
        have f4 : Hid (Blk wy g11 24 U.cells) := Lib.hid (by rw [hwy]; exact K11.out.far HNE.out.2.2.1 _)
        have f5 : Hid (Below w.heap.size w wy) := Lib.hid (by rw [hwy]; exact HBR.out.setCell (p := ⟨g12, k, none⟩) HNE.out.2.2.2 _)
        have HWY := Lib.hid hwy
        have hkI : (k : Int) < 4 := by omega
        have hk0 : 0 ≤ (k : Int) := by omega
        clear hy ho hz hwy k12 hag hns HS K5 K6 K11 HBR
        go_wp2_with fail
        rw [← HWY.out]
        go_roundg (4 - (k + 1))
        case measure => omega
        case rel => exact ⟨k + 1, by go_num, by omega, by omega, rfl, f1, f2, f3, f4, f5⟩
      obtain rfl : k = 4 := by omega
      obtain ⟨ns, hns, hag, k12⟩ := HS.out
      obtain ⟨o, ho⟩ : ∃ o : Ver, o = ⟨ns, 4, tag⟩ := ⟨_, rfl⟩
      have hok : o.Ok := by rw [ho]; exact hns
      have hot : o.t.length ≤ 140737488355328 := by rw [ho]; exact HTG.out
      have HOK := Lib.hid hok
      have HOT := Lib.hid hot
      have hag' : ∀ i, i < N → o.ns.getD i 0 = v.ns.getD i 0 := by rw [ho]; exact hag
      have hcmp : U.cmp o = 1 := by rw [HU.out]; exact next_above HV.out hok hN1 hN4 hag'
      have hcmpv : U.cmp v = 1 := by rw [HU.out]; exact next_above HV.out HV.out hN1 hN4 (fun _ _ => rfl)
      have HCO := Lib.hid hcmp
      have HCV1 := Lib.hid hcmpv
      have k12' : Blk wr g12 24 o.cells := by rw [ho]; exact k12
      have HL12 := Lib.hid (vload k12' hok)
      have HK12 := Lib.hid k12'
      have HGR : Hid (GV wr) := Lib.hid (HGW.out.below HBR.out)
      obtain ⟨tt2, htt2⟩ : ∃ tt2, tt2 = bl (tv o).1 := ⟨_, rfl⟩
      obtain ⟨te2, hte2⟩ : ∃ te2, te2 = (tv o).2 := ⟨_, rfl⟩
      have HTT2 := Lib.hid htt2
      have HTE2 := Lib.hid hte2
      clear ho hns hag k12 hok hot hag' hcmp hcmpv k12' htt2 hte2 HS
      go_wp2_with (refine wpList_load_run rfl 24 (.tmp 12) rfl g12 rfl _ HL12.out ?_)
      refine (text_ok o HOK.out HOT.out wr HGR.out).mono ?_
      rintro e w11 ⟨rfl, hb11⟩
      rw [← HTT2.out, ← HTE2.out]
      have HB11 : Hid (Below w.heap.size w w11) := Lib.hid (HBR.out.trans (hb11.mono HBR.out.size))
      have L12 := Lib.hid (vload (HK12.out.below' hb11) HOK.out)
      have L11 := Lib.hid (vload (K11.out.below' hb11) HUO.out)
      have K5e := Lib.hid (K5.out.below' hb11)
      have K11e := Lib.hid (K11.out.below' hb11)
      clear hb11 HBR HL12 HK12 K5 K6 K11
      cases hmo : o.may with
      | false =>
        have e1 : te2 = 20 := by rw [HTE2.out]; unfold tv; rw [if_neg (by rw [hmo]; decide)]
        subst e1
        clear hmo
        go_wp2_with fail
        go_ret
        exact ⟨rfl, HB11.out⟩
      | true =>
        have e1 : te2 = 0 := by rw [HTE2.out]; unfold tv; rw [if_pos hmo]
        subst e1
        clear hmo
        go_wp2_with (first | refine wpList_load_run rfl 24 (.tmp 11) rfl g11 rfl _ L11.out ?_ | refine wpList_load_run rfl 24 (.tmp 12) rfl g12 rfl _ L12.out ?_)
        refine (compare_ok U o HUO.out HOK.out w11).mono ?_
        rintro e w12 ⟨rfl, hb12⟩
        rw [HCO.out]
        have M11 := Lib.hid (vload (K11e.out.below' hb12) HUO.out)
        have M5 := Lib.hid (vload (K5e.out.below' hb12) HV.out)
        have HB12 : Hid (Below w.heap.size w w12) := Lib.hid (HB11.out.trans (hb12.mono HB11.out.size))
        clear hb12 L11 L12
        go_wp2_with (first | refine wpListw_load_run rfl 24 (.tmp 11) rfl g11 rfl _ M11.out ?_ | refine wpListw_load_run rfl 24 (.tmp 5) rfl g5 rfl _ M5.out ?_)
        refine (compare_ok U v HUO.out HV.out w12).mono ?_
        rintro e w13 ⟨rfl, hb13⟩
        rw [HCV1.out]
        have HB13 : Hid (Below w.heap.size w w13) := Lib.hid (HB12.out.trans (hb13.mono HB12.out.size))
        clear hb13
        go_wp2_with fail
        go_ret
        exact ⟨rfl, HB13.out⟩

end Go.Proofs.YteeijjhgdplifaaDoor
