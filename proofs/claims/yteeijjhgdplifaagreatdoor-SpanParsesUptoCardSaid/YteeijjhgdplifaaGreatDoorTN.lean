/- Slices of versions that came in. -/
import Derived.Test.YteeijjhgdplifaaGreatDoorTH
import Derived.Test.YteeijjhgdplifaaGreatDoorTI
import Derived.Test.YteeijjhgdplifaaGreatDoorTZ
namespace Go.Proofs.YteeijjhgdplifaaGreatDoor
open Go.RowKit Go.ChangeShapes Go.WideShapes Go.ChangeAt Go.Deep

theorem wpListw_load_at {P : Program} {ops : Array Oper} {rest : List Oper} {o : Oper} {a : Act} {w : World} {Q : Exit → Act → World → Prop} (hw : Region.wanted o (yielded ops a.tmps) = true) (ty : TypeId) (x : Operand) (ho : o.op = .load ty x) (p : Addr) (hx : a.eval x = .pointer (some p)) (v : Value)
    (hr : (loadVar ty p).run P w = .ok v w) (h : wpList P ops Q rest (a.put o.dst v) w) : wpList P ops Q (o :: rest) a w :=
  BigFrame.wpList_want hw fun _ hK => wp_load_at ty x ho p hx v hr (hK _ _ h)
def versL (Vs : List Ver) : List Value := Vs.flatMap Ver.cells
def VOks (Vs : List Ver) : Prop := ∀ V ∈ Vs, V.Ok ∧ V.t.length ≤ 140737488351232
theorem Ver.cells_len {v : Ver} (h : v.Ok) : v.cells.length = 6 := by have := Ver.cells_size h; simpa using this
theorem versL_len : ∀ {Vs : List Ver}, (∀ V ∈ Vs, V.Ok) → (versL Vs).length = Vs.length * 6
  | [], _ => rfl
  | V :: Vs, h => by
    have := versL_len (Vs := Vs) (fun x hx => h x (List.mem_cons_of_mem _ hx))
    have h6 := Ver.cells_len (h V (by simp))
    unfold versL at this ⊢
    rw [List.flatMap_cons, List.length_append, this, h6, List.length_cons]; omega
theorem vcells_in {Vs : List Ver} (hok : ∀ V ∈ Vs, V.Ok) {k : Nat} {V : Ver} (hk : Vs[k]? = some V) {j : Nat} {v : Value} (hv : V.cells[j]? = some v) : (versL Vs)[k * 6 + j]? = some v := by
  have hV := hok V (List.mem_of_getElem? hk)
  have hj : j < 6 := by have := (List.getElem?_eq_some_iff.1 hv).1; rw [Ver.cells_len hV] at this; exact this
  induction Vs generalizing k with
  | nil => simp at hk
  | cons d Vs ih =>
    have e : versL (d :: Vs) = d.cells ++ versL Vs := by unfold versL; rw [List.flatMap_cons]
    have h6 := Ver.cells_len (hok d (by simp))
    rw [e]
    cases k with
    | zero =>
      obtain rfl : d = V := by simpa using hk
      rw [Nat.zero_mul, Nat.zero_add, List.getElem?_append_left (by omega)]
      exact hv
    | succ k =>
      rw [List.getElem?_append_right (by omega), h6, show (k + 1) * 6 + j - 6 = k * 6 + j by omega]
      exact ih (fun x hx => hok x (List.mem_cons_of_mem _ hx)) (by simpa using hk)
/-- Where a row of versions lies, each may be read. -/
def VReads (w : World) (b o : Nat) (Vs : List Ver) : Prop := ∀ wr, Below w.heap.size w wr → ∀ k V, Vs[k]? = some V → (loadVar 38 ⟨b, o + k * 6, none⟩).run Tryz.prog wr = .ok (.agg V.cells.toArray) wr
theorem vreads_of {w : World} {F : Nat → Prop} {A : Option Addr} {n c : Nat} {Vs : List Ver} (hok : ∀ V ∈ Vs, V.Ok) (h : Sl w F 6 (.slice A n c) n (versL Vs)) (hn : 0 < n) : ∃ b o, A = some ⟨b, o, none⟩ ∧ VReads w b o Vs := by
  obtain ⟨hl, A', c', hv, _, hcc⟩ := h
  obtain ⟨ad, hA, hF, hcell⟩ := hcc hn
  simp only [Value.slice.injEq] at hv
  rw [versL_len hok] at hl
  have hcn : Vs.length = n := by omega
  obtain ⟨V0, h0⟩ : ∃ V0, Vs[0]? = some V0 := ⟨_, List.getElem?_eq_getElem (by omega)⟩
  obtain ⟨u0, hu0⟩ : ∃ u0, V0.cells[0]? = some u0 := ⟨_, List.getElem?_eq_getElem (by rw [Ver.cells_len (hok V0 (List.mem_of_getElem? h0))]; decide)⟩
  have hv0 := vcells_in hok h0 hu0
  rw [Nat.zero_mul, Nat.zero_add] at hv0
  have hsp := spot_none1 (hcell 0 _ hv0)
  refine ⟨ad.block, ad.off, by rw [hv.1, hA, ← hsp], fun wr hb k V hk => ?_⟩
  have hV := hok V (List.mem_of_getElem? hk)
  refine run_loadVar_mid wr ad.block (ad.off + k * 6) _ V.cells _ (fun j v hj => ?_) Tryz.underlying38 rfl ?_
  · have h1 := hcell (k * 6 + j) _ (vcells_in hok hk hj)
    rw [hsp, add_lit0] at h1
    have h2 : w.cell? ⟨ad.block, ad.off + k * 6 + j, none⟩ = some v := by rw [Nat.add_assoc]; exact h1
    exact (hb.cell (p := ⟨ad.block, ad.off + k * 6 + j, none⟩) (World.block_lt_of_cell? w _ h2)).trans h2
  · have hi : (Tryz.prog.info? 38).map (·.size) = some 6 := by kernel_rfl
    rw [Ver.cells_len hV]; exact hi
theorem choose_upto {α : Type} [Inhabited α] {n : Nat} {p : Nat → α → Prop} (h : ∀ i, i < n → ∃ b, p i b) : ∃ f : Nat → α, ∀ i, i < n → p i (f i) := by
  classical
  refine ⟨fun i => if hi : i < n then Classical.choose (h i hi) else default, fun i hi => ?_⟩
  simp only [dif_pos hi]
  exact Classical.choose_spec (h i hi)
instance : Inhabited Ver := ⟨Ver.zero⟩
/-- how many versions may come in -/
theorem vers_few {H : Type} {enc : TypeId × Value → H} {w : World} {fuel : Nat} {A : Option Addr} {n c : Nat} {x : DataW H × List MemPlace} (h : DataW.trod enc Tryz.prog w 0 (fun _ => true) true fuel 31 [.slice A n c] = some x) (hB : Within Tryz.prog reachBytes 31 x.1) : n ≤ 140737488351232 := by
  rcases open_slice Tryz.underlying31 h with ⟨hcs, hd⟩ | ⟨a, len, cap, m, n', D, Pl, hcs, _, hl, hm, hmm, hx, hi⟩
  · simp only [List.cons.injEq, and_true, Value.slice.injEq] at hcs
    omega
  · simp only [List.cons.injEq, and_true, Value.slice.injEq] at hcs
    have h0 : x.1 = .slice ((List.range len).map D) ((List.range (m - len)).map fun j => D (len + j)) := (Prod.mk.inj hx).1
    rw [h0] at hB
    have := within_len Tryz.underlying31 hB
    have hb : Tryz.prog.bytesOf 38 = 56 := by kernel_rfl
    rw [hb, reach_eq, List.length_map, List.length_range] at this
    omega
/-- A slice of versions that came in. -/
theorem open_vers {H : Type} {enc : TypeId × Value → H} {w : World} {fuel : Nat} {v : Value} {x : DataW H × List MemPlace} (h : DataW.trod enc Tryz.prog w 0 (fun _ => true) true fuel 31 [v] = some x) (hB : Within Tryz.prog reachBytes 31 x.1) :
    ∃ A n c Vs, v = .slice A n c ∧ Vs.length = n ∧ VOks Vs ∧ Sl w (fun _ => True) 6 (.slice A n c) n (versL Vs) := by
  have hC : Tryz.prog.cellsOf 38 = 6 := by kernel_rfl
  rcases open_slice Tryz.underlying31 h with ⟨hcs, hd⟩ | ⟨a, len, cap, m, n, D, Pl, hcs, _, hl, hm, hmm, hx, hi⟩
  · simp only [List.cons.injEq, and_true] at hcs
    exact ⟨none, 0, 0, [], hcs, rfl, fun V hV => (by cases hV), Sl.nil_ _ _ _⟩
  · simp only [List.cons.injEq, and_true] at hcs
    subst hcs
    have hmc : m = cap := by simpa using hmm
    rw [hC] at hi
    obtain ⟨f, hf⟩ := choose_upto (α := Ver) (n := len) (p := fun i V => V.Ok ∧ V.t.length ≤ 140737488351232 ∧ ∀ q u, V.cells[q]? = some u → w.cell? ((a.add (i * 6)).add q) = some u) (fun i hil => by
      obtain ⟨cs', h1, h2⟩ := hi i (by omega)
      have hw : Within Tryz.prog reachBytes 38 (D i) := by
        have h0 : x.1 = .slice ((List.range len).map D) ((List.range (m - len)).map fun j => D (len + j)) := (Prod.mk.inj hx).1
        rw [h0] at hB
        exact within_elem Tryz.underlying31 hB (List.mem_map.2 ⟨i, List.mem_range.2 hil, rfl⟩)
      obtain ⟨V, e, hV, ht⟩ := open_ver h2 hw
      obtain ⟨_, hlen, hc⟩ := World.cells?_some h1
      refine ⟨V, hV, ht, fun q u hu => ?_⟩
      subst e
      have hq : q < 6 := by have := (List.getElem?_eq_some_iff.1 hu).1; rw [Ver.cells_len hV] at this; exact this
      rw [hc q hq]
      exact hu)
    have hget : ∀ i V, ((List.range len).map f)[i]? = some V → i < len ∧ V = f i := by
      intro i V hV
      have hil : i < len := by have := (List.getElem?_eq_some_iff.1 hV).1; simpa using this
      rw [List.getElem?_map, List.getElem?_range hil] at hV
      exact ⟨hil, (Option.some.inj hV).symm⟩
    have hoks : VOks ((List.range len).map f) := by
      intro V hV
      obtain ⟨i, hi', rfl⟩ := List.mem_map.1 hV
      have := hf i (List.mem_range.1 hi')
      exact ⟨this.1, this.2.1⟩
    refine ⟨some a, len, cap, (List.range len).map f, rfl, by simp, hoks, ⟨by rw [versL_len fun V hV => (hoks V hV).1]; simp, some a, cap, rfl, hl, fun _ => ⟨a, rfl, trivial, fun j u hu => ?_⟩⟩⟩
    have hjl : j < ((List.range len).map f).length * 6 := by
      have := (List.getElem?_eq_some_iff.1 hu).1
      rw [versL_len fun V hV => (hoks V hV).1] at this
      exact this
    obtain ⟨k, q, hq, rfl⟩ : ∃ k q, q < 6 ∧ j = k * 6 + q := ⟨j / 6, j % 6, Nat.mod_lt _ (by omega), by omega⟩
    have hk : k < len := by simp at hjl; omega
    have hk2 : ((List.range len).map f)[k]? = some (f k) := by rw [List.getElem?_map, List.getElem?_range hk]; rfl
    obtain ⟨u', hu'⟩ : ∃ u', (f k).cells[q]? = some u' := ⟨_, List.getElem?_eq_getElem (by rw [Ver.cells_len (hf k hk).1]; exact hq)⟩
    have e := vcells_in (fun V hV => (hoks V hV).1) hk2 hu'
    rw [hu] at e
    obtain rfl := Option.some.inj e
    have := (hf k hk).2.2 q u hu'
    rw [add_add'] at this
    exact this
end Go.Proofs.YteeijjhgdplifaaGreatDoor
