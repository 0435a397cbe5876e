/- Spans: behind. -/
import Derived.Test.YteeijjhgdplifaaGreatDoorSA
namespace Go.Proofs.YteeijjhgdplifaaGreatDoor
open Go.RowKit

/-- how many cuts are not above a place -/
def cnt (cs : List Cut) (t : Cut) : Nat := (cs.filter (cle · t)).length
theorem par_cnt (cs : List Cut) (t : Cut) : par cs t = decide (cnt cs t % 2 = 1) := by
  induction cs with
  | nil => rfl
  | cons c cs ih =>
    rw [par]
    unfold cnt at ih ⊢
    cases h : cle c t with
    | true =>
      rw [if_pos rfl, List.filter_cons, if_pos h, List.length_cons, ih, Bool.eq_iff_iff]
      simp only [Bool.not_eq_true', decide_eq_false_iff_not, decide_eq_true_eq]
      omega
    | false => simp only [Bool.false_eq_true, if_false, List.filter_cons, h]; exact ih
theorem cnt_snoc (cs : List Cut) (t : Cut) {i : Nat} {x : Cut} (hx : cs[i]? = some x) : cnt (cs.take (i + 1)) t = cnt (cs.take i) t + if cle x t then 1 else 0 := by
  obtain ⟨h1, h2⟩ := List.getElem?_eq_some_iff.1 hx
  unfold cnt
  rw [List.take_succ_eq_append_getElem h1, h2, List.filter_append, List.length_append]
  congr 1
  cases h : cle x t <;> simp [List.filter_cons, h]
theorem cnt_le (cs : List Cut) (t : Cut) (i : Nat) : cnt (cs.take i) t ≤ i := Nat.le_trans (List.length_filter_le _ _) (List.length_take_le _ _)
/-- Where a row of cuts lies, each may be read. -/
def CReads (w : World) (b o : Nat) (cs : List Cut) : Prop := ∀ wr, Below w.heap.size w wr → ∀ k c, cs[k]? = some c → (loadVar 57 ⟨b, o + k * 7, none⟩).run Tryz.prog wr = .ok (.agg c.cells.toArray) wr
theorem cells_in {cs : List Cut} (hok : Oks cs) {k : Nat} {c : Cut} (hk : cs[k]? = some c) {j : Nat} {v : Value} (hv : c.cells[j]? = some v) : (cutsL cs)[k * 7 + j]? = some v := by
  have hc := hok c (List.mem_of_getElem? hk)
  have hj : j < 7 := by have := (List.getElem?_eq_some_iff.1 hv).1; rw [Cut.cells_len hc] at this; exact this
  induction cs generalizing k with
  | nil => simp at hk
  | cons d cs ih =>
    have e : cutsL (d :: cs) = d.cells ++ cutsL cs := by unfold cutsL; rw [List.flatMap_cons]
    have h7 := Cut.cells_len (hok d (by simp))
    rw [e]
    cases k with
    | zero =>
      obtain rfl : d = c := by simpa using hk
      rw [Nat.zero_mul, Nat.zero_add, List.getElem?_append_left (by omega)]
      exact hv
    | succ k =>
      rw [List.getElem?_append_right (by omega), h7, show (k + 1) * 7 + j - 7 = k * 7 + j by omega]
      exact ih (fun x hx => hok x (List.mem_cons_of_mem _ hx)) (by simpa using hk)
theorem spot_none1 {w : World} {ad : Addr} {u : Value} (h : w.cell? (ad.add 0) = some u) : ad = ⟨ad.block, ad.off, none⟩ := by
  have e : ad.add 0 = ad := by unfold Addr.add; rfl
  rw [e] at h
  cases ad with
  | mk b o s =>
    cases s with
    | none => rfl
    | some k =>
      unfold World.cell? at h
      split at h
      · split at h
        · cases h
        · rename_i hs
          exact absurd rfl hs
      · cases h
theorem creads_of {w : World} {F : Nat → Prop} {A : Option Addr} {n c : Nat} {cs : List Cut} (hok : Oks cs) (h : Sl w F 7 (.slice A n c) n (cutsL cs)) (hn : 0 < n) : ∃ b o, A = some ⟨b, o, none⟩ ∧ CReads w b o cs := by
  obtain ⟨hl, A', c', hv, _, hcc⟩ := h
  obtain ⟨ad, hA, hF, hcell⟩ := hcc hn
  simp only [Value.slice.injEq] at hv
  rw [cutsL_len hok] at hl
  have hcn : cs.length = n := by omega
  obtain ⟨c0, h0⟩ : ∃ c0, cs[0]? = some c0 := ⟨_, List.getElem?_eq_getElem (by omega)⟩
  have hv0 := cells_in hok h0 (c0.cells_at)
  rw [Nat.zero_mul, Nat.zero_add] at hv0
  have hsp := spot_none1 (hcell 0 _ hv0)
  refine ⟨ad.block, ad.off, by rw [hv.1, hA, ← hsp], fun wr hb k x hk => ?_⟩
  have hx := hok x (List.mem_of_getElem? hk)
  refine run_loadVar_mid wr ad.block (ad.off + k * 7) _ x.cells _ (fun j v hj => ?_) Tryz.underlying57 rfl ?_
  · have h1 := hcell (k * 7 + j) _ (cells_in hok hk hj)
    rw [hsp, add_lit0] at h1
    have h2 : w.cell? ⟨ad.block, ad.off + k * 7 + j, none⟩ = some v := by rw [Nat.add_assoc]; exact h1
    exact (hb.cell (p := ⟨ad.block, ad.off + k * 7 + j, none⟩) (World.block_lt_of_cell? w _ h2)).trans h2
  · have hi : (Tryz.prog.info? 57).map (·.size) = some 7 := by kernel_rfl
    rw [Cut.cells_len hx]; exact hi
theorem cut_one1 (c : Cut) : ∀ v ∈ c.cells, v.oneCell' = true := by
  intro v hv
  rcases List.mem_cons.1 hv with rfl | hv
  · rfl
  · have := Ver.cells_one c.v
    rw [Array.all_eq_true_iff_forall_mem] at this
    exact this v (by simpa using hv)
theorem laid_cut (w : World) (U : Cut) : Blk ((w.alloc (.cells #[.int .i64 0, .int .i64 0, .int .i64 0, .int .i64 0, .int .i64 0, .int .i64 0, .string ⟨#[]⟩] 57)).setRow w.heap.size U.cells.toArray) w.heap.size 57 U.cells ∧ Below w.heap.size w ((w.alloc (.cells #[.int .i64 0, .int .i64 0, .int .i64 0, .int .i64 0, .int .i64 0, .int .i64 0, .string ⟨#[]⟩] 57)).setRow w.heap.size U.cells.toArray) := by
  have h1 : Below w.heap.size w (w.alloc (.cells #[.int .i64 0, .int .i64 0, .int .i64 0, .int .i64 0, .int .i64 0, .int .i64 0, .string ⟨#[]⟩] 57)) := (Below.refl _ _).alloc (Nat.le_refl _) _
  exact ⟨(Blk.new w _ _).setRow_ U.cells, h1.trans (((Mod.refl (fun b => w.heap.size ≤ b) _).setRow (fun _ => Nat.le_refl _) _).below h1.size (fun _ h => h))⟩
end Go.Proofs.YteeijjhgdplifaaGreatDoor
