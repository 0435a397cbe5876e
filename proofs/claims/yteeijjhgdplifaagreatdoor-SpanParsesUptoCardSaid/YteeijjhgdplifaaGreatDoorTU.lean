/- The document's ranges: below, has. -/
import Derived.Test.YteeijjhgdplifaaGreatDoorTN
import Derived.Test.YteeijjhgdplifaaGreatDoorTI
import Derived.Test.YteeijjhgdplifaaGreatDoorVl
import Derived.Test.YteeijjhgdplifaaGreatDoorVm
namespace Go.Proofs.YteeijjhgdplifaaGreatDoor
open Go.RowKit

theorem laid_rver (w : World) (v : Ver) : Blk ((w.alloc (.cells Ver.zero.cells.toArray 37)).setRow w.heap.size v.cells.toArray) w.heap.size 37 v.cells ∧ Below w.heap.size w ((w.alloc (.cells Ver.zero.cells.toArray 37)).setRow w.heap.size v.cells.toArray) := by
  have h1 : Below w.heap.size w (w.alloc (.cells Ver.zero.cells.toArray 37)) := (Below.refl _ _).alloc (Nat.le_refl _) _
  exact ⟨(Blk.new w _ _).setRow_ v.cells, h1.trans (((Mod.refl (fun b => w.heap.size ≤ b) _).setRow (fun _ => Nat.le_refl _) _).below h1.size (fun _ h => h))⟩
abbrev zr : Array Value := #[.int .i64 0, .int .i64 0, .int .i64 0, .int .i64 0, .int .i64 0, .string ⟨#[]⟩]
set_option maxRecDepth 100000 in
set_option maxHeartbeats 2000000 in
theorem refBelow_ok (x v : Ver) (hx : x.Ok) (hv : v.Ok) (hvt : v.t.length ≤ 140737488355328) (n : Int) (w : World) : Calls Tryz.prog 53 #[.agg x.cells.toArray, .agg v.cells.toArray, .int .i64 n] w fun e w' => e = .returned (.bool (belowT x v n)) ∧ Below w.heap.size w w' := by
  obtain ⟨w1, hw1⟩ : ∃ w1, w1 = w.alloc (.cells x.cells.toArray 37) := ⟨_, rfl⟩
  obtain ⟨w2, hw2⟩ : ∃ w2, w2 = w1.alloc (.cells v.cells.toArray 37) := ⟨_, rfl⟩
  obtain ⟨g3, hg3⟩ : ∃ g3, g3 = w.heap.size := ⟨_, rfl⟩
  obtain ⟨g4, hg4⟩ : ∃ g4, g4 = g3 + 1 := ⟨_, rfl⟩
  have hb1 : Below w.heap.size w w1 := by rw [hw1]; exact (Below.refl _ _).alloc (Nat.le_refl _) _
  have hb2 : Below w1.heap.size w1 w2 := by rw [hw2]; exact (Below.refl _ _).alloc (Nat.le_refl _) _
  have k3 : Blk w2 g3 37 x.cells := by
    have : Blk w1 g3 37 x.cells := by rw [hw1, hg3]; exact Blk.new _ _ x.cells.toArray
    exact this.below' hb2
  have k4 : Blk w2 g4 37 v.cells := by
    have e : g4 = w1.heap.size := by rw [hg4, hg3, hw1]; simp
    rw [hw2, e]; exact Blk.new _ _ v.cells.toArray
  have HB2 : Hid (Below w.heap.size w w2) := Lib.hid (hb1.trans (hb2.mono hb1.size))
  have LV := Lib.hid (rload k4 hv)
  have K3 := Lib.hid k3
  have HX := Lib.hid hx
  obtain ⟨U, hU⟩ : ∃ U, U = (v.bump n).1 := ⟨_, rfl⟩
  obtain ⟨E, hE⟩ : ∃ E, E = (v.bump n).2 := ⟨_, rfl⟩
  have HUO : Hid U.Ok := Lib.hid (by rw [hU]; exact (bump_form hv n).1)
  have HBP : Hid (Calls Tryz.prog 80 #[v.val, .int .i64 n] w2 fun e w' => e = .returned (.tuple #[.agg U.cells.toArray, .int .i64 E]) ∧ Below w2.heap.size w2 w') := Lib.hid (by rw [hU, hE]; exact refBump_ok v hv hvt n w2)
  obtain ⟨BT, hBT⟩ : ∃ BT, BT = belowT x v n := ⟨_, rfl⟩
  have HBT : Hid (BT = (decide (E ≠ 0) || decide (x.cmp U < 0))) := Lib.hid (by rw [hBT, hU, hE]; rfl)
  rw [← hBT]
  have HW1 := Lib.hid hw1
  have HW2 := Lib.hid hw2
  have HG3 := Lib.hid hg3
  have HG4 := Lib.hid hg4
  clear hw1 hw2 hg3 hg4 hb1 hb2 k3 k4 hx hv hvt hU hE hBT
  go_enter Tryz.func53, Tryz.ntmps53
  go_upto_region 1 with fail
  rw [← HW1.out, ← HW2.out, ← HG3.out, ← HG4.out]
  go_wp2_with (refine wpList_load_at rfl 37 (.tmp 4) rfl ⟨g4, 0, none⟩ rfl _ LV.out ?_)
  refine HBP.out.mono ?_
  rintro e w3 ⟨rfl, hb3⟩
  obtain ⟨g7, hg7⟩ : ∃ g7, g7 = w3.heap.size := ⟨_, rfl⟩
  obtain ⟨w4, hw4⟩ : ∃ w4, w4 = (w3.alloc (.cells zr 37)).setRow g7 U.cells.toArray := ⟨_, rfl⟩
  have q4 := laid_rver w3 U
  have hb4 : Below w3.heap.size w3 w4 := by rw [hw4, hg7]; exact q4.2
  have k7 : Blk w4 g7 37 U.cells := by rw [hw4, hg7]; exact q4.1
  have k3 : Blk w4 g3 37 x.cells := (K3.out.below' hb3).below' hb4
  have HB4 : Hid (Below w.heap.size w w4) := Lib.hid ((HB2.out.trans (hb3.mono HB2.out.size)).trans (hb4.mono (Nat.le_trans HB2.out.size hb3.size)))
  have HZ4 : Hid ((w3.alloc (.cells zr 37)).heap[g7]? = some (.cells Ver.zero.cells.toArray 37 (0, 0))) := Lib.hid (by rw [hg7]; exact heap_alloc_new _ _)
  have HIU : Hid ((Tryz.prog.info? 37).map (·.size) = some U.cells.toArray.size) := Lib.hid (by rw [Ver.cells_size HUO.out]; kernel_rfl)
  have HZU : Hid (Ver.zero.cells.toArray.size = U.cells.toArray.size) := Lib.hid (by rw [Ver.cells_size HUO.out]; rfl)
  have HONU : Hid (U.cells.toArray.all (·.oneCell') = true) := Lib.hid (Ver.cells_one U)
  have LU := Lib.hid (rload k7 HUO.out)
  have LX := Lib.hid (rload k3 HX.out)
  have HG7 := Lib.hid hg7
  have HW4 := Lib.hid hw4
  clear hb3 hg7 hw4 q4 hb4 k7 k3
  go_upto_region 2 with (refine wpList_store_row rfl 37 (.tmp 7) (.tmp 13) rfl g7 U.cells.toArray (by rw [HG7.out]; rfl) rfl _ _ HZ4.out HIU.out HZU.out HONU.out ?_)
  rw [← HG7.out, ← HW4.out]
  by_cases h0 : E = 0
  · subst h0
    obtain ⟨C, hC⟩ : ∃ C, C = x.cmp U := ⟨_, rfl⟩
    have HCP : Hid (Calls Tryz.prog 52 #[x.val, U.val] w4 fun e w' => e = .returned (.int .i64 C) ∧ Below w4.heap.size w4 w') := Lib.hid (by rw [hC]; exact refCompare_ok x U HX.out HUO.out w4)
    have HBT2 : Hid (BT = decide (C < 0)) := Lib.hid (by rw [HBT.out, hC]; simp)
    clear hC
    go_wp2_with (first | refine wpListw_load_at rfl 37 (.tmp 3) rfl ⟨g3, 0, none⟩ rfl _ LX.out ?_ | refine wpListw_load_at rfl 37 (.tmp 7) rfl ⟨g7, 0, none⟩ rfl _ LU.out ?_)
    refine HCP.out.mono ?_
    rintro e w5 ⟨rfl, hb5⟩
    have HB5 : Hid (Below w.heap.size w w5) := Lib.hid (HB4.out.trans (hb5.mono HB4.out.size))
    clear hb5
    by_cases hc : C < 0
    · have HBT3 : Hid (BT = true) := Lib.hid (by rw [HBT2.out]; exact decide_eq_true hc)
      go_wp2_with fail
      go_ret
      exact ⟨by rw [HBT3.out]; first | rfl | simp [hc], HB5.out⟩
    · have HBT3 : Hid (BT = false) := Lib.hid (by rw [HBT2.out]; exact decide_eq_false hc)
      go_wp2_with fail
      go_ret
      exact ⟨by rw [HBT3.out]; first | rfl | simp [hc], HB5.out⟩
  · have hE1 : (E == 0) = false := by simpa using h0
    have HBT3 : Hid (BT = true) := Lib.hid (by rw [HBT.out]; simp [h0])
    go_wp2_with fail
    go_ret
    exact ⟨by rw [HBT3.out]; first | rfl | simp [h0], HB4.out⟩
/-- a term's cells -/
def tcells (op : List UInt8) (v : Ver) : List Value := .string (bl op) :: v.cells
theorem tvload {w : World} {g : Nat} {op : List UInt8} {v : Ver} (h : Blk w g 64 (tcells op v)) (hv : v.Ok) : (loadVar 37 ⟨g, 1, none⟩).run Tryz.prog w = .ok (.agg v.cells.toArray) w := by
  refine run_loadVar_mid w g 1 _ v.cells _ (fun j x hx => ?_) Tryz.underlying37 rfl ?_
  · rw [h.cell, show 1 + j = j + 1 by omega]
    exact hx
  · have hi : (Tryz.prog.info? 37).map (·.size) = some 6 := by kernel_rfl
    have h2 : v.cells.length = 6 := by have := Ver.cells_size hv; simpa using this
    rw [h2]; exact hi
set_option maxRecDepth 100000 in
set_option maxHeartbeats 8000000 in
theorem refHas1_ok (op : List UInt8) (v x : Ver) (hop : op = [42] ∨ op ∈ allOps) (hv : v.Ok) (hvt : v.t.length ≤ 140737488355328) (hvm : op ≠ [42] → v.may = true) (hx : x.Ok) (w : World) : Calls Tryz.prog 35 #[.agg (tcells op v).toArray, .agg x.cells.toArray] w fun e w' => e = .returned (.bool (hasT op v x)) ∧ Below w.heap.size w w' := by
  obtain ⟨w1, hw1⟩ : ∃ w1, w1 = w.alloc (.cells (tcells op v).toArray 64) := ⟨_, rfl⟩
  obtain ⟨w2, hw2⟩ : ∃ w2, w2 = w1.alloc (.cells x.cells.toArray 37) := ⟨_, rfl⟩
  obtain ⟨g2, hg2⟩ : ∃ g2, g2 = w.heap.size := ⟨_, rfl⟩
  obtain ⟨g3, hg3⟩ : ∃ g3, g3 = g2 + 1 := ⟨_, rfl⟩
  have hb1 : Below w.heap.size w w1 := by rw [hw1]; exact (Below.refl _ _).alloc (Nat.le_refl _) _
  have hb2 : Below w1.heap.size w1 w2 := by rw [hw2]; exact (Below.refl _ _).alloc (Nat.le_refl _) _
  have k2 : Blk w2 g2 64 (tcells op v) := by
    have : Blk w1 g2 64 (tcells op v) := by rw [hw1, hg2]; exact Blk.new _ _ (tcells op v).toArray
    exact this.below' hb2
  have k3 : Blk w2 g3 37 x.cells := by
    have e : g3 = w1.heap.size := by rw [hg3, hg2, hw1]; simp
    rw [hw2, e]; exact Blk.new _ _ x.cells.toArray
  have HB2 : Hid (Below w.heap.size w w2) := Lib.hid (hb1.trans (hb2.mono hb1.size))
  have HLX : Hid (∀ wI, Below w2.heap.size w2 wI → (loadVar 37 ⟨g3, 0, none⟩).run Tryz.prog wI = .ok (.agg x.cells.toArray) wI) := Lib.hid (fun wI hb => rload (k3.below' hb) hx)
  have HLT : Hid (∀ wI, Below w2.heap.size w2 wI → (loadVar 37 ⟨g2, 1, none⟩).run Tryz.prog wI = .ok (.agg v.cells.toArray) wI) := Lib.hid (fun wI hb => tvload (k2.below' hb) hv)
  have HBL : Hid (∀ n wI, Below w2.heap.size w2 wI → Calls Tryz.prog 53 #[.agg x.cells.toArray, .agg v.cells.toArray, .int .i64 n] wI fun e w' => e = .returned (.bool (belowT x v n)) ∧ Below wI.heap.size wI w') := Lib.hid (fun n wI _ => refBelow_ok x v hx hv hvt n wI)
  have K2 := Lib.hid k2
  obtain ⟨C, hC⟩ : ∃ C, C = x.cmp v := ⟨_, rfl⟩
  have HCP : Hid (∀ wI, Calls Tryz.prog 52 #[x.val, v.val] wI fun e w' => e = .returned (.int .i64 C) ∧ Below wI.heap.size wI w') := Lib.hid (fun wI => by rw [hC]; exact refCompare_ok x v hx hv wI)
  obtain ⟨HT, hHT⟩ : ∃ HT, HT = hasT op v x := ⟨_, rfl⟩
  rw [← hHT]
  have HHT := Lib.hid hHT
  have HC := Lib.hid hC.symm
  have HV := Lib.hid hv
  have HVM := Lib.hid hvm
  have HOP := Lib.hid hop
  have HW1 := Lib.hid hw1
  have HW2 := Lib.hid hw2
  have HG2 := Lib.hid hg2
  have HG3 := Lib.hid hg3
  clear hw1 hw2 hg2 hg3 hb1 hb2 k2 k3 hC hHT hv hvt hvm hx hop
  go_enter Tryz.func35, Tryz.ntmps35
  go_upto_region 1 with fail
  rw [← HW1.out, ← HW2.out, ← HG2.out, ← HG3.out]
  go_wp2_with (first | refine wpList_load_at rfl 37 (.tmp 3) rfl ⟨g3, 0, none⟩ rfl _ (HLX.out w2 (Below.refl _ _)) ?_ | refine wpList_load_at rfl 37 (.tmp 10) rfl ⟨g2, 1, none⟩ rfl _ (HLT.out w2 (Below.refl _ _)) ?_)
  refine (HCP.out w2).mono ?_
  rintro e w4 ⟨rfl, hb4⟩
  have HB24 := Lib.hid hb4
  have HB4 : Hid (Below w.heap.size w w4) := Lib.hid (HB2.out.trans (hb4.mono HB2.out.size))
  have k4 := K2.out.below' hb4
  have c0 : w4.cell? ⟨g2, 0, none⟩ = some (.string (bl op)) := by rw [k4.cell]; rfl
  have c5 : w4.cell? ⟨g2, 5, none⟩ = some (.int .i64 v.c) := by rw [k4.cell]; exact Ver.cells_c HV.out
  have HCN : Hid (∀ i a, v.ns[i]? = some a → w4.cell? ⟨g2, 1 + i, none⟩ = some (.int .i64 a)) := Lib.hid (fun i a h => by rw [k4.cell, show 1 + i = i + 1 by omega]; exact Ver.cells_n h)
  have l2 := k4.lt
  clear hb4 k4 K2
  have hops : op = [42] ∨ op = [62, 61] ∨ op = [60, 61] ∨ op = [62] ∨ op = [60] ∨ op = [61] ∨ op = [126] ∨ op = [94] := by
    rcases HOP.out with h | h
    · exact .inl h
    · simp only [allOps, List.mem_cons, List.not_mem_nil, or_false] at h
      rcases h with h | h | h | h | h | h | h
      · exact .inr (.inl h)
      · exact .inr (.inr (.inl h))
      · exact .inr (.inr (.inr (.inl h)))
      · exact .inr (.inr (.inr (.inr (.inl h))))
      · exact .inr (.inr (.inr (.inr (.inr (.inl h)))))
      · exact .inr (.inr (.inr (.inr (.inr (.inr (.inr h))))))
      · exact .inr (.inr (.inr (.inr (.inr (.inr (.inl h))))))
  rcases hops with rfl | rfl | rfl | rfl | rfl | rfl | rfl | rfl
  · have HH : Hid (HT = true) := Lib.hid (by rw [HHT.out]; rfl)
    go_wp2_with fail
    go_ret
    exact ⟨by rw [HH.out]; rfl, HB4.out⟩
  · have HH : Hid (HT = decide (0 ≤ C)) := Lib.hid (by rw [HHT.out, ← HC.out]; rfl)
    by_cases hC : 0 ≤ C
    · have HH2 : Hid (HT = true) := Lib.hid (by rw [HH.out]; exact decide_eq_true hC)
      go_wp2_with fail
      go_ret
      exact ⟨by rw [HH2.out]; first | rfl | simp [hC] | (simp; omega), HB4.out⟩
    · have HH2 : Hid (HT = false) := Lib.hid (by rw [HH.out]; exact decide_eq_false hC)
      go_wp2_with fail
      go_ret
      exact ⟨by rw [HH2.out]; first | rfl | simp [hC] | (simp; omega), HB4.out⟩
  · have HH : Hid (HT = decide (C ≤ 0)) := Lib.hid (by rw [HHT.out, ← HC.out]; rfl)
    by_cases hC : C ≤ 0
    · have HH2 : Hid (HT = true) := Lib.hid (by rw [HH.out]; exact decide_eq_true hC)
      go_wp2_with fail
      go_ret
      exact ⟨by rw [HH2.out]; first | rfl | simp [hC] | (simp; omega), HB4.out⟩
    · have HH2 : Hid (HT = false) := Lib.hid (by rw [HH.out]; exact decide_eq_false hC)
      go_wp2_with fail
      go_ret
      exact ⟨by rw [HH2.out]; first | rfl | simp [hC] | (simp; omega), HB4.out⟩
  · have HH : Hid (HT = decide (0 < C)) := Lib.hid (by rw [HHT.out, ← HC.out]; rfl)
    by_cases hC : 0 < C
    · have HH2 : Hid (HT = true) := Lib.hid (by rw [HH.out]; exact decide_eq_true hC)
      go_wp2_with fail
      go_ret
      exact ⟨by rw [HH2.out]; first | rfl | simp [hC] | (simp; omega), HB4.out⟩
    · have HH2 : Hid (HT = false) := Lib.hid (by rw [HH.out]; exact decide_eq_false hC)
      go_wp2_with fail
      go_ret
      exact ⟨by rw [HH2.out]; first | rfl | simp [hC] | (simp; omega), HB4.out⟩
  · have HH : Hid (HT = decide (C < 0)) := Lib.hid (by rw [HHT.out, ← HC.out]; rfl)
    by_cases hC : C < 0
    · have HH2 : Hid (HT = true) := Lib.hid (by rw [HH.out]; exact decide_eq_true hC)
      go_wp2_with fail
      go_ret
      exact ⟨by rw [HH2.out]; first | rfl | simp [hC] | (simp; omega), HB4.out⟩
    · have HH2 : Hid (HT = false) := Lib.hid (by rw [HH.out]; exact decide_eq_false hC)
      go_wp2_with fail
      go_ret
      exact ⟨by rw [HH2.out]; first | rfl | simp [hC] | (simp; omega), HB4.out⟩
  · have HH : Hid (HT = decide (C = 0)) := Lib.hid (by rw [HHT.out, ← HC.out]; rfl)
    by_cases hC : C = 0
    · have HH2 : Hid (HT = true) := Lib.hid (by rw [HH.out]; exact decide_eq_true hC)
      go_wp2_with fail
      go_ret
      exact ⟨by rw [HH2.out]; first | rfl | simp [hC] | (simp; omega), HB4.out⟩
    · have HH2 : Hid (HT = false) := Lib.hid (by rw [HH.out]; exact decide_eq_false hC)
      go_wp2_with fail
      go_ret
      exact ⟨by rw [HH2.out]; first | rfl | simp [hC] | (simp; omega), HB4.out⟩
  · -- ~
    obtain ⟨k, hk⟩ : ∃ k, k = v.c := ⟨_, rfl⟩
    rw [← hk] at c5
    by_cases h1 : k = 1
    · subst h1
      have HH : Hid (HT = (decide (0 ≤ C) && belowT x v 1)) := Lib.hid (by rw [HHT.out]; show (decide (0 ≤ x.cmp v) && belowT x v (if v.c = 1 then 1 else 2)) = _; rw [← hk, if_pos rfl, HC.out])
      clear hk
      by_cases hC : 0 ≤ C
      · have hCn : ¬ C < 0 := by omega
        have HH2 : Hid (HT = belowT x v 1) := Lib.hid (by rw [HH.out, decide_eq_true hC, Bool.true_and])
        go_wp2_with (first | refine wpListw_load_at rfl 37 (.tmp 3) rfl ⟨g3, 0, none⟩ rfl _ (HLX.out w4 HB24.out) ?_ | refine wpListw_load_at rfl 37 (.tmp 47) rfl ⟨g2, 1, none⟩ rfl _ (HLT.out w4 HB24.out) ?_)
        refine (HBL.out 1 w4 HB24.out).mono ?_
        rintro e w5 ⟨rfl, hb5⟩
        have HB5 : Hid (Below w.heap.size w w5) := Lib.hid (HB4.out.trans (hb5.mono HB4.out.size))
        rw [← HH2.out]
        clear hb5
        go_wp2_with fail
        go_ret
        exact ⟨rfl, HB5.out⟩
      · have hCn : C < 0 := by omega
        have HH2 : Hid (HT = false) := Lib.hid (by rw [HH.out, decide_eq_false hC, Bool.false_and])
        go_wp2_with fail
        go_ret
        exact ⟨by rw [HH2.out]; first | rfl | simp [hC] | (simp; omega), HB4.out⟩
    · have h1n : (k == 1) = false := by simpa using h1
      have HH : Hid (HT = (decide (0 ≤ C) && belowT x v 2)) := Lib.hid (by rw [HHT.out]; show (decide (0 ≤ x.cmp v) && belowT x v (if v.c = 1 then 1 else 2)) = _; rw [← hk, if_neg h1, HC.out])
      clear hk
      by_cases hC : 0 ≤ C
      · have hCn : ¬ C < 0 := by omega
        have HH2 : Hid (HT = belowT x v 2) := Lib.hid (by rw [HH.out, decide_eq_true hC, Bool.true_and])
        go_wp2_with (first | refine wpListw_load_at rfl 37 (.tmp 3) rfl ⟨g3, 0, none⟩ rfl _ (HLX.out w4 HB24.out) ?_ | refine wpListw_load_at rfl 37 (.tmp 47) rfl ⟨g2, 1, none⟩ rfl _ (HLT.out w4 HB24.out) ?_)
        refine (HBL.out 2 w4 HB24.out).mono ?_
        rintro e w5 ⟨rfl, hb5⟩
        have HB5 : Hid (Below w.heap.size w w5) := Lib.hid (HB4.out.trans (hb5.mono HB4.out.size))
        rw [← HH2.out]
        clear hb5
        go_wp2_with fail
        go_ret
        exact ⟨rfl, HB5.out⟩
      · have hCn : C < 0 := by omega
        have HH2 : Hid (HT = false) := Lib.hid (by rw [HH.out, decide_eq_false hC, Bool.false_and])
        go_wp2_with fail
        go_ret
        exact ⟨by rw [HH2.out]; first | rfl | simp [hC] | (simp; omega), HB4.out⟩
  · -- ^
    have hm := HVM.out (by decide)
    obtain ⟨hc1, hc4⟩ := v.may_c hm
    obtain ⟨k, hk⟩ : ∃ k : Nat, v.c = (k : Int) := ⟨v.c.toNat, by omega⟩
    rw [hk] at c5
    have hk1 : 1 ≤ k := by omega
    have hk4 : k ≤ 4 := by omega
    have HKL : Hid ((v.ns.take k).length = k) := Lib.hid (by rw [List.length_take, show v.ns.length = 4 from HV.out]; omega)
    have HCK : Hid (caretC v = crt ((v.ns.take k).drop 0) 0 (k : Int)) := Lib.hid (by unfold caretC; rw [hk]; rfl)
    have HGT : Hid (∀ i a, (v.ns.take k)[i]? = some a → w4.cell? ⟨g2, 1 + i, none⟩ = some (.int .i64 a)) := Lib.hid (fun i a h => by
      rw [List.getElem?_take] at h
      split at h
      · exact HCN.out i a h
      · cases h)
    have HN0 : Hid ((k : Int) = crt ((v.ns.take k).drop k) k (k : Int)) := Lib.hid (by rw [List.drop_of_length_le (by rw [HKL.out]; exact Nat.le_refl _), crt])
    obtain ⟨l, hl⟩ : ∃ l, l = v.ns.take k := ⟨_, rfl⟩
    rw [← hl] at HKL HCK HGT HN0
    clear hm hc1 hc4 hk hl
    go_wp2_with fail
    go_loopg [8, 7] k (fun kq iv nv wr => ∃ (j : Nat) (m : Int), iv = .int .i64 ((j : Int) - 1) ∧ nv = .int .i64 m ∧ j ≤ k ∧ kq = 0 + j ∧ Hid (m = crt (l.drop j) j (k : Int)) ∧ wr = w4)
    case atStart => exact ⟨k, k, by go_num, rfl, Nat.le_refl _, (Nat.zero_add _).symm, HN0, rfl⟩
    case round =>
    clear HN0
    obtain ⟨j, m, rfl, rfl, hj, rfl, HM, rfl⟩ := hrel
    cases j with
    | zero =>
      have HMC : Hid (m = caretC v) := Lib.hid (by rw [HM.out, HCK.out])
      have HH : Hid (HT = (decide (0 ≤ C) && belowT x v m)) := Lib.hid (by rw [HHT.out, HMC.out]; show (decide (0 ≤ x.cmp v) && belowT x v (caretC v)) = _; rw [HC.out])
      clear HM HMC
      by_cases hC : 0 ≤ C
      · have hCn : ¬ C < 0 := by omega
        have HH2 : Hid (HT = belowT x v m) := Lib.hid (by rw [HH.out, decide_eq_true hC, Bool.true_and])
        go_wp2_with (first | refine wpListw_load_at rfl 37 (.tmp 3) rfl ⟨g3, 0, none⟩ rfl _ (HLX.out wr HB24.out) ?_ | refine wpListw_load_at rfl 37 (.tmp 75) rfl ⟨g2, 1, none⟩ rfl _ (HLT.out wr HB24.out) ?_)
        refine (HBL.out m wr HB24.out).mono ?_
        rintro e w5 ⟨rfl, hb5⟩
        have HB5 : Hid (Below w.heap.size w w5) := Lib.hid (HB4.out.trans (hb5.mono HB4.out.size))
        rw [← HH2.out]
        clear hb5
        go_wp2_with fail
        go_ret
        exact ⟨rfl, HB5.out⟩
      · have hCn : C < 0 := by omega
        have HH2 : Hid (HT = false) := Lib.hid (by rw [HH.out, decide_eq_false hC, Bool.false_and])
        go_wp2_with fail
        go_ret
        exact ⟨by rw [HH2.out]; first | rfl | simp [hC] | (simp; omega), HB4.out⟩
    | succ j =>
      have hj0 : 0 ≤ (j : Int) := by omega
      have hj4 : (j : Int) < 4 := by omega
      have ej : ((j + 1 : Nat) : Int) - 1 = (j : Int) := by omega
      rw [ej]
      obtain ⟨a, ha⟩ : ∃ a, l[j]? = some a := ⟨_, List.getElem?_eq_getElem (by rw [HKL.out]; omega)⟩
      have ca := HGT.out j a ha
      have hst := crt_step ha (k : Int)
      rw [← HM.out] at hst
      by_cases h0 : a = 0
      · subst h0
        have HMN : Hid (m = crt (l.drop j) j (k : Int)) := Lib.hid (by rw [hst, if_neg (fun h => h rfl)])
        clear ha hst
        go_wp2_with fail
        go_roundg (0 + j)
        case measure => omega
        case rel => exact ⟨j, m, by go_num, rfl, by omega, rfl, HMN, rfl⟩
      · have HMN : Hid ((j : Int) + 1 = crt (l.drop j) j (k : Int)) := Lib.hid (by rw [hst, if_pos h0]; rfl)
        have h0b : (a == 0) = false := by simpa using h0
        clear ha hst
        go_wp2_with fail
        go_roundg (0 + j)
        case measure => omega
        case rel => exact ⟨j, (j : Int) + 1, by go_num, by go_num, by omega, rfl, HMN, rfl⟩
end Go.Proofs.YteeijjhgdplifaaGreatDoor
