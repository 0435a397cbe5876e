/- Spans: between, All. -/
import Derived.Test.YteeijjhgdplifaaGreatDoorS2
namespace Go.Proofs.YteeijjhgdplifaaGreatDoor
open Go.RowKit

theorem cells_seven {c : Cut} (hc : c.Ok) : ∃ x0 x1 x2 x3, c.cells.toArray = #[.int .i64 c.a, .int .i64 x0, .int .i64 x1, .int .i64 x2, .int .i64 x3, .int .i64 c.v.c, .string (bl c.v.t)] := by
  obtain ⟨a, b, c', d, h⟩ := Ver.four hc.1
  exact ⟨a, b, c', d, by unfold Cut.cells Ver.cells; rw [h]; rfl⟩
def spl (c d : Cut) : List Cut := if 0 ≤ c.cmp d then [] else [c, d]
set_option maxRecDepth 100000 in
set_option maxHeartbeats 2000000 in
theorem between_ok (c d : Cut) (hc : c.Ok) (hd : d.Ok) (w : World) : Calls Tryz.prog 30 #[.agg c.cells.toArray, .agg d.cells.toArray] w fun e w' => ∃ g, e = .returned (sp0 g) ∧ SpAt w' w.heap.size g (spl c d) ∧ Below w.heap.size w w' := by
  obtain ⟨w1, hw1⟩ : ∃ w1, w1 = w.alloc (.cells c.cells.toArray 57) := ⟨_, rfl⟩
  obtain ⟨w2, hw2⟩ : ∃ w2, w2 = w1.alloc (.cells d.cells.toArray 57) := ⟨_, rfl⟩
  obtain ⟨g2, hg2⟩ : ∃ g2, g2 = w.heap.size := ⟨_, rfl⟩
  obtain ⟨g3, hg3⟩ : ∃ g3, g3 = g2 + 1 := ⟨_, rfl⟩
  have hb1 : Below w.heap.size w w1 := by rw [hw1]; exact (Below.refl _ _).alloc (Nat.le_refl _) _
  have hb2 : Below w1.heap.size w1 w2 := by rw [hw2]; exact (Below.refl _ _).alloc (Nat.le_refl _) _
  have k1 : Blk w1 g2 57 c.cells := by rw [hw1, hg2]; exact Blk.new _ _ c.cells.toArray
  have k2 : Blk w2 g2 57 c.cells := k1.below' hb2
  have k3 : Blk w2 g3 57 d.cells := by
    have e : g3 = w1.heap.size := by rw [hg3, hg2, hw1]; simp
    rw [hw2, e]; exact Blk.new _ _ d.cells.toArray
  have K2 := Lib.hid k2
  have K3 := Lib.hid k3
  have LC := Lib.hid (cload k2 hc)
  have LD := Lib.hid (cload k3 hd)
  have HC := Lib.hid hc
  have HD := Lib.hid hd
  have HB2 : Hid (Below w.heap.size w w2) := Lib.hid (hb1.trans (hb2.mono hb1.size))
  have HW1 := Lib.hid hw1
  have HW2 := Lib.hid hw2
  have HG2 := Lib.hid hg2
  have HG3 := Lib.hid hg3
  clear hw1 hw2 hg2 hg3 hb1 hb2 k1 k2 k3 hc hd
  go_enter Tryz.func30, Tryz.ntmps30
  go_upto_region 1 with fail
  rw [← HW1.out, ← HW2.out, ← HG2.out, ← HG3.out]
  go_wp2_with (first | refine wpList_load_at rfl 57 (.tmp 2) rfl ⟨g2, 0, none⟩ rfl _ LC.out ?_ | refine wpList_load_at rfl 57 (.tmp 3) rfl ⟨g3, 0, none⟩ rfl _ LD.out ?_)
  refine (cutCmp_ok c d HC.out HD.out w2).mono ?_
  rintro e w3 ⟨rfl, hb3⟩
  have HB3 : Hid (Below w.heap.size w w3) := Lib.hid (HB2.out.trans (hb3.mono HB2.out.size))
  have LC3 := Lib.hid (cload (K2.out.below' hb3) HC.out)
  have LD3 := Lib.hid (cload (K3.out.below' hb3) HD.out)
  obtain ⟨C, hC⟩ : ∃ C, C = c.cmp d := ⟨_, rfl⟩
  rw [← hC]
  have HCC := Lib.hid hC
  clear hb3 hC LC LD K2 K3
  by_cases h0 : 0 ≤ C
  · have h0n : ¬ C < 0 := by omega
    have HS : Hid (spl c d = []) := Lib.hid (by unfold spl; rw [← HCC.out, if_pos h0])
    go_wp2_with fail
    refine (spNone_ok w3).mono ?_
    rintro e w4 ⟨rfl, hs4, hb4⟩
    have HS4 := Lib.hid (hs4.lower HB3.out.size)
    have HB4 : Hid (Below w.heap.size w w4) := Lib.hid (HB3.out.trans (hb4.mono HB3.out.size))
    obtain ⟨g9, hg9⟩ : ∃ g9, g9 = w3.heap.size := ⟨_, rfl⟩
    rw [← hg9] at HS4 ⊢
    clear hs4 hb4 hg9
    go_wp2_with fail
    go_ret
    exact ⟨g9, rfl, by rw [HS.out]; exact HS4.out, HB4.out⟩
  · have h0n : C < 0 := by omega
    have HS : Hid (spl c d = [c, d]) := Lib.hid (by unfold spl; rw [← HCC.out, if_neg h0])
    obtain ⟨x0, x1, x2, x3, ex⟩ := cells_seven HC.out
    obtain ⟨y0, y1, y2, y3, ey⟩ := cells_seven HD.out
    obtain ⟨g9, hg9⟩ : ∃ g9, g9 = w3.heap.size := ⟨_, rfl⟩
    obtain ⟨w4, hw4⟩ : ∃ w4, w4 = w3.alloc (.cells #[.int .i64 c.a, .int .i64 x0, .int .i64 x1, .int .i64 x2, .int .i64 x3, .int .i64 c.v.c, .string (bl c.v.t), .int .i64 d.a, .int .i64 y0, .int .i64 y1, .int .i64 y2, .int .i64 y3, .int .i64 d.v.c, .string (bl d.v.t)] 57) := ⟨_, rfl⟩
    obtain ⟨w5, hw5⟩ : ∃ w5, w5 = w4.alloc (.cells #[.bool true, .slice (some ⟨g9, 0, none⟩) 2 2] 59) := ⟨_, rfl⟩
    have hb4 : Below w3.heap.size w3 w4 := by rw [hw4]; exact (Below.refl _ _).alloc (Nat.le_refl _) _
    have hb5 : Below w4.heap.size w4 w5 := by rw [hw5]; exact (Below.refl _ _).alloc (Nat.le_refl _) _
    have hcl : cutsL [c, d] = c.cells ++ d.cells := by unfold cutsL; simp
    have k4 : Blk w4 g9 57 (cutsL [c, d]) := by
      rw [hcl, hw4, hg9]
      have e1 : c.cells = c.cells.toArray.toList := rfl
      have e2 : d.cells = d.cells.toArray.toList := rfl
      rw [e1, e2, ex, ey]
      exact Blk.new _ _ _
    have k5 : Blk w5 w4.heap.size 59 [.bool true, .slice (some ⟨g9, 0, none⟩) 2 2] := by rw [hw5]; exact Blk.new _ _ _
    have hwb : w.heap.size ≤ g9 := by rw [hg9]; exact HB3.out.size
    have hs5 : w4.heap.size = g9 + 1 := by rw [hw4, hg9]; simp
    have HOKS : ∀ x ∈ [c, d], x.Ok := by
      intro x hx
      rcases List.mem_cons.1 hx with rfl | hx
      · exact HC.out
      · rw [List.mem_singleton.1 hx]; exact HD.out
    have HSP : Hid (SpAt w5 w.heap.size (g9 + 1) [c, d]) := Lib.hid ⟨HOKS, by omega, some ⟨g9, 0, none⟩, 2, by rw [← hs5]; exact k5, by
      exact own_below (own_of_blk k4 7 2 (cutsL_len HOKS) (by unfold maxLen; omega)) hb5, fun b hb => by have hb' : g9 = b := Option.some.inj hb; omega⟩
    have HB5 : Hid (Below w.heap.size w w5) := Lib.hid (HB3.out.trans ((hb4.trans (hb5.mono hb4.size)).mono HB3.out.size))
    have LC4 : Hid ((loadVar 57 ⟨g2, 0, none⟩).run Tryz.prog w3 = .ok (.agg #[.int .i64 c.a, .int .i64 x0, .int .i64 x1, .int .i64 x2, .int .i64 x3, .int .i64 c.v.c, .string (bl c.v.t)]) w3) := Lib.hid (by rw [← ex]; exact LC3.out)
    have LD4 : Hid ((loadVar 57 ⟨g3, 0, none⟩).run Tryz.prog w3 = .ok (.agg #[.int .i64 d.a, .int .i64 y0, .int .i64 y1, .int .i64 y2, .int .i64 y3, .int .i64 d.v.c, .string (bl d.v.t)]) w3) := Lib.hid (by rw [← ey]; exact LD3.out)
    have HW4 := Lib.hid hw4
    have HW5 := Lib.hid hw5
    have HG9 := Lib.hid hg9
    clear hw4 hw5 hg9 hb4 hb5 hcl k4 k5 hwb hs5 HOKS ex ey LC3 LD3
    go_wp2_with (first | refine wpList_load_at rfl 57 (.tmp 2) rfl ⟨g2, 0, none⟩ rfl _ LC4.out ?_ | refine wpList_load_at rfl 57 (.tmp 3) rfl ⟨g3, 0, none⟩ rfl _ LD4.out ?_)
    rw [← HW4.out, ← HG9.out, ← HW5.out]
    go_ret
    exact ⟨g9 + 1, rfl, by rw [HS.out]; exact HSP.out, HB5.out⟩
/-- the cuts of all versions -/
def allCuts : List Cut := [⟨0, Ver.zero⟩, ⟨3, Ver.zero⟩]
set_option maxRecDepth 100000 in
theorem spAll_ok (w : World) : Calls Tryz.prog 12 #[] w fun e w' => ∃ g, e = .returned (sp0 g) ∧ SpAt w' w.heap.size g allCuts ∧ Below w.heap.size w w' := by
  have h0 : (⟨0, Ver.zero⟩ : Cut).Ok := ⟨rfl, by decide, by decide⟩
  have h3 : (⟨3, Ver.zero⟩ : Cut).Ok := ⟨rfl, by decide, by decide⟩
  have H := Lib.hid (between_ok ⟨0, Ver.zero⟩ ⟨3, Ver.zero⟩ h0 h3 w)
  have HS : Hid (spl ⟨0, Ver.zero⟩ ⟨3, Ver.zero⟩ = allCuts) := Lib.hid (by decide)
  go_enter Tryz.func12, Tryz.ntmps12
  go_wp2_with fail
  refine (H.out).mono ?_
  rintro e w1 hp
  obtain ⟨g, rfl, hs, hb⟩ := hp
  rw [HS.out] at hs
  have HSP := Lib.hid hs
  have HB := Lib.hid hb
  clear hs hb
  go_wp2_with fail
  go_ret
  exact ⟨g, rfl, HSP.out, HB.out⟩
end Go.Proofs.YteeijjhgdplifaaGreatDoor
