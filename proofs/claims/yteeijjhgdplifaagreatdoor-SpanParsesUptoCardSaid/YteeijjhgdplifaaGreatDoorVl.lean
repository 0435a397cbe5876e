/- Contract of the document's Bump. -/
import Derived.Test.YteeijjhgdplifaaGreatDoorVj
import Derived.Test.YteeijjhgdplifaaGreatDoorVk
namespace Go.Proofs.YteeijjhgdplifaaGreatDoor
open Go.RowKit

theorem Ver.upto_set2 {v : Ver} (hv : v.Ok) {i : Nat} {x : Int} {k : Nat} (hx : v.ns[i]? = some x) : (⟨(v.upto i).ns, k, []⟩ : Ver).cells.set i (.int .i64 x) = (⟨(v.upto (i + 1)).ns, k, []⟩ : Ver).cells :=
  Ver.upto_set (v := ⟨v.ns, k, []⟩) hv hx

set_option maxRecDepth 100000 in
set_option maxHeartbeats 2000000 in
theorem refBump_ok (v : Ver) (hv : v.Ok) (hs : v.t.length ≤ 140737488355328) (n : Int) (w : World) : Calls Tryz.prog 80 #[v.val, .int .i64 n] w fun e w' => e = .returned (.tuple #[(v.bump n).1.val, .int .i64 (v.bump n).2]) ∧ Below w.heap.size w w' := by
  obtain ⟨w1, hw1⟩ : ∃ w1, w1 = w.alloc (.cells v.cells.toArray 37) := ⟨_, rfl⟩
  obtain ⟨w2, hw2⟩ : ∃ w2, w2 = w1.alloc (.cells #[.int .i64 0, .int .i64 0, .int .i64 0, .int .i64 0, .int .i64 0, .string ⟨#[]⟩] 37) := ⟨_, rfl⟩
  obtain ⟨g2, hg2⟩ : ∃ g2, g2 = w.heap.size := ⟨_, rfl⟩
  obtain ⟨g4, hg4⟩ : ∃ g4, g4 = g2 + 1 := ⟨_, rfl⟩
  have hg41 : g4 = w1.heap.size := by rw [hg4, hg2, hw1]; simp
  have hb1 : Below w.heap.size w w1 := by rw [hw1]; exact (Below.refl _ _).alloc (Nat.le_refl _) _
  have hb2 : Below w1.heap.size w1 w2 := by rw [hw2]; exact (Below.refl _ _).alloc (Nat.le_refl _) _
  have k1 : Blk w1 g2 37 v.cells := by rw [hw1, hg2]; exact Blk.new _ _ v.cells.toArray
  have k2 : Blk w2 g2 37 v.cells := k1.below' hb2
  have z2 : Blk w2 g4 37 Ver.zero.cells := by rw [hw2, hg41]; exact Blk.new _ _ _
  have HK2 := Lib.hid k2
  have HZ2 := Lib.hid z2
  have HL2 := Lib.hid (rload k2 hv)
  have HV := Lib.hid hv
  have HS := Lib.hid hs
  have HB2 : Hid (Below w.heap.size w w2) := Lib.hid (hb1.trans (hb2.mono hb1.size))
  have HGG : Hid (w.heap.size ≤ g2 ∧ w.heap.size ≤ g4 ∧ g2 ≠ g4) := Lib.hid (by omega)
  have HW1 := Lib.hid hw1
  have HW2 := Lib.hid hw2
  have HGN2 := Lib.hid hg2
  have HGN4 := Lib.hid hg4
  have HI6 : Hid ((Tryz.prog.info? 37).map (·.size) = some 6) := Lib.hid (by kernel_rfl)
  obtain ⟨RES, hRES⟩ : ∃ RES, RES = v.bump n := ⟨_, rfl⟩
  have HRES := Lib.hid hRES
  rw [← hRES]
  -- a return of nothing
  have hzero : ∀ wc, Blk wc g4 37 Ver.zero.cells → Below w.heap.size w wc → Blk (wc.setRow g4 Ver.zero.cells.toArray) g4 37 Ver.zero.cells ∧ Below w.heap.size w (wc.setRow g4 Ver.zero.cells.toArray) := by
    intro wc h hb
    exact ⟨h.setRow_ Ver.zero.cells, hb.trans (((Mod.refl (fun b => w.heap.size ≤ b) wc).setRow (fun _ => HGG.out.2.1) _).below hb.size (fun _ h => h))⟩
  have HZR := Lib.hid hzero
  clear hw1 hw2 hg2 hg4 hg41 hb1 hb2 k1 k2 z2 hv hs hRES hzero
  rw [show v.val = .agg v.cells.toArray from rfl]
  go_enter Tryz.func80, Tryz.ntmps80
  go_upto_region 1 with fail
  rw [← HW1.out, ← HW2.out, ← HGN2.out, ← HGN4.out]
  go_wp2_with (refine wpList_load_run rfl 37 (.tmp 2) rfl g2 rfl _ HL2.out ?_)
  refine (refMay_ok v HV.out HS.out w2).mono ?_
  rintro e w3 ⟨rfl, hb3⟩
  have HK3 := Lib.hid (HK2.out.below' hb3)
  have HZ3 := Lib.hid (HZ2.out.below' hb3)
  have HB3 : Hid (Below w.heap.size w w3) := Lib.hid (HB2.out.trans (hb3.mono HB2.out.size))
  clear hb3
  cases hm : v.may
  · have hR : Hid (RES = (Ver.zero, 20)) := Lib.hid (by rw [HRES.out]; unfold Ver.bump; rw [if_pos hm])
    obtain ⟨w7, hw7⟩ : ∃ w7, w7 = w3.setRow g4 Ver.zero.cells.toArray := ⟨_, rfl⟩
    obtain ⟨f1, f2⟩ := HZR.out w3 HZ3.out HB3.out
    rw [← hw7] at f1 f2
    have HL7 := Lib.hid (rload f1 Ver.zero_ok)
    have HF2 := Lib.hid f2
    have HW7 := Lib.hid hw7
    clear hm hw7 f1 f2
    go_wp2_with (refine wpList_store_row rfl 37 (.tmp 4) (.tmp 11) rfl g4 Ver.zero.cells.toArray rfl rfl _ _ HZ3.out HI6.out rfl (Ver.cells_one _) ?_)
    rw [← HW7.out]
    try simp only [Exit.inBlock, Exit.then]
    refine bodyPost_ret (results_cell2 rfl _ _ g4 _ rfl HL7.out) rfl ?_
    exact ⟨by rw [hR.out]; rfl, HF2.out⟩
  · have HM := Lib.hid hm
    clear hm
    by_cases hn : 1 ≤ n ∧ n ≤ 4
    · obtain ⟨hn1, hn4⟩ := hn
      obtain ⟨k, rfl⟩ : ∃ k : Nat, n = (k : Int) := ⟨n.toNat, by omega⟩
      have hk1 : 1 ≤ k := by omega
      have hk1I : 1 ≤ (k : Int) := by omega
      have hk4 : k ≤ 4 := by omega
      have hkI : (k : Int) ≤ 4 := by omega
      have hk0 : 0 ≤ (k : Int) := by omega
      obtain ⟨w5, hw5⟩ : ∃ w5, w5 = w3.alloc (.cells #[.int .i64 0, .int .i64 0, .int .i64 0, .int .i64 0, .int .i64 (k : Int), .string ⟨#[]⟩] 37) := ⟨_, rfl⟩
      obtain ⟨g6, hg6⟩ : ∃ g6, g6 = w3.heap.size := ⟨_, rfl⟩
      have hb5 : Below w3.heap.size w3 w5 := by rw [hw5]; exact (Below.refl _ _).alloc (Nat.le_refl _) _
      have q5 : Blk w5 g6 37 (⟨[0, 0, 0, 0], k, []⟩ : Ver).cells := by rw [hw5, hg6]; exact Blk.new _ _ _
      have HQ5 := Lib.hid q5
      have HK5 := Lib.hid (HK3.out.below' hb5)
      have HZ5 := Lib.hid (HZ3.out.below' hb5)
      have HB5 : Hid (Below w.heap.size w w5) := Lib.hid (HB3.out.trans (hb5.mono HB3.out.size))
      have HG6 : Hid (g2 ≠ g6 ∧ g4 ≠ g6 ∧ w.heap.size ≤ g6) := Lib.hid ⟨by have := HK3.out.lt; omega, by have := HZ3.out.lt; omega, by have := HB3.out.size; omega⟩
      have HW5 := Lib.hid hw5
      have HGN6 := Lib.hid hg6
      clear hw5 hg6 hb5 q5
      have HS5 : Hid (Blk w5 g6 37 (⟨(v.upto 0).ns, k, []⟩ : Ver).cells) := Lib.hid HQ5.out
      go_upto_region 6 with fail
      rw [← HW5.out, ← HGN6.out]
      go_wp2_with fail
      go_loopg [7] k (fun kq iv wr => ∃ i : Nat, iv = .int .i64 i ∧ i ≤ k ∧ kq = k - i ∧ Hid (Blk wr g2 37 v.cells) ∧ Hid (Blk wr g4 37 Ver.zero.cells) ∧ Hid (Blk wr g6 37 (⟨(v.upto i).ns, k, []⟩ : Ver).cells) ∧ Hid (Below w.heap.size w wr))
      case atStart => exact ⟨0, rfl, Nat.zero_le _, rfl, HK5, HZ5, HS5, HB5⟩
      case round =>
      obtain ⟨i, rfl, hi, rfl, HK7, HZ7, HQ7, HB7⟩ := hrel
      by_cases hlt : i < k
      · obtain ⟨y, hy⟩ : ∃ y, v.ns[i]? = some y := ⟨_, List.getElem?_eq_getElem (by have : v.ns.length = 4 := HV.out; omega)⟩
        have cy : wr.cell? ⟨g2, i, none⟩ = some (.int .i64 y) := by rw [HK7.out.cell, Ver.cells_n hy]
        have m1 := HK7.out.lt
        have m2 := HQ7.out.lt
        have fzi := HQ7.out.frozen i
        have hcz : ∃ u, wr.cell? ⟨g6, i, none⟩ = some u := ⟨_, by rw [HQ7.out.cell]; exact List.getElem?_eq_getElem (by have := Ver.cells_size (show (⟨(v.upto i).ns, k, []⟩ : Ver).Ok from Ver.upto_ok HV.out (by omega)); simp at this; omega)⟩
        obtain ⟨uo, hcz⟩ := hcz
        obtain ⟨wy, hwy⟩ : ∃ wy, wy = wr.setCell ⟨g6, i, none⟩ (.int .i64 y) := ⟨_, rfl⟩
        have f1 : Hid (Blk wy g2 37 v.cells) := Lib.hid (by rw [hwy]; exact HK7.out.far HG6.out.1 _)
        have f2 : Hid (Blk wy g4 37 Ver.zero.cells) := Lib.hid (by rw [hwy]; exact HZ7.out.far HG6.out.2.1 _)
        have f3 : Hid (Blk wy g6 37 (⟨(v.upto (i + 1)).ns, k, []⟩ : Ver).cells) := Lib.hid (by
          rw [hwy, ← Ver.upto_set2 HV.out hy]; exact HQ7.out.set_ i _)
        have f4 : Hid (Below w.heap.size w wy) := Lib.hid (by rw [hwy]; exact HB7.out.setCell (p := ⟨g6, i, none⟩) HG6.out.2.2 _)
        have HWY := Lib.hid hwy
        have hi4I : (i : Int) < 4 := by omega
        have hi0I : 0 ≤ (i : Int) := by omega
        clear hy hwy HK7 HZ7 HQ7 HB7
        go_wp2_with fail
        rw [← HWY.out]
        go_roundg (k - (i + 1))
        case measure => omega
        case rel => exact ⟨i + 1, by go_num, by omega, rfl, f1, f2, f3, f4⟩
      obtain rfl : i = k := by omega
      obtain ⟨w7, hw7e⟩ : ∃ w7, w7 = wr := ⟨_, rfl⟩
      subst hw7e
      clear HS5 HK5 HZ5 HQ5 HB5
      obtain ⟨j, hj⟩ : ∃ j, j = i - 1 := ⟨_, rfl⟩
      have ejk : (i : Int) - 1 = (j : Int) := by omega
      have hj4 : (j : Int) < 4 := by omega
      have hj0 : 0 ≤ (j : Int) := by omega
      obtain ⟨x, hx⟩ : ∃ x, v.ns[j]? = some x := ⟨_, List.getElem?_eq_getElem (by have : v.ns.length = 4 := HV.out; omega)⟩
      have hgx : v.ns.getD (i - 1) 0 = x := by rw [← hj, List.getD_eq_getElem?_getD, hx]; rfl
      have hxr := v.may_num HM.out j (by omega)
      rw [List.getD_eq_getElem?_getD, hx, Option.getD_some] at hxr
      obtain ⟨hx0, hx9, _⟩ := hxr
      have hux : (v.upto i).ns[j]? = some x := by
        unfold Ver.upto
        simp only
        rw [List.getElem?_append_left (by have : v.ns.length = 4 := HV.out; simp [this]; omega), List.getElem?_take, if_pos (by omega)]
        exact hx
      have cx : w7.cell? ⟨g6, j, none⟩ = some (.int .i64 x) := by rw [HQ7.out.cell]; exact Ver.cells_n (v := ⟨(v.upto i).ns, i, []⟩) hux
      have fz := HQ7.out.frozen j
      have l6 := HQ7.out.lt
      obtain ⟨w8, hw8⟩ : ∃ w8, w8 = w7.setCell ⟨g6, j, none⟩ (.int .i64 (x + 1)) := ⟨_, rfl⟩
      have q8 : Blk w8 g6 37 (v.next i).cells := by
        rw [hw8, Ver.next_cells HV.out hk1 hk4, hgx, ← hj]
        exact HQ7.out.set_ j _
      have HNO : Hid (v.next i).Ok := Lib.hid (next_length HV.out hk4)
      have HQ8 := Lib.hid q8
      have HL8 := Lib.hid (rload q8 HNO.out)
      have HZ8 : Hid (Blk w8 g4 37 Ver.zero.cells) := Lib.hid (by rw [hw8]; exact HZ7.out.far HG6.out.2.1 _)
      have HB8 : Hid (Below w.heap.size w w8) := Lib.hid (by rw [hw8]; exact HB7.out.setCell (p := ⟨g6, j, none⟩) HG6.out.2.2 _)
      have HW8 := Lib.hid hw8
      have HC8 : Hid (w8.cell? ⟨g6, j, none⟩ = some (.int .i64 (x + 1))) := Lib.hid (by rw [hw8]; exact (HQ7.out.set_ j _).cell j |>.trans (by rw [List.getElem?_set_self (by have := Ver.cells_size (show (⟨(v.upto i).ns, i, []⟩ : Ver).Ok from Ver.upto_ok HV.out hk4); simp at this; omega)]))
      have HR : Hid (RES = if x = 999999999 then (Ver.zero, 20) else (v.next i, 0)) := Lib.hid (by
        rw [HRES.out]
        unfold Ver.bump
        rw [if_neg (by rw [HM.out]; decide), if_neg (by omega), show ((i : Nat) : Int).toNat = i by omega, hgx])
      clear hj hx hgx hux hw8 q8
      go_upto_region 11 with fail
      rw [← HW8.out]
      have c8 : w8.cell? ⟨g6, j, none⟩ = some (.int .i64 (x + 1)) := by rw [HC8.out]
      have l8 := HQ8.out.lt
      clear cx fz l6
      obtain ⟨U, hU⟩ : ∃ U : Ver, U = if x = 999999999 then Ver.zero else v.next i := ⟨_, rfl⟩
      have hUo : U.Ok := by
        rw [hU]
        split
        · exact Ver.zero_ok
        · exact HNO.out
      obtain ⟨wz, hwz⟩ : ∃ wz, wz = w8.setRow g4 U.cells.toArray := ⟨_, rfl⟩
      have f1 : Blk wz g4 37 U.cells := by rw [hwz]; exact HZ8.out.setRow_ U.cells
      have HFZ : Hid (Below w.heap.size w wz) := Lib.hid (by
        rw [hwz]
        exact HB8.out.trans (((Mod.refl (fun b => w.heap.size ≤ b) w8).setRow (fun _ => HGG.out.2.1) _).below HB8.out.size (fun _ h => h)))
      have HLZ := Lib.hid (rload f1 hUo)
      have HWZ := Lib.hid hwz
      have HSZ : Hid (Ver.zero.cells.toArray.size = (v.next i).cells.toArray.size) := Lib.hid (by rw [Ver.cells_size HNO.out]; rfl)
      have HI7 : Hid ((Tryz.prog.info? 37).map (·.size) = some (v.next i).cells.toArray.size) := Lib.hid (by rw [Ver.cells_size HNO.out]; exact HI6.out)
      have HU := Lib.hid hU
      clear hU hUo hwz f1
      by_cases hx999 : x = 999999999
      · have eU : U = Ver.zero := by rw [HU.out, if_pos hx999]
        subst eU
        have HRZ : Hid (RES = (Ver.zero, 20)) := Lib.hid (by rw [HR.out, if_pos hx999])
        subst hx999
        go_wp2_with (refine wpList_store_row rfl 37 (.tmp 4) (.tmp 47) rfl g4 Ver.zero.cells.toArray rfl rfl _ _ HZ8.out HI6.out rfl (Ver.cells_one _) ?_)
        rw [← HWZ.out]
        try simp only [Exit.inBlock, Exit.then]
        refine bodyPost_ret (results_cell2 rfl _ _ g4 _ rfl HLZ.out) rfl ?_
        exact ⟨by rw [HRZ.out]; rfl, HFZ.out⟩
      · have eU : U = v.next i := by rw [HU.out, if_neg hx999]
        subst eU
        have HRZ : Hid (RES = (v.next i, 0)) := Lib.hid (by rw [HR.out, if_neg hx999])
        have hlt9 : x + 1 ≤ 999999999 := by omega
        clear hx999
        go_wp2_with (first | refine wpList_load_run rfl 37 (.tmp 6) rfl g6 rfl _ HL8.out ?_ | refine wpList_store_row rfl 37 (.tmp 4) (.tmp 48) rfl g4 (v.next i).cells.toArray rfl rfl _ _ HZ8.out HI7.out HSZ.out (Ver.cells_one _) ?_)
        rw [← HWZ.out]
        try simp only [Exit.inBlock, Exit.then]
        refine bodyPost_ret (results_cell2 rfl _ _ g4 _ rfl HLZ.out) rfl ?_
        exact ⟨by rw [HRZ.out]; rfl, HFZ.out⟩
    · have hR : Hid (RES = (Ver.zero, 2)) := Lib.hid (by rw [HRES.out]; unfold Ver.bump; rw [if_neg (by rw [HM.out]; decide), if_pos (by omega)])
      obtain ⟨w7, hw7⟩ : ∃ w7, w7 = w3.setRow g4 Ver.zero.cells.toArray := ⟨_, rfl⟩
      obtain ⟨f1, f2⟩ := HZR.out w3 HZ3.out HB3.out
      rw [← hw7] at f1 f2
      have HL7 := Lib.hid (rload f1 Ver.zero_ok)
      have HF2 := Lib.hid f2
      have HW7 := Lib.hid hw7
      have hcase : n < 1 ∨ (1 ≤ n ∧ 4 < n) := by omega
      clear hn hw7 f1 f2
      rcases hcase with hn | ⟨hn, hn2⟩
      all_goals
        go_wp2_with (refine wpList_store_row rfl 37 (.tmp 4) (.tmp 18) rfl g4 Ver.zero.cells.toArray rfl rfl _ _ HZ3.out HI6.out rfl (Ver.cells_one _) ?_)
        rw [← HW7.out]
        try simp only [Exit.inBlock, Exit.then]
        refine bodyPost_ret (results_cell2 rfl _ _ g4 _ rfl HL7.out) rfl ?_
        exact ⟨by rw [hR.out]; rfl, HF2.out⟩
end Go.Proofs.YteeijjhgdplifaaGreatDoor
