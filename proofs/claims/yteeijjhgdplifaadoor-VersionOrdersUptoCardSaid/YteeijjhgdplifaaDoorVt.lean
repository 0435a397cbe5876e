/- VersionTells: the walk. -/
import Derived.Test.YteeijjhgdplifaaDoorVo
import Derived.Test.YteeijjhgdplifaaDoorVl
import Derived.Test.YteeijjhgdplifaaDoorVm
namespace Go.Proofs.YteeijjhgdplifaaDoor
open Go.RowKit

theorem names13_ok (w : World) : Calls Tryd.prog 16 #[] w fun e w' => e = .returned (.bool true) ∧ w = w' := by
  go_enter Tryd.func16, Tryd.ntmps16
  go_wp2
  all_goals (go_ret; exact ⟨rfl, rfl⟩)

theorem bump_okv (v : Ver) (hv : v.Ok) (n : Int) : (v.bump n).1.Ok := by
  unfold Ver.bump
  split
  · exact Ver.zero_ok
  · split
    · exact Ver.zero_ok
    · split
      · exact Ver.zero_ok
      · exact next_length hv (by omega)
theorem rv_okv (s : List UInt8) : (rv s).1.Ok := by
  unfold rv
  split
  · rename_i h; exact (readVer_sound h).1
  · exact Ver.zero_ok
theorem laid_ver (w : World) (U : Ver) (T : TypeId) : Blk ((w.alloc (.cells #[.int .i64 0, .int .i64 0, .int .i64 0, .int .i64 0, .int .i64 0, .string ⟨#[]⟩] T)).setRow w.heap.size U.cells.toArray) w.heap.size T U.cells ∧ Below w.heap.size w ((w.alloc (.cells #[.int .i64 0, .int .i64 0, .int .i64 0, .int .i64 0, .int .i64 0, .string ⟨#[]⟩] T)).setRow w.heap.size U.cells.toArray) := by
  have h1 : Below w.heap.size w (w.alloc (.cells #[.int .i64 0, .int .i64 0, .int .i64 0, .int .i64 0, .int .i64 0, .string ⟨#[]⟩] T)) := (Below.refl _ _).alloc (Nat.le_refl _) _
  exact ⟨(Blk.new w T _).setRow_ U.cells, h1.trans (((Mod.refl (fun b => w.heap.size ≤ b) _).setRow (fun _ => Nat.le_refl _) _).below h1.size (fun _ h => h))⟩

set_option maxRecDepth 100000 in
set_option maxHeartbeats 4000000 in
theorem versionTells_walk (s : ByteArray) (hs : s.size ≤ 4000000000) (v : Ver) (hv : v.Ok) (ht : v.t.length ≤ 140737488355328) (n : Int) (w : World) (hg : GV w) : Calls Tryd.prog 4 #[.string s, v.val, .int .i64 n] w fun e w' => e = .returned (.bool true) ∧ Below w.heap.size w w' := by
  obtain ⟨w1, hw1⟩ : ∃ w1, w1 = w.alloc (.cells v.cells.toArray 24) := ⟨_, rfl⟩
  obtain ⟨g4, hg4⟩ : ∃ g4, g4 = w.heap.size := ⟨_, rfl⟩
  have hb1 : Below w.heap.size w w1 := by rw [hw1]; exact (Below.refl _ _).alloc (Nat.le_refl _) _
  have k1 : Blk w1 g4 24 v.cells := by rw [hw1, hg4]; exact Blk.new _ _ v.cells.toArray
  have HK := Lib.hid k1
  have HV := Lib.hid hv
  have HT := Lib.hid ht
  have HB1 := Lib.hid hb1
  have HG := Lib.hid (hg.below hb1)
  have HW1 := Lib.hid hw1
  have HGN := Lib.hid hg4
  have HSS := Lib.hid hs
  obtain ⟨X, hX⟩ : ∃ X, X = (rv s.data.toList).1 := ⟨_, rfl⟩
  obtain ⟨xe, hxe⟩ : ∃ xe, xe = (rv s.data.toList).2 := ⟨_, rfl⟩
  obtain ⟨Y, hY⟩ : ∃ Y, Y = (v.bump n).1 := ⟨_, rfl⟩
  obtain ⟨ye, hye⟩ : ∃ ye, ye = (v.bump n).2 := ⟨_, rfl⟩
  obtain ⟨tt, htt⟩ : ∃ tt, tt = bl (tv v).1 := ⟨_, rfl⟩
  obtain ⟨te, hte⟩ : ∃ te, te = (tv v).2 := ⟨_, rfl⟩
  have HX := Lib.hid hX
  have HXE := Lib.hid hxe
  have HY := Lib.hid hY
  have HYE := Lib.hid hye
  have HTT := Lib.hid htt
  have HTE := Lib.hid hte
  have HXO : Hid X.Ok := Lib.hid (by rw [hX]; exact rv_okv _)
  have HYO : Hid Y.Ok := Lib.hid (by rw [hY]; exact bump_okv v hv n)
  have HI6 : Hid ((Tryd.prog.info? 24).map (·.size) = some 6) := Lib.hid (by kernel_rfl)
  have HI7 : Hid ((Tryd.prog.info? 30).map (·.size) = some 6) := Lib.hid (by kernel_rfl)
  have HIX : Hid ((Tryd.prog.info? 24).map (·.size) = some X.cells.toArray.size) := Lib.hid (by rw [Ver.cells_size HXO.out]; exact HI6.out)
  have HIX2 : Hid ((Tryd.prog.info? 30).map (·.size) = some X.cells.toArray.size) := Lib.hid (by rw [Ver.cells_size HXO.out]; exact HI7.out)
  have HIY : Hid ((Tryd.prog.info? 24).map (·.size) = some Y.cells.toArray.size) := Lib.hid (by rw [Ver.cells_size HYO.out]; exact HI6.out)
  have HIY2 : Hid ((Tryd.prog.info? 30).map (·.size) = some Y.cells.toArray.size) := Lib.hid (by rw [Ver.cells_size HYO.out]; exact HI7.out)
  have HZX : Hid (Ver.zero.cells.toArray.size = X.cells.toArray.size) := Lib.hid (by rw [Ver.cells_size HXO.out]; rfl)
  have HZY : Hid (Ver.zero.cells.toArray.size = Y.cells.toArray.size) := Lib.hid (by rw [Ver.cells_size HYO.out]; rfl)
  clear hw1 hg4 hb1 k1 hv ht hg hs hX hxe hY hye htt hte
  rw [show v.val = .agg v.cells.toArray from rfl]
  go_enter Tryd.func4, Tryd.ntmps4
  go_upto_region 1 with fail
  rw [← HW1.out, ← HGN.out]
  have B1 : Hid (Below w1.heap.size w1 w1) := Lib.hid (Below.refl _ _)
  go_wp2_with fail
  refine (parse_ok s HSS.out w1 (HG.out.below B1.out)).mono ?_
  rintro e w2 ⟨rfl, hbw2⟩
  rw [← HX.out, ← HXE.out]
  have Bw2 : Hid (Below w1.heap.size w1 w2) := Lib.hid (B1.out.trans (hbw2.mono B1.out.size))
  clear hbw2
  obtain ⟨g7, hg7⟩ : ∃ g7, g7 = w2.heap.size := ⟨_, rfl⟩
  obtain ⟨w3, hw3⟩ : ∃ w3, w3 = (w2.alloc (.cells #[.int .i64 0, .int .i64 0, .int .i64 0, .int .i64 0, .int .i64 0, .string ⟨#[]⟩] 24)).setRow g7 X.cells.toArray := ⟨_, rfl⟩
  have qw3 := laid_ver w2 X 24
  have bbw3 : Below w2.heap.size w2 w3 := by rw [hw3, hg7]; exact qw3.2
  have Qg7w3 : Hid (Blk w3 g7 24 X.cells) := Lib.hid (by rw [hw3, hg7]; exact qw3.1)
  have HZw3 : Hid ((w2.alloc (.cells #[.int .i64 0, .int .i64 0, .int .i64 0, .int .i64 0, .int .i64 0, .string ⟨#[]⟩] 24)).heap[g7]? = some (.cells Ver.zero.cells.toArray 24 (0, 0))) := Lib.hid (by rw [hg7]; exact heap_alloc_new _ _)
  have HGg7 := Lib.hid hg7
  have HWw3 := Lib.hid hw3
  have Bw3 : Hid (Below w1.heap.size w1 w3) := Lib.hid (Bw2.out.trans (bbw3.mono Bw2.out.size))
  clear hg7 hw3 qw3 bbw3
  go_upto_region 2 with (refine wpList_store_row rfl 24 (.tmp 7) (.tmp 22) rfl g7 X.cells.toArray (by rw [HGg7.out]; rfl) rfl _ _ HZw3.out HIX.out HZX.out (Ver.cells_one _) ?_)
  rw [← HGg7.out, ← HWw3.out]
  go_wp2_with fail
  refine (refParse_ok s HSS.out w3).mono ?_
  rintro e w4 ⟨rfl, hbw4⟩
  rw [← HX.out, ← HXE.out]
  have Bw4 : Hid (Below w1.heap.size w1 w4) := Lib.hid (Bw3.out.trans (hbw4.mono Bw3.out.size))
  have Qg7w4 := Lib.hid (Qg7w3.out.below' hbw4)
  clear hbw4
  obtain ⟨g9, hg9⟩ : ∃ g9, g9 = w4.heap.size := ⟨_, rfl⟩
  obtain ⟨w5, hw5⟩ : ∃ w5, w5 = (w4.alloc (.cells #[.int .i64 0, .int .i64 0, .int .i64 0, .int .i64 0, .int .i64 0, .string ⟨#[]⟩] 30)).setRow g9 X.cells.toArray := ⟨_, rfl⟩
  have qw5 := laid_ver w4 X 30
  have bbw5 : Below w4.heap.size w4 w5 := by rw [hw5, hg9]; exact qw5.2
  have Qg9w5 : Hid (Blk w5 g9 30 X.cells) := Lib.hid (by rw [hw5, hg9]; exact qw5.1)
  have HZw5 : Hid ((w4.alloc (.cells #[.int .i64 0, .int .i64 0, .int .i64 0, .int .i64 0, .int .i64 0, .string ⟨#[]⟩] 30)).heap[g9]? = some (.cells Ver.zero.cells.toArray 30 (0, 0))) := Lib.hid (by rw [hg9]; exact heap_alloc_new _ _)
  have HGg9 := Lib.hid hg9
  have HWw5 := Lib.hid hw5
  have Bw5 : Hid (Below w1.heap.size w1 w5) := Lib.hid (Bw4.out.trans (bbw5.mono Bw4.out.size))
  have Qg7w5 := Lib.hid (Qg7w4.out.below' bbw5)
  clear hg9 hw5 qw5 bbw5
  go_upto_region 3 with (refine wpList_store_row rfl 30 (.tmp 9) (.tmp 27) rfl g9 X.cells.toArray (by rw [HGg9.out]; rfl) rfl _ _ HZw5.out HIX2.out HZX.out (Ver.cells_one _) ?_)
  rw [← HGg9.out, ← HWw5.out]
  have LVw6 := Lib.hid (vload (HK.out.below' Bw5.out) HV.out)
  go_wp2_with (refine wpList_load_run rfl 24 (.tmp 4) rfl g4 rfl _ LVw6.out ?_)
  refine (text_ok v HV.out HT.out w5 (HG.out.below Bw5.out)).mono ?_
  rintro e w6 ⟨rfl, hbw6⟩
  rw [← HTT.out, ← HTE.out]
  have Bw6 : Hid (Below w1.heap.size w1 w6) := Lib.hid (Bw5.out.trans (hbw6.mono Bw5.out.size))
  have Qg7w6 := Lib.hid (Qg7w5.out.below' hbw6)
  have Qg9w6 := Lib.hid (Qg9w5.out.below' hbw6)
  clear hbw6
  have LVw7 := Lib.hid (vload (HK.out.below' Bw6.out) HV.out)
  go_wp2_with (refine wpList_load_run rfl 24 (.tmp 4) rfl g4 rfl _ LVw7.out ?_)
  refine (refText_ok v HV.out HT.out w6).mono ?_
  rintro e w7 ⟨rfl, hbw7⟩
  rw [← HTT.out, ← HTE.out]
  have Bw7 : Hid (Below w1.heap.size w1 w7) := Lib.hid (Bw6.out.trans (hbw7.mono Bw6.out.size))
  have Qg7w7 := Lib.hid (Qg7w6.out.below' hbw7)
  have Qg9w7 := Lib.hid (Qg9w6.out.below' hbw7)
  clear hbw7
  have LVw8 := Lib.hid (vload (HK.out.below' Bw7.out) HV.out)
  go_wp2_with (refine wpList_load_run rfl 24 (.tmp 4) rfl g4 rfl _ LVw8.out ?_)
  refine (bump_ok v HV.out HT.out n w7).mono ?_
  rintro e w8 ⟨rfl, hbw8⟩
  rw [← HY.out, ← HYE.out]
  have Bw8 : Hid (Below w1.heap.size w1 w8) := Lib.hid (Bw7.out.trans (hbw8.mono Bw7.out.size))
  have Qg7w8 := Lib.hid (Qg7w7.out.below' hbw8)
  have Qg9w8 := Lib.hid (Qg9w7.out.below' hbw8)
  clear hbw8
  obtain ⟨g15, hg15⟩ : ∃ g15, g15 = w8.heap.size := ⟨_, rfl⟩
  obtain ⟨w9, hw9⟩ : ∃ w9, w9 = (w8.alloc (.cells #[.int .i64 0, .int .i64 0, .int .i64 0, .int .i64 0, .int .i64 0, .string ⟨#[]⟩] 24)).setRow g15 Y.cells.toArray := ⟨_, rfl⟩
  have qw9 := laid_ver w8 Y 24
  have bbw9 : Below w8.heap.size w8 w9 := by rw [hw9, hg15]; exact qw9.2
  have Qg15w9 : Hid (Blk w9 g15 24 Y.cells) := Lib.hid (by rw [hw9, hg15]; exact qw9.1)
  have HZw9 : Hid ((w8.alloc (.cells #[.int .i64 0, .int .i64 0, .int .i64 0, .int .i64 0, .int .i64 0, .string ⟨#[]⟩] 24)).heap[g15]? = some (.cells Ver.zero.cells.toArray 24 (0, 0))) := Lib.hid (by rw [hg15]; exact heap_alloc_new _ _)
  have HGg15 := Lib.hid hg15
  have HWw9 := Lib.hid hw9
  have Bw9 : Hid (Below w1.heap.size w1 w9) := Lib.hid (Bw8.out.trans (bbw9.mono Bw8.out.size))
  have Qg7w9 := Lib.hid (Qg7w8.out.below' bbw9)
  have Qg9w9 := Lib.hid (Qg9w8.out.below' bbw9)
  clear hg15 hw9 qw9 bbw9
  go_upto_region 6 with (refine wpList_store_row rfl 24 (.tmp 15) (.tmp 43) rfl g15 Y.cells.toArray (by rw [HGg15.out]; rfl) rfl _ _ HZw9.out HIY.out HZY.out (Ver.cells_one _) ?_)
  rw [← HGg15.out, ← HWw9.out]
  have LVw10 := Lib.hid (vload (HK.out.below' Bw9.out) HV.out)
  go_wp2_with (refine wpList_load_run rfl 24 (.tmp 4) rfl g4 rfl _ LVw10.out ?_)
  refine (refBump_ok v HV.out HT.out n w9).mono ?_
  rintro e w10 ⟨rfl, hbw10⟩
  rw [← HY.out, ← HYE.out]
  have Bw10 : Hid (Below w1.heap.size w1 w10) := Lib.hid (Bw9.out.trans (hbw10.mono Bw9.out.size))
  have Qg7w10 := Lib.hid (Qg7w9.out.below' hbw10)
  have Qg9w10 := Lib.hid (Qg9w9.out.below' hbw10)
  have Qg15w10 := Lib.hid (Qg15w9.out.below' hbw10)
  clear hbw10
  obtain ⟨g17, hg17⟩ : ∃ g17, g17 = w10.heap.size := ⟨_, rfl⟩
  obtain ⟨w11, hw11⟩ : ∃ w11, w11 = (w10.alloc (.cells #[.int .i64 0, .int .i64 0, .int .i64 0, .int .i64 0, .int .i64 0, .string ⟨#[]⟩] 30)).setRow g17 Y.cells.toArray := ⟨_, rfl⟩
  have qw11 := laid_ver w10 Y 30
  have bbw11 : Below w10.heap.size w10 w11 := by rw [hw11, hg17]; exact qw11.2
  have Qg17w11 : Hid (Blk w11 g17 30 Y.cells) := Lib.hid (by rw [hw11, hg17]; exact qw11.1)
  have HZw11 : Hid ((w10.alloc (.cells #[.int .i64 0, .int .i64 0, .int .i64 0, .int .i64 0, .int .i64 0, .string ⟨#[]⟩] 30)).heap[g17]? = some (.cells Ver.zero.cells.toArray 30 (0, 0))) := Lib.hid (by rw [hg17]; exact heap_alloc_new _ _)
  have HGg17 := Lib.hid hg17
  have HWw11 := Lib.hid hw11
  have Bw11 : Hid (Below w1.heap.size w1 w11) := Lib.hid (Bw10.out.trans (bbw11.mono Bw10.out.size))
  have Qg7w11 := Lib.hid (Qg7w10.out.below' bbw11)
  have Qg9w11 := Lib.hid (Qg9w10.out.below' bbw11)
  have Qg15w11 := Lib.hid (Qg15w10.out.below' bbw11)
  clear hg17 hw11 qw11 bbw11
  go_upto_region 7 with (refine wpList_store_row rfl 30 (.tmp 17) (.tmp 49) rfl g17 Y.cells.toArray (by rw [HGg17.out]; rfl) rfl _ _ HZw11.out HIY2.out HZY.out (Ver.cells_one _) ?_)
  rw [← HGg17.out, ← HWw11.out]
  have L7 := Lib.hid (vload Qg7w11.out HXO.out)
  have L9 := Lib.hid (rload Qg9w11.out HXO.out)
  have L15 := Lib.hid (vload Qg15w11.out HYO.out)
  have L17 := Lib.hid (rload Qg17w11.out HYO.out)
  have ex := reql X X HXO.out HXO.out w11
  rw [decide_eq_true (rfl : X = X)] at ex
  have ey := reql Y Y HYO.out HYO.out w11
  rw [decide_eq_true (rfl : Y = Y)] at ey
  have EX := Lib.hid ex
  have EY := Lib.hid ey
  have s1 : (xe == xe) = true := beq_self_eq_true _
  have s2 : (tt.toList == tt.toList) = true := beq_self_eq_true _
  have s3 : (te == te) = true := beq_self_eq_true _
  have s4 : (ye == ye) = true := beq_self_eq_true _
  have HFIN : Hid (Below w.heap.size w w11) := Lib.hid (HB1.out.trans (Bw11.out.mono HB1.out.size))
  clear ex ey
  go_wp2_with (first | refine wpList_load_run rfl 24 (.tmp 7) rfl g7 rfl _ L7.out ?_ | refine wpList_load_run rfl 30 (.tmp 9) rfl g9 rfl _ L9.out ?_ | refine wpList_eql_run rfl 30 30 (.tmp 51) (.tmp 52) rfl _ _ rfl rfl (by kernel_rfl) _ EX.out ?_ | refine wpListw_load_run rfl 24 (.tmp 15) rfl g15 rfl _ L15.out ?_ | refine wpListw_load_run rfl 30 (.tmp 17) rfl g17 rfl _ L17.out ?_ | refine wpListw_eql_run rfl 30 30 (.tmp 70) (.tmp 71) rfl _ _ rfl rfl (by kernel_rfl) _ EY.out ?_)
  refine (names13_ok w11).mono ?_
  rintro e w' ⟨rfl, rfl⟩
  go_wp2_with fail
  go_ret
  exact ⟨rfl, HFIN.out⟩
end Go.Proofs.YteeijjhgdplifaaDoor
