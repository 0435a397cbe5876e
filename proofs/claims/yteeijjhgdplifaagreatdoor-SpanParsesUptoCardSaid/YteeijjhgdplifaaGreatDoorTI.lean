/- Spans: caret (slices.IndexFunc over the numbers), from. -/
import Derived.Test.YteeijjhgdplifaaGreatDoorTH
import Derived.Test.YteeijjhgdplifaaGreatDoorVj
namespace Go.Proofs.YteeijjhgdplifaaGreatDoor
open Go.RowKit

/-- the place of the first number that is not 0, or -1 -/
def ifz : List Int → Nat → Int
  | [], _ => -1
  | a :: r, i => if a ≠ 0 then (i : Int) else ifz r (i + 1)
theorem ifz_step {l : List Int} {i : Nat} {a : Int} (h : l[i]? = some a) : ifz (l.drop i) i = if a ≠ 0 then (i : Int) else ifz (l.drop (i + 1)) (i + 1) := by
  obtain ⟨h1, h2⟩ := List.getElem?_eq_some_iff.1 h
  rw [List.drop_eq_getElem_cons h1, h2, ifz]
theorem crt_ifz : ∀ (l : List Int) (i : Nat) (d : Int), crt l i d = if ifz l i < 0 then d else ifz l i + 1
  | [], i, d => by rw [crt, ifz, if_pos (by decide)]
  | a :: r, i, d => by
    rw [crt, ifz]
    by_cases h : a ≠ 0
    · rw [if_pos h, if_pos h, if_neg (by omega)]; rfl
    · rw [if_neg h, if_neg h, crt_ifz r (i + 1) d]
theorem ifz_bd : ∀ (l : List Int) (i : Nat), ifz l i < i + l.length ∧ -1 ≤ ifz l i
  | [], i => by rw [ifz]; simp only [List.length_nil]; omega
  | a :: r, i => by
    have := ifz_bd r (i + 1)
    rw [ifz, List.length_cons]
    split <;> omega
set_option maxRecDepth 100000 in
theorem nz_ok (x : Int) (w : World) : Calls Tryz.prog 71 #[.int .i64 x] w fun e w' => e = .returned (.bool (decide (x ≠ 0))) ∧ w = w' := by
  obtain ⟨D, hD⟩ : ∃ D, D = decide (x ≠ 0) := ⟨_, rfl⟩
  rw [← hD]
  have HD := Lib.hid hD
  clear hD
  by_cases h : x = 0
  · subst h
    go_enter Tryz.func71, Tryz.ntmps71
    go_wp2_with fail
    go_ret
    exact ⟨by rw [HD.out]; rfl, rfl⟩
  · have H1 : Hid ((x != 0) = true) := Lib.hid (by simpa using h)
    have H2 : Hid (decide (x ≠ 0) = true) := Lib.hid (decide_eq_true h)
    go_enter Tryz.func71, Tryz.ntmps71
    go_wp2_with fail
    go_ret
    exact ⟨by rw [HD.out, H2.out, ← H1.out]; rfl, rfl⟩
set_option maxRecDepth 100000 in
theorem indexNz_ok (g c : Nat) (l : List Int) (n : Nat) (hn : l.length = n) (hl : n ≤ 1000) (hc : n ≤ c) (w : World) (hw : ∀ i x, l[i]? = some x → w.cell? ⟨g, i, none⟩ = some (.int .i64 x)) :
    Calls Tryz.prog 70 #[.slice (some ⟨g, 0, none⟩) n c, .func (.func 71) #[] #[]] w fun e w' => e = .returned (.int .i64 (ifz l 0)) ∧ w = w' := by
  have e71 : ∀ args w, (callFunc 71 args).run Tryz.prog w = .ok (.enter 71 args) w := enters_of Tryz.func71 (by kernel_rfl) rfl
  obtain ⟨R, hR⟩ : ∃ R, R = ifz l 0 := ⟨_, rfl⟩
  rw [← hR]
  have HR : Hid (R = ifz (l.drop 0) 0) := Lib.hid hR
  have HN := Lib.hid hn
  have HW := Lib.hid hw
  clear hR hn hw
  go_enter Tryz.func70, Tryz.ntmps70
  go_wp2_with fail
  go_loopg [8] n (fun kq iv wr => ∃ i : Nat, iv = .int .i64 i ∧ i ≤ n ∧ kq = n - i ∧ Hid (R = ifz (l.drop i) i) ∧ wr = w)
  case atStart => exact ⟨0, rfl, Nat.zero_le _, rfl, HR, rfl⟩
  case round =>
  clear HR
  obtain ⟨i, rfl, hi, rfl, HR, rfl⟩ := hrel
  by_cases hlt : i < n
  · have hltI : (i : Int) < (n : Int) := by omega
    have hi0 : 0 ≤ (i : Int) := by omega
    obtain ⟨x, hx⟩ : ∃ x, l[i]? = some x := ⟨_, List.getElem?_eq_getElem (by rw [HN.out]; exact hlt)⟩
    have c0 := HW.out i x hx
    have hs := ifz_step hx
    rw [← HR.out] at hs
    have HSS := Lib.hid hs
    clear hx hs HR
    go_wp2_with fail
    refine (nz_ok x _).mono ?_
    rintro e w' ⟨rfl, rfl⟩
    by_cases h : x = 0
    · have HR2 : Hid (R = ifz (l.drop (i + 1)) (i + 1)) := Lib.hid (by rw [HSS.out, if_neg (fun h' => h' h)])
      have hd : decide (x ≠ 0) = false := by simp [h]
      rw [hd]
      clear h hd
      go_wp2_with fail
      go_roundg (n - (i + 1))
      case measure => omega
      case rel => exact ⟨i + 1, by go_num, by omega, rfl, HR2, rfl⟩
    · have HR2 : Hid (R = (i : Int)) := Lib.hid (by rw [HSS.out, if_pos h])
      have hd : decide (x ≠ 0) = true := by simp [h]
      rw [hd]
      clear h hd
      go_wp2_with fail
      go_ret
      exact ⟨by rw [HR2.out]; rfl, rfl⟩
  · obtain rfl : i = n := by omega
    have hni : ¬ (i : Int) < (i : Int) := by omega
    have HR2 : Hid (R = -1) := Lib.hid (by rw [HR.out, List.drop_of_length_le (by rw [HN.out]; exact Nat.le_refl _), ifz])
    clear HR
    go_wp2_with fail
    go_ret
    exact ⟨by rw [HR2.out]; rfl, rfl⟩
set_option maxRecDepth 100000 in
theorem caret_ok (v : Ver) (hv : v.Ok) (hm : v.may = true) (w : World) : Calls Tryz.prog 44 #[v.val] w fun e w' => e = .returned (.int .i64 (caretC v)) ∧ Below w.heap.size w w' := by
  obtain ⟨w1, hw1⟩ : ∃ w1, w1 = w.alloc (.cells v.cells.toArray 38) := ⟨_, rfl⟩
  obtain ⟨g1, hg1⟩ : ∃ g1, g1 = w.heap.size := ⟨_, rfl⟩
  have hb1 : Below w.heap.size w w1 := by rw [hw1]; exact (Below.refl _ _).alloc (Nat.le_refl _) _
  have k1 : Blk w1 g1 38 v.cells := by rw [hw1, hg1]; exact Blk.new _ _ v.cells.toArray
  obtain ⟨hc1, hc4⟩ := v.may_c hm
  obtain ⟨k, hk⟩ : ∃ k : Nat, v.c = (k : Int) := ⟨v.c.toNat, by omega⟩
  have hk1 : 1 ≤ k := by omega
  have hk4 : k ≤ 4 := by omega
  have hkI : (k : Int) ≤ 4 := by omega
  have hk0 : 0 ≤ (k : Int) := by omega
  have c4 : w1.cell? ⟨g1, 4, none⟩ = some (.int .i64 (k : Int)) := by rw [k1.cell, Ver.cells_c hv, hk]
  have hgl := k1.lt
  have hl4 : v.ns.length = 4 := hv
  obtain ⟨R, hR⟩ : ∃ R, R = ifz (v.ns.take k) 0 := ⟨_, rfl⟩
  have hbd := ifz_bd (v.ns.take k) 0
  rw [← hR, List.length_take, hl4] at hbd
  have hbd2 : R < 4 ∧ -1 ≤ R := by omega
  obtain ⟨hb4, hbm⟩ := hbd2
  have HIX : Hid (Calls Tryz.prog 70 #[.slice (some ⟨g1, 0, none⟩) k 4, .func (.func 71) #[] #[]] w1 fun e w' => e = .returned (.int .i64 R) ∧ w1 = w') := Lib.hid (by
    rw [hR]
    refine indexNz_ok g1 4 (v.ns.take k) k (by rw [List.length_take, hl4]; omega) (by omega) hk4 w1 fun i x hx => ?_
    rw [List.getElem?_take] at hx
    split at hx
    · rw [k1.cell, Ver.cells_n hx]
    · cases hx)
  obtain ⟨C, hC⟩ : ∃ C, C = caretC v := ⟨_, rfl⟩
  have HC : Hid (C = if R < 0 then (k : Int) else R + 1) := Lib.hid (by
    rw [hC, hR]
    unfold caretC
    rw [crt_ifz, hk]
    rfl)
  rw [← hC]
  have HB1 := Lib.hid hb1
  have HW1 := Lib.hid hw1
  have HG1 := Lib.hid hg1
  clear hw1 hg1 hb1 k1 hv hm hc1 hc4 hk hl4 hR hbd hC
  rw [show v.val = .agg v.cells.toArray from rfl]
  go_enter Tryz.func44, Tryz.ntmps44
  go_upto_region 1 with fail
  rw [← HW1.out, ← HG1.out]
  go_wp2_with fail
  refine (HIX.out).mono ?_
  rintro e w' ⟨rfl, rfl⟩
  by_cases h0 : R < 0
  · have HC2 : Hid (C = (k : Int)) := Lib.hid (by rw [HC.out, if_pos h0])
    go_wp2_with fail
    go_ret
    exact ⟨by rw [HC2.out]; rfl, HB1.out⟩
  · have HC2 : Hid (C = R + 1) := Lib.hid (by rw [HC.out, if_neg h0])
    have hw : IntKind.i64.wrap (R + 1) = R + 1 := by rw [IntKind.wrap_i64]; omega
    go_wp2_with fail
    go_ret
    exact ⟨by rw [HC2.out]; rfl, HB1.out⟩
end Go.Proofs.YteeijjhgdplifaaGreatDoor
/- Spans: from. -/
namespace Go.Proofs.YteeijjhgdplifaaGreatDoor
open Go.RowKit

theorem laid_ver (w : World) (v : Ver) : Blk ((w.alloc (.cells Ver.zero.cells.toArray 38)).setRow w.heap.size v.cells.toArray) w.heap.size 38 v.cells ∧ Below w.heap.size w ((w.alloc (.cells Ver.zero.cells.toArray 38)).setRow w.heap.size v.cells.toArray) := by
  have h1 : Below w.heap.size w (w.alloc (.cells Ver.zero.cells.toArray 38)) := (Below.refl _ _).alloc (Nat.le_refl _) _
  exact ⟨(Blk.new w _ _).setRow_ v.cells, h1.trans (((Mod.refl (fun b => w.heap.size ≤ b) _).setRow (fun _ => Nat.le_refl _) _).below h1.size (fun _ h => h))⟩
abbrev zc : Array Value := #[.int .i64 0, .int .i64 0, .int .i64 0, .int .i64 0, .int .i64 0, .int .i64 0, .string ⟨#[]⟩]
abbrev zv : Array Value := #[.int .i64 0, .int .i64 0, .int .i64 0, .int .i64 0, .int .i64 0, .string ⟨#[]⟩]
set_option maxRecDepth 100000 in
set_option maxHeartbeats 2000000 in
theorem from_ok (v : Ver) (hv : v.Ok) (hs : v.t.length ≤ 140737488355328) (n : Int) (w : World) : Calls Tryz.prog 43 #[v.val, .int .i64 n] w fun e w' => ∃ g, e = .returned (sp0 g) ∧ SpAt w' w.heap.size g (fromC v n) ∧ Below w.heap.size w w' := by
  obtain ⟨w1, hw1⟩ : ∃ w1, w1 = w.alloc (.cells v.cells.toArray 38) := ⟨_, rfl⟩
  obtain ⟨g2, hg2⟩ : ∃ g2, g2 = w.heap.size := ⟨_, rfl⟩
  have hb1 : Below w.heap.size w w1 := by rw [hw1]; exact (Below.refl _ _).alloc (Nat.le_refl _) _
  have k1 : Blk w1 g2 38 v.cells := by rw [hw1, hg2]; exact Blk.new _ _ v.cells.toArray
  obtain ⟨g5, hg5⟩ : ∃ g5, g5 = w1.heap.size := ⟨_, rfl⟩
  obtain ⟨w2, hw2⟩ : ∃ w2, w2 = (w1.alloc (.cells zc 57)).setRow g5 topC.cells.toArray := ⟨_, rfl⟩
  have q2 := laid_cut w1 topC
  have hb2 : Below w1.heap.size w1 w2 := by rw [hw2, hg5]; exact q2.2
  have k5 : Blk w2 g5 57 topC.cells := by rw [hw2, hg5]; exact q2.1
  have hb12 : Below w.heap.size w w2 := hb1.trans (hb2.mono hb1.size)
  have hge5 : w.heap.size ≤ g5 := by rw [hg5]; exact hb1.size
  have HZ2 : Hid ((w1.alloc (.cells zc 57)).heap[g5]? = some (.cells (⟨0, Ver.zero⟩ : Cut).cells.toArray 57 (0, 0))) := Lib.hid (by rw [hg5]; exact heap_alloc_new _ _)
  have HI7 : Hid ((Tryz.prog.info? 57).map (·.size) = some 7) := Lib.hid (by kernel_rfl)
  have HIT : Hid ((Tryz.prog.info? 57).map (·.size) = some topC.cells.toArray.size) := Lib.hid (by kernel_rfl)
  have HONT : Hid (topC.cells.toArray.all (·.oneCell') = true) := Lib.hid (all_oneCell_toArray (cut_one1 topC))
  have L1 := Lib.hid (vload (k1.below' hb2) hv)
  have K1 := Lib.hid (k1.below' hb2)
  have K5 := Lib.hid k5
  have HV := Lib.hid hv
  have HSV := Lib.hid hs
  have HB2 := Lib.hid hb12
  have HGE := Lib.hid hge5
  have HW1 := Lib.hid hw1
  have HG2 := Lib.hid hg2
  have HW2 := Lib.hid hw2
  have HG5 := Lib.hid hg5
  obtain ⟨U, hU⟩ : ∃ U, U = (v.bump n).1 := ⟨_, rfl⟩
  obtain ⟨E, hE⟩ : ∃ E, E = (v.bump n).2 := ⟨_, rfl⟩
  have HUO : Hid U.Ok := Lib.hid (by rw [hU]; exact (bump_form hv n).1)
  have HFC : Hid (fromC v n = spl ⟨1, v⟩ (if E = 0 then ⟨1, U⟩ else topC)) := Lib.hid (by rw [hE, hU]; rfl)
  have HBP : Hid (Calls Tryz.prog 69 #[v.val, .int .i64 n] w2 fun e w' => e = .returned (.tuple #[.agg U.cells.toArray, .int .i64 E]) ∧ Below w2.heap.size w2 w') := Lib.hid (by rw [hU, hE]; exact bump_ok v hv hs n w2)
  have HB1V : Hid (Tryz.prog.built 57 [(0, .int .i64 1), (1, .agg v.cells.toArray)] = some (⟨1, v⟩ : Cut).cells.toArray) := Lib.hid (built_cut 1 hv)
  have HB1U : Hid (Tryz.prog.built 57 [(0, .int .i64 1), (1, .agg U.cells.toArray)] = some (⟨1, U⟩ : Cut).cells.toArray) := Lib.hid (built_cut 1 HUO.out)
  clear hw1 hg2 hb1 k1 hg5 hw2 q2 hb2 k5 hb12 hge5 hv hs hU hE
  rw [show v.val = .agg v.cells.toArray from rfl]
  go_enter Tryz.func43, Tryz.ntmps43
  go_upto_region 1 with fail
  rw [← HW1.out, ← HG2.out]
  go_upto_region 2 with (refine wpList_store_row rfl 57 (.tmp 5) (.tmp 8) rfl g5 topC.cells.toArray (by rw [HG5.out]; rfl) rfl _ _ HZ2.out HIT.out rfl HONT.out ?_)
  rw [← HG5.out, ← HW2.out]
  go_wp2_with (refine wpList_load_at rfl 38 (.tmp 2) rfl ⟨g2, 0, none⟩ rfl _ L1.out ?_)
  refine HBP.out.mono ?_
  rintro e w3 ⟨rfl, hb3⟩
  obtain ⟨g6, hg6⟩ : ∃ g6, g6 = w3.heap.size := ⟨_, rfl⟩
  obtain ⟨w4, hw4⟩ : ∃ w4, w4 = (w3.alloc (.cells zv 38)).setRow g6 U.cells.toArray := ⟨_, rfl⟩
  have q4 := laid_ver w3 U
  have hb4 : Below w3.heap.size w3 w4 := by rw [hw4, hg6]; exact q4.2
  have k6 : Blk w4 g6 38 U.cells := by rw [hw4, hg6]; exact q4.1
  have k5 : Blk w4 g5 57 topC.cells := (K5.out.below' hb3).below' hb4
  have k2 : Blk w4 g2 38 v.cells := (K1.out.below' hb3).below' hb4
  have HB4 : Hid (Below w.heap.size w w4) := Lib.hid ((HB2.out.trans (hb3.mono HB2.out.size)).trans (hb4.mono (Nat.le_trans HB2.out.size hb3.size)))
  have HZ4 : Hid ((w3.alloc (.cells zv 38)).heap[g6]? = some (.cells Ver.zero.cells.toArray 38 (0, 0))) := Lib.hid (by rw [hg6]; exact heap_alloc_new _ _)
  have HIU : Hid ((Tryz.prog.info? 38).map (·.size) = some U.cells.toArray.size) := Lib.hid (by rw [Ver.cells_size HUO.out]; kernel_rfl)
  have HZU : Hid (Ver.zero.cells.toArray.size = U.cells.toArray.size) := Lib.hid (by rw [Ver.cells_size HUO.out]; rfl)
  have HONU : Hid (U.cells.toArray.all (·.oneCell') = true) := Lib.hid (Ver.cells_one U)
  have LU := Lib.hid (vload k6 HUO.out)
  have LV := Lib.hid (vload k2 HV.out)
  have LT := Lib.hid (cload k5 topC_pr.1)
  have K54 := Lib.hid k5
  have K24 := Lib.hid k2
  have HG6 := Lib.hid hg6
  have HW4 := Lib.hid hw4
  clear hb3 hg6 hw4 q4 hb4 k6 k5 k2
  go_upto_region 3 with (refine wpList_store_row rfl 38 (.tmp 6) (.tmp 13) rfl g6 U.cells.toArray (by rw [HG6.out]; rfl) rfl _ _ HZ4.out HIU.out HZU.out HONU.out ?_)
  rw [← HG6.out, ← HW4.out]
  by_cases h0 : E = 0
  · subst h0
    obtain ⟨w5, hw5⟩ : ∃ w5, w5 = w4.setRow g5 (⟨1, U⟩ : Cut).cells.toArray := ⟨_, rfl⟩
    have k5 : Blk w5 g5 57 (⟨1, U⟩ : Cut).cells := by rw [hw5]; exact K54.out.setRow_ (⟨1, U⟩ : Cut).cells
    have hm : Mod (fun b => b = g5) w4 w5 := by rw [hw5]; exact (Mod.refl (fun b => b = g5) w4).setRow (g := g5) (fun _ => rfl) _
    have hlv := vload (K24.out.mod hm (fun e => by have := K54.out; rw [← e] at this; have h2 := K24.out; unfold Blk at this h2; rw [h2] at this; simp at this)) HV.out
    have HB5 : Hid (Below w.heap.size w w5) := Lib.hid (HB4.out.trans (hm.below HB4.out.size (fun i hi => by rw [hi]; exact HGE.out)))
    have LV5 := Lib.hid hlv
    have LT5 := Lib.hid (cload k5 (ok1 HUO.out))
    have HI1 : Hid ((Tryz.prog.info? 57).map (·.size) = some (⟨1, U⟩ : Cut).cells.toArray.size) := Lib.hid (by rw [List.size_toArray, Cut.cells_len (ok1 HUO.out)]; exact HI7.out)
    have HZ1 : Hid (topC.cells.toArray.size = (⟨1, U⟩ : Cut).cells.toArray.size) := Lib.hid (by rw [List.size_toArray, List.size_toArray, Cut.cells_len (ok1 HUO.out)]; rfl)
    have HON1 : Hid ((⟨1, U⟩ : Cut).cells.toArray.all (·.oneCell') = true) := Lib.hid (all_oneCell_toArray (cut_one1 _))
    have HBT := Lib.hid (between_ok ⟨1, v⟩ ⟨1, U⟩ (ok1 HV.out) (ok1 HUO.out) w5)
    have HFC2 : Hid (fromC v n = spl ⟨1, v⟩ ⟨1, U⟩) := Lib.hid (by rw [HFC.out, if_pos rfl])
    have HW5 := Lib.hid hw5
    clear hw5 k5 hm hlv
    go_upto_region 5 with (first | refine wpList_load_at rfl 38 (.tmp 6) rfl ⟨g6, 0, none⟩ rfl _ LU.out ?_ | refine wpList_build_two rfl 57 0 1 _ _ rfl _ _ rfl rfl _ HB1U.out ?_ | refine wpList_store_row rfl 57 (.tmp 5) (.tmp 18) rfl g5 (⟨1, U⟩ : Cut).cells.toArray rfl rfl _ _ K54.out HI1.out HZ1.out HON1.out ?_)
    rw [← HW5.out]
    go_wp2_with (first | refine wpList_load_at rfl 38 (.tmp 2) rfl ⟨g2, 0, none⟩ rfl _ LV5.out ?_ | refine wpList_load_at rfl 57 (.tmp 5) rfl ⟨g5, 0, none⟩ rfl _ LT5.out ?_ | refine wpList_build_two rfl 57 0 1 _ _ rfl _ _ rfl rfl _ HB1V.out ?_)
    refine HBT.out.mono ?_
    rintro e w6 ⟨g, rfl, hs, hb⟩
    have HSP := Lib.hid (hs.lower HB5.out.size)
    have HB6 : Hid (Below w.heap.size w w6) := Lib.hid (HB5.out.trans (hb.mono HB5.out.size))
    clear hs hb
    go_wp2_with fail
    go_ret
    exact ⟨g, rfl, by rw [HFC2.out]; exact HSP.out, HB6.out⟩
  · have HBT := Lib.hid (between_ok ⟨1, v⟩ topC (ok1 HV.out) topC_pr.1 w4)
    have HFC2 : Hid (fromC v n = spl ⟨1, v⟩ topC) := Lib.hid (by rw [HFC.out, if_neg h0])
    have e0 : (E == 0) = false := by simpa using h0
    go_wp2_with (first | refine wpList_load_at rfl 38 (.tmp 2) rfl ⟨g2, 0, none⟩ rfl _ LV.out ?_ | refine wpList_load_at rfl 57 (.tmp 5) rfl ⟨g5, 0, none⟩ rfl _ LT.out ?_ | refine wpList_build_two rfl 57 0 1 _ _ rfl _ _ rfl rfl _ HB1V.out ?_)
    refine HBT.out.mono ?_
    rintro e w6 ⟨g, rfl, hs, hb⟩
    have HSP := Lib.hid (hs.lower HB4.out.size)
    have HB6 : Hid (Below w.heap.size w w6) := Lib.hid (HB4.out.trans (hb.mono HB4.out.size))
    clear hs hb
    go_wp2_with fail
    go_ret
    exact ⟨g, rfl, by rw [HFC2.out]; exact HSP.out, HB6.out⟩
end Go.Proofs.YteeijjhgdplifaaGreatDoor
