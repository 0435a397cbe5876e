/- The comparison that version.Sort hands on; Go's insertion sort over a row of texts. -/
import Derived.Test.YteeijjhgdplifaaDoorVr
import Derived.Test.YteeijjhgdplifaaDoorVt
namespace Go.Proofs.YteeijjhgdplifaaDoor
open Go.RowKit

/-- what version.Sort's closure tells of two texts -/
def cfn (s t : List UInt8) : Int := (rv t).1.cmp (rv s).1
/-- a text may stand ahead of another one -/
def vle (s t : List UInt8) : Bool := !decide (cfn t s < 0)
theorem vle_iff (s t : List UInt8) : vle s t = true ↔ 0 ≤ (rv s).1.cmp (rv t).1 := by
  unfold vle cfn
  simp
theorem vle_pre : Pre vle := by
  constructor
  · intro x y
    rw [vle_iff, vle_iff, Ver.cmp_anti (rv_okv y) (rv_okv x)]
    omega
  · intro x y z h1 h2
    rw [vle_iff] at *
    exact Ver.cmp_tr' (rv_okv x) (rv_okv y) (rv_okv z) h1 h2
theorem cfn_vle {s t : List UInt8} {v : Bool} (h : vle t s = v) : decide (cfn s t < 0) = !v := by
  rw [← h]; unfold vle; simp

set_option maxRecDepth 100000 in
set_option maxHeartbeats 2000000 in
theorem cmpf_ok (s t : List UInt8) (hs : s.length ≤ 4000000000) (ht : t.length ≤ 4000000000) (w : World) (hg : GV w) :
    Calls Tryd.prog 52 #[.string (bl s), .string (bl t)] w fun e w' => e = .returned (.int .i64 (cfn s t)) ∧ Below w.heap.size w w' := by
  obtain ⟨X, hX⟩ : ∃ X, X = (rv s).1 := ⟨_, rfl⟩
  obtain ⟨xe, hxe⟩ : ∃ xe, xe = (rv s).2 := ⟨_, rfl⟩
  obtain ⟨Y, hY⟩ : ∃ Y, Y = (rv t).1 := ⟨_, rfl⟩
  obtain ⟨ye, hye⟩ : ∃ ye, ye = (rv t).2 := ⟨_, rfl⟩
  obtain ⟨C, hC⟩ : ∃ C, C = cfn s t := ⟨_, rfl⟩
  rw [← hC]
  have HCX : Hid (Y.cmp X = C) := Lib.hid (by rw [hC, hX, hY]; rfl)
  have HX := Lib.hid hX
  have HXE := Lib.hid hxe
  have HY := Lib.hid hY
  have HYE := Lib.hid hye
  have HXO : Hid X.Ok := Lib.hid (by rw [hX]; exact rv_okv _)
  have HYO : Hid Y.Ok := Lib.hid (by rw [hY]; exact rv_okv _)
  have HI6 : Hid ((Tryd.prog.info? 24).map (·.size) = some 6) := Lib.hid (by kernel_rfl)
  have HIX : Hid ((Tryd.prog.info? 24).map (·.size) = some X.cells.toArray.size) := Lib.hid (by rw [Ver.cells_size HXO.out]; exact HI6.out)
  have HIY : Hid ((Tryd.prog.info? 24).map (·.size) = some Y.cells.toArray.size) := Lib.hid (by rw [Ver.cells_size HYO.out]; exact HI6.out)
  have HZX : Hid (Ver.zero.cells.toArray.size = X.cells.toArray.size) := Lib.hid (by rw [Ver.cells_size HXO.out]; rfl)
  have HZY : Hid (Ver.zero.cells.toArray.size = Y.cells.toArray.size) := Lib.hid (by rw [Ver.cells_size HYO.out]; rfl)
  have HSS : Hid ((bl s).size ≤ 4000000000) := Lib.hid (by rw [bl_size]; exact hs)
  have HST : Hid ((bl t).size ≤ 4000000000) := Lib.hid (by rw [bl_size]; exact ht)
  have HG := Lib.hid hg
  clear hX hxe hY hye hC hs ht hg
  go_enter Tryd.func52, Tryd.ntmps52
  go_wp2_with fail
  refine (parse_ok (bl s) HSS.out w HG.out).mono ?_
  rintro e w1 ⟨rfl, hb1⟩
  rw [bl_data, ← HX.out, ← HXE.out]
  have B1 := Lib.hid hb1
  obtain ⟨g5, hg5⟩ : ∃ g5, g5 = w1.heap.size := ⟨_, rfl⟩
  obtain ⟨w2, hw2⟩ : ∃ w2, w2 = (w1.alloc (.cells #[.int .i64 0, .int .i64 0, .int .i64 0, .int .i64 0, .int .i64 0, .string ⟨#[]⟩] 24)).setRow g5 X.cells.toArray := ⟨_, rfl⟩
  have q2 := laid_ver w1 X 24
  have bb2 : Below w1.heap.size w1 w2 := by rw [hw2, hg5]; exact q2.2
  have Q5 : Hid (Blk w2 g5 24 X.cells) := Lib.hid (by rw [hw2, hg5]; exact q2.1)
  have HZ2 : Hid ((w1.alloc (.cells #[.int .i64 0, .int .i64 0, .int .i64 0, .int .i64 0, .int .i64 0, .string ⟨#[]⟩] 24)).heap[g5]? = some (.cells Ver.zero.cells.toArray 24 (0, 0))) := Lib.hid (by rw [hg5]; exact heap_alloc_new _ _)
  have HG5 := Lib.hid hg5
  have HW2 := Lib.hid hw2
  have B2 : Hid (Below w.heap.size w w2) := Lib.hid (hb1.trans (bb2.mono hb1.size))
  clear hg5 hw2 q2 bb2 hb1 B1
  go_upto_region 2 with (refine wpList_store_row rfl 24 (.tmp 5) (.tmp 12) rfl g5 X.cells.toArray (by rw [HG5.out]; rfl) rfl _ _ HZ2.out HIX.out HZX.out (Ver.cells_one _) ?_)
  rw [← HG5.out, ← HW2.out]
  go_wp2_with fail
  refine (parse_ok (bl t) HST.out w2 (HG.out.below B2.out)).mono ?_
  rintro e w3 ⟨rfl, hb3⟩
  rw [bl_data, ← HY.out, ← HYE.out]
  have Q5' := Lib.hid (Q5.out.below' hb3)
  have B3 : Hid (Below w.heap.size w w3) := Lib.hid (B2.out.trans (hb3.mono B2.out.size))
  obtain ⟨g7, hg7⟩ : ∃ g7, g7 = w3.heap.size := ⟨_, rfl⟩
  obtain ⟨w4, hw4⟩ : ∃ w4, w4 = (w3.alloc (.cells #[.int .i64 0, .int .i64 0, .int .i64 0, .int .i64 0, .int .i64 0, .string ⟨#[]⟩] 24)).setRow g7 Y.cells.toArray := ⟨_, rfl⟩
  have q4 := laid_ver w3 Y 24
  have bb4 : Below w3.heap.size w3 w4 := by rw [hw4, hg7]; exact q4.2
  have L5 := Lib.hid (vload (Q5'.out.below' bb4) HXO.out)
  have Q7 : Blk w4 g7 24 Y.cells := by rw [hw4, hg7]; exact q4.1
  have L7 := Lib.hid (vload Q7 HYO.out)
  have HZ4 : Hid ((w3.alloc (.cells #[.int .i64 0, .int .i64 0, .int .i64 0, .int .i64 0, .int .i64 0, .string ⟨#[]⟩] 24)).heap[g7]? = some (.cells Ver.zero.cells.toArray 24 (0, 0))) := Lib.hid (by rw [hg7]; exact heap_alloc_new _ _)
  have HG7 := Lib.hid hg7
  have HW4 := Lib.hid hw4
  have B4 : Hid (Below w.heap.size w w4) := Lib.hid (B3.out.trans (bb4.mono B3.out.size))
  clear hg7 hw4 q4 bb4 hb3 Q5 Q5' Q7
  go_upto_region 3 with (refine wpList_store_row rfl 24 (.tmp 7) (.tmp 17) rfl g7 Y.cells.toArray (by rw [HG7.out]; rfl) rfl _ _ HZ4.out HIY.out HZY.out (Ver.cells_one _) ?_)
  rw [← HG7.out, ← HW4.out]
  go_wp2_with (first | refine wpList_load_run rfl 24 (.tmp 7) rfl g7 rfl _ L7.out ?_ | refine wpList_load_run rfl 24 (.tmp 5) rfl g5 rfl _ L5.out ?_)
  refine (compare_ok Y X HYO.out HXO.out w4).mono ?_
  rintro e w5 ⟨rfl, hb5⟩
  rw [HCX.out]
  have B5 : Hid (Below w.heap.size w w5) := Lib.hid (B4.out.trans (hb5.mono B4.out.size))
  clear hb5
  go_wp2_with fail
  go_ret
  exact ⟨rfl, B5.out⟩

/-- Where a sort is under way: the library's variables are as they were, and the row is newer than they are. -/
structure In (w0 : World) (g : Nat) (w : World) : Prop where
  gv : GV w0
  below : Below w0.heap.size w0 w
  new : w0.heap.size ≤ g
theorem In.mod {w0 w w' : World} {g : Nat} (h : In w0 g w) (hm : Mod (fun i => i = g) w w') : In w0 g w' :=
  ⟨h.gv, h.below.trans (hm.below h.below.size (fun i hi => by rw [hi]; exact h.new)), h.new⟩
theorem In.gvw {w0 w : World} {g : Nat} (h : In w0 g w) : GV w := h.gv.below h.below
/-- Texts that are short enough to be read. -/
def Short (X : List (List UInt8)) : Prop := ∀ x ∈ X, x.length ≤ 4000000000
theorem Short.get {X : List (List UInt8)} (h : Short X) {i : Nat} {x : List UInt8} (hx : X[i]? = some x) : x.length ≤ 4000000000 := h x (List.mem_of_getElem? hx)
theorem Short.sub {X Y : List (List UInt8)} (h : Short X) (hs : ∀ y ∈ Y, y ∈ X) : Short Y := fun x hx => h x (hs x hx)
theorem Short.perm {X Y : List (List UInt8)} (h : Short X) (hp : Y.Perm X) : Short Y := fun x hx => h x (hp.mem_iff.1 hx)
end Go.Proofs.YteeijjhgdplifaaDoor
