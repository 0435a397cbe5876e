/- Contracts of version.Compare and of the document's Compare. -/
import Derived.Test.YteeijjhgdplifaaGreatDoorVb
import Derived.Test.YteeijjhgdplifaaGreatDoorRc
namespace Go.Proofs.YteeijjhgdplifaaGreatDoor
open Go.RowKit

/-- a version's cells -/
def Ver.cells (v : Ver) : List Value := ints v.ns ++ [.int .i64 v.c, .string (bl v.t)]
def Ver.val (v : Ver) : Value := .agg v.cells.toArray
theorem Ver.cells_n {v : Ver} {i : Nat} {x : Int} (hx : v.ns[i]? = some x) : v.cells[i]? = some (.int .i64 x) := by
  unfold Ver.cells
  rw [List.getElem?_append_left (by simp [ints]; exact (List.getElem?_eq_some_iff.1 hx).1)]
  exact ints_get hx
theorem Ver.cells_c {v : Ver} (h : v.ns.length = 4) : v.cells[4]? = some (.int .i64 v.c) := by
  unfold Ver.cells
  rw [List.getElem?_append_right (by simp [ints, h])]
  simp [ints, h]
theorem Ver.cells_t {v : Ver} (h : v.ns.length = 4) : v.cells[5]? = some (.string (bl v.t)) := by
  unfold Ver.cells
  rw [List.getElem?_append_right (by simp [ints, h])]
  simp [ints, h]
theorem orL3 (x y z : Int) : orL [x, y, z] = if x = 0 then (if y = 0 then z else y) else x := by
  simp only [orL]
  split
  · split
    · split
      · rename_i h; exact h.symm
      · rfl
    · rfl
  · rfl

set_option maxRecDepth 100000 in
set_option maxHeartbeats 1000000 in
theorem compare_g (a b : Ver) (ha : a.Ok) (hb : b.Ok) (w : World) : Calls Tryz.prog 51 #[a.val, b.val] w fun e w' => e = .returned (.int .i64 (a.cmp b)) ∧ Below w.heap.size w w' ∧ w.drawn ≤ w'.drawn := by
  obtain ⟨w1, hw1⟩ : ∃ w1, w1 = w.alloc (.cells a.cells.toArray 38) := ⟨_, rfl⟩
  obtain ⟨w2, hw2⟩ : ∃ w2, w2 = w1.alloc (.cells b.cells.toArray 38) := ⟨_, rfl⟩
  obtain ⟨ga, hga⟩ : ∃ ga, ga = w.heap.size := ⟨_, rfl⟩
  obtain ⟨gb, hgb⟩ : ∃ gb, gb = ga + 1 := ⟨_, rfl⟩
  have hgb1 : gb = w1.heap.size := by rw [hgb, hga, hw1]; simp
  have HB1 : Hid (Below w.heap.size w w1) := Lib.hid (by rw [hw1]; exact (Below.refl _ _).alloc (Nat.le_refl _) _)
  have HB2 : Hid (Below w1.heap.size w1 w2) := Lib.hid (by rw [hw2]; exact (Below.refl _ _).alloc (Nat.le_refl _) _)
  have b1 : Blk w1 ga 38 a.cells := by rw [hw1, hga]; exact Blk.new _ _ a.cells.toArray
  have b2 : Blk w2 ga 38 a.cells := b1.below' HB2.out
  have b3 : Blk w2 gb 38 b.cells := by rw [hw2, hgb1]; exact Blk.new _ _ b.cells.toArray
  have HBA := Lib.hid b2
  have HBB := Lib.hid b3
  have HA4 : Hid (a.ns.length = 4) := Lib.hid ha
  have HB4 : Hid (b.ns.length = 4) := Lib.hid hb
  have c1 : w2.cell? ⟨ga, 5, none⟩ = some (.string (bl a.t)) := by rw [b2.cell, Ver.cells_t ha]
  have c2 : w2.cell? ⟨gb, 5, none⟩ = some (.string (bl b.t)) := by rw [b3.cell, Ver.cells_t hb]
  have l1 := b2.lt
  have l2 := b3.lt
  have HW1 := Lib.hid hw1
  have HW2 := Lib.hid hw2
  have HGA := Lib.hid hga
  have HGB := Lib.hid hgb
  obtain ⟨sa, hsa⟩ : ∃ sa, sa = bl a.t := ⟨_, rfl⟩
  obtain ⟨sb, hsb⟩ : ∃ sb, sb = bl b.t := ⟨_, rfl⟩
  rw [← hsa] at c1
  rw [← hsb] at c2
  have HSA := Lib.hid hsa
  have HSB := Lib.hid hsb
  have ea : sa.toList = a.t := by rw [hsa, bl_toList]
  have eb : sb.toList = b.t := by rw [hsb, bl_toList]
  obtain ⟨q, hq⟩ : ∃ q, q = Lib.compareBytes a.t b.t := ⟨_, rfl⟩
  have HQ := Lib.hid hq
  have hq1 : -1 ≤ q ∧ q ≤ 1 := by have := compareBytes_one a.t b.t; rw [← hq] at this; omega
  have hT : cmpT a.t b.t = if q ≠ 0 ∧ (a.t = [] ∨ b.t = []) then -q else q := by unfold cmpT; rw [← hq]
  have HT := Lib.hid hT
  obtain ⟨NL, hNL⟩ : ∃ NL, NL = cmpL a.ns b.ns := ⟨_, rfl⟩
  obtain ⟨NT, hNT⟩ : ∃ NT, NT = cmpT a.t b.t := ⟨_, rfl⟩
  obtain ⟨NC, hNC⟩ : ∃ NC, NC = cmpI a.c b.c := ⟨_, rfl⟩
  have HNL := Lib.hid hNL
  have HNT := Lib.hid hNT
  have HNC := Lib.hid hNC
  have HCM : Hid (a.cmp b = orL [NL, NT, NC]) := Lib.hid (by rw [orL3, hNL, hNT, hNC]; rfl)
  rw [HCM.out]
  clear hw1 hw2 hga hgb hgb1 b1 b2 b3 ha hb hsa hsb hq hT hNL hNT hNC
  unfold Ver.val
  go_enter Tryz.func51, Tryz.ntmps51
  go_upto_region 1 with fail
  rw [← HW1.out, ← HW2.out, ← HGA.out, ← HGB.out]
  go_wp2_with fail
  refine (cmpStr_ok sa sb w2).mono ?_
  rintro e w' ⟨rfl, rfl⟩
  rw [show sa.data.toList = a.t from by rw [HSA.out], show sb.data.toList = b.t from by rw [HSB.out], ← HQ.out]
  obtain ⟨B, hB⟩ : ∃ B, B = decide (q ≠ 0 ∧ (a.t = [] ∨ b.t = [])) := ⟨_, rfl⟩
  have HB := Lib.hid hB
  clear hB
  go_upto_region 2 with fail
  go_cut [22] (fun v wx => wx = w2 ∧ v = .bool B)
  case first =>
    by_cases h0 : q = 0
    · have hn : Hid (B = false) := Lib.hid (by rw [HB.out, h0]; simp)
      subst h0
      clear ea eb hq1
      go_wp2_with fail
      go_meet
      exact ⟨rfl, by rw [hn.out]⟩
    · have hq0 : (q != 0) = true := by simpa using h0
      by_cases ta : a.t = []
      · have ea' : sa.toList = [] := by rw [ea, ta]
        have hn : Hid (B = true) := Lib.hid (by rw [HB.out]; simp [h0, ta])
        clear ea eb ta
        go_wp2_with fail
        go_meet
        exact ⟨rfl, by rw [hn.out]⟩
      · have ea' : ¬ sa.toList = [] := by rw [ea]; exact ta
        have ea2 : sa.toList.isEmpty = false := by simpa using ea'
        by_cases tb : b.t = []
        · have eb' : sb.toList = [] := by rw [eb, tb]
          have hn : Hid (B = true) := Lib.hid (by rw [HB.out]; simp [h0, tb])
          clear ea eb ta tb
          go_wp2_with fail
          go_meet
          exact ⟨rfl, by rw [hn.out]⟩
        · have eb' : ¬ sb.toList = [] := by rw [eb]; exact tb
          have eb2 : sb.toList.isEmpty = false := by simpa using eb'
          have hn : Hid (B = false) := Lib.hid (by rw [HB.out]; simp [ta, tb])
          clear ea eb ta tb
          go_wp2_with fail
          go_meet
          exact ⟨rfl, by rw [hn.out]⟩
  case rest =>
  obtain ⟨rfl, rfl⟩ := hcut
  clear ea eb c1 c2
  go_upto_if 22 with fail
  go_cut [5] (fun v wx => wx = wc ∧ v = .int .i64 NT)
  case first =>
    cases hb : B
    · have hn : Hid (NT = q) := Lib.hid (by
        have := HB.out
        rw [hb] at this
        rw [HNT.out, HT.out, if_neg (of_decide_eq_false this.symm)])
      go_wp2_with fail
      go_meet
      exact ⟨rfl, by rw [hn.out]⟩
    · have hn : Hid (NT = -q) := Lib.hid (by
        have := HB.out
        rw [hb] at this
        rw [HNT.out, HT.out, if_pos (of_decide_eq_true this.symm)])
      go_wp2_with fail
      go_meet
      exact ⟨rfl, by rw [hn.out]⟩
  case rest =>
    have hbw : w.heap.size ≤ w1.heap.size := HB1.out.size
    have HBW : Hid (Below w.heap.size w wc) := Lib.hid (by rw [hcut.1]; exact HB1.out.trans (HB2.out.mono hbw))
    have HDR : Hid (w.drawn ≤ wc.drawn) := Lib.hid (by rw [hcut.1, HW2.out, HW1.out]; exact Nat.le_refl _)
    obtain ⟨rfl, rfl⟩ := hcut
    clear hq1 hbw
    obtain ⟨wd, hwd⟩ : ∃ wd, wd = wc.drew := ⟨_, rfl⟩
    have hbd : Below wc.heap.size wc wd := by rw [hwd]; exact (Below.refl _ _).drew
    have HBA := Lib.hid (HBA.out.below' hbd)
    have HBB := Lib.hid (HBB.out.below' hbd)
    have HBD := Lib.hid (HBW.out.trans (hbd.mono HBW.out.size))
    have HDD : Hid (w.drawn ≤ wd.drawn) := Lib.hid (by rw [hwd]; exact Nat.le_succ_of_le HDR.out)
    clear hbd
    go_upto_region 4 with fail
    try simp only [Act.put, List.setIfInBounds_toArray, List.set_cons_zero, List.set_cons_succ]
    obtain ⟨Inv, hInv⟩ : ∃ Inv : Done → World → Prop, Inv = Chain2 11 12 (fun wI => wI = wd) (fun x wI => x = .slice (some ⟨wd.heap.size, 0, none⟩) 3 3 ∧ wI = wd.alloc (.cells #[.int .i64 NL, .int .i64 NT, .int .i64 NC] 3)) (fun x y wI => y = .int .i64 (orL [NL, NT, NC]) ∧ Below wd.heap.size wd wI ∧ wd.drawn ≤ wI.drawn) := ⟨_, rfl⟩
    have HI := Lib.hid hInv
    have hcz : Hid (∀ τ wI, Inv τ wI → τ 12 = none → wI.cell? ⟨ga, 4, none⟩ = some (.int .i64 a.c) ∧ wI.cell? ⟨gb, 4, none⟩ = some (.int .i64 b.c) ∧ ga < wI.heap.size ∧ gb < wI.heap.size ∧ Hid (Blk wI ga 38 a.cells) ∧ Hid (Blk wI gb 38 b.cells)) := by
      intro τ wI h h9
      rw [hInv] at h
      have key : ∀ wI, Below wd.heap.size wd wI → wI.cell? ⟨ga, 4, none⟩ = some (.int .i64 a.c) ∧ wI.cell? ⟨gb, 4, none⟩ = some (.int .i64 b.c) ∧ ga < wI.heap.size ∧ gb < wI.heap.size ∧ Hid (Blk wI ga 38 a.cells) ∧ Hid (Blk wI gb 38 b.cells) := by
        intro wI hb
        have h1 := HBA.out.below' hb
        have h2 := HBB.out.below' hb
        exact ⟨by rw [h1.cell, Ver.cells_c HA4.out], by rw [h2.cell, Ver.cells_c HB4.out], h1.lt, h2.lt, Lib.hid h1, Lib.hid h2⟩
      rcases h.upto1 h9 with rfl | ⟨x, _, rfl⟩
      · exact key _ (Below.refl _ _)
      · exact key _ ((Below.refl _ _).alloc (Nat.le_refl _) _)
    have H00 : Hid (Inv Done.none wc.drew) := by rw [hInv]; exact Chain2.start hwd.symm
    clear hInv hwd
    refine wp_region_inv (by kernel_rfl) [⟨0, false, [], [11, 12]⟩, ⟨1, false, [], [11, 12]⟩, ⟨2, false, [], [11, 12]⟩, ⟨3, false, [], [11, 12]⟩, ⟨4, false, [], [11, 12]⟩, ⟨5, false, [], [11, 12]⟩, ⟨6, false, [], [11, 12]⟩, ⟨7, false, [], [11, 12]⟩, ⟨8, false, [], [11, 12]⟩, ⟨9, false, [], [11, 12]⟩, ⟨10, false, [], [11, 12]⟩, ⟨11, true, [], [12]⟩, ⟨12, true, [11], []⟩, ⟨13, false, [11, 12], []⟩] (by kernel_rfl) Inv (fun i v => i = 12 → ∃ n : Int, v = .int .i64 n) (fun _ => ⟨.int .i64 0, fun _ => ⟨0, rfl⟩⟩) H00.out ?_
    iterate 4 (apply WpI.pure; (simp only [List.getElem?_toArray, List.getElem?_cons_succ, List.getElem?_cons_zero]; rfl); (intro τ wI hA hI; obtain ⟨f0, f1, f2, f3, f4, f5⟩ := hcz.out τ wI hI (hA.2 12 (by decide)); go_simp; exact ⟨hI, Is.rfl'⟩); simp only [Act.put, List.setIfInBounds_toArray, List.set_cons_zero, List.set_cons_succ])
    (apply WpI.pure; (simp only [List.getElem?_toArray, List.getElem?_cons_succ, List.getElem?_cons_zero]; rfl); (intro τ wI hA hI; obtain ⟨f0, f1, f2, f3, f4, f5⟩ := hcz.out τ wI hI (hA.2 12 (by decide)); have HX := Lib.hid hI; clear hI hA; go_simp; refine (compareInts_ok ga 0 gb 0 a.ns b.ns 4 4 4 wI HA4.out HB4.out (by decide) (by decide) (by decide) (fun i x hx => by rw [Nat.zero_add, f4.out.cell]; exact Ver.cells_n hx) (fun i x hx => by rw [Nat.zero_add, f5.out.cell]; exact Ver.cells_n hx)).mono ?_; rintro e w' ⟨rfl, rfl⟩; rw [← HNL.out]; exact ⟨_, rfl, HX.out, Is.rfl'⟩); simp only [Act.put, List.setIfInBounds_toArray, List.set_cons_zero, List.set_cons_succ])
    iterate 5 (apply WpI.pure; (simp only [List.getElem?_toArray, List.getElem?_cons_succ, List.getElem?_cons_zero]; rfl); (intro τ wI hA hI; obtain ⟨f0, f1, f2, f3, f4, f5⟩ := hcz.out τ wI hI (hA.2 12 (by decide)); go_simp; exact ⟨hI, Is.rfl'⟩); simp only [Act.put, List.setIfInBounds_toArray, List.set_cons_zero, List.set_cons_succ])
    (apply WpI.pure; (simp only [List.getElem?_toArray, List.getElem?_cons_succ, List.getElem?_cons_zero]; rfl); (intro τ wI hA hI; obtain ⟨f0, f1, f2, f3, f4, f5⟩ := hcz.out τ wI hI (hA.2 12 (by decide)); have HX := Lib.hid hI; clear hI hA; go_simp; refine (cmpInt_ok a.c b.c wI).mono ?_; rintro e w' ⟨rfl, rfl⟩; rw [← HNC.out]; exact ⟨_, rfl, HX.out, Is.rfl'⟩); simp only [Act.put, List.setIfInBounds_toArray, List.set_cons_zero, List.set_cons_succ])
    apply WpI.effect; (simp only [List.getElem?_toArray, List.getElem?_cons_succ, List.getElem?_cons_zero]; rfl)
    · intro τ wI hA hn hI
      have h0 := hI
      rw [HI.out] at h0
      have h12 : τ 12 = none := hA.2 12 (by decide)
      have hK := h0.at0 hn h12
      have HT := Lib.hid (And.intro True.intro (And.intro h12 (True.intro)))
      clear hA hn hI h0 h12
      subst hK
      go_simp
      rw [HI.out]
      exact Chain2.put1 HT.out.2.1 (by decide) ⟨rfl, rfl⟩
    intro v11 hv11
    simp only [Act.put, List.setIfInBounds_toArray, List.set_cons_zero, List.set_cons_succ]
    clear hv11
    apply WpI.effect; (simp only [List.getElem?_toArray, List.getElem?_cons_succ, List.getElem?_cons_zero]; rfl)
    · intro τ wI hA hn hI
      have h0 := hI
      rw [HI.out] at h0
      have h11 : τ 11 = some v11 := hA.1 11 (by decide)
      have hK := h0.at1 h11 hn
      have HT := Lib.hid (And.intro True.intro (And.intro h11 (True.intro)))
      clear hA hn hI h0 h11
      obtain ⟨rfl, rfl⟩ := hK
      go_simp
      refine (or_ok wd.heap.size 0 [NL, NT, NC] 3 _ (by simp) (by simp) (fun i x hx => ?_)).mono ?_
      · have hb := Blk.new wd 3 #[.int .i64 NL, .int .i64 NT, .int .i64 NC]
        rw [Nat.zero_add, hb.cell]
        exact ints_get (l := [NL, NT, NC]) hx
      · rintro e w' ⟨rfl, rfl⟩
        refine ⟨_, rfl, ⟨_, rfl⟩, ?_⟩
        rw [HI.out]
        exact Chain2.put2 HT.out.2.1 (by decide) ⟨rfl, (Below.refl _ _).alloc (Nat.le_refl _) _, Nat.le_refl _⟩
    intro v12 hv12
    simp only [Act.put, List.setIfInBounds_toArray, List.set_cons_zero, List.set_cons_succ]
    obtain ⟨n12, rfl⟩ := hv12 rfl
    (apply WpI.pure; (simp only [List.getElem?_toArray, List.getElem?_cons_succ, List.getElem?_cons_zero]; rfl); (intro τ wI hA hI; go_simp; exact ⟨hI, Is.rfl'⟩); simp only [Act.put, List.setIfInBounds_toArray, List.set_cons_zero, List.set_cons_succ])
    refine WpI.done ?_
    intro w5 hI
    rw [HI.out] at hI
    have hE := hI.end_ (by decide)
    obtain ⟨e12, hb5, hd5⟩ := hE
    have HD5 := Lib.hid (Nat.le_trans HDD.out hd5)
    have HE := Lib.hid (HBD.out.trans (hb5.mono HBD.out.size))
    have e13 : n12 = orL [NL, NT, NC] := by injection e12
    rw [e13]
    clear e12 e13 hb5 hd5 hI hcz H00 HI
    go_wp2_with fail
    go_ret
    exact ⟨rfl, HE.out, HD5.out⟩
theorem compare_ok (a b : Ver) (ha : a.Ok) (hb : b.Ok) (w : World) : Calls Tryz.prog 51 #[a.val, b.val] w fun e w' => e = .returned (.int .i64 (a.cmp b)) ∧ Below w.heap.size w w' := (compare_g a b ha hb w).mono fun _ _ h => ⟨h.1, h.2.1⟩

set_option maxRecDepth 100000 in
set_option maxHeartbeats 1000000 in
theorem refCompare_ok (a b : Ver) (ha : a.Ok) (hb : b.Ok) (w : World) : Calls Tryz.prog 52 #[a.val, b.val] w fun e w' => e = .returned (.int .i64 (a.cmp b)) ∧ Below w.heap.size w w' := by
  obtain ⟨w1, hw1⟩ : ∃ w1, w1 = w.alloc (.cells a.cells.toArray 37) := ⟨_, rfl⟩
  obtain ⟨w2, hw2⟩ : ∃ w2, w2 = w1.alloc (.cells b.cells.toArray 37) := ⟨_, rfl⟩
  obtain ⟨ga, hga⟩ : ∃ ga, ga = w.heap.size := ⟨_, rfl⟩
  obtain ⟨gb, hgb⟩ : ∃ gb, gb = ga + 1 := ⟨_, rfl⟩
  have hgb1 : gb = w1.heap.size := by rw [hgb, hga, hw1]; simp
  have HB1 : Hid (Below w.heap.size w w1) := Lib.hid (by rw [hw1]; exact (Below.refl _ _).alloc (Nat.le_refl _) _)
  have HB2 : Hid (Below w1.heap.size w1 w2) := Lib.hid (by rw [hw2]; exact (Below.refl _ _).alloc (Nat.le_refl _) _)
  have b1 : Blk w1 ga 37 a.cells := by rw [hw1, hga]; exact Blk.new _ _ a.cells.toArray
  have b2 : Blk w2 ga 37 a.cells := b1.below' HB2.out
  have b3 : Blk w2 gb 37 b.cells := by rw [hw2, hgb1]; exact Blk.new _ _ b.cells.toArray
  have HBA := Lib.hid b2
  have HBB := Lib.hid b3
  have HB0 : Hid (Below w.heap.size w w2) := Lib.hid (HB1.out.trans (HB2.out.mono HB1.out.size))
  have HA4 : Hid (a.ns.length = 4) := Lib.hid ha
  have HB4 : Hid (b.ns.length = 4) := Lib.hid hb
  have HW1 := Lib.hid hw1
  have HW2 := Lib.hid hw2
  have HGA := Lib.hid hga
  have HGB := Lib.hid hgb
  obtain ⟨sa, hsa⟩ : ∃ sa, sa = bl a.t := ⟨_, rfl⟩
  obtain ⟨sb, hsb⟩ : ∃ sb, sb = bl b.t := ⟨_, rfl⟩
  have HSA := Lib.hid hsa
  have HSB := Lib.hid hsb
  obtain ⟨RES, hRES⟩ : ∃ RES, RES = a.cmp b := ⟨_, rfl⟩
  have HRES := Lib.hid hRES
  rw [← hRES]
  clear hw1 hw2 hga hgb hgb1 b1 b2 b3 ha hb hsa hsb HB1 HB2 hRES
  unfold Ver.val
  go_enter Tryz.func52, Tryz.ntmps52
  go_wp2_with fail
  rw [← HW1.out, ← HW2.out, ← HGA.out, ← HGB.out]
  go_loopg [5] 4 (fun kq iv wr => ∃ i : Nat, iv = .int .i64 i ∧ i ≤ 4 ∧ kq = 4 - i ∧ Hid (Below w2.heap.size w2 wr) ∧ Hid (cmpL (a.ns.drop i) (b.ns.drop i) = cmpL a.ns b.ns))
  case atStart => exact ⟨0, rfl, by omega, rfl, Lib.hid (Below.refl _ _), Lib.hid rfl⟩
  case round =>
    obtain ⟨i, rfl, hi, rfl, HBR, HP⟩ := hrel
    by_cases hlt : i < 4
    · obtain ⟨x, hx⟩ : ∃ x, a.ns[i]? = some x := ⟨_, List.getElem?_eq_getElem (by rw [HA4.out]; exact hlt)⟩
      obtain ⟨y, hy⟩ : ∃ y, b.ns[i]? = some y := ⟨_, List.getElem?_eq_getElem (by rw [HB4.out]; exact hlt)⟩
      have HK := Lib.hid (cmpL_drop hx hy)
      obtain ⟨wd, hwd⟩ : ∃ wd, wd = wr.drew := ⟨_, rfl⟩
      have hbd : Below wr.heap.size wr wd := by rw [hwd]; exact (Below.refl _ _).drew
      have HBD : Hid (Below w2.heap.size w2 wd) := Lib.hid (HBR.out.trans (hbd.mono HBR.out.size))
      have HIL : Hid ((i : Int) < 4) := Lib.hid (by omega)
      have HCX : Hid (wd.cell? ⟨ga, i, none⟩ = some (.int .i64 x) ∧ wd.cell? ⟨gb, i, none⟩ = some (.int .i64 y) ∧ ga < wd.heap.size ∧ gb < wd.heap.size) := Lib.hid (by
        have h1 := HBA.out.below' HBD.out
        have h2 := HBB.out.below' HBD.out
        exact ⟨by rw [h1.cell, Ver.cells_n hx], by rw [h2.cell, Ver.cells_n hy], h1.lt, h2.lt⟩)
      have HX0 := Lib.hid hx
      have HY0 := Lib.hid hy
      clear hx hy hbd
      go_upto_region 4 with fail
      try simp only [Act.put, List.setIfInBounds_toArray, List.set_cons_zero, List.set_cons_succ]
      obtain ⟨Inv, hInv⟩ : ∃ Inv : Done → World → Prop, Inv = fun _ wI => (fun wI => wI = wd) wI := ⟨_, rfl⟩
      have HI := Lib.hid hInv
      have hcz : Hid (∀ τ wI, Inv τ wI → wI = wd) := by
        intro τ wI h
        rw [hInv] at h
        exact h
      have H00 : Hid (Inv Done.none wr.drew) := by rw [hInv]; exact hwd.symm
      clear hInv hwd
      refine wp_region_inv (by kernel_rfl) [⟨0, false, [], []⟩, ⟨1, false, [], []⟩, ⟨2, false, [], []⟩, ⟨3, false, [], []⟩, ⟨4, false, [], []⟩, ⟨5, false, [], []⟩, ⟨6, false, [], []⟩, ⟨7, false, [], []⟩, ⟨8, false, [], []⟩] (by kernel_rfl) Inv (fun _ _ => True) (fun _ => ⟨undef, trivial⟩) H00.out ?_
      iterate 9 (apply WpI.pure; (simp only [List.getElem?_toArray, List.getElem?_cons_succ, List.getElem?_cons_zero]; rfl); (intro τ wI hA hI; have f0 := hcz.out τ wI hI; have e1 := f0; clear f0; subst e1; have k1 := HCX.out.1; have k2 := HCX.out.2.1; have k3 := HCX.out.2.2.1; have k4 := HCX.out.2.2.2; have k5 := HIL.out; go_simp; exact ⟨hI, Is.rfl'⟩); simp only [Act.put, List.setIfInBounds_toArray, List.set_cons_zero, List.set_cons_succ])
      refine WpI.done ?_
      intro w5 hI
      rw [HI.out] at hI
      have hE := hI
      obtain rfl := hE
      clear hI hcz H00 HI HBR
      by_cases hxy : x = y
      · subst hxy
        have hne : (x != x) = false := bne_self_eq_false _
        have hp : Hid (cmpL (a.ns.drop (i + 1)) (b.ns.drop (i + 1)) = cmpL a.ns b.ns) := Lib.hid (by rw [← HP.out, HK.out, if_pos (cmpI_3.self x)])
        clear HP HK HCX
        go_wp2_with fail
        go_roundg (4 - (i + 1))
        case measure => omega
        case rel => exact ⟨i + 1, by go_num, by omega, rfl, HBD, hp⟩
      · have hne : (x != y) = true := by simpa using hxy
        have hsg : cmpI x y = if decide (x < y) then -1 else if true then 1 else 0 := by
          unfold cmpI
          by_cases h : x < y
          · simp [h]
          · rw [if_neg h, if_pos (by omega)]; simp [h]
        have HR : Hid (RES = cmpI x y) := Lib.hid (by
          rw [HRES.out]
          unfold Ver.cmp
          have h1 : cmpL a.ns b.ns = cmpI x y := by rw [← HP.out, HK.out, if_neg (fun e => hxy ((cmpI_3.eq _ _).1 e))]
          rw [h1, if_neg (fun e => hxy ((cmpI_3.eq _ _).1 e))])
        have HSG : Hid ((if decide (x < y) = true then (-1 : Int) else if true = true then 1 else 0) = RES) := Lib.hid (by rw [HR.out, hsg])
        obtain ⟨wd, hwd5⟩ : ∃ wd, wd = w5.drew := ⟨_, rfl⟩
        have hbd : Below w5.heap.size w5 wd := by rw [hwd5]; exact (Below.refl _ _).drew
        have HBE : Hid (Below w2.heap.size w2 wd) := Lib.hid (HBD.out.trans (hbd.mono HBD.out.size))
        have HCX : Hid (wd.cell? ⟨ga, i, none⟩ = some (.int .i64 x) ∧ wd.cell? ⟨gb, i, none⟩ = some (.int .i64 y) ∧ ga < wd.heap.size ∧ gb < wd.heap.size) := Lib.hid (by
          have h1 := HBA.out.below' HBE.out
          have h2 := HBB.out.below' HBE.out
          exact ⟨by rw [h1.cell, Ver.cells_n HX0.out], by rw [h2.cell, Ver.cells_n HY0.out], h1.lt, h2.lt⟩)
        clear HP HK hsg HR hbd HX0 HY0
        go_upto_region 5 with fail
        try simp only [Act.put, List.setIfInBounds_toArray, List.set_cons_zero, List.set_cons_succ]
        obtain ⟨Inv, hInv⟩ : ∃ Inv : Done → World → Prop, Inv = fun _ wI => (fun wI => wI = wd) wI := ⟨_, rfl⟩
        have HI := Lib.hid hInv
        have hcz : Hid (∀ τ wI, Inv τ wI → wI = wd) := by
          intro τ wI h
          rw [hInv] at h
          exact h
        have H00 : Hid (Inv Done.none w5.drew) := by rw [hInv]; exact hwd5.symm
        clear hInv hwd5
        refine wp_region_inv (by kernel_rfl) [⟨0, false, [], []⟩, ⟨1, false, [], []⟩, ⟨2, false, [], []⟩, ⟨3, false, [], []⟩, ⟨4, false, [], []⟩, ⟨5, false, [], []⟩, ⟨6, false, [], []⟩, ⟨7, false, [], []⟩, ⟨8, false, [], []⟩, ⟨9, false, [], []⟩, ⟨10, false, [], []⟩] (by kernel_rfl) Inv (fun _ _ => True) (fun _ => ⟨undef, trivial⟩) H00.out ?_
        iterate 9 (apply WpI.pure; (simp only [List.getElem?_toArray, List.getElem?_cons_succ, List.getElem?_cons_zero]; rfl); (intro τ wI hA hI; have f0 := hcz.out τ wI hI; have e1 := f0; clear f0; subst e1; have k1 := HCX.out.1; have k2 := HCX.out.2.1; have k3 := HCX.out.2.2.1; have k4 := HCX.out.2.2.2; have k5 := HIL.out; go_simp; exact ⟨hI, Is.rfl'⟩); simp only [Act.put, List.setIfInBounds_toArray, List.set_cons_zero, List.set_cons_succ])
        (apply WpI.pure; (simp only [List.getElem?_toArray, List.getElem?_cons_succ, List.getElem?_cons_zero]; rfl); (intro τ wI hA hI; have f0 := hcz.out τ wI hI; have e1 := f0; clear f0; subst e1; have HX := Lib.hid hI; clear hI hA; go_simp; refine (sign_ok (decide (x < y)) true wI).mono ?_; rintro e w' ⟨rfl, rfl⟩; rw [HSG.out]; exact ⟨_, rfl, HX.out, Is.rfl'⟩); simp only [Act.put, List.setIfInBounds_toArray, List.set_cons_zero, List.set_cons_succ])
        (apply WpI.pure; (simp only [List.getElem?_toArray, List.getElem?_cons_succ, List.getElem?_cons_zero]; rfl); (intro τ wI hA hI; have f0 := hcz.out τ wI hI; have e1 := f0; clear f0; subst e1; have k1 := HCX.out.1; have k2 := HCX.out.2.1; have k3 := HCX.out.2.2.1; have k4 := HCX.out.2.2.2; have k5 := HIL.out; go_simp; exact ⟨hI, Is.rfl'⟩); simp only [Act.put, List.setIfInBounds_toArray, List.set_cons_zero, List.set_cons_succ])
        refine WpI.done ?_
        intro w6 hI
        rw [HI.out] at hI
        have hE := hI
        obtain rfl := hE
        clear hI hcz H00 HI
        have HE := Lib.hid (HB0.out.trans (HBE.out.mono HB0.out.size))
        go_wp2_with fail
        go_ret
        exact ⟨rfl, HE.out⟩
    · obtain rfl : i = 4 := by omega
      have HL0 : Hid (cmpL a.ns b.ns = 0) := Lib.hid (by rw [← HP.out, ← HA4.out, List.drop_length]; rfl)
      have HE := Lib.hid (HB0.out.trans (HBR.out.mono HB0.out.size))
      have b2 := HBA.out.below' HBR.out
      have b3 := HBB.out.below' HBR.out
      have c1 : wr.cell? ⟨ga, 5, none⟩ = some (.string sa) := by rw [b2.cell, Ver.cells_t HA4.out, HSA.out]
      have c2 : wr.cell? ⟨gb, 5, none⟩ = some (.string sb) := by rw [b3.cell, Ver.cells_t HB4.out, HSB.out]
      have c3 : wr.cell? ⟨ga, 4, none⟩ = some (.int .i64 a.c) := by rw [b2.cell, Ver.cells_c HA4.out]
      have c4 : wr.cell? ⟨gb, 4, none⟩ = some (.int .i64 b.c) := by rw [b3.cell, Ver.cells_c HB4.out]
      have l1 := b2.lt
      have l2 := b3.lt
      have ea : sa.toList = a.t := by rw [HSA.out, bl_toList]
      have eb : sb.toList = b.t := by rw [HSB.out, bl_toList]
      have HRT : Hid (RES = if cmpT a.t b.t = 0 then cmpI a.c b.c else cmpT a.t b.t) := Lib.hid (by rw [HRES.out]; unfold Ver.cmp; rw [if_pos HL0.out])
      clear HP HBR b2 b3 HL0
      by_cases hst : sa = sb
      · subst hst
        have htt : a.t = b.t := by rw [← ea, ← eb]
        have hR : RES = cmpI a.c b.c := by rw [HRT.out, if_pos ((cmpT_3.eq _ _).2 htt)]
        have HR := Lib.hid hR
        have e1 : (sa.toList == sa.toList) = true := beq_self_eq_true _
        clear ea eb htt hR HRT
        go_wp2_with fail
        refine (sign_ok _ _ _).mono ?_
        rintro e w' ⟨rfl, rfl⟩
        have HV : Hid ((if decide (a.c < b.c) = true then (-1 : Int) else if decide (b.c < a.c) = true then 1 else 0) = RES) := Lib.hid (by
          rw [HR.out]; unfold cmpI
          by_cases h : a.c < b.c
          · simp [h]
          · by_cases h2 : b.c < a.c
            · simp [h, h2]
            · simp [h, h2])
        rw [HV.out]
        go_wp2_with fail
        go_ret
        exact ⟨rfl, HE.out⟩
      · have hne0 : a.t ≠ b.t := fun h => hst (by rw [HSA.out, HSB.out, h])
        have hst1 : sa.toList ≠ sb.toList := by rw [ea, eb]; exact hne0
        have hne : (sa.toList == sb.toList) = false := beq_eq_false_iff_ne.2 hst1
        rcases cmpT_form a.t b.t with ⟨e, _⟩ | ⟨e1, e2, h⟩ | ⟨e1, e2, h⟩ | ⟨_, e1, e2, h⟩
        · exact absurd e hne0
        · have HR : Hid (RES = 1) := Lib.hid (by rw [HRT.out, h]; rfl)
          have k1 : sa.toList = [] := by rw [ea, e1]
          have k2 : ¬ sb.toList = [] := by rw [eb]; exact e2
          have k3 : sb.toList.isEmpty = false := by simpa using k2
          have k4 : ([] == sb.toList) = false := by rw [← k1]; exact hne
          clear ea eb hne0 hst1 hst e1 e2 h HRT hne
          go_wp2_with fail
          refine (sign_ok _ _ _).mono ?_
          rintro e w' ⟨rfl, rfl⟩
          go_wp2_with fail
          go_ret
          exact ⟨by rw [HR.out]; rfl, HE.out⟩
        · have HR : Hid (RES = -1) := Lib.hid (by rw [HRT.out, h]; rfl)
          have k1 : ¬ sa.toList = [] := by rw [ea]; exact e1
          have k2 : sb.toList = [] := by rw [eb, e2]
          have k3 : sa.toList.isEmpty = false := by simpa using k1
          have k4 : (sa.toList == []) = false := by rw [← k2]; exact hne
          clear ea eb hne0 hst1 hst e1 e2 h HRT hne
          go_wp2_with fail
          refine (sign_ok _ _ _).mono ?_
          rintro e w' ⟨rfl, rfl⟩
          go_wp2_with fail
          go_ret
          exact ⟨by rw [HR.out]; rfl, HE.out⟩
        · have hq := compareBytes_one a.t b.t
          have hq0 : Lib.compareBytes a.t b.t ≠ 0 := fun e => hne0 ((compareBytes_eq _ _).1 e)
          have HR : Hid (RES = Lib.compareBytes a.t b.t) := Lib.hid (by rw [HRT.out, h, if_neg hq0])
          have hlt : Op.bytesLess sa.toList sb.toList = decide (Lib.compareBytes a.t b.t < 0) := by rw [bytesLess_eq, ea, eb]
          have HV : Hid ((if decide (Lib.compareBytes a.t b.t < 0) = true then (-1 : Int) else if true = true then 1 else 0) = RES) := Lib.hid (by
            rw [HR.out]
            rcases hq with e | e | e
            · rw [e]; rfl
            · exact absurd e hq0
            · rw [e]; rfl)
          have k1 : ¬ sa.toList = [] := by rw [ea]; exact e1
          have k2 : ¬ sb.toList = [] := by rw [eb]; exact e2
          have k3 : sa.toList.isEmpty = false := by simpa using k1
          have k5 : sb.toList.isEmpty = false := by simpa using k2
          obtain ⟨B, hB⟩ : ∃ B, B = decide (Lib.compareBytes a.t b.t < 0) := ⟨_, rfl⟩
          rw [← hB] at hlt HV
          clear ea eb hne0 hst1 hst e1 e2 h HRT hq hq0 HR hB
          go_wp2_with fail
          refine (sign_ok _ _ _).mono ?_
          rintro e w' ⟨rfl, rfl⟩
          have hv : (if B = true then (-1 : Int) else if true = true then 1 else 0) = RES := by have := HV.out; simpa using this
          rw [hv]
          clear hv
          go_wp2_with fail
          go_ret
          exact ⟨rfl, HE.out⟩
end Go.Proofs.YteeijjhgdplifaaGreatDoor
