/- VersionOrders: the walk. -/
import Derived.Test.YteeijjhgdplifaaDoorY2
namespace Go.Proofs.YteeijjhgdplifaaDoor
open Go.RowKit

set_option maxRecDepth 100000 in
set_option maxHeartbeats 8000000 in
theorem versionOrders_walk (a b : Ver) (ha : a.Ok) (hb : b.Ok) (X : List (List UInt8)) (n : Nat) (hn : X.length = n) (hsh : n ≤ 200 → Short X) (F : Nat → Prop) (A0 : Option Addr) (c0 : Nat) (w : World) (hg : GV w) (hs : Sl w F 1 (.slice A0 n c0) n (strsL X)) :
    Calls Tryd.prog 7 #[a.val, b.val, .slice A0 n c0] w fun e w' => e = .returned (.bool true) ∧ Below w.heap.size w w' := by
  obtain ⟨w1, hw1⟩ : ∃ w1, w1 = w.alloc (.cells a.cells.toArray 24) := ⟨_, rfl⟩
  obtain ⟨w2, hw2⟩ : ∃ w2, w2 = w1.alloc (.cells b.cells.toArray 24) := ⟨_, rfl⟩
  obtain ⟨ga, hga⟩ : ∃ ga, ga = w.heap.size := ⟨_, rfl⟩
  obtain ⟨gb, hgb⟩ : ∃ gb, gb = ga + 1 := ⟨_, rfl⟩
  have hb1 : Below w.heap.size w w1 := by rw [hw1]; exact (Below.refl _ _).alloc (Nat.le_refl _) _
  have hb2 : Below w1.heap.size w1 w2 := by rw [hw2]; exact (Below.refl _ _).alloc (Nat.le_refl _) _
  have k1 : Blk w1 ga 24 a.cells := by rw [hw1, hga]; exact Blk.new _ _ a.cells.toArray
  have k2 : Blk w2 gb 24 b.cells := by
    have e : gb = w1.heap.size := by rw [hgb, hga, hw1]; simp
    rw [hw2, e]; exact Blk.new _ _ b.cells.toArray
  have hb12 : Below w.heap.size w w2 := hb1.trans (hb2.mono hb1.size)
  have HA := Lib.hid ha
  have HBo := Lib.hid hb
  have HKA := Lib.hid (k1.below' hb2)
  have HKB := Lib.hid k2
  have HB2 := Lib.hid hb12
  have HW1 := Lib.hid hw1
  have HW2 := Lib.hid hw2
  have HGA := Lib.hid hga
  have HGB := Lib.hid hgb
  rw [show a.val = .agg a.cells.toArray from rfl, show b.val = .agg b.cells.toArray from rfl]
  by_cases hbig : 200 < n
  · have hbI : (200 : Int) < (n : Int) := by omega
    clear ha hb hn hsh hg hs hw1 hw2 hga hgb hb1 hb2 k1 k2 hb12
    go_enter Tryd.func7, Tryd.ntmps7
    go_upto_region 1 with fail
    rw [← HW1.out, ← HW2.out]
    go_wp2_with fail
    go_ret
    exact ⟨rfl, HB2.out⟩
  have hbI : ¬ (200 : Int) < (n : Int) := by omega
  have hn200 : n ≤ 200 := by omega
  have hSX : Short X := hsh hn200
  obtain ⟨A1, c1, w3, hap1, hl1, hb3⟩ := copy_strs hn (by omega) (hs.below (by decide) hb12)
  have hl1s := hl1.sl
  rw [hn] at hl1s
  have hb13 := hb12.trans (hb3.mono hb12.size)
  have HSORT := Lib.hid (vsort_ok X n hn hSX (by omega) _ A1 c1 w3 (hg.below hb13) hl1s)
  have HREF : Hid (∀ wx, Below w3.heap.size w3 wx → Calls Tryd.prog 27 #[.slice A0 n c0] wx fun e w' => ∃ A c, e = .returned (.slice A n c) ∧ LS w' wx.heap.size A c (vsort X) ∧ Below wx.heap.size wx w') := Lib.hid (fun wx hbx => refSort_ok X n hn hSX (by omega) F A0 c0 wx (((hs.below (by decide) hb12).below (by decide) hb3).below (by decide) hbx))
  have HAP1 := Lib.hid hap1
  have HSL0 := Lib.hid ((hs.below (by decide) hb12).below (by decide) hb3)
  have HSL1 := Lib.hid hl1s
  have HKA3 := Lib.hid (HKA.out.below' hb3)
  have HKB3 := Lib.hid (HKB.out.below' hb3)
  have HB3 := Lib.hid hb13
  have HN := Lib.hid hn
  clear ha hb hn hsh hg hs hw1 hw2 hga hgb hb1 hb2 k1 k2 hb12 hbig hSX hap1 hl1 hl1s hb3 hb13
  go_enter Tryd.func7, Tryd.ntmps7
  go_upto_region 1 with fail
  rw [← HW1.out, ← HW2.out, ← HGA.out, ← HGB.out]
  go_wp2_with (at_builtin; refine wpList_app_run _ rfl (.tmp 14) (.tmp 15) 54 54 rfl _ _ rfl rfl _ _ HAP1.out ?_)
  refine (HSORT.out).mono ?_
  rintro e w4 hpost
  obtain ⟨A2, c2, rfl, hl4, hb4⟩ := hpost
  have HL4 := Lib.hid hl4
  have HB4 := Lib.hid hb4
  clear hl4 hb4 HSORT HAP1
  go_wp2_with fail
  refine (HREF.out w4 HB4.out).mono ?_
  rintro e wB hpost
  obtain ⟨A3, c3, rfl, hl5, hb5⟩ := hpost
  obtain ⟨Y, hY⟩ : ∃ Y, Y = vsort X := ⟨_, rfl⟩
  have hYn : Y.length = n := by rw [hY, vsort_length]; exact HN.out
  have hb35 : Below w3.heap.size w3 wB := HB4.out.trans (hb5.mono HB4.out.size)
  have hs4 := (HL4.out.below hb5).sl
  have hs5 := hl5.sl
  rw [← hY, hYn] at hs4 hs5
  have HS4 := Lib.hid hs4
  have HS5 := Lib.hid hs5
  have HS0 := Lib.hid (HSL0.out.below (by decide) hb35)
  have HS1 := Lib.hid (HSL1.out.below (by decide) hb35)
  have HYN := Lib.hid hYn
  have HKA5 := Lib.hid (HKA3.out.below' hb35)
  have HKB5 := Lib.hid (HKB3.out.below' hb35)
  have HBB : Hid (Below w.heap.size w wB) := Lib.hid (HB3.out.trans (hb35.mono HB3.out.size))
  obtain ⟨wd, hwd⟩ : ∃ wd, wd = wB.drew := ⟨_, rfl⟩
  have hbd : Below wB.heap.size wB wd := by rw [hwd]; exact (Below.refl _ _).drew
  have HLX : Hid (∀ wx, Below wd.heap.size wd wx → Hid ((loadVar 24 ⟨ga, 0, none⟩).run Tryd.prog wx = .ok a.val wx) ∧ Hid ((loadVar 24 ⟨gb, 0, none⟩).run Tryd.prog wx = .ok b.val wx)) :=
    Lib.hid (fun wx h => ⟨Lib.hid (vload ((HKA5.out.below' hbd).below' h) HA.out), Lib.hid (vload ((HKB5.out.below' hbd).below' h) HBo.out)⟩)
  have HBD := Lib.hid hbd
  clear hl5 hb5 hY hYn hb35 hs4 hs5 hbd HL4 HB4 HREF HSL0 HSL1 HKA HKB HKA3 HKB3
  have nn1 : (n == n) = true := beq_self_eq_true _
  have nn2 : ((n : Int) == (n : Int)) = true := beq_self_eq_true _
  obtain ⟨CC, hCC⟩ : ∃ CC, CC = a.cmp b := ⟨_, rfl⟩
  have HCC := Lib.hid hCC.symm
  have cc1 : (CC == CC) = true := beq_self_eq_true _
  clear hCC
  go_upto_region 5 with fail
  try simp only [Act.put, List.setIfInBounds_toArray, List.set_cons_zero, List.set_cons_succ]
  obtain ⟨Inv, hInv⟩ : ∃ Inv : Done → World → Prop, Inv = Chain2 2 5 (fun wI => wI = wd) (fun x wI => x = .int .i64 (a.cmp b) ∧ Below wd.heap.size wd wI) (fun x y wI => (x = .int .i64 (a.cmp b) ∧ y = .int .i64 (a.cmp b)) ∧ Below wd.heap.size wd wI) := ⟨_, rfl⟩
  have HI := Lib.hid hInv
  have hcz : Hid (∀ τ wI, Inv τ wI → τ 5 = none → Hid ((loadVar 24 ⟨ga, 0, none⟩).run Tryd.prog wI = .ok a.val wI) ∧ Hid ((loadVar 24 ⟨gb, 0, none⟩).run Tryd.prog wI = .ok b.val wI)) := by
    intro τ wI h h9
    rw [hInv] at h
    rcases h.upto1 h9 with rfl | ⟨x, _, hb⟩
    · exact HLX.out _ (Below.refl _ _)
    · exact HLX.out _ hb
  have H00 : Hid (Inv Done.none wB.drew) := by rw [hInv]; exact Chain2.start hwd.symm
  clear hInv hwd
  refine wp_region_inv (by kernel_rfl) [⟨0, false, [], [2, 5]⟩, ⟨1, false, [], [2, 5]⟩, ⟨3, false, [], [5]⟩, ⟨4, false, [], [5]⟩, ⟨2, true, [], [5]⟩, ⟨5, true, [2], []⟩, ⟨6, false, [2, 5], []⟩, ⟨7, false, [2, 5], []⟩, ⟨8, false, [2, 5], []⟩, ⟨9, false, [2, 5], []⟩, ⟨10, false, [2, 5], []⟩, ⟨11, false, [2, 5], []⟩, ⟨12, false, [2, 5], []⟩, ⟨13, false, [2, 5], []⟩] (by kernel_rfl) Inv (fun i v => i = 2 ∨ i = 5 → v = .int .i64 CC) (fun _ => ⟨.int .i64 CC, fun _ => rfl⟩) H00.out ?_
  (apply WpI.pure; (simp only [List.getElem?_toArray, List.getElem?_cons_succ, List.getElem?_cons_zero]; rfl); (intro τ wI hA hI; obtain ⟨f0, f1⟩ := hcz.out τ wI hI (hA.2 5 (by decide)); refine runs_load_run rfl 24 (.tmp 3) rfl ga rfl _ f0.out ?_; exact ⟨hI, Is.rfl'⟩); simp only [Act.put, List.setIfInBounds_toArray, List.set_cons_zero, List.set_cons_succ])
  (apply WpI.pure; (simp only [List.getElem?_toArray, List.getElem?_cons_succ, List.getElem?_cons_zero]; rfl); (intro τ wI hA hI; obtain ⟨f0, f1⟩ := hcz.out τ wI hI (hA.2 5 (by decide)); refine runs_load_run rfl 24 (.tmp 4) rfl gb rfl _ f1.out ?_; exact ⟨hI, Is.rfl'⟩); simp only [Act.put, List.setIfInBounds_toArray, List.set_cons_zero, List.set_cons_succ])
  (apply WpI.pure; (simp only [List.getElem?_toArray, List.getElem?_cons_succ, List.getElem?_cons_zero]; rfl); (intro τ wI hA hI; obtain ⟨f0, f1⟩ := hcz.out τ wI hI (hA.2 5 (by decide)); refine runs_load_run rfl 24 (.tmp 3) rfl ga rfl _ f0.out ?_; exact ⟨hI, Is.rfl'⟩); simp only [Act.put, List.setIfInBounds_toArray, List.set_cons_zero, List.set_cons_succ])
  (apply WpI.pure; (simp only [List.getElem?_toArray, List.getElem?_cons_succ, List.getElem?_cons_zero]; rfl); (intro τ wI hA hI; obtain ⟨f0, f1⟩ := hcz.out τ wI hI (hA.2 5 (by decide)); refine runs_load_run rfl 24 (.tmp 4) rfl gb rfl _ f1.out ?_; exact ⟨hI, Is.rfl'⟩); simp only [Act.put, List.setIfInBounds_toArray, List.set_cons_zero, List.set_cons_succ])
  apply WpI.effect; (simp only [List.getElem?_toArray, List.getElem?_cons_succ, List.getElem?_cons_zero]; rfl)
  · intro τ wI hA hn hI
    have h0 := hI
    rw [HI.out] at h0
    have h5 : τ 5 = none := hA.2 5 (by decide)
    have hK := h0.at0 hn h5
    have HT := Lib.hid (And.intro True.intro (And.intro h5 (True.intro)))
    clear hA hn hI h0 h5
    subst hK
    go_simp
    refine (compare_ok a b HA.out HBo.out wI).mono ?_
    rintro e w' ⟨rfl, hb'⟩
    refine ⟨_, rfl, by rw [HCC.out], ?_⟩
    rw [HI.out]
    exact Chain2.put1 HT.out.2.1 (by decide) ⟨rfl, hb'⟩
  intro v2 hv2
  simp only [Act.put, List.setIfInBounds_toArray, List.set_cons_zero, List.set_cons_succ]
  skip
  apply WpI.effect; (simp only [List.getElem?_toArray, List.getElem?_cons_succ, List.getElem?_cons_zero]; rfl)
  · intro τ wI hA hn hI
    have h0 := hI
    rw [HI.out] at h0
    have h2 : τ 2 = some v2 := hA.1 2 (by decide)
    have hK := h0.at1 h2 hn
    have HT := Lib.hid (And.intro True.intro (And.intro h2 (True.intro)))
    clear hA hn hI h0 h2
    obtain ⟨hE, hw⟩ := hK
    have HW := Lib.hid hw
    have HE := Lib.hid hE
    clear hw hE
    go_simp
    refine (refCompare_ok a b HA.out HBo.out wI).mono ?_
    rintro e w' ⟨rfl, hb'⟩
    refine ⟨_, rfl, by rw [HCC.out], ?_⟩
    rw [HI.out]
    exact Chain2.put2 HT.out.2.1 (by decide) ⟨⟨HE.out, rfl⟩, HW.out.trans (hb'.mono HW.out.size)⟩
  intro v5 hv5
  simp only [Act.put, List.setIfInBounds_toArray, List.set_cons_zero, List.set_cons_succ]
  have e2v := hv2 (.inl rfl)
  subst e2v
  have e5v := hv5 (.inr rfl)
  subst e5v
  iterate 8 (apply WpI.pure; (simp only [List.getElem?_toArray, List.getElem?_cons_succ, List.getElem?_cons_zero]; rfl); (intro τ wI hA hI; go_simp; exact ⟨hI, Is.rfl'⟩); simp only [Act.put, List.setIfInBounds_toArray, List.set_cons_zero, List.set_cons_succ])
  refine WpI.done ?_
  intro w5 hI
  rw [HI.out] at hI
  have hE := hI.end_ (by decide)
  obtain ⟨_, hbx⟩ := hE
  have HBX : Hid (Below wB.heap.size wB w5) := Lib.hid (HBD.out.trans (hbx.mono HBD.out.size))
  clear hbx hI hcz H00 HI HLX HBD
  go_wp2_with fail
  go_loopg [10] n (fun kq iv wr => ∃ i : Nat, iv = .int .i64 i ∧ i ≤ n ∧ kq = n - i ∧ Hid (Below wB.heap.size wB wr))
  case atStart => exact ⟨0, rfl, Nat.zero_le _, rfl, HBX⟩
  case round =>
  clear HBX nn1 nn2 cc1
  obtain ⟨i, rfl, hi, rfl, HB⟩ := hrel
  by_cases hlt : i < n
  · have hltI : (i : Int) < (n : Int) := by omega
    have hi0 : 0 ≤ (i : Int) := by omega
    obtain ⟨b0, o0, rfl, hr0⟩ := reads_of HS0.out (by omega)
    obtain ⟨b1, o1, rfl, hr1⟩ := reads_of HS1.out (by omega)
    obtain ⟨b4, o4, rfl, hr4⟩ := reads_of HS4.out (by omega)
    obtain ⟨b5, o5, rfl, hr5⟩ := reads_of HS5.out (by omega)
    obtain ⟨x, hx⟩ : ∃ x, X[i]? = some x := ⟨_, List.getElem?_eq_getElem (by have := HN.out; omega)⟩
    obtain ⟨y, hy⟩ : ∃ y, Y[i]? = some y := ⟨_, List.getElem?_eq_getElem (by have := HYN.out; omega)⟩
    obtain ⟨sx, hsx⟩ : ∃ sx, sx = bl x := ⟨_, rfl⟩
    obtain ⟨sy, hsy⟩ : ∃ sy, sy = bl y := ⟨_, rfl⟩
    have HE1 : Hid ((sx.toList == sx.toList) = true ∧ (sy.toList == sy.toList) = true) := Lib.hid ⟨beq_self_eq_true _, beq_self_eq_true _⟩
    have HC4 : Hid (∀ wI, Below wB.heap.size wB wI → wI.cell? ⟨b4, o4 + i, none⟩ = some (.string sy) ∧ wI.cell? ⟨b5, o5 + i, none⟩ = some (.string sy) ∧ wI.cell? ⟨b1, o1 + i, none⟩ = some (.string sx) ∧ wI.cell? ⟨b0, o0 + i, none⟩ = some (.string sx)) := Lib.hid (fun wI hb => by rw [hsx, hsy]; exact ⟨hr4 wI hb i y hy, hr5 wI hb i y hy, hr1 wI hb i x hx, hr0 wI hb i x hx⟩)
    clear hr0 hr1 hr4 hr5 hx hy hsx hsy
    go_upto_region 10 with fail
    try simp only [Act.put, List.setIfInBounds_toArray, List.set_cons_zero, List.set_cons_succ]
    obtain ⟨Inv, hInv⟩ : ∃ Inv : Done → World → Prop, Inv = fun _ wI => (fun wI => Below wB.heap.size wB wI) wI := ⟨_, rfl⟩
    have HI := Lib.hid hInv
    have hcz : Hid (∀ τ wI, Inv τ wI → Below wB.heap.size wB wI) := by
      intro τ wI h
      rw [hInv] at h
      exact h
    have H00 : Hid (Inv Done.none wr.drew) := by rw [hInv]; exact HB.out.drew
    clear hInv
    refine wp_region_inv (by kernel_rfl) [⟨0, false, [], []⟩, ⟨1, false, [], []⟩, ⟨2, false, [], []⟩, ⟨3, false, [], []⟩, ⟨4, false, [], []⟩, ⟨5, false, [], []⟩, ⟨6, false, [], []⟩, ⟨7, false, [], []⟩, ⟨8, false, [], []⟩, ⟨9, false, [], []⟩, ⟨10, false, [], []⟩, ⟨11, false, [], []⟩, ⟨12, false, [], []⟩, ⟨13, false, [], []⟩, ⟨14, false, [], []⟩, ⟨15, false, [], []⟩, ⟨16, false, [], []⟩, ⟨17, false, [], []⟩, ⟨18, false, [], []⟩, ⟨19, false, [], []⟩] (by kernel_rfl) Inv (fun _ _ => True) (fun _ => ⟨undef, trivial⟩) H00.out ?_
    iterate 20 (apply WpI.pure; (simp only [List.getElem?_toArray, List.getElem?_cons_succ, List.getElem?_cons_zero]; rfl); (intro τ wI hA hI; have f0 := hcz.out τ wI hI; have q0 := HC4.out wI f0; have q1 := q0.1; have q2 := q0.2.1; have q3 := q0.2.2.1; have q4 := q0.2.2.2; have q5 := HE1.out.1; have q6 := HE1.out.2; clear q0; go_simp; exact ⟨hI, Is.rfl'⟩); simp only [Act.put, List.setIfInBounds_toArray, List.set_cons_zero, List.set_cons_succ])
    refine WpI.done ?_
    intro w7 hI
    rw [HI.out] at hI
    have hE := hI
    have HB7 : Hid (Below wB.heap.size wB w7) := Lib.hid hE
    clear hI hE hcz H00 HI HB
    go_wp2_with fail
    go_roundg (n - (i + 1))
    case measure => omega
    case rel => exact ⟨i + 1, by go_num, by omega, rfl, HB7⟩
  have hni : ¬ (i : Int) < (n : Int) := by omega
  have HEND : Hid (Below w.heap.size w wr) := Lib.hid (HBB.out.trans (HB.out.mono HBB.out.size))
  go_wp2_with fail
  go_ret
  exact ⟨rfl, HEND.out⟩
end Go.Proofs.YteeijjhgdplifaaDoor
