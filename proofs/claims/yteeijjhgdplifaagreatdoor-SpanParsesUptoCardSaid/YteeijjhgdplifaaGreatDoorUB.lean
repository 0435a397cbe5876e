/- SpanParses: the walk. -/
import Derived.Test.YteeijjhgdplifaaGreatDoorUA
import Derived.Test.YteeijjhgdplifaaGreatDoorTN
import Derived.Test.YteeijjhgdplifaaGreatDoorVk
namespace Go.Proofs.YteeijjhgdplifaaGreatDoor
open Go.RowKit

set_option maxRecDepth 100000 in
theorem spNames_ok (w : World) : Calls Tryz.prog 16 #[] w fun e w' => e = .returned (.bool true) ∧ w = w' := by
  go_enter Tryz.func16, Tryz.ntmps16
  go_wp2_with fail
  go_ret
  exact ⟨rfl, rfl⟩
set_option maxRecDepth 100000 in
set_option maxHeartbeats 8000000 in
theorem spanParses_walk (s : ByteArray) (hs : s.size ≤ 4000000000) (A0 : Option Addr) (n c0 : Nat) (Vs : List Ver) (hn : Vs.length = n) (hVs : VOks Vs) (hn63 : n ≤ 140737488351232) (w : World) (hg : GV w) (hsl : Sl w (fun _ => True) 6 (.slice A0 n c0) n (versL Vs)) : Calls Tryz.prog 4 #[.string s, .slice A0 n c0] w fun e w' => e = .returned (.bool true) ∧ Below w.heap.size w w' := by
  have HG := Lib.hid hg
  have HN := Lib.hid hn
  have HVS := Lib.hid hVs
  have HSL := Lib.hid hsl
  have HP1 := Lib.hid (spParse_ok s hs w hg)
  have HP2 : Hid (∀ wI, Below w.heap.size w wI → Calls Tryz.prog 15 #[.string s] wI fun e w' => ∃ A c n, e = .returned (.tuple #[.slice A n c, .int .i64 (errP s.data.toList)]) ∧ (okP s.data.toList = true → ∃ tss vals, TTRow w' wI.heap.size A c n tss vals ∧ n ≤ 16 ∧ (∀ ts ∈ tss, ts.length ≤ 16) ∧ ∀ x : Ver, x.Ok → hasTss tss x = hasP s.data.toList ⟨1, x⟩) ∧ Below wI.heap.size wI w') := Lib.hid (fun wI _ => refRange_ok s hs wI)
  obtain ⟨E, hE⟩ : ∃ E, E = errP s.data.toList := ⟨_, rfl⟩
  rw [← hE] at HP1 HP2
  have HE := Lib.hid hE
  clear hs hg hn hVs hsl hE
  go_enter Tryz.func4, Tryz.ntmps4
  go_wp2_with fail
  refine HP1.out.mono ?_
  rintro e w1 ⟨p1, rfl, hr1, hb1⟩
  have HR1 := Lib.hid hr1
  have HB1 := Lib.hid hb1
  clear hr1 hb1 HP1
  go_wp2_with fail
  refine (HP2.out w1 HB1.out).mono ?_
  rintro e w2 ⟨A7, c7, n7, rfl, hr2, hb⟩
  have HR2 := Lib.hid hr2
  have HB0 : Hid (Below w.heap.size w w2) := Lib.hid (HB1.out.trans (hb.mono HB1.out.size))
  rcases HR1.out with ⟨hk1, rfl⟩ | ⟨hk1, gX, X, rfl, hs1, hi1, hp1⟩
  · obtain rfl : E = 21 := by rw [HE.out]; unfold errP; rw [hk1]; rfl
    clear hr2 hb hk1
    go_wp2_with fail
    refine (spNames_ok w2).mono ?_
    rintro e w' ⟨rfl, rfl⟩
    go_wp2_with fail
    go_ret
    exact ⟨rfl, HB0.out⟩
  obtain rfl : E = 0 := by rw [HE.out]; unfold errP; rw [hk1]; rfl
  have SX := Lib.hid (hs1.below hb)
  have HIX := Lib.hid hi1
  have HPX := Lib.hid hp1
  obtain ⟨tss, vals, htt, hn7, hm7, hh7⟩ := hr2 hk1
  have HTT := Lib.hid htt
  have HM7 := Lib.hid hm7
  have HH7 := Lib.hid hh7
  clear hs1 hi1 hp1 hk1 hb hr2 htt hm7 hh7 HR1 HR2 HE HP2 HB1
  go_wp2_with fail
  refine (spNames_ok w2).mono ?_
  rintro e w' ⟨rfl, rfl⟩
  have HBB : Hid (Below w2.heap.size w2 w2) := Lib.hid (Below.refl _ _)
  have HSLB := Lib.hid (HSL.out.below (by decide) HB0.out)
  clear HSL
  go_wp2_with fail
  go_loopg [9] n (fun kq iv wr => ∃ i : Nat, iv = .int .i64 i ∧ i ≤ n ∧ kq = n - i ∧ Hid (Below w2.heap.size w2 wr))
  case atStart => exact ⟨0, rfl, Nat.zero_le _, rfl, HBB⟩
  case round =>
  clear HBB
  obtain ⟨i, rfl, hi, rfl, HB⟩ := hrel
  have HBW : Hid (Below w.heap.size w wr) := Lib.hid (HB0.out.trans (HB.out.mono HB0.out.size))
  by_cases hlt : i < n
  · have hltI : (i : Int) < (n : Int) := by omega
    have hi0 : 0 ≤ (i : Int) := by omega
    by_cases h200 : i < 200
    · have h200I : (i : Int) < 200 := by omega
      obtain ⟨b, o', rfl, hrd⟩ := vreads_of (fun V hV => (HVS.out V hV).1) HSLB.out (by omega)
      obtain ⟨V, hV⟩ : ∃ V, Vs[i]? = some V := ⟨_, List.getElem?_eq_getElem (by have := HN.out; omega)⟩
      have LX := Lib.hid (hrd wr HB.out i V hV)
      obtain ⟨hVo, hVt⟩ := HVS.out V (List.mem_of_getElem? hV)
      obtain ⟨g10, hg10⟩ : ∃ g10, g10 = wr.heap.size := ⟨_, rfl⟩
      obtain ⟨w3, hw3⟩ : ∃ w3, w3 = (wr.alloc (.cells zr 37)).setRow g10 V.cells.toArray := ⟨_, rfl⟩
      have q4 := laid_rver wr V
      have hb3 : Below wr.heap.size wr w3 := by rw [hw3, hg10]; exact q4.2
      have k10 : Blk w3 g10 37 V.cells := by rw [hw3, hg10]; exact q4.1
      have hb03 : Below w2.heap.size w2 w3 := HB.out.trans (hb3.mono HB.out.size)
      have hb3w : Below w.heap.size w w3 := HB0.out.trans (hb03.mono HB0.out.size)
      have HLX : Hid (∀ wI, Below w3.heap.size w3 wI → (loadVar 38 ⟨b, o' + i * 6, none⟩).run Tryz.prog wI = .ok (.agg V.cells.toArray) wI) := Lib.hid (fun wI hb => hrd wI (hb03.trans (hb.mono hb03.size)) i V hV)
      have HLV : Hid (∀ wI, Below w3.heap.size w3 wI → (loadVar 37 ⟨g10, 0, none⟩).run Tryz.prog wI = .ok (.agg V.cells.toArray) wI) := Lib.hid (fun wI hb => rload (k10.below' hb) hVo)
      have HZ4 : Hid ((wr.alloc (.cells zr 37)).heap[g10]? = some (.cells Ver.zero.cells.toArray 37 (0, 0))) := Lib.hid (by rw [hg10]; exact heap_alloc_new _ _)
      have HIU : Hid ((Tryz.prog.info? 37).map (·.size) = some V.cells.toArray.size) := Lib.hid (by rw [Ver.cells_size hVo]; kernel_rfl)
      have HZU : Hid (Ver.zero.cells.toArray.size = V.cells.toArray.size) := Lib.hid (by rw [Ver.cells_size hVo]; rfl)
      have HONU : Hid (V.cells.toArray.all (·.oneCell') = true) := Lib.hid (Ver.cells_one V)
      obtain ⟨MB, hMB⟩ : ∃ MB, MB = V.may := ⟨_, rfl⟩
      obtain ⟨RB, hRB⟩ : ∃ RB, RB = hasP s.data.toList ⟨1, V⟩ := ⟨_, rfl⟩
      have HHX0 : Hid (∀ wI, Below w3.heap.size w3 wI → Calls Tryz.prog 17 #[sp0 gX, .agg V.cells.toArray] wI fun e w' => e = .returned (.bool (MB && RB)) ∧ Below w3.heap.size w3 w') := Lib.hid (fun wI hb => by
        rw [hMB, hRB, ← HPX.out ⟨1, V⟩ (ok1 hVo) (cle_ta V)]
        exact (has_ok _ gX X V hVo (by omega) (by have := HIX.out.len; omega) wI (HG.out.below (hb3w.trans (hb.mono hb3w.size))).gt (SX.out.below (hb03.trans (hb.mono hb03.size)))).mono fun e w' h => ⟨h.1, hb.trans (h.2.mono hb.size)⟩)
      have HMY0 : Hid (∀ wI, Below w3.heap.size w3 wI → Calls Tryz.prog 18 #[.agg V.cells.toArray] wI fun e w' => e = .returned (.bool MB) ∧ Below w3.heap.size w3 w') := Lib.hid (fun wI hb => by
        rw [hMB]
        exact (refMay_ok V hVo (by omega) wI).mono fun e w' h => ⟨h.1, hb.trans (h.2.mono hb.size)⟩)
      have HRH : Hid (∀ wI, Below w3.heap.size w3 wI → Calls Tryz.prog 19 #[.slice A7 n7 c7, .agg V.cells.toArray] wI fun e w' => e = .returned (.bool RB) ∧ Below w3.heap.size w3 w') := Lib.hid (fun wI hb => by
        rw [hRB, ← HH7.out V hVo]
        exact (refHas_ok V hVo _ A7 c7 n7 tss vals (by omega) (fun ts hts => by have := HM7.out ts hts; omega) wI (HTT.out.below (hb03.trans (hb.mono hb03.size)))).mono fun e w' h => ⟨h.1, hb.trans (h.2.mono hb.size)⟩)
      have HB03 := Lib.hid hb03
      have HG10 := Lib.hid hg10
      have HW3 := Lib.hid hw3
      clear hrd hV hVo hVt hg10 hw3 q4 hb3 k10 hb03 hb3w hMB hRB
      go_upto_region 11 with (first | refine wpList_load_at rfl 38 (.tmp 49) rfl ⟨b, o' + i * 6, none⟩ rfl _ LX.out ?_ | refine wpList_store_row rfl 37 (.tmp 10) (.tmp 50) rfl g10 V.cells.toArray (by rw [HG10.out]; rfl) rfl _ _ HZ4.out HIU.out HZU.out HONU.out ?_)
      rw [← HG10.out, ← HW3.out]
      cases MB with
      | true =>
        have HHX : Hid (∀ wI, Below w3.heap.size w3 wI → Calls Tryz.prog 17 #[sp0 gX, .agg V.cells.toArray] wI fun e w' => e = .returned (.bool RB) ∧ Below w3.heap.size w3 w') := Lib.hid HHX0.out
        have HMY := HMY0
        have q1 : (RB == RB) = true := by simp
        have q2 : (RB != RB) = false := by simp
        try simp only [Act.put, List.setIfInBounds_toArray, List.set_cons_zero, List.set_cons_succ]
        obtain ⟨Inv, hInv⟩ : ∃ Inv : Done → World → Prop, Inv = fun _ wI => (fun wI => Below w3.heap.size w3 wI) wI := ⟨_, rfl⟩
        have HI := Lib.hid hInv
        have hcz : Hid (∀ τ wI, Inv τ wI → Below w3.heap.size w3 wI) := by
          intro τ wI h
          rw [hInv] at h
          exact h
        have H00 : Hid (Inv Done.none w3.drew) := by rw [hInv]; exact (Below.refl _ _).drew
        clear hInv
        refine wp_region_inv (by kernel_rfl) [⟨0, false, [], []⟩, ⟨1, false, [], []⟩, ⟨2, false, [], []⟩, ⟨3, false, [], []⟩, ⟨4, false, [], []⟩, ⟨5, false, [], []⟩, ⟨6, false, [], []⟩, ⟨7, false, [], []⟩, ⟨8, false, [], []⟩, ⟨9, false, [], []⟩, ⟨10, false, [], []⟩, ⟨11, false, [], []⟩, ⟨12, false, [], []⟩, ⟨13, false, [], []⟩] (by kernel_rfl) Inv (fun _ _ => True) (fun _ => ⟨undef, trivial⟩) H00.out ?_
        iterate 4 (apply WpI.pure; (simp only [List.getElem?_toArray, List.getElem?_cons_succ, List.getElem?_cons_zero]; rfl); (intro τ wI hA hI; have f0 := hcz.out τ wI hI; go_simp; exact ⟨hI, Is.rfl'⟩); simp only [Act.put, List.setIfInBounds_toArray, List.set_cons_zero, List.set_cons_succ])
        (apply WpI.pure; (simp only [List.getElem?_toArray, List.getElem?_cons_succ, List.getElem?_cons_zero]; rfl); (intro τ wI hA hI; have f0 := hcz.out τ wI hI; refine runs_load_a rfl 38 (.tmp 54) rfl ⟨b, o' + i * 6, none⟩ rfl _ (HLX.out wI f0) ?_; exact ⟨hI, Is.rfl'⟩); simp only [Act.put, List.setIfInBounds_toArray, List.set_cons_zero, List.set_cons_succ])
        (apply WpI.pure; (simp only [List.getElem?_toArray, List.getElem?_cons_succ, List.getElem?_cons_zero]; rfl); (intro τ wI hA hI; have f0 := hcz.out τ wI hI; go_simp; refine (HHX.out wI f0).mono ?_; rintro e w' ⟨rfl, hb⟩; refine ⟨_, rfl, ?_, Is.rfl'⟩; rw [HI.out]; exact hb); simp only [Act.put, List.setIfInBounds_toArray, List.set_cons_zero, List.set_cons_succ])
        (apply WpI.pure; (simp only [List.getElem?_toArray, List.getElem?_cons_succ, List.getElem?_cons_zero]; rfl); (intro τ wI hA hI; have f0 := hcz.out τ wI hI; refine runs_load_a rfl 37 (.tmp 10) rfl ⟨g10, 0, none⟩ rfl _ (HLV.out wI f0) ?_; exact ⟨hI, Is.rfl'⟩); simp only [Act.put, List.setIfInBounds_toArray, List.set_cons_zero, List.set_cons_succ])
        (apply WpI.pure; (simp only [List.getElem?_toArray, List.getElem?_cons_succ, List.getElem?_cons_zero]; rfl); (intro τ wI hA hI; have f0 := hcz.out τ wI hI; go_simp; refine (HMY.out wI f0).mono ?_; rintro e w' ⟨rfl, hb⟩; refine ⟨_, rfl, ?_, Is.rfl'⟩; rw [HI.out]; exact hb); simp only [Act.put, List.setIfInBounds_toArray, List.set_cons_zero, List.set_cons_succ])
        iterate 2 (apply WpI.pure; (simp only [List.getElem?_toArray, List.getElem?_cons_succ, List.getElem?_cons_zero]; rfl); (intro τ wI hA hI; have f0 := hcz.out τ wI hI; go_simp; exact ⟨hI, Is.rfl'⟩); simp only [Act.put, List.setIfInBounds_toArray, List.set_cons_zero, List.set_cons_succ])
        (apply WpI.pure; (simp only [List.getElem?_toArray, List.getElem?_cons_succ, List.getElem?_cons_zero]; rfl); (intro τ wI hA hI; have f0 := hcz.out τ wI hI; refine runs_loadw rfl 37 (.tmp 10) rfl ⟨g10, 0, none⟩ rfl _ (HLV.out wI f0) ?_; exact ⟨hI, Is.rfl'⟩); simp only [Act.put, List.setIfInBounds_toArray, List.set_cons_zero, List.set_cons_succ])
        (apply WpI.pure; (simp only [List.getElem?_toArray, List.getElem?_cons_succ, List.getElem?_cons_zero]; rfl); (intro τ wI hA hI; have f0 := hcz.out τ wI hI; go_simp; refine (HRH.out wI f0).mono ?_; rintro e w' ⟨rfl, hb⟩; refine ⟨_, rfl, ?_, Is.rfl'⟩; rw [HI.out]; exact hb); simp only [Act.put, List.setIfInBounds_toArray, List.set_cons_zero, List.set_cons_succ])
        iterate 2 (apply WpI.pure; (simp only [List.getElem?_toArray, List.getElem?_cons_succ, List.getElem?_cons_zero]; rfl); (intro τ wI hA hI; have f0 := hcz.out τ wI hI; go_simp; exact ⟨hI, Is.rfl'⟩); simp only [Act.put, List.setIfInBounds_toArray, List.set_cons_zero, List.set_cons_succ])
        refine WpI.done ?_
        intro w4 hI
        rw [HI.out] at hI
        have hE := hI
        have HBN : Hid (Below w2.heap.size w2 w4) := Lib.hid (HB03.out.trans (hE.mono HB03.out.size))
        clear hI hE hcz H00 HI q1 q2
        have q2 : (RB != RB) = false := by simp
        go_wp2_with fail
        go_roundg (n - (i + 1))
        case measure => omega
        case rel => exact ⟨i + 1, by go_num, by omega, rfl, HBN⟩
      | false =>
        have HHX : Hid (∀ wI, Below w3.heap.size w3 wI → Calls Tryz.prog 17 #[sp0 gX, .agg V.cells.toArray] wI fun e w' => e = .returned (.bool false) ∧ Below w3.heap.size w3 w') := Lib.hid HHX0.out
        have HMY := HMY0
        try simp only [Act.put, List.setIfInBounds_toArray, List.set_cons_zero, List.set_cons_succ]
        obtain ⟨Inv, hInv⟩ : ∃ Inv : Done → World → Prop, Inv = fun _ wI => (fun wI => Below w3.heap.size w3 wI) wI := ⟨_, rfl⟩
        have HI := Lib.hid hInv
        have hcz : Hid (∀ τ wI, Inv τ wI → Below w3.heap.size w3 wI) := by
          intro τ wI h
          rw [hInv] at h
          exact h
        have H00 : Hid (Inv Done.none w3.drew) := by rw [hInv]; exact (Below.refl _ _).drew
        clear hInv
        refine wp_region_inv (by kernel_rfl) [⟨0, false, [], []⟩, ⟨1, false, [], []⟩, ⟨2, false, [], []⟩, ⟨3, false, [], []⟩, ⟨4, false, [], []⟩, ⟨5, false, [], []⟩, ⟨6, false, [], []⟩, ⟨7, false, [], []⟩, ⟨8, false, [], []⟩, ⟨9, false, [], []⟩, ⟨10, false, [], []⟩, ⟨11, false, [], []⟩, ⟨12, false, [], []⟩, ⟨13, false, [], []⟩] (by kernel_rfl) Inv (fun _ _ => True) (fun _ => ⟨undef, trivial⟩) H00.out ?_
        iterate 4 (apply WpI.pure; (simp only [List.getElem?_toArray, List.getElem?_cons_succ, List.getElem?_cons_zero]; rfl); (intro τ wI hA hI; have f0 := hcz.out τ wI hI; go_simp; exact ⟨hI, Is.rfl'⟩); simp only [Act.put, List.setIfInBounds_toArray, List.set_cons_zero, List.set_cons_succ])
        (apply WpI.pure; (simp only [List.getElem?_toArray, List.getElem?_cons_succ, List.getElem?_cons_zero]; rfl); (intro τ wI hA hI; have f0 := hcz.out τ wI hI; refine runs_load_a rfl 38 (.tmp 54) rfl ⟨b, o' + i * 6, none⟩ rfl _ (HLX.out wI f0) ?_; exact ⟨hI, Is.rfl'⟩); simp only [Act.put, List.setIfInBounds_toArray, List.set_cons_zero, List.set_cons_succ])
        (apply WpI.pure; (simp only [List.getElem?_toArray, List.getElem?_cons_succ, List.getElem?_cons_zero]; rfl); (intro τ wI hA hI; have f0 := hcz.out τ wI hI; go_simp; refine (HHX.out wI f0).mono ?_; rintro e w' ⟨rfl, hb⟩; refine ⟨_, rfl, ?_, Is.rfl'⟩; rw [HI.out]; exact hb); simp only [Act.put, List.setIfInBounds_toArray, List.set_cons_zero, List.set_cons_succ])
        (apply WpI.pure; (simp only [List.getElem?_toArray, List.getElem?_cons_succ, List.getElem?_cons_zero]; rfl); (intro τ wI hA hI; have f0 := hcz.out τ wI hI; refine runs_load_a rfl 37 (.tmp 10) rfl ⟨g10, 0, none⟩ rfl _ (HLV.out wI f0) ?_; exact ⟨hI, Is.rfl'⟩); simp only [Act.put, List.setIfInBounds_toArray, List.set_cons_zero, List.set_cons_succ])
        (apply WpI.pure; (simp only [List.getElem?_toArray, List.getElem?_cons_succ, List.getElem?_cons_zero]; rfl); (intro τ wI hA hI; have f0 := hcz.out τ wI hI; go_simp; refine (HMY.out wI f0).mono ?_; rintro e w' ⟨rfl, hb⟩; refine ⟨_, rfl, ?_, Is.rfl'⟩; rw [HI.out]; exact hb); simp only [Act.put, List.setIfInBounds_toArray, List.set_cons_zero, List.set_cons_succ])
        iterate 6 (apply WpI.pure; (simp only [List.getElem?_toArray, List.getElem?_cons_succ, List.getElem?_cons_zero]; rfl); (intro τ wI hA hI; have f0 := hcz.out τ wI hI; go_simp; exact ⟨hI, Is.rfl'⟩); simp only [Act.put, List.setIfInBounds_toArray, List.set_cons_zero, List.set_cons_succ])
        refine WpI.done ?_
        intro w4 hI
        rw [HI.out] at hI
        have hE := hI
        have HBN : Hid (Below w2.heap.size w2 w4) := Lib.hid (HB03.out.trans (hE.mono HB03.out.size))
        clear hI hE hcz H00 HI
        go_wp2_with fail
        go_roundg (n - (i + 1))
        case measure => omega
        case rel => exact ⟨i + 1, by go_num, by omega, rfl, HBN⟩
    · have h200I : ¬ (i : Int) < 200 := by omega
      go_wp2_with fail
      go_ret
      exact ⟨rfl, HBW.out⟩
  · have hni : ¬ (i : Int) < (n : Int) := by omega
    go_wp2_with fail
    go_ret
    exact ⟨rfl, HBW.out⟩
end Go.Proofs.YteeijjhgdplifaaGreatDoor
