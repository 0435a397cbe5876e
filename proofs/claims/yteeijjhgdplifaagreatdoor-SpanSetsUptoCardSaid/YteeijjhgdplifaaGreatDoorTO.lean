/- SpanSets: the walk. -/
import Derived.Test.YteeijjhgdplifaaGreatDoorTM
import Derived.Test.YteeijjhgdplifaaGreatDoorTN
namespace Go.Proofs.YteeijjhgdplifaaGreatDoor
open Go.RowKit

theorem five (X Y A O N : List Cut) (V : Ver) (hV : V.Ok) (ha : par A ⟨1, V⟩ = (par X ⟨1, V⟩ && par Y ⟨1, V⟩)) (ho : par O ⟨1, V⟩ = (par X ⟨1, V⟩ || par Y ⟨1, V⟩)) (hn : par N ⟨1, V⟩ = !par X ⟨1, V⟩) (BX BY BA BO BN : Bool) (T2 : Int)
    (hX : BX = (V.may && par X ⟨1, V⟩)) (hY : BY = (V.may && par Y ⟨1, V⟩)) (hA : BA = (V.may && par A ⟨1, V⟩)) (hO : BO = (V.may && par O ⟨1, V⟩)) (hN : BN = (V.may && par N ⟨1, V⟩)) (hT : T2 = (tv V).2) :
    (BX = false ∧ BY = false ∧ BA = false ∧ BO = false ∧ BN = false ∧ T2 = 20) ∨ (T2 = 0 ∧ BA = (BX && BY) ∧ BO = (BX || BY) ∧ BN = !BX) := by
  unfold tv at hT
  cases hm : V.may with
  | false => left; simp [hX, hY, hA, hO, hN, hm, hT]
  | true => right; simp [hX, hY, hA, hO, hN, hm, hT, ha, ho, hn]
set_option maxRecDepth 100000 in
set_option maxHeartbeats 8000000 in
theorem spanSets_walk (s o : ByteArray) (hs : s.size ≤ 4000000000) (ho : o.size ≤ 4000000000) (A0 : Option Addr) (n c0 : Nat) (Vs : List Ver) (hn : Vs.length = n) (hVs : VOks Vs) (hn63 : n ≤ 140737488351232) (w : World) (hg : GV w) (hsl : Sl w (fun _ => True) 6 (.slice A0 n c0) n (versL Vs)) : Calls Tryz.prog 5 #[.string s, .string o, .slice A0 n c0] w fun e w' => e = .returned (.bool true) ∧ Below w.heap.size w w' := by
  have HG := Lib.hid hg
  have HN := Lib.hid hn
  have HVS := Lib.hid hVs
  have HSL := Lib.hid hsl
  have HP1 := Lib.hid (spParse_ok s hs w hg)
  have HP2 : Hid (∀ wI, Below w.heap.size w wI → Calls Tryz.prog 7 #[.string o] wI fun e w' => ∃ p, e = .returned (.tuple #[p, .int .i64 (errP o.data.toList)]) ∧ RangeIs wI w' o.data.toList p ∧ Below wI.heap.size wI w') := Lib.hid (fun wI hb => spParse_ok o ho wI (hg.below hb))
  obtain ⟨E1, hE1⟩ : ∃ E1, E1 = errP s.data.toList := ⟨_, rfl⟩
  obtain ⟨E2, hE2⟩ : ∃ E2, E2 = errP o.data.toList := ⟨_, rfl⟩
  rw [← hE1] at HP1
  rw [← hE2] at HP2
  have HE1 := Lib.hid hE1
  have HE2 := Lib.hid hE2
  clear hs ho hg hE1 hE2 hn hVs hsl
  go_enter Tryz.func5, Tryz.ntmps5
  go_wp2_with fail
  refine HP1.out.mono ?_
  rintro e w1 ⟨p1, rfl, hr1, hb1⟩
  have HR1 := Lib.hid hr1
  have HB1 := Lib.hid hb1
  clear hr1 hb1 HP1
  go_wp2_with fail
  refine (HP2.out w1 HB1.out).mono ?_
  rintro e w2 ⟨p2, rfl, hr2, hb⟩
  have HR2 := Lib.hid hr2
  have HB0 : Hid (Below w.heap.size w w2) := Lib.hid (HB1.out.trans (hb.mono HB1.out.size))
  rcases HR1.out with ⟨hk1, rfl⟩ | ⟨hk1, gX, X, rfl, hs1, hi1, hp1⟩
  · obtain rfl : E1 = 21 := by rw [HE1.out]; unfold errP; rw [hk1]; rfl
    clear hr2 hb hk1
    go_wp2_with fail
    go_ret
    exact ⟨rfl, HB0.out⟩
  have SX := Lib.hid (hs1.below hb)
  have HIX := Lib.hid hi1
  obtain rfl : E1 = 0 := by rw [HE1.out]; unfold errP; rw [hk1]; rfl
  clear hs1 hi1 hp1 hk1 hb hr2
  rcases HR2.out with ⟨hk2, rfl⟩ | ⟨hk2, gY, Y, rfl, hs2, hi2, hp2⟩
  · obtain rfl : E2 = 21 := by rw [HE2.out]; unfold errP; rw [hk2]; rfl
    clear hk2
    go_wp2_with fail
    go_ret
    exact ⟨rfl, HB0.out⟩
  · have SY := Lib.hid hs2
    have HIY := Lib.hid hi2
    obtain rfl : E2 = 0 := by rw [HE2.out]; unfold errP; rw [hk2]; rfl
    clear hs2 hi2 hp2 hk2 HP2 HR1 HR2 HE1 HE2 HB1
    go_wp2_with fail
    refine (spAnd_ok _ gX _ gY X Y HIX.out.prs HIY.out.prs (by have := HIX.out.len; omega) (by have := HIY.out.len; omega) w2 SX.out SY.out).mono ?_
    rintro e wk1 ⟨gA, rfl, A, hs, hm, hb⟩
    have HIA := Lib.hid (IsSet.merged rfl HIX.out HIY.out hm)
    have HPA : Hid (∀ t, t.Ok → cle topC t = false → par A t = (par X t && par Y t)) := Lib.hid (fun t ht _ => hm.par t ht)
    replace SX := Lib.hid (SX.out.below hb)
    replace SY := Lib.hid (SY.out.below hb)
    have HBn : Hid (Below w.heap.size w wk1) := Lib.hid (HB0.out.trans (hb.mono HB0.out.size))
    clear HB0 hb
    have HB0 := HBn
    clear HBn
    have SA := Lib.hid hs
    clear hs hm
    go_wp2_with fail
    refine (spOr_ok _ gX _ gY X Y HIX.out.prs HIY.out.prs (by have := HIX.out.len; omega) (by have := HIY.out.len; omega) wk1 SX.out SY.out).mono ?_
    rintro e wk2 ⟨gO, rfl, O, hs, hm, hb⟩
    have HIO := Lib.hid (IsSet.merged rfl HIX.out HIY.out hm)
    have HPO : Hid (∀ t, t.Ok → cle topC t = false → par O t = (par X t || par Y t)) := Lib.hid (fun t ht _ => hm.par t ht)
    replace SX := Lib.hid (SX.out.below hb)
    replace SY := Lib.hid (SY.out.below hb)
    replace SA := Lib.hid (SA.out.below hb)
    have HBn : Hid (Below w.heap.size w wk2) := Lib.hid (HB0.out.trans (hb.mono HB0.out.size))
    clear HB0 hb
    have HB0 := HBn
    clear HBn
    have SO := Lib.hid hs
    clear hs hm
    go_wp2_with fail
    refine (spNot_ok _ gX X HIX.out.prs (by have := HIX.out.len; omega) wk2 SX.out).mono ?_
    rintro e wk3 ⟨gN, rfl, N, hs, hm, hb⟩
    have HIN := Lib.hid (IsSet.merged rfl all_set HIX.out hm)
    have HPN : Hid (∀ t, t.Ok → cle topC t = false → par N t = !par X t) := Lib.hid (fun t ht htop => by rw [hm.par t ht, show par allCuts t = true from par_all htop, Bool.true_and])
    replace SX := Lib.hid (SX.out.below hb)
    replace SY := Lib.hid (SY.out.below hb)
    replace SA := Lib.hid (SA.out.below hb)
    replace SO := Lib.hid (SO.out.below hb)
    have HBn : Hid (Below w.heap.size w wk3) := Lib.hid (HB0.out.trans (hb.mono HB0.out.size))
    clear HB0 hb
    have HB0 := HBn
    clear HBn
    have SN := Lib.hid hs
    clear hs hm
    obtain ⟨wb, hwb⟩ : ∃ wb, wb = wk3 := ⟨_, rfl⟩
    rw [← hwb] at HB0 SX SY SA SO SN ⊢
    clear hwb
    have HBB : Hid (Below wb.heap.size wb wb) := Lib.hid (Below.refl _ _)
    have HGB0 := Lib.hid (HG.out.below HB0.out)
    have HSLB := Lib.hid (HSL.out.below (by decide) HB0.out)
    clear HSL
    go_wp2_with fail
    go_loopg [14] n (fun kq iv wr => ∃ i : Nat, iv = .int .i64 i ∧ i ≤ n ∧ kq = n - i ∧ Hid (Below wb.heap.size wb wr))
    case atStart => exact ⟨0, rfl, Nat.zero_le _, rfl, HBB⟩
    case round =>
    clear HBB
    obtain ⟨i, rfl, hi, rfl, HB⟩ := hrel
    have HBW : Hid (Below w.heap.size w wr) := Lib.hid (HB0.out.trans (HB.out.mono HB0.out.size))
    by_cases hlt : i < n
    · have hltI : (i : Int) < (n : Int) := by omega
      have hi0 : 0 ≤ (i : Int) := by omega
      by_cases h200 : i < 200
      · have h200I : (i : Int) < 200 := by omega
        obtain ⟨b, o', rfl, hrd⟩ := vreads_of (fun V hV => (HVS.out V hV).1) HSLB.out (by omega)
        obtain ⟨V, hV⟩ : ∃ V, Vs[i]? = some V := ⟨_, List.getElem?_eq_getElem (by have := HN.out; omega)⟩
        have LX := Lib.hid (hrd wr HB.out i V hV)
        obtain ⟨hVo, hVt⟩ := HVS.out V (List.mem_of_getElem? hV)
        obtain ⟨g15, hg15⟩ : ∃ g15, g15 = wr.heap.size := ⟨_, rfl⟩
        obtain ⟨w3, hw3⟩ : ∃ w3, w3 = (wr.alloc (.cells zv 38)).setRow g15 V.cells.toArray := ⟨_, rfl⟩
        have q4 := laid_ver wr V
        have hb3 : Below wr.heap.size wr w3 := by rw [hw3, hg15]; exact q4.2
        have k15 : Blk w3 g15 38 V.cells := by rw [hw3, hg15]; exact q4.1
        have hb03 : Below wb.heap.size wb w3 := HB.out.trans (hb3.mono HB.out.size)
        have hb3w : Below w.heap.size w w3 := HB0.out.trans (hb03.mono HB0.out.size)
        have HGB := HG
        have HLV : Hid (∀ wI, Below w3.heap.size w3 wI → (loadVar 38 ⟨g15, 0, none⟩).run Tryz.prog wI = .ok (.agg V.cells.toArray) wI) := Lib.hid (fun wI hb => vload (k15.below' hb) hVo)
        have HZ4 : Hid ((wr.alloc (.cells zv 38)).heap[g15]? = some (.cells Ver.zero.cells.toArray 38 (0, 0))) := Lib.hid (by rw [hg15]; exact heap_alloc_new _ _)
        have HIU : Hid ((Tryz.prog.info? 38).map (·.size) = some V.cells.toArray.size) := Lib.hid (by rw [Ver.cells_size hVo]; kernel_rfl)
        have HZU : Hid (Ver.zero.cells.toArray.size = V.cells.toArray.size) := Lib.hid (by rw [Ver.cells_size hVo]; rfl)
        have HONU : Hid (V.cells.toArray.all (·.oneCell') = true) := Lib.hid (Ver.cells_one V)
        obtain ⟨BX, hBX⟩ : ∃ B, B = (V.may && par X ⟨1, V⟩) := ⟨_, rfl⟩
        obtain ⟨BY, hBY⟩ : ∃ B, B = (V.may && par Y ⟨1, V⟩) := ⟨_, rfl⟩
        obtain ⟨BA, hBA⟩ : ∃ B, B = (V.may && par A ⟨1, V⟩) := ⟨_, rfl⟩
        obtain ⟨BO, hBO⟩ : ∃ B, B = (V.may && par O ⟨1, V⟩) := ⟨_, rfl⟩
        obtain ⟨BN, hBN⟩ : ∃ B, B = (V.may && par N ⟨1, V⟩) := ⟨_, rfl⟩
        obtain ⟨T1, hT1⟩ : ∃ T1, T1 = bl (tv V).1 := ⟨_, rfl⟩
        obtain ⟨T2, hT2⟩ : ∃ T2, T2 = (tv V).2 := ⟨_, rfl⟩
        have HHX : Hid (∀ wI, Below w3.heap.size w3 wI → Calls Tryz.prog 17 #[sp0 gX, .agg V.cells.toArray] wI fun e w' => e = .returned (.bool BX) ∧ Below w3.heap.size w3 w') := Lib.hid (fun wI hb => by
          rw [hBX]
          exact (has_ok _ gX X V hVo (by omega) (by have := HIX.out.len; omega) wI (HGB.out.below (hb3w.trans (hb.mono hb3w.size))).gt ((SX.out.below (hb03.trans (hb.mono hb03.size))))).mono fun e w' h => ⟨h.1, hb.trans (h.2.mono hb.size)⟩)
        have HHY : Hid (∀ wI, Below w3.heap.size w3 wI → Calls Tryz.prog 17 #[sp0 gY, .agg V.cells.toArray] wI fun e w' => e = .returned (.bool BY) ∧ Below w3.heap.size w3 w') := Lib.hid (fun wI hb => by
          rw [hBY]
          exact (has_ok _ gY Y V hVo (by omega) (by have := HIY.out.len; omega) wI (HGB.out.below (hb3w.trans (hb.mono hb3w.size))).gt ((SY.out.below (hb03.trans (hb.mono hb03.size))))).mono fun e w' h => ⟨h.1, hb.trans (h.2.mono hb.size)⟩)
        have HHA : Hid (∀ wI, Below w3.heap.size w3 wI → Calls Tryz.prog 17 #[sp0 gA, .agg V.cells.toArray] wI fun e w' => e = .returned (.bool BA) ∧ Below w3.heap.size w3 w') := Lib.hid (fun wI hb => by
          rw [hBA]
          exact (has_ok _ gA A V hVo (by omega) (by have := HIA.out.len; omega) wI (HGB.out.below (hb3w.trans (hb.mono hb3w.size))).gt ((SA.out.below (hb03.trans (hb.mono hb03.size))))).mono fun e w' h => ⟨h.1, hb.trans (h.2.mono hb.size)⟩)
        have HHO : Hid (∀ wI, Below w3.heap.size w3 wI → Calls Tryz.prog 17 #[sp0 gO, .agg V.cells.toArray] wI fun e w' => e = .returned (.bool BO) ∧ Below w3.heap.size w3 w') := Lib.hid (fun wI hb => by
          rw [hBO]
          exact (has_ok _ gO O V hVo (by omega) (by have := HIO.out.len; omega) wI (HGB.out.below (hb3w.trans (hb.mono hb3w.size))).gt ((SO.out.below (hb03.trans (hb.mono hb03.size))))).mono fun e w' h => ⟨h.1, hb.trans (h.2.mono hb.size)⟩)
        have HHN : Hid (∀ wI, Below w3.heap.size w3 wI → Calls Tryz.prog 17 #[sp0 gN, .agg V.cells.toArray] wI fun e w' => e = .returned (.bool BN) ∧ Below w3.heap.size w3 w') := Lib.hid (fun wI hb => by
          rw [hBN]
          exact (has_ok _ gN N V hVo (by omega) (by have := HIN.out.len; omega) wI (HGB.out.below (hb3w.trans (hb.mono hb3w.size))).gt ((SN.out.below (hb03.trans (hb.mono hb03.size))))).mono fun e w' h => ⟨h.1, hb.trans (h.2.mono hb.size)⟩)
        have HTX : Hid (∀ wI, Below w3.heap.size w3 wI → Calls Tryz.prog 20 #[.agg V.cells.toArray] wI fun e w' => e = .returned (.tuple #[.string T1, .int .i64 T2]) ∧ Below w3.heap.size w3 w') := Lib.hid (fun wI hb => by
          rw [hT1, hT2]
          exact (text_okT V hVo (by omega) wI (HGB.out.below (hb3w.trans (hb.mono hb3w.size))).gt).mono fun e w' h => ⟨h.1, hb.trans (h.2.mono hb.size)⟩)
        have HFI : Hid ((BX = false ∧ BY = false ∧ BA = false ∧ BO = false ∧ BN = false ∧ T2 = 20) ∨ (T2 = 0 ∧ BA = (BX && BY) ∧ BO = (BX || BY) ∧ BN = !BX)) := Lib.hid (five X Y A O N V hVo (HPA.out _ (ok1 hVo) (cle_ta V)) (HPO.out _ (ok1 hVo) (cle_ta V)) (HPN.out _ (ok1 hVo) (cle_ta V)) BX BY BA BO BN T2 hBX hBY hBA hBO hBN hT2)
        have HB03 := Lib.hid hb03
        have HG15 := Lib.hid hg15
        have HW3 := Lib.hid hw3
        clear hrd hV hVo hVt hg15 hw3 q4 hb3 k15 hb03 hb3w hBX hBY hBA hBO hBN hT1 hT2
        go_upto_region 12 with (first | refine wpList_load_at rfl 38 (.tmp 72) rfl ⟨b, o' + i * 6, none⟩ rfl _ LX.out ?_ | refine wpList_store_row rfl 38 (.tmp 15) (.tmp 73) rfl g15 V.cells.toArray (by rw [HG15.out]; rfl) rfl _ _ HZ4.out HIU.out HZU.out HONU.out ?_)
        rw [← HG15.out, ← HW3.out]
        try simp only [Act.put, List.setIfInBounds_toArray, List.set_cons_zero, List.set_cons_succ]
        obtain ⟨Inv, hInv⟩ : ∃ Inv : Done → World → Prop, Inv = fun _ wI => (fun wI => Below w3.heap.size w3 wI) wI := ⟨_, rfl⟩
        have HI := Lib.hid hInv
        have hcz : Hid (∀ τ wI, Inv τ wI → Below w3.heap.size w3 wI) := by
          intro τ wI h
          rw [hInv] at h
          exact h
        have H00 : Hid (Inv Done.none w3.drew) := by rw [hInv]; exact (Below.refl _ _).drew
        clear hInv
        refine wp_region_inv (by kernel_rfl) [⟨0, false, [], []⟩, ⟨1, false, [], []⟩, ⟨2, false, [], []⟩, ⟨3, false, [], []⟩, ⟨4, false, [], []⟩, ⟨5, false, [], []⟩, ⟨6, false, [], []⟩, ⟨7, false, [], []⟩] (by kernel_rfl) Inv (fun _ _ => True) (fun _ => ⟨undef, trivial⟩) H00.out ?_
        (apply WpI.pure; (simp only [List.getElem?_toArray, List.getElem?_cons_succ, List.getElem?_cons_zero]; rfl); (intro τ wI hA hI; have f0 := hcz.out τ wI hI; go_simp; exact ⟨hI, Is.rfl'⟩); simp only [Act.put, List.setIfInBounds_toArray, List.set_cons_zero, List.set_cons_succ])
        (apply WpI.pure; (simp only [List.getElem?_toArray, List.getElem?_cons_succ, List.getElem?_cons_zero]; rfl); (intro τ wI hA hI; have f0 := hcz.out τ wI hI; refine runs_load_a rfl 38 (.tmp 15) rfl ⟨g15, 0, none⟩ rfl _ (HLV.out wI f0) ?_; exact ⟨hI, Is.rfl'⟩); simp only [Act.put, List.setIfInBounds_toArray, List.set_cons_zero, List.set_cons_succ])
        (apply WpI.pure; (simp only [List.getElem?_toArray, List.getElem?_cons_succ, List.getElem?_cons_zero]; rfl); (intro τ wI hA hI; have f0 := hcz.out τ wI hI; go_simp; refine (HHX.out wI f0).mono ?_; rintro e w' ⟨rfl, hb⟩; refine ⟨_, rfl, ?_, Is.rfl'⟩; rw [HI.out]; exact hb); simp only [Act.put, List.setIfInBounds_toArray, List.set_cons_zero, List.set_cons_succ])
        (apply WpI.pure; (simp only [List.getElem?_toArray, List.getElem?_cons_succ, List.getElem?_cons_zero]; rfl); (intro τ wI hA hI; have f0 := hcz.out τ wI hI; go_simp; exact ⟨hI, Is.rfl'⟩); simp only [Act.put, List.setIfInBounds_toArray, List.set_cons_zero, List.set_cons_succ])
        (apply WpI.pure; (simp only [List.getElem?_toArray, List.getElem?_cons_succ, List.getElem?_cons_zero]; rfl); (intro τ wI hA hI; have f0 := hcz.out τ wI hI; refine runs_load_a rfl 38 (.tmp 15) rfl ⟨g15, 0, none⟩ rfl _ (HLV.out wI f0) ?_; exact ⟨hI, Is.rfl'⟩); simp only [Act.put, List.setIfInBounds_toArray, List.set_cons_zero, List.set_cons_succ])
        (apply WpI.pure; (simp only [List.getElem?_toArray, List.getElem?_cons_succ, List.getElem?_cons_zero]; rfl); (intro τ wI hA hI; have f0 := hcz.out τ wI hI; go_simp; refine (HHY.out wI f0).mono ?_; rintro e w' ⟨rfl, hb⟩; refine ⟨_, rfl, ?_, Is.rfl'⟩; rw [HI.out]; exact hb); simp only [Act.put, List.setIfInBounds_toArray, List.set_cons_zero, List.set_cons_succ])
        iterate 2 (apply WpI.pure; (simp only [List.getElem?_toArray, List.getElem?_cons_succ, List.getElem?_cons_zero]; rfl); (intro τ wI hA hI; have f0 := hcz.out τ wI hI; go_simp; exact ⟨hI, Is.rfl'⟩); simp only [Act.put, List.setIfInBounds_toArray, List.set_cons_zero, List.set_cons_succ])
        refine WpI.done ?_
        intro w4 hI
        rw [HI.out] at hI
        have hE := hI
        have HBw4 := Lib.hid hE
        clear hI hE hcz H00 HI
        go_wp2_with (refine wpList_load_at rfl 38 (.tmp 15) rfl ⟨g15, 0, none⟩ rfl _ (HLV.out w4 HBw4.out) ?_)
        refine (HTX.out w4 HBw4.out).mono ?_
        rintro e w5 ⟨rfl, hb⟩
        have HBw5 := Lib.hid hb
        clear hb
        go_wp2_with (first | refine wpList_load_at rfl 38 (.tmp 15) rfl ⟨g15, 0, none⟩ rfl _ (HLV.out w5 HBw5.out) ?_ | refine wpListw_load_at rfl 38 (.tmp 15) rfl ⟨g15, 0, none⟩ rfl _ (HLV.out w5 HBw5.out) ?_)
        refine (HHA.out w5 HBw5.out).mono ?_
        rintro e w6 ⟨rfl, hb⟩
        have HBw6 := Lib.hid hb
        clear hb
        have HFJ := HFI.out
        rcases HFJ with ⟨rfl, rfl, rfl, rfl, rfl, rfl⟩ | ⟨rfl, rfl, rfl, rfl⟩
        · skip
          skip
          go_wp2_with (first | refine wpList_load_at rfl 38 (.tmp 15) rfl ⟨g15, 0, none⟩ rfl _ (HLV.out w6 HBw6.out) ?_ | refine wpListw_load_at rfl 38 (.tmp 15) rfl ⟨g15, 0, none⟩ rfl _ (HLV.out w6 HBw6.out) ?_)
          refine (HHO.out w6 HBw6.out).mono ?_
          rintro e w7 ⟨rfl, hb⟩
          have HBw7 := Lib.hid hb
          clear hb
          go_wp2_with (first | refine wpList_load_at rfl 38 (.tmp 15) rfl ⟨g15, 0, none⟩ rfl _ (HLV.out w7 HBw7.out) ?_ | refine wpListw_load_at rfl 38 (.tmp 15) rfl ⟨g15, 0, none⟩ rfl _ (HLV.out w7 HBw7.out) ?_)
          refine (HHN.out w7 HBw7.out).mono ?_
          rintro e w8 ⟨rfl, hb⟩
          have HBw8 := Lib.hid hb
          clear hb
          have HBR : Hid (Below wb.heap.size wb w8) := Lib.hid (HB03.out.trans (HBw8.out.mono HB03.out.size))
          go_wp2_with fail
          go_roundg (n - (i + 1))
          case measure => omega
          case rel => exact ⟨i + 1, by go_num, by omega, rfl, HBR⟩
        · cases BX <;> cases BY
          · skip
            skip
            go_wp2_with (first | refine wpList_load_at rfl 38 (.tmp 15) rfl ⟨g15, 0, none⟩ rfl _ (HLV.out w6 HBw6.out) ?_ | refine wpListw_load_at rfl 38 (.tmp 15) rfl ⟨g15, 0, none⟩ rfl _ (HLV.out w6 HBw6.out) ?_)
            refine (HHO.out w6 HBw6.out).mono ?_
            rintro e w7 ⟨rfl, hb⟩
            have HBw7 := Lib.hid hb
            clear hb
            go_wp2_with (first | refine wpList_load_at rfl 38 (.tmp 15) rfl ⟨g15, 0, none⟩ rfl _ (HLV.out w7 HBw7.out) ?_ | refine wpListw_load_at rfl 38 (.tmp 15) rfl ⟨g15, 0, none⟩ rfl _ (HLV.out w7 HBw7.out) ?_)
            refine (HHN.out w7 HBw7.out).mono ?_
            rintro e w8 ⟨rfl, hb⟩
            have HBw8 := Lib.hid hb
            clear hb
            have HBR : Hid (Below wb.heap.size wb w8) := Lib.hid (HB03.out.trans (HBw8.out.mono HB03.out.size))
            go_wp2_with fail
            go_roundg (n - (i + 1))
            case measure => omega
            case rel => exact ⟨i + 1, by go_num, by omega, rfl, HBR⟩
          · skip
            skip
            go_wp2_with (first | refine wpList_load_at rfl 38 (.tmp 15) rfl ⟨g15, 0, none⟩ rfl _ (HLV.out w6 HBw6.out) ?_ | refine wpListw_load_at rfl 38 (.tmp 15) rfl ⟨g15, 0, none⟩ rfl _ (HLV.out w6 HBw6.out) ?_)
            refine (HHO.out w6 HBw6.out).mono ?_
            rintro e w7 ⟨rfl, hb⟩
            have HBw7 := Lib.hid hb
            clear hb
            go_wp2_with (first | refine wpList_load_at rfl 38 (.tmp 15) rfl ⟨g15, 0, none⟩ rfl _ (HLV.out w7 HBw7.out) ?_ | refine wpListw_load_at rfl 38 (.tmp 15) rfl ⟨g15, 0, none⟩ rfl _ (HLV.out w7 HBw7.out) ?_)
            refine (HHN.out w7 HBw7.out).mono ?_
            rintro e w8 ⟨rfl, hb⟩
            have HBw8 := Lib.hid hb
            clear hb
            have HBR : Hid (Below wb.heap.size wb w8) := Lib.hid (HB03.out.trans (HBw8.out.mono HB03.out.size))
            go_wp2_with fail
            go_roundg (n - (i + 1))
            case measure => omega
            case rel => exact ⟨i + 1, by go_num, by omega, rfl, HBR⟩
          · skip
            skip
            go_wp2_with (first | refine wpList_load_at rfl 38 (.tmp 15) rfl ⟨g15, 0, none⟩ rfl _ (HLV.out w6 HBw6.out) ?_ | refine wpListw_load_at rfl 38 (.tmp 15) rfl ⟨g15, 0, none⟩ rfl _ (HLV.out w6 HBw6.out) ?_)
            refine (HHO.out w6 HBw6.out).mono ?_
            rintro e w7 ⟨rfl, hb⟩
            have HBw7 := Lib.hid hb
            clear hb
            go_wp2_with (first | refine wpList_load_at rfl 38 (.tmp 15) rfl ⟨g15, 0, none⟩ rfl _ (HLV.out w7 HBw7.out) ?_ | refine wpListw_load_at rfl 38 (.tmp 15) rfl ⟨g15, 0, none⟩ rfl _ (HLV.out w7 HBw7.out) ?_)
            refine (HHN.out w7 HBw7.out).mono ?_
            rintro e w8 ⟨rfl, hb⟩
            have HBw8 := Lib.hid hb
            clear hb
            have HBR : Hid (Below wb.heap.size wb w8) := Lib.hid (HB03.out.trans (HBw8.out.mono HB03.out.size))
            go_wp2_with fail
            go_roundg (n - (i + 1))
            case measure => omega
            case rel => exact ⟨i + 1, by go_num, by omega, rfl, HBR⟩
          · skip
            skip
            go_wp2_with (first | refine wpList_load_at rfl 38 (.tmp 15) rfl ⟨g15, 0, none⟩ rfl _ (HLV.out w6 HBw6.out) ?_ | refine wpListw_load_at rfl 38 (.tmp 15) rfl ⟨g15, 0, none⟩ rfl _ (HLV.out w6 HBw6.out) ?_)
            refine (HHO.out w6 HBw6.out).mono ?_
            rintro e w7 ⟨rfl, hb⟩
            have HBw7 := Lib.hid hb
            clear hb
            go_wp2_with (first | refine wpList_load_at rfl 38 (.tmp 15) rfl ⟨g15, 0, none⟩ rfl _ (HLV.out w7 HBw7.out) ?_ | refine wpListw_load_at rfl 38 (.tmp 15) rfl ⟨g15, 0, none⟩ rfl _ (HLV.out w7 HBw7.out) ?_)
            refine (HHN.out w7 HBw7.out).mono ?_
            rintro e w8 ⟨rfl, hb⟩
            have HBw8 := Lib.hid hb
            clear hb
            have HBR : Hid (Below wb.heap.size wb w8) := Lib.hid (HB03.out.trans (HBw8.out.mono HB03.out.size))
            go_wp2_with fail
            go_roundg (n - (i + 1))
            case measure => omega
            case rel => exact ⟨i + 1, by go_num, by omega, rfl, HBR⟩
      · have h200I : ¬ (i : Int) < 200 := by omega
        go_wp2_with fail
        go_ret
        exact ⟨rfl, HBW.out⟩
    · have hni : ¬ (i : Int) < (n : Int) := by omega
      go_wp2_with fail
      go_ret
      exact ⟨rfl, HBW.out⟩
end Go.Proofs.YteeijjhgdplifaaGreatDoor
