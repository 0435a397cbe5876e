/- The document's ranges: Parse. -/
import Derived.Test.YteeijjhgdplifaaGreatDoorTV
import Derived.Test.YteeijjhgdplifaaGreatDoorTX
import Derived.Test.YteeijjhgdplifaaGreatDoorTL
namespace Go.Proofs.YteeijjhgdplifaaGreatDoor
open Go.RowKit

theorem tm_seven {t : Tm} (h : t.2.Ok) : ∃ x0 x1 x2 x3, (Tm.cells t).toArray = #[.string (bl t.1), .int .i64 x0, .int .i64 x1, .int .i64 x2, .int .i64 x3, .int .i64 t.2.c, .string (bl t.2.t)] := by
  obtain ⟨a, b, c, d, e⟩ := Ver.four h
  exact ⟨a, b, c, d, by unfold Tm.cells tcells Ver.cells; rw [e]; rfl⟩
theorem laid_tm (w : World) (t : Tm) : Blk ((w.alloc (.cells zt 64)).setRow w.heap.size (Tm.cells t).toArray) w.heap.size 64 (Tm.cells t) ∧ Below w.heap.size w ((w.alloc (.cells zt 64)).setRow w.heap.size (Tm.cells t).toArray) := by
  have h1 : Below w.heap.size w (w.alloc (.cells zt 64)) := (Below.refl _ _).alloc (Nat.le_refl _) _
  exact ⟨(Blk.new w _ _).setRow_ (Tm.cells t), h1.trans (((Mod.refl (fun b => w.heap.size ≤ b) _).setRow (fun _ => Nat.le_refl _) _).below h1.size (fun _ h => h))⟩
/-- a term on both sides -/
theorem term_two (x : List UInt8) : (refTerm x).isSome = (termP x).isSome ∧ ∀ T : Tm, refTerm x = some T → TOk T ∧ ∀ w : Ver, w.Ok → hasX x ⟨1, w⟩ = hasT T.1 T.2 w := by
  rcases term_alike x with ⟨h1, h2⟩ | ⟨cs, op, v, h1, h2, hv, ht, _, hp, hop, hm⟩
  · rw [h1, h2]
    exact ⟨rfl, fun T h => (by cases h)⟩
  · rw [h1, h2]
    refine ⟨rfl, fun T h => ?_⟩
    obtain rfl : (op, v) = T := Option.some.inj h
    refine ⟨⟨hop, hv, ht, hm⟩, fun w hw => ?_⟩
    unfold hasX
    rw [h1]
    exact hp w hw
set_option maxRecDepth 100000 in
set_option maxHeartbeats 8000000 in
theorem refRange_ok (s : ByteArray) (hs : s.size ≤ 4000000000) (w : World) : Calls Tryz.prog 15 #[.string s] w fun e w' => ∃ A c n, e = .returned (.tuple #[.slice A n c, .int .i64 (errP s.data.toList)]) ∧ (okP s.data.toList = true → ∃ tss vals, TTRow w' w.heap.size A c n tss vals ∧ n ≤ 16 ∧ (∀ ts ∈ tss, ts.length ≤ 16) ∧ ∀ x : Ver, x.Ok → hasTss tss x = hasP s.data.toList ⟨1, x⟩) ∧ Below w.heap.size w w' := by
  obtain ⟨ER, hER⟩ : ∃ ER, ER = errP s.data.toList := ⟨_, rfl⟩
  rw [← hER]
  have HER := Lib.hid hER
  have HBAD : Hid (okP s.data.toList = false → ER = 21) := Lib.hid (fun h => by rw [hER]; unfold errP; rw [h]; rfl)
  obtain ⟨L, hL⟩ : ∃ L, L = splitC 124 s.data.toList := ⟨_, rfl⟩
  have HL := Lib.hid hL
  have HLE : Hid (∀ x ∈ L, x.length ≤ 4000000000) := Lib.hid (fun x hx => by rw [hL] at hx; have := splitC_le hx; have := Lib.size_eq s; omega)
  have hcut := refCut_ok s 124 hs w
  rw [← hL] at hcut
  have HCUT : Hid (Calls Tryz.prog 31 #[.string s, .int .u8 124] w fun e w' => ∃ A cp n, e = .returned (.slice A n cp) ∧ SRow w' w.heap.size A cp n L ∧ Below w.heap.size w w') := Lib.hid hcut
  clear hER hL hs hcut
  go_enter Tryz.func15, Tryz.ntmps15
  go_wp2_with fail
  refine HCUT.out.mono ?_
  rintro e w1 ⟨A5, c5, n, rfl, hsr, hb1⟩
  have HN : Hid (L.length = n) := Lib.hid hsr.1
  have HSR := Lib.hid hsr
  have HB1 := Lib.hid hb1
  clear hsr hb1 HCUT
  by_cases h16 : 16 < n
  · have h16I : 16 < (n : Int) := by omega
    have HBD : Hid (okP s.data.toList = false) := Lib.hid (by rw [okP_eq, ← HL.out, HN.out, decide_eq_false (by omega)]; rfl)
    go_wp2_with fail
    go_ret2
    exact ⟨none, 0, 0, by rw [HBAD.out HBD.out]; rfl, fun h => (by rw [HBD.out] at h; cases h), HB1.out⟩
  have h16I : ¬ 16 < (n : Int) := by omega
  have HT0 : Hid (TTRow w1 w.heap.size none 0 0 [] []) := Lib.hid (TTRow.nil_ w1 _)
  have HH0 : Hid (∀ x : Ver, x.Ok → hasTss [] x = (L.take 0).any (hasA · ⟨1, x⟩)) := Lib.hid (fun x _ => rfl)
  have HM0 : Hid (∀ ts ∈ ([] : List (List Tm)), ts.length ≤ 16) := Lib.hid (fun ts h => by cases h)
  have HA0 : Hid ((L.take 0).all okA = true) := Lib.hid rfl
  go_wp2_with fail
  go_loopg [6, 4] n (fun kq iv sv wr => ∃ (i : Nat) (A : Option Addr) (c : Nat) (tss : List (List Tm)) (vals : List Value), iv = .int .i64 i ∧ sv = .slice A i c ∧ i ≤ n ∧ kq = n - i ∧ Hid (TTRow wr w.heap.size A c i tss vals) ∧ Hid (∀ x : Ver, x.Ok → hasTss tss x = (L.take i).any (hasA · ⟨1, x⟩)) ∧ Hid (∀ ts ∈ tss, ts.length ≤ 16) ∧ Hid ((L.take i).all okA = true) ∧ Hid (SRow wr w.heap.size A5 c5 n L) ∧ Hid (Below w.heap.size w wr))
  case atStart => exact ⟨0, none, 0, [], [], rfl, rfl, Nat.zero_le _, rfl, HT0, HH0, HM0, HA0, HSR, HB1⟩
  case round =>
  clear HT0 HH0 HM0 HA0 HSR HB1
  obtain ⟨i, A, c, tss, vals, rfl, rfl, hi, rfl, HT, HH, HM, HA, HSR, HB⟩ := hrel
  by_cases hlt : i < n
  · have hltI : (i : Int) < (n : Int) := by omega
    have hi0 : 0 ≤ (i : Int) := by omega
    obtain ⟨gA, rfl, hrd⟩ := HSR.out.reads (by omega)
    obtain ⟨a, ha⟩ : ∃ a, L[i]? = some a := ⟨_, List.getElem?_eq_getElem (by rw [HN.out]; exact hlt)⟩
    have HAM : Hid (a ∈ splitC 124 s.data.toList) := Lib.hid (by rw [← HL.out]; exact List.mem_of_getElem? ha)
    have HAL : Hid (a.length ≤ 4000000000) := Lib.hid (HLE.out a (List.mem_of_getElem? ha))
    have HTK : Hid (L.take (i + 1) = L.take i ++ [a]) := Lib.hid (by rw [List.take_add_one, ha]; rfl)
    obtain ⟨X, hX⟩ : ∃ X, X = bl a := ⟨_, rfl⟩
    have c0 := hrd i a ha
    rw [← hX] at c0
    obtain ⟨M, hM⟩ : ∃ M, M = splitC 44 a := ⟨_, rfl⟩
    have HM' := Lib.hid hM
    have HLE2 : Hid (∀ x ∈ M, x.length ≤ 4000000000) := Lib.hid (fun x hx => by rw [hM] at hx; have := splitC_le hx; have := HAL.out; omega)
    have hcut := refCut_ok X 44 (by have := HAL.out; rw [hX, bl_size]; omega) wr
    rw [show X.data.toList = a by rw [hX], ← hM] at hcut
    have HCUT : Hid (Calls Tryz.prog 31 #[.string X, .int .u8 44] wr fun e w' => ∃ A cp n, e = .returned (.slice A n cp) ∧ SRow w' wr.heap.size A cp n M ∧ Below wr.heap.size wr w') := Lib.hid hcut
    clear hrd ha hX hM hcut
    go_wp2_with fail
    refine HCUT.out.mono ?_
    rintro e w7 ⟨A7, c7, m, rfl, hsr7, hb7⟩
    have HMN : Hid (M.length = m) := Lib.hid hsr7.1
    have HSR7 := Lib.hid hsr7
    have HB7 : Hid (Below w.heap.size w w7) := Lib.hid (HB.out.trans (hb7.mono HB.out.size))
    have HT7 := Lib.hid (HT.out.below hb7)
    have HSRA := Lib.hid (HSR.out.below hb7)
    clear hsr7 hb7 HCUT c0 HT HSR HB
    by_cases h16m : 16 < m
    · have h16mI : 16 < (m : Int) := by omega
      have HBD : Hid (okP s.data.toList = false) := Lib.hid (okP_bad HAM.out (by unfold okA; rw [← HM'.out, HMN.out, decide_eq_false (by omega)]; rfl))
      go_wp2_with fail
      go_ret2
      exact ⟨none, 0, 0, by rw [HBAD.out HBD.out]; rfl, fun h => (by rw [HBD.out] at h; cases h), HB7.out⟩
    have h16mI : ¬ 16 < (m : Int) := by omega
    have HT0 : Hid (TRow w7 w7.heap.size none 0 0 []) := Lib.hid (TRow.nil_ w7 _)
    have HH0 : Hid (∀ x : Ver, x.Ok → hasTs [] x = (M.take 0).all (hasX · ⟨1, x⟩)) := Lib.hid (fun x _ => rfl)
    have HA0 : Hid (((M.take 0).all fun x => (termP x).isSome) = true) := Lib.hid rfl
    have HB70 : Hid (Below w7.heap.size w7 w7) := Lib.hid (Below.refl _ _)
    go_wp2_with fail
    go_loopg [9, 8] m (fun kq jv sv wr => ∃ (j : Nat) (A8 : Option Addr) (c8 : Nat) (ts : List Tm), jv = .int .i64 j ∧ sv = .slice A8 j c8 ∧ j ≤ m ∧ kq = m - j ∧ Hid (TRow wr w7.heap.size A8 c8 j ts) ∧ Hid (∀ x : Ver, x.Ok → hasTs ts x = (M.take j).all (hasX · ⟨1, x⟩)) ∧ Hid (((M.take j).all fun x => (termP x).isSome) = true) ∧ Hid (Below w7.heap.size w7 wr))
    case atStart => exact ⟨0, none, 0, [], rfl, rfl, Nat.zero_le _, rfl, HT0, HH0, HA0, HB70⟩
    case round =>
    clear HT0 HH0 HA0 HB70
    obtain ⟨j, A8, c8, ts, rfl, rfl, hj, rfl, HT8, HH8, HA8, HB8⟩ := hrel
    have HBW8 : Hid (Below w.heap.size w wr) := Lib.hid (HB7.out.trans (HB8.out.mono HB7.out.size))
    by_cases hltm : j < m
    · have hltmI : (j : Int) < (m : Int) := by omega
      have hj0 : 0 ≤ (j : Int) := by omega
      obtain ⟨gT, rfl, hrd⟩ := (HSR7.out.below HB8.out).reads (by omega)
      obtain ⟨x, hx⟩ : ∃ x, M[j]? = some x := ⟨_, List.getElem?_eq_getElem (by rw [HMN.out]; exact hltm)⟩
      have HXM : Hid (x ∈ splitC 44 a) := Lib.hid (by rw [← HM'.out]; exact List.mem_of_getElem? hx)
      have hxl := HLE2.out x (List.mem_of_getElem? hx)
      have HTKM : Hid (M.take (j + 1) = M.take j ++ [x]) := Lib.hid (by rw [List.take_add_one, hx]; rfl)
      obtain ⟨Y, hY⟩ : ∃ Y, Y = bl x := ⟨_, rfl⟩
      have c0 := hrd j x hx
      rw [← hY] at c0
      obtain ⟨OK, hOK⟩ : ∃ OK, OK = (refTerm x).isSome := ⟨_, rfl⟩
      have HTM : Hid (Calls Tryz.prog 32 #[.string Y] wr fun e w' => ∃ T : Tm, e = .returned (.tuple #[.agg (Tm.cells T).toArray, .bool OK]) ∧ T.2.Ok ∧ (∀ T', refTerm x = some T' → T = T') ∧ Below wr.heap.size wr w') := Lib.hid (by
        have := refTerm_ok Y (by rw [hY, bl_size]; exact hxl) wr
        rw [show Y.data.toList = x by rw [hY]] at this
        rw [hOK]; exact this)
      have HOK := Lib.hid hOK
      clear hrd hx hxl hY hOK
      go_wp2_with fail
      refine HTM.out.mono ?_
      rintro e w9 ⟨T, rfl, hTo, hTe, hb9⟩
      obtain ⟨g10, hg10⟩ : ∃ g10, g10 = w9.heap.size := ⟨_, rfl⟩
      obtain ⟨wa, hwa⟩ : ∃ wa, wa = (w9.alloc (.cells zt 64)).setRow g10 (Tm.cells T).toArray := ⟨_, rfl⟩
      have q := laid_tm w9 T
      have hba : Below w9.heap.size w9 wa := by rw [hwa, hg10]; exact q.2
      have k10 : Blk wa g10 64 (Tm.cells T) := by rw [hwa, hg10]; exact q.1
      have hb8a : Below wr.heap.size wr wa := hb9.trans (hba.mono hb9.size)
      have HBA : Hid (Below w7.heap.size w7 wa) := Lib.hid (HB8.out.trans (hb8a.mono HB8.out.size))
      have HBWA : Hid (Below w.heap.size w wa) := Lib.hid (HBW8.out.trans (hb8a.mono HBW8.out.size))
      have HTA := Lib.hid (HT8.out.below hb8a)
      have e7 : (Tm.cells T).toArray.size = 7 := by simpa using Tm.cells_len hTo
      have HZ : Hid ((w9.alloc (.cells zt 64)).heap[g10]? = some (.cells zt 64 (0, 0))) := Lib.hid (by rw [hg10]; exact heap_alloc_new _ _)
      have HIT : Hid ((Tryz.prog.info? 64).map (·.size) = some (Tm.cells T).toArray.size) := Lib.hid (by rw [e7]; kernel_rfl)
      have HZT : Hid (zt.size = (Tm.cells T).toArray.size) := Lib.hid (by rw [e7]; rfl)
      have HONT : Hid ((Tm.cells T).toArray.all (·.oneCell') = true) := Lib.hid (all_oneCell_toArray (Tm.cells_one _))
      have HLT0 := tmload k10 hTo
      have HG10 := Lib.hid hg10
      have HWA := Lib.hid hwa
      have HTO := Lib.hid hTo
      have HTE := Lib.hid hTe
      clear hTo hTe hb9 hg10 hwa q hba k10 hb8a e7 c0 HT8 HB8 HBW8 HTM
      go_upto_region 16 with (refine wpList_store_row rfl 64 (.tmp 10) (.tmp 43) rfl g10 (Tm.cells T).toArray (by rw [HG10.out]; rfl) rfl _ _ HZ.out HIT.out HZT.out HONT.out ?_)
      rw [← HG10.out, ← HWA.out]
      have htwo := term_two x
      cases hr : refTerm x with
      | none =>
        have hok : OK = false := by rw [HOK.out, hr]; rfl
        have HBD : Hid (okP s.data.toList = false) := Lib.hid (okP_bad HAM.out (okA_bad HXM.out (by
          have := htwo.1
          rw [hr] at this
          cases h : termP x with
          | none => rfl
          | some cs => rw [h] at this; cases this)))
        subst hok
        clear hr htwo HLT0
        go_wp2_with fail
        go_ret2
        exact ⟨none, 0, 0, by rw [HBAD.out HBD.out]; rfl, fun h => (by rw [HBD.out] at h; cases h), HBWA.out⟩
      | some T' =>
        obtain rfl : T = T' := HTE.out T' hr
        have hok : OK = true := by rw [HOK.out, hr]; rfl
        have h2 := htwo.2 T hr
        have HTS : Hid ((termP x).isSome = true) := Lib.hid (by rw [← htwo.1, hr]; rfl)
        have HTOK := Lib.hid h2.1
        have HHX := Lib.hid h2.2
        subst hok
        obtain ⟨x0, x1, x2, x3, ex⟩ := tm_seven HTO.out
        obtain ⟨wb, hwb⟩ : ∃ wb, wb = wa.alloc (.cells #[.string (bl T.1), .int .i64 x0, .int .i64 x1, .int .i64 x2, .int .i64 x3, .int .i64 T.2.c, .string (bl T.2.t)] 64) := ⟨_, rfl⟩
        have hbb : Below wa.heap.size wa wb := by rw [hwb]; exact (Below.refl _ _).alloc (Nat.le_refl _) _
        have kb : Blk wb wa.heap.size 64 (Tm.cells T) := by
          rw [hwb, show Tm.cells T = (Tm.cells T).toArray.toList from rfl, ex]
          exact Blk.new _ _ _
        obtain ⟨A9, c9, wc, hap, hrc, hbc⟩ := (HTA.out.below hbb).app (HBA.out.trans (hbb.mono HBA.out.size)) h2.1 (Sl.of_blk kb 7 1 1 (by rw [Tm.cells_len HTO.out]) (Nat.le_refl _)) (by omega)
        rw [ex] at HLT0
        have HLT := Lib.hid HLT0
        have HAP := Lib.hid hap
        have HRC := Lib.hid hrc
        have HBC := Lib.hid hbc
        have HWB := Lib.hid hwb
        have HHN : Hid (∀ v : Ver, v.Ok → hasTs (ts ++ [T]) v = (M.take (j + 1)).all (hasX · ⟨1, v⟩)) := Lib.hid (fun v hv => by
          have h1 := HH8.out v hv
          have h3 := HHX.out v hv
          rw [HTKM.out]
          unfold hasTs at h1 ⊢
          rw [List.all_append, List.all_append, h1]
          simp only [List.all_cons, List.all_nil, Bool.and_true, h3])
        have HAN : Hid (((M.take (j + 1)).all fun x => (termP x).isSome) = true) := Lib.hid (by rw [HTKM.out, List.all_append, HA8.out]; simp only [List.all_cons, List.all_nil, Bool.and_true, HTS.out])
        clear hr htwo h2 ex hwb hbb kb hap hrc hbc HLT0
        go_wp2_with (first | refine wpList_load_at rfl 64 (.tmp 10) rfl ⟨g10, 0, none⟩ rfl _ HLT.out ?_ | (at_builtin; (try rw [← HWB.out]); refine wpList_app_run _ rfl (.tmp 47) (.tmp 49) 62 62 rfl _ _ rfl rfl _ _ HAP.out ?_))
        go_roundg (m - (j + 1))
        case measure => omega
        case rel => exact ⟨j + 1, A9, c9, ts ++ [T], by go_num, rfl, by omega, rfl, HRC, HHN, HAN, HBC⟩
    · obtain rfl : j = m := by omega
      have hni : ¬ (j : Int) < (j : Int) := by omega
      have HTA : Hid (M.take j = M) := Lib.hid (List.take_of_length_le (by rw [HMN.out]; exact Nat.le_refl _))
      have HOA : Hid (okA a = true) := Lib.hid (by
        have h := HA8.out
        rw [HTA.out, HM'.out] at h
        unfold okA
        rw [h, ← HM'.out, HMN.out, decide_eq_true (by omega)]
        rfl)
      have HPA : Hid (∀ v : Ver, v.Ok → hasTs ts v = hasA a ⟨1, v⟩) := Lib.hid (fun v hv => by rw [HH8.out v hv, HTA.out, HM'.out]; rfl)
      have hlen := HT8.out.1
      obtain ⟨wb, hwb⟩ : ∃ wb, wb = wr.alloc (.cells #[.slice A8 j c8] 62) := ⟨_, rfl⟩
      have hbb : Below wr.heap.size wr wb := by rw [hwb]; exact (Below.refl _ _).alloc (Nat.le_refl _) _
      have kb : Blk wb wr.heap.size 62 [.slice A8 ts.length c8] := by rw [hwb, hlen]; exact Blk.new _ _ _
      have htr : TRow wb w.heap.size A8 c8 ts.length ts := by rw [hlen]; exact (HT8.out.below hbb).lower HB7.out.size
      obtain ⟨A9, c9, wc, hap, hrc, hbc, hkeep⟩ := ((HT7.out.below HB8.out).below hbb).app (HBW8.out.trans (hbb.mono HBW8.out.size)) htr (Sl.of_blk kb 1 1 1 rfl (Nat.le_refl _)) (by omega)
      have HSC := Lib.hid (hkeep _ _ _ _ _ ((HSRA.out.below HB8.out).below hbb))
      have HAP := Lib.hid hap
      have HRC := Lib.hid hrc
      have HBC := Lib.hid hbc
      have HWB := Lib.hid hwb
      have HHN : Hid (∀ x : Ver, x.Ok → hasTss (tss ++ [ts]) x = (L.take (i + 1)).any (hasA · ⟨1, x⟩)) := Lib.hid (fun x hx => by
        have h1 := HH.out x hx
        have h2 := HPA.out x hx
        rw [HTK.out]
        unfold hasTss at h1 ⊢
        rw [List.any_append, List.any_append, h1]
        simp only [List.any_cons, List.any_nil, Bool.or_false, h2])
      have HMX : Hid (∀ us ∈ tss ++ [ts], us.length ≤ 16) := Lib.hid (fun us hu => by
        rcases List.mem_append.1 hu with hu | hu
        · exact HM.out us hu
        · rw [List.mem_singleton.1 hu, hlen]; omega)
      have HAN : Hid ((L.take (i + 1)).all okA = true) := Lib.hid (by rw [HTK.out, List.all_append, HA.out]; simp only [List.all_cons, List.all_nil, Bool.and_true, HOA.out])
      clear hwb hbb kb htr hap hrc hbc hkeep hlen
      go_wp2_with (at_builtin; (try rw [← HWB.out]); refine wpList_app_run _ rfl (.tmp 51) (.tmp 53) 32 32 rfl _ _ rfl rfl _ _ HAP.out ?_)
      go_roundg (n - (i + 1))
      case measure => omega
      case rel => exact ⟨i + 1, A9, c9, tss ++ [ts], _, by go_num, rfl, by omega, rfl, HRC, HHN, HMX, HAN, HSC, HBC⟩
  · obtain rfl : i = n := by omega
    have hni : ¬ (i : Int) < (i : Int) := by omega
    have HTA : Hid (L.take i = L) := Lib.hid (List.take_of_length_le (by rw [HN.out]; exact Nat.le_refl _))
    have HOP : Hid (okP s.data.toList = true) := Lib.hid (by
      have h := HA.out
      rw [HTA.out] at h
      rw [okP_eq, ← HL.out, h, HN.out, decide_eq_true (by omega)]
      rfl)
    have HER0 : Hid (ER = 0) := Lib.hid (by rw [HER.out]; unfold errP; rw [HOP.out]; rfl)
    have HFIN : Hid (∀ x : Ver, x.Ok → hasTss tss x = hasP s.data.toList ⟨1, x⟩) := Lib.hid (fun x hx => by rw [HH.out x hx, HTA.out, HL.out]; rfl)
    clear HH HA HSR
    go_wp2_with fail
    go_ret2
    exact ⟨A, c, i, by rw [HER0.out]; rfl, fun _ => ⟨tss, ⟨vals, HT.out⟩, by omega, HM.out, HFIN.out⟩, HB.out⟩
end Go.Proofs.YteeijjhgdplifaaGreatDoor
