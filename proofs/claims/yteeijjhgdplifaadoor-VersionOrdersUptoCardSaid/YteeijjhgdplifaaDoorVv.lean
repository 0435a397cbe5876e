/- Go's in-place stable merge over a row of texts, by version.Sort's comparison. -/
import Derived.Test.YteeijjhgdplifaaDoorVu
namespace Go.Proofs.YteeijjhgdplifaaDoor
open Go.RowKit

set_option maxRecDepth 100000 in
set_option maxHeartbeats 4000000 in
/-- one text ahead of a row -/
theorem symOneL_ok (w0 : World) (g : Nat) (sl : List Value) (P : List (List UInt8)) (x : List UInt8) (R S : List (List UInt8)) (L a m b c : Nat) (ha : P.length = a) (hm : a + 1 = m) (hb : m + R.length = b) (hL : (P ++ (x :: (R ++ S))).length = L) (hX : L ≤ 4000000000) (hc : L ≤ c) (hxs : x.length ≤ 4000000000) (hsh : Short R) (hris : Ris vle R) (w : World) (hin : In w0 g w) (h : Row w g sl (P ++ (x :: (R ++ S)))) :
    Calls Tryd.prog 94 #[.slice (some ⟨g, 0, none⟩) L c, .int .i64 a, .int .i64 m, .int .i64 b, fcmp] w fun e w' => e = .returned (.tuple #[]) ∧ Row w' g sl (P ++ (mrg vle [x] R ++ S)) ∧ Mod (fun i => i = g) w w' := by
  have hl0 : P.length + 1 + R.length + S.length = L := by rw [← hL]; simp; omega
  have hbL : b ≤ L := by omega
  have hmb : m ≤ b := by omega
  have ham : a < m := by omega
  have w1 : IntKind.i64.wrap ((m : Int) - (a : Int)) = 1 := by rw [IntKind.wrap_i64]; omega
  have H0 : Hid (∃ R1 R2, R1 ++ R2 = R ∧ m + R1.length = m ∧ (∀ y ∈ R1, vle x y = false)) := Lib.hid ⟨[], R, rfl, rfl, by simp⟩
  have H1 : Hid (∃ R1 R2, R1 ++ R2 = R ∧ m + R1.length = b ∧ (∀ y ∈ R2, vle x y = true)) := Lib.hid ⟨R, [], List.append_nil _, hb, by simp⟩
  have HB0 : Hid (Below w.heap.size w w) := Lib.hid (Below.refl _ _)
  have HA := Lib.hid ha
  have HMA := Lib.hid hm
  have HBB := Lib.hid hb
  have HL0 := Lib.hid hl0
  have HR := Lib.hid h
  have HIN := Lib.hid hin
  have HXS := Lib.hid hxs
  have HSH := Lib.hid hsh
  have HRIS := Lib.hid hris
  clear ha hm hb hL h hin hxs hsh hris hl0
  go_enter Tryd.func94, Tryd.ntmps94
  go_wp2_with fail
  go_loopg [10, 11, 12] (b - m) (fun kq iv jv hv wr => ∃ i j : Nat, iv = .int .i64 i ∧ jv = .int .i64 j ∧ m ≤ i ∧ i ≤ j ∧ j ≤ b ∧ kq = j - i ∧ Hid (∃ R1 R2, R1 ++ R2 = R ∧ m + R1.length = i ∧ (∀ y ∈ R1, vle x y = false)) ∧ Hid (∃ R1 R2, R1 ++ R2 = R ∧ m + R1.length = j ∧ (∀ y ∈ R2, vle x y = true)) ∧ Hid (Below w.heap.size w wr))
  case atStart => exact ⟨m, b, rfl, rfl, Nat.le_refl _, hmb, Nat.le_refl _, rfl, H0, H1, HB0⟩
  case round =>
  clear H0 H1 HB0 w1
  obtain ⟨i, j, rfl, rfl, hmi, hij, hjb, rfl, H0, H1, HB⟩ := hrel
  by_cases hlt : i < j
  · have hltI : (i : Int) < (j : Int) := by omega
    obtain ⟨h, hh⟩ : ∃ h, h = (i + j) / 2 := ⟨_, rfl⟩
    have him : i ≤ h := by omega
    have hhj : h < j := by omega
    have e2 : ((i : Int) + (j : Int)) / 2 = (h : Int) := by omega
    obtain ⟨r, hr⟩ : ∃ r, m + r = h := ⟨h - m, by omega⟩
    have hRl : m + R.length = b := HBB.out
    obtain ⟨y, hy⟩ : ∃ y, R[r]? = some y := ⟨_, List.getElem?_eq_getElem (by omega)⟩
    have hys : R = R.take r ++ (y :: R.drop (r + 1)) := by
      obtain ⟨h1, h2⟩ := List.getElem?_eq_some_iff.1 hy
      have e := (List.take_append_drop r R).symm
      rw [List.drop_eq_getElem_cons h1, h2] at e
      exact e
    have htr : (R.take r).length = r := by rw [List.length_take]; omega
    have HSU : Hid (y.length ≤ 4000000000) := Lib.hid (HSH.out.get hy)
    have HSV : Hid (x.length ≤ 4000000000) := HXS
    have kr := HR.out.below HB.out
    have HU : Hid (wr.cell? ⟨g, h, none⟩ = some (.string (bl y))) := Lib.hid (kr.cell (by
      have := get_mid (P ++ [x]) (R.take r) y (R.drop (r + 1) ++ S) (j := h) (by rw [List.length_append, HA.out, htr]; have := HMA.out; simp; omega)
      rw [← this]
      congr 1
      conv => lhs; rw [hys]
      simp))
    have HV : Hid (wr.cell? ⟨g, a, none⟩ = some (.string (bl x))) := Lib.hid (kr.cell (get_mid P [] x (R ++ S) (j := a) (by rw [HA.out]; rfl)))
    have HGW : Hid (GV wr) := Lib.hid (HIN.out.gvw.below HB.out)
    have hhL : (h : Int) < (L : Int) := by omega
    have haL : (a : Int) < (L : Int) := by omega
    have hh0 : 0 ≤ (h : Int) := by omega
    have ha0 : 0 ≤ (a : Int) := by omega
    have HRR := Lib.hid hr
    have HRl := Lib.hid hRl
    have HYS := Lib.hid hys
    have HTR := Lib.hid htr
    have HE2 := Lib.hid e2
    clear hh hr hRl hy hys htr kr e2
    go_upto_region 5 with fail
    rw [HE2.out]
    obtain ⟨wd, hwd⟩ : ∃ wd, wd = wr.drew := ⟨_, rfl⟩
    have HCD : Hid (wd.cell? ⟨g, h, none⟩ = some (.string (bl y)) ∧ wd.cell? ⟨g, a, none⟩ = some (.string (bl x))) := Lib.hid (by rw [hwd]; exact ⟨HU.out, HV.out⟩)
    have HGD : Hid (GV wd) := Lib.hid (by rw [hwd]; exact HGW.out.below ((Below.refl _ _).drew))
    have HWD : Hid (Below wr.heap.size wr wd) := Lib.hid (by rw [hwd]; exact (Below.refl _ _).drew)
    try simp only [Act.put, List.setIfInBounds_toArray, List.set_cons_zero, List.set_cons_succ]
    obtain ⟨Inv, hInv⟩ : ∃ Inv : Done → World → Prop, Inv = Chain1 9 (fun wI => wI = wd) (fun xv wI => xv = .int .i64 (cfn y x) ∧ Below wd.heap.size wd wI) := ⟨_, rfl⟩
    have HI := Lib.hid hInv
    have hcz : Hid (∀ τ wI, Inv τ wI → τ 9 = none → wI.cell? ⟨g, h, none⟩ = some (.string (bl y)) ∧ wI.cell? ⟨g, a, none⟩ = some (.string (bl x))) := by
      intro τ wI h h9
      rw [hInv] at h
      obtain rfl := h.upto0 h9
      exact HCD.out
    have H00 : Hid (Inv Done.none wr.drew) := by rw [hInv]; exact Chain1.start hwd.symm
    clear hInv hwd
    refine wp_region_inv (by kernel_rfl) [⟨0, false, [], [9]⟩, ⟨1, false, [], [9]⟩, ⟨2, false, [], [9]⟩, ⟨3, false, [], [9]⟩, ⟨4, false, [], [9]⟩, ⟨5, false, [], [9]⟩, ⟨6, false, [], [9]⟩, ⟨7, false, [], [9]⟩, ⟨8, false, [], [9]⟩, ⟨9, true, [], []⟩, ⟨10, false, [9], []⟩] (by kernel_rfl) Inv (fun i v => i = 9 → ∃ n : Int, v = .int .i64 n) (fun _ => ⟨.int .i64 0, fun _ => ⟨0, rfl⟩⟩) H00.out ?_
    iterate 9 (apply WpI.pure; (simp only [List.getElem?_toArray, List.getElem?_cons_succ, List.getElem?_cons_zero]; rfl); (intro τ wI hA hI; obtain ⟨f0, f1⟩ := hcz.out τ wI hI (hA.2 9 (by decide)); go_simp; exact ⟨hI, Is.rfl'⟩); simp only [Act.put, List.setIfInBounds_toArray, List.set_cons_zero, List.set_cons_succ])
    apply WpI.effect; (simp only [List.getElem?_toArray, List.getElem?_cons_succ, List.getElem?_cons_zero]; rfl)
    · intro τ wI hA hn hI
      have h0 := hI
      rw [HI.out] at h0
      have hK := h0.at0 hn
      have HT := Lib.hid (And.intro True.intro (True.intro))
      clear hA hn hI h0
      subst hK
      go_simp
      refine (cmpf_ok y x HSU.out HSV.out wI HGD.out).mono ?_
      rintro e w' ⟨rfl, hb'⟩
      refine ⟨_, rfl, ⟨_, rfl⟩, ?_⟩
      rw [HI.out]
      exact Chain1.put1  ⟨rfl, hb'⟩
    intro v9 hv9
    simp only [Act.put, List.setIfInBounds_toArray, List.set_cons_zero, List.set_cons_succ]
    obtain ⟨n9, rfl⟩ := hv9 rfl
    (apply WpI.pure; (simp only [List.getElem?_toArray, List.getElem?_cons_succ, List.getElem?_cons_zero]; rfl); (intro τ wI hA hI; go_simp; exact ⟨hI, Is.rfl'⟩); simp only [Act.put, List.setIfInBounds_toArray, List.set_cons_zero, List.set_cons_succ])
    refine WpI.done ?_
    intro w8 hI
    rw [HI.out] at hI
    have hE := hI.end_
    obtain ⟨ev, hbw⟩ := hE
    have en : n9 = cfn y x := by injection ev
    have HB8 : Hid (Below wr.heap.size wr w8) := Lib.hid (HWD.out.trans (hbw.mono HWD.out.size))
    clear hI hbw ev H00 hcz HI HCD HGD HWD
    have HBN : Hid (Below w.heap.size w w8) := Lib.hid (HB.out.trans (HB8.out.mono HB.out.size))
    clear HU HV HGW HB HB8
    cases hv : vle x y with
    | true =>
      have hn : ¬ n9 < 0 := by rw [en]; exact cfn_pos hv
      have HN : Hid (∃ R1 R2, R1 ++ R2 = R ∧ m + R1.length = h ∧ (∀ y ∈ R2, vle x y = true)) := Lib.hid ⟨R.take r, y :: R.drop (r + 1), HYS.out.symm, by rw [HTR.out]; exact HRR.out, by
        intro z hz
        rcases List.mem_cons.1 hz with rfl | hz
        · exact hv
        · have h1 : Ris vle (R.take r ++ (y :: R.drop (r + 1))) := by rw [← HYS.out]; exact HRIS.out
          exact vle_pre.tr _ _ _ hv ((List.pairwise_cons.1 (ris_append h1).2.1).1 z hz)⟩
      clear en hv H1
      go_wp2_with fail
      go_roundg (h - i)
      case measure => omega
      case rel => exact ⟨i, h, rfl, rfl, hmi, him, by omega, rfl, H0, HN, HBN⟩
    | false =>
      have hn : n9 < 0 := by rw [en]; exact cfn_neg hv
      have wh : IntKind.i64.wrap ((h : Int) + 1) = ((h + 1 : Nat) : Int) := wr_eq (by omega) (by omega)
      have HN : Hid (∃ R1 R2, R1 ++ R2 = R ∧ m + R1.length = h + 1 ∧ (∀ y ∈ R1, vle x y = false)) := Lib.hid ⟨R.take r ++ [y], R.drop (r + 1), by
          have := HYS.out
          rw [List.append_assoc]; exact this.symm, by rw [List.length_append, HTR.out]; have := HRR.out; simp; omega, by
        intro z hz
        cases hz' : vle x z with
        | false => rfl
        | true =>
          rcases List.mem_append.1 hz with hz | hz
          · have h1 : Ris vle (R.take r ++ (y :: R.drop (r + 1))) := by rw [← HYS.out]; exact HRIS.out
            have h2 := (ris_append h1).2.2 z hz y (by simp)
            rw [vle_pre.tr _ _ _ hz' h2] at hv; exact absurd hv (by decide)
          · rw [List.mem_singleton.1 hz] at hz'; rw [hz'] at hv; exact absurd hv (by decide)⟩
      clear en hv H0
      go_wp2_with fail
      go_roundg (j - (h + 1))
      case measure => omega
      case rel => exact ⟨h + 1, j, rfl, rfl, by omega, by omega, hjb, rfl, HN, H1, HBN⟩
  obtain rfl : i = j := by omega
  obtain ⟨R1, R2, hR, hl1, hA1⟩ := H0.out
  obtain ⟨R1', R2', hR', hl2, hA2⟩ := H1.out
  have hRR : R1 = R1' ∧ R2 = R2' := List.append_inj (hR.trans hR'.symm) (by omega)
  obtain ⟨rfl, rfl⟩ := hRR
  have HMG : Hid (mrg vle [x] R = R1 ++ (x :: R2)) := Lib.hid (by rw [← hR]; exact mrg_one' hA1 hA2)
  obtain ⟨i1, hi1⟩ : ∃ i1, i1 + 1 = i := ⟨i - 1, by omega⟩
  have wi1 : IntKind.i64.wrap ((i : Int) - 1) = (i1 : Int) := wr_eq (by omega) (by omega)
  have K0 : Hid (Row wr g sl (P ++ (R1.take 0 ++ (x :: (R1.drop 0 ++ (R2 ++ S)))))) := Lib.hid (by
    have := HR.out.below HB.out
    rw [← hR, List.append_assoc] at this
    exact this)
  have M0 : Hid (Mod (fun i => i = g) w wr) := Lib.hid (Mod.of_below HB.out)
  obtain ⟨n1, hn1⟩ : ∃ n1, n1 = R1.length := ⟨_, rfl⟩
  have hin1 : i1 = a + n1 := by have := HMA.out; omega
  have hni : n1 ≤ i := by omega
  have HIN1 := Lib.hid hin1
  have HN1 := Lib.hid hn1
  have HI1 := Lib.hid hi1
  have hi1L : i1 < L := by omega
  clear hR hl1 hA1 hR' hl2 hA2 H0 H1 HB hlt hij hi1 hin1 hn1 HR
  go_wp2_with fail
  obtain ⟨wo, hwo⟩ : ∃ wo, wo = wr := ⟨_, rfl⟩
  go_loopg [13] n1 (fun kq kv wr => ∃ t : Nat, kv = .int .i64 ((a + t : Nat) : Int) ∧ t ≤ n1 ∧ kq = n1 - t ∧ Hid (Row wr g sl (P ++ (R1.take t ++ (x :: (R1.drop t ++ (R2 ++ S)))))) ∧ Hid (Mod (fun i => i = g) w wr))
  case atStart => exact ⟨0, rfl, Nat.zero_le _, rfl, K0, M0⟩
  case round =>
  clear K0 M0 hwo
  obtain ⟨t, rfl, htn, rfl, K, HM⟩ := hrel
  obtain ⟨k, hk⟩ : ∃ k, k = a + t := ⟨_, rfl⟩
  rw [← hk]
  have HK := Lib.hid hk
  by_cases htl : t < n1
  · have hki : (k : Int) < (i1 : Int) := by have := HIN1.out; omega
    obtain ⟨kk, hkk⟩ : ∃ kk, kk = k + 1 := ⟨_, rfl⟩
    have wk : IntKind.i64.wrap ((k : Int) + 1) = (kk : Int) := wr_eq (by omega) (by omega)
    have hkL : (k : Int) < (L : Int) := by omega
    have hkkL : (kk : Int) < (L : Int) := by omega
    have hk0 : 0 ≤ (k : Int) := by omega
    have hkk0 : 0 ≤ (kk : Int) := by omega
    obtain ⟨z, hz⟩ : ∃ z, R1[t]? = some z := ⟨_, List.getElem?_eq_getElem (by have := HN1.out; omega)⟩
    obtain ⟨ht1, hz2⟩ := List.getElem?_eq_some_iff.1 hz
    have hdr : R1.drop t = z :: R1.drop (t + 1) := by rw [List.drop_eq_getElem_cons ht1, hz2]
    have htk : R1.take (t + 1) = R1.take t ++ [z] := by rw [List.take_succ_eq_append_getElem ht1, hz2]
    have htl' : (R1.take t).length = t := by rw [List.length_take]; omega
    have HX : Hid (Row wr g sl (P ++ (R1.take t ++ (x :: (z :: (R1.drop (t + 1) ++ (R2 ++ S))))))) := Lib.hid (by have := K.out; rw [hdr] at this; exact this)
    have HPX : Hid ((P ++ (R1.take t ++ (x :: (z :: (R1.drop (t + 1) ++ (R2 ++ S))))))[k]? = some x) := Lib.hid (get_mid _ _ _ _ (by rw [HA.out, htl']; omega))
    have HPY : Hid ((P ++ (R1.take t ++ (x :: (z :: (R1.drop (t + 1) ++ (R2 ++ S))))))[kk]? = some z) := Lib.hid (by
      have := get_mid P (R1.take t ++ [x]) z (R1.drop (t + 1) ++ (R2 ++ S)) (j := kk) (by rw [List.length_append, HA.out, htl']; simp; omega)
      rw [List.append_assoc] at this
      exact this)
    have HTK := Lib.hid htk
    have HTL := Lib.hid htl'
    have HKK := Lib.hid hkk
    clear hz ht1 hz2 hdr htk htl' K hkk hk
    go_upto_region 11 with fail
    obtain ⟨wd, hwd⟩ : ∃ wd, wd = wr.drew := ⟨_, rfl⟩
    obtain ⟨ws1, hs1⟩ : ∃ ws1, ws1 = wd.setCell ⟨g, k, none⟩ (.string (bl z)) := ⟨_, rfl⟩
    obtain ⟨ws2, hs2⟩ : ∃ ws2, ws2 = ws1.setCell ⟨g, kk, none⟩ (.string (bl x)) := ⟨_, rfl⟩
    have kd : Row wd g sl (P ++ (R1.take t ++ (x :: (z :: (R1.drop (t + 1) ++ (R2 ++ S)))))) := by rw [hwd]; exact HX.out.drew
    have k1 : Row ws1 g sl ((P ++ (R1.take t ++ (x :: (z :: (R1.drop (t + 1) ++ (R2 ++ S)))))).set k z) := by rw [hs1]; exact kd.set_ HPX.out z
    have k2 : Row ws2 g sl (swp (P ++ (R1.take t ++ (x :: (z :: (R1.drop (t + 1) ++ (R2 ++ S)))))) k kk) := by rw [hs2, swp_some HPX.out HPY.out]; exact k1.set_lt (Nat.lt_of_lt_of_eq (List.getElem?_eq_some_iff.1 HPY.out).1 List.length_set.symm) x
    have m2 : Mod (fun i => i = g) wr ws2 := by rw [hs2, hs1, hwd]; exact (((Mod.refl (fun i => i = g) wr).drew).setCell (p := ⟨g, k, none⟩) (fun _ => rfl) _).setCell (p := ⟨g, kk, none⟩) (fun _ => rfl) _
    have HCD : Hid (wd.cell? ⟨g, k, none⟩ = some (.string (bl x)) ∧ wd.cell? ⟨g, kk, none⟩ = some (.string (bl z)) ∧ wd.frozen? ⟨g, k, none⟩ = false ∧ g < wd.heap.size) := Lib.hid ⟨kd.cell HPX.out, kd.cell HPY.out, kd.frozen k, kd.lt⟩
    have HC1 : Hid (∃ u, ws1.cell? ⟨g, kk, none⟩ = some u ∧ ws1.frozen? ⟨g, kk, none⟩ = false ∧ g < ws1.heap.size) := Lib.hid (by
      obtain ⟨u, hu⟩ : ∃ u, ((P ++ (R1.take t ++ (x :: (z :: (R1.drop (t + 1) ++ (R2 ++ S)))))).set k z)[kk]? = some u := ⟨_, List.getElem?_eq_getElem (Nat.lt_of_lt_of_eq (List.getElem?_eq_some_iff.1 HPY.out).1 List.length_set.symm)⟩
      exact ⟨_, k1.cell hu, k1.frozen kk, k1.lt⟩)
    have HK2 := Lib.hid k2
    have HM2 := Lib.hid m2
    have HS1 := Lib.hid hs1
    have HS2 := Lib.hid hs2
    clear hs1 hs2 kd k1 k2 m2
    try simp only [Act.put, List.setIfInBounds_toArray, List.set_cons_zero, List.set_cons_succ]
    obtain ⟨Inv, hInv⟩ : ∃ Inv : Done → World → Prop, Inv = Chain2 15 17 (fun wI => wI = wd) (fun _ wI => wI = ws1) (fun _ _ wI => wI = ws2) := ⟨_, rfl⟩
    have HI := Lib.hid hInv
    have hcz : Hid (∀ τ wI, Inv τ wI → τ 15 = none → wI.cell? ⟨g, k, none⟩ = some (.string (bl x)) ∧ wI.cell? ⟨g, kk, none⟩ = some (.string (bl z)) ∧ wI.frozen? ⟨g, k, none⟩ = false ∧ g < wI.heap.size) := by
      intro τ wI h h9
      rw [hInv] at h
      obtain rfl := h.upto0 h9
      exact HCD.out
    have H00 : Hid (Inv Done.none wr.drew) := by rw [hInv]; exact Chain2.start hwd.symm
    clear hInv hwd
    refine wp_region_inv (by kernel_rfl) [⟨0, false, [], [15, 17]⟩, ⟨1, false, [], [15, 17]⟩, ⟨2, false, [], [17]⟩, ⟨3, false, [], [17]⟩, ⟨4, false, [], [17]⟩, ⟨5, false, [], [15, 17]⟩, ⟨6, false, [], [15, 17]⟩, ⟨7, false, [], [15, 17]⟩, ⟨8, false, [], [15, 17]⟩, ⟨9, false, [], [15, 17]⟩, ⟨10, false, [], [15, 17]⟩, ⟨11, false, [], [15, 17]⟩, ⟨12, false, [], [15, 17]⟩, ⟨13, false, [], [15, 17]⟩, ⟨14, false, [], [15, 17]⟩, ⟨15, true, [], [17]⟩, ⟨16, false, [15], [17]⟩, ⟨17, true, [15], []⟩] (by kernel_rfl) Inv (fun _ _ => True) (fun _ => ⟨undef, trivial⟩) H00.out ?_
    iterate 2 (apply WpI.pure; (simp only [List.getElem?_toArray, List.getElem?_cons_succ, List.getElem?_cons_zero]; rfl); (intro τ wI hA hI; obtain ⟨f0, f1, f2, f3⟩ := hcz.out τ wI hI (hA.2 15 (by decide)); go_simp; exact ⟨hI, Is.rfl'⟩); simp only [Act.put, List.setIfInBounds_toArray, List.set_cons_zero, List.set_cons_succ])
    iterate 3 (apply WpI.pure; (simp only [List.getElem?_toArray, List.getElem?_cons_succ, List.getElem?_cons_zero]; rfl); (intro τ wI hA hI; go_simp; exact ⟨hI, Is.rfl'⟩); simp only [Act.put, List.setIfInBounds_toArray, List.set_cons_zero, List.set_cons_succ])
    iterate 10 (apply WpI.pure; (simp only [List.getElem?_toArray, List.getElem?_cons_succ, List.getElem?_cons_zero]; rfl); (intro τ wI hA hI; obtain ⟨f0, f1, f2, f3⟩ := hcz.out τ wI hI (hA.2 15 (by decide)); go_simp; exact ⟨hI, Is.rfl'⟩); simp only [Act.put, List.setIfInBounds_toArray, List.set_cons_zero, List.set_cons_succ])
    apply WpI.effect; (simp only [List.getElem?_toArray, List.getElem?_cons_succ, List.getElem?_cons_zero]; rfl)
    · intro τ wI hA hn hI
      have h0 := hI
      rw [HI.out] at h0
      have h17 : τ 17 = none := hA.2 17 (by decide)
      have hK := h0.at0 hn h17
      have HT := Lib.hid (And.intro True.intro (And.intro h17 (True.intro)))
      clear hA hn hI h0 h17
      subst hK
      obtain ⟨c1, c2, c3, c4⟩ := HCD.out
      go_simp
      rw [← HS1.out, HI.out]
      exact Chain2.put1 HT.out.2.1 (by decide) rfl
    intro v15 hv15
    simp only [Act.put, List.setIfInBounds_toArray, List.set_cons_zero, List.set_cons_succ]
    clear hv15
    (apply WpI.pure; (simp only [List.getElem?_toArray, List.getElem?_cons_succ, List.getElem?_cons_zero]; rfl); (intro τ wI hA hI; go_simp; exact ⟨hI, Is.rfl'⟩); simp only [Act.put, List.setIfInBounds_toArray, List.set_cons_zero, List.set_cons_succ])
    apply WpI.effect; (simp only [List.getElem?_toArray, List.getElem?_cons_succ, List.getElem?_cons_zero]; rfl)
    · intro τ wI hA hn hI
      have h0 := hI
      rw [HI.out] at h0
      have h15 : τ 15 = some v15 := hA.1 15 (by decide)
      have hK := h0.at1 h15 hn
      have HT := Lib.hid (And.intro True.intro (And.intro h15 (True.intro)))
      clear hA hn hI h0 h15
      subst hK
      obtain ⟨u, c1, c3, c4⟩ := HC1.out
      go_simp
      rw [← HS2.out, HI.out]
      exact Chain2.put2 HT.out.2.1 (by decide) rfl
    intro v17 hv17
    simp only [Act.put, List.setIfInBounds_toArray, List.set_cons_zero, List.set_cons_succ]
    clear hv17
    refine WpI.done ?_
    intro w9 hI
    rw [HI.out] at hI
    have hE := hI.end_ (by decide)
    have HX9 : Hid (Row w9 g sl (swp (P ++ (R1.take t ++ (x :: (z :: (R1.drop (t + 1) ++ (R2 ++ S)))))) k kk)) := Lib.hid (by rw [hE]; exact HK2.out)
    have HM9 : Hid (Mod (fun i => i = g) wr w9) := Lib.hid (by rw [hE]; exact HM2.out)
    clear hE hI H00 hcz HI HCD HC1 HS1 HS2 HK2 HM2
    have HXN : Hid (Row w9 g sl (P ++ (R1.take (t + 1) ++ (x :: (R1.drop (t + 1) ++ (R2 ++ S)))))) := Lib.hid (by
      have hk9 := HX9.out
      have e := swp_up (P ++ R1.take t) (R1.drop (t + 1) ++ (R2 ++ S)) x z
      rw [List.length_append, HA.out, HTL.out, ← HK.out, ← HKK.out, List.append_assoc, List.append_assoc] at e
      rw [e] at hk9
      rw [HTK.out, List.append_assoc]
      exact hk9)
    have HMN : Hid (Mod (fun i => i = g) w w9) := Lib.hid (HM.out.trans HM9.out (fun _ _ h => h))
    have wk2 : (kk : Int) = ((a + (t + 1) : Nat) : Int) := by have := HK.out; have := HKK.out; omega
    have HWK := Lib.hid wk2
    clear HX9 HM9 HM HX HPX HPY wk2 HTK HTL
    go_wp2_with fail
    go_roundg (n1 - (t + 1))
    case measure => omega
    case rel => exact ⟨t + 1, by rw [HWK.out], by omega, rfl, HXN, HMN⟩
  · obtain rfl : t = n1 := by omega
    have hki : ¬ (k : Int) < (i1 : Int) := by have := HIN1.out; omega
    have HXE : Hid (Row wr g sl (P ++ (mrg vle [x] R ++ S))) := Lib.hid (by
      have := K.out
      rw [List.take_of_length_le (by have := HN1.out; omega), List.drop_of_length_le (by have := HN1.out; omega)] at this
      rw [HMG.out, List.append_assoc]
      exact this)
    clear K htl hk
    go_wp2_with fail
    (try simp only [Exit.inBlock, Exit.then])
    refine bodyPost_ret (results_none rfl _ _ _) rfl ?_
    exact ⟨rfl, HXE.out, HM.out⟩
set_option maxRecDepth 100000 in
set_option maxHeartbeats 4000000 in
/-- one text behind a row -/
theorem symOneR_ok (w0 : World) (g : Nat) (sl : List Value) (P A : List (List UInt8)) (x : List UInt8) (S : List (List UInt8)) (L a m b c : Nat) (ha : P.length = a) (hm : a + A.length = m) (hA2 : 2 ≤ A.length) (hb : m + 1 = b) (hL : (P ++ (A ++ (x :: S))).length = L) (hX : L ≤ 4000000000) (hc : L ≤ c) (hxs : x.length ≤ 4000000000) (hsh : Short A) (hris : Ris vle A) (w : World) (hin : In w0 g w) (h : Row w g sl (P ++ (A ++ (x :: S)))) :
    Calls Tryd.prog 94 #[.slice (some ⟨g, 0, none⟩) L c, .int .i64 a, .int .i64 m, .int .i64 b, fcmp] w fun e w' => e = .returned (.tuple #[]) ∧ Row w' g sl (P ++ (mrg vle A [x] ++ S)) ∧ Mod (fun i => i = g) w w' := by
  have hl0 : P.length + A.length + 1 + S.length = L := by rw [← hL]; simp; omega
  have hbL : b ≤ L := by omega
  have hmb : m < b := by omega
  have ham : a + 2 ≤ m := by omega
  obtain ⟨d, hd⟩ : ∃ d, d = m - a := ⟨_, rfl⟩
  have hd2 : 2 ≤ d := by omega
  have w1 : IntKind.i64.wrap ((m : Int) - (a : Int)) = (d : Int) := wr_eq (by omega) (by omega)
  have w2 : IntKind.i64.wrap ((b : Int) - (m : Int)) = 1 := by rw [IntKind.wrap_i64]; omega
  have n1 : (d == 1) = false := by rw [beq_eq_false_iff_ne]; omega
  have n2 : ((d : Int) == 1) = false := by rw [beq_eq_false_iff_ne]; omega
  have n3 : ¬ (d : Int) = 1 := by omega
  have n4 : ¬ d = 1 := by omega
  have H0 : Hid (∃ R1 R2, R1 ++ R2 = A ∧ a + R1.length = a ∧ (∀ y ∈ R1, vle y x = true)) := Lib.hid ⟨[], A, rfl, rfl, by simp⟩
  have H1 : Hid (∃ R1 R2, R1 ++ R2 = A ∧ a + R1.length = m ∧ (∀ y ∈ R2, vle y x = false)) := Lib.hid ⟨A, [], List.append_nil _, hm, by simp⟩
  have HB0 : Hid (Below w.heap.size w w) := Lib.hid (Below.refl _ _)
  have HA := Lib.hid ha
  have HMA := Lib.hid hm
  have HBB := Lib.hid hb
  have HL0 := Lib.hid hl0
  have HR := Lib.hid h
  have HIN := Lib.hid hin
  have HXS := Lib.hid hxs
  have HSH := Lib.hid hsh
  have HRIS := Lib.hid hris
  have ham' : a ≤ m := by omega
  clear ha hm hb hL h hin hxs hsh hris hl0 hd hA2
  go_enter Tryd.func94, Tryd.ntmps94
  go_wp2_with fail
  go_loopg [14, 15, 16] (m - a) (fun kq iv jv hv wr => ∃ i j : Nat, iv = .int .i64 i ∧ jv = .int .i64 j ∧ a ≤ i ∧ i ≤ j ∧ j ≤ m ∧ kq = j - i ∧ Hid (∃ R1 R2, R1 ++ R2 = A ∧ a + R1.length = i ∧ (∀ y ∈ R1, vle y x = true)) ∧ Hid (∃ R1 R2, R1 ++ R2 = A ∧ a + R1.length = j ∧ (∀ y ∈ R2, vle y x = false)) ∧ Hid (Below w.heap.size w wr))
  case atStart => exact ⟨a, m, rfl, rfl, Nat.le_refl _, ham', Nat.le_refl _, rfl, H0, H1, HB0⟩
  case round =>
  clear H0 H1 HB0 w1 w2 n1 n2 n3 n4
  obtain ⟨i, j, rfl, rfl, hmi, hij, hjb, rfl, H0, H1, HB⟩ := hrel
  by_cases hlt : i < j
  · have hltI : (i : Int) < (j : Int) := by omega
    obtain ⟨h, hh⟩ : ∃ h, h = (i + j) / 2 := ⟨_, rfl⟩
    have him : i ≤ h := by omega
    have hhj : h < j := by omega
    have e2 : ((i : Int) + (j : Int)) / 2 = (h : Int) := by omega
    obtain ⟨r, hr⟩ : ∃ r, a + r = h := ⟨h - a, by omega⟩
    have hRl : a + A.length = m := HMA.out
    obtain ⟨y, hy⟩ : ∃ y, A[r]? = some y := ⟨_, List.getElem?_eq_getElem (by omega)⟩
    have hys : A = A.take r ++ (y :: A.drop (r + 1)) := by
      obtain ⟨h1, h2⟩ := List.getElem?_eq_some_iff.1 hy
      have e := (List.take_append_drop r A).symm
      rw [List.drop_eq_getElem_cons h1, h2] at e
      exact e
    have htr : (A.take r).length = r := by rw [List.length_take]; omega
    have HSU : Hid (x.length ≤ 4000000000) := HXS
    have HSV : Hid (y.length ≤ 4000000000) := Lib.hid (HSH.out.get hy)
    have kr := HR.out.below HB.out
    have HU : Hid (wr.cell? ⟨g, m, none⟩ = some (.string (bl x))) := Lib.hid (kr.cell (get_mid P A x S (j := m) (by rw [HA.out]; omega)))
    have HV : Hid (wr.cell? ⟨g, h, none⟩ = some (.string (bl y))) := Lib.hid (kr.cell (by
      have := get_mid P (A.take r) y (A.drop (r + 1) ++ (x :: S)) (j := h) (by rw [HA.out, htr]; omega)
      rw [← this]
      congr 1
      conv => lhs; rw [hys]
      simp))
    have HGW : Hid (GV wr) := Lib.hid (HIN.out.gvw.below HB.out)
    have hhL : (h : Int) < (L : Int) := by omega
    have haL : (m : Int) < (L : Int) := by omega
    have hh0 : 0 ≤ (h : Int) := by omega
    have ha0 : 0 ≤ (m : Int) := by omega
    have HRR := Lib.hid hr
    have HRl := Lib.hid hRl
    have HYS := Lib.hid hys
    have HTR := Lib.hid htr
    have HE2 := Lib.hid e2
    clear hh hr hRl hy hys htr kr e2
    go_upto_region 17 with fail
    rw [HE2.out]
    obtain ⟨wd, hwd⟩ : ∃ wd, wd = wr.drew := ⟨_, rfl⟩
    have HCD : Hid (wd.cell? ⟨g, m, none⟩ = some (.string (bl x)) ∧ wd.cell? ⟨g, h, none⟩ = some (.string (bl y))) := Lib.hid (by rw [hwd]; exact ⟨HU.out, HV.out⟩)
    have HGD : Hid (GV wd) := Lib.hid (by rw [hwd]; exact HGW.out.below ((Below.refl _ _).drew))
    have HWD : Hid (Below wr.heap.size wr wd) := Lib.hid (by rw [hwd]; exact (Below.refl _ _).drew)
    try simp only [Act.put, List.setIfInBounds_toArray, List.set_cons_zero, List.set_cons_succ]
    obtain ⟨Inv, hInv⟩ : ∃ Inv : Done → World → Prop, Inv = Chain1 9 (fun wI => wI = wd) (fun xv wI => xv = .int .i64 (cfn x y) ∧ Below wd.heap.size wd wI) := ⟨_, rfl⟩
    have HI := Lib.hid hInv
    have hcz : Hid (∀ τ wI, Inv τ wI → τ 9 = none → wI.cell? ⟨g, m, none⟩ = some (.string (bl x)) ∧ wI.cell? ⟨g, h, none⟩ = some (.string (bl y))) := by
      intro τ wI h h9
      rw [hInv] at h
      obtain rfl := h.upto0 h9
      exact HCD.out
    have H00 : Hid (Inv Done.none wr.drew) := by rw [hInv]; exact Chain1.start hwd.symm
    clear hInv hwd
    refine wp_region_inv (by kernel_rfl) [⟨0, false, [], [9]⟩, ⟨1, false, [], [9]⟩, ⟨2, false, [], [9]⟩, ⟨3, false, [], [9]⟩, ⟨4, false, [], [9]⟩, ⟨5, false, [], [9]⟩, ⟨6, false, [], [9]⟩, ⟨7, false, [], [9]⟩, ⟨8, false, [], [9]⟩, ⟨9, true, [], []⟩, ⟨10, false, [9], []⟩, ⟨11, false, [9], []⟩] (by kernel_rfl) Inv (fun i v => i = 9 → ∃ n : Int, v = .int .i64 n) (fun _ => ⟨.int .i64 0, fun _ => ⟨0, rfl⟩⟩) H00.out ?_
    iterate 9 (apply WpI.pure; (simp only [List.getElem?_toArray, List.getElem?_cons_succ, List.getElem?_cons_zero]; rfl); (intro τ wI hA hI; obtain ⟨f0, f1⟩ := hcz.out τ wI hI (hA.2 9 (by decide)); go_simp; exact ⟨hI, Is.rfl'⟩); simp only [Act.put, List.setIfInBounds_toArray, List.set_cons_zero, List.set_cons_succ])
    apply WpI.effect; (simp only [List.getElem?_toArray, List.getElem?_cons_succ, List.getElem?_cons_zero]; rfl)
    · intro τ wI hA hn hI
      have h0 := hI
      rw [HI.out] at h0
      have hK := h0.at0 hn
      have HT := Lib.hid (And.intro True.intro (True.intro))
      clear hA hn hI h0
      subst hK
      go_simp
      refine (cmpf_ok x y HSU.out HSV.out wI HGD.out).mono ?_
      rintro e w' ⟨rfl, hb'⟩
      refine ⟨_, rfl, ⟨_, rfl⟩, ?_⟩
      rw [HI.out]
      exact Chain1.put1  ⟨rfl, hb'⟩
    intro v9 hv9
    simp only [Act.put, List.setIfInBounds_toArray, List.set_cons_zero, List.set_cons_succ]
    obtain ⟨n9, rfl⟩ := hv9 rfl
    iterate 2 (apply WpI.pure; (simp only [List.getElem?_toArray, List.getElem?_cons_succ, List.getElem?_cons_zero]; rfl); (intro τ wI hA hI; go_simp; exact ⟨hI, Is.rfl'⟩); simp only [Act.put, List.setIfInBounds_toArray, List.set_cons_zero, List.set_cons_succ])
    refine WpI.done ?_
    intro w8 hI
    rw [HI.out] at hI
    have hE := hI.end_
    obtain ⟨ev, hbw⟩ := hE
    have en : n9 = cfn x y := by injection ev
    have HB8 : Hid (Below wr.heap.size wr w8) := Lib.hid (HWD.out.trans (hbw.mono HWD.out.size))
    clear hI hbw ev H00 hcz HI HCD HGD HWD
    have HBN : Hid (Below w.heap.size w w8) := Lib.hid (HB.out.trans (HB8.out.mono HB.out.size))
    clear HU HV HGW HB HB8
    cases hv : vle y x with
    | false =>
      have hn : n9 < 0 := by rw [en]; exact cfn_neg hv
      try simp only [decide_eq_true hn, decide_eq_false (show ¬ 0 ≤ n9 by omega), Bool.not_true]
      have HN : Hid (∃ R1 R2, R1 ++ R2 = A ∧ a + R1.length = h ∧ (∀ y ∈ R2, vle y x = false)) := Lib.hid ⟨A.take r, y :: A.drop (r + 1), HYS.out.symm, by rw [HTR.out]; exact HRR.out, by
        intro z hz
        cases hz' : vle z x with
        | false => rfl
        | true =>
          rcases List.mem_cons.1 hz with rfl | hz
          · rw [hz'] at hv; exact absurd hv (by decide)
          · have h1 : Ris vle (A.take r ++ (y :: A.drop (r + 1))) := by rw [← HYS.out]; exact HRIS.out
            have h2 := (List.pairwise_cons.1 (ris_append h1).2.1).1 z hz
            rw [vle_pre.tr _ _ _ h2 hz'] at hv; exact absurd hv (by decide)⟩
      clear en hv H1
      go_wp2_with fail
      go_roundg (h - i)
      case measure => omega
      case rel => exact ⟨i, h, rfl, rfl, hmi, him, by omega, rfl, H0, HN, HBN⟩
    | true =>
      have hn : ¬ n9 < 0 := by rw [en]; exact cfn_pos hv
      try simp only [decide_eq_false hn, decide_eq_true (show 0 ≤ n9 by omega), Bool.not_false]
      have wh : IntKind.i64.wrap ((h : Int) + 1) = ((h + 1 : Nat) : Int) := wr_eq (by omega) (by omega)
      have HN : Hid (∃ R1 R2, R1 ++ R2 = A ∧ a + R1.length = h + 1 ∧ (∀ y ∈ R1, vle y x = true)) := Lib.hid ⟨A.take r ++ [y], A.drop (r + 1), by
          have := HYS.out
          rw [List.append_assoc]; exact this.symm, by rw [List.length_append, HTR.out]; have := HRR.out; simp; omega, by
        intro z hz
        rcases List.mem_append.1 hz with hz | hz
        · have h1 : Ris vle (A.take r ++ (y :: A.drop (r + 1))) := by rw [← HYS.out]; exact HRIS.out
          exact vle_pre.tr _ _ _ ((ris_append h1).2.2 z hz y (by simp)) hv
        · rw [List.mem_singleton.1 hz]; exact hv⟩
      clear en hv H0
      go_wp2_with fail
      go_roundg (j - (h + 1))
      case measure => omega
      case rel => exact ⟨h + 1, j, rfl, rfl, by omega, by omega, hjb, rfl, HN, H1, HBN⟩
  obtain rfl : i = j := by omega
  obtain ⟨R1, R2, hR, hl1, hA1⟩ := H0.out
  obtain ⟨R1', R2', hR', hl2, hA2⟩ := H1.out
  have hRR : R1 = R1' ∧ R2 = R2' := List.append_inj (hR.trans hR'.symm) (by omega)
  obtain ⟨rfl, rfl⟩ := hRR
  have HMG : Hid (mrg vle A [x] = R1 ++ (x :: R2)) := Lib.hid (by rw [← hR]; exact mrg_one hA1 hA2)
  obtain ⟨n2, hn2⟩ : ∃ n2, n2 = R2.length := ⟨_, rfl⟩
  have K0 : Hid (Row wr g sl (P ++ (R1 ++ (R2.take n2 ++ (x :: (R2.drop n2 ++ S)))))) := Lib.hid (by
    have := HR.out.below HB.out
    rw [← hR, List.append_assoc] at this
    rw [List.take_of_length_le (by omega), List.drop_of_length_le (by omega)]
    exact this)
  have M0 : Hid (Mod (fun i => i = g) w wr) := Lib.hid (Mod.of_below HB.out)
  have hmn : m = i + n2 := by have := HMA.out; rw [← hR, List.length_append] at this; omega
  have HMN2 := Lib.hid hmn
  have HN2 := Lib.hid hn2
  have HR1 : Hid (a + R1.length = i) := Lib.hid hl1
  have hn2L : n2 ≤ L := by omega
  have hiL : i ≤ L := by omega
  clear hR hl1 hA1 hR' hl2 hA2 H0 H1 HB hlt hij hmn hn2 HR
  go_wp2_with fail
  obtain ⟨wo, hwo⟩ : ∃ wo, wo = wr := ⟨_, rfl⟩
  go_loopg [17] n2 (fun kq kv wr => ∃ t : Nat, kv = .int .i64 ((i + t : Nat) : Int) ∧ t ≤ n2 ∧ kq = t ∧ Hid (Row wr g sl (P ++ (R1 ++ (R2.take t ++ (x :: (R2.drop t ++ S)))))) ∧ Hid (Mod (fun i => i = g) w wr))
  case atStart => exact ⟨n2, by rw [HMN2.out], Nat.le_refl _, rfl, K0, M0⟩
  case round =>
  clear K0 M0 hwo
  obtain ⟨t, rfl, htn, hkq, K, HM⟩ := hrel
  obtain rfl : t = _ := hkq.symm
  obtain ⟨k, hk⟩ : ∃ k, k = i + t := ⟨_, rfl⟩
  rw [← hk]
  have HK := Lib.hid hk
  by_cases htl : 0 < t
  · have hki : (i : Int) < (k : Int) := by omega
    obtain ⟨kk, hkk⟩ : ∃ kk, kk = k - 1 := ⟨_, rfl⟩
    obtain ⟨tt, htt⟩ : ∃ tt, t = tt + 1 := ⟨t - 1, by omega⟩
    have wk : IntKind.i64.wrap ((k : Int) - 1) = (kk : Int) := wr_eq (by omega) (by omega)
    have hkL : (k : Int) < (L : Int) := by have := HMN2.out; omega
    have hkkL : (kk : Int) < (L : Int) := by have := HMN2.out; omega
    have hk0 : 0 ≤ (k : Int) := by omega
    have hkk0 : 0 ≤ (kk : Int) := by omega
    obtain ⟨z, hz⟩ : ∃ z, R2[tt]? = some z := ⟨_, List.getElem?_eq_getElem (by have := HN2.out; omega)⟩
    obtain ⟨ht1, hz2⟩ := List.getElem?_eq_some_iff.1 hz
    have hdr : R2.drop tt = z :: R2.drop t := by rw [htt, List.drop_eq_getElem_cons ht1, hz2]
    have htk : R2.take t = R2.take tt ++ [z] := by rw [htt, List.take_succ_eq_append_getElem ht1, hz2]
    have htl' : (R2.take tt).length = tt := by rw [List.length_take]; omega
    have hPR : P.length + R1.length = i := by rw [HA.out]; exact HR1.out
    have HX : Hid (Row wr g sl (P ++ (R1 ++ (R2.take tt ++ (z :: (x :: (R2.drop t ++ S))))))) := Lib.hid (by have := K.out; rw [htk, List.append_assoc] at this; exact this)
    have HPX : Hid ((P ++ (R1 ++ (R2.take tt ++ (z :: (x :: (R2.drop t ++ S))))))[k]? = some x) := Lib.hid (by
      have := get_mid (P ++ R1) (R2.take tt ++ [z]) x (R2.drop t ++ S) (j := k) (by rw [List.length_append, List.length_append, htl']; simp; omega)
      rw [List.append_assoc, List.append_assoc] at this
      exact this)
    have HPY : Hid ((P ++ (R1 ++ (R2.take tt ++ (z :: (x :: (R2.drop t ++ S))))))[kk]? = some z) := Lib.hid (by
      have := get_mid (P ++ R1) (R2.take tt) z (x :: (R2.drop t ++ S)) (j := kk) (by rw [List.length_append, htl']; omega)
      rw [List.append_assoc] at this
      exact this)
    have HPR := Lib.hid hPR
    have HDR := Lib.hid hdr
    have HTL := Lib.hid htl'
    have HKK := Lib.hid hkk
    have HTT := Lib.hid htt
    clear hz ht1 hz2 hdr htk htl' K hkk hk htt hPR
    go_upto_region 23 with fail
    obtain ⟨wd, hwd⟩ : ∃ wd, wd = wr.drew := ⟨_, rfl⟩
    obtain ⟨ws1, hs1⟩ : ∃ ws1, ws1 = wd.setCell ⟨g, k, none⟩ (.string (bl z)) := ⟨_, rfl⟩
    obtain ⟨ws2, hs2⟩ : ∃ ws2, ws2 = ws1.setCell ⟨g, kk, none⟩ (.string (bl x)) := ⟨_, rfl⟩
    have kd : Row wd g sl (P ++ (R1 ++ (R2.take tt ++ (z :: (x :: (R2.drop t ++ S)))))) := by rw [hwd]; exact HX.out.drew
    have k1 : Row ws1 g sl ((P ++ (R1 ++ (R2.take tt ++ (z :: (x :: (R2.drop t ++ S)))))).set k z) := by rw [hs1]; exact kd.set_ HPX.out z
    have k2 : Row ws2 g sl (swp (P ++ (R1 ++ (R2.take tt ++ (z :: (x :: (R2.drop t ++ S)))))) k kk) := by rw [hs2, swp_some HPX.out HPY.out]; exact k1.set_lt (Nat.lt_of_lt_of_eq (List.getElem?_eq_some_iff.1 HPY.out).1 List.length_set.symm) x
    have m2 : Mod (fun i => i = g) wr ws2 := by rw [hs2, hs1, hwd]; exact (((Mod.refl (fun i => i = g) wr).drew).setCell (p := ⟨g, k, none⟩) (fun _ => rfl) _).setCell (p := ⟨g, kk, none⟩) (fun _ => rfl) _
    have HCD : Hid (wd.cell? ⟨g, k, none⟩ = some (.string (bl x)) ∧ wd.cell? ⟨g, kk, none⟩ = some (.string (bl z)) ∧ wd.frozen? ⟨g, k, none⟩ = false ∧ g < wd.heap.size) := Lib.hid ⟨kd.cell HPX.out, kd.cell HPY.out, kd.frozen k, kd.lt⟩
    have HC1 : Hid (∃ u, ws1.cell? ⟨g, kk, none⟩ = some u ∧ ws1.frozen? ⟨g, kk, none⟩ = false ∧ g < ws1.heap.size) := Lib.hid (by
      obtain ⟨u, hu⟩ : ∃ u, ((P ++ (R1 ++ (R2.take tt ++ (z :: (x :: (R2.drop t ++ S)))))).set k z)[kk]? = some u := ⟨_, List.getElem?_eq_getElem (Nat.lt_of_lt_of_eq (List.getElem?_eq_some_iff.1 HPY.out).1 List.length_set.symm)⟩
      exact ⟨_, k1.cell hu, k1.frozen kk, k1.lt⟩)
    have HK2 := Lib.hid k2
    have HM2 := Lib.hid m2
    have HS1 := Lib.hid hs1
    have HS2 := Lib.hid hs2
    clear hs1 hs2 kd k1 k2 m2
    try simp only [Act.put, List.setIfInBounds_toArray, List.set_cons_zero, List.set_cons_succ]
    obtain ⟨Inv, hInv⟩ : ∃ Inv : Done → World → Prop, Inv = Chain2 15 17 (fun wI => wI = wd) (fun _ wI => wI = ws1) (fun _ _ wI => wI = ws2) := ⟨_, rfl⟩
    have HI := Lib.hid hInv
    have hcz : Hid (∀ τ wI, Inv τ wI → τ 15 = none → wI.cell? ⟨g, k, none⟩ = some (.string (bl x)) ∧ wI.cell? ⟨g, kk, none⟩ = some (.string (bl z)) ∧ wI.frozen? ⟨g, k, none⟩ = false ∧ g < wI.heap.size) := by
      intro τ wI h h9
      rw [hInv] at h
      obtain rfl := h.upto0 h9
      exact HCD.out
    have H00 : Hid (Inv Done.none wr.drew) := by rw [hInv]; exact Chain2.start hwd.symm
    clear hInv hwd
    refine wp_region_inv (by kernel_rfl) [⟨0, false, [], [15, 17]⟩, ⟨1, false, [], [15, 17]⟩, ⟨2, false, [], [17]⟩, ⟨3, false, [], [17]⟩, ⟨4, false, [], [17]⟩, ⟨5, false, [], [15, 17]⟩, ⟨6, false, [], [15, 17]⟩, ⟨7, false, [], [15, 17]⟩, ⟨8, false, [], [15, 17]⟩, ⟨9, false, [], [15, 17]⟩, ⟨10, false, [], [15, 17]⟩, ⟨11, false, [], [15, 17]⟩, ⟨12, false, [], [15, 17]⟩, ⟨13, false, [], [15, 17]⟩, ⟨14, false, [], [15, 17]⟩, ⟨15, true, [], [17]⟩, ⟨16, false, [15], [17]⟩, ⟨17, true, [15], []⟩] (by kernel_rfl) Inv (fun _ _ => True) (fun _ => ⟨undef, trivial⟩) H00.out ?_
    iterate 2 (apply WpI.pure; (simp only [List.getElem?_toArray, List.getElem?_cons_succ, List.getElem?_cons_zero]; rfl); (intro τ wI hA hI; obtain ⟨f0, f1, f2, f3⟩ := hcz.out τ wI hI (hA.2 15 (by decide)); go_simp; exact ⟨hI, Is.rfl'⟩); simp only [Act.put, List.setIfInBounds_toArray, List.set_cons_zero, List.set_cons_succ])
    iterate 3 (apply WpI.pure; (simp only [List.getElem?_toArray, List.getElem?_cons_succ, List.getElem?_cons_zero]; rfl); (intro τ wI hA hI; go_simp; exact ⟨hI, Is.rfl'⟩); simp only [Act.put, List.setIfInBounds_toArray, List.set_cons_zero, List.set_cons_succ])
    iterate 10 (apply WpI.pure; (simp only [List.getElem?_toArray, List.getElem?_cons_succ, List.getElem?_cons_zero]; rfl); (intro τ wI hA hI; obtain ⟨f0, f1, f2, f3⟩ := hcz.out τ wI hI (hA.2 15 (by decide)); go_simp; exact ⟨hI, Is.rfl'⟩); simp only [Act.put, List.setIfInBounds_toArray, List.set_cons_zero, List.set_cons_succ])
    apply WpI.effect; (simp only [List.getElem?_toArray, List.getElem?_cons_succ, List.getElem?_cons_zero]; rfl)
    · intro τ wI hA hn hI
      have h0 := hI
      rw [HI.out] at h0
      have h17 : τ 17 = none := hA.2 17 (by decide)
      have hK := h0.at0 hn h17
      have HT := Lib.hid (And.intro True.intro (And.intro h17 (True.intro)))
      clear hA hn hI h0 h17
      subst hK
      obtain ⟨c1, c2, c3, c4⟩ := HCD.out
      go_simp
      rw [← HS1.out, HI.out]
      exact Chain2.put1 HT.out.2.1 (by decide) rfl
    intro v15 hv15
    simp only [Act.put, List.setIfInBounds_toArray, List.set_cons_zero, List.set_cons_succ]
    clear hv15
    (apply WpI.pure; (simp only [List.getElem?_toArray, List.getElem?_cons_succ, List.getElem?_cons_zero]; rfl); (intro τ wI hA hI; go_simp; exact ⟨hI, Is.rfl'⟩); simp only [Act.put, List.setIfInBounds_toArray, List.set_cons_zero, List.set_cons_succ])
    apply WpI.effect; (simp only [List.getElem?_toArray, List.getElem?_cons_succ, List.getElem?_cons_zero]; rfl)
    · intro τ wI hA hn hI
      have h0 := hI
      rw [HI.out] at h0
      have h15 : τ 15 = some v15 := hA.1 15 (by decide)
      have hK := h0.at1 h15 hn
      have HT := Lib.hid (And.intro True.intro (And.intro h15 (True.intro)))
      clear hA hn hI h0 h15
      subst hK
      obtain ⟨u, c1, c3, c4⟩ := HC1.out
      go_simp
      rw [← HS2.out, HI.out]
      exact Chain2.put2 HT.out.2.1 (by decide) rfl
    intro v17 hv17
    simp only [Act.put, List.setIfInBounds_toArray, List.set_cons_zero, List.set_cons_succ]
    clear hv17
    refine WpI.done ?_
    intro w9 hI
    rw [HI.out] at hI
    have hE := hI.end_ (by decide)
    have HX9 : Hid (Row w9 g sl (swp (P ++ (R1 ++ (R2.take tt ++ (z :: (x :: (R2.drop t ++ S)))))) k kk)) := Lib.hid (by rw [hE]; exact HK2.out)
    have HM9 : Hid (Mod (fun i => i = g) wr w9) := Lib.hid (by rw [hE]; exact HM2.out)
    clear hE hI H00 hcz HI HCD HC1 HS1 HS2 HK2 HM2
    have HXN : Hid (Row w9 g sl (P ++ (R1 ++ (R2.take tt ++ (x :: (R2.drop tt ++ S)))))) := Lib.hid (by
      have hk9 := HX9.out
      have e := swp_down (P ++ (R1 ++ R2.take tt)) (R2.drop t ++ S) z x
      have hl : (P ++ (R1 ++ R2.take tt)).length = kk := by
        rw [List.length_append, List.length_append, HTL.out]
        have := HPR.out; have := HK.out; have := HKK.out; have := HTT.out; omega
      rw [hl, show kk + 1 = k by have := HKK.out; omega, List.append_assoc, List.append_assoc, List.append_assoc, List.append_assoc] at e
      rw [e] at hk9
      rw [HDR.out]
      exact hk9)
    have HMN : Hid (Mod (fun i => i = g) w w9) := Lib.hid (HM.out.trans HM9.out (fun _ _ h => h))
    have wk2 : (kk : Int) = ((i + tt : Nat) : Int) := by have := HK.out; have := HKK.out; have := HTT.out; omega
    have HWK := Lib.hid wk2
    have HTLT : Hid (tt < t) := Lib.hid (by have := HTT.out; omega)
    clear HX9 HM9 HM HX HPX HPY wk2 HTL HDR
    go_wp2_with fail
    go_roundg tt
    case measure => exact HTLT.out
    case rel => exact ⟨tt, by rw [HWK.out], by have := HTLT.out; omega, rfl, HXN, HMN⟩
  · have hki : ¬ (i : Int) < (k : Int) := by omega
    have HXE : Hid (Row wr g sl (P ++ (mrg vle A [x] ++ S))) := Lib.hid (by
      have := K.out
      rw [show t = 0 by omega] at this
      rw [HMG.out, List.append_assoc]
      exact this)
    clear K htl hk
    go_wp2_with fail
    (try simp only [Exit.inBlock, Exit.then])
    refine bodyPost_ret (results_none rfl _ _ _) rfl ?_
    exact ⟨rfl, HXE.out, HM.out⟩

end Go.Proofs.YteeijjhgdplifaaDoor
