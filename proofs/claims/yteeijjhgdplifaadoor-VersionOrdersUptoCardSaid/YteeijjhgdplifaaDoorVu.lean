/- Go's insertion sort over a row of texts, by version.Sort's comparison. -/
import Derived.Test.YteeijjhgdplifaaDoorVs
namespace Go.Proofs.YteeijjhgdplifaaDoor
open Go.RowKit

theorem cfn_neg {s t : List UInt8} (h : vle t s = false) : cfn s t < 0 := by
  have := cfn_vle h
  simpa using this
theorem cfn_pos {s t : List UInt8} (h : vle t s = true) : ¬ cfn s t < 0 := by
  have := cfn_vle h
  simpa using this
theorem get_mid (P X : List (List UInt8)) (x : List UInt8) (T : List (List UInt8)) {j : Nat} (h : P.length + X.length = j) : (P ++ (X ++ (x :: T)))[j]? = some x := by
  rw [List.getElem?_append_right (by omega), List.getElem?_append_right (by omega), show j - P.length - X.length = 0 by omega]; rfl
abbrev fcmp : Value := .func (.func 52) #[] #[]

set_option maxRecDepth 100000 in
set_option maxHeartbeats 2000000 in
theorem insertion_ok (w0 : World) (g : Nat) (sl : List Value) (P X S : List (List UInt8)) (L a b c : Nat) (ha : P.length = a) (hb : a + X.length = b) (hL : (P ++ (X ++ S)).length = L) (hX : L ≤ 4000000000) (hc : L ≤ c) (hsh : Short X) (w : World) (hin : In w0 g w) (h : Row w g sl (P ++ (X ++ S))) :
    Calls Tryd.prog 93 #[.slice (some ⟨g, 0, none⟩) L c, .int .i64 a, .int .i64 b, fcmp] w fun e w' => e = .returned (.tuple #[]) ∧ Row w' g sl (P ++ (srt vle X ++ S)) ∧ Mod (fun i => i = g) w w' := by
  have hl0 : P.length + X.length + S.length = L := by rw [← hL]; simp; omega
  have hbL : b ≤ L := by omega
  obtain ⟨n, hn⟩ : ∃ n, n = X.length := ⟨_, rfl⟩
  have hbn : b = a + n := by omega
  have wa : IntKind.i64.wrap ((a : Int) + 1) = ((a + 1 : Nat) : Int) := wr_eq (by omega) (by omega)
  have H0 : Hid (Row w g sl (P ++ (srt vle (X.take 1) ++ (X.drop 1 ++ S)))) := Lib.hid (by
    have : srt vle (X.take 1) = X.take 1 := by
      cases X with
      | nil => rfl
      | cons x X => show mrg vle [] [x] = [x]; exact mrg_nil_l _
    rw [this, ← List.append_assoc (X.take 1), List.take_append_drop]
    exact h)
  have HR0 : Hid (Mod (fun i => i = g) w w) := Lib.hid (Mod.refl _ _)
  have HA := Lib.hid ha
  have HN := Lib.hid hn
  have HBN := Lib.hid hbn
  have HSH := Lib.hid hsh
  have HIN := Lib.hid hin
  have HL0 := Lib.hid hl0
  clear ha hb hL h hsh hin hn hl0 hbn
  go_enter Tryd.func93, Tryd.ntmps93
  go_wp2_with fail
  go_loopg [8] n (fun kq iv wr => ∃ q : Nat, iv = .int .i64 ((a + q : Nat) : Int) ∧ 1 ≤ q ∧ q ≤ n + 1 ∧ kq = n + 1 - q ∧ Hid (Row wr g sl (P ++ (srt vle (X.take q) ++ (X.drop q ++ S)))) ∧ Hid (Mod (fun i => i = g) w wr))
  case atStart => exact ⟨1, rfl, Nat.le_refl _, by omega, by omega, H0, HR0⟩
  case round =>
  clear H0 HR0 wa
  obtain ⟨q, rfl, hq1, hq2, rfl, HX, HM⟩ := hrel
  obtain ⟨i, hi⟩ : ∃ i, i = a + q := ⟨_, rfl⟩
  rw [← hi]
  have HI0 := Lib.hid hi
  by_cases hlt : q < n
  · have hib : i < b := by have := HBN.out; omega
    have hibI : (i : Int) < (b : Int) := by omega
    obtain ⟨x, hx⟩ : ∃ x, X[q]? = some x := ⟨_, List.getElem?_eq_getElem (by have := HN.out; omega)⟩
    have hxs : X.take (q + 1) = X.take q ++ [x] := by
      obtain ⟨h1, h2⟩ := List.getElem?_eq_some_iff.1 hx
      rw [List.take_succ_eq_append_getElem h1, h2]
    have hdr : X.drop q = x :: X.drop (q + 1) := by
      obtain ⟨h1, h2⟩ := List.getElem?_eq_some_iff.1 hx
      rw [List.drop_eq_getElem_cons h1, h2]
    obtain ⟨T, hT⟩ : ∃ T, T = X.drop (q + 1) ++ S := ⟨_, rfl⟩
    have hsq : srt vle (X.take (q + 1)) = mrg vle (srt vle (X.take q)) [x] := by rw [hxs, srt_snoc]
    obtain ⟨Q, hQ⟩ : ∃ Q, Q = srt vle (X.take q) := ⟨_, rfl⟩
    have hQl : Q.length = q := by rw [hQ, srt_length, List.length_take]; have := HN.out; omega
    have hQr : Ris vle Q := by rw [hQ]; exact srt_ris vle_pre _
    have hQs : Short Q := by
      rw [hQ]
      exact (HSH.out.sub (fun y hy => List.mem_of_mem_take hy)).perm (srt_perm _)
    have hxl : x.length ≤ 4000000000 := HSH.out.get hx
    have H1 : Hid (∃ Lf R, Lf ++ R = Q ∧ a + Lf.length = i ∧ (∀ y ∈ R, vle y x = false) ∧ Row wr g sl (P ++ (Lf ++ (x :: (R ++ T))))) := Lib.hid ⟨Q, [], List.append_nil _, by omega, by simp, by
      have := HX.out
      rw [← hQ, hdr, List.cons_append, ← hT] at this
      exact this⟩
    have HSQ : Hid (srt vle (X.take (q + 1)) = mrg vle Q [x]) := Lib.hid (by rw [hsq, hQ])
    have HT := Lib.hid hT
    have HQL := Lib.hid hQl
    have HQR := Lib.hid hQr
    have HQS := Lib.hid hQs
    have HXL := Lib.hid hxl
    clear hi hx hxs hdr hT hsq hQ hQl hQr hQs hxl HX
    go_wp2_with fail
    obtain ⟨wo, hwo⟩ : ∃ wo, wo = wr := ⟨_, rfl⟩
    go_loopg [9] i (fun kq jv wr => ∃ j : Nat, jv = .int .i64 j ∧ a ≤ j ∧ j ≤ i ∧ kq = j ∧ Hid (∃ Lf R, Lf ++ R = Q ∧ a + Lf.length = j ∧ (∀ y ∈ R, vle y x = false) ∧ Row wr g sl (P ++ (Lf ++ (x :: (R ++ T))))) ∧ Hid (Mod (fun i => i = g) w wr))
    case atStart => exact ⟨i, rfl, by have := HI0.out; omega, Nat.le_refl _, rfl, H1, HM⟩
    case round =>
    clear H1 HM hwo
    obtain ⟨j, rfl, hja, hji, hkq, H, HM⟩ := hrel
    obtain rfl : j = _ := hkq.symm
    have hend : ∀ ww, (∃ Lf R, Lf ++ R = Q ∧ (∀ y ∈ Lf, vle y x = true) ∧ (∀ y ∈ R, vle y x = false) ∧ Row ww g sl (P ++ (Lf ++ (x :: (R ++ T))))) → Row ww g sl (P ++ (srt vle (X.take (q + 1)) ++ (X.drop (q + 1) ++ S))) := by
      rintro ww ⟨Lf, R, h1, h2, h3, h4⟩
      rw [HSQ.out, ← h1, mrg_one h2 h3, ← HT.out, List.append_assoc, List.cons_append]
      exact h4
    have HEND := Lib.hid hend
    clear hend
    by_cases haj : j = a
    · subst haj
      obtain ⟨Lf, R, h1, h2, h3, h4⟩ := H.out
      obtain rfl : Lf = [] := List.length_eq_zero_iff.1 (by omega)
      have HXN := Lib.hid (HEND.out wr ⟨[], R, h1, by simp, h3, h4⟩)
      have e1 : ¬ (j : Int) < (j : Int) := by omega
      have e2 : decide ((j : Int) < (j : Int)) = false := decide_eq_false e1
      have e3 : decide (j < j) = false := by simp
      have wi : IntKind.i64.wrap ((i : Int) + 1) = ((j + (q + 1) : Nat) : Int) := wr_eq (by have := HI0.out; omega) (by have := HI0.out; omega)
      clear h1 h2 h3 h4 H HEND
      go_upto_region 4 with fail
      go_quiet (fail)
      go_wp2_with fail
      go_roundg (n + 1 - (q + 1))
      case measure => omega
      case rel => exact ⟨q + 1, rfl, by omega, by omega, rfl, Lib.hid (HXN.out.drewN _), Lib.hid (HM.out.drewN _)⟩
    · have hjI : (a : Int) < (j : Int) := by omega
      obtain ⟨Lf, R, h1, h2, h3, h4⟩ := H.out
      obtain ⟨Lf', y, rfl⟩ : ∃ Lf' y, Lf = Lf' ++ [y] := ⟨Lf.dropLast, Lf.getLast (by intro h; rw [h] at h2; simp at h2; omega), (List.dropLast_concat_getLast _).symm⟩
      obtain ⟨jj, hjj⟩ : ∃ jj, jj = j - 1 := ⟨_, rfl⟩
      have hLl : a + Lf'.length = jj := by simp at h2; omega
      have wj : IntKind.i64.wrap ((j : Int) - 1) = (jj : Int) := wr_eq (by omega) (by omega)
      have hjL : (j : Int) < (L : Int) := by omega
      have hjjL : (jj : Int) < (L : Int) := by omega
      have hj0 : 0 ≤ (j : Int) := by omega
      have hjj0 : 0 ≤ (jj : Int) := by omega
      have h4' : Row wr g sl (P ++ (Lf' ++ (y :: (x :: (R ++ T))))) := by
        rw [List.append_assoc] at h4; exact h4
      have hyQ : y ∈ Q := by rw [← h1]; simp
      have HSU : Hid (x.length ≤ 4000000000) := HXL
      have HSV : Hid (y.length ≤ 4000000000) := Lib.hid (HQS.out y hyQ)
      have gx : (P ++ (Lf' ++ (y :: (x :: (R ++ T)))))[j]? = some x := by
        have := get_mid P (Lf' ++ [y]) x (R ++ T) (j := j) (by have := HA.out; simp; omega)
        rw [List.append_assoc] at this
        exact this
      have gy : (P ++ (Lf' ++ (y :: (x :: (R ++ T)))))[jj]? = some y := get_mid P Lf' y (x :: (R ++ T)) (by have := HA.out; omega)
      have HU : Hid (wr.cell? ⟨g, j, none⟩ = some (.string (bl x))) := Lib.hid (h4'.cell gx)
      have HV : Hid (wr.cell? ⟨g, jj, none⟩ = some (.string (bl y))) := Lib.hid (h4'.cell gy)
      have HGW : Hid (GV wr) := Lib.hid ((HIN.out.mod HM.out).gvw)
      have HPX := Lib.hid gx
      have HPY := Lib.hid gy
      have HR4 := Lib.hid h4'
      have H1 := Lib.hid h1
      have H3 := Lib.hid h3
      have HLL := Lib.hid hLl
      have HJJ := Lib.hid hjj
      clear h1 h2 h3 h4 h4' hjj hLl hyQ gx gy H
      go_upto_region 4 with fail
      obtain ⟨wd, hwd⟩ : ∃ wd, wd = wr.drew := ⟨_, rfl⟩
      have HCD : Hid (wd.cell? ⟨g, j, none⟩ = some (.string (bl x)) ∧ wd.cell? ⟨g, jj, none⟩ = some (.string (bl y))) := Lib.hid (by rw [hwd]; exact ⟨HU.out, HV.out⟩)
      have HGD : Hid (GV wd) := Lib.hid (by rw [hwd]; exact HGW.out.below ((Below.refl _ _).drew))
      have HWD : Hid (Below wr.heap.size wr wd) := Lib.hid (by rw [hwd]; exact (Below.refl _ _).drew)
      try simp only [Act.put, List.setIfInBounds_toArray, List.set_cons_zero, List.set_cons_succ]
      obtain ⟨Inv, hInv⟩ : ∃ Inv : Done → World → Prop, Inv = Chain1 14 (fun wI => wI = wd) (fun xv wI => xv = .int .i64 (cfn x y) ∧ Below wd.heap.size wd wI) := ⟨_, rfl⟩
      have HI := Lib.hid hInv
      have hcz : Hid (∀ τ wI, Inv τ wI → τ 14 = none → wI.cell? ⟨g, j, none⟩ = some (.string (bl x)) ∧ wI.cell? ⟨g, jj, none⟩ = some (.string (bl y))) := by
        intro τ wI h h9
        rw [hInv] at h
        obtain rfl := h.upto0 h9
        exact HCD.out
      have H00 : Hid (Inv Done.none wr.drew) := by rw [hInv]; exact Chain1.start hwd.symm
      clear hInv hwd
      refine wp_region_inv (by kernel_rfl) [⟨0, false, [], [14]⟩, ⟨1, false, [], [14]⟩, ⟨2, false, [], [14]⟩, ⟨3, false, [], [14]⟩, ⟨4, false, [], [14]⟩, ⟨5, false, [], [14]⟩, ⟨6, false, [], [14]⟩, ⟨7, false, [], [14]⟩, ⟨8, false, [], [14]⟩, ⟨9, false, [], [14]⟩, ⟨10, false, [], [14]⟩, ⟨11, false, [], [14]⟩, ⟨12, false, [], [14]⟩, ⟨13, false, [], [14]⟩, ⟨14, true, [], []⟩, ⟨15, false, [14], []⟩, ⟨16, false, [14], []⟩] (by kernel_rfl) Inv (fun i v => i = 14 → ∃ n : Int, v = .int .i64 n) (fun _ => ⟨.int .i64 0, fun _ => ⟨0, rfl⟩⟩) H00.out ?_
      iterate 14 (apply WpI.pure; (simp only [List.getElem?_toArray, List.getElem?_cons_succ, List.getElem?_cons_zero]; rfl); (intro τ wI hA hI; obtain ⟨f0, f1⟩ := hcz.out τ wI hI (hA.2 14 (by decide)); go_simp; exact ⟨hI, Is.rfl'⟩); simp only [Act.put, List.setIfInBounds_toArray, List.set_cons_zero, List.set_cons_succ])
      apply WpI.effect; (simp only [List.getElem?_toArray, List.getElem?_cons_succ, List.getElem?_cons_zero]; rfl)
      · intro τ wI hA hn hI
        have h0 := hI
        rw [HI.out] at h0
        have hK := h0.at0 hn
        have HT := Lib.hid (And.intro True.intro (True.intro))
        clear hA hn hI h0
        subst hK
        go_simp
        refine (cmpf_ok x y HSU.out HSV.out wI HGD.out).mono ?_
        rintro e w' ⟨rfl, hb'⟩
        refine ⟨_, rfl, ⟨_, rfl⟩, ?_⟩
        rw [HI.out]
        exact Chain1.put1  ⟨rfl, hb'⟩
      intro v14 hv14
      simp only [Act.put, List.setIfInBounds_toArray, List.set_cons_zero, List.set_cons_succ]
      obtain ⟨n14, rfl⟩ := hv14 rfl
      iterate 2 (apply WpI.pure; (simp only [List.getElem?_toArray, List.getElem?_cons_succ, List.getElem?_cons_zero]; rfl); (intro τ wI hA hI; go_simp; exact ⟨hI, Is.rfl'⟩); simp only [Act.put, List.setIfInBounds_toArray, List.set_cons_zero, List.set_cons_succ])
      refine WpI.done ?_
      intro w8 hI
      rw [HI.out] at hI
      have hE := hI.end_
      obtain ⟨ev, hbw⟩ := hE
      have en : n14 = cfn x y := by injection ev
      have HB8 : Hid (Below wr.heap.size wr w8) := Lib.hid (HWD.out.trans (hbw.mono HWD.out.size))
      clear hI hbw ev H00 hcz HI HCD HGD HWD
      have HX : Hid (Row w8 g sl (P ++ (Lf' ++ (y :: (x :: (R ++ T)))))) := Lib.hid (HR4.out.below HB8.out)
      have HM8 : Hid (Mod (fun i => i = g) w w8) := Lib.hid (HM.out.trans (Mod.of_below HB8.out) (fun _ _ h => h))
      clear HU HV HGW HR4 HM HB8
      cases hv : vle y x with
      | true =>
        have hn : ¬ n14 < 0 := by rw [en]; exact cfn_pos hv
        have wi : IntKind.i64.wrap ((i : Int) + 1) = ((a + (q + 1) : Nat) : Int) := wr_eq (by have := HI0.out; omega) (by have := HI0.out; omega)
        have HXN := Lib.hid (HEND.out w8 ⟨Lf' ++ [y], R, H1.out, by
          have hr : Ris vle ((Lf' ++ [y]) ++ R) := by rw [H1.out]; exact HQR.out
          have hr1 := (ris_append (ris_append hr).1).2.2
          intro z hz
          rcases List.mem_append.1 hz with hz | hz
          · exact vle_pre.tr z y x (hr1 z hz y (by simp)) hv
          · rw [List.mem_singleton.1 hz]; exact hv, H3.out, by rw [List.append_assoc]; exact HX.out⟩)
        clear en hv HEND HX HPX HPY H1 H3
        go_wp2_with fail
        go_roundg (n + 1 - (q + 1))
        case measure => omega
        case rel => exact ⟨q + 1, rfl, by omega, by omega, rfl, HXN, HM8⟩
      | false =>
        have hn : n14 < 0 := by rw [en]; exact cfn_neg hv
        have HVF := Lib.hid hv
        clear en hv HEND
        go_upto_region 6 with fail
        obtain ⟨wd, hwd⟩ : ∃ wd, wd = w8.drew := ⟨_, rfl⟩
        obtain ⟨ws1, hs1⟩ : ∃ ws1, ws1 = wd.setCell ⟨g, j, none⟩ (.string (bl y)) := ⟨_, rfl⟩
        obtain ⟨ws2, hs2⟩ : ∃ ws2, ws2 = ws1.setCell ⟨g, jj, none⟩ (.string (bl x)) := ⟨_, rfl⟩
        have kd : Row wd g sl (P ++ (Lf' ++ (y :: (x :: (R ++ T))))) := by rw [hwd]; exact HX.out.drew
        have k1 : Row ws1 g sl ((P ++ (Lf' ++ (y :: (x :: (R ++ T))))).set j y) := by rw [hs1]; exact kd.set_ HPX.out y
        have k2 : Row ws2 g sl (swp (P ++ (Lf' ++ (y :: (x :: (R ++ T))))) j jj) := by rw [hs2, swp_some HPX.out HPY.out]; exact k1.set_lt (Nat.lt_of_lt_of_eq (List.getElem?_eq_some_iff.1 HPY.out).1 List.length_set.symm) x
        have m2 : Mod (fun i => i = g) w8 ws2 := by rw [hs2, hs1, hwd]; exact (((Mod.refl (fun i => i = g) w8).drew).setCell (p := ⟨g, j, none⟩) (fun _ => rfl) _).setCell (p := ⟨g, jj, none⟩) (fun _ => rfl) _
        have HCD : Hid (wd.cell? ⟨g, j, none⟩ = some (.string (bl x)) ∧ wd.cell? ⟨g, jj, none⟩ = some (.string (bl y)) ∧ wd.frozen? ⟨g, j, none⟩ = false ∧ g < wd.heap.size) := Lib.hid ⟨kd.cell HPX.out, kd.cell HPY.out, kd.frozen j, kd.lt⟩
        have HC1 : Hid (∃ u, ws1.cell? ⟨g, jj, none⟩ = some u ∧ ws1.frozen? ⟨g, jj, none⟩ = false ∧ g < ws1.heap.size) := Lib.hid (by
          obtain ⟨u, hu⟩ : ∃ u, ((P ++ (Lf' ++ (y :: (x :: (R ++ T))))).set j y)[jj]? = some u := ⟨_, List.getElem?_eq_getElem (Nat.lt_of_lt_of_eq (List.getElem?_eq_some_iff.1 HPY.out).1 List.length_set.symm)⟩
          exact ⟨_, k1.cell hu, k1.frozen jj, k1.lt⟩)
        have HK2 := Lib.hid k2
        have HM2 := Lib.hid m2
        have HS1 := Lib.hid hs1
        have HS2 := Lib.hid hs2
        clear hs1 hs2 kd k1 k2 m2
        try simp only [Act.put, List.setIfInBounds_toArray, List.set_cons_zero, List.set_cons_succ]
        obtain ⟨Inv, hInv⟩ : ∃ Inv : Done → World → Prop, Inv = Chain2 15 17 (fun wI => wI = wd) (fun _ wI => wI = ws1) (fun _ _ wI => wI = ws2) := ⟨_, rfl⟩
        have HI := Lib.hid hInv
        have hcz : Hid (∀ τ wI, Inv τ wI → τ 15 = none → wI.cell? ⟨g, j, none⟩ = some (.string (bl x)) ∧ wI.cell? ⟨g, jj, none⟩ = some (.string (bl y)) ∧ wI.frozen? ⟨g, j, none⟩ = false ∧ g < wI.heap.size) := by
          intro τ wI h h9
          rw [hInv] at h
          obtain rfl := h.upto0 h9
          exact HCD.out
        have H00 : Hid (Inv Done.none w8.drew) := by rw [hInv]; exact Chain2.start hwd.symm
        clear hInv hwd
        refine wp_region_inv (by kernel_rfl) [⟨0, false, [], [15, 17]⟩, ⟨1, false, [], [15, 17]⟩, ⟨2, false, [], [17]⟩, ⟨3, false, [], [17]⟩, ⟨4, false, [], [17]⟩, ⟨5, false, [], [15, 17]⟩, ⟨6, false, [], [15, 17]⟩, ⟨7, false, [], [15, 17]⟩, ⟨8, false, [], [15, 17]⟩, ⟨9, false, [], [15, 17]⟩, ⟨10, false, [], [15, 17]⟩, ⟨11, false, [], [15, 17]⟩, ⟨12, false, [], [15, 17]⟩, ⟨13, false, [], [15, 17]⟩, ⟨14, false, [], [15, 17]⟩, ⟨15, true, [], [17]⟩, ⟨16, false, [15], [17]⟩, ⟨17, true, [15], []⟩] (by kernel_rfl) Inv (fun _ _ => True) (fun _ => ⟨undef, trivial⟩) H00.out ?_
        iterate 2 (apply WpI.pure; (simp only [List.getElem?_toArray, List.getElem?_cons_succ, List.getElem?_cons_zero]; rfl); (intro τ wI hA hI; obtain ⟨f0, f1, f2, f3⟩ := hcz.out τ wI hI (hA.2 15 (by decide)); go_simp; exact ⟨hI, Is.rfl'⟩); simp only [Act.put, List.setIfInBounds_toArray, List.set_cons_zero, List.set_cons_succ])
        iterate 3 (apply WpI.pure; (simp only [List.getElem?_toArray, List.getElem?_cons_succ, List.getElem?_cons_zero]; rfl); (intro τ wI hA hI; go_simp; exact ⟨hI, Is.rfl'⟩); simp only [Act.put, List.setIfInBounds_toArray, List.set_cons_zero, List.set_cons_succ])
        iterate 10 (apply WpI.pure; (simp only [List.getElem?_toArray, List.getElem?_cons_succ, List.getElem?_cons_zero]; rfl); (intro τ wI hA hI; obtain ⟨f0, f1, f2, f3⟩ := hcz.out τ wI hI (hA.2 15 (by decide)); go_simp; exact ⟨hI, Is.rfl'⟩); simp only [Act.put, List.setIfInBounds_toArray, List.set_cons_zero, List.set_cons_succ])
        apply WpI.effect; (simp only [List.getElem?_toArray, List.getElem?_cons_succ, List.getElem?_cons_zero]; rfl)
        · intro τ wI hA hn hI
          have h0 := hI
          rw [HI.out] at h0
          have h17 : τ 17 = none := hA.2 17 (by decide)
          have hK := h0.at0 hn h17
          have HT := Lib.hid (And.intro True.intro (And.intro h17 (True.intro)))
          clear hA hn hI h0 h17
          subst hK
          obtain ⟨c1, c2, c3, c4⟩ := HCD.out
          go_simp
          rw [← HS1.out, HI.out]
          exact Chain2.put1 HT.out.2.1 (by decide) rfl
        intro v15 hv15
        simp only [Act.put, List.setIfInBounds_toArray, List.set_cons_zero, List.set_cons_succ]
        clear hv15
        (apply WpI.pure; (simp only [List.getElem?_toArray, List.getElem?_cons_succ, List.getElem?_cons_zero]; rfl); (intro τ wI hA hI; go_simp; exact ⟨hI, Is.rfl'⟩); simp only [Act.put, List.setIfInBounds_toArray, List.set_cons_zero, List.set_cons_succ])
        apply WpI.effect; (simp only [List.getElem?_toArray, List.getElem?_cons_succ, List.getElem?_cons_zero]; rfl)
        · intro τ wI hA hn hI
          have h0 := hI
          rw [HI.out] at h0
          have h15 : τ 15 = some v15 := hA.1 15 (by decide)
          have hK := h0.at1 h15 hn
          have HT := Lib.hid (And.intro True.intro (And.intro h15 (True.intro)))
          clear hA hn hI h0 h15
          subst hK
          obtain ⟨u, c1, c3, c4⟩ := HC1.out
          go_simp
          rw [← HS2.out, HI.out]
          exact Chain2.put2 HT.out.2.1 (by decide) rfl
        intro v17 hv17
        simp only [Act.put, List.setIfInBounds_toArray, List.set_cons_zero, List.set_cons_succ]
        clear hv17
        refine WpI.done ?_
        intro w9 hI
        rw [HI.out] at hI
        have hE := hI.end_ (by decide)
        have HX9 : Hid (Row w9 g sl (swp (P ++ (Lf' ++ (y :: (x :: (R ++ T))))) j jj)) := Lib.hid (by rw [hE]; exact HK2.out)
        have HM9 : Hid (Mod (fun i => i = g) w8 w9) := Lib.hid (by rw [hE]; exact HM2.out)
        clear hE hI H00 hcz HI HCD HC1 HS1 HS2 HK2 HM2
        have HXN : Hid (∃ Lf R, Lf ++ R = Q ∧ a + Lf.length = jj ∧ (∀ y ∈ R, vle y x = false) ∧ Row w9 g sl (P ++ (Lf ++ (x :: (R ++ T))))) := Lib.hid (by
          refine ⟨Lf', y :: R, by rw [← H1.out, List.append_assoc]; rfl, HLL.out, ?_, ?_⟩
          · intro z hz
            rcases List.mem_cons.1 hz with rfl | hz
            · exact HVF.out
            · exact H3.out z hz
          · have hk := HX9.out
            have e := swp_down (P ++ Lf') (R ++ T) y x
            have hl : (P ++ Lf').length = jj := by rw [List.length_append, HA.out]; exact HLL.out
            rw [hl, show jj + 1 = j by have := HJJ.out; omega, List.append_assoc, List.append_assoc] at e
            rw [e] at hk
            exact hk)
        have HMN : Hid (Mod (fun i => i = g) w w9) := Lib.hid (HM8.out.trans HM9.out (fun _ _ h => h))
        have HJL : Hid (jj < j ∧ a ≤ jj) := Lib.hid ⟨by have := HJJ.out; omega, by have := HLL.out; omega⟩
        clear HX9 HM9 HM8 HX HPX HPY H1 H3 HLL HJJ
        go_wp2_with fail
        go_roundg jj
        case measure => exact HJL.out.1
        case rel => exact ⟨jj, rfl, HJL.out.2, by have := HJL.out.1; omega, rfl, HXN, HMN⟩
  · have hqn : q = n ∨ q = n + 1 := by omega
    have hni : ¬ (i : Int) < (b : Int) := by have := HI0.out; have := HBN.out; omega
    have HXE : Hid (Row wr g sl (P ++ (srt vle X ++ S))) := Lib.hid (by
      have := HX.out
      rw [List.take_of_length_le (by have := HN.out; omega), List.drop_of_length_le (by have := HN.out; omega)] at this
      exact this)
    clear HX hlt hqn
    go_wp2_with fail
    go_end0
    exact ⟨rfl, HXE.out, HM.out⟩
end Go.Proofs.YteeijjhgdplifaaDoor
