/- Go's in-place stable merge over a row of texts: the whole. -/
import Derived.Test.YteeijjhgdplifaaDoorVv
namespace Go.Proofs.YteeijjhgdplifaaDoor
open Go.RowKit

theorem ris_get {α : Type} {le : α → α → Bool} (hp : Pre le) {l : List α} (h : Ris le l) {i j : Nat} {x y : α} (hx : l[i]? = some x) (hy : l[j]? = some y) (hij : i ≤ j) (hr : ∀ z, le z z = true) : le x y = true := by
  obtain ⟨hi, hx⟩ := List.getElem?_eq_some_iff.1 hx
  obtain ⟨hj, hy⟩ := List.getElem?_eq_some_iff.1 hy
  rcases Nat.lt_or_eq_of_le hij with h1 | h1
  · rw [← hx, ← hy]
    exact List.pairwise_iff_getElem.1 h i j hi hj h1
  · subst h1
    rw [← hx, ← hy]; exact hr _
theorem pre_refl {α : Type} {le : α → α → Bool} (hp : Pre le) (x : α) : le x x = true := (hp.tot x x).elim id id
/-- Where two rows are cut so that what is merged stays on its side. -/
theorem sym_cut {A R : List (List UInt8)} (hA : Ris vle A) (hR : Ris vle R) {i k : Nat} (hi : i ≤ A.length) (hk : k ≤ R.length)
    (h1 : i = 0 ∨ k = R.length ∨ ∃ x y, A[i - 1]? = some x ∧ R[k]? = some y ∧ vle x y = true)
    (h2 : i = A.length ∨ k = 0 ∨ ∃ x y, A[i]? = some x ∧ R[k - 1]? = some y ∧ vle x y = false) :
    mrg vle A R = mrg vle (A.take i) (R.take k) ++ mrg vle (A.drop i) (R.drop k) := by
  have hrefl := pre_refl vle_pre
  have e := mrg_cut (le := vle) _ (A.take i) (R.take k) (A.drop i) (R.drop k) (Nat.le_refl _) ?_ ?_
  · rw [List.take_append_drop, List.take_append_drop] at e
    exact e
  · intro u hu v hv
    obtain ⟨a, ha⟩ := List.mem_iff_getElem?.1 hu
    obtain ⟨b, hb⟩ := List.mem_iff_getElem?.1 hv
    rw [List.getElem?_take] at ha
    rw [List.getElem?_drop] at hb
    split at ha
    · rename_i hai
      have hbl := (List.getElem?_eq_some_iff.1 hb).1
      rcases h1 with h1 | h1 | ⟨x, y, hx, hy, hxy⟩
      · omega
      · omega
      · exact vle_pre.tr _ _ _ (ris_get vle_pre hA ha hx (by omega) hrefl) (vle_pre.tr _ _ _ hxy (ris_get vle_pre hR hy hb (by omega) hrefl))
    · cases ha
  · intro u hu v hv
    obtain ⟨a, ha⟩ := List.mem_iff_getElem?.1 hu
    obtain ⟨b, hb⟩ := List.mem_iff_getElem?.1 hv
    rw [List.getElem?_drop] at ha
    rw [List.getElem?_take] at hb
    split at hb
    · rename_i hbk
      have hal := (List.getElem?_eq_some_iff.1 ha).1
      rcases h2 with h2 | h2 | ⟨x, y, hx, hy, hxy⟩
      · omega
      · omega
      · cases huv : vle u v with
        | false => rfl
        | true =>
          have := vle_pre.tr _ _ _ (ris_get vle_pre hA hx ha (by omega) hrefl) (vle_pre.tr _ _ _ huv (ris_get vle_pre hR hb hy (by omega) hrefl))
          rw [this] at hxy; exact absurd hxy (by decide)
    · cases hb

/-- The contract, for two rows that have at most n texts. -/
def SymOK (n : Nat) : Prop := ∀ (w0 : World) (g : Nat) (sl : List Value) (P A R S : List (List UInt8)) (L a m b c : Nat), A.length + R.length ≤ n → P.length = a → a + A.length = m → m + R.length = b → (P ++ (A ++ (R ++ S))).length = L → 1 ≤ A.length → 1 ≤ R.length → L ≤ 4000000000 → L ≤ c → Short A → Short R → Ris vle A → Ris vle R → ∀ w : World, In w0 g w → Row w g sl (P ++ (A ++ (R ++ S))) →
    Calls Tryd.prog 94 #[.slice (some ⟨g, 0, none⟩) L c, .int .i64 a, .int .i64 m, .int .i64 b, fcmp] w fun e w' => e = .returned (.tuple #[]) ∧ Row w' g sl (P ++ (mrg vle A R ++ S)) ∧ Mod (fun i => i = g) w w'

/-- what the search between the halves keeps -/
def Cut1 (A R : List (List UInt8)) (a m N st s : Nat) : Prop := s = st ∨ (st < s ∧ ∃ x y, A[s - 1 - a]? = some x ∧ R[N - s - m]? = some y ∧ vle x y = true)
def Cut2 (A R : List (List UInt8)) (a m N r0 r : Nat) : Prop := r = r0 ∨ (r < r0 ∧ ∃ x y, A[r - a]? = some x ∧ R[N - 1 - r - m]? = some y ∧ vle x y = false)

set_option maxRecDepth 100000 in
set_option maxHeartbeats 8000000 in
theorem symRec_ok (n : Nat) (IH : SymOK n) (w0 : World) (g : Nat) (sl : List Value) (P A R S : List (List UInt8)) (L a m b c : Nat) (hn : A.length + R.length ≤ n + 1) (ha : P.length = a) (hm : a + A.length = m) (hb : m + R.length = b) (hL : (P ++ (A ++ (R ++ S))).length = L) (hA2 : 2 ≤ A.length) (hR2 : 2 ≤ R.length) (hX : L ≤ 4000000000) (hc : L ≤ c) (hsA : Short A) (hsR : Short R) (hrA : Ris vle A) (hrR : Ris vle R) (w : World) (hin : In w0 g w) (h : Row w g sl (P ++ (A ++ (R ++ S)))) :
    Calls Tryd.prog 94 #[.slice (some ⟨g, 0, none⟩) L c, .int .i64 a, .int .i64 m, .int .i64 b, fcmp] w fun e w' => e = .returned (.tuple #[]) ∧ Row w' g sl (P ++ (mrg vle A R ++ S)) ∧ Mod (fun i => i = g) w w' := by
  have hl0 : P.length + A.length + R.length + S.length = L := by rw [← hL]; simp; omega
  have hbL : b ≤ L := by omega
  have ham : a + 2 ≤ m := by omega
  have hmb : m + 2 ≤ b := by omega
  obtain ⟨d, hd⟩ : ∃ d, d = m - a := ⟨_, rfl⟩
  obtain ⟨d2, hd2⟩ : ∃ d2, d2 = b - m := ⟨_, rfl⟩
  have w1 : IntKind.i64.wrap ((m : Int) - (a : Int)) = (d : Int) := wr_eq (by omega) (by omega)
  have w2 : IntKind.i64.wrap ((b : Int) - (m : Int)) = (d2 : Int) := wr_eq (by omega) (by omega)
  have n1 : (d == 1) = false := by rw [beq_eq_false_iff_ne]; omega
  have n2 : ((d : Int) == 1) = false := by rw [beq_eq_false_iff_ne]; omega
  have n3 : (d2 == 1) = false := by rw [beq_eq_false_iff_ne]; omega
  have n4 : ((d2 : Int) == 1) = false := by rw [beq_eq_false_iff_ne]; omega
  obtain ⟨mid, hmid⟩ : ∃ mid, mid = (a + b) / 2 := ⟨_, rfl⟩
  have e0 : ((a : Int) + (b : Int)) / 2 = (mid : Int) := by omega
  have hm1 : a < mid := by omega
  have hm2 : mid < b := by omega
  have hm3 : 2 * mid ≤ a + b := by omega
  have hm4 : a + b ≤ 2 * mid + 1 := by omega
  obtain ⟨N, hN⟩ : ∃ N, N = mid + m := ⟨_, rfl⟩
  have HMID := Lib.hid hmid
  have HE0 := Lib.hid e0
  have HNN := Lib.hid hN
  have HA := Lib.hid ha
  have HMA := Lib.hid hm
  have HBB := Lib.hid hb
  have HL0 := Lib.hid hl0
  have HR := Lib.hid h
  have HIN := Lib.hid hin
  have HSA := Lib.hid hsA
  have HSR := Lib.hid hsR
  have HRA := Lib.hid hrA
  have HRR := Lib.hid hrR
  have HNL := Lib.hid hn
  have HIH := Lib.hid IH
  clear hd hd2 hmid e0 hN ha hm hb hl0 h hin hsA hsR hrA hrR hn IH hA2 hR2 hL
  go_enter Tryd.func94, Tryd.ntmps94
  go_upto_region 25 with fail
  rw [HE0.out]
  clear w1 w2 n1 n2 n3 n4
  have wN : IntKind.i64.wrap ((mid : Int) + (m : Int)) = (N : Int) := wr_eq (by rw [HNN.out]; omega) (by rw [HNN.out]; omega)
  go_upto_if 140 with fail
  clear wN
  go_cut [20, 21] (fun sv rv wx => wx = w ∧ ∃ st r0 : Nat, sv = .int .i64 st ∧ rv = .int .i64 r0 ∧ a ≤ st ∧ st ≤ r0 ∧ r0 ≤ m ∧ r0 ≤ mid ∧ Hid (N ≤ st + b ∧ (st = a ∨ st + b = N) ∧ (r0 = m ∨ r0 = mid)))
  case first =>
    by_cases hgt : mid < m
    · have hgI : (mid : Int) < (m : Int) := by omega
      obtain ⟨st, hst⟩ : ∃ st, st = N - b := ⟨_, rfl⟩
      have wst : IntKind.i64.wrap ((N : Int) - (b : Int)) = (st : Int) := wr_eq (by rw [hst]; have := HNN.out; omega) (by rw [hst]; have := HNN.out; omega)
      have HST := Lib.hid hst
      clear hst
      go_wp2_with fail
      go_meet
      have hst := HST.out
      have hNN := HNN.out
      exact ⟨rfl, st, mid, rfl, rfl, by omega, by omega, by omega, by omega, Lib.hid ⟨by omega, .inr (by omega), .inr rfl⟩⟩
    · have hgI : ¬ (mid : Int) < (m : Int) := by omega
      go_wp2_with fail
      go_meet
      have hNN := HNN.out
      exact ⟨rfl, a, m, rfl, rfl, by omega, by omega, by omega, by omega, Lib.hid ⟨by omega, .inl rfl, .inl rfl⟩⟩
  case rest =>
  obtain ⟨hwc, st, r0, rfl, rfl, hst, hsr, hrm, hrd, HC⟩ := hcut
  obtain rfl : w = _ := hwc.symm
  obtain ⟨p, hp⟩ : ∃ p, p = N - 1 := ⟨_, rfl⟩
  have wp1 : IntKind.i64.wrap ((N : Int) - 1) = (p : Int) := wr_eq (by rw [hp]; have := HNN.out; omega) (by rw [hp]; have := HNN.out; omega)
  have HPN := Lib.hid hp
  have C1 : Hid (Cut1 A R a m N st st) := Lib.hid (.inl rfl)
  have C2 : Hid (Cut2 A R a m N r0 r0) := Lib.hid (.inl rfl)
  have HB0 : Hid (Below w.heap.size w w) := Lib.hid (Below.refl _ _)
  clear hp
  go_wp2_with fail
  go_loopg [20, 21, 23] (r0 - st) (fun kq iv jv hv wr => ∃ s r : Nat, iv = .int .i64 s ∧ jv = .int .i64 r ∧ st ≤ s ∧ s ≤ r ∧ r ≤ r0 ∧ kq = r - s ∧ Hid (Cut1 A R a m N st s) ∧ Hid (Cut2 A R a m N r0 r) ∧ Hid (Below w.heap.size w wr))
  case atStart => exact ⟨st, r0, rfl, rfl, Nat.le_refl _, hsr, Nat.le_refl _, rfl, C1, C2, HB0⟩
  case round =>
  clear C1 C2 HB0 wp1
  obtain ⟨s, r, rfl, rfl, hs, hsr', hr, rfl, C1, C2, HB⟩ := hrel
  by_cases hlt : s < r
  · have hltI : (s : Int) < (r : Int) := by omega
    obtain ⟨k, hk⟩ : ∃ k, k = (s + r) / 2 := ⟨_, rfl⟩
    have hks : s ≤ k := by omega
    have hkr : k < r := by omega
    have e2 : ((s : Int) + (r : Int)) / 2 = (k : Int) := by omega
    obtain ⟨q, hq⟩ : ∃ q, q = p - k := ⟨_, rfl⟩
    have hqb : m ≤ q ∧ q < b ∧ q + k = p := by have := HPN.out; have := HNN.out; have := HC.out.1; omega
    have wq : IntKind.i64.wrap ((p : Int) - (k : Int)) = (q : Int) := wr_eq (by omega) (by omega)
    obtain ⟨x, hx⟩ : ∃ x, A[k - a]? = some x := ⟨_, List.getElem?_eq_getElem (by have := HMA.out; omega)⟩
    obtain ⟨y, hy⟩ : ∃ y, R[q - m]? = some y := ⟨_, List.getElem?_eq_getElem (by have := HBB.out; omega)⟩
    have HSU : Hid (y.length ≤ 4000000000) := Lib.hid (HSR.out.get hy)
    have HSV : Hid (x.length ≤ 4000000000) := Lib.hid (HSA.out.get hx)
    have kr := HR.out.below HB.out
    have hxl := (List.getElem?_eq_some_iff.1 hx).1
    have hyl := (List.getElem?_eq_some_iff.1 hy).1
    have HU : Hid (wr.cell? ⟨g, q, none⟩ = some (.string (bl y))) := Lib.hid (kr.cell (by
      rw [List.getElem?_append_right (by rw [HA.out]; omega), List.getElem?_append_right (by rw [HA.out]; have := HMA.out; omega), HA.out, show q - a - A.length = q - m by have := HMA.out; omega, List.getElem?_append_left hyl]
      exact hy))
    have HV : Hid (wr.cell? ⟨g, k, none⟩ = some (.string (bl x))) := Lib.hid (kr.cell (by
      rw [List.getElem?_append_right (by rw [HA.out]; omega), HA.out, List.getElem?_append_left hxl]
      exact hx))
    have HGW : Hid (GV wr) := Lib.hid (HIN.out.gvw.below HB.out)
    have hqL : (q : Int) < (L : Int) := by omega
    have hkL : (k : Int) < (L : Int) := by omega
    have hq0 : 0 ≤ (q : Int) := by omega
    have hk0 : 0 ≤ (k : Int) := by omega
    have HE2 := Lib.hid e2
    have HQB := Lib.hid hqb
    have HXA := Lib.hid hx
    have HYR := Lib.hid hy
    clear hk e2 hq hqb hx hy kr hxl hyl
    go_upto_region 35 with fail
    rw [HE2.out]
    obtain ⟨wd, hwd⟩ : ∃ wd, wd = wr.drew := ⟨_, rfl⟩
    have HCD : Hid (wd.cell? ⟨g, q, none⟩ = some (.string (bl y)) ∧ wd.cell? ⟨g, k, none⟩ = some (.string (bl x))) := Lib.hid (by rw [hwd]; exact ⟨HU.out, HV.out⟩)
    have HGD : Hid (GV wd) := Lib.hid (by rw [hwd]; exact HGW.out.below ((Below.refl _ _).drew))
    have HWD : Hid (Below wr.heap.size wr wd) := Lib.hid (by rw [hwd]; exact (Below.refl _ _).drew)
    try simp only [Act.put, List.setIfInBounds_toArray, List.set_cons_zero, List.set_cons_succ]
    obtain ⟨Inv, hInv⟩ : ∃ Inv : Done → World → Prop, Inv = Chain1 11 (fun wI => wI = wd) (fun xv wI => xv = .int .i64 (cfn y x) ∧ Below wd.heap.size wd wI) := ⟨_, rfl⟩
    have HI := Lib.hid hInv
    have hcz : Hid (∀ τ wI, Inv τ wI → τ 11 = none → wI.cell? ⟨g, q, none⟩ = some (.string (bl y)) ∧ wI.cell? ⟨g, k, none⟩ = some (.string (bl x))) := by
      intro τ wI h h9
      rw [hInv] at h
      obtain rfl := h.upto0 h9
      exact HCD.out
    have H00 : Hid (Inv Done.none wr.drew) := by rw [hInv]; exact Chain1.start hwd.symm
    clear hInv hwd
    refine wp_region_inv (by kernel_rfl) [⟨0, false, [], [11]⟩, ⟨1, false, [], [11]⟩, ⟨2, false, [], [11]⟩, ⟨3, false, [], [11]⟩, ⟨4, false, [], [11]⟩, ⟨5, false, [], [11]⟩, ⟨6, false, [], [11]⟩, ⟨7, false, [], [11]⟩, ⟨8, false, [], [11]⟩, ⟨9, false, [], [11]⟩, ⟨10, false, [], [11]⟩, ⟨11, true, [], []⟩, ⟨12, false, [11], []⟩, ⟨13, false, [11], []⟩] (by kernel_rfl) Inv (fun i v => i = 11 → ∃ n : Int, v = .int .i64 n) (fun _ => ⟨.int .i64 0, fun _ => ⟨0, rfl⟩⟩) H00.out ?_
    iterate 11 (apply WpI.pure; (simp only [List.getElem?_toArray, List.getElem?_cons_succ, List.getElem?_cons_zero]; rfl); (intro τ wI hA hI; obtain ⟨f0, f1⟩ := hcz.out τ wI hI (hA.2 11 (by decide)); go_simp; exact ⟨hI, Is.rfl'⟩); simp only [Act.put, List.setIfInBounds_toArray, List.set_cons_zero, List.set_cons_succ])
    apply WpI.effect; (simp only [List.getElem?_toArray, List.getElem?_cons_succ, List.getElem?_cons_zero]; rfl)
    · intro τ wI hA hn hI
      have h0 := hI
      rw [HI.out] at h0
      have hK := h0.at0 hn
      have HT := Lib.hid (And.intro True.intro (True.intro))
      clear hA hn hI h0
      subst hK
      go_simp
      refine (cmpf_ok y x HSU.out HSV.out wI HGD.out).mono ?_
      rintro e w' ⟨rfl, hb'⟩
      refine ⟨_, rfl, ⟨_, rfl⟩, ?_⟩
      rw [HI.out]
      exact Chain1.put1  ⟨rfl, hb'⟩
    intro v11 hv11
    simp only [Act.put, List.setIfInBounds_toArray, List.set_cons_zero, List.set_cons_succ]
    obtain ⟨n11, rfl⟩ := hv11 rfl
    iterate 2 (apply WpI.pure; (simp only [List.getElem?_toArray, List.getElem?_cons_succ, List.getElem?_cons_zero]; rfl); (intro τ wI hA hI; go_simp; exact ⟨hI, Is.rfl'⟩); simp only [Act.put, List.setIfInBounds_toArray, List.set_cons_zero, List.set_cons_succ])
    refine WpI.done ?_
    intro w8 hI
    rw [HI.out] at hI
    have hE := hI.end_
    obtain ⟨ev, hbw⟩ := hE
    have en : n11 = cfn y x := by injection ev
    have HB8 : Hid (Below wr.heap.size wr w8) := Lib.hid (HWD.out.trans (hbw.mono HWD.out.size))
    clear hI hbw ev H00 hcz HI HCD HGD HWD
    have HBN : Hid (Below w.heap.size w w8) := Lib.hid (HB.out.trans (HB8.out.mono HB.out.size))
    clear HU HV HGW HB HB8 wq
    cases hv : vle x y with
    | false =>
      have hn : n11 < 0 := by rw [en]; exact cfn_neg hv
      have HN2 : Hid (Cut2 A R a m N r0 k) := Lib.hid (.inr ⟨by omega, x, y, HXA.out, by
        have := HQB.out; have := HPN.out
        rw [show N - 1 - k - m = q - m by omega]; exact HYR.out, hv⟩)
      clear en hv C2
      try simp only [decide_eq_true hn, decide_eq_false (show ¬ 0 ≤ n11 by omega), Bool.not_true]
      go_wp2_with fail
      go_roundg (k - s)
      case measure => omega
      case rel => exact ⟨s, k, rfl, rfl, hs, hks, by omega, rfl, C1, HN2, HBN⟩
    | true =>
      have hn : ¬ n11 < 0 := by rw [en]; exact cfn_pos hv
      have wk : IntKind.i64.wrap ((k : Int) + 1) = ((k + 1 : Nat) : Int) := wr_eq (by omega) (by omega)
      have HN1 : Hid (Cut1 A R a m N st (k + 1)) := Lib.hid (.inr ⟨by omega, x, y, by rw [show k + 1 - 1 - a = k - a by omega]; exact HXA.out, by
        have := HQB.out; have := HPN.out
        rw [show N - (k + 1) - m = q - m by omega]; exact HYR.out, hv⟩)
      clear en hv C1
      try simp only [decide_eq_false hn, decide_eq_true (show 0 ≤ n11 by omega), Bool.not_false]
      go_wp2_with fail
      go_roundg (r - (k + 1))
      case measure => omega
      case rel => exact ⟨k + 1, r, rfl, rfl, by omega, by omega, hr, rfl, HN1, C2, HBN⟩
  obtain rfl : s = r := by omega
  obtain ⟨e, he⟩ : ∃ e, e = N - s := ⟨_, rfl⟩
  have heb : m ≤ e ∧ e ≤ b ∧ e + s = N := by have := HNN.out; have := HC.out.1; omega
  have wE : IntKind.i64.wrap ((N : Int) - (s : Int)) = (e : Int) := wr_eq (by omega) (by have := HNN.out; omega)
  have hAl : a + A.length = m := HMA.out
  have hRl : m + R.length = b := HBB.out
  have hNN := HNN.out
  obtain ⟨L1, hL1⟩ : ∃ L1, L1 = A.take (s - a) := ⟨_, rfl⟩
  obtain ⟨L2, hL2⟩ : ∃ L2, L2 = A.drop (s - a) := ⟨_, rfl⟩
  obtain ⟨R1, hR1⟩ : ∃ R1, R1 = R.take (e - m) := ⟨_, rfl⟩
  obtain ⟨R2, hR2⟩ : ∃ R2, R2 = R.drop (e - m) := ⟨_, rfl⟩
  have l1 : L1.length = s - a := by rw [hL1, List.length_take]; omega
  have l2 : L2.length = m - s := by rw [hL2, List.length_drop]; omega
  have l3 : R1.length = e - m := by rw [hR1, List.length_take]; omega
  have l4 : R2.length = b - e := by rw [hR2, List.length_drop]; omega
  have eA : A = L1 ++ L2 := by rw [hL1, hL2, List.take_append_drop]
  have eR : R = R1 ++ R2 := by rw [hR1, hR2, List.take_append_drop]
  have hcut : mrg vle A R = mrg vle L1 R1 ++ mrg vle L2 R2 := by
    rw [hL1, hL2, hR1, hR2]
    have hC := HC.out
    refine sym_cut HRA.out HRR.out (by omega) (by omega) ?_ ?_
    · rcases C1.out with h | ⟨h0, x, y, hx, hy, hxy⟩
      · rcases hC.2.1 with h2 | h2
        · left; omega
        · right; left; omega
      · right; right
        exact ⟨x, y, by rw [show s - a - 1 = s - 1 - a by omega]; exact hx, by rw [show e - m = N - s - m by omega]; exact hy, hxy⟩
    · rcases C2.out with h | ⟨h0, x, y, hx, hy, hxy⟩
      · rcases hC.2.2 with h2 | h2
        · left; omega
        · right; left; omega
      · right; right
        exact ⟨x, y, hx, by rw [show e - m - 1 = N - 1 - s - m by omega]; exact hy, hxy⟩
  have sub1 : ∀ z ∈ L1, z ∈ A := fun z hz => by rw [eA]; exact List.mem_append_left _ hz
  have sub2 : ∀ z ∈ L2, z ∈ A := fun z hz => by rw [eA]; exact List.mem_append_right _ hz
  have sub3 : ∀ z ∈ R1, z ∈ R := fun z hz => by rw [eR]; exact List.mem_append_left _ hz
  have sub4 : ∀ z ∈ R2, z ∈ R := fun z hz => by rw [eR]; exact List.mem_append_right _ hz
  have ris12 : Ris vle L1 ∧ Ris vle L2 := by have h := HRA.out; rw [eA] at h; exact ⟨(ris_append h).1, (ris_append h).2.1⟩
  have ris34 : Ris vle R1 ∧ Ris vle R2 := by have h := HRR.out; rw [eR] at h; exact ⟨(ris_append h).1, (ris_append h).2.1⟩
  have hrow : Row wr g sl (P ++ (L1 ++ (L2 ++ (R1 ++ (R2 ++ S))))) := by
    have := HR.out.below HB.out
    rw [eA, eR, List.append_assoc, List.append_assoc] at this
    exact this
  have HS1 := Lib.hid (HSA.out.sub sub1)
  have HS2 := Lib.hid (HSA.out.sub sub2)
  have HS3 := Lib.hid (HSR.out.sub sub3)
  have HS4 := Lib.hid (HSR.out.sub sub4)
  have HRS12 := Lib.hid ris12
  have HRS34 := Lib.hid ris34
  have HCUT := Lib.hid hcut
  have HL := Lib.hid (And.intro l1 (And.intro l2 (And.intro l3 l4)))
  have HAR := Lib.hid (And.intro hAl (And.intro hRl (And.intro hNN heb)))
  have HX := Lib.hid hrow
  have HM : Hid (Mod (fun i => i = g) w wr) := Lib.hid (Mod.of_below HB.out)
  have HSZ : Hid (P.length + (L1.length + (L2.length + (R1.length + (R2.length + S.length)))) = L) := Lib.hid (by have := HL0.out; have := HA.out; omega)
  have hsm : s ≤ m := by omega
  have hsd : s ≤ mid := by omega
  have has : a ≤ s := by omega
  have hme : m ≤ e := by omega
  have heb' : e ≤ b := by omega
  have hde : mid ≤ e := by omega
  have hq1 : s < mid ↔ m < e := by omega
  have hq2 : mid < e ↔ s < m := by omega
  have HQ := Lib.hid (And.intro hq1 hq2)
  clear he hAl hRl hNN heb hL1 hL2 hR1 hR2 l1 l2 l3 l4 eA eR hcut sub1 sub2 sub3 sub4 ris12 ris34 hrow hlt hsr' C1 C2 HC HB HR hst hsr hrm hrd hs hr hq1 hq2
  by_cases c2 : s < m
  · by_cases c1 : a < s
    · by_cases c3 : m < e
      · by_cases c4 : e < b
        · have f2 : (s : Int) < (m : Int) := by have := HQ.out; omega
          have f5 : (mid : Int) < (e : Int) := by have := HQ.out; omega
          have f3 : (m : Int) < (e : Int) := by have := HQ.out; omega
          have f6 : (s : Int) < (mid : Int) := by have := HQ.out; omega
          have f1 : (a : Int) < (s : Int) := by have := HQ.out; omega
          have f4 : (e : Int) < (b : Int) := by have := HQ.out; omega
          go_wp2_with fail
          refine (rotate_ok g sl (P ++ L1) L2 R1 (R2 ++ S) L s m e c fcmp (by rw [List.length_append, HA.out]; have := HL.out; omega) (by have := HL.out; omega) (by have := HL.out; omega) (by have := HSZ.out; simp; omega) (by have := HL.out; omega) (by have := HL.out; omega) hX hc wr (by rw [List.append_assoc]; exact HX.out)).mono ?_
          rintro e3 w3 ⟨rfl, k1, k2⟩
          have HX : Hid (Row w3 g sl (P ++ (L1 ++ (R1 ++ (L2 ++ (R2 ++ S)))))) := Lib.hid (by rw [List.append_assoc] at k1; exact k1)
          have HM : Hid (Mod (fun i => i = g) w w3) := Lib.hid (HM.out.trans k2 (fun _ _ h => h))
          clear k1 k2
          go_wp2_with fail
          refine (HIH.out w0 g sl P L1 R1 (L2 ++ (R2 ++ S)) L a s mid c (by have := HL.out; have := HNL.out; have := HAR.out; omega) HA.out (by have := HL.out; omega) (by have := HL.out; have := HAR.out; omega) (by have := HSZ.out; simp; omega) (by have := HL.out; omega) (by have := HL.out; have := HQ.out; omega) hX hc HS1.out HS3.out HRS12.out.1 HRS34.out.1 w3 (HIN.out.mod HM.out) HX.out).mono ?_
          rintro e4 w4 ⟨rfl, k1, k2⟩
          have HX : Hid (Row w4 g sl (P ++ (mrg vle L1 R1 ++ (L2 ++ (R2 ++ S))))) := Lib.hid k1
          have HM : Hid (Mod (fun i => i = g) w w4) := Lib.hid (HM.out.trans k2 (fun _ _ h => h))
          clear k1 k2
          go_wp2_with fail
          refine (HIH.out w0 g sl (P ++ mrg vle L1 R1) L2 R2 S L mid e b c (by have := HL.out; have := HNL.out; have := HAR.out; omega) (by rw [List.length_append, mrg_length, HA.out]; have := HL.out; have := HAR.out; omega) (by have := HL.out; have := HAR.out; omega) (by have := HL.out; omega) (by have := HSZ.out; simp [mrg_length]; omega) (by have := HL.out; omega) (by have := HL.out; omega) hX hc HS2.out HS4.out HRS12.out.2 HRS34.out.2 w4 (HIN.out.mod HM.out) (by rw [List.append_assoc]; exact HX.out)).mono ?_
          rintro e5 w5 ⟨rfl, k1, k2⟩
          have HX : Hid (Row w5 g sl (P ++ (mrg vle L1 R1 ++ (mrg vle L2 R2 ++ S)))) := Lib.hid (by rw [List.append_assoc] at k1; exact k1)
          have HM : Hid (Mod (fun i => i = g) w w5) := Lib.hid (HM.out.trans k2 (fun _ _ h => h))
          clear k1 k2
          go_wp2_with fail
          go_end0
          exact ⟨rfl, by rw [HCUT.out, List.append_assoc]; exact HX.out, HM.out⟩
        · have f2 : (s : Int) < (m : Int) := by have := HQ.out; omega
          have f5 : (mid : Int) < (e : Int) := by have := HQ.out; omega
          have f3 : (m : Int) < (e : Int) := by have := HQ.out; omega
          have f6 : (s : Int) < (mid : Int) := by have := HQ.out; omega
          have f1 : (a : Int) < (s : Int) := by have := HQ.out; omega
          have f4 : ¬ (e : Int) < (b : Int) := by have := HQ.out; omega
          go_wp2_with fail
          refine (rotate_ok g sl (P ++ L1) L2 R1 (R2 ++ S) L s m e c fcmp (by rw [List.length_append, HA.out]; have := HL.out; omega) (by have := HL.out; omega) (by have := HL.out; omega) (by have := HSZ.out; simp; omega) (by have := HL.out; omega) (by have := HL.out; omega) hX hc wr (by rw [List.append_assoc]; exact HX.out)).mono ?_
          rintro e3 w3 ⟨rfl, k1, k2⟩
          have HX : Hid (Row w3 g sl (P ++ (L1 ++ (R1 ++ (L2 ++ (R2 ++ S)))))) := Lib.hid (by rw [List.append_assoc] at k1; exact k1)
          have HM : Hid (Mod (fun i => i = g) w w3) := Lib.hid (HM.out.trans k2 (fun _ _ h => h))
          clear k1 k2
          go_wp2_with fail
          refine (HIH.out w0 g sl P L1 R1 (L2 ++ (R2 ++ S)) L a s mid c (by have := HL.out; have := HNL.out; have := HAR.out; omega) HA.out (by have := HL.out; omega) (by have := HL.out; have := HAR.out; omega) (by have := HSZ.out; simp; omega) (by have := HL.out; omega) (by have := HL.out; have := HQ.out; omega) hX hc HS1.out HS3.out HRS12.out.1 HRS34.out.1 w3 (HIN.out.mod HM.out) HX.out).mono ?_
          rintro e4 w4 ⟨rfl, k1, k2⟩
          have HX : Hid (Row w4 g sl (P ++ (mrg vle L1 R1 ++ (L2 ++ (R2 ++ S))))) := Lib.hid k1
          have HM : Hid (Mod (fun i => i = g) w w4) := Lib.hid (HM.out.trans k2 (fun _ _ h => h))
          clear k1 k2
          have HX : Hid (Row w4 g sl (P ++ (mrg vle L1 R1 ++ (mrg vle L2 R2 ++ S)))) := Lib.hid (by
            have eq : mrg vle L2 R2 = L2 ++ R2 := by rw [show R2 = [] from List.length_eq_zero_iff.1 (by have := HL.out; omega), mrg_nil_r, List.append_nil]
            rw [eq, List.append_assoc]
            exact HX.out)
          go_wp2_with fail
          go_end0
          exact ⟨rfl, by rw [HCUT.out, List.append_assoc]; exact HX.out, HM.out⟩
      · by_cases c4 : e < b
        · have f2 : (s : Int) < (m : Int) := by have := HQ.out; omega
          have f5 : (mid : Int) < (e : Int) := by have := HQ.out; omega
          have f3 : ¬ (m : Int) < (e : Int) := by have := HQ.out; omega
          have f6 : ¬ (s : Int) < (mid : Int) := by have := HQ.out; omega
          have f1 : (a : Int) < (s : Int) := by have := HQ.out; omega
          have f4 : (e : Int) < (b : Int) := by have := HQ.out; omega
          have HX : Hid (Row wr g sl (P ++ (L1 ++ (R1 ++ (L2 ++ (R2 ++ S)))))) := Lib.hid (by
            have eq : L2 ++ (R1 ++ (R2 ++ S)) = R1 ++ (L2 ++ (R2 ++ S)) := by rw [show R1 = [] from List.length_eq_zero_iff.1 (by have := HL.out; omega)]; rfl
            have := HX.out
            rw [eq] at this
            exact this)
          have HX : Hid (Row wr g sl (P ++ (mrg vle L1 R1 ++ (L2 ++ (R2 ++ S))))) := Lib.hid (by
            have eq : mrg vle L1 R1 = L1 ++ R1 := by rw [show R1 = [] from List.length_eq_zero_iff.1 (by have := HL.out; have := HQ.out; omega), mrg_nil_r, List.append_nil]
            rw [eq, List.append_assoc]
            exact HX.out)
          go_wp2_with fail
          refine (HIH.out w0 g sl (P ++ mrg vle L1 R1) L2 R2 S L mid e b c (by have := HL.out; have := HNL.out; have := HAR.out; omega) (by rw [List.length_append, mrg_length, HA.out]; have := HL.out; have := HAR.out; omega) (by have := HL.out; have := HAR.out; omega) (by have := HL.out; omega) (by have := HSZ.out; simp [mrg_length]; omega) (by have := HL.out; omega) (by have := HL.out; omega) hX hc HS2.out HS4.out HRS12.out.2 HRS34.out.2 wr (HIN.out.mod HM.out) (by rw [List.append_assoc]; exact HX.out)).mono ?_
          rintro e5 w5 ⟨rfl, k1, k2⟩
          have HX : Hid (Row w5 g sl (P ++ (mrg vle L1 R1 ++ (mrg vle L2 R2 ++ S)))) := Lib.hid (by rw [List.append_assoc] at k1; exact k1)
          have HM : Hid (Mod (fun i => i = g) w w5) := Lib.hid (HM.out.trans k2 (fun _ _ h => h))
          clear k1 k2
          go_wp2_with fail
          go_end0
          exact ⟨rfl, by rw [HCUT.out, List.append_assoc]; exact HX.out, HM.out⟩
        · have f2 : (s : Int) < (m : Int) := by have := HQ.out; omega
          have f5 : (mid : Int) < (e : Int) := by have := HQ.out; omega
          have f3 : ¬ (m : Int) < (e : Int) := by have := HQ.out; omega
          have f6 : ¬ (s : Int) < (mid : Int) := by have := HQ.out; omega
          have f1 : (a : Int) < (s : Int) := by have := HQ.out; omega
          have f4 : ¬ (e : Int) < (b : Int) := by have := HQ.out; omega
          have HX : Hid (Row wr g sl (P ++ (L1 ++ (R1 ++ (L2 ++ (R2 ++ S)))))) := Lib.hid (by
            have eq : L2 ++ (R1 ++ (R2 ++ S)) = R1 ++ (L2 ++ (R2 ++ S)) := by rw [show R1 = [] from List.length_eq_zero_iff.1 (by have := HL.out; omega)]; rfl
            have := HX.out
            rw [eq] at this
            exact this)
          have HX : Hid (Row wr g sl (P ++ (mrg vle L1 R1 ++ (L2 ++ (R2 ++ S))))) := Lib.hid (by
            have eq : mrg vle L1 R1 = L1 ++ R1 := by rw [show R1 = [] from List.length_eq_zero_iff.1 (by have := HL.out; have := HQ.out; omega), mrg_nil_r, List.append_nil]
            rw [eq, List.append_assoc]
            exact HX.out)
          have HX : Hid (Row wr g sl (P ++ (mrg vle L1 R1 ++ (mrg vle L2 R2 ++ S)))) := Lib.hid (by
            have eq : mrg vle L2 R2 = L2 ++ R2 := by rw [show R2 = [] from List.length_eq_zero_iff.1 (by have := HL.out; omega), mrg_nil_r, List.append_nil]
            rw [eq, List.append_assoc]
            exact HX.out)
          go_wp2_with fail
          go_end0
          exact ⟨rfl, by rw [HCUT.out, List.append_assoc]; exact HX.out, HM.out⟩
    · by_cases c3 : m < e
      · by_cases c4 : e < b
        · have f2 : (s : Int) < (m : Int) := by have := HQ.out; omega
          have f5 : (mid : Int) < (e : Int) := by have := HQ.out; omega
          have f3 : (m : Int) < (e : Int) := by have := HQ.out; omega
          have f6 : (s : Int) < (mid : Int) := by have := HQ.out; omega
          have f1 : ¬ (a : Int) < (s : Int) := by have := HQ.out; omega
          have f4 : (e : Int) < (b : Int) := by have := HQ.out; omega
          go_wp2_with fail
          refine (rotate_ok g sl (P ++ L1) L2 R1 (R2 ++ S) L s m e c fcmp (by rw [List.length_append, HA.out]; have := HL.out; omega) (by have := HL.out; omega) (by have := HL.out; omega) (by have := HSZ.out; simp; omega) (by have := HL.out; omega) (by have := HL.out; omega) hX hc wr (by rw [List.append_assoc]; exact HX.out)).mono ?_
          rintro e3 w3 ⟨rfl, k1, k2⟩
          have HX : Hid (Row w3 g sl (P ++ (L1 ++ (R1 ++ (L2 ++ (R2 ++ S)))))) := Lib.hid (by rw [List.append_assoc] at k1; exact k1)
          have HM : Hid (Mod (fun i => i = g) w w3) := Lib.hid (HM.out.trans k2 (fun _ _ h => h))
          clear k1 k2
          have HX : Hid (Row w3 g sl (P ++ (mrg vle L1 R1 ++ (L2 ++ (R2 ++ S))))) := Lib.hid (by
            have eq : mrg vle L1 R1 = L1 ++ R1 := by rw [show L1 = [] from List.length_eq_zero_iff.1 (by have := HL.out; omega), mrg_nil_l]; rfl
            rw [eq, List.append_assoc]
            exact HX.out)
          go_wp2_with fail
          refine (HIH.out w0 g sl (P ++ mrg vle L1 R1) L2 R2 S L mid e b c (by have := HL.out; have := HNL.out; have := HAR.out; omega) (by rw [List.length_append, mrg_length, HA.out]; have := HL.out; have := HAR.out; omega) (by have := HL.out; have := HAR.out; omega) (by have := HL.out; omega) (by have := HSZ.out; simp [mrg_length]; omega) (by have := HL.out; omega) (by have := HL.out; omega) hX hc HS2.out HS4.out HRS12.out.2 HRS34.out.2 w3 (HIN.out.mod HM.out) (by rw [List.append_assoc]; exact HX.out)).mono ?_
          rintro e5 w5 ⟨rfl, k1, k2⟩
          have HX : Hid (Row w5 g sl (P ++ (mrg vle L1 R1 ++ (mrg vle L2 R2 ++ S)))) := Lib.hid (by rw [List.append_assoc] at k1; exact k1)
          have HM : Hid (Mod (fun i => i = g) w w5) := Lib.hid (HM.out.trans k2 (fun _ _ h => h))
          clear k1 k2
          go_wp2_with fail
          go_end0
          exact ⟨rfl, by rw [HCUT.out, List.append_assoc]; exact HX.out, HM.out⟩
        · have f2 : (s : Int) < (m : Int) := by have := HQ.out; omega
          have f5 : (mid : Int) < (e : Int) := by have := HQ.out; omega
          have f3 : (m : Int) < (e : Int) := by have := HQ.out; omega
          have f6 : (s : Int) < (mid : Int) := by have := HQ.out; omega
          have f1 : ¬ (a : Int) < (s : Int) := by have := HQ.out; omega
          have f4 : ¬ (e : Int) < (b : Int) := by have := HQ.out; omega
          go_wp2_with fail
          refine (rotate_ok g sl (P ++ L1) L2 R1 (R2 ++ S) L s m e c fcmp (by rw [List.length_append, HA.out]; have := HL.out; omega) (by have := HL.out; omega) (by have := HL.out; omega) (by have := HSZ.out; simp; omega) (by have := HL.out; omega) (by have := HL.out; omega) hX hc wr (by rw [List.append_assoc]; exact HX.out)).mono ?_
          rintro e3 w3 ⟨rfl, k1, k2⟩
          have HX : Hid (Row w3 g sl (P ++ (L1 ++ (R1 ++ (L2 ++ (R2 ++ S)))))) := Lib.hid (by rw [List.append_assoc] at k1; exact k1)
          have HM : Hid (Mod (fun i => i = g) w w3) := Lib.hid (HM.out.trans k2 (fun _ _ h => h))
          clear k1 k2
          have HX : Hid (Row w3 g sl (P ++ (mrg vle L1 R1 ++ (L2 ++ (R2 ++ S))))) := Lib.hid (by
            have eq : mrg vle L1 R1 = L1 ++ R1 := by rw [show L1 = [] from List.length_eq_zero_iff.1 (by have := HL.out; omega), mrg_nil_l]; rfl
            rw [eq, List.append_assoc]
            exact HX.out)
          have HX : Hid (Row w3 g sl (P ++ (mrg vle L1 R1 ++ (mrg vle L2 R2 ++ S)))) := Lib.hid (by
            have eq : mrg vle L2 R2 = L2 ++ R2 := by rw [show R2 = [] from List.length_eq_zero_iff.1 (by have := HL.out; omega), mrg_nil_r, List.append_nil]
            rw [eq, List.append_assoc]
            exact HX.out)
          go_wp2_with fail
          go_end0
          exact ⟨rfl, by rw [HCUT.out, List.append_assoc]; exact HX.out, HM.out⟩
      · by_cases c4 : e < b
        · have f2 : (s : Int) < (m : Int) := by have := HQ.out; omega
          have f5 : (mid : Int) < (e : Int) := by have := HQ.out; omega
          have f3 : ¬ (m : Int) < (e : Int) := by have := HQ.out; omega
          have f6 : ¬ (s : Int) < (mid : Int) := by have := HQ.out; omega
          have f1 : ¬ (a : Int) < (s : Int) := by have := HQ.out; omega
          have f4 : (e : Int) < (b : Int) := by have := HQ.out; omega
          have HX : Hid (Row wr g sl (P ++ (L1 ++ (R1 ++ (L2 ++ (R2 ++ S)))))) := Lib.hid (by
            have eq : L2 ++ (R1 ++ (R2 ++ S)) = R1 ++ (L2 ++ (R2 ++ S)) := by rw [show R1 = [] from List.length_eq_zero_iff.1 (by have := HL.out; omega)]; rfl
            have := HX.out
            rw [eq] at this
            exact this)
          have HX : Hid (Row wr g sl (P ++ (mrg vle L1 R1 ++ (L2 ++ (R2 ++ S))))) := Lib.hid (by
            have eq : mrg vle L1 R1 = L1 ++ R1 := by rw [show L1 = [] from List.length_eq_zero_iff.1 (by have := HL.out; omega), mrg_nil_l]; rfl
            rw [eq, List.append_assoc]
            exact HX.out)
          go_wp2_with fail
          refine (HIH.out w0 g sl (P ++ mrg vle L1 R1) L2 R2 S L mid e b c (by have := HL.out; have := HNL.out; have := HAR.out; omega) (by rw [List.length_append, mrg_length, HA.out]; have := HL.out; have := HAR.out; omega) (by have := HL.out; have := HAR.out; omega) (by have := HL.out; omega) (by have := HSZ.out; simp [mrg_length]; omega) (by have := HL.out; omega) (by have := HL.out; omega) hX hc HS2.out HS4.out HRS12.out.2 HRS34.out.2 wr (HIN.out.mod HM.out) (by rw [List.append_assoc]; exact HX.out)).mono ?_
          rintro e5 w5 ⟨rfl, k1, k2⟩
          have HX : Hid (Row w5 g sl (P ++ (mrg vle L1 R1 ++ (mrg vle L2 R2 ++ S)))) := Lib.hid (by rw [List.append_assoc] at k1; exact k1)
          have HM : Hid (Mod (fun i => i = g) w w5) := Lib.hid (HM.out.trans k2 (fun _ _ h => h))
          clear k1 k2
          go_wp2_with fail
          go_end0
          exact ⟨rfl, by rw [HCUT.out, List.append_assoc]; exact HX.out, HM.out⟩
        · have f2 : (s : Int) < (m : Int) := by have := HQ.out; omega
          have f5 : (mid : Int) < (e : Int) := by have := HQ.out; omega
          have f3 : ¬ (m : Int) < (e : Int) := by have := HQ.out; omega
          have f6 : ¬ (s : Int) < (mid : Int) := by have := HQ.out; omega
          have f1 : ¬ (a : Int) < (s : Int) := by have := HQ.out; omega
          have f4 : ¬ (e : Int) < (b : Int) := by have := HQ.out; omega
          have HX : Hid (Row wr g sl (P ++ (L1 ++ (R1 ++ (L2 ++ (R2 ++ S)))))) := Lib.hid (by
            have eq : L2 ++ (R1 ++ (R2 ++ S)) = R1 ++ (L2 ++ (R2 ++ S)) := by rw [show R1 = [] from List.length_eq_zero_iff.1 (by have := HL.out; omega)]; rfl
            have := HX.out
            rw [eq] at this
            exact this)
          have HX : Hid (Row wr g sl (P ++ (mrg vle L1 R1 ++ (L2 ++ (R2 ++ S))))) := Lib.hid (by
            have eq : mrg vle L1 R1 = L1 ++ R1 := by rw [show L1 = [] from List.length_eq_zero_iff.1 (by have := HL.out; omega), mrg_nil_l]; rfl
            rw [eq, List.append_assoc]
            exact HX.out)
          have HX : Hid (Row wr g sl (P ++ (mrg vle L1 R1 ++ (mrg vle L2 R2 ++ S)))) := Lib.hid (by
            have eq : mrg vle L2 R2 = L2 ++ R2 := by rw [show R2 = [] from List.length_eq_zero_iff.1 (by have := HL.out; omega), mrg_nil_r, List.append_nil]
            rw [eq, List.append_assoc]
            exact HX.out)
          go_wp2_with fail
          go_end0
          exact ⟨rfl, by rw [HCUT.out, List.append_assoc]; exact HX.out, HM.out⟩
  · by_cases c1 : a < s
    · by_cases c3 : m < e
      · have f2 : ¬ (s : Int) < (m : Int) := by have := HQ.out; omega
        have f5 : ¬ (mid : Int) < (e : Int) := by have := HQ.out; omega
        have f3 : (m : Int) < (e : Int) := by have := HQ.out; omega
        have f6 : (s : Int) < (mid : Int) := by have := HQ.out; omega
        have f1 : (a : Int) < (s : Int) := by have := HQ.out; omega
        have HX : Hid (Row wr g sl (P ++ (L1 ++ (R1 ++ (L2 ++ (R2 ++ S)))))) := Lib.hid (by
          have eq : L2 ++ (R1 ++ (R2 ++ S)) = R1 ++ (L2 ++ (R2 ++ S)) := by rw [show L2 = [] from List.length_eq_zero_iff.1 (by have := HL.out; omega)]; rfl
          have := HX.out
          rw [eq] at this
          exact this)
        go_wp2_with fail
        refine (HIH.out w0 g sl P L1 R1 (L2 ++ (R2 ++ S)) L a s mid c (by have := HL.out; have := HNL.out; have := HAR.out; omega) HA.out (by have := HL.out; omega) (by have := HL.out; have := HAR.out; omega) (by have := HSZ.out; simp; omega) (by have := HL.out; omega) (by have := HL.out; have := HQ.out; omega) hX hc HS1.out HS3.out HRS12.out.1 HRS34.out.1 wr (HIN.out.mod HM.out) HX.out).mono ?_
        rintro e4 w4 ⟨rfl, k1, k2⟩
        have HX : Hid (Row w4 g sl (P ++ (mrg vle L1 R1 ++ (L2 ++ (R2 ++ S))))) := Lib.hid k1
        have HM : Hid (Mod (fun i => i = g) w w4) := Lib.hid (HM.out.trans k2 (fun _ _ h => h))
        clear k1 k2
        have HX : Hid (Row w4 g sl (P ++ (mrg vle L1 R1 ++ (mrg vle L2 R2 ++ S)))) := Lib.hid (by
          have eq : mrg vle L2 R2 = L2 ++ R2 := by rw [show L2 = [] from List.length_eq_zero_iff.1 (by have := HL.out; omega), mrg_nil_l]; rfl
          rw [eq, List.append_assoc]
          exact HX.out)
        go_wp2_with fail
        go_end0
        exact ⟨rfl, by rw [HCUT.out, List.append_assoc]; exact HX.out, HM.out⟩
      · have f2 : ¬ (s : Int) < (m : Int) := by have := HQ.out; omega
        have f5 : ¬ (mid : Int) < (e : Int) := by have := HQ.out; omega
        have f3 : ¬ (m : Int) < (e : Int) := by have := HQ.out; omega
        have f6 : ¬ (s : Int) < (mid : Int) := by have := HQ.out; omega
        have f1 : (a : Int) < (s : Int) := by have := HQ.out; omega
        have HX : Hid (Row wr g sl (P ++ (L1 ++ (R1 ++ (L2 ++ (R2 ++ S)))))) := Lib.hid (by
          have eq : L2 ++ (R1 ++ (R2 ++ S)) = R1 ++ (L2 ++ (R2 ++ S)) := by rw [show L2 = [] from List.length_eq_zero_iff.1 (by have := HL.out; omega)]; rfl
          have := HX.out
          rw [eq] at this
          exact this)
        have HX : Hid (Row wr g sl (P ++ (mrg vle L1 R1 ++ (L2 ++ (R2 ++ S))))) := Lib.hid (by
          have eq : mrg vle L1 R1 = L1 ++ R1 := by rw [show R1 = [] from List.length_eq_zero_iff.1 (by have := HL.out; have := HQ.out; omega), mrg_nil_r, List.append_nil]
          rw [eq, List.append_assoc]
          exact HX.out)
        have HX : Hid (Row wr g sl (P ++ (mrg vle L1 R1 ++ (mrg vle L2 R2 ++ S)))) := Lib.hid (by
          have eq : mrg vle L2 R2 = L2 ++ R2 := by rw [show L2 = [] from List.length_eq_zero_iff.1 (by have := HL.out; omega), mrg_nil_l]; rfl
          rw [eq, List.append_assoc]
          exact HX.out)
        go_wp2_with fail
        go_end0
        exact ⟨rfl, by rw [HCUT.out, List.append_assoc]; exact HX.out, HM.out⟩
    · have f2 : ¬ (s : Int) < (m : Int) := by have := HQ.out; omega
      have f5 : ¬ (mid : Int) < (e : Int) := by have := HQ.out; omega
      have f1 : ¬ (a : Int) < (s : Int) := by have := HQ.out; omega
      have HX : Hid (Row wr g sl (P ++ (L1 ++ (R1 ++ (L2 ++ (R2 ++ S)))))) := Lib.hid (by
        have eq : L2 ++ (R1 ++ (R2 ++ S)) = R1 ++ (L2 ++ (R2 ++ S)) := by rw [show L2 = [] from List.length_eq_zero_iff.1 (by have := HL.out; omega)]; rfl
        have := HX.out
        rw [eq] at this
        exact this)
      have HX : Hid (Row wr g sl (P ++ (mrg vle L1 R1 ++ (L2 ++ (R2 ++ S))))) := Lib.hid (by
        have eq : mrg vle L1 R1 = L1 ++ R1 := by rw [show L1 = [] from List.length_eq_zero_iff.1 (by have := HL.out; omega), mrg_nil_l]; rfl
        rw [eq, List.append_assoc]
        exact HX.out)
      have HX : Hid (Row wr g sl (P ++ (mrg vle L1 R1 ++ (mrg vle L2 R2 ++ S)))) := Lib.hid (by
        have eq : mrg vle L2 R2 = L2 ++ R2 := by rw [show L2 = [] from List.length_eq_zero_iff.1 (by have := HL.out; omega), mrg_nil_l]; rfl
        rw [eq, List.append_assoc]
        exact HX.out)
      go_wp2_with fail
      go_end0
      exact ⟨rfl, by rw [HCUT.out, List.append_assoc]; exact HX.out, HM.out⟩
end Go.Proofs.YteeijjhgdplifaaDoor
