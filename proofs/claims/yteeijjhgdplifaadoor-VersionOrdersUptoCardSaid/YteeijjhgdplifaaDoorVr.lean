/- What version.Sort's stable sorting comes to: the comparison handed on, exchange of ranges, rotation. -/
import Derived.Test.YteeijjhgdplifaaDoorVq
import Derived.Test.YteeijjhgdplifaaDoorVi
import Derived.Test.YteeijjhgdplifaaDoorRc
namespace Go.Proofs.YteeijjhgdplifaaDoor
open Go.RowKit

theorem wr_eq {x : Int} {p : Nat} (h : x = (p : Int)) (hp : p ≤ 9000000000000000000) : IntKind.i64.wrap x = (p : Int) := by
  rw [h]; exact IntWalk.i64_in _ (by omega)
/-- A row of texts, with what the slice's room holds behind them. -/
def Row (w : World) (g : Nat) (sl : List Value) (X : List (List UInt8)) : Prop := Blk w g 9 (strsL X ++ sl)
section
variable {w w' : World} {g : Nat} {sl : List Value} {X : List (List UInt8)} {i : Nat} {x : List UInt8}
theorem Row.drew (h : Row w g sl X) : Row w.drew g sl X := Blk.drew h
theorem Row.lt (h : Row w g sl X) : g < w.heap.size := Blk.lt h
theorem Row.frozen (h : Row w g sl X) (i : Nat) : w.frozen? ⟨g, i, none⟩ = false := Blk.frozen h i
theorem Row.below (h : Row w g sl X) (hb : Below w.heap.size w w') : Row w' g sl X := Blk.below' h hb
theorem Row.cell (h : Row w g sl X) (hx : X[i]? = some x) : w.cell? ⟨g, i, none⟩ = some (.string (bl x)) := by
  have h1 := strsL_get hx
  rw [Blk.cell h, List.getElem?_append_left (List.getElem?_eq_some_iff.1 h1).1]
  exact h1
theorem Row.set_lt (h : Row w g sl X) (hi : i < X.length) (y : List UInt8) : Row (w.setCell ⟨g, i, none⟩ (.string (bl y))) g sl (X.set i y) := by
  have h1 := Blk.set_ h i (.string (bl y))
  rw [List.set_append_left _ _ (by simpa [strsL] using hi)] at h1
  unfold Row
  rw [show strsL (X.set i y) = (strsL X).set i (.string (bl y)) by simp [strsL, List.map_set]]
  exact h1
theorem Row.set_ (h : Row w g sl X) (hx : X[i]? = some x) (y : List UInt8) : Row (w.setCell ⟨g, i, none⟩ (.string (bl y))) g sl (X.set i y) := h.set_lt (List.getElem?_eq_some_iff.1 hx).1 y
end

set_option maxRecDepth 100000 in
set_option maxHeartbeats 2000000 in
theorem swapRange_ok (g : Nat) (sl : List Value) (X : List (List UInt8)) (L a b n c : Nat) (fv : Value) (hL : X.length = L) (hab : a + n ≤ b) (hbn : b + n ≤ L) (hX : L ≤ 4000000000) (hc : L ≤ c) (w : World) (h : Row w g sl X) :
    Calls Tryd.prog 141 #[.slice (some ⟨g, 0, none⟩) L c, .int .i64 a, .int .i64 b, .int .i64 n, fv] w fun e w' => e = .returned (.tuple #[]) ∧ Row w' g sl (swapR X a b n) ∧ Mod (fun i => i = g) w w' := by
  have HL := Lib.hid hL
  have HX0 : Hid (Row w g sl (swapR X a b 0)) := Lib.hid h
  have HR0 : Hid (Mod (fun i => i = g) w w) := Lib.hid (Mod.refl _ _)
  clear hL h
  go_enter Tryd.func141, Tryd.ntmps141
  go_wp2_with fail
  go_loopg [10] n (fun kq iv wr => ∃ i : Nat, iv = .int .i64 i ∧ i ≤ n ∧ kq = n - i ∧ Hid (Row wr g sl (swapR X a b i)) ∧ Hid (Mod (fun i => i = g) w wr))
  case atStart => exact ⟨0, rfl, Nat.zero_le _, rfl, HX0, HR0⟩
  case round =>
  clear HX0 HR0
  obtain ⟨i, rfl, hi, rfl, HX, HM⟩ := hrel
  by_cases hlt : i < n
  · have hltI : (i : Int) < n := by omega
    obtain ⟨p, hp⟩ : ∃ p, p = a + i := ⟨_, rfl⟩
    obtain ⟨q, hq⟩ : ∃ q, q = b + i := ⟨_, rfl⟩
    have hpL : (p : Int) < L := by omega
    have hqL : (q : Int) < L := by omega
    have hp0 : 0 ≤ (p : Int) := by omega
    have hq0 : 0 ≤ (q : Int) := by omega
    have wp : IntKind.i64.wrap ((a : Int) + (i : Int)) = (p : Int) := wr_eq (by omega) (by omega)
    have wq : IntKind.i64.wrap ((b : Int) + (i : Int)) = (q : Int) := wr_eq (by omega) (by omega)
    have hsl := swapR_length X a b i
    obtain ⟨x, hx⟩ : ∃ x, (swapR X a b i)[p]? = some x := ⟨_, List.getElem?_eq_getElem (by rw [hsl, HL.out]; omega)⟩
    obtain ⟨y, hy⟩ : ∃ y, (swapR X a b i)[q]? = some y := ⟨_, List.getElem?_eq_getElem (by rw [hsl, HL.out]; omega)⟩
    have HPX := Lib.hid hx
    have HPY := Lib.hid hy
    have HPQ := Lib.hid (And.intro hp hq)
    clear hx hy hp hq hsl
    go_upto_region 3 with fail
    obtain ⟨wd, hwd⟩ : ∃ wd, wd = wr.drew := ⟨_, rfl⟩
    obtain ⟨ws1, hs1⟩ : ∃ ws1, ws1 = wd.setCell ⟨g, p, none⟩ (.string (bl y)) := ⟨_, rfl⟩
    obtain ⟨ws2, hs2⟩ : ∃ ws2, ws2 = ws1.setCell ⟨g, q, none⟩ (.string (bl x)) := ⟨_, rfl⟩
    have kd : Row wd g sl (swapR X a b i) := by rw [hwd]; exact HX.out.drew
    have k1 : Row ws1 g sl ((swapR X a b i).set p y) := by rw [hs1]; exact kd.set_ HPX.out y
    have k2 : Row ws2 g sl (swp (swapR X a b i) p q) := by rw [hs2, swp_some HPX.out HPY.out]; exact k1.set_lt (Nat.lt_of_lt_of_eq (List.getElem?_eq_some_iff.1 HPY.out).1 List.length_set.symm) x
    have m2 : Mod (fun i => i = g) wr ws2 := by rw [hs2, hs1, hwd]; exact (((Mod.refl (fun i => i = g) wr).drew).setCell (p := ⟨g, p, none⟩) (fun _ => rfl) _).setCell (p := ⟨g, q, none⟩) (fun _ => rfl) _
    have HCD : Hid (wd.cell? ⟨g, p, none⟩ = some (.string (bl x)) ∧ wd.cell? ⟨g, q, none⟩ = some (.string (bl y)) ∧ wd.frozen? ⟨g, p, none⟩ = false ∧ g < wd.heap.size) := Lib.hid ⟨kd.cell HPX.out, kd.cell HPY.out, kd.frozen p, kd.lt⟩
    have HC1 : Hid (∃ u, ws1.cell? ⟨g, q, none⟩ = some u ∧ ws1.frozen? ⟨g, q, none⟩ = false ∧ g < ws1.heap.size) := Lib.hid (by
      obtain ⟨u, hu⟩ : ∃ u, ((swapR X a b i).set p y)[q]? = some u := ⟨_, List.getElem?_eq_getElem (Nat.lt_of_lt_of_eq (List.getElem?_eq_some_iff.1 HPY.out).1 List.length_set.symm)⟩
      exact ⟨_, k1.cell hu, k1.frozen q, k1.lt⟩)
    have HK2 := Lib.hid k2
    have HM2 := Lib.hid m2
    have HS1 := Lib.hid hs1
    have HS2 := Lib.hid hs2
    clear hs1 hs2 kd k1 k2 m2
    try simp only [Act.put, List.setIfInBounds_toArray, List.set_cons_zero, List.set_cons_succ]
    obtain ⟨Inv, hInv⟩ : ∃ Inv : Done → World → Prop, Inv = Chain2 21 23 (fun wI => wI = wd) (fun _ wI => wI = ws1) (fun _ _ wI => wI = ws2) := ⟨_, rfl⟩
    have HI := Lib.hid hInv
    have hcz : Hid (∀ τ wI, Inv τ wI → τ 21 = none → wI.cell? ⟨g, p, none⟩ = some (.string (bl x)) ∧ wI.cell? ⟨g, q, none⟩ = some (.string (bl y)) ∧ wI.frozen? ⟨g, p, none⟩ = false ∧ g < wI.heap.size) := by
      intro τ wI h h9
      rw [hInv] at h
      obtain rfl := h.upto0 h9
      exact HCD.out
    have H00 : Hid (Inv Done.none wr.drew) := by rw [hInv]; exact Chain2.start hwd.symm
    clear hInv hwd
    refine wp_region_inv (by kernel_rfl) [⟨0, false, [], [21, 23]⟩, ⟨1, false, [], [21, 23]⟩, ⟨2, false, [], [21, 23]⟩, ⟨3, false, [], [21, 23]⟩, ⟨4, false, [], [23]⟩, ⟨5, false, [], [23]⟩, ⟨6, false, [], [23]⟩, ⟨7, false, [], [23]⟩, ⟨8, false, [], [21, 23]⟩, ⟨9, false, [], [21, 23]⟩, ⟨10, false, [], [21, 23]⟩, ⟨11, false, [], [21, 23]⟩, ⟨12, false, [], [21, 23]⟩, ⟨13, false, [], [21, 23]⟩, ⟨14, false, [], [21, 23]⟩, ⟨15, false, [], [21, 23]⟩, ⟨16, false, [], [21, 23]⟩, ⟨17, false, [], [21, 23]⟩, ⟨18, false, [], [21, 23]⟩, ⟨19, false, [], [21, 23]⟩, ⟨20, false, [], [21, 23]⟩, ⟨21, true, [], [23]⟩, ⟨22, false, [21], [23]⟩, ⟨23, true, [21], []⟩] (by kernel_rfl) Inv (fun _ _ => True) (fun _ => ⟨undef, trivial⟩) H00.out ?_
    iterate 4 (apply WpI.pure; (simp only [List.getElem?_toArray, List.getElem?_cons_succ, List.getElem?_cons_zero]; rfl); (intro τ wI hA hI; obtain ⟨f0, f1, f2, f3⟩ := hcz.out τ wI hI (hA.2 21 (by decide)); go_simp; exact ⟨hI, Is.rfl'⟩); simp only [Act.put, List.setIfInBounds_toArray, List.set_cons_zero, List.set_cons_succ])
    iterate 4 (apply WpI.pure; (simp only [List.getElem?_toArray, List.getElem?_cons_succ, List.getElem?_cons_zero]; rfl); (intro τ wI hA hI; go_simp; exact ⟨hI, Is.rfl'⟩); simp only [Act.put, List.setIfInBounds_toArray, List.set_cons_zero, List.set_cons_succ])
    iterate 13 (apply WpI.pure; (simp only [List.getElem?_toArray, List.getElem?_cons_succ, List.getElem?_cons_zero]; rfl); (intro τ wI hA hI; obtain ⟨f0, f1, f2, f3⟩ := hcz.out τ wI hI (hA.2 21 (by decide)); go_simp; exact ⟨hI, Is.rfl'⟩); simp only [Act.put, List.setIfInBounds_toArray, List.set_cons_zero, List.set_cons_succ])
    apply WpI.effect; (simp only [List.getElem?_toArray, List.getElem?_cons_succ, List.getElem?_cons_zero]; rfl)
    · intro τ wI hA hn hI
      have h0 := hI
      rw [HI.out] at h0
      have h23 : τ 23 = none := hA.2 23 (by decide)
      have hK := h0.at0 hn h23
      have HT := Lib.hid (And.intro True.intro (And.intro h23 (True.intro)))
      clear hA hn hI h0 h23
      subst hK
      obtain ⟨c1, c2, c3, c4⟩ := HCD.out
      go_simp
      rw [← HS1.out, HI.out]
      exact Chain2.put1 HT.out.2.1 (by decide) rfl
    intro v21 hv21
    simp only [Act.put, List.setIfInBounds_toArray, List.set_cons_zero, List.set_cons_succ]
    clear hv21
    (apply WpI.pure; (simp only [List.getElem?_toArray, List.getElem?_cons_succ, List.getElem?_cons_zero]; rfl); (intro τ wI hA hI; go_simp; exact ⟨hI, Is.rfl'⟩); simp only [Act.put, List.setIfInBounds_toArray, List.set_cons_zero, List.set_cons_succ])
    apply WpI.effect; (simp only [List.getElem?_toArray, List.getElem?_cons_succ, List.getElem?_cons_zero]; rfl)
    · intro τ wI hA hn hI
      have h0 := hI
      rw [HI.out] at h0
      have h21 : τ 21 = some v21 := hA.1 21 (by decide)
      have hK := h0.at1 h21 hn
      have HT := Lib.hid (And.intro True.intro (And.intro h21 (True.intro)))
      clear hA hn hI h0 h21
      subst hK
      obtain ⟨u, c1, c3, c4⟩ := HC1.out
      go_simp
      rw [← HS2.out, HI.out]
      exact Chain2.put2 HT.out.2.1 (by decide) rfl
    intro v23 hv23
    simp only [Act.put, List.setIfInBounds_toArray, List.set_cons_zero, List.set_cons_succ]
    clear hv23
    refine WpI.done ?_
    intro w9 hI
    rw [HI.out] at hI
    have hE := hI.end_ (by decide)
    have HX9 : Hid (Row w9 g sl (swp (swapR X a b i) p q)) := Lib.hid (by rw [hE]; exact HK2.out)
    have HM9 : Hid (Mod (fun i => i = g) wr w9) := Lib.hid (by rw [hE]; exact HM2.out)
    clear hE hI H00 hcz HI HCD HC1 HS1 HS2 HK2 HM2
    have HXN : Hid (Row w9 g sl (swapR X a b (i + 1))) := Lib.hid (by rw [swapR, ← HPQ.out.1, ← HPQ.out.2]; exact HX9.out)
    have HMN : Hid (Mod (fun i => i = g) w w9) := Lib.hid (HM.out.trans HM9.out (fun _ _ h => h))
    clear HX9 HM9 HX HM wp wq
    go_wp2_with fail
    go_roundg (n - (i + 1))
    case measure => omega
    case rel => exact ⟨i + 1, by go_num, by omega, rfl, HXN, HMN⟩
  · obtain rfl : i = n := by omega
    go_wp2_with fail
    go_end0
    exact ⟨rfl, HX.out, HM.out⟩

theorem four_len (P A C S : List (List UInt8)) : (P ++ (A ++ (C ++ S))).length = P.length + A.length + C.length + S.length := by simp; omega
set_option maxRecDepth 100000 in
set_option maxHeartbeats 2000000 in
theorem rotate_ok (g : Nat) (sl : List Value) (P A C S : List (List UInt8)) (L a m b c : Nat) (fv : Value) (ha : P.length = a) (hA : a + A.length = m) (hC : m + C.length = b) (hL : (P ++ (A ++ (C ++ S))).length = L) (h1 : 1 ≤ A.length) (h2 : 1 ≤ C.length) (hX : L ≤ 4000000000) (hc : L ≤ c) (w : World) (h : Row w g sl (P ++ (A ++ (C ++ S)))) :
    Calls Tryd.prog 124 #[.slice (some ⟨g, 0, none⟩) L c, .int .i64 a, .int .i64 m, .int .i64 b, fv] w fun e w' => e = .returned (.tuple #[]) ∧ Row w' g sl (P ++ (C ++ (A ++ S))) ∧ Mod (fun i => i = g) w w' := by
  obtain ⟨T, hT⟩ : ∃ T, T = P ++ (C ++ (A ++ S)) := ⟨_, rfl⟩
  rw [← hT]
  have hl0 := four_len P A C S
  obtain ⟨i0, hi0⟩ : ∃ i0, i0 = A.length := ⟨_, rfl⟩
  obtain ⟨j0, hj0⟩ : ∃ j0, j0 = C.length := ⟨_, rfl⟩
  have hmL : m ≤ 4000000000 := by omega
  have hbL : b ≤ 4000000000 := by omega
  have wi0 : IntKind.i64.wrap ((m : Int) - (a : Int)) = (i0 : Int) := wr_eq (by omega) (by omega)
  have wj0 : IntKind.i64.wrap ((b : Int) - (m : Int)) = (j0 : Int) := wr_eq (by omega) (by omega)
  have H0 : Hid (∃ (P' A' C' S' : List (List UInt8)), A'.length = i0 ∧ C'.length = j0 ∧ P'.length + i0 = m ∧ 1 ≤ i0 ∧ 1 ≤ j0 ∧ (P' ++ (A' ++ (C' ++ S'))).length = L ∧ P' ++ (C' ++ (A' ++ S')) = T ∧ Row w g sl (P' ++ (A' ++ (C' ++ S')))) :=
    Lib.hid ⟨P, A, C, S, hi0.symm, hj0.symm, by omega, by omega, by omega, hL, hT.symm, h⟩
  have HR0 : Hid (Mod (fun i => i = g) w w) := Lib.hid (Mod.refl _ _)
  clear hT hl0 hi0 hj0 h hL h1 h2 ha hA hC
  go_enter Tryd.func124, Tryd.ntmps124
  go_wp2_with fail
  go_loopg [10, 11] (i0 + j0) (fun kq iv jv wr => ∃ i j : Nat, iv = .int .i64 i ∧ jv = .int .i64 j ∧ kq = i + j ∧ Hid (∃ (P' A' C' S' : List (List UInt8)), A'.length = i ∧ C'.length = j ∧ P'.length + i = m ∧ 1 ≤ i ∧ 1 ≤ j ∧ (P' ++ (A' ++ (C' ++ S'))).length = L ∧ P' ++ (C' ++ (A' ++ S')) = T ∧ Row wr g sl (P' ++ (A' ++ (C' ++ S')))) ∧ Hid (Mod (fun i => i = g) w wr))
  case atStart => exact ⟨i0, j0, rfl, rfl, rfl, H0, HR0⟩
  case round =>
  clear H0 HR0 wi0 wj0
  obtain ⟨i, j, rfl, rfl, rfl, H, HM⟩ := hrel
  obtain ⟨P', A', C', S', hA', hC', hP', hi1, hj1, hlen, hT', hrow⟩ := H.out
  have hl := four_len P' A' C' S'
  obtain ⟨p, hp⟩ : ∃ p, p = P'.length := ⟨_, rfl⟩
  have hpm : p + i = m := by omega
  have hij : m + j ≤ L := by omega
  have wp : IntKind.i64.wrap ((m : Int) - (i : Int)) = (p : Int) := wr_eq (by omega) (by omega)
  have HP := Lib.hid hp
  have HA' := Lib.hid hA'
  have HC' := Lib.hid hC'
  have HL' := Lib.hid hlen
  have HT' := Lib.hid hT'
  have HW := Lib.hid hrow
  clear hp hA' hC' hP' hlen hT' hrow hl H
  by_cases hij0 : i = j
  · subst hij0
    have HE := Lib.hid (show swapR (P' ++ (A' ++ (C' ++ S'))) p m i = T by
      have := swapR_parts (P := P') (A := A') (M := []) (C := C') (S := S') (a := p) (b := m) (n := i) HP.out.symm HA'.out HC'.out (by simp; omega)
      rw [List.nil_append, List.nil_append] at this
      rw [this]; exact HT'.out)
    have e1 : (i == i) = true := beq_self_eq_true _
    have e2 : ((i : Int) == (i : Int)) = true := beq_self_eq_true _
    go_wp2_with fail
    refine (swapRange_ok g sl _ L p m i c fv HL'.out (by omega) (by omega) hX hc wr HW.out).mono ?_
    rintro e w2 ⟨rfl, k1, k2⟩
    have K1 : Hid (Row w2 g sl T) := Lib.hid (by rw [← HE.out]; exact k1)
    have K2 : Hid (Mod (fun i => i = g) w w2) := Lib.hid (HM.out.trans k2 (fun _ _ h => h))
    clear k1 k2
    go_wp2_with fail
    go_end0
    exact ⟨rfl, K1.out, K2.out⟩
  · have e1 : (i == j) = false := by simpa using hij0
    have e2 : ((i : Int) == (j : Int)) = false := by rw [beq_eq_false_iff_ne]; omega
    have e3 : ¬ (i : Int) = (j : Int) := by omega
    by_cases hgt : j < i
    · have hgI : (j : Int) < (i : Int) := by omega
      obtain ⟨i', hi'⟩ : ∃ i', i' = i - j := ⟨_, rfl⟩
      have wi : IntKind.i64.wrap ((i : Int) - (j : Int)) = (i' : Int) := wr_eq (by omega) (by omega)
      have hii : i = j + i' := by omega
      have hi'1 : 1 ≤ i' := by omega
      have HE := Lib.hid (show swapR (P' ++ (A' ++ (C' ++ S'))) p m j = (P' ++ C') ++ (A'.drop j ++ (A'.take j ++ S')) by
        have := swapR_parts (P := P') (A := A'.take j) (M := A'.drop j) (C := C') (S := S') (a := p) (b := m) (n := j) HP.out.symm (by rw [List.length_take, HA'.out]; omega) HC'.out (by rw [List.length_drop, HA'.out]; omega)
        rw [← List.append_assoc (A'.take j), List.take_append_drop] at this
        rw [this, List.append_assoc])
      have HII := Lib.hid hii
      clear hi' hii e3
      go_wp2_with fail
      refine (swapRange_ok g sl _ L p m j c fv HL'.out (by have := HII.out; omega) (by omega) hX hc wr HW.out).mono ?_
      rintro e w2 ⟨rfl, k1, k2⟩
      have K1 : Hid (∃ (P' A' C' S' : List (List UInt8)), A'.length = i' ∧ C'.length = j ∧ P'.length + i' = m ∧ 1 ≤ i' ∧ 1 ≤ j ∧ (P' ++ (A' ++ (C' ++ S'))).length = L ∧ P' ++ (C' ++ (A' ++ S')) = T ∧ Row w2 g sl (P' ++ (A' ++ (C' ++ S')))) := Lib.hid (by
        have hii := HII.out
        have hA' := HA'.out
        have hC' := HC'.out
        have hp := HP.out
        rw [HE.out] at k1
        refine ⟨P' ++ C', A'.drop j, A'.take j, S', by rw [List.length_drop]; omega, by rw [List.length_take]; omega, by rw [List.length_append]; omega, hi'1, hj1, ?_, ?_, k1⟩
        · rw [← HL'.out]; simp; omega
        · rw [← HT'.out]
          rw [← List.append_assoc (A'.take j), List.take_append_drop, List.append_assoc])
      have K2 : Hid (Mod (fun i => i = g) w w2) := Lib.hid (HM.out.trans k2 (fun _ _ h => h))
      have HIJ : Hid (i' + j < i + j) := Lib.hid (by have := HII.out; omega)
      clear k1 k2 HE HT' HW HM HL' HP HA' HC' wp e1 e2
      go_wp2_with fail
      go_roundg (i' + j)
      case measure => exact HIJ.out
      case rel => exact ⟨i', j, rfl, rfl, rfl, K1, K2⟩
    · have hgI : ¬ (j : Int) < (i : Int) := by omega
      obtain ⟨j', hj'⟩ : ∃ j', j' = j - i := ⟨_, rfl⟩
      obtain ⟨q, hq⟩ : ∃ q, q = m + j - i := ⟨_, rfl⟩
      have wj : IntKind.i64.wrap ((j : Int) - (i : Int)) = (j' : Int) := wr_eq (by omega) (by omega)
      have wq : IntKind.i64.wrap ((m : Int) + (j : Int) - (i : Int)) = (q : Int) := wr_eq (by omega) (by omega)
      have hjj : j = j' + i := by omega
      have hqq : q = m + j' := by omega
      have hj'1 : 1 ≤ j' := by omega
      have HE := Lib.hid (show swapR (P' ++ (A' ++ (C' ++ S'))) p q i = P' ++ (C'.drop j' ++ (C'.take j' ++ (A' ++ S'))) by
        have := swapR_parts (P := P') (A := A') (M := C'.take j') (C := C'.drop j') (S := S') (a := p) (b := q) (n := i) HP.out.symm HA'.out (by rw [List.length_drop, HC'.out]; omega) (by rw [List.length_take, HC'.out]; omega)
        rw [← List.append_assoc (C'.take j') (C'.drop j') S', List.take_append_drop] at this
        exact this)
      have HJJ := Lib.hid hjj
      have HQQ := Lib.hid hqq
      clear hj' hjj hq hqq e3
      go_wp2_with fail
      refine (swapRange_ok g sl _ L p q i c fv HL'.out (by have := HQQ.out; omega) (by have := HQQ.out; have := HJJ.out; omega) hX hc wr HW.out).mono ?_
      rintro e w2 ⟨rfl, k1, k2⟩
      have K1 : Hid (∃ (P' A' C' S' : List (List UInt8)), A'.length = i ∧ C'.length = j' ∧ P'.length + i = m ∧ 1 ≤ i ∧ 1 ≤ j' ∧ (P' ++ (A' ++ (C' ++ S'))).length = L ∧ P' ++ (C' ++ (A' ++ S')) = T ∧ Row w2 g sl (P' ++ (A' ++ (C' ++ S')))) := Lib.hid (by
        have hjj := HJJ.out
        have hA' := HA'.out
        have hC' := HC'.out
        have hp := HP.out
        rw [HE.out] at k1
        refine ⟨P', C'.drop j', C'.take j', A' ++ S', by rw [List.length_drop]; omega, by rw [List.length_take]; omega, by omega, hi1, hj'1, ?_, ?_, k1⟩
        · rw [← HL'.out]; simp; omega
        · rw [← HT'.out]
          rw [← List.append_assoc (C'.take j'), List.take_append_drop])
      have K2 : Hid (Mod (fun i => i = g) w w2) := Lib.hid (HM.out.trans k2 (fun _ _ h => h))
      have HIJ : Hid (i + j' < i + j) := Lib.hid (by have := HJJ.out; omega)
      clear k1 k2 HE HT' HW HM HL' HP HA' HC' wp wq e1 e2
      go_wp2_with fail
      go_roundg (i + j')
      case measure => exact HIJ.out
      case rel => exact ⟨i, j', rfl, rfl, rfl, K1, K2⟩
end Go.Proofs.YteeijjhgdplifaaDoor
