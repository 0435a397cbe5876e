/- Go's stable sort over a row of texts, by version.Sort's comparison. -/
import Derived.Test.YteeijjhgdplifaaDoorVw
namespace Go.Proofs.YteeijjhgdplifaaDoor
open Go.RowKit

theorem sym_all : ∀ n, SymOK n
  | 0 => fun w0 g sl P A R S L a m b c hn _ _ _ _ h1 => by omega
  | n + 1 => fun w0 g sl P A R S L a m b c hn ha hm hb hL h1 h2 hX hc hsA hsR hrA hrR w hin h => by
    by_cases hA1 : A.length = 1
    · obtain ⟨x, rfl⟩ := List.length_eq_one_iff.1 hA1
      exact symOneL_ok w0 g sl P x R S L a m b c ha hm hb hL hX hc (hsA x (by simp)) hsR hrR w hin h
    · by_cases hR1 : R.length = 1
      · obtain ⟨x, rfl⟩ := List.length_eq_one_iff.1 hR1
        exact symOneR_ok w0 g sl P A x S L a m b c ha hm (by omega) hb hL hX hc (hsR x (by simp)) hsA hrA w hin h
      · exact symRec_ok n (sym_all n) w0 g sl P A R S L a m b c hn ha hm hb hL (by omega) (by omega) hX hc hsA hsR hrA hrR w hin h

set_option maxRecDepth 100000 in
theorem insertion_nil (w : World) : Calls Tryd.prog 93 #[.slice none 0 0, .int .i64 0, .int .i64 0, fcmp] w fun e w' => e = .returned (.tuple #[]) ∧ w = w' := by
  go_enter Tryd.func93, Tryd.ntmps93
  go_wp2_with fail
  go_loopg [8] 0 (fun kq iv wr => iv = .int .i64 1 ∧ kq = 0 ∧ wr = w)
  case atStart => exact ⟨rfl, rfl, rfl⟩
  case round =>
  obtain ⟨rfl, rfl, rfl⟩ := hrel
  go_wp2_with fail
  go_end0
  exact ⟨rfl, rfl⟩

/-- one round of the sorting by blocks -/
def Blocks1 (X : List (List UInt8)) (wr : World) (g : Nat) (sl : List Value) (a L : Nat) : Prop := ∃ D Xr, Row wr g sl (D ++ Xr) ∧ D.length = a ∧ a + Xr.length = L ∧ Short Xr ∧ ∀ Y, Bs vle 20 Xr Y → Bs vle 20 X (D ++ Y)
def Blocks2 (X : List (List UInt8)) (wr : World) (g : Nat) (sl : List Value) (bs a L : Nat) : Prop := ∃ D Xr Y, Row wr g sl (D ++ Y) ∧ D.length = a ∧ a + Xr.length = L ∧ Short Xr ∧ Bs vle bs Xr Y ∧ ∀ Z, Bs vle (2 * bs) Xr Z → Bs vle (2 * bs) X (D ++ Z)

set_option maxRecDepth 100000 in
set_option maxHeartbeats 4000000 in
theorem stable_ok (w0 : World) (g : Nat) (sl : List Value) (X : List (List UInt8)) (L c : Nat) (hL : X.length = L) (hX : L ≤ 4000000000) (hc : L ≤ c) (hsh : Short X) (w : World) (hin : In w0 g w) (h : Row w g sl X) :
    Calls Tryd.prog 71 #[.slice (some ⟨g, 0, none⟩) L c, .int .i64 L, fcmp] w fun e w' => e = .returned (.tuple #[]) ∧ Row w' g sl (srt vle X) ∧ Mod (fun i => i = g) w w' := by
  have H0 : Hid (Blocks1 X w g sl 0 L) := Lib.hid ⟨[], X, h, rfl, by omega, hsh, fun Y h => h⟩
  have HR0 : Hid (Mod (fun i => i = g) w w) := Lib.hid (Mod.refl _ _)
  have HIN := Lib.hid hin
  have HSH := Lib.hid hsh
  have HXL := Lib.hid hL
  clear hL h hin hsh
  go_enter Tryd.func71, Tryd.ntmps71
  go_wp2_with fail
  go_loopg [7, 8] L (fun kq av bv wr => ∃ a : Nat, av = .int .i64 (a : Int) ∧ bv = .int .i64 ((a + 20 : Nat) : Int) ∧ a ≤ L ∧ kq = L - a ∧ Hid (Blocks1 X wr g sl a L) ∧ Hid (Mod (fun i => i = g) w wr))
  case atStart => exact ⟨0, rfl, rfl, Nat.zero_le _, rfl, H0, HR0⟩
  case round =>
  clear H0 HR0
  obtain ⟨a, rfl, rfl, haL, rfl, H, HM⟩ := hrel
  obtain ⟨b, hb⟩ : ∃ b, b = a + 20 := ⟨_, rfl⟩
  rw [← hb]
  have HB := Lib.hid hb
  obtain ⟨D, Xr, hrow, hD, hXr, hsX, hcont⟩ := H.out
  by_cases hbL : b ≤ L
  · have hbI : (b : Int) ≤ (L : Int) := by omega
    have wb : IntKind.i64.wrap ((b : Int) + 20) = ((b + 20 : Nat) : Int) := wr_eq (by omega) (by omega)
    have hrow' : Row wr g sl (D ++ (Xr.take 20 ++ Xr.drop 20)) := by rw [List.take_append_drop]; exact hrow
    have HC := Lib.hid (And.intro hrow' (And.intro hD (And.intro hXr (And.intro hsX hcont))))
    clear hb hrow hD hXr hsX hcont hrow' H
    go_wp2_with fail
    refine (insertion_ok w0 g sl D (Xr.take 20) (Xr.drop 20) L a b c HC.out.2.1 (by have h1 := HC.out.2.2.1; have := HB.out; rw [List.length_take]; omega) (by rw [List.take_append_drop, List.length_append]; have := HC.out.2.1; have := HC.out.2.2.1; omega) hX hc (HC.out.2.2.2.1.sub (fun y hy => List.mem_of_mem_take hy)) wr (HIN.out.mod HM.out) HC.out.1).mono ?_
    rintro e w2 ⟨rfl, k1, k2⟩
    have HN : Hid (Blocks1 X w2 g sl b L) := Lib.hid (by
      have hB := HB.out
      have hD := HC.out.2.1
      have hXr := HC.out.2.2.1
      have htl : (Xr.take 20).length = 20 := by rw [List.length_take]; omega
      refine ⟨D ++ srt vle (Xr.take 20), Xr.drop 20, by rw [List.append_assoc]; exact k1, by rw [List.length_append, srt_length, htl]; omega, by rw [List.length_drop]; omega, HC.out.2.2.2.1.sub (fun y hy => List.mem_of_mem_drop hy), fun Y hY => ?_⟩
      rw [List.append_assoc]
      refine HC.out.2.2.2.2 _ ?_
      have := Bs.cons (Xr.take 20) (Xr.drop 20) Y htl hY
      rw [List.take_append_drop] at this
      exact this)
    have HMN : Hid (Mod (fun i => i = g) w w2) := Lib.hid (HM.out.trans k2 (fun _ _ h => h))
    clear k1 k2 HC HM
    go_wp2_with fail
    go_roundg (L - b)
    case measure => have := HB.out; omega
    case rel => exact ⟨b, rfl, rfl, hbL, rfl, HN, HMN⟩
  have hbI : ¬ (b : Int) ≤ (L : Int) := by omega
  have hrow' : Row wr g sl (D ++ (Xr ++ [])) := by rw [List.append_nil]; exact hrow
  have HC := Lib.hid (And.intro hrow' (And.intro hD (And.intro hXr (And.intro hsX hcont))))
  clear hb hrow hD hXr hsX hcont hrow' H
  go_wp2_with fail
  refine (insertion_ok w0 g sl D Xr [] L a L c HC.out.2.1 HC.out.2.2.1 (by rw [List.append_nil, List.length_append]; have := HC.out.2.1; have := HC.out.2.2.1; omega) hX hc HC.out.2.2.2.1 wr (HIN.out.mod HM.out) HC.out.1).mono ?_
  rintro e w2 ⟨rfl, k1, k2⟩
  have HN : Hid (∃ Y, Row w2 g sl Y ∧ Bs vle 20 X Y) := Lib.hid ⟨_, by rw [List.append_nil] at k1; exact k1, HC.out.2.2.2.2 _ (Bs.last _ (by have := HC.out.2.2.1; have := HB.out; omega))⟩
  have HM2 : Hid (Mod (fun i => i = g) w w2) := Lib.hid (HM.out.trans k2 (fun _ _ h => h))
  clear k1 k2 HC HM
  go_wp2_with fail
  go_loopg [6, 7, 8, 9] (L - 20) (fun kq sv av bv mv wr => ∃ bs : Nat, sv = .int .i64 bs ∧ 20 ≤ bs ∧ bs ≤ 8000000020 ∧ kq = L - bs ∧ Hid (∃ Y, Row wr g sl Y ∧ Bs vle bs X Y) ∧ Hid (Mod (fun i => i = g) w wr))
  case atStart => exact ⟨20, rfl, Nat.le_refl _, by omega, rfl, HN, HM2⟩
  case round =>
  clear HN HM2 HB hbL hbI haL
  obtain ⟨bs, rfl, hbs, hbs2, rfl, H, HM⟩ := hrel
  by_cases hlt : bs < L
  · have hltI : (bs : Int) < (L : Int) := by omega
    have H1 : Hid (Blocks2 X wr g sl bs 0 L) := Lib.hid (by
      obtain ⟨Y, h1, h2⟩ := H.out
      exact ⟨[], X, Y, h1, rfl, by rw [HXL.out]; omega, HSH.out, h2, fun Z h => h⟩)
    obtain ⟨b2, hb2⟩ : ∃ b2, b2 = 2 * bs := ⟨_, rfl⟩
    have w2b : IntKind.i64.wrap (2 * (bs : Int)) = (b2 : Int) := wr_eq (by omega) (by omega)
    have w2c : IntKind.i64.wrap ((bs : Int) * 2) = (b2 : Int) := wr_eq (by omega) (by omega)
    have HB2 := Lib.hid hb2
    clear hb2 H
    go_wp2_with fail
    obtain ⟨wo, hwo⟩ : ∃ wo, wo = wr := ⟨_, rfl⟩
    go_loopg [7, 8] L (fun kq av bv wr => ∃ a : Nat, av = .int .i64 (a : Int) ∧ bv = .int .i64 ((a + b2 : Nat) : Int) ∧ a ≤ L ∧ kq = L - a ∧ Hid (Blocks2 X wr g sl bs a L) ∧ Hid (Mod (fun i => i = g) w wr))
    case atStart => exact ⟨0, rfl, by simp, Nat.zero_le _, rfl, H1, HM⟩
    case round =>
    clear H1 HM hwo
    obtain ⟨a, rfl, rfl, haL, rfl, H, HM⟩ := hrel
    obtain ⟨b, hb⟩ : ∃ b, b = a + b2 := ⟨_, rfl⟩
    rw [← hb]
    have HB := Lib.hid hb
    obtain ⟨D, Xr, Y, hrow, hD, hXr, hsX, hbs', hcont⟩ := H.out
    obtain ⟨m, hm⟩ : ∃ m, m = a + bs := ⟨_, rfl⟩
    have wm : IntKind.i64.wrap ((a : Int) + (bs : Int)) = (m : Int) := wr_eq (by omega) (by omega)
    have hb2' := HB2.out
    by_cases hbL : b ≤ L
    · have hbI : (b : Int) ≤ (L : Int) := by omega
      have wb : IntKind.i64.wrap ((b : Int) + (b2 : Int)) = ((b + b2 : Nat) : Int) := wr_eq (by omega) (by omega)
      obtain ⟨A, X1, Y1, rfl, rfl, hAl, hb1⟩ := hbs'.head (by omega)
      rw [List.length_append] at hXr
      obtain ⟨A2, X2, Y2, rfl, rfl, hAl2, hbb2⟩ := hb1.head (by omega)
      rw [List.length_append] at hXr
      have hY2 := hbb2.length
      have HC := Lib.hid (And.intro hrow (And.intro hD (And.intro hXr (And.intro hsX (And.intro hcont (And.intro hAl (And.intro hAl2 (And.intro hbb2 hY2))))))))
      have HMM := Lib.hid hm
      clear hb hrow hD hXr hsX hcont hm hbs' hAl hb1 hAl2 hbb2 hY2 hb2' H
      go_wp2_with fail
      refine (sym_all _ w0 g sl D (srt vle A) (srt vle A2) Y2 L a m b c (Nat.le_refl _) HC.out.2.1 (by rw [srt_length, HC.out.2.2.2.2.2.1]; exact HMM.out.symm) (by rw [srt_length, HC.out.2.2.2.2.2.2.1]; have := HMM.out; have := HB.out; have := HB2.out; omega) (by
        simp only [List.length_append, srt_length]
        have h1 := HC.out.2.1; have h2 := HC.out.2.2.1; have h3 := HC.out.2.2.2.2.2.2.2.2; omega) (by rw [srt_length, HC.out.2.2.2.2.2.1]; omega) (by rw [srt_length, HC.out.2.2.2.2.2.2.1]; omega) hX hc
        ((HC.out.2.2.2.1.sub (fun y hy => by simp [hy])).perm (srt_perm A)) ((HC.out.2.2.2.1.sub (fun y hy => by simp [hy])).perm (srt_perm A2)) (srt_ris vle_pre _) (srt_ris vle_pre _) wr (HIN.out.mod HM.out) HC.out.1).mono ?_
      rintro e w2 ⟨rfl, k1, k2⟩
      have HN : Hid (Blocks2 X w2 g sl bs b L) := Lib.hid (by
        have hB := HB.out
        have hB2 := HB2.out
        obtain ⟨_, hD, hXr, hsX, hcont, hAl, hAl2, hbb2, hY2⟩ := HC.out
        refine ⟨D ++ srt vle (A ++ A2), X2, Y2, by rw [List.append_assoc, ← srt_two vle_pre]; exact k1, by rw [List.length_append, srt_length, List.length_append]; omega, by omega, hsX.sub (fun y hy => by simp [hy]), hbb2, fun Z hZ => ?_⟩
        rw [List.append_assoc]
        refine hcont _ ?_
        have := Bs.cons (A ++ A2) X2 Z (by rw [List.length_append]; omega) hZ
        rw [List.append_assoc] at this
        exact this)
      have HMN : Hid (Mod (fun i => i = g) w w2) := Lib.hid (HM.out.trans k2 (fun _ _ h => h))
      clear k1 k2 HC HM wm
      go_wp2_with fail
      go_roundg (L - b)
      case measure => have := HB.out; have := HB2.out; omega
      case rel => exact ⟨b, rfl, rfl, hbL, rfl, HN, HMN⟩
    have hbI : ¬ (b : Int) ≤ (L : Int) := by omega
    by_cases hmL : m < L
    · have hmI : (m : Int) < (L : Int) := by omega
      obtain ⟨A, X1, Y1, rfl, rfl, hAl, hb1⟩ := hbs'.head (by omega)
      rw [List.length_append] at hXr
      obtain rfl := hb1.small (by omega)
      have hrow' : Row wr g sl (D ++ (srt vle A ++ (srt vle X1 ++ []))) := by rw [List.append_nil]; exact hrow
      have HC := Lib.hid (And.intro hrow' (And.intro hD (And.intro hXr (And.intro hsX (And.intro hcont hAl)))))
      have HMM := Lib.hid hm
      clear hb hrow hrow' hD hXr hsX hcont hm hbs' hAl hb1 hb2' H
      go_wp2_with fail
      refine (sym_all _ w0 g sl D (srt vle A) (srt vle X1) [] L a m L c (Nat.le_refl _) HC.out.2.1 (by rw [srt_length, HC.out.2.2.2.2.2]; exact HMM.out.symm) (by rw [srt_length]; have := HC.out.2.2.1; have := HC.out.2.2.2.2.2; have := HMM.out; omega) (by
        simp only [List.length_append, srt_length, List.length_nil]
        have h1 := HC.out.2.1; have h2 := HC.out.2.2.1; omega) (by rw [srt_length, HC.out.2.2.2.2.2]; omega) (by rw [srt_length]; have := HC.out.2.2.1; have := HC.out.2.2.2.2.2; have := HMM.out; omega) hX hc
        ((HC.out.2.2.2.1.sub (fun y hy => by simp [hy])).perm (srt_perm A)) ((HC.out.2.2.2.1.sub (fun y hy => by simp [hy])).perm (srt_perm X1)) (srt_ris vle_pre _) (srt_ris vle_pre _) wr (HIN.out.mod HM.out) HC.out.1).mono ?_
      rintro e w2 ⟨rfl, k1, k2⟩
      have HN : Hid (∃ Y, Row w2 g sl Y ∧ Bs vle b2 X Y) := Lib.hid (by
        have hB := HB.out
        obtain ⟨_, hD, hXr, hsX, hcont, hAl⟩ := HC.out
        rw [List.append_nil] at k1
        refine ⟨_, k1, ?_⟩
        rw [srt_two vle_pre, HB2.out]
        exact hcont _ (Bs.last _ (by rw [List.length_append]; have := HB2.out; omega)))
      have HMN : Hid (Mod (fun i => i = g) w w2) := Lib.hid (HM.out.trans k2 (fun _ _ h => h))
      clear k1 k2 HC HM wm
      go_wp2_with fail
      go_roundg (L - b2)
      case measure => have := HB2.out; omega
      case rel => exact ⟨b2, rfl, by have := HB2.out; omega, by have := HB2.out; omega, rfl, HN, HMN⟩
    · have hmI : ¬ (m : Int) < (L : Int) := by omega
      have HN : Hid (∃ Y, Row wr g sl Y ∧ Bs vle b2 X Y) := Lib.hid (by
        refine ⟨_, hrow, ?_⟩
        rw [hbs'.small (by omega), HB2.out]
        exact hcont _ (Bs.last _ (by omega)))
      clear hb hrow hD hXr hsX hcont hm hbs' hb2' H
      go_wp2_with fail
      go_roundg (L - b2)
      case measure => have := HB2.out; omega
      case rel => exact ⟨b2, rfl, by have := HB2.out; omega, by have := HB2.out; omega, rfl, HN, HM⟩
  · have hltI : ¬ (bs : Int) < (L : Int) := by omega
    have HXE : Hid (Row wr g sl (srt vle X)) := Lib.hid (by
      obtain ⟨Y, h1, h2⟩ := H.out
      rw [← h2.small (by rw [HXL.out]; omega)]
      exact h1)
    clear H
    go_wp2_with fail
    go_end0
    exact ⟨rfl, HXE.out, HM.out⟩

set_option maxRecDepth 100000 in
theorem stable_nil (w : World) : Calls Tryd.prog 71 #[.slice none 0 0, .int .i64 0, fcmp] w fun e w' => e = .returned (.tuple #[]) ∧ w = w' := by
  go_enter Tryd.func71, Tryd.ntmps71
  go_wp2_with fail
  go_loopg [7, 8] 0 (fun kq av bv wr => av = .int .i64 0 ∧ bv = .int .i64 20 ∧ kq = 0 ∧ wr = w)
  case atStart => exact ⟨rfl, rfl, rfl, rfl⟩
  case round =>
  obtain ⟨rfl, rfl, rfl, rfl⟩ := hrel
  go_wp2_with fail
  refine (insertion_nil _).mono ?_
  rintro e w2 ⟨rfl, rfl⟩
  go_wp2_with fail
  go_loopg [6, 7, 8, 9] 0 (fun kq sv av bv mv w3 => sv = .int .i64 20 ∧ kq = 0 ∧ w3 = wr)
  case atStart => exact ⟨rfl, rfl, rfl⟩
  case round =>
  obtain ⟨rfl, rfl, rfl⟩ := hrel
  go_wp2_with fail
  go_end0
  exact ⟨rfl, rfl⟩

set_option maxRecDepth 100000 in
theorem sortStable_ok (w0 : World) (g : Nat) (sl : List Value) (X : List (List UInt8)) (L c : Nat) (hL : X.length = L) (hX : L ≤ 4000000000) (hc : L ≤ c) (hsh : Short X) (w : World) (hin : In w0 g w) (h : Row w g sl X) :
    Calls Tryd.prog 51 #[.slice (some ⟨g, 0, none⟩) L c, fcmp] w fun e w' => e = .returned (.tuple #[]) ∧ Row w' g sl (srt vle X) ∧ Mod (fun i => i = g) w w' := by
  have H := Lib.hid (stable_ok w0 g sl X L c hL hX hc hsh w hin h)
  clear hL hX hc hsh hin h
  go_enter Tryd.func51, Tryd.ntmps51
  go_wp2_with fail
  refine (H.out).mono ?_
  rintro e w2 ⟨rfl, k1, k2⟩
  have K1 := Lib.hid k1
  have K2 := Lib.hid k2
  clear k1 k2
  go_wp2_with fail
  go_end0
  exact ⟨rfl, K1.out, K2.out⟩
set_option maxRecDepth 100000 in
theorem sortStable_nil (w : World) : Calls Tryd.prog 51 #[.slice none 0 0, fcmp] w fun e w' => e = .returned (.tuple #[]) ∧ w = w' := by
  go_enter Tryd.func51, Tryd.ntmps51
  go_wp2_with fail
  refine (stable_nil _).mono ?_
  rintro e w2 ⟨rfl, rfl⟩
  go_wp2_with fail
  go_end0
  exact ⟨rfl, rfl⟩
end Go.Proofs.YteeijjhgdplifaaDoor
