/- The document's ranges: cut. -/
import Derived.Test.YteeijjhgdplifaaGreatDoorTP
namespace Go.Proofs.YteeijjhgdplifaaGreatDoor
open Go.RowKit

theorem drop_cut {L : List UInt8} {f i : Nat} {c : UInt8} (hfi : f ≤ i) (hL : L[i]? = some c) (hc : c ∉ (L.drop f).take (i - f)) : splitC c (L.drop f) = (L.drop f).take (i - f) :: splitC c (L.drop (i + 1)) := by
  have h1 : L.drop f = (L.drop f).take (i - f) ++ c :: L.drop (i + 1) := by
    have h2 := (List.take_append_drop (i - f) (L.drop f)).symm
    rw [List.drop_drop, show f + (i - f) = i by omega] at h2
    obtain ⟨h3, h4⟩ := List.getElem?_eq_some_iff.1 hL
    rw [List.drop_eq_getElem_cons h3, h4] at h2
    exact h2
  conv => lhs; rw [h1]
  exact splitC_append _ hc
theorem cut_grow {L : List UInt8} {f i : Nat} {b c : UInt8} (hfi : f ≤ i) (hL : L[i]? = some b) (hb : b ≠ c) (hc : c ∉ (L.drop f).take (i - f)) : c ∉ (L.drop f).take (i + 1 - f) := by
  rw [show i + 1 - f = i - f + 1 by omega, List.take_add_one, List.getElem?_drop, show f + (i - f) = i by omega, hL]
  intro h
  rcases List.mem_append.1 h with h | h
  · exact hc h
  · have hcb : c = b := by simpa using h
    exact hb hcb.symm
set_option maxRecDepth 100000 in
set_option maxHeartbeats 4000000 in
theorem refCut_ok (s : ByteArray) (c : UInt8) (hs : s.size ≤ 4000000000) (w : World) : Calls Tryz.prog 31 #[.string s, .int .u8 (c.toNat : Int)] w fun e w' => ∃ A cp n, e = .returned (.slice A n cp) ∧ SRow w' w.heap.size A cp n (splitC c s.data.toList) ∧ Below w.heap.size w w' := by
  obtain ⟨L, hL⟩ : ∃ L, L = s.data.toList := ⟨_, rfl⟩
  rw [← hL]
  have HSZ : Hid (L.length = s.size) := Lib.hid (by rw [hL, Lib.size_eq])
  have HGET : Hid (∀ (i : Nat) (h : i < s.size), L[i]? = some (s[i]'h)) := Lib.hid (fun i h => by
    have e : s.data.toList[i]? = some (s[i]'h) := by rw [List.getElem?_eq_getElem (by rw [← Lib.size_eq]; exact h)]; rfl
    rw [hL, e])
  have HEX : Hid (∀ f i, f ≤ i → i ≤ s.size → s.extract f i = bl ((L.drop f).take (i - f))) := Lib.hid (fun f i _ _ => by
    rw [bl_eta (s.extract f i), ByteArray.data_extract, Array.toList_extract, List.extract_eq_take_drop, hL])
  obtain ⟨S, hS⟩ : ∃ S, S = splitC c L := ⟨_, rfl⟩
  rw [← hS]
  have HS0 : Hid (S = [] ++ splitC c (L.drop 0) ∧ c ∉ (L.drop 0).take (0 - 0)) := Lib.hid ⟨by rw [hS]; rfl, by simp⟩
  have HR0 : Hid (SRow w w.heap.size none 0 0 []) := Lib.hid (SRow.nil_ w _)
  have HB0 : Hid (Below w.heap.size w w) := Lib.hid (Below.refl _ _)
  have hc256 : (c.toNat : Int) < 256 := by have := c.toNat_lt; omega
  have hc0 : 0 ≤ (c.toNat : Int) := by omega
  obtain ⟨ci, hci⟩ : ∃ ci : Int, ci = (c.toNat : Int) := ⟨_, rfl⟩
  rw [← hci] at hc256 hc0 ⊢
  have HCI := Lib.hid hci
  clear hL hS hci
  go_enter Tryz.func31, Tryz.ntmps31
  go_wp2_with fail
  go_loopg [7, 6, 5] (s.size + 1) (fun kq iv fv sv wr => ∃ (i f : Nat) (A : Option Addr) (cp n : Nat) (xs : List (List UInt8)), iv = .int .i64 i ∧ fv = .int .i64 f ∧ sv = .slice A n cp ∧ i ≤ s.size + 1 ∧ f ≤ i ∧ n ≤ i ∧ kq = s.size + 1 - i ∧ Hid (SRow wr w.heap.size A cp n xs) ∧ Hid ((i ≤ s.size → S = xs ++ splitC c (L.drop f) ∧ c ∉ (L.drop f).take (i - f)) ∧ (i = s.size + 1 → S = xs)) ∧ Hid (Below w.heap.size w wr))
  case atStart => exact ⟨0, 0, none, 0, 0, [], rfl, rfl, rfl, by omega, by omega, by omega, rfl, HR0, Lib.hid ⟨fun _ => HS0.out, fun h => by omega⟩, HB0⟩
  case round =>
  clear HR0 HB0 HS0
  obtain ⟨i, f, A, cp, n, xs, rfl, rfl, rfl, hi, hfi, hni, rfl, HR, HS, HB⟩ := hrel
  have hi0 : 0 ≤ (i : Int) := by omega
  have hf0 : 0 ≤ (f : Int) := by omega
  have hfiI : (f : Int) ≤ (i : Int) := by omega
  by_cases hle : i ≤ s.size
  · have hleI : (i : Int) ≤ (s.size : Int) := by omega
    obtain ⟨hS, hcn⟩ := HS.out.1 hle
    have HSS := Lib.hid hS
    have HCN := Lib.hid hcn
    clear hS hcn HS
    by_cases hcut : i = s.size ∨ L[i]? = some c
    · -- a piece ends here
      obtain ⟨x, hx⟩ : ∃ x, x = (L.drop f).take (i - f) := ⟨_, rfl⟩
      have hex := HEX.out f i hfi hle
      rw [← hx] at hex
      obtain ⟨SX, hSX⟩ : ∃ SX, SX = s.extract f i := ⟨_, rfl⟩
      rw [← hSX] at hex
      obtain ⟨A1, c1, w1, hap, hr1, hb1⟩ := HR.out.push HB.out SX x hex (by omega)
      have HAP := Lib.hid hap
      have HR1 := Lib.hid hr1
      have HB1 := Lib.hid hb1
      have HSX := Lib.hid hSX
      rcases Nat.lt_or_ge i s.size with hlt | hge
      · have hLc : L[i]? = some c := hcut.resolve_left (by omega)
        obtain ⟨b, hb⟩ : ∃ b, s[i]'hlt = b := ⟨_, rfl⟩
        have hg := HGET.out i hlt
        rw [hb, hLc] at hg
        obtain rfl : c = b := Option.some.inj hg
        have eci : (c.toNat : Int) = ci := HCI.out.symm
        have hne : ¬ (i : Int) = (s.size : Int) := by omega
        have hneN : ¬ i = s.size := by omega
        have HSN : Hid ((i + 1 ≤ s.size → S = (xs ++ [x]) ++ splitC c (L.drop (i + 1)) ∧ c ∉ (L.drop (i + 1)).take (i + 1 - (i + 1))) ∧ (i + 1 = s.size + 1 → S = xs ++ [x])) := Lib.hid ⟨fun _ => ⟨by rw [HSS.out, drop_cut hfi hLc HCN.out, ← hx]; simp, by simp⟩, fun h => by omega⟩
        clear hx hex hSX hap hr1 hb1 hcut hLc hg HSS HCN HR HB
        go_wp2_with (at_builtin; (try rw [← HSX.out]); refine wpList_app_run _ rfl (.tmp 25) (.tmp 30) 48 48 rfl _ _ rfl rfl _ _ HAP.out ?_)
        go_roundg (s.size + 1 - (i + 1))
        case measure => omega
        case rel => exact ⟨i + 1, i + 1, A1, c1, n + 1, xs ++ [x], by go_num, by go_num, rfl, by omega, by omega, by omega, rfl, HR1, HSN, HB1⟩
      · obtain rfl : i = s.size := by omega
        have HSE : Hid (S = xs ++ [x]) := Lib.hid (by
          have hx2 : x = L.drop f := by rw [hx, List.take_of_length_le (by rw [List.length_drop, HSZ.out]; exact Nat.le_refl _)]
          rw [HSS.out, ← hx2, splitC_none (by rw [hx]; exact HCN.out)])
        clear hx hex hSX hap hr1 hb1 hcut hge HSS HCN HR HB
        go_wp2_with (at_builtin; (try rw [← HSX.out]); refine wpList_app_run _ rfl (.tmp 25) (.tmp 30) 48 48 rfl _ _ rfl rfl _ _ HAP.out ?_)
        go_roundg (s.size + 1 - (s.size + 1))
        case measure => omega
        case rel => exact ⟨s.size + 1, s.size + 1, A1, c1, n + 1, xs ++ [x], by go_num, by go_num, rfl, by omega, by omega, by omega, rfl, HR1, Lib.hid ⟨fun h => by omega, fun _ => HSE.out⟩, HB1⟩
    · have hlt : i < s.size := by
        rcases Nat.lt_or_ge i s.size with h | h
        · exact h
        · exact absurd (.inl (by omega)) hcut
      obtain ⟨b, hb⟩ : ∃ b, s[i]'hlt = b := ⟨_, rfl⟩
      have hg := HGET.out i hlt
      rw [hb] at hg
      have hbc : b ≠ c := fun e => hcut (.inr (by rw [hg, e]))
      have hbcI : ¬ (b.toNat : Int) = ci := by
        rw [HCI.out]
        intro h
        exact hbc (UInt8.toNat_inj.1 (by omega))
      have hb256 : (b.toNat : Int) < 256 := by have := b.toNat_lt; omega
      have hne : ¬ (i : Int) = (s.size : Int) := by omega
      have hneB : ((i : Int) == (s.size : Int)) = false := by rw [beq_eq_false_iff_ne]; exact hne
      have hbcB : ((b.toNat : Int) == ci) = false := by rw [beq_eq_false_iff_ne]; exact hbcI
      have hneN : ¬ i = s.size := by omega
      have HSN : Hid ((i + 1 ≤ s.size → S = xs ++ splitC c (L.drop f) ∧ c ∉ (L.drop f).take (i + 1 - f)) ∧ (i + 1 = s.size + 1 → S = xs)) := Lib.hid ⟨fun _ => ⟨HSS.out, cut_grow hfi hg hbc HCN.out⟩, fun h => by omega⟩
      clear hcut hg hbc HSS HCN
      go_wp2_with fail
      go_roundg (s.size + 1 - (i + 1))
      case measure => omega
      case rel => exact ⟨i + 1, f, A, cp, n, xs, by go_num, rfl, rfl, by omega, by omega, by omega, rfl, HR, HSN, HB⟩
  · obtain rfl : i = s.size + 1 := by omega
    have hnI : ¬ ((s.size + 1 : Nat) : Int) ≤ (s.size : Int) := by omega
    have hnI2 : ¬ (s.size : Int) + 1 ≤ (s.size : Int) := by omega
    have HSE : Hid (S = xs) := Lib.hid (HS.out.2 rfl)
    clear HS
    go_wp2_with fail
    go_ret
    exact ⟨A, cp, n, rfl, by rw [HSE.out]; exact HR.out, HB.out⟩
end Go.Proofs.YteeijjhgdplifaaGreatDoor
