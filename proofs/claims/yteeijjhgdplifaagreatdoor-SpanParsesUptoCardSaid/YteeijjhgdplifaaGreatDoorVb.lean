/- Contracts of stillroomref13.digits, tag; cmp.Or; slices.Compare. -/
import Derived.Test.YteeijjhgdplifaaGreatDoorVa
namespace Go.Proofs.YteeijjhgdplifaaGreatDoor
open Go.RowKit

set_option maxRecDepth 100000 in
theorem digits_ok : ∀ (u : Nat) (w : World), u ≤ 9223372036854775807 → Calls Tryz.prog 106 #[.int .i64 (u : Int)] w fun e w' => e = .returned (.string (bl (Lib.decDigits u))) ∧ w = w' := by
  intro u
  induction u using Nat.strongRecOn with
  | _ u ih =>
    intro w hu
    by_cases h : u < 10
    · rw [dec_small h]
      clear ih hu
      have hc : u = 0 ∨ u = 1 ∨ u = 2 ∨ u = 3 ∨ u = 4 ∨ u = 5 ∨ u = 6 ∨ u = 7 ∨ u = 8 ∨ u = 9 := by omega
      clear h
      rcases hc with rfl | rfl | rfl | rfl | rfl | rfl | rfl | rfl | rfl | rfl
      all_goals
        go_enter Tryz.func106, Tryz.ntmps106
        go_wp2
        all_goals (go_ret; exact ⟨rfl, rfl⟩)
    · have h1 := ih (u / 10) (by omega) w (by omega)
      have h2 := ih (u % 10) (by omega) w (by omega)
      have e1 : (u : Int).tdiv 10 = ((u / 10 : Nat) : Int) := by rw [Int.tdiv_eq_ediv_of_nonneg (by omega)]; rfl
      have e2 : (u : Int).tmod 10 = ((u % 10 : Nat) : Int) := by rw [Int.tmod_eq_emod_of_nonneg (by omega)]; rfl
      rw [dec_big h, ← dec_small (Nat.mod_lt u (by decide : 0 < 10))]
      have hd1 := nDigits_le (u := u / 10) (k := 19) (by have : (10 : Nat) ^ 19 = 10000000000000000000 := by decide
                                                         omega) (by decide)
      have hd2 := nDigits_le (u := u % 10) (k := 1) (by omega) (by decide)
      rw [← Lib.decDigits_length] at hd1 hd2
      have hx1 : (bl (Lib.decDigits (u / 10))).size ≤ 19 := by rw [bl_size]; exact hd1
      have hx2 : (bl (Lib.decDigits (u % 10))).size ≤ 1 := by rw [bl_size]; exact hd2
      have hap : bl (Lib.decDigits (u / 10)) ++ bl (Lib.decDigits (u % 10)) = bl (Lib.decDigits (u / 10) ++ Lib.decDigits (u % 10)) := by
        rw [bl_eta (bl _ ++ bl _)]
        simp
      obtain ⟨a, ha⟩ : ∃ a, a = u / 10 := ⟨_, rfl⟩
      obtain ⟨b, hb⟩ : ∃ b, b = u % 10 := ⟨_, rfl⟩
      rw [← ha] at h1 e1 hx1 hap
      rw [← hb] at h2 e2 hx2 hap
      rw [← ha, ← hb]
      have HA := Lib.hid ha
      have HB := Lib.hid hb
      have H1 := Lib.hid h1
      have H2 := Lib.hid h2
      obtain ⟨sa, hsa⟩ : ∃ sa, sa = bl (Lib.decDigits a) := ⟨_, rfl⟩
      obtain ⟨sb, hsb⟩ : ∃ sb, sb = bl (Lib.decDigits b) := ⟨_, rfl⟩
      obtain ⟨sc, hsc⟩ : ∃ sc, sc = bl (Lib.decDigits a ++ Lib.decDigits b) := ⟨_, rfl⟩
      rw [← hsa] at hx1 hap
      rw [← hsb] at hx2 hap
      rw [← hsc] at hap
      rw [← hsc]
      have HSA := Lib.hid hsa
      have HSB := Lib.hid hsb
      have hnl : ¬ u < 10 := h
      have ha9 : a ≤ 9223372036854775807 := by omega
      have hb9 : b < 10 := by omega
      clear ih ha hb h1 h2 hd1 hd2 hsa hsb hsc h
      go_enter Tryz.func106, Tryz.ntmps106
      go_wp2_with fail
      refine H1.out.mono ?_
      rintro e w' ⟨rfl, rfl⟩
      rw [← HSA.out]
      go_wp2_with fail
      refine H2.out.mono ?_
      rintro e w' ⟨rfl, rfl⟩
      rw [← HSB.out]
      go_wp2_with fail
      all_goals (go_ret; exact ⟨rfl, rfl⟩)

set_option maxRecDepth 100000 in
theorem tag_ok (s : ByteArray) (w : World) (hs : s.size ≤ 140737488355328) : Calls Tryz.prog 34 #[.string s] w fun e w' => e = .returned (.bool (tagOk s.data.toList)) ∧ w = w' := by
  have hl : s.data.toList.length = s.size := by rw [Lib.size_eq]
  have HL := Lib.hid hl
  clear hl
  go_enter Tryz.func34, Tryz.ntmps34
  go_wp2_with fail
  go_loopg [3] s.size (fun kq iv wr => ∃ i : Nat, iv = .int .i64 i ∧ i ≤ s.size ∧ kq = s.size - i ∧ wr = w ∧ Hid (∀ j b, j < i → s.data.toList[j]? = some b → tagB b = true))
  case atStart => exact ⟨0, rfl, Nat.zero_le _, rfl, rfl, Lib.hid (fun j b h => by omega)⟩
  case round =>
    obtain ⟨i, rfl, hi, rfl, rfl, HP⟩ := hrel
    by_cases hlt : i < s.size
    · obtain ⟨b, hb⟩ : ∃ b, s[i]'hlt = b := ⟨_, rfl⟩
      have HB : Hid (s.data.toList[i]? = some b) := Lib.hid (by
        rw [List.getElem?_eq_getElem (by rw [HL.out]; exact hlt), ← hb]; rfl)
      have hbn : (b.toNat : Int) < 256 := by have := b.toNat_lt; omega
      by_cases ht : tagB b = true
      · have hp : Hid (∀ j c, j < i + 1 → s.data.toList[j]? = some c → tagB c = true) := Lib.hid (fun j c hj hc => by
          by_cases e : j = i
          · subst e; rw [HB.out] at hc; injection hc with hc; rw [← hc]; exact ht
          · exact HP.out j c (by omega) hc)
        have ht2 : (97 ≤ (b.toNat : Int) ∧ (b.toNat : Int) ≤ 122) ∨ (48 ≤ (b.toNat : Int) ∧ (b.toNat : Int) ≤ 57) := by
          simp only [tagB, Bool.or_eq_true, Bool.and_eq_true, decide_eq_true_eq] at ht
          omega
        clear ht HB HP
        obtain ⟨c, hcc⟩ : ∃ c : Int, (b.toNat : Int) = c := ⟨_, rfl⟩
        rw [hcc] at hbn ht2
        rcases ht2 with ⟨h1, h2⟩ | ⟨h1, h2⟩
        · go_wp2_with fail
          go_roundg (s.size - (i + 1))
          case measure => omega
          case rel => exact ⟨i + 1, by go_num, by omega, rfl, rfl, hp⟩
        · go_wp2_with fail
          go_roundg (s.size - (i + 1))
          case measure => omega
          case rel => exact ⟨i + 1, by go_num, by omega, rfl, rfl, hp⟩
      · have hno : Hid (tagOk s.data.toList = false) := Lib.hid (by
          cases h : tagOk s.data.toList with
          | false => rfl
          | true =>
            simp only [tagOk, Bool.and_eq_true, List.all_eq_true] at h
            exact absurd (h.1 b (List.mem_of_getElem? HB.out)) ht)
        have ht2 : (b.toNat : Int) < 48 ∨ (57 < (b.toNat : Int) ∧ (b.toNat : Int) < 97) ∨ 122 < (b.toNat : Int) := by
          simp only [tagB, Bool.or_eq_true, Bool.and_eq_true, decide_eq_true_eq] at ht
          omega
        clear ht HB HP
        obtain ⟨c, hcc⟩ : ∃ c : Int, (b.toNat : Int) = c := ⟨_, rfl⟩
        rw [hcc] at hbn ht2
        rcases ht2 with h1 | ⟨h1, h2⟩ | h1
        all_goals
          go_wp2_with fail
          go_ret
          exact ⟨by rw [hno.out]; rfl, rfl⟩
    · obtain rfl : i = s.size := by omega
      have hall : Hid (tagOk s.data.toList = decide (s.size ≤ 12)) := Lib.hid (by
        unfold tagOk
        rw [HL.out, show s.data.toList.all tagB = true from by
          rw [List.all_eq_true]
          intro b hb
          obtain ⟨j, hj⟩ := List.getElem?_of_mem hb
          exact HP.out j b (by have := (List.getElem?_eq_some_iff.1 hj).1; rw [HL.out] at this; exact this) hj, Bool.true_and])
      clear HP
      by_cases h12 : s.size ≤ 12
      · go_wp2_with fail
        go_ret
        exact ⟨by rw [hall.out]; simp; omega, rfl⟩
      · go_wp2_with fail
        go_ret
        exact ⟨by rw [hall.out]; simp; omega, rfl⟩

def orL : List Int → Int
  | [] => 0
  | x :: r => if x = 0 then orL r else x
theorem orL_drop {l : List Int} {i : Nat} {x : Int} (h : l[i]? = some x) : orL (l.drop i) = if x = 0 then orL (l.drop (i + 1)) else x := by
  obtain ⟨hi, rfl⟩ := List.getElem?_eq_some_iff.1 h
  rw [List.drop_eq_getElem_cons hi]
  rfl
def ints (l : List Int) : List Value := l.map (.int .i64)
theorem ints_get {l : List Int} {i : Nat} {x : Int} (h : l[i]? = some x) : (ints l)[i]? = some (.int .i64 x) := by simp [ints, h]
set_option maxRecDepth 100000 in
/-- cmp.Or of ints -/
theorem or_ok (g o : Nat) (l : List Int) (c : Nat) (w : World) (hlen : l.length ≤ 1000) (hc : l.length ≤ c) (hcell : ∀ i x, l[i]? = some x → w.cell? ⟨g, o + i, none⟩ = some (.int .i64 x)) :
    Calls Tryz.prog 76 #[.slice (some ⟨g, o, none⟩) l.length c] w fun e w' => e = .returned (.int .i64 (orL l)) ∧ w = w' := by
  have HC := Lib.hid hcell
  clear hcell
  obtain ⟨n, hn⟩ : ∃ n, n = l.length := ⟨_, rfl⟩
  rw [← hn] at hlen hc ⊢
  have HN := Lib.hid hn
  clear hn
  go_enter Tryz.func76, Tryz.ntmps76
  go_wp2_with fail
  go_loopg [8] n (fun kq iv wr => ∃ i : Nat, iv = .int .i64 i ∧ i ≤ n ∧ kq = n - i ∧ wr = w ∧ Hid (orL (l.drop i) = orL l))
  case atStart => exact ⟨0, rfl, Nat.zero_le _, rfl, rfl, Lib.hid rfl⟩
  case round =>
    obtain ⟨i, rfl, hi, rfl, rfl, HP⟩ := hrel
    by_cases hlt : i < n
    · obtain ⟨x, hx⟩ : ∃ x, l[i]? = some x := ⟨_, List.getElem?_eq_getElem (by rw [← HN.out]; exact hlt)⟩
      have cx := HC.out i x hx
      have hb := World.block_lt_of_cell? _ _ cx
      simp only at hb
      by_cases h0 : x = 0
      · subst h0
        have hp : Hid (orL (l.drop (i + 1)) = orL l) := Lib.hid (by rw [← HP.out, orL_drop hx, if_pos rfl])
        clear HP hx
        go_wp2_with fail
        go_roundg (n - (i + 1))
        case measure => omega
        case rel => exact ⟨i + 1, by go_num, by omega, rfl, rfl, hp⟩
      · have hp : Hid (x = orL l) := Lib.hid (by rw [← HP.out, orL_drop hx, if_neg h0])
        clear HP hx
        go_wp2_with fail
        go_ret
        exact ⟨by rw [← hp.out]; rfl, rfl⟩
    · obtain rfl : i = n := by omega
      have hp : Hid (orL l = 0) := Lib.hid (by rw [← HP.out, HN.out, List.drop_length]; rfl)
      clear HP
      go_wp2_with fail
      go_ret
      exact ⟨by rw [hp.out]; rfl, rfl⟩
theorem cmpL_drop {l m : List Int} {i : Nat} {x y : Int} (h : l[i]? = some x) (h2 : m[i]? = some y) : cmpL (l.drop i) (m.drop i) = if cmpI x y = 0 then cmpL (l.drop (i + 1)) (m.drop (i + 1)) else cmpI x y := by
  obtain ⟨hi, rfl⟩ := List.getElem?_eq_some_iff.1 h
  obtain ⟨hi2, rfl⟩ := List.getElem?_eq_some_iff.1 h2
  rw [List.drop_eq_getElem_cons hi, List.drop_eq_getElem_cons hi2]
  rfl
set_option maxRecDepth 100000 in
/-- slices.Compare of two rows of ints, alike in length -/
theorem compareInts_ok (g1 o1 g2 o2 : Nat) (l m : List Int) (n c1 c2 : Nat) (w : World) (hl : l.length = n) (hm : m.length = n) (hlen : n ≤ 1000) (hc1 : n ≤ c1) (hc2 : n ≤ c2)
    (hcell : ∀ i x, l[i]? = some x → w.cell? ⟨g1, o1 + i, none⟩ = some (.int .i64 x)) (hcell2 : ∀ i x, m[i]? = some x → w.cell? ⟨g2, o2 + i, none⟩ = some (.int .i64 x)) :
    Calls Tryz.prog 77 #[.slice (some ⟨g1, o1, none⟩) n c1, .slice (some ⟨g2, o2, none⟩) n c2] w fun e w' => e = .returned (.int .i64 (cmpL l m)) ∧ w = w' := by
  have HC := Lib.hid hcell
  have HC2 := Lib.hid hcell2
  have HL := Lib.hid hl
  have HM := Lib.hid hm
  clear hcell hcell2 hl hm
  go_enter Tryz.func77, Tryz.ntmps77
  go_wp2_with fail
  go_loopg [11] n (fun kq iv wr => ∃ i : Nat, iv = .int .i64 i ∧ i ≤ n ∧ kq = n - i ∧ wr = w ∧ Hid (cmpL (l.drop i) (m.drop i) = cmpL l m))
  case atStart => exact ⟨0, rfl, Nat.zero_le _, rfl, rfl, Lib.hid rfl⟩
  case round =>
    obtain ⟨i, rfl, hi, rfl, rfl, HP⟩ := hrel
    by_cases hlt : i < n
    · obtain ⟨x, hx⟩ : ∃ x, l[i]? = some x := ⟨_, List.getElem?_eq_getElem (by rw [HL.out]; exact hlt)⟩
      obtain ⟨y, hy⟩ : ∃ y, m[i]? = some y := ⟨_, List.getElem?_eq_getElem (by rw [HM.out]; exact hlt)⟩
      have cx := HC.out i x hx
      have hb := World.block_lt_of_cell? _ _ cx
      have cy := HC2.out i y hy
      have hb2 := World.block_lt_of_cell? _ _ cy
      simp only at hb hb2
      have HK := Lib.hid (cmpL_drop hx hy)
      clear hx hy
      go_wp2_with fail
      refine (cmpInt_ok x y _).mono ?_
      rintro e w' ⟨rfl, rfl⟩
      obtain ⟨z, hz⟩ : ∃ z, z = cmpI x y := ⟨_, rfl⟩
      rw [← hz]
      have HZ := Lib.hid hz
      clear hz
      by_cases h0 : z = 0
      · have hp : Hid (cmpL (l.drop (i + 1)) (m.drop (i + 1)) = cmpL l m) := Lib.hid (by rw [← HP.out, HK.out, if_pos (by rw [← HZ.out]; exact h0)])
        subst h0
        clear HP HK HZ
        go_wp2_with fail
        go_roundg (n - (i + 1))
        case measure => omega
        case rel => exact ⟨i + 1, by go_num, by omega, rfl, rfl, hp⟩
      · have hp : Hid (z = cmpL l m) := Lib.hid (by rw [← HP.out, HK.out, if_neg (by rw [← HZ.out]; exact h0)]; exact HZ.out)
        clear HP HK HZ
        go_wp2_with fail
        go_ret
        exact ⟨by rw [← hp.out]; rfl, rfl⟩
    · obtain rfl : i = n := by omega
      have hp : Hid (cmpL l m = 0) := Lib.hid (by rw [← HP.out, ← HL.out, List.drop_length]; rfl)
      clear HP
      go_wp2_with fail
      go_ret
      exact ⟨by rw [hp.out]; rfl, rfl⟩
end Go.Proofs.YteeijjhgdplifaaGreatDoor
