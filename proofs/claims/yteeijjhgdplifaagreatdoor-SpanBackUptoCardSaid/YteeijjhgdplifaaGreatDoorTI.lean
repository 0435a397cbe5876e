/- Spans: caret (slices.IndexFunc over the numbers), from. -/
import Derived.Test.YteeijjhgdplifaaGreatDoorTH
import Derived.Test.YteeijjhgdplifaaGreatDoorVj
namespace Go.Proofs.YteeijjhgdplifaaGreatDoor
open Go.RowKit

/-- the place of the first number that is not 0, or -1 -/
def ifz : List Int → Nat → Int
  | [], _ => -1
  | a :: r, i => if a ≠ 0 then (i : Int) else ifz r (i + 1)
theorem ifz_step {l : List Int} {i : Nat} {a : Int} (h : l[i]? = some a) : ifz (l.drop i) i = if a ≠ 0 then (i : Int) else ifz (l.drop (i + 1)) (i + 1) := by
  obtain ⟨h1, h2⟩ := List.getElem?_eq_some_iff.1 h
  rw [List.drop_eq_getElem_cons h1, h2, ifz]
theorem crt_ifz : ∀ (l : List Int) (i : Nat) (d : Int), crt l i d = if ifz l i < 0 then d else ifz l i + 1
  | [], i, d => by rw [crt, ifz, if_pos (by decide)]
  | a :: r, i, d => by
    rw [crt, ifz]
    by_cases h : a ≠ 0
    · rw [if_pos h, if_pos h, if_neg (by omega)]; rfl
    · rw [if_neg h, if_neg h, crt_ifz r (i + 1) d]
theorem ifz_bd : ∀ (l : List Int) (i : Nat), ifz l i < i + l.length ∧ -1 ≤ ifz l i
  | [], i => by rw [ifz]; simp only [List.length_nil]; omega
  | a :: r, i => by
    have := ifz_bd r (i + 1)
    rw [ifz, List.length_cons]
    split <;> omega
set_option maxRecDepth 100000 in
theorem nz_ok (x : Int) (w : World) : Calls Tryz.prog 71 #[.int .i64 x] w fun e w' => e = .returned (.bool (decide (x ≠ 0))) ∧ w = w' := by
  obtain ⟨D, hD⟩ : ∃ D, D = decide (x ≠ 0) := ⟨_, rfl⟩
  rw [← hD]
  have HD := Lib.hid hD
  clear hD
  by_cases h : x = 0
  · subst h
    go_enter Tryz.func71, Tryz.ntmps71
    go_wp2_with fail
    go_ret
    exact ⟨by rw [HD.out]; rfl, rfl⟩
  · have H1 : Hid ((x != 0) = true) := Lib.hid (by simpa using h)
    have H2 : Hid (decide (x ≠ 0) = true) := Lib.hid (decide_eq_true h)
    go_enter Tryz.func71, Tryz.ntmps71
    go_wp2_with fail
    go_ret
    exact ⟨by rw [HD.out, H2.out, ← H1.out]; rfl, rfl⟩
set_option maxRecDepth 100000 in
theorem indexNz_ok (g c : Nat) (l : List Int) (n : Nat) (hn : l.length = n) (hl : n ≤ 1000) (hc : n ≤ c) (w : World) (hw : ∀ i x, l[i]? = some x → w.cell? ⟨g, i, none⟩ = some (.int .i64 x)) :
    Calls Tryz.prog 70 #[.slice (some ⟨g, 0, none⟩) n c, .func (.func 71) #[] #[]] w fun e w' => e = .returned (.int .i64 (ifz l 0)) ∧ w = w' := by
  have e71 : ∀ args w, (callFunc 71 args).run Tryz.prog w = .ok (.enter 71 args) w := enters_of Tryz.func71 (by kernel_rfl) rfl
  obtain ⟨R, hR⟩ : ∃ R, R = ifz l 0 := ⟨_, rfl⟩
  rw [← hR]
  have HR : Hid (R = ifz (l.drop 0) 0) := Lib.hid hR
  have HN := Lib.hid hn
  have HW := Lib.hid hw
  clear hR hn hw
  go_enter Tryz.func70, Tryz.ntmps70
  go_wp2_with fail
  go_loopg [8] n (fun kq iv wr => ∃ i : Nat, iv = .int .i64 i ∧ i ≤ n ∧ kq = n - i ∧ Hid (R = ifz (l.drop i) i) ∧ wr = w)
  case atStart => exact ⟨0, rfl, Nat.zero_le _, rfl, HR, rfl⟩
  case round =>
  clear HR
  obtain ⟨i, rfl, hi, rfl, HR, rfl⟩ := hrel
  by_cases hlt : i < n
  · have hltI : (i : Int) < (n : Int) := by omega
    have hi0 : 0 ≤ (i : Int) := by omega
    obtain ⟨x, hx⟩ : ∃ x, l[i]? = some x := ⟨_, List.getElem?_eq_getElem (by rw [HN.out]; exact hlt)⟩
    have c0 := HW.out i x hx
    have hs := ifz_step hx
    rw [← HR.out] at hs
    have HSS := Lib.hid hs
    clear hx hs HR
    go_wp2_with fail
    refine (nz_ok x _).mono ?_
    rintro e w' ⟨rfl, rfl⟩
    by_cases h : x = 0
    · have HR2 : Hid (R = ifz (l.drop (i + 1)) (i + 1)) := Lib.hid (by rw [HSS.out, if_neg (fun h' => h' h)])
      have hd : decide (x ≠ 0) = false := by simp [h]
      rw [hd]
      clear h hd
      go_wp2_with fail
      go_roundg (n - (i + 1))
      case measure => omega
      case rel => exact ⟨i + 1, by go_num, by omega, rfl, HR2, rfl⟩
    · have HR2 : Hid (R = (i : Int)) := Lib.hid (by rw [HSS.out, if_pos h])
      have hd : decide (x ≠ 0) = true := by simp [h]
      rw [hd]
      clear h hd
      go_wp2_with fail
      go_ret
      exact ⟨by rw [HR2.out]; rfl, rfl⟩
  · obtain rfl : i = n := by omega
    have hni : ¬ (i : Int) < (i : Int) := by omega
    have HR2 : Hid (R = -1) := Lib.hid (by rw [HR.out, List.drop_of_length_le (by rw [HN.out]; exact Nat.le_refl _), ifz])
    clear HR
    go_wp2_with fail
    go_ret
    exact ⟨by rw [HR2.out]; rfl, rfl⟩
set_option maxRecDepth 100000 in
theorem caret_ok (v : Ver) (hv : v.Ok) (hm : v.may = true) (w : World) : Calls Tryz.prog 44 #[v.val] w fun e w' => e = .returned (.int .i64 (caretC v)) ∧ Below w.heap.size w w' := by
  obtain ⟨w1, hw1⟩ : ∃ w1, w1 = w.alloc (.cells v.cells.toArray 38) := ⟨_, rfl⟩
  obtain ⟨g1, hg1⟩ : ∃ g1, g1 = w.heap.size := ⟨_, rfl⟩
  have hb1 : Below w.heap.size w w1 := by rw [hw1]; exact (Below.refl _ _).alloc (Nat.le_refl _) _
  have k1 : Blk w1 g1 38 v.cells := by rw [hw1, hg1]; exact Blk.new _ _ v.cells.toArray
  obtain ⟨hc1, hc4⟩ := v.may_c hm
  obtain ⟨k, hk⟩ : ∃ k : Nat, v.c = (k : Int) := ⟨v.c.toNat, by omega⟩
  have hk1 : 1 ≤ k := by omega
  have hk4 : k ≤ 4 := by omega
  have hkI : (k : Int) ≤ 4 := by omega
  have hk0 : 0 ≤ (k : Int) := by omega
  have c4 : w1.cell? ⟨g1, 4, none⟩ = some (.int .i64 (k : Int)) := by rw [k1.cell, Ver.cells_c hv, hk]
  have hgl := k1.lt
  have hl4 : v.ns.length = 4 := hv
  obtain ⟨R, hR⟩ : ∃ R, R = ifz (v.ns.take k) 0 := ⟨_, rfl⟩
  have hbd := ifz_bd (v.ns.take k) 0
  rw [← hR, List.length_take, hl4] at hbd
  have hbd2 : R < 4 ∧ -1 ≤ R := by omega
  obtain ⟨hb4, hbm⟩ := hbd2
  have HIX : Hid (Calls Tryz.prog 70 #[.slice (some ⟨g1, 0, none⟩) k 4, .func (.func 71) #[] #[]] w1 fun e w' => e = .returned (.int .i64 R) ∧ w1 = w') := Lib.hid (by
    rw [hR]
    refine indexNz_ok g1 4 (v.ns.take k) k (by rw [List.length_take, hl4]; omega) (by omega) hk4 w1 fun i x hx => ?_
    rw [List.getElem?_take] at hx
    split at hx
    · rw [k1.cell, Ver.cells_n hx]
    · cases hx)
  obtain ⟨C, hC⟩ : ∃ C, C = caretC v := ⟨_, rfl⟩
  have HC : Hid (C = if R < 0 then (k : Int) else R + 1) := Lib.hid (by
    rw [hC, hR]
    unfold caretC
    rw [crt_ifz, hk]
    rfl)
  rw [← hC]
  have HB1 := Lib.hid hb1
  have HW1 := Lib.hid hw1
  have HG1 := Lib.hid hg1
  clear hw1 hg1 hb1 k1 hv hm hc1 hc4 hk hl4 hR hbd hC
  rw [show v.val = .agg v.cells.toArray from rfl]
  go_enter Tryz.func44, Tryz.ntmps44
  go_upto_region 1 with fail
  rw [← HW1.out, ← HG1.out]
  go_wp2_with fail
  refine (HIX.out).mono ?_
  rintro e w' ⟨rfl, rfl⟩
  by_cases h0 : R < 0
  · have HC2 : Hid (C = (k : Int)) := Lib.hid (by rw [HC.out, if_pos h0])
    go_wp2_with fail
    go_ret
    exact ⟨by rw [HC2.out]; rfl, HB1.out⟩
  · have HC2 : Hid (C = R + 1) := Lib.hid (by rw [HC.out, if_neg h0])
    have hw : IntKind.i64.wrap (R + 1) = R + 1 := by rw [IntKind.wrap_i64]; omega
    go_wp2_with fail
    go_ret
    exact ⟨by rw [HC2.out]; rfl, HB1.out⟩
end Go.Proofs.YteeijjhgdplifaaGreatDoor
