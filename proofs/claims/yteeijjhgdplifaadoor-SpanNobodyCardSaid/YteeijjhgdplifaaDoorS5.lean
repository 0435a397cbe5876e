/- SpanNobody: the walk. -/
import Derived.Test.YteeijjhgdplifaaDoorS4
import Derived.Test.YteeijjhgdplifaaDoorVo
namespace Go.Proofs.YteeijjhgdplifaaDoor
open Go.RowKit

set_option maxRecDepth 100000 in
set_option maxHeartbeats 4000000 in
theorem spanNobody_walk (v : Ver) (hv : v.Ok) (ht : v.t.length ≤ 140737488355328) (w : World) (hg : GT w) : Calls Tryd.prog 5 #[v.val] w fun e w' => e = .returned (.bool true) ∧ Below w.heap.size w w' := by
  obtain ⟨w1, hw1⟩ : ∃ w1, w1 = w.alloc (.cells v.cells.toArray 24) := ⟨_, rfl⟩
  obtain ⟨g1, hg1⟩ : ∃ g1, g1 = w.heap.size := ⟨_, rfl⟩
  have hb1 : Below w.heap.size w w1 := by rw [hw1]; exact (Below.refl _ _).alloc (Nat.le_refl _) _
  have k1 : Blk w1 g1 24 v.cells := by rw [hw1, hg1]; exact Blk.new _ _ v.cells.toArray
  have HK1a := Lib.hid k1
  have HV := Lib.hid hv
  have HT := Lib.hid ht
  have HG0 := Lib.hid hg
  have HB1 := Lib.hid hb1
  have HW1 := Lib.hid hw1
  have HG1 := Lib.hid hg1
  clear hw1 hg1 hb1 k1 hv ht hg
  rw [show v.val = .agg v.cells.toArray from rfl]
  go_enter Tryd.func5, Tryd.ntmps5
  go_upto_region 1 with fail
  rw [← HW1.out, ← HG1.out]
  go_wp2_with fail
  refine (spAll_ok w1).mono ?_
  rintro e w2 hp
  obtain ⟨ga, rfl, hsa, hb2⟩ := hp
  have HSA := Lib.hid (hsa.lower HB1.out.size)
  have HB2 : Hid (Below w.heap.size w w2) := Lib.hid (HB1.out.trans (hb2.mono HB1.out.size))
  have HK1b := Lib.hid (HK1a.out.below' hb2)
  clear hsa hb2
  go_wp2_with fail
  refine (spNone_ok w2).mono ?_
  rintro e w3 ⟨rfl, hsn, hb3⟩
  obtain ⟨gn, hgn⟩ : ∃ gn, gn = w2.heap.size := ⟨_, rfl⟩
  have hsn' : SpAt w3 w.heap.size gn [] := by rw [hgn]; exact hsn.lower HB2.out.size
  rw [← hgn]
  obtain ⟨w4, hw4⟩ : ∃ w4, w4 = w3.alloc (.cells #[.bool false, .slice none 0 0] 45) := ⟨_, rfl⟩
  obtain ⟨gu, hgu⟩ : ∃ gu, gu = w3.heap.size := ⟨_, rfl⟩
  obtain ⟨w5, hw5⟩ : ∃ w5, w5 = w4.alloc (.cells #[.pointer none, sp0 gu] 41) := ⟨_, rfl⟩
  obtain ⟨gl, hgl⟩ : ∃ gl, gl = gu + 1 := ⟨_, rfl⟩
  have hb4 : Below w3.heap.size w3 w4 := by rw [hw4]; exact (Below.refl _ _).alloc (Nat.le_refl _) _
  have hb5 : Below w4.heap.size w4 w5 := by rw [hw5]; exact (Below.refl _ _).alloc (Nat.le_refl _) _
  have ku : Blk w4 gu 45 [.bool false, .slice none 0 0] := by rw [hw4, hgu]; exact Blk.new _ _ _
  have kl : Blk w5 gl 41 [.pointer none, sp0 gu] := by
    have e : gl = w4.heap.size := by rw [hgl, hgu, hw4]; simp
    rw [hw5, e]; exact Blk.new _ _ _
  have hb35 : Below w3.heap.size w3 w5 := hb4.trans (hb5.mono hb4.size)
  have hb25 : Below w2.heap.size w2 w5 := hb3.trans (hb35.mono hb3.size)
  have HU0 : Hid (Blk w5 gu 45 [.bool false, .slice none 0 0]) := Lib.hid (ku.below' hb5)
  have HA0 := Lib.hid (HSA.out.below hb25)
  have HN0 := Lib.hid (hsn'.below hb35)
  have HK0 := Lib.hid (HK1b.out.below' hb25)
  have HL0 := Lib.hid kl
  have HB0 : Hid (Below w.heap.size w w5) := Lib.hid (HB2.out.trans (hb25.mono HB2.out.size))
  have HW4 := Lib.hid hw4
  have HW5 := Lib.hid hw5
  have HGU := Lib.hid hgu
  have HGL := Lib.hid hgl
  clear hsn hb3 hgn hsn' hw4 hgu hw5 hgl hb4 hb5 ku kl hb35 hb25 HSA HB2 HK1a HK1b
  go_wp2_with fail
  rw [← HW4.out, ← HGU.out, ← HW5.out, ← HGL.out]
  go_loopg [19] 2 (fun kq iv wr => ∃ i : Nat, iv = .int .i64 i ∧ i ≤ 2 ∧ kq = 2 - i ∧ Hid (Blk wr gu 45 [.bool false, .slice none 0 0]) ∧ Hid (SpAt wr w.heap.size ga allCuts) ∧ Hid (SpAt wr w.heap.size gn []) ∧ Hid (Blk wr g1 24 v.cells) ∧ Hid (Blk wr gl 41 [.pointer none, sp0 gu]) ∧ Hid (Below w.heap.size w wr))
  case atStart => exact ⟨0, rfl, by omega, rfl, HU0, HA0, HN0, HK0, HL0, HB0⟩
  case round =>
  clear HU0 HA0 HN0 HK0 HL0 HB0
  obtain ⟨i, rfl, hi, rfl, HU, HA, HN, HK1, HKL, HB⟩ := hrel
  have HL1 := Lib.hid (vload HK1.out HV.out)
  by_cases h0 : i = 0
  · subst h0
    have cl : wr.cell? ⟨gl, 0, none⟩ = some (.pointer none) := by rw [HKL.out.cell]; rfl
    have HP : Hid (NoneIs wr (.pointer none) true) := Lib.hid (.inl ⟨rfl, rfl⟩)
    have HBR : Hid (Below wr.heap.size wr wr) := Lib.hid (Below.refl _ _)
    go_wp2_with (refine wpList_load_run rfl 24 (.tmp 1) rfl g1 rfl _ HL1.out ?_)
    refine (spHas_nob (.pointer none) true v HV.out HT.out wr (HG0.out.below HB.out) HP.out (fun h => by cases h)).mono ?_
    rintro e wr1 ⟨rfl, hbb⟩
    have HP' := Lib.hid (HP.out.below hbb)
    have HA' := Lib.hid (HA.out.below hbb)
    have HN' := Lib.hid (HN.out.below hbb)
    have HK1' := Lib.hid (HK1.out.below' hbb)
    have HKL' := Lib.hid (HKL.out.below' hbb)
    have HB' : Hid (Below w.heap.size w wr1) := Lib.hid (HB.out.trans (hbb.mono HB.out.size))
    have HBR' := Lib.hid (HBR.out.trans (hbb.mono HBR.out.size))
    clear hbb HP HA HN HK1 HKL HB HBR
    have HBR := HBR'
    clear HBR'
    obtain ⟨HP, HA, HN, HK1, HKL, HB⟩ : Hid _ ∧ Hid _ ∧ Hid _ ∧ Hid _ ∧ Hid _ ∧ Hid _ := ⟨HP', HA', HN', HK1', HKL', HB'⟩
    clear HP' HA' HN' HK1' HKL' HB'
    go_wp2_with fail
    refine (spAnd_nob (.pointer none) (sp0 ga) true false wr1 HP.out HA.out.none (.inl rfl)).mono ?_
    rintro e w' ⟨rfl, rfl⟩
    go_wp2_with fail
    refine (spAnd_nob (sp0 ga) (.pointer none) false true wr1 HA.out.none HP.out (.inr rfl)).mono ?_
    rintro e w' ⟨rfl, rfl⟩
    go_wp2_with fail
    refine (spOr_nob (.pointer none) (sp0 gn) true false wr1 HP.out HN.out.none (.inl rfl)).mono ?_
    rintro e w' ⟨rfl, rfl⟩
    go_wp2_with fail
    refine (spOr_nob (sp0 gn) (.pointer none) false true wr1 HN.out.none HP.out (.inr rfl)).mono ?_
    rintro e w' ⟨rfl, rfl⟩
    go_wp2_with fail
    refine (spNot_nob (.pointer none) wr1 HP.out).mono ?_
    rintro e wr2 ⟨rfl, hbb⟩
    have HP' := Lib.hid (HP.out.below hbb)
    have HA' := Lib.hid (HA.out.below hbb)
    have HN' := Lib.hid (HN.out.below hbb)
    have HK1' := Lib.hid (HK1.out.below' hbb)
    have HKL' := Lib.hid (HKL.out.below' hbb)
    have HB' : Hid (Below w.heap.size w wr2) := Lib.hid (HB.out.trans (hbb.mono HB.out.size))
    have HBR' := Lib.hid (HBR.out.trans (hbb.mono HBR.out.size))
    clear hbb HP HA HN HK1 HKL HB HBR
    have HBR := HBR'
    clear HBR'
    obtain ⟨HP, HA, HN, HK1, HKL, HB⟩ : Hid _ ∧ Hid _ ∧ Hid _ ∧ Hid _ ∧ Hid _ ∧ Hid _ := ⟨HP', HA', HN', HK1', HKL', HB'⟩
    clear HP' HA' HN' HK1' HKL' HB'
    go_wp2_with fail
    refine (spSame_nob (.pointer none) (.pointer none) true true wr2 HP.out (.inl ⟨rfl, rfl⟩) (.inl rfl)).mono ?_
    rintro e w' ⟨rfl, rfl⟩
    go_wp2_with fail
    refine (spSame_nob (.pointer none) (sp0 gn) true false wr2 HP.out HN.out.none (.inl rfl)).mono ?_
    rintro e w' ⟨rfl, rfl⟩
    go_wp2_with fail
    refine (spSame_nob (sp0 gn) (.pointer none) false true wr2 HN.out.none HP.out (.inr rfl)).mono ?_
    rintro e w' ⟨rfl, rfl⟩
    go_wp2_with fail
    refine (spEmpty_nob (.pointer none) wr2 HP.out).mono ?_
    rintro e w' ⟨rfl, rfl⟩
    go_wp2_with fail
    refine (spText_nob (.pointer none) wr2 HP.out).mono ?_
    rintro e w' ⟨rfl, rfl⟩
    have HUe : Hid (Blk wr2 gu 45 [.bool false, .slice none 0 0]) := Lib.hid (HU.out.below' HBR.out)
    go_wp2_with fail
    go_roundg 1
    case measure => omega
    case rel => exact ⟨1, rfl, by omega, rfl, HUe, HA, HN, HK1, HKL, HB⟩
  · by_cases h1 : i = 1
    · subst h1
      have cl : wr.cell? ⟨gl, 1, none⟩ = some (sp0 gu) := by rw [HKL.out.cell]; rfl
      have HP : Hid (NoneIs wr (sp0 gu) true) := Lib.hid (.inr ⟨gu, false, _, rfl, HU.out, rfl⟩)
      have HBR : Hid (Below wr.heap.size wr wr) := Lib.hid (Below.refl _ _)
      go_wp2_with (refine wpList_load_run rfl 24 (.tmp 1) rfl g1 rfl _ HL1.out ?_)
      refine (spHas_nob (sp0 gu) true v HV.out HT.out wr (HG0.out.below HB.out) HP.out (fun h => by cases h)).mono ?_
      rintro e wr1 ⟨rfl, hbb⟩
      have HP' := Lib.hid (HP.out.below hbb)
      have HA' := Lib.hid (HA.out.below hbb)
      have HN' := Lib.hid (HN.out.below hbb)
      have HK1' := Lib.hid (HK1.out.below' hbb)
      have HKL' := Lib.hid (HKL.out.below' hbb)
      have HB' : Hid (Below w.heap.size w wr1) := Lib.hid (HB.out.trans (hbb.mono HB.out.size))
      have HBR' := Lib.hid (HBR.out.trans (hbb.mono HBR.out.size))
      clear hbb HP HA HN HK1 HKL HB HBR
      have HBR := HBR'
      clear HBR'
      obtain ⟨HP, HA, HN, HK1, HKL, HB⟩ : Hid _ ∧ Hid _ ∧ Hid _ ∧ Hid _ ∧ Hid _ ∧ Hid _ := ⟨HP', HA', HN', HK1', HKL', HB'⟩
      clear HP' HA' HN' HK1' HKL' HB'
      go_wp2_with fail
      refine (spAnd_nob (sp0 gu) (sp0 ga) true false wr1 HP.out HA.out.none (.inl rfl)).mono ?_
      rintro e w' ⟨rfl, rfl⟩
      go_wp2_with fail
      refine (spAnd_nob (sp0 ga) (sp0 gu) false true wr1 HA.out.none HP.out (.inr rfl)).mono ?_
      rintro e w' ⟨rfl, rfl⟩
      go_wp2_with fail
      refine (spOr_nob (sp0 gu) (sp0 gn) true false wr1 HP.out HN.out.none (.inl rfl)).mono ?_
      rintro e w' ⟨rfl, rfl⟩
      go_wp2_with fail
      refine (spOr_nob (sp0 gn) (sp0 gu) false true wr1 HN.out.none HP.out (.inr rfl)).mono ?_
      rintro e w' ⟨rfl, rfl⟩
      go_wp2_with fail
      refine (spNot_nob (sp0 gu) wr1 HP.out).mono ?_
      rintro e wr2 ⟨rfl, hbb⟩
      have HP' := Lib.hid (HP.out.below hbb)
      have HA' := Lib.hid (HA.out.below hbb)
      have HN' := Lib.hid (HN.out.below hbb)
      have HK1' := Lib.hid (HK1.out.below' hbb)
      have HKL' := Lib.hid (HKL.out.below' hbb)
      have HB' : Hid (Below w.heap.size w wr2) := Lib.hid (HB.out.trans (hbb.mono HB.out.size))
      have HBR' := Lib.hid (HBR.out.trans (hbb.mono HBR.out.size))
      clear hbb HP HA HN HK1 HKL HB HBR
      have HBR := HBR'
      clear HBR'
      obtain ⟨HP, HA, HN, HK1, HKL, HB⟩ : Hid _ ∧ Hid _ ∧ Hid _ ∧ Hid _ ∧ Hid _ ∧ Hid _ := ⟨HP', HA', HN', HK1', HKL', HB'⟩
      clear HP' HA' HN' HK1' HKL' HB'
      go_wp2_with fail
      refine (spSame_nob (sp0 gu) (.pointer none) true true wr2 HP.out (.inl ⟨rfl, rfl⟩) (.inl rfl)).mono ?_
      rintro e w' ⟨rfl, rfl⟩
      go_wp2_with fail
      refine (spSame_nob (sp0 gu) (sp0 gn) true false wr2 HP.out HN.out.none (.inl rfl)).mono ?_
      rintro e w' ⟨rfl, rfl⟩
      go_wp2_with fail
      refine (spSame_nob (sp0 gn) (sp0 gu) false true wr2 HN.out.none HP.out (.inr rfl)).mono ?_
      rintro e w' ⟨rfl, rfl⟩
      go_wp2_with fail
      refine (spEmpty_nob (sp0 gu) wr2 HP.out).mono ?_
      rintro e w' ⟨rfl, rfl⟩
      go_wp2_with fail
      refine (spText_nob (sp0 gu) wr2 HP.out).mono ?_
      rintro e w' ⟨rfl, rfl⟩
      have HUe : Hid (Blk wr2 gu 45 [.bool false, .slice none 0 0]) := Lib.hid (HU.out.below' HBR.out)
      go_wp2_with fail
      go_roundg 0
      case measure => omega
      case rel => exact ⟨2, rfl, by omega, rfl, HUe, HA, HN, HK1, HKL, HB⟩
    · obtain rfl : i = 2 := by omega
      clear h0 h1
      go_wp2_with fail
      refine (spEmpty_ok w.heap.size gn [] wr HN.out (by simp)).mono ?_
      rintro e w' ⟨rfl, rfl⟩
      rw [show decide (([] : List Cut) = []) = true from rfl]
      go_wp2_with fail
      refine (spEmpty_ok w.heap.size ga allCuts wr HA.out (by decide)).mono ?_
      rintro e w' ⟨rfl, rfl⟩
      rw [show decide (allCuts = []) = false from rfl]
      go_wp2_with (first | refine wpListw_load_run rfl 24 (.tmp 1) rfl g1 rfl _ HL1.out ?_ | refine wpList_load_run rfl 24 (.tmp 1) rfl g1 rfl _ HL1.out ?_)
      refine (spHas_nob (sp0 gn) false v HV.out HT.out wr (HG0.out.below HB.out) HN.out.none (fun _ => ⟨_, gn, rfl, HN.out⟩)).mono ?_
      rintro e w9 ⟨rfl, hb9⟩
      have HEND : Hid (Below w.heap.size w w9) := Lib.hid (HB.out.trans (hb9.mono HB.out.size))
      clear hb9
      go_wp2_with fail
      go_ret
      exact ⟨rfl, HEND.out⟩
end Go.Proofs.YteeijjhgdplifaaDoor
