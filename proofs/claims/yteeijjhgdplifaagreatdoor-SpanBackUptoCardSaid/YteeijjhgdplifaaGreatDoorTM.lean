/- SpanAlgebra: the walk. -/
import Derived.Test.YteeijjhgdplifaaGreatDoorTL
import Derived.Test.YteeijjhgdplifaaGreatDoorTG
namespace Go.Proofs.YteeijjhgdplifaaGreatDoor
open Go.RowKit

theorem all_set : IsSet allCuts 2 := isSet_spl botC_m topC_m
set_option maxRecDepth 100000 in
set_option maxHeartbeats 8000000 in
theorem spanAlgebra_walk (s o : ByteArray) (hs : s.size ≤ 4000000000) (ho : o.size ≤ 4000000000) (w : World) (hg : GV w) : Calls Tryz.prog 3 #[.string s, .string o] w fun e w' => e = .returned (.bool true) ∧ Below w.heap.size w w' := by
  have HG := Lib.hid hg
  have HP1 := Lib.hid (spParse_ok s hs w hg)
  have HP2 : Hid (∀ wI, Below w.heap.size w wI → Calls Tryz.prog 7 #[.string o] wI fun e w' => ∃ p, e = .returned (.tuple #[p, .int .i64 (errP o.data.toList)]) ∧ RangeIs wI w' o.data.toList p ∧ Below wI.heap.size wI w') := Lib.hid (fun wI hb => spParse_ok o ho wI (hg.below hb))
  obtain ⟨E1, hE1⟩ : ∃ E1, E1 = errP s.data.toList := ⟨_, rfl⟩
  obtain ⟨E2, hE2⟩ : ∃ E2, E2 = errP o.data.toList := ⟨_, rfl⟩
  rw [← hE1] at HP1
  rw [← hE2] at HP2
  have HE1 := Lib.hid hE1
  have HE2 := Lib.hid hE2
  clear hs ho hg hE1 hE2
  go_enter Tryz.func3, Tryz.ntmps3
  go_wp2_with fail
  refine HP1.out.mono ?_
  rintro e w1 ⟨p1, rfl, hr1, hb1⟩
  have HR1 := Lib.hid hr1
  have HB1 := Lib.hid hb1
  clear hr1 hb1 HP1
  go_wp2_with fail
  refine (HP2.out w1 HB1.out).mono ?_
  rintro e w2 ⟨p2, rfl, hr2, hb⟩
  have HR2 := Lib.hid hr2
  have HB0 : Hid (Below w.heap.size w w2) := Lib.hid (HB1.out.trans (hb.mono HB1.out.size))
  rcases HR1.out with ⟨hk1, rfl⟩ | ⟨hk1, gX, X, rfl, hs1, hi1, hp1⟩
  · obtain rfl : E1 = 21 := by rw [HE1.out]; unfold errP; rw [hk1]; rfl
    clear hr2 hb hk1
    go_wp2_with fail
    go_ret
    exact ⟨rfl, HB0.out⟩
  have SX := Lib.hid (hs1.below hb)
  have HIX := Lib.hid hi1
  obtain rfl : E1 = 0 := by rw [HE1.out]; unfold errP; rw [hk1]; rfl
  clear hs1 hi1 hp1 hk1 hb hr2
  rcases HR2.out with ⟨hk2, rfl⟩ | ⟨hk2, gY, Y, rfl, hs2, hi2, hp2⟩
  · obtain rfl : E2 = 21 := by rw [HE2.out]; unfold errP; rw [hk2]; rfl
    clear hk2
    go_wp2_with fail
    go_ret
    exact ⟨rfl, HB0.out⟩
  · have SY := Lib.hid hs2
    have HIY := Lib.hid hi2
    obtain rfl : E2 = 0 := by rw [HE2.out]; unfold errP; rw [hk2]; rfl
    clear hs2 hi2 hp2 hk2
    go_wp2_with fail
    refine (spNot_ok _ gX X HIX.out.prs (by have := HIX.out.len; omega) w2 SX.out).mono ?_
    rintro e wk1 ⟨gN, rfl, N, hs, hm, hb⟩
    have HIN := Lib.hid (IsSet.merged rfl all_set HIX.out hm)
    have HPN : Hid (∀ t, t.Ok → cle topC t = false → par N t = !par X t) := Lib.hid (fun t ht htop => by rw [hm.par t ht, show par allCuts t = true from par_all htop, Bool.true_and])
    replace SX := Lib.hid (SX.out.below hb)
    replace SY := Lib.hid (SY.out.below hb)
    have HBn : Hid (Below w.heap.size w wk1) := Lib.hid (HB0.out.trans (hb.mono HB0.out.size))
    clear HB0 hb
    have HB0 := HBn
    clear HBn
    have SN := Lib.hid hs
    clear hs hm
    go_wp2_with fail
    refine (spNot_ok _ gN N HIN.out.prs (by have := HIN.out.len; omega) wk1 SN.out).mono ?_
    rintro e wk2 ⟨gNN, rfl, NN, hs, hm, hb⟩
    have HINN := Lib.hid (IsSet.merged rfl all_set HIN.out hm)
    have HPNN : Hid (∀ t, t.Ok → cle topC t = false → par NN t = !par N t) := Lib.hid (fun t ht htop => by rw [hm.par t ht, show par allCuts t = true from par_all htop, Bool.true_and])
    replace SX := Lib.hid (SX.out.below hb)
    replace SY := Lib.hid (SY.out.below hb)
    replace SN := Lib.hid (SN.out.below hb)
    have HBn : Hid (Below w.heap.size w wk2) := Lib.hid (HB0.out.trans (hb.mono HB0.out.size))
    clear HB0 hb
    have HB0 := HBn
    clear HBn
    have SNN := Lib.hid hs
    clear hs hm
    go_wp2_with fail
    refine (same_ok _ gNN _ gX NN X (by have := HINN.out.len; omega) (by have := HIX.out.len; omega) wk2 SNN.out SX.out).mono ?_
    rintro e wk3 ⟨rfl, hb⟩
    have hd : decide (NN = X) = true := decide_eq_true (same_of HINN.out HIX.out fun t ht htop => by simp only [HPNN.out t ht htop, HPN.out t ht htop] <;> cases par X t <;> rfl)
    rw [hd]
    clear hd
    replace SX := Lib.hid (SX.out.below hb)
    replace SY := Lib.hid (SY.out.below hb)
    replace SN := Lib.hid (SN.out.below hb)
    replace SNN := Lib.hid (SNN.out.below hb)
    have HBn : Hid (Below w.heap.size w wk3) := Lib.hid (HB0.out.trans (hb.mono HB0.out.size))
    clear HB0 hb
    have HB0 := HBn
    clear HBn
    go_wp2_with fail
    clear SNN HINN HPNN
    refine (spAnd_ok _ gX _ gY X Y HIX.out.prs HIY.out.prs (by have := HIX.out.len; omega) (by have := HIY.out.len; omega) wk3 SX.out SY.out).mono ?_
    rintro e wk4 ⟨gA, rfl, A, hs, hm, hb⟩
    have HIA := Lib.hid (IsSet.merged rfl HIX.out HIY.out hm)
    have HPA : Hid (∀ t, t.Ok → cle topC t = false → par A t = (par X t && par Y t)) := Lib.hid (fun t ht _ => hm.par t ht)
    replace SX := Lib.hid (SX.out.below hb)
    replace SY := Lib.hid (SY.out.below hb)
    replace SN := Lib.hid (SN.out.below hb)
    have HBn : Hid (Below w.heap.size w wk4) := Lib.hid (HB0.out.trans (hb.mono HB0.out.size))
    clear HB0 hb
    have HB0 := HBn
    clear HBn
    have SA := Lib.hid hs
    clear hs hm
    go_wp2_with fail
    refine (spNot_ok _ gA A HIA.out.prs (by have := HIA.out.len; omega) wk4 SA.out).mono ?_
    rintro e wk5 ⟨gNA, rfl, NA, hs, hm, hb⟩
    have HINA := Lib.hid (IsSet.merged rfl all_set HIA.out hm)
    have HPNA : Hid (∀ t, t.Ok → cle topC t = false → par NA t = !par A t) := Lib.hid (fun t ht htop => by rw [hm.par t ht, show par allCuts t = true from par_all htop, Bool.true_and])
    replace SX := Lib.hid (SX.out.below hb)
    replace SY := Lib.hid (SY.out.below hb)
    replace SN := Lib.hid (SN.out.below hb)
    replace SA := Lib.hid (SA.out.below hb)
    have HBn : Hid (Below w.heap.size w wk5) := Lib.hid (HB0.out.trans (hb.mono HB0.out.size))
    clear HB0 hb
    have HB0 := HBn
    clear HBn
    have SNA := Lib.hid hs
    clear hs hm
    go_wp2_with fail
    refine (spNot_ok _ gY Y HIY.out.prs (by have := HIY.out.len; omega) wk5 SY.out).mono ?_
    rintro e wk6 ⟨gM, rfl, M, hs, hm, hb⟩
    have HIM := Lib.hid (IsSet.merged rfl all_set HIY.out hm)
    have HPM : Hid (∀ t, t.Ok → cle topC t = false → par M t = !par Y t) := Lib.hid (fun t ht htop => by rw [hm.par t ht, show par allCuts t = true from par_all htop, Bool.true_and])
    replace SX := Lib.hid (SX.out.below hb)
    replace SY := Lib.hid (SY.out.below hb)
    replace SN := Lib.hid (SN.out.below hb)
    replace SA := Lib.hid (SA.out.below hb)
    replace SNA := Lib.hid (SNA.out.below hb)
    have HBn : Hid (Below w.heap.size w wk6) := Lib.hid (HB0.out.trans (hb.mono HB0.out.size))
    clear HB0 hb
    have HB0 := HBn
    clear HBn
    have SM := Lib.hid hs
    clear hs hm
    go_wp2_with fail
    refine (spOr_ok _ gN _ gM N M HIN.out.prs HIM.out.prs (by have := HIN.out.len; omega) (by have := HIM.out.len; omega) wk6 SN.out SM.out).mono ?_
    rintro e wk7 ⟨gO, rfl, O, hs, hm, hb⟩
    have HIO := Lib.hid (IsSet.merged rfl HIN.out HIM.out hm)
    have HPO : Hid (∀ t, t.Ok → cle topC t = false → par O t = (par N t || par M t)) := Lib.hid (fun t ht _ => hm.par t ht)
    replace SX := Lib.hid (SX.out.below hb)
    replace SY := Lib.hid (SY.out.below hb)
    replace SN := Lib.hid (SN.out.below hb)
    replace SA := Lib.hid (SA.out.below hb)
    replace SNA := Lib.hid (SNA.out.below hb)
    replace SM := Lib.hid (SM.out.below hb)
    have HBn : Hid (Below w.heap.size w wk7) := Lib.hid (HB0.out.trans (hb.mono HB0.out.size))
    clear HB0 hb
    have HB0 := HBn
    clear HBn
    have SO := Lib.hid hs
    clear hs hm
    go_wp2_with fail
    refine (same_ok _ gNA _ gO NA O (by have := HINA.out.len; omega) (by have := HIO.out.len; omega) wk7 SNA.out SO.out).mono ?_
    rintro e wk8 ⟨rfl, hb⟩
    have hd : decide (NA = O) = true := decide_eq_true (same_of HINA.out HIO.out fun t ht htop => by simp only [HPNA.out t ht htop, HPA.out t ht htop, HPO.out t ht htop, HPN.out t ht htop, HPM.out t ht htop] <;> cases par X t <;> cases par Y t <;> rfl)
    rw [hd]
    clear hd
    replace SX := Lib.hid (SX.out.below hb)
    replace SY := Lib.hid (SY.out.below hb)
    replace SN := Lib.hid (SN.out.below hb)
    replace SA := Lib.hid (SA.out.below hb)
    replace SNA := Lib.hid (SNA.out.below hb)
    replace SM := Lib.hid (SM.out.below hb)
    replace SO := Lib.hid (SO.out.below hb)
    have HBn : Hid (Below w.heap.size w wk8) := Lib.hid (HB0.out.trans (hb.mono HB0.out.size))
    clear HB0 hb
    have HB0 := HBn
    clear HBn
    go_wp2_with fail
    clear SNA HINA HPNA
    clear SA HIA HPA
    clear SM HIM HPM
    clear SO HIO HPO
    refine (spAnd_ok _ gX _ gY X Y HIX.out.prs HIY.out.prs (by have := HIX.out.len; omega) (by have := HIY.out.len; omega) wk8 SX.out SY.out).mono ?_
    rintro e wk9 ⟨gA, rfl, A, hs, hm, hb⟩
    have HIA := Lib.hid (IsSet.merged rfl HIX.out HIY.out hm)
    have HPA : Hid (∀ t, t.Ok → cle topC t = false → par A t = (par X t && par Y t)) := Lib.hid (fun t ht _ => hm.par t ht)
    replace SX := Lib.hid (SX.out.below hb)
    replace SY := Lib.hid (SY.out.below hb)
    replace SN := Lib.hid (SN.out.below hb)
    have HBn : Hid (Below w.heap.size w wk9) := Lib.hid (HB0.out.trans (hb.mono HB0.out.size))
    clear HB0 hb
    have HB0 := HBn
    clear HBn
    have SA := Lib.hid hs
    clear hs hm
    go_wp2_with fail
    refine (spAnd_ok _ gY _ gX Y X HIY.out.prs HIX.out.prs (by have := HIY.out.len; omega) (by have := HIX.out.len; omega) wk9 SY.out SX.out).mono ?_
    rintro e wk10 ⟨gB, rfl, B, hs, hm, hb⟩
    have HIB := Lib.hid (IsSet.merged rfl HIY.out HIX.out hm)
    have HPB : Hid (∀ t, t.Ok → cle topC t = false → par B t = (par Y t && par X t)) := Lib.hid (fun t ht _ => hm.par t ht)
    replace SX := Lib.hid (SX.out.below hb)
    replace SY := Lib.hid (SY.out.below hb)
    replace SN := Lib.hid (SN.out.below hb)
    replace SA := Lib.hid (SA.out.below hb)
    have HBn : Hid (Below w.heap.size w wk10) := Lib.hid (HB0.out.trans (hb.mono HB0.out.size))
    clear HB0 hb
    have HB0 := HBn
    clear HBn
    have SB := Lib.hid hs
    clear hs hm
    go_wp2_with fail
    refine (same_ok _ gA _ gB A B (by have := HIA.out.len; omega) (by have := HIB.out.len; omega) wk10 SA.out SB.out).mono ?_
    rintro e wk11 ⟨rfl, hb⟩
    have hd : decide (A = B) = true := decide_eq_true (same_of HIA.out HIB.out fun t ht htop => by simp only [HPA.out t ht htop, HPB.out t ht htop] <;> cases par X t <;> cases par Y t <;> rfl)
    rw [hd]
    clear hd
    replace SX := Lib.hid (SX.out.below hb)
    replace SY := Lib.hid (SY.out.below hb)
    replace SN := Lib.hid (SN.out.below hb)
    replace SA := Lib.hid (SA.out.below hb)
    replace SB := Lib.hid (SB.out.below hb)
    have HBn : Hid (Below w.heap.size w wk11) := Lib.hid (HB0.out.trans (hb.mono HB0.out.size))
    clear HB0 hb
    have HB0 := HBn
    clear HBn
    go_wp2_with fail
    clear SA HIA HPA
    clear SB HIB HPB
    refine (spOr_ok _ gX _ gY X Y HIX.out.prs HIY.out.prs (by have := HIX.out.len; omega) (by have := HIY.out.len; omega) wk11 SX.out SY.out).mono ?_
    rintro e wk12 ⟨gA, rfl, A, hs, hm, hb⟩
    have HIA := Lib.hid (IsSet.merged rfl HIX.out HIY.out hm)
    have HPA : Hid (∀ t, t.Ok → cle topC t = false → par A t = (par X t || par Y t)) := Lib.hid (fun t ht _ => hm.par t ht)
    replace SX := Lib.hid (SX.out.below hb)
    replace SY := Lib.hid (SY.out.below hb)
    replace SN := Lib.hid (SN.out.below hb)
    have HBn : Hid (Below w.heap.size w wk12) := Lib.hid (HB0.out.trans (hb.mono HB0.out.size))
    clear HB0 hb
    have HB0 := HBn
    clear HBn
    have SA := Lib.hid hs
    clear hs hm
    go_wp2_with fail
    refine (spOr_ok _ gY _ gX Y X HIY.out.prs HIX.out.prs (by have := HIY.out.len; omega) (by have := HIX.out.len; omega) wk12 SY.out SX.out).mono ?_
    rintro e wk13 ⟨gB, rfl, B, hs, hm, hb⟩
    have HIB := Lib.hid (IsSet.merged rfl HIY.out HIX.out hm)
    have HPB : Hid (∀ t, t.Ok → cle topC t = false → par B t = (par Y t || par X t)) := Lib.hid (fun t ht _ => hm.par t ht)
    replace SX := Lib.hid (SX.out.below hb)
    replace SY := Lib.hid (SY.out.below hb)
    replace SN := Lib.hid (SN.out.below hb)
    replace SA := Lib.hid (SA.out.below hb)
    have HBn : Hid (Below w.heap.size w wk13) := Lib.hid (HB0.out.trans (hb.mono HB0.out.size))
    clear HB0 hb
    have HB0 := HBn
    clear HBn
    have SB := Lib.hid hs
    clear hs hm
    go_wp2_with fail
    refine (same_ok _ gA _ gB A B (by have := HIA.out.len; omega) (by have := HIB.out.len; omega) wk13 SA.out SB.out).mono ?_
    rintro e wk14 ⟨rfl, hb⟩
    have hd : decide (A = B) = true := decide_eq_true (same_of HIA.out HIB.out fun t ht htop => by simp only [HPA.out t ht htop, HPB.out t ht htop] <;> cases par X t <;> cases par Y t <;> rfl)
    rw [hd]
    clear hd
    replace SX := Lib.hid (SX.out.below hb)
    replace SY := Lib.hid (SY.out.below hb)
    replace SN := Lib.hid (SN.out.below hb)
    replace SA := Lib.hid (SA.out.below hb)
    replace SB := Lib.hid (SB.out.below hb)
    have HBn : Hid (Below w.heap.size w wk14) := Lib.hid (HB0.out.trans (hb.mono HB0.out.size))
    clear HB0 hb
    have HB0 := HBn
    clear HBn
    go_wp2_with fail
    clear SA HIA HPA
    clear SB HIB HPB
    refine (spOr_ok _ gX _ gN X N HIX.out.prs HIN.out.prs (by have := HIX.out.len; omega) (by have := HIN.out.len; omega) wk14 SX.out SN.out).mono ?_
    rintro e wk15 ⟨gA, rfl, A, hs, hm, hb⟩
    have HIA := Lib.hid (IsSet.merged rfl HIX.out HIN.out hm)
    have HPA : Hid (∀ t, t.Ok → cle topC t = false → par A t = (par X t || par N t)) := Lib.hid (fun t ht _ => hm.par t ht)
    replace SX := Lib.hid (SX.out.below hb)
    replace SY := Lib.hid (SY.out.below hb)
    replace SN := Lib.hid (SN.out.below hb)
    have HBn : Hid (Below w.heap.size w wk15) := Lib.hid (HB0.out.trans (hb.mono HB0.out.size))
    clear HB0 hb
    have HB0 := HBn
    clear HBn
    have SA := Lib.hid hs
    clear hs hm
    go_wp2_with fail
    refine (spAll_ok wk15).mono ?_
    rintro e wk16 ⟨gL, rfl, hs, hb⟩
    obtain ⟨L, hL⟩ : ∃ l, l = allCuts := ⟨_, rfl⟩
    rw [← hL] at hs
    have HIL : Hid (IsSet L 2) := Lib.hid (by rw [hL]; exact all_set)
    have HPL : Hid (∀ t, t.Ok → cle topC t = false → par L t = true) := Lib.hid (fun t ht htop => by rw [hL]; exact par_all htop)
    clear hL
    replace SX := Lib.hid (SX.out.below hb)
    replace SY := Lib.hid (SY.out.below hb)
    replace SN := Lib.hid (SN.out.below hb)
    replace SA := Lib.hid (SA.out.below hb)
    have HBn : Hid (Below w.heap.size w wk16) := Lib.hid (HB0.out.trans (hb.mono HB0.out.size))
    clear HB0 hb
    have HB0 := HBn
    clear HBn
    have SL := Lib.hid hs
    clear hs
    go_wp2_with fail
    refine (same_ok _ gA _ gL A L (by have := HIA.out.len; omega) (by have := HIL.out.len; omega) wk16 SA.out SL.out).mono ?_
    rintro e wk17 ⟨rfl, hb⟩
    have hd : decide (A = L) = true := decide_eq_true (same_of HIA.out HIL.out fun t ht htop => by simp only [HPA.out t ht htop, HPL.out t ht htop, HPN.out t ht htop] <;> cases par X t <;> rfl)
    rw [hd]
    clear hd
    replace SX := Lib.hid (SX.out.below hb)
    replace SY := Lib.hid (SY.out.below hb)
    replace SN := Lib.hid (SN.out.below hb)
    replace SA := Lib.hid (SA.out.below hb)
    replace SL := Lib.hid (SL.out.below hb)
    have HBn : Hid (Below w.heap.size w wk17) := Lib.hid (HB0.out.trans (hb.mono HB0.out.size))
    clear HB0 hb
    have HB0 := HBn
    clear HBn
    go_wp2_with fail
    clear SA HIA HPA
    clear SL HIL HPL
    refine (spAnd_ok _ gX _ gN X N HIX.out.prs HIN.out.prs (by have := HIX.out.len; omega) (by have := HIN.out.len; omega) wk17 SX.out SN.out).mono ?_
    rintro e wk18 ⟨gA, rfl, A, hs, hm, hb⟩
    have HIA := Lib.hid (IsSet.merged rfl HIX.out HIN.out hm)
    have HPA : Hid (∀ t, t.Ok → cle topC t = false → par A t = (par X t && par N t)) := Lib.hid (fun t ht _ => hm.par t ht)
    replace SX := Lib.hid (SX.out.below hb)
    replace SY := Lib.hid (SY.out.below hb)
    replace SN := Lib.hid (SN.out.below hb)
    have HBn : Hid (Below w.heap.size w wk18) := Lib.hid (HB0.out.trans (hb.mono HB0.out.size))
    clear HB0 hb
    have HB0 := HBn
    clear HBn
    have SA := Lib.hid hs
    clear hs hm
    go_wp2_with fail
    refine (spNone_ok wk18).mono ?_
    rintro e wk19 ⟨rfl, hs, hb⟩
    obtain ⟨gZ, hgZ⟩ : ∃ g, g = wk18.heap.size := ⟨_, rfl⟩
    obtain ⟨Z, hZ⟩ : ∃ l : List Cut, l = [] := ⟨_, rfl⟩
    rw [← hgZ, ← hZ] at hs
    rw [← hgZ]
    have HIZ : Hid (IsSet Z 0) := Lib.hid (by rw [hZ]; exact isSet_none)
    have HPZ : Hid (∀ t, t.Ok → cle topC t = false → par Z t = false) := Lib.hid (fun t ht htop => by rw [hZ]; rfl)
    clear hZ hgZ
    replace SX := Lib.hid (SX.out.below hb)
    replace SY := Lib.hid (SY.out.below hb)
    replace SN := Lib.hid (SN.out.below hb)
    replace SA := Lib.hid (SA.out.below hb)
    have HBn : Hid (Below w.heap.size w wk19) := Lib.hid (HB0.out.trans (hb.mono HB0.out.size))
    clear HB0 hb
    have HB0 := HBn
    clear HBn
    have SZ := Lib.hid hs
    clear hs
    go_wp2_with fail
    refine (same_ok _ gA _ gZ A Z (by have := HIA.out.len; omega) (by have := HIZ.out.len; omega) wk19 SA.out SZ.out).mono ?_
    rintro e wk20 ⟨rfl, hb⟩
    have hd : decide (A = Z) = true := decide_eq_true (same_of HIA.out HIZ.out fun t ht htop => by simp only [HPA.out t ht htop, HPZ.out t ht htop, HPN.out t ht htop] <;> cases par X t <;> rfl)
    rw [hd]
    clear hd
    replace SX := Lib.hid (SX.out.below hb)
    replace SY := Lib.hid (SY.out.below hb)
    replace SN := Lib.hid (SN.out.below hb)
    replace SA := Lib.hid (SA.out.below hb)
    replace SZ := Lib.hid (SZ.out.below hb)
    have HBn : Hid (Below w.heap.size w wk20) := Lib.hid (HB0.out.trans (hb.mono HB0.out.size))
    clear HB0 hb
    have HB0 := HBn
    clear HBn
    go_wp2_with fail
    clear SA HIA HPA
    clear SZ HIZ HPZ
    refine (spAnd_ok _ gX _ gN X N HIX.out.prs HIN.out.prs (by have := HIX.out.len; omega) (by have := HIN.out.len; omega) wk20 SX.out SN.out).mono ?_
    rintro e wk21 ⟨gA, rfl, A, hs, hm, hb⟩
    have HIA := Lib.hid (IsSet.merged rfl HIX.out HIN.out hm)
    have HPA : Hid (∀ t, t.Ok → cle topC t = false → par A t = (par X t && par N t)) := Lib.hid (fun t ht _ => hm.par t ht)
    replace SX := Lib.hid (SX.out.below hb)
    replace SY := Lib.hid (SY.out.below hb)
    replace SN := Lib.hid (SN.out.below hb)
    have HBn : Hid (Below w.heap.size w wk21) := Lib.hid (HB0.out.trans (hb.mono HB0.out.size))
    clear HB0 hb
    have HB0 := HBn
    clear HBn
    have SA := Lib.hid hs
    clear hs hm
    go_wp2_with fail
    refine (empty_ok _ gA A wk21 SA.out).mono ?_
    rintro e wx ⟨rfl, rfl⟩
    have hd : decide (A = []) = true := decide_eq_true (same_of HIA.out isSet_none fun t ht htop => by rw [HPA.out t ht htop, HPN.out t ht htop]; cases par X t <;> rfl)
    rw [hd]
    clear hd
    go_wp2_with fail
    clear SA HIA HPA
    refine (spAll_ok wk21).mono ?_
    rintro e wk22 ⟨gL, rfl, hs, hb⟩
    obtain ⟨L, hL⟩ : ∃ l, l = allCuts := ⟨_, rfl⟩
    rw [← hL] at hs
    have HIL : Hid (IsSet L 2) := Lib.hid (by rw [hL]; exact all_set)
    have HPL : Hid (∀ t, t.Ok → cle topC t = false → par L t = true) := Lib.hid (fun t ht htop => by rw [hL]; exact par_all htop)
    clear hL
    replace SX := Lib.hid (SX.out.below hb)
    replace SY := Lib.hid (SY.out.below hb)
    replace SN := Lib.hid (SN.out.below hb)
    have HBn : Hid (Below w.heap.size w wk22) := Lib.hid (HB0.out.trans (hb.mono HB0.out.size))
    clear HB0 hb
    have HB0 := HBn
    clear HBn
    have SL := Lib.hid hs
    clear hs
    go_wp2_with fail
    refine (spAnd_ok _ gX _ gL X L HIX.out.prs HIL.out.prs (by have := HIX.out.len; omega) (by have := HIL.out.len; omega) wk22 SX.out SL.out).mono ?_
    rintro e wk23 ⟨gA, rfl, A, hs, hm, hb⟩
    have HIA := Lib.hid (IsSet.merged rfl HIX.out HIL.out hm)
    have HPA : Hid (∀ t, t.Ok → cle topC t = false → par A t = (par X t && par L t)) := Lib.hid (fun t ht _ => hm.par t ht)
    replace SX := Lib.hid (SX.out.below hb)
    replace SY := Lib.hid (SY.out.below hb)
    replace SN := Lib.hid (SN.out.below hb)
    replace SL := Lib.hid (SL.out.below hb)
    have HBn : Hid (Below w.heap.size w wk23) := Lib.hid (HB0.out.trans (hb.mono HB0.out.size))
    clear HB0 hb
    have HB0 := HBn
    clear HBn
    have SA := Lib.hid hs
    clear hs hm
    go_wp2_with fail
    refine (same_ok _ gA _ gX A X (by have := HIA.out.len; omega) (by have := HIX.out.len; omega) wk23 SA.out SX.out).mono ?_
    rintro e wk24 ⟨rfl, hb⟩
    have hd : decide (A = X) = true := decide_eq_true (same_of HIA.out HIX.out fun t ht htop => by simp only [HPA.out t ht htop, HPL.out t ht htop] <;> cases par X t <;> rfl)
    rw [hd]
    clear hd
    replace SX := Lib.hid (SX.out.below hb)
    replace SY := Lib.hid (SY.out.below hb)
    replace SN := Lib.hid (SN.out.below hb)
    replace SL := Lib.hid (SL.out.below hb)
    replace SA := Lib.hid (SA.out.below hb)
    have HBn : Hid (Below w.heap.size w wk24) := Lib.hid (HB0.out.trans (hb.mono HB0.out.size))
    clear HB0 hb
    have HB0 := HBn
    clear HBn
    go_wp2_with fail
    clear SA HIA HPA
    clear SL HIL HPL
    refine (spOr_ok _ gX _ gX X X HIX.out.prs HIX.out.prs (by have := HIX.out.len; omega) (by have := HIX.out.len; omega) wk24 SX.out SX.out).mono ?_
    rintro e wk25 ⟨gA, rfl, A, hs, hm, hb⟩
    have HIA := Lib.hid (IsSet.merged rfl HIX.out HIX.out hm)
    have HPA : Hid (∀ t, t.Ok → cle topC t = false → par A t = (par X t || par X t)) := Lib.hid (fun t ht _ => hm.par t ht)
    replace SX := Lib.hid (SX.out.below hb)
    replace SY := Lib.hid (SY.out.below hb)
    replace SN := Lib.hid (SN.out.below hb)
    have HBn : Hid (Below w.heap.size w wk25) := Lib.hid (HB0.out.trans (hb.mono HB0.out.size))
    clear HB0 hb
    have HB0 := HBn
    clear HBn
    have SA := Lib.hid hs
    clear hs hm
    go_wp2_with fail
    refine (same_ok _ gA _ gX A X (by have := HIA.out.len; omega) (by have := HIX.out.len; omega) wk25 SA.out SX.out).mono ?_
    rintro e wk26 ⟨rfl, hb⟩
    have hd : decide (A = X) = true := decide_eq_true (same_of HIA.out HIX.out fun t ht htop => by simp only [HPA.out t ht htop] <;> cases par X t <;> rfl)
    rw [hd]
    clear hd
    replace SX := Lib.hid (SX.out.below hb)
    replace SY := Lib.hid (SY.out.below hb)
    replace SN := Lib.hid (SN.out.below hb)
    replace SA := Lib.hid (SA.out.below hb)
    have HBn : Hid (Below w.heap.size w wk26) := Lib.hid (HB0.out.trans (hb.mono HB0.out.size))
    clear HB0 hb
    have HB0 := HBn
    clear HBn
    go_wp2_with fail
    clear SA HIA HPA
    go_ret
    exact ⟨rfl, HB0.out⟩
end Go.Proofs.YteeijjhgdplifaaGreatDoor
