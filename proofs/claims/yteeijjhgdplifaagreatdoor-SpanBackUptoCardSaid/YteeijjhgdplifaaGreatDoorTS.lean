/- SpanBack: the walk. -/
import Derived.Test.YteeijjhgdplifaaGreatDoorTR
import Derived.Test.YteeijjhgdplifaaGreatDoorTL
import Derived.Test.YteeijjhgdplifaaGreatDoorTM
import Derived.Test.YteeijjhgdplifaaGreatDoorTN
namespace Go.Proofs.YteeijjhgdplifaaGreatDoor
open Go.RowKit

theorem star_one : okP [42, 124, 61, 49] = true := by decide +kernel
theorem star_all (t : Cut) (ht : t.Ok) (htop : cle topC t = false) : hasP [42, 124, 61, 49] t = true := by
  have e : splitC 124 [42, 124, 61, 49] = [[42], [61, 49]] := rfl
  have e2 : hasA [42] t = true := by
    rw [hasA_one (by decide)]
    exact par_all htop
  unfold hasP
  rw [e, List.any_cons, e2, Bool.true_or]
theorem isSet_tag {cs : List Cut} {N : Nat} (h : IsSet cs N) : ∀ c ∈ cs, c.v.t.length ≤ 140737488355328 := by
  intro c hc
  rcases (h.m c hc).cases with rfl | rfl | ⟨_, _, hm⟩
  · decide
  · decide
  · have := c.v.may_t hm
    unfold tagOk at this
    simp only [Bool.and_eq_true, decide_eq_true_eq] at this
    omega
theorem text_len {cs : List Cut} {N : Nat} (h : IsSet cs N) (hN : N ≤ 10000) : (textP cs).length ≤ 4000000 := by
  unfold textP
  split
  · decide
  · have h1 := pieces_len cs h.oks
    have h2 := join_len2 (sep := 124) (piecesP cs) h1.1
    have := h.len
    omega
theorem count_take (s : List UInt8) (i : Nat) {c b : UInt8} (h : s[i]? = some c) : (s.take (i + 1)).count b = (s.take i).count b + if c = b then 1 else 0 := by
  rw [List.take_add_one, h, List.count_append]
  congr 1
  by_cases hb : c = b
  · subst hb; simp
  · rw [if_neg hb]; exact List.count_cons_of_ne hb
theorem runs_loadw {P : Program} {ops : Array Oper} {o : Oper} {a : Act} {w : World} {R : Value → World → Prop} (hw : Region.wanted o (yielded ops a.tmps) = true) (ty : TypeId) (x : Operand) (ho : o.op = .load ty x) (p : Addr) (hx : a.eval x = .pointer (some p)) (v : Value)
    (hr : (loadVar ty p).run P w = .ok v w) (h : R v w) : Runs P ops o a w R := by
  unfold Runs
  rw [if_pos hw]
  show Out P R ((execOp a.eval o).run P w)
  unfold execOp
  simp only [ho, hx, Instr.loadAt, Instr.sureAddr, Sem.run_bind, Sem.run_pure, Result.andThen_ok, hr]
  exact h
theorem all_text : textP allCuts = [42] := rfl
set_option maxRecDepth 100000 in
set_option maxHeartbeats 8000000 in
theorem spanBack_walk (s : ByteArray) (hs : s.size ≤ 4000000000) (v : Ver) (hv : v.Ok) (hvt : v.t.length ≤ 140737488355328) (w : World) (hg : GV w) : Calls Tryz.prog 6 #[.string s, .agg v.cells.toArray] w fun e w' => e = .returned (.bool true) ∧ Below w.heap.size w w' := by
  obtain ⟨w1, hw1⟩ : ∃ w1, w1 = w.alloc (.cells v.cells.toArray 38) := ⟨_, rfl⟩
  obtain ⟨g3, hg3⟩ : ∃ g3, g3 = w.heap.size := ⟨_, rfl⟩
  have hb1 : Below w.heap.size w w1 := by rw [hw1]; exact (Below.refl _ _).alloc (Nat.le_refl _) _
  have k1 : Blk w1 g3 38 v.cells := by rw [hw1, hg3]; exact Blk.new _ _ v.cells.toArray
  have HG := Lib.hid hg
  have HLV : Hid (∀ wI, Below w1.heap.size w1 wI → (loadVar 38 ⟨g3, 0, none⟩).run Tryz.prog wI = .ok (.agg v.cells.toArray) wI) := Lib.hid (fun wI hb => vload (k1.below' hb) hv)
  have HB1 := Lib.hid hb1
  have HV := Lib.hid hv
  have HVT := Lib.hid hvt
  have HP1 := Lib.hid (spParse_ok s hs w1 (hg.below hb1))
  obtain ⟨E1, hE1⟩ : ∃ E1, E1 = errP s.data.toList := ⟨_, rfl⟩
  rw [← hE1] at HP1
  have HE1 := Lib.hid hE1
  have HW1 := Lib.hid hw1
  have HG3 := Lib.hid hg3
  clear hs hv hvt hg hE1 hw1 hg3 hb1 k1
  go_enter Tryz.func6, Tryz.ntmps6
  go_upto_region 1 with fail
  rw [← HW1.out, ← HG3.out]
  go_wp2_with fail
  refine HP1.out.mono ?_
  rintro e w2 ⟨p1, rfl, hr1, hb2⟩
  have HR1 := Lib.hid hr1
  have HB12 := Lib.hid hb2
  have HB2 : Hid (Below w.heap.size w w2) := Lib.hid (HB1.out.trans (hb2.mono HB1.out.size))
  have hpo := spParse_ok (bl [42, 124, 61, 49]) (by rw [bl_size]; decide) w2 (HG.out.below HB2.out)
  rw [show errP (bl [42, 124, 61, 49]).data.toList = 0 by rw [bl_data]; unfold errP; rw [star_one]; rfl] at hpo
  have HPO := Lib.hid hpo
  clear hr1 hb2 HP1 hpo
  go_wp2_with fail
  refine HPO.out.mono ?_
  rintro e w3 ⟨p2, rfl, hr2, hb⟩
  have HB13 : Hid (Below w1.heap.size w1 w3) := Lib.hid (HB12.out.trans (hb.mono HB12.out.size))
  have HB3 : Hid (Below w.heap.size w w3) := Lib.hid (HB2.out.trans (hb.mono HB2.out.size))
  have hone : ∃ gO, p2 = sp0 gO ∧ SpAt w3 w2.heap.size gO allCuts := by
    rcases hr2 with ⟨h, _⟩ | ⟨_, gO, cs, rfl, hsp, his, hpar⟩
    · rw [star_one] at h; cases h
    · refine ⟨gO, rfl, ?_⟩
      have : cs = allCuts := same_of his all_set fun t ht htop => by rw [hpar t ht htop, star_all t ht htop]; exact (par_all htop).symm
      rw [← this]; exact hsp
  obtain ⟨gO, rfl, hspO⟩ := hone
  have HSO := Lib.hid hspO
  have HRX : Hid (RangeIs w1 w3 s.data.toList p1) := Lib.hid (by
    rcases HR1.out with h | ⟨h0, g, cs, h1, h2, h3⟩
    · exact .inl h
    · exact .inr ⟨h0, g, cs, h1, h2.below hb, h3⟩)
  clear hr2 hb hspO HPO HB12 HB2
  have HT1 := Lib.hid (spText_ok _ gO allCuts (isSet_tag all_set) (by decide) (by decide) w3 (HG.out.below HB3.out).gt HSO.out)
  rw [all_text] at HT1
  go_wp2_with fail
  refine HT1.out.mono ?_
  rintro e w4 ⟨rfl, hb⟩
  have HB14 : Hid (Below w1.heap.size w1 w4) := Lib.hid (HB13.out.trans (hb.mono HB13.out.size))
  have HB4 : Hid (Below w.heap.size w w4) := Lib.hid (HB3.out.trans (hb.mono HB3.out.size))
  have HB34 := Lib.hid hb
  clear hb HT1 HSO
  go_wp2_with fail
  refine (spNone_ok w4).mono ?_
  rintro e w5 ⟨rfl, hs5, hb⟩
  obtain ⟨g5, hg5⟩ : ∃ g5, g5 = w4.heap.size := ⟨_, rfl⟩
  rw [← hg5] at hs5 ⊢
  have HB5 : Hid (Below w.heap.size w w5) := Lib.hid (HB4.out.trans (hb.mono HB4.out.size))
  have HB35 : Hid (Below w3.heap.size w3 w5) := Lib.hid (HB34.out.trans (hb.mono HB34.out.size))
  have HT2 := Lib.hid (spText_ok _ g5 [] (by intro c hc; cases hc) (by decide) (by decide) w5 (HG.out.below HB5.out).gt hs5)
  rw [show textP [] = noneT from rfl] at HT2
  clear hs5 hb hg5
  go_wp2_with fail
  refine HT2.out.mono ?_
  rintro e w6 ⟨rfl, hb⟩
  have HB6 : Hid (Below w.heap.size w w6) := Lib.hid (HB5.out.trans (hb.mono HB5.out.size))
  have HB36 : Hid (Below w3.heap.size w3 w6) := Lib.hid (HB35.out.trans (hb.mono HB35.out.size))
  have HB16 : Hid (Below w1.heap.size w1 w6) := Lib.hid (HB13.out.trans (HB36.out.mono HB13.out.size))
  clear hb HT2
  rcases HRX.out with ⟨hk1, rfl⟩ | ⟨hk1, gX, X, rfl, hs1, hi1, hp1⟩
  · obtain rfl : E1 = 21 := by rw [HE1.out]; unfold errP; rw [hk1]; rfl
    clear hk1
    go_wp2_with fail
    go_ret
    exact ⟨rfl, HB6.out⟩
  have SX := Lib.hid (hs1.below HB36.out)
  have HIX := Lib.hid hi1
  obtain rfl : E1 = 0 := by rw [HE1.out]; unfold errP; rw [hk1]; rfl
  obtain ⟨TX, hTX⟩ : ∃ TX, TX = textP X := ⟨_, rfl⟩
  obtain ⟨ST, hST⟩ : ∃ ST, ST = bl TX := ⟨_, rfl⟩
  obtain ⟨n, hn⟩ : ∃ n, n = ST.size := ⟨_, rfl⟩
  have htl := text_len hi1 (by decide)
  have hback := text_back hi1
  rw [← hTX] at htl hback
  have hnl : n = TX.length := by rw [hn, hST, bl_size]
  have hn4 : n ≤ 4000000 := by omega
  have HOKP : Hid (okP TX = decide (TX.count 124 + 1 ≤ 16)) := Lib.hid (by rw [hback.1, splitC_length])
  have HHAS : Hid (∀ t, t.Ok → cle topC t = false → hasP TX t = par X t) := Lib.hid hback.2
  have HTXT : Hid (∀ (gy : Nat) (B : Nat) wI, Below w.heap.size w wI → SpAt wI B gy X → Calls Tryz.prog 21 #[sp0 gy] wI fun e w' => e = .returned (.string ST) ∧ Below wI.heap.size wI w') := Lib.hid (fun gy B wI hb hsp => by
    rw [hST, hTX]
    exact spText_ok B gy X (isSet_tag hi1) (even_of hi1.ev) (by have := hi1.len; omega) wI (HG.out.below hb).gt hsp)
  have HPT : Hid (∀ wI, Below w.heap.size w wI → Calls Tryz.prog 7 #[.string ST] wI fun e w' => ∃ p, e = .returned (.tuple #[p, .int .i64 (errP TX)]) ∧ RangeIs wI w' TX p ∧ Below wI.heap.size wI w') := Lib.hid (fun wI hb => by
    have h := spParse_ok ST (by rw [← hn]; omega) wI (HG.out.below hb)
    rw [show ST.data.toList = TX by rw [hST]] at h
    exact h)
  have HGET : Hid (∀ (i : Nat) (h : i < ST.size), TX[i]? = some (ST[i]'h)) := Lib.hid (fun i h => by
    have e : ST.data.toList[i]? = some (ST[i]'h) := by rw [List.getElem?_eq_getElem (by rw [← Lib.size_eq]; exact h)]; rfl
    rw [← e, hST])
  have HTL := Lib.hid hnl
  clear hs1 hi1 hp1 hk1 htl hback hTX hST hnl HR1 HRX HE1
  go_wp2_with fail
  refine (HTXT.out gX _ w6 HB6.out SX.out).mono ?_
  rintro e w7 ⟨rfl, hb⟩
  have HB7 : Hid (Below w.heap.size w w7) := Lib.hid (HB6.out.trans (hb.mono HB6.out.size))
  have HB17 : Hid (Below w1.heap.size w1 w7) := Lib.hid (HB16.out.trans (hb.mono HB16.out.size))
  have SX7 := Lib.hid (SX.out.below hb)
  have HC0 : Hid ((TX.take 0).count 124 = 0) := Lib.hid rfl
  clear hb SX HB6 HB36 HB16 HB5 HB35 HB4 HB34 HB14 HB3 HB13
  go_wp2_with fail
  go_loopg [11, 10] ST.size (fun kq iv pv wr => ∃ i c : Nat, iv = .int .i64 i ∧ pv = .int .i64 (c + 1 : Nat) ∧ i ≤ ST.size ∧ c ≤ i ∧ kq = ST.size - i ∧ Hid ((TX.take i).count 124 = c) ∧ wr = w7)
  case atStart => exact ⟨0, 0, rfl, rfl, Nat.zero_le _, Nat.le_refl _, rfl, HC0, rfl⟩
  case round =>
  clear HC0
  obtain ⟨i, c, rfl, rfl, hi, hci, rfl, HC, rfl⟩ := hrel
  by_cases hlt : i < ST.size
  · obtain ⟨b, hb⟩ : ∃ b, ST[i]'hlt = b := ⟨_, rfl⟩
    have hg := HGET.out i hlt
    rw [hb] at hg
    have hct := count_take TX i (b := 124) hg
    rw [HC.out] at hct
    have hb256 : (b.toNat : Int) < 256 := by have := b.toNat_lt; omega
    have hc0 : 0 ≤ (c : Int) := by omega
    by_cases h124 : b = 124
    · subst h124
      have e124 : (124 : UInt8).toNat = 124 := rfl
      have HC1 : Hid ((TX.take (i + 1)).count 124 = c + 1) := Lib.hid (by rw [hct, if_pos rfl])
      clear hg hct
      go_wp2_with fail
      go_roundg (ST.size - (i + 1))
      case measure => omega
      case rel => exact ⟨i + 1, c + 1, by go_num, by go_num, by omega, by omega, rfl, HC1, rfl⟩
    · have h124n : (b.toNat : Int) ≠ 124 := by
        intro h
        exact h124 (UInt8.toNat_inj.1 (by show b.toNat = 124; omega))
      have HC1 : Hid ((TX.take (i + 1)).count 124 = c) := Lib.hid (by rw [hct, if_neg h124]; rfl)
      clear hg hct h124
      go_wp2_with fail
      go_roundg (ST.size - (i + 1))
      case measure => omega
      case rel => exact ⟨i + 1, c, by go_num, rfl, by omega, by omega, rfl, HC1, rfl⟩
  · have hie : i = ST.size := by omega
    have HCE : Hid (TX.count 124 = c) := Lib.hid (by
      have h := HC.out
      rw [List.take_of_length_le (by have := HTL.out; omega)] at h
      exact h)
    have hni : ¬ (i : Int) < (ST.size : Int) := by omega
    clear HC
    obtain ⟨E2, hE2⟩ : ∃ E2, E2 = errP TX := ⟨_, rfl⟩
    have hpt := HPT.out wr HB7.out
    rw [← hE2] at hpt
    have HPT7 := Lib.hid hpt
    have HE2 : Hid (E2 = if c + 1 ≤ 16 then 0 else 21) := Lib.hid (by
      rw [hE2]; unfold errP; rw [HOKP.out, HCE.out]
      by_cases h : c + 1 ≤ 16
      · rw [if_pos h, if_pos (by simpa using h)]
      · rw [if_neg h, if_neg (by simpa using h)])
    clear hpt hE2 hie
    go_wp2_with fail
    refine HPT7.out.mono ?_
    rintro e w8 ⟨p8, rfl, hr8, hb⟩
    have HB8 : Hid (Below w.heap.size w w8) := Lib.hid (HB7.out.trans (hb.mono HB7.out.size))
    have HB18 : Hid (Below w1.heap.size w1 w8) := Lib.hid (HB17.out.trans (hb.mono HB17.out.size))
    have SX8 := Lib.hid (SX7.out.below hb)
    have HR8 := Lib.hid hr8
    clear hb hr8 HPT7 SX7
    by_cases h16 : 16 < c + 1
    · obtain rfl : E2 = 21 := by rw [HE2.out, if_neg (by omega)]
      have h16I : 16 < (c : Int) + 1 := by omega
      go_wp2_with fail
      go_ret
      exact ⟨rfl, HB8.out⟩
    · obtain rfl : E2 = 0 := by rw [HE2.out, if_pos (by omega)]
      have h16I : ¬ 16 < (c : Int) + 1 := by omega
      have hY : ∃ gY, p8 = sp0 gY ∧ SpAt w8 wr.heap.size gY X := by
        rcases HR8.out with ⟨h, _⟩ | ⟨_, gY, cs, rfl, hsp, his, hpar⟩
        · rw [HOKP.out, HCE.out] at h
          have := of_decide_eq_false h
          omega
        · refine ⟨gY, rfl, ?_⟩
          have : cs = X := same_of his HIX.out fun t ht htop => by rw [hpar t ht htop, HHAS.out t ht htop]
          rw [← this]; exact hsp
      obtain ⟨gY, rfl, hspY⟩ := hY
      have SY := Lib.hid hspY
      obtain ⟨BH, hBH⟩ : ∃ BH, BH = (v.may && par X ⟨1, v⟩) := ⟨_, rfl⟩
      have HXL : Hid (X.length ≤ 600) := Lib.hid HIX.out.len
      have HHY : Hid (∀ wI, Below w8.heap.size w8 wI → Calls Tryz.prog 17 #[sp0 gY, .agg v.cells.toArray] wI fun e w' => e = .returned (.bool BH) ∧ Below wI.heap.size wI w') := Lib.hid (fun wI hb => by
        rw [hBH]
        exact has_ok _ gY X v HV.out HVT.out (by have := HXL.out; omega) wI (HG.out.below (HB8.out.trans (hb.mono HB8.out.size))).gt (SY.out.below hb))
      have HHX : Hid (∀ wI, Below w8.heap.size w8 wI → Calls Tryz.prog 17 #[sp0 gX, .agg v.cells.toArray] wI fun e w' => e = .returned (.bool BH) ∧ Below wI.heap.size wI w') := Lib.hid (fun wI hb => by
        rw [hBH]
        exact has_ok _ gX X v HV.out HVT.out (by have := HXL.out; omega) wI (HG.out.below (HB8.out.trans (hb.mono HB8.out.size))).gt (SX8.out.below hb))
      have HSM : Hid (∀ wI, Below w8.heap.size w8 wI → Calls Tryz.prog 9 #[sp0 gY, sp0 gX] wI fun e w' => e = .returned (.bool true) ∧ Below wI.heap.size wI w') := Lib.hid (fun wI hb => by
        have h := same_ok _ gY _ gX X X (by have := HXL.out; omega) (by have := HXL.out; omega) wI (SY.out.below hb) (SX8.out.below hb)
        rw [decide_eq_true (rfl : X = X)] at h
        exact h)
      have HTY : Hid (∀ wI, Below w8.heap.size w8 wI → Calls Tryz.prog 21 #[sp0 gY] wI fun e w' => e = .returned (.string ST) ∧ Below wI.heap.size wI w') := Lib.hid (fun wI hb => HTXT.out gY _ wI (HB8.out.trans (hb.mono HB8.out.size)) (SY.out.below hb))
      have HLV8 : Hid (∀ wI, Below w8.heap.size w8 wI → (loadVar 38 ⟨g3, 0, none⟩).run Tryz.prog wI = .ok (.agg v.cells.toArray) wI) := Lib.hid (fun wI hb => HLV.out wI (HB18.out.trans (hb.mono HB18.out.size)))
      have q1 : (ST.toList == ST.toList) = true := beq_self_eq_true _
      have q2 : (BH == BH) = true := by simp
      clear hspY hBH
      go_upto_region 17 with fail
      try simp only [Act.put, List.setIfInBounds_toArray, List.set_cons_zero, List.set_cons_succ]
      obtain ⟨Inv, hInv⟩ : ∃ Inv : Done → World → Prop, Inv = fun _ wI => (fun wI => Below w8.heap.size w8 wI) wI := ⟨_, rfl⟩
      have HI := Lib.hid hInv
      have hcz : Hid (∀ τ wI, Inv τ wI → Below w8.heap.size w8 wI) := by
        intro τ wI h
        rw [hInv] at h
        exact h
      have H00 : Hid (Inv Done.none w8.drew) := by rw [hInv]; exact (Below.refl _ _).drew
      clear hInv
      refine wp_region_inv (by kernel_rfl) [⟨0, false, [], []⟩, ⟨1, false, [], []⟩, ⟨2, false, [], []⟩, ⟨3, false, [], []⟩, ⟨4, false, [], []⟩, ⟨5, false, [], []⟩, ⟨6, false, [], []⟩, ⟨7, false, [], []⟩, ⟨8, false, [], []⟩, ⟨9, false, [], []⟩, ⟨10, false, [], []⟩, ⟨11, false, [], []⟩, ⟨12, false, [], []⟩, ⟨13, false, [], []⟩, ⟨14, false, [], []⟩, ⟨15, false, [], []⟩, ⟨16, false, [], []⟩, ⟨17, false, [], []⟩, ⟨18, false, [], []⟩, ⟨19, false, [], []⟩, ⟨20, false, [], []⟩, ⟨21, false, [], []⟩, ⟨22, false, [], []⟩] (by kernel_rfl) Inv (fun _ _ => True) (fun _ => ⟨undef, trivial⟩) H00.out ?_
      iterate 4 (apply WpI.pure; (simp only [List.getElem?_toArray, List.getElem?_cons_succ, List.getElem?_cons_zero]; rfl); (intro τ wI hA hI; have f0 := hcz.out τ wI hI; go_simp; exact ⟨hI, Is.rfl'⟩); simp only [Act.put, List.setIfInBounds_toArray, List.set_cons_zero, List.set_cons_succ])
      (apply WpI.pure; (simp only [List.getElem?_toArray, List.getElem?_cons_succ, List.getElem?_cons_zero]; rfl); (intro τ wI hA hI; have f0 := hcz.out τ wI hI; go_simp; refine (HTY.out wI f0).mono ?_; rintro e w' ⟨rfl, hb⟩; refine ⟨_, rfl, ?_, Is.rfl'⟩; rw [HI.out]; exact f0.trans (hb.mono f0.size)); simp only [Act.put, List.setIfInBounds_toArray, List.set_cons_zero, List.set_cons_succ])
      iterate 6 (apply WpI.pure; (simp only [List.getElem?_toArray, List.getElem?_cons_succ, List.getElem?_cons_zero]; rfl); (intro τ wI hA hI; have f0 := hcz.out τ wI hI; go_simp; exact ⟨hI, Is.rfl'⟩); simp only [Act.put, List.setIfInBounds_toArray, List.set_cons_zero, List.set_cons_succ])
      (apply WpI.pure; (simp only [List.getElem?_toArray, List.getElem?_cons_succ, List.getElem?_cons_zero]; rfl); (intro τ wI hA hI; have f0 := hcz.out τ wI hI; go_simp; refine (HSM.out wI f0).mono ?_; rintro e w' ⟨rfl, hb⟩; refine ⟨_, rfl, ?_, Is.rfl'⟩; rw [HI.out]; exact f0.trans (hb.mono f0.size)); simp only [Act.put, List.setIfInBounds_toArray, List.set_cons_zero, List.set_cons_succ])
      iterate 3 (apply WpI.pure; (simp only [List.getElem?_toArray, List.getElem?_cons_succ, List.getElem?_cons_zero]; rfl); (intro τ wI hA hI; have f0 := hcz.out τ wI hI; go_simp; exact ⟨hI, Is.rfl'⟩); simp only [Act.put, List.setIfInBounds_toArray, List.set_cons_zero, List.set_cons_succ])
      (apply WpI.pure; (simp only [List.getElem?_toArray, List.getElem?_cons_succ, List.getElem?_cons_zero]; rfl); (intro τ wI hA hI; have f0 := hcz.out τ wI hI; refine runs_loadw rfl 38 (.tmp 3) rfl ⟨g3, 0, none⟩ rfl _ (HLV8.out wI f0) ?_; exact ⟨hI, Is.rfl'⟩); simp only [Act.put, List.setIfInBounds_toArray, List.set_cons_zero, List.set_cons_succ])
      (apply WpI.pure; (simp only [List.getElem?_toArray, List.getElem?_cons_succ, List.getElem?_cons_zero]; rfl); (intro τ wI hA hI; have f0 := hcz.out τ wI hI; go_simp; refine (HHY.out wI f0).mono ?_; rintro e w' ⟨rfl, hb⟩; refine ⟨_, rfl, ?_, Is.rfl'⟩; rw [HI.out]; exact f0.trans (hb.mono f0.size)); simp only [Act.put, List.setIfInBounds_toArray, List.set_cons_zero, List.set_cons_succ])
      (apply WpI.pure; (simp only [List.getElem?_toArray, List.getElem?_cons_succ, List.getElem?_cons_zero]; rfl); (intro τ wI hA hI; have f0 := hcz.out τ wI hI; go_simp; exact ⟨hI, Is.rfl'⟩); simp only [Act.put, List.setIfInBounds_toArray, List.set_cons_zero, List.set_cons_succ])
      (apply WpI.pure; (simp only [List.getElem?_toArray, List.getElem?_cons_succ, List.getElem?_cons_zero]; rfl); (intro τ wI hA hI; have f0 := hcz.out τ wI hI; refine runs_loadw rfl 38 (.tmp 3) rfl ⟨g3, 0, none⟩ rfl _ (HLV8.out wI f0) ?_; exact ⟨hI, Is.rfl'⟩); simp only [Act.put, List.setIfInBounds_toArray, List.set_cons_zero, List.set_cons_succ])
      (apply WpI.pure; (simp only [List.getElem?_toArray, List.getElem?_cons_succ, List.getElem?_cons_zero]; rfl); (intro τ wI hA hI; have f0 := hcz.out τ wI hI; go_simp; refine (HHX.out wI f0).mono ?_; rintro e w' ⟨rfl, hb⟩; refine ⟨_, rfl, ?_, Is.rfl'⟩; rw [HI.out]; exact f0.trans (hb.mono f0.size)); simp only [Act.put, List.setIfInBounds_toArray, List.set_cons_zero, List.set_cons_succ])
      iterate 3 (apply WpI.pure; (simp only [List.getElem?_toArray, List.getElem?_cons_succ, List.getElem?_cons_zero]; rfl); (intro τ wI hA hI; have f0 := hcz.out τ wI hI; go_simp; exact ⟨hI, Is.rfl'⟩); simp only [Act.put, List.setIfInBounds_toArray, List.set_cons_zero, List.set_cons_succ])
      refine WpI.done ?_
      intro wz hI
      rw [HI.out] at hI
      have hE := hI
      have HBz : Hid (Below w.heap.size w wz) := Lib.hid (HB8.out.trans (hE.mono HB8.out.size))
      clear hI hE hcz H00 HI
      go_wp2_with fail
      go_ret
      exact ⟨rfl, HBz.out⟩
end Go.Proofs.YteeijjhgdplifaaGreatDoor
