/- WalPlays: the walk. -/
import Derived.Test.YtjdobjcbmmdjeaaM3
namespace Go.Proofs.Ytjdobjcbmmdjeaa
open Go.RowKit

set_option maxRecDepth 100000 in
set_option maxHeartbeats 8000000 in
theorem walPlays_walk (at_ sectors : Int) (A : Option Addr) (m c : Nat) (acts : List WActD) (w : World) (hat : -9223372036854775808 ≤ at_ ∧ at_ ≤ 9223372036854775807) (hA : WActsIn w A m c acts) :
    Calls Try.prog 10 #[.int .i64 at_, .int .i64 sectors, .slice A m c] w fun e w' => e = .returned (.bool true) ∧ Below w.heap.size w w' := by
  have HA := Lib.hid hA
  have hm : m ≤ 140737488351232 := hA.max
  have hmc : m ≤ c := hA.cap
  clear hA
  go_enter Try.func10, Try.ntmps10
  go_wp2_with fail
  refine (new_ok 12 w (by omega) (by omega)).mono ?_
  rintro e w1 ⟨d, rfl, hd, hb⟩
  have HD := Lib.hid (And.intro hd hb)
  clear hd hb
  go_wp2_with fail
  refine (rnew_ok 12 w1 (by omega) (by omega)).mono ?_
  rintro e w2 ⟨r, rfl, hr, hb⟩
  have HR := Lib.hid (And.intro hr hb)
  have HD2 := Lib.hid (HD.out.1.below hb)
  have HB2 := Lib.hid (below_step' HD.out.2 hb)
  clear hr hb
  go_wp2_with fail
  refine (names4_ok w2).mono ?_
  rintro e w' ⟨rfl, rfl⟩
  have HRG : Hid (RG ⟨zeros (12 * 256), zeros (12 * 256), [], []⟩ ⟨List.replicate 12 (zeros 256), []⟩ 12) := Lib.hid ⟨rel_new 12, Dsk.good_new 12⟩
  by_cases hbad : sectors < 2 ∨ 31 < sectors ∨ at_ < 0 ∨ ((12 : Nat) : Int) - sectors < at_
  · have HO1 := Lib.hid (open_bad w2 _ d 12 at_ sectors _ HD2.out (by omega) (by omega) HRG.out.good.ok.now hat hbad)
    have HO2 := Lib.hid (ropen_bad w2 _ r 12 at_ sectors _ HR.out.1 HRG.out.rel.fl (by omega) hat hbad)
    clear hbad
    go_wp2_with fail
    refine HO1.out.mono ?_
    rintro e w' ⟨rfl, rfl⟩
    go_wp2_with fail
    refine HO2.out.mono ?_
    rintro e w' ⟨rfl, rfl⟩
    go_wp2_with fail
    go_ret
    exact ⟨rfl, HB2.out⟩
  · obtain ⟨s, rfl⟩ : ∃ s : Nat, sectors = (s : Int) := ⟨sectors.toNat, by omega⟩
    obtain ⟨a0, rfl⟩ : ∃ a0 : Nat, at_ = (a0 : Int) := ⟨at_.toNat, by omega⟩
    have hs2 : 2 ≤ s := by omega
    have hs31 : s ≤ 31 := by omega
    have has : a0 + s ≤ 12 := by omega
    clear hbad hat
    go_wp2_with fail
    refine (open_ok w2 _ d 12 a0 s _ HD2.out (by omega) (by omega) HRG.out.good hs2 hs31 has (by simp) (by simp)).mono ?_
    rintro e w3 ⟨j, F', FJ', rfl, hj3, hd3, hm3, hF', hFJ', hdis3⟩
    have hw1 := HD.out.2.size
    have hw2 := HR.out.2.size
    have hr3 := HR.out.1.mod hm3 (fun b hb e => by omega)
    have HB3 : Hid (Below w.heap.size w w3) := Lib.hid (HB2.out.trans (hm3.below HB2.out.size (fun b hb => hb.1)))
    have H3 := Lib.hid (And.intro hj3 (And.intro hd3 (And.intro hF' (And.intro hFJ' (And.intro hdis3 (And.intro hr3 hm3.size))))))
    clear hj3 hd3 hm3 hF' hFJ' hdis3 hr3
    go_wp2_with fail
    refine (ropen_ok w3 _ r 12 a0 s _ _ H3.out.2.2.2.2.2.1 HRG.out (by omega) (by omega) hs2 hs31 has (by simp)).mono ?_
    rintro e w4 ⟨q, FQ', G', rfl, hq4, hr4, hm4, hG', hFQ', hdis4⟩
    go_upto_if 65 with fail
    have hw3 := H3.out.2.2.2.2.2.2
    have hw4 := hm4.size
    have HW4 : Hid (∃ p, p = w4.heap.size ∧ WPE w (w4.alloc (.cells #[.pointer (some ⟨d, 0, none⟩), .pointer (some ⟨r, 0, none⟩), .pointer (some ⟨j, 0, none⟩), .pointer (some ⟨q, 0, none⟩)] 78)) p a0 s 0) := Lib.hid (by
      obtain ⟨hj3, hd3, hF', hFJ', hdis3, hr3, _⟩ := H3.out
      have nG : ∀ b, F' b ∨ FJ' b → ¬ (w1.heap.size ≤ b ∧ b < w2.heap.size) := fun b hb hg => by
        rcases hb with hb | hb
        · rcases hF' b hb with h1 | h1 <;> omega
        · have := hFJ' b hb; omega
      have hd4 := hd3.mod hm4 (fun b hb => nG b (.inl hb))
      have hj4 := hj3.mod hm4 (fun b hb => nG b (.inr hb))
      have hb5 : Below w4.heap.size w4 (w4.alloc (.cells #[.pointer (some ⟨d, 0, none⟩), .pointer (some ⟨r, 0, none⟩), .pointer (some ⟨j, 0, none⟩), .pointer (some ⟨q, 0, none⟩)] 78)) := (Below.refl _ _).alloc (Nat.le_refl _) _
      have hB4 : Below w.heap.size w w4 := HB3.out.trans (hm4.below HB3.out.size (fun b hb => by omega))
      obtain ⟨_, he1, he2⟩ := opn_good (k := 12) HRG.out.good has hs2
      have e0 : (([] : List (Int × Int × Int)).length) = 0 := rfl
      refine ⟨_, rfl, d, r, j, q, F', G', FJ', FQ', _, _, _, _, ⟨below_step' hB4 hb5, Blk.new w4 78 _, ⟨hd4.below hb5, hr4.below hb5, hj4.below hb5, hq4.below hb5, HRG.out.opn has hs2, JQ.nil⟩, rfl, rfl, rfl, rfl, by simp, by show 0 ≤ s - 1; omega, fun n b h => by simp [mget] at h, hB4.size, ?_, ?_, ?_, ?_⟩, ?_, ?_⟩
      · intro b hb
        rcases hb with hb | hb | hb | hb
        · have := hd4.lt hb; rcases hF' b hb with h1 | h1 <;> omega
        · have := hr4.lt hb; rcases hG' b hb with h1 | h1 <;> omega
        · have := hj4.lt' hb; have := hFJ' b hb; omega
        · have := hq4.lt hb; have := hFQ' b hb; omega
      · intro b hb
        refine ⟨fun hg => ?_, hdis3 b hb, fun hg => by have := hd3.lt hb; have := hFQ' b hg; omega⟩
        rcases hG' b hg with h1 | h1
        · exact nG b (.inl hb) h1
        · have := hd3.lt hb; omega
      · intro b hb
        refine ⟨fun hg => ?_, hdis4 b hb⟩
        rcases hG' b hb with h1 | h1
        · exact nG b (.inr hg) h1
        · have := hj3.lt' hg; omega
      · intro b hb hg
        have := hj3.lt' hb; have := hFQ' b hg; omega
      · exact Nat.le_trans he1 (by show 0 + s + 2 ≤ _; omega)
      · exact Nat.le_trans he2 (by show 0 + 256 * s + 256 ≤ _; omega))
    have hb4w : Hid (Below w.heap.size w w4) := Lib.hid (HB3.out.trans (hm4.below HB3.out.size (fun b hb => by omega)))
    clear hq4 hr4 hm4 hG' hFQ' hdis4 hw1 hw2 hw3 hw4 H3 HB3 HRG HD2 HB2 HD HR
    go_cut [2] (fun v wx => wx = w4 ∧ v = .slice A (min m 60) c)
    case first =>
      go_wp2_with fail
      all_goals go_meet
      · exact ⟨rfl, by rw [show min m 60 = 60 from by omega]⟩
      · exact ⟨rfl, by rw [show min m 60 = m from by omega]⟩
    case rest =>
      obtain ⟨rfl, rfl⟩ := hcut
      obtain ⟨m', hm'⟩ : ∃ m', m' = min m 60 := ⟨_, rfl⟩
      rw [← hm']
      have HA2 := Lib.hid (HA.out.take m' (by omega))
      have hm60 : m' ≤ 60 := by omega
      have hmc2 : m' ≤ c := by omega
      obtain ⟨t, ht⟩ : ∃ t : Nat, t = s - 1 := ⟨_, rfl⟩
      have ets : (s : Int) - 1 = (t : Int) := by omega
      have ets2 : IntKind.i64.wrap (t : Int) = (t : Int) := by rw [IntKind.wrap_i64]; omega
      have HTS := Lib.hid ht
      have hex := HW4.out
      obtain ⟨p, hp, hwp⟩ := hex
      have HP0 := Lib.hid hp
      have HW0 := Lib.hid hwp
      clear HA hm' hm hmc ht hp hwp HW4
      go_wp2_with fail
      rw [← HP0.out]
      go_loopg [15] m' (fun kq iv wr => ∃ i : Nat, iv = .int .i64 i ∧ i ≤ m' ∧ kq = m' - i ∧ Hid (WPE w wr p a0 s i))
      case atStart => exact ⟨0, rfl, Nat.zero_le _, rfl, HW0⟩
      case round =>
        clear HW0
        obtain ⟨i, rfl, hi, rfl, hst⟩ := hrel
        have hex := hst.out
        obtain ⟨d, r, j, q, F, G, FJ, GQ, S, R, J, Q, hs0, hse, hsw⟩ := hex
        have HS := Lib.hid hs0
        have hi60 : i ≤ 60 := by omega
        by_cases hlt : i < m'
        · obtain ⟨ab, ao, hA, hab, hcells⟩ := HA2.out.at_ (by omega)
          subst hA
          obtain ⟨a, ha⟩ : ∃ a, (acts.take m')[i]? = some a := ⟨_, List.getElem?_eq_getElem (by rw [HA2.out.len]; exact hlt)⟩
          have hin := Lib.hid (HA2.out.each a (List.mem_of_getElem? ha))
          have hold : ∀ q u, a.cells[q]? = some u → wr.cell? ⟨ab, ao + i * 6 + q, none⟩ = some u := fun q u hu => (HS.out.below.cell (p := ⟨ab, _, none⟩) hab).trans (hcells i a ha q u hu)
          have e0 := hold 0 _ rfl
          have e1 := hold 1 _ rfl
          have e2 := hold 2 _ rfl
          have e3 := hold 3 _ rfl
          have e4 := hold 4 _ rfl
          have e5 := hold 5 _ rfl
          rw [Nat.add_zero] at e0
          obtain ⟨W0, hW0⟩ : ∃ W0, W0 = wr.alloc (.cells #[.int .i64 a.k, .int .i64 a.n, .int .i64 a.back, .slice a.A a.m a.c, .int .u8 (a.fill.toNat : Int), .slice a.A2 a.n2 a.c2] 58) := ⟨_, rfl⟩
          have hb0 : Below wr.heap.size wr W0 := by rw [hW0]; exact (Below.refl _ _).alloc (Nat.le_refl _) _
          have HB := Lib.hid (HS.out.later hb0)
          have ha1 : Hid (Blk W0 wr.heap.size 58 a.cells) := Lib.hid (by rw [hW0]; exact Blk.new wr 58 _)
          obtain ⟨bx, hbx⟩ : ∃ bx, bx = wr.heap.size := ⟨_, rfl⟩
          have HBX := Lib.hid hbx
          have HW0 := Lib.hid hW0
          have HSB : Hid (Sl W0 (fun b => b < w.heap.size) 1 (.slice a.A a.m a.c) a.m (B8 a.l)) := Lib.hid (hin.out.b.below (by omega) HB.out.below)
          have HSK : Hid (Sl W0 (fun b => b < w.heap.size) 1 (.slice a.A2 a.n2 a.c2) a.n2 (BL a.l2)) := Lib.hid (hin.out.p.below (by omega) HB.out.below)
          have HSR : Hid ((∀ b, F b → b < wr.heap.size) ∧ ∀ b, FJ b → b < wr.heap.size) := Lib.hid ⟨fun b hb => hs0.both.disk.lt hb, fun b hb => hs0.both.jr.lt' hb⟩
          have hsa := hs0.ja
          clear hold hcells ha hs0 hst hb0 hbx hW0 hsa
          go_upto_region 18 with fail
          rw [← HW0.out, ← HBX.out]
          have f1 := Blk.cell ha1.out 0
          have f2 := Blk.cell ha1.out 1
          have f3 := Blk.cell ha1.out 2
          have f4 := Blk.cell ha1.out 3
          have f5 := Blk.cell ha1.out 4
          have f6 := Blk.cell ha1.out 5
          simp only [WActD.cells, List.getElem?_cons_succ, List.getElem?_cons_zero] at f1 f2 f3 f4 f5 f6
          rw [HBX.out.symm] at ha1 f1 f2 f3 f4 f5 f6
          have hbxl : bx < W0.heap.size := Blk.lt ha1.out
          clear e0 e1 e2 e3 e4 e5
          go_wp2_with fail
          refine (wsector_any a.k a.n a.back a.A a.m a.c a.fill a.A2 a.n2 a.c2 a.l _ W0 HSB.out hin.out.m).mono ?_
          rintro e w3 ⟨v, rfl, ⟨A3, c3, hv⟩, ho3, hf3, hb3⟩
          obtain ⟨bs, hbs⟩ : ∃ bs, bs = secOf a.l a.fill false := ⟨_, rfl⟩
          have hbl : bs.length = 256 := by rw [hbs]; simp [secOf]; omega
          rw [← hbs] at hv ho3
          rw [hbl] at hv ho3
          subst hv
          have H3 := Lib.hid (HB.out.later hb3)
          have HOLD : Hid (∀ b, F b ∨ FJ b → b < W0.heap.size) := Lib.hid (fun b hb => hb.elim (fun hb => HB.out.both.disk.lt hb) (fun hb => HB.out.both.jr.lt' hb))
          have ha3 := ha1.out.below' hb3
          have HA3 := Lib.hid ha3
          have g1 := ha3.cell 0
          simp only [WActD.cells, List.getElem?_cons_zero] at g1
          have gl : bx < w3.heap.size := ha3.lt
          have HO3 := Lib.hid (And.intro ho3 (And.intro hf3 hb3))
          have HSK3 := Lib.hid (HSK.out.below (by omega) hb3)
          have HBL := Lib.hid hbl
          obtain ⟨c0, c1, c2, c3', cl⟩ := PairAt.cells H3.out.pair
          have hlen : J.put.length ≤ 30 := by have := H3.out.len; omega
          have HLN : Hid (J.at_ + J.put.length < 12 ∧ Q.at_ + Q.l.length < 12 ∧ Q.l.length ≤ 30) := Lib.hid (by have := H3.out.len; have := H3.out.ja; have := H3.out.qa; have := H3.out.both.jq.length; omega)
          have hre : R.ev.length = S.ev.length := H3.out.both.rg.rel.el
          have HRE := Lib.hid hre
          have HBXF : Hid (¬ (F bx ∨ FJ bx)) := Lib.hid (fun hf => by rw [HBX.out] at hf; have := hf.elim (fun hf => HSR.out.1 _ hf) (fun hf => HSR.out.2 _ hf); omega)
          clear f1 f2 f3 f4 f5 f6 hbxl ho3 hf3 hb3 ha1 hbs ha3 hbl HSB HSK HB HS hre
          by_cases hk1 : a.k = 1
          · have HK1 := Lib.hid hk1
            rw [HK1.out] at g1
            clear hk1
            go_wp2_with fail
            refine (commit_ok w3 F FJ j d 12 J S H3.out.both.jr H3.out.both.disk (fun b hb => (H3.out.fg b hb).2.1) (by omega) (by omega) H3.out.both.rg.good H3.out.keys hlen HLN.out.1 (by omega) (by omega)).mono ?_
            rintro e w4 ⟨rfl, hj4, hd4, hm4⟩
            have hq4 := H3.out.both.qr.mod hm4 (fun b hb hf => hf.elim (fun hf => (H3.out.fg b hf).2.2 hb) (fun hf => H3.out.jq b hf hb))
            have hr4 := H3.out.both.ref.mod hm4 (fun b hb hf => hf.elim (fun hf => (H3.out.fg b hf).1 hb) (fun hf => (H3.out.gj b hb).1 hf))
            have hp4 : PairAt w4 p d r j q := Blk.mod H3.out.pair hm4 (fun hf => (H3.out.low p (hf.elim .inl (fun h => .inr (.inr (.inl h))))).2 rfl)
            obtain ⟨u0, u1, u2, u3, ul⟩ := PairAt.cells hp4
            have H4 := Lib.hid (And.intro hj4 (And.intro hd4 (And.intro hm4 (And.intro hq4 hr4))))
            clear hj4 hd4 hm4 hq4 hr4 hp4 c0 c1 c2 c3' cl u0 u1 u2
            go_wp2_with fail
            refine (rcommit_ok w4 GQ G q r 12 Q S R J.put H4.out.2.2.2.1 H4.out.2.2.2.2 (fun b hb => (H3.out.gj b hb).2) H3.out.both.rg (by omega) H3.out.both.jq H3.out.keys H3.out.bytes HLN.out.2.2 HLN.out.2.1 (by have := HRE.out; omega)).mono ?_
            rintro e w5 ⟨rfl, hq5, hr5, hm5⟩
            have HZ : Hid (WPE w w5 p a0 s (i + 1)) := Lib.hid (H3.out.commit hs2 has H4.out.1 H4.out.2.1 H4.out.2.2.1 hq5 hr5 hm5 hse hsw)
            clear hq5 hr5 hm5 H4 u3 ul g1 gl
            go_wp2_with fail
            have hex := HZ.out
            obtain ⟨d', r', j', q', F', G', FJ', GQ', S', R', J', Q', hz, hze, hzw⟩ := hex
            have HZ' := Lib.hid hz
            have hzj : J'.put.length ≤ 1000000 := by have := hz.len; omega
            have hze' : S'.ev.length ≤ 1000000 := by omega
            clear hz
            refine (wsame_ok _ p d' r' j' q' 12 F' G' FJ' GQ' S' R' J' Q' HZ'.out.pair HZ'.out.both (by omega) (by omega) hze' hzj).mono ?_
            rintro e wz ⟨rfl, hbz⟩
            have HY := Lib.hid (HZ'.out.later hbz)
            obtain ⟨y0, y1, y2, y3, yl⟩ := PairAt.cells HY.out.pair
            have HMO := Lib.hid (HY.out.both.jr.most (by have := HY.out.js; omega) (by have := HY.out.js; omega))
            rw [HY.out.js, ← HTS.out] at HMO
            clear hbz HZ' y0 y1 y3
            go_wp2_with fail
            refine HMO.out.mono ?_
            rintro e w' ⟨rfl, rfl⟩
            have ett : (t != t) = false := bne_self_eq_false t
            go_wp2_with fail
            go_roundg (m' - (i + 1))
            case measure => omega
            case rel => exact ⟨i + 1, by go_num, by omega, rfl, Lib.hid ⟨d', r', j', q', F', G', FJ', GQ', S', R', J', Q', HY.out, by omega, by omega⟩⟩
          · by_cases hk2 : a.k = 2
            · have HK2 := Lib.hid hk2
              rw [HK2.out] at g1
              clear hk1 hk2
              go_wp2_with fail
              refine (abort_ok w3 FJ j d J H3.out.both.jr).mono ?_
              rintro e w4 ⟨rfl, hj4, hm4⟩
              have hq4 := H3.out.both.qr.mod hm4 (fun b hb hf => H3.out.jq b hf hb)
              have hp4 : PairAt w4 p d r j q := Blk.mod H3.out.pair hm4 (fun hf => (H3.out.low p (.inr (.inr (.inl hf)))).2 rfl)
              obtain ⟨u0, u1, u2, u3, ul⟩ := PairAt.cells hp4
              obtain ⟨hq5, hm5, zq, ql, vq, cq⟩ := hq4.nilL
              obtain ⟨w5, hw5⟩ : ∃ w5, w5 = w4.setCell ⟨q, 3, none⟩ (.slice none 0 0) := ⟨_, rfl⟩
              rw [← hw5] at hq5 hm5
              have HZ : Hid (WPE w w5 p a0 s (i + 1)) := Lib.hid (H3.out.abort hj4 hm4 hq5 hm5 hse hsw)
              have HW5 := Lib.hid hw5
              clear hj4 hm4 hq4 hp4 hq5 hm5 hw5 c0 c1 c2 c3' cl u0 u1 u2 g1 gl
              go_wp2_with fail
              rw [← HW5.out]
              have hex := HZ.out
              obtain ⟨d', r', j', q', F', G', FJ', GQ', S', R', J', Q', hz, hze, hzw⟩ := hex
              have HZ' := Lib.hid hz
              have hzj : J'.put.length ≤ 1000000 := by have := hz.len; omega
              have hze' : S'.ev.length ≤ 1000000 := by omega
              clear hz
              refine (wsame_ok _ p d' r' j' q' 12 F' G' FJ' GQ' S' R' J' Q' HZ'.out.pair HZ'.out.both (by omega) (by omega) hze' hzj).mono ?_
              rintro e wz ⟨rfl, hbz⟩
              have HY := Lib.hid (HZ'.out.later hbz)
              obtain ⟨y0, y1, y2, y3, yl⟩ := PairAt.cells HY.out.pair
              have HMO := Lib.hid (HY.out.both.jr.most (by have := HY.out.js; omega) (by have := HY.out.js; omega))
              rw [HY.out.js, ← HTS.out] at HMO
              clear hbz HZ' y0 y1 y3
              go_wp2_with fail
              refine HMO.out.mono ?_
              rintro e w' ⟨rfl, rfl⟩
              have ett : (t != t) = false := bne_self_eq_false t
              go_wp2_with fail
              go_roundg (m' - (i + 1))
              case measure => omega
              case rel => exact ⟨i + 1, by go_num, by omega, rfl, Lib.hid ⟨d', r', j', q', F', G', FJ', GQ', S', R', J', Q', HY.out, by omega, by omega⟩⟩
            · by_cases hk3 : a.k = 3
              · have HK3 := Lib.hid hk3
                have g2 := HA3.out.cell 1
                have g3 := HA3.out.cell 2
                have g4 := HA3.out.cell 3
                have g5 := HA3.out.cell 4
                have g6 := HA3.out.cell 5
                simp only [WActD.cells, List.getElem?_cons_succ, List.getElem?_cons_zero] at g2 g3 g4 g5 g6
                rw [HK3.out] at g1
                clear hk1 hk2 hk3
                go_wp2_with fail
                have hsk : Sl w3 (fun b => b < w3.heap.size) 1 (.slice a.A2 a.n2 a.c2) a.n2 (BL a.l2) := HSK3.out.mono (fun b _ hb => Nat.lt_of_lt_of_le hb H3.out.below.size) (by decide)
                refine (wloses_ok w3 p d r j q 12 a0 s F G FJ GQ S R J Q _ _ _ _ _ a.A2 a.n2 a.c2 a.l2 H3.out.pair H3.out.both (by omega) (by omega) hs2 hs31 has (by omega) (by omega) hsk hin.out.n2).mono ?_
                rintro e w4 ⟨rfl, d', r', j', q', F', G', FJ', GQ', S', R', hp', hB', he', hw', hm', hlow', h1', h2', h3'⟩
                have HZ : Hid (WPE w w4 p a0 s (i + 1)) := Lib.hid (H3.out.loses hp' hB' he' hw' hm' hlow' h1' h2' h3')
                clear hp' hB' he' hw' hm' hlow' h1' h2' h3' hsk c0 c1 c2 c3' cl g1 g2 g3 g4 g5 g6 gl
                clear d' r' j' q' F' G' FJ' GQ' S' R'
                go_wp2_with fail
                have hex := HZ.out
                obtain ⟨d', r', j', q', F', G', FJ', GQ', S', R', J', Q', hz, hze, hzw⟩ := hex
                have HZ' := Lib.hid hz
                have hzj : J'.put.length ≤ 1000000 := by have := hz.len; omega
                have hze' : S'.ev.length ≤ 1000000 := by omega
                clear hz
                refine (wsame_ok _ p d' r' j' q' 12 F' G' FJ' GQ' S' R' J' Q' HZ'.out.pair HZ'.out.both (by omega) (by omega) hze' hzj).mono ?_
                rintro e wz ⟨rfl, hbz⟩
                have HY := Lib.hid (HZ'.out.later hbz)
                obtain ⟨y0, y1, y2, y3, yl⟩ := PairAt.cells HY.out.pair
                have HMO := Lib.hid (HY.out.both.jr.most (by have := HY.out.js; omega) (by have := HY.out.js; omega))
                rw [HY.out.js, ← HTS.out] at HMO
                clear hbz HZ' y0 y1 y3
                go_wp2_with fail
                refine HMO.out.mono ?_
                rintro e w' ⟨rfl, rfl⟩
                have ett : (t != t) = false := bne_self_eq_false t
                go_wp2_with fail
                go_roundg (m' - (i + 1))
                case measure => omega
                case rel => exact ⟨i + 1, by go_num, by omega, rfl, Lib.hid ⟨d', r', j', q', F', G', FJ', GQ', S', R', J', Q', HY.out, by omega, by omega⟩⟩
              · by_cases hk4 : a.k = 4
                · have HK4 := Lib.hid hk4
                  rw [HK4.out] at g1
                  clear hk1 hk2 hk3 hk4
                  obtain ⟨wd, hwd⟩ : ∃ wd, wd = w3.drew := ⟨_, rfl⟩
                  have hbd : Below w3.heap.size w3 wd := by rw [hwd]; exact (Below.refl _ _).drew
                  have HD := Lib.hid (H3.out.later hbd)
                  have HAD := Lib.hid (HA3.out.below' hbd)
                  have HSD : Hid (Sl wd (fun b => (Value.slice A3 256 c3).ownBlock = some b ∧ 0 ≤ b) 1 (.slice A3 256 c3) 256 (B8 bs)) := Lib.hid (Sl.of_own (own_below HO3.out.1 hbd))
                  have HCD : Hid (wd.cell? ⟨p, 0, none⟩ = some (.pointer (some ⟨d, 0, none⟩)) ∧ wd.cell? ⟨p, 1, none⟩ = some (.pointer (some ⟨r, 0, none⟩)) ∧ wd.cell? ⟨bx, 1, none⟩ = some (.int .i64 a.n) ∧ p < wd.heap.size ∧ bx < wd.heap.size) := Lib.hid (by
                    obtain ⟨x0, x1, _, _, xl⟩ := PairAt.cells HD.out.pair
                    have hx := HA3.out.below' hbd
                    exact ⟨x0, x1, hx.cell 1, xl, hx.lt⟩)
                  have HNF : Hid (¬ F p ∧ ¬ F bx) := Lib.hid ⟨fun hf => (H3.out.low p (.inl hf)).2 rfl, fun hf => HBXF.out (.inl hf)⟩
                  clear hbd g1 c0 c1 c2 c3' cl gl
                  have g1 : w3.cell? ⟨bx, 0, none⟩ = some (.int .i64 4) := by rw [← HK4.out]; exact HA3.out.cell 0
                  have gl := HA3.out.lt
                  go_upto_region 37 with fail
                  try simp only [Act.put, List.setIfInBounds_toArray, List.set_cons_zero, List.set_cons_succ]
                  obtain ⟨Inv, hInv⟩ : ∃ Inv : Done → World → Prop, Inv = Chain2 7 15 (fun wI => wI = wd) (fun x wI => x = .int .i64 (wErr 12 256 a.n) ∧ DiskAt wI (fun b => F b ∨ (wd.heap.size ≤ b ∧ b < wI.heap.size)) d (wDsk S 12 256 a.n bs) ∧ Mod F wd wI) (fun x y wI => (x = .int .i64 (wErr 12 256 a.n) ∧ y = .int .i64 (wErr 12 256 a.n)) ∧ ∃ wm, DiskAt wm (fun b => F b ∨ (wd.heap.size ≤ b ∧ b < wm.heap.size)) d (wDsk S 12 256 a.n bs) ∧ Mod F wd wm ∧ RefAt wI (fun b => G b ∨ (wm.heap.size ≤ b ∧ b < wI.heap.size)) r (wRef R 12 256 a.n bs) ∧ Mod G wm wI) := ⟨_, rfl⟩
                  have HI := Lib.hid hInv
                  have hcz : Hid (∀ τ wI, Inv τ wI → τ 15 = none → wI.cell? ⟨p, 0, none⟩ = some (.pointer (some ⟨d, 0, none⟩)) ∧ wI.cell? ⟨p, 1, none⟩ = some (.pointer (some ⟨r, 0, none⟩)) ∧ wI.cell? ⟨bx, 1, none⟩ = some (.int .i64 a.n) ∧ p < wI.heap.size ∧ bx < wI.heap.size) := by
                    intro τ wI h h9
                    rw [hInv] at h
                    rcases h.upto1 h9 with rfl | ⟨x, _, _, hm⟩
                    · exact HCD.out
                    · obtain ⟨x0, x1, _, _, xl⟩ := PairAt.cells (Blk.mod HD.out.pair hm HNF.out.1)
                      have hx := HAD.out.mod hm HNF.out.2
                      exact ⟨x0, x1, hx.cell 1, xl, hx.lt⟩
                  have H00 : Hid (Inv Done.none w3.drew) := by rw [hInv]; exact Chain2.start hwd.symm
                  clear hInv hwd
                  refine wp_region_inv (by kernel_rfl) [⟨0, false, [], [7, 15]⟩, ⟨1, false, [], [7, 15]⟩, ⟨2, false, [], [7, 15]⟩, ⟨3, false, [], [7, 15]⟩, ⟨4, false, [], [7, 15]⟩, ⟨5, false, [], [7, 15]⟩, ⟨6, false, [], [7, 15]⟩, ⟨8, false, [], [15]⟩, ⟨9, false, [], [15]⟩, ⟨10, false, [], [15]⟩, ⟨11, false, [], [15]⟩, ⟨12, false, [], [15]⟩, ⟨13, false, [], [15]⟩, ⟨14, false, [], [15]⟩, ⟨7, true, [], [15]⟩, ⟨15, true, [7], []⟩, ⟨16, false, [7, 15], []⟩] (by kernel_rfl) Inv (fun i v => i = 7 ∨ i = 15 → ∃ n : Int, v = .int .i64 n) (fun _ => ⟨.int .i64 0, fun _ => ⟨0, rfl⟩⟩) H00.out ?_
                  iterate 14 (apply WpI.pure; (simp only [List.getElem?_toArray, List.getElem?_cons_succ, List.getElem?_cons_zero]; rfl); (intro τ wI hA hI; obtain ⟨f0, f1, f2, f3, f4⟩ := hcz.out τ wI hI (hA.2 15 (by decide)); go_simp; exact ⟨hI, Is.rfl'⟩); simp only [Act.put, List.setIfInBounds_toArray, List.set_cons_zero, List.set_cons_succ])
                  apply WpI.effect; (simp only [List.getElem?_toArray, List.getElem?_cons_succ, List.getElem?_cons_zero]; rfl)
                  · intro τ wI hA hn hI
                    have h0 := hI
                    rw [HI.out] at h0
                    have h15 : τ 15 = none := hA.2 15 (by decide)
                    have hK := h0.at0 hn h15
                    have HT := Lib.hid (And.intro True.intro (And.intro h15 (True.intro)))
                    clear hA hn hI h0 h15
                    subst hK
                    obtain ⟨x0, x1, x2, x3, x4⟩ := HCD.out
                    go_simp
                    refine (write_all wI F _ d 12 256 a.n S A3 c3 bs HD.out.both.disk (by omega) (by omega) HD.out.both.rg.good.ok.now HSD.out (fun b hb hg => by have := HOLD.out b (.inl hb); have := HO3.out.2.1 b hg.1; omega) (by omega) (by omega)).mono ?_
                    rintro e w' ⟨rfl, k1, k2⟩
                    refine ⟨_, rfl, ⟨_, rfl⟩, ?_⟩
                    rw [HI.out]
                    exact Chain2.put1 HT.out.2.1 (by decide) ⟨rfl, k1, k2⟩
                  intro v7 hv7
                  simp only [Act.put, List.setIfInBounds_toArray, List.set_cons_zero, List.set_cons_succ]
                  skip
                  apply WpI.effect; (simp only [List.getElem?_toArray, List.getElem?_cons_succ, List.getElem?_cons_zero]; rfl)
                  · intro τ wI hA hn hI
                    have h0 := hI
                    rw [HI.out] at h0
                    have h7 : τ 7 = some v7 := hA.1 7 (by decide)
                    have hK := h0.at1 h7 hn
                    have HT := Lib.hid (And.intro True.intro (And.intro h7 (True.intro)))
                    clear hA hn hI h0 h7
                    obtain ⟨hx, k1, k2⟩ := hK
                    have HK := Lib.hid (And.intro hx (And.intro k1 k2))
                    clear hx k1 k2
                    go_simp
                    refine (rwrite_all wI G _ r 12 256 a.n R A3 c3 bs (HD.out.both.ref.mod HK.out.2.2 (fun b hb hf => (HD.out.fg b hf).1 hb)) HD.out.both.rg.rel.fl (by have := HRE.out; omega) (HSD.out.mod (by decide) HK.out.2.2 (fun b hb hf => by have := HOLD.out b (.inl hf); have := HO3.out.2.1 b hb.1; omega))).mono ?_
                    rintro e w' ⟨rfl, k3, k4⟩
                    refine ⟨_, rfl, ⟨_, rfl⟩, ?_⟩
                    rw [HI.out]
                    exact Chain2.put2 HT.out.2.1 (by decide) ⟨⟨HK.out.1, rfl⟩, wI, HK.out.2.1, HK.out.2.2, k3, k4⟩
                  intro v15 hv15
                  simp only [Act.put, List.setIfInBounds_toArray, List.set_cons_zero, List.set_cons_succ]
                  obtain ⟨n7, rfl⟩ := hv7 (.inl rfl)
                  obtain ⟨n15, rfl⟩ := hv15 (.inr rfl)
                  (apply WpI.pure; (simp only [List.getElem?_toArray, List.getElem?_cons_succ, List.getElem?_cons_zero]; rfl); (intro τ wI hA hI; go_simp; exact ⟨hI, Is.rfl'⟩); simp only [Act.put, List.setIfInBounds_toArray, List.set_cons_zero, List.set_cons_succ])
                  refine WpI.done ?_
                  intro w5 hI
                  rw [HI.out] at hI
                  have hE := hI.end_ (by decide)
                  obtain ⟨⟨he7, he15⟩, wm, hd1, hm1, hr2, hm2⟩ := hE
                  obtain ⟨ev, hev⟩ : ∃ ev : Int, ev = wErr 12 256 a.n := ⟨_, rfl⟩
                  have e7 : n7 = ev := by rw [hev]; injection he7
                  have e15 : n15 = ev := by rw [hev]; injection he15
                  rw [e7, e15]
                  clear he7 he15 hev e7 e15
                  have HZ : Hid (WPE w w5 p a0 s (i + 1)) := Lib.hid (HD.out.wall a.n bs HBL.out hd1 hm1 hr2 hm2 hse hsw)
                  have ene : (ev != ev) = false := bne_self_eq_false _
                  have eeq : (ev == ev) = true := beq_self_eq_true _
                  clear hd1 hm1 hr2 hm2 hI hcz H00 HI HCD HSD HD HAD g1 gl
                  clear wm
                  go_wp2_with fail
                  have hex := HZ.out
                  obtain ⟨d', r', j', q', F', G', FJ', GQ', S', R', J', Q', hz, hze, hzw⟩ := hex
                  have HZ' := Lib.hid hz
                  have hzj : J'.put.length ≤ 1000000 := by have := hz.len; omega
                  have hze' : S'.ev.length ≤ 1000000 := by omega
                  clear hz
                  refine (wsame_ok _ p d' r' j' q' 12 F' G' FJ' GQ' S' R' J' Q' HZ'.out.pair HZ'.out.both (by omega) (by omega) hze' hzj).mono ?_
                  rintro e wz ⟨rfl, hbz⟩
                  have HY := Lib.hid (HZ'.out.later hbz)
                  obtain ⟨y0, y1, y2, y3, yl⟩ := PairAt.cells HY.out.pair
                  have HMO := Lib.hid (HY.out.both.jr.most (by have := HY.out.js; omega) (by have := HY.out.js; omega))
                  rw [HY.out.js, ← HTS.out] at HMO
                  clear hbz HZ' y0 y1 y3
                  go_wp2_with fail
                  refine HMO.out.mono ?_
                  rintro e w' ⟨rfl, rfl⟩
                  have ett : (t != t) = false := bne_self_eq_false t
                  go_wp2_with fail
                  go_roundg (m' - (i + 1))
                  case measure => omega
                  case rel => exact ⟨i + 1, by go_num, by omega, rfl, Lib.hid ⟨d', r', j', q', F', G', FJ', GQ', S', R', J', Q', HY.out, by omega, by omega⟩⟩
                · by_cases hk0 : a.k = 0
                  · have HK0 := Lib.hid hk0
                    clear hk1 hk2 hk3 hk4 hk0
                    rw [HK0.out] at g1
                    have hnil : (w3.alloc (.cells #[] 5)).ownsRow 0 5 1 (.slice (some ⟨w3.heap.size, 0, none⟩) 0 0) 0 [] := own_of_blk (cs := []) (Blk.new w3 5 #[]) 1 0 rfl (by simp [maxLen])
                    obtain ⟨A4, c4, w4, hap, o4, gr4, a4, _⟩ := run_app (P := Try.prog) (w3.alloc (.cells #[] 5)) 22 22 5 (.int .u8 0) 1 1 Try.underlying22 info5 rfl (by omega) (by omega) (.slice (some ⟨w3.heap.size, 0, none⟩) 0 0) 0 [] hnil _ (.slice A3 256 c3) 256 (B8 bs) (Sl.of_own (HO3.out.1.alloc (.cells #[] 5))) (B8_one _) (by omega)
                    simp only [Nat.zero_add, List.nil_append] at o4 gr4 a4 hap
                    have hb4 : Below w3.heap.size w3 w4 := ((Below.refl _ _).alloc (Nat.le_refl _) _).grown gr4 (by simp) (by simp [Value.ownBlock])
                    obtain ⟨bi, rfl⟩ : ∃ bi, A4 = some ⟨bi, 0, none⟩ := by
                      obtain ⟨_, h | ⟨g, cap, cur, hv, _⟩⟩ := o4
                      · obtain ⟨h, _⟩ := h; simp at h
                      · simp at hv; exact ⟨g, hv.1⟩
                    have HBI : Hid (w3.heap.size ≤ bi) := Lib.hid (by
                      rcases a4 with h | h <;> simp [Value.ownBlock] at h <;> omega)
                    have HO4 := Lib.hid o4
                    have HB4 := Lib.hid hb4
                    have HAP := Lib.hid hap
                    obtain ⟨wd, hwd⟩ : ∃ wd, wd = w4.drew := ⟨_, rfl⟩
                    have hbd : Below w4.heap.size w4 wd := by rw [hwd]; exact (Below.refl _ _).drew
                    have hbd3 : Below w3.heap.size w3 wd := hb4.trans (hbd.mono hb4.size)
                    have HD := Lib.hid (H3.out.later hbd3)
                    have HAD := Lib.hid (HA3.out.below' hbd3)
                    have HSD : Hid (Sl wd (fun b => (Value.slice A3 256 c3).ownBlock = some b ∧ 0 ≤ b) 1 (.slice A3 256 c3) 256 (B8 bs)) := Lib.hid (Sl.of_own (own_below HO3.out.1 hbd3))
                    have hoi := own_below o4 hbd
                    have HOI := Lib.hid hoi
                    have HSI : Hid (Sl wd (fun b => (Value.slice (some ⟨bi, 0, none⟩) 256 c4).ownBlock = some b ∧ 0 ≤ b) 1 (.slice (some ⟨bi, 0, none⟩) 256 c4) 256 (B8 bs)) := Lib.hid (Sl.of_own hoi)
                    have HIL : Hid (bi < wd.heap.size) := Lib.hid (own_lt' hoi rfl)
                    have HCD : Hid (wd.cell? ⟨p, 2, none⟩ = some (.pointer (some ⟨j, 0, none⟩)) ∧ wd.cell? ⟨p, 3, none⟩ = some (.pointer (some ⟨q, 0, none⟩)) ∧ wd.cell? ⟨bx, 1, none⟩ = some (.int .i64 a.n) ∧ p < wd.heap.size ∧ bx < wd.heap.size) := Lib.hid (by
                      obtain ⟨_, _, x2, x3, xl⟩ := PairAt.cells HD.out.pair
                      have hx := HA3.out.below' hbd3
                      exact ⟨x2, x3, hx.cell 1, xl, hx.lt⟩)
                    have HNF : Hid (¬ FJ p ∧ ¬ FJ bx) := Lib.hid ⟨fun hf => (H3.out.low p (.inr (.inr (.inl hf)))).2 rfl, fun hf => HBXF.out (.inr hf)⟩
                    have HNI : Hid (¬ (F bi ∨ G bi ∨ FJ bi ∨ GQ bi) ∧ p ≠ bi ∧ w.heap.size ≤ bi) := Lib.hid (by
                      have h3 := HBI.out
                      refine ⟨fun h => ?_, fun h => by have := (PairAt.cells H3.out.pair).2.2.2.2; omega, Nat.le_trans H3.out.below.size h3⟩
                      rcases h with h | h | h | h
                      · have := H3.out.both.disk.lt h; omega
                      · have := H3.out.both.ref.lt h; omega
                      · have := H3.out.both.jr.lt' h; omega
                      · have := H3.out.both.qr.lt h; omega)
                    have gl' := gl
                    clear hbd hbd3 hb4 o4 gr4 a4 hap hoi hnil c0 c1 c2 c3' cl gl'
                    go_upto_region 22 with (at_builtin; refine wpList_app_run _ rfl (.tmp 90) (.tmp 91) 22 22 rfl _ _ rfl rfl _ _ HAP.out ?_)
                    clear g1 gl
                    try simp only [Act.put, List.setIfInBounds_toArray, List.set_cons_zero, List.set_cons_succ]
                    obtain ⟨Inv, hInv⟩ : ∃ Inv : Done → World → Prop, Inv = Chain2 7 15 (fun wI => wI = wd) (fun x wI => x = .int .i64 (pErr J 12 256 a.n) ∧ JrAt wI (fun b => FJ b ∨ (wd.heap.size ≤ b ∧ b < wI.heap.size)) j d (pJr J 12 256 a.n bs) ∧ Mod FJ wd wI) (fun x y wI => (x = .int .i64 (pErr J 12 256 a.n) ∧ y = .int .i64 (qErr Q 12 a.n)) ∧ ∃ wm, JrAt wm (fun b => FJ b ∨ (wd.heap.size ≤ b ∧ b < wm.heap.size)) j d (pJr J 12 256 a.n bs) ∧ Mod FJ wd wm ∧ QAt wI (fun b => GQ b ∨ (wm.heap.size ≤ b ∧ b < wI.heap.size)) q r (qPut Q 12 a.n bs) ∧ Mod GQ wm wI) := ⟨_, rfl⟩
                    have HI := Lib.hid hInv
                    have hcz : Hid (∀ τ wI, Inv τ wI → τ 15 = none → wI.cell? ⟨p, 2, none⟩ = some (.pointer (some ⟨j, 0, none⟩)) ∧ wI.cell? ⟨p, 3, none⟩ = some (.pointer (some ⟨q, 0, none⟩)) ∧ wI.cell? ⟨bx, 1, none⟩ = some (.int .i64 a.n) ∧ p < wI.heap.size ∧ bx < wI.heap.size) := by
                      intro τ wI h h9
                      rw [hInv] at h
                      rcases h.upto1 h9 with rfl | ⟨x, _, _, hm⟩
                      · exact HCD.out
                      · obtain ⟨_, _, x2, x3, xl⟩ := PairAt.cells (Blk.mod HD.out.pair hm HNF.out.1)
                        have hx := HAD.out.mod hm HNF.out.2
                        exact ⟨x2, x3, hx.cell 1, xl, hx.lt⟩
                    have H00 : Hid (Inv Done.none w4.drew) := by rw [hInv]; exact Chain2.start hwd.symm
                    clear hInv hwd
                    refine wp_region_inv (by kernel_rfl) [⟨0, false, [], [7, 15]⟩, ⟨1, false, [], [7, 15]⟩, ⟨2, false, [], [7, 15]⟩, ⟨3, false, [], [7, 15]⟩, ⟨4, false, [], [7, 15]⟩, ⟨5, false, [], [7, 15]⟩, ⟨6, false, [], [7, 15]⟩, ⟨8, false, [], [15]⟩, ⟨9, false, [], [15]⟩, ⟨10, false, [], [15]⟩, ⟨11, false, [], [15]⟩, ⟨12, false, [], [15]⟩, ⟨13, false, [], [15]⟩, ⟨14, false, [], [15]⟩, ⟨7, true, [], [15]⟩, ⟨15, true, [7], []⟩, ⟨16, false, [7, 15], []⟩] (by kernel_rfl) Inv (fun i v => i = 7 ∨ i = 15 → ∃ n : Int, v = .int .i64 n) (fun _ => ⟨.int .i64 0, fun _ => ⟨0, rfl⟩⟩) H00.out ?_
                    iterate 14 (apply WpI.pure; (simp only [List.getElem?_toArray, List.getElem?_cons_succ, List.getElem?_cons_zero]; rfl); (intro τ wI hA hI; obtain ⟨f0, f1, f2, f3, f4⟩ := hcz.out τ wI hI (hA.2 15 (by decide)); go_simp; exact ⟨hI, Is.rfl'⟩); simp only [Act.put, List.setIfInBounds_toArray, List.set_cons_zero, List.set_cons_succ])
                    apply WpI.effect; (simp only [List.getElem?_toArray, List.getElem?_cons_succ, List.getElem?_cons_zero]; rfl)
                    · intro τ wI hA hn hI
                      have h0 := hI
                      rw [HI.out] at h0
                      have h15 : τ 15 = none := hA.2 15 (by decide)
                      have hK := h0.at0 hn h15
                      have HT := Lib.hid (And.intro True.intro (And.intro h15 (True.intro)))
                      clear hA hn hI h0 h15
                      subst hK
                      obtain ⟨x0, x1, x2, x3, x4⟩ := HCD.out
                      go_simp
                      refine (put_ok wI FJ F _ j d 12 256 a.n J S (some ⟨bi, 0, none⟩) c4 bs HD.out.both.jr HD.out.both.disk (by omega) HD.out.both.rg.good.ok.now (by have := HD.out.ja; omega) (by have := HD.out.js; omega) (by have := HD.out.js; omega) (by have := HD.out.len; omega) HSI.out hin.out.n.2).mono ?_
                      rintro e w' ⟨rfl, k1, k2⟩
                      refine ⟨_, rfl, ⟨_, rfl⟩, ?_⟩
                      rw [HI.out]
                      exact Chain2.put1 HT.out.2.1 (by decide) ⟨rfl, k1, k2⟩
                    intro v7 hv7
                    simp only [Act.put, List.setIfInBounds_toArray, List.set_cons_zero, List.set_cons_succ]
                    skip
                    apply WpI.effect; (simp only [List.getElem?_toArray, List.getElem?_cons_succ, List.getElem?_cons_zero]; rfl)
                    · intro τ wI hA hn hI
                      have h0 := hI
                      rw [HI.out] at h0
                      have h7 : τ 7 = some v7 := hA.1 7 (by decide)
                      have hK := h0.at1 h7 hn
                      have HT := Lib.hid (And.intro True.intro (And.intro h7 (True.intro)))
                      clear hA hn hI h0 h7
                      obtain ⟨hx, k1, k2⟩ := hK
                      have HK := Lib.hid (And.intro hx (And.intro k1 k2))
                      clear hx k1 k2
                      go_simp
                      refine (rput_ok wI GQ G _ q r 12 a.n Q R A3 c3 bs (HD.out.both.qr.mod HK.out.2.2 (fun b hb hf => HD.out.jq b hf hb)) (HD.out.both.ref.mod HK.out.2.2 (fun b hb hf => (HD.out.gj b hb).1 hf)) HD.out.both.rg.rel.fl (by omega) (by have := HD.out.qa; omega) (by have := HD.out.qs; omega) (by have := HD.out.qs; omega) (by have := HLN.out; omega) HD.out.both.jq.rise (HSD.out.mod (by decide) HK.out.2.2 (fun b hb hf => by have := HOLD.out b (.inr hf); have := HO3.out.2.1 b hb.1; omega))).mono ?_
                      rintro e w' ⟨rfl, k3, k4⟩
                      refine ⟨_, rfl, ⟨_, rfl⟩, ?_⟩
                      rw [HI.out]
                      exact Chain2.put2 HT.out.2.1 (by decide) ⟨⟨HK.out.1, rfl⟩, wI, HK.out.2.1, HK.out.2.2, k3, k4⟩
                    intro v15 hv15
                    simp only [Act.put, List.setIfInBounds_toArray, List.set_cons_zero, List.set_cons_succ]
                    obtain ⟨n7, rfl⟩ := hv7 (.inl rfl)
                    obtain ⟨n15, rfl⟩ := hv15 (.inr rfl)
                    (apply WpI.pure; (simp only [List.getElem?_toArray, List.getElem?_cons_succ, List.getElem?_cons_zero]; rfl); (intro τ wI hA hI; go_simp; exact ⟨hI, Is.rfl'⟩); simp only [Act.put, List.setIfInBounds_toArray, List.set_cons_zero, List.set_cons_succ])
                    refine WpI.done ?_
                    intro w5 hI
                    rw [HI.out] at hI
                    have hE := hI.end_ (by decide)
                    obtain ⟨⟨he7, he15⟩, wm, hj1, hm1, hq2, hm2⟩ := hE
                    have hea := errs_alike (z := a.n) HD.out.both.jq 12 HD.out.ja HD.out.js HD.out.qa HD.out.qs
                    obtain ⟨ev, hev⟩ : ∃ ev : Int, ev = qErr Q 12 a.n := ⟨_, rfl⟩
                    have e7 : n7 = ev := by rw [hev, ← hea]; injection he7
                    have e15 : n15 = ev := by rw [hev]; injection he15
                    rw [e7, e15]
                    have no1 : ∀ b, (Value.slice (some ⟨bi, 0, none⟩) 256 c4).ownBlock = some b → ¬ FJ b := by
                      intro b hb hf
                      have eb : bi = b := by simpa [Value.ownBlock] using hb
                      rw [← eb] at hf
                      exact HNI.out.1 (.inr (.inr (.inl hf)))
                    have no2 : ∀ b, (Value.slice (some ⟨bi, 0, none⟩) 256 c4).ownBlock = some b → ¬ GQ b := by
                      intro b hb hf
                      have eb : bi = b := by simpa [Value.ownBlock] using hb
                      rw [← eb] at hf
                      exact HNI.out.1 (.inr (.inr (.inr hf)))
                    have HO5 := Lib.hid (own_mod (own_mod HOI.out hm1 no1) hm2 no2)
                    clear no1 no2
                    obtain ⟨b0, hb0⟩ : ∃ b0, bs[0]? = some b0 := ⟨_, List.getElem?_eq_getElem (by rw [HBL.out]; decide)⟩
                    have cs := HO5.out.cells rfl 0 (.int .u8 (b0.toNat : Int)) (by simp only [B8, List.getElem?_map, hb0]; rfl)
                    rw [add_lit0, Nat.zero_add] at cs
                    have fz := HO5.out.frozenAt 0
                    have gbi := own_lt' HO5.out rfl
                    obtain ⟨w6, hw6⟩ : ∃ w6, w6 = w5.setCell ⟨bi, 0, none⟩ (.int .u8 (((b0.toNat : Int) + 1) % 256)) := ⟨_, rfl⟩
                    have hm3 : Mod (fun b => b = bi) w5 w6 := by rw [hw6]; exact (Mod.refl (fun b => b = bi) _).setCell (p := ⟨bi, 0, none⟩) (fun _ => rfl) _
                    have HZ : Hid (WPE w w6 p a0 s (i + 1)) := Lib.hid (HD.out.put hs2 a.n bs HBL.out hj1 hm1 hq2 hm2 hm3 HNI.out.1 HNI.out.2.1 HNI.out.2.2 HIL.out hse hsw)
                    have HW6 := Lib.hid hw6
                    have ene : (ev != ev) = false := bne_self_eq_false _
                    have eeq : (ev == ev) = true := beq_self_eq_true _
                    clear he7 he15 hev e7 e15 hea
                    clear hj1 hm1 hq2 hm2 hI hcz H00 HI HCD HSD HD HAD HOI HSI HO5 hm3 hb0 hw6
                    clear wm
                    go_wp2_with fail
                    rw [← HW6.out]
                    have hex := HZ.out
                    obtain ⟨d', r', j', q', F', G', FJ', GQ', S', R', J', Q', hz, hze, hzw⟩ := hex
                    have HZ' := Lib.hid hz
                    have hzj : J'.put.length ≤ 1000000 := by have := hz.len; omega
                    have hze' : S'.ev.length ≤ 1000000 := by omega
                    clear hz
                    refine (wsame_ok _ p d' r' j' q' 12 F' G' FJ' GQ' S' R' J' Q' HZ'.out.pair HZ'.out.both (by omega) (by omega) hze' hzj).mono ?_
                    rintro e wz ⟨rfl, hbz⟩
                    have HY := Lib.hid (HZ'.out.later hbz)
                    obtain ⟨y0, y1, y2, y3, yl⟩ := PairAt.cells HY.out.pair
                    have HMO := Lib.hid (HY.out.both.jr.most (by have := HY.out.js; omega) (by have := HY.out.js; omega))
                    rw [HY.out.js, ← HTS.out] at HMO
                    clear hbz HZ' y0 y1 y3
                    go_wp2_with fail
                    refine HMO.out.mono ?_
                    rintro e w' ⟨rfl, rfl⟩
                    have ett : (t != t) = false := bne_self_eq_false t
                    go_wp2_with fail
                    go_roundg (m' - (i + 1))
                    case measure => omega
                    case rel => exact ⟨i + 1, by go_num, by omega, rfl, Lib.hid ⟨d', r', j', q', F', G', FJ', GQ', S', R', J', Q', HY.out, by omega, by omega⟩⟩
                  · have n0 : (a.k == 0) = false := by simpa using hk0
                    have n1 : (a.k == 1) = false := by simpa using hk1
                    have n2 : (a.k == 2) = false := by simpa using hk2
                    have n3 : (a.k == 3) = false := by simpa using hk3
                    have n4 : (a.k == 4) = false := by simpa using hk4
                    have HZ : Hid (WPE w w3 p a0 s (i + 1)) := Lib.hid (WPE.more ⟨d, r, j, q, F, G, FJ, GQ, S, R, J, Q, H3.out, hse, hsw⟩ (by omega))
                    clear hk0 hk1 hk2 hk3 hk4
                    go_wp2_with fail
                    have hex := HZ.out
                    obtain ⟨d', r', j', q', F', G', FJ', GQ', S', R', J', Q', hz, hze, hzw⟩ := hex
                    have HZ' := Lib.hid hz
                    have hzj : J'.put.length ≤ 1000000 := by have := hz.len; omega
                    have hze' : S'.ev.length ≤ 1000000 := by omega
                    clear hz
                    refine (wsame_ok _ p d' r' j' q' 12 F' G' FJ' GQ' S' R' J' Q' HZ'.out.pair HZ'.out.both (by omega) (by omega) hze' hzj).mono ?_
                    rintro e wz ⟨rfl, hbz⟩
                    have HY := Lib.hid (HZ'.out.later hbz)
                    obtain ⟨y0, y1, y2, y3, yl⟩ := PairAt.cells HY.out.pair
                    have HMO := Lib.hid (HY.out.both.jr.most (by have := HY.out.js; omega) (by have := HY.out.js; omega))
                    rw [HY.out.js, ← HTS.out] at HMO
                    clear hbz HZ' y0 y1 y3
                    go_wp2_with fail
                    refine HMO.out.mono ?_
                    rintro e w' ⟨rfl, rfl⟩
                    have ett : (t != t) = false := bne_self_eq_false t
                    go_wp2_with fail
                    go_roundg (m' - (i + 1))
                    case measure => omega
                    case rel => exact ⟨i + 1, by go_num, by omega, rfl, Lib.hid ⟨d', r', j', q', F', G', FJ', GQ', S', R', J', Q', HY.out, by omega, by omega⟩⟩
        · obtain rfl : i = m' := by omega
          have HBe := Lib.hid HS.out.below
          go_wp2_with fail
          go_ret
          exact ⟨rfl, HBe.out⟩
end Go.Proofs.Ytjdobjcbmmdjeaa
