/- WalShows: the walk. -/
import Derived.Test.YtjdobjcbmmdjeaaW13
namespace Go.Proofs.Ytjdobjcbmmdjeaa
open Go.RowKit

/-- an Act of stillroomlaw04 -/
structure WActD where
  (k n back : Int)
  (A : Option Addr)
  (m c : Nat)
  l : List UInt8
  fill : UInt8
  (A2 : Option Addr)
  (n2 c2 : Nat)
  l2 : List Bool
def WActD.cells (a : WActD) : List Value := [.int .i64 a.k, .int .i64 a.n, .int .i64 a.back, .slice a.A a.m a.c, .int .u8 (a.fill.toNat : Int), .slice a.A2 a.n2 a.c2]
structure WActD.In (a : WActD) (w : World) : Prop where
  k : -9223372036854775808 ≤ a.k ∧ a.k ≤ 9223372036854775807
  n : -9223372036854775808 ≤ a.n ∧ a.n ≤ 9223372036854775807
  back : -9223372036854775808 ≤ a.back ∧ a.back ≤ 9223372036854775807
  b : Sl w (fun b => b < w.heap.size) 1 (.slice a.A a.m a.c) a.m (B8 a.l)
  m : a.m ≤ 140737488351232
  p : Sl w (fun b => b < w.heap.size) 1 (.slice a.A2 a.n2 a.c2) a.n2 (BL a.l2)
  n2 : a.n2 ≤ 140737488351232
structure WActsIn (w : World) (A : Option Addr) (m c : Nat) (acts : List WActD) : Prop where
  len : acts.length = m
  cap : m ≤ c
  max : m ≤ 140737488351232
  at_ : 0 < m → ∃ b o, A = some ⟨b, o, none⟩ ∧ b < w.heap.size ∧ ∀ i a, acts[i]? = some a → ∀ q u, a.cells[q]? = some u → w.cell? ⟨b, o + i * 6 + q, none⟩ = some u
  each : ∀ a ∈ acts, a.In w
theorem WActsIn.take {w : World} {A : Option Addr} {m c : Nat} {acts : List WActD} (h : WActsIn w A m c acts) (k : Nat) (hk : k ≤ m) : WActsIn w A k c (acts.take k) := by
  refine ⟨by rw [List.length_take, h.len]; omega, by have := h.cap; omega, by have := h.max; omega, fun h0 => ?_, fun a ha => h.each a (List.mem_of_mem_take ha)⟩
  obtain ⟨b, o, e, hb, hc⟩ := h.at_ (by omega)
  refine ⟨b, o, e, hb, fun i a hi => hc i a ?_⟩
  rw [List.getElem?_take] at hi
  split at hi
  · exact hi
  · cases hi

theorem zeros_no : (sec (zeros (12 * 256)) 0).take 8 ≠ magic := by
  rw [show sec (zeros (12 * 256)) 0 = zeros 256 from by
    unfold sec zeros
    rw [List.drop_replicate, List.take_replicate, show min 256 (12 * 256 - 0 * 256) = 256 from by omega]]
  unfold zeros
  rw [List.take_replicate]
  decide

set_option maxRecDepth 100000 in
set_option maxHeartbeats 4000000 in
theorem walShows_walk (A : Option Addr) (m c : Nat) (acts : List WActD) (w : World) (hA : WActsIn w A m c acts) :
    Calls Try.prog 8 #[.slice A m c] w fun e w' => e = .returned (.bool true) ∧ Below w.heap.size w w' := by
  have HA := Lib.hid hA
  have hm : m ≤ 140737488351232 := hA.max
  have hmc : m ≤ c := hA.cap
  clear hA
  go_enter Try.func8, Try.ntmps8
  go_wp2_with fail
  refine (new_ok 12 w (by omega) (by omega)).mono ?_
  rintro e w1 ⟨d, rfl, hd, hb⟩
  have HD := Lib.hid (And.intro hd hb)
  clear hd hb
  go_wp2_with fail
  refine (open_new w1 _ d 12 0 4 _ HD.out.1 (by omega) (by omega) (zeros_length _) (by omega) (by omega) (by omega) zeros_no).mono ?_
  rintro e w2 ⟨j, rfl, hj, hb2⟩
  have hst : ∃ F FJ S, ShSt w w2 d j F FJ S ⟨0, 4, []⟩ ∧ S.ev.length = 0 := by
    have hsz := HD.out.2.size
    refine ⟨_, _, _, ⟨HD.out.2.trans (hb2.mono hsz), HD.out.1.below hb2, hj, Dsk.good_new 12, by simp, rfl, rfl, Nat.zero_le _, by simp, fun n b h => by simp [mget] at h, fun b hb => hb.1, fun b hb => by omega, fun b hb e => by omega⟩, rfl⟩
  have HST := Lib.hid hst
  clear hst hj hb2 HD
  go_wp2_with fail
  obtain ⟨F0, FJ0, S0, hst0, hev0⟩ := HST.out
  have HST0 := Lib.hid hst0
  clear HST hst0
  refine (shown_ok w2 F0 d S0 HST0.out.disk HST0.out.good.ok.now).mono ?_
  rintro e w3 ⟨rfl, hb3⟩
  have HST := Lib.hid (HST0.out.later hb3)
  clear hb3 HST0
  go_upto_if 46 with fail
  go_cut [0] (fun v wx => wx = w3 ∧ v = .slice A (min m 60) c)
  case first =>
    go_wp2_with fail
    all_goals go_meet
    · exact ⟨rfl, by rw [show min m 60 = 60 from by omega]⟩
    · exact ⟨rfl, by rw [show min m 60 = m from by omega]⟩
  case rest =>
    obtain ⟨rfl, rfl⟩ := hcut
    obtain ⟨m', hm'⟩ : ∃ m', m' = min m 60 := ⟨_, rfl⟩
    rw [← hm']
    have HA2 := Lib.hid (HA.out.take m' (by omega))
    have hm60 : m' ≤ 60 := by omega
    have hmc2 : m' ≤ c := by omega
    clear HA hm' hm hmc
    go_wp2_with fail
    go_loopg [6, 7] m' (fun kq sv iv wr => ∃ (i : Nat) (F FJ : Nat → Prop) (S : Dsk) (J : Jr), iv = .int .i64 i ∧ i ≤ m' ∧ kq = m' - i ∧ sv = .string (shw S.now 8) ∧ Hid (ShSt w wr d j F FJ S J) ∧ S.ev.length ≤ 12 * i)
    case atStart => exact ⟨0, F0, FJ0, S0, _, rfl, by omega, rfl, rfl, HST, by omega⟩
    case round =>
      clear HST hev0
      obtain ⟨i, F, FJ, S, J, rfl, hi, rfl, rfl, hst, hev⟩ := hrel
      by_cases hlt : i < m'
      · obtain ⟨ab, ao, hA, hab, hcells⟩ := HA2.out.at_ (by omega)
        subst hA
        obtain ⟨a, ha⟩ : ∃ a, (acts.take m')[i]? = some a := ⟨_, List.getElem?_eq_getElem (by rw [HA2.out.len]; exact hlt)⟩
        have hin := Lib.hid (HA2.out.each a (List.mem_of_getElem? ha))
        have hold : ∀ q u, a.cells[q]? = some u → wr.cell? ⟨ab, ao + i * 6 + q, none⟩ = some u := fun q u hu => (hst.out.below.cell (p := ⟨ab, _, none⟩) hab).trans (hcells i a ha q u hu)
        have e0 := hold 0 _ rfl
        have e1 := hold 1 _ rfl
        have e2 := hold 2 _ rfl
        have e3 := hold 3 _ rfl
        have e4 := hold 4 _ rfl
        have e5 := hold 5 _ rfl
        rw [Nat.add_zero] at e0
        clear hold hcells ha
        have HB := Lib.hid (hst.out.later ((Below.refl _ _).alloc (Nat.le_refl _) (.cells #[.int .i64 a.k, .int .i64 a.n, .int .i64 a.back, .slice a.A a.m a.c, .int .u8 (a.fill.toNat : Int), .slice a.A2 a.n2 a.c2] 58)))
        have ha1 : Hid (Blk (wr.alloc (.cells #[.int .i64 a.k, .int .i64 a.n, .int .i64 a.back, .slice a.A a.m a.c, .int .u8 (a.fill.toNat : Int), .slice a.A2 a.n2 a.c2] 58)) wr.heap.size 58 a.cells) := Blk.new wr 58 _
        have hib : i ≤ 60 := by omega
        obtain ⟨q8, hq8⟩ : ∃ q8, q8 = (a.n % 8).toNat := ⟨_, rfl⟩
        have hq : q8 < 8 := by omega
        have hand : bits .and .i64 a.n 7 = (q8 : Int) := by rw [hq8]; exact and7 a.n
        obtain ⟨n8, hn8⟩ : ∃ n8, n8 = 4 + q8 := ⟨_, rfl⟩
        have hadd : IntKind.i64.wrap (4 + (q8 : Int)) = (n8 : Int) := by rw [IntKind.wrap_i64]; omega
        have hn4 : 4 ≤ n8 := by omega
        have hn12 : n8 < 12 := by omega
        clear hq8 hn8 hst
        go_upto_region 15 with fail
        go_wp2_with fail
        refine (wsector_any a.k a.n a.back a.A a.m a.c a.fill a.A2 a.n2 a.c2 a.l _ _ (hin.out.b.agree (fun q hq => HB.out.below.block q hq)) hin.out.m).mono ?_
        rintro e w3 ⟨v, rfl, ⟨A3, c3, hv⟩, ho3, hf3, hb3⟩
        obtain ⟨bs, hbs⟩ : ∃ bs, bs = secOf a.l a.fill false := ⟨_, rfl⟩
        have hbl : bs.length = 256 := by rw [hbs]; simp [secOf]; omega
        rw [← hbs] at hv ho3
        rw [hbl] at hv ho3
        subst hv
        have H3 := Lib.hid (HB.out.later hb3)
        have HA3 := Lib.hid (ha1.out.below' hb3)
        have HO3 := Lib.hid (And.intro ho3 hbl)
        have HFr : Hid (∀ b, (Value.slice A3 256 c3).ownBlock = some b → ¬ FJ b) := Lib.hid (fun b hb e => by have h1 := hf3 b hb; have h2 := HB.out.jr.lt e; omega)
        clear hb3 ho3 hf3 HB ha1 hbs hbl e0 e1 e2 e3 e4 e5
        go_wp2_with fail
        refine (pending_ok w3 FJ j d J H3.out.jr (by have := H3.out.len; omega)).mono ?_
        rintro e w4 ⟨A4, c4, rfl, o4, f4, b4⟩
        have H4 := Lib.hid (H3.out.later b4)
        have HA4 := Lib.hid (HA3.out.below' b4)
        have HO4 := Lib.hid (own_below HO3.out.1 b4)
        have c0 : w4.cell? ⟨wr.heap.size, 0, none⟩ = some (.int .i64 a.k) := by rw [HA4.out.cell]; rfl
        have hl4 : wr.heap.size < w4.heap.size := HA4.out.lt
        obtain ⟨pl, hpl⟩ : ∃ pl, pl = J.put.length := ⟨_, rfl⟩
        have hpl3 : pl ≤ 3 := by rw [hpl]; exact H4.out.len
        rw [← hpl]
        have HPL := Lib.hid hpl
        have hnow : Hid (S.now.length = 12 * 256) := Lib.hid H4.out.good.ok.now
        have hJs : Hid (J.at_ ≤ 1000000 ∧ J.sec ≤ 1000000 ∧ 1 ≤ J.sec ∧ J.put.length ≤ 1000000) := Lib.hid ⟨by rw [H4.out.at0]; omega, by rw [H4.out.sec4]; omega, by rw [H4.out.sec4]; omega, by have := H4.out.len; omega⟩
        clear o4 f4 b4 hpl H3 HA3
        by_cases hk0 : a.k = 0
        · have HK := Lib.hid hk0
          rw [HK.out] at c0
          clear hk0
          go_upto_region 25 with fail
          go_wp2_with fail
          refine (put_ok w4 FJ F _ j d 12 256 (n8 : Int) J S A3 c3 bs H4.out.jr H4.out.disk (by omega) hnow.out hJs.out.1 hJs.out.2.1 hJs.out.2.2.1 hJs.out.2.2.2 (Sl.of_own HO4.out) (by omega)).mono ?_
          rintro e w5 ⟨rfl, hj5, hm5⟩
          have H5 := Lib.hid (H4.out.put (n8 : Int) ⟨by omega, by omega⟩ bs HO3.out.2 hj5 hm5)
          have HO5 : Hid (w5.ownsRow 0 5 1 (.slice A3 256 c3) 256 (B8 bs)) := by
            exact Lib.hid (own_mod HO4.out hm5 HFr.out)
          have hpE : Hid ((pErr J 12 256 (n8 : Int) = 0 ∧ mget (pJr J 12 256 (n8 : Int) bs).put (n8 : Int) = some bs) ∨ (pErr J 12 256 (n8 : Int) = 3 ∧ 3 ≤ pl)) := by
            have ho : pOk J 12 256 (n8 : Int) = true := by
              unfold pOk
              rw [H4.out.at0, H4.out.sec4, Int.toNat_natCast, outK_in hn4 hn12]
              simp
            by_cases hx : ((mget J.put (n8 : Int)).isNone && decide (J.sec - 1 ≤ J.put.length)) = true
            · have e : pErr J 12 256 (n8 : Int) = 3 := by simp only [pErr, ho, hx]; simp
              simp only [Bool.and_eq_true, decide_eq_true_eq] at hx
              have := H4.out.sec4
              exact Lib.hid (.inr ⟨e, by have := HPL.out; omega⟩)
            · have e : pErr J 12 256 (n8 : Int) = 0 := by simp only [pErr, ho, hx]; simp
              refine Lib.hid (.inl ⟨e, ?_⟩)
              simp only [pJr, e, if_true]
              rw [mget_mput, if_pos rfl]
          obtain ⟨pe, hpe⟩ : ∃ pe, pe = pErr J 12 256 (n8 : Int) := ⟨_, rfl⟩
          obtain ⟨J5, hJ5⟩ : ∃ J5, J5 = pJr J 12 256 (n8 : Int) bs := ⟨_, rfl⟩
          rw [← hpe] at hpE ⊢
          rw [← hJ5] at hpE H5
          clear hj5 hm5 hpe hJ5 c0 hl4
          go_wp2_with fail
          refine (get_ok w5 _ F j d 12 (n8 : Int) J5 S H5.out.jr H5.out.disk (by omega) (by omega) H5.out.good.ok.now).mono ?_
          rintro e w6 ⟨A6, m6, c6, rfl, _, o6, f6, b6⟩
          have H6 := Lib.hid (H5.out.later b6)
          have hcv6 := run_str w6 _ 22 5 9 A6 m6 c6 _ Try.underlying22 Try.underlying5 Try.underlying9 (Sl.of_own o6)
          have hcv3 := run_str w6 _ 22 5 9 A3 256 c3 bs Try.underlying22 Try.underlying5 Try.underlying9 (Sl.of_own (own_below HO5.out b6))
          rcases hpE.out with ⟨rfl, hg⟩ | ⟨rfl, h3⟩
          · have es : J5.shows S 12 (n8 : Int) = (bs, 0) := by simp [Jr.shows, hg]
            rw [es] at hcv6 ⊢
            clear o6 f6 b6 hpE hg es
            go_wp2_with fail
            refine (shown_ok w6 F d S H6.out.disk H6.out.good.ok.now).mono ?_
            rintro e w7 ⟨rfl, hb7⟩
            have HZ := Lib.hid (H6.out.later hb7)
            clear hb7 hcv6 hcv3
            go_wp2_with fail
            go_roundg (m' - (i + 1))
            case measure => omega
            case rel => exact ⟨i + 1, _, _, _, _, by go_num, by omega, rfl, rfl, HZ, by omega⟩
          · have hfull : (3 : Int) ≤ (pl : Int) := by omega
            have hfd : decide (3 ≤ pl) = true := by simp [h3]
            clear o6 f6 b6 hpE h3
            go_wp2_with fail
            refine (shown_ok w6 F d S H6.out.disk H6.out.good.ok.now).mono ?_
            rintro e w7 ⟨rfl, hb7⟩
            have HZ := Lib.hid (H6.out.later hb7)
            clear hb7 hcv6 hcv3
            go_wp2_with fail
            go_roundg (m' - (i + 1))
            case measure => omega
            case rel => exact ⟨i + 1, _, _, _, _, by go_num, by omega, rfl, rfl, HZ, by omega⟩
        · have hb0 : (a.k == 0) = false := by simp [hk0]
          by_cases hk1 : a.k = 1
          · have HK := Lib.hid hk1
            rw [HK.out] at c0 hb0
            clear hk0 hk1
            go_upto_region 30 with fail
            go_wp2_with fail
            refine (pending_ok w4 FJ j d J H4.out.jr (by have := H4.out.len; omega)).mono ?_
            rintro e w5 ⟨A5, c5, rfl, o5, f5, b5⟩
            have H5 := Lib.hid (H4.out.later b5)
            rw [← HPL.out]
            clear o5 f5 b5 c0 hl4
            go_wp2_with fail
            refine (H5.out.disk.events).mono ?_
            rintro e w' ⟨rfl, rfl⟩
            go_wp2_with fail
            refine (commit_ok w5 F FJ j d 12 J S H5.out.jr H5.out.disk H5.out.dis (by omega) (by omega) H5.out.good (fun n hn => by have := H5.out.keys n hn; exact ⟨by omega, this.2⟩) (by have := H5.out.len; omega) (by rw [H5.out.at0]; have := H5.out.len; omega) (by omega) (by have := H5.out.wrote; omega)).mono ?_
            rintro e w6 ⟨rfl, hj6, hd6, hm6⟩
            obtain ⟨hs6, he6⟩ := H5.out.commit hj6 hd6 hm6
            rw [← HPL.out] at he6
            obtain ⟨S6, F6, J6, hs6, he6, hp6⟩ : ∃ S6 F6 J6, ShSt w w6 d j F6 FJ S6 J6 ∧ S6.ev.length = S.ev.length + (if pl = 0 then 0 else 2 * pl + 6) ∧ J6.put.length = 0 := ⟨_, _, _, hs6, he6, rfl⟩
            have H6 := Lib.hid hs6
            have HP6 := Lib.hid hp6
            clear hj6 hd6 hm6 hs6 hp6
            go_wp2_with fail
            refine (pending_ok w6 FJ j d J6 H6.out.jr (by have := HP6.out; omega)).mono ?_
            rintro e w7 ⟨A7, c7, rfl, o7, f7, b7⟩
            rw [HP6.out]
            have H7 := Lib.hid (H6.out.later b7)
            have HEV : Hid (Calls Try.prog 17 #[.pointer (some ⟨d, 0, none⟩)] w7 fun e w' => e = .returned (.int .i64 (S6.ev.length : Int)) ∧ w7 = w') := Lib.hid H7.out.disk.events
            clear o7 f7 b7 H6 HP6
            obtain ⟨ev, hevv⟩ : ∃ ev, ev = S.ev.length := ⟨_, rfl⟩
            obtain ⟨ev6, hevv6⟩ : ∃ ev6, ev6 = S6.ev.length := ⟨_, rfl⟩
            rw [← hevv] at he6 ⊢
            rw [← hevv6] at he6 HEV
            have hbound : ev6 ≤ 12 * (i + 1) := by rw [he6, hevv]; split <;> omega
            have HB6 : Hid (S6.ev.length ≤ 12 * (i + 1)) := Lib.hid (by rw [← hevv6]; exact hbound)
            have hevs : ev ≤ 720 := by rw [hevv]; omega
            clear hevv hevv6 hev
            by_cases hp0 : pl = 0
            · subst hp0
              rw [if_pos rfl, Nat.add_zero] at he6
              subst he6
              go_wp2_with fail
              refine (HEV.out).mono ?_
              rintro e w' ⟨rfl, rfl⟩
              go_wp2_with fail
              refine (shown_ok w7 F6 d S6 H7.out.disk H7.out.good.ok.now).mono ?_
              rintro e w8 ⟨rfl, hb8⟩
              have HZ := Lib.hid (H7.out.later hb8)
              clear hb8
              have hevf := HB6.out
              clear HB6 hbound
              go_wp2_with fail
              go_roundg (m' - (i + 1))
              case measure => omega
              case rel => exact ⟨i + 1, _, _, _, _, by go_num, by omega, rfl, rfl, HZ, by omega⟩
            · rw [if_neg hp0] at he6
              have hp0b : ((pl : Int) == 0) = false := by simp; omega
              have hpos : (0 : Int) < (pl : Int) := by omega
              have w1 : IntKind.i64.wrap (2 * (pl : Int)) = 2 * (pl : Int) := by rw [IntKind.wrap_i64]; omega
              have w2 : IntKind.i64.wrap ((ev : Int) + 2 * (pl : Int)) = (ev : Int) + 2 * (pl : Int) := by rw [IntKind.wrap_i64]; omega
              have w3 : IntKind.i64.wrap ((ev : Int) + 2 * (pl : Int) + 6) = (ev6 : Int) := by rw [IntKind.wrap_i64]; omega
              have HE6 := Lib.hid he6
              clear he6
              go_wp2_with fail
              refine (HEV.out).mono ?_
              rintro e w' ⟨rfl, rfl⟩
              go_wp2_with fail
              refine (shown_ok w7 F6 d S6 H7.out.disk H7.out.good.ok.now).mono ?_
              rintro e w8 ⟨rfl, hb8⟩
              have HZ := Lib.hid (H7.out.later hb8)
              clear hb8
              have hevf := HB6.out
              clear HB6 hbound
              go_wp2_with fail
              go_roundg (m' - (i + 1))
              case measure => omega
              case rel => exact ⟨i + 1, _, _, _, _, by go_num, by omega, rfl, rfl, HZ, by omega⟩
          · have hb1 : (a.k == 1) = false := by simp [hk1]
            go_upto_region 18 with fail
            go_wp2_with fail
            refine (abort_ok w4 FJ j d J H4.out.jr).mono ?_
            rintro e w5 ⟨rfl, hj5, hm5⟩
            obtain ⟨J5, hs5, hp5⟩ : ∃ J5, ShSt w w5 d j F FJ S J5 ∧ J5.put = [] := ⟨_, H4.out.abort hj5 hm5, rfl⟩
            have H5 := Lib.hid hs5
            have HP5 := Lib.hid hp5
            clear hj5 hm5 hs5 hp5 c0 hl4 hk0 hk1
            go_wp2_with fail
            refine (pending_ok w5 FJ j d J5 H5.out.jr (by rw [HP5.out]; simp)).mono ?_
            rintro e w6 ⟨A6, c6, rfl, o6, f6, b6⟩
            rw [show J5.put.length = 0 from by rw [HP5.out]; rfl]
            have H6 := Lib.hid (H5.out.later b6)
            clear o6 f6 b6 H5
            go_wp2_with fail
            refine (shown_ok w6 F d S H6.out.disk H6.out.good.ok.now).mono ?_
            rintro e w7 ⟨rfl, hb7⟩
            have H7 := Lib.hid (H6.out.later hb7)
            clear hb7 H6
            go_wp2_with fail
            refine (read_ok w7 F d 12 n8 S H7.out.disk (by omega) hnow.out hn12).mono ?_
            rintro e w8 ⟨A8, c8, rfl, hN⟩
            obtain ⟨o8, f8, b8⟩ := hN.out (sec_length hnow.out hn12)
            have H8 := Lib.hid (H7.out.later b8)
            have HO8 := Lib.hid o8
            clear hN o8 f8 b8 H7
            go_wp2_with fail
            refine (get_ok w8 FJ F j d 12 (n8 : Int) J5 S H8.out.jr H8.out.disk (by omega) (by omega) hnow.out).mono ?_
            rintro e w9 ⟨A9, m9, c9, rfl, _, o9, f9, b9⟩
            have HZ := Lib.hid (H8.out.later b9)
            have es : J5.shows S 12 (n8 : Int) = (sec S.now n8, 0) := by
              simp only [Jr.shows, HP5.out, mget, shown]
              rw [if_pos ⟨by omega, by omega⟩]
              rfl
            have hcv9 := run_str w9 _ 22 5 9 A9 m9 c9 _ Try.underlying22 Try.underlying5 Try.underlying9 (Sl.of_own o9)
            rw [es] at hcv9 ⊢
            have hcv8 := run_str w9 _ 22 5 9 A8 256 c8 (sec S.now n8) Try.underlying22 Try.underlying5 Try.underlying9 (Sl.of_own (own_below HO8.out b9))
            clear o9 f9 b9 es
            go_wp2_with fail
            go_roundg (m' - (i + 1))
            case measure => omega
            case rel => exact ⟨i + 1, _, _, _, _, by go_num, by omega, rfl, rfl, HZ, by omega⟩
      · obtain rfl : i = m' := by omega
        have HBe := Lib.hid hst.out.below
        clear hst
        go_wp2_with fail
        go_ret
        exact ⟨rfl, HBe.out⟩
end Go.Proofs.Ytjdobjcbmmdjeaa
