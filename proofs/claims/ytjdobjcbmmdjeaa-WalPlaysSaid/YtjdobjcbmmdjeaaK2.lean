import Derived.Test.YtjdobjcbmmdjeaaK1
import Derived.Test.YtjdobjcbmmdjeaaRl
namespace Go.Proofs.Ytjdobjcbmmdjeaa
open Go.RowKit

theorem info9 : (Try.prog.info? 9).map (fun i => (i.zero, i.size, i.bytes)) = some (some (.string ⟨#[]⟩), 1, 16) := by kernel_rfl
theorem info3 : (Try.prog.info? 3).map (fun i => (i.zero, i.size, i.bytes)) = some (some (.int .i64 0), 1, 8) := by kernel_rfl

theorem at_fold (a : Int) (j : Nat) (hj : j ≤ 100) : ∃ n : Nat, n ≤ j ∧ (wrap64 (wrap64 (a.tmod ((j : Int) + 1) + j) + 1)).tmod ((j : Int) + 1) = (n : Int) := by
  have h1 := Int.lt_tmod_of_pos a (show 0 < (j : Int) + 1 by omega)
  have h2 := Int.tmod_lt_of_pos a (show 0 < (j : Int) + 1 by omega)
  have wi : ∀ z : Int, -9223372036854775808 ≤ z ∧ z ≤ 9223372036854775807 → wrap64 z = z := by intro z h; unfold wrap64; omega
  rw [wi (a.tmod ((j : Int) + 1) + j) (by omega), wi _ (by omega), Int.tmod_eq_emod_of_nonneg (by omega)]
  have h3 := Int.emod_nonneg (a.tmod ((j : Int) + 1) + j + 1) (show (j : Int) + 1 ≠ 0 by omega)
  have h4 := Int.emod_lt_of_pos (a.tmod ((j : Int) + 1) + j + 1) (show 0 < (j : Int) + 1 by omega)
  exact ⟨((a.tmod ((j : Int) + 1) + j + 1) % ((j : Int) + 1)).toNat, by omega, by omega⟩

set_option maxRecDepth 100000 in
set_option maxHeartbeats 4000000 in
theorem blockKeeps_walk (A : Option Addr) (m c : Nat) (acts : List ActD) (at_ : Int) (Ak : Option Addr) (mk ck : Nat) (keep : List Bool) (w : World) (hA : ActsIn w A m c acts)
    (hkeep : Sl w (fun b => b < w.heap.size) 1 (.slice Ak mk ck) mk (BL keep)) (hmk : mk ≤ 140737488351232) :
    Calls Try.prog 5 #[.slice A m c, .int .i64 at_, .slice Ak mk ck] w fun e w' => e = .returned (.bool true) ∧ Below w.heap.size w w' := by
  have HA := Lib.hid hA
  have HK := Lib.hid hkeep
  have hm : m ≤ 140737488351232 := hA.max
  have hmc : m ≤ c := hA.cap
  clear hA hkeep
  go_enter Try.func5, Try.ntmps5
  go_wp2_with fail
  refine (new_ok 4 w (by omega) (by omega)).mono ?_
  rintro e w1 ⟨d, rfl, hd, hb⟩
  have HD := Lib.hid (And.intro hd hb)
  clear hd hb
  go_upto_if 38 with fail
  go_cut [0] (fun v wx => wx = w1 ∧ v = .slice A (min m 100) c)
  case first =>
    go_wp2_with fail
    all_goals go_meet
    · exact ⟨rfl, by rw [show min m 100 = 100 from by omega]⟩
    · exact ⟨rfl, by rw [show min m 100 = m from by omega]⟩
  case rest =>
    obtain ⟨rfl, rfl⟩ := hcut
    obtain ⟨m', hm'⟩ : ∃ m', m' = min m 100 := ⟨_, rfl⟩
    rw [← hm']
    have HA2 := Lib.hid (HA.out.take m' (by omega))
    have hm100 : m' ≤ 100 := by omega
    have hmc2 : m' ≤ c := by omega
    have HM' := Lib.hid hm'
    clear HA hm' hm hmc
    obtain ⟨wz, hz1, hz2, hg, hl2⟩ := zero_run wc
    have HD2 := Lib.hid (And.intro (HD.out.1.mod (Mod.of_below (F := fun _ => False) ⟨hg.os, hg.tape, hg.output, hg.size, fun i hi => hg.block i hi (by simp)⟩) (fun _ _ h => h)) (HD.out.2.trans ⟨hg.os, hg.tape, hg.output, hg.size, fun i hi => hg.block i (by have := HD.out.2.size; omega) (by simp)⟩))
    have hzl := Lib.hid hl2
    have HW := Lib.hid HD.out.2.size
    clear hg hl2 HD
    have HST0 := Lib.hid (kp_start (w := w) (F := fun b => w.heap.size ≤ b ∧ b < wc.heap.size) HD2.out.2 HD2.out.1 (fun b hb => ⟨hb.1, Nat.lt_trans hb.2 hzl.out⟩))
    clear HD2
    go_wp2_with fail
    obtain ⟨wl, hwl⟩ : ∃ wl : World, wl = ((((((wz.alloc (.cells #[bstr (zeros 256)] 9)).alloc (.cells #[bstr (zeros 256)] 9)).alloc (.cells #[bstr (zeros 256)] 9)).alloc (.cells #[bstr (zeros 256)] 9)).alloc
      (.cells #[.slice (some ⟨wz.heap.size, 0, none⟩) 1 1, .slice (some ⟨wz.heap.size + 1, 0, none⟩) 1 1, .slice (some ⟨wz.heap.size + 1 + 1, 0, none⟩) 1 1, .slice (some ⟨wz.heap.size + 1 + 1 + 1, 0, none⟩) 1 1] 51)).alloc
      (.cells #[.int .i64 0, .int .i64 0, .int .i64 0, .int .i64 0] 3)) := ⟨_, rfl⟩
    rw [← hwl] at HST0 ⊢
    clear hwl
    obtain ⟨g12, hg12⟩ : ∃ g, g = wz.heap.size + 1 + 1 + 1 + 1 + 1 := ⟨_, rfl⟩
    rw [← hg12] at HST0 ⊢
    clear hg12
    obtain ⟨g10, hg10⟩ : ∃ g, g = wz.heap.size + 1 + 1 + 1 + 1 := ⟨_, rfl⟩
    rw [← hg10] at HST0 ⊢
    clear hg10
    obtain ⟨F0, W0, R0, S0, HST, HP0⟩ : ∃ F W R S, Hid (KpSt w wl g10 g12 d F S W R (fun _ => 0) (.slice none 0 0) []) ∧ Hid (S.Tells W ∧ safeOk S (fun _ => 0) ∧ sureOk S [] ∧ S.ev.length = 0) :=
      ⟨_, _, _, _, HST0, ⟨tells_new, fun k hk => rfl, ⟨rfl, fun i k hi hk => absurd hi (Nat.not_lt_zero _)⟩, rfl⟩⟩
    clear HST0 hz1 hz2
    go_loopg [11, 13] m' (fun kq sv i wr => ∃ (j : Nat) (F : Nat → Prop) (S : Dsk) (W : Nat → List (List UInt8)) (R : Nat → Value) (sf : Nat → Nat) (sl : List Nat) (As : Option Addr) (cs : Nat), i = .int .i64 j ∧ j ≤ m' ∧ kq = m' - j ∧ sv = .slice As (4 * j) cs ∧
      Hid (KpSt w wr g10 g12 d F S W R sf sv sl) ∧ Hid (S.Tells W ∧ safeOk S sf ∧ sureOk S sl ∧ S.ev.length = j))
    case atStart => exact ⟨0, _, _, _, _, _, [], none, 0, rfl, by omega, rfl, rfl, HST, HP0⟩
    case round =>
      obtain ⟨j, F, S, W, R, sf, sl, As, cs, rfl, hj, rfl, rfl, hst, hp⟩ := hrel
      by_cases hlt : j < m'
      · obtain ⟨ab, ao, hA, hab, hcells⟩ := HA2.out.at_ (by omega)
        subst hA
        obtain ⟨a, ha⟩ : ∃ a, (acts.take m')[j]? = some a := ⟨_, List.getElem?_eq_getElem (by rw [HA2.out.len]; exact hlt)⟩
        have hin := Lib.hid (HA2.out.each a (List.mem_of_getElem? ha))
        have hold : ∀ q u, a.cells[q]? = some u → wr.cell? ⟨ab, ao + j * 6 + q, none⟩ = some u := fun q u hu => (hst.out.below.cell (p := ⟨ab, _, none⟩) hab).trans (hcells j a ha q u hu)
        have e0 := hold 0 _ rfl
        have e1 := hold 1 _ rfl
        have e2 := hold 2 _ rfl
        have e3 := hold 3 _ rfl
        have e4 := hold 4 _ rfl
        have e5 := hold 5 _ rfl
        rw [Nat.add_zero] at e0
        clear hold hcells ha
        obtain ⟨oA, hoA⟩ : ∃ o : Obj, o = .cells #[.int .i64 a.k, .int .i64 a.n, .slice a.A a.m a.c, .int .u8 (a.fill.toNat : Int), .bool a.odd, .slice a.A2 a.n2 a.c2] 25 := ⟨_, rfl⟩
        have HN : Hid (∀ o, KpSt w (wr.alloc o) g10 g12 d F S W R sf (.slice As (4 * j) cs) sl) := fun o => hst.out.later ((Below.refl _ _).alloc (Nat.le_refl _) o)
        have HB := Lib.hid (HN.out oA)
        have ha1 : Hid (Blk (wr.alloc oA) wr.heap.size 25 a.cells) := by
          have := Blk.new wr 25 #[.int .i64 a.k, .int .i64 a.n, .slice a.A a.m a.c, .int .u8 (a.fill.toNat : Int), .bool a.odd, .slice a.A2 a.n2 a.c2]
          rw [← hoA] at this
          exact this
        have hjb : j ≤ 100 := by omega
        have HF : Hid (∀ b, F b → b < wr.heap.size) := fun b hb => hst.out.lt hb
        have hwl : w.heap.size ≤ wr.heap.size := hst.out.below.size
        have HG : Hid (S.Good 4) := hst.out.good
        have hsl : Hid (sl.length = 4 * j) := by have := hp.out.2.2.1.1; rw [hp.out.2.2.2] at this; exact this
        have hq4 : IntKind.i64.wrap ((j : Int) + 1) = ((j + 1 : Nat) : Int) := by rw [IntKind.wrap_i64]; omega
        rw [hoA] at HB ha1
        clear hoA hst
        by_cases hk : a.k = 1
        · have HK1 := Lib.hid hk
          clear hk
          rw [HK1.out] at e0
          have c0 : (wr.alloc (.cells #[.int .i64 a.k, .int .i64 a.n, .slice a.A a.m a.c, .int .u8 (a.fill.toNat : Int), .bool a.odd, .slice a.A2 a.n2 a.c2] 25)).cell? ⟨wr.heap.size, 0, none⟩ = some (.int .i64 1) := by rw [Blk.cell ha1.out]; simp [ActD.cells, HK1.out]
          rw [HK1.out] at HB ha1 c0
          go_wp2_with fail
          refine (flush_ok _ F d 4 S HB.out.disk (by omega) (by omega) HB.out.good.ok.now (by have := hp.out.2.2.2; omega)).mono ?_
          rintro e w3 ⟨rfl, hd3, hm3⟩
          have H3 := Lib.hid (HB.out.flush hm3 hd3)
          clear hd3 hm3 HB HN ha1 c0 e0 e1 e2 e3 e4 e5
          go_wp2_with fail
          obtain ⟨F3, HF3, H3⟩ : ∃ F3, True ∧ Hid (KpSt w w3 g10 g12 d F3 (flushD S) W R sf (.slice As (4 * j) cs) sl) := ⟨_, trivial, H3⟩
          have hpl : Hid (∀ k, k < 4 → (W k).length = cnt S.ev k S.ev.length + 1 ∧ (W k).length ≤ 101) := fun k hk => ⟨(hp.out.1 k hk).1, by have := (hp.out.1.len k hk).2; have := hp.out.2.2.2; omega⟩
          go_loopg [15] 4 (fun kq i wq => ∃ (k : Nat) (sq : Nat → Nat), i = .int .i64 k ∧ k ≤ 4 ∧ kq = 4 - k ∧ Hid (KpSt w wq g10 g12 d F3 (flushD S) W R sq (.slice As (4 * j) cs) sl) ∧ Hid (∀ i, i < k → sq i = cnt S.ev i S.ev.length))
          case atStart => exact ⟨0, _, rfl, by omega, rfl, H3, fun i hi => absurd hi (Nat.not_lt_zero _)⟩
          case round =>
            obtain ⟨k, sq, rfl, hk4, rfl, hq, hs⟩ := hrel
            by_cases hlt4 : k < 4
            · obtain ⟨ln, hln⟩ : ∃ ln, ln = (W k).length := ⟨_, rfl⟩
              obtain ⟨Ar, cr, hRk, _, _⟩ := own_form (hq.out.rows k hlt4)
              rw [← hln] at hRk
              have c10 : wr.cell? ⟨g10, k, none⟩ = some (.slice Ar ln cr) := by rw [hq.out.b10.cell, ← hRk]; exact R4_get _ _ hlt4
              have c12 : wr.cell? ⟨g12, k, none⟩ = some (.int .i64 (sq k : Int)) := by rw [hq.out.b12.cell]; exact R4_get _ _ hlt4
              have f12 := hq.out.b12.frozen k
              obtain ⟨nk, hnk⟩ : ∃ nk, nk = ln - 1 := ⟨_, rfl⟩
              have hlk := hpl.out k hlt4
              rw [← hln] at hlk
              have hsub : IntKind.i64.wrap ((ln : Int) - 1) = (nk : Int) := by rw [IntKind.wrap_i64]; omega
              have hnc0 : nk = cnt S.ev k S.ev.length := by omega
              have hnc := Lib.hid hnc0
              clear hnc0
              have hln2 := Lib.hid hln
              clear hln hnk hRk hlk
              go_wp2_with fail
              go_roundg (4 - (k + 1))
              case measure => omega
              case rel =>
                refine ⟨k + 1, _, by go_num, by omega, rfl, Lib.hid (hq.out.safe k hlt4 nk), fun i hi => ?_⟩
                split
                · rename_i e; rw [e]; exact hnc.out
                · exact hs.out i (by omega)
            · obtain rfl : k = 4 := by omega
              have hso := Lib.hid (safe_flush hs.out)
              have hown : Hid (wr.ownsRow 0 3 1 (.slice As (4 * j) cs) (4 * j) (I64s sl)) := by have := hq.out.sure; rw [hsl.out] at this; exact this
              have hsrc : Hid (Sl wr (fun i => i = g12) 1 (.slice (some ⟨g12, 0, none⟩) 4 4) 4 (I4 sq)) := Sl.of_blk hq.out.b12 1 4 4 rfl (Nat.le_refl _)
              go_wp2_with (at_builtin
                           refine wpList_app _ rfl (.tmp 104) (.tmp 105) 53 rfl 3 (.int .i64 0) 1 8 Try.underlying53 info3 rfl (by omega) (by omega) (.slice As (4 * j) cs) (4 * j) (I64s sl) rfl
                             hown.out (fun i => i = g12) (.slice (some ⟨g12, 0, none⟩) 4 4) 4 (I4 sq) rfl hsrc.out (by intro u hu; simp only [I4, R4, List.mem_cons, List.not_mem_nil, or_false] at hu; rcases hu with rfl | rfl | rfl | rfl <;> rfl) (by omega) ?_
                           intro As' cs' w4 ho4 hg4 hat4 _
                           have h4 := Lib.hid (hq.out.app hg4 (by rw [hsl.out]; exact ho4) hat4)
                           clear ho4 hg4 hat4)
              go_roundg (m' - (j + 1))
              case measure => omega
              case rel =>
                refine ⟨j + 1, _, _, _, _, _, _, As', cs', by go_num, by omega, rfl, by rw [Nat.mul_add], h4, hp.out.1.flush, hso.out, sure_app (x := (0, 2, 0)) rfl hp.out.2.2.1 hso.out, ?_⟩
                have := hp.out.2.2.2
                simp [flushD, this]
        · have hk1 : (a.k == 1) = false := by simp [hk]
          have f4 := Blk.frozen ha1.out 4
          have c0 := Blk.cell ha1.out 0
          have c1 := Blk.cell ha1.out 1
          have c2 := Blk.cell ha1.out 2
          have c3 := Blk.cell ha1.out 3
          have c4 := Blk.cell ha1.out 4
          have c5 := Blk.cell ha1.out 5
          simp only [ActD.cells, List.getElem?_cons_succ, List.getElem?_cons_zero] at c0 c1 c2 c3 c4 c5
          have h2s := Lib.hid (HN.out (.cells #[.int .i64 a.k, .int .i64 a.n, .slice a.A a.m a.c, .int .u8 (a.fill.toNat : Int), .bool false, .slice a.A2 a.n2 a.c2] 25))
          have ha2s : Hid (Blk (wr.alloc (.cells #[.int .i64 a.k, .int .i64 a.n, .slice a.A a.m a.c, .int .u8 (a.fill.toNat : Int), .bool false, .slice a.A2 a.n2 a.c2] 25)) wr.heap.size 25 _) := Blk.new wr 25 #[.int .i64 a.k, .int .i64 a.n, .slice a.A a.m a.c, .int .u8 (a.fill.toNat : Int), .bool false, .slice a.A2 a.n2 a.c2]
          clear HB ha1 HN
          go_wp2_with fail
          refine (sector_any a.k a.n a.A a.m a.c a.fill false a.A2 a.n2 a.c2 a.l _ _ (hin.out.b.agree (fun i hi => h2s.out.below.block i hi)) hin.out.m).mono ?_
          rintro e w3 ⟨v, rfl, ⟨A3, cc3, hv⟩, ho3, hf3, hb3⟩
          have hlen : Hid ((secOf a.l a.fill false).length = 256) := by
            have : (secOf a.l a.fill false).length = 256 := by simp [secOf]; omega
            exact this
          rw [hlen.out] at hv ho3
          subst hv
          have h3 := Lib.hid (h2s.out.later hb3)
          have ha3 := Lib.hid (Blk.below' ha2s.out hb3)
          have H3 := Lib.hid (And.intro ho3 hf3)
          have hsz2 := Blk.lt ha2s.out
          have hF3 : Hid (∀ b, F b → ¬ ((Value.slice A3 256 cc3).ownBlock = some b)) := by
            intro b hb e
            have := HF.out b hb
            have := hf3 b e
            omega
          have d1 : w3.cell? ⟨wr.heap.size, 1, none⟩ = some (.int .i64 a.n) := by rw [Blk.cell ha3.out]; rfl
          have hlt3 : wr.heap.size < w3.heap.size := Blk.lt ha3.out
          clear hb3 ho3 hf3 h2s ha2s hsz2 c0 c1 c2 c3 c4 c5 f4 e0 e1 e2 e3 e4 e5
          obtain ⟨n3, hn3⟩ : ∃ n3, n3 = (a.n % 4).toNat := ⟨_, rfl⟩
          have hn4 : n3 < 4 := by omega
          have hand : bits .and .i64 a.n 3 = (n3 : Int) := by rw [hn3]; exact and3 a.n
          clear hn3
          go_wp2_with fail
          obtain ⟨bs, hbs⟩ : ∃ bs, bs = secOf a.l a.fill false := ⟨_, rfl⟩
          rw [← hbs] at H3 hlen
          clear hbs
          refine (write_ok w3 F _ d 4 n3 S A3 cc3 bs h3.out.disk (by omega) (by omega) h3.out.good.ok.now hn4 (Sl.of_own H3.out.1) (fun b hb e => hF3.out b hb e.1) (by have := hp.out.2.2.2; omega) (by have := h3.out.wrote; have := hp.out.2.2.2; omega)).mono ?_
          rintro e w4 ⟨rfl, hd4, hm4⟩
          have ho4 := own_mod H3.out.1 hm4 (fun b hb e => hF3.out b e hb)
          have hconv := run_str w4.drew _ 22 5 9 A3 256 cc3 bs Try.underlying22 Try.underlying5 Try.underlying9 (Sl.of_own (w := w4.drew) ho4)
          have HC := Lib.hid hconv
          have H4 := Lib.hid (h3.out.write hm4 n3 hn4 _ hlen.out hd4).drew
          clear hd4 hm4 ho4 h3 ha3 H3 d1 hlt3 hconv
          obtain ⟨F4, HF4, H4⟩ : ∃ F4, True ∧ Hid (KpSt w w4.drew g10 g12 d F4 (writeD S n3 bs) W R sf (.slice As (4 * j) cs) sl) := ⟨_, trivial, H4⟩
          obtain ⟨ln, hln⟩ : ∃ ln, ln = (W n3).length := ⟨_, rfl⟩
          obtain ⟨Ar, cr, hRk, _, _⟩ := own_form (H4.out.rows n3 hn4)
          rw [← hln] at hRk
          have HRk := Lib.hid hRk
          have hl101 : ln ≤ 101 := by rw [hln]; have := (hp.out.1.len n3 hn4).2; have := hp.out.2.2.2; omega
          have HLN := Lib.hid hln
          clear hln hRk
          have hn4i : (n3 : Int) < 4 := by omega
          go_upto_region 26 with fail
          try simp only [Act.put, List.setIfInBounds_toArray, List.set_cons_zero, List.set_cons_succ]
          have HW1 := Lib.hid (H4.out.later ((Below.refl _ _).alloc (Nat.le_refl _) (.cells #[bstr bs] 9)))
          obtain ⟨Inv, hInv⟩ : ∃ Inv : Done → World → Prop, Inv = fun τ wI => (τ 8 = none → wI = w4.drew) ∧ (∀ v, τ 8 = some v → v = .slice (some ⟨w4.drew.heap.size, 0, none⟩) 1 1 ∧ (τ 9 = none → wI = w4.drew.alloc (.cells #[bstr bs] 9))) ∧
            (∀ v, τ 9 = some v → (∃ A' c', v = .slice A' (ln + 1) c') ∧ (τ 11 = none → Mod (fun b => (R n3).ownBlock = some b) (w4.drew.alloc (.cells #[bstr bs] 9)) wI ∧ wI.ownsRow 0 9 1 v (ln + 1) (strs (W n3) ++ [bstr bs]) ∧ (v.ownBlock = (R n3).ownBlock ∨ v.ownBlock = some (w4.drew.alloc (.cells #[bstr bs] 9)).heap.size)) ∧
              (τ 11 ≠ none → KpSt w wI g10 g12 d F4 (writeD S n3 bs) (upd W n3 bs) (fun k => if k = n3 then v else R k) sf (.slice As (4 * j) cs) sl)) := ⟨_, rfl⟩
          have HI := Lib.hid hInv
          have HJ0 : Hid (Inv Done.none w4.drew) := by rw [hInv]; exact ⟨fun _ => rfl, fun v h => (by cases h), fun v h => (by cases h)⟩
          have HL : Hid (∀ τ wI, Inv τ wI → τ 9 = none → wI.cell? ⟨g10, n3, none⟩ = some (.slice Ar ln cr)) := by
            intro τ wI h h9
            rw [hInv] at h
            have key : wI = w4.drew ∨ wI = w4.drew.alloc (.cells #[bstr bs] 9) := by
              cases h8 : τ 8 with
              | none => exact .inl (h.1 h8)
              | some v => exact .inr ((h.2.1 v h8).2 h9)
            rcases key with rfl | rfl
            · rw [H4.out.b10.cell, ← HRk.out]; exact R4_get _ _ hn4
            · rw [HW1.out.b10.cell, ← HRk.out]; exact R4_get _ _ hn4
          have HC8 : Hid (∀ τ wI, Inv τ wI → τ 8 = none → Sem.run Try.prog (convert 22 9 (.slice A3 256 cc3)) wI = .ok (bstr bs) wI) := by
            intro τ wI h h8
            rw [hInv] at h
            rw [h.1 h8]
            exact HC.out
          clear hInv
          refine wp_region_inv (by kernel_rfl) [⟨0, false, [], [11]⟩, ⟨1, false, [], [11]⟩, ⟨2, false, [], [9, 11]⟩, ⟨3, false, [], [9, 11]⟩, ⟨4, false, [], [9, 11]⟩, ⟨5, false, [], [9, 11]⟩, ⟨6, false, [], [8, 9, 11]⟩, ⟨7, false, [], [8, 9, 11]⟩, ⟨8, true, [], [9, 11]⟩, ⟨9, true, [8], [11]⟩, ⟨10, false, [8, 9], [11]⟩, ⟨11, true, [8, 9], []⟩] (by kernel_rfl) Inv (fun _ _ => True) (fun _ => ⟨undef, trivial⟩) HJ0.out ?_
          iterate 5 (apply WpI.pure; (simp only [List.getElem?_toArray, List.getElem?_cons_succ, List.getElem?_cons_zero]; rfl); (intro τ wI hA hI; go_simp; exact ⟨hI, Is.rfl'⟩); simp only [Act.put, List.setIfInBounds_toArray, List.set_cons_zero, List.set_cons_succ])
          (apply WpI.pure; (simp only [List.getElem?_toArray, List.getElem?_cons_succ, List.getElem?_cons_zero]; rfl); (intro τ wI hA hI; have hc := HL.out τ wI hI (hA.2 9 (by decide)); go_simp; exact ⟨hI, Is.rfl'⟩); simp only [Act.put, List.setIfInBounds_toArray, List.set_cons_zero, List.set_cons_succ])
          (apply WpI.pure; (simp only [List.getElem?_toArray, List.getElem?_cons_succ, List.getElem?_cons_zero]; rfl); (intro τ wI hA hI; go_simp; exact ⟨hI, Is.rfl'⟩); simp only [Act.put, List.setIfInBounds_toArray, List.set_cons_zero, List.set_cons_succ])
          (apply WpI.pure; (simp only [List.getElem?_toArray, List.getElem?_cons_succ, List.getElem?_cons_zero]; rfl); (intro τ wI hA hI; have hc := HC8.out τ wI hI (hA.2 8 (by decide)); go_simp; exact ⟨hI, Is.rfl'⟩); simp only [Act.put, List.setIfInBounds_toArray, List.set_cons_zero, List.set_cons_succ])
          apply WpI.effect; (simp only [List.getElem?_toArray, List.getElem?_cons_succ, List.getElem?_cons_zero]; rfl)
          · intro τ wI hA hn hI
            have hI2 := hI
            rw [HI.out] at hI2
            obtain ⟨k1, k2, k3⟩ := hI2
            have hwI := k1 hn
            subst hwI
            have h9 : τ 9 = none := hA.2 9 (by decide)
            clear k1 k2 k3
            go_simp
            show Inv (τ.put 8 (.slice (some ⟨w4.drew.heap.size, 0, none⟩) 1 1)) (w4.drew.alloc (.cells #[bstr bs] 9))
            rw [HI.out]
            refine ⟨fun h => (by rw [Done.put_same] at h; cases h), fun v h => ?_, fun v h => ?_⟩
            · rw [Done.put_same] at h
              injection h with h
              exact ⟨h.symm, fun _ => rfl⟩
            · rw [Done.put_other _ _ _ _ (by decide), h9] at h
              cases h
          intro v8 hv8
          clear hv8
          simp only [Act.put, List.setIfInBounds_toArray, List.set_cons_zero, List.set_cons_succ]
          apply WpI.effect; (simp only [List.getElem?_toArray, List.getElem?_cons_succ, List.getElem?_cons_zero]; rfl)
          · intro τ wI hA hn hI
            have hI2 := hI
            rw [HI.out] at hI2
            obtain ⟨k1, k2, k3⟩ := hI2
            have h8 : τ 8 = some v8 := hA.1 8 (by decide)
            obtain ⟨rfl, k2⟩ := k2 v8 h8
            have hwI := k2 hn
            subst hwI
            have h11 : τ 11 = none := hA.2 11 (by decide)
            refine runs_app rfl (.tmp 98) (.tmp 101) 51 rfl 9 (.string ⟨#[]⟩) 1 16 Try.underlying51 info9 rfl (by omega) (by omega) (.slice Ar ln cr) ln (strs (W n3)) rfl ?_ (fun i => i = w4.drew.heap.size) _ 1 [bstr bs] rfl (Sl.one _ _ _) (by simp [Value.oneCell']) (by omega) ?_
            · have := HW1.out.rows n3 hn4
              rw [HRk.out, ← HLN.out] at this
              exact this
            · intro A' c' w' o1 o2 o3 _
              refine ⟨trivial, ?_⟩
              rw [HI.out]
              refine ⟨fun h => (by rw [Done.put_other _ _ _ _ (by decide)] at h; rw [h8] at h; cases h), fun v h => ?_, fun v h => ?_⟩
              · rw [Done.put_other _ _ _ _ (by decide), h8] at h
                injection h with h
                exact ⟨h.symm, fun h => by rw [Done.put_same] at h; cases h⟩
              · rw [Done.put_same] at h
                injection h with h
                subst h
                refine ⟨⟨_, _, rfl⟩, fun _ => ⟨?_, o1, ?_⟩, fun h => ?_⟩
                · rw [HRk.out]; exact o2
                · rw [HRk.out]; exact o3
                · rw [Done.put_other _ _ _ _ (by decide)] at h; exact absurd h11 h
          intro v9 hv9
          clear hv9
          simp only [Act.put, List.setIfInBounds_toArray, List.set_cons_zero, List.set_cons_succ]
          (apply WpI.pure; (simp only [List.getElem?_toArray, List.getElem?_cons_succ, List.getElem?_cons_zero]; rfl); (intro τ wI hA hI; go_simp; exact ⟨hI, Is.rfl'⟩); simp only [Act.put, List.setIfInBounds_toArray, List.set_cons_zero, List.set_cons_succ])
          apply WpI.effect; (simp only [List.getElem?_toArray, List.getElem?_cons_succ, List.getElem?_cons_zero]; rfl)
          · intro τ wI hA hn hI
            have hI2 := hI
            rw [HI.out] at hI2
            obtain ⟨k1, k2, k3⟩ := hI2
            have h8 : τ 8 = some v8 := hA.1 8 (by decide)
            have h9 : τ 9 = some v9 := hA.1 9 (by decide)
            obtain ⟨⟨A', c', rfl⟩, k4, _⟩ := k3 v9 h9
            obtain ⟨o1, o2, o3⟩ := k4 hn
            have hb := HW1.out.b10.mod o1 (own_blk_ne (HW1.out.rows n3 hn4) HW1.out.b10 (by decide))
            have d10 : wI.cell? ⟨g10, n3, none⟩ = some (R n3) := by rw [hb.cell]; exact R4_get _ _ hn4
            have f10 := hb.frozen n3
            have KF := Lib.hid (HW1.out.row n3 hn4 bs o1 (by rw [← HLN.out]; exact o2) o3)
            have E8 := Lib.hid (k2 v8 h8).1
            have H8 := Lib.hid h8
            have H9 := Lib.hid h9
            clear k1 k2 k3 k4 o1 o2 o3 hb h8 h9
            go_simp
            rw [HI.out]
            refine ⟨fun h => (by rw [Done.put_other _ _ _ _ (by decide), H8.out] at h; cases h), fun v h => ?_, fun v h => ?_⟩
            · rw [Done.put_other _ _ _ _ (by decide), H8.out] at h
              injection h with h
              exact ⟨h ▸ E8.out, fun h => (by rw [Done.put_other _ _ _ _ (by decide), H9.out] at h; cases h)⟩
            · rw [Done.put_other _ _ _ _ (by decide), H9.out] at h
              injection h with h
              subst h
              exact ⟨⟨_, _, rfl⟩, fun h => (by rw [Done.put_same] at h; cases h), fun _ => KF.out⟩
          intro v11 hv11
          clear hv11
          refine WpI.done ?_
          intro wI hI
          rw [HI.out] at hI
          obtain ⟨⟨A', c', rfl⟩, _, k5⟩ := hI.2.2 v9 rfl
          have H5 := Lib.hid (k5 (by intro h; cases h))
          clear k5 hI HI HJ0 HL HC8 HW1 H4 HC
          have hso := Lib.hid (safe_write hp.out.2.1 n3 bs)
          have hown : Hid (wI.ownsRow 0 3 1 (.slice As (4 * j) cs) (4 * j) (I64s sl)) := by have := H5.out.sure; rw [hsl.out] at this; exact this
          have hsrc : Hid (Sl wI (fun i => i = g12) 1 (.slice (some ⟨g12, 0, none⟩) 4 4) 4 (I4 sf)) := Sl.of_blk H5.out.b12 1 4 4 rfl (Nat.le_refl _)
          go_wp2_with (at_builtin
                       refine wpList_app _ rfl (.tmp 104) (.tmp 105) 53 rfl 3 (.int .i64 0) 1 8 Try.underlying53 info3 rfl (by omega) (by omega) (.slice As (4 * j) cs) (4 * j) (I64s sl) rfl
                         hown.out (fun i => i = g12) (.slice (some ⟨g12, 0, none⟩) 4 4) 4 (I4 sf) rfl hsrc.out (by intro u hu; simp only [I4, R4, List.mem_cons, List.not_mem_nil, or_false] at hu; rcases hu with rfl | rfl | rfl | rfl <;> rfl) (by omega) ?_
                       intro As' cs' w5 ho5 hg5 hat5 _
                       have h5 := Lib.hid (H5.out.app hg5 (by rw [hsl.out]; exact ho5) hat5)
                       clear ho5 hg5 hat5)
          go_roundg (m' - (j + 1))
          case measure => omega
          case rel =>
            refine ⟨j + 1, _, _, _, _, _, _, As', cs', by go_num, by omega, rfl, by rw [Nat.mul_add], h5, ?_, hso.out, sure_app rfl hp.out.2.2.1 hso.out, ?_⟩
            · exact hp.out.1.write HG.out n3 hn4 bs hlen.out
            · have := hp.out.2.2.2
              simp [writeD, this]
      · obtain rfl : j = m' := by omega
        have hpj := hp.out.2.2.2
        clear HST HP0 hlt hj
        go_wp2_with fail
        obtain ⟨n, hnj, hn⟩ := at_fold at_ j hm100
        rw [hn]
        clear hn
        refine (after_ok wr F _ d 4 n Ak mk ck keep S hst.out.disk (by omega) (by omega) hst.out.good.ok (by omega) (by omega) (by have := hst.out.wrote; omega) (HK.out.agree (fun i hi => hst.out.below.block i hi)) hmk).mono ?_
        rintro e w2 ⟨x, rfl, hx, hb2⟩
        have HX := Lib.hid hx
        have HST := Lib.hid (hst.out.later hb2)
        have HE : Hid (Calls Try.prog 17 #[.pointer (some ⟨x, 0, none⟩)] w2 fun e w' => e = .returned (.int .i64 0) ∧ w2 = w') := hx.events
        obtain ⟨L, hL⟩ : ∃ L, L = lossOf S n keep := ⟨_, rfl⟩
        have hLl : Hid (L.length = 4 * 256) := by rw [hL]; exact lossK_length S 4 _ keep hst.out.good.ok _
        have HL : Hid (∀ k, k < 4 → ∀ fr, (n = 0 ∧ fr = 0) ∨ (0 < n ∧ sl[4 * (n - 1) + k]? = some fr) → ∃ c, fr ≤ c ∧ c < (W k).length ∧ (W k)[c]? = some (sec L k)) := by
          intro k hk fr hfr
          rw [hL]
          exact keeps_found hp.out.1 hst.out.good keep n (by omega) k hk hp.out.2.2.1 fr hfr
        rw [← hL] at HX
        have hsl : sl.length = 4 * j := by have := hp.out.2.2.1.1; rw [hpj] at this; exact this
        have HW101 : Hid (∀ k, k < 4 → (W k).length ≤ 101) := fun k hk => by have := (hp.out.1.len k hk).2; omega
        clear hb2 hx hst HK HM' hL hpj
        obtain ⟨Fx, HX⟩ : ∃ Fx, Hid (DiskAt w2 Fx x ⟨L, L, [], []⟩) := ⟨_, HX⟩
        go_wp2_with fail
        refine (HE.out).mono ?_
        rintro e w' ⟨rfl, rfl⟩
        go_wp2_with fail
        obtain ⟨q4, hq4⟩ : ∃ q, q = 4 * j := ⟨_, rfl⟩
        rw [← hq4] at HST hsl ⊢
        have hWB : w.heap.size ≤ w2.heap.size := HST.out.below.size
        have HQ4 := Lib.hid hq4
        clear hq4
        go_loopg [20] 4 (fun kq i wq => ∃ k : Nat, i = .int .i64 k ∧ k ≤ 4 ∧ kq = 4 - k ∧ Hid (Below w2.heap.size w2 wq))
        case atStart => exact ⟨0, rfl, by omega, rfl, Below.refl _ _⟩
        case round =>
          obtain ⟨k, rfl, hk, rfl, hb⟩ := hrel
          by_cases hk4 : k < 4
          · have hq := Lib.hid (HST.out.later hb.out)
            have hxq := Lib.hid (HX.out.below hb.out)
            go_wp2_with fail
            refine (read_ok wr Fx x 4 k _ hxq.out (by omega) hLl.out hk4).mono ?_
            rintro e w4 ⟨A1, c1, rfl, hN1⟩
            obtain ⟨o1, f1, b1⟩ := hN1.out (sec_length hLl.out hk4)
            have HQ := Lib.hid (hq.out.later b1)
            have HN1 := Lib.hid o1
            have HB4 := Lib.hid (hb.out.trans (b1.mono hb.out.size))
            clear hN1 o1 f1 b1 hq hxq hb
            go_upto_if 148 with fail
            go_cut [23] (fun v wx => wx = w4 ∧ ∃ fr : Nat, v = .int .i64 fr ∧ Hid ((n = 0 ∧ fr = 0) ∨ (0 < n ∧ sl[4 * (n - 1) + k]? = some fr)))
            case first =>
              by_cases h0 : n = 0
              · have s0 : ¬ (0 : Int) < (n : Int) := by omega
                have HR := Lib.hid h0
                clear h0
                go_wp2_with fail
                go_meet
                exact ⟨rfl, 0, rfl, Lib.hid (.inl ⟨HR.out, rfl⟩)⟩
              · obtain ⟨n1, hn1⟩ : ∃ n1, n = n1 + 1 := ⟨n - 1, by omega⟩
                obtain ⟨p4, hp4⟩ : ∃ p4, p4 = 4 * n1 := ⟨_, rfl⟩
                obtain ⟨pp, hpp⟩ : ∃ pp, pp = p4 + k := ⟨_, rfl⟩
                have s0 : (0 : Int) < (n : Int) := by omega
                have s1 : IntKind.i64.wrap ((n : Int) - 1) = (n1 : Int) := by rw [IntKind.wrap_i64]; omega
                have s2 : IntKind.i64.wrap (4 * (n1 : Int)) = (p4 : Int) := by rw [IntKind.wrap_i64]; omega
                have s3 : IntKind.i64.wrap ((p4 : Int) + (k : Int)) = (pp : Int) := by rw [IntKind.wrap_i64]; omega
                have hpl : pp < q4 := by have := HQ4.out; omega
                have hpl2 : (pp : Int) < (q4 : Int) := by omega
                obtain ⟨gs, cap, hsv, _⟩ := HQ.out.sure.form (by omega)
                simp only [Value.slice.injEq] at hsv
                obtain ⟨rfl, hx, rfl⟩ := hsv
                clear hx
                obtain ⟨fr, hfr⟩ : ∃ fr, sl[pp]? = some fr := ⟨_, List.getElem?_eq_getElem (by omega)⟩
                have hc := HQ.out.sure.cells rfl pp (.int .i64 (fr : Int)) (by simp only [I64s, List.getElem?_map, hfr]; rfl)
                rw [add_lit0, Nat.zero_add] at hc
                have HR : Hid ((n = 0 ∧ fr = 0) ∨ (0 < n ∧ sl[4 * (n - 1) + k]? = some fr)) := by
                  refine .inr ⟨by omega, ?_⟩
                  rw [show 4 * (n - 1) + k = pp from by omega]; exact hfr
                clear hpp hp4 hn1 hfr
                go_wp2_with fail
                go_meet
                exact ⟨rfl, fr, rfl, HR⟩
            case rest =>
              obtain ⟨rfl, fr, rfl, hfr⟩ := hcut
              obtain ⟨cc, hc1, hc2, hc3⟩ := HL.out k hk4 fr hfr.out
              obtain ⟨ln, hln⟩ : ∃ ln, ln = (W k).length := ⟨_, rfl⟩
              have hl101 : ln ≤ 101 := by rw [hln]; exact HW101.out k hk4
              rw [← hln] at hc2
              have HC3 := Lib.hid hc3
              have HLN := Lib.hid hln
              clear hc3 hln hfr
              go_wp2_with fail
              go_loopg [24, 25] (ln - fr) (fun kq fv i wq => ∃ (q : Nat) (b : Bool), i = .int .i64 q ∧ q ≤ ln ∧ kq = ln - q ∧ fv = .bool b ∧ Hid (fr ≤ q) ∧ Hid (cc < q → b = true) ∧ Hid (Below wc.heap.size wc wq))
              case atStart => exact ⟨fr, false, rfl, by omega, by omega, rfl, Nat.le_refl _, fun h => absurd h (by omega), Below.refl _ _⟩
              case round =>
                obtain ⟨q, b, rfl, hql, rfl, rfl, hfq, hcb, hb⟩ := hrel
                have hQ := Lib.hid (HQ.out.later hb.out)
                obtain ⟨Ar, cr, hRk, _, _⟩ := own_form (hQ.out.rows k hk4)
                rw [← HLN.out] at hRk
                have c10 : wr.cell? ⟨g10, k, none⟩ = some (.slice Ar ln cr) := by rw [hQ.out.b10.cell, ← hRk]; exact R4_get _ _ hk4
                have c10d : wr.drew.cell? ⟨g10, k, none⟩ = some (.slice Ar ln cr) := by rw [hQ.out.drew.b10.cell, ← hRk]; exact R4_get _ _ hk4
                have HRk := Lib.hid hRk
                clear hRk
                by_cases hlt : q < ln
                · have hltI : (q : Int) < (ln : Int) := by omega
                  have hk4I : (k : Int) < 4 := by omega
                  have hrow := hQ.out.drew.rows k hk4
                  rw [← HLN.out] at hrow
                  rw [HRk.out] at hrow
                  obtain ⟨gr, capr, hrv, _⟩ := hrow.form (by omega)
                  simp only [Value.slice.injEq] at hrv
                  obtain ⟨rfl, hx, rfl⟩ := hrv
                  clear hx
                  obtain ⟨s, hs⟩ : ∃ s, (W k)[q]? = some s := ⟨_, List.getElem?_eq_getElem (by rw [← HLN.out]; exact hlt)⟩
                  have hcs := hrow.cells rfl q (bstr s) (by simp only [strs, List.getElem?_map, hs]; rfl)
                  rw [add_lit0, Nat.zero_add] at hcs
                  have v1 := run_str wr.drew _ 22 5 9 A1 256 c1 (sec L k) Try.underlying22 Try.underlying5 Try.underlying9 (Sl.of_own (w := wr.drew) (own_below HN1.out hb.out.drew))
                  have hS := Lib.hid hs
                  clear hrow hs hQ
                  obtain ⟨Inv, hInv⟩ : ∃ Inv : Done → World → Prop, Inv = fun _ wI => wI = wr.drew := ⟨_, rfl⟩
                  have HI : Hid (∀ τ wI, Inv τ wI → wI = wr.drew) := fun τ wI h => by rw [hInv] at h; exact h
                  have HJ : Hid (∀ τ, Inv τ wr.drew) := fun τ => by rw [hInv]
                  clear hInv
                  go_upto_region 44 with fail
                  try simp only [Act.put, List.setIfInBounds_toArray, List.set_cons_zero, List.set_cons_succ]
                  cases b
                  · refine wp_region_inv (by kernel_rfl) [⟨0, false, [], []⟩, ⟨1, false, [], []⟩, ⟨2, false, [], []⟩, ⟨3, false, [], []⟩, ⟨4, false, [], []⟩, ⟨5, false, [], []⟩, ⟨6, false, [], []⟩, ⟨7, false, [], []⟩, ⟨8, false, [], []⟩, ⟨9, false, [], []⟩, ⟨10, false, [], []⟩, ⟨11, false, [], []⟩, ⟨12, false, [], []⟩, ⟨13, false, [], []⟩] (by kernel_rfl) Inv (fun _ _ => True) (fun _ => ⟨undef, trivial⟩) (HJ.out _) ?_
                    iterate 14 (apply WpI.pure; (simp only [List.getElem?_toArray, List.getElem?_cons_succ, List.getElem?_cons_zero]; rfl); (intro τ wI hA hI; have hw := HI.out _ _ hI; rw [hw]; go_simp; exact ⟨HJ.out _, Is.rfl'⟩); simp only [Act.put, List.setIfInBounds_toArray, List.set_cons_zero, List.set_cons_succ])
                    refine WpI.done ?_
                    intro wI hI
                    have hw := HI.out _ _ hI
                    rw [hw]
                    clear hw hI HI HJ
                    go_wp2_with fail
                    go_roundg (ln - (q + 1))
                    case measure => omega
                    case rel =>
                      refine ⟨q + 1, _, by go_num, by omega, rfl, rfl, Lib.hid (by have := hfq.out; omega), fun hlt2 => ?_, Lib.hid hb.out.drew⟩
                      obtain rfl : cc = q := by
                        by_cases h : cc < q
                        · exact absurd (hcb.out h) (by simp)
                        · omega
                      obtain rfl : s = sec L k := Option.some.inj (hS.out.symm.trans HC3.out)
                      simp
                  · refine wp_region_inv (by kernel_rfl) [⟨0, false, [], []⟩, ⟨1, false, [], []⟩, ⟨2, false, [], []⟩, ⟨3, false, [], []⟩, ⟨4, false, [], []⟩, ⟨5, false, [], []⟩, ⟨6, false, [], []⟩, ⟨7, false, [], []⟩, ⟨8, false, [], []⟩, ⟨9, false, [], []⟩, ⟨10, false, [], []⟩, ⟨11, false, [], []⟩, ⟨12, false, [], []⟩, ⟨13, false, [], []⟩] (by kernel_rfl) Inv (fun _ _ => True) (fun _ => ⟨undef, trivial⟩) (HJ.out _) ?_
                    iterate 14 (apply WpI.pure; (simp only [List.getElem?_toArray, List.getElem?_cons_succ, List.getElem?_cons_zero]; rfl); (intro τ wI hA hI; have hw := HI.out _ _ hI; rw [hw]; go_simp; exact ⟨HJ.out _, Is.rfl'⟩); simp only [Act.put, List.setIfInBounds_toArray, List.set_cons_zero, List.set_cons_succ])
                    refine WpI.done ?_
                    intro wI hI
                    have hw := HI.out _ _ hI
                    rw [hw]
                    clear hw hI HI HJ
                    go_wp2_with fail
                    go_roundg (ln - (q + 1))
                    case measure => omega
                    case rel => exact ⟨q + 1, true, by go_num, by omega, rfl, rfl, Lib.hid (by have := hfq.out; omega), fun _ => rfl, Lib.hid hb.out.drew⟩
                · obtain rfl : q = ln := by omega
                  have hbt : b = true := hcb.out hc2
                  subst hbt
                  clear hcb
                  go_wp2_with fail
                  go_roundg (4 - (k + 1))
                  case measure => omega
                  case rel => exact ⟨k + 1, by go_num, by omega, rfl, Lib.hid (HB4.out.trans (hb.out.mono HB4.out.size))⟩
          · obtain rfl : k = 4 := by omega
            have HBe := Lib.hid (HST.out.below.trans (hb.out.mono hWB))
            clear HST HX HL hp hb
            go_wp2_with fail
            go_ret
            exact ⟨rfl, HBe.out⟩
end Go.Proofs.Ytjdobjcbmmdjeaa
