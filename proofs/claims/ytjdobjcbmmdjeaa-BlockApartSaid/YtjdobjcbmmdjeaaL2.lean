import Derived.Test.YtjdobjcbmmdjeaaA1
namespace Go.Proofs.Ytjdobjcbmmdjeaa
open Go.RowKit

theorem info4 : (Try.prog.info? 4).map (fun i => (i.zero, i.size, i.bytes)) = some (some (.bool false), 1, 1) := by kernel_rfl

set_option maxRecDepth 100000 in
set_option maxHeartbeats 4000000 in
theorem blockApart_walk (A : Option Addr) (m c : Nat) (acts : List ActD) (n : Int) (fill : UInt8) (w : World) (hA : ActsIn w A m c acts) :
    Calls Try.prog 6 #[.slice A m c, .int .i64 n, .int .u8 (fill.toNat : Int)] w fun e w' => e = .returned (.bool true) ∧ Below w.heap.size w w' := by
  have HA := Lib.hid hA
  have hm : m ≤ 140737488351232 := hA.max
  have hmc : m ≤ c := hA.cap
  clear hA
  go_enter Try.func6, Try.ntmps6
  go_wp2_with fail
  refine (new_ok 4 w (by omega) (by omega)).mono ?_
  rintro e w1 ⟨d, rfl, hd, hb⟩
  have HD := Lib.hid (And.intro hd hb)
  clear hd hb
  go_upto_if 41 with fail
  go_cut [0] (fun v wx => wx = w1 ∧ v = .slice A (min m 100) c)
  case first =>
    go_wp2_with fail
    all_goals go_meet
    · exact ⟨rfl, by rw [show min m 100 = 100 from by omega]⟩
    · exact ⟨rfl, by rw [show min m 100 = m from by omega]⟩
  case rest =>
    obtain ⟨rfl, rfl⟩ := hcut
    obtain ⟨m', hm'⟩ : ∃ m', m' = min m 100 := ⟨_, rfl⟩
    rw [← hm']
    have HA2 := Lib.hid (HA.out.take m' (by omega))
    have hm100 : m' ≤ 100 := by omega
    have hmc2 : m' ≤ c := by omega
    have HM' := Lib.hid hm'
    clear HA hm' hm hmc
    go_wp2_with fail
    go_loopg [11] 4 (fun kq i wr => ∃ j : Nat, i = .int .i64 j ∧ j ≤ 4 ∧ kq = 4 - j ∧ Hid (Below wc.heap.size wc wr) ∧ Hid (Blk wr wc.heap.size 55 (mk4 j)) ∧ Hid (Blk wr (wc.heap.size + 1) 55 (mk4 j)))
    case atStart =>
      have b1 := Blk.new wc 55 #[.string ⟨#[]⟩, .string ⟨#[]⟩, .string ⟨#[]⟩, .string ⟨#[]⟩]
      have b2 := Blk.new (wc.alloc (.cells #[.string ⟨#[]⟩, .string ⟨#[]⟩, .string ⟨#[]⟩, .string ⟨#[]⟩] 55)) 55 #[.string ⟨#[]⟩, .string ⟨#[]⟩, .string ⟨#[]⟩, .string ⟨#[]⟩]
      refine ⟨0, rfl, by omega, rfl, ?_, ?_, ?_⟩
      · exact ((Below.refl _ _).alloc (Nat.le_refl _) _).alloc (by simp) _
      · exact b1.alloc _
      · refine Lib.hid ?_; simp only [World.size_alloc] at b2; exact b2
    case round =>
      obtain ⟨j, rfl, hj, rfl, hb, h9, h10⟩ := hrel
      have hsz : wc.heap.size + 1 < wr.heap.size := Blk.lt h10.out
      by_cases hlt : j < 4
      · obtain ⟨w2, hz1, hz2, hg, hl2⟩ := zero_run wr
        have h92 := Lib.hid (Blk.grown h9.out hg (by simp))
        have h102 := Lib.hid (Blk.grown h10.out hg (by simp))
        have hb2 := Lib.hid (hb.out.grown hg hb.out.size (by simp))
        clear hb h9 h10 hg
        have hsz2 : wc.heap.size + 1 < w2.heap.size := Blk.lt h102.out
        have c9 : w2.cell? ⟨wc.heap.size, j, none⟩ = some (bstr []) := by rw [h92.out.cell]; exact mk4_get j hlt
        have f9 := h92.out.frozen j
        have c10 : w2.cell? ⟨wc.heap.size + 1, j, none⟩ = some (bstr []) := by rw [h102.out.cell]; exact mk4_get j hlt
        have f10 := h102.out.frozen j
        go_wp2_with fail
        go_roundg (4 - (j + 1))
        case measure => omega
        case rel =>
          refine ⟨j + 1, by go_num, by omega, rfl, ?_, ?_, ?_⟩
          · exact Lib.hid ((hb2.out.setCell (p := ⟨_, _, none⟩) (Nat.le_refl _) _).setCell (p := ⟨_, _, none⟩) (Nat.le_succ _) _)
          · have := (h92.out.set_ j (bstr (zeros 256))).far (p := ⟨wc.heap.size + 1, j, none⟩) (by simp) (bstr (zeros 256))
            rw [mk4_set j hlt] at this
            exact Lib.hid this
          · have := (h102.out.far (p := ⟨wc.heap.size, j, none⟩) (by simp) (bstr (zeros 256))).set_ j (bstr (zeros 256))
            rw [mk4_set j hlt] at this
            exact Lib.hid this
      · obtain rfl : j = 4 := by omega
        obtain ⟨hd, hb0⟩ := HD.out
        have hst : ApSt w wr wc.heap.size (wc.heap.size + 1) d (fun b => w.heap.size ≤ b ∧ b < wc.heap.size) ⟨zeros (4 * 256), zeros (4 * 256), [], []⟩ (.slice none 0 0) 0 0 := by
          have hsz0 := hb0.size
          refine ⟨hb0.trans (hb.out.mono hsz0), hd.below hb.out, Dsk.good_new 4, rfl, Nat.zero_le _, fun b hb => ⟨hb.1, by omega, by omega, by simp [Value.ownBlock]⟩, hsz0, by omega, by omega, ?_, ?_, own_nil0 _ _ _, by simp [Value.ownBlock]⟩
          · have e : flushed ⟨zeros (4 * 256), zeros (4 * 256), [], []⟩ = zeros (4 * 256) := rfl
            rw [e, str4_zeros]; exact h9.out
          · show Blk _ _ _ (str4 (zeros (4 * 256)))
            rw [str4_zeros]; exact h10.out
        have HST := Lib.hid hst
        clear hst hd hb0 hb h9 h10 HD
        go_wp2_with fail
        obtain ⟨F0, g9, g10, hg9, hg10, HST⟩ : ∃ F g9 g10, g9 = wc.heap.size ∧ g10 = wc.heap.size + 1 ∧ Hid (ApSt w wr g9 g10 d F ⟨zeros (4 * 256), zeros (4 * 256), [], []⟩ (.slice none 0 0) 0 0) := ⟨_, _, _, rfl, rfl, HST⟩
        rw [← hg10]
        rw [← hg9]
        clear hg9 hg10 hsz
        go_loopg [12, 13] m' (fun kq kv i wr => ∃ (j : Nat) (F : Nat → Prop) (S : Dsk) (Ak : Option Addr) (ck : Nat), i = .int .i64 j ∧ j ≤ m' ∧ kq = m' - j ∧ kv = .slice Ak j ck ∧ Hid (ApSt w wr g9 g10 d F S kv j j))
        case atStart => exact ⟨0, _, _, none, 0, rfl, by omega, rfl, rfl, HST⟩
        case round =>
          obtain ⟨j, F, S, Ak, ck, rfl, hj, rfl, rfl, hst⟩ := hrel
          by_cases hlt : j < m'
          · obtain ⟨ab, ao, hA, hab, hcells⟩ := HA2.out.at_ (by omega)
            subst hA
            obtain ⟨a, ha⟩ : ∃ a, (acts.take m')[j]? = some a := ⟨_, List.getElem?_eq_getElem (by rw [HA2.out.len]; exact hlt)⟩
            have hin := Lib.hid (HA2.out.each a (List.mem_of_getElem? ha))
            have hold : ∀ q u, a.cells[q]? = some u → wr.cell? ⟨ab, ao + j * 6 + q, none⟩ = some u := fun q u hu => (hst.out.below.cell (p := ⟨ab, _, none⟩) hab).trans (hcells j a ha q u hu)
            have e0 := hold 0 _ rfl
            have e1 := hold 1 _ rfl
            have e2 := hold 2 _ rfl
            have e3 := hold 3 _ rfl
            have e4 := hold 4 _ rfl
            have e5 := hold 5 _ rfl
            rw [Nat.add_zero] at e0
            have habl : ab < wr.heap.size := by have := hst.out.below.size; omega
            clear hold hcells ha
            obtain ⟨oA, hoA⟩ : ∃ o : Obj, o = .cells #[.int .i64 a.k, .int .i64 a.n, .slice a.A a.m a.c, .int .u8 (a.fill.toNat : Int), .bool a.odd, .slice a.A2 a.n2 a.c2] 25 := ⟨_, rfl⟩
            have HB := Lib.hid (hst.out.later (((Below.refl _ _).alloc (Nat.le_refl _) oA).alloc (by simp) (.cells #[.bool true] 4)))
            have hs1 : Hid (Sl ((wr.alloc oA).alloc (.cells #[.bool true] 4)) (fun i => i = wr.heap.size + 1) 1 (.slice (some ⟨wr.heap.size + 1, 0, none⟩) 1 1) 1 [.bool true]) := by
              have := Sl.one (wr.alloc oA) 4 (.bool true)
              simp only [World.size_alloc] at this
              exact this
            have ha1 : Hid (Blk ((wr.alloc oA).alloc (.cells #[.bool true] 4)) wr.heap.size 25 a.cells) := by
              have := Blk.new wr 25 #[.int .i64 a.k, .int .i64 a.n, .slice a.A a.m a.c, .int .u8 (a.fill.toNat : Int), .bool a.odd, .slice a.A2 a.n2 a.c2]
              rw [← hoA] at this
              exact Blk.alloc this _
            have hjb : j ≤ 100 := by omega
            have HF : Hid (∀ b, F b → b < wr.heap.size) := fun b hb => hst.out.lt hb
            have hwl : w.heap.size ≤ wr.heap.size := hst.out.below.size
            rw [hoA] at HB hs1 ha1
            clear hoA
            by_cases hk : a.k = 1
            · have HK := Lib.hid hk
              clear hk
              go_wp2_with (at_builtin
                           refine wpList_app _ rfl (.tmp 67) (.tmp 68) 23 rfl 4 (.bool false) 1 1 Try.underlying23 info4 rfl (by omega) (by omega) (.slice Ak j ck) j (BL (List.replicate j true)) rfl
                             HB.out.keep (fun i => i = wr.heap.size + 1) (.slice (some ⟨wr.heap.size + 1, 0, none⟩) 1 1) 1 [.bool true] rfl hs1.out (by simp [Value.oneCell']) (by omega) ?_
                           intro Ak' ck' w2 ho2 hg2 hat2 _
                           have h2 := Lib.hid (HB.out.app hg2 ho2 hat2)
                           have ha2 := Lib.hid (Blk.grown ha1.out hg2 (fun e => own_blk_ne HB.out.keep ha1.out (by decide) e.symm))
                           have c0 : w2.cell? ⟨wr.heap.size, 0, none⟩ = some (.int .i64 1) := by rw [Blk.cell ha2.out]; simp [ActD.cells, HK.out]
                           have hlt2 : wr.heap.size < w2.heap.size := Blk.lt ha2.out
                           clear ho2 hg2 hat2 hst HB hs1 ha1 e0 e1 e2 e3 e4 e5 habl)
              refine (flush_ok w2 F d 4 S h2.out.disk (by omega) (by omega) h2.out.good.ok.now (by have := h2.out.ev; omega)).mono ?_
              rintro e w3 ⟨rfl, hd3, hm3⟩
              obtain ⟨s1, s2, s3, s4, s5⟩ := h2.out.step hm3
              have d0 : w3.cell? ⟨g10, 0, none⟩ = some (bstr (sec S.now 0)) := by rw [s3.cell]; rfl
              have d1 : w3.cell? ⟨g10, 1, none⟩ = some (bstr (sec S.now 1)) := by rw [s3.cell]; rfl
              have d2 : w3.cell? ⟨g10, 2, none⟩ = some (bstr (sec S.now 2)) := by rw [s3.cell]; rfl
              have d3 : w3.cell? ⟨g10, 3, none⟩ = some (bstr (sec S.now 3)) := by rw [s3.cell]; rfl
              have i0 : w3.cell? ⟨g9, 0, none⟩ = some (bstr (sec (flushed S) 0)) := by rw [s2.cell]; rfl
              have i1 : w3.cell? ⟨g9, 1, none⟩ = some (bstr (sec (flushed S) 1)) := by rw [s2.cell]; rfl
              have i2 : w3.cell? ⟨g9, 2, none⟩ = some (bstr (sec (flushed S) 2)) := by rw [s2.cell]; rfl
              have i3 : w3.cell? ⟨g9, 3, none⟩ = some (bstr (sec (flushed S) 3)) := by rw [s2.cell]; rfl
              have f0 := s2.frozen 0
              have f1 := s2.frozen 1
              have f2 := s2.frozen 2
              have f3 := s2.frozen 3
              have H3 := Lib.hid (h2.out.flush hm3 hd3)
              clear hd3 hm3 s1 s2 s3 s4 s5 c0 hlt2
              go_wp2_with fail
              go_roundg (m' - (j + 1))
              case measure => omega
              case rel => exact ⟨j + 1, _, _, Ak', ck', by go_num, by omega, rfl, rfl, H3⟩
            · have hk1 : (a.k == 1) = false := by simp [hk]
              go_wp2_with (at_builtin
                           refine wpList_app _ rfl (.tmp 67) (.tmp 68) 23 rfl 4 (.bool false) 1 1 Try.underlying23 info4 rfl (by omega) (by omega) (.slice Ak j ck) j (BL (List.replicate j true)) rfl
                             HB.out.keep (fun i => i = wr.heap.size + 1) (.slice (some ⟨wr.heap.size + 1, 0, none⟩) 1 1) 1 [.bool true] rfl hs1.out (by simp [Value.oneCell']) (by omega) ?_
                           intro Ak' ck' w2 ho2 hg2 hat2 _
                           have h2 := Lib.hid (HB.out.app hg2 ho2 hat2)
                           have ha2 := Lib.hid (Blk.grown ha1.out hg2 (fun e => own_blk_ne HB.out.keep ha1.out (by decide) e.symm))
                           have c0 : w2.cell? ⟨wr.heap.size, 0, none⟩ = some (.int .i64 a.k) := by rw [Blk.cell ha2.out]; rfl
                           have c1 : w2.cell? ⟨wr.heap.size, 1, none⟩ = some (.int .i64 a.n) := by rw [Blk.cell ha2.out]; rfl
                           have c2 : w2.cell? ⟨wr.heap.size, 2, none⟩ = some (.slice a.A a.m a.c) := by rw [Blk.cell ha2.out]; rfl
                           have c3 : w2.cell? ⟨wr.heap.size, 3, none⟩ = some (.int .u8 (a.fill.toNat : Int)) := by rw [Blk.cell ha2.out]; rfl
                           have c4 : w2.cell? ⟨wr.heap.size, 4, none⟩ = some (.bool a.odd) := by rw [Blk.cell ha2.out]; rfl
                           have f4 := Blk.frozen ha2.out 4
                           have c5 : w2.cell? ⟨wr.heap.size, 5, none⟩ = some (.slice a.A2 a.n2 a.c2) := by rw [Blk.cell ha2.out]; rfl
                           have hlt2 : wr.heap.size < w2.heap.size := Blk.lt ha2.out
                           clear ho2 hg2 hat2 hst HB hs1 ha1 e0 e1 e2 e3 e4 e5 habl)
              have h2s := Lib.hid (h2.out.act ha2.out (by decide) (by decide) (fun e => by have := HF.out _ e; omega) hwl 4 (.bool false))
              have ha2s := Lib.hid (Blk.set_ ha2.out 4 (.bool false))
              clear h2 ha2 c0 c1 c2 c3 c4 c5 f4 hlt2
              refine (sector_any a.k a.n a.A a.m a.c a.fill false a.A2 a.n2 a.c2 a.l _ _ (hin.out.b.agree (fun i hi => h2s.out.below.block i hi)) hin.out.m).mono ?_
              rintro e w3 ⟨v, rfl, ⟨A3, c3, hv⟩, ho3, hf3, hb3⟩
              have hlen : Hid ((secOf a.l a.fill false).length = 256) := by
                have : (secOf a.l a.fill false).length = 256 := by simp [secOf]; omega
                exact this
              rw [hlen.out] at hv ho3
              subst hv
              have h3 := Lib.hid (h2s.out.later hb3)
              have ha3 := Lib.hid (Blk.below' ha2s.out hb3)
              have H3 := Lib.hid (And.intro ho3 hf3)
              have hsz2 : wr.heap.size < (w2.setCell ⟨wr.heap.size, 4, none⟩ (.bool false)).heap.size := Blk.lt ha2s.out
              have hF3 : Hid (∀ b, F b → ¬ ((Value.slice A3 256 c3).ownBlock = some b)) := by
                intro b hb e
                have := HF.out b hb
                have := hf3 b e
                omega
              have d1 : w3.cell? ⟨wr.heap.size, 1, none⟩ = some (.int .i64 a.n) := by rw [Blk.cell ha3.out]; rfl
              have hlt3 : wr.heap.size < w3.heap.size := Blk.lt ha3.out
              clear hb3 ho3 hf3 h2s ha2s hsz2
              obtain ⟨n3, hn3⟩ : ∃ n3, n3 = (a.n % 4).toNat := ⟨_, rfl⟩
              have hn4 : n3 < 4 := by omega
              have hand : bits .and .i64 a.n 3 = (n3 : Int) := by rw [hn3]; exact and3 a.n
              clear hn3
              go_wp2_with fail
              refine (write_ok w3 F _ d 4 n3 S A3 c3 (secOf a.l a.fill false) h3.out.disk (by omega) (by omega) h3.out.good.ok.now hn4 (Sl.of_own H3.out.1) (fun b hb e => hF3.out b hb e.1) (by have := h3.out.ev; omega) (by have := h3.out.wrote; omega)).mono ?_
              rintro e w4 ⟨rfl, hd4, hm4⟩
              obtain ⟨s1, s2, s3, s4, s5⟩ := h3.out.step hm4
              have ho4 := own_mod H3.out.1 hm4 (fun b hb e => hF3.out b e hb)
              have i0 : w4.cell? ⟨g10, n3, none⟩ = some (bstr (sec S.now n3)) := by rw [s3.cell]; exact str4_get _ _ hn4
              have fi := s3.frozen n3
              have hconv := run_str w4 _ 22 5 9 A3 256 c3 (secOf a.l a.fill false) Try.underlying22 Try.underlying5 Try.underlying9 (Sl.of_own ho4)
              have ha4 := Blk.mod ha3.out hm4 (fun e => by have := HF.out _ e; omega)
              have d4 : w4.cell? ⟨wr.heap.size, 1, none⟩ = some (.int .i64 a.n) := by rw [ha4.cell]; rfl
              have hlt4 : wr.heap.size < w4.heap.size := ha4.lt
              have H4 := Lib.hid (h3.out.write hm4 n3 hn4 _ hlen.out hd4)
              clear hd4 hm4 s1 s2 s3 s4 s5 ho4 ha4 h3 ha3 H3 d1 hlt3
              go_wp2_with fail
              go_roundg (m' - (j + 1))
              case measure => omega
              case rel => exact ⟨j + 1, _, _, Ak', ck', by go_num, by omega, rfl, rfl, H4⟩
          · obtain rfl : j = m' := by omega
            have HEV : Hid (Calls Try.prog 17 #[.pointer (some ⟨d, 0, none⟩)] wr fun e w' => e = .returned (.int .i64 (j : Nat)) ∧ wr = w') := by
              have := hst.out.disk.events
              rw [hst.out.ev] at this
              exact this
            have hj100 : j ≤ 100 := hm100
            clear hlt hj HST
            go_wp2_with fail
            refine (HEV.out).mono ?_
            rintro e w' ⟨rfl, rfl⟩
            go_wp2_with fail
            refine (after_ok wr F (fun _ => False) d 4 j none 0 0 [] S hst.out.disk (by omega) (by omega) hst.out.good.ok (by rw [hst.out.ev]; exact Nat.le_refl _) (by have := hst.out.ev; omega) (by have := hst.out.wrote; omega) (Sl.nil_ _ _ _) (by omega)).mono ?_
            rintro e w2 ⟨x, rfl, hx, hb2⟩
            have hst2 := Lib.hid (hst.out.later hb2)
            have el : S.ev.length = j := hst.out.ev
            have elo : lossOf S j [] = flushed S := by rw [← el]; exact lossOf_none S
            rw [elo] at hx
            have HX := Lib.hid hx
            have HFl : Hid (∀ b, F b → b < wr.heap.size) := fun b hb => hst.out.lt hb
            have HEV2 : Hid (Calls Try.prog 17 #[.pointer (some ⟨d, 0, none⟩)] w2 fun e w' => e = .returned (.int .i64 (j : Nat)) ∧ w2 = w') := by
              have := hst2.out.disk.events
              rw [hst2.out.ev] at this
              exact this
            clear hb2 hx el elo HEV
            go_wp2_with fail
            refine (HEV2.out).mono ?_
            rintro e w' ⟨rfl, rfl⟩
            go_wp2_with fail
            refine (after_ok w2 F _ d 4 j Ak j ck (List.replicate j true) S hst2.out.disk (by omega) (by omega) hst2.out.good.ok (by rw [hst2.out.ev]; exact Nat.le_refl _) (by have := hst2.out.ev; omega) (by have := hst2.out.wrote; omega) (Sl.of_own hst2.out.keep) (by omega)).mono ?_
            rintro e w3 ⟨y, rfl, hy, hb3⟩
            have hst3 := Lib.hid (hst2.out.later hb3)
            have el : S.ev.length = j := hst2.out.ev
            have elo : lossOf S j (List.replicate j true) = S.now := by
              have := lossOf_all S 4 j hst2.out.good (by omega)
              rwa [el] at this
            rw [elo] at hy
            have HX3 := Lib.hid (HX.out.below hb3)
            have HY3 := Lib.hid hy
            have hgl : g10 < wr.heap.size := hst.out.b10.lt
            have hwB : w.heap.size ≤ wr.heap.size := hst.out.below.size
            clear hb3 hy el elo HEV2 hst hst2 HX
            obtain ⟨Fx, B0, hg0, hw0, hFx, hF0, HX3⟩ : ∃ (Fx : Nat → Prop) (B0 : Nat), g10 < B0 ∧ w.heap.size ≤ B0 ∧ Hid (∀ b, Fx b → B0 ≤ b) ∧ Hid (∀ b, F b → b < B0) ∧ Hid (DiskAt w3 Fx x ⟨flushed S, flushed S, [], []⟩) := ⟨_, wr.heap.size, hgl, hwB, fun b hb => hb.1, HFl, HX3⟩
            obtain ⟨Fy, HY3⟩ : ∃ Fy : Nat → Prop, Hid (DiskAt w3 Fy y ⟨S.now, S.now, [], []⟩) := ⟨_, HY3⟩
            go_wp2_with fail
            go_loopg [19] 4 (fun kq i wq => ∃ i0 : Nat, i = .int .i64 i0 ∧ i0 ≤ 4 ∧ kq = 4 - i0 ∧ Hid (Below w3.heap.size w3 wq))
            case atStart => exact ⟨0, rfl, by omega, rfl, Below.refl _ _⟩
            case round =>
              obtain ⟨i, rfl, hi, rfl, hb⟩ := hrel
              by_cases hi4 : i < 4
              · have hq := Lib.hid (hst3.out.later hb.out)
                have hxq := Lib.hid (HX3.out.below hb.out)
                have hyq := Lib.hid (HY3.out.below hb.out)
                go_wp2_with fail
                have hlx : (flushed S).length = 4 * 256 := flushed_length hst3.out.good
                have hly : S.now.length = 4 * 256 := hst3.out.good.ok.now
                refine (read_ok wr Fx x 4 i _ hxq.out (by omega) hlx hi4).mono ?_
                rintro e w4 ⟨A1, c1, rfl, hN1⟩
                obtain ⟨o1, f1, b1⟩ := hN1.out (sec_length hlx hi4)
                have hy4 := Lib.hid (hyq.out.below b1)
                have hq4 := Lib.hid (hq.out.later b1)
                have HN1 := Lib.hid o1
                have HB4 := Lib.hid (hb.out.trans (b1.mono hb.out.size))
                clear hN1 o1 f1 b1 hq hxq hyq hb
                go_wp2_with fail
                refine (read_ok w4 Fy y 4 i _ hy4.out (by omega) hly hi4).mono ?_
                rintro e w5 ⟨A2, c2, rfl, hN2⟩
                obtain ⟨o2, f2, b2⟩ := hN2.out (sec_length hly hi4)
                have hq5 := hq4.out.later b2
                have c9 : w5.cell? ⟨g9, i, none⟩ = some (bstr (sec (flushed S) i)) := by rw [hq5.b9.cell]; exact str4_get _ _ hi4
                have c10 : w5.cell? ⟨g10, i, none⟩ = some (bstr (sec S.now i)) := by rw [hq5.b10.cell]; exact str4_get _ _ hi4
                have v1 := run_str w5.drew _ 22 5 9 A1 256 c1 (sec (flushed S) i) Try.underlying22 Try.underlying5 Try.underlying9 (Sl.of_own (w := w5.drew) (own_below HN1.out b2.drew))
                have v2 := run_str w5.drew _ 22 5 9 A2 256 c2 (sec S.now i) Try.underlying22 Try.underlying5 Try.underlying9 (Sl.of_own (w := w5.drew) o2)
                have l9 := hq5.b9.lt
                have l10 := hq5.b10.lt
                have HB5 := Lib.hid (HB4.out.trans (b2.mono HB4.out.size))
                clear hN2 o2 f2 b2 hq5 hq4 hy4 HN1 HB4 hlx hly
                go_upto_region 34 with fail
                try simp only [Act.put, List.setIfInBounds_toArray, List.set_cons_zero, List.set_cons_succ]
                obtain ⟨Inv, hInv⟩ : ∃ Inv : Done → World → Prop, Inv = fun _ wI => wI = w5.drew := ⟨_, rfl⟩
                have HI : Hid (∀ τ wI, Inv τ wI → wI = w5.drew) := fun τ wI h => by rw [hInv] at h; exact h
                have HJ : Hid (∀ τ, Inv τ w5.drew) := fun τ => by rw [hInv]
                clear hInv
                refine wp_region_inv (by kernel_rfl) [⟨0, false, [], []⟩, ⟨1, false, [], []⟩, ⟨2, false, [], []⟩, ⟨3, false, [], []⟩, ⟨4, false, [], []⟩, ⟨5, false, [], []⟩, ⟨6, false, [], []⟩, ⟨7, false, [], []⟩, ⟨8, false, [], []⟩, ⟨9, false, [], []⟩, ⟨10, false, [], []⟩, ⟨11, false, [], []⟩, ⟨12, false, [], []⟩, ⟨13, false, [], []⟩] (by kernel_rfl) Inv (fun _ _ => True) (fun _ => ⟨undef, trivial⟩) (HJ.out _) ?_
                iterate 14 (apply WpI.pure; (simp only [List.getElem?_toArray, List.getElem?_cons_succ, List.getElem?_cons_zero]; rfl); (intro τ wI hA hI; have hw := HI.out _ _ hI; rw [hw]; go_simp; exact ⟨HJ.out _, Is.rfl'⟩); simp only [Act.put, List.setIfInBounds_toArray, List.set_cons_zero, List.set_cons_succ])
                refine WpI.done ?_
                intro wI hI
                have hw := HI.out _ _ hI
                rw [hw]
                clear hw hI HI HJ
                go_wp2_with fail
                go_roundg (4 - (i + 1))
                case measure => omega
                case rel => exact ⟨i + 1, by go_num, by omega, rfl, Lib.hid HB5.out.drew⟩
              · obtain rfl : i = 4 := by omega
                have hq := Lib.hid (hst3.out.later hb.out)
                have hxq := Lib.hid (HX3.out.below hb.out)
                clear hst3 HX3 HY3
                have hlx : Hid ((flushed S).length = 4 * 256) := by
                  have : (flushed S).length = 4 * 256 := flushed_length hq.out.good
                  exact this
                have hly : Hid (S.now.length = 4 * 256) := by
                  have : S.now.length = 4 * 256 := hq.out.good.ok.now
                  exact this
                go_wp2_with fail
                refine (sector_any 0 0 none 0 0 fill false none 0 0 [] _ wr (Sl.nil_ _ (fun _ => False) _) (by omega)).mono ?_
                rintro e w4 ⟨v, rfl, ⟨A4, c4, hv⟩, ho4, hf4, hb4⟩
                have hlen : Hid ((secOf [] fill false).length = 256) := by
                  have : (secOf [] fill false).length = 256 := by simp [secOf]
                  exact this
                rw [hlen.out] at hv ho4
                subst hv
                have hq4 := Lib.hid (hq.out.later hb4)
                have hx4 := Lib.hid (hxq.out.below hb4)
                have H4 := Lib.hid (And.intro ho4 hf4)
                have HBx : Hid (∀ b, Fx b → b < wr.heap.size) := by
                  intro b hbx
                  obtain ⟨_, _, _, _, _, _, _, _, _, _, _, _, _, hlt⟩ := hxq.out
                  exact hlt b hbx
                clear ho4 hf4 hb4 hq hxq hb
                obtain ⟨n3, hn3⟩ : ∃ n3, n3 = (n % 4).toNat := ⟨_, rfl⟩
                have hn4 : n3 < 4 := by omega
                have hand : bits .and .i64 n 3 = (n3 : Int) := by rw [hn3]; exact and3 n
                clear hn3
                go_wp2_with fail
                refine (write_ok w4 Fx _ x 4 n3 _ A4 c4 (secOf [] fill false) hx4.out (by omega) (by omega) hlx.out hn4 (Sl.of_own H4.out.1) (fun b hb e => by have := HBx.out b hb; have := H4.out.2 b e.1; omega) (by simp) (by simp)).mono ?_
                rintro e w5 ⟨rfl, hx5, hm5⟩
                have hd5 := Lib.hid (hq4.out.disk.mod hm5 (fun b hb e => by have := hF0.out b hb; have := hFx.out b e; omega))
                have hx5' := Lib.hid hx5
                have ho5 := Lib.hid (own_mod H4.out.1 hm5 (fun b hb e => by have := HBx.out b e; have := H4.out.2 b hb; omega))
                have hb105 := Lib.hid (hq4.out.b10.mod hm5 (fun e => by have := hFx.out _ e; omega))
                have HB5 := Lib.hid (hq4.out.below.trans (hm5.below hq4.out.below.size (fun b hb => by have := hFx.out b hb; omega)))
                have hev := Lib.hid hq4.out.ev
                clear hx5 hm5 hq4 hx4 H4 HBx
                go_wp2_with fail
                refine (read_ok w5 F d 4 n3 S hd5.out (by omega) hly.out hn4).mono ?_
                rintro e w6 ⟨A6, c6, rfl, hN6⟩
                obtain ⟨o6, f6, b6⟩ := hN6.out (sec_length hly.out hn4)
                have H6 := Lib.hid o6
                have hd6 := Lib.hid (hd5.out.below b6)
                have hx6 := Lib.hid (hx5'.out.below b6)
                have ho6 := Lib.hid (own_below ho5.out b6)
                have hb106 := Lib.hid (hb105.out.below' b6)
                have HB6 := Lib.hid (HB5.out.trans (b6.mono HB5.out.size))
                clear hN6 o6 f6 b6 hd5 hx5' ho5 hb105 HB5
                have hlw : Hid ((splice (flushed S) (n3 * 256) (secOf [] fill false)).length = 4 * 256) := by
                  have : (splice (flushed S) (n3 * 256) (secOf [] fill false)).length = 4 * 256 := by
                    rw [length_splice _ _ _ (by rw [hlx.out, hlen.out]; omega)]; exact hlx.out
                  exact this
                have hsw : Hid (sec (splice (flushed S) (n3 * 256) (secOf [] fill false)) n3 = secOf [] fill false) := by
                  have := sec_splice hlx.out hn4 hn4 hlen.out
                  rw [if_pos rfl] at this
                  exact this
                go_wp2_with fail
                refine (read_ok w6 _ x 4 n3 _ hx6.out (by omega) hlw.out hn4).mono ?_
                rintro e w7 ⟨A7, c7, rfl, hN7⟩
                obtain ⟨o7, f7, b7⟩ := hN7.out (sec_length hlw.out hn4)
                have e7 : List.take 256 (List.drop (n3 * 256) (splice (flushed S) (n3 * 256) (secOf [] fill false))) = secOf [] fill false := hsw.out
                rw [e7] at o7
                have hd7 := hd6.out.below b7.drew
                have hx7 := hx6.out.below b7.drew
                have E1 : Hid (Calls Try.prog 17 #[.pointer (some ⟨x, 0, none⟩)] w7.drew fun e w' => e = .returned (.int .i64 (1 : Nat)) ∧ w7.drew = w') := hx7.events
                have E2 : Hid (Calls Try.prog 17 #[.pointer (some ⟨d, 0, none⟩)] w7.drew fun e w' => e = .returned (.int .i64 (j : Nat)) ∧ w7.drew = w') := by
                  have := hd7.events
                  rw [hev.out] at this
                  exact this
                have v1 := run_str w7.drew _ 22 5 9 A6 256 c6 (sec S.now n3) Try.underlying22 Try.underlying5 Try.underlying9 (Sl.of_own (w := w7.drew) (own_below H6.out b7.drew))
                have v2 := run_str w7.drew _ 22 5 9 A7 256 c7 (secOf [] fill false) Try.underlying22 Try.underlying5 Try.underlying9 (Sl.of_own (w := w7.drew) o7)
                have v3 := run_str w7.drew _ 22 5 9 A4 256 c4 (secOf [] fill false) Try.underlying22 Try.underlying5 Try.underlying9 (Sl.of_own (w := w7.drew) (own_below ho6.out b7.drew))
                have b10 := hb106.out.below' b7.drew
                have c10 : w7.drew.cell? ⟨g10, n3, none⟩ = some (bstr (sec S.now n3)) := by rw [b10.cell]; exact str4_get _ _ hn4
                have l10 := b10.lt
                have HB7 := Lib.hid (HB6.out.trans (b7.mono HB6.out.size))
                clear hN7 o7 f7 b7 e7 hd7 hx7 hd6 hx6 ho6 hb106 HB6 hsw hlw b10 H6
                have hn4i : (n3 : Int) < 4 := by omega
                go_upto_region 41 with fail
                try simp only [Act.put, List.setIfInBounds_toArray, List.set_cons_zero, List.set_cons_succ]
                obtain ⟨Inv, hInv⟩ : ∃ Inv : Done → World → Prop, Inv = fun _ wI => wI = w7.drew := ⟨_, rfl⟩
                have HI : Hid (∀ τ wI, Inv τ wI → wI = w7.drew) := fun τ wI h => by rw [hInv] at h; exact h
                have HJ : Hid (∀ τ, Inv τ w7.drew) := fun τ => by rw [hInv]
                clear hInv
                refine wp_region_inv (by kernel_rfl) [⟨0, false, [], []⟩, ⟨1, false, [], []⟩, ⟨2, false, [], []⟩, ⟨3, false, [], []⟩, ⟨4, false, [], []⟩, ⟨5, false, [], []⟩, ⟨6, false, [], []⟩, ⟨7, false, [], []⟩, ⟨8, false, [], []⟩, ⟨9, false, [], []⟩, ⟨10, false, [], []⟩, ⟨11, false, [], []⟩, ⟨12, false, [], []⟩, ⟨13, false, [], []⟩, ⟨14, false, [], []⟩, ⟨15, false, [], []⟩, ⟨16, false, [], []⟩, ⟨17, false, [], []⟩, ⟨18, false, [], []⟩, ⟨19, false, [], []⟩, ⟨20, false, [], []⟩, ⟨21, false, [], []⟩, ⟨22, false, [], []⟩, ⟨23, false, [], []⟩, ⟨24, false, [], []⟩, ⟨25, false, [], []⟩, ⟨26, false, [], []⟩] (by kernel_rfl) Inv (fun _ _ => True) (fun _ => ⟨undef, trivial⟩) (HJ.out _) ?_
                iterate 16 (apply WpI.pure; (simp only [List.getElem?_toArray, List.getElem?_cons_succ, List.getElem?_cons_zero]; rfl); (intro τ wI hA hI; have hw := HI.out _ _ hI; rw [hw]; go_simp; exact ⟨HJ.out _, Is.rfl'⟩); simp only [Act.put, List.setIfInBounds_toArray, List.set_cons_zero, List.set_cons_succ])
                (apply WpI.pure; (simp only [List.getElem?_toArray, List.getElem?_cons_succ, List.getElem?_cons_zero]; rfl); (intro τ wI hA hI; have hw := HI.out _ _ hI; rw [hw]; go_simp; refine (E1.out).mono ?_; rintro e w' ⟨rfl, rfl⟩; exact ⟨_, rfl, HJ.out _, Is.rfl'⟩); simp only [Act.put, List.setIfInBounds_toArray, List.set_cons_zero, List.set_cons_succ])
                iterate 4 (apply WpI.pure; (simp only [List.getElem?_toArray, List.getElem?_cons_succ, List.getElem?_cons_zero]; rfl); (intro τ wI hA hI; have hw := HI.out _ _ hI; rw [hw]; go_simp; exact ⟨HJ.out _, Is.rfl'⟩); simp only [Act.put, List.setIfInBounds_toArray, List.set_cons_zero, List.set_cons_succ])
                (apply WpI.pure; (simp only [List.getElem?_toArray, List.getElem?_cons_succ, List.getElem?_cons_zero]; rfl); (intro τ wI hA hI; have hw := HI.out _ _ hI; rw [hw]; go_simp; refine (E2.out).mono ?_; rintro e w' ⟨rfl, rfl⟩; exact ⟨_, rfl, HJ.out _, Is.rfl'⟩); simp only [Act.put, List.setIfInBounds_toArray, List.set_cons_zero, List.set_cons_succ])
                iterate 5 (apply WpI.pure; (simp only [List.getElem?_toArray, List.getElem?_cons_succ, List.getElem?_cons_zero]; rfl); (intro τ wI hA hI; have hw := HI.out _ _ hI; rw [hw]; go_simp; exact ⟨HJ.out _, Is.rfl'⟩); simp only [Act.put, List.setIfInBounds_toArray, List.set_cons_zero, List.set_cons_succ])
                refine WpI.done ?_
                intro wI hI
                have hw := HI.out _ _ hI
                rw [hw]
                clear hw hI HI HJ
                go_wp2_with fail
                go_ret
                exact ⟨rfl, HB7.out.drew⟩
end Go.Proofs.Ytjdobjcbmmdjeaa
