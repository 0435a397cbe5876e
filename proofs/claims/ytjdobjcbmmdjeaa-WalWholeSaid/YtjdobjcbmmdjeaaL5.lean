/- WalWhole: the walk. -/
import Derived.Test.YtjdobjcbmmdjeaaM1
import Derived.Test.YtjdobjcbmmdjeaaL4
namespace Go.Proofs.Ytjdobjcbmmdjeaa
open Go.RowKit

set_option maxRecDepth 100000 in
set_option maxHeartbeats 8000000 in
theorem walWhole_walk (A : Option Addr) (m c : Nat) (acts : List WActD) (cut : Int) (Ak : Option Addr) (mk ck : Nat) (keep : List Bool) (w : World) (hA : WActsIn w A m c acts) (hkeep : Sl w (fun b => b < w.heap.size) 1 (.slice Ak mk ck) mk (keep.map Value.bool)) (hmk : mk ≤ 140737488351232) :
    Calls Try.prog 9 #[.slice A m c, .int .i64 cut, .slice Ak mk ck] w fun e w' => e = .returned (.bool true) ∧ Below w.heap.size w w' := by
  have HA := Lib.hid hA
  have HK := Lib.hid (And.intro hkeep hmk)
  have hm : m ≤ 140737488351232 := hA.max
  have hmc : m ≤ c := hA.cap
  clear hA hkeep hmk
  go_enter Try.func9, Try.ntmps9
  go_wp2_with fail
  refine (new_ok 12 w (by omega) (by omega)).mono ?_
  rintro e w1 ⟨d, rfl, hd, hb⟩
  have HD := Lib.hid (And.intro hd hb)
  clear hd hb
  go_wp2_with fail
  refine (open_new w1 _ d 12 0 4 _ HD.out.1 (by omega) (by omega) (zeros_length _) (by omega) (by omega) (by omega) zeros_no).mono ?_
  rintro e w2 ⟨j, rfl, hj, hb2⟩
  have hst : ∃ F FJ, ShSt w w2 d j F FJ ⟨zeros (12 * 256), zeros (12 * 256), [], []⟩ ⟨0, 4, []⟩ := by
    have hsz := HD.out.2.size
    exact ⟨_, _, ⟨HD.out.2.trans (hb2.mono hsz), HD.out.1.below hb2, hj, Dsk.good_new 12, by simp, rfl, rfl, Nat.zero_le _, by simp, fun n b h => by simp [mget] at h, fun b hb => hb.1, fun b hb => by omega, fun b hb e => by omega⟩⟩
  obtain ⟨F0, FJ0, hst⟩ := hst
  have HST := Lib.hid hst
  clear hst hj hb2 HD
  go_upto_if 49 with fail
  go_cut [0] (fun v wx => wx = w2 ∧ v = .slice A (min m 40) c)
  case first =>
    go_wp2_with fail
    all_goals go_meet
    · exact ⟨rfl, by rw [show min m 40 = 40 from by omega]⟩
    · exact ⟨rfl, by rw [show min m 40 = m from by omega]⟩
  case rest =>
    obtain ⟨rfl, rfl⟩ := hcut
    obtain ⟨m', hm'⟩ : ∃ m', m' = min m 40 := ⟨_, rfl⟩
    rw [← hm']
    have HA2 := Lib.hid (HA.out.take m' (by omega))
    have hm40 : m' ≤ 40 := by omega
    have hmc2 : m' ≤ c := by omega
    clear HA hm' hm hmc
    go_wp2_with fail
    refine (shown_ok _ F0 d _ HST.out.disk HST.out.good.ok.now).mono ?_
    rintro e w3 ⟨rfl, hb3⟩
    have HST3 := Lib.hid (HST.out.later hb3)
    clear hb3 HST
    go_wp2_with fail
    obtain ⟨w4, hw4⟩ : ∃ w4, w4 = w3.alloc (.cells #[.string (shw (zeros (12 * 256)) 8)] 9) := ⟨_, rfl⟩
    have hev4 : Hid (Calls Try.prog 17 #[.pointer (some ⟨d, 0, none⟩)] w4 fun e w' => e = .returned (.int .i64 0) ∧ w4 = w') := by
      have h := (HST3.out.later (w' := w4) (by rw [hw4]; exact (Below.refl _ _).alloc (Nat.le_refl _) _)).disk.events
      exact h
    have hWH := wh_start (wr := w3) (S := ⟨zeros (12 * 256), zeros (12 * 256), [], []⟩) (J := ⟨0, 4, []⟩) HST3.out rfl
    rw [← hw4] at hWH ⊢
    have hlt4 : w3.heap.size < w4.heap.size := by rw [hw4]; simp
    have hs4 : w4.heap.size = w3.heap.size + 1 := by rw [hw4]; simp
    have HWH := Lib.hid hWH
    have HS4 := Lib.hid hs4
    clear hw4 hWH hs4 HST3
    refine hev4.out.mono ?_
    rintro e w' ⟨rfl, rfl⟩
    go_wp2_with fail
    obtain ⟨w5, hw5⟩ : ∃ w5, w5 = w4.alloc (.cells #[.int .i64 0] 3) := ⟨_, rfl⟩
    rw [← hw5] at HWH ⊢
    clear hw5 hev4 hlt4
    rw [HS4.out]
    go_loopg [10, 11, 12] m' (fun kq vs ve iv wr => ∃ (i : Nat) (F FJ : Nat → Prop) (S : Dsk) (J : Jr) (sts : List ByteArray) (ends : List Nat) (As Ae : Option Addr) (cs ce : Nat), iv = .int .i64 i ∧ i ≤ m' ∧ kq = m' - i ∧ vs = .slice As sts.length cs ∧ ve = .slice Ae ends.length ce ∧ Hid (WhSt w wr d j F FJ S J (.slice As sts.length cs) (.slice Ae ends.length ce) sts ends) ∧ Hid (Hist S sts ends) ∧ S.ev.length ≤ 12 * i ∧ ends.length ≤ i + 1)
    case atStart => exact ⟨0, F0, FJ0, _, _, _, _, _, _, _, _, rfl, by omega, rfl, rfl, rfl, HWH, hist_new, by simp, by simp⟩
    case round =>
      clear HWH HS4
      obtain ⟨i, F, FJ, S, J, sts, ends, As, Ae, cs, ce, rfl, hi, rfl, rfl, rfl, hst, hhist, hev, hen⟩ := hrel
      by_cases hlt : i < m'
      · obtain ⟨ab, ao, hA, hab, hcells⟩ := HA2.out.at_ (by omega)
        subst hA
        obtain ⟨a, ha⟩ : ∃ a, (acts.take m')[i]? = some a := ⟨_, List.getElem?_eq_getElem (by rw [HA2.out.len]; exact hlt)⟩
        have hin := Lib.hid (HA2.out.each a (List.mem_of_getElem? ha))
        have hold : ∀ q u, a.cells[q]? = some u → wr.cell? ⟨ab, ao + i * 6 + q, none⟩ = some u := fun q u hu => (hst.out.sh.below.cell (p := ⟨ab, _, none⟩) hab).trans (hcells i a ha q u hu)
        have e0 := hold 0 _ rfl
        have e1 := hold 1 _ rfl
        have e2 := hold 2 _ rfl
        have e3 := hold 3 _ rfl
        have e4 := hold 4 _ rfl
        have e5 := hold 5 _ rfl
        rw [Nat.add_zero] at e0
        clear hold hcells ha
        have hib : i ≤ 40 := by omega
        obtain ⟨wa, hwa⟩ : ∃ wa, wa = wr.alloc (.cells #[.int .i64 a.k, .int .i64 a.n, .int .i64 a.back, .slice a.A a.m a.c, .int .u8 (a.fill.toNat : Int), .slice a.A2 a.n2 a.c2] 58) := ⟨_, rfl⟩
        have HB : Hid (WhSt w wa d j F FJ S J (.slice As sts.length cs) (.slice Ae ends.length ce) sts ends) := by
          rw [hwa]; exact Lib.hid (hst.out.later ((Below.refl _ _).alloc (Nat.le_refl _) _))
        have ha1 : Blk wa wr.heap.size 58 a.cells := by rw [hwa]; exact Blk.new wr 58 _
        have c0 : wa.cell? ⟨wr.heap.size, 0, none⟩ = some (.int .i64 a.k) := by rw [ha1.cell]; rfl
        have HA1 := Lib.hid ha1
        have hla : wr.heap.size < wa.heap.size := ha1.lt
        have HWA := Lib.hid hwa
        clear hst ha1
        have hsl : sts.length = ends.length := hhist.out.len
        have hsl2 : sts.length ≤ 41 := by omega
        have HSL := Lib.hid hsl
        clear hsl
        go_upto_region 15 with fail
        rw [← HWA.out]
        clear HWA hwa e0 e1 e2 e3 e4 e5
        by_cases hk1 : a.k = 1
        · rw [hk1] at c0
          clear hk1
          go_wp2_with fail
          refine (commit_ok wa F FJ j d 12 J S HB.out.sh.jr HB.out.sh.disk HB.out.sh.dis (by omega) (by omega) HB.out.sh.good (fun n hn => by have := HB.out.sh.keys n hn; exact ⟨by omega, this.2⟩) (by have := HB.out.sh.len; omega) (by rw [HB.out.sh.at0]; have := HB.out.sh.len; omega) (by omega) (by have := HB.out.sh.wrote; omega)).mono ?_
          rintro e w6 ⟨rfl, hj6, hd6, hm6⟩
          obtain ⟨S6, F6, J6, hw6, hh6, he6⟩ : ∃ S6 F6 J6, WhSt w w6 d j F6 FJ S6 J6 (.slice As sts.length cs) (.slice Ae ends.length ce) sts ends ∧ Hist S6 (sts ++ [shw S6.now 8]) (ends ++ [S6.ev.length]) ∧ S6.ev.length ≤ 12 * (i + 1) := by
            refine ⟨_, _, _, HB.out.commit hj6 hd6 hm6, hhist.out.commit HB.out.sh.at0 (fun hne => keys_ok HB.out.nod hne HB.out.sh.len HB.out.sh.keys HB.out.sh.byt), ?_⟩
            rw [(HB.out.sh.commit hj6 hd6 hm6).2]
            have := HB.out.sh.len
            split <;> omega
          have H6 := Lib.hid hw6
          have HH6 := Lib.hid hh6
          have HE6 := Lib.hid he6
          clear hj6 hd6 hm6 hw6 hh6 he6 c0 HB HA1
          go_wp2_with fail
          refine (shown_ok w6 F6 d S6 H6.out.sh.disk H6.out.sh.good.ok.now).mono ?_
          rintro e w7 ⟨rfl, hb7⟩
          have H7 := Lib.hid (H6.out.later hb7)
          have hos := Lib.hid H7.out.os
          clear hb7 H6
          go_wp2_with (at_builtin
                       refine wpList_app _ rfl (.tmp 74) (.tmp 77) 51 rfl 9 (.string ⟨#[]⟩) 1 16 Try.underlying51 info9 rfl (by omega) (by omega) (.slice As sts.length cs) sts.length (bas sts) rfl
                         (hos.out.alloc _) (fun i => i = w7.heap.size) (.slice (some ⟨w7.heap.size, 0, none⟩) 1 1) 1 [.string (shw S6.now 8)] rfl (Sl.one w7 9 _) (by simp [Value.oneCell']) (by omega) ?_
                       intro A8 c8 w8 ho8 hg8 hat8 _
                       have HW8 := Lib.hid (And.intro ho8 (And.intro hg8 hat8))
                       clear ho8 hg8 hat8)
          have H8 : Hid (WhSt w w8 d j F6 FJ S6 J6 (.slice A8 (sts.length + 1) c8) (.slice Ae ends.length ce) (sts ++ [shw S6.now 8]) ends) :=
            Lib.hid ((H7.out.later ((Below.refl _ _).alloc (Nat.le_refl _) _)).appS HW8.out.2.1 HW8.out.1 HW8.out.2.2)
          have HEV : Hid (Calls Try.prog 17 #[.pointer (some ⟨d, 0, none⟩)] w8 fun e w' => e = .returned (.int .i64 (S6.ev.length : Int)) ∧ w8 = w') := Lib.hid H8.out.sh.disk.events
          have hoe := Lib.hid H8.out.oe
          clear HW8 H7 hos
          refine HEV.out.mono ?_
          rintro e w' ⟨rfl, rfl⟩
          go_wp2_with (at_builtin
                       refine wpList_app _ rfl (.tmp 79) (.tmp 82) 53 rfl 3 (.int .i64 0) 1 8 Try.underlying53 info3 rfl (by omega) (by omega) (.slice Ae ends.length ce) ends.length (nts ends) rfl
                         (hoe.out.alloc _) (fun i => i = w8.heap.size) (.slice (some ⟨w8.heap.size, 0, none⟩) 1 1) 1 [.int .i64 (S6.ev.length : Int)] rfl (Sl.one w8 3 _) (by simp [Value.oneCell']) (by omega) ?_
                       intro A9 c9 w9 ho9 hg9 hat9 _
                       have HW9 := Lib.hid (And.intro ho9 (And.intro hg9 hat9))
                       clear ho9 hg9 hat9)
          have H9 : Hid (WhSt w w9 d j F6 FJ S6 J6 (.slice A8 (sts.length + 1) c8) (.slice A9 (ends.length + 1) c9) (sts ++ [shw S6.now 8]) (ends ++ [S6.ev.length])) :=
            Lib.hid ((H8.out.later ((Below.refl _ _).alloc (Nat.le_refl _) _)).appE HW9.out.2.1 HW9.out.1 HW9.out.2.2)
          clear HW9 H8 hoe HEV
          go_roundg (m' - (i + 1))
          case measure => omega
          case rel =>
            have q1 : (sts ++ [shw S6.now 8]).length = sts.length + 1 := by simp
            have q2 : (ends ++ [S6.ev.length]).length = ends.length + 1 := by simp
            refine ⟨i + 1, _, _, _, _, sts ++ [shw S6.now 8], ends ++ [S6.ev.length], A8, A9, c8, c9, by go_num, by omega, rfl, by rw [q1], by rw [q2], by rw [q1, q2]; exact H9, HH6, HE6.out, by omega⟩
        · have hb1 : (a.k == 1) = false := by simp [hk1]
          clear hk1
          obtain ⟨q8, hq8⟩ : ∃ q8, q8 = (a.n % 8).toNat := ⟨_, rfl⟩
          have hq : q8 < 8 := by omega
          have hand : bits .and .i64 a.n 7 = (q8 : Int) := by rw [hq8]; exact and7 a.n
          obtain ⟨n8, hn8⟩ : ∃ n8, n8 = 4 + q8 := ⟨_, rfl⟩
          have hadd : IntKind.i64.wrap (4 + (q8 : Int)) = (n8 : Int) := by rw [IntKind.wrap_i64]; omega
          have hn4 : 4 ≤ n8 := by omega
          have hn12 : n8 < 12 := by omega
          clear hq8 hn8
          go_upto_region 20 with fail
          try simp only [Act.put, List.setIfInBounds_toArray, List.set_cons_zero, List.set_cons_succ]
          have HBd : Hid (WhSt w wa.drew d j F FJ S J (.slice As sts.length cs) (.slice Ae ends.length ce) sts ends) := Lib.hid (HB.out.later (Below.refl _ _).drew)
          have HAd : Hid (Blk wa.drew wr.heap.size 58 a.cells) := Lib.hid (HA1.out.below' (Below.refl _ _).drew)
          clear c0 hla HB HA1
          obtain ⟨wd, hwd⟩ : ∃ wd, wd = wa.drew := ⟨_, rfl⟩
          rw [← hwd] at HBd HAd
          obtain ⟨Inv, hInv⟩ : ∃ Inv : Done → World → Prop, Inv = Chain2 6 7 (fun wI => wI = wd) (fun x wI => ∃ A3 c3 bs, x = .slice A3 256 c3 ∧ bs.length = 256 ∧ wI.ownsRow 0 5 1 (.slice A3 256 c3) 256 (B8 bs) ∧ Below wd.heap.size wd wI) (fun x y wI => ∃ FJ' J', WhSt w wI d j F FJ' S J' (.slice As sts.length cs) (.slice Ae ends.length ce) sts ends) := ⟨_, rfl⟩
          have HI := Lib.hid hInv
          have hcz : Hid (∀ τ wI, Inv τ wI → τ 7 = none → wI.cell? ⟨wr.heap.size, 1, none⟩ = some (.int .i64 a.n) ∧ wr.heap.size < wI.heap.size) := by
            intro τ wI h h9
            rw [hInv] at h
            rcases h.upto1 h9 with rfl | ⟨x, _, _, _, _, _, _, hb⟩
            · exact ⟨by rw [HAd.out.cell]; rfl, HAd.out.lt⟩
            · have hA := HAd.out.below' hb
              exact ⟨by rw [hA.cell]; rfl, hA.lt⟩
          have hx0 : Hid (wd.cell? ⟨wr.heap.size, 0, none⟩ = some (a.cells[0]'(by simp [WActD.cells]))) := by rw [HAd.out.cell]; rfl
          have hx1 : Hid (wd.cell? ⟨wr.heap.size, 1, none⟩ = some (a.cells[1]'(by simp [WActD.cells]))) := by rw [HAd.out.cell]; rfl
          have hx2 : Hid (wd.cell? ⟨wr.heap.size, 2, none⟩ = some (a.cells[2]'(by simp [WActD.cells]))) := by rw [HAd.out.cell]; rfl
          have hx3 : Hid (wd.cell? ⟨wr.heap.size, 3, none⟩ = some (a.cells[3]'(by simp [WActD.cells]))) := by rw [HAd.out.cell]; rfl
          have hx4 : Hid (wd.cell? ⟨wr.heap.size, 4, none⟩ = some (a.cells[4]'(by simp [WActD.cells]))) := by rw [HAd.out.cell]; rfl
          have hx5 : Hid (wd.cell? ⟨wr.heap.size, 5, none⟩ = some (a.cells[5]'(by simp [WActD.cells]))) := by rw [HAd.out.cell]; rfl
          have H00 : Hid (Inv Done.none wa.drew) := by rw [hInv]; exact Chain2.start hwd.symm
          clear hInv hwd
          refine wp_region_inv (by kernel_rfl) [⟨0, false, [], [7]⟩, ⟨1, false, [], [7]⟩, ⟨2, false, [], [7]⟩, ⟨3, false, [], [7]⟩, ⟨4, false, [], [7]⟩, ⟨5, false, [], [6, 7]⟩, ⟨6, true, [], [7]⟩, ⟨7, true, [6], []⟩] (by kernel_rfl) Inv (fun i v => i = 6 → ∃ A3 c3 bs, v = .slice A3 256 c3 ∧ (bs : List UInt8).length = 256) (fun _ => ⟨.slice none 256 0, fun _ => ⟨none, 0, zeros 256, rfl, zeros256⟩⟩) H00.out ?_
          iterate 5 (apply WpI.pure; (simp only [List.getElem?_toArray, List.getElem?_cons_succ, List.getElem?_cons_zero]; rfl); (intro τ wI hA hI; obtain ⟨hc1, hcl⟩ := hcz.out τ wI hI (hA.2 7 (by decide)); go_simp; exact ⟨hI, Is.rfl'⟩); simp only [Act.put, List.setIfInBounds_toArray, List.set_cons_zero, List.set_cons_succ])
          (apply WpI.pure; (simp only [List.getElem?_toArray, List.getElem?_cons_succ, List.getElem?_cons_zero]; rfl); (intro τ wI hA hI; have h0 := hI; rw [HI.out] at h0; have h0 := h0.at0 (hA.2 6 (by decide)) (hA.2 7 (by decide)); subst h0; have x0 := hx0.out; have x1 := hx1.out; have x2 := hx2.out; have x3 := hx3.out; have x4 := hx4.out; have x5 := hx5.out; have xl := HAd.out.lt; go_simp; exact ⟨hI, Is.rfl'⟩); simp only [Act.put, List.setIfInBounds_toArray, List.set_cons_zero, List.set_cons_succ])
          apply WpI.effect; (simp only [List.getElem?_toArray, List.getElem?_cons_succ, List.getElem?_cons_zero]; rfl)
          · intro τ wI hA hn hI
            have h0 := hI
            rw [HI.out] at h0
            have h7 : τ 7 = none := hA.2 7 (by decide)
            have h0 := h0.at0 hn h7
            subst h0
            have H7 := Lib.hid h7
            clear hA hn hI h7
            go_simp
            refine (wsector_any a.k a.n a.back a.A a.m a.c a.fill a.A2 a.n2 a.c2 a.l _ _ (hin.out.b.agree (fun q hq => HBd.out.sh.below.block q hq)) hin.out.m).mono ?_
            rintro e w3 ⟨v, rfl, ⟨A3, c3, hv⟩, ho3, hf3, hb3⟩
            obtain ⟨bs, hbs⟩ : ∃ bs, bs = secOf a.l a.fill false := ⟨_, rfl⟩
            have hbl : bs.length = 256 := by rw [hbs]; simp [secOf]; omega
            rw [← hbs] at hv ho3
            rw [hbl] at hv ho3
            subst hv
            refine ⟨_, rfl, ⟨⟨A3, c3, rfl⟩, ⟨bs, hbl⟩⟩, ?_⟩
            rw [HI.out]
            exact Chain2.put1 H7.out (by decide) ⟨A3, c3, bs, rfl, hbl, ho3, hb3⟩
          intro v6 hv6
          simp only [Act.put, List.setIfInBounds_toArray, List.set_cons_zero, List.set_cons_succ]
          obtain ⟨A3, c3, _, rfl, _⟩ := hv6 rfl
          apply WpI.effect; (simp only [List.getElem?_toArray, List.getElem?_cons_succ, List.getElem?_cons_zero]; rfl)
          · intro τ wI hA hn hI
            have h0 := hI
            rw [HI.out] at h0
            have h6 : τ 6 = some (.slice A3 256 c3) := hA.1 6 (by decide)
            obtain ⟨A3', c3', bs', hv, hbl', ho', hb'⟩ := h0.at1 h6 hn
            simp only [Value.slice.injEq, true_and] at hv
            obtain ⟨rfl, rfl⟩ := hv
            have H6 := Lib.hid h6
            have HB3 := Lib.hid (HBd.out.later hb')
            have HO3 := Lib.hid ho'
            have hnow : Hid (S.now.length = 12 * 256) := Lib.hid HB3.out.sh.good.ok.now
            have hJs : Hid (J.at_ ≤ 1000000 ∧ J.sec ≤ 1000000 ∧ 1 ≤ J.sec ∧ J.put.length ≤ 1000000) := Lib.hid ⟨by rw [HB3.out.sh.at0]; omega, by rw [HB3.out.sh.sec4]; omega, by rw [HB3.out.sh.sec4]; omega, by have := HB3.out.sh.len; omega⟩
            clear hA hn hI h6 h0 hb' ho'
            go_simp
            refine (put_ok wI FJ F _ j d 12 256 (n8 : Int) J S A3 c3 bs' HB3.out.sh.jr HB3.out.sh.disk (by omega) hnow.out hJs.out.1 hJs.out.2.1 hJs.out.2.2.1 hJs.out.2.2.2 (Sl.of_own HO3.out) (by omega)).mono ?_
            rintro e w5 ⟨rfl, hj5, hm5⟩
            refine ⟨_, rfl, ?_⟩
            rw [HI.out]
            exact Chain2.put2 H6.out (by decide) ⟨_, _, HB3.out.put (n8 : Int) ⟨by omega, by omega⟩ bs' hbl' hj5 hm5⟩
          intro v7 hv7
          clear hv7
          refine WpI.done ?_
          intro wI hI
          rw [HI.out] at hI
          obtain ⟨FJ', J', hW⟩ := hI.end_ (by decide)
          have HW := Lib.hid hW
          clear hI HI H00 hcz hW
          go_wp2_with fail
          go_roundg (m' - (i + 1))
          case measure => omega
          case rel => exact ⟨i + 1, _, _, _, _, sts, ends, _, _, _, _, by go_num, by omega, rfl, rfl, rfl, HW, hhist, by omega, by omega⟩
      · obtain rfl : i = m' := by omega
        have hn480 : S.ev.length ≤ 480 := by omega
        have hend : ends.length ≤ 41 := by omega
        obtain ⟨n, hn⟩ : ∃ n, n = S.ev.length := ⟨_, rfl⟩
        have HEV : Hid (Calls Try.prog 17 #[.pointer (some ⟨d, 0, none⟩)] wr fun e w' => e = .returned (.int .i64 (n : Int)) ∧ wr = w') := by rw [hn]; exact Lib.hid hst.out.sh.disk.events
        rw [← hn] at hn480
        have HN := Lib.hid hn
        have HLE := Lib.hid hhist.out.len
        clear hev hen hn HA2
        go_wp2_with fail
        refine HEV.out.mono ?_
        rintro e w' ⟨rfl, rfl⟩
        go_wp2_with fail
        obtain ⟨ct, hctn, hct⟩ := at_fold2 cut n (by omega)
        rw [hct]
        clear hct
        refine (after_ok wr F _ d 12 ct Ak mk ck keep S hst.out.sh.disk (by omega) (by omega) hst.out.sh.good.ok (by rw [← HN.out]; exact hctn) (by rw [← HN.out]; omega) (by have := hst.out.sh.wrote; rw [← HN.out] at this; omega) (HK.out.1.agree (fun i hi => hst.out.sh.below.block i hi)) HK.out.2).mono ?_
        rintro e w2 ⟨o, rfl, ho, hb2⟩
        obtain ⟨R, hR⟩ : ∃ R, R = lossOf S ct keep := ⟨_, rfl⟩
        have hRl : R.length = 12 * 256 := by rw [hR]; exact lossK_length S 12 _ keep hst.out.sh.good.ok _
        have HTELL : Hid (∀ (k a : Nat), ends[k]? = some a → a ≤ ct → (∀ b, ends[k + 1]? = some b → ct < b) → sts[k]? = some (shq R) ∨ sts[k + 1]? = some (shq R)) := by
          rw [hR]
          exact Lib.hid (fun k a hk h1 h2 => hhist.out.tells k a hk ct keep h1 (by rw [← HN.out]; exact hctn) h2)
        have HFIRST := Lib.hid hhist.out.first
        rw [← hR] at ho
        have hdk : ∃ Fo, Dk w w2 Fo o (fresh R) ∧ ∀ b, Fo b → wr.heap.size ≤ b := by
          have hs := hst.out.sh.below.size
          exact ⟨_, ⟨ho, fresh_good hRl, by simp [fresh], by simp [fresh], fun b hb => by have := hb.1; omega⟩, fun b hb => hb.1⟩
        obtain ⟨Fo, hdk, hfo⟩ := hdk
        have HO := Lib.hid (And.intro hdk hfo)
        have HST := Lib.hid (hst.out.later hb2)
        have HRL := Lib.hid hRl
        have HVF : Hid (∀ b, (Value.slice As sts.length cs).ownBlock = some b → b < wr.heap.size) := Lib.hid (fun b hb => own_lt' hst.out.os hb)
        have HWB := Lib.hid (hst.out.sh.below.size)
        clear hdk hfo hst hb2 ho hR hRl hhist HEV HN hctn
        have hlp : 1 ≤ ends.length := by have := (List.getElem?_eq_some_iff.1 HFIRST.out).1; omega
        obtain ⟨be, cape, hve, _, hbel⟩ := HST.out.oe.form (by omega)
        simp only [Value.slice.injEq] at hve
        obtain ⟨rfl, hx, rfl⟩ := hve
        clear hx
        have hcells : ∀ (k a : Nat), ends[k]? = some a → w2.cell? ⟨be, k, none⟩ = some (.int .i64 (a : Int)) := by
          intro k a hk
          have := HST.out.oe.cells rfl k (.int .i64 (a : Int)) (by simp only [nts, List.getElem?_map, hk]; rfl)
          rwa [add_lit0, Nat.zero_add] at this
        have HCE := Lib.hid hcells
        clear hcells
        go_wp2_with fail
        go_loopg [16] ends.length (fun kq iv wx => ∃ (k a : Nat), iv = .int .i64 k ∧ kq = ends.length - k ∧ wx = w2 ∧ Hid (ends[k]? = some a) ∧ a ≤ ct)
        case atStart => exact ⟨0, 0, rfl, by omega, rfl, HFIRST, by omega⟩
        case round =>
          obtain ⟨k, a, rfl, rfl, rfl, hka, hact⟩ := hrel
          have hkl : k < ends.length := (List.getElem?_eq_some_iff.1 hka.out).1
          have w1 : IntKind.i64.wrap ((k : Int) + 1) = ((k + 1 : Nat) : Int) := by rw [IntKind.wrap_i64]; omega
          by_cases hk1 : k + 1 < ends.length
          · obtain ⟨b, hb⟩ : ∃ b, ends[k + 1]? = some b := ⟨_, List.getElem?_eq_getElem hk1⟩
            have hcb := HCE.out (k + 1) b hb
            have HB := Lib.hid hb
            clear hb
            have hk1i : ((k + 1 : Nat) : Int) < (ends.length : Int) := by omega
            obtain ⟨k1, hk1e⟩ : ∃ k1, k1 = k + 1 := ⟨_, rfl⟩
            rw [← hk1e] at w1 hcb hk1i HB
            by_cases hbc : b ≤ ct
            · have hbci : (b : Int) ≤ (ct : Int) := by omega
              have HK1 := Lib.hid hk1e
              clear hk1e
              go_wp2_with fail
              go_roundg (ends.length - (k + 1))
              case measure => omega
              case rel => exact ⟨k1, b, rfl, by rw [HK1.out], rfl, HB, hbc⟩
            · have hbci : ¬ (b : Int) ≤ (ct : Int) := by omega
              have HSH : Hid (sts[k]? = some (shq R) ∨ sts[k + 1]? = some (shq R)) := Lib.hid (HTELL.out k a hka.out hact (fun b' hb' => by have e := HB.out; rw [hk1e, hb'] at e; injection e with e; omega))
              have HK1 := Lib.hid hk1e
              clear hk1e
              go_wp2_with fail
              refine (after_ok wr Fo _ o 12 0 none 0 0 [] (fresh R) HO.out.1.disk (by omega) (by omega) HO.out.1.good.ok (by omega) (by simp [fresh]) (by simp [fresh]) (Sl.of_own (own_nil0 _ 4 1)) (by omega)).mono ?_
              rintro e w3 ⟨f, rfl, hf, hb3⟩
              have hf : DiskAt w3 (fun b => wr.heap.size ≤ b ∧ b < w3.heap.size) f (fresh R) := hf
              have HF := Lib.hid hf
              have HB3 := Lib.hid hb3
              clear hf hb3
              go_wp2_with fail
              refine (open_ok w3 _ f 12 0 4 (fresh R) HF.out (by omega) (by omega) (fresh_good HRL.out) (by omega) (by omega) (by omega) (by simp [fresh]) (by simp [fresh])).mono ?_
              rintro e w4 ⟨jf, Ff, FJf, rfl, _, hd4, hm4, hF4, _, _⟩
              have H4 := Lib.hid (And.intro hd4 (And.intro hm4 hF4))
              obtain ⟨n2, hn2⟩ : ∃ n2, n2 = (opn 12 0 4 (fresh R)).ev.length := ⟨_, rfl⟩
              have hn26 : n2 ≤ 6 := by rw [hn2]; exact (opn_good (fresh_good HRL.out) (by omega) (by omega)).2.1
              have HEV : Hid (Calls Try.prog 17 #[.pointer (some ⟨f, 0, none⟩)] w4 fun e w' => e = .returned (.int .i64 (n2 : Int)) ∧ w4 = w') := by rw [hn2]; exact Lib.hid hd4.events
              have HN2 := Lib.hid hn2
              clear hd4 hm4 hF4 hn2
              go_wp2_with fail
              refine HEV.out.mono ?_
              rintro e w' ⟨rfl, rfl⟩
              go_wp2_with fail
              rw [show ((n2 : Int) / 2) = ((n2 / 2 : Nat) : Int) from by omega]
              have HB4 : Hid (Below w.heap.size w w4) := by
                have s1 := HST.out.sh.below.size
                have s3 := HB3.out.size
                exact Lib.hid (HST.out.sh.below.trans ((HB3.out.mono s1).trans (H4.out.2.1.below (by omega) (fun b hb => by omega))))
              refine (after_ok w4 Ff _ f 12 (n2 / 2) Ak mk ck keep (opn 12 0 4 (fresh R)) H4.out.1 (by omega) (by omega) (opn_fresh HRL.out).1.ok (by rw [← HN2.out]; omega) (by have := (opn_fresh HRL.out).2.1; omega) (by have := (opn_fresh HRL.out).2.2; omega) (HK.out.1.agree (fun i hi => HB4.out.block i hi)) HK.out.2).mono ?_
              rintro e w5 ⟨h, rfl, hh, hb5⟩
              obtain ⟨R2, hR2⟩ : ∃ R2, R2 = lossOf (opn 12 0 4 (fresh R)) (n2 / 2) keep := ⟨_, rfl⟩
              have hR2l : R2.length = 12 * 256 := by rw [hR2]; exact lossK_length _ 12 _ keep (opn_fresh HRL.out).1.ok _
              have hsq : shq R2 = shq R := by rw [hR2, HN2.out]; exact half_ok HRL.out keep
              rw [← hR2] at hh
              have HFIN := Lib.hid (fin_start HRL.out hR2l HST.out.sh.below HO.out.1 HB3.out H4.out.2.1 H4.out.1 H4.out.2.2 hh hb5 HST.out.os (fun b hb e => by have := HO.out.2 b e; have := HVF.out b hb; omega))
              have HSQ := Lib.hid (And.intro hR2l hsq)
              clear hh hb5 hR2 hR2l hsq HB4 HN2 H4 HB3 HO HF HST HK HTELL HFIRST HCE HEV hn26 hbel hlp
              go_wp2_with fail
              obtain ⟨w6, hw6⟩ : ∃ w6, w6 = w5.alloc (.cells #[.pointer (some ⟨o, 0, none⟩), .pointer (some ⟨h, 0, none⟩)] 26) := ⟨_, rfl⟩
              obtain ⟨g, hg⟩ : ∃ g, g = w5.heap.size := ⟨_, rfl⟩
              rw [← hw6, ← hg] at HFIN ⊢
              clear hw6 hg
              go_loopg [166] 2 (fun kq iv wx => ∃ (i : Nat) (So Sh : Dsk), iv = .int .i64 i ∧ i ≤ 2 ∧ kq = 2 - i ∧ Hid (FinP w wx o f h g So (opn 12 0 4 (fresh R)) Sh (.slice As sts.length cs) sts) ∧ Opd R So ∧ Opd R2 Sh ∧ (1 ≤ i → So = opn 12 0 4 (fresh R)) ∧ (2 ≤ i → Sh = opn 12 0 4 (fresh R2)))
              case atStart => exact ⟨0, _, _, rfl, by omega, rfl, HFIN, .inl rfl, .inl rfl, fun h => by omega, fun h => by omega⟩
              case round =>
                clear HFIN
                obtain ⟨i, So, Sh, rfl, hi, rfl, hfin, hSo, hSh, hi1, hi2⟩ := hrel
                have HSS := Lib.hid (And.intro hSo (And.intro hSh (And.intro hi1 hi2)))
                clear hSo hSh hi1 hi2
                by_cases hl2 : i < 2
                · obtain ⟨hc0, hc1, hgl, _, _⟩ := hfin.out.at_
                  by_cases hi0 : i = 0
                  · subst hi0
                    clear hc1
                    go_wp2_with fail
                    go_loopg [22] 2 (fun kq tv wx => ∃ (t : Nat) (Sx : Dsk), tv = .int .i64 t ∧ t ≤ 2 ∧ kq = 2 - t ∧ Hid (FinP w wx o f h g Sx (opn 12 0 4 (fresh R)) Sh (.slice As sts.length cs) sts) ∧ Hid (Opd R Sx) ∧ Hid (1 ≤ t → Sx = opn 12 0 4 (fresh R)))
                    case atStart => exact ⟨0, _, rfl, by omega, rfl, hfin, Lib.hid HSS.out.1, Lib.hid (fun h => by omega)⟩
                    case round =>
                      clear hc0 hfin
                      obtain ⟨t, Sx, rfl, ht, rfl, hfin, hSx, ht1⟩ := hrel
                      by_cases htl : t < 2
                      · go_wp2_with fail
                        refine (hfin.out.openO HRL.out hSx.out).mono ?_
                        rintro e w7 ⟨j7, rfl, h7⟩
                        have H7 := Lib.hid h7
                        clear h7 hfin
                        go_wp2_with fail
                        go_roundg (2 - (t + 1))
                        case measure => omega
                        case rel => exact ⟨t + 1, _, by go_num, by omega, rfl, H7, Lib.hid (.inr rfl), Lib.hid (fun _ => rfl)⟩
                      · obtain rfl : t = 2 := by omega
                        have e := ht1.out (by omega)
                        have HF7 := Lib.hid (e ▸ hfin.out)
                        clear e hfin ht1 hSx
                        go_wp2_with fail
                        go_roundg (2 - (0 + 1))
                        case measure => omega
                        case rel => exact ⟨1, _, _, by go_num, by omega, rfl, HF7, .inr rfl, HSS.out.2.1, fun _ => rfl, fun h => by omega⟩
                  · obtain rfl : i = 1 := by omega
                    clear hi0 hc0
                    have e := HSS.out.2.2.1 (by omega)
                    have HF6 := Lib.hid (e ▸ hfin.out)
                    clear e hfin
                    go_wp2_with fail
                    go_loopg [22] 2 (fun kq tv wx => ∃ (t : Nat) (Sx : Dsk), tv = .int .i64 t ∧ t ≤ 2 ∧ kq = 2 - t ∧ Hid (FinP w wx o f h g (opn 12 0 4 (fresh R)) (opn 12 0 4 (fresh R)) Sx (.slice As sts.length cs) sts) ∧ Hid (Opd R2 Sx) ∧ Hid (1 ≤ t → Sx = opn 12 0 4 (fresh R2)))
                    case atStart => exact ⟨0, _, rfl, by omega, rfl, HF6, Lib.hid HSS.out.2.1, Lib.hid (fun h => by omega)⟩
                    case round =>
                      clear hc1 HF6
                      obtain ⟨t, Sx, rfl, ht, rfl, hfin, hSx, ht1⟩ := hrel
                      by_cases htl : t < 2
                      · go_wp2_with fail
                        refine (hfin.out.openH HSQ.out.1 hSx.out).mono ?_
                        rintro e w7 ⟨j7, rfl, h7⟩
                        have H7 := Lib.hid h7
                        clear h7 hfin
                        go_wp2_with fail
                        go_roundg (2 - (t + 1))
                        case measure => omega
                        case rel => exact ⟨t + 1, _, by go_num, by omega, rfl, H7, Lib.hid (.inr rfl), Lib.hid (fun _ => rfl)⟩
                      · obtain rfl : t = 2 := by omega
                        have e := ht1.out (by omega)
                        have HF7 := Lib.hid (e ▸ hfin.out)
                        clear e hfin ht1 hSx
                        go_wp2_with fail
                        go_roundg (2 - (1 + 1))
                        case measure => omega
                        case rel => exact ⟨2, _, _, by go_num, by omega, rfl, HF7, .inr rfl, .inr rfl, fun _ => rfl, fun _ => rfl⟩
                · obtain rfl : i = 2 := by omega
                  have e1 := HSS.out.2.2.1 (by omega)
                  have e2 := HSS.out.2.2.2 (by omega)
                  subst e1 e2
                  have HF8 := Lib.hid hfin.out
                  clear hfin HSS
                  have hq : shw (opn 12 0 4 (fresh R2)).now 8 = shw (opn 12 0 4 (fresh R)).now 8 := HSQ.out.2
                  obtain ⟨sR, hsR⟩ : ∃ sR, sR = shw (opn 12 0 4 (fresh R)).now 8 := ⟨_, rfl⟩
                  have HSR := Lib.hid hsR
                  have HQ := Lib.hid (hq.trans hsR.symm)
                  have HSH2 : Hid (sts[k]? = some sR ∨ sts[k + 1]? = some sR) := by rw [hsR]; exact HSH
                  clear hq hsR HSH
                  obtain ⟨_, _, _, _, hos⟩ := HF8.out.at_
                  obtain ⟨bs, capb, hvs, _, _⟩ := hos.form (by have := HLE.out; omega)
                  simp only [Value.slice.injEq] at hvs
                  obtain ⟨rfl, hx, rfl⟩ := hvs
                  clear hx hos
                  go_wp2_with fail
                  refine HF8.out.shown_.1.mono ?_
                  rintro e w9 ⟨rfl, h9⟩
                  rw [← HSR.out]
                  have H9 := Lib.hid h9
                  clear h9 HF8
                  go_wp2_with fail
                  refine H9.out.shown_.2.1.mono ?_
                  rintro e w10 ⟨rfl, h10⟩
                  rw [← HSR.out]
                  have H10 := Lib.hid h10
                  clear h10 H9
                  go_wp2_with fail
                  refine H10.out.shown_.2.2.mono ?_
                  rintro e w11 ⟨rfl, h11⟩
                  rw [HQ.out]
                  have H11 := Lib.hid h11
                  clear h11 H10
                  have hcl : Hid (∀ (k : Nat) (s : ByteArray), sts[k]? = some s → w11.cell? ⟨bs, k, none⟩ = some (.string s)) := by
                    refine Lib.hid fun k s hk => ?_
                    have := H11.out.at_.2.2.2.2.cells rfl k (.string s) (by simp only [bas, List.getElem?_map, hk]; rfl)
                    rwa [add_lit0, Nat.zero_add] at this
                  have HBL := Lib.hid H11.out.at_.2.2.2.1
                  have hks : k < sts.length := by have := HLE.out; omega
                  obtain ⟨sk, hsk⟩ : ∃ sk, sts[k]? = some sk := ⟨_, List.getElem?_eq_getElem hks⟩
                  have hc0 := hcl.out k sk hsk
                  have HSK := Lib.hid hsk
                  clear hsk H11
                  by_cases hskR : sk = sR
                  · subst hskR
                    go_wp2_with fail
                    go_ret
                    exact ⟨rfl, HBL.out⟩
                  · have hsR1 : sts[k1]? = some sR := by
                      rw [HK1.out]
                      rcases HSH2.out with h | h
                      · rw [HSK.out] at h; injection h with h; exact (hskR h).elim
                      · exact h
                    have hk1l : k1 < sts.length := (List.getElem?_eq_some_iff.1 hsR1).1
                    have hc1 := hcl.out k1 sR hsR1
                    have hk1li : (k1 : Int) < (sts.length : Int) := by omega
                    clear hsR1
                    go_wp2_with fail
                    all_goals
                      go_ret
                      exact ⟨rfl, HBL.out⟩
          · have hk1i : ¬ ((k + 1 : Nat) : Int) < (ends.length : Int) := by omega
            obtain ⟨k1, hk1e⟩ : ∃ k1, k1 = k + 1 := ⟨_, rfl⟩
            have HSH : Hid (sts[k]? = some (shq R) ∨ sts[k + 1]? = some (shq R)) := Lib.hid (HTELL.out k a hka.out hact (fun b' hb' => by have := (List.getElem?_eq_some_iff.1 hb').1; omega))
            rw [← hk1e] at w1 hk1i
            have HK1 := Lib.hid hk1e
            clear hk1e
            go_wp2_with fail
            refine (after_ok wr Fo _ o 12 0 none 0 0 [] (fresh R) HO.out.1.disk (by omega) (by omega) HO.out.1.good.ok (by omega) (by simp [fresh]) (by simp [fresh]) (Sl.of_own (own_nil0 _ 4 1)) (by omega)).mono ?_
            rintro e w3 ⟨f, rfl, hf, hb3⟩
            have hf : DiskAt w3 (fun b => wr.heap.size ≤ b ∧ b < w3.heap.size) f (fresh R) := hf
            have HF := Lib.hid hf
            have HB3 := Lib.hid hb3
            clear hf hb3
            go_wp2_with fail
            refine (open_ok w3 _ f 12 0 4 (fresh R) HF.out (by omega) (by omega) (fresh_good HRL.out) (by omega) (by omega) (by omega) (by simp [fresh]) (by simp [fresh])).mono ?_
            rintro e w4 ⟨jf, Ff, FJf, rfl, _, hd4, hm4, hF4, _, _⟩
            have H4 := Lib.hid (And.intro hd4 (And.intro hm4 hF4))
            obtain ⟨n2, hn2⟩ : ∃ n2, n2 = (opn 12 0 4 (fresh R)).ev.length := ⟨_, rfl⟩
            have hn26 : n2 ≤ 6 := by rw [hn2]; exact (opn_good (fresh_good HRL.out) (by omega) (by omega)).2.1
            have HEV : Hid (Calls Try.prog 17 #[.pointer (some ⟨f, 0, none⟩)] w4 fun e w' => e = .returned (.int .i64 (n2 : Int)) ∧ w4 = w') := by rw [hn2]; exact Lib.hid hd4.events
            have HN2 := Lib.hid hn2
            clear hd4 hm4 hF4 hn2
            go_wp2_with fail
            refine HEV.out.mono ?_
            rintro e w' ⟨rfl, rfl⟩
            go_wp2_with fail
            rw [show ((n2 : Int) / 2) = ((n2 / 2 : Nat) : Int) from by omega]
            have HB4 : Hid (Below w.heap.size w w4) := by
              have s1 := HST.out.sh.below.size
              have s3 := HB3.out.size
              exact Lib.hid (HST.out.sh.below.trans ((HB3.out.mono s1).trans (H4.out.2.1.below (by omega) (fun b hb => by omega))))
            refine (after_ok w4 Ff _ f 12 (n2 / 2) Ak mk ck keep (opn 12 0 4 (fresh R)) H4.out.1 (by omega) (by omega) (opn_fresh HRL.out).1.ok (by rw [← HN2.out]; omega) (by have := (opn_fresh HRL.out).2.1; omega) (by have := (opn_fresh HRL.out).2.2; omega) (HK.out.1.agree (fun i hi => HB4.out.block i hi)) HK.out.2).mono ?_
            rintro e w5 ⟨h, rfl, hh, hb5⟩
            obtain ⟨R2, hR2⟩ : ∃ R2, R2 = lossOf (opn 12 0 4 (fresh R)) (n2 / 2) keep := ⟨_, rfl⟩
            have hR2l : R2.length = 12 * 256 := by rw [hR2]; exact lossK_length _ 12 _ keep (opn_fresh HRL.out).1.ok _
            have hsq : shq R2 = shq R := by rw [hR2, HN2.out]; exact half_ok HRL.out keep
            rw [← hR2] at hh
            have HFIN := Lib.hid (fin_start HRL.out hR2l HST.out.sh.below HO.out.1 HB3.out H4.out.2.1 H4.out.1 H4.out.2.2 hh hb5 HST.out.os (fun b hb e => by have := HO.out.2 b e; have := HVF.out b hb; omega))
            have HSQ := Lib.hid (And.intro hR2l hsq)
            clear hh hb5 hR2 hR2l hsq HB4 HN2 H4 HB3 HO HF HST HK HTELL HFIRST HCE HEV hn26 hbel hlp
            go_wp2_with fail
            obtain ⟨w6, hw6⟩ : ∃ w6, w6 = w5.alloc (.cells #[.pointer (some ⟨o, 0, none⟩), .pointer (some ⟨h, 0, none⟩)] 26) := ⟨_, rfl⟩
            obtain ⟨g, hg⟩ : ∃ g, g = w5.heap.size := ⟨_, rfl⟩
            rw [← hw6, ← hg] at HFIN ⊢
            clear hw6 hg
            go_loopg [166] 2 (fun kq iv wx => ∃ (i : Nat) (So Sh : Dsk), iv = .int .i64 i ∧ i ≤ 2 ∧ kq = 2 - i ∧ Hid (FinP w wx o f h g So (opn 12 0 4 (fresh R)) Sh (.slice As sts.length cs) sts) ∧ Opd R So ∧ Opd R2 Sh ∧ (1 ≤ i → So = opn 12 0 4 (fresh R)) ∧ (2 ≤ i → Sh = opn 12 0 4 (fresh R2)))
            case atStart => exact ⟨0, _, _, rfl, by omega, rfl, HFIN, .inl rfl, .inl rfl, fun h => by omega, fun h => by omega⟩
            case round =>
              clear HFIN
              obtain ⟨i, So, Sh, rfl, hi, rfl, hfin, hSo, hSh, hi1, hi2⟩ := hrel
              have HSS := Lib.hid (And.intro hSo (And.intro hSh (And.intro hi1 hi2)))
              clear hSo hSh hi1 hi2
              by_cases hl2 : i < 2
              · obtain ⟨hc0, hc1, hgl, _, _⟩ := hfin.out.at_
                by_cases hi0 : i = 0
                · subst hi0
                  clear hc1
                  go_wp2_with fail
                  go_loopg [22] 2 (fun kq tv wx => ∃ (t : Nat) (Sx : Dsk), tv = .int .i64 t ∧ t ≤ 2 ∧ kq = 2 - t ∧ Hid (FinP w wx o f h g Sx (opn 12 0 4 (fresh R)) Sh (.slice As sts.length cs) sts) ∧ Hid (Opd R Sx) ∧ Hid (1 ≤ t → Sx = opn 12 0 4 (fresh R)))
                  case atStart => exact ⟨0, _, rfl, by omega, rfl, hfin, Lib.hid HSS.out.1, Lib.hid (fun h => by omega)⟩
                  case round =>
                    clear hc0 hfin
                    obtain ⟨t, Sx, rfl, ht, rfl, hfin, hSx, ht1⟩ := hrel
                    by_cases htl : t < 2
                    · go_wp2_with fail
                      refine (hfin.out.openO HRL.out hSx.out).mono ?_
                      rintro e w7 ⟨j7, rfl, h7⟩
                      have H7 := Lib.hid h7
                      clear h7 hfin
                      go_wp2_with fail
                      go_roundg (2 - (t + 1))
                      case measure => omega
                      case rel => exact ⟨t + 1, _, by go_num, by omega, rfl, H7, Lib.hid (.inr rfl), Lib.hid (fun _ => rfl)⟩
                    · obtain rfl : t = 2 := by omega
                      have e := ht1.out (by omega)
                      have HF7 := Lib.hid (e ▸ hfin.out)
                      clear e hfin ht1 hSx
                      go_wp2_with fail
                      go_roundg (2 - (0 + 1))
                      case measure => omega
                      case rel => exact ⟨1, _, _, by go_num, by omega, rfl, HF7, .inr rfl, HSS.out.2.1, fun _ => rfl, fun h => by omega⟩
                · obtain rfl : i = 1 := by omega
                  clear hi0 hc0
                  have e := HSS.out.2.2.1 (by omega)
                  have HF6 := Lib.hid (e ▸ hfin.out)
                  clear e hfin
                  go_wp2_with fail
                  go_loopg [22] 2 (fun kq tv wx => ∃ (t : Nat) (Sx : Dsk), tv = .int .i64 t ∧ t ≤ 2 ∧ kq = 2 - t ∧ Hid (FinP w wx o f h g (opn 12 0 4 (fresh R)) (opn 12 0 4 (fresh R)) Sx (.slice As sts.length cs) sts) ∧ Hid (Opd R2 Sx) ∧ Hid (1 ≤ t → Sx = opn 12 0 4 (fresh R2)))
                  case atStart => exact ⟨0, _, rfl, by omega, rfl, HF6, Lib.hid HSS.out.2.1, Lib.hid (fun h => by omega)⟩
                  case round =>
                    clear hc1 HF6
                    obtain ⟨t, Sx, rfl, ht, rfl, hfin, hSx, ht1⟩ := hrel
                    by_cases htl : t < 2
                    · go_wp2_with fail
                      refine (hfin.out.openH HSQ.out.1 hSx.out).mono ?_
                      rintro e w7 ⟨j7, rfl, h7⟩
                      have H7 := Lib.hid h7
                      clear h7 hfin
                      go_wp2_with fail
                      go_roundg (2 - (t + 1))
                      case measure => omega
                      case rel => exact ⟨t + 1, _, by go_num, by omega, rfl, H7, Lib.hid (.inr rfl), Lib.hid (fun _ => rfl)⟩
                    · obtain rfl : t = 2 := by omega
                      have e := ht1.out (by omega)
                      have HF7 := Lib.hid (e ▸ hfin.out)
                      clear e hfin ht1 hSx
                      go_wp2_with fail
                      go_roundg (2 - (1 + 1))
                      case measure => omega
                      case rel => exact ⟨2, _, _, by go_num, by omega, rfl, HF7, .inr rfl, .inr rfl, fun _ => rfl, fun _ => rfl⟩
              · obtain rfl : i = 2 := by omega
                have e1 := HSS.out.2.2.1 (by omega)
                have e2 := HSS.out.2.2.2 (by omega)
                subst e1 e2
                have HF8 := Lib.hid hfin.out
                clear hfin HSS
                have hq : shw (opn 12 0 4 (fresh R2)).now 8 = shw (opn 12 0 4 (fresh R)).now 8 := HSQ.out.2
                obtain ⟨sR, hsR⟩ : ∃ sR, sR = shw (opn 12 0 4 (fresh R)).now 8 := ⟨_, rfl⟩
                have HSR := Lib.hid hsR
                have HQ := Lib.hid (hq.trans hsR.symm)
                have HSH2 : Hid (sts[k]? = some sR ∨ sts[k + 1]? = some sR) := by rw [hsR]; exact HSH
                clear hq hsR HSH
                obtain ⟨_, _, _, _, hos⟩ := HF8.out.at_
                obtain ⟨bs, capb, hvs, _, _⟩ := hos.form (by have := HLE.out; omega)
                simp only [Value.slice.injEq] at hvs
                obtain ⟨rfl, hx, rfl⟩ := hvs
                clear hx hos
                go_wp2_with fail
                refine HF8.out.shown_.1.mono ?_
                rintro e w9 ⟨rfl, h9⟩
                rw [← HSR.out]
                have H9 := Lib.hid h9
                clear h9 HF8
                go_wp2_with fail
                refine H9.out.shown_.2.1.mono ?_
                rintro e w10 ⟨rfl, h10⟩
                rw [← HSR.out]
                have H10 := Lib.hid h10
                clear h10 H9
                go_wp2_with fail
                refine H10.out.shown_.2.2.mono ?_
                rintro e w11 ⟨rfl, h11⟩
                rw [HQ.out]
                have H11 := Lib.hid h11
                clear h11 H10
                have hcl : Hid (∀ (k : Nat) (s : ByteArray), sts[k]? = some s → w11.cell? ⟨bs, k, none⟩ = some (.string s)) := by
                  refine Lib.hid fun k s hk => ?_
                  have := H11.out.at_.2.2.2.2.cells rfl k (.string s) (by simp only [bas, List.getElem?_map, hk]; rfl)
                  rwa [add_lit0, Nat.zero_add] at this
                have HBL := Lib.hid H11.out.at_.2.2.2.1
                have hks : k < sts.length := by have := HLE.out; omega
                obtain ⟨sk, hsk⟩ : ∃ sk, sts[k]? = some sk := ⟨_, List.getElem?_eq_getElem hks⟩
                have hc0 := hcl.out k sk hsk
                have HSK := Lib.hid hsk
                clear hsk H11
                by_cases hskR : sk = sR
                · subst hskR
                  go_wp2_with fail
                  go_ret
                  exact ⟨rfl, HBL.out⟩
                · have hsR1 : sts[k1]? = some sR := by
                    rw [HK1.out]
                    rcases HSH2.out with h | h
                    · rw [HSK.out] at h; injection h with h; exact (hskR h).elim
                    · exact h
                  have hk1l : k1 < sts.length := (List.getElem?_eq_some_iff.1 hsR1).1
                  have hc1 := hcl.out k1 sR hsR1
                  have hk1li : (k1 : Int) < (sts.length : Int) := by omega
                  clear hsR1
                  go_wp2_with fail
                  all_goals
                    go_ret
                    exact ⟨rfl, HBL.out⟩
end Go.Proofs.Ytjdobjcbmmdjeaa
