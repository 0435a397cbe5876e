import Derived.Test.YtjdobjcbmmdjeaaS3
namespace Go.Proofs.Ytjdobjcbmmdjeaa
open Go.RowKit

theorem info4b : (Try.prog.info? 4).map (fun i => (i.zero, i.size, i.bytes)) = some (some (.bool false), 1, 1) := by kernel_rfl

set_option maxRecDepth 100000 in
set_option maxHeartbeats 4000000 in
theorem blockPlays_walk (sectors : Int) (A : Option Addr) (m c : Nat) (acts : List ActD) (w : World) (hA : ActsIn w A m c acts) :
    Calls Try.prog 4 #[.int .i64 sectors, .slice A m c] w fun e w' => e = .returned (.bool true) ∧ Below w.heap.size w w' := by
  have HA := Lib.hid hA
  have hm : m ≤ 140737488351232 := hA.max
  have hmc : m ≤ c := hA.cap
  clear hA
  by_cases hs : sectors < 1 ∨ 2048 < sectors
  · go_enter Try.func4, Try.ntmps4
    go_wp2_with fail
    refine (new_bad sectors w hs).mono ?_
    rintro e w' ⟨rfl, rfl⟩
    go_wp2_with fail
    refine (rnew_bad sectors w hs).mono ?_
    rintro e w' ⟨rfl, rfl⟩
    clear hs
    go_wp2_with fail
    refine (names_ok w).mono ?_
    rintro e w' ⟨rfl, rfl⟩
    go_wp2_with fail
    all_goals
      go_loopg [5, 7, 9] 0 (fun kq dv rv i wr => i = .int .i64 0 ∧ kq = 0 ∧ dv = .pointer none ∧ rv = .pointer none ∧ wr = w)
      case atStart => exact ⟨rfl, rfl, rfl, rfl, rfl⟩
      case round =>
        obtain ⟨rfl, rfl, rfl, rfl, rfl⟩ := hrel
        by_cases h0 : 0 < m
        · have h0i : (0 : Int) < (m : Int) := by omega
          have h0d : decide (0 < m) = true := by simp [h0]
          go_wp2_with fail
          all_goals
            go_ret
            exact ⟨rfl, Below.refl _ _⟩
        · obtain rfl : m = 0 := by omega
          go_wp2_with fail
          go_ret
          exact ⟨rfl, Below.refl _ _⟩
  · obtain ⟨k, rfl⟩ : ∃ k : Nat, sectors = (k : Int) := ⟨sectors.toNat, by omega⟩
    have hk1 : 1 ≤ k := by omega
    have hk : k ≤ 2048 := by omega
    clear hs
    go_enter Try.func4, Try.ntmps4
    go_wp2_with fail
    refine (new_ok k w hk1 hk).mono ?_
    rintro e w1 ⟨d, rfl, hd, hb⟩
    have HD := Lib.hid (And.intro hd hb)
    clear hd hb
    go_wp2_with fail
    refine (rnew_ok k w1 hk1 hk).mono ?_
    rintro e w2 ⟨r, rfl, hr, hb⟩
    have HST : Hid (∃ F G, PlSt w w2 d r F G ⟨zeros (k * 256), zeros (k * 256), [], []⟩ ⟨List.replicate k (zeros 256), []⟩ k) := by
      have hsz := HD.out.2.size
      refine Lib.hid ⟨_, _, HD.out.2.trans (hb.mono hsz), HD.out.1.below hb, hr, rel_new k, Dsk.good_new k, by simp, fun b hb => hb.1, fun b hb => by omega, fun b hb e => by omega⟩
    clear hr hb HD
    go_wp2_with fail
    refine (names_ok w2).mono ?_
    rintro e w' ⟨rfl, rfl⟩
    go_upto_if 45 with fail
    go_cut [1] (fun v wx => wx = w2 ∧ v = .slice A (min m 60) c)
    case first =>
      go_wp2_with fail
      all_goals go_meet
      · exact ⟨rfl, by rw [show min m 60 = 60 from by omega]⟩
      · exact ⟨rfl, by rw [show min m 60 = m from by omega]⟩
    case rest =>
      obtain ⟨rfl, rfl⟩ := hcut
      obtain ⟨m', hm'⟩ : ∃ m', m' = min m 60 := ⟨_, rfl⟩
      rw [← hm']
      have HA2 := Lib.hid (HA.out.take m' (by omega))
      have hm60 : m' ≤ 60 := by omega
      have hmc2 : m' ≤ c := by omega
      clear HA hm' hm hmc
      have hex := HST.out
      obtain ⟨F0, G0, hst0⟩ := hex
      have HST0 := Lib.hid hst0
      clear hst0 HST
      go_wp2_with fail
      go_loopg [5, 7, 9] m' (fun kq dv rv i wr => ∃ (j d r : Nat) (F G : Nat → Prop) (S : Dsk) (R : RDsk), i = .int .i64 j ∧ j ≤ m' ∧ kq = m' - j ∧ dv = .pointer (some ⟨d, 0, none⟩) ∧ rv = .pointer (some ⟨r, 0, none⟩) ∧
        Hid (PlSt w wr d r F G S R k) ∧ S.ev.length ≤ j)
      case atStart => exact ⟨0, d, r, _, _, _, _, rfl, by omega, rfl, rfl, rfl, HST0, Nat.le_refl _⟩
      case round =>
        clear HST0
        obtain ⟨j, d, r, F, G, S, R, rfl, hj, rfl, rfl, rfl, hst, hev⟩ := hrel
        by_cases hlt : j < m'
        · obtain ⟨ab, ao, hA, hab, hcells⟩ := HA2.out.at_ (by omega)
          subst hA
          obtain ⟨a, ha⟩ : ∃ a, (acts.take m')[j]? = some a := ⟨_, List.getElem?_eq_getElem (by rw [HA2.out.len]; exact hlt)⟩
          have hin := Lib.hid (HA2.out.each a (List.mem_of_getElem? ha))
          have hold : ∀ q u, a.cells[q]? = some u → wr.cell? ⟨ab, ao + j * 6 + q, none⟩ = some u := fun q u hu => (hst.out.below.cell (p := ⟨ab, _, none⟩) hab).trans (hcells j a ha q u hu)
          have e0 := hold 0 _ rfl
          have e1 := hold 1 _ rfl
          have e2 := hold 2 _ rfl
          have e3 := hold 3 _ rfl
          have e4 := hold 4 _ rfl
          have e5 := hold 5 _ rfl
          rw [Nat.add_zero] at e0
          clear hold hcells ha
          have HB := Lib.hid (hst.out.later ((Below.refl _ _).alloc (Nat.le_refl _) (.cells #[.int .i64 a.k, .int .i64 a.n, .slice a.A a.m a.c, .int .u8 (a.fill.toNat : Int), .bool a.odd, .slice a.A2 a.n2 a.c2] 25)))
          have ha1 : Hid (Blk (wr.alloc (.cells #[.int .i64 a.k, .int .i64 a.n, .slice a.A a.m a.c, .int .u8 (a.fill.toNat : Int), .bool a.odd, .slice a.A2 a.n2 a.c2] 25)) wr.heap.size 25 a.cells) := Blk.new wr 25 _
          have HFG : Hid (∀ b, F b ∨ G b → b < wr.heap.size) := fun b hb => hb.elim (fun hb => hst.out.disk.lt hb) (fun hb => hst.out.ref.lt hb)
          have hjb : j ≤ 60 := by omega
          have hwl : w.heap.size ≤ wr.heap.size := hst.out.below.size
          have f1 := Blk.cell ha1.out 0
          have f2 := Blk.cell ha1.out 1
          have f3 := Blk.cell ha1.out 2
          have f4 := Blk.cell ha1.out 3
          have f5 := Blk.cell ha1.out 4
          have f6 := Blk.cell ha1.out 5
          simp only [ActD.cells, List.getElem?_cons_succ, List.getElem?_cons_zero] at f1 f2 f3 f4 f5 f6
          have hlt1 : wr.heap.size < (wr.alloc (.cells #[.int .i64 a.k, .int .i64 a.n, .slice a.A a.m a.c, .int .u8 (a.fill.toNat : Int), .bool a.odd, .slice a.A2 a.n2 a.c2] 25)).heap.size := Blk.lt ha1.out
          clear hst
          obtain ⟨W0, hW0⟩ : ∃ W0, W0 = wr.alloc (.cells #[.int .i64 a.k, .int .i64 a.n, .slice a.A a.m a.c, .int .u8 (a.fill.toNat : Int), .bool a.odd, .slice a.A2 a.n2 a.c2] 25) := ⟨_, rfl⟩
          rw [← hW0] at HB ha1 f1 f2 f3 f4 f5 f6 hlt1
          by_cases hk0 : a.k = 0
          · have HK0 := Lib.hid hk0
            rw [HK0.out] at e0 f1
            clear hk0
            go_upto_region 13 with fail
            rw [HK0.out] at hW0
            rw [← hW0]
            clear hW0 e0 e1 e2 e3 e4 e5
            go_wp2_with fail
            have HSL := Lib.hid (hin.out.b.agree (w' := W0) (fun i hi => HB.out.below.block i hi))
            refine (sector_any 0 a.n a.A a.m a.c a.fill a.odd a.A2 a.n2 a.c2 a.l _ W0 HSL.out hin.out.m).mono ?_
            rintro e w3 ⟨v, rfl, ⟨A3, c3, hv⟩, ho3, hf3, hb3⟩
            obtain ⟨bs, hbs⟩ : ∃ bs, bs = secOf a.l a.fill a.odd := ⟨_, rfl⟩
            have hbl : bs.length ≤ 140737488351232 + 256 := by
              have h1 : a.l.length = a.m := by have := hin.out.b.1; rw [B8_length] at this; omega
              have h2 := hin.out.m
              rw [hbs]; unfold secOf
              split
              · omega
              · rw [List.length_take]; omega
            rw [← hbs] at hv ho3
            obtain ⟨mb, hmb⟩ : ∃ mb, mb = bs.length := ⟨_, rfl⟩
            rw [← hmb] at hv ho3 hbl
            subst hv
            have HMB := Lib.hid hmb
            have H3 := Lib.hid (HB.out.later hb3)
            have HA3 := Lib.hid (ha1.out.below' hb3)
            have HW3 := Lib.hid (And.intro ho3 (And.intro hf3 hb3))
            clear hb3 ho3 hf3 HB ha1 hbs hmb f1 f2 f3 f4 f5 f6 HSL
            go_wp2_with (at_builtin
                         refine wpList_app _ rfl (.tmp 68) (.tmp 69) 22 rfl 5 (.int .u8 0) 1 1 Try.underlying22 info5 rfl (by omega) (by omega) (.slice (some ⟨w3.heap.size, 0, none⟩) 0 0) 0 [] rfl
                           ?_ _ (.slice A3 mb c3) mb (B8 bs) rfl (Sl.of_own (HW3.out.1.alloc _)) (B8_one bs) (by omega) ?_
                         rotate_left 1
                         intro A4 c4 w4 ho4 hg4 hat4 _
                         have hb4 : Below w3.heap.size w3 w4 := ((Below.refl _ _).alloc (Nat.le_refl _) _).grown hg4 (by simp) (by simp [Value.ownBlock])
                         have hfr : ∀ b, (Value.slice A4 (0 + mb) c4).ownBlock = some b → w3.heap.size ≤ b := by
                           intro b hb
                           rcases hat4 with e | e <;> rw [e] at hb <;> simp [Value.ownBlock] at hb <;> omega
                         have H4 := Lib.hid (H3.out.later hb4)
                         have HA4 := Lib.hid (HA3.out.below' hb4)
                         have HO4 := Lib.hid (And.intro ho4 (And.intro hfr (And.intro (own_below HW3.out.1 hb4) hb4)))
                         clear ho4 hg4 hat4 hb4 hfr)
            case refine_1 => simpa using own_of_blk (cs := []) (Blk.new w3 5 #[]) 1 0 rfl (by simp [maxLen])
            rw [Nat.zero_add] at HO4
            have hx1 : w4.drew.cell? ⟨wr.heap.size, 1, none⟩ = some (.int .i64 a.n) := by rw [HA4.out.drew.cell]; rfl
            have hxl : wr.heap.size < w4.drew.heap.size := HA4.out.lt
            go_upto_region 15 with fail
            try simp only [Act.put, List.setIfInBounds_toArray, List.set_cons_zero, List.set_cons_succ]
            have HFr : Hid (∀ b, F b ∨ G b → b < W0.heap.size ∧ b ≠ wr.heap.size) := fun b hb => ⟨by have := HFG.out b hb; omega, fun e => by have := HFG.out b hb; omega⟩
            obtain ⟨Inv, hInv⟩ : ∃ Inv : Done → World → Prop, Inv = Chain2 4 9 (fun wI => wI = w4.drew) (fun x wI => x = .int .i64 (wErr k mb a.n) ∧ DiskAt wI (fun b => F b ∨ (w4.drew.heap.size ≤ b ∧ b < wI.heap.size)) d (wDsk S k mb a.n bs) ∧ Mod F w4.drew wI)
              (fun x y wI => y = .int .i64 (wErr k mb a.n) ∧ x = .int .i64 (wErr k mb a.n) ∧ (∃ F G, PlSt w wI d r F G (wDsk S k mb a.n bs) (wRef R k mb a.n bs) k ∧ (∀ b, (Value.slice A4 mb c4).ownBlock = some b → ¬ F b ∧ ¬ G b)) ∧ Mod (fun b => F b ∨ G b) w4.drew wI) := ⟨_, rfl⟩
            have HI := Lib.hid hInv
            have HCn : Hid (∀ τ wI, Inv τ wI → τ 9 = none → wI.cell? ⟨wr.heap.size, 1, none⟩ = some (.int .i64 a.n)) := by
              intro τ wI h h9
              rw [hInv] at h
              rcases h.upto1 h9 with rfl | ⟨x, _, _, hm⟩
              · exact hx1
              · rw [(HA4.out.drew.mod hm (fun e => (HFr.out _ (.inl e)).2 rfl)).cell]; rfl
            have HCl : Hid (∀ τ wI, Inv τ wI → τ 9 = none → wr.heap.size < wI.heap.size) := by
              intro τ wI h h9
              rw [hInv] at h
              rcases h.upto1 h9 with rfl | ⟨x, _, _, hm⟩
              · exact hxl
              · have := hm.size; omega
            have H00 : Hid (Inv Done.none w4.drew) := by rw [hInv]; exact Chain2.start rfl
            clear hInv hx1 hxl
            refine wp_region_inv (by kernel_rfl) [⟨0, false, [], [4, 9]⟩, ⟨1, false, [], [4, 9]⟩, ⟨2, false, [], [4, 9]⟩, ⟨3, false, [], [4, 9]⟩, ⟨5, false, [], [9]⟩, ⟨6, false, [], [9]⟩, ⟨7, false, [], [9]⟩, ⟨8, false, [], [9]⟩, ⟨4, true, [], [9]⟩, ⟨9, true, [4], []⟩, ⟨10, false, [4, 9], []⟩] (by kernel_rfl) Inv (fun e v => v = .int .i64 (wErr k mb a.n)) (fun _ => ⟨_, rfl⟩) H00.out ?_
            iterate 2 (apply WpI.pure; (simp only [List.getElem?_toArray, List.getElem?_cons_succ, List.getElem?_cons_zero]; rfl); (intro τ wI hA hI; go_simp; exact ⟨hI, Is.rfl'⟩); simp only [Act.put, List.setIfInBounds_toArray, List.set_cons_zero, List.set_cons_succ])
            (apply WpI.pure; (simp only [List.getElem?_toArray, List.getElem?_cons_succ, List.getElem?_cons_zero]; rfl); (intro τ wI hA hI; have hc : wI.cell? ⟨wr.heap.size, 1, none⟩ = some (.int .i64 a.n) := HCn.out τ wI hI (hA.2 9 (by decide)); have hc2 : wr.heap.size < wI.heap.size := HCl.out τ wI hI (hA.2 9 (by decide)); go_simp; exact ⟨hI, Is.rfl'⟩); simp only [Act.put, List.setIfInBounds_toArray, List.set_cons_zero, List.set_cons_succ])
            iterate 3 (apply WpI.pure; (simp only [List.getElem?_toArray, List.getElem?_cons_succ, List.getElem?_cons_zero]; rfl); (intro τ wI hA hI; go_simp; exact ⟨hI, Is.rfl'⟩); simp only [Act.put, List.setIfInBounds_toArray, List.set_cons_zero, List.set_cons_succ])
            (apply WpI.pure; (simp only [List.getElem?_toArray, List.getElem?_cons_succ, List.getElem?_cons_zero]; rfl); (intro τ wI hA hI; have hc : wI.cell? ⟨wr.heap.size, 1, none⟩ = some (.int .i64 a.n) := HCn.out τ wI hI (hA.2 9 (by decide)); have hc2 : wr.heap.size < wI.heap.size := HCl.out τ wI hI (hA.2 9 (by decide)); go_simp; exact ⟨hI, Is.rfl'⟩); simp only [Act.put, List.setIfInBounds_toArray, List.set_cons_zero, List.set_cons_succ])
            (apply WpI.pure; (simp only [List.getElem?_toArray, List.getElem?_cons_succ, List.getElem?_cons_zero]; rfl); (intro τ wI hA hI; go_simp; exact ⟨hI, Is.rfl'⟩); simp only [Act.put, List.setIfInBounds_toArray, List.set_cons_zero, List.set_cons_succ])
            apply WpI.effect; (simp only [List.getElem?_toArray, List.getElem?_cons_succ, List.getElem?_cons_zero]; rfl)
            · intro τ wI hA hn hI
              have h0 := hI
              rw [HI.out] at h0
              have h9 : τ 9 = none := hA.2 9 (by decide)
              have h0 := h0.at0 hn h9
              subst h0
              have H9 := Lib.hid h9
              clear hA hn hI h9
              go_simp
              refine (write_all w4.drew F _ d k mb a.n S A4 c4 bs H4.out.drew.disk hk1 hk H4.out.good.ok.now (by simpa using Sl.of_own (w := w4.drew) HO4.out.1) (fun b hb e => by have := (HFr.out b (.inl hb)).1; have := HO4.out.2.1 b e; have := HW3.out.2.2.size; omega) (by omega) (by have := H4.out.wrote; omega)).mono ?_
              rintro e w' ⟨rfl, hd', hm'⟩
              refine ⟨_, rfl, rfl, ?_⟩
              rw [HI.out]
              exact Chain2.put1 H9.out (by decide) ⟨rfl, hd', hm'⟩
            intro v4 hv4
            subst hv4
            simp only [Act.put, List.setIfInBounds_toArray, List.set_cons_zero, List.set_cons_succ]
            apply WpI.effect; (simp only [List.getElem?_toArray, List.getElem?_cons_succ, List.getElem?_cons_zero]; rfl)
            · intro τ wI hA hn hI
              have h4 : τ 4 = _ := hA.1 4 (by decide)
              have h4 : τ 4 = some (.int .i64 (wErr k mb a.n)) := by rw [h4]; rfl
              have h0 := hI
              rw [HI.out] at h0
              obtain ⟨_, hd', hm'⟩ := h0.at1 h4 hn
              have H9 := Lib.hid (And.intro h4 (And.intro hd' hm'))
              have hbs : Sl wI (fun b => (Value.slice A3 mb c3).ownBlock = some b ∧ 0 ≤ b) 1 (.slice A3 mb c3) mb (B8 bs) :=
                Sl.of_own (own_mod (w := w4.drew) HO4.out.2.2.1 hm' (fun b hb e => by have := (HFr.out b (.inl e)).1; have := HW3.out.2.1 b hb; omega))
              have hbs2 := Lib.hid hbs
              clear hA hn hI h4 h0 hd' hm' hbs
              go_simp
              obtain ⟨h4, hd', hm'⟩ := H9.out
              have hpl := H4.out.drew
              refine (rwrite_all wI G _ r k mb a.n R A3 c3 bs (hpl.ref.mod hm' (fun b hb e => hpl.dis b e hb)) hpl.rel.fl (by rw [hpl.rel.el]; omega) hbs2.out).mono ?_
              rintro e w' ⟨rfl, hr', hm2⟩
              obtain ⟨r1, r2, r3, r4⟩ := hpl.rel.wAll hpl.good mb a.n bs HMB.out.symm
              refine ⟨_, rfl, rfl, ?_⟩
              rw [HI.out]
              refine Chain2.put2 h4 (by decide) ⟨rfl, rfl, ⟨_, _, hpl.step hm' hd' hm2 hr' r1 r2 (r4 hpl.wrote), fun b hb => ?_⟩, hpl.kept hm' hm2⟩
              have q1 := own_lt' (w := w4.drew) HO4.out.1 hb
              have q2 := HO4.out.2.1 b hb
              have q3 := hm'.size
              have q4 := HW3.out.2.2.size
              refine ⟨fun e => ?_, fun e => ?_⟩
              · rcases e with e | e
                · have := (HFr.out b (.inl e)).1; omega
                · omega
              · rcases e with e | e
                · have := (HFr.out b (.inr e)).1; omega
                · omega
            intro v9 hv9
            subst hv9
            simp only [Act.put, List.setIfInBounds_toArray, List.set_cons_zero, List.set_cons_succ]
            (apply WpI.pure; (simp only [List.getElem?_toArray, List.getElem?_cons_succ, List.getElem?_cons_zero]; rfl); (intro τ wI hA hI; go_simp; exact ⟨hI, Is.rfl'⟩); simp only [Act.put, List.setIfInBounds_toArray, List.set_cons_zero, List.set_cons_succ])
            refine WpI.done ?_
            intro wI hI
            rw [HI.out] at hI
            obtain ⟨_, _, ⟨F5, G5, h5, hin5⟩, hm5⟩ := hI.end_ (by decide)
            obtain ⟨_, _, r3, _⟩ := H4.out.rel.wAll H4.out.good mb a.n bs HMB.out.symm
            have hev4 : (wDsk S k mb a.n bs).ev.length ≤ j + 1 := by omega
            obtain ⟨S5, R5, h5, hev4⟩ : ∃ S R, PlSt w wI d r F5 G5 S R k ∧ S.ev.length ≤ j + 1 := ⟨_, _, h5, hev4⟩
            have ho5 := own_mod (w := w4.drew) HO4.out.1 hm5 (fun b hb e => by have := (HFr.out b e).1; have := HO4.out.2.1 b hb; have := HW3.out.2.2.size; omega)
            have H5 := Lib.hid h5
            have HO5 := Lib.hid (And.intro ho5 hin5)
            have HF5 : Hid (∀ b, (Value.slice A4 mb c4).ownBlock = some b → w.heap.size ≤ b) := fun b hb => by have := HO4.out.2.1 b hb; have := H3.out.below.size; omega
            clear h5 ho5 hin5 hm5 hI HI H00 HCn HCl r3 H4 H3 HO4 HA4 HA3 HW3 HFr
            go_wp2_with fail
            go_loopg [13] mb (fun kq i wq => ∃ (p : Nat) (l : List UInt8), i = .int .i64 p ∧ p ≤ mb ∧ kq = mb - p ∧ Hid (wq.ownsRow 0 5 1 (.slice A4 mb c4) mb (B8 l)) ∧ Hid (PlSt w wq d r F5 G5 S5 R5 k))
            case atStart => exact ⟨0, _, rfl, by omega, by omega, by simpa using Lib.hid HO5.out.1, H5⟩
            case round =>
              clear H5
              obtain ⟨p, l, rfl, hp, rfl, ho, hpl⟩ := hrel
              by_cases hpm : p < mb
              · have hpI : (p : Int) < (mb : Int) := by omega
                have ho2 := ho.out
                obtain ⟨g, cap, hv, _, hgl⟩ := ho2.form (by omega)
                simp only [Value.slice.injEq] at hv
                obtain ⟨rfl, hx, rfl⟩ := hv
                clear hx
                obtain ⟨u, hu⟩ : ∃ u, l[p]? = some u := ⟨_, List.getElem?_eq_getElem (by have := ho2.1; rw [B8_length] at this; omega)⟩
                have cs := ho2.cells rfl p (.int .u8 (u.toNat : Int)) (by simp only [B8, List.getElem?_map, hu]; rfl)
                rw [add_lit0, Nat.zero_add] at cs
                have fz := ho2.frozenAt p
                have hnx := u8_next u
                have hst := Lib.hid (ho2.stored p (.int .u8 ((u + 1).toNat : Int))).1
                have hpl2 := Lib.hid (hpl.out.frame (H := fun b => b = g) ((Mod.refl (fun b => b = g) _).setCell (p := ⟨g, p, none⟩) (fun _ => rfl) (.int .u8 ((u + 1).toNat : Int))) (fun b _ e => by subst e; exact ⟨HF5.out _ rfl, HO5.out.2 _ rfl⟩))
                clear ho2 hu
                go_wp2_with fail
                go_roundg (mb - (p + 1))
                case measure => omega
                case rel => exact ⟨p + 1, l.set p (u + 1), by go_num, by omega, rfl, Lib.hid (by have := hst.out; simpa [B8, List.map_set] using this), hpl2⟩
              · obtain rfl : p = mb := by omega
                clear ho
                go_wp2_with fail
                refine (same_ok _ _ _ _ _ k _ _ hpl.out.disk hpl.out.ref hpl.out.rel hpl.out.good hk1 hk (by omega)).mono ?_
                rintro e wz ⟨rfl, hbz⟩
                have HZ := Lib.hid (hpl.out.later hbz)
                clear hbz
                go_wp2_with fail
                go_roundg (m' - (j + 1))
                case measure => omega
                case rel => exact ⟨j + 1, _, _, _, _, _, _, by go_num, by omega, rfl, rfl, rfl, HZ, by omega⟩
          · by_cases hk1' : a.k = 1
            · have HK1 := Lib.hid hk1'
              rw [HK1.out] at e0 f1
              clear hk0 hk1'
              go_upto_region 22 with fail
              rw [HK1.out] at hW0
              rw [← hW0]
              clear hW0 f2 f3 f4 f5 f6 e0 e1 e2 e3 e4 e5
              go_wp2_with fail
              refine (flush_ok W0 F d k S HB.out.disk hk1 hk HB.out.good.ok.now (by omega)).mono ?_
              rintro e w3 ⟨rfl, hd3, hm3⟩
              have H3 := Lib.hid (And.intro hd3 hm3)
              clear hd3 hm3
              go_wp2_with fail
              refine (rflush_ok w3 G r R (HB.out.ref.mod H3.out.2 (fun b hb e => HB.out.dis b e hb)) (by have := HB.out.rel.el; omega)).mono ?_
              rintro e w4 ⟨rfl, hr4, hm4⟩
              have H4 := Lib.hid (HB.out.step H3.out.2 H3.out.1 hm4 hr4 HB.out.rel.flush HB.out.good.flush (by have := HB.out.wrote; simp only [List.length_append, List.length_cons, List.length_nil]; omega))
              obtain ⟨F4, G4, S4, R4, H4, hev4⟩ : ∃ F G S R, Hid (PlSt w w4 d r F G S R k) ∧ S.ev.length ≤ j + 1 := ⟨_, _, _, _, H4, by simp; exact hev⟩
              clear hr4 hm4 HB H3 ha1
              go_wp2_with fail
              refine (same_ok _ _ _ _ _ k _ _ H4.out.disk H4.out.ref H4.out.rel H4.out.good hk1 hk (by omega)).mono ?_
              rintro e wz ⟨rfl, hbz⟩
              have HZ := Lib.hid (H4.out.later hbz)
              clear hbz
              go_wp2_with fail
              go_roundg (m' - (j + 1))
              case measure => omega
              case rel => exact ⟨j + 1, _, _, _, _, _, _, by go_num, by omega, rfl, rfl, rfl, HZ, by omega⟩
            · by_cases hk2 : a.k = 2
              · have HK2 := Lib.hid hk2
                rw [HK2.out] at e0 f1
                clear hk0 hk1' hk2
                have hb0 : ((2 : Int) == 0) = false := by decide
                have hb1 : ((2 : Int) == 1) = false := by decide
                go_upto_region 26 with fail
                rw [HK2.out] at hW0
                rw [← hW0]
                clear hW0 f3 f4 f5 e0 e1 e2 e3 e4 e5
                have HKP := Lib.hid (hin.out.p.agree (w' := W0) (fun i hi => HB.out.below.block i hi))
                have hn2 := hin.out.n2
                go_wp2_with (at_builtin
                             refine wpList_app _ rfl (.tmp 105) (.tmp 107) 23 rfl 4 (.bool false) 1 1 Try.underlying23 info4b rfl (by omega) (by omega) (.slice (some ⟨W0.heap.size, 0, none⟩) 0 0) 0 [] rfl
                               ?_ _ (.slice a.A2 a.n2 a.c2) a.n2 (BL a.l2) rfl (HKP.out.below (by omega) ((Below.refl _ _).alloc (Nat.le_refl _) _)) (by intro u hu; obtain ⟨b, _, rfl⟩ := List.mem_map.1 hu; rfl) (by omega) ?_
                             rotate_left 1
                             intro A4 c4 w4 ho4 hg4 hat4 _
                             have hb4 : Below W0.heap.size W0 w4 := ((Below.refl _ _).alloc (Nat.le_refl _) _).grown hg4 (by simp) (by simp [Value.ownBlock])
                             have H4 := Lib.hid (HB.out.later hb4)
                             have hx1 := (ha1.out.below' hb4).cell 1
                             have hx5 := (ha1.out.below' hb4).cell 5
                             simp only [ActD.cells, List.getElem?_cons_succ, List.getElem?_cons_zero] at hx1 hx5
                             have hxl : wr.heap.size < w4.heap.size := (ha1.out.below' hb4).lt
                             have HO4 := Lib.hid (And.intro ho4 (HKP.out.below (by omega) hb4))
                             have HA4 := Lib.hid (ha1.out.below' hb4)
                             clear ho4 hg4 hat4 hb4 f2 f6 f1 hlt1)
                case refine_1 => simpa using own_of_blk (cs := []) (Blk.new W0 4 #[]) 1 0 rfl (by simp [maxLen])
                rw [Nat.zero_add] at HO4
                have HS4 := Lib.hid (Sl.of_own HO4.out.1)
                rw [List.nil_append] at HS4
                by_cases hn : 0 ≤ a.n ∧ a.n ≤ (S.ev.length : Int)
                · obtain ⟨n, hnn⟩ : ∃ n : Nat, a.n = (n : Int) := ⟨a.n.toNat, by omega⟩
                  rw [hnn] at hx1 hn ⊢
                  have hnl : n ≤ S.ev.length := by omega
                  clear hn
                  refine (after_ok w4 F _ d k n A4 a.n2 c4 a.l2 S H4.out.disk hk1 hk H4.out.good.ok hnl (by omega) (by have := H4.out.wrote; omega) HS4.out hn2).mono ?_
                  rintro e w5 ⟨o, rfl, ho5, hb5⟩
                  have H5 := Lib.hid (H4.out.later hb5)
                  have hy1 := (HA4.out.below' hb5).cell 1
                  have hy5 := (HA4.out.below' hb5).cell 5
                  simp only [ActD.cells, List.getElem?_cons_succ, List.getElem?_cons_zero] at hy1 hy5
                  rw [hnn] at hy1
                  have hyl : wr.heap.size < w5.heap.size := (HA4.out.below' hb5).lt
                  have HO5 := Lib.hid (And.intro ho5 (And.intro hb5 (HO4.out.2.below (by omega) hb5)))
                  clear ho5 hb5 hx1 hx5 hxl
                  go_wp2_with fail
                  refine (rafter_ok w5 G _ r n R a.A2 a.n2 a.c2 a.l2 H5.out.ref (H5.out.rel.ok H5.out.good) (by rw [H5.out.rel.el]; exact hnl) (by rw [H5.out.rel.el]; omega) (by rw [H5.out.rel.fl]; omega) HO5.out.2.2 hn2).mono ?_
                  rintro e w6 ⟨q, rfl, hq6, hb6⟩
                  have H6 := Lib.hid (H5.out.later hb6)
                  have H7 : Hid (∃ F G, PlSt w w6 o q F G ⟨lossOf S n a.l2, lossOf S n a.l2, [], []⟩ ⟨R.loss n a.l2, []⟩ k) := by
                    obtain ⟨rl, gd⟩ := H5.out.rel.loss H5.out.good n hnl a.l2
                    have s4 := H4.out.below.size
                    have s5 := H5.out.below.size
                    have s45 := HO5.out.2.1.size
                    refine Lib.hid ⟨_, _, H6.out.below, HO5.out.1.below hb6, hq6, rl, gd, Nat.zero_le _, fun b hb => by omega, fun b hb => by omega, fun b hb e => by omega⟩
                  clear hq6 hb6 hy1 hy5 hyl H5 H4 HO5 HO4 HA4 HKP HS4
                  go_wp2_with fail
                  refine (same_ok _ _ _ _ _ k _ _ H6.out.disk H6.out.ref H6.out.rel H6.out.good hk1 hk (by omega)).mono ?_
                  rintro e w7 ⟨rfl, hb7⟩
                  obtain ⟨F7, G7, S7, R7, H8, hev7⟩ : ∃ F G S R, Hid (PlSt w w7 o q F G S R k) ∧ S.ev.length ≤ 0 := by
                    obtain ⟨F, G, h⟩ := H7.out
                    exact ⟨F, G, _, _, Lib.hid (h.later hb7), Nat.le_refl _⟩
                  clear hb7 H6 H7
                  go_wp2_with fail
                  refine (same_ok _ _ _ _ _ k _ _ H8.out.disk H8.out.ref H8.out.rel H8.out.good hk1 hk (by omega)).mono ?_
                  rintro e wz ⟨rfl, hbz⟩
                  have HZ := Lib.hid (H8.out.later hbz)
                  clear hbz
                  go_wp2_with fail
                  go_roundg (m' - (j + 1))
                  case measure => omega
                  case rel => exact ⟨j + 1, _, _, _, _, _, _, by go_num, by omega, rfl, rfl, rfl, HZ, by omega⟩
                · have hn' : a.n < 0 ∨ (S.ev.length : Int) < a.n := by omega
                  clear hn
                  refine (after_bad w4 F d k a.n _ S H4.out.disk hk1 hk H4.out.good.ok.now hn').mono ?_
                  rintro e w5 ⟨rfl, rfl⟩
                  have HN := Lib.hid hn'
                  clear hn'
                  go_wp2_with fail
                  refine (rafter_out w4 G r R a.n _ H4.out.ref (by rw [H4.out.rel.el]; exact HN.out)).mono ?_
                  rintro e w5 ⟨rfl, rfl⟩
                  clear hx1 hx5 hxl HO4 HA4 HKP HN HS4
                  go_wp2_with fail
                  refine (same_ok _ _ _ _ _ k _ _ H4.out.disk H4.out.ref H4.out.rel H4.out.good hk1 hk (by omega)).mono ?_
                  rintro e wz ⟨rfl, hbz⟩
                  have HZ := Lib.hid (H4.out.later hbz)
                  clear hbz
                  go_wp2_with fail
                  go_roundg (m' - (j + 1))
                  case measure => omega
                  case rel => exact ⟨j + 1, _, _, _, _, _, _, by go_num, by omega, rfl, rfl, rfl, HZ, by omega⟩
              · have hb0 : (a.k == 0) = false := by simp [hk0]
                have hb1 : (a.k == 1) = false := by simp [hk1']
                have hb2 : (a.k == 2) = false := by simp [hk2]
                have hev4 : S.ev.length ≤ j + 1 := by omega
                go_upto_region 35 with fail
                rw [← hW0]
                clear hW0 f1 f2 f3 f4 f5 f6 e0 e1 e2 e3 e4 e5
                go_wp2_with fail
                refine (same_ok _ _ _ _ _ k _ _ HB.out.disk HB.out.ref HB.out.rel HB.out.good hk1 hk (by omega)).mono ?_
                rintro e wz ⟨rfl, hbz⟩
                have HZ := Lib.hid (HB.out.later hbz)
                clear hbz
                go_wp2_with fail
                go_roundg (m' - (j + 1))
                case measure => omega
                case rel => exact ⟨j + 1, _, _, _, _, _, _, by go_num, by omega, rfl, rfl, rfl, HZ, by omega⟩
        · obtain rfl : j = m' := by omega
          have HBe := Lib.hid hst.out.below
          clear hst
          go_wp2_with fail
          go_ret
          exact ⟨rfl, HBe.out⟩
end Go.Proofs.Ytjdobjcbmmdjeaa
