/- Contracts of stillroomref03: Read, New. -/
import Derived.Test.YtjdobjcbmmdjeaaR2
namespace Go.Proofs.Ytjdobjcbmmdjeaa
open Go.RowKit

theorem rread_out (w : World) (F : Nat → Prop) (r : Nat) (R : RDsk) (n : Int) (h : RefAt w F r R) (hn : ¬ (0 ≤ n ∧ n < (R.first.length : Int))) :
    Calls Try.prog 44 #[.pointer (some ⟨r, 0, none⟩), .int .i64 n] w fun e w' => e = .returned (.tuple #[bstr [], .int .i64 2]) ∧ w = w' := by
  have hh := h.has n
  rw [decide_eq_false hn] at hh
  have HH := Lib.hid hh
  clear hh h hn
  go_enter Try.func44, Try.ntmps44
  go_wp2_with fail
  refine HH.out.mono ?_
  rintro e w' ⟨rfl, rfl⟩
  go_wp2_with fail
  go_ret2
  exact ⟨rfl, rfl⟩
theorem rread_ok (w : World) (F : Nat → Prop) (r n : Nat) (R : RDsk) (h : RefAt w F r R) (hev : R.ev.length ≤ 1000000000) (hn : n < R.first.length) :
    Calls Try.prog 44 #[.pointer (some ⟨r, 0, none⟩), .int .i64 n] w fun e w' => e = .returned (.tuple #[bstr (R.get n), .int .i64 0]) ∧ w = w' := by
  have hh := h.has n
  rw [decide_eq_true ⟨by omega, by omega⟩] at hh
  have HHas := Lib.hid hh
  obtain ⟨Af, cf, Ae, ce, c0, c1, hof, hoe, hlt⟩ := h.cell
  obtain ⟨gf, cf', hfv, _⟩ := hof.form (by omega)
  simp only [Value.slice.injEq] at hfv
  obtain ⟨rfl, hx, rfl⟩ := hfv
  clear hx
  obtain ⟨s, hs⟩ : ∃ s, R.first[n]? = some s := ⟨_, List.getElem?_eq_getElem hn⟩
  have cs := hof.cells rfl n (bstr s) (by simp only [strs, List.getElem?_map, hs]; rfl)
  rw [add_lit0, Nat.zero_add] at cs
  have HG : Hid (lastEv R.ev n R.ev.length = none → R.get n = s) := fun h => by simp [RDsk.get, h, hs]
  have HG2 : Hid (∀ b, lastEv R.ev n R.ev.length = some b → R.get n = b) := fun b h => by simp [RDsk.get, h]
  obtain ⟨out, hout⟩ : ∃ out, out = R.get n := ⟨_, rfl⟩
  rw [← hout] at HG HG2 ⊢
  clear hout
  obtain ⟨L, hL⟩ : ∃ L, L = R.ev.length := ⟨_, rfl⟩
  rw [← hL] at HG HG2 c1 hoe hev
  have HEv : Hid (∀ i, i < L → ∃ b x, Ae = some ⟨b, 0, none⟩ ∧ R.ev[i]? = some x ∧ w.cell? ⟨b, i * 2, none⟩ = some (.int .i64 x.1) ∧ w.cell? ⟨b, i * 2 + 1, none⟩ = some (bstr x.2) ∧ b < w.heap.size) := by
    intro i hi
    obtain ⟨b, cc, hv, _, hb⟩ := hoe.form (by omega)
    simp only [Value.slice.injEq] at hv
    obtain ⟨rfl, hx, rfl⟩ := hv
    obtain ⟨x, hx⟩ : ∃ x, R.ev[i]? = some x := ⟨_, List.getElem?_eq_getElem (by omega)⟩
    obtain ⟨g1, g2⟩ := EV_get hx
    have q1 := hoe.cells rfl _ _ g1
    have q2 := hoe.cells rfl _ _ g2
    rw [add_lit0, Nat.zero_add] at q1 q2
    exact ⟨b, x, rfl, hx, q1, q2, hb⟩
  have hnI : (n : Int) < (R.first.length : Int) := by omega
  obtain ⟨lf, hlf⟩ : ∃ lf, lf = R.first.length := ⟨_, rfl⟩
  rw [← hlf] at hn hnI c0
  clear h hof hoe hh hs hL hlf
  go_enter Try.func44, Try.ntmps44
  go_wp2_with fail
  refine HHas.out.mono ?_
  rintro e w' ⟨rfl, rfl⟩
  have hsub : IntKind.i64.wrap ((L : Int) - 1) = (L : Int) - 1 := by rw [IntKind.wrap_i64]; omega
  go_wp2_with fail
  go_loopg [6] L (fun kq i wr => ∃ (z : Int) (j : Nat), i = .int .i64 z ∧ z = (j : Int) - 1 ∧ j ≤ L ∧ kq = j ∧ wr = w ∧ Hid (lastEv R.ev n L = lastEv R.ev n j))
  case atStart => exact ⟨_, L, rfl, rfl, Nat.le_refl _, rfl, rfl, rfl⟩
  case round =>
    obtain ⟨z, j, rfl, hz, hj, hkq, rfl, hl⟩ := hrel
    rcases j with _ | j <;> subst hkq
    · obtain rfl : z = -1 := by omega
      have := HG.out hl.out
      subst this
      clear hz
      go_wp2_with fail
      go_ret2
      exact ⟨rfl, rfl⟩
    · obtain rfl : z = (j : Int) := by omega
      clear hz
      obtain ⟨b, x, rfl, hx, q1, q2, hb⟩ := HEv.out j (by omega)
      have hjI : (j : Int) < (L : Int) := by omega
      by_cases he : x.1 = (n : Int)
      · have hg := HG2.out x.2 (by rw [hl.out]; simp [lastEv, hx, he])
        subst hg
        rw [he] at q1
        clear hx hl
        go_wp2_with fail
        go_ret2
        exact ⟨rfl, rfl⟩
      · have hbe : (x.1 == (n : Int)) = false := by simp [he]
        have hl2 : Hid (lastEv R.ev n L = lastEv R.ev n j) := by
          have e : lastEv R.ev n (j + 1) = lastEv R.ev n j := by simp [lastEv, hx, he]
          exact Lib.hid (hl.out.trans e)
        clear hx hl
        go_wp2_with fail
        go_roundg j
        case measure => omega
        case rel => exact ⟨_, j, by go_num, rfl, by omega, rfl, rfl, hl2⟩

theorem rnew_bad (k : Int) (w : World) (h : k < 1 ∨ 2048 < k) : Calls Try.prog 19 #[.int .i64 k] w fun e w' => e = .returned (.tuple #[.pointer none, .int .i64 2]) ∧ w = w' := by
  by_cases h1 : k < 1
  · clear h
    go_enter Try.func19, Try.ntmps19
    go_wp2_with fail
    go_ret2
    exact ⟨rfl, rfl⟩
  · have h2 : 2048 < k := by omega
    clear h
    go_enter Try.func19, Try.ntmps19
    go_wp2_with fail
    go_ret2
    exact ⟨rfl, rfl⟩

set_option maxRecDepth 100000 in
theorem rnew_ok (k : Nat) (w : World) (h1 : 1 ≤ k) (h2 : k ≤ 2048) : Calls Try.prog 19 #[.int .i64 k] w fun e w' => ∃ r, e = .returned (.tuple #[.pointer (some ⟨r, 0, none⟩), .int .i64 0]) ∧
    RefAt w' (fun b => w.heap.size ≤ b ∧ b < w'.heap.size) r ⟨List.replicate k (zeros 256), []⟩ ∧ Below w.heap.size w w' := by
  have n1 : ¬ (k : Int) < 1 := by omega
  have n2 : ¬ (2048 < (k : Int)) := by omega
  go_enter Try.func19, Try.ntmps19
  go_wp2_with fail
  have hb0 := Blk.new w 90 #[.slice none 0 0, .slice none 0 0]
  obtain ⟨r, hr⟩ : ∃ r, r = w.heap.size := ⟨_, rfl⟩
  go_loopg [5] k (fun kq i wr => ∃ j : Nat, i = .int .i64 j ∧ j ≤ k ∧ kq = k - j ∧ Hid (RefAt wr (fun b => w.heap.size ≤ b ∧ b < wr.heap.size) w.heap.size ⟨List.replicate j (zeros 256), []⟩ ∧ Below w.heap.size w wr))
  case atStart =>
    refine ⟨0, rfl, by omega, by omega, ?_⟩
    refine ⟨⟨_, _, ⟨Nat.le_refl _, by simp⟩, hb0, own_nil0 _ _ _, own_nil0 _ _ _, ?_, fun b hb => hb.2⟩, (Below.refl _ _).alloc (Nat.le_refl _) _⟩
    intro b hb
    simp [Value.ownBlock] at hb
  case round =>
    obtain ⟨j, rfl, hj, rfl, hb⟩ := hrel
    obtain ⟨hR, hbel⟩ := hb.out
    by_cases hlt : j < k
    · obtain ⟨Af, cf, Ae, ce, c0, c1, hof, hoe, hlr⟩ := hR.cell
      rw [List.length_replicate] at c0 hof
      obtain ⟨vf, ve, hFr, hd, _⟩ := (id hR : ∃ _, _)
      obtain ⟨wz, hz1, hz2, hzg, hzl⟩ := zero_run wr.drew
      have hz1 : (Instr.makeSlice 22 (.int .i64 256) (.int .i64 256)).run Try.prog wr.drew = .ok (.slice (some ⟨wr.heap.size, 0, none⟩) 256 256) wz := hz1
      have hz2 : (convert 22 9 (.slice (some ⟨wr.heap.size, 0, none⟩) 256 256)).run Try.prog wz = .ok (bstr (zeros 256)) wz := hz2
      have hzl : wr.heap.size < wz.heap.size := hzl
      have HR := Lib.hid hR
      have HB := Lib.hid hbel
      have H0 := Lib.hid c0
      have HF := Lib.hid hof
      have HD := Lib.hid hd
      have HZ := Lib.hid (And.intro hz1 (And.intro hz2 (And.intro hzg hzl)))
      have hjb : j ≤ 2048 := by omega
      have hwr : w.heap.size < wr.heap.size := hlr
      clear hR hbel c0 c1 hof hoe hd hz1 hz2 hzg hzl hb0
      go_upto_region 7 with fail
      try simp only [Act.put, List.setIfInBounds_toArray, List.set_cons_zero, List.set_cons_succ]
      obtain ⟨Inv, hInv⟩ : ∃ Inv : Done → World → Prop, Inv = Chain4 5 7 8 11 (fun wI => wI = wr.drew) (fun x wI => x = .slice (some ⟨wr.heap.size, 0, none⟩) 256 256 ∧ wI = wz) (fun x y wI => y = .slice (some ⟨wz.heap.size, 0, none⟩) 1 1 ∧ wI = wz.alloc (.cells #[bstr (zeros 256)] 9))
        (fun x y z wI => (∃ A' c', z = .slice A' (j + 1) c') ∧ Mod (fun i => (Value.slice Af j cf).ownBlock = some i) wr wI ∧ wI.ownsRow 0 9 1 z (j + 1) (strs (List.replicate j (zeros 256)) ++ [bstr (zeros 256)]) ∧ (z.ownBlock = (Value.slice Af j cf).ownBlock ∨ ∃ b, z.ownBlock = some b ∧ wr.heap.size ≤ b))
        (fun x y z u wI => RefAt wI (fun b => w.heap.size ≤ b ∧ b < wI.heap.size) w.heap.size ⟨List.replicate (j + 1) (zeros 256), []⟩ ∧ Below w.heap.size w wI) := ⟨_, rfl⟩
      have HI := Lib.hid hInv
      have hc1 : ∀ τ wI, Inv τ wI → τ 8 = none → Now (fun wI => wI.cell? ⟨w.heap.size, 0, none⟩ = some (.slice Af j cf)) wI := by
        intro τ wI h h8
        rw [hInv] at h
        have h2 := HD.out.cell 0
        rw [H0.out] at h2
        rcases h.upto2 h8 with rfl | ⟨x, rfl, rfl⟩ | ⟨x, y, rfl, rfl⟩
        · exact H0.out
        · exact ((HD.out.drew.grown HZ.out.2.2.1 (by simp)).cell 0).trans h2.symm
        · exact (((HD.out.drew.grown HZ.out.2.2.1 (by simp)).alloc (.cells #[bstr (zeros 256)] 9)).cell 0).trans h2.symm
      have HC1 := Lib.hid hc1
      have H00 : Hid (Inv Done.none wr.drew) := by rw [hInv]; exact Chain4.start rfl
      clear hInv hc1
      refine wp_region_inv (by kernel_rfl) [⟨0, false, [], [11]⟩, ⟨1, false, [], [8, 11]⟩, ⟨2, false, [], [8, 11]⟩, ⟨3, false, [], [8, 11]⟩, ⟨4, false, [], [8, 11]⟩, ⟨5, true, [], [7, 8, 11]⟩, ⟨6, false, [5], [7, 8, 11]⟩, ⟨7, true, [5], [8, 11]⟩, ⟨8, true, [5, 7], [11]⟩, ⟨9, false, [5, 7, 8], [11]⟩, ⟨10, false, [5, 7, 8], [11]⟩, ⟨11, true, [5, 7, 8], []⟩] (by kernel_rfl) Inv (fun _ _ => True) (fun _ => ⟨undef, trivial⟩) H00.out ?_
      iterate 4 (apply WpI.pure; (simp only [List.getElem?_toArray, List.getElem?_cons_succ, List.getElem?_cons_zero]; rfl); (intro τ wI hA hI; go_simp; exact ⟨hI, Is.rfl'⟩); simp only [Act.put, List.setIfInBounds_toArray, List.set_cons_zero, List.set_cons_succ])
      (apply WpI.pure; (simp only [List.getElem?_toArray, List.getElem?_cons_succ, List.getElem?_cons_zero]; rfl); (intro τ wI hA hI; have hc : wI.cell? ⟨w.heap.size, 0, none⟩ = some (.slice Af j cf) := HC1.out τ wI hI (hA.2 8 (by decide)); go_simp; exact ⟨hI, Is.rfl'⟩); simp only [Act.put, List.setIfInBounds_toArray, List.set_cons_zero, List.set_cons_succ])
      apply WpI.effect; (simp only [List.getElem?_toArray, List.getElem?_cons_succ, List.getElem?_cons_zero]; rfl)
      · intro τ wI hA hn hI
        have h0 := hI
        rw [HI.out] at h0
        have h0 := h0.at0 hn (hA.2 7 (by decide)) (hA.2 8 (by decide)) (hA.2 11 (by decide))
        have HA := Lib.hid (And.intro (hA.2 7 (by decide)) (And.intro (hA.2 8 (by decide)) (hA.2 11 (by decide))))
        subst h0
        have hz1 := HZ.out.1
        clear hA hn hI
        go_simp
        rw [HI.out]
        exact Chain4.put1 HA.out.1 (by decide) HA.out.2.1 (by decide) HA.out.2.2 (by decide) ⟨rfl, rfl⟩
      intro v5 hv5
      clear hv5
      simp only [Act.put, List.setIfInBounds_toArray, List.set_cons_zero, List.set_cons_succ]
      (apply WpI.pure; (simp only [List.getElem?_toArray, List.getElem?_cons_succ, List.getElem?_cons_zero]; rfl); (intro τ wI hA hI; have h0 := hI; rw [HI.out] at h0; have h5 : τ 5 = some v5 := hA.1 5 (by decide); obtain ⟨rfl, rfl⟩ := h0.at1 h5 (hA.2 7 (by decide)) (hA.2 8 (by decide)) (hA.2 11 (by decide)); have hc := HZ.out.2.1; clear h5; go_simp; exact ⟨hI, Is.rfl'⟩); simp only [Act.put, List.setIfInBounds_toArray, List.set_cons_zero, List.set_cons_succ])
      apply WpI.effect; (simp only [List.getElem?_toArray, List.getElem?_cons_succ, List.getElem?_cons_zero]; rfl)
      · intro τ wI hA hn hI
        have h0 := hI
        rw [HI.out] at h0
        have h5 : τ 5 = some v5 := hA.1 5 (by decide)
        have HA := Lib.hid (And.intro h5 (And.intro (hA.2 8 (by decide)) (hA.2 11 (by decide))))
        obtain ⟨rfl, rfl⟩ := h0.at1 h5 hn (hA.2 8 (by decide)) (hA.2 11 (by decide))
        clear hA hn hI h5
        go_simp
        rw [HI.out]
        exact Chain4.put2 HA.out.1 (by decide) HA.out.2.1 (by decide) HA.out.2.2 (by decide) ⟨rfl, rfl⟩
      intro v7 hv7
      clear hv7
      simp only [Act.put, List.setIfInBounds_toArray, List.set_cons_zero, List.set_cons_succ]
      apply WpI.effect; (simp only [List.getElem?_toArray, List.getElem?_cons_succ, List.getElem?_cons_zero]; rfl)
      · intro τ wI hA hn hI
        rw [HI.out] at hI ⊢
        have h5 : τ 5 = some v5 := hA.1 5 (by decide)
        have h7 : τ 7 = some v7 := hA.1 7 (by decide)
        have h11 : τ 11 = none := hA.2 11 (by decide)
        obtain ⟨rfl, rfl⟩ := hI.at2 h5 h7 hn h11
        have hmz : Mod (fun i => (Value.slice Af j cf).ownBlock = some i) wr (wz.alloc (.cells #[bstr (zeros 256)] 9)) := ((Mod.refl _ _).drew.grown HZ.out.2.2.1 (by simp)).alloc _
        refine runs_app rfl (.tmp 23) (.tmp 26) 51 rfl 9 _ 1 16 Try.underlying51 info9 rfl (by omega) (by omega) (.slice Af j cf) j (strs (List.replicate j (zeros 256))) rfl
          (own_below HF.out ((Below.refl _ _).drew.grown HZ.out.2.2.1 (Nat.le_refl _) (by simp) |>.alloc (Nat.le_of_lt HZ.out.2.2.2) _)) (fun i => i = wz.heap.size) _ 1 [bstr (zeros 256)] rfl
          (Sl.of_blk (Blk.new wz 9 #[bstr (zeros 256)]) 1 1 1 rfl (by omega)) (by simp [Value.oneCell']) (by omega) ?_
        intro A' c' w' o1 o2 o3 _
        refine ⟨trivial, Chain4.put3 h5 (by decide) h7 (by decide) h11 (by decide) ⟨⟨_, _, rfl⟩, hmz.trans o2 (fun _ _ h => h), o1, o3.imp id (fun e => ⟨_, e, ?_⟩)⟩⟩
        have := hmz.size
        exact this
      intro v8 hv8
      clear hv8
      simp only [Act.put, List.setIfInBounds_toArray, List.set_cons_zero, List.set_cons_succ]
      iterate 2 (apply WpI.pure; (simp only [List.getElem?_toArray, List.getElem?_cons_succ, List.getElem?_cons_zero]; rfl); (intro τ wI hA hI; go_simp; exact ⟨hI, Is.rfl'⟩); simp only [Act.put, List.setIfInBounds_toArray, List.set_cons_zero, List.set_cons_succ])
      apply WpI.effect; (simp only [List.getElem?_toArray, List.getElem?_cons_succ, List.getElem?_cons_zero]; rfl)
      · intro τ wI hA hn hI
        have h0 := hI
        rw [HI.out] at h0
        have h5 : τ 5 = some v5 := hA.1 5 (by decide)
        have h7 : τ 7 = some v7 := hA.1 7 (by decide)
        have h8 : τ 8 = some v8 := hA.1 8 (by decide)
        obtain ⟨⟨A', c', rfl⟩, o1, o2, o3⟩ := h0.at3 h5 h7 h8 hn
        have hd2 := HD.out.mod o1 (fun e => own_blk_ne HF.out HD.out (by decide) e)
        have d1 : wI.cell? ⟨w.heap.size, 0, none⟩ = some vf := by rw [hd2.cell]; rfl
        have f1 := hd2.frozen 0
        have hl2 := hd2.lt
        have HK := Lib.hid (And.intro o1 (And.intro o2 (And.intro o3 (And.intro hd2 (And.intro h5 (And.intro h7 h8))))))
        clear o1 o2 o3 hd2 h0 hI h5 h7 h8 hn hA
        go_simp
        rw [HI.out]
        obtain ⟨o1, o2, o3, hd2, h5, h7, h8⟩ := HK.out
        refine Chain4.put4 h5 (by decide) h7 (by decide) h8 (by decide) ?_
        have e1 : wr.cell? ⟨w.heap.size, 1, none⟩ = some ve := by rw [HD.out.cell]; rfl
        obtain ⟨k1, k2⟩ := HR.out.pushF H0.out e1 (zeros 256) o1 (by rw [List.length_replicate]; exact o2) o3
        refine ⟨?_, HB.out.trans (k2.below HB.out.size (fun i hi => hi.1))⟩
        rw [List.replicate_succ']
        have hs := k2.size
        refine k1.mono (fun b hb => ?_) (fun b hb => hb.2)
        rcases hb with hb | hb <;> omega
      intro v11 hv11
      clear hv11
      refine WpI.done ?_
      intro wI hI
      rw [HI.out] at hI
      have HK := Lib.hid (hI.end_ (by decide) (by decide) (by decide) (by decide) (by decide) (by decide))
      clear hI
      go_wp2_with fail
      go_roundg (k - (j + 1))
      case measure => omega
      case rel => exact ⟨j + 1, by go_num, by omega, rfl, HK.out⟩
    · obtain rfl : j = k := by omega
      clear hR hbel
      go_wp2_with fail
      go_ret2
      exact ⟨_, rfl, hb.out.1, hb.out.2⟩
end Go.Proofs.Ytjdobjcbmmdjeaa
