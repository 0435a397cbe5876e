/- Contracts of stillroomref04: do, Get. -/
import Derived.Test.YtjdobjcbmmdjeaaQ2
namespace Go.Proofs.Ytjdobjcbmmdjeaa
open Go.RowKit

theorem below_step' {a b c : World} (h : Below a.heap.size a b) (k : Below b.heap.size b c) : Below a.heap.size a c := h.trans (k.mono h.size)
theorem rdoI_facts {S : Dsk} {R : RDsk} {k a : Nat} {l : List Int} (hg : RG S R k) (hl : ∀ n ∈ l, 0 ≤ n ∧ n < (k : Int)) (ha : a + l.length < k) : ∀ i, i ≤ l.length → RG (doI S a l i) (rdoI R a l i) k ∧ (rdoI R a l i).first.length = k ∧ (rdoI R a l i).ev.length = R.ev.length + i := fun i hi => by
  have h := hg.doI hl ha i hi
  refine ⟨h, h.rel.fl, ?_⟩
  rw [h.rel.el, doI_ev S a l i hi, hg.rel.el]
set_option maxRecDepth 100000 in
set_option maxHeartbeats 2000000 in
theorem rdo_ok (w : World) (F H G : Nat → Prop) (q r k : Nat) (Q : QJr) (S : Dsk) (R : RDsk) (A : Option Addr) (m c : Nat) (l : List Int) (hQ : QAt w F q r Q) (hr : RefAt w G r R) (hdis : ∀ b, G b → ¬ F b) (hg : RG S R k) (hk : k ≤ 2048)
    (hl : Sl w H 1 (.slice A m c) m (Ints l)) (hGH : ∀ b, G b → ¬ H b) (hlk : ∀ n ∈ l, 0 ≤ n ∧ n < (k : Int)) (ha : Q.at_ + m < k) (hev : R.ev.length ≤ 100000000) :
    Calls Try.prog 53 #[.pointer (some ⟨q, 0, none⟩), .slice A m c] w fun e w' => e = .returned (.tuple #[]) ∧ RefAt w' (fun b => G b ∨ (w.heap.size ≤ b ∧ b < w'.heap.size)) r (rdoS R Q.at_ l) ∧ Mod G w w' := by
  have hlm : l.length = m := by have := hl.1; rw [Ints_length, Nat.mul_one] at this; exact this
  have HR0 := Lib.hid hr
  have HG := Lib.hid (show ∀ i, i ≤ m → RG (doI S Q.at_ l i) (rdoI R Q.at_ l i) k ∧ (rdoI R Q.at_ l i).first.length = k ∧ (rdoI R Q.at_ l i).ev.length = R.ev.length + i by rw [← hlm]; exact rdoI_facts hg hlk (by omega))
  have hfj : ∀ wx, Mod G w wx → wx.cell? ⟨q, 0, none⟩ = some (.pointer (some ⟨r, 0, none⟩)) ∧ wx.cell? ⟨q, 1, none⟩ = some (.int .i64 (Q.at_ : Int)) ∧ q < wx.heap.size := by
    intro wx hm
    obtain ⟨_, _, c0, c1, _, _, _, hlj⟩ := (hQ.mod hm (fun b hb e => hdis b e hb)).cell
    exact ⟨c0, c1, hlj⟩
  have HC := Lib.hid hfj
  have HLC : Hid (∀ i n, l[i]? = some n → ∃ b o, A = some ⟨b, o, none⟩ ∧ ∀ wx, Mod G w wx → wx.cell? ⟨b, o + i, none⟩ = some (.int .i64 n) ∧ b < wx.heap.size) := by
    intro i n hi
    have hil := (List.getElem?_eq_some_iff.1 hi).1
    obtain ⟨_, A', c', hv, _, hr⟩ := hl
    simp only [Value.slice.injEq] at hv
    obtain ⟨rfl, _, rfl⟩ := hv
    obtain ⟨⟨b, o, s⟩, rfl, hGb, hx⟩ := hr (by omega)
    have hx2 := hx i (.int .i64 n) (by simp only [Ints, List.getElem?_map, hi]; rfl)
    have hs : s = none := by
      have := hx 0 (.int .i64 (l[0]'(by omega))) (by simp only [Ints, List.getElem?_map, List.getElem?_eq_getElem (show 0 < l.length by omega)]; rfl)
      simpa [Addr.add] using World.cell?_spot this
    subst hs
    rw [add_lit0] at hx2
    refine ⟨b, o, rfl, fun wx hm => ?_⟩
    have hbl : b < w.heap.size := World.block_lt_of_cell? _ _ hx2
    have hbk := hm.block b hbl (fun e => hGH b e hGb)
    refine ⟨(World.cell?_of_block (w := w) (w' := wx) (a := ⟨b, o + i, none⟩) hbk).trans hx2, by have := hm.size; omega⟩
  have HLK := Lib.hid hlk
  obtain ⟨a, hae⟩ : ∃ a, a = Q.at_ := ⟨_, rfl⟩
  have HFin : Hid (rdoS R Q.at_ l = rfl_ (rwr (rfl_ (rdoI R Q.at_ l m)) Q.at_ (zeros 256))) := Lib.hid (by unfold rdoS; rw [hlm])
  have hm2 : m < 2048 := by omega
  have ha2 : Q.at_ < 2048 := by omega
  rw [← hae] at HG HC HFin ha ha2 ⊢
  have HAM := Lib.hid ha
  clear hQ hr hdis hg hl hGH hlk hfj hae ha
  go_enter Try.func53, Try.ntmps53
  go_wp2_with fail
  go_loopg [4] m (fun kq i wr => ∃ (j : Nat) (F2 : Nat → Prop), i = .int .i64 j ∧ j ≤ m ∧ kq = m - j ∧ Hid (RefAt wr F2 r (rdoI R a l j)) ∧ Hid (∀ b, F2 b → G b ∨ w.heap.size ≤ b) ∧ Hid (Mod G w wr))
  case atStart => exact ⟨0, G, rfl, by omega, rfl, HR0, Lib.hid (fun b hb => .inl hb), Lib.hid (Mod.refl _ _)⟩
  case round =>
    obtain ⟨j, F2, rfl, hj, rfl, hr, hF2, hm⟩ := hrel
    obtain ⟨g1, g2, g3⟩ := HG.out j hj
    have HG1 := Lib.hid g1
    have HFL := Lib.hid g2
    have HEV : Hid ((rdoI R a l j).ev.length ≤ 200000000) := Lib.hid (by omega)
    clear g1 g2 g3
    by_cases hlt : j < m
    · have hqi : (j : Int) < (m : Int) := by omega
      obtain ⟨n, hn⟩ : ∃ n, l[j]? = some n := ⟨_, List.getElem?_eq_getElem (by omega)⟩
      obtain ⟨b, o, hA, hcl⟩ := HLC.out j n hn
      subst hA
      obtain ⟨nn, rfl⟩ : ∃ nn : Nat, n = (nn : Int) := ⟨n.toNat, by have := (HLK.out n (List.mem_of_getElem? hn)).1; omega⟩
      have hnk : nn < k := by have := (HLK.out _ (List.mem_of_getElem? hn)).2; omega
      obtain ⟨p, hp⟩ : ∃ p, p = a + 1 + j := ⟨_, rfl⟩
      have ew1 : IntKind.i64.wrap ((a : Int) + 1) = (a : Int) + 1 := by rw [IntKind.wrap_i64]; omega
      have ew2 : IntKind.i64.wrap ((a : Int) + 1 + (j : Int)) = (p : Int) := by rw [IntKind.wrap_i64]; omega
      have ew3 : IntKind.i64.wrap (p : Int) = (p : Int) := by rw [IntKind.wrap_i64]; omega
      have hpk : p < k := by have := HAM.out; omega
      obtain ⟨bs, hbs⟩ : ∃ bs, bs = (rdoI R a l j).get p := ⟨_, rfl⟩
      have HBS : Hid (bs.length = 256) := Lib.hid (by rw [hbs, HG1.out.get p hpk]; exact sec_length HG1.out.good.ok.now hpk)
      have hstep : Hid (rdoI R a l (j + 1) = rwr (rdoI R a l j) nn bs) := Lib.hid (by rw [rdoI_succ hn, hbs, hp]; rfl)
      obtain ⟨wd, hwd⟩ : ∃ wd, wd = wr.drew := ⟨_, rfl⟩
      have HWD : Hid (Mod G w wd ∧ Below wr.heap.size wr wd) := Lib.hid (by rw [hwd]; exact ⟨hm.out.drew, (Below.refl _ _).drew⟩)
      have HCD := Lib.hid (HC.out wd HWD.out.1)
      have HRD : Hid (Calls Try.prog 44 #[.pointer (some ⟨r, 0, none⟩), .int .i64 (p : Int)] wd fun e w' => e = .returned (.tuple #[bstr bs, .int .i64 0]) ∧ wd = w') := Lib.hid (by
        rw [hbs]; exact rread_ok wd F2 r p _ (hr.out.below HWD.out.2) (by have := HEV.out; omega) (by rw [HFL.out]; exact hpk))
      have HCL := Lib.hid hcl
      clear hn hcl hp hbs
      go_upto_region 3 with fail
      try simp only [Act.put, List.setIfInBounds_toArray, List.set_cons_zero, List.set_cons_succ]
      obtain ⟨Inv, hInv⟩ : ∃ Inv : Done → World → Prop, Inv = fun _ wI => (fun wI => wI = wd) wI := ⟨_, rfl⟩
      have HI := Lib.hid hInv
      have hcz : Hid (∀ τ wI, Inv τ wI → wI = wd) := by
        intro τ wI h
        rw [hInv] at h
        exact h
      have H00 : Hid (Inv Done.none wr.drew) := by rw [hInv]; exact hwd.symm
      clear hInv hwd
      refine wp_region_inv (by kernel_rfl) [⟨0, false, [], []⟩, ⟨1, false, [], []⟩, ⟨2, false, [], []⟩, ⟨3, false, [], []⟩, ⟨4, false, [], []⟩, ⟨5, false, [], []⟩, ⟨6, false, [], []⟩, ⟨7, false, [], []⟩, ⟨8, false, [], []⟩, ⟨9, false, [], []⟩, ⟨10, false, [], []⟩, ⟨11, false, [], []⟩, ⟨12, false, [], []⟩, ⟨13, false, [], []⟩, ⟨14, false, [], []⟩, ⟨15, false, [], []⟩, ⟨16, false, [], []⟩] (by kernel_rfl) Inv (fun _ _ => True) (fun _ => ⟨undef, trivial⟩) H00.out ?_
      iterate 11 (apply WpI.pure; (simp only [List.getElem?_toArray, List.getElem?_cons_succ, List.getElem?_cons_zero]; rfl); (intro τ wI hA hI; have f0 := hcz.out τ wI hI; have e1 := f0; clear f0; subst e1; obtain ⟨x0, x1, xl⟩ := HCD.out; go_simp; exact ⟨hI, Is.rfl'⟩); simp only [Act.put, List.setIfInBounds_toArray, List.set_cons_zero, List.set_cons_succ])
      (apply WpI.pure; (simp only [List.getElem?_toArray, List.getElem?_cons_succ, List.getElem?_cons_zero]; rfl); (intro τ wI hA hI; have f0 := hcz.out τ wI hI; have e1 := f0; clear f0; subst e1; have HX := Lib.hid hI; clear hI hA; go_simp; refine (HRD.out).mono ?_; rintro e w' ⟨rfl, rfl⟩; exact ⟨_, rfl, HX.out, Is.rfl'⟩); simp only [Act.put, List.setIfInBounds_toArray, List.set_cons_zero, List.set_cons_succ])
      iterate 5 (apply WpI.pure; (simp only [List.getElem?_toArray, List.getElem?_cons_succ, List.getElem?_cons_zero]; rfl); (intro τ wI hA hI; have f0 := hcz.out τ wI hI; have e1 := f0; clear f0; subst e1; obtain ⟨x0, x1, xl⟩ := HCD.out; go_simp; exact ⟨hI, Is.rfl'⟩); simp only [Act.put, List.setIfInBounds_toArray, List.set_cons_zero, List.set_cons_succ])
      refine WpI.done ?_
      intro w3 hI
      rw [HI.out] at hI
      have hE := hI
      obtain rfl : w3 = wd := hE
      have HRD2 := Lib.hid (hr.out.below HWD.out.2)
      have HM3 := Lib.hid HWD.out.1
      have HB3 := Lib.hid HWD.out.2
      clear hI hcz H00 HI HRD HWD HCD hr hm
      unfold bstr
      obtain ⟨wd, hwd⟩ : ∃ wd, wd = w3.drew := ⟨_, rfl⟩
      have HWD : Hid (Mod G w wd ∧ Below w3.heap.size w3 wd) := Lib.hid (by rw [hwd]; exact ⟨HM3.out.drew, (Below.refl _ _).drew⟩)
      have HRD2 := Lib.hid (HRD2.out.below HWD.out.2)
      have HCD : Hid (wd.cell? ⟨q, 0, none⟩ = some (.pointer (some ⟨r, 0, none⟩)) ∧ wd.cell? ⟨b, o + j, none⟩ = some (.int .i64 (nn : Int)) ∧ q < wd.heap.size ∧ b < wd.heap.size) := Lib.hid ⟨(HC.out wd HWD.out.1).1, (HCL.out wd HWD.out.1).1, (HC.out wd HWD.out.1).2.2, (HCL.out wd HWD.out.1).2⟩
      clear ew1 ew2 ew3
      go_upto_region 4 with fail
      try simp only [Act.put, List.setIfInBounds_toArray, List.set_cons_zero, List.set_cons_succ]
      obtain ⟨Inv, hInv⟩ : ∃ Inv : Done → World → Prop, Inv = Chain2 9 10 (fun wI => wI = wd) (fun x wI => ∃ c, x = .slice (some ⟨wd.heap.size, 0, none⟩) 256 c ∧ Sl wI (fun z => z = wd.heap.size) 1 x 256 (B8 bs) ∧ Below wd.heap.size wd wI) (fun x y wI => RefAt wI (fun b => F2 b ∨ (wd.heap.size ≤ b ∧ b < wI.heap.size)) r (rwr (rdoI R a l j) nn bs) ∧ Mod F2 wd wI) := ⟨_, rfl⟩
      have HI := Lib.hid hInv
      have hcz : Hid (∀ τ wI, Inv τ wI → τ 10 = none → wI.cell? ⟨q, 0, none⟩ = some (.pointer (some ⟨r, 0, none⟩)) ∧ wI.cell? ⟨b, o + j, none⟩ = some (.int .i64 (nn : Int)) ∧ q < wI.heap.size ∧ b < wI.heap.size) := by
        intro τ wI h h9
        rw [hInv] at h
        rcases h.upto1 h9 with rfl | ⟨x, _, _, _, hb⟩
        · exact HCD.out
        · exact ⟨(hb.cell (p := ⟨q, 0, none⟩) HCD.out.2.2.1).trans HCD.out.1, (hb.cell (p := ⟨b, _, none⟩) HCD.out.2.2.2).trans HCD.out.2.1, by have := hb.size; have := HCD.out.2.2.1; omega, by have := hb.size; have := HCD.out.2.2.2; omega⟩
      have H00 : Hid (Inv Done.none w3.drew) := by rw [hInv]; exact Chain2.start hwd.symm
      clear hInv hwd
      refine wp_region_inv (by kernel_rfl) [⟨0, false, [], [10]⟩, ⟨1, false, [], [10]⟩, ⟨2, false, [], [10]⟩, ⟨3, false, [], [10]⟩, ⟨4, false, [], [10]⟩, ⟨5, false, [], [10]⟩, ⟨6, false, [], [10]⟩, ⟨7, false, [], [10]⟩, ⟨8, false, [], [9, 10]⟩, ⟨9, true, [], [10]⟩, ⟨10, true, [9], []⟩] (by kernel_rfl) Inv (fun _ _ => True) (fun _ => ⟨undef, trivial⟩) H00.out ?_
      iterate 9 (apply WpI.pure; (simp only [List.getElem?_toArray, List.getElem?_cons_succ, List.getElem?_cons_zero]; rfl); (intro τ wI hA hI; obtain ⟨f0, f1, f2, f3⟩ := hcz.out τ wI hI (hA.2 10 (by decide)); go_simp; exact ⟨hI, Is.rfl'⟩); simp only [Act.put, List.setIfInBounds_toArray, List.set_cons_zero, List.set_cons_succ])
      apply WpI.effect; (simp only [List.getElem?_toArray, List.getElem?_cons_succ, List.getElem?_cons_zero]; rfl)
      · intro τ wI hA hn hI
        have h0 := hI
        rw [HI.out] at h0
        have h10 : τ 10 = none := hA.2 10 (by decide)
        have hK := h0.at0 hn h10
        have HT := Lib.hid (And.intro True.intro (And.intro h10 (True.intro)))
        clear hA hn hI h0 h10
        subst hK
        obtain ⟨cc, w1, hcv, hsl, hb⟩ := conv_bytes wI bs
        rw [HBS.out] at hcv hsl
        unfold bstr at hcv
        have HW1 := Lib.hid (And.intro hsl hb)
        clear hsl hb
        go_simp
        rw [HI.out]
        exact Chain2.put1 HT.out.2.1 (by decide) ⟨cc, rfl, HW1.out.1, HW1.out.2⟩
      intro v9 hv9
      simp only [Act.put, List.setIfInBounds_toArray, List.set_cons_zero, List.set_cons_succ]
      clear hv9
      apply WpI.effect; (simp only [List.getElem?_toArray, List.getElem?_cons_succ, List.getElem?_cons_zero]; rfl)
      · intro τ wI hA hn hI
        have h0 := hI
        rw [HI.out] at h0
        have h9 : τ 9 = some v9 := hA.1 9 (by decide)
        have hK := h0.at1 h9 hn
        have HT := Lib.hid (And.intro True.intro (And.intro h9 (True.intro)))
        clear hA hn hI h0 h9
        obtain ⟨cc, rfl, hsl, hb⟩ := hK
        have HW1 := Lib.hid (And.intro hsl hb)
        clear hsl hb
        go_simp
        refine (rwrite_ok wI F2 _ r nn (rdoI R a l j) _ cc bs (HRD2.out.below HW1.out.2) (by have := HEV.out; omega) (by rw [HFL.out]; exact hnk) HW1.out.1).mono ?_
        rintro e w' ⟨rfl, k1, k2⟩
        refine ⟨_, rfl, ?_⟩
        rw [HI.out]
        have hsz := HW1.out.2.size
        have hlt := fun b => k1.lt (b := b)
        exact Chain2.put2 HT.out.2.1 (by decide) ⟨k1.mono (fun b hb => hb.elim .inl (fun hb => .inr ⟨by omega, hb.2⟩)) (fun b hb => hb.elim (fun hb => hlt b (.inl hb)) (fun hb => hb.2)), (Mod.of_below HW1.out.2).trans k2 (fun _ _ h => h)⟩
      intro v10 hv10
      simp only [Act.put, List.setIfInBounds_toArray, List.set_cons_zero, List.set_cons_succ]
      clear hv10
      refine WpI.done ?_
      intro w4 hI
      rw [HI.out] at hI
      have hE := hI.end_ (by decide)
      obtain ⟨k1, k2⟩ := hE
      have hm04 : Mod G w w4 := HWD.out.1.trans (k2.mono (fun b _ hb => hb)) (fun b hb h => (hF2.out b h).elim id (fun h => by omega))
      have hszd := HWD.out.1.size
      have H4 := Lib.hid (And.intro k1 hm04)
      clear k1 k2 hm04 hI hcz H00 HI HCD HRD2
      go_wp2_with fail
      go_roundg (m - (j + 1))
      case measure => omega
      case rel =>
        refine ⟨j + 1, _, by go_num, by omega, rfl, by rw [hstep.out]; exact Lib.hid H4.out.1, Lib.hid (fun b hb => ?_), Lib.hid H4.out.2⟩
        rcases hb with hb | hb
        · exact hF2.out b hb
        · exact .inr (by omega)
    · obtain rfl : j = m := by omega
      obtain ⟨x0, x1, xl⟩ := HC.out wr hm.out
      go_wp2_with fail
      refine (rflush_ok wr F2 r _ hr.out (by have := HEV.out; omega)).mono ?_
      rintro e w3 ⟨rfl, hd3, hm3⟩
      have hm03 : Mod G w w3 := hm.out.trans (hm3.mono (fun b _ hb => hb)) (fun b hb h => (hF2.out b h).elim id (fun h => by omega))
      obtain ⟨F3, hF3, hd3⟩ : ∃ F3 : Nat → Prop, (∀ b, F3 b → G b ∨ w.heap.size ≤ b) ∧ RefAt w3 F3 r (rfl_ (rdoI R a l j)) := ⟨_, fun b hb => hb.elim (fun hb => hF2.out b hb) (fun hb => .inr (by have := hm.out.size; omega)), hd3⟩
      obtain ⟨R3, hR3⟩ : ∃ R3, R3 = rfl_ (rdoI R a l j) := ⟨_, rfl⟩
      have HEV3 : Hid (R3.ev.length ≤ 200000001) := Lib.hid (by have := HEV.out; rw [hR3]; simp only [rfl_, List.length_append, List.length_singleton]; omega)
      have HFL3 : Hid (R3.first.length = k) := Lib.hid (by rw [hR3]; exact HFL.out)
      rw [← hR3] at hd3 HFin
      have HR3 := Lib.hid (And.intro hF3 (And.intro hd3 hm03))
      clear x0 x1 xl hd3 hm3 hm03 hF3 hr hF2 hR3
      have hak : a < k := by have := HAM.out; omega
      obtain ⟨wd, hwd⟩ : ∃ wd, wd = w3.drew := ⟨_, rfl⟩
      have HWD : Hid (Below w3.heap.size w3 wd) := Lib.hid (by rw [hwd]; exact (Below.refl _ _).drew)
      have HMD : Hid (Mod G w wd) := Lib.hid (by rw [hwd]; exact HR3.out.2.2.drew)
      have HCD := Lib.hid (HC.out wd HMD.out)
      go_upto_region 6 with fail
      try simp only [Act.put, List.setIfInBounds_toArray, List.set_cons_zero, List.set_cons_succ]
      obtain ⟨Inv, hInv⟩ : ∃ Inv : Done → World → Prop, Inv = Chain2 8 9 (fun wI => wI = wd) (fun x wI => x = .slice (some ⟨wd.heap.size, 0, none⟩) 256 256 ∧ Sl wI (fun z => z = wd.heap.size) 1 x 256 (B8 (zeros 256)) ∧ Below wd.heap.size wd wI) (fun x y wI => RefAt wI (fun b => F3 b ∨ (wd.heap.size ≤ b ∧ b < wI.heap.size)) r (rwr R3 a (zeros 256)) ∧ Mod F3 wd wI) := ⟨_, rfl⟩
      have HI := Lib.hid hInv
      have hcz : Hid (∀ τ wI, Inv τ wI → τ 9 = none → wI.cell? ⟨q, 0, none⟩ = some (.pointer (some ⟨r, 0, none⟩)) ∧ wI.cell? ⟨q, 1, none⟩ = some (.int .i64 (a : Int)) ∧ q < wI.heap.size) := by
        intro τ wI h h9
        rw [hInv] at h
        rcases h.upto1 h9 with rfl | ⟨x, _, _, hb⟩
        · exact HCD.out
        · exact ⟨(hb.cell (p := ⟨q, 0, none⟩) HCD.out.2.2).trans HCD.out.1, (hb.cell (p := ⟨q, 1, none⟩) HCD.out.2.2).trans HCD.out.2.1, by have := hb.size; have := HCD.out.2.2; omega⟩
      have H00 : Hid (Inv Done.none w3.drew) := by rw [hInv]; exact Chain2.start hwd.symm
      clear hInv hwd
      refine wp_region_inv (by kernel_rfl) [⟨0, false, [], [9]⟩, ⟨1, false, [], [9]⟩, ⟨2, false, [], [9]⟩, ⟨3, false, [], [9]⟩, ⟨4, false, [], [9]⟩, ⟨5, false, [], [9]⟩, ⟨6, false, [], [9]⟩, ⟨7, false, [], [9]⟩, ⟨8, true, [], [9]⟩, ⟨9, true, [8], []⟩] (by kernel_rfl) Inv (fun _ _ => True) (fun _ => ⟨undef, trivial⟩) H00.out ?_
      iterate 8 (apply WpI.pure; (simp only [List.getElem?_toArray, List.getElem?_cons_succ, List.getElem?_cons_zero]; rfl); (intro τ wI hA hI; obtain ⟨f0, f1, f2⟩ := hcz.out τ wI hI (hA.2 9 (by decide)); go_simp; exact ⟨hI, Is.rfl'⟩); simp only [Act.put, List.setIfInBounds_toArray, List.set_cons_zero, List.set_cons_succ])
      apply WpI.effect; (simp only [List.getElem?_toArray, List.getElem?_cons_succ, List.getElem?_cons_zero]; rfl)
      · intro τ wI hA hn hI
        have h0 := hI
        rw [HI.out] at h0
        have h9 : τ 9 = none := hA.2 9 (by decide)
        have hK := h0.at0 hn h9
        have HT := Lib.hid (And.intro True.intro (And.intro h9 (True.intro)))
        clear hA hn hI h0 h9
        subst hK
        obtain ⟨wz, hz1, hz2, hzg, hzl⟩ := zero256 wI
        have HZ := Lib.hid (And.intro hz2 (And.intro hzg hzl))
        clear hz2 hzg hzl
        go_simp
        rw [HI.out]
        exact Chain2.put1 HT.out.2.1 (by decide) ⟨rfl, HZ.out.1, (Below.refl _ _).grown HZ.out.2.1 (Nat.le_refl _) (by simp)⟩
      intro v8 hv8
      simp only [Act.put, List.setIfInBounds_toArray, List.set_cons_zero, List.set_cons_succ]
      clear hv8
      apply WpI.effect; (simp only [List.getElem?_toArray, List.getElem?_cons_succ, List.getElem?_cons_zero]; rfl)
      · intro τ wI hA hn hI
        have h0 := hI
        rw [HI.out] at h0
        have h8 : τ 8 = some v8 := hA.1 8 (by decide)
        have hK := h0.at1 h8 hn
        have HT := Lib.hid (And.intro True.intro (And.intro h8 (True.intro)))
        clear hA hn hI h0 h8
        obtain ⟨rfl, hsl, hb⟩ := hK
        have HW1 := Lib.hid (And.intro hsl hb)
        clear hsl hb
        go_simp
        refine (rwrite_ok wI F3 _ r a R3 _ 256 (zeros 256) (HR3.out.2.1.below (below_step' HWD.out HW1.out.2)) (by have := HEV3.out; omega) (by rw [HFL3.out]; exact hak) HW1.out.1).mono ?_
        rintro e w' ⟨rfl, k1, k2⟩
        refine ⟨_, rfl, ?_⟩
        rw [HI.out]
        have hsz := HW1.out.2.size
        have hlt := fun b => k1.lt (b := b)
        exact Chain2.put2 HT.out.2.1 (by decide) ⟨k1.mono (fun b hb => hb.elim .inl (fun hb => .inr ⟨by omega, hb.2⟩)) (fun b hb => hb.elim (fun hb => hlt b (.inl hb)) (fun hb => hb.2)), (Mod.of_below HW1.out.2).trans k2 (fun _ _ h => h)⟩
      intro v9 hv9
      simp only [Act.put, List.setIfInBounds_toArray, List.set_cons_zero, List.set_cons_succ]
      clear hv9
      refine WpI.done ?_
      intro w4 hI
      rw [HI.out] at hI
      have hE := hI.end_ (by decide)
      obtain ⟨k1, k2⟩ := hE
      have hm0I : Mod G w w4 := HMD.out.trans (k2.mono (fun b _ hb => hb)) (fun b hb h => (HR3.out.1 b h).elim id (fun h => by omega))
      have hszI := HMD.out.size
      obtain ⟨F4, hF4, hd4⟩ : ∃ F4 : Nat → Prop, (∀ b, F4 b → G b ∨ w.heap.size ≤ b) ∧ RefAt w4 F4 r (rwr R3 a (zeros 256)) := ⟨_, fun b hb => hb.elim (fun hb => HR3.out.1 b hb) (fun hb => .inr (by omega)), k1⟩
      obtain ⟨z0, z1, zl⟩ := HC.out w4 hm0I
      have H4 := Lib.hid (And.intro hF4 (And.intro hd4 hm0I))
      clear k1 k2 hI HI H00 hcz hm0I hszI hF4 hd4 HCD z1
      go_wp2_with fail
      refine (rflush_ok w4 F4 r _ H4.out.2.1 (by have := HEV3.out; simp only [rwr, List.length_append, List.length_singleton]; omega)).mono ?_
      rintro e w5 ⟨rfl, hd5, hm5⟩
      have H5 := Lib.hid (And.intro hd5 (H4.out.2.2.trans (hm5.mono (fun b _ hb => hb)) (fun b hb h => (H4.out.1 b h).elim id (fun h => by omega))))
      have hsz5 := H4.out.2.2.size
      clear hd5 hm5
      go_wp2_with fail
      go_end0
      refine ⟨rfl, ?_, H5.out.2⟩
      rw [HFin.out]
      have hlt5 := fun b => H5.out.1.lt (b := b)
      exact H5.out.1.mono (fun b hb => hb.elim (fun hb => (H4.out.1 b hb).imp id (fun h => ⟨h, hlt5 b (.inl hb)⟩)) (fun hb => .inr ⟨by omega, hb.2⟩)) (fun b hb => hb.elim (fun hb => by have := HR0.out.lt hb; have := H5.out.2.size; omega) (fun hb => hb.2))
end Go.Proofs.Ytjdobjcbmmdjeaa
