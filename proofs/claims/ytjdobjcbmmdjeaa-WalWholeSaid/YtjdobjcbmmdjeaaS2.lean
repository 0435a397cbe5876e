/- 'same': a disk and the reference's tell the same sectors. -/
import Derived.Test.YtjdobjcbmmdjeaaS1
namespace Go.Proofs.Ytjdobjcbmmdjeaa
open Go.RowKit

set_option maxRecDepth 100000 in
set_option maxHeartbeats 2000000 in
theorem same_ok (w : World) (F G : Nat → Prop) (d r k : Nat) (S : Dsk) (R : RDsk) (hd : DiskAt w F d S) (hr : RefAt w G r R) (hrel : Rel S R k) (hg : S.Good k) (hk1 : 1 ≤ k) (hk : k ≤ 2048) (hev : S.ev.length ≤ 1000000000) :
    Calls Try.prog 24 #[.pointer (some ⟨d, 0, none⟩), .pointer (some ⟨r, 0, none⟩)] w fun e w' => e = .returned (.bool true) ∧ Below w.heap.size w w' := by
  obtain ⟨Af, cf, Ae, ce, c0, c1, hof, hoe, hlr⟩ := hr.cell
  rw [hrel.fl] at c0
  rw [hrel.el] at c1
  obtain ⟨L, hL⟩ : ∃ L, L = S.ev.length := ⟨_, rfl⟩
  rw [← hL] at c1
  have hs : Calls Try.prog 13 #[.pointer (some ⟨d, 0, none⟩)] w.drew fun e w' => e = .returned (.int .i64 k) ∧ w.drew = w' := (hd.below (Below.refl _ _).drew).sectors hk hg.ok.now
  have he : Calls Try.prog 17 #[.pointer (some ⟨d, 0, none⟩)] w.drew fun e w' => e = .returned (.int .i64 L) ∧ w.drew = w' := by rw [hL]; exact (hd.below (Below.refl _ _).drew).events
  have c0d : w.drew.cell? ⟨r, 0, none⟩ = some (.slice Af k cf) := c0
  have c1d : w.drew.cell? ⟨r, 1, none⟩ = some (.slice Ae L ce) := c1
  have HS := Lib.hid hs
  have HE := Lib.hid he
  have HD := Lib.hid hd
  have HR := Lib.hid hr
  have HP := Lib.hid (And.intro hrel (And.intro hg hev))
  have C0 := Lib.hid c0
  clear hd hr hrel hg hs he hof hoe hev hL c0 c1
  go_enter Try.func24, Try.ntmps24
  go_upto_region 1 with fail
  try simp only [Act.put, List.setIfInBounds_toArray, List.set_cons_zero, List.set_cons_succ]
  obtain ⟨Inv, hInv⟩ : ∃ Inv : Done → World → Prop, Inv = fun _ wI => wI = w.drew := ⟨_, rfl⟩
  have HI : Hid (∀ τ wI, Inv τ wI → wI = w.drew) := fun τ wI h => by rw [hInv] at h; exact h
  have HJ : Hid (∀ τ, Inv τ w.drew) := fun τ => by rw [hInv]
  clear hInv
  refine wp_region_inv (by kernel_rfl) [⟨0, false, [], []⟩, ⟨1, false, [], []⟩, ⟨2, false, [], []⟩, ⟨3, false, [], []⟩, ⟨4, false, [], []⟩, ⟨5, false, [], []⟩, ⟨6, false, [], []⟩, ⟨7, false, [], []⟩, ⟨8, false, [], []⟩, ⟨9, false, [], []⟩, ⟨10, false, [], []⟩, ⟨11, false, [], []⟩, ⟨12, false, [], []⟩, ⟨13, false, [], []⟩, ⟨14, false, [], []⟩, ⟨15, false, [], []⟩, ⟨16, false, [], []⟩, ⟨17, false, [], []⟩] (by kernel_rfl) Inv (fun _ _ => True) (fun _ => ⟨undef, trivial⟩) (HJ.out _) ?_
  (apply WpI.pure; (simp only [List.getElem?_toArray, List.getElem?_cons_zero]; rfl); (intro τ wI hA hI; have hw := HI.out _ _ hI; rw [hw]; go_simp; exact ⟨HJ.out _, Is.rfl'⟩); simp only [Act.put, List.setIfInBounds_toArray, List.set_cons_zero, List.set_cons_succ])
  (apply WpI.pure; (simp only [List.getElem?_toArray, List.getElem?_cons_succ, List.getElem?_cons_zero]; rfl); (intro τ wI hA hI; have hw := HI.out _ _ hI; rw [hw]; go_simp; refine HS.out.mono ?_; rintro e w' ⟨rfl, rfl⟩; exact ⟨_, rfl, HJ.out _, Is.rfl'⟩); simp only [Act.put, List.setIfInBounds_toArray, List.set_cons_zero, List.set_cons_succ])
  iterate 8 (apply WpI.pure; (simp only [List.getElem?_toArray, List.getElem?_cons_succ, List.getElem?_cons_zero]; rfl); (intro τ wI hA hI; have hw := HI.out _ _ hI; rw [hw]; go_simp; exact ⟨HJ.out _, Is.rfl'⟩); simp only [Act.put, List.setIfInBounds_toArray, List.set_cons_zero, List.set_cons_succ])
  (apply WpI.pure; (simp only [List.getElem?_toArray, List.getElem?_cons_succ, List.getElem?_cons_zero]; rfl); (intro τ wI hA hI; have hw := HI.out _ _ hI; rw [hw]; go_simp; refine HE.out.mono ?_; rintro e w' ⟨rfl, rfl⟩; exact ⟨_, rfl, HJ.out _, Is.rfl'⟩); simp only [Act.put, List.setIfInBounds_toArray, List.set_cons_zero, List.set_cons_succ])
  iterate 7 (apply WpI.pure; (simp only [List.getElem?_toArray, List.getElem?_cons_succ, List.getElem?_cons_zero]; rfl); (intro τ wI hA hI; have hw := HI.out _ _ hI; rw [hw]; go_simp; exact ⟨HJ.out _, Is.rfl'⟩); simp only [Act.put, List.setIfInBounds_toArray, List.set_cons_zero, List.set_cons_succ])
  refine WpI.done ?_
  intro wI hI
  have hw := HI.out _ _ hI
  rw [hw]
  clear hw hI HI HJ HS HE c0d c1d
  go_wp2_with fail
  go_loopg [5] (k + 2) (fun kq i wr => ∃ (z : Int) (q : Nat), i = .int .i64 z ∧ z = (q : Int) - 1 ∧ q ≤ k + 2 ∧ kq = k + 2 - q ∧ Hid (Below w.heap.size w wr))
  case atStart => exact ⟨_, 0, rfl, rfl, by omega, by omega, Lib.hid (Below.refl _ _).drew⟩
  case round =>
    obtain ⟨z, q, rfl, hz, hq, rfl, hb⟩ := hrel
    have c0 : wr.cell? ⟨r, 0, none⟩ = some (.slice Af k cf) := (hb.out.cell (p := ⟨r, 0, none⟩) hlr).trans C0.out
    have hlw : r < wr.heap.size := by have := hb.out.size; omega
    by_cases hlt : q < k + 2
    · have hzk : z ≤ (k : Int) := by omega
      have hzd : decide (z ≤ (k : Int)) = true := by simp [hzk]
      have hw1 : IntKind.i64.wrap (z + 1) = z + 1 := by rw [IntKind.wrap_i64]; omega
      have HZ := Lib.hid hz
      clear hz
      go_wp2_with fail
      refine (read_all wr F d k z S (HD.out.below hb.out) hk1 hk HP.out.2.1.ok.now).mono ?_
      rintro e w1 ⟨A, m, c, rfl, hm, ho, hf, hb1⟩
      have H1 := Lib.hid (And.intro ho (And.intro hf hb1))
      have HB1 := Lib.hid (hb.out.trans (hb1.mono hb.out.size))
      have hcv := run_str w1 _ 22 5 9 A m c _ Try.underlying22 Try.underlying5 Try.underlying9 (Sl.of_own ho)
      have HCV := Lib.hid hcv
      clear ho hf hb1 c0 hlw hcv
      go_wp2_with fail
      refine (rread_all w1 G r k z S R (HR.out.below HB1.out) (by rw [HP.out.1.el]; exact HP.out.2.2) HP.out.1 HP.out.2.1).mono ?_
      rintro e w' ⟨rfl, rfl⟩
      have hcv := HCV.out
      clear HCV
      obtain ⟨⟨l, e0⟩, hsh⟩ : ∃ x, x = shown S k z := ⟨_, rfl⟩
      rw [← hsh] at hcv H1 ⊢
      simp only at hcv H1 ⊢
      clear hsh
      go_wp2_with fail
      have hsz0 := hb.out.size
      go_loopg [10] m (fun kq i wq => ∃ (p : Nat) (xs : List Value), i = .int .i64 p ∧ p ≤ m ∧ kq = m - p ∧ Hid (wq.ownsRow 0 5 1 (.slice A m c) m xs) ∧ Hid (Below w.heap.size w wq))
      case atStart => exact ⟨0, _, rfl, by omega, by omega, H1.out.1, HB1⟩
      case round =>
        obtain ⟨p, xs, rfl, hp, rfl, ho, hb2⟩ := hrel
        by_cases hpm : p < m
        · have hpI : (p : Int) < (m : Int) := by omega
          have ho2 := ho.out
          obtain ⟨g, cap, hv, _, hgl⟩ := ho2.form (by omega)
          simp only [Value.slice.injEq] at hv
          obtain ⟨rfl, hx, rfl⟩ := hv
          clear hx
          obtain ⟨u, hu⟩ : ∃ u, xs[p]? = some u := ⟨_, List.getElem?_eq_getElem (by have := ho2.1; omega)⟩
          have cs := ho2.cells rfl p u hu
          rw [add_lit0, Nat.zero_add] at cs
          have fz := ho2.frozenAt p
          have hst := Lib.hid (ho2.stored p (.int .u8 9)).1
          have hgw := H1.out.2.1 g rfl
          have HB3 := Lib.hid (hb2.out.setCell (p := ⟨g, p, none⟩) (by show w.heap.size ≤ g; omega) (.int .u8 9))
          clear ho2 hu
          go_wp2_with fail
          go_roundg (m - (p + 1))
          case measure => omega
          case rel => exact ⟨p + 1, _, by go_num, by omega, rfl, hst, HB3⟩
        · obtain rfl : p = m := by omega
          go_wp2_with fail
          go_roundg (k + 2 - (q + 1))
          case measure => omega
          case rel => exact ⟨z + 1, q + 1, by go_num, by have := HZ.out; omega, by omega, rfl, hb2⟩
    · have hzk : ¬ z ≤ (k : Int) := by omega
      have hzd : decide (z ≤ (k : Int)) = false := by simp [hzk]
      clear hz
      go_wp2_with fail
      go_ret
      exact ⟨rfl, hb.out⟩
end Go.Proofs.Ytjdobjcbmmdjeaa
