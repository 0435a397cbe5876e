/- Contracts that hold for every argument, and 'same': do a disk and the reference's tell the same sectors? -/
import Derived.Test.YtjdobjcbmmdjeaaP3
namespace Go.Proofs.Ytjdobjcbmmdjeaa
open Go.RowKit

/-- what is shown of sector z -/
def shown (S : Dsk) (k : Nat) (z : Int) : List UInt8 × Int := if 0 ≤ z ∧ z < (k : Int) then (sec S.now z.toNat, 0) else ([], 2)

theorem read_all (w : World) (F : Nat → Prop) (d k : Nat) (z : Int) (S : Dsk) (h : DiskAt w F d S) (hk1 : 1 ≤ k) (hk : k ≤ 2048) (hnow : S.now.length = k * 256) :
    Calls Try.prog 11 #[.pointer (some ⟨d, 0, none⟩), .int .i64 z] w fun e w' => ∃ A m c, e = .returned (.tuple #[.slice A m c, .int .i64 (shown S k z).2]) ∧ m ≤ 256 ∧ w'.ownsRow 0 5 1 (.slice A m c) m (B8 (shown S k z).1) ∧
      (∀ b, (Value.slice A m c).ownBlock = some b → w.heap.size ≤ b) ∧ Below w.heap.size w w' := by
  by_cases hz : 0 ≤ z ∧ z < (k : Int)
  · obtain ⟨n, rfl⟩ : ∃ n : Nat, z = (n : Int) := ⟨z.toNat, by omega⟩
    have hn : n < k := by omega
    have e : shown S k (n : Int) = (sec S.now n, 0) := by simp [shown, hn]
    rw [e]
    refine (read_ok w F d k n S h hk hnow hn).mono ?_
    rintro e w' ⟨A, c, rfl, hN⟩
    obtain ⟨o1, f1, b1⟩ := hN.out (sec_length hnow hn)
    exact ⟨A, 256, c, rfl, Nat.le_refl _, o1, f1, b1⟩
  · have e : shown S k z = ([], 2) := by simp only [shown, if_neg hz]
    rw [e]
    refine (read_out w F d k z S h hk1 hk hnow (by omega)).mono ?_
    rintro e w' ⟨rfl, hb⟩
    exact ⟨none, 0, 0, rfl, by omega, own_nil0 _ _ _, by simp [Value.ownBlock], hb⟩
theorem rread_all (w : World) (F : Nat → Prop) (r k : Nat) (z : Int) (S : Dsk) (R : RDsk) (h : RefAt w F r R) (hev : R.ev.length ≤ 1000000000) (hr : Rel S R k) (hg : S.Good k) :
    Calls Try.prog 44 #[.pointer (some ⟨r, 0, none⟩), .int .i64 z] w fun e w' => e = .returned (.tuple #[bstr (shown S k z).1, .int .i64 (shown S k z).2]) ∧ w = w' := by
  by_cases hz : 0 ≤ z ∧ z < (k : Int)
  · obtain ⟨n, rfl⟩ : ∃ n : Nat, z = (n : Int) := ⟨z.toNat, by omega⟩
    have hn : n < k := by omega
    have e : shown S k (n : Int) = (sec S.now n, 0) := by simp [shown, hn]
    rw [e, ← hr.get hg n hn]
    exact rread_ok w F r n R h hev (by rw [hr.fl]; exact hn)
  · have e : shown S k z = ([], 2) := by simp only [shown, if_neg hz]
    rw [e]
    exact rread_out w F r R z h (by rw [hr.fl]; exact hz)

/-- what Write answers, and what the disk is behind it -/
def okW (k m : Nat) (z : Int) : Bool := decide (0 ≤ z ∧ z < (k : Int)) && decide (m = 256)
def wErr (k m : Nat) (z : Int) : Int := if okW k m z then 0 else 2
def wDsk (S : Dsk) (k m : Nat) (z : Int) (bs : List UInt8) : Dsk := if okW k m z then writeD S z.toNat bs else S
def wRef (R : RDsk) (k m : Nat) (z : Int) (bs : List UInt8) : RDsk := if okW k m z then ⟨R.first, R.ev ++ [(z, bs)]⟩ else R
theorem write_all (w : World) (F G : Nat → Prop) (d k m : Nat) (z : Int) (S : Dsk) (A : Option Addr) (c : Nat) (bs : List UInt8) (h : DiskAt w F d S) (hk1 : 1 ≤ k) (hk2 : k ≤ 2048) (hnow : S.now.length = k * 256)
    (hb : Sl w G 1 (.slice A m c) m (B8 bs)) (hG : ∀ b, F b → ¬ G b) (hev : S.ev.length ≤ 1000000000) (hwr : S.wrote.length ≤ 1000000000000) :
    Calls Try.prog 14 #[.pointer (some ⟨d, 0, none⟩), .int .i64 z, .slice A m c] w fun e w' => e = .returned (.int .i64 (wErr k m z)) ∧
      DiskAt w' (fun b => F b ∨ (w.heap.size ≤ b ∧ b < w'.heap.size)) d (wDsk S k m z bs) ∧ Mod F w w' := by
  by_cases hz : 0 ≤ z ∧ z < (k : Int)
  · obtain ⟨n, rfl⟩ : ∃ n : Nat, z = (n : Int) := ⟨z.toNat, by omega⟩
    have hn : n < k := by omega
    by_cases hm : m = 256
    · subst hm
      have e1 : wErr k 256 (n : Int) = 0 := by simp [wErr, okW, hn]
      have e2 : wDsk S k 256 (n : Int) bs = writeD S n bs := by simp [wDsk, okW, hn]
      rw [e1, e2]
      exact write_ok w F G d k n S A c bs h hk1 hk2 hnow hn hb hG hev hwr
    · have e1 : wErr k m (n : Int) = 2 := by simp [wErr, okW, hm]
      have e2 : wDsk S k m (n : Int) bs = S := by simp [wDsk, okW, hm]
      rw [e1, e2]
      obtain ⟨g, c', _, hp⟩ := h.part_in hk2 hnow hn
      refine (write_odd _ _ _ A m c w hp hm).mono ?_
      rintro e w' ⟨rfl, rfl⟩
      exact ⟨rfl, h.mono (fun b hb => .inl hb) (fun b hb => hb.elim (fun hb => by obtain ⟨_, _, _, _, _, _, _, _, _, _, _, _, _, hlt⟩ := h; exact hlt b hb) (fun hb => hb.2)), Mod.refl _ _⟩
  · have e1 : wErr k m z = 2 := by simp only [wErr, okW, decide_eq_false hz]; rfl
    have e2 : wDsk S k m z bs = S := by simp only [wDsk, okW, decide_eq_false hz]; rfl
    rw [e1, e2]
    refine (write_bad _ _ 2 _ w (h.part_out hk1 hk2 hnow (by omega)) (by decide)).mono ?_
    rintro e w' ⟨rfl, rfl⟩
    exact ⟨rfl, h.mono (fun b hb => .inl hb) (fun b hb => hb.elim (fun hb => by obtain ⟨_, _, _, _, _, _, _, _, _, _, _, _, _, hlt⟩ := h; exact hlt b hb) (fun hb => hb.2)), Mod.refl _ _⟩
theorem rwrite_all (w : World) (F G : Nat → Prop) (r k m : Nat) (z : Int) (R : RDsk) (A : Option Addr) (c : Nat) (bs : List UInt8) (h : RefAt w F r R) (hfl : R.first.length = k) (hev : R.ev.length ≤ 1000000000) (hb : Sl w G 1 (.slice A m c) m (B8 bs)) :
    Calls Try.prog 21 #[.pointer (some ⟨r, 0, none⟩), .int .i64 z, .slice A m c] w fun e w' => e = .returned (.int .i64 (wErr k m z)) ∧
      RefAt w' (fun b => F b ∨ (w.heap.size ≤ b ∧ b < w'.heap.size)) r (wRef R k m z bs) ∧ Mod F w w' := by
  subst hfl
  have hsame : RefAt w (fun b => F b ∨ (w.heap.size ≤ b ∧ b < w.heap.size)) r R := h.mono (fun b hb => .inl hb) (fun b hb => hb.elim (fun hb => h.lt hb) (fun hb => hb.2))
  by_cases hz : 0 ≤ z ∧ z < (R.first.length : Int)
  · obtain ⟨n, rfl⟩ : ∃ n : Nat, z = (n : Int) := ⟨z.toNat, by omega⟩
    have hn : n < R.first.length := by omega
    by_cases hm : m = 256
    · subst hm
      have e1 : wErr R.first.length 256 (n : Int) = 0 := by simp [wErr, okW, hn]
      have e2 : wRef R R.first.length 256 (n : Int) bs = ⟨R.first, R.ev ++ [((n : Int), bs)]⟩ := by simp [wRef, okW, hn]
      rw [e1, e2]
      exact rwrite_ok w F G r n R A c bs h hev hn hb
    · have e1 : wErr R.first.length m (n : Int) = 2 := by simp [wErr, okW, hm]
      have e2 : wRef R R.first.length m (n : Int) bs = R := by simp [wRef, okW, hm]
      rw [e1, e2]
      refine (rwrite_odd w F r R _ A m c h hm).mono ?_
      rintro e w' ⟨rfl, rfl⟩
      exact ⟨rfl, hsame, Mod.refl _ _⟩
  · have e1 : wErr R.first.length m z = 2 := by simp only [wErr, okW, decide_eq_false hz]; rfl
    have e2 : wRef R R.first.length m z bs = R := by simp only [wRef, okW, decide_eq_false hz]; rfl
    rw [e1, e2]
    refine (rwrite_out w F r R z _ h hz).mono ?_
    rintro e w' ⟨rfl, rfl⟩
    exact ⟨rfl, hsame, Mod.refl _ _⟩
theorem Rel.wAll {S : Dsk} {R : RDsk} {k : Nat} (h : Rel S R k) (hg : S.Good k) (m : Nat) (z : Int) (bs : List UInt8) (hb : bs.length = m) :
    Rel (wDsk S k m z bs) (wRef R k m z bs) k ∧ (wDsk S k m z bs).Good k ∧ (wDsk S k m z bs).ev.length ≤ S.ev.length + 1 ∧ (S.wrote.length ≤ 256 * S.ev.length → (wDsk S k m z bs).wrote.length ≤ 256 * (wDsk S k m z bs).ev.length) := by
  unfold wDsk wRef
  by_cases ho : okW k m z = true
  · rw [if_pos ho, if_pos ho]
    unfold okW at ho
    simp only [Bool.and_eq_true, decide_eq_true_eq] at ho
    obtain ⟨⟨h0, h1⟩, hm⟩ := ho
    obtain ⟨n, rfl⟩ : ∃ n : Nat, z = (n : Int) := ⟨z.toNat, by omega⟩
    rw [Int.toNat_natCast]
    refine ⟨h.write hg n bs (by omega), hg.write n (by omega) bs (by omega), by simp [writeD], fun hw => ?_⟩
    simp only [writeD, List.length_append, List.length_cons, List.length_nil]
    omega
  · rw [if_neg ho, if_neg ho]
    exact ⟨h, hg, by omega, fun h => h⟩
end Go.Proofs.Ytjdobjcbmmdjeaa
/- 'same': a disk and the reference's tell the same sectors. -/
namespace Go.Proofs.Ytjdobjcbmmdjeaa
open Go.RowKit

set_option maxRecDepth 100000 in
set_option maxHeartbeats 2000000 in
theorem same_ok (w : World) (F G : Nat → Prop) (d r k : Nat) (S : Dsk) (R : RDsk) (hd : DiskAt w F d S) (hr : RefAt w G r R) (hrel : Rel S R k) (hg : S.Good k) (hk1 : 1 ≤ k) (hk : k ≤ 2048) (hev : S.ev.length ≤ 1000000000) :
    Calls Try.prog 24 #[.pointer (some ⟨d, 0, none⟩), .pointer (some ⟨r, 0, none⟩)] w fun e w' => e = .returned (.bool true) ∧ Below w.heap.size w w' := by
  obtain ⟨Af, cf, Ae, ce, c0, c1, hof, hoe, hlr⟩ := hr.cell
  rw [hrel.fl] at c0
  rw [hrel.el] at c1
  obtain ⟨L, hL⟩ : ∃ L, L = S.ev.length := ⟨_, rfl⟩
  rw [← hL] at c1
  have hs : Calls Try.prog 13 #[.pointer (some ⟨d, 0, none⟩)] w.drew fun e w' => e = .returned (.int .i64 k) ∧ w.drew = w' := (hd.below (Below.refl _ _).drew).sectors hk hg.ok.now
  have he : Calls Try.prog 17 #[.pointer (some ⟨d, 0, none⟩)] w.drew fun e w' => e = .returned (.int .i64 L) ∧ w.drew = w' := by rw [hL]; exact (hd.below (Below.refl _ _).drew).events
  have c0d : w.drew.cell? ⟨r, 0, none⟩ = some (.slice Af k cf) := c0
  have c1d : w.drew.cell? ⟨r, 1, none⟩ = some (.slice Ae L ce) := c1
  have HS := Lib.hid hs
  have HE := Lib.hid he
  have HD := Lib.hid hd
  have HR := Lib.hid hr
  have HP := Lib.hid (And.intro hrel (And.intro hg hev))
  have C0 := Lib.hid c0
  clear hd hr hrel hg hs he hof hoe hev hL c0 c1
  go_enter Try.func24, Try.ntmps24
  go_upto_region 1 with fail
  try simp only [Act.put, List.setIfInBounds_toArray, List.set_cons_zero, List.set_cons_succ]
  obtain ⟨Inv, hInv⟩ : ∃ Inv : Done → World → Prop, Inv = fun _ wI => wI = w.drew := ⟨_, rfl⟩
  have HI : Hid (∀ τ wI, Inv τ wI → wI = w.drew) := fun τ wI h => by rw [hInv] at h; exact h
  have HJ : Hid (∀ τ, Inv τ w.drew) := fun τ => by rw [hInv]
  clear hInv
  refine wp_region_inv (by kernel_rfl) [⟨0, false, [], []⟩, ⟨1, false, [], []⟩, ⟨2, false, [], []⟩, ⟨3, false, [], []⟩, ⟨4, false, [], []⟩, ⟨5, false, [], []⟩, ⟨6, false, [], []⟩, ⟨7, false, [], []⟩, ⟨8, false, [], []⟩, ⟨9, false, [], []⟩, ⟨10, false, [], []⟩, ⟨11, false, [], []⟩, ⟨12, false, [], []⟩, ⟨13, false, [], []⟩, ⟨14, false, [], []⟩, ⟨15, false, [], []⟩, ⟨16, false, [], []⟩, ⟨17, false, [], []⟩] (by kernel_rfl) Inv (fun _ _ => True) (fun _ => ⟨undef, trivial⟩) (HJ.out _) ?_
  (apply WpI.pure; (simp only [List.getElem?_toArray, List.getElem?_cons_zero]; rfl); (intro τ wI hA hI; have hw := HI.out _ _ hI; rw [hw]; go_simp; exact ⟨HJ.out _, Is.rfl'⟩); simp only [Act.put, List.setIfInBounds_toArray, List.set_cons_zero, List.set_cons_succ])
  (apply WpI.pure; (simp only [List.getElem?_toArray, List.getElem?_cons_succ, List.getElem?_cons_zero]; rfl); (intro τ wI hA hI; have hw := HI.out _ _ hI; rw [hw]; go_simp; refine HS.out.mono ?_; rintro e w' ⟨rfl, rfl⟩; exact ⟨_, rfl, HJ.out _, Is.rfl'⟩); simp only [Act.put, List.setIfInBounds_toArray, List.set_cons_zero, List.set_cons_succ])
  iterate 8 (apply WpI.pure; (simp only [List.getElem?_toArray, List.getElem?_cons_succ, List.getElem?_cons_zero]; rfl); (intro τ wI hA hI; have hw := HI.out _ _ hI; rw [hw]; go_simp; exact ⟨HJ.out _, Is.rfl'⟩); simp only [Act.put, List.setIfInBounds_toArray, List.set_cons_zero, List.set_cons_succ])
  (apply WpI.pure; (simp only [List.getElem?_toArray, List.getElem?_cons_succ, List.getElem?_cons_zero]; rfl); (intro τ wI hA hI; have hw := HI.out _ _ hI; rw [hw]; go_simp; refine HE.out.mono ?_; rintro e w' ⟨rfl, rfl⟩; exact ⟨_, rfl, HJ.out _, Is.rfl'⟩); simp only [Act.put, List.setIfInBounds_toArray, List.set_cons_zero, List.set_cons_succ])
  iterate 7 (apply WpI.pure; (simp only [List.getElem?_toArray, List.getElem?_cons_succ, List.getElem?_cons_zero]; rfl); (intro τ wI hA hI; have hw := HI.out _ _ hI; rw [hw]; go_simp; exact ⟨HJ.out _, Is.rfl'⟩); simp only [Act.put, List.setIfInBounds_toArray, List.set_cons_zero, List.set_cons_succ])
  refine WpI.done ?_
  intro wI hI
  have hw := HI.out _ _ hI
  rw [hw]
  clear hw hI HI HJ HS HE c0d c1d
  go_wp2_with fail
  go_loopg [5] (k + 2) (fun kq i wr => ∃ (z : Int) (q : Nat), i = .int .i64 z ∧ z = (q : Int) - 1 ∧ q ≤ k + 2 ∧ kq = k + 2 - q ∧ Hid (Below w.heap.size w wr))
  case atStart => exact ⟨_, 0, rfl, rfl, by omega, by omega, Lib.hid (Below.refl _ _).drew⟩
  case round =>
    obtain ⟨z, q, rfl, hz, hq, rfl, hb⟩ := hrel
    have c0 : wr.cell? ⟨r, 0, none⟩ = some (.slice Af k cf) := (hb.out.cell (p := ⟨r, 0, none⟩) hlr).trans C0.out
    have hlw : r < wr.heap.size := by have := hb.out.size; omega
    by_cases hlt : q < k + 2
    · have hzk : z ≤ (k : Int) := by omega
      have hzd : decide (z ≤ (k : Int)) = true := by simp [hzk]
      have hw1 : IntKind.i64.wrap (z + 1) = z + 1 := by rw [IntKind.wrap_i64]; omega
      have HZ := Lib.hid hz
      clear hz
      go_wp2_with fail
      refine (read_all wr F d k z S (HD.out.below hb.out) hk1 hk HP.out.2.1.ok.now).mono ?_
      rintro e w1 ⟨A, m, c, rfl, hm, ho, hf, hb1⟩
      have H1 := Lib.hid (And.intro ho (And.intro hf hb1))
      have HB1 := Lib.hid (hb.out.trans (hb1.mono hb.out.size))
      have hcv := run_str w1 _ 22 5 9 A m c _ Try.underlying22 Try.underlying5 Try.underlying9 (Sl.of_own ho)
      have HCV := Lib.hid hcv
      clear ho hf hb1 c0 hlw hcv
      go_wp2_with fail
      refine (rread_all w1 G r k z S R (HR.out.below HB1.out) (by rw [HP.out.1.el]; exact HP.out.2.2) HP.out.1 HP.out.2.1).mono ?_
      rintro e w' ⟨rfl, rfl⟩
      have hcv := HCV.out
      clear HCV
      obtain ⟨⟨l, e0⟩, hsh⟩ : ∃ x, x = shown S k z := ⟨_, rfl⟩
      rw [← hsh] at hcv H1 ⊢
      simp only at hcv H1 ⊢
      clear hsh
      go_wp2_with fail
      have hsz0 := hb.out.size
      go_loopg [10] m (fun kq i wq => ∃ (p : Nat) (xs : List Value), i = .int .i64 p ∧ p ≤ m ∧ kq = m - p ∧ Hid (wq.ownsRow 0 5 1 (.slice A m c) m xs) ∧ Hid (Below w.heap.size w wq))
      case atStart => exact ⟨0, _, rfl, by omega, by omega, H1.out.1, HB1⟩
      case round =>
        obtain ⟨p, xs, rfl, hp, rfl, ho, hb2⟩ := hrel
        by_cases hpm : p < m
        · have hpI : (p : Int) < (m : Int) := by omega
          have ho2 := ho.out
          obtain ⟨g, cap, hv, _, hgl⟩ := ho2.form (by omega)
          simp only [Value.slice.injEq] at hv
          obtain ⟨rfl, hx, rfl⟩ := hv
          clear hx
          obtain ⟨u, hu⟩ : ∃ u, xs[p]? = some u := ⟨_, List.getElem?_eq_getElem (by have := ho2.1; omega)⟩
          have cs := ho2.cells rfl p u hu
          rw [add_lit0, Nat.zero_add] at cs
          have fz := ho2.frozenAt p
          have hst := Lib.hid (ho2.stored p (.int .u8 9)).1
          have hgw := H1.out.2.1 g rfl
          have HB3 := Lib.hid (hb2.out.setCell (p := ⟨g, p, none⟩) (by show w.heap.size ≤ g; omega) (.int .u8 9))
          clear ho2 hu
          go_wp2_with fail
          go_roundg (m - (p + 1))
          case measure => omega
          case rel => exact ⟨p + 1, _, by go_num, by omega, rfl, hst, HB3⟩
        · obtain rfl : p = m := by omega
          go_wp2_with fail
          go_roundg (k + 2 - (q + 1))
          case measure => omega
          case rel => exact ⟨z + 1, q + 1, by go_num, by have := HZ.out; omega, by omega, rfl, hb2⟩
    · have hzk : ¬ z ≤ (k : Int) := by omega
      have hzd : decide (z ≤ (k : Int)) = false := by simp [hzk]
      clear hz
      go_wp2_with fail
      go_ret
      exact ⟨rfl, hb.out⟩
end Go.Proofs.Ytjdobjcbmmdjeaa
/- The memory of BlockPlays' loop. -/
namespace Go.Proofs.Ytjdobjcbmmdjeaa
open Go.RowKit

structure PlSt (w0 wr : World) (d r : Nat) (F G : Nat → Prop) (S : Dsk) (R : RDsk) (k : Nat) : Prop where
  below : Below w0.heap.size w0 wr
  disk : DiskAt wr F d S
  ref : RefAt wr G r R
  rel : Rel S R k
  good : S.Good k
  wrote : S.wrote.length ≤ 256 * S.ev.length
  fF : ∀ b, F b → w0.heap.size ≤ b
  fG : ∀ b, G b → w0.heap.size ≤ b
  dis : ∀ b, F b → ¬ G b
section
variable {w0 wr w' w1 w2 : World} {d r : Nat} {F G H : Nat → Prop} {S S' : Dsk} {R R' : RDsk} {k : Nat}
theorem DiskAt.lt {w : World} (h : DiskAt w F d S) {b : Nat} (hb : F b) : b < w.heap.size := by
  obtain ⟨_, _, _, _, _, _, _, _, _, _, _, _, _, hlt⟩ := h
  exact hlt b hb
theorem PlSt.frame (h : PlSt w0 wr d r F G S R k) (hm : Mod H wr w') (hH : ∀ b, b < wr.heap.size → H b → w0.heap.size ≤ b ∧ ¬ F b ∧ ¬ G b) : PlSt w0 w' d r F G S R k :=
  have hsz := h.below.size
  ⟨h.below.trans ⟨hm.os, hm.tape, hm.output, by have := hm.size; omega, fun i hi => hm.block i (by omega) (fun e => by have := (hH i (by omega) e).1; omega)⟩,
   h.disk.mod hm (fun b hb e => (hH b (h.disk.lt hb) e).2.1 hb), h.ref.mod hm (fun b hb e => (hH b (h.ref.lt hb) e).2.2 hb), h.rel, h.good, h.wrote, h.fF, h.fG, h.dis⟩
theorem PlSt.later (h : PlSt w0 wr d r F G S R k) (hb : Below wr.heap.size wr w') : PlSt w0 w' d r F G S R k :=
  h.frame (H := fun _ => False) (Mod.of_below hb) (fun _ _ e => e.elim)
/-- a step of both -/
theorem PlSt.step (h : PlSt w0 wr d r F G S R k) (hm1 : Mod F wr w1) (hd : DiskAt w1 (fun b => F b ∨ (wr.heap.size ≤ b ∧ b < w1.heap.size)) d S') (hm2 : Mod G w1 w2)
    (hr : RefAt w2 (fun b => G b ∨ (w1.heap.size ≤ b ∧ b < w2.heap.size)) r R') (rel : Rel S' R' k) (good : S'.Good k) (wrote : S'.wrote.length ≤ 256 * S'.ev.length) :
    PlSt w0 w2 d r (fun b => F b ∨ (wr.heap.size ≤ b ∧ b < w1.heap.size)) (fun b => G b ∨ (w1.heap.size ≤ b ∧ b < w2.heap.size)) S' R' k := by
  have hsz := h.below.size
  have s1 := hm1.size
  have dis : ∀ b, (F b ∨ (wr.heap.size ≤ b ∧ b < w1.heap.size)) → ¬ G b := fun b hb e => by
    rcases hb with hb | hb
    · exact h.dis b hb e
    · have := h.ref.lt e; omega
  refine ⟨(h.below.trans (hm1.below hsz h.fF)).trans (hm2.below (by omega) h.fG), hd.mod hm2 (fun b hb e => dis b hb e), hr, rel, good, wrote, fun b hb => ?_, fun b hb => ?_, fun b hb e => ?_⟩
  · rcases hb with hb | hb
    · exact h.fF b hb
    · omega
  · rcases hb with hb | hb
    · exact h.fG b hb
    · omega
  · rcases e with e | e
    · exact dis b hb e
    · rcases hb with hb | hb
      · have := h.disk.lt hb; omega
      · omega
/-- what lies in neither is as it was -/
theorem PlSt.kept (_h : PlSt w0 wr d r F G S R k) (hm1 : Mod F wr w1) (hm2 : Mod G w1 w2) : Mod (fun b => F b ∨ G b) wr w2 :=
  (hm1.mono (fun _ _ h => .inl h)).trans hm2 (fun _ _ h => .inr h)
theorem PlSt.drew (h : PlSt w0 wr d r F G S R k) : PlSt w0 wr.drew d r F G S R k := h.later (Below.refl _ _).drew
end

theorem names_ok (w : World) : Calls Try.prog 20 #[] w fun e w' => e = .returned (.bool true) ∧ w = w' := by
  go_enter Try.func20, Try.ntmps20
  go_wp2_with fail
  go_ret
  exact ⟨rfl, rfl⟩
theorem u8_next (b : UInt8) : IntKind.u8.wrap ((b.toNat : Int) + 1) = ((b + 1).toNat : Int) := by
  have h := b.toNat_lt
  rw [UInt8.toNat_add]
  simp only [IntKind.wrap, IntKind.signed, IntKind.bits]
  simp
end Go.Proofs.Ytjdobjcbmmdjeaa
