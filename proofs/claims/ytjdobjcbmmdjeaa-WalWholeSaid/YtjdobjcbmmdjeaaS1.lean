/- Contracts that hold for every argument, and 'same': do a disk and the reference's tell the same sectors? -/
import Derived.Test.YtjdobjcbmmdjeaaP3
namespace Go.Proofs.Ytjdobjcbmmdjeaa
open Go.RowKit

/-- what is shown of sector z -/
def shown (S : Dsk) (k : Nat) (z : Int) : List UInt8 × Int := if 0 ≤ z ∧ z < (k : Int) then (sec S.now z.toNat, 0) else ([], 2)

theorem read_all (w : World) (F : Nat → Prop) (d k : Nat) (z : Int) (S : Dsk) (h : DiskAt w F d S) (hk1 : 1 ≤ k) (hk : k ≤ 2048) (hnow : S.now.length = k * 256) :
    Calls Try.prog 11 #[.pointer (some ⟨d, 0, none⟩), .int .i64 z] w fun e w' => ∃ A m c, e = .returned (.tuple #[.slice A m c, .int .i64 (shown S k z).2]) ∧ m ≤ 256 ∧ w'.ownsRow 0 5 1 (.slice A m c) m (B8 (shown S k z).1) ∧
      (∀ b, (Value.slice A m c).ownBlock = some b → w.heap.size ≤ b) ∧ Below w.heap.size w w' := by
  by_cases hz : 0 ≤ z ∧ z < (k : Int)
  · obtain ⟨n, rfl⟩ : ∃ n : Nat, z = (n : Int) := ⟨z.toNat, by omega⟩
    have hn : n < k := by omega
    have e : shown S k (n : Int) = (sec S.now n, 0) := by simp [shown, hn]
    rw [e]
    refine (read_ok w F d k n S h hk hnow hn).mono ?_
    rintro e w' ⟨A, c, rfl, hN⟩
    obtain ⟨o1, f1, b1⟩ := hN.out (sec_length hnow hn)
    exact ⟨A, 256, c, rfl, Nat.le_refl _, o1, f1, b1⟩
  · have e : shown S k z = ([], 2) := by simp only [shown, if_neg hz]
    rw [e]
    refine (read_out w F d k z S h hk1 hk hnow (by omega)).mono ?_
    rintro e w' ⟨rfl, hb⟩
    exact ⟨none, 0, 0, rfl, by omega, own_nil0 _ _ _, by simp [Value.ownBlock], hb⟩
theorem rread_all (w : World) (F : Nat → Prop) (r k : Nat) (z : Int) (S : Dsk) (R : RDsk) (h : RefAt w F r R) (hev : R.ev.length ≤ 1000000000) (hr : Rel S R k) (hg : S.Good k) :
    Calls Try.prog 44 #[.pointer (some ⟨r, 0, none⟩), .int .i64 z] w fun e w' => e = .returned (.tuple #[bstr (shown S k z).1, .int .i64 (shown S k z).2]) ∧ w = w' := by
  by_cases hz : 0 ≤ z ∧ z < (k : Int)
  · obtain ⟨n, rfl⟩ : ∃ n : Nat, z = (n : Int) := ⟨z.toNat, by omega⟩
    have hn : n < k := by omega
    have e : shown S k (n : Int) = (sec S.now n, 0) := by simp [shown, hn]
    rw [e, ← hr.get hg n hn]
    exact rread_ok w F r n R h hev (by rw [hr.fl]; exact hn)
  · have e : shown S k z = ([], 2) := by simp only [shown, if_neg hz]
    rw [e]
    exact rread_out w F r R z h (by rw [hr.fl]; exact hz)

/-- what Write answers, and what the disk is behind it -/
def okW (k m : Nat) (z : Int) : Bool := decide (0 ≤ z ∧ z < (k : Int)) && decide (m = 256)
def wErr (k m : Nat) (z : Int) : Int := if okW k m z then 0 else 2
def wDsk (S : Dsk) (k m : Nat) (z : Int) (bs : List UInt8) : Dsk := if okW k m z then writeD S z.toNat bs else S
def wRef (R : RDsk) (k m : Nat) (z : Int) (bs : List UInt8) : RDsk := if okW k m z then ⟨R.first, R.ev ++ [(z, bs)]⟩ else R
theorem write_all (w : World) (F G : Nat → Prop) (d k m : Nat) (z : Int) (S : Dsk) (A : Option Addr) (c : Nat) (bs : List UInt8) (h : DiskAt w F d S) (hk1 : 1 ≤ k) (hk2 : k ≤ 2048) (hnow : S.now.length = k * 256)
    (hb : Sl w G 1 (.slice A m c) m (B8 bs)) (hG : ∀ b, F b → ¬ G b) (hev : S.ev.length ≤ 1000000000) (hwr : S.wrote.length ≤ 1000000000000) :
    Calls Try.prog 14 #[.pointer (some ⟨d, 0, none⟩), .int .i64 z, .slice A m c] w fun e w' => e = .returned (.int .i64 (wErr k m z)) ∧
      DiskAt w' (fun b => F b ∨ (w.heap.size ≤ b ∧ b < w'.heap.size)) d (wDsk S k m z bs) ∧ Mod F w w' := by
  by_cases hz : 0 ≤ z ∧ z < (k : Int)
  · obtain ⟨n, rfl⟩ : ∃ n : Nat, z = (n : Int) := ⟨z.toNat, by omega⟩
    have hn : n < k := by omega
    by_cases hm : m = 256
    · subst hm
      have e1 : wErr k 256 (n : Int) = 0 := by simp [wErr, okW, hn]
      have e2 : wDsk S k 256 (n : Int) bs = writeD S n bs := by simp [wDsk, okW, hn]
      rw [e1, e2]
      exact write_ok w F G d k n S A c bs h hk1 hk2 hnow hn hb hG hev hwr
    · have e1 : wErr k m (n : Int) = 2 := by simp [wErr, okW, hm]
      have e2 : wDsk S k m (n : Int) bs = S := by simp [wDsk, okW, hm]
      rw [e1, e2]
      obtain ⟨g, c', _, hp⟩ := h.part_in hk2 hnow hn
      refine (write_odd _ _ _ A m c w hp hm).mono ?_
      rintro e w' ⟨rfl, rfl⟩
      exact ⟨rfl, h.mono (fun b hb => .inl hb) (fun b hb => hb.elim (fun hb => by obtain ⟨_, _, _, _, _, _, _, _, _, _, _, _, _, hlt⟩ := h; exact hlt b hb) (fun hb => hb.2)), Mod.refl _ _⟩
  · have e1 : wErr k m z = 2 := by simp only [wErr, okW, decide_eq_false hz]; rfl
    have e2 : wDsk S k m z bs = S := by simp only [wDsk, okW, decide_eq_false hz]; rfl
    rw [e1, e2]
    refine (write_bad _ _ 2 _ w (h.part_out hk1 hk2 hnow (by omega)) (by decide)).mono ?_
    rintro e w' ⟨rfl, rfl⟩
    exact ⟨rfl, h.mono (fun b hb => .inl hb) (fun b hb => hb.elim (fun hb => by obtain ⟨_, _, _, _, _, _, _, _, _, _, _, _, _, hlt⟩ := h; exact hlt b hb) (fun hb => hb.2)), Mod.refl _ _⟩
theorem rwrite_all (w : World) (F G : Nat → Prop) (r k m : Nat) (z : Int) (R : RDsk) (A : Option Addr) (c : Nat) (bs : List UInt8) (h : RefAt w F r R) (hfl : R.first.length = k) (hev : R.ev.length ≤ 1000000000) (hb : Sl w G 1 (.slice A m c) m (B8 bs)) :
    Calls Try.prog 21 #[.pointer (some ⟨r, 0, none⟩), .int .i64 z, .slice A m c] w fun e w' => e = .returned (.int .i64 (wErr k m z)) ∧
      RefAt w' (fun b => F b ∨ (w.heap.size ≤ b ∧ b < w'.heap.size)) r (wRef R k m z bs) ∧ Mod F w w' := by
  subst hfl
  have hsame : RefAt w (fun b => F b ∨ (w.heap.size ≤ b ∧ b < w.heap.size)) r R := h.mono (fun b hb => .inl hb) (fun b hb => hb.elim (fun hb => h.lt hb) (fun hb => hb.2))
  by_cases hz : 0 ≤ z ∧ z < (R.first.length : Int)
  · obtain ⟨n, rfl⟩ : ∃ n : Nat, z = (n : Int) := ⟨z.toNat, by omega⟩
    have hn : n < R.first.length := by omega
    by_cases hm : m = 256
    · subst hm
      have e1 : wErr R.first.length 256 (n : Int) = 0 := by simp [wErr, okW, hn]
      have e2 : wRef R R.first.length 256 (n : Int) bs = ⟨R.first, R.ev ++ [((n : Int), bs)]⟩ := by simp [wRef, okW, hn]
      rw [e1, e2]
      exact rwrite_ok w F G r n R A c bs h hev hn hb
    · have e1 : wErr R.first.length m (n : Int) = 2 := by simp [wErr, okW, hm]
      have e2 : wRef R R.first.length m (n : Int) bs = R := by simp [wRef, okW, hm]
      rw [e1, e2]
      refine (rwrite_odd w F r R _ A m c h hm).mono ?_
      rintro e w' ⟨rfl, rfl⟩
      exact ⟨rfl, hsame, Mod.refl _ _⟩
  · have e1 : wErr R.first.length m z = 2 := by simp only [wErr, okW, decide_eq_false hz]; rfl
    have e2 : wRef R R.first.length m z bs = R := by simp only [wRef, okW, decide_eq_false hz]; rfl
    rw [e1, e2]
    refine (rwrite_out w F r R z _ h hz).mono ?_
    rintro e w' ⟨rfl, rfl⟩
    exact ⟨rfl, hsame, Mod.refl _ _⟩
theorem Rel.wAll {S : Dsk} {R : RDsk} {k : Nat} (h : Rel S R k) (hg : S.Good k) (m : Nat) (z : Int) (bs : List UInt8) (hb : bs.length = m) :
    Rel (wDsk S k m z bs) (wRef R k m z bs) k ∧ (wDsk S k m z bs).Good k ∧ (wDsk S k m z bs).ev.length ≤ S.ev.length + 1 ∧ (S.wrote.length ≤ 256 * S.ev.length → (wDsk S k m z bs).wrote.length ≤ 256 * (wDsk S k m z bs).ev.length) := by
  unfold wDsk wRef
  by_cases ho : okW k m z = true
  · rw [if_pos ho, if_pos ho]
    unfold okW at ho
    simp only [Bool.and_eq_true, decide_eq_true_eq] at ho
    obtain ⟨⟨h0, h1⟩, hm⟩ := ho
    obtain ⟨n, rfl⟩ : ∃ n : Nat, z = (n : Int) := ⟨z.toNat, by omega⟩
    rw [Int.toNat_natCast]
    refine ⟨h.write hg n bs (by omega), hg.write n (by omega) bs (by omega), by simp [writeD], fun hw => ?_⟩
    simp only [writeD, List.length_append, List.length_cons, List.length_nil]
    omega
  · rw [if_neg ho, if_neg ho]
    exact ⟨h, hg, by omega, fun h => h⟩
end Go.Proofs.Ytjdobjcbmmdjeaa
