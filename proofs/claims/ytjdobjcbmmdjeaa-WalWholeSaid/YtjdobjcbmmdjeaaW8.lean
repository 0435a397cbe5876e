/- Contracts of package bits: Number, Bytes. -/
import Derived.Test.YtjdobjcbmmdjeaaW7
namespace Go.Proofs.Ytjdobjcbmmdjeaa
open Go.RowKit

/-- the number of bytes, the highest first -/
def numOf (l : List UInt8) : Nat := l.foldl (fun v x => v * 256 + x.toNat) 0
theorem numOf_snoc (l : List UInt8) (x : UInt8) : numOf (l ++ [x]) = numOf l * 256 + x.toNat := by simp [numOf]
theorem numOf_lt (l : List UInt8) : numOf l < 256 ^ l.length := by
  suffices ∀ (r : List UInt8), numOf r.reverse < 256 ^ r.length by
    have := this l.reverse
    simpa using this
  intro r
  induction r with
  | nil => simp [numOf]
  | cons x r ih =>
    rw [List.reverse_cons, numOf_snoc, List.length_cons, Nat.pow_succ]
    have := x.toNat_lt
    omega

theorem or256 (v : Nat) (x : UInt8) (h : v < 72057594037927936) : bits .or .u64 ((v : Int) * 256) (IntKind.u64.wrap (x.toNat : Int)) = ((v * 256 + x.toNat : Nat) : Int) := by
  have hx := x.toNat_lt
  have e1 : IntKind.u64.wrap (x.toNat : Int) = (x.toNat : Int) := by rw [IntKind.wrap_u64]; omega
  have e2 : bits .or .u64 ((v : Int) * 256) (x.toNat : Int) = IntKind.u64.wrap (((((v : Int) * 256) % 18446744073709551616).toNat ||| ((x.toNat : Int) % 18446744073709551616).toNat : Nat) : Int) := by
    unfold bits; rfl
  have e3 : (((v : Int) * 256) % 18446744073709551616).toNat = v * 256 := by omega
  have e4 : ((x.toNat : Int) % 18446744073709551616).toNat = x.toNat := by omega
  have e5 : v * 256 ||| x.toNat = v * 256 + x.toNat := by
    have := Nat.shiftLeft_add_eq_or_of_lt (show x.toNat < 2 ^ 8 by omega) v
    rw [Nat.shiftLeft_eq] at this
    exact this.symm
  rw [e1, e2, e3, e4, e5, IntKind.wrap_u64]
  omega
set_option maxRecDepth 100000 in
theorem number_ok (w : World) (F : Nat → Prop) (A : Option Addr) (m c : Nat) (l : List UInt8) (h : Sl w F 1 (.slice A m c) m (B8 l)) (h1 : 1 ≤ m) (h8 : m ≤ 8) :
    Calls Try.prog 59 #[.slice A m c] w fun e w' => e = .returned (.tuple #[.int .u64 (numOf l), .int .i64 0]) ∧ w = w' := by
  have hl : l.length = m := by have := h.1; rw [B8_length, Nat.mul_one] at this; exact this
  obtain ⟨_, A', c', hv, hc, hr⟩ := h
  simp only [Value.slice.injEq] at hv
  obtain ⟨rfl, _, rfl⟩ := hv
  obtain ⟨⟨b, o, s⟩, rfl, _, hx⟩ := hr (by omega)
  have hs : s = none := by
    have := hx 0 (.int .u8 (l[0].toNat : Int)) (by simp only [B8, List.getElem?_map, List.getElem?_eq_getElem (show 0 < l.length by omega)]; rfl)
    simpa [Addr.add] using World.cell?_spot this
  subst hs
  have HC : Hid (∀ i x, l[i]? = some x → w.cell? ⟨b, o + i, none⟩ = some (.int .u8 (x.toNat : Int))) := by
    intro i x hi
    have := hx i (.int .u8 (x.toNat : Int)) (by simp only [B8, List.getElem?_map, hi]; rfl)
    rwa [add_lit0] at this
  clear hr hx
  have m1 : ¬ (m : Int) < 1 := by omega
  have m2 : ¬ (8 < (m : Int)) := by omega
  go_enter Try.func59, Try.ntmps59
  go_wp2_with fail
  go_loopg [4, 17] m (fun kq v i wr => ∃ j : Nat, i = .int .i64 j ∧ j ≤ m ∧ kq = m - j ∧ v = .int .u64 (numOf (l.take j)) ∧ wr = w)
  case atStart => exact ⟨0, rfl, by omega, rfl, rfl, rfl⟩
  case round =>
    obtain ⟨j, rfl, hj, rfl, rfl, rfl⟩ := hrel
    by_cases hlt : j < m
    · obtain ⟨x, hx⟩ : ∃ x, l[j]? = some x := ⟨_, List.getElem?_eq_getElem (by omega)⟩
      have hcell := HC.out j x hx
      have hbl : b < wr.heap.size := World.block_lt_of_cell? _ _ hcell
      have hji : (j : Int) < (m : Int) := by omega
      have hnx : numOf (l.take (j + 1)) = numOf (l.take j) * 256 + x.toNat := by
        rw [List.take_add_one, hx]
        exact numOf_snoc _ _
      have hlt2 : numOf (l.take j) < 72057594037927936 := by
        have h1 := numOf_lt (l.take j)
        rw [List.length_take] at h1
        have h2 : 256 ^ (min j l.length) ≤ 256 ^ 7 := Nat.pow_le_pow_right (by omega) (by omega)
        have h3 : (256 : Nat) ^ 7 = 72057594037927936 := by decide
        omega
      obtain ⟨v, hv⟩ : ∃ v, v = numOf (l.take j) := ⟨_, rfl⟩
      rw [← hv] at hnx hlt2 ⊢
      have HNX := Lib.hid hnx
      clear hv hx hnx
      have hor := or256 v x hlt2
      go_wp2_with fail
      go_roundg (m - (j + 1))
      case measure => omega
      case rel => exact ⟨j + 1, by go_num, by omega, rfl, by rw [HNX.out]; simp, rfl⟩
    · obtain rfl : j = m := by omega
      have e : l.take j = l := List.take_of_length_le (by omega)
      rw [e]
      go_wp2_with fail
      go_ret2
      exact ⟨rfl, rfl⟩

/-- a number's lowest 8 bytes, the highest first -/
def bytesOf (v : Nat) : List UInt8 := (List.range 8).map fun i => UInt8.ofNat (v / 256 ^ (7 - i))
theorem bytesOf_length (v : Nat) : (bytesOf v).length = 8 := by simp [bytesOf]
/-- the bytes behind j steps: the last j are there -/
def bytesAt (v j : Nat) : List UInt8 := (List.range 8).map fun i => if 8 - j ≤ i then UInt8.ofNat (v / 256 ^ (7 - i)) else 0
theorem bytesAt_zero (v : Nat) : bytesAt v 0 = List.replicate 8 0 := by
  unfold bytesAt
  rfl
theorem bytesAt_all (v : Nat) : bytesAt v 8 = bytesOf v := by
  unfold bytesAt bytesOf
  simp
theorem bytesAt_set (v j : Nat) (hj : j < 8) : (bytesAt v j).set (7 - j) (UInt8.ofNat (v / 256 ^ j)) = bytesAt v (j + 1) := by
  apply List.ext_getElem?
  intro i
  simp only [bytesAt, List.getElem?_set, List.getElem?_map, List.length_map, List.length_range]
  by_cases hi : i < 8
  · rw [List.getElem?_range hi]
    by_cases e : 7 - j = i
    · subst e
      rw [if_pos rfl, if_pos (by omega)]
      simp only [Option.map_some]
      rw [if_pos (by omega), show 7 - (7 - j) = j from by omega]
    · rw [if_neg e]
      simp only [Option.map_some]
      by_cases h1 : 8 - j ≤ i
      · rw [if_pos h1, if_pos (by omega)]
      · rw [if_neg h1, if_neg (by omega)]
  · rw [if_neg (by omega), List.getElem?_eq_none (by simp; omega)]
    simp
set_option maxRecDepth 100000 in
theorem bytes_ok (w : World) (v : Nat) :
    Calls Try.prog 48 #[.int .u64 v, .int .i64 8] w fun e w' => ∃ A, e = .returned (.tuple #[.slice A 8 8, .int .i64 0]) ∧ w'.ownsRow 0 5 1 (.slice A 8 8) 8 (B8 (bytesOf v)) ∧ (∀ b, (Value.slice A 8 8).ownBlock = some b → w.heap.size ≤ b) ∧ Below w.heap.size w w' := by
  obtain ⟨i, hi1, hz, hsize, hby⟩ := info_parts info5
  obtain ⟨w2, hrun, r1, r2⟩ := run_make_full (P := Try.prog) w 0 22 5 i (.int .u8 0) 1 Try.underlying22 hi1 hz hsize .i64 .i64 8 (by rw [hby]; omega) (by simp only [maxLen]; omega) (Nat.zero_le _)
  have hrun : (Instr.makeSlice 22 (.int .i64 8) (.int .i64 8)).run Try.prog w = .ok (.slice (some ⟨w.heap.size, 0, none⟩) 8 8) w2 := hrun
  rw [zeros_u8] at r1
  have hl := own_lt' r1 rfl
  have HR := Lib.hid (And.intro r1 r2)
  clear r1 r2 hz hsize hby hi1
  go_enter Try.func48, Try.ntmps48
  go_wp2_with fail
  go_loopg [17] 8 (fun kq i wr => ∃ j : Nat, i = .int .i64 j ∧ j ≤ 8 ∧ kq = 8 - j ∧ Hid (wr.ownsRow 0 5 1 (.slice (some ⟨w.heap.size, 0, none⟩) 8 8) 8 (B8 (bytesAt v j))) ∧ Hid (Below w.heap.size w wr))
  case atStart => exact ⟨0, rfl, by omega, rfl, by rw [bytesAt_zero]; exact HR.out.1, (Below.refl _ _).grown HR.out.2 (Nat.le_refl _) (by simp)⟩
  case round =>
    obtain ⟨j, rfl, hj, rfl, ho, hb⟩ := hrel
    by_cases hlt : j < 8
    · have w1 : IntKind.i64.wrap (7 - (j : Int)) = ((7 - j : Nat) : Int) := by rw [IntKind.wrap_i64]; omega
      have hcs := ho.out.cells rfl (7 - j) (.int .u8 (((bytesAt v j)[7 - j]'(by simp [bytesAt]; omega)).toNat : Int)) (by simp only [B8, List.getElem?_map, List.getElem?_eq_getElem (show 7 - j < (bytesAt v j).length by simp [bytesAt]; omega)]; rfl)
      rw [add_lit0, Nat.zero_add] at hcs
      have hfz := ho.out.frozenAt (7 - j)
      have hsz : w.heap.size < wr.heap.size := own_lt' ho.out rfl
      have hbv : (((v : Int) / 2 ^ (8 * j)) % 256) = ((UInt8.ofNat (v / 256 ^ j)).toNat : Int) := by
        rw [UInt8.toNat_ofNat', show (2 : Int) ^ (8 * j) = ((256 ^ j : Nat) : Int) from by rw [Int.natCast_pow, Int.pow_mul]; rfl]
        rfl
      have hst := Lib.hid (ho.out.stored (7 - j) (.int .u8 ((UInt8.ofNat (v / 256 ^ j)).toNat : Int))).1
      have hbl := Lib.hid (hb.out.setCell (p := ⟨w.heap.size, 7 - j, none⟩) (Nat.le_refl _) (.int .u8 ((UInt8.ofNat (v / 256 ^ j)).toNat : Int)))
      have HBV := Lib.hid hbv
      clear hbv
      go_wp2_with fail
      rw [HBV.out]
      go_roundg (8 - (j + 1))
      case measure => omega
      case rel =>
        refine ⟨j + 1, by go_num, by omega, rfl, ?_, hbl⟩
        have h := hst.out
        have e : (B8 (bytesAt v j)).set (7 - j) (.int .u8 ((UInt8.ofNat (v / 256 ^ j)).toNat : Int)) = B8 (bytesAt v (j + 1)) := by
          rw [← bytesAt_set v j hlt]; simp only [B8, List.map_set]
        rw [e] at h
        exact Lib.hid h
    · obtain rfl : j = 8 := by omega
      go_wp2_with fail
      go_ret2
      exact ⟨_, rfl, by rw [← bytesAt_all]; exact ho.out, fun b hb => by simp [Value.ownBlock] at hb; omega, hb.out⟩
end Go.Proofs.Ytjdobjcbmmdjeaa
