/- What the laws of a disk share: acts that came in, strings of sectors. -/
import Derived.Test.YtjdobjcbmmdjeaaP1
import Derived.Test.YtjdobjcbmmdjeaaOp
import Derived.Lib.SlBytesRow
namespace Go.Proofs.Ytjdobjcbmmdjeaa
open Go.RowKit

/-- a string of bytes -/
abbrev bstr (l : List UInt8) : Value := .string ⟨l.toArray⟩
theorem bstr_inj {l m : List UInt8} (h : bstr l = bstr m) : l = m := by
  injection h with h
  injection h with h
  exact congrArg Array.toList h

/-- string(b) -/
theorem run_str {P : Program} (w : World) (F : Nat → Prop) (t e d : TypeId) (A : Option Addr) (n c : Nat) (l : List UInt8) (ht : P.underlying t = some (.slice e)) (he : P.underlying e = some (.int .u8)) (hd : P.underlying d = some .string)
    (h : Sl w F 1 (.slice A n c) n (B8 l)) : (convert t d (.slice A n c)).run P w = .ok (bstr l) w := by
  obtain ⟨hl, A', c', hv, hc, hr⟩ := h
  obtain ⟨rfl, -, rfl⟩ := by simpa only [Value.slice.injEq] using hv
  rw [B8_length, Nat.mul_one] at hl
  by_cases h0 : n = 0
  · subst h0
    have : l = [] := List.eq_nil_of_length_eq_zero hl
    subst this
    rw [run_convert_bytes_string w t d e A 0 c ht he hd]
    cases A with
    | none => simp [Conv.bytesToString]; rfl
    | some a => simp [Conv.bytesToString, loadCells]; rfl
  · obtain ⟨⟨b, o, s⟩, rfl, _, hx⟩ := hr (by omega)
    have hs : s = none := by
      have := hx 0 (.int .u8 (l[0].toNat : Int)) (by simp only [B8, List.getElem?_map, List.getElem?_eq_getElem (show 0 < l.length by omega)]; rfl)
      simpa [Addr.add] using World.cell?_spot this
    subst hs
    have := Lib.run_convert_whole (P := P) w t e d ht he hd b o ⟨l.toArray⟩ (fun i hi => by
      have hi' : i < l.length := by simpa [ByteArray.size] using hi
      have := hx i (.int .u8 (l[i].toNat : Int)) (by simp [B8, hi'])
      rw [add_lit0] at this
      rw [this]; rfl) c
    have hsz : (⟨l.toArray⟩ : ByteArray).size = n := by simp [ByteArray.size, hl]
    rw [hsz] at this
    exact this

/-- an Act -/
structure ActD where
  (k n : Int)
  (A : Option Addr)
  (m c : Nat)
  l : List UInt8
  fill : UInt8
  odd : Bool
  (A2 : Option Addr)
  (n2 c2 : Nat)
  l2 : List Bool
def ActD.cells (a : ActD) : List Value := [.int .i64 a.k, .int .i64 a.n, .slice a.A a.m a.c, .int .u8 (a.fill.toNat : Int), .bool a.odd, .slice a.A2 a.n2 a.c2]
structure ActD.In (a : ActD) (w : World) : Prop where
  k : -9223372036854775808 ≤ a.k ∧ a.k ≤ 9223372036854775807
  n : -9223372036854775808 ≤ a.n ∧ a.n ≤ 9223372036854775807
  b : Sl w (fun b => b < w.heap.size) 1 (.slice a.A a.m a.c) a.m (B8 a.l)
  m : a.m ≤ 140737488351232
  p : Sl w (fun b => b < w.heap.size) 1 (.slice a.A2 a.n2 a.c2) a.n2 (BL a.l2)
  n2 : a.n2 ≤ 140737488351232
structure ActsIn (w : World) (A : Option Addr) (m c : Nat) (acts : List ActD) : Prop where
  len : acts.length = m
  cap : m ≤ c
  max : m ≤ 140737488351232
  at_ : 0 < m → ∃ b o, A = some ⟨b, o, none⟩ ∧ b < w.heap.size ∧ ∀ i a, acts[i]? = some a → ∀ q u, a.cells[q]? = some u → w.cell? ⟨b, o + i * 6 + q, none⟩ = some u
  each : ∀ a ∈ acts, a.In w
theorem ActsIn.take {w : World} {A : Option Addr} {m c : Nat} {acts : List ActD} (h : ActsIn w A m c acts) (k : Nat) (hk : k ≤ m) : ActsIn w A k c (acts.take k) := by
  refine ⟨by rw [List.length_take, h.len]; omega, by have := h.cap; omega, by have := h.max; omega, fun h0 => ?_, fun a ha => h.each a (List.mem_of_mem_take ha)⟩
  obtain ⟨b, o, e, hb, hc⟩ := h.at_ (by omega)
  refine ⟨b, o, e, hb, fun i a hi => hc i a ?_⟩
  rw [List.getElem?_take] at hi
  split at hi
  · exact hi
  · cases hi

/-- string(make([]byte, 256)) -/
theorem zero_run (W : World) : ∃ w', (Instr.makeSlice 22 (.int .i64 256) (.int .i64 256)).run Try.prog W = .ok (.slice (some ⟨W.heap.size, 0, none⟩) 256 256) w' ∧
    (convert 22 9 (.slice (some ⟨W.heap.size, 0, none⟩) 256 256)).run Try.prog w' = .ok (bstr (zeros 256)) w' ∧ W.grownBy w' none ∧ W.heap.size < w'.heap.size := by
  obtain ⟨i, hi1, hz, hsize, hby⟩ := info_parts info5
  obtain ⟨w', hrun, r1, r2⟩ := run_make_full (P := Try.prog) W 0 22 5 i (.int .u8 0) 1 Try.underlying22 hi1 hz hsize .i64 .i64 256 (by rw [hby]; omega) (by simp only [maxLen]; omega) (Nat.zero_le _)
  refine ⟨w', hrun, ?_, r2, own_lt' r1 rfl⟩
  rw [zeros_u8] at r1
  exact run_str w' _ 22 5 9 _ 256 256 (zeros 256) Try.underlying22 Try.underlying5 Try.underlying9 (Sl.of_own r1)
theorem and3 (n : Int) : bits .and .i64 n 3 = ((n % 4).toNat : Int) := by
  have e : ∀ m : Nat, m &&& 3 = m % 4 := fun m => Nat.and_two_pow_sub_one_eq_mod m 2
  have h : bits .and .i64 n 3 = IntKind.i64.wrap (((n % 18446744073709551616).toNat &&& 3 : Nat) : Int) := by
    unfold bits; rfl
  rw [h, e, IntKind.wrap_i64]
  omega
end Go.Proofs.Ytjdobjcbmmdjeaa
