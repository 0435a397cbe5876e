/- Strings: slices.Clone, slices.Sort, slices.Compact of rows of strings; the sorted list, each text once. -/
import Derived.Test.YtcffmpjdonncgaaSm
import Derived.Test.YtcffmpjdonncgaaRl
import Derived.Test.YtcffmpjdonncgaaSh
import Derived.Sort.OwnSorted
import Derived.Lib.RowBridge
namespace Go.Proofs.Ytcffmpjdonncgaa
open Go.RowKit

theorem infoStr : (Try.prog.info? 9).map (fun i => (i.zero, i.size, i.bytes)) = some (some (.string ⟨#[]⟩), 1, 16) := by kernel_rfl
def raw (l : List ByteArray) : List (List UInt8) := l.map (·.data.toList)
def cooked (l : List (List UInt8)) : List ByteArray := l.map fun x => ⟨x.toArray⟩
theorem cooked_raw (l : List ByteArray) : cooked (raw l) = l := by
  simp only [cooked, raw, List.map_map]
  conv => rhs; rw [← List.map_id l]
  rfl
theorem raw_cooked (l : List (List UInt8)) : raw (cooked l) = l := by
  simp only [cooked, raw, List.map_map]
  conv => rhs; rw [← List.map_id l]
  rfl
theorem strs_cooked (l : List (List UInt8)) : l.map encStr = strs (cooked l) := by simp [strs, cooked, encStr]
def leL (x y : List UInt8) : Bool := decide (x ≤ y)
/-- rising, each once -/
def SU (l : List ByteArray) : List ByteArray := cooked (Lib.compact ((raw l).mergeSort leL))
theorem SU_le (l : List ByteArray) : (SU l).length ≤ l.length := by
  have := Lib.compact_length_le ((raw l).mergeSort leL)
  rw [List.length_mergeSort] at this
  simpa [SU, cooked, raw] using this

theorem zeroStrs (w : World) : (zeroValue 23).run Try.prog w = .ok (.slice none 0 0) w := by
  have := Try.zeroValue23 w
  exact this
theorem clone_strs (A : Option Addr) (n c : Nat) (l : List ByteArray) (F : Nat → Prop) (w : World) (h : Sl w F 1 (.slice A n c) n (strs l)) (hn : n ≤ 8796093022208) :
    Calls Try.prog 38 #[.slice A n c] w fun e w' => ∃ A' c', e = .returned (.slice A' n c') ∧ w'.ownsRow 0 9 1 (.slice A' n c') n (strs l) ∧ Below w.heap.size w w' ∧
      (∀ b, (Value.slice A' n c').ownBlock = some b → w.heap.size ≤ b) := by
  have q := fun (w : World) => Lib.run_eql_slice_nil (P := Try.prog) w 23 9 A n c 0 0 Try.underlying23
  have hA : Hid (A = none → n = 0) := by
    intro hA; subst hA
    obtain ⟨_, A, c, hv, _, hr⟩ := h
    rcases Nat.eq_zero_or_pos n with h0 | h0
    · exact h0
    · obtain ⟨ad, h1, _⟩ := hr h0
      injection hv with hv; rw [h1] at hv; cases hv
  have hl : Hid ((strs l).length = n * 1) := h.1
  cases A with
  | none =>
    obtain rfl := hA.out rfl
    go_enter Try.func38, Try.ntmps38
    go_wp2
    go_ret
    have hx : l = [] := List.eq_nil_of_length_eq_zero (by have := hl.out; simpa [strs] using this)
    subst hx
    exact ⟨_, _, rfl, own_nil0 _ _ _, Below.refl _ _, by simp [Value.ownBlock]⟩
  | some ad =>
    go_enter Try.func38, Try.ntmps38
    have h2 := h.below (w' := w.alloc (.cells #[] 9)) (by omega) ((Below.refl _ _).alloc (Nat.le_refl _) _)
    have ho := own_of_blk (Blk.new w 9 #[]) 1 0 rfl (by simp [maxLen])
    go_wp2_with (at_builtin
                 refine wpList_app _ rfl (.tmp 5) (.tmp 6) 23 rfl 9 (.string ⟨#[]⟩) 1 16 Try.underlying23 infoStr rfl (by omega) (by omega) (.slice (some ⟨w.heap.size, 0, none⟩) 0 0) 0 [] rfl ho F (.slice (some ad) n c) n (strs l) rfl h2 (strs_one l) (by omega) ?_
                 intro A' c' w' hown hg hat hnil)
    go_ret
    simp only [Nat.zero_add, List.nil_append] at hown hat ⊢
    refine ⟨A', c', rfl, hown, ((Below.refl _ _).alloc (Nat.le_refl _) _).grown hg (by simp) (by simp [Value.ownBlock]), fun b hb => ?_⟩
    rcases hat with e | e <;> rw [e] at hb <;> simp [Value.ownBlock] at hb <;> omega

theorem mod_sorted {w : World} {g n : Nat} {os : Array Obj} (d : Array (List UInt8)) {c : Nat} {m : Nat} : Mod (fun b => (Value.slice (some ⟨g, 0, none⟩) m c).ownBlock = some b) w (Go.Sort.grow (Go.Sort.putRow encStr (Go.Sort.ahead w n) g 0 d) os) :=
  (Mod.refl _ w).grown (Go.grownBy_sorted d) (fun k hk _ => by rw [← hk]; rfl)
theorem putRow_grow (w : World) (g n : Nat) (d : Array (List UInt8)) : Go.Sort.putRow encStr (Go.Sort.ahead w n) g 0 d = Go.Sort.grow (Go.Sort.putRow encStr (Go.Sort.ahead w n) g 0 d) #[] := by
  simp [Go.Sort.grow]
  rfl
theorem holds_strs {w : World} {g c : Nat} {l : List ByteArray} {b e : Nat} (h : w.ownsRow b e 1 (.slice (some ⟨g, 0, none⟩) l.length c) l.length (strs l)) : Go.Sort.Holds encStr w g 0 (raw l).toArray := by
  intro j hj
  simp only [raw, List.size_toArray, List.length_map] at hj
  refine ⟨?_, h.frozenAt _⟩
  rw [h.cellAt _ (by omega)]
  simp [strs, raw, encStr, hj]

/-- slices.Sort of a row of its own -/
theorem sort_strs (w : World) (A : Option Addr) (n c : Nat) (l : List ByteArray) (h : w.ownsRow 0 9 1 (.slice A n c) n (strs l)) (hn : n ≤ 1000000000000) :
    Calls Try.prog 31 #[.slice A n c] w fun e w' => e = .returned (.tuple #[]) ∧ w'.ownsRow 0 9 1 (.slice A n c) n (strs (cooked ((raw l).mergeSort leL))) ∧ Mod (fun b => (Value.slice A n c).ownBlock = some b) w w' := by
  have hl : l.length = n := by have := h.1; rw [strs_length, Nat.mul_one] at this; exact this
  rcases h.2 with ⟨hv, h0⟩ | ⟨g, cap, cur, hv, hb0, hg, hc, hm, hcs, ht⟩
  · simp only [Value.slice.injEq] at hv
    obtain ⟨rfl, _, rfl⟩ := hv
    subst h0
    obtain rfl : l = [] := List.eq_nil_of_length_eq_zero hl
    refine (Try.slices_Sort_string_none none 0 w).mono ?_
    rintro e w' ⟨rfl, rfl⟩
    exact ⟨rfl, by simpa [cooked, raw, strs] using h, Mod.refl _ _⟩
  · simp only [Value.slice.injEq] at hv
    obtain ⟨rfl, _, rfl⟩ := hv
    subst hl
    have hrl : (raw l).length = l.length := by simp [raw]
    have hk := Try.slices_Sort_string g 0 c (raw l) w (holds_strs h) (Array.getElem?_eq_some_iff.1 hg).1 (by omega)
    rw [hrl] at hk
    refine hk.mono ?_
    rintro e w' ⟨rfl, m, os, rfl⟩
    refine ⟨rfl, ?_, mod_sorted _⟩
    have := Go.ownsRow_sorted (n := m) (os := os) (w := w) (ss := raw l) (ts := (raw l).mergeSort leL) (base := 0) (e := 9) (List.length_mergeSort _) (Nat.zero_le _) hg (by omega) hm hcs
    rw [hrl, strs_cooked] at this
    exact this

/-- slices.Compact of a row of its own -/
theorem compact_strs (w : World) (A : Option Addr) (n c : Nat) (l : List ByteArray) (h : w.ownsRow 0 9 1 (.slice A n c) n (strs l)) (hn : n ≤ 1000000000000) :
    Calls Try.prog 39 #[.slice A n c] w fun e w' => e = .returned (.slice A (cooked (Lib.compact (raw l))).length c) ∧
      w'.ownsRow 0 9 1 (.slice A (cooked (Lib.compact (raw l))).length c) (cooked (Lib.compact (raw l))).length (strs (cooked (Lib.compact (raw l)))) ∧ Mod (fun b => (Value.slice A n c).ownBlock = some b) w w' := by
  have hl : l.length = n := by have := h.1; rw [strs_length, Nat.mul_one] at this; exact this
  rcases h.2 with ⟨hv, h0⟩ | ⟨g, cap, cur, hv, hb0, hg, hc, hm, hcs, ht⟩
  · simp only [Value.slice.injEq] at hv
    obtain ⟨rfl, _, rfl⟩ := hv
    subst h0
    obtain rfl : l = [] := List.eq_nil_of_length_eq_zero hl
    refine (Try.slices_Compact_string_empty none 0 w).mono ?_
    rintro e w' ⟨rfl, rfl⟩
    exact ⟨rfl, by simpa [cooked, raw, strs, Lib.compact, Lib.compactUpTo] using h, Mod.refl _ _⟩
  · simp only [Value.slice.injEq] at hv
    obtain ⟨rfl, _, rfl⟩ := hv
    subst hl
    have hrl : (raw l).length = l.length := by simp [raw]
    have hcl := Lib.compact_length_le (raw l)
    have hk := Try.slices_Compact_string g 0 c (raw l) w (holds_strs h) (by omega) (by omega)
    rw [hrl] at hk
    have hck : (cooked (Lib.compact (raw l))).length = (Lib.compact (raw l)).length := by simp [cooked]
    refine hk.mono ?_
    rintro e w' ⟨rfl, m, rfl⟩
    rw [putRow_grow, hck]
    refine ⟨rfl, ?_, mod_sorted _⟩
    have h2 := Go.ownsRow_sorted (n := m) (os := #[]) (w := w) (ss := raw l) (ts := Lib.compact (raw l) ++ List.replicate (l.length - (Lib.compact (raw l)).length) []) (base := 0) (e := 9) (by rw [List.length_append, List.length_replicate]; omega) (Nat.zero_le _) hg (by omega) hm hcs
    have h3 := own_take h2 (n' := (Lib.compact (raw l)).length) (by omega)
    rw [Nat.mul_one, List.map_append, List.take_left' (by simp), strs_cooked] at h3
    exact h3
end Go.Proofs.Ytcffmpjdonncgaa
