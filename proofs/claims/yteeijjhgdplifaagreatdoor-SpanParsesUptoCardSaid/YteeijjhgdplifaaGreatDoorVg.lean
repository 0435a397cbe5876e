/- Go's library functions that versions come to, in one form: strings.Cut, Split, strconv.Atoi, Itoa. -/
import Derived.Test.YteeijjhgdplifaaGreatDoorVe
import Derived.Lib.AppendIntMem
import Derived.Lib.AtoiErrMem
import Derived.Lib.ItoaLen
namespace Go.Proofs.YteeijjhgdplifaaGreatDoor
open Go.RowKit

/-- what the library's variables hold -/
structure GV (w : World) : Prop where
  max : ∃ m, w.cell? ⟨0, 0, none⟩ = some (.int .i64 m)
  syn : ∃ ev, w.cell? ⟨4, 0, none⟩ = some ev ∧ (ev = .nilIface ∨ ∃ te pe, ev = .iface te pe)
  rng : ∃ ev, w.cell? ⟨5, 0, none⟩ = some ev ∧ (ev = .nilIface ∨ ∃ te pe, ev = .iface te pe)
  tab : Lib.TabIs Tryz.prog w "internal/strconv.uint64pow10" .u64 Lib.pow10Tab
theorem GV.below {w w' : World} (h : GV w) (hb : Below w.heap.size w w') : GV w' := by
  obtain ⟨⟨m, h1⟩, ⟨e2, h2, k2⟩, ⟨e3, h3, k3⟩, h4⟩ := h
  exact ⟨⟨m, (hb.cell (World.block_lt_of_cell? _ _ h1)).trans h1⟩, ⟨e2, (hb.cell (World.block_lt_of_cell? _ _ h2)).trans h2, k2⟩, ⟨e3, (hb.cell (World.block_lt_of_cell? _ _ h3)).trans h3, k3⟩, Lib.tabBelow_of_tabIs h4 w' hb⟩
theorem belowN (w : World) (n : Nat) : Below w.heap.size w (w.drewN n) := below_drewN (Below.refl _ _) n
theorem bl_one (c : UInt8) : (bl [c]).data.toList = [c] := by simp
theorem cut_ok (s : ByteArray) (c : UInt8) (hs : s.size < 4294967281) (w : World) (hg : GV w) : Calls Tryz.prog 67 #[.string s, .string (bl [c])] w fun e w' => e = .returned (.tuple #[.string (bl (Lib.cut s.data.toList [c]).1), .string (bl (Lib.cut s.data.toList [c]).2.1), .bool (Lib.cut s.data.toList [c]).2.2]) ∧ Below w.heap.size w w' := by
  obtain ⟨m, hm⟩ := hg.max
  refine (Tryz.strings_Cut s (bl [c]) m w hs hm).mono ?_
  rintro e w' ⟨rfl, n, rfl⟩
  exact ⟨rfl, belowN w n⟩
theorem map_bl {xs : List ByteArray} {ls : List (List UInt8)} (h : xs.map (·.data.toList) = ls) : xs.map Value.string = ls.map fun l => Value.string (bl l) := by
  rw [← h, List.map_map]
  refine List.map_congr_left fun x _ => ?_
  show Value.string x = Value.string (bl x.data.toList)
  rw [← bl_eta]
theorem split_ok (s : ByteArray) (c : UInt8) (hs : s.size < 4294967281) (w : World) (hg : GV w) : Calls Tryz.prog 22 #[.string s, .string (bl [c])] w fun e w' => e = .returned (.slice (some ⟨w.heap.size, 0, none⟩) (splitC c s.data.toList).length (splitC c s.data.toList).length) ∧ w' = w.alloc (.cells ((splitC c s.data.toList).map fun l => Value.string (bl l)).toArray 9) := by
  obtain ⟨m, hm⟩ := hg.max
  have h1 : 1 ≤ (bl [c]).size := by rw [bl_size]; exact Nat.le_refl 1
  refine (Tryz.strings_Split s (bl [c]) m w hs hm h1).mono ?_
  have e1 : (Lib.splitB (bl [c]) 0 (Lib.countB s (bl [c])) s).map (·.data.toList) = splitC c s.data.toList := by
    rw [Lib.splitB_data, ← split_one]
    rfl
  have e2 : Lib.countB s (bl [c]) + 1 = (splitC c s.data.toList).length := by
    rw [← e1, List.length_map, Lib.splitB_all (bl [c]) h1 0 _ s rfl]
  rintro e w' ⟨rfl, rfl⟩
  rw [e2, map_bl e1]
  exact ⟨rfl, rfl⟩
theorem atoi_ok (s : ByteArray) (hs : s.size ≤ 281474976710656) (w : World) (hg : GV w) : Calls Tryz.prog 68 #[.string s] w fun e w' => ∃ n ev, e = .returned (.tuple #[.int .i64 n, ev]) ∧ ((ev = .nilIface ∧ Lib.atoiAll s.data.toList = .ok n) ∨ ((∃ t g, ev = .iface t (.pointer (some ⟨g, 0, none⟩))) ∧ ∀ m, Lib.atoiAll s.data.toList ≠ .ok m)) ∧ Below w.heap.size w w' := by
  have tri : (∃ v, Lib.atoiAll s.data.toList = .ok v) ∨ Lib.atoiAll s.data.toList = .range ∨ ((∀ v, Lib.atoiAll s.data.toList ≠ .ok v) ∧ Lib.atoiAll s.data.toList ≠ .range) := by
    cases Lib.atoiAll s.data.toList <;> simp
  rcases tri with ⟨v, h⟩ | h | ⟨h1, h2⟩
  · refine (Tryz.strconv_Atoi_ok s (by omega) v h w).mono ?_
    rintro e w' ⟨rfl, hw⟩
    refine ⟨_, _, rfl, .inl ⟨rfl, h⟩, ?_⟩
    rcases hw with rfl | ⟨t, rfl⟩
    · exact Below.refl _ _
    · exact Lib.bytesWorld_below _ _ _
  · obtain ⟨ev, he, hk⟩ := hg.rng
    refine (Tryz.strconv_Atoi_range s hs h ev w he hk).mono ?_
    rintro e w' ⟨N, rfl, _, _, hb⟩
    exact ⟨_, _, rfl, .inr ⟨⟨_, _, rfl⟩, fun m e => by rw [h] at e; cases e⟩, hb⟩
  · obtain ⟨ev, he, hk⟩ := hg.syn
    refine (Any.strconv_Atoi_syntax Tryz.laysC172 s hs (by revert h1 h2; cases Lib.atoiAll s.data.toList <;> simp) ev w he hk).mono ?_
    rintro e w' ⟨N, rfl, _, _, hb⟩
    exact ⟨_, _, rfl, .inr ⟨⟨_, _, rfl⟩, h1⟩, hb⟩
/-- the one table that printing numbers reads -/
structure GT (w : World) : Prop where
  tab : Lib.TabIs Tryz.prog w "internal/strconv.uint64pow10" .u64 Lib.pow10Tab
theorem GT.below {w w' : World} (h : GT w) (hb : Below w.heap.size w w') : GT w' := ⟨Lib.tabBelow_of_tabIs h.tab w' hb⟩
theorem GV.gt {w : World} (h : GV w) : GT w := ⟨h.tab⟩
theorem itoa_ok (n : Int) (h0 : -9223372036854775808 ≤ n) (h1 : n ≤ 9223372036854775807) (w : World) (hg : GT w) : Calls Tryz.prog 37 #[.int .i64 n] w fun e w' => e = .returned (.string (bl (Lib.itoa n))) ∧ Below w.heap.size w w' := by
  refine (Tryz.strconv_Itoa n h0 h1 w hg.tab).mono ?_
  rintro e w' ⟨rfl, k, os, rfl⟩
  exact ⟨rfl, Lib.below_grow _ w (Nat.le_refl _) k os⟩
end Go.Proofs.YteeijjhgdplifaaGreatDoor
