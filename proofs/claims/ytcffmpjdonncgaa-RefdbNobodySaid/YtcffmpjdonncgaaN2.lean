import Derived.Test.YtcffmpjdonncgaaN1
namespace Go.Proofs.Ytcffmpjdonncgaa
open Go.RowKit

set_option maxRecDepth 100000 in
set_option maxHeartbeats 2000000 in
theorem refdbNobody_walk (A : Option Addr) (m c : Nat) (s : ByteArray) (w : World) :
    Calls Try.prog 5 #[.slice A m c, .string s] w fun e w' => e = .returned (.bool true) ∧ Below w.heap.size w w' := by
  go_enter Try.func5, Try.ntmps5
  go_wp2_with fail
  go_loopg [17] 2 (fun kq i wr => ∃ j : Nat, i = .int .i64 j ∧ j ≤ 2 ∧ kq = 2 - j ∧ Hid (Below w.heap.size w wr) ∧ Hid (Blk wr w.heap.size 42 [.map none, .map none, .map none, .map none]) ∧ Hid (Blk wr (w.heap.size + 1) 25 [.pointer none, .pointer (some ⟨w.heap.size, 0, none⟩)]))
  case atStart =>
    have b1 := Blk.new w 42 #[.map none, .map none, .map none, .map none]
    have b2 := Blk.new (w.alloc (.cells #[.map none, .map none, .map none, .map none] 42)) 25 #[.pointer none, .pointer (some ⟨w.heap.size, 0, none⟩)]
    refine ⟨0, rfl, by omega, by omega, ?_, b1.alloc _, ?_⟩
    · exact ((Below.refl _ _).alloc (Nat.le_refl _) _).alloc (by simp) _
    · refine Lib.hid ?_; simp only [World.size_alloc] at b2; exact b2
  case round =>
    obtain ⟨j, rfl, hj, rfl, hb, hz, ha⟩ := hrel
    by_cases hlt : j < 2
    · obtain ⟨P, hP, hN⟩ : ∃ P, wr.cell? ⟨w.heap.size + 1, j, none⟩ = some P ∧ NoG wr P := by
        obtain rfl | rfl : j = 0 ∨ j = 1 := by omega
        · exact ⟨.pointer none, by rw [Blk.cell ha.out]; rfl, .inl rfl⟩
        · exact ⟨_, by rw [Blk.cell ha.out]; rfl, .inr ⟨_, rfl, by rw [Blk.cell hz.out]; rfl, Blk.lt hz.out⟩⟩
      have HN := Lib.hid hN; clear hN
      have hl1 : w.heap.size + 1 < wr.heap.size := Blk.lt ha.out
      go_wp2_with fail
      refine (closure_none P _ wr HN.out).mono ?_
      rintro e w' ⟨rfl, rfl⟩
      go_wp2_with fail
      refine (referrers_none P s wr HN.out).mono ?_
      rintro e w1 ⟨rfl, hb1⟩
      have HN1 := Lib.hid (HN.out.below hb1)
      have hz1 := Lib.hid (Blk.below' hz.out hb1)
      have ha1 := Lib.hid (Blk.below' ha.out hb1)
      have HB1 := Lib.hid (hb.out.trans (hb1.mono (by have := hb.out.size; omega)))
      clear hb1 hP hz ha HN hb
      go_wp2_with fail
      refine (order_none P _ HN1.out).mono ?_
      rintro e w' ⟨rfl, rfl⟩
      go_wp2_with fail
      refine (dead_none P _ _ HN1.out).mono ?_
      rintro e w' ⟨rfl, rfl⟩
      go_wp2_with fail
      refine (derived_none P _ _ HN1.out).mono ?_
      rintro e w' ⟨rfl, rfl⟩
      go_wp2_with fail
      refine (refers_none P _ _ _ HN1.out).mono ?_
      rintro e w' ⟨rfl, rfl⟩
      go_wp2_with fail
      go_roundg (2 - (j + 1))
      case measure => omega
      case rel => exact ⟨j + 1, by go_num, by omega, rfl, HB1, hz1, ha1⟩
    · go_wp2
      go_ret
      exact ⟨rfl, hb.out⟩
end Go.Proofs.Ytcffmpjdonncgaa
