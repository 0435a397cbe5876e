import Derived.Test.YtkgdpkkckeihbaaN1
namespace Go.Proofs.Ytkgdpkkckeihbaa
open Go.RowKit

def z29 : List Value := [.map none, .slice none 0 0, .slice none 0 0, .map none, .slice none 0 0, .slice none 0 0, .int .i64 0]

set_option maxRecDepth 100000 in
set_option maxHeartbeats 2000000 in
theorem schedNobody_walk (n : Int) (s : ByteArray) (w : World) :
    Calls Try.prog 3 #[.int .i64 n, .string s] w fun e w' => e = .returned (.bool true) ∧ Below w.heap.size w w' := by
  go_enter Try.func3, Try.ntmps3
  go_wp2_with fail
  go_loopg [15] 2 (fun kq i wr => ∃ j : Nat, i = .int .i64 j ∧ j ≤ 2 ∧ kq = 2 - j ∧ Hid (Below w.heap.size w wr) ∧ Hid (Blk wr w.heap.size 29 z29) ∧ Hid (Blk wr (w.heap.size + 1) 22 [.pointer none, .pointer (some ⟨w.heap.size, 0, none⟩)]))
  case atStart =>
    have b1 := Blk.new w 29 #[.map none, .slice none 0 0, .slice none 0 0, .map none, .slice none 0 0, .slice none 0 0, .int .i64 0]
    have b2 := Blk.new (w.alloc (.cells #[.map none, .slice none 0 0, .slice none 0 0, .map none, .slice none 0 0, .slice none 0 0, .int .i64 0] 29)) 22 #[.pointer none, .pointer (some ⟨w.heap.size, 0, none⟩)]
    refine ⟨0, rfl, by omega, by omega, ?_, b1.alloc _, ?_⟩
    · exact ((Below.refl _ _).alloc (Nat.le_refl _) _).alloc (by simp) _
    · refine Lib.hid ?_; simp only [World.size_alloc] at b2; exact b2
  case round =>
    obtain ⟨j, rfl, hj, rfl, hb, hz, ha⟩ := hrel
    by_cases hlt : j < 2
    · obtain ⟨P, hP, hN⟩ : ∃ P, wr.cell? ⟨w.heap.size + 1, j, none⟩ = some P ∧ NoSched wr P := by
        obtain rfl | rfl : j = 0 ∨ j = 1 := by omega
        · exact ⟨.pointer none, by rw [Blk.cell ha.out]; rfl, .inl rfl⟩
        · exact ⟨_, by rw [Blk.cell ha.out]; rfl, .inr ⟨_, rfl, by rw [Blk.cell hz.out]; rfl, Blk.lt hz.out⟩⟩
      have HN := Lib.hid hN; clear hN
      have hl1 : w.heap.size + 1 < wr.heap.size := Blk.lt ha.out
      go_wp2_with fail
      refine (step_none P n wr HN.out).mono ?_
      rintro e w1 ⟨rfl, hb1⟩
      obtain ⟨oE, hoE⟩ : ∃ o : Obj, o = .cells #[.int .i64 0, .string ⟨#[]⟩, .int .i64 0] 32 := ⟨_, rfl⟩
      have HN1 := Lib.hid ((HN.out.below hb1).below ((Below.refl w1.heap.size w1).alloc (Nat.le_refl _) oE))
      have hz1 := Lib.hid (Blk.alloc (Blk.below' hz.out hb1) oE)
      have ha1 := Lib.hid (Blk.alloc (Blk.below' ha.out hb1) oE)
      have HB1 := Lib.hid ((hb.out.trans (hb1.mono (by have := hb.out.size; omega))).alloc (by have := hb.out.size; have := hb1.size; omega) oE)
      clear hb1 hP hz ha HN hb
      rw [hoE] at HN1 hz1 ha1 HB1
      clear hoE
      go_wp2_with fail
      refine (state_none P s _ HN1.out).mono ?_
      rintro e w' ⟨rfl, rfl⟩
      go_wp2_with fail
      refine (over_none P _ HN1.out).mono ?_
      rintro e w' ⟨rfl, rfl⟩
      go_wp2_with fail
      refine (queue_none P n _ HN1.out).mono ?_
      rintro e w' ⟨rfl, rfl⟩
      go_wp2_with fail
      refine (ended_none P _ HN1.out).mono ?_
      rintro e w' ⟨rfl, rfl⟩
      go_wp2_with fail
      go_roundg (2 - (j + 1))
      case measure => omega
      case rel => exact ⟨j + 1, by go_num, by omega, rfl, HB1, hz1, ha1⟩
    · go_wp2
      go_ret
      exact ⟨rfl, hb.out⟩
end Go.Proofs.Ytkgdpkkckeihbaa
