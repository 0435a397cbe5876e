/- Contracts of package wal: a header that does not stand; Open there. -/
import Derived.Test.YtjdobjcbmmdjeaaW11
import Derived.WalkMore
namespace Go.Proofs.Ytjdobjcbmmdjeaa
open Go.RowKit

set_option maxRecDepth 100000 in
set_option maxHeartbeats 2000000 in
theorem stands_no (w : World) (j : Nat) (A : Option Addr) (c : Nat) (l : List UInt8) (h : w.ownsRow 0 5 1 (.slice A 256 c) 256 (B8 l)) (hne : l.take 8 ≠ magic) :
    Calls Try.prog 51 #[.pointer (some ⟨j, 0, none⟩), .slice A 256 c] w fun e w' => e = .returned (.tuple #[.slice none 0 0, .bool false]) ∧ w = w' := by
  have hll : l.length = 256 := by have := h.1; rw [B8_length, Nat.mul_one] at this; exact this
  obtain ⟨g, cap, hv, _, hgl⟩ := h.form (by omega)
  simp only [Value.slice.injEq] at hv
  obtain ⟨rfl, hx, rfl⟩ := hv
  clear hx
  obtain ⟨_, _, hf, hcap, _⟩ := own_form h
  simp only [Value.slice.injEq] at hf
  obtain ⟨hA, hB, rfl⟩ := hf
  clear hA hB
  have hs1 := Sl.cut h 8 8 (c - 8) (by omega) (by omega)
  have hs0 := Sl.cut h 0 8 c (by omega) (by omega)
  rw [List.drop_zero] at hs0
  have hcv := run_str w _ 22 5 9 _ 8 c (l.take 8) Try.underlying22 Try.underlying5 Try.underlying9 hs0
  have HN := Lib.hid (number_ok w _ (some ⟨g, 8, none⟩) 8 (c - 8) _ hs1 (by omega) (by omega))
  have hc8 : ¬ c = 8 := by omega
  have hc0 : ¬ c = 0 := by omega
  have HNE := Lib.hid hne
  clear h hne hs0 hs1
  go_enter Try.func51, Try.ntmps51
  go_wp2_with fail
  go_step3
  go_wp2_with fail
  refine HN.out.mono ?_
  rintro e w' ⟨rfl, rfl⟩
  go_wp2_with fail
  rw [Exit.noGoto_ret]
  go_ret2
  exact ⟨rfl, rfl⟩

set_option maxRecDepth 100000 in
/-- Open, where no header stands -/
theorem open_new (w : World) (F : Nat → Prop) (d k at_ sec_ : Nat) (S : Dsk) (hd : DiskAt w F d S) (hk1 : 1 ≤ k) (hk : k ≤ 2048) (hnow : S.now.length = k * 256) (hs : 2 ≤ sec_) (hs2 : sec_ ≤ 31) (ha : at_ + sec_ ≤ k) (hne : (sec S.now at_).take 8 ≠ magic) :
    Calls Try.prog 32 #[.pointer (some ⟨d, 0, none⟩), .int .i64 at_, .int .i64 sec_] w fun e w' => ∃ j, e = .returned (.tuple #[.pointer (some ⟨j, 0, none⟩), .int .i64 0]) ∧ JrAt w' (fun b => w.heap.size ≤ b ∧ b < w'.heap.size) j d ⟨at_, sec_, []⟩ ∧ Below w.heap.size w w' := by
  have HS := Lib.hid (hd.sectors hk hnow)
  have k0 : ((k : Int) == 0) = false := by simp; omega
  have i1 : ¬ (sec_ : Int) < 2 := by omega
  have i2 : ¬ (31 : Int) < (sec_ : Int) := by omega
  have i3 : ¬ (at_ : Int) < 0 := by omega
  obtain ⟨q, hq⟩ : ∃ q, q = k - sec_ := ⟨_, rfl⟩
  have w1 : IntKind.i64.wrap ((k : Int) - (sec_ : Int)) = (q : Int) := by rw [IntKind.wrap_i64]; omega
  have i4 : ¬ (q : Int) < (at_ : Int) := by omega
  have hak : at_ < k := by omega
  have HD := Lib.hid hd
  have HNE := Lib.hid hne
  have HNW := Lib.hid hnow
  clear hd hne hnow hq hs hs2 ha
  go_enter Try.func32, Try.ntmps32
  go_wp2_with fail
  refine HS.out.mono ?_
  rintro e w' ⟨rfl, rfl⟩
  go_wp2_with fail
  refine HS.out.mono ?_
  rintro e w' ⟨rfl, rfl⟩
  have hmk : ∀ wx : World, (Instr.makeMap 60 none).run Try.prog wx = .ok (.map (some wx.heap.size)) (wx.alloc (.map #[] 0)) := fun wx => rfl
  go_wp2_with fail
  have hm1 := (MapAt.new (K := KI) w)
  have hb1 := Blk.new (w.alloc (.map #[] 0)) 62 #[.pointer (some ⟨d, 0, none⟩), .int .i64 at_, .int .i64 sec_, .map (some w.heap.size)]
  have hB1 : Below w.heap.size w ((w.alloc (.map #[] 0)).alloc (.cells #[.pointer (some ⟨d, 0, none⟩), .int .i64 at_, .int .i64 sec_, .map (some w.heap.size)] 62)) := ((Below.refl _ _).alloc (Nat.le_refl _) _).alloc (by simp) _
  have hJ1 : JrAt ((w.alloc (.map #[] 0)).alloc (.cells #[.pointer (some ⟨d, 0, none⟩), .int .i64 at_, .int .i64 sec_, .map (some w.heap.size)] 62)) (fun b => w.heap.size ≤ b ∧ b < ((w.alloc (.map #[] 0)).alloc (.cells #[.pointer (some ⟨d, 0, none⟩), .int .i64 at_, .int .i64 sec_, .map (some w.heap.size)] 62)).heap.size) (w.heap.size + 1) d ⟨at_, sec_, []⟩ := by
    simp only [World.size_alloc] at hb1
    refine ⟨w.heap.size, [], ⟨by omega, by simp⟩, ⟨Nat.le_refl _, by simp only [World.size_alloc]; omega⟩, hb1, hm1.below ((Below.refl _ _).alloc (Nat.le_refl _) _), trivial, fun b hb => hb.2⟩
  have H1 := Lib.hid (And.intro hJ1 hB1)
  obtain ⟨w2, hw2⟩ : ∃ w2, w2 = ((w.alloc (.map #[] 0)).alloc (.cells #[.pointer (some ⟨d, 0, none⟩), .int .i64 at_, .int .i64 sec_, .map (some w.heap.size)] 62)) := ⟨_, rfl⟩
  rw [← hw2] at H1 ⊢
  clear hm1 hb1 hB1 hJ1 hw2 hmk
  refine (read_ok w2 F d k at_ S (HD.out.below H1.out.2) hk HNW.out hak).mono ?_
  rintro e w3 ⟨A, c, rfl, hN⟩
  obtain ⟨o1, f1, b1⟩ := hN.out (sec_length HNW.out hak)
  have H3 := Lib.hid (And.intro o1 b1)
  clear hN o1 f1 b1
  go_wp2_with fail
  refine (stands_no w3 (w.heap.size + 1) A c _ H3.out.1 HNE.out).mono ?_
  rintro e w' ⟨rfl, rfl⟩
  go_wp2_with fail
  go_ret2
  obtain ⟨h1, h2⟩ := H1.out
  have h3 := H3.out.2
  have s2 := h2.size
  have hj := h1.below h3
  refine ⟨_, rfl, ?_, h2.trans (h3.mono s2)⟩
  obtain ⟨g, D, q1, q2, q3, q4, q5, q6⟩ := hj
  have s3 := h3.size
  exact ⟨g, D, ⟨q1.1, by have := q1.2; omega⟩, ⟨q2.1, by have := q2.2; omega⟩, q3, q4, q5.imp (fun v b hv => hv.mono (fun b hb => ⟨hb.1, by have := hb.2; omega⟩)), fun b hb => hb.2⟩
end Go.Proofs.Ytjdobjcbmmdjeaa
