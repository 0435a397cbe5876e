/- Contracts of package wal: Open, over any disk. -/
import Derived.Test.YtjdobjcbmmdjeaaP5
namespace Go.Proofs.Ytjdobjcbmmdjeaa
open Go.RowKit

theorem hnums_in {k a s : Nat} {h : List UInt8} (hs : Std k a s h) : ∀ n ∈ hnums h (hcnt h), 0 ≤ n ∧ n < (k : Int) := by
  intro n hn
  obtain ⟨i, hi, rfl⟩ := List.mem_map.1 hn
  have := hs.out i (List.mem_range.1 hi)
  simp [outK] at this
  omega
theorem opn_good {S : Dsk} {k a s : Nat} (hg : S.Good k) (ha : a + s ≤ k) (hs : 2 ≤ s) : (opn k a s S).Good k ∧ (opn k a s S).ev.length ≤ S.ev.length + s + 2 ∧ (opn k a s S).wrote.length ≤ S.wrote.length + 256 * s + 256 := by
  by_cases h : Std k a s (sec S.now a)
  · rw [opn_yes h]
    have := h.most
    obtain ⟨d1, d2, d3⟩ := doS_facts (S := S) (k := k) a (l := hnums (sec S.now a) (hcnt (sec S.now a))) hg (hnums_in h) (by rw [hnums_length]; omega)
    rw [hnums_length] at d2 d3
    exact ⟨d1, by omega, by omega⟩
  · rw [opn_no h]
    exact ⟨hg, by omega, by omega⟩
set_option maxRecDepth 100000 in
set_option maxHeartbeats 1000000 in
/-- Open -/
theorem open_ok (w : World) (F : Nat → Prop) (d k at_ sec_ : Nat) (S : Dsk) (hd : DiskAt w F d S) (hk1 : 1 ≤ k) (hk : k ≤ 2048) (hg : S.Good k) (hs : 2 ≤ sec_) (hs2 : sec_ ≤ 31) (ha : at_ + sec_ ≤ k) (hev : S.ev.length ≤ 100000000) (hwr : S.wrote.length ≤ 100000000000) :
    Calls Try.prog 32 #[.pointer (some ⟨d, 0, none⟩), .int .i64 at_, .int .i64 sec_] w fun e w' => ∃ j F' FJ, e = .returned (.tuple #[.pointer (some ⟨j, 0, none⟩), .int .i64 0]) ∧ JrAt w' FJ j d ⟨at_, sec_, []⟩ ∧ DiskAt w' F' d (opn k at_ sec_ S) ∧ Mod F w w' ∧ (∀ b, F' b → F b ∨ w.heap.size ≤ b) ∧ (∀ b, FJ b → w.heap.size ≤ b) ∧ ∀ b, F' b → ¬ FJ b := by
  have HS := Lib.hid (hd.sectors hk hg.ok.now)
  have k0 : ((k : Int) == 0) = false := by simp; omega
  have i1 : ¬ (sec_ : Int) < 2 := by omega
  have i2 : ¬ (31 : Int) < (sec_ : Int) := by omega
  have i3 : ¬ (at_ : Int) < 0 := by omega
  obtain ⟨q, hq⟩ : ∃ q, q = k - sec_ := ⟨_, rfl⟩
  have w1 : IntKind.i64.wrap ((k : Int) - (sec_ : Int)) = (q : Int) := by rw [IntKind.wrap_i64]; omega
  have i4 : ¬ (q : Int) < (at_ : Int) := by omega
  have hak : at_ < k := by omega
  have HD := Lib.hid hd
  have HG := Lib.hid hg
  have HB := Lib.hid (And.intro hev (And.intro hwr (And.intro hs (And.intro hs2 ha))))
  clear hd hg hq hs hs2 ha hev hwr
  go_enter Try.func32, Try.ntmps32
  go_wp2_with fail
  refine HS.out.mono ?_
  rintro e w' ⟨rfl, rfl⟩
  go_wp2_with fail
  refine HS.out.mono ?_
  rintro e w' ⟨rfl, rfl⟩
  have hmk : ∀ wx : World, (Instr.makeMap 60 none).run Try.prog wx = .ok (.map (some wx.heap.size)) (wx.alloc (.map #[] 0)) := fun wx => rfl
  go_wp2_with fail
  have hm1 := (MapAt.new (K := KI) w)
  have hb1 := Blk.new (w.alloc (.map #[] 0)) 62 #[.pointer (some ⟨d, 0, none⟩), .int .i64 at_, .int .i64 sec_, .map (some w.heap.size)]
  have hB1 : Below w.heap.size w ((w.alloc (.map #[] 0)).alloc (.cells #[.pointer (some ⟨d, 0, none⟩), .int .i64 at_, .int .i64 sec_, .map (some w.heap.size)] 62)) := ((Below.refl _ _).alloc (Nat.le_refl _) _).alloc (by simp) _
  have hJ1 : JrAt ((w.alloc (.map #[] 0)).alloc (.cells #[.pointer (some ⟨d, 0, none⟩), .int .i64 at_, .int .i64 sec_, .map (some w.heap.size)] 62)) (fun b => w.heap.size ≤ b ∧ b < ((w.alloc (.map #[] 0)).alloc (.cells #[.pointer (some ⟨d, 0, none⟩), .int .i64 at_, .int .i64 sec_, .map (some w.heap.size)] 62)).heap.size) (w.heap.size + 1) d ⟨at_, sec_, []⟩ := by
    simp only [World.size_alloc] at hb1
    refine ⟨w.heap.size, [], ⟨by omega, by simp⟩, ⟨Nat.le_refl _, by simp only [World.size_alloc]; omega⟩, hb1, hm1.below ((Below.refl _ _).alloc (Nat.le_refl _) _), trivial, fun b hb => hb.2⟩
  have H1 := Lib.hid (And.intro hJ1 hB1)
  obtain ⟨w2, hw2⟩ : ∃ w2, w2 = ((w.alloc (.map #[] 0)).alloc (.cells #[.pointer (some ⟨d, 0, none⟩), .int .i64 at_, .int .i64 sec_, .map (some w.heap.size)] 62)) := ⟨_, rfl⟩
  rw [← hw2] at H1 ⊢
  clear hm1 hb1 hB1 hJ1 hw2 hmk
  refine (read_ok w2 F d k at_ S (HD.out.below H1.out.2) hk HG.out.ok.now hak).mono ?_
  rintro e w3 ⟨A, c, rfl, hN⟩
  obtain ⟨o1, f1, b1⟩ := hN.out (sec_length HG.out.ok.now hak)
  have H3 := Lib.hid (And.intro o1 (H1.out.2.trans (b1.mono H1.out.2.size)))
  have HJ3 := Lib.hid (H1.out.1.below b1)
  clear hN o1 f1 b1
  go_wp2_with fail
  refine (stands_ok w3 F _ (w.heap.size + 1) d k ⟨at_, sec_, []⟩ S A c (sec S.now at_) HJ3.out (HD.out.below H3.out.2) hk HG.out.ok.now (by show at_ ≤ _; omega) HB.out.2.2.1 HB.out.2.2.2.1 H3.out.1).mono ?_
  rintro e w4 ⟨hb4, hr⟩
  have H4 := Lib.hid (H3.out.2.trans (hb4.mono H3.out.2.size))
  have HJ4 := Lib.hid (HJ3.out.below hb4)
  have hw2s : w2.heap.size ≤ w4.heap.size := by
    by_cases h : w2.heap.size ≤ w4.heap.size
    · exact h
    · exfalso
      have h1 := HJ4.out.lt (b := w2.heap.size - 1) ⟨by have := H1.out.2.size; have := H4.out.size; omega, by have := H4.out.size; omega⟩
      omega
  rcases hr with ⟨hno, rfl⟩ | ⟨hst, A2, c2, rfl, o2, f2⟩
  · have HNO := Lib.hid hno
    clear hno hb4
    go_wp2_with fail
    go_ret2
    refine ⟨_, F, _, rfl, HJ4.out, ?_, Mod.of_below H4.out, fun b hb => .inl hb, fun b hb => hb.1, fun b hb e => by have := HD.out.lt hb; omega⟩
    rw [opn_no HNO.out]
    exact HD.out.below H4.out
  · have HST := Lib.hid hst
    have H5 := Lib.hid (And.intro o2 f2)
    have hOP := Lib.hid (opn_yes HST.out)
    obtain ⟨m, hm⟩ : ∃ m, m = hcnt (sec S.now at_) := ⟨_, rfl⟩
    obtain ⟨ln, hln⟩ : ∃ ln, ln = hnums (sec S.now at_) (hcnt (sec S.now at_)) := ⟨_, rfl⟩
    have HIN := Lib.hid (hnums_in HST.out)
    rw [← hln] at hOP HIN
    rw [← hln, ← hm] at H5
    rw [← hm]
    have hmm : m ≤ sec_ - 1 := by rw [hm]; exact HST.out.most
    clear hst o2 f2 hb4 hm hln
    go_wp2_with fail
    refine (do_ok w4 F _ _ (w.heap.size + 1) d k ⟨at_, sec_, []⟩ S A2 m c2 ln HJ4.out (HD.out.below H4.out) (fun b hb e => by have := HD.out.lt hb; have := e.1; omega) hk1 hk HG.out (Sl.of_own H5.out.1) (fun b hb e => by have h1 := HD.out.lt hb; have h2 := H5.out.2 b e.1; have h3 := H3.out.2.size; omega) HIN.out (by show at_ + m < k; have := HB.out; omega) HB.out.1 HB.out.2.1).mono ?_
    rintro e w5 ⟨rfl, hd5, hm5⟩
    have H6 := Lib.hid (And.intro hd5 hm5)
    clear hd5 hm5
    go_wp2_with fail
    go_ret2
    obtain ⟨hd5, hm5⟩ := H6.out
    have s4 := H4.out.size
    refine ⟨_, (fun b => F b ∨ (w4.heap.size ≤ b ∧ b < w5.heap.size)), _, rfl, HJ4.out.mod hm5 (fun b hb e => by have := HD.out.lt e; have := hb.1; omega), ?_, (Mod.of_below (F := F) H4.out).trans hm5 (fun _ _ h => h), fun b hb => hb.imp id (fun h => by omega), fun b hb => hb.1, fun b hb e => ?_⟩
    · rw [hOP.out]; exact hd5
    · rcases hb with hb | hb
      · have := HD.out.lt hb; have := e.1; omega
      · have := e.2; omega
end Go.Proofs.Ytjdobjcbmmdjeaa
