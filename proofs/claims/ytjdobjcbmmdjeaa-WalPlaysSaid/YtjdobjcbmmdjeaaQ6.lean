/- Contracts of stillroomref04: Open. -/
import Derived.Test.YtjdobjcbmmdjeaaQ5
namespace Go.Proofs.Ytjdobjcbmmdjeaa
open Go.RowKit

theorem RG.opn {S : Dsk} {R : RDsk} {k at_ s : Nat} (hg : RG S R k) (ha : at_ + s ≤ k) (hs : 2 ≤ s) : RG (opn k at_ s S) (ropn k at_ s S R) k := by
  unfold Go.Proofs.Ytjdobjcbmmdjeaa.opn ropn
  split
  · rename_i h
    exact hg.doS (hnums_in h) (by rw [hnums_length]; have := h.most; omega)
  · exact hg

set_option maxRecDepth 100000 in
set_option maxHeartbeats 1000000 in
theorem ropen_bad (w : World) (G : Nat → Prop) (r k : Nat) (at_ sec_ : Int) (R : RDsk) (hr : RefAt w G r R) (hk : R.first.length = k) (hk2 : k ≤ 2048) (hat : -9223372036854775808 ≤ at_ ∧ at_ ≤ 9223372036854775807) (hb : sec_ < 2 ∨ 31 < sec_ ∨ at_ < 0 ∨ (k : Int) - sec_ < at_) :
    Calls Try.prog 35 #[.pointer (some ⟨r, 0, none⟩), .int .i64 at_, .int .i64 sec_] w fun e w' => e = .returned (.tuple #[.pointer none, .int .i64 2]) ∧ w = w' := by
  obtain ⟨Af, cf, _, _, e0, _, _, _, hrlt⟩ := hr.cell
  rw [hk] at e0
  clear hr hk
  by_cases h1 : sec_ < 2
  · clear hb
    go_enter Try.func35, Try.ntmps35
    go_wp2_with fail
    go_ret2
    exact ⟨rfl, rfl⟩
  · have h1' : 2 ≤ sec_ := by omega
    by_cases h2 : 31 < sec_
    · clear hb
      go_enter Try.func35, Try.ntmps35
      go_wp2_with fail
      go_ret2
      exact ⟨rfl, rfl⟩
    · have h2' : sec_ ≤ 31 := by omega
      by_cases h3 : at_ < 0
      · clear hb
        go_enter Try.func35, Try.ntmps35
        go_wp2_with fail
        go_ret2
        exact ⟨rfl, rfl⟩
      · have h3' : 0 ≤ at_ := by omega
        obtain ⟨t, ht⟩ : ∃ t : Int, t = (k : Int) - sec_ := ⟨_, rfl⟩
        have ew : IntKind.i64.wrap ((k : Int) - sec_) = t := by rw [IntKind.wrap_i64]; omega
        have hlt : t < at_ := by omega
        clear hb ht
        go_enter Try.func35, Try.ntmps35
        go_wp2_with fail
        go_ret2
        exact ⟨rfl, rfl⟩

set_option maxRecDepth 100000 in
set_option maxHeartbeats 2000000 in
theorem ropen_ok (w : World) (G : Nat → Prop) (r k at_ s : Nat) (S : Dsk) (R : RDsk) (hr : RefAt w G r R) (hg : RG S R k) (hk1 : 1 ≤ k) (hk : k ≤ 2048) (hs : 2 ≤ s) (hs2 : s ≤ 31) (ha : at_ + s ≤ k) (hev : R.ev.length ≤ 1000000) :
    Calls Try.prog 35 #[.pointer (some ⟨r, 0, none⟩), .int .i64 at_, .int .i64 s] w fun e w' => ∃ q F' G', e = .returned (.tuple #[.pointer (some ⟨q, 0, none⟩), .int .i64 0]) ∧ QAt w' F' q r ⟨at_, s, []⟩ ∧ RefAt w' G' r (ropn k at_ s S R) ∧ Mod G w w' ∧ (∀ b, G' b → G b ∨ w.heap.size ≤ b) ∧ (∀ b, F' b → w.heap.size ≤ b) ∧ ∀ b, G' b → ¬ F' b := by
  obtain ⟨Af, cf, _, _, e0, _, _, _, hrlt⟩ := hr.cell
  rw [hg.rel.fl] at e0
  obtain ⟨w1, hw1⟩ : ∃ w1, w1 = w.alloc (.cells #[.pointer (some ⟨r, 0, none⟩), .int .i64 (at_ : Int), .int .i64 (s : Int), .slice none 0 0] 81) := ⟨_, rfl⟩
  have hb1 : Below w.heap.size w w1 := by rw [hw1]; exact (Below.refl _ _).alloc (Nat.le_refl _) _
  have hsz1 : w1.heap.size = w.heap.size + 1 := by rw [hw1]; simp
  have hQ1 : QAt w1 (fun b => b = w.heap.size) w.heap.size r ⟨at_, s, []⟩ := by
    rw [hw1]
    exact ⟨none, 0, rfl, Blk.new w 81 _, ⟨by simp [EV], .inl ⟨rfl, rfl⟩⟩, fun b hb => by simp [Value.ownBlock] at hb, fun b hb => by rw [hb]; simp⟩
  have hak : at_ < k := by omega
  obtain ⟨l, hl⟩ : ∃ l, l = sec S.now at_ := ⟨_, rfl⟩
  have hl256 : l.length = 256 := by rw [hl]; exact sec_length hg.good.ok.now hak
  have HRD : Hid (Calls Try.prog 44 #[.pointer (some ⟨r, 0, none⟩), .int .i64 (at_ : Int)] w1 fun e w' => e = .returned (.tuple #[bstr l, .int .i64 0]) ∧ w1 = w') := Lib.hid (by
    rw [hl, ← hg.get at_ hak]; exact rread_ok w1 G r at_ R (hr.below hb1) (by omega) (by rw [hg.rel.fl]; exact hak))
  have HST := Lib.hid (rstands_ok w1 _ G w.heap.size r k ⟨at_, s, []⟩ R l hQ1 (hr.below hb1) hg.rel.fl hk (by show at_ ≤ 1000000; omega) hs hs2 hl256)
  have HROP : Hid ((Std k at_ s l → ropn k at_ s S R = rdoS R at_ (hnums l (hcnt l))) ∧ (¬ Std k at_ s l → ropn k at_ s S R = R)) := Lib.hid (by unfold ropn; rw [hl]; exact ⟨fun h => if_pos h, fun h => if_neg h⟩)
  have HR := Lib.hid hr
  have HG := Lib.hid hg
  have HQ := Lib.hid hQ1
  have HB1 := Lib.hid hb1
  have HW1 := Lib.hid hw1
  have hsi : ¬ (s : Int) < 2 := by omega
  have hsi2 : ¬ (31 : Int) < (s : Int) := by omega
  have hai : ¬ (at_ : Int) < 0 := by omega
  obtain ⟨t, ht⟩ : ∃ t : Nat, t = k - s := ⟨_, rfl⟩
  have ew : IntKind.i64.wrap ((k : Int) - (s : Int)) = (t : Int) := by rw [IntKind.wrap_i64]; omega
  have ew2 : (k : Int) - (s : Int) = (t : Int) := by omega
  have ew3 : IntKind.i64.wrap (t : Int) = (t : Int) := by rw [IntKind.wrap_i64]; omega
  have hle : ¬ (t : Int) < (at_ : Int) := by omega
  have hle2 : decide (t < at_) = false := decide_eq_false (by omega)
  have HLL := Lib.hid hl256
  have HSZ := Lib.hid hsz1
  clear hr hg hQ1 hb1 hl hl256 ht hsz1
  rw [hw1] at HRD
  clear hw1
  go_enter Try.func35, Try.ntmps35
  go_wp2_with fail
  refine HRD.out.mono ?_
  rintro e w' ⟨rfl, rfl⟩
  rw [← HW1.out]
  go_wp2_with fail
  refine HST.out.mono ?_
  rintro e w2 ⟨hb2, hc⟩
  have HB2 := Lib.hid hb2
  clear hb2 HRD HST e0
  rcases hc with ⟨hns, rfl⟩ | ⟨hst, A, c, rfl, ho, hf⟩
  · have HN := Lib.hid hns
    clear hns
    go_wp2_with fail
    go_ret2
    refine ⟨w.heap.size, _, G, rfl, HQ.out.below HB2.out, ?_, Mod.of_below (below_step' HB1.out HB2.out), fun b hb => .inl hb, fun b hb => by omega, fun b hb e => by have := HR.out.lt hb; omega⟩
    rw [HROP.out.2 HN.out]
    exact HR.out.below (below_step' HB1.out HB2.out)
  · have h1 : (0 : Int) < ((hcnt l : Nat) : Int) := by have := hst.one; omega
    have h1' : decide (0 < hcnt l) = true := decide_eq_true hst.one
    have HR2 := Lib.hid (HR.out.below (below_step' HB1.out HB2.out))
    have HQ2 := Lib.hid (HQ.out.below HB2.out)
    have HDO := Lib.hid (rdo_ok w2 _ _ G w.heap.size r k ⟨at_, s, []⟩ S R A (hcnt l) c (hnums l (hcnt l)) HQ2.out HR2.out (fun b hb e => by have := HR.out.lt hb; omega) HG.out hk (Sl.of_own ho) (fun b hb e => by have := HR.out.lt hb; have h2 := hf b e.1; have := HB1.out.size; omega) (hnums_in hst) (by have := hst.most; show at_ + hcnt l < k; omega) (by omega))
    have HSTD := Lib.hid hst
    obtain ⟨n, hn⟩ : ∃ n, n = hcnt l := ⟨_, rfl⟩
    have HNN := Lib.hid hn
    rw [← hn] at HDO h1 h1' ⊢
    clear hst ho hf hn
    go_wp2_with fail
    refine HDO.out.mono ?_
    rintro e w3 ⟨rfl, hd3, hm3⟩
    have H3 := Lib.hid (And.intro hd3 hm3)
    clear hd3 hm3 HDO
    go_wp2_with fail
    go_ret2
    obtain ⟨hd3, hm3⟩ := H3.out
    obtain ⟨G3, hG3, hd3⟩ : ∃ G3 : Nat → Prop, (∀ b, G3 b → G b ∨ w2.heap.size ≤ b) ∧ RefAt w3 G3 r (rdoS R at_ (hnums l n)) := ⟨fun b => G b ∨ (w2.heap.size ≤ b ∧ b < w3.heap.size), fun b hb => hb.elim .inl (fun h => .inr h.1), hd3⟩
    have hsz := HB2.out.size
    have hs1 := HSZ.out
    refine ⟨w.heap.size, _, G3, rfl, HQ2.out.mod hm3 (fun b hb e => by have := HR.out.lt e; omega), ?_, (Mod.of_below (below_step' HB1.out HB2.out)).trans hm3 (fun _ _ h => h), fun b hb => (hG3 b hb).elim .inl (fun hb => .inr (by omega)), fun b hb => by omega, fun b hb e => (hG3 b hb).elim (fun hb => by have := HR.out.lt hb; omega) (fun hb => by omega)⟩
    rw [HROP.out.1 HSTD.out, ← HNN.out]
    exact hd3
end Go.Proofs.Ytjdobjcbmmdjeaa
