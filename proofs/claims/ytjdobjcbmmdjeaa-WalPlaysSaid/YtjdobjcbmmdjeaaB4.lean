import Derived.Test.YtjdobjcbmmdjeaaB3
import Derived.Test.YtjdobjcbmmdjeaaRl
namespace Go.Proofs.Ytjdobjcbmmdjeaa
open Go.RowKit

/-- block.New, refused -/
theorem new_bad (k : Int) (w : World) (h : k < 1 ∨ 2048 < k) : Calls Try.prog 18 #[.int .i64 k] w fun e w' => e = .returned (.tuple #[.pointer none, .int .i64 2]) ∧ w = w' := by
  by_cases h1 : k < 1
  · go_enter Try.func18, Try.ntmps18
    go_wp2_with fail
    go_ret2
    exact ⟨rfl, rfl⟩
  · have h2 : 2048 < k := by omega
    go_enter Try.func18, Try.ntmps18
    go_wp2_with fail
    go_ret2
    exact ⟨rfl, rfl⟩

def zeros (n : Nat) : List UInt8 := List.replicate n 0
theorem zeros_length (n : Nat) : (zeros n).length = n := by simp [zeros]

set_option maxRecDepth 100000 in
set_option maxHeartbeats 1000000 in
/-- block.New -/
theorem new_ok (k : Nat) (w : World) (h1 : 1 ≤ k) (h2 : k ≤ 2048) : Calls Try.prog 18 #[.int .i64 k] w fun e w' => ∃ d, e = .returned (.tuple #[.pointer (some ⟨d, 0, none⟩), .int .i64 0]) ∧
    DiskAt w' (fun b => w.heap.size ≤ b ∧ b < w'.heap.size) d ⟨zeros (k * 256), zeros (k * 256), [], []⟩ ∧ Below w.heap.size w w' := by
  have n1 : ¬ (k : Int) < 1 := by omega
  have n2 : ¬ (2048 < (k : Int)) := by omega
  go_enter Try.func18, Try.ntmps18
  go_upto_region 3 with fail
  try simp only [Act.put, List.setIfInBounds_toArray, List.set_cons_zero, List.set_cons_succ]
  obtain ⟨Inv, hInv⟩ : ∃ Inv : Done → World → Prop, Inv = fun τ wI => Below w.heap.size w wI ∧
      (∀ v, τ 2 = some v → ∃ g, v = .slice (some ⟨g, 0, none⟩) (k * 256) (k * 256) ∧ w.heap.size ≤ g ∧ wI.ownsRow 0 5 1 v (k * 256) (B8 (zeros (k * 256)))) ∧
      (∀ v, τ 5 = some v → ∃ g, v = .slice (some ⟨g, 0, none⟩) (k * 256) (k * 256) ∧ w.heap.size ≤ g ∧ wI.ownsRow 0 5 1 v (k * 256) (B8 (zeros (k * 256)))) ∧
      (∀ v u, τ 2 = some v → τ 5 = some u → v.ownBlock ≠ u.ownBlock) ∧
      (∀ p, τ 7 = some p → ∃ d v u, p = .pointer (some ⟨d, 0, none⟩) ∧ τ 2 = some v ∧ τ 5 = some u ∧ w.heap.size ≤ d ∧ Blk wI d 29 [v, u, .slice none 0 0, .slice none 0 0]) := ⟨_, rfl⟩
  obtain ⟨J, hJ1, hJ2⟩ := now_of Inv
  obtain ⟨Sh, hSh⟩ : ∃ Sh : Nat → Value → Prop, Sh = fun e v => if e = 7 then ∃ d, v = .pointer (some ⟨d, 0, none⟩) else ∃ g, v = .slice (some ⟨g, 0, none⟩) (k * 256) (k * 256) := ⟨_, rfl⟩
  have HI := Lib.hid hInv
  have HS := Lib.hid hSh
  have hwrap : IntKind.i64.wrap ((k : Int) * 256) = ((k * 256 : Nat) : Int) := by rw [IntKind.wrap_i64]; omega
  have H0 : Hid (Inv Done.none w.drew) := by rw [hInv]; exact ⟨(Below.refl _ _).drew, by simp [Done.none], by simp [Done.none], by simp [Done.none], by simp [Done.none]⟩
  clear hInv hSh
  refine wp_region_inv (by kernel_rfl) [⟨0, false, [], [2, 7]⟩, ⟨1, false, [], [2, 7]⟩, ⟨3, false, [], [5, 7]⟩, ⟨4, false, [], [5, 7]⟩, ⟨2, true, [], [7]⟩, ⟨5, true, [], [7]⟩, ⟨6, false, [2, 5], [7]⟩, ⟨7, true, [2, 5], []⟩, ⟨8, false, [2, 5, 7], []⟩, ⟨9, false, [2, 5, 7], []⟩] (by kernel_rfl) Inv Sh
    (fun e => by rw [HS.out]; dsimp only; split; exact ⟨_, 0, rfl⟩; exact ⟨_, 0, rfl⟩) H0.out ?_
  repeat (apply WpI.pure; (simp only [List.getElem?_toArray, List.getElem?_cons_succ, List.getElem?_cons_zero]; rfl); (intro τ wI hA hI; have hw := hJ1.out _ _ hI; go_simp; exact ⟨hI, Is.rfl'⟩); simp only [Act.put, List.setIfInBounds_toArray, List.set_cons_zero, List.set_cons_succ])
  apply WpI.effect; (simp only [List.getElem?_toArray, List.getElem?_cons_succ, List.getElem?_cons_zero]; rfl)
  · intro τ wI hA hn hI
    refine runs_make (o := ⟨_, _, _, _, _, _⟩) rfl (.tmp 11) (.tmp 11) 22 rfl 5 (.int .u8 0) 1 1 Try.underlying22 info5 (k * 256) ?_ ?_ (by omega) (by simp only [maxLen]; omega) ?_
    · simp [Act.eval]
    · simp [Act.eval]
    · intro w' ho hg hlt
      rw [zeros_u8] at ho
      rw [HI.out] at hI ⊢
      rw [HS.out]
      obtain ⟨hb, h2, h5, h25, h7⟩ := hI
      have hsz := hb.size
      refine ⟨⟨_, rfl⟩, hb.grown hg hsz (by simp), fun v hv => ?_, fun v hv => ?_, fun v u hv hu => ?_, fun p hp => ?_⟩
      · by_cases hq : (2 : Nat) = 2
        · rw [hq, Done.put_same] at hv; injection hv with hv; subst hv
          exact ⟨_, rfl, hsz, ho⟩
        · rw [Done.put_other _ _ _ _ hq] at hv
          obtain ⟨g, e1, e2, e3⟩ := h2 v hv
          exact ⟨g, e1, e2, own_grown e3 hg (by simp)⟩
      · by_cases hq : (5 : Nat) = 2
        · rw [hq, Done.put_same] at hv; injection hv with hv; subst hv
          exact ⟨_, rfl, hsz, ho⟩
        · rw [Done.put_other _ _ _ _ hq] at hv
          obtain ⟨g, e1, e2, e3⟩ := h5 v hv
          exact ⟨g, e1, e2, own_grown e3 hg (by simp)⟩
      · rw [Done.put_same] at hv; injection hv with hv; subst hv
        rw [Done.put_other _ _ _ _ (by decide)] at hu
        obtain ⟨g, rfl, _, e3⟩ := h5 u hu
        have : g < wI.heap.size := own_lt' e3 rfl
        simp [Value.ownBlock]; omega
      · rw [Done.put_other _ _ _ _ (by decide)] at hp
        have := hA.2 7 (by simp)
        rw [this] at hp; cases hp
  intro v hv
  have hv' : ∃ g, v = .slice (some ⟨g, 0, none⟩) (k * 256) (k * 256) := by rw [HS.out] at hv; exact hv
  obtain ⟨g2, hv'⟩ := hv'
  rw [hv']
  clear hv hv'
  simp only [Act.put, List.setIfInBounds_toArray, List.set_cons_zero, List.set_cons_succ]
  apply WpI.effect; (simp only [List.getElem?_toArray, List.getElem?_cons_succ, List.getElem?_cons_zero]; rfl)
  · intro τ wI hA hn hI
    refine runs_make (o := ⟨_, _, _, _, _, _⟩) rfl (.tmp 14) (.tmp 14) 22 rfl 5 (.int .u8 0) 1 1 Try.underlying22 info5 (k * 256) ?_ ?_ (by omega) (by simp only [maxLen]; omega) ?_
    · simp [Act.eval]
    · simp [Act.eval]
    · intro w' ho hg hlt
      rw [zeros_u8] at ho
      rw [HI.out] at hI ⊢
      rw [HS.out]
      obtain ⟨hb, h2, h5, h25, h7⟩ := hI
      have hsz := hb.size
      refine ⟨⟨_, rfl⟩, hb.grown hg hsz (by simp), fun v hv => ?_, fun v hv => ?_, fun v u hv hu => ?_, fun p hp => ?_⟩
      · by_cases hq : (2 : Nat) = 5
        · rw [hq, Done.put_same] at hv; injection hv with hv; subst hv
          exact ⟨_, rfl, hsz, ho⟩
        · rw [Done.put_other _ _ _ _ hq] at hv
          obtain ⟨g, e1, e2, e3⟩ := h2 v hv
          exact ⟨g, e1, e2, own_grown e3 hg (by simp)⟩
      · by_cases hq : (5 : Nat) = 5
        · rw [hq, Done.put_same] at hv; injection hv with hv; subst hv
          exact ⟨_, rfl, hsz, ho⟩
        · rw [Done.put_other _ _ _ _ hq] at hv
          obtain ⟨g, e1, e2, e3⟩ := h5 v hv
          exact ⟨g, e1, e2, own_grown e3 hg (by simp)⟩
      · rw [Done.put_same] at hu; injection hu with hu; subst hu
        rw [Done.put_other _ _ _ _ (by decide)] at hv
        obtain ⟨g, rfl, _, e3⟩ := h2 v hv
        have : g < wI.heap.size := own_lt' e3 rfl
        simp [Value.ownBlock]; omega
      · rw [Done.put_other _ _ _ _ (by decide)] at hp
        have := hA.2 7 (by simp)
        rw [this] at hp; cases hp
  intro v hv
  have hv' : ∃ g, v = .slice (some ⟨g, 0, none⟩) (k * 256) (k * 256) := by rw [HS.out] at hv; exact hv
  obtain ⟨g5, hv'⟩ := hv'
  rw [hv']
  clear hv hv'
  simp only [Act.put, List.setIfInBounds_toArray, List.set_cons_zero, List.set_cons_succ]
  repeat (apply WpI.pure; (simp only [List.getElem?_toArray, List.getElem?_cons_succ, List.getElem?_cons_zero]; rfl); (intro τ wI hA hI; have hw := hJ1.out _ _ hI; go_simp; exact ⟨hI, Is.rfl'⟩); simp only [Act.put, List.setIfInBounds_toArray, List.set_cons_zero, List.set_cons_succ])
  apply WpI.effect; (simp only [List.getElem?_toArray, List.getElem?_cons_succ, List.getElem?_cons_zero]; rfl)
  · intro τ wI hA hn hI
    have hp : Is (τ 2) (some (.slice (some ⟨g2, 0, none⟩) (k * 256) (k * 256))) ∧ Is (τ 5) (some (.slice (some ⟨g5, 0, none⟩) (k * 256) (k * 256))) := by
      have t2 := hA.1 2 (by simp)
      have t5 := hA.1 5 (by simp)
      rw [Done.put_other _ _ _ _ (by decide), Done.put_same] at t2
      rw [Done.put_same] at t5
      exact ⟨t2, t5⟩
    have HP := Lib.hid hp
    clear hp hn hA
    go_simp
    rw [HI.out] at hI ⊢
    rw [HS.out]
    obtain ⟨t2, t5⟩ := HP.out
    have t2 : τ 2 = _ := t2
    have t5 : τ 5 = _ := t5
    obtain ⟨hb, h2, h5, h25, h7⟩ := hI
    have hsz := hb.size
    refine ⟨⟨_, rfl⟩, hb.alloc hsz _, fun v hv => ?_, fun v hv => ?_, fun v u hv hu => ?_, fun p hp => ?_⟩
    · rw [Done.put_other _ _ _ _ (by decide)] at hv
      obtain ⟨g, e1, e2, e3⟩ := h2 v hv
      exact ⟨g, e1, e2, e3.alloc _⟩
    · rw [Done.put_other _ _ _ _ (by decide)] at hv
      obtain ⟨g, e1, e2, e3⟩ := h5 v hv
      exact ⟨g, e1, e2, e3.alloc _⟩
    · rw [Done.put_other _ _ _ _ (by decide)] at hv hu
      exact h25 v u hv hu
    · rw [Done.put_same] at hp; injection hp with hp; subst hp
      refine ⟨wI.heap.size, _, _, rfl, by rw [Done.put_other _ _ _ _ (by decide)]; exact t2, by rw [Done.put_other _ _ _ _ (by decide)]; exact t5, hsz, ?_⟩
      exact Blk.new wI 29 _
  intro v hv
  have hv' : ∃ d, v = .pointer (some ⟨d, 0, none⟩) := by rw [HS.out] at hv; exact hv
  obtain ⟨d, hv'⟩ := hv'
  rw [hv']
  clear hv hv'
  simp only [Act.put, List.setIfInBounds_toArray, List.set_cons_zero, List.set_cons_succ]
  repeat (apply WpI.pure; (simp only [List.getElem?_toArray, List.getElem?_cons_succ, List.getElem?_cons_zero]; rfl); (intro τ wI hA hI; have hw := hJ1.out _ _ hI; go_simp; exact ⟨hI, Is.rfl'⟩); simp only [Act.put, List.setIfInBounds_toArray, List.set_cons_zero, List.set_cons_succ])
  refine WpI.done ?_
  intro wI hI
  rw [HI.out] at hI
  have HJ := Lib.hid hI
  clear hI
  go_wp2_with fail
  go_ret2
  obtain ⟨hb, h2, h5, h25, h7⟩ := HJ.out
  obtain ⟨d', v, u, e1, e2, e3, hd, hblk⟩ := h7 _ (Done.put_same _ _ _)
  injection e1 with e1; injection e1 with e1; injection e1 with e1
  subst e1
  rw [Done.put_other _ _ _ _ (by decide)] at e2 e3
  rw [Done.put_other _ _ _ _ (by decide), Done.put_same] at e2
  rw [Done.put_same] at e3
  injection e2 with e2; injection e3 with e3
  subst e2 e3
  obtain ⟨_, q1, l2, o2⟩ := h2 _ (by rw [Done.put_other _ _ _ _ (by decide), Done.put_other _ _ _ _ (by decide), Done.put_same])
  obtain ⟨_, q2, l5, o5⟩ := h5 _ (by rw [Done.put_other _ _ _ _ (by decide), Done.put_same])
  injection q1 with q1; injection q1 with q1; injection q1 with q1; subst q1
  injection q2 with q2; injection q2 with q2; injection q2 with q2; subst q2
  have hne := h25 _ _ (by rw [Done.put_other _ _ _ _ (by decide), Done.put_other _ _ _ _ (by decide), Done.put_same]) (by rw [Done.put_other _ _ _ _ (by decide), Done.put_same])
  refine ⟨d, rfl, ⟨_, _, _, _, ⟨hd, hblk.lt⟩, hblk, ?_, ?_, own_nil0 _ _ _, own_nil0 _ _ _, ?_, ?_, ?_, fun b hb => hb.2⟩, hb⟩
  · rw [zeros_length]; exact o2
  · rw [zeros_length]; exact o5
  · intro b hb
    rcases hb with hb | hb | hb | hb
    · have := own_lt' o2 hb; simp [Value.ownBlock] at hb; exact ⟨by omega, this⟩
    · have := own_lt' o5 hb; simp [Value.ownBlock] at hb; exact ⟨by omega, this⟩
    · simp [Value.ownBlock] at hb
    · simp [Value.ownBlock] at hb
  · intro b hb
    exact ⟨fun e => hne (by rw [hb, e]), by simp [Value.ownBlock]⟩
  · intro b hb; simp [Value.ownBlock]
end Go.Proofs.Ytjdobjcbmmdjeaa
