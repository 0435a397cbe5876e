/- Contracts of package wal: outside, Clone, Get. -/
import Derived.Test.YtjdobjcbmmdjeaaW4
namespace Go.Proofs.Ytjdobjcbmmdjeaa
open Go.RowKit

def outK (k at_ sec n : Nat) : Bool := decide (n < k ∧ (n < at_ ∨ at_ + sec ≤ n))
set_option maxRecDepth 100000 in
set_option maxHeartbeats 4000000 in
theorem outside_ok (w : World) (F G : Nat → Prop) (j d k n : Nat) (J : Jr) (S : Dsk) (h : JrAt w F j d J) (hd : DiskAt w G d S) (hk : k ≤ 2048) (hnow : S.now.length = k * 256) (ha : J.at_ ≤ 1000000) (hs : J.sec ≤ 1000000) :
    Calls Try.prog 47 #[.pointer (some ⟨j, 0, none⟩), .int .u64 n] w fun e w' => e = .returned (.bool (outK k J.at_ J.sec n)) ∧ Below w.heap.size w w' := by
  have hs0 : Calls Try.prog 13 #[.pointer (some ⟨d, 0, none⟩)] w.drew fun e w' => e = .returned (.int .i64 k) ∧ w.drew = w' := (hd.below (Below.refl _ _).drew).sectors hk hnow
  have HS := Lib.hid hs0
  obtain ⟨g, c0, c1, c2, c3, hl⟩ := (h.below (Below.refl _ _).drew).cells
  obtain ⟨a, hae⟩ : ∃ a, a = J.at_ := ⟨_, rfl⟩
  obtain ⟨s, hse⟩ : ∃ s, s = J.sec := ⟨_, rfl⟩
  rw [← hae] at c1 ha ⊢
  rw [← hse] at c2 hs ⊢
  have w1 : IntKind.i64.wrap ((a : Int) + (s : Int)) = ((a + s : Nat) : Int) := by rw [IntKind.wrap_i64]; omega
  have w2 : IntKind.u64.wrap (k : Int) = (k : Int) := by rw [IntKind.wrap_u64]; omega
  have w3 : IntKind.u64.wrap (a : Int) = (a : Int) := by rw [IntKind.wrap_u64]; omega
  have w4 : IntKind.u64.wrap ((a + s : Nat) : Int) = ((a + s : Nat) : Int) := by rw [IntKind.wrap_u64]; omega
  obtain ⟨q, hq⟩ : ∃ q, q = a + s := ⟨_, rfl⟩
  rw [← hq] at w1 w4
  clear h hd hs0 hnow hae hse c3
  obtain ⟨Inv, hInv⟩ : ∃ Inv : Done → World → Prop, Inv = fun _ wI => wI = w.drew := ⟨_, rfl⟩
  have HI : Hid (∀ τ wI, Inv τ wI → wI = w.drew) := fun τ wI h => by rw [hInv] at h; exact h
  have HJ : Hid (∀ τ, Inv τ w.drew) := fun τ => by rw [hInv]
  clear hInv
  by_cases h1 : n < k
  · by_cases h2 : n < a
    · have e : outK k a s n = true := by simp [outK, h1, h2]
      rw [e]
      clear e hq
      have i1 : (n : Int) < (k : Int) := by omega
      have i2 : (n : Int) < (a : Int) := by omega
      go_enter Try.func47, Try.ntmps47
      go_upto_region 1 with fail
      try simp only [Act.put, List.setIfInBounds_toArray, List.set_cons_zero, List.set_cons_succ]
      refine wp_region_inv (by kernel_rfl) [⟨0, false, [], []⟩, ⟨1, false, [], []⟩, ⟨2, false, [], []⟩, ⟨3, false, [], []⟩, ⟨4, false, [], []⟩, ⟨5, false, [], []⟩, ⟨6, false, [], []⟩, ⟨7, false, [], []⟩, ⟨8, false, [], []⟩, ⟨9, false, [], []⟩, ⟨10, false, [], []⟩, ⟨11, false, [], []⟩, ⟨12, false, [], []⟩, ⟨13, false, [], []⟩, ⟨14, false, [], []⟩, ⟨15, false, [], []⟩, ⟨16, false, [], []⟩, ⟨17, false, [], []⟩, ⟨18, false, [], []⟩, ⟨19, false, [], []⟩, ⟨20, false, [], []⟩, ⟨21, false, [], []⟩, ⟨22, false, [], []⟩, ⟨23, false, [], []⟩, ⟨24, false, [], []⟩, ⟨25, false, [], []⟩, ⟨26, false, [], []⟩, ⟨27, false, [], []⟩, ⟨28, false, [], []⟩, ⟨29, false, [], []⟩, ⟨30, false, [], []⟩, ⟨31, false, [], []⟩] (by kernel_rfl) Inv (fun _ _ => True) (fun _ => ⟨undef, trivial⟩) (HJ.out _) ?_
      iterate 5 (apply WpI.pure; (simp only [List.getElem?_toArray, List.getElem?_cons_succ, List.getElem?_cons_zero]; rfl); (intro τ wI hA hI; have hw := HI.out _ _ hI; rw [hw]; go_simp; exact ⟨HJ.out _, Is.rfl'⟩); simp only [Act.put, List.setIfInBounds_toArray, List.set_cons_zero, List.set_cons_succ])
      (apply WpI.pure; (simp only [List.getElem?_toArray, List.getElem?_cons_succ, List.getElem?_cons_zero]; rfl); (intro τ wI hA hI; have hw := HI.out _ _ hI; rw [hw]; go_simp; refine HS.out.mono ?_; rintro e w' ⟨rfl, rfl⟩; exact ⟨_, rfl, HJ.out _, Is.rfl'⟩); simp only [Act.put, List.setIfInBounds_toArray, List.set_cons_zero, List.set_cons_succ])
      iterate 26 (apply WpI.pure; (simp only [List.getElem?_toArray, List.getElem?_cons_succ, List.getElem?_cons_zero]; rfl); (intro τ wI hA hI; have hw := HI.out _ _ hI; rw [hw]; go_simp; exact ⟨HJ.out _, Is.rfl'⟩); simp only [Act.put, List.setIfInBounds_toArray, List.set_cons_zero, List.set_cons_succ])
      refine WpI.done ?_
      intro wI hI
      have hw := HI.out _ _ hI
      rw [hw]
      clear hw hI HI HJ HS
      go_wp2_with fail
      go_ret
      exact ⟨rfl, Below.drew (Below.refl _ _)⟩
    · by_cases h3 : q ≤ n
      · have e : outK k a s n = true := by simp [outK, h1]; omega
        rw [e]
        clear e hq
        have i1 : (n : Int) < (k : Int) := by omega
        have i2 : ¬ (n : Int) < (a : Int) := by omega
        have i3 : (q : Int) ≤ (n : Int) := by omega
        go_enter Try.func47, Try.ntmps47
        go_upto_region 1 with fail
        try simp only [Act.put, List.setIfInBounds_toArray, List.set_cons_zero, List.set_cons_succ]
        refine wp_region_inv (by kernel_rfl) [⟨0, false, [], []⟩, ⟨1, false, [], []⟩, ⟨2, false, [], []⟩, ⟨3, false, [], []⟩, ⟨4, false, [], []⟩, ⟨5, false, [], []⟩, ⟨6, false, [], []⟩, ⟨7, false, [], []⟩, ⟨8, false, [], []⟩, ⟨9, false, [], []⟩, ⟨10, false, [], []⟩, ⟨11, false, [], []⟩, ⟨12, false, [], []⟩, ⟨13, false, [], []⟩, ⟨14, false, [], []⟩, ⟨15, false, [], []⟩, ⟨16, false, [], []⟩, ⟨17, false, [], []⟩, ⟨18, false, [], []⟩, ⟨19, false, [], []⟩, ⟨20, false, [], []⟩, ⟨21, false, [], []⟩, ⟨22, false, [], []⟩, ⟨23, false, [], []⟩, ⟨24, false, [], []⟩, ⟨25, false, [], []⟩, ⟨26, false, [], []⟩, ⟨27, false, [], []⟩, ⟨28, false, [], []⟩, ⟨29, false, [], []⟩, ⟨30, false, [], []⟩, ⟨31, false, [], []⟩] (by kernel_rfl) Inv (fun _ _ => True) (fun _ => ⟨undef, trivial⟩) (HJ.out _) ?_
        iterate 5 (apply WpI.pure; (simp only [List.getElem?_toArray, List.getElem?_cons_succ, List.getElem?_cons_zero]; rfl); (intro τ wI hA hI; have hw := HI.out _ _ hI; rw [hw]; go_simp; exact ⟨HJ.out _, Is.rfl'⟩); simp only [Act.put, List.setIfInBounds_toArray, List.set_cons_zero, List.set_cons_succ])
        (apply WpI.pure; (simp only [List.getElem?_toArray, List.getElem?_cons_succ, List.getElem?_cons_zero]; rfl); (intro τ wI hA hI; have hw := HI.out _ _ hI; rw [hw]; go_simp; refine HS.out.mono ?_; rintro e w' ⟨rfl, rfl⟩; exact ⟨_, rfl, HJ.out _, Is.rfl'⟩); simp only [Act.put, List.setIfInBounds_toArray, List.set_cons_zero, List.set_cons_succ])
        iterate 26 (apply WpI.pure; (simp only [List.getElem?_toArray, List.getElem?_cons_succ, List.getElem?_cons_zero]; rfl); (intro τ wI hA hI; have hw := HI.out _ _ hI; rw [hw]; go_simp; exact ⟨HJ.out _, Is.rfl'⟩); simp only [Act.put, List.setIfInBounds_toArray, List.set_cons_zero, List.set_cons_succ])
        refine WpI.done ?_
        intro wI hI
        have hw := HI.out _ _ hI
        rw [hw]
        clear hw hI HI HJ HS
        go_wp2_with fail
        go_ret
        exact ⟨rfl, Below.drew (Below.refl _ _)⟩
      · have e : outK k a s n = false := by simp [outK]; omega
        rw [e]
        clear e hq
        have i1 : (n : Int) < (k : Int) := by omega
        have i2 : ¬ (n : Int) < (a : Int) := by omega
        have i3 : ¬ (q : Int) ≤ (n : Int) := by omega
        go_enter Try.func47, Try.ntmps47
        go_upto_region 1 with fail
        try simp only [Act.put, List.setIfInBounds_toArray, List.set_cons_zero, List.set_cons_succ]
        refine wp_region_inv (by kernel_rfl) [⟨0, false, [], []⟩, ⟨1, false, [], []⟩, ⟨2, false, [], []⟩, ⟨3, false, [], []⟩, ⟨4, false, [], []⟩, ⟨5, false, [], []⟩, ⟨6, false, [], []⟩, ⟨7, false, [], []⟩, ⟨8, false, [], []⟩, ⟨9, false, [], []⟩, ⟨10, false, [], []⟩, ⟨11, false, [], []⟩, ⟨12, false, [], []⟩, ⟨13, false, [], []⟩, ⟨14, false, [], []⟩, ⟨15, false, [], []⟩, ⟨16, false, [], []⟩, ⟨17, false, [], []⟩, ⟨18, false, [], []⟩, ⟨19, false, [], []⟩, ⟨20, false, [], []⟩, ⟨21, false, [], []⟩, ⟨22, false, [], []⟩, ⟨23, false, [], []⟩, ⟨24, false, [], []⟩, ⟨25, false, [], []⟩, ⟨26, false, [], []⟩, ⟨27, false, [], []⟩, ⟨28, false, [], []⟩, ⟨29, false, [], []⟩, ⟨30, false, [], []⟩, ⟨31, false, [], []⟩] (by kernel_rfl) Inv (fun _ _ => True) (fun _ => ⟨undef, trivial⟩) (HJ.out _) ?_
        iterate 5 (apply WpI.pure; (simp only [List.getElem?_toArray, List.getElem?_cons_succ, List.getElem?_cons_zero]; rfl); (intro τ wI hA hI; have hw := HI.out _ _ hI; rw [hw]; go_simp; exact ⟨HJ.out _, Is.rfl'⟩); simp only [Act.put, List.setIfInBounds_toArray, List.set_cons_zero, List.set_cons_succ])
        (apply WpI.pure; (simp only [List.getElem?_toArray, List.getElem?_cons_succ, List.getElem?_cons_zero]; rfl); (intro τ wI hA hI; have hw := HI.out _ _ hI; rw [hw]; go_simp; refine HS.out.mono ?_; rintro e w' ⟨rfl, rfl⟩; exact ⟨_, rfl, HJ.out _, Is.rfl'⟩); simp only [Act.put, List.setIfInBounds_toArray, List.set_cons_zero, List.set_cons_succ])
        iterate 26 (apply WpI.pure; (simp only [List.getElem?_toArray, List.getElem?_cons_succ, List.getElem?_cons_zero]; rfl); (intro τ wI hA hI; have hw := HI.out _ _ hI; rw [hw]; go_simp; exact ⟨HJ.out _, Is.rfl'⟩); simp only [Act.put, List.setIfInBounds_toArray, List.set_cons_zero, List.set_cons_succ])
        refine WpI.done ?_
        intro wI hI
        have hw := HI.out _ _ hI
        rw [hw]
        clear hw hI HI HJ HS
        go_wp2_with fail
        go_ret
        exact ⟨rfl, Below.drew (Below.refl _ _)⟩
  · have e : outK k a s n = false := by simp [outK]; omega
    rw [e]
    clear e hq
    have i1 : ¬ (n : Int) < (k : Int) := by omega
    go_enter Try.func47, Try.ntmps47
    go_upto_region 1 with fail
    try simp only [Act.put, List.setIfInBounds_toArray, List.set_cons_zero, List.set_cons_succ]
    refine wp_region_inv (by kernel_rfl) [⟨0, false, [], []⟩, ⟨1, false, [], []⟩, ⟨2, false, [], []⟩, ⟨3, false, [], []⟩, ⟨4, false, [], []⟩, ⟨5, false, [], []⟩, ⟨6, false, [], []⟩, ⟨7, false, [], []⟩, ⟨8, false, [], []⟩, ⟨9, false, [], []⟩, ⟨10, false, [], []⟩, ⟨11, false, [], []⟩, ⟨12, false, [], []⟩, ⟨13, false, [], []⟩, ⟨14, false, [], []⟩, ⟨15, false, [], []⟩, ⟨16, false, [], []⟩, ⟨17, false, [], []⟩, ⟨18, false, [], []⟩, ⟨19, false, [], []⟩, ⟨20, false, [], []⟩, ⟨21, false, [], []⟩, ⟨22, false, [], []⟩, ⟨23, false, [], []⟩, ⟨24, false, [], []⟩, ⟨25, false, [], []⟩, ⟨26, false, [], []⟩, ⟨27, false, [], []⟩, ⟨28, false, [], []⟩, ⟨29, false, [], []⟩, ⟨30, false, [], []⟩, ⟨31, false, [], []⟩] (by kernel_rfl) Inv (fun _ _ => True) (fun _ => ⟨undef, trivial⟩) (HJ.out _) ?_
    iterate 5 (apply WpI.pure; (simp only [List.getElem?_toArray, List.getElem?_cons_succ, List.getElem?_cons_zero]; rfl); (intro τ wI hA hI; have hw := HI.out _ _ hI; rw [hw]; go_simp; exact ⟨HJ.out _, Is.rfl'⟩); simp only [Act.put, List.setIfInBounds_toArray, List.set_cons_zero, List.set_cons_succ])
    (apply WpI.pure; (simp only [List.getElem?_toArray, List.getElem?_cons_succ, List.getElem?_cons_zero]; rfl); (intro τ wI hA hI; have hw := HI.out _ _ hI; rw [hw]; go_simp; refine HS.out.mono ?_; rintro e w' ⟨rfl, rfl⟩; exact ⟨_, rfl, HJ.out _, Is.rfl'⟩); simp only [Act.put, List.setIfInBounds_toArray, List.set_cons_zero, List.set_cons_succ])
    iterate 26 (apply WpI.pure; (simp only [List.getElem?_toArray, List.getElem?_cons_succ, List.getElem?_cons_zero]; rfl); (intro τ wI hA hI; have hw := HI.out _ _ hI; rw [hw]; go_simp; exact ⟨HJ.out _, Is.rfl'⟩); simp only [Act.put, List.setIfInBounds_toArray, List.set_cons_zero, List.set_cons_succ])
    refine WpI.done ?_
    intro wI hI
    have hw := HI.out _ _ hI
    rw [hw]
    clear hw hI HI HJ HS
    go_wp2_with fail
    go_ret
    exact ⟨rfl, Below.drew (Below.refl _ _)⟩
end Go.Proofs.Ytjdobjcbmmdjeaa
