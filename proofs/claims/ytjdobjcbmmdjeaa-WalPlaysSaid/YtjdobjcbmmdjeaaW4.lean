/- Contracts of package wal: none, Most, outside, Clone; the journal's memory. -/
import Derived.Test.YtjdobjcbmmdjeaaS1
import Derived.Test.YtjdobjcbmmdjeaaRm
namespace Go.Proofs.Ytjdobjcbmmdjeaa
open Go.RowKit

abbrev KI : Keys Try.prog 3 Int := Keys.ofInt Try.underlying3

/-- a journal: where it lies, how many sectors it has, what is put -/
structure Jr where
  (at_ sec : Nat)
  put : List (Int × List UInt8)

/-- a sector that is put -/
def SecV (w : World) (F : Nat → Prop) (v : Value) (b : List UInt8) : Prop := b.length = 256 ∧ ∃ A c, v = .slice A 256 c ∧ w.ownsRow 0 5 1 (.slice A 256 c) 256 (B8 b) ∧ ∀ q, (Value.slice A 256 c).ownBlock = some q → F q
def PutRel (w : World) (F : Nat → Prop) : List (Int × Value) → List (Int × List UInt8) → Prop
  | [], [] => True
  | x :: D, y :: P => x.1 = y.1 ∧ SecV w F x.2 y.2 ∧ PutRel w F D P
  | _, _ => False
def JrAt (w : World) (F : Nat → Prop) (j d : Nat) (J : Jr) : Prop := ∃ g D, F j ∧ F g ∧ Blk w j 62 [.pointer (some ⟨d, 0, none⟩), .int .i64 (J.at_ : Int), .int .i64 (J.sec : Int), .map (some g)] ∧ MapAt KI w g D ∧ PutRel w F D J.put ∧ ∀ b, F b → b < w.heap.size

section
variable {w w' : World} {F G : Nat → Prop} {j d : Nat} {J : Jr} {v : Value} {b : List UInt8} {D : List (Int × Value)} {P : List (Int × List UInt8)}
theorem SecV.mod (h : SecV w F v b) (hm : Mod G w w') (hG : ∀ b, F b → ¬ G b) : SecV w' F v b := by
  obtain ⟨h1, A, c, rfl, h2, h3⟩ := h
  exact ⟨h1, A, c, rfl, own_mod h2 hm (fun q hq => hG q (h3 q hq)), h3⟩
theorem SecV.mono (h : SecV w F v b) (hF : ∀ b, F b → G b) : SecV w G v b := by
  obtain ⟨h1, A, c, rfl, h2, h3⟩ := h
  exact ⟨h1, A, c, rfl, h2, fun q hq => hF q (h3 q hq)⟩
theorem PutRel.imp (hv : ∀ v b, SecV w F v b → SecV w' G v b) : ∀ {D : List (Int × Value)} {P : List (Int × List UInt8)}, PutRel w F D P → PutRel w' G D P
  | [], [], _ => trivial
  | [], _ :: _, h => h.elim
  | _ :: _, [], h => h.elim
  | _ :: _, _ :: _, ⟨h1, h2, h3⟩ => ⟨h1, hv _ _ h2, PutRel.imp hv h3⟩
theorem PutRel.keys : ∀ {D : List (Int × Value)} {P : List (Int × List UInt8)}, PutRel w F D P → D.map (·.1) = P.map (·.1)
  | [], [], _ => rfl
  | [], _ :: _, h => h.elim
  | _ :: _, [], h => h.elim
  | _ :: _, _ :: _, ⟨h1, _, h3⟩ => by simp [h1, PutRel.keys h3]
theorem PutRel.get : ∀ {D : List (Int × Value)} {P : List (Int × List UInt8)}, PutRel w F D P → ∀ a, (mget D a = none ∧ mget P a = none) ∨ ∃ v b, mget D a = some v ∧ mget P a = some b ∧ SecV w F v b
  | [], [], _, a => .inl ⟨rfl, rfl⟩
  | [], _ :: _, h, _ => h.elim
  | _ :: _, [], h, _ => h.elim
  | x :: D, y :: P, ⟨h1, h2, h3⟩, a => by
    unfold mget
    by_cases e : a = x.1
    · rw [if_pos e, if_pos (by rw [← h1]; exact e)]
      exact .inr ⟨_, _, rfl, rfl, h2⟩
    · rw [if_neg e, if_neg (by rw [← h1]; exact e)]
      exact PutRel.get h3 a
theorem PutRel.put {a : Int} (hv : SecV w F v b) : ∀ {D : List (Int × Value)} {P : List (Int × List UInt8)}, PutRel w F D P → PutRel w F (mput D a v) (mput P a b)
  | [], [], _ => ⟨rfl, hv, trivial⟩
  | [], _ :: _, h => h.elim
  | _ :: _, [], h => h.elim
  | x :: D, y :: P, ⟨h1, h2, h3⟩ => by
    unfold mput
    by_cases e : a = x.1
    · rw [if_pos e, if_pos (by rw [← h1]; exact e)]
      exact ⟨rfl, hv, h3⟩
    · rw [if_neg e, if_neg (by rw [← h1]; exact e)]
      exact ⟨h1, h2, PutRel.put hv h3⟩
theorem JrAt.mod (h : JrAt w F j d J) (hm : Mod G w w') (hG : ∀ b, F b → ¬ G b) : JrAt w' F j d J := by
  obtain ⟨g, D, h1, h2, h3, h4, h5, h6⟩ := h
  exact ⟨g, D, h1, h2, h3.mod hm (hG _ h1), h4.mod hm (hG _ h2), h5.imp (fun _ _ h => h.mod hm hG), fun b hb => Nat.lt_of_lt_of_le (h6 b hb) hm.size⟩
theorem JrAt.below (h : JrAt w F j d J) (hb : Below w.heap.size w w') : JrAt w' F j d J := h.mod (G := fun _ => False) (Mod.of_below hb) (fun _ _ h => h)
theorem JrAt.lt (h : JrAt w F j d J) {b : Nat} (hb : F b) : b < w.heap.size := by
  obtain ⟨_, _, _, _, _, _, _, h⟩ := h
  exact h b hb
theorem JrAt.cells (h : JrAt w F j d J) : ∃ g, w.cell? ⟨j, 0, none⟩ = some (.pointer (some ⟨d, 0, none⟩)) ∧ w.cell? ⟨j, 1, none⟩ = some (.int .i64 (J.at_ : Int)) ∧ w.cell? ⟨j, 2, none⟩ = some (.int .i64 (J.sec : Int)) ∧ w.cell? ⟨j, 3, none⟩ = some (.map (some g)) ∧ j < w.heap.size := by
  obtain ⟨g, D, _, _, h3, _⟩ := h
  exact ⟨g, by rw [h3.cell]; rfl, by rw [h3.cell]; rfl, by rw [h3.cell]; rfl, by rw [h3.cell]; rfl, h3.lt⟩
end

theorem none_ok (w : World) (j : Nat) (g : Nat) (h : w.cell? ⟨j, 3, none⟩ = some (.map (some g))) : Calls Try.prog 45 #[.pointer (some ⟨j, 0, none⟩)] w fun e w' => e = .returned (.bool false) ∧ w = w' := by
  have q := fun (w : World) => run_eql_map_nil (P := Try.prog) w 60 _ _ (some g) Try.underlying60
  go_enter Try.func45, Try.ntmps45
  go_wp2_with fail
  go_ret
  exact ⟨rfl, rfl⟩
theorem JrAt.isnt {w : World} {F : Nat → Prop} {j d : Nat} {J : Jr} (h : JrAt w F j d J) : Calls Try.prog 45 #[.pointer (some ⟨j, 0, none⟩)] w fun e w' => e = .returned (.bool false) ∧ w = w' := by
  obtain ⟨g, _, _, _, h3, _⟩ := h.cells
  exact none_ok w j g h3
theorem JrAt.most {w : World} {F : Nat → Prop} {j d : Nat} {J : Jr} (h : JrAt w F j d J) (hs : J.sec ≤ 1000000) (hs1 : 1 ≤ J.sec) : Calls Try.prog 31 #[.pointer (some ⟨j, 0, none⟩)] w fun e w' => e = .returned (.int .i64 ((J.sec - 1 : Nat) : Int)) ∧ w = w' := by
  have HN := Lib.hid h.isnt
  obtain ⟨g, _, _, c2, _, hl⟩ := h.cells
  have hsub : IntKind.i64.wrap ((J.sec : Int) - 1) = ((J.sec - 1 : Nat) : Int) := by rw [IntKind.wrap_i64]; omega
  clear h
  go_enter Try.func31, Try.ntmps31
  go_wp2_with fail
  refine HN.out.mono ?_
  rintro e w' ⟨rfl, rfl⟩
  go_wp2_with fail
  go_ret
  exact ⟨rfl, rfl⟩
end Go.Proofs.Ytjdobjcbmmdjeaa
/- Contracts of package wal: outside, Clone, Get. -/
namespace Go.Proofs.Ytjdobjcbmmdjeaa
open Go.RowKit

def outK (k at_ sec n : Nat) : Bool := decide (n < k ∧ (n < at_ ∨ at_ + sec ≤ n))
set_option maxRecDepth 100000 in
set_option maxHeartbeats 4000000 in
theorem outside_ok (w : World) (F G : Nat → Prop) (j d k n : Nat) (J : Jr) (S : Dsk) (h : JrAt w F j d J) (hd : DiskAt w G d S) (hk : k ≤ 2048) (hnow : S.now.length = k * 256) (ha : J.at_ ≤ 1000000) (hs : J.sec ≤ 1000000) :
    Calls Try.prog 47 #[.pointer (some ⟨j, 0, none⟩), .int .u64 n] w fun e w' => e = .returned (.bool (outK k J.at_ J.sec n)) ∧ Below w.heap.size w w' := by
  have hs0 : Calls Try.prog 13 #[.pointer (some ⟨d, 0, none⟩)] w.drew fun e w' => e = .returned (.int .i64 k) ∧ w.drew = w' := (hd.below (Below.refl _ _).drew).sectors hk hnow
  have HS := Lib.hid hs0
  obtain ⟨g, c0, c1, c2, c3, hl⟩ := (h.below (Below.refl _ _).drew).cells
  obtain ⟨a, hae⟩ : ∃ a, a = J.at_ := ⟨_, rfl⟩
  obtain ⟨s, hse⟩ : ∃ s, s = J.sec := ⟨_, rfl⟩
  rw [← hae] at c1 ha ⊢
  rw [← hse] at c2 hs ⊢
  have w1 : IntKind.i64.wrap ((a : Int) + (s : Int)) = ((a + s : Nat) : Int) := by rw [IntKind.wrap_i64]; omega
  have w2 : IntKind.u64.wrap (k : Int) = (k : Int) := by rw [IntKind.wrap_u64]; omega
  have w3 : IntKind.u64.wrap (a : Int) = (a : Int) := by rw [IntKind.wrap_u64]; omega
  have w4 : IntKind.u64.wrap ((a + s : Nat) : Int) = ((a + s : Nat) : Int) := by rw [IntKind.wrap_u64]; omega
  obtain ⟨q, hq⟩ : ∃ q, q = a + s := ⟨_, rfl⟩
  rw [← hq] at w1 w4
  clear h hd hs0 hnow hae hse c3
  obtain ⟨Inv, hInv⟩ : ∃ Inv : Done → World → Prop, Inv = fun _ wI => wI = w.drew := ⟨_, rfl⟩
  have HI : Hid (∀ τ wI, Inv τ wI → wI = w.drew) := fun τ wI h => by rw [hInv] at h; exact h
  have HJ : Hid (∀ τ, Inv τ w.drew) := fun τ => by rw [hInv]
  clear hInv
  by_cases h1 : n < k
  · by_cases h2 : n < a
    · have e : outK k a s n = true := by simp [outK, h1, h2]
      rw [e]
      clear e hq
      have i1 : (n : Int) < (k : Int) := by omega
      have i2 : (n : Int) < (a : Int) := by omega
      go_enter Try.func47, Try.ntmps47
      go_upto_region 1 with fail
      try simp only [Act.put, List.setIfInBounds_toArray, List.set_cons_zero, List.set_cons_succ]
      refine wp_region_inv (by kernel_rfl) [⟨0, false, [], []⟩, ⟨1, false, [], []⟩, ⟨2, false, [], []⟩, ⟨3, false, [], []⟩, ⟨4, false, [], []⟩, ⟨5, false, [], []⟩, ⟨6, false, [], []⟩, ⟨7, false, [], []⟩, ⟨8, false, [], []⟩, ⟨9, false, [], []⟩, ⟨10, false, [], []⟩, ⟨11, false, [], []⟩, ⟨12, false, [], []⟩, ⟨13, false, [], []⟩, ⟨14, false, [], []⟩, ⟨15, false, [], []⟩, ⟨16, false, [], []⟩, ⟨17, false, [], []⟩, ⟨18, false, [], []⟩, ⟨19, false, [], []⟩, ⟨20, false, [], []⟩, ⟨21, false, [], []⟩, ⟨22, false, [], []⟩, ⟨23, false, [], []⟩, ⟨24, false, [], []⟩, ⟨25, false, [], []⟩, ⟨26, false, [], []⟩, ⟨27, false, [], []⟩, ⟨28, false, [], []⟩, ⟨29, false, [], []⟩, ⟨30, false, [], []⟩, ⟨31, false, [], []⟩] (by kernel_rfl) Inv (fun _ _ => True) (fun _ => ⟨undef, trivial⟩) (HJ.out _) ?_
      iterate 5 (apply WpI.pure; (simp only [List.getElem?_toArray, List.getElem?_cons_succ, List.getElem?_cons_zero]; rfl); (intro τ wI hA hI; have hw := HI.out _ _ hI; rw [hw]; go_simp; exact ⟨HJ.out _, Is.rfl'⟩); simp only [Act.put, List.setIfInBounds_toArray, List.set_cons_zero, List.set_cons_succ])
      (apply WpI.pure; (simp only [List.getElem?_toArray, List.getElem?_cons_succ, List.getElem?_cons_zero]; rfl); (intro τ wI hA hI; have hw := HI.out _ _ hI; rw [hw]; go_simp; refine HS.out.mono ?_; rintro e w' ⟨rfl, rfl⟩; exact ⟨_, rfl, HJ.out _, Is.rfl'⟩); simp only [Act.put, List.setIfInBounds_toArray, List.set_cons_zero, List.set_cons_succ])
      iterate 26 (apply WpI.pure; (simp only [List.getElem?_toArray, List.getElem?_cons_succ, List.getElem?_cons_zero]; rfl); (intro τ wI hA hI; have hw := HI.out _ _ hI; rw [hw]; go_simp; exact ⟨HJ.out _, Is.rfl'⟩); simp only [Act.put, List.setIfInBounds_toArray, List.set_cons_zero, List.set_cons_succ])
      refine WpI.done ?_
      intro wI hI
      have hw := HI.out _ _ hI
      rw [hw]
      clear hw hI HI HJ HS
      go_wp2_with fail
      go_ret
      exact ⟨rfl, Below.drew (Below.refl _ _)⟩
    · by_cases h3 : q ≤ n
      · have e : outK k a s n = true := by simp [outK, h1]; omega
        rw [e]
        clear e hq
        have i1 : (n : Int) < (k : Int) := by omega
        have i2 : ¬ (n : Int) < (a : Int) := by omega
        have i3 : (q : Int) ≤ (n : Int) := by omega
        go_enter Try.func47, Try.ntmps47
        go_upto_region 1 with fail
        try simp only [Act.put, List.setIfInBounds_toArray, List.set_cons_zero, List.set_cons_succ]
        refine wp_region_inv (by kernel_rfl) [⟨0, false, [], []⟩, ⟨1, false, [], []⟩, ⟨2, false, [], []⟩, ⟨3, false, [], []⟩, ⟨4, false, [], []⟩, ⟨5, false, [], []⟩, ⟨6, false, [], []⟩, ⟨7, false, [], []⟩, ⟨8, false, [], []⟩, ⟨9, false, [], []⟩, ⟨10, false, [], []⟩, ⟨11, false, [], []⟩, ⟨12, false, [], []⟩, ⟨13, false, [], []⟩, ⟨14, false, [], []⟩, ⟨15, false, [], []⟩, ⟨16, false, [], []⟩, ⟨17, false, [], []⟩, ⟨18, false, [], []⟩, ⟨19, false, [], []⟩, ⟨20, false, [], []⟩, ⟨21, false, [], []⟩, ⟨22, false, [], []⟩, ⟨23, false, [], []⟩, ⟨24, false, [], []⟩, ⟨25, false, [], []⟩, ⟨26, false, [], []⟩, ⟨27, false, [], []⟩, ⟨28, false, [], []⟩, ⟨29, false, [], []⟩, ⟨30, false, [], []⟩, ⟨31, false, [], []⟩] (by kernel_rfl) Inv (fun _ _ => True) (fun _ => ⟨undef, trivial⟩) (HJ.out _) ?_
        iterate 5 (apply WpI.pure; (simp only [List.getElem?_toArray, List.getElem?_cons_succ, List.getElem?_cons_zero]; rfl); (intro τ wI hA hI; have hw := HI.out _ _ hI; rw [hw]; go_simp; exact ⟨HJ.out _, Is.rfl'⟩); simp only [Act.put, List.setIfInBounds_toArray, List.set_cons_zero, List.set_cons_succ])
        (apply WpI.pure; (simp only [List.getElem?_toArray, List.getElem?_cons_succ, List.getElem?_cons_zero]; rfl); (intro τ wI hA hI; have hw := HI.out _ _ hI; rw [hw]; go_simp; refine HS.out.mono ?_; rintro e w' ⟨rfl, rfl⟩; exact ⟨_, rfl, HJ.out _, Is.rfl'⟩); simp only [Act.put, List.setIfInBounds_toArray, List.set_cons_zero, List.set_cons_succ])
        iterate 26 (apply WpI.pure; (simp only [List.getElem?_toArray, List.getElem?_cons_succ, List.getElem?_cons_zero]; rfl); (intro τ wI hA hI; have hw := HI.out _ _ hI; rw [hw]; go_simp; exact ⟨HJ.out _, Is.rfl'⟩); simp only [Act.put, List.setIfInBounds_toArray, List.set_cons_zero, List.set_cons_succ])
        refine WpI.done ?_
        intro wI hI
        have hw := HI.out _ _ hI
        rw [hw]
        clear hw hI HI HJ HS
        go_wp2_with fail
        go_ret
        exact ⟨rfl, Below.drew (Below.refl _ _)⟩
      · have e : outK k a s n = false := by simp [outK]; omega
        rw [e]
        clear e hq
        have i1 : (n : Int) < (k : Int) := by omega
        have i2 : ¬ (n : Int) < (a : Int) := by omega
        have i3 : ¬ (q : Int) ≤ (n : Int) := by omega
        go_enter Try.func47, Try.ntmps47
        go_upto_region 1 with fail
        try simp only [Act.put, List.setIfInBounds_toArray, List.set_cons_zero, List.set_cons_succ]
        refine wp_region_inv (by kernel_rfl) [⟨0, false, [], []⟩, ⟨1, false, [], []⟩, ⟨2, false, [], []⟩, ⟨3, false, [], []⟩, ⟨4, false, [], []⟩, ⟨5, false, [], []⟩, ⟨6, false, [], []⟩, ⟨7, false, [], []⟩, ⟨8, false, [], []⟩, ⟨9, false, [], []⟩, ⟨10, false, [], []⟩, ⟨11, false, [], []⟩, ⟨12, false, [], []⟩, ⟨13, false, [], []⟩, ⟨14, false, [], []⟩, ⟨15, false, [], []⟩, ⟨16, false, [], []⟩, ⟨17, false, [], []⟩, ⟨18, false, [], []⟩, ⟨19, false, [], []⟩, ⟨20, false, [], []⟩, ⟨21, false, [], []⟩, ⟨22, false, [], []⟩, ⟨23, false, [], []⟩, ⟨24, false, [], []⟩, ⟨25, false, [], []⟩, ⟨26, false, [], []⟩, ⟨27, false, [], []⟩, ⟨28, false, [], []⟩, ⟨29, false, [], []⟩, ⟨30, false, [], []⟩, ⟨31, false, [], []⟩] (by kernel_rfl) Inv (fun _ _ => True) (fun _ => ⟨undef, trivial⟩) (HJ.out _) ?_
        iterate 5 (apply WpI.pure; (simp only [List.getElem?_toArray, List.getElem?_cons_succ, List.getElem?_cons_zero]; rfl); (intro τ wI hA hI; have hw := HI.out _ _ hI; rw [hw]; go_simp; exact ⟨HJ.out _, Is.rfl'⟩); simp only [Act.put, List.setIfInBounds_toArray, List.set_cons_zero, List.set_cons_succ])
        (apply WpI.pure; (simp only [List.getElem?_toArray, List.getElem?_cons_succ, List.getElem?_cons_zero]; rfl); (intro τ wI hA hI; have hw := HI.out _ _ hI; rw [hw]; go_simp; refine HS.out.mono ?_; rintro e w' ⟨rfl, rfl⟩; exact ⟨_, rfl, HJ.out _, Is.rfl'⟩); simp only [Act.put, List.setIfInBounds_toArray, List.set_cons_zero, List.set_cons_succ])
        iterate 26 (apply WpI.pure; (simp only [List.getElem?_toArray, List.getElem?_cons_succ, List.getElem?_cons_zero]; rfl); (intro τ wI hA hI; have hw := HI.out _ _ hI; rw [hw]; go_simp; exact ⟨HJ.out _, Is.rfl'⟩); simp only [Act.put, List.setIfInBounds_toArray, List.set_cons_zero, List.set_cons_succ])
        refine WpI.done ?_
        intro wI hI
        have hw := HI.out _ _ hI
        rw [hw]
        clear hw hI HI HJ HS
        go_wp2_with fail
        go_ret
        exact ⟨rfl, Below.drew (Below.refl _ _)⟩
  · have e : outK k a s n = false := by simp [outK]; omega
    rw [e]
    clear e hq
    have i1 : ¬ (n : Int) < (k : Int) := by omega
    go_enter Try.func47, Try.ntmps47
    go_upto_region 1 with fail
    try simp only [Act.put, List.setIfInBounds_toArray, List.set_cons_zero, List.set_cons_succ]
    refine wp_region_inv (by kernel_rfl) [⟨0, false, [], []⟩, ⟨1, false, [], []⟩, ⟨2, false, [], []⟩, ⟨3, false, [], []⟩, ⟨4, false, [], []⟩, ⟨5, false, [], []⟩, ⟨6, false, [], []⟩, ⟨7, false, [], []⟩, ⟨8, false, [], []⟩, ⟨9, false, [], []⟩, ⟨10, false, [], []⟩, ⟨11, false, [], []⟩, ⟨12, false, [], []⟩, ⟨13, false, [], []⟩, ⟨14, false, [], []⟩, ⟨15, false, [], []⟩, ⟨16, false, [], []⟩, ⟨17, false, [], []⟩, ⟨18, false, [], []⟩, ⟨19, false, [], []⟩, ⟨20, false, [], []⟩, ⟨21, false, [], []⟩, ⟨22, false, [], []⟩, ⟨23, false, [], []⟩, ⟨24, false, [], []⟩, ⟨25, false, [], []⟩, ⟨26, false, [], []⟩, ⟨27, false, [], []⟩, ⟨28, false, [], []⟩, ⟨29, false, [], []⟩, ⟨30, false, [], []⟩, ⟨31, false, [], []⟩] (by kernel_rfl) Inv (fun _ _ => True) (fun _ => ⟨undef, trivial⟩) (HJ.out _) ?_
    iterate 5 (apply WpI.pure; (simp only [List.getElem?_toArray, List.getElem?_cons_succ, List.getElem?_cons_zero]; rfl); (intro τ wI hA hI; have hw := HI.out _ _ hI; rw [hw]; go_simp; exact ⟨HJ.out _, Is.rfl'⟩); simp only [Act.put, List.setIfInBounds_toArray, List.set_cons_zero, List.set_cons_succ])
    (apply WpI.pure; (simp only [List.getElem?_toArray, List.getElem?_cons_succ, List.getElem?_cons_zero]; rfl); (intro τ wI hA hI; have hw := HI.out _ _ hI; rw [hw]; go_simp; refine HS.out.mono ?_; rintro e w' ⟨rfl, rfl⟩; exact ⟨_, rfl, HJ.out _, Is.rfl'⟩); simp only [Act.put, List.setIfInBounds_toArray, List.set_cons_zero, List.set_cons_succ])
    iterate 26 (apply WpI.pure; (simp only [List.getElem?_toArray, List.getElem?_cons_succ, List.getElem?_cons_zero]; rfl); (intro τ wI hA hI; have hw := HI.out _ _ hI; rw [hw]; go_simp; exact ⟨HJ.out _, Is.rfl'⟩); simp only [Act.put, List.setIfInBounds_toArray, List.set_cons_zero, List.set_cons_succ])
    refine WpI.done ?_
    intro wI hI
    have hw := HI.out _ _ hI
    rw [hw]
    clear hw hI HI HJ HS
    go_wp2_with fail
    go_ret
    exact ⟨rfl, Below.drew (Below.refl _ _)⟩
end Go.Proofs.Ytjdobjcbmmdjeaa
/- Contracts of package wal: Clone, Get, Abort. -/
namespace Go.Proofs.Ytjdobjcbmmdjeaa
open Go.RowKit

theorem zero22 (w : World) : (zeroValue 22).run Try.prog w = .ok (.slice none 0 0) w := by
  have h : (Try.prog.info? 22).map (·.zero) = some (some (.slice none 0 0)) := by kernel_rfl
  obtain ⟨i, hi, hz⟩ := Option.map_eq_some_iff.1 h
  simp [zeroValue, typeInfo, hi, hz]

/-- slices.Clone -/
theorem sclone_any (A : Option Addr) (n c : Nat) (l : List UInt8) (F : Nat → Prop) (w : World) (h : Sl w F 1 (.slice A n c) n (B8 l)) (hn : n ≤ 140737488355328) :
    Calls Try.prog 46 #[.slice A n c] w fun e w' => ∃ A' c', e = .returned (.slice A' n c') ∧ w'.ownsRow 0 5 1 (.slice A' n c') n (B8 l) ∧ Below w.heap.size w w' ∧
      (∀ b, (Value.slice A' n c').ownBlock = some b → w.heap.size ≤ b) := by
  have q := fun (w : World) => Lib.run_eql_slice_nil (P := Try.prog) w 22 5 A n c 0 0 Try.underlying22
  have hA : Hid (A = none → n = 0) := by
    intro hA; subst hA
    obtain ⟨_, A, c, hv, _, hr⟩ := h
    rcases Nat.eq_zero_or_pos n with h0 | h0
    · exact h0
    · obtain ⟨ad, h1, _⟩ := hr h0
      injection hv with hv; rw [h1] at hv; cases hv
  have hl : Hid ((B8 l).length = n * 1) := h.1
  cases A with
  | none =>
    obtain rfl := hA.out rfl
    go_enter Try.func46, Try.ntmps46
    go_wp2
    go_ret
    have hx : l = [] := List.eq_nil_of_length_eq_zero (by have := hl.out; simpa [B8] using this)
    subst hx
    exact ⟨_, _, rfl, own_nil0 _ _ _, Below.refl _ _, by simp [Value.ownBlock]⟩
  | some ad =>
    go_enter Try.func46, Try.ntmps46
    go_wp2_with (at_builtin
                 refine wpList_app _ rfl (.tmp 5) (.tmp 6) 22 rfl 5 (.int .u8 0) 1 1 Try.underlying22 info5 rfl (by omega) (by omega) (.slice (some ⟨w.heap.size, 0, none⟩) 0 0) 0 [] rfl
                   (own_of_blk (Blk.new w 5 #[]) 1 0 rfl (by simp [maxLen])) F (.slice (some ad) n c) n (B8 l) rfl (h.below (by omega) ((Below.refl _ _).alloc (Nat.le_refl _) _)) (B8_one l) (by omega) ?_
                 intro A' c' w' hown hg hat hnil)
    go_ret
    simp only [Nat.zero_add, List.nil_append] at hown hat ⊢
    refine ⟨A', c', rfl, hown, ((Below.refl _ _).alloc (Nat.le_refl _) _).grown hg (by simp) (by simp [Value.ownBlock]), fun b hb => ?_⟩
    rcases hat with e | e <;> rw [e] at hb <;> simp [Value.ownBlock] at hb <;> omega

/-- what Get shows -/
def Jr.shows (J : Jr) (S : Dsk) (k : Nat) (z : Int) : List UInt8 × Int := match mget J.put z with | some b => (b, 0) | none => shown S k z
theorem get_ok (w : World) (F G : Nat → Prop) (j d k : Nat) (z : Int) (J : Jr) (S : Dsk) (h : JrAt w F j d J) (hd : DiskAt w G d S) (hk1 : 1 ≤ k) (hk : k ≤ 2048) (hnow : S.now.length = k * 256) :
    Calls Try.prog 25 #[.pointer (some ⟨j, 0, none⟩), .int .i64 z] w fun e w' => ∃ A m c, e = .returned (.tuple #[.slice A m c, .int .i64 (J.shows S k z).2]) ∧ m ≤ 256 ∧ w'.ownsRow 0 5 1 (.slice A m c) m (B8 (J.shows S k z).1) ∧
      (∀ b, (Value.slice A m c).ownBlock = some b → w.heap.size ≤ b) ∧ Below w.heap.size w w' := by
  have HN := Lib.hid h.isnt
  obtain ⟨g, D, hFj, hFg, hb, hm, hp, _⟩ := (id h : ∃ _, _)
  have c0 : w.cell? ⟨j, 0, none⟩ = some (.pointer (some ⟨d, 0, none⟩)) := by rw [hb.cell]; rfl
  have c3 : w.cell? ⟨j, 3, none⟩ = some (.map (some g)) := by rw [hb.cell]; rfl
  have hl := hb.lt
  rcases hp.get z with ⟨h1, h2⟩ | ⟨v, b, h1, h2, hv⟩
  · have hlk : (Instr.lookup 60 (.map (some g)) (.int .i64 z) true).run Try.prog w = .ok (.tuple #[.slice none 0 0, .bool false]) w := hm.lookup_none Try.underlying60 h1 (zero22 w) true
    have e : J.shows S k z = shown S k z := by simp [Jr.shows, h2]
    rw [e]
    have HR := Lib.hid (read_all w G d k z S hd hk1 hk hnow)
    clear h hb hm hp h1 h2 e hd hnow
    go_enter Try.func25, Try.ntmps25
    go_wp2_with fail
    refine HN.out.mono ?_
    rintro e w' ⟨rfl, rfl⟩
    go_wp2_with fail
    refine HR.out.mono ?_
    rintro e w' ⟨A, m, c, rfl, k1, k2, k3, k4⟩
    have HK := Lib.hid (And.intro k1 (And.intro k2 (And.intro k3 k4)))
    clear k1 k2 k3 k4
    go_wp2_with fail
    go_ret2
    exact ⟨A, m, c, rfl, HK.out⟩
  · have hlk : (Instr.lookup 60 (.map (some g)) (.int .i64 z) true).run Try.prog w = .ok (.tuple #[v, .bool true]) w := hm.lookup_some Try.underlying60 h1 true
    have e : J.shows S k z = (b, 0) := by simp [Jr.shows, h2]
    rw [e]
    obtain ⟨hbl, A, c, rfl, ho, _⟩ := hv
    have HC := Lib.hid (sclone_any A 256 c b _ w (Sl.of_own ho) (by omega))
    clear h hb hm hp h1 h2 e hd hnow ho
    go_enter Try.func25, Try.ntmps25
    go_wp2_with fail
    refine HN.out.mono ?_
    rintro e w' ⟨rfl, rfl⟩
    go_wp2_with fail
    refine HC.out.mono ?_
    rintro e w' ⟨A', c', rfl, k1, k2, k3⟩
    have HK := Lib.hid (And.intro k1 (And.intro k3 k2))
    clear k1 k2 k3
    go_wp2_with fail
    go_ret2
    exact ⟨A', 256, c', rfl, Nat.le_refl _, HK.out⟩
/-- Abort -/
theorem abort_ok (w : World) (F : Nat → Prop) (j d : Nat) (J : Jr) (h : JrAt w F j d J) :
    Calls Try.prog 29 #[.pointer (some ⟨j, 0, none⟩)] w fun e w' => e = .returned (.int .i64 0) ∧ JrAt w' F j d ⟨J.at_, J.sec, []⟩ ∧ Mod F w w' := by
  have HN := Lib.hid h.isnt
  obtain ⟨g, D, hFj, hFg, hb, hm, hp, hlt⟩ := (id h : ∃ _, _)
  have c3 : w.cell? ⟨j, 3, none⟩ = some (.map (some g)) := by rw [hb.cell]; rfl
  have hl := hb.lt
  obtain ⟨w2, hrun, hm2, hmod⟩ := hm.clear Try.underlying60 0
  have HK : Hid (JrAt w2 F j d ⟨J.at_, J.sec, []⟩ ∧ Mod F w w2) :=
    ⟨⟨g, [], hFj, hFg, hb.mod hmod (fun e => hm.ne_blk hb e.symm), hm2, trivial, fun b hb => Nat.lt_of_lt_of_le (hlt b hb) hmod.size⟩, hmod.mono (fun b _ e => by rw [e]; exact hFg)⟩
  clear h hb hm hp hlt hm2 hmod
  go_enter Try.func29, Try.ntmps29
  go_wp2_with fail
  refine HN.out.mono ?_
  rintro e w' ⟨rfl, rfl⟩
  go_wp2_with fail
  go_ret
  exact ⟨rfl, HK.out⟩
end Go.Proofs.Ytjdobjcbmmdjeaa
/- Contracts of package wal: Put. -/
namespace Go.Proofs.Ytjdobjcbmmdjeaa
open Go.RowKit

/-- what Put answers -/
def pOk (J : Jr) (k m : Nat) (z : Int) : Bool := decide (0 ≤ z) && outK k J.at_ J.sec z.toNat && decide (m = 256)
def pErr (J : Jr) (k m : Nat) (z : Int) : Int := if pOk J k m z = false then 2 else if (mget J.put z).isNone && decide (J.sec - 1 ≤ J.put.length) then 3 else 0
def pJr (J : Jr) (k m : Nat) (z : Int) (bs : List UInt8) : Jr := if pErr J k m z = 0 then ⟨J.at_, J.sec, mput J.put z bs⟩ else J

set_option maxRecDepth 100000 in
set_option maxHeartbeats 4000000 in
theorem put_ok (w : World) (F F2 G : Nat → Prop) (j d k m : Nat) (z : Int) (J : Jr) (S : Dsk) (A : Option Addr) (c : Nat) (bs : List UInt8) (h : JrAt w F j d J) (hd : DiskAt w F2 d S) (hk : k ≤ 2048) (hnow : S.now.length = k * 256) (ha : J.at_ ≤ 1000000) (hs : J.sec ≤ 1000000) (hs1 : 1 ≤ J.sec) (hpl : J.put.length ≤ 1000000)
    (hb : Sl w G 1 (.slice A m c) m (B8 bs)) (hz : z ≤ 9223372036854775807) :
    Calls Try.prog 26 #[.pointer (some ⟨j, 0, none⟩), .int .i64 z, .slice A m c] w fun e w' => e = .returned (.int .i64 (pErr J k m z)) ∧ JrAt w' (fun b => F b ∨ (w.heap.size ≤ b ∧ b < w'.heap.size)) j d (pJr J k m z bs) ∧ Mod F w w' := by
  have HN := Lib.hid h.isnt
  have same : ∀ w', Below w.heap.size w w' → JrAt w' (fun b => F b ∨ (w.heap.size ≤ b ∧ b < w'.heap.size)) j d J := by
    intro w' hb
    obtain ⟨g, D, q1, q2, q3, q4, q5, q6⟩ := h.below hb
    exact ⟨g, D, .inl q1, .inl q2, q3, q4, q5.imp (fun _ _ h => h.mono (fun _ h => .inl h)), fun b hb => hb.elim (fun hb => q6 b hb) (fun hb => hb.2)⟩
  have HSame := Lib.hid same
  clear same
  by_cases hz0 : z < 0
  · have e1 : pErr J k m z = 2 := by simp [pErr, pOk]; omega
    have e2 : pJr J k m z bs = J := by simp [pJr, e1]
    rw [e1, e2]
    clear e1 e2 h hd hb
    go_enter Try.func26, Try.ntmps26
    go_wp2_with fail
    refine HN.out.mono ?_
    rintro e w' ⟨rfl, rfl⟩
    go_wp2_with fail
    go_ret
    exact ⟨rfl, HSame.out w (Below.refl _ _), Mod.refl _ _⟩
  · obtain ⟨n, rfl⟩ : ∃ n : Nat, z = (n : Int) := ⟨z.toNat, by omega⟩
    have wn : IntKind.u64.wrap (n : Int) = (n : Int) := by rw [IntKind.wrap_u64]; omega
    have n0 : ¬ ((n : Int) < 0) := by omega
    obtain ⟨g, D, q1, q2, q3, q4, q5, q6⟩ := (id h : ∃ _, _)
    have HO := Lib.hid (outside_ok w F F2 j d k n J S h hd hk hnow ha hs)
    have HH := Lib.hid h
    have HBS := Lib.hid hb
    have HL0 : Hid (bs.length = m) := by have := hb.1; rw [B8_length, Nat.mul_one] at this; exact this
    have HQ := Lib.hid (And.intro q1 (And.intro q2 (And.intro q3 (And.intro q4 (And.intro q5 q6)))))
    have HZ := Lib.hid (And.intro hs (And.intro hs1 hpl))
    have hlj := q3.lt
    have HE : Hid (∀ (x : Bool), outK k J.at_ J.sec n = x → pOk J k m (n : Int) = (x && decide (m = 256))) := fun x hx => by simp [pOk, hx]
    clear h hd hb q1 q2 q3 q4 q5 q6 hz hz0 ha
    obtain ⟨ob, hob⟩ : ∃ ob, ob = outK k J.at_ J.sec n := ⟨_, rfl⟩
    rw [← hob] at HO
    have HOB := Lib.hid hob.symm
    clear hob
    go_enter Try.func26, Try.ntmps26
    go_wp2_with fail
    refine HN.out.mono ?_
    rintro e w' ⟨rfl, rfl⟩
    go_wp2_with fail
    refine HO.out.mono ?_
    rintro e w2 ⟨rfl, hb2⟩
    have HB2 := Lib.hid hb2
    clear hb2 HO
    cases ob
    · have e1 : Hid (pErr J k m (n : Int) = 2) := by
        have e : pErr J k m (n : Int) = 2 := by simp [pErr, HE.out _ HOB.out]
        exact e
      have e2 : Hid (pJr J k m (n : Int) bs = J) := by
        have e : pJr J k m (n : Int) bs = J := by simp [pJr, e1.out]
        exact e
      go_wp2_with fail
      go_ret
      refine ⟨by rw [e1.out]; rfl, by rw [e2.out]; exact HSame.out w2 HB2.out, Mod.of_below HB2.out⟩
    · by_cases hm : m = 256
      · subst hm
        have hj2 : JrAt w2 F j d J := HH.out.below HB2.out
        have hlj2 : j < w2.heap.size := by have := HB2.out.size; omega
        have HM : Hid (MapAt KI w2.drew g D) := HQ.out.2.2.2.1.below (w' := w2.drew) HB2.out.drew
        have c3 : w2.cell? ⟨j, 3, none⟩ = some (.map (some g)) := by
          have := (HQ.out.2.2.1.below' HB2.out).cell 3
          exact this
        have HB : Hid (w2.drew.cell? ⟨j, 3, none⟩ = some (.map (some g)) ∧ j < w2.drew.heap.size ∧ True) := ⟨c3, hlj2, trivial⟩
        have HJ : Hid (F j ∧ F g ∧ Blk w2.drew j 62 [.pointer (some ⟨d, 0, none⟩), .int .i64 (J.at_ : Int), .int .i64 (J.sec : Int), .map (some g)] ∧ PutRel w2.drew F D J.put ∧ ∀ b, F b → b < w.heap.size) := by
          obtain ⟨r1, r2, r3, r4, r5, r6⟩ := HQ.out
          exact ⟨r1, r2, r3.below' (w' := w2.drew) HB2.out.drew, r5.imp (fun v b hv => hv.mod (G := fun _ => False) (w' := w2.drew) (Mod.of_below HB2.out.drew) (fun _ _ h => h)), r6⟩
        have HL : Hid (bs.length = 256) := HL0
        have HMo := Lib.hid (hj2.most HZ.out.1 HZ.out.2.1)
        have hm2 : MapAt KI w2 g D := HM.out
        have hlen : (Builtin.len_ #[60] 3 #[.map (some g)]).run Try.prog w2 = .ok (.int .i64 (D.length : Int)) w2 := hm2.len Try.underlying60 3
        have hDl : D.length = J.put.length := by have := congrArg List.length HJ.out.2.2.2.1.keys; simpa using this
        have hpo : pOk J k 256 (n : Int) = true := by have := HE.out _ HOB.out; simpa using this
        rcases HJ.out.2.2.2.1.get (n : Int) with ⟨h1, h2⟩ | ⟨v, b, h1, h2, _⟩
        · have hlk : (Instr.lookup 60 (.map (some g)) (.int .i64 (n : Int)) true).run Try.prog w2 = .ok (.tuple #[.slice none 0 0, .bool false]) w2 := hm2.lookup_none Try.underlying60 h1 (zero22 w2) true
          by_cases hfull : J.sec - 1 ≤ J.put.length
          · have e1 : Hid (pErr J k 256 (n : Int) = 3) := by
              have e : pErr J k 256 (n : Int) = 3 := by simp [pErr, hpo, h2, hfull]
              exact e
            have e2 : Hid (pJr J k 256 (n : Int) bs = J) := by
              have e : pJr J k 256 (n : Int) bs = J := by simp [pJr, e1.out]
              exact e
            obtain ⟨dl, hdl⟩ : ∃ dl, dl = D.length := ⟨_, rfl⟩
            rw [← hdl] at hlen hDl
            obtain ⟨s1, hse⟩ : ∃ s1, s1 = J.sec - 1 := ⟨_, rfl⟩
            rw [← hse] at HMo hfull
            have hge : (s1 : Int) ≤ (dl : Int) := by omega
            have hgd : decide (s1 ≤ dl) = true := by simp; omega
            clear hse hdl hDl h1 h2 hm2 hj2 hpo hfull
            go_wp2_with fail
            refine HMo.out.mono ?_
            rintro e w' ⟨rfl, rfl⟩
            go_wp2_with fail
            go_ret
            refine ⟨by rw [e1.out]; rfl, by rw [e2.out]; exact HSame.out w2 HB2.out, Mod.of_below HB2.out⟩
          · have e1 : Hid (pErr J k 256 (n : Int) = 0) := by
              have e : pErr J k 256 (n : Int) = 0 := by simp [pErr, hpo, h2]; omega
              exact e
            have e2 : pJr J k 256 (n : Int) bs = ⟨J.at_, J.sec, mput J.put (n : Int) bs⟩ := by simp [pJr, e1.out]
            have E1 := Lib.hid e1.out
            have E2 := Lib.hid e2
            obtain ⟨dl, hdl⟩ : ∃ dl, dl = D.length := ⟨_, rfl⟩
            rw [← hdl] at hlen hDl
            obtain ⟨s1, hse⟩ : ∃ s1, s1 = J.sec - 1 := ⟨_, rfl⟩
            rw [← hse] at HMo hfull
            have hge : ¬ (s1 : Int) ≤ (dl : Int) := by omega
            have hgd : decide (s1 ≤ dl) = false := by simp; omega
            clear hse hdl hDl h1 h2 hm2 hj2 hpo hfull e1 e2
            go_wp2_with fail
            refine HMo.out.mono ?_
            rintro e w' ⟨rfl, rfl⟩
            go_upto_region 8 with fail
            try simp only [Act.put, List.setIfInBounds_toArray, List.set_cons_zero, List.set_cons_succ]
            obtain ⟨Inv, hInv⟩ : ∃ Inv : Done → World → Prop, Inv = Chain2 6 7 (fun wI => wI = w2.drew) (fun x wI => ∃ A' c', x = .slice A' 256 c' ∧ wI.ownsRow 0 5 1 (.slice A' 256 c') 256 (B8 bs) ∧ (∀ b, (Value.slice A' 256 c').ownBlock = some b → w2.drew.heap.size ≤ b) ∧ Below w2.drew.heap.size w2.drew wI)
              (fun x y wI => JrAt wI (fun b => F b ∨ (w.heap.size ≤ b ∧ b < wI.heap.size)) j d ⟨J.at_, J.sec, mput J.put (n : Int) bs⟩ ∧ Mod F w2.drew wI) := ⟨_, rfl⟩
            have HI := Lib.hid hInv
            have HC : Hid (∀ τ wI, Inv τ wI → τ 7 = none → wI.cell? ⟨j, 3, none⟩ = some (.map (some g)) ∧ j < wI.heap.size) := by
              intro τ wI h h7
              rw [hInv] at h
              rcases h.upto1 h7 with rfl | ⟨x, _, _, _, _, _, hb⟩
              · exact ⟨HB.out.1, HB.out.2.1⟩
              · exact ⟨(hb.cell (p := ⟨j, 3, none⟩) HB.out.2.1).trans HB.out.1, by have h1 := hb.size; have h2 : j < w2.drew.heap.size := HB.out.2.1; omega⟩
            have H00 : Hid (Inv Done.none w2.drew) := by rw [hInv]; exact Chain2.start rfl
            clear hInv
            refine wp_region_inv (by kernel_rfl) [⟨0, false, [], [7]⟩, ⟨1, false, [], [7]⟩, ⟨2, false, [], [7]⟩, ⟨3, false, [], [7]⟩, ⟨4, false, [], [7]⟩, ⟨5, false, [], [6, 7]⟩, ⟨6, true, [], [7]⟩, ⟨7, true, [6], []⟩] (by kernel_rfl) Inv (fun _ _ => True) (fun _ => ⟨undef, trivial⟩) H00.out ?_
            iterate 3 (apply WpI.pure; (simp only [List.getElem?_toArray, List.getElem?_cons_succ, List.getElem?_cons_zero]; rfl); (intro τ wI hA hI; go_simp; exact ⟨hI, Is.rfl'⟩); simp only [Act.put, List.setIfInBounds_toArray, List.set_cons_zero, List.set_cons_succ])
            (apply WpI.pure; (simp only [List.getElem?_toArray, List.getElem?_cons_succ, List.getElem?_cons_zero]; rfl); (intro τ wI hA hI; obtain ⟨hc, hc2⟩ := HC.out τ wI hI (hA.2 7 (by decide)); go_simp; exact ⟨hI, Is.rfl'⟩); simp only [Act.put, List.setIfInBounds_toArray, List.set_cons_zero, List.set_cons_succ])
            iterate 2 (apply WpI.pure; (simp only [List.getElem?_toArray, List.getElem?_cons_succ, List.getElem?_cons_zero]; rfl); (intro τ wI hA hI; go_simp; exact ⟨hI, Is.rfl'⟩); simp only [Act.put, List.setIfInBounds_toArray, List.set_cons_zero, List.set_cons_succ])
            apply WpI.effect; (simp only [List.getElem?_toArray, List.getElem?_cons_succ, List.getElem?_cons_zero]; rfl)
            · intro τ wI hA hn hI
              have h0 := hI
              rw [HI.out] at h0
              have h7 : τ 7 = none := hA.2 7 (by decide)
              have h0 := h0.at0 hn h7
              subst h0
              have H7 := Lib.hid h7
              clear hA hn hI h7
              go_simp
              refine (sclone_any A 256 c bs G w2.drew (HBS.out.below (w' := w2.drew) (by omega) HB2.out.drew) (by omega)).mono ?_
              rintro e w' ⟨A', c', rfl, k1, k2, k3⟩
              refine ⟨_, rfl, ?_⟩
              rw [HI.out]
              exact Chain2.put1 H7.out (by decide) ⟨A', c', rfl, k1, k3, k2⟩
            intro v6 hv6
            clear hv6
            simp only [Act.put, List.setIfInBounds_toArray, List.set_cons_zero, List.set_cons_succ]
            apply WpI.effect; (simp only [List.getElem?_toArray, List.getElem?_cons_succ, List.getElem?_cons_zero]; rfl)
            · intro τ wI hA hn hI
              have h0 := hI
              rw [HI.out] at h0
              have h6 : τ 6 = some v6 := hA.1 6 (by decide)
              obtain ⟨A', c', rfl, k1, k2, k3⟩ := h0.at1 h6 hn
              have hmI := HM.out.below (w' := wI) k3
              obtain ⟨w4, hrun, hm4, hmod⟩ := hmI.put Try.underlying60 (n : Int) (.slice A' 256 c')
              have hrun : (Instr.mapUpdate 60 (.map (some g)) (.int .i64 (n : Int)) (.slice A' 256 c')).run Try.prog wI = .ok () w4 := hrun
              have HK := Lib.hid (And.intro h6 (And.intro k1 (And.intro k2 (And.intro k3 (And.intro hm4 hmod)))))
              clear k1 k2 k3 hmI hm4 hmod h0 hI h6 hn hA
              go_simp
              rw [HI.out]
              obtain ⟨h6, k1, k2, k3, hm4, hmod⟩ := HK.out
              refine Chain2.put2 h6 (by decide) ?_
              obtain ⟨q1, q2, q3, q4, q5⟩ := HJ.out
              have s0 : w.heap.size ≤ w2.drew.heap.size := HB2.out.size
              have s1 := k3.size
              have s2 := hmod.size
              have hgo : ∀ q, F q → q < w.heap.size := q5
              have hb4 : Below w2.drew.heap.size w2.drew wI := k3
              refine ⟨⟨g, _, .inl q1, .inl q2, (q3.below' (w' := wI) hb4).mod hmod (fun e => HM.out.ne_blk q3 e.symm), hm4, ?_, fun b hb => ?_⟩, (Mod.of_below k3).trans (hmod.mono (fun b _ e => by rw [e]; exact q2)) (fun _ _ h => h)⟩
              · refine PutRel.put ⟨HL.out, A', c', rfl, own_mod k1 hmod (fun b hb e => (HM.out.below (w' := wI) k3).ne_own k1 (by rw [hb, e])), fun q hq => .inr ⟨by have := k2 q hq; omega, by have := own_lt' k1 hq; omega⟩⟩ (q4.imp fun v b hv => ?_)
                refine SecV.mono (F := F) ?_ (fun q hq => .inl hq)
                obtain ⟨e1, A5, c5, rfl, e2, e3⟩ := hv
                refine ⟨e1, A5, c5, rfl, own_mod (own_below (w := w2.drew) e2 k3) hmod (fun q hq e => ?_), e3⟩
                exact HM.out.ne_own (w := w2.drew) e2 (by rw [hq, e])
              · rcases hb with hb | hb
                · have := hgo b hb; omega
                · exact hb.2
            intro v7 hv7
            clear hv7
            refine WpI.done ?_
            intro wI hI
            rw [HI.out] at hI
            have HE := Lib.hid (hI.end_ (by decide))
            clear hI HI HC H00
            go_wp2_with fail
            go_ret
            refine ⟨by rw [E1.out]; rfl, by rw [E2.out]; exact HE.out.1, ?_⟩
            exact (Mod.of_below (HB2.out.drew)).trans HE.out.2 (fun _ _ h => h)
        · have hlk : (Instr.lookup 60 (.map (some g)) (.int .i64 (n : Int)) true).run Try.prog w2 = .ok (.tuple #[v, .bool true]) w2 := hm2.lookup_some Try.underlying60 h1 true
          have e1 : pErr J k 256 (n : Int) = 0 := by simp [pErr, hpo, h2]
          have e2 : pJr J k 256 (n : Int) bs = ⟨J.at_, J.sec, mput J.put (n : Int) bs⟩ := by simp [pJr, e1]
          have E1 := Lib.hid e1
          have E2 := Lib.hid e2
          clear h1 h2 hm2 hj2 hpo e1 e2 hlen hDl
          go_upto_region 8 with fail
          try simp only [Act.put, List.setIfInBounds_toArray, List.set_cons_zero, List.set_cons_succ]
          obtain ⟨Inv, hInv⟩ : ∃ Inv : Done → World → Prop, Inv = Chain2 6 7 (fun wI => wI = w2.drew) (fun x wI => ∃ A' c', x = .slice A' 256 c' ∧ wI.ownsRow 0 5 1 (.slice A' 256 c') 256 (B8 bs) ∧ (∀ b, (Value.slice A' 256 c').ownBlock = some b → w2.drew.heap.size ≤ b) ∧ Below w2.drew.heap.size w2.drew wI)
            (fun x y wI => JrAt wI (fun b => F b ∨ (w.heap.size ≤ b ∧ b < wI.heap.size)) j d ⟨J.at_, J.sec, mput J.put (n : Int) bs⟩ ∧ Mod F w2.drew wI) := ⟨_, rfl⟩
          have HI := Lib.hid hInv
          have HC : Hid (∀ τ wI, Inv τ wI → τ 7 = none → wI.cell? ⟨j, 3, none⟩ = some (.map (some g)) ∧ j < wI.heap.size) := by
            intro τ wI h h7
            rw [hInv] at h
            rcases h.upto1 h7 with rfl | ⟨x, _, _, _, _, _, hb⟩
            · exact ⟨HB.out.1, HB.out.2.1⟩
            · exact ⟨(hb.cell (p := ⟨j, 3, none⟩) HB.out.2.1).trans HB.out.1, by have h1 := hb.size; have h2 : j < w2.drew.heap.size := HB.out.2.1; omega⟩
          have H00 : Hid (Inv Done.none w2.drew) := by rw [hInv]; exact Chain2.start rfl
          clear hInv
          refine wp_region_inv (by kernel_rfl) [⟨0, false, [], [7]⟩, ⟨1, false, [], [7]⟩, ⟨2, false, [], [7]⟩, ⟨3, false, [], [7]⟩, ⟨4, false, [], [7]⟩, ⟨5, false, [], [6, 7]⟩, ⟨6, true, [], [7]⟩, ⟨7, true, [6], []⟩] (by kernel_rfl) Inv (fun _ _ => True) (fun _ => ⟨undef, trivial⟩) H00.out ?_
          iterate 3 (apply WpI.pure; (simp only [List.getElem?_toArray, List.getElem?_cons_succ, List.getElem?_cons_zero]; rfl); (intro τ wI hA hI; go_simp; exact ⟨hI, Is.rfl'⟩); simp only [Act.put, List.setIfInBounds_toArray, List.set_cons_zero, List.set_cons_succ])
          (apply WpI.pure; (simp only [List.getElem?_toArray, List.getElem?_cons_succ, List.getElem?_cons_zero]; rfl); (intro τ wI hA hI; obtain ⟨hc, hc2⟩ := HC.out τ wI hI (hA.2 7 (by decide)); go_simp; exact ⟨hI, Is.rfl'⟩); simp only [Act.put, List.setIfInBounds_toArray, List.set_cons_zero, List.set_cons_succ])
          iterate 2 (apply WpI.pure; (simp only [List.getElem?_toArray, List.getElem?_cons_succ, List.getElem?_cons_zero]; rfl); (intro τ wI hA hI; go_simp; exact ⟨hI, Is.rfl'⟩); simp only [Act.put, List.setIfInBounds_toArray, List.set_cons_zero, List.set_cons_succ])
          apply WpI.effect; (simp only [List.getElem?_toArray, List.getElem?_cons_succ, List.getElem?_cons_zero]; rfl)
          · intro τ wI hA hn hI
            have h0 := hI
            rw [HI.out] at h0
            have h7 : τ 7 = none := hA.2 7 (by decide)
            have h0 := h0.at0 hn h7
            subst h0
            have H7 := Lib.hid h7
            clear hA hn hI h7
            go_simp
            refine (sclone_any A 256 c bs G w2.drew (HBS.out.below (w' := w2.drew) (by omega) HB2.out.drew) (by omega)).mono ?_
            rintro e w' ⟨A', c', rfl, k1, k2, k3⟩
            refine ⟨_, rfl, ?_⟩
            rw [HI.out]
            exact Chain2.put1 H7.out (by decide) ⟨A', c', rfl, k1, k3, k2⟩
          intro v6 hv6
          clear hv6
          simp only [Act.put, List.setIfInBounds_toArray, List.set_cons_zero, List.set_cons_succ]
          apply WpI.effect; (simp only [List.getElem?_toArray, List.getElem?_cons_succ, List.getElem?_cons_zero]; rfl)
          · intro τ wI hA hn hI
            have h0 := hI
            rw [HI.out] at h0
            have h6 : τ 6 = some v6 := hA.1 6 (by decide)
            obtain ⟨A', c', rfl, k1, k2, k3⟩ := h0.at1 h6 hn
            have hmI := HM.out.below (w' := wI) k3
            obtain ⟨w4, hrun, hm4, hmod⟩ := hmI.put Try.underlying60 (n : Int) (.slice A' 256 c')
            have hrun : (Instr.mapUpdate 60 (.map (some g)) (.int .i64 (n : Int)) (.slice A' 256 c')).run Try.prog wI = .ok () w4 := hrun
            have HK := Lib.hid (And.intro h6 (And.intro k1 (And.intro k2 (And.intro k3 (And.intro hm4 hmod)))))
            clear k1 k2 k3 hmI hm4 hmod h0 hI h6 hn hA
            go_simp
            rw [HI.out]
            obtain ⟨h6, k1, k2, k3, hm4, hmod⟩ := HK.out
            refine Chain2.put2 h6 (by decide) ?_
            obtain ⟨q1, q2, q3, q4, q5⟩ := HJ.out
            have s0 : w.heap.size ≤ w2.drew.heap.size := HB2.out.size
            have s1 := k3.size
            have s2 := hmod.size
            have hgo : ∀ q, F q → q < w.heap.size := q5
            have hb4 : Below w2.drew.heap.size w2.drew wI := k3
            refine ⟨⟨g, _, .inl q1, .inl q2, (q3.below' (w' := wI) hb4).mod hmod (fun e => HM.out.ne_blk q3 e.symm), hm4, ?_, fun b hb => ?_⟩, (Mod.of_below k3).trans (hmod.mono (fun b _ e => by rw [e]; exact q2)) (fun _ _ h => h)⟩
            · refine PutRel.put ⟨HL.out, A', c', rfl, own_mod k1 hmod (fun b hb e => (HM.out.below (w' := wI) k3).ne_own k1 (by rw [hb, e])), fun q hq => .inr ⟨by have := k2 q hq; omega, by have := own_lt' k1 hq; omega⟩⟩ (q4.imp fun v b hv => ?_)
              refine SecV.mono (F := F) ?_ (fun q hq => .inl hq)
              obtain ⟨e1, A5, c5, rfl, e2, e3⟩ := hv
              refine ⟨e1, A5, c5, rfl, own_mod (own_below (w := w2.drew) e2 k3) hmod (fun q hq e => ?_), e3⟩
              exact HM.out.ne_own (w := w2.drew) e2 (by rw [hq, e])
            · rcases hb with hb | hb
              · have := hgo b hb; omega
              · exact hb.2
          intro v7 hv7
          clear hv7
          refine WpI.done ?_
          intro wI hI
          rw [HI.out] at hI
          have HE := Lib.hid (hI.end_ (by decide))
          clear hI HI HC H00
          go_wp2_with fail
          go_ret
          refine ⟨by rw [E1.out]; rfl, by rw [E2.out]; exact HE.out.1, ?_⟩
          exact (Mod.of_below (HB2.out.drew)).trans HE.out.2 (fun _ _ h => h)
      · have hme : ((m : Int) == 256) = false := by simp; omega
        have hmn : ((m : Int) != 256) = true := by simp; omega
        have hcd : (decide ((n : Int) < 0) || ((m : Int) != 256)) = true := by rw [hmn]; simp
        have e1 : Hid (pErr J k m (n : Int) = 2) := by
          have e : pErr J k m (n : Int) = 2 := by simp [pErr, HE.out _ HOB.out, hm]
          exact e
        have e2 : Hid (pJr J k m (n : Int) bs = J) := by
          have e : pJr J k m (n : Int) bs = J := by simp [pJr, e1.out]
          exact e
        clear hm
        go_wp2_with fail
        go_ret
        refine ⟨by rw [e1.out]; rfl, by rw [e2.out]; exact HSame.out w2 HB2.out, Mod.of_below HB2.out⟩
end Go.Proofs.Ytjdobjcbmmdjeaa
/- Contracts of package bits: Number, Bytes. -/
namespace Go.Proofs.Ytjdobjcbmmdjeaa
open Go.RowKit

/-- the number of bytes, the highest first -/
def numOf (l : List UInt8) : Nat := l.foldl (fun v x => v * 256 + x.toNat) 0
theorem numOf_snoc (l : List UInt8) (x : UInt8) : numOf (l ++ [x]) = numOf l * 256 + x.toNat := by simp [numOf]
theorem numOf_lt (l : List UInt8) : numOf l < 256 ^ l.length := by
  suffices ∀ (r : List UInt8), numOf r.reverse < 256 ^ r.length by
    have := this l.reverse
    simpa using this
  intro r
  induction r with
  | nil => simp [numOf]
  | cons x r ih =>
    rw [List.reverse_cons, numOf_snoc, List.length_cons, Nat.pow_succ]
    have := x.toNat_lt
    omega

theorem or256 (v : Nat) (x : UInt8) (h : v < 72057594037927936) : bits .or .u64 ((v : Int) * 256) (IntKind.u64.wrap (x.toNat : Int)) = ((v * 256 + x.toNat : Nat) : Int) := by
  have hx := x.toNat_lt
  have e1 : IntKind.u64.wrap (x.toNat : Int) = (x.toNat : Int) := by rw [IntKind.wrap_u64]; omega
  have e2 : bits .or .u64 ((v : Int) * 256) (x.toNat : Int) = IntKind.u64.wrap (((((v : Int) * 256) % 18446744073709551616).toNat ||| ((x.toNat : Int) % 18446744073709551616).toNat : Nat) : Int) := by
    unfold bits; rfl
  have e3 : (((v : Int) * 256) % 18446744073709551616).toNat = v * 256 := by omega
  have e4 : ((x.toNat : Int) % 18446744073709551616).toNat = x.toNat := by omega
  have e5 : v * 256 ||| x.toNat = v * 256 + x.toNat := by
    have := Nat.shiftLeft_add_eq_or_of_lt (show x.toNat < 2 ^ 8 by omega) v
    rw [Nat.shiftLeft_eq] at this
    exact this.symm
  rw [e1, e2, e3, e4, e5, IntKind.wrap_u64]
  omega
set_option maxRecDepth 100000 in
theorem number_ok (w : World) (F : Nat → Prop) (A : Option Addr) (m c : Nat) (l : List UInt8) (h : Sl w F 1 (.slice A m c) m (B8 l)) (h1 : 1 ≤ m) (h8 : m ≤ 8) :
    Calls Try.prog 59 #[.slice A m c] w fun e w' => e = .returned (.tuple #[.int .u64 (numOf l), .int .i64 0]) ∧ w = w' := by
  have hl : l.length = m := by have := h.1; rw [B8_length, Nat.mul_one] at this; exact this
  obtain ⟨_, A', c', hv, hc, hr⟩ := h
  simp only [Value.slice.injEq] at hv
  obtain ⟨rfl, _, rfl⟩ := hv
  obtain ⟨⟨b, o, s⟩, rfl, _, hx⟩ := hr (by omega)
  have hs : s = none := by
    have := hx 0 (.int .u8 (l[0].toNat : Int)) (by simp only [B8, List.getElem?_map, List.getElem?_eq_getElem (show 0 < l.length by omega)]; rfl)
    simpa [Addr.add] using World.cell?_spot this
  subst hs
  have HC : Hid (∀ i x, l[i]? = some x → w.cell? ⟨b, o + i, none⟩ = some (.int .u8 (x.toNat : Int))) := by
    intro i x hi
    have := hx i (.int .u8 (x.toNat : Int)) (by simp only [B8, List.getElem?_map, hi]; rfl)
    rwa [add_lit0] at this
  clear hr hx
  have m1 : ¬ (m : Int) < 1 := by omega
  have m2 : ¬ (8 < (m : Int)) := by omega
  go_enter Try.func59, Try.ntmps59
  go_wp2_with fail
  go_loopg [4, 17] m (fun kq v i wr => ∃ j : Nat, i = .int .i64 j ∧ j ≤ m ∧ kq = m - j ∧ v = .int .u64 (numOf (l.take j)) ∧ wr = w)
  case atStart => exact ⟨0, rfl, by omega, rfl, rfl, rfl⟩
  case round =>
    obtain ⟨j, rfl, hj, rfl, rfl, rfl⟩ := hrel
    by_cases hlt : j < m
    · obtain ⟨x, hx⟩ : ∃ x, l[j]? = some x := ⟨_, List.getElem?_eq_getElem (by omega)⟩
      have hcell := HC.out j x hx
      have hbl : b < wr.heap.size := World.block_lt_of_cell? _ _ hcell
      have hji : (j : Int) < (m : Int) := by omega
      have hnx : numOf (l.take (j + 1)) = numOf (l.take j) * 256 + x.toNat := by
        rw [List.take_add_one, hx]
        exact numOf_snoc _ _
      have hlt2 : numOf (l.take j) < 72057594037927936 := by
        have h1 := numOf_lt (l.take j)
        rw [List.length_take] at h1
        have h2 : 256 ^ (min j l.length) ≤ 256 ^ 7 := Nat.pow_le_pow_right (by omega) (by omega)
        have h3 : (256 : Nat) ^ 7 = 72057594037927936 := by decide
        omega
      obtain ⟨v, hv⟩ : ∃ v, v = numOf (l.take j) := ⟨_, rfl⟩
      rw [← hv] at hnx hlt2 ⊢
      have HNX := Lib.hid hnx
      clear hv hx hnx
      have hor := or256 v x hlt2
      go_wp2_with fail
      go_roundg (m - (j + 1))
      case measure => omega
      case rel => exact ⟨j + 1, by go_num, by omega, rfl, by rw [HNX.out]; simp, rfl⟩
    · obtain rfl : j = m := by omega
      have e : l.take j = l := List.take_of_length_le (by omega)
      rw [e]
      go_wp2_with fail
      go_ret2
      exact ⟨rfl, rfl⟩

/-- a number's lowest 8 bytes, the highest first -/
def bytesOf (v : Nat) : List UInt8 := (List.range 8).map fun i => UInt8.ofNat (v / 256 ^ (7 - i))
theorem bytesOf_length (v : Nat) : (bytesOf v).length = 8 := by simp [bytesOf]
/-- the bytes behind j steps: the last j are there -/
def bytesAt (v j : Nat) : List UInt8 := (List.range 8).map fun i => if 8 - j ≤ i then UInt8.ofNat (v / 256 ^ (7 - i)) else 0
theorem bytesAt_zero (v : Nat) : bytesAt v 0 = List.replicate 8 0 := by
  unfold bytesAt
  rfl
theorem bytesAt_all (v : Nat) : bytesAt v 8 = bytesOf v := by
  unfold bytesAt bytesOf
  simp
theorem bytesAt_set (v j : Nat) (hj : j < 8) : (bytesAt v j).set (7 - j) (UInt8.ofNat (v / 256 ^ j)) = bytesAt v (j + 1) := by
  apply List.ext_getElem?
  intro i
  simp only [bytesAt, List.getElem?_set, List.getElem?_map, List.length_map, List.length_range]
  by_cases hi : i < 8
  · rw [List.getElem?_range hi]
    by_cases e : 7 - j = i
    · subst e
      rw [if_pos rfl, if_pos (by omega)]
      simp only [Option.map_some]
      rw [if_pos (by omega), show 7 - (7 - j) = j from by omega]
    · rw [if_neg e]
      simp only [Option.map_some]
      by_cases h1 : 8 - j ≤ i
      · rw [if_pos h1, if_pos (by omega)]
      · rw [if_neg h1, if_neg (by omega)]
  · rw [if_neg (by omega), List.getElem?_eq_none (by simp; omega)]
    simp
set_option maxRecDepth 100000 in
theorem bytes_ok (w : World) (v : Nat) :
    Calls Try.prog 48 #[.int .u64 v, .int .i64 8] w fun e w' => ∃ A, e = .returned (.tuple #[.slice A 8 8, .int .i64 0]) ∧ w'.ownsRow 0 5 1 (.slice A 8 8) 8 (B8 (bytesOf v)) ∧ (∀ b, (Value.slice A 8 8).ownBlock = some b → w.heap.size ≤ b) ∧ Below w.heap.size w w' := by
  obtain ⟨i, hi1, hz, hsize, hby⟩ := info_parts info5
  obtain ⟨w2, hrun, r1, r2⟩ := run_make_full (P := Try.prog) w 0 22 5 i (.int .u8 0) 1 Try.underlying22 hi1 hz hsize .i64 .i64 8 (by rw [hby]; omega) (by simp only [maxLen]; omega) (Nat.zero_le _)
  have hrun : (Instr.makeSlice 22 (.int .i64 8) (.int .i64 8)).run Try.prog w = .ok (.slice (some ⟨w.heap.size, 0, none⟩) 8 8) w2 := hrun
  rw [zeros_u8] at r1
  have hl := own_lt' r1 rfl
  have HR := Lib.hid (And.intro r1 r2)
  clear r1 r2 hz hsize hby hi1
  go_enter Try.func48, Try.ntmps48
  go_wp2_with fail
  go_loopg [17] 8 (fun kq i wr => ∃ j : Nat, i = .int .i64 j ∧ j ≤ 8 ∧ kq = 8 - j ∧ Hid (wr.ownsRow 0 5 1 (.slice (some ⟨w.heap.size, 0, none⟩) 8 8) 8 (B8 (bytesAt v j))) ∧ Hid (Below w.heap.size w wr))
  case atStart => exact ⟨0, rfl, by omega, rfl, by rw [bytesAt_zero]; exact HR.out.1, (Below.refl _ _).grown HR.out.2 (Nat.le_refl _) (by simp)⟩
  case round =>
    obtain ⟨j, rfl, hj, rfl, ho, hb⟩ := hrel
    by_cases hlt : j < 8
    · have w1 : IntKind.i64.wrap (7 - (j : Int)) = ((7 - j : Nat) : Int) := by rw [IntKind.wrap_i64]; omega
      have hcs := ho.out.cells rfl (7 - j) (.int .u8 (((bytesAt v j)[7 - j]'(by simp [bytesAt]; omega)).toNat : Int)) (by simp only [B8, List.getElem?_map, List.getElem?_eq_getElem (show 7 - j < (bytesAt v j).length by simp [bytesAt]; omega)]; rfl)
      rw [add_lit0, Nat.zero_add] at hcs
      have hfz := ho.out.frozenAt (7 - j)
      have hsz : w.heap.size < wr.heap.size := own_lt' ho.out rfl
      have hbv : (((v : Int) / 2 ^ (8 * j)) % 256) = ((UInt8.ofNat (v / 256 ^ j)).toNat : Int) := by
        rw [UInt8.toNat_ofNat', show (2 : Int) ^ (8 * j) = ((256 ^ j : Nat) : Int) from by rw [Int.natCast_pow, Int.pow_mul]; rfl]
        rfl
      have hst := Lib.hid (ho.out.stored (7 - j) (.int .u8 ((UInt8.ofNat (v / 256 ^ j)).toNat : Int))).1
      have hbl := Lib.hid (hb.out.setCell (p := ⟨w.heap.size, 7 - j, none⟩) (Nat.le_refl _) (.int .u8 ((UInt8.ofNat (v / 256 ^ j)).toNat : Int)))
      have HBV := Lib.hid hbv
      clear hbv
      go_wp2_with fail
      rw [HBV.out]
      go_roundg (8 - (j + 1))
      case measure => omega
      case rel =>
        refine ⟨j + 1, by go_num, by omega, rfl, ?_, hbl⟩
        have h := hst.out
        have e : (B8 (bytesAt v j)).set (7 - j) (.int .u8 ((UInt8.ofNat (v / 256 ^ j)).toNat : Int)) = B8 (bytesAt v (j + 1)) := by
          rw [← bytesAt_set v j hlt]; simp only [B8, List.map_set]
        rw [e] at h
        exact Lib.hid h
    · obtain rfl : j = 8 := by omega
      go_wp2_with fail
      go_ret2
      exact ⟨_, rfl, by rw [← bytesAt_all]; exact ho.out, fun b hb => by simp [Value.ownBlock] at hb; omega, hb.out⟩
end Go.Proofs.Ytjdobjcbmmdjeaa
