import Derived.Test.YtjdobjcbmmdjeaaW2
namespace Go.Proofs.Ytjdobjcbmmdjeaa
open Go.RowKit

set_option maxRecDepth 100000 in
set_option maxHeartbeats 4000000 in
theorem walNobody_walk (k n back : Int) (A : Option Addr) (m c : Nat) (fill : UInt8) (A2 : Option Addr) (n2 c2 : Nat) (l : List UInt8) (w : World) (h : Sl w (fun b => b < w.heap.size) 1 (.slice A m c) m (B8 l)) (hm : m ≤ 140737488351232) :
    Calls Try.prog 7 #[wactV k n back (.slice A m c) fill (.slice A2 n2 c2)] w fun e w' => e = .returned (.bool true) ∧ Below w.heap.size w w' := by
  unfold wactV
  have H := Lib.hid h
  clear h
  go_enter Try.func7, Try.ntmps7
  go_wp2_with fail
  go_loopg [15] 2 (fun kq i wr => ∃ j : Nat, i = .int .i64 j ∧ j ≤ 2 ∧ kq = 2 - j ∧ Hid (Below w.heap.size w wr) ∧ Hid (Blk wr w.heap.size 58 [.int .i64 k, .int .i64 n, .int .i64 back, .slice A m c, .int .u8 (fill.toNat : Int), .slice A2 n2 c2]) ∧ Hid (Blk wr (w.heap.size + 1) 62 [.pointer none, .int .i64 0, .int .i64 0, .map none]) ∧ Hid (Blk wr (w.heap.size + 2) 59 [.pointer none, .pointer (some ⟨w.heap.size + 1, 0, none⟩)]))
  case atStart =>
    have b1 := Blk.new w 58 #[.int .i64 k, .int .i64 n, .int .i64 back, .slice A m c, .int .u8 (fill.toNat : Int), .slice A2 n2 c2]
    have b2 := Blk.new (w.alloc (.cells #[.int .i64 k, .int .i64 n, .int .i64 back, .slice A m c, .int .u8 (fill.toNat : Int), .slice A2 n2 c2] 58)) 62 #[.pointer none, .int .i64 0, .int .i64 0, .map none]
    have b3 := Blk.new ((w.alloc (.cells #[.int .i64 k, .int .i64 n, .int .i64 back, .slice A m c, .int .u8 (fill.toNat : Int), .slice A2 n2 c2] 58)).alloc (.cells #[.pointer none, .int .i64 0, .int .i64 0, .map none] 62)) 59 #[.pointer none, .pointer (some ⟨w.heap.size + 1, 0, none⟩)]
    refine ⟨0, rfl, by omega, by omega, ?_, (b1.alloc _).alloc _, ?_, ?_⟩
    · exact (((Below.refl _ _).alloc (Nat.le_refl _) _).alloc (by simp) _).alloc (by simp; omega) _
    · refine Lib.hid ?_; simp only [World.size_alloc] at b2; exact b2.alloc _
    · refine Lib.hid ?_; simp only [World.size_alloc] at b3; exact b3
  case round =>
    obtain ⟨j, rfl, hj, rfl, hb, hx, hz, ha⟩ := hrel
    by_cases hlt : j < 2
    · obtain ⟨P, hP, hPz⟩ : ∃ P : Value, wr.cell? ⟨w.heap.size + 2, j, none⟩ = some P ∧ (P = .pointer none ∨ P = .pointer (some ⟨w.heap.size + 1, 0, none⟩)) := by
        obtain rfl | rfl : j = 0 ∨ j = 1 := by omega
        · exact ⟨.pointer none, by rw [Blk.cell ha.out]; rfl, .inl rfl⟩
        · exact ⟨_, by rw [Blk.cell ha.out]; rfl, .inr rfl⟩
      have HNJ : Hid (∀ wx, Blk wx (w.heap.size + 1) 62 [.pointer none, .int .i64 0, .int .i64 0, .map none] → NoJ wx P) := by
        intro wx hzx
        rcases hPz with h | h
        · exact .inl h
        · exact .inr ⟨_, h, by rw [hzx.cell]; rfl, hzx.lt⟩
      clear hPz
      have hl2 : w.heap.size + 2 < wr.heap.size := Blk.lt ha.out
      have c1 : wr.cell? ⟨w.heap.size, 1, none⟩ = some (.int .i64 n) := by rw [Blk.cell hx.out]; rfl
      go_wp2_with fail
      refine (get_none P n wr (HNJ.out wr hz.out)).mono ?_
      rintro e w' ⟨rfl, rfl⟩
      go_upto_region 5 with fail
      try simp only [Act.put, List.setIfInBounds_toArray, List.set_cons_zero, List.set_cons_succ]
      obtain ⟨Inv, hInv⟩ : ∃ Inv : Done → World → Prop, Inv = fun _ wI => Below w.heap.size w wI ∧ Blk wI w.heap.size 58 [.int .i64 k, .int .i64 n, .int .i64 back, .slice A m c, .int .u8 (fill.toNat : Int), .slice A2 n2 c2] ∧ Blk wI (w.heap.size + 1) 62 [.pointer none, .int .i64 0, .int .i64 0, .map none] ∧ Blk wI (w.heap.size + 2) 59 [.pointer none, .pointer (some ⟨w.heap.size + 1, 0, none⟩)] := ⟨_, rfl⟩
      obtain ⟨J, hJ1, hJ2⟩ := now_of Inv
      have hN : Hid (∀ wI, Now J wI → NoJ wI P) := by intro wI h; obtain ⟨τ, h⟩ := hJ2.out wI h; rw [hInv] at h; exact HNJ.out _ h.2.2.1
      have j0 : ∀ wI, Now J wI → wI.cell? ⟨w.heap.size, 0, none⟩ = some (.int .i64 k) := by intro wI h; obtain ⟨τ, h⟩ := hJ2.out wI h; rw [hInv] at h; rw [h.2.1.cell]; rfl
      have j1 : ∀ wI, Now J wI → wI.cell? ⟨w.heap.size, 1, none⟩ = some (.int .i64 n) := by intro wI h; obtain ⟨τ, h⟩ := hJ2.out wI h; rw [hInv] at h; rw [h.2.1.cell]; rfl
      have j2 : ∀ wI, Now J wI → wI.cell? ⟨w.heap.size, 2, none⟩ = some (.int .i64 back) := by intro wI h; obtain ⟨τ, h⟩ := hJ2.out wI h; rw [hInv] at h; rw [h.2.1.cell]; rfl
      have j3 : ∀ wI, Now J wI → wI.cell? ⟨w.heap.size, 3, none⟩ = some (.slice A m c) := by intro wI h; obtain ⟨τ, h⟩ := hJ2.out wI h; rw [hInv] at h; rw [h.2.1.cell]; rfl
      have j4 : ∀ wI, Now J wI → wI.cell? ⟨w.heap.size, 4, none⟩ = some (.int .u8 (fill.toNat : Int)) := by intro wI h; obtain ⟨τ, h⟩ := hJ2.out wI h; rw [hInv] at h; rw [h.2.1.cell]; rfl
      have j5 : ∀ wI, Now J wI → wI.cell? ⟨w.heap.size, 5, none⟩ = some (.slice A2 n2 c2) := by intro wI h; obtain ⟨τ, h⟩ := hJ2.out wI h; rw [hInv] at h; rw [h.2.1.cell]; rfl
      have HI := Lib.hid hInv
      have H0 : Hid (Inv Done.none wr.drew) := by
        rw [hInv]
        exact ⟨hb.out.drew, hx.out, hz.out, ha.out⟩
      clear hInv hb hx hz ha c1 hP
      refine wp_region_inv (by kernel_rfl) [⟨0, false, [], [12]⟩, ⟨1, false, [], [12]⟩, ⟨2, false, [], [12]⟩, ⟨3, false, [], [12]⟩, ⟨4, false, [], [12]⟩, ⟨5, false, [], [12]⟩, ⟨6, false, [], [12]⟩, ⟨7, false, [], [12]⟩, ⟨8, false, [], []⟩, ⟨9, false, [], []⟩, ⟨10, false, [], []⟩, ⟨11, false, [], [12]⟩, ⟨12, true, [], []⟩, ⟨13, false, [12], []⟩, ⟨14, false, [12], []⟩, ⟨15, false, [12], []⟩, ⟨16, false, [12], []⟩, ⟨17, false, [12], []⟩, ⟨18, false, [12], []⟩, ⟨19, false, [12], []⟩, ⟨20, false, [12], []⟩, ⟨21, false, [12], []⟩, ⟨22, false, [12], []⟩, ⟨23, false, [12], []⟩, ⟨24, false, [12], []⟩, ⟨25, false, [12], []⟩, ⟨26, false, [12], []⟩, ⟨27, false, [12], []⟩, ⟨28, false, [12], []⟩, ⟨29, false, [12], []⟩, ⟨30, false, [12], []⟩, ⟨31, false, [12], []⟩, ⟨32, false, [12], []⟩, ⟨33, false, [12], []⟩, ⟨34, false, [12], []⟩, ⟨35, false, [12], []⟩, ⟨36, false, [12], []⟩] (by kernel_rfl) Inv (fun _ _ => True) (fun _ => ⟨undef, trivial⟩) H0.out ?_
      iterate 12 (apply WpI.pure; (simp only [List.getElem?_toArray, List.getElem?_cons_succ, List.getElem?_cons_zero]; rfl); (intro τ wI hA hI; have hw := hJ1.out _ _ hI; go_simp; exact ⟨hI, Is.rfl'⟩); simp only [Act.put, List.setIfInBounds_toArray, List.set_cons_zero, List.set_cons_succ])
      apply WpI.effect; (simp only [List.getElem?_toArray, List.getElem?_cons_succ, List.getElem?_cons_zero]; rfl)
      · intro τ wI hA hn hI
        have hw := hJ1.out _ _ hI
        have hI2 := hI
        rw [HI.out] at hI2
        obtain ⟨k1, k2, k3, k4⟩ := hI2
        go_simp
        refine (wsector_any k n back A m c fill A2 n2 c2 l _ wI (H.out.below (by omega) (k1)) hm).mono ?_
        rintro e w' ⟨v, rfl, _, _, _, hb4⟩
        refine ⟨v, rfl, ?_⟩
        rw [HI.out]
        exact ⟨k1.trans (hb4.mono k1.size), k2.below' hb4, k3.below' hb4, k4.below' hb4⟩
      intro v hv
      clear hv
      simp only [Act.put, List.setIfInBounds_toArray, List.set_cons_zero, List.set_cons_succ]
      (apply WpI.pure; (simp only [List.getElem?_toArray, List.getElem?_cons_succ, List.getElem?_cons_zero]; rfl); (intro τ wI hA hI; have hw := hJ1.out _ _ hI; go_simp; refine (put_none P n _ _ (hN.out _ hw)).mono ?_; rintro e w' ⟨rfl, rfl⟩; exact ⟨_, rfl, hI, Is.rfl'⟩); simp only [Act.put, List.setIfInBounds_toArray, List.set_cons_zero, List.set_cons_succ])
      iterate 4 (apply WpI.pure; (simp only [List.getElem?_toArray, List.getElem?_cons_succ, List.getElem?_cons_zero]; rfl); (intro τ wI hA hI; have hw := hJ1.out _ _ hI; go_simp; exact ⟨hI, Is.rfl'⟩); simp only [Act.put, List.setIfInBounds_toArray, List.set_cons_zero, List.set_cons_succ])
      (apply WpI.pure; (simp only [List.getElem?_toArray, List.getElem?_cons_succ, List.getElem?_cons_zero]; rfl); (intro τ wI hA hI; have hw := hJ1.out _ _ hI; go_simp; refine (commit_none P _ (hN.out _ hw)).mono ?_; rintro e w' ⟨rfl, rfl⟩; exact ⟨_, rfl, hI, Is.rfl'⟩); simp only [Act.put, List.setIfInBounds_toArray, List.set_cons_zero, List.set_cons_succ])
      iterate 4 (apply WpI.pure; (simp only [List.getElem?_toArray, List.getElem?_cons_succ, List.getElem?_cons_zero]; rfl); (intro τ wI hA hI; have hw := hJ1.out _ _ hI; go_simp; exact ⟨hI, Is.rfl'⟩); simp only [Act.put, List.setIfInBounds_toArray, List.set_cons_zero, List.set_cons_succ])
      (apply WpI.pure; (simp only [List.getElem?_toArray, List.getElem?_cons_succ, List.getElem?_cons_zero]; rfl); (intro τ wI hA hI; have hw := hJ1.out _ _ hI; go_simp; refine (abort_none P _ (hN.out _ hw)).mono ?_; rintro e w' ⟨rfl, rfl⟩; exact ⟨_, rfl, hI, Is.rfl'⟩); simp only [Act.put, List.setIfInBounds_toArray, List.set_cons_zero, List.set_cons_succ])
      iterate 4 (apply WpI.pure; (simp only [List.getElem?_toArray, List.getElem?_cons_succ, List.getElem?_cons_zero]; rfl); (intro τ wI hA hI; have hw := hJ1.out _ _ hI; go_simp; exact ⟨hI, Is.rfl'⟩); simp only [Act.put, List.setIfInBounds_toArray, List.set_cons_zero, List.set_cons_succ])
      (apply WpI.pure; (simp only [List.getElem?_toArray, List.getElem?_cons_succ, List.getElem?_cons_zero]; rfl); (intro τ wI hA hI; have hw := hJ1.out _ _ hI; go_simp; refine (pending_none P _ (hN.out _ hw)).mono ?_; rintro e w' ⟨rfl, rfl⟩; exact ⟨_, rfl, hI, Is.rfl'⟩); simp only [Act.put, List.setIfInBounds_toArray, List.set_cons_zero, List.set_cons_succ])
      iterate 5 (apply WpI.pure; (simp only [List.getElem?_toArray, List.getElem?_cons_succ, List.getElem?_cons_zero]; rfl); (intro τ wI hA hI; have hw := hJ1.out _ _ hI; go_simp; exact ⟨hI, Is.rfl'⟩); simp only [Act.put, List.setIfInBounds_toArray, List.set_cons_zero, List.set_cons_succ])
      (apply WpI.pure; (simp only [List.getElem?_toArray, List.getElem?_cons_succ, List.getElem?_cons_zero]; rfl); (intro τ wI hA hI; have hw := hJ1.out _ _ hI; go_simp; refine (most_none P _ (hN.out _ hw)).mono ?_; rintro e w' ⟨rfl, rfl⟩; exact ⟨_, rfl, hI, Is.rfl'⟩); simp only [Act.put, List.setIfInBounds_toArray, List.set_cons_zero, List.set_cons_succ])
      iterate 2 (apply WpI.pure; (simp only [List.getElem?_toArray, List.getElem?_cons_succ, List.getElem?_cons_zero]; rfl); (intro τ wI hA hI; have hw := hJ1.out _ _ hI; go_simp; exact ⟨hI, Is.rfl'⟩); simp only [Act.put, List.setIfInBounds_toArray, List.set_cons_zero, List.set_cons_succ])
      refine WpI.done ?_
      intro wI hI
      rw [HI.out] at hI
      obtain ⟨k1, k2, k3, k4⟩ := hI
      have K4 := Lib.hid (And.intro k1 (And.intro k2 (And.intro k3 k4)))
      clear k1 k2 k3 k4
      go_wp2_with fail
      go_roundg (2 - (j + 1))
      case measure => omega
      case rel => exact ⟨j + 1, by go_num, by omega, rfl, K4.out.1, K4.out.2.1, K4.out.2.2.1, K4.out.2.2.2⟩
    · clear hx hz ha
      go_wp2_with fail
      refine (open_none _ 0 2 wr (sectors_nil wr)).mono ?_
      rintro e w' ⟨rfl, rfl⟩
      go_wp2_with fail
      have hd := Blk.new wr 29 #[.slice none 0 0, .slice none 0 0, .slice none 0 0, .slice none 0 0]
      refine (open_none _ 0 2 _ (sectors_any wr.heap.size none 0 0 _ (by rw [hd.cell]; rfl) (by omega))).mono ?_
      rintro e w' ⟨rfl, rfl⟩
      clear hd
      go_wp2_with fail
      go_ret
      exact ⟨rfl, hb.out.alloc (by have := hb.out.size; omega) _⟩
end Go.Proofs.Ytjdobjcbmmdjeaa
