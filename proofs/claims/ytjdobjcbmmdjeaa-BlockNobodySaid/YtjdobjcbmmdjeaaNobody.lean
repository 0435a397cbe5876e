import Derived.Test.YtjdobjcbmmdjeaaB3
import Derived.Test.YtjdobjcbmmdjeaaRg
namespace Go.Proofs.Ytjdobjcbmmdjeaa
open Go.RowKit

/-- a disk that no call made: nil, or a struct of zeros -/
def NoDisk (w : World) (P : Value) : Prop := P = .pointer none ∨ ∃ z, P = .pointer (some ⟨z, 0, none⟩) ∧ Blk w z 29 [.slice none 0 0, .slice none 0 0, .slice none 0 0, .slice none 0 0]
theorem NoDisk.below {w w' : World} {P : Value} (h : NoDisk w P) (hb : Below w.heap.size w w') : NoDisk w' P := by
  rcases h with h | ⟨z, h, hz⟩
  · exact .inl h
  · exact .inr ⟨z, h, hz.below' hb⟩
theorem NoDisk.sectors {w : World} {P : Value} (h : NoDisk w P) : Calls Try.prog 13 #[P] w fun e w' => e = .returned (.int .i64 0) ∧ w = w' := by
  rcases h with rfl | ⟨z, rfl, hz⟩
  · exact sectors_nil w
  · exact sectors_any z none 0 0 w (by rw [hz.cell]; rfl) (by omega)
theorem NoDisk.events {w : World} {P : Value} (h : NoDisk w P) : Calls Try.prog 17 #[P] w fun e w' => e = .returned (.int .i64 0) ∧ w = w' := by
  rcases h with rfl | ⟨z, rfl, hz⟩
  · exact events_nil w
  · exact events_any z none 0 0 w (by rw [hz.cell]; rfl)

set_option maxRecDepth 100000 in
set_option maxHeartbeats 2000000 in
theorem blockNobody_walk (k n : Int) (A : Option Addr) (m c : Nat) (fill : UInt8) (odd : Bool) (A2 : Option Addr) (n2 c2 : Nat) (l : List UInt8) (w : World) (h : Sl w (fun b => b < w.heap.size) 1 (.slice A m c) m (B8 l)) (hm : m ≤ 140737488351232) :
    Calls Try.prog 3 #[actV k n (.slice A m c) fill odd (.slice A2 n2 c2)] w fun e w' => e = .returned (.bool true) ∧ Below w.heap.size w w' := by
  unfold actV
  have H := Lib.hid h
  clear h
  go_enter Try.func3, Try.ntmps3
  go_wp2_with fail
  go_loopg [13] 2 (fun kq i wr => ∃ j : Nat, i = .int .i64 j ∧ j ≤ 2 ∧ kq = 2 - j ∧ Hid (Below w.heap.size w wr) ∧ Hid (Blk wr w.heap.size 25 [.int .i64 k, .int .i64 n, .slice A m c, .int .u8 (fill.toNat : Int), .bool odd, .slice A2 n2 c2]) ∧
     Hid (Blk wr (w.heap.size + 1) 29 [.slice none 0 0, .slice none 0 0, .slice none 0 0, .slice none 0 0]) ∧ Hid (Blk wr (w.heap.size + 2) 26 [.pointer none, .pointer (some ⟨w.heap.size + 1, 0, none⟩)]))
  case atStart => 
    have b1 : Blk (w.alloc (.cells #[.int .i64 k, .int .i64 n, .slice A m c, .int .u8 (fill.toNat : Int), .bool odd, .slice A2 n2 c2] 25)) w.heap.size 25 _ := Blk.new w 25 _
    have b2 := Blk.new (w.alloc (.cells #[.int .i64 k, .int .i64 n, .slice A m c, .int .u8 (fill.toNat : Int), .bool odd, .slice A2 n2 c2] 25)) 29 #[.slice none 0 0, .slice none 0 0, .slice none 0 0, .slice none 0 0]
    have b3 := Blk.new ((w.alloc (.cells #[.int .i64 k, .int .i64 n, .slice A m c, .int .u8 (fill.toNat : Int), .bool odd, .slice A2 n2 c2] 25)).alloc (.cells #[.slice none 0 0, .slice none 0 0, .slice none 0 0, .slice none 0 0] 29)) 26 #[.pointer none, .pointer (some ⟨w.heap.size + 1, 0, none⟩)]
    refine ⟨0, rfl, by omega, by omega, ?_, (b1.alloc _).alloc _, ?_, ?_⟩
    · exact (((Below.refl _ _).alloc (Nat.le_refl _) _).alloc (by simp) _).alloc (by simp; omega) _
    · refine Lib.hid ?_; simpa using b2.alloc _
    · refine Lib.hid ?_; simpa using b3
  case round =>
    obtain ⟨j, rfl, hj, rfl, hb, hx, hz, ha⟩ := hrel
    have hsz : w.heap.size + 2 < wr.heap.size := Blk.lt ha.out
    have c1 : wr.cell? ⟨w.heap.size, 1, none⟩ = some (.int .i64 n) := by rw [Blk.cell hx.out]; rfl
    have c5 : wr.cell? ⟨w.heap.size, 5, none⟩ = some (.slice A2 n2 c2) := by rw [Blk.cell hx.out]; rfl
    by_cases hlt : j < 2
    · obtain ⟨P, hP, hN⟩ : ∃ P, wr.cell? ⟨w.heap.size + 2, j, none⟩ = some P ∧ NoDisk wr P := by
        obtain rfl | rfl : j = 0 ∨ j = 1 := by omega
        · exact ⟨.pointer none, by rw [Blk.cell ha.out]; rfl, .inl rfl⟩
        · exact ⟨_, by rw [Blk.cell ha.out]; rfl, .inr ⟨_, rfl, hz.out⟩⟩
      have HN := Lib.hid hN; clear hN
      go_wp2_with fail
      refine (read_bad P _ 1 _ (part_none P _ _ HN.out.sectors)).mono ?_
      rintro e w1 ⟨rfl, hb1⟩
      have hx1 := Lib.hid (Blk.below' hx.out hb1)
      have hz1 := Lib.hid (Blk.below' hz.out hb1)
      have ha1 := Lib.hid (Blk.below' ha.out hb1)
      have HN1 := Lib.hid (HN.out.below hb1)
      have HB1 := Lib.hid (hb.out.trans (hb1.mono (by have := hb.out.size; omega)))
      have c11 : w1.cell? ⟨w.heap.size, 1, none⟩ = some (.int .i64 n) := by rw [Blk.cell hx1.out]; rfl
      have c15 : w1.cell? ⟨w.heap.size, 5, none⟩ = some (.slice A2 n2 c2) := by rw [Blk.cell hx1.out]; rfl
      have hsz1 : w.heap.size + 2 < w1.heap.size := Blk.lt ha1.out
      clear hb1 c1 c5 hP hx hz ha HN hb hsz
      go_wp2_with fail
      refine (after_none P _ _ _ HN1.out.sectors).mono ?_
      rintro e w' ⟨rfl, rfl⟩
      have c10 : w1.cell? ⟨w.heap.size, 0, none⟩ = some (.int .i64 k) := by rw [Blk.cell hx1.out]; rfl
      have c12 : w1.cell? ⟨w.heap.size, 2, none⟩ = some (.slice A m c) := by rw [Blk.cell hx1.out]; rfl
      have c13 : w1.cell? ⟨w.heap.size, 3, none⟩ = some (.int .u8 (fill.toNat : Int)) := by rw [Blk.cell hx1.out]; rfl
      have c14 : w1.cell? ⟨w.heap.size, 4, none⟩ = some (.bool odd) := by rw [Blk.cell hx1.out]; rfl
      go_upto_region 6 with fail
      try simp only [Act.put, List.setIfInBounds_toArray, List.set_cons_zero, List.set_cons_succ]
      go_cut [69] (fun s69 w3 => s69 = .bool false ∧ Hid (Below w1.heap.size w1 w3))
      case first =>
        obtain ⟨Inv, hInv⟩ : ∃ Inv : List Value → World → Prop, Inv = fun us wI => NoDisk wI P ∧ Blk wI w.heap.size 25 [.int .i64 k, .int .i64 n, .slice A m c, .int .u8 (fill.toNat : Int), .bool odd, .slice A2 n2 c2] ∧ Below w1.heap.size w1 wI ∧ (∀ v ∈ us, ∃ A m c, v = .slice A m c) := ⟨_, rfl⟩
        obtain ⟨J, hJ1, hJ2⟩ := now_of Inv
        have i0 : ∀ wI, Now J wI → wI.cell? ⟨w.heap.size, 0, none⟩ = some (.int .i64 k) := by intro wI h; obtain ⟨us, h⟩ := hJ2.out wI h; rw [hInv] at h; rw [h.2.1.cell]; rfl
        have i1 : ∀ wI, Now J wI → wI.cell? ⟨w.heap.size, 1, none⟩ = some (.int .i64 n) := by intro wI h; obtain ⟨us, h⟩ := hJ2.out wI h; rw [hInv] at h; rw [h.2.1.cell]; rfl
        have i2 : ∀ wI, Now J wI → wI.cell? ⟨w.heap.size, 2, none⟩ = some (.slice A m c) := by intro wI h; obtain ⟨us, h⟩ := hJ2.out wI h; rw [hInv] at h; rw [h.2.1.cell]; rfl
        have i3 : ∀ wI, Now J wI → wI.cell? ⟨w.heap.size, 3, none⟩ = some (.int .u8 (fill.toNat : Int)) := by intro wI h; obtain ⟨us, h⟩ := hJ2.out wI h; rw [hInv] at h; rw [h.2.1.cell]; rfl
        have i4 : ∀ wI, Now J wI → wI.cell? ⟨w.heap.size, 4, none⟩ = some (.bool odd) := by intro wI h; obtain ⟨us, h⟩ := hJ2.out wI h; rw [hInv] at h; rw [h.2.1.cell]; rfl
        have i5 : ∀ wI, Now J wI → wI.cell? ⟨w.heap.size, 5, none⟩ = some (.slice A2 n2 c2) := by intro wI h; obtain ⟨us, h⟩ := hJ2.out wI h; rw [hInv] at h; rw [h.2.1.cell]; rfl
        have iN : Hid (∀ us wI, Inv us wI → NoDisk wI P) := by intro us wI h; rw [hInv] at h; exact h.1
        have iB : Hid (∀ us wI, Inv us wI → Below w1.heap.size w1 wI) := by intro us wI h; rw [hInv] at h; exact h.2.2.1
        have iS : Hid (∀ v wI, Inv [v] wI → ∃ A m c, v = .slice A m c) := by intro v wI h; rw [hInv] at h; exact h.2.2.2 v (by simp)
        have iE : Hid (∀ wI w3 v, Inv [] wI → NewBytes wI w3 v (secOf l fill odd) → Inv ([] ++ [v]) w3) := by
          intro wI w3 v h h3
          rw [hInv] at h ⊢
          obtain ⟨⟨A3, c3, rfl⟩, _, _, hb3⟩ := h3
          exact ⟨h.1.below hb3, h.2.1.below' hb3, h.2.2.1.trans (hb3.mono h.2.2.1.size), by simp⟩
        have iL : Hid (∀ wI, Inv [] wI → Sl wI (fun b => b < w.heap.size) 1 (.slice A m c) m (B8 l)) := by
          intro wI h
          rw [hInv] at h
          exact (H.out.below (by omega) HB1.out).below (by omega) h.2.2.1
        refine wp_region_inv (by kernel_rfl) [⟨0, false, 0⟩, ⟨1, false, 0⟩, ⟨2, false, 0⟩, ⟨3, false, 0⟩, ⟨4, false, 0⟩, ⟨5, false, 0⟩, ⟨6, false, 0⟩, ⟨7, false, 0⟩, ⟨8, false, 0⟩, ⟨9, false, 0⟩, ⟨10, false, 0⟩, ⟨11, false, 0⟩, ⟨12, false, 0⟩, ⟨13, false, 1⟩, ⟨14, false, 1⟩, ⟨15, false, 1⟩, ⟨16, false, 0⟩, ⟨17, true, 0⟩, ⟨18, false, 1⟩, ⟨19, false, 1⟩, ⟨20, false, 1⟩, ⟨21, false, 1⟩, ⟨22, false, 1⟩, ⟨23, false, 1⟩, ⟨24, false, 1⟩, ⟨25, false, 1⟩, ⟨26, false, 1⟩, ⟨27, false, 1⟩, ⟨28, false, 1⟩, ⟨29, false, 1⟩, ⟨30, false, 1⟩, ⟨31, false, 1⟩, ⟨32, false, 1⟩, ⟨33, false, 1⟩, ⟨34, false, 1⟩, ⟨35, false, 1⟩, ⟨36, false, 1⟩, ⟨37, false, 1⟩, ⟨38, false, 1⟩] (by kernel_rfl) Inv ?_ ?_
        · rw [hInv]; exact ⟨HN1.out, hx1.out, (Below.refl _ _).drew, by simp⟩
        clear hInv hx1 hz1 ha1 HN1 HB1 H
        repeat (apply WpI.later; (simp only [List.getElem?_toArray, List.getElem?_cons_succ, List.getElem?_cons_zero]; rfl); (intro us hu wI hI; have hw := hJ1.out _ _ hI; go_simp; exact ⟨hI, Is.rfl'⟩); simp only [Act.put, List.setIfInBounds_toArray, List.set_cons_zero, List.set_cons_succ])
        apply WpI.later; (simp only [List.getElem?_toArray, List.getElem?_cons_succ, List.getElem?_cons_zero]; rfl)
        · intro us hu wI hI; have hw := hJ1.out _ _ hI
          go_simp
          refine ((iN.out us wI hI).sectors).mono ?_
          rintro e w' ⟨rfl, rfl⟩
          exact ⟨_, rfl, hI, Is.rfl'⟩
        simp only [Act.put, List.setIfInBounds_toArray, List.set_cons_zero, List.set_cons_succ]
        repeat (apply WpI.later; (simp only [List.getElem?_toArray, List.getElem?_cons_succ, List.getElem?_cons_zero]; rfl); (intro us hu wI hI; have hw := hJ1.out _ _ hI; go_simp; exact ⟨hI, Is.rfl'⟩); simp only [Act.put, List.setIfInBounds_toArray, List.set_cons_zero, List.set_cons_succ])
        apply WpI.effect; (simp only [List.getElem?_toArray, List.getElem?_cons_succ, List.getElem?_cons_zero]; rfl)
        · intro wI hI; have hw := hJ1.out _ _ hI
          go_simp
          refine (sector_any k n A m c fill odd A2 n2 c2 l _ _ (iL.out wI hI) hm).mono ?_
          rintro e w3 ⟨v, rfl, hv⟩
          exact ⟨_, rfl, iE.out wI w3 v hI hv⟩
        intro v hv
        obtain ⟨wI, hI⟩ := hv
        have hq := iS.out v wI hI
        obtain ⟨A3, m3, c3, hv⟩ := hq
        rw [hv]
        clear hv hI
        simp only [Act.put, List.setIfInBounds_toArray, List.set_cons_zero, List.set_cons_succ]
        apply WpI.later; (simp only [List.getElem?_toArray, List.getElem?_cons_succ, List.getElem?_cons_zero]; rfl)
        · intro us hu wI hI; have hw := hJ1.out _ _ hI
          go_simp
          refine (write_bad P n 1 _ _ (part_none P n _ (iN.out _ wI hI).sectors) (by omega)).mono ?_
          rintro e w' ⟨rfl, rfl⟩
          exact ⟨_, rfl, hI, Is.rfl'⟩
        simp only [Act.put, List.setIfInBounds_toArray, List.set_cons_zero, List.set_cons_succ]
        repeat (apply WpI.later; (simp only [List.getElem?_toArray, List.getElem?_cons_succ, List.getElem?_cons_zero]; rfl); (intro us hu wI hI; have hw := hJ1.out _ _ hI; go_simp; exact ⟨hI, Is.rfl'⟩); simp only [Act.put, List.setIfInBounds_toArray, List.set_cons_zero, List.set_cons_succ])
        apply WpI.later; (simp only [List.getElem?_toArray, List.getElem?_cons_succ, List.getElem?_cons_zero]; rfl)
        · intro us hu wI hI; have hw := hJ1.out _ _ hI
          go_simp
          refine (flush_none P _ (iN.out _ wI hI).sectors).mono ?_
          rintro e w' ⟨rfl, rfl⟩
          exact ⟨_, rfl, hI, Is.rfl'⟩
        simp only [Act.put, List.setIfInBounds_toArray, List.set_cons_zero, List.set_cons_succ]
        repeat (apply WpI.later; (simp only [List.getElem?_toArray, List.getElem?_cons_succ, List.getElem?_cons_zero]; rfl); (intro us hu wI hI; have hw := hJ1.out _ _ hI; go_simp; exact ⟨hI, Is.rfl'⟩); simp only [Act.put, List.setIfInBounds_toArray, List.set_cons_zero, List.set_cons_succ])
        apply WpI.later; (simp only [List.getElem?_toArray, List.getElem?_cons_succ, List.getElem?_cons_zero]; rfl)
        · intro us hu wI hI; have hw := hJ1.out _ _ hI
          go_simp
          refine ((iN.out _ wI hI).events).mono ?_
          rintro e w' ⟨rfl, rfl⟩
          exact ⟨_, rfl, hI, Is.rfl'⟩
        simp only [Act.put, List.setIfInBounds_toArray, List.set_cons_zero, List.set_cons_succ]
        repeat (apply WpI.later; (simp only [List.getElem?_toArray, List.getElem?_cons_succ, List.getElem?_cons_zero]; rfl); (intro us hu wI hI; have hw := hJ1.out _ _ hI; go_simp; exact ⟨hI, Is.rfl'⟩); simp only [Act.put, List.setIfInBounds_toArray, List.set_cons_zero, List.set_cons_succ])
        refine WpI.done ?_
        intro wI hI
        have hb := iB.out _ wI hI
        go_wp2_with fail
        go_meet
        exact ⟨rfl, hb⟩
      case rest =>
        obtain ⟨rfl, hb3⟩ := hcut
        have hx3 := Lib.hid (Blk.below' hx1.out hb3.out)
        have hz3 := Lib.hid (Blk.below' hz1.out hb3.out)
        have ha3 := Lib.hid (Blk.below' ha1.out hb3.out)
        have HB3 := Lib.hid (HB1.out.trans (hb3.out.mono (by have := HB1.out.size; omega)))
        go_wp2_with fail
        go_roundg (2 - (j + 1))
        case rel => exact ⟨j + 1, by go_num, by omega, rfl, HB3, hx3, hz3, ha3⟩
        case measure => omega
    · go_wp2
      go_ret
      exact ⟨rfl, hb.out⟩
end Go.Proofs.Ytjdobjcbmmdjeaa
