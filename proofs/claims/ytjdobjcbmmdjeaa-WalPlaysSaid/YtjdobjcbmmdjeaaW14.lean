/- Contracts of package wal: a header, whether it stands. -/
import Derived.Test.YtjdobjcbmmdjeaaW13
namespace Go.Proofs.Ytjdobjcbmmdjeaa
open Go.RowKit

def hcnt (l : List UInt8) : Nat := numOf ((l.drop 8).take 8)
def hnum (l : List UInt8) (i : Nat) : Nat := numOf ((l.drop (16 + 8 * i)).take 8)
def hnums (l : List UInt8) (q : Nat) : List Int := (List.range q).map fun i => (hnum l i : Int)
theorem hnums_length (l : List UInt8) (q : Nat) : (hnums l q).length = q := by simp [hnums]
theorem hnums_snoc (l : List UInt8) (q : Nat) : hnums l (q + 1) = hnums l q ++ [(hnum l q : Int)] := by simp [hnums, List.range_succ]
theorem hnums_get (l : List UInt8) {q i : Nat} (h : i < q) : (hnums l q)[i]? = some (hnum l i : Int) := by simp [hnums, h]
/-- a header stands -/
structure Std (k at_ sec : Nat) (l : List UInt8) : Prop where
  mag : l.take 8 = magic
  one : 1 ≤ hcnt l
  most : hcnt l ≤ sec - 1
  out : ∀ i, i < hcnt l → outK k at_ sec (hnum l i) = true
  rise : ∀ i, i + 1 < hcnt l → hnum l i < hnum l (i + 1)

set_option maxRecDepth 100000 in
set_option maxHeartbeats 800000 in
theorem stands_ok (w : World) (F FJ : Nat → Prop) (j d k : Nat) (J : Jr) (S : Dsk) (A : Option Addr) (c : Nat) (l : List UInt8) (hJ : JrAt w FJ j d J) (hd : DiskAt w F d S) (hk : k ≤ 2048) (hnow : S.now.length = k * 256) (ha : J.at_ ≤ 1000000) (hs1 : 2 ≤ J.sec) (hs : J.sec ≤ 31)
    (h : w.ownsRow 0 5 1 (.slice A 256 c) 256 (B8 l)) :
    Calls Try.prog 51 #[.pointer (some ⟨j, 0, none⟩), .slice A 256 c] w fun e w' => Below w.heap.size w w' ∧
      ((¬ Std k J.at_ J.sec l ∧ e = .returned (.tuple #[.slice none 0 0, .bool false])) ∨
       (Std k J.at_ J.sec l ∧ ∃ A c, e = .returned (.tuple #[.slice A (hcnt l) c, .bool true]) ∧ w'.ownsRow 0 3 1 (.slice A (hcnt l) c) (hcnt l) (Ints (hnums l (hcnt l))) ∧ ∀ b, (Value.slice A (hcnt l) c).ownBlock = some b → w.heap.size ≤ b)) := by
  by_cases hne : l.take 8 ≠ magic
  · refine (stands_no w j A c l h hne).mono ?_
    rintro e w' ⟨rfl, rfl⟩
    exact ⟨Below.refl _ _, .inl ⟨fun h => hne h.mag, rfl⟩⟩
  have hmg : l.take 8 = magic := Classical.not_not.1 hne
  clear hne
  have hll : l.length = 256 := by have := h.1; rw [B8_length, Nat.mul_one] at this; exact this
  obtain ⟨g, cap, hv, _, hgl⟩ := h.form (by omega)
  simp only [Value.slice.injEq] at hv
  obtain ⟨rfl, hx, rfl⟩ := hv
  clear hx
  obtain ⟨_, _, hf, hcap, _⟩ := own_form h
  simp only [Value.slice.injEq] at hf
  obtain ⟨hA, hB, rfl⟩ := hf
  clear hA hB
  have hs1' := Sl.cut h 8 8 (c - 8) (by omega) (by omega)
  have hs0 := Sl.cut h 0 8 c (by omega) (by omega)
  rw [List.drop_zero] at hs0
  have hcv := run_str w _ 22 5 9 _ 8 c (l.take 8) Try.underlying22 Try.underlying5 Try.underlying9 hs0
  rw [hmg] at hcv
  have ebm : bstr magic = .string ⟨#[115, 116, 105, 108, 108, 119, 97, 108]⟩ := rfl
  rw [ebm] at hcv
  clear ebm
  have HN := Lib.hid (number_ok w _ (some ⟨g, 8, none⟩) 8 (c - 8) _ hs1' (by omega) (by omega))
  have HM := Lib.hid (hJ.most (by omega) (by omega))
  obtain ⟨n, hn⟩ : ∃ n, n = hcnt l := ⟨_, rfl⟩
  have hnl : n < 18446744073709551616 := by
    have := numOf_lt ((l.drop 8).take 8)
    have e : ((l.drop 8).take 8).length = 8 := by rw [List.length_take, List.length_drop]; omega
    rw [e] at this
    rw [hn]; exact Nat.lt_of_lt_of_le this (by decide)
  have HN : Hid (Calls Try.prog 59 #[.slice (some ⟨g, 8, none⟩) 8 (c - 8)] w fun e w' => e = .returned (.tuple #[.int .u64 (n : Int), .int .i64 0]) ∧ w = w') := by
    rw [hn]; exact HN
  have hc8 : ¬ c = 8 := by omega
  have hc0 : ¬ c = 0 := by omega
  have HJ := Lib.hid hJ
  have HD := Lib.hid hd
  have HH := Lib.hid h
  have HNW := Lib.hid hnow
  have HMG := Lib.hid hmg
  have HNN := Lib.hid hn
  have HLL := Lib.hid hll
  obtain ⟨s, hse⟩ : ∃ s, s = J.sec - 1 := ⟨_, rfl⟩
  rw [← hse] at HM
  have HSE := Lib.hid hse
  have hs30 : s ≤ 30 := by omega
  have hs1 : 1 ≤ s := by omega
  have ws : IntKind.u64.wrap (s : Int) = (s : Int) := by rw [IntKind.wrap_u64]; omega
  have HA := Lib.hid ha
  have HS := Lib.hid hs
  clear h hs0 hs1' hJ hd hnow hmg hn hll hse ha hs
  by_cases hn1 : n < 1
  · have hni : (n : Int) < 1 := by omega
    go_enter Try.func51, Try.ntmps51
    go_wp2_with fail
    go_step3
    go_wp2_with fail
    refine HN.out.mono ?_
    rintro e w' ⟨rfl, rfl⟩
    go_wp2_with fail
    rw [Exit.noGoto_ret]
    go_ret2
    exact ⟨Below.refl _ _, .inl ⟨fun h => by have := h.one; rw [← HNN.out] at this; omega, rfl⟩⟩
  have hni : ¬ (n : Int) < 1 := by omega
  by_cases hn2 : s < n
  · have hni2 : (s : Int) < (n : Int) := by omega
    go_enter Try.func51, Try.ntmps51
    go_wp2_with fail
    go_step3
    go_wp2_with fail
    refine HN.out.mono ?_
    rintro e w' ⟨rfl, rfl⟩
    go_wp2_with fail
    refine HM.out.mono ?_
    rintro e w' ⟨rfl, rfl⟩
    go_wp2_with fail
    rw [Exit.noGoto_ret]
    go_ret2
    exact ⟨Below.refl _ _, .inl ⟨fun h => by have := h.most; rw [← HNN.out, ← HSE.out] at this; omega, rfl⟩⟩
  have hni2 : ¬ (s : Int) < (n : Int) := by omega
  have hn30 : n ≤ 30 := by omega
  have wn : IntKind.i64.wrap (n : Int) = (n : Int) := by rw [IntKind.wrap_i64]; omega
  go_enter Try.func51, Try.ntmps51
  go_wp2_with fail
  go_step3
  go_wp2_with fail
  refine HN.out.mono ?_
  rintro e w' ⟨rfl, rfl⟩
  go_wp2_with fail
  refine HM.out.mono ?_
  rintro e w' ⟨rfl, rfl⟩
  go_wp2_with fail
  go_step3
  go_wp2_with fail
  go_loopg [8, 37] (n + 1) (fun kq lv iv wr => ∃ (q : Nat) (A : Option Addr) (c : Nat), iv = .int .i64 q ∧ lv = .slice A q c ∧ q ≤ n ∧ kq = n + 1 - q ∧ Hid (wr.ownsRow 0 3 1 (.slice A q c) q (Ints (hnums l q))) ∧ Hid (∀ b, (Value.slice A q c).ownBlock = some b → w.heap.size ≤ b) ∧ Hid (∀ i, i < q → outK k J.at_ J.sec (hnum l i) = true) ∧ Hid (Below w.heap.size w wr))
  case atStart => exact ⟨0, none, 0, rfl, rfl, by omega, rfl, own_nil0 _ _ _, Lib.hid (fun b hb => by simp [Value.ownBlock] at hb), Lib.hid (fun i hi => by omega), Below.refl _ _⟩
  case round =>
    obtain ⟨q, Aq, cq, rfl, rfl, hq, rfl, ho, hf, hout, hb⟩ := hrel
    by_cases hlt : q < n
    · have hqi : (q : Int) < (n : Int) := by omega
      have w1 : IntKind.i64.wrap (1 + (q : Int)) = 1 + (q : Int) := by rw [IntKind.wrap_i64]; omega
      have w2 : IntKind.i64.wrap (8 * (1 + (q : Int))) = 8 * (1 + (q : Int)) := by rw [IntKind.wrap_i64]; omega
      obtain ⟨p, hp⟩ : ∃ p, p = 16 + 8 * q := ⟨_, rfl⟩
      have w3 : IntKind.i64.wrap (8 + 8 * (1 + (q : Int))) = (p : Int) := by rw [IntKind.wrap_i64]; omega
      have hp2 : p + 8 ≤ 256 := by omega
      have HP := Lib.hid hp
      obtain ⟨p8, hp8⟩ : ∃ p8, p8 = p + 8 := ⟨_, rfl⟩
      have w4 : IntKind.i64.wrap ((p : Int) + 8) = (p8 : Int) := by rw [IntKind.wrap_i64]; omega
      have hp256 : p8 ≤ 256 := by omega
      have hpp8 : p8 - p = 8 := by omega
      have hpp : p ≤ p8 := by omega
      have h1 := own_below HH.out hb.out
      have hcs := Sl.cut h1 p 8 (c - p) (by omega) (by omega)
      have HN2 := Lib.hid (number_ok wr _ (some ⟨g, p, none⟩) 8 (c - p) _ hcs (by omega) (by omega))
      obtain ⟨v, hv⟩ : ∃ v, v = hnum l q := ⟨_, rfl⟩
      have hvl : v < 18446744073709551616 := by
        have := numOf_lt ((l.drop (16 + 8 * q)).take 8)
        have e : ((l.drop (16 + 8 * q)).take 8).length = 8 := by rw [List.length_take, List.length_drop, HLL.out]; omega
        rw [e] at this
        rw [hv]; exact Nat.lt_of_lt_of_le this (by decide)
      have HN2 : Hid (Calls Try.prog 59 #[.slice (some ⟨g, p, none⟩) 8 (c - p)] wr fun e w' => e = .returned (.tuple #[.int .u64 (v : Int), .int .i64 0]) ∧ wr = w') := by
        rw [hv, show hnum l q = numOf ((l.drop p).take 8) from by rw [hp]; rfl]; exact HN2
      have HO := Lib.hid (outside_ok wr FJ F j d k v J S (HJ.out.below hb.out) (HD.out.below hb.out) hk HNW.out HA.out (by have := HS.out; omega))
      have hcp : ¬ c = p := by omega
      have HV := Lib.hid hv
      have HHP8 := Lib.hid hp8
      clear h1 hcs hp hv hp8
      go_wp2_with fail
      refine HN2.out.mono ?_
      rintro e w' ⟨rfl, rfl⟩
      go_wp2_with fail
      refine HO.out.mono ?_
      rintro e w2 ⟨rfl, hb2⟩
      have H2 := Lib.hid hb2
      clear hb2
      by_cases hok : outK k J.at_ J.sec v = true
      · rw [hok]
        have hvk : v < 2048 := by simp [outK] at hok; omega
        have wv : IntKind.i64.wrap (v : Int) = (v : Int) := by rw [IntKind.wrap_i64]; omega
        have ho2 := Lib.hid (own_below ho.out H2.out)
        have HOK := Lib.hid hok
        clear hok hvl
        go_wp2_with (at_builtin
                     refine wpList_app _ rfl (.tmp 57) (.tmp 60) 53 rfl 3 (.int .i64 0) 1 8 Try.underlying53 info3 rfl (by omega) (by omega) (.slice Aq q cq) q (Ints (hnums l q)) rfl
                       (ho2.out.alloc _) (fun i => i = w2.heap.size) (.slice (some ⟨w2.heap.size, 0, none⟩) 1 1) 1 [.int .i64 v] rfl (Sl.one w2 3 _) (by simp [Value.oneCell']) (by omega) ?_
                     intro A3 c3' w3 ho3 hg3 hat3 _
                     have HW3 := Lib.hid (And.intro ho3 (And.intro hg3 hat3))
                     clear ho3 hg3 hat3)
        go_roundg (n + 1 - (q + 1))
        case measure => omega
        case rel =>
          obtain ⟨k1, k2, k3⟩ := HW3.out
          have hmm : Mod (fun b => (Value.slice Aq q cq).ownBlock = some b) w2 w3 := ((Mod.refl _ _).alloc _).grown k2 (fun k hk _ => hk)
          have hsz := hb.out.size
          have hsz2 := H2.out.size
          refine ⟨q + 1, A3, c3', by go_num, rfl, by omega, rfl, ?_, ?_, ?_, ?_⟩
          · rw [hnums_snoc, ← HV.out]
            have e : Ints (hnums l q ++ [(v : Int)]) = Ints (hnums l q) ++ [.int .i64 v] := by simp [Ints]
            rw [e]
            exact k1
          · refine Lib.hid (fun b hb' => ?_)
            rcases k3 with e | e
            · rw [e] at hb'; exact hf.out b hb'
            · rw [e] at hb'; injection hb' with hb'; simp at hb'; omega
          · refine Lib.hid (fun i hi => ?_)
            by_cases e : i = q
            · rw [e, ← HV.out]; exact HOK.out
            · exact hout.out i (by omega)
          · exact (hb.out.trans (H2.out.mono hsz)).trans (hmm.below (by omega) (fun i hi => hf.out i hi))
      · have hok2 : outK k J.at_ J.sec v = false := by simpa using hok
        rw [hok2]
        have HOK := Lib.hid hok
        clear hok hok2
        go_wp2_with fail
        go_loopg [13] 1 (fun kq iv wr' => iv = .int .i64 1 ∧ wr' = w2 ∧ kq = 1)
        case atStart => exact ⟨rfl, rfl, rfl⟩
        case round =>
          obtain ⟨rfl, rfl, rfl⟩ := hrel
          go_wp2_with fail
          rw [Exit.noGoto_ret]
          go_ret2
          have HBB := hb.out.trans (H2.out.mono hb.out.size)
          exact ⟨HBB, .inl ⟨fun h => HOK.out (by rw [HV.out]; exact h.out q (by rw [← HNN.out]; exact hlt)), rfl⟩⟩
    · obtain rfl : q = n := by omega
      obtain ⟨b, cap, hvv, _, hbl⟩ := ho.out.form (by omega)
      simp only [Value.slice.injEq] at hvv
      obtain ⟨rfl, hx, rfl⟩ := hvv
      clear hx
      have hq1 : 1 ≤ q := by omega
      have hqs : Hid (q ≤ s) := Lib.hid (by omega)
      have hq0 : (0 : Int) < (q : Int) := by omega
      have hq00 : 0 < q := by omega
      clear HN HM hni hni2 hn2
      go_wp2_with fail
      go_loopg [13] q (fun kq iv wr' => ∃ r : Nat, iv = .int .i64 r ∧ 1 ≤ r ∧ r ≤ q ∧ kq = q + 1 - r ∧ Hid (wr'.ownsRow 0 3 1 (.slice (some ⟨b, 0, none⟩) q cq) q (Ints (hnums l q))) ∧ Hid (Below w.heap.size w wr') ∧ Hid (∀ i, i + 1 < r → hnum l i < hnum l (i + 1)))
      case atStart => exact ⟨1, rfl, by omega, by omega, by omega, ho, hb, Lib.hid (fun i hi => by omega)⟩
      case round =>
        obtain ⟨r, rfl, hr1, hrq, rfl, ho3, hb3, hri⟩ := hrel
        by_cases hlt2 : r < q
        · have hrqi : (r : Int) < (q : Int) := by omega
          obtain ⟨r1, hr1e⟩ : ∃ r1, r1 = r - 1 := ⟨_, rfl⟩
          have wr1 : IntKind.i64.wrap ((r : Int) - 1) = (r1 : Int) := by rw [IntKind.wrap_i64]; omega
          have hr1q : (r1 : Int) < (q : Int) := by omega
          have hr1n : r1 < q := by omega
          have hc1 := ho3.out.cells rfl r (.int .i64 (hnum l r : Int)) (by simp only [Ints, List.getElem?_map, hnums_get l hlt2]; rfl)
          have hc2 := ho3.out.cells rfl r1 (.int .i64 (hnum l r1 : Int)) (by simp only [Ints, List.getElem?_map, hnums_get l hr1n]; rfl)
          rw [add_lit0, Nat.zero_add] at hc1 hc2
          have hbl2 : b < wr.heap.size := own_lt' ho3.out rfl
          have hc1 : wr.drew.cell? ⟨b, r, none⟩ = some (.int .i64 (hnum l r : Int)) := hc1
          have hc2 : wr.drew.cell? ⟨b, r1, none⟩ = some (.int .i64 (hnum l r1 : Int)) := hc2
          have hbl2 : b < wr.drew.heap.size := hbl2
          have ho4 := Lib.hid (own_below ho3.out (Below.refl _ _).drew)
          have hb4 := Lib.hid (hb3.out.trans ((Below.refl _ _).drew.mono hb3.out.size))
          have HR1 := Lib.hid hr1e
          obtain ⟨x, hx⟩ : ∃ x, x = hnum l r := ⟨_, rfl⟩
          obtain ⟨y, hy⟩ : ∃ y, y = hnum l r1 := ⟨_, rfl⟩
          rw [← hx] at hc1
          rw [← hy] at hc2
          have HXY := Lib.hid (And.intro hx hy)
          clear hx hy hr1e
          obtain ⟨Inv, hInv⟩ : ∃ Inv : Done → World → Prop, Inv = fun _ wI => wI = wr.drew := ⟨_, rfl⟩
          have HI : Hid (∀ τ wI, Inv τ wI → wI = wr.drew) := fun τ wI h => by rw [hInv] at h; exact h
          have HJ2 : Hid (∀ τ, Inv τ wr.drew) := fun τ => by rw [hInv]
          clear hInv
          by_cases hxy : x ≤ y
          · have hxyi : (x : Int) ≤ (y : Int) := by omega
            go_upto_region 17 with fail
            try simp only [Act.put, List.setIfInBounds_toArray, List.set_cons_zero, List.set_cons_succ]
            refine wp_region_inv (by kernel_rfl) [⟨0, false, [], []⟩, ⟨1, false, [], []⟩, ⟨2, false, [], []⟩, ⟨3, false, [], []⟩, ⟨4, false, [], []⟩, ⟨5, false, [], []⟩, ⟨6, false, [], []⟩, ⟨7, false, [], []⟩, ⟨8, false, [], []⟩, ⟨9, false, [], []⟩] (by kernel_rfl) Inv (fun _ _ => True) (fun _ => ⟨undef, trivial⟩) (HJ2.out _) ?_
            iterate 10 (apply WpI.pure; (simp only [List.getElem?_toArray, List.getElem?_cons_succ, List.getElem?_cons_zero]; rfl); (intro τ wI hA hI; have hw := HI.out _ _ hI; rw [hw]; go_simp; exact ⟨HJ2.out _, Is.rfl'⟩); simp only [Act.put, List.setIfInBounds_toArray, List.set_cons_zero, List.set_cons_succ])
            refine WpI.done ?_
            intro wI hI
            have hw := HI.out _ _ hI
            rw [hw]
            clear hw hI HI HJ2
            go_wp2_with fail
            try rw [Exit.noGoto_ret]
            go_ret2
            refine ⟨hb4.out, .inl ⟨fun h => ?_, rfl⟩⟩
            have := h.rise r1 (by rw [← HNN.out]; have := HR1.out; omega)
            rw [show r1 + 1 = r from by have := HR1.out; omega, ← HXY.out.1, ← HXY.out.2] at this
            omega
          · have hxyi : ¬ (x : Int) ≤ (y : Int) := by omega
            go_upto_region 17 with fail
            try simp only [Act.put, List.setIfInBounds_toArray, List.set_cons_zero, List.set_cons_succ]
            refine wp_region_inv (by kernel_rfl) [⟨0, false, [], []⟩, ⟨1, false, [], []⟩, ⟨2, false, [], []⟩, ⟨3, false, [], []⟩, ⟨4, false, [], []⟩, ⟨5, false, [], []⟩, ⟨6, false, [], []⟩, ⟨7, false, [], []⟩, ⟨8, false, [], []⟩, ⟨9, false, [], []⟩] (by kernel_rfl) Inv (fun _ _ => True) (fun _ => ⟨undef, trivial⟩) (HJ2.out _) ?_
            iterate 10 (apply WpI.pure; (simp only [List.getElem?_toArray, List.getElem?_cons_succ, List.getElem?_cons_zero]; rfl); (intro τ wI hA hI; have hw := HI.out _ _ hI; rw [hw]; go_simp; exact ⟨HJ2.out _, Is.rfl'⟩); simp only [Act.put, List.setIfInBounds_toArray, List.set_cons_zero, List.set_cons_succ])
            refine WpI.done ?_
            intro wI hI
            have hw := HI.out _ _ hI
            rw [hw]
            clear hw hI HI HJ2
            go_wp2_with fail
            go_roundg (q + 1 - (r + 1))
            case measure => omega
            case rel =>
              refine ⟨r + 1, by go_num, by omega, by omega, rfl, ho4, hb4, Lib.hid (fun i hi => ?_)⟩
              by_cases e : i + 1 = r
              · have e2 : i = r1 := by have := HR1.out; omega
                rw [e, e2, ← HXY.out.1, ← HXY.out.2]
                omega
              · exact hri.out i (by omega)
        · obtain rfl : r = q := by omega
          have hd0 : decide (0 < r) = true := by simp; omega
          go_wp2_with fail
          rw [Exit.noGoto_ret]
          go_ret2
          refine ⟨hb3.out, .inr ⟨⟨HMG.out, by rw [← HNN.out]; exact hr1, by rw [← HNN.out, ← HSE.out]; exact hqs.out, fun i hi => hout.out i (by rw [HNN.out]; exact hi), fun i hi => hri.out i (by rw [HNN.out]; exact hi)⟩, some ⟨b, 0, none⟩, cq, ?_, ?_, ?_⟩⟩
          · rw [← HNN.out]; rfl
          · rw [← HNN.out]; exact ho3.out
          · rw [← HNN.out]; exact hf.out
end Go.Proofs.Ytjdobjcbmmdjeaa
