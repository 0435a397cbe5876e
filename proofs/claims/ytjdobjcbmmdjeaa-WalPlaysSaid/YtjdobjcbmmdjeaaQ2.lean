/- The reference's journal in memory; Stands. -/
import Derived.Test.YtjdobjcbmmdjeaaQ1
namespace Go.Proofs.Ytjdobjcbmmdjeaa
open Go.RowKit

/-- the reference's journal -/
structure QJr where
  (at_ sec : Nat)
  l : List (Int × List UInt8)
def QAt (w : World) (F : Nat → Prop) (q r : Nat) (Q : QJr) : Prop := ∃ A c, F q ∧ Blk w q 81 [.pointer (some ⟨r, 0, none⟩), .int .i64 (Q.at_ : Int), .int .i64 (Q.sec : Int), .slice A Q.l.length c] ∧
  w.ownsRow 0 104 2 (.slice A Q.l.length c) Q.l.length (EV Q.l) ∧ (∀ b, (Value.slice A Q.l.length c).ownBlock = some b → F b) ∧ ∀ b, F b → b < w.heap.size
section
variable {w w' : World} {F G : Nat → Prop} {q r : Nat} {Q : QJr}
theorem QAt.mod (h : QAt w F q r Q) (hm : Mod G w w') (hG : ∀ b, F b → ¬ G b) : QAt w' F q r Q := by
  obtain ⟨A, c, h1, h2, h3, h4, h5⟩ := h
  exact ⟨A, c, h1, h2.mod hm (hG _ h1), own_mod h3 hm (fun b hb => hG b (h4 b hb)), h4, fun b hb => Nat.lt_of_lt_of_le (h5 b hb) hm.size⟩
theorem QAt.below (h : QAt w F q r Q) (hb : Below w.heap.size w w') : QAt w' F q r Q := h.mod (G := fun _ => False) (Mod.of_below hb) (fun _ _ h => h)
theorem QAt.lt (h : QAt w F q r Q) {b : Nat} (hb : F b) : b < w.heap.size := by
  obtain ⟨_, _, _, _, _, _, h5⟩ := h
  exact h5 b hb
theorem QAt.cell (h : QAt w F q r Q) : ∃ A c, w.cell? ⟨q, 0, none⟩ = some (.pointer (some ⟨r, 0, none⟩)) ∧ w.cell? ⟨q, 1, none⟩ = some (.int .i64 (Q.at_ : Int)) ∧ w.cell? ⟨q, 2, none⟩ = some (.int .i64 (Q.sec : Int)) ∧
    w.cell? ⟨q, 3, none⟩ = some (.slice A Q.l.length c) ∧ w.ownsRow 0 104 2 (.slice A Q.l.length c) Q.l.length (EV Q.l) ∧ q < w.heap.size := by
  obtain ⟨A, c, _, hd, ho, _, _⟩ := h
  exact ⟨A, c, by rw [hd.cell]; rfl, by rw [hd.cell]; rfl, by rw [hd.cell]; rfl, by rw [hd.cell]; rfl, ho, hd.lt⟩
end

theorem Std.lt {k a s : Nat} {l : List UInt8} (h : Std k a s l) {i j : Nat} (hij : i < j) (hj : j < hcnt l) : hnum l i < hnum l j := by
  induction j with
  | zero => omega
  | succ j ih =>
    have := h.rise j hj
    by_cases e : i = j
    · rw [e]; exact this
    · have := ih (by omega) (by omega); omega

set_option maxRecDepth 100000 in
set_option maxHeartbeats 1000000 in
theorem rstands_ok (w : World) (F G : Nat → Prop) (q r k : Nat) (Q : QJr) (R : RDsk) (l : List UInt8) (hQ : QAt w F q r Q) (hr : RefAt w G r R) (hk : R.first.length = k) (hk2 : k ≤ 2048) (ha : Q.at_ ≤ 1000000) (hs1 : 2 ≤ Q.sec) (hs : Q.sec ≤ 31) (hl : l.length = 256) :
    Calls Try.prog 52 #[.pointer (some ⟨q, 0, none⟩), bstr l] w fun e w' => Below w.heap.size w w' ∧
      ((¬ Std k Q.at_ Q.sec l ∧ e = .returned (.slice none 0 0)) ∨
       (Std k Q.at_ Q.sec l ∧ ∃ A c, e = .returned (.slice A (hcnt l) c) ∧ w'.ownsRow 0 3 1 (.slice A (hcnt l) c) (hcnt l) (Ints (hnums l (hcnt l))) ∧ ∀ b, (Value.slice A (hcnt l) c).ownBlock = some b → w.heap.size ≤ b)) := by
  have hsz : (⟨l.toArray⟩ : ByteArray).size = 256 := by simp [ByteArray.size, hl]
  have hext := bstr_ext l 0 8 (by omega)
  rw [List.drop_zero, Nat.zero_add] at hext
  have HLL := Lib.hid hl
  unfold bstr
  obtain ⟨s8, hs8⟩ : ∃ s8 : ByteArray, s8 = ⟨(l.take 8).toArray⟩ := ⟨_, rfl⟩
  rw [← hs8] at hext
  by_cases hmg : l.take 8 = magic
  · obtain rfl : s8 = ⟨#[115, 116, 105, 108, 108, 119, 97, 108]⟩ := by rw [hs8, hmg]; rfl
    clear hs8
    have HMG := Lib.hid hmg
    obtain ⟨_, _, c0, c1, c2, c3, ho, hqlt⟩ := hQ.cell
    obtain ⟨n, hn⟩ : ∃ n, n = hcnt l := ⟨_, rfl⟩
    have hnl : n < 18446744073709551616 := by
      have := numOf_lt ((l.drop 8).take 8)
      have e : ((l.drop 8).take 8).length = 8 := by rw [List.length_take, List.length_drop]; omega
      rw [e] at this
      rw [hn]; exact Nat.lt_of_lt_of_le this (by decide)
    have HN := Lib.hid (num4_ok w l 8 hl (by omega))
    have HN : Hid (Calls Try.prog 60 #[.string ⟨l.toArray⟩, .int .i64 (8 : Nat)] w fun e w' => e = .returned (.int .u64 (n : Int)) ∧ Below w.heap.size w w') := by rw [hn]; exact HN
    obtain ⟨s, hse⟩ : ∃ s, s = Q.sec - 1 := ⟨_, rfl⟩
    have hsi : (Q.sec : Int) - 1 = (s : Int) := by omega
    have ws : IntKind.u64.wrap (s : Int) = (s : Int) := by rw [IntKind.wrap_u64]; omega
    have HQ := Lib.hid hQ
    have HR := Lib.hid hr
    have HNN := Lib.hid hn
    have HSE := Lib.hid hse
    have HA := Lib.hid ha
    have HK := Lib.hid hk
    have hs30 : s ≤ 30 := by omega
    have HSS := Lib.hid (And.intro hs1 hs)
    clear hmg c0 c1 c2 c3 ho hQ hr hn hse ha hs hs1 hl hk
    go_enter Try.func52, Try.ntmps52
    go_wp2_with fail
    refine HN.out.mono ?_
    rintro e w1 ⟨rfl, hb1⟩
    have HB1 := Lib.hid hb1
    obtain ⟨_, _, c0, c1, c2, c3, ho, hqlt1⟩ := (HQ.out.below hb1).cell
    clear hb1 ho c3 c1
    by_cases hn1 : n < 1
    · have hni : (n : Int) < 1 := by omega
      go_wp2_with fail
      go_ret
      exact ⟨HB1.out, .inl ⟨fun h => by have := h.one; rw [← HNN.out] at this; omega, rfl⟩⟩
    have hni : ¬ (n : Int) < 1 := by omega
    by_cases hn2 : s < n
    · have hni2 : (s : Int) < (n : Int) := by omega
      go_wp2_with fail
      go_ret
      exact ⟨HB1.out, .inl ⟨fun h => by have := h.most; rw [← HNN.out, ← HSE.out] at this; omega, rfl⟩⟩
    have hni2 : ¬ (s : Int) < (n : Int) := by omega
    have hn30 : n ≤ 30 := by omega
    have wn : IntKind.i64.wrap (n : Int) = (n : Int) := by rw [IntKind.wrap_i64]; omega
    go_wp2_with fail
    clear c0 c2 hqlt1
    go_loopg [6, 7] (n + 1) (fun kq lv iv wr => ∃ (j : Nat) (A : Option Addr) (c : Nat), iv = .int .i64 j ∧ lv = .slice A j c ∧ j ≤ n ∧ kq = n + 1 - j ∧ Hid (wr.ownsRow 0 3 1 (.slice A j c) j (Ints (hnums l j))) ∧ Hid (∀ b, (Value.slice A j c).ownBlock = some b → w.heap.size ≤ b) ∧ Hid ((∀ i, i < j → outK k Q.at_ Q.sec (hnum l i) = true) ∧ ∀ i, i + 1 < j → hnum l i < hnum l (i + 1)) ∧ Hid (Below w.heap.size w wr))
    case atStart => exact ⟨0, none, 0, rfl, rfl, by omega, rfl, own_nil0 _ _ _, Lib.hid (fun b hb => by simp [Value.ownBlock] at hb), Lib.hid ⟨fun i hi => by omega, fun i hi => by omega⟩, HB1⟩
    case round =>
      clear HB1
      obtain ⟨j, Aq, cq, rfl, rfl, hj, rfl, ho, hf, hout, hb⟩ := hrel
      by_cases hlt : j < n
      · have hqi : (j : Int) < (n : Int) := by omega
        obtain ⟨p, hp⟩ : ∃ p, p = 16 + 8 * j := ⟨_, rfl⟩
        have ew2 : IntKind.i64.wrap (8 * (j : Int)) = 8 * (j : Int) := by rw [IntKind.wrap_i64]; omega
        have w3 : IntKind.i64.wrap (16 + 8 * (j : Int)) = (p : Int) := by rw [IntKind.wrap_i64]; omega
        have w3' : 16 + 8 * (j : Int) = (p : Int) := by omega
        have hp2 : p + 8 ≤ 256 := by omega
        obtain ⟨v, hv⟩ : ∃ v, v = hnum l j := ⟨_, rfl⟩
        have hvl : v < 18446744073709551616 := by
          have := numOf_lt ((l.drop (16 + 8 * j)).take 8)
          have e : ((l.drop (16 + 8 * j)).take 8).length = 8 := by rw [List.length_take, List.length_drop, HLL.out]; omega
          rw [e] at this
          rw [hv]; exact Nat.lt_of_lt_of_le this (by decide)
        have HN2 : Hid (Calls Try.prog 60 #[.string ⟨l.toArray⟩, .int .i64 (p : Int)] wr fun e w' => e = .returned (.int .u64 (v : Int)) ∧ Below wr.heap.size wr w') := Lib.hid (by
          rw [hv, show hnum l j = numOf ((l.drop p).take 8) from by rw [hp]; rfl]; exact num4_ok wr l p HLL.out hp2)
        have HV := Lib.hid (And.intro hv hp)
        clear hv hp
        go_wp2_with fail
        refine HN2.out.mono ?_
        rintro e w2 ⟨rfl, hb2⟩
        have HB2 := Lib.hid (hb.out.trans (hb2.mono hb.out.size))
        have ho2 := Lib.hid (own_below ho.out hb2)
        obtain ⟨_, _, c0, c1, c2, _, _, hqlt2⟩ := (HQ.out.below HB2.out).cell
        obtain ⟨Af, cf, _, _, e0, _, _, _, hrlt⟩ := (HR.out.below HB2.out).cell
        rw [HK.out] at e0
        have wk : IntKind.u64.wrap (k : Int) = (k : Int) := by rw [IntKind.wrap_u64]; omega
        have HC := Lib.hid (And.intro c1 c2)
        clear hb2 w3' c1 c2
        by_cases hvk : v < k
        · have hvk1 : ¬ (k : Int) ≤ (v : Int) := by omega
          have wv : IntKind.i64.wrap (v : Int) = (v : Int) := by rw [IntKind.wrap_i64]; omega
          have HO := Lib.hid (rown_ok w2 q Q.at_ Q.sec (v : Int) HC.out.1 HC.out.2 HA.out (by have := HSS.out; omega))
          by_cases hown : ((Q.at_ : Int) ≤ (v : Int) ∧ (v : Int) < (Q.at_ : Int) + Q.sec)
          · rw [decide_eq_true hown] at HO
            have HOW := Lib.hid hown
            clear hown
            go_wp2_with fail
            refine HO.out.mono ?_
            rintro e w3 ⟨rfl, hb3⟩
            have HB3 := Lib.hid (HB2.out.trans (hb3.mono HB2.out.size))
            clear hb3
            go_wp2_with fail
            go_ret
            refine ⟨HB3.out, .inl ⟨fun h => ?_, rfl⟩⟩
            have h2 := h.out j (by rw [← HNN.out]; exact hlt)
            have h3 := HOW.out
            rw [← HV.out.1] at h2
            simp only [outK, decide_eq_true_eq] at h2
            omega
          · rw [decide_eq_false hown] at HO
            have HOW := Lib.hid hown
            clear hown
            by_cases hj0 : j = 0
            · subst hj0
              go_wp2_with fail
              refine HO.out.mono ?_
              rintro e w3 ⟨rfl, hb3⟩
              have HB3 := Lib.hid (HB2.out.trans (hb3.mono HB2.out.size))
              have ho3 := Lib.hid (own_below ho2.out hb3)
              have HRS : Hid (∀ i, i + 1 < 0 + 1 → hnum l i < hnum l (i + 1)) := Lib.hid fun i hi => by omega
              clear hb3
              go_wp2_with (at_builtin
                           refine wpList_app _ rfl (.tmp 68) (.tmp 71) 53 rfl 3 (.int .i64 0) 1 8 Try.underlying53 info3 rfl (by omega) (by omega) (.slice Aq 0 cq) 0 (Ints (hnums l 0)) rfl
                             (ho3.out.alloc _) (fun i => i = w3.heap.size) (.slice (some ⟨w3.heap.size, 0, none⟩) 1 1) 1 [.int .i64 v] rfl (Sl.one w3 3 _) (by simp [Value.oneCell']) (by omega) ?_
                           intro A3 c3' w4 ho4 hg4 hat4 _
                           have HW4 := Lib.hid (And.intro ho4 (And.intro hg4 hat4))
                           clear ho4 hg4 hat4)
              go_roundg (n + 1 - (0 + 1))
              case measure => omega
              case rel =>
                obtain ⟨k1, k2, k3⟩ := HW4.out
                have hmm : Mod (fun b => (Value.slice Aq 0 cq).ownBlock = some b) w3 w4 := ((Mod.refl _ _).alloc _).grown k2 (fun k hk _ => hk)
                have hsz := HB3.out.size
                refine ⟨0 + 1, A3, c3', by go_num, rfl, by omega, rfl, ?_, ?_, ?_, ?_⟩
                · rw [hnums_snoc, ← HV.out.1]
                  have e : Ints (hnums l 0 ++ [(v : Int)]) = Ints (hnums l 0) ++ [.int .i64 v] := by simp [Ints]
                  rw [e]
                  exact k1
                · refine Lib.hid (fun b hb' => ?_)
                  rcases k3 with e | e
                  · rw [e] at hb'; exact hf.out b hb'
                  · rw [e] at hb'; injection hb' with hb'; simp at hb'; omega
                · refine Lib.hid ⟨fun i hi => ?_, HRS.out⟩
                  by_cases e : i = 0
                  · rw [e, ← HV.out.1]
                    have h3 := HOW.out
                    simp only [outK, decide_eq_true_eq]
                    omega
                  · exact hout.out.1 i (by omega)
                · exact Lib.hid (HB3.out.trans (hmm.below hsz (fun i hi => hf.out i hi)))
            · obtain ⟨m1, rfl⟩ : ∃ m1, j = m1 + 1 := ⟨j - 1, by omega⟩
              obtain ⟨bo, capo, hvo, _, hbo⟩ := ho2.out.form (by omega)
              simp only [Value.slice.injEq] at hvo
              obtain ⟨rfl, _, rfl⟩ := hvo
              obtain ⟨u, hu⟩ : ∃ u, u = hnum l m1 := ⟨_, rfl⟩
              have hcu : ∀ wx, Below w2.heap.size w2 wx → wx.cell? ⟨bo, m1, none⟩ = some (.int .i64 (u : Int)) := fun wx hx => by
                have := (own_below ho2.out hx).cells rfl m1 (.int .i64 (u : Int)) (by simp only [Ints, List.getElem?_map, hnums_get l (show m1 < m1 + 1 by omega), hu]; rfl)
                rwa [add_lit0, Nat.zero_add] at this
              have HCU := Lib.hid hcu
              have HU := Lib.hid hu
              have hm1 : (m1 : Int) < (m1 : Int) + 1 := by omega
              have hm0 : (0 : Int) < (m1 : Int) + 1 := by omega
              have wm : IntKind.i64.wrap (m1 : Int) = (m1 : Int) := by rw [IntKind.wrap_i64]; omega
              clear hcu hu
              go_wp2_with fail
              refine HO.out.mono ?_
              rintro e w3 ⟨rfl, hb3⟩
              have HB3 := Lib.hid (HB2.out.trans (hb3.mono HB2.out.size))
              have ho3 := Lib.hid (own_below ho2.out hb3)
              have cu := HCU.out w3 hb3
              have hbo3 : bo < w3.heap.size := by have := hb3.size; omega
              by_cases hle : v ≤ u
              · have hle1 : (v : Int) ≤ (u : Int) := by omega
                clear hb3
                go_wp2_with fail
                go_ret
                refine ⟨HB3.out, .inl ⟨fun h => ?_, rfl⟩⟩
                have h2 := h.rise m1 (by rw [← HNN.out]; exact hlt)
                rw [← HU.out, ← HV.out.1] at h2
                omega
              · have hle1 : ¬ (v : Int) ≤ (u : Int) := by omega
                have HRS : Hid (∀ i, i + 1 < m1 + 1 + 1 → hnum l i < hnum l (i + 1)) := Lib.hid fun i hi => by
                  by_cases e : i = m1
                  · rw [e, ← HU.out, ← HV.out.1]; omega
                  · exact hout.out.2 i (by omega)
                clear hb3
                go_wp2_with (at_builtin
                             refine wpList_app _ rfl (.tmp 68) (.tmp 71) 53 rfl 3 (.int .i64 0) 1 8 Try.underlying53 info3 rfl (by omega) (by omega) (.slice (some ⟨bo, 0, none⟩) (m1 + 1) cq) (m1 + 1) (Ints (hnums l (m1 + 1))) rfl
                               (ho3.out.alloc _) (fun i => i = w3.heap.size) (.slice (some ⟨w3.heap.size, 0, none⟩) 1 1) 1 [.int .i64 v] rfl (Sl.one w3 3 _) (by simp [Value.oneCell']) (by omega) ?_
                             intro A3 c3' w4 ho4 hg4 hat4 _
                             have HW4 := Lib.hid (And.intro ho4 (And.intro hg4 hat4))
                             clear ho4 hg4 hat4)
                go_roundg (n + 1 - ((m1 + 1) + 1))
                case measure => omega
                case rel =>
                  obtain ⟨k1, k2, k3⟩ := HW4.out
                  have hmm : Mod (fun b => (Value.slice (some ⟨bo, 0, none⟩) (m1 + 1) cq).ownBlock = some b) w3 w4 := ((Mod.refl _ _).alloc _).grown k2 (fun k hk _ => hk)
                  have hsz := HB3.out.size
                  refine ⟨(m1 + 1) + 1, A3, c3', by go_num, rfl, by omega, rfl, ?_, ?_, ?_, ?_⟩
                  · rw [hnums_snoc, ← HV.out.1]
                    have e : Ints (hnums l (m1 + 1) ++ [(v : Int)]) = Ints (hnums l (m1 + 1)) ++ [.int .i64 v] := by simp [Ints]
                    rw [e]
                    exact k1
                  · refine Lib.hid (fun b hb' => ?_)
                    rcases k3 with e | e
                    · rw [e] at hb'; exact hf.out b hb'
                    · rw [e] at hb'; injection hb' with hb'; simp at hb'; omega
                  · refine Lib.hid ⟨fun i hi => ?_, HRS.out⟩
                    by_cases e : i = (m1 + 1)
                    · rw [e, ← HV.out.1]
                      have h3 := HOW.out
                      simp only [outK, decide_eq_true_eq]
                      omega
                    · exact hout.out.1 i (by omega)
                  · exact Lib.hid (HB3.out.trans (hmm.below hsz (fun i hi => hf.out i hi)))
        · have hvk1 : (k : Int) ≤ (v : Int) := by omega
          go_wp2_with fail
          go_ret
          refine ⟨HB2.out, .inl ⟨fun h => ?_, rfl⟩⟩
          have h2 := h.out j (by rw [← HNN.out]; exact hlt)
          rw [← HV.out.1] at h2
          simp only [outK, decide_eq_true_eq] at h2
          omega
      · obtain rfl : j = n := by omega
        have HSTD : Hid (Std k Q.at_ Q.sec l) := Lib.hid ⟨HMG.out, by rw [← HNN.out]; omega, by rw [← HNN.out, ← HSE.out]; omega, fun i hi => hout.out.1 i (by rw [HNN.out]; exact hi), fun i hi => hout.out.2 i (by rw [HNN.out]; exact hi)⟩
        have hx : ¬ j < j := by omega
        go_wp2_with fail
        go_ret
        refine ⟨hb.out, .inr ⟨HSTD.out, Aq, cq, by rw [← HNN.out]; rfl, ?_, ?_⟩⟩
        · rw [← HNN.out]; exact ho.out
        · rw [← HNN.out]; exact hf.out
  · have hne : (s8.toList == [115, 116, 105, 108, 108, 119, 97, 108]) = false := by
      rw [beq_eq_false_iff_ne, hs8]
      intro e
      exact hmg (by rw [show (⟨(l.take 8).toArray⟩ : ByteArray).toList = l.take 8 from by simp] at e; exact e)
    have HMG := Lib.hid hmg
    clear hmg hs8
    go_enter Try.func52, Try.ntmps52
    go_wp2_with fail
    go_ret
    exact ⟨Below.refl _ _, .inl ⟨fun h => HMG.out h.mag, rfl⟩⟩
end Go.Proofs.Ytjdobjcbmmdjeaa
