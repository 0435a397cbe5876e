/- Contracts of stillroomref03: After. -/
import Derived.Test.YtjdobjcbmmdjeaaR3
namespace Go.Proofs.Ytjdobjcbmmdjeaa
open Go.RowKit

def lastR (ev : List (Int × List UInt8)) : Nat → Nat
  | 0 => 0
  | i + 1 => match ev[i]? with | some x => if x.1 < 0 then i else lastR ev i | none => lastR ev i
/-- is what was written at event i there, and how many of keep are used up -/
def refPick (last i : Nat) (keep : List Bool) (k : Nat) : Bool × Nat := if i < last then (true, k) else ((keep[k]?).getD false, k + 1)
def refStep (last i : Nat) (keep : List Bool) (x : Int × List UInt8) (st : List (List UInt8) × Nat) : List (List UInt8) × Nat :=
  if x.1 < 0 then st else (if (refPick last i keep st.2).1 then st.1.set x.1.toNat x.2 else st.1, (refPick last i keep st.2).2)
def refK (R : RDsk) (last : Nat) (keep : List Bool) : Nat → List (List UInt8) × Nat
  | 0 => (R.first, 0)
  | i + 1 => match R.ev[i]? with | some x => refStep last i keep x (refK R last keep i) | none => refK R last keep i
def RDsk.loss (R : RDsk) (n : Nat) (keep : List Bool) : List (List UInt8) := (refK R (lastR R.ev n) keep n).1
theorem refK_length (R : RDsk) (last : Nat) (keep : List Bool) : ∀ i, (refK R last keep i).1.length = R.first.length := by
  intro i
  induction i with
  | zero => rfl
  | succ i ih =>
    unfold refK
    split
    · unfold refStep
      split
      · exact ih
      · dsimp only; split
        · rw [List.length_set]; exact ih
        · exact ih
    · exact ih
theorem refK_le (R : RDsk) (last : Nat) (keep : List Bool) : ∀ i, (refK R last keep i).2 ≤ i := by
  intro i
  induction i with
  | zero => exact Nat.le_refl _
  | succ i ih =>
    unfold refK
    split
    · unfold refStep refPick
      split
      · omega
      · dsimp only; split <;> dsimp only <;> omega
    · omega
/-- writes lie within the disk -/
def RDsk.Ok (R : RDsk) : Prop := ∀ (i : Nat) (x : Int × List UInt8), R.ev[i]? = some x → x.1 < 0 ∨ ∃ n : Nat, x.1 = (n : Int) ∧ n < R.first.length

theorem rafter_out (w : World) (F : Nat → Prop) (r : Nat) (R : RDsk) (n : Int) (v : Value) (h : RefAt w F r R) (hn : n < 0 ∨ (R.ev.length : Int) < n) :
    Calls Try.prog 23 #[.pointer (some ⟨r, 0, none⟩), .int .i64 n, v] w fun e w' => e = .returned (.tuple #[.pointer none, .int .i64 2]) ∧ w = w' := by
  obtain ⟨Af, cf, Ae, ce, c0, c1, _, _, hlt⟩ := h.cell
  clear h
  by_cases h1 : n < 0
  · clear hn
    go_enter Try.func23, Try.ntmps23
    go_wp2_with fail
    go_ret2
    exact ⟨rfl, rfl⟩
  · have h2 : (R.ev.length : Int) < n := by omega
    clear hn
    go_enter Try.func23, Try.ntmps23
    go_wp2_with fail
    go_ret2
    exact ⟨rfl, rfl⟩

set_option maxRecDepth 100000 in
set_option maxHeartbeats 4000000 in
theorem rafter_ok (w : World) (F G : Nat → Prop) (r n : Nat) (R : RDsk) (A : Option Addr) (mk ck : Nat) (keep : List Bool) (h : RefAt w F r R) (hok : R.Ok) (hn : n ≤ R.ev.length) (hev : R.ev.length ≤ 1000000000) (hf1 : R.first.length ≤ 1000000)
    (hkeep : Sl w G 1 (.slice A mk ck) mk (BL keep)) (hmk : mk ≤ 140737488351232) :
    Calls Try.prog 23 #[.pointer (some ⟨r, 0, none⟩), .int .i64 n, .slice A mk ck] w fun e w' => ∃ o, e = .returned (.tuple #[.pointer (some ⟨o, 0, none⟩), .int .i64 0]) ∧
      RefAt w' (fun b => w.heap.size ≤ b ∧ b < w'.heap.size) o ⟨R.loss n keep, []⟩ ∧ Below w.heap.size w w' := by
  obtain ⟨Af, cf, Ae, ce, c0, c1, hof, hoe, hlt⟩ := h.cell
  have n0 : ¬ (n : Int) < 0 := by omega
  have n1 : ¬ ((R.ev.length : Int) < n) := by omega
  have HH := Lib.hid h
  have HK := Lib.hid hkeep
  have HF := Lib.hid hof
  have HE := Lib.hid hoe
  have HB := Lib.hid (And.intro hn (And.intro hev (And.intro hf1 hmk)))
  have HO := Lib.hid hok
  clear h hkeep hof hoe hn hev hf1 hmk hok
  go_enter Try.func23, Try.ntmps23
  go_wp2_with (at_builtin
               refine wpList_app _ rfl (.tmp 25) (.tmp 29) 51 rfl 9 _ 1 16 Try.underlying51 info9 rfl (by omega) (by omega) (.slice (some ⟨w.heap.size, 0, none⟩) 0 0) 0 [] rfl
                 ?_ _ (.slice Af R.first.length cf) R.first.length (strs R.first) rfl (Sl.of_own (HF.out.alloc _)) (by intro u hu; obtain ⟨b, _, rfl⟩ := List.mem_map.1 hu; rfl) (by have := HB.out.2.2.1; omega) ?_
               rotate_left 1
               intro A1 c1' w1 ho1 hg1 hat1 hnil
               clear hnil
               have hb1 : Below w.heap.size w w1 := ((Below.refl _ _).alloc (Nat.le_refl _) _).grown hg1 (by simp) (by simp [Value.ownBlock])
               have hfr : ∀ b, (Value.slice A1 (0 + R.first.length) c1').ownBlock = some b → w.heap.size ≤ b := by
                 intro b hb
                 rcases hat1 with e | e <;> rw [e] at hb <;> simp [Value.ownBlock] at hb <;> omega
               have H1 := Lib.hid (And.intro ho1 (And.intro hb1 hfr))
               clear ho1 hg1 hat1 hb1 hfr)
  case refine_1 => simpa using own_of_blk (cs := []) (Blk.new w 9 #[]) 1 0 rfl (by simp [maxLen])
  rw [Nat.zero_add] at H1
  obtain ⟨o, ho⟩ : ∃ o, o = w1.heap.size := ⟨_, rfl⟩
  have hst : RefAt (w1.alloc (.cells #[.slice A1 R.first.length c1', .slice none 0 0] 90)) (fun b => w.heap.size ≤ b ∧ b < (w1.alloc (.cells #[.slice A1 R.first.length c1', .slice none 0 0] 90)).heap.size) o ⟨R.first, []⟩ := by
    obtain ⟨k1, k2, k3⟩ := H1.out
    simp only [List.nil_append] at k1
    have hsz := k2.size
    subst ho
    refine ⟨_, _, ⟨hsz, by simp⟩, Blk.new w1 90 _, k1.alloc _, own_nil0 _ _ _, fun b hb => ?_, fun b hb => hb.2⟩
    rcases hb with hb | hb
    · refine ⟨k3 b hb, ?_⟩
      have := own_lt' k1 hb
      simp only [World.size_alloc]; omega
    · simp [Value.ownBlock] at hb
  have HST := Lib.hid (And.intro hst (H1.out.2.1.alloc (H1.out.2.1.size) (.cells #[.slice A1 R.first.length c1', .slice none 0 0] 90)))
  rw [← ho]
  obtain ⟨w2, hw2⟩ : ∃ w2, w2 = w1.alloc (.cells #[.slice A1 R.first.length c1', .slice none 0 0] 90) := ⟨_, rfl⟩
  rw [← hw2] at HST ⊢
  clear hw2 hst H1 ho
  have HEv : Hid (∀ wx, Below w.heap.size w wx → wx.cell? ⟨r, 1, none⟩ = some (.slice Ae R.ev.length ce) ∧ r < wx.heap.size ∧ ∀ i, i < R.ev.length → ∃ b x, Ae = some ⟨b, 0, none⟩ ∧ R.ev[i]? = some x ∧ wx.cell? ⟨b, i * 2, none⟩ = some (.int .i64 x.1) ∧ wx.cell? ⟨b, i * 2 + 1, none⟩ = some (bstr x.2) ∧ b < wx.heap.size) := by
    intro wx hbx
    have hsz := hbx.size
    refine ⟨(hbx.cell (p := ⟨r, 1, none⟩) hlt).trans c1, by omega, fun i hi => ?_⟩
    have hoe := own_below HE.out hbx
    obtain ⟨b, cc, hv, _, hb⟩ := hoe.form (by omega)
    simp only [Value.slice.injEq] at hv
    obtain ⟨rfl, hx, rfl⟩ := hv
    obtain ⟨x, hx⟩ : ∃ x, R.ev[i]? = some x := ⟨_, List.getElem?_eq_getElem (by omega)⟩
    obtain ⟨g1, g2⟩ := EV_get hx
    have q1 := hoe.cells rfl _ _ g1
    have q2 := hoe.cells rfl _ _ g2
    rw [add_lit0, Nat.zero_add] at q1 q2
    exact ⟨b, x, rfl, hx, q1, q2, hb⟩
  obtain ⟨L, hL⟩ : ∃ L, L = R.ev.length := ⟨_, rfl⟩
  rw [← hL] at HEv HB
  have hnL : n ≤ L := HB.out.1
  have hLb : L ≤ 1000000000 := HB.out.2.1
  clear c0 c1 n0 n1 HE HF hL
  go_wp2_with fail
  go_loopg [9, 10] n (fun kq lv i wr => ∃ j : Nat, i = .int .i64 j ∧ j ≤ n ∧ kq = n - j ∧ lv = .int .i64 (lastR R.ev j) ∧ wr = w2)
  case atStart => exact ⟨0, rfl, by omega, rfl, rfl, rfl⟩
  case round =>
    obtain ⟨j, rfl, hj, rfl, rfl, rfl⟩ := hrel
    by_cases hlt1 : j < n
    · obtain ⟨e1, hrl, hget⟩ := HEv.out wr HST.out.2
      obtain ⟨b, x, hAe, hx, q1, q2, hb⟩ := hget j (by omega)
      subst hAe
      have hjL : j < L := by omega
      have hjI : (j : Int) < (L : Int) := by omega
      by_cases hneg : x.1 < 0
      · have HL : Hid (lastR R.ev (j + 1) = j) := by
          have e : lastR R.ev (j + 1) = j := by simp [lastR, hx, hneg]
          exact e
        clear hget hx
        go_wp2_with fail
        go_roundg (n - (j + 1))
        case measure => omega
        case rel => exact ⟨j + 1, by go_num, by omega, rfl, by rw [HL.out], rfl⟩
      · have HL : Hid (lastR R.ev (j + 1) = lastR R.ev j) := by
          have e : lastR R.ev (j + 1) = lastR R.ev j := by simp [lastR, hx, hneg]
          exact e
        clear hget hx
        go_wp2_with fail
        go_roundg (n - (j + 1))
        case measure => omega
        case rel => exact ⟨j + 1, by go_num, by omega, rfl, by rw [HL.out], rfl⟩
    · obtain rfl : j = n := by omega
      obtain ⟨L0, hL0⟩ : ∃ L0, L0 = lastR R.ev j := ⟨_, rfl⟩
      rw [← hL0]
      have HL0 := Lib.hid hL0
      clear hL0
      go_wp2_with fail
      go_loopg [11, 12] j (fun kq kv i wq => ∃ (q : Nat) (F2 : Nat → Prop), i = .int .i64 q ∧ q ≤ j ∧ kq = j - q ∧ kv = .int .i64 ((refK R L0 keep q).2 : Nat) ∧ Hid (RefAt wq F2 o ⟨(refK R L0 keep q).1, []⟩ ∧ (∀ b, F2 b → w.heap.size ≤ b)) ∧ Hid (Below w.heap.size w wq))
      case atStart => exact ⟨0, _, rfl, by omega, rfl, rfl, Lib.hid ⟨HST.out.1, fun b hb => hb.1⟩, HST.out.2⟩
      case round =>
        obtain ⟨q, F2, rfl, hq, rfl, rfl, hR, hB⟩ := hrel
        by_cases hlt2 : q < j
        · obtain ⟨e1, hrl, hget⟩ := HEv.out wr hB.out
          obtain ⟨b, x, hAe, hx, q1, q2, hb⟩ := hget q (by omega)
          subst hAe
          have hqL : q < L := by omega
          have hqI : (q : Int) < (L : Int) := by omega
          have HS : Hid (refK R L0 keep (q + 1) = refStep L0 q keep x (refK R L0 keep q)) := by
            have e : refK R L0 keep (q + 1) = refStep L0 q keep x (refK R L0 keep q) := by simp only [refK, hx]
            exact e
          have HX := Lib.hid hx
          clear hget hx
          by_cases hneg : x.1 < 0
          · have HS2 : Hid (refK R L0 keep (q + 1) = refK R L0 keep q) := by
              have e : refStep L0 q keep x (refK R L0 keep q) = refK R L0 keep q := by simp [refStep, hneg]
              exact Lib.hid (HS.out.trans e)
            go_wp2_with fail
            go_roundg (j - (q + 1))
            case measure => omega
            case rel => exact ⟨q + 1, F2, by go_num, by omega, rfl, by rw [HS2.out], by rw [HS2.out]; exact hR, hB⟩
          · obtain ⟨nn, hnn, hnl⟩ : ∃ nn : Nat, x.1 = (nn : Int) ∧ nn < R.first.length := (HO.out q x HX.out).resolve_left hneg
            obtain ⟨xn, xb⟩ := x
            simp only at hnn q1 q2 hneg
            subst hnn
            obtain ⟨st, hst⟩ : ∃ st, st = refK R L0 keep q := ⟨_, rfl⟩
            rw [← hst] at hR HS ⊢
            have hkq : st.2 ≤ q := by rw [hst]; exact refK_le _ _ _ _
            have hsl : st.1.length = R.first.length := by rw [hst]; exact refK_length _ _ _ _
            clear hst
            obtain ⟨s1, kk⟩ := st
            simp only at hkq hsl hR ⊢
            go_upto_if 66 with fail
            go_cut [11, 13] (fun kv sv wx => wx = wr ∧ ∃ (k2 : Nat) (s : Bool), kv = .int .i64 k2 ∧ sv = .bool s ∧ Hid (refPick L0 q keep kk = (s, k2)))
            case first =>
              by_cases hql : q < L0
              · have hqi : (q : Int) < (L0 : Int) := by omega
                have hqd : decide (q < L0) = true := by simp [hql]
                have HP : Hid (refPick L0 q keep kk = (true, kk)) := by
                  have e : refPick L0 q keep kk = (true, kk) := by simp [refPick, hql]
                  exact e
                simp only [hqd, Bool.not_true]
                go_wp2_with fail
                go_meet
                exact ⟨rfl, kk, true, rfl, rfl, HP⟩
              · have hqi : ¬ (q : Int) < (L0 : Int) := by omega
                have hqd : decide (q < L0) = false := by simp [hql]
                simp only [hqd, Bool.not_false]
                have hk1 : IntKind.i64.wrap ((kk : Int) + 1) = ((kk + 1 : Nat) : Int) := by rw [IntKind.wrap_i64]; omega
                by_cases hkm : kk < mk
                · obtain ⟨gk, ok, hA, hc⟩ : ∃ gk ok, A = some ⟨gk, ok, none⟩ ∧ ∃ bb, keep[kk]? = some bb ∧ wr.cell? ⟨gk, ok + kk, none⟩ = some (.bool bb) := by
                    obtain ⟨hkl, A', c', hv, _, hrd⟩ := HK.out
                    simp only [Value.slice.injEq] at hv
                    obtain ⟨rfl, _, rfl⟩ := hv
                    obtain ⟨ad, hA, hF, hc⟩ := hrd (by omega)
                    have hkl2 : keep.length = mk := by simpa [BL] using hkl
                    have hb : keep[kk]? = some (keep[kk]'(by omega)) := List.getElem?_eq_getElem (by omega)
                    have h3 := hc kk (.bool (keep[kk]'(by omega))) (by simp [BL, hb])
                    obtain ⟨bb, oo, ss⟩ := ad
                    have hs : ss = none := by
                      have := hc 0 (.bool (keep[0]'(by omega))) (by simp [BL])
                      simpa [Addr.add] using World.cell?_spot this
                    subst hs
                    rw [add_lit0] at h3
                    have hbl : bb < w.heap.size := World.block_lt_of_cell? _ _ h3
                    exact ⟨bb, oo, hA, _, hb, (hB.out.cell (p := ⟨bb, _, none⟩) hbl).trans h3⟩
                  obtain ⟨bb, hkb, hcell⟩ := hc
                  subst hA
                  have hki : (kk : Int) < (mk : Int) := by omega
                  have hkd : decide (kk < mk) = true := by simp [hkm]
                  have HP : Hid (refPick L0 q keep kk = (bb, kk + 1)) := by
                    have e : refPick L0 q keep kk = (bb, kk + 1) := by simp [refPick, hql, hkb]
                    exact e
                  have hgl : gk < wr.heap.size := World.block_lt_of_cell? _ _ hcell
                  clear hkb
                  go_wp2_with fail
                  all_goals go_meet
                  all_goals exact ⟨rfl, kk + 1, _, by go_num, rfl, HP⟩
                · have hki : ¬ (kk : Int) < (mk : Int) := by omega
                  have hkd : decide (kk < mk) = false := by simp [hkm]
                  have HP : Hid (refPick L0 q keep kk = (false, kk + 1)) := by
                    have hkl : keep.length = mk := by have := HK.out.1; simpa [BL] using this
                    have e : refPick L0 q keep kk = (false, kk + 1) := by simp [refPick, hql, List.getElem?_eq_none (show keep.length ≤ kk by omega)]
                    exact e
                  go_wp2_with fail
                  go_meet
                  exact ⟨rfl, kk + 1, false, by go_num, rfl, HP⟩
            case rest =>
              obtain ⟨rfl, k2, s, rfl, rfl, hP⟩ := hcut
              cases s
              · have HS2 : Hid (refK R L0 keep (q + 1) = (s1, k2)) := by
                  have e : refStep L0 q keep ((nn : Int), xb) (s1, kk) = (s1, k2) := by rw [refStep, if_neg hneg]; simp [hP.out]
                  exact Lib.hid (HS.out.trans e)
                go_wp2_with fail
                go_roundg (j - (q + 1))
                case measure => omega
                case rel => exact ⟨q + 1, F2, by go_num, by omega, rfl, by rw [HS2.out], by rw [HS2.out]; exact hR, hB⟩
              · have HS2 : Hid (refK R L0 keep (q + 1) = (s1.set nn xb, k2)) := by
                  have e : refStep L0 q keep ((nn : Int), xb) (s1, kk) = (s1.set nn xb, k2) := by rw [refStep, if_neg hneg]; simp [hP.out]
                  exact Lib.hid (HS.out.trans e)
                obtain ⟨Af2, cf2, Ae2, ce2, d0, d1, hof2, hoe2, hlo⟩ := hR.out.1.cell
                simp only at d0 hof2
                obtain ⟨gf, cf', hfv, _, hgfl⟩ := hof2.form (by omega)
                simp only [Value.slice.injEq] at hfv
                obtain ⟨rfl, hx, rfl⟩ := hfv
                clear hx d1
                have hni : (nn : Int) < (s1.length : Int) := by omega
                obtain ⟨l1, hl1⟩ : ∃ l1, l1 = s1.length := ⟨_, rfl⟩
                rw [← hl1] at d0 hni
                have hn1 : nn < l1 := by omega
                have HOF := Lib.hid hof2
                have HL1 := Lib.hid hl1
                have HSL := Lib.hid hsl
                have HDR := Lib.hid (HEv.out wc.drew hB.out.drew)
                have d0d : wc.drew.cell? ⟨o, 0, none⟩ = some (.slice (some ⟨gf, 0, none⟩) l1 cf2) := d0
                have e1d : wc.drew.cell? ⟨r, 1, none⟩ = some (.slice (some ⟨b, 0, none⟩) L ce) := e1
                have q1d : wc.drew.cell? ⟨b, q * 2, none⟩ = some (.int .i64 nn) := q1
                have q2d : wc.drew.cell? ⟨b, q * 2 + 1, none⟩ = some (bstr xb) := q2
                obtain ⟨s0, hs0⟩ : ∃ s0, s1[nn]? = some s0 := ⟨_, List.getElem?_eq_getElem (by omega)⟩
                have cs : wc.drew.cell? ⟨gf, nn, none⟩ = some (bstr s0) := by
                  have := hof2.cells rfl nn (bstr s0) (by simp only [strs, List.getElem?_map, hs0]; rfl)
                  rw [add_lit0, Nat.zero_add] at this
                  exact this
                have fz : wc.drew.frozen? ⟨gf, nn, none⟩ = false := hof2.frozenAt nn
                clear hof2 hoe2 hl1 hsl hs0 d0 e1 q1 q2
                go_upto_region 20 with fail
                try simp only [Act.put, List.setIfInBounds_toArray, List.set_cons_zero, List.set_cons_succ]
                obtain ⟨Inv, hInv⟩ : ∃ Inv : Done → World → Prop, Inv = Chain1 21 (fun wI => wI = wc.drew) (fun x wI => wI = wc.drew.setCell ⟨gf, nn, none⟩ (bstr xb)) := ⟨_, rfl⟩
                have HI := Lib.hid hInv
                have H00 : Hid (Inv Done.none wc.drew) := by rw [hInv]; exact Chain1.start rfl
                clear hInv
                refine wp_region_inv (by kernel_rfl) [⟨0, false, [], [21]⟩, ⟨1, false, [], [21]⟩, ⟨2, false, [], [21]⟩, ⟨3, false, [], [21]⟩, ⟨4, false, [], [21]⟩, ⟨5, false, [], [21]⟩, ⟨6, false, [], [21]⟩, ⟨7, false, [], [21]⟩, ⟨8, false, [], [21]⟩, ⟨9, false, [], [21]⟩, ⟨10, false, [], [21]⟩, ⟨11, false, [], [21]⟩, ⟨12, false, [], [21]⟩, ⟨13, false, [], [21]⟩, ⟨14, false, [], [21]⟩, ⟨15, false, [], [21]⟩, ⟨16, false, [], [21]⟩, ⟨17, false, [], [21]⟩, ⟨18, false, [], [21]⟩, ⟨19, false, [], [21]⟩, ⟨20, false, [], [21]⟩, ⟨21, true, [], []⟩] (by kernel_rfl) Inv (fun _ _ => True) (fun _ => ⟨undef, trivial⟩) H00.out ?_
                iterate 21 (apply WpI.pure; (simp only [List.getElem?_toArray, List.getElem?_cons_succ, List.getElem?_cons_zero]; rfl); (intro τ wI hA hI; have h0 := hI; rw [HI.out] at h0; have h0 := h0.at0 (hA.2 21 (by decide)); subst h0; clear hA; go_simp; exact ⟨hI, Is.rfl'⟩); simp only [Act.put, List.setIfInBounds_toArray, List.set_cons_zero, List.set_cons_succ])
                apply WpI.effect; (simp only [List.getElem?_toArray, List.getElem?_cons_succ, List.getElem?_cons_zero]; rfl)
                · intro τ wI hA hn hI
                  have h0 := hI
                  rw [HI.out] at h0
                  have h0 := h0.at0 hn
                  subst h0
                  clear hA hn hI
                  go_simp
                  rw [HI.out]
                  exact Chain1.put1 rfl
                intro v21 hv21
                clear hv21
                refine WpI.done ?_
                intro wI hI
                rw [HI.out] at hI
                have hI := hI.end_
                subst hI
                have hRn : Hid (RefAt (wc.drew.setCell ⟨gf, nn, none⟩ (bstr xb)) F2 o ⟨s1.set nn xb, []⟩ ∧ Below w.heap.size w (wc.drew.setCell ⟨gf, nn, none⟩ (bstr xb))) := by
                  obtain ⟨k1, k2⟩ := hR.out.1.drew.setF (g := gf) (c := cf2) (by rw [← HL1.out]; exact d0d) nn xb
                  exact Lib.hid ⟨k1, hB.out.drew.trans (k2.below hB.out.drew.size hR.out.2)⟩
                clear hB HDR cs fz d0d e1d q1d q2d HOF
                have hFb := Lib.hid hR.out.2
                clear hR
                go_wp2_with fail
                go_roundg (j - (q + 1))
                case measure => omega
                case rel => exact ⟨q + 1, F2, by go_num, by omega, rfl, by rw [HS2.out], by rw [HS2.out]; exact Lib.hid ⟨hRn.out.1, hFb.out⟩, hRn.out.2⟩
        · obtain rfl : q = j := by omega
          have HE2 : Hid (R.loss q keep = (refK R L0 keep q).1) := by
            have e : R.loss q keep = (refK R L0 keep q).1 := by unfold RDsk.loss; rw [HL0.out]
            exact e
          go_wp2_with fail
          go_ret2
          refine ⟨o, rfl, ?_, hB.out⟩
          rw [HE2.out]
          have hlt := fun b => hR.out.1.lt (b := b)
          exact hR.out.1.mono (fun b hb => ⟨hR.out.2 b hb, hlt b hb⟩) (fun b hb => hb.2)
end Go.Proofs.Ytjdobjcbmmdjeaa
