/- VersionSorts: the walk. -/
import Derived.Test.YteeijjhgdplifaaDoorY1
namespace Go.Proofs.YteeijjhgdplifaaDoor
open Go.RowKit

/-- A copy of a row of texts. -/
theorem copy_strs {w : World} {F : Nat → Prop} {A : Option Addr} {n c : Nat} {X : List (List UInt8)} (hn : X.length = n) (hX : n ≤ 1000000) (h : Sl w F 1 (.slice A n c) n (strsL X)) :
    ∃ A' c' w', (Builtin.append_ #[54, 54] 54 #[.slice (some ⟨w.heap.size, 0, none⟩) 0 0, .slice A n c]).run Tryd.prog (w.alloc (.cells #[] 9)) = .ok (.slice A' n c') w' ∧ LS w' w.heap.size A' c' X ∧ Below w.heap.size w w' := by
  have hb : Below w.heap.size w (w.alloc (.cells #[] 9)) := (Below.refl _ _).alloc (Nat.le_refl _) _
  have ho : (w.alloc (.cells #[] 9)).ownsRow 0 9 1 (.slice (some ⟨w.heap.size, 0, none⟩) 0 0) 0 [] := own_of_blk (Blk.new w 9 #[]) 1 0 rfl (Nat.zero_le _)
  obtain ⟨A7, c7, w7, hap, o7, gr7, a7, _⟩ := run_app (P := Tryd.prog) _ 54 54 9 (.string ⟨#[]⟩) 1 16 Tryd.underlying54 infoStr rfl (by decide) (by decide) (.slice (some ⟨w.heap.size, 0, none⟩) 0 0) 0 [] ho F (.slice A n c) n (strsL X) (h.below (by decide) hb) (strsL_one _) (by omega)
  rw [Nat.zero_add] at hap o7 a7
  refine ⟨A7, c7, w7, hap, ⟨by rw [hn]; exact o7, fun b hb' => ?_⟩, ?_⟩
  · have hb7 : ob A7 = some b := (ownBlock_len _ _ _ _ _).trans hb'
    rcases a7 with h1 | h1
    · have h2 : ob A7 = some w.heap.size := (ownBlock_len _ _ _ _ _).trans (h1.trans rfl)
      rw [h2] at hb7; injection hb7 with hb7; omega
    · have h2 : ob A7 = some (w.heap.size + 1) := (ownBlock_len _ _ _ _ _).trans (h1.trans (by simp))
      rw [h2] at hb7; injection hb7 with hb7; omega
  · exact hb.trans ⟨gr7.os, gr7.tape, gr7.output, by have h1 := gr7.size; have h2 := hb.size; omega, fun b hb' => gr7.block b (by have := hb.size; omega) (fun e => by have e' : b = w.heap.size := Option.some.inj (e.trans rfl); omega)⟩

theorem vle_refl (x : List UInt8) : vle x x = true := pre_refl vle_pre x
theorem vsort_perm (X : List (List UInt8)) : (vsort X).Perm X := by
  unfold vsort
  exact ((srt_perm _).append_right _).trans (List.filter_append_perm good X)
theorem vsort_good {X : List (List UInt8)} {i : Nat} {x : List UInt8} (h : (vsort X)[i]? = some x) : good x = decide (i < (X.filter good).length) := by
  unfold vsort at h
  by_cases hi : i < (X.filter good).length
  · rw [List.getElem?_append_left (by rw [srt_length]; exact hi)] at h
    have := (srt_perm _).mem_iff.1 (List.mem_of_getElem? h)
    rw [(List.mem_filter.1 this).2, decide_eq_true hi]
  · rw [List.getElem?_append_right (by rw [srt_length]; omega)] at h
    have := (List.mem_filter.1 (List.mem_of_getElem? h)).2
    rw [decide_eq_false hi]
    simpa using this
theorem vsort_falls {X : List (List UInt8)} {i : Nat} {x y : List UInt8} (hy : (vsort X)[i]? = some y) (hx : (vsort X)[i + 1]? = some x) (hg : good x = true) : ¬ (rv y).1.cmp (rv x).1 < 0 := by
  have h1 := vsort_good hx
  rw [hg] at h1
  have h2 : i + 1 < (X.filter good).length := of_decide_eq_true h1.symm
  unfold vsort at hx hy
  rw [List.getElem?_append_left (by rw [srt_length]; omega)] at hx hy
  have := ris_get vle_pre (srt_ris vle_pre (X.filter good)) hy hx (by omega) vle_refl
  rw [vle_iff] at this
  omega
theorem vsort_idem (X : List (List UInt8)) : vsort (vsort X) = vsort X := by
  have e1 : (vsort X).filter good = srt vle (X.filter good) := by
    unfold vsort
    rw [List.filter_append, List.filter_filter]
    have h1 : (srt vle (X.filter good)).filter good = srt vle (X.filter good) := List.filter_eq_self.2 fun x hx => (List.mem_filter.1 ((srt_perm _).mem_iff.1 hx)).2
    rw [h1, show (fun a => good a && !good a) = fun _ => false from funext fun a => by cases good a <;> rfl]
    simp
  have e2 : (vsort X).filter (fun x => !good x) = X.filter (fun x => !good x) := by
    unfold vsort
    rw [List.filter_append, List.filter_filter]
    have h1 : (srt vle (X.filter good)).filter (fun x => !good x) = [] := List.filter_eq_nil_iff.2 fun x hx => by
      have := (List.mem_filter.1 ((srt_perm _).mem_iff.1 hx)).2
      simp [this]
    rw [h1, List.nil_append, show (fun a => !good a && !good a) = fun a => !good a from funext fun a => by cases good a <;> rfl]
  unfold vsort at e1 e2 ⊢
  rw [e1, e2, srt_fix (srt_ris vle_pre _)]
theorem count_snoc (X : List (List UInt8)) (z : List UInt8) {i : Nat} {x : List UInt8} (hx : X[i]? = some x) : (X.take (i + 1)).count z = (X.take i).count z + if x = z then 1 else 0 := by
  obtain ⟨h1, h2⟩ := List.getElem?_eq_some_iff.1 hx
  rw [List.take_succ_eq_append_getElem h1, h2, List.count_append]
  congr 1
  by_cases h : x = z
  · simp [h]
  · rw [if_neg h]; simp [List.count_cons, h]
def TvIs (tv : Bool) (i r : Nat) : Prop := tv = true ↔ (0 < i ∧ i < r)
/-- What a world of the call's own reads of two rows. -/
def Reads (wB : World) (b o : Nat) (X : List (List UInt8)) : Prop := ∀ wr, Below wB.heap.size wB wr → ∀ j s, X[j]? = some s → wr.cell? ⟨b, o + j, none⟩ = some (.string (bl s))
theorem reads_of {w : World} {F : Nat → Prop} {A : Option Addr} {n c : Nat} {X : List (List UInt8)} (h : Sl w F 1 (.slice A n c) n (strsL X)) (hn : 0 < n) : ∃ b o, A = some ⟨b, o, none⟩ ∧ Reads w b o X := by
  obtain ⟨b, o, hA, _, hc⟩ := strsL_spot h hn
  refine ⟨b, o, hA, fun wr hb j s hj => ?_⟩
  have := hc j s hj
  exact (hb.cell (p := ⟨b, o + j, none⟩) (World.block_lt_of_cell? w _ this)).trans this

set_option maxRecDepth 100000 in
set_option maxHeartbeats 8000000 in
theorem versionSorts_walk (X : List (List UInt8)) (n : Nat) (hn : X.length = n) (hsh : n ≤ 150 → Short X) (F : Nat → Prop) (A0 : Option Addr) (c0 : Nat) (w : World) (hg : GV w) (hs : Sl w F 1 (.slice A0 n c0) n (strsL X)) :
    Calls Tryd.prog 8 #[.slice A0 n c0] w fun e w' => e = .returned (.bool true) ∧ Below w.heap.size w w' := by
  by_cases hbig : 150 < n
  · have hbI : (150 : Int) < (n : Int) := by omega
    clear hn hsh hg hs
    go_enter Tryd.func8, Tryd.ntmps8
    go_wp2_with fail
    go_ret
    exact ⟨rfl, Below.refl _ _⟩
  have hbI : ¬ (150 : Int) < (n : Int) := by omega
  obtain ⟨A1, c1, w1, hap1, hl1, hb1⟩ := copy_strs hn (by omega) hs
  have hl1s := hl1.own
  have hSX : Short X := hsh (by omega)
  have hY : Short (vsort X) := hSX.perm (vsort_perm X)
  have HSORT := Lib.hid (vsort_ok X n hn hSX (by omega) _ A1 c1 w1 (hg.below hb1) (by have := hl1.sl; rw [hn] at this; exact this))
  have HN := Lib.hid hn
  have HSX := Lib.hid hSX
  have HYS := Lib.hid hY
  have HG := Lib.hid hg
  have HSL := Lib.hid (hs.below (by decide) hb1)
  have HAP1 := Lib.hid hap1
  have HB1 := Lib.hid hb1
  have HI6 : Hid ((Tryd.prog.info? 24).map (·.size) = some 6) := Lib.hid (by kernel_rfl)
  have hn150 : n ≤ 150 := by omega
  clear hn hsh hg hs hap1 hl1 hl1s hb1 hSX hY hbig
  go_enter Tryd.func8, Tryd.ntmps8
  go_wp2_with (at_builtin; refine wpList_app_run _ rfl (.tmp 19) (.tmp 20) 54 54 rfl _ _ rfl rfl _ _ HAP1.out ?_)
  refine (HSORT.out).mono ?_
  rintro e wB hpost
  obtain ⟨A3, c3, rfl, hl3, hb3⟩ := hpost
  obtain ⟨Y, hY⟩ : ∃ Y, Y = vsort X := ⟨_, rfl⟩
  rw [← hY] at hl3
  have hYn : Y.length = n := by rw [hY, vsort_length]; exact HN.out
  have HYY := Lib.hid hY
  have HYN := Lib.hid hYn
  have hsl3 := hl3.sl
  rw [hYn] at hsl3
  have HSLX := Lib.hid (HSL.out.below (by decide) hb3)
  have HSLY := Lib.hid hsl3
  have HBB : Hid (Below w.heap.size w wB) := Lib.hid (HB1.out.trans (hb3.mono HB1.out.size))
  have HGB : Hid (GV wB) := Lib.hid (HG.out.below HBB.out)
  have HYSH : Hid (Short Y) := Lib.hid (by rw [hY]; exact HYS.out)
  obtain ⟨r, hr⟩ : ∃ r, r = (X.filter good).length := ⟨_, rfl⟩
  have HRR := Lib.hid hr
  have HB0 : Hid (Below wB.heap.size wB wB) := Lib.hid (Below.refl _ _)
  have e0 : decide (r < 0) = false := by simp
  have HE0 := Lib.hid e0
  have nn1 : (n == n) = true := beq_self_eq_true _
  have nn2 : ((n : Int) == (n : Int)) = true := beq_self_eq_true _
  clear hY hYn hl3 hb3 hsl3 hr HSORT HAP1 HSL HYS e0
  go_wp2_with fail
  go_loopg [5, 4] n (fun kq iv rv' wr => ∃ (i : Nat) (b : Bool), iv = .int .i64 i ∧ rv' = .bool b ∧ i ≤ n ∧ kq = n - i ∧ Hid (b = decide (r < i)) ∧ Hid (Below wB.heap.size wB wr))
  case atStart => exact ⟨0, false, rfl, rfl, Nat.zero_le _, rfl, Lib.hid HE0.out.symm, HB0⟩
  case round =>
  clear HB0 HE0 nn1 nn2
  obtain ⟨i, b, rfl, rfl, hi, rfl, HBR, HB⟩ := hrel
  by_cases hlt : i < n
  · have hltI : (i : Int) < (n : Int) := by omega
    have hi0 : 0 ≤ (i : Int) := by omega
    obtain ⟨b0, o0, rfl, hrx⟩ := reads_of HSLX.out (by omega)
    obtain ⟨b3, o3, rfl, hry⟩ := reads_of HSLY.out (by omega)
    have HRX := Lib.hid hrx
    have HRY := Lib.hid hry
    obtain ⟨x, hx⟩ : ∃ x, Y[i]? = some x := ⟨_, List.getElem?_eq_getElem (by have := HYN.out; omega)⟩
    have cx := hry wr HB.out i x hx
    have HXI := Lib.hid hx
    have HXL : Hid ((bl x).size ≤ 4000000000) := Lib.hid (by rw [bl_size]; exact HYSH.out.get hx)
    have HGR := Lib.hid (HGB.out.below HB.out)
    have hgd : good x = decide (i < r) := by rw [HYY.out] at hx; rw [HRR.out]; exact vsort_good hx
    obtain ⟨Vx, hVx⟩ : ∃ Vx, Vx = (rv x).1 := ⟨_, rfl⟩
    obtain ⟨ex, hex⟩ : ∃ ex, ex = (rv x).2 := ⟨_, rfl⟩
    have HVx := Lib.hid hVx
    have HEx := Lib.hid hex
    have HVOx : Hid Vx.Ok := Lib.hid (by rw [hVx]; exact rv_okv _)
    have HIVx : Hid ((Tryd.prog.info? 24).map (·.size) = some Vx.cells.toArray.size) := Lib.hid (by rw [Ver.cells_size HVOx.out]; exact HI6.out)
    have HZVx : Hid (Ver.zero.cells.toArray.size = Vx.cells.toArray.size) := Lib.hid (by rw [Ver.cells_size HVOx.out]; rfl)
    clear hVx hex
    have HVE : Hid (ex = 0 ↔ i < r) := Lib.hid (by
      rw [HEx.out]
      unfold good at hgd
      constructor
      · intro h; rw [h] at hgd; exact of_decide_eq_true hgd.symm
      · intro h; rw [decide_eq_true h] at hgd; simpa using hgd)
    clear hrx hry hx hgd
    go_wp2_with fail
    refine (parse_ok (bl x) HXL.out wr HGR.out).mono ?_
    rintro e wxa ⟨rfl, hbxa⟩
    rw [bl_data, ← HVx.out, ← HEx.out]
    obtain ⟨gx, hgx⟩ : ∃ gx, gx = wxa.heap.size := ⟨_, rfl⟩
    obtain ⟨w2, hwx⟩ : ∃ w2, w2 = (wxa.alloc (.cells #[.int .i64 0, .int .i64 0, .int .i64 0, .int .i64 0, .int .i64 0, .string ⟨#[]⟩] 24)).setRow gx Vx.cells.toArray := ⟨_, rfl⟩
    have qx := laid_ver wxa Vx 24
    have bbx : Below wxa.heap.size wxa w2 := by rw [hwx, hgx]; exact qx.2
    have HZx : Hid ((wxa.alloc (.cells #[.int .i64 0, .int .i64 0, .int .i64 0, .int .i64 0, .int .i64 0, .string ⟨#[]⟩] 24)).heap[gx]? = some (.cells Ver.zero.cells.toArray 24 (0, 0))) := Lib.hid (by rw [hgx]; exact heap_alloc_new _ _)
    have HQx : Hid (Blk w2 gx 24 Vx.cells) := Lib.hid (by rw [hwx, hgx]; exact qx.1)
    have HBWx : Hid (Below wr.heap.size wr w2) := Lib.hid (hbxa.trans (bbx.mono hbxa.size))
    have HBNx : Hid (Below wB.heap.size wB w2) := Lib.hid (HB.out.trans (HBWx.out.mono HB.out.size))
    have HGx := Lib.hid hgx
    have HWx := Lib.hid hwx
    clear hgx hwx qx bbx hbxa
    rw [show Vx.val = .agg Vx.cells.toArray from rfl]
    go_upto_region 11 with (refine wpList_store_row rfl 24 (.tmp 6) (.tmp 40) rfl gx Vx.cells.toArray (by rw [HGx.out]; rfl) rfl _ _ HZx.out HIVx.out HZVx.out (Ver.cells_one _) ?_)
    rw [← HGx.out, ← HWx.out]
    clear cx
    go_cut [46] (fun v wx => wx = w2 ∧ v = .bool false)
    case first =>
      have hb := HBR.out
      have hve := HVE.out
      by_cases hir : i < r
      · have e1 : ex = 0 := hve.2 hir
        have e2 : b = false := by rw [hb]; exact decide_eq_false (by omega)
        subst e1
        subst e2
        clear hb hve
        go_wp2_with fail
        go_meet
        exact ⟨rfl, rfl⟩
      · have e1 : ¬ ex = 0 := fun h => hir (hve.1 h)
        have e3 : (ex == 0) = false := by simpa using e1
        clear hb hve
        cases b with
        | true =>
          go_wp2_with fail
          go_meet
          exact ⟨rfl, rfl⟩
        | false =>
          go_wp2_with fail
          go_meet
          exact ⟨rfl, rfl⟩
    case rest =>
    obtain ⟨hcw, rfl⟩ := hcut
    obtain rfl : w2 = _ := hcw.symm
    go_upto_region 13 with fail
    go_cut [4] (fun v wx => wx = w2 ∧ v = .bool (decide (r < i + 1)))
    case first =>
      have hb := HBR.out
      have hve := HVE.out
      by_cases hir : i < r
      · have e1 : ex = 0 := hve.2 hir
        have e2 : b = false := by rw [hb]; exact decide_eq_false (by omega)
        have e4 : Hid (decide (r < i + 1) = false) := Lib.hid (decide_eq_false (by omega))
        subst e1
        subst e2
        clear hb hve
        go_wp2_with fail
        go_meet
        exact ⟨rfl, by rw [e4.out]⟩
      · have e1 : ¬ ex = 0 := fun h => hir (hve.1 h)
        have e3 : (ex == 0) = false := by simpa using e1
        have e4 : Hid (decide (r < i + 1) = true) := Lib.hid (decide_eq_true (by omega))
        clear hb hve
        cases b with
        | true =>
          go_wp2_with fail
          go_meet
          exact ⟨rfl, by rw [e4.out]⟩
        | false =>
          go_wp2_with fail
          go_meet
          exact ⟨rfl, by rw [e4.out, bne, e3]; rfl⟩
    case rest =>
    obtain ⟨hcw, rfl⟩ := hcut
    obtain rfl : w2 = _ := hcw.symm
    obtain ⟨b2, hb2⟩ : ∃ b2, b2 = decide (r < i + 1) := ⟨_, rfl⟩
    rw [← hb2]
    have HB2 := Lib.hid hb2
    clear hb2
    go_upto_region 14 with fail
    go_cut [57] (fun v wx => ∃ tv : Bool, v = .bool tv ∧ wx = w2 ∧ Hid (TvIs tv i r))
    case first =>
      have hve := HVE.out
      by_cases hi0' : i = 0
      · subst hi0'
        have H : Hid (TvIs false 0 r) := Lib.hid (by simp [TvIs])
        clear hve
        go_wp2_with fail
        go_meet
        exact ⟨false, rfl, rfl, H⟩
      · have hiI : (0 : Int) < (i : Int) := by omega
        by_cases hir : i < r
        · have e1 : ex = 0 := hve.2 hir
          have H : Hid (TvIs true i r) := Lib.hid (by simp [TvIs]; omega)
          subst e1
          clear hve
          go_wp2_with fail
          go_meet
          exact ⟨true, rfl, rfl, H⟩
        · have e1 : ¬ ex = 0 := fun h => hir (hve.1 h)
          have e3 : (ex == 0) = false := by simpa using e1
          have H : Hid (TvIs false i r) := Lib.hid (by simp [TvIs]; omega)
          clear hve
          go_wp2_with fail
          go_meet
          exact ⟨false, rfl, rfl, H⟩
    case rest =>
    obtain ⟨tv, rfl, hcw, HTV⟩ := hcut
    obtain rfl : w2 = _ := hcw.symm
    go_upto_if 57 with fail
    go_cut [8] (fun v wx => Hid (Below wB.heap.size wB wx))
    case first =>
      cases tv with
      | false =>
        go_wp2_with fail
        go_meet
        exact HBNx
      | true =>
        obtain ⟨hi1, hir⟩ := (show TvIs true i r from HTV.out).1 rfl
        obtain ⟨j, hj⟩ : ∃ j, i = j + 1 := ⟨i - 1, by omega⟩
        have wj : IntKind.i64.wrap ((i : Int) - 1) = (j : Int) := wr_eq (by omega) (by omega)
        have hjI : (j : Int) < (n : Int) := by omega
        have hj0 : 0 ≤ (j : Int) := by omega
        obtain ⟨y, hy⟩ : ∃ y, Y[j]? = some y := ⟨_, List.getElem?_eq_getElem (by have := HYN.out; omega)⟩
        have cy := HRY.out w2 HBNx.out j y hy
        have HYL : Hid ((bl y).size ≤ 4000000000) := Lib.hid (by rw [bl_size]; exact HYSH.out.get hy)
        have HG2 := Lib.hid (HGB.out.below HBNx.out)
        have hcmp : ¬ (rv y).1.cmp (rv x).1 < 0 := by
          have hx := HXI.out
          rw [HYY.out] at hx hy
          rw [hj] at hx
          refine vsort_falls hy hx ?_
          rw [vsort_good hx, decide_eq_true]
          rw [← HRR.out]; omega
        obtain ⟨Vy, hVy⟩ : ∃ Vy, Vy = (rv y).1 := ⟨_, rfl⟩
        obtain ⟨ey, hey⟩ : ∃ ey, ey = (rv y).2 := ⟨_, rfl⟩
        have HVy := Lib.hid hVy
        have HEy := Lib.hid hey
        have HVOy : Hid Vy.Ok := Lib.hid (by rw [hVy]; exact rv_okv _)
        have HIVy : Hid ((Tryd.prog.info? 24).map (·.size) = some Vy.cells.toArray.size) := Lib.hid (by rw [Ver.cells_size HVOy.out]; exact HI6.out)
        have HZVy : Hid (Ver.zero.cells.toArray.size = Vy.cells.toArray.size) := Lib.hid (by rw [Ver.cells_size HVOy.out]; rfl)
        clear hVy hey
        have hcmp' : ¬ Vy.cmp Vx < 0 := by rw [HVy.out, HVx.out]; exact hcmp
        have HCMP := Lib.hid hcmp'
        clear hi1 hir hj hy hcmp hcmp'
        go_wp2_with fail
        refine (parse_ok (bl y) HYL.out w2 HG2.out).mono ?_
        rintro e wya ⟨rfl, hbya⟩
        rw [bl_data, ← HVy.out, ← HEy.out]
        obtain ⟨gy, hgy⟩ : ∃ gy, gy = wya.heap.size := ⟨_, rfl⟩
        obtain ⟨w3, hwy⟩ : ∃ w3, w3 = (wya.alloc (.cells #[.int .i64 0, .int .i64 0, .int .i64 0, .int .i64 0, .int .i64 0, .string ⟨#[]⟩] 24)).setRow gy Vy.cells.toArray := ⟨_, rfl⟩
        have qy := laid_ver wya Vy 24
        have bby : Below wya.heap.size wya w3 := by rw [hwy, hgy]; exact qy.2
        have HZy : Hid ((wya.alloc (.cells #[.int .i64 0, .int .i64 0, .int .i64 0, .int .i64 0, .int .i64 0, .string ⟨#[]⟩] 24)).heap[gy]? = some (.cells Ver.zero.cells.toArray 24 (0, 0))) := Lib.hid (by rw [hgy]; exact heap_alloc_new _ _)
        have HQy : Hid (Blk w3 gy 24 Vy.cells) := Lib.hid (by rw [hwy, hgy]; exact qy.1)
        have HBWy : Hid (Below w2.heap.size w2 w3) := Lib.hid (hbya.trans (bby.mono hbya.size))
        have HBNy : Hid (Below wB.heap.size wB w3) := Lib.hid (HBNx.out.trans (HBWy.out.mono HBNx.out.size))
        have HGy := Lib.hid hgy
        have HWy := Lib.hid hwy
        clear hgy hwy qy bby hbya
        rw [show Vy.val = .agg Vy.cells.toArray from rfl]
        go_upto_region 16 with (refine wpList_store_row rfl 24 (.tmp 8) (.tmp 65) rfl gy Vy.cells.toArray (by rw [HGy.out]; rfl) rfl _ _ HZy.out HIVy.out HZVy.out (Ver.cells_one _) ?_)
        rw [← HGy.out, ← HWy.out]
        have Ly := Lib.hid (vload HQy.out HVOy.out)
        have Lx := Lib.hid (vload (HQx.out.below' HBWy.out) HVOx.out)
        clear cy
        go_wp2_with (first | refine wpList_load_run rfl 24 (.tmp 8) rfl gy rfl _ Ly.out ?_ | refine wpList_load_run rfl 24 (.tmp 6) rfl gx rfl _ Lx.out ?_)
        refine (compare_ok Vy Vx HVOy.out HVOx.out w3).mono ?_
        rintro e w4 ⟨rfl, hb4⟩
        have HB4 : Hid (Below wB.heap.size wB w4) := Lib.hid (HBNy.out.trans (hb4.mono HBNy.out.size))
        obtain ⟨D, hD⟩ : ∃ D, D = Vy.cmp Vx := ⟨_, rfl⟩
        rw [← hD]
        have hDn : ¬ D < 0 := by have := HCMP.out; rw [hD]; omega
        have hDn2 : 0 ≤ D := by omega
        clear hb4 hD
        go_wp2_with fail
        go_meet
        exact HB4
    case rest =>
    have HB := hcut
    clear hcut HBNx HBWx HQx HTV HGR HVE HEx HVx HVOx HIVx HZVx HGx HWx HZx HXL
    obtain ⟨wr, hwr⟩ : ∃ wr, wr = wc := ⟨_, rfl⟩
    rw [← hwr] at HB ⊢
    clear hwr
    have HC0 : Hid ((0 : Int) = ((X.take 0).count x : Int) - ((Y.take 0).count x : Int)) := Lib.hid (by simp)
    go_wp2_with fail
    go_loopg [11, 10] n (fun kq kv cv wr => ∃ (k : Nat) (d : Int), kv = .int .i64 k ∧ cv = .int .i64 d ∧ k ≤ n ∧ kq = n - k ∧ -(k : Int) ≤ d ∧ d ≤ k ∧ Hid (d = ((X.take k).count x : Int) - ((Y.take k).count x : Int)) ∧ Hid (Below wB.heap.size wB wr))
    case atStart => exact ⟨0, 0, rfl, rfl, Nat.zero_le _, rfl, by omega, by omega, HC0, HB⟩
    case round =>
    clear HC0 HB
    obtain ⟨k, d, rfl, rfl, hk, rfl, hd1, hd2, HC, HB⟩ := hrel
    by_cases hkn : k < n
    · have hkI : (k : Int) < (n : Int) := by omega
      have hk0 : 0 ≤ (k : Int) := by omega
      obtain ⟨u, hu⟩ : ∃ u, X[k]? = some u := ⟨_, List.getElem?_eq_getElem (by have := HN.out; omega)⟩
      obtain ⟨z, hz⟩ : ∃ z, Y[k]? = some z := ⟨_, List.getElem?_eq_getElem (by have := HYN.out; omega)⟩
      have hcX := count_snoc X x hu
      have hcY := count_snoc Y x hz
      obtain ⟨q1, hq1⟩ : ∃ q1 : Bool, q1 = decide (u = x) := ⟨_, rfl⟩
      obtain ⟨q2, hq2⟩ : ∃ q2 : Bool, q2 = decide (z = x) := ⟨_, rfl⟩
      obtain ⟨su, hsu⟩ : ∃ su, su = bl u := ⟨_, rfl⟩
      obtain ⟨sx, hsx⟩ : ∃ sx, sx = bl x := ⟨_, rfl⟩
      obtain ⟨sz, hsz⟩ : ∃ sz, sz = bl z := ⟨_, rfl⟩
      have HEQ1 : Hid ((su.toList == sx.toList) = q1) := Lib.hid (by rw [hsu, hsx, bl_toList, bl_toList, hq1, Bool.eq_iff_iff]; simp)
      have HEQ2 : Hid ((sz.toList == sx.toList) = q2) := Lib.hid (by rw [hsz, hsx, bl_toList, bl_toList, hq2, Bool.eq_iff_iff]; simp)
      have HCU : Hid (∀ wI, Below wB.heap.size wB wI → wI.cell? ⟨b0, o0 + k, none⟩ = some (.string su)) := Lib.hid (fun wI hb => by rw [hsu]; exact HRX.out wI hb k u hu)
      have HCZ : Hid (∀ wI, Below wB.heap.size wB wI → wI.cell? ⟨b3, o3 + k, none⟩ = some (.string sz)) := Lib.hid (fun wI hb => by rw [hsz]; exact HRY.out wI hb k z hz)
      have HCX : Hid (∀ wI, Below wB.heap.size wB wI → wI.cell? ⟨b3, o3 + i, none⟩ = some (.string sx)) := Lib.hid (fun wI hb => by rw [hsx]; exact HRY.out wI hb i x HXI.out)
      have HCN : Hid (d + (if q1 then 1 else 0) - (if q2 then 1 else 0) = ((X.take (k + 1)).count x : Int) - ((Y.take (k + 1)).count x : Int)) := Lib.hid (by
        have := HC.out
        rw [hcX, hcY, hq1, hq2]
        by_cases a1 : u = x <;> by_cases a2 : z = x <;> simp [a1, a2] <;> omega)
      clear hu hz hcX hcY hq1 hq2 HC hsu hsx hsz
      go_upto_region 22 with fail
      try simp only [Act.put, List.setIfInBounds_toArray, List.set_cons_zero, List.set_cons_succ]
      obtain ⟨Inv, hInv⟩ : ∃ Inv : Done → World → Prop, Inv = fun _ wI => (fun wI => Below wB.heap.size wB wI) wI := ⟨_, rfl⟩
      have HI := Lib.hid hInv
      have hcz : Hid (∀ τ wI, Inv τ wI → Below wB.heap.size wB wI) := by
        intro τ wI h
        rw [hInv] at h
        exact h
      have H00 : Hid (Inv Done.none wr.drew) := by rw [hInv]; exact HB.out.drew
      clear hInv
      refine wp_region_inv (by kernel_rfl) [⟨0, false, [], []⟩, ⟨1, false, [], []⟩, ⟨2, false, [], []⟩, ⟨3, false, [], []⟩, ⟨4, false, [], []⟩, ⟨5, false, [], []⟩, ⟨6, false, [], []⟩, ⟨7, false, [], []⟩, ⟨8, false, [], []⟩] (by kernel_rfl) Inv (fun _ _ => True) (fun _ => ⟨undef, trivial⟩) H00.out ?_
      iterate 9 (apply WpI.pure; (simp only [List.getElem?_toArray, List.getElem?_cons_succ, List.getElem?_cons_zero]; rfl); (intro τ wI hA hI; have f0 := hcz.out τ wI hI; have q1 := HCU.out wI f0; have q2 := HCX.out wI f0; have q3 := HEQ1.out; go_simp; exact ⟨hI, Is.rfl'⟩); simp only [Act.put, List.setIfInBounds_toArray, List.set_cons_zero, List.set_cons_succ])
      refine WpI.done ?_
      intro w7 hI
      rw [HI.out] at hI
      have hE := hI
      have HB7 : Hid (Below wB.heap.size wB w7) := Lib.hid hE
      clear hI hE hcz H00 HI HB
      go_upto_if 85 with fail
      go_cut [10] (fun v wx => wx = w7 ∧ v = .int .i64 (d + (if q1 then 1 else 0)))
      case first =>
        cases q1 with
        | true =>
          go_wp2_with fail
          go_meet
          exact ⟨rfl, rfl⟩
        | false =>
          go_wp2_with fail
          go_meet
          exact ⟨rfl, by simp⟩
      case rest =>
      obtain ⟨hcw, rfl⟩ := hcut
      obtain rfl : w7 = _ := hcw.symm
      obtain ⟨d1, hd1e⟩ : ∃ d1, d1 = d + (if q1 then 1 else 0) := ⟨_, rfl⟩
      rw [← hd1e]
      have hd3 : -(k : Int) ≤ d1 ∧ d1 ≤ k + 1 := by rw [hd1e]; cases q1 <;> simp <;> omega
      obtain ⟨hd4, hd5⟩ := hd3
      have HD1 := Lib.hid hd1e
      clear hd1e
      go_upto_region 24 with fail
      try simp only [Act.put, List.setIfInBounds_toArray, List.set_cons_zero, List.set_cons_succ]
      obtain ⟨Inv, hInv⟩ : ∃ Inv : Done → World → Prop, Inv = fun _ wI => (fun wI => Below wB.heap.size wB wI) wI := ⟨_, rfl⟩
      have HI := Lib.hid hInv
      have hcz : Hid (∀ τ wI, Inv τ wI → Below wB.heap.size wB wI) := by
        intro τ wI h
        rw [hInv] at h
        exact h
      have H00 : Hid (Inv Done.none w7.drew) := by rw [hInv]; exact HB7.out.drew
      clear hInv
      refine wp_region_inv (by kernel_rfl) [⟨0, false, [], []⟩, ⟨1, false, [], []⟩, ⟨2, false, [], []⟩, ⟨3, false, [], []⟩, ⟨4, false, [], []⟩, ⟨5, false, [], []⟩, ⟨6, false, [], []⟩, ⟨7, false, [], []⟩, ⟨8, false, [], []⟩] (by kernel_rfl) Inv (fun _ _ => True) (fun _ => ⟨undef, trivial⟩) H00.out ?_
      iterate 9 (apply WpI.pure; (simp only [List.getElem?_toArray, List.getElem?_cons_succ, List.getElem?_cons_zero]; rfl); (intro τ wI hA hI; have f0 := hcz.out τ wI hI; have q1 := HCZ.out wI f0; have q2 := HCX.out wI f0; have q3 := HEQ2.out; go_simp; exact ⟨hI, Is.rfl'⟩); simp only [Act.put, List.setIfInBounds_toArray, List.set_cons_zero, List.set_cons_succ])
      refine WpI.done ?_
      intro w8 hI
      rw [HI.out] at hI
      have hE := hI
      have HB8 : Hid (Below wB.heap.size wB w8) := Lib.hid hE
      clear hI hE hcz H00 HI HB7
      cases q2 with
      | true =>
        have HCE : Hid (d1 - 1 = ((X.take (k + 1)).count x : Int) - ((Y.take (k + 1)).count x : Int)) := Lib.hid (by rw [HD1.out]; exact HCN.out)
        go_wp2_with fail
        go_roundg (n - (k + 1))
        case measure => omega
        case rel => exact ⟨k + 1, d1 - 1, by go_num, rfl, by omega, rfl, by omega, by omega, HCE, HB8⟩
      | false =>
        have HCE : Hid (d1 = ((X.take (k + 1)).count x : Int) - ((Y.take (k + 1)).count x : Int)) := Lib.hid (by rw [HD1.out]; have := HCN.out; simpa using this)
        have hd6 : d1 ≤ k + 1 := by omega
        go_wp2_with fail
        go_roundg (n - (k + 1))
        case measure => omega
        case rel => exact ⟨k + 1, d1, by go_num, rfl, by omega, rfl, by omega, by omega, HCE, HB8⟩
    · have hknI : ¬ (k : Int) < (n : Int) := by omega
      have hd0 : d = 0 := by
        have := HC.out
        rw [List.take_of_length_le (by have := HN.out; omega), List.take_of_length_le (by have := HYN.out; omega), HYY.out, (vsort_perm X).count_eq] at this
        omega
      subst hd0
      clear HC hd1 hd2
      go_wp2_with fail
      go_roundg (n - (i + 1))
      case measure => omega
      case rel => exact ⟨i + 1, b2, by go_num, rfl, by omega, rfl, HB2, HB⟩
  have hni : ¬ (i : Int) < (n : Int) := by omega
  obtain ⟨A5, c5, w5, hap5, hl5, hb5⟩ := copy_strs HYN.out (by omega) (HSLY.out.below (by decide) HB.out)
  have hl5s := hl5.sl
  rw [HYN.out] at hl5s
  have HB5 : Hid (Below wB.heap.size wB w5) := Lib.hid (HB.out.trans (hb5.mono HB.out.size))
  have HSORT2 := Lib.hid (vsort_ok Y n HYN.out HYSH.out (by omega) _ A5 c5 w5 (HGB.out.below HB5.out) hl5s)
  have HAP5 := Lib.hid hap5
  clear hap5 hl5 hb5 hl5s HBR hlt
  go_wp2_with (at_builtin; refine wpList_app_run _ rfl (.tmp 101) (.tmp 102) 54 54 rfl _ _ rfl rfl _ _ HAP5.out ?_)
  refine (HSORT2.out).mono ?_
  rintro e wC hpost
  obtain ⟨A6, c6, rfl, hl6, hb6⟩ := hpost
  have hid : vsort Y = Y := by rw [HYY.out]; exact vsort_idem X
  rw [hid] at hl6
  have hl6s := hl6.sl
  rw [HYN.out] at hl6s
  have HBC : Hid (Below wB.heap.size wB wC) := Lib.hid (HB5.out.trans (hb6.mono HB5.out.size))
  have HSL6 := Lib.hid hl6s
  have HSL3 := Lib.hid (HSLY.out.below (by decide) HBC.out)
  have HGC := Lib.hid (HGB.out.below HBC.out)
  have HBWC : Hid (Below w.heap.size w wC) := Lib.hid (HBB.out.trans (HBC.out.mono HBB.out.size))
  have HBC0 : Hid (Below wC.heap.size wC wC) := Lib.hid (Below.refl _ _)
  clear hl6 hb6 hid hl6s HSORT2 HAP5 HB5 HB hni
  go_wp2_with fail
  go_loopg [13] n (fun kq iv wr => ∃ i : Nat, iv = .int .i64 i ∧ i ≤ n ∧ kq = n - i ∧ Hid (Below wC.heap.size wC wr))
  case atStart => exact ⟨0, rfl, Nat.zero_le _, rfl, HBC0⟩
  case round =>
  clear HBC0 hi
  obtain ⟨i, rfl, hi, rfl, HB⟩ := hrel
  by_cases hlt : i < n
  · have hltI : (i : Int) < (n : Int) := by omega
    have hi0 : 0 ≤ (i : Int) := by omega
    obtain ⟨b6, o6, rfl, hr6⟩ := reads_of HSL6.out (by omega)
    obtain ⟨b3, o3, rfl, hr3⟩ := reads_of HSL3.out (by omega)
    obtain ⟨x, hx⟩ : ∃ x, Y[i]? = some x := ⟨_, List.getElem?_eq_getElem (by have := HYN.out; omega)⟩
    obtain ⟨sx, hsx⟩ : ∃ sx, sx = bl x := ⟨_, rfl⟩
    have HEQ : Hid ((sx.toList == sx.toList) = true) := Lib.hid (beq_self_eq_true _)
    have HC12 : Hid (∀ wI, Below wC.heap.size wC wI → wI.cell? ⟨b6, o6 + i, none⟩ = some (.string sx)) := Lib.hid (fun wI hb => by rw [hsx]; exact hr6 wI hb i x hx)
    have HCX : Hid (∀ wI, Below wC.heap.size wC wI → wI.cell? ⟨b3, o3 + i, none⟩ = some (.string sx)) := Lib.hid (fun wI hb => by rw [hsx]; exact hr3 wI hb i x hx)
    clear hr6 hr3 hx hsx
    go_upto_region 32 with fail
    try simp only [Act.put, List.setIfInBounds_toArray, List.set_cons_zero, List.set_cons_succ]
    obtain ⟨Inv, hInv⟩ : ∃ Inv : Done → World → Prop, Inv = fun _ wI => (fun wI => Below wC.heap.size wC wI) wI := ⟨_, rfl⟩
    have HI := Lib.hid hInv
    have hcz : Hid (∀ τ wI, Inv τ wI → Below wC.heap.size wC wI) := by
      intro τ wI h
      rw [hInv] at h
      exact h
    have H00 : Hid (Inv Done.none wr.drew) := by rw [hInv]; exact HB.out.drew
    clear hInv
    refine wp_region_inv (by kernel_rfl) [⟨0, false, [], []⟩, ⟨1, false, [], []⟩, ⟨2, false, [], []⟩, ⟨3, false, [], []⟩, ⟨4, false, [], []⟩, ⟨5, false, [], []⟩, ⟨6, false, [], []⟩, ⟨7, false, [], []⟩, ⟨8, false, [], []⟩] (by kernel_rfl) Inv (fun _ _ => True) (fun _ => ⟨undef, trivial⟩) H00.out ?_
    iterate 9 (apply WpI.pure; (simp only [List.getElem?_toArray, List.getElem?_cons_succ, List.getElem?_cons_zero]; rfl); (intro τ wI hA hI; have f0 := hcz.out τ wI hI; have q1 := HC12.out wI f0; have q2 := HCX.out wI f0; have q3 := HEQ.out; go_simp; exact ⟨hI, Is.rfl'⟩); simp only [Act.put, List.setIfInBounds_toArray, List.set_cons_zero, List.set_cons_succ])
    refine WpI.done ?_
    intro w7 hI
    rw [HI.out] at hI
    have hE := hI
    have HB7 : Hid (Below wC.heap.size wC w7) := Lib.hid hE
    clear hI hE hcz H00 HI HB
    go_wp2_with fail
    go_roundg (n - (i + 1))
    case measure => omega
    case rel => exact ⟨i + 1, by go_num, by omega, rfl, HB7⟩
  have hni : ¬ (i : Int) < (n : Int) := by omega
  have HZL : Hid ((bl [49, 46, 48]).size ≤ 4000000000) := Lib.hid (by decide)
  have HGZ := Lib.hid (HGC.out.below HB.out)
  obtain ⟨Vz, hVz⟩ : ∃ Vz, Vz = (rv [49, 46, 48]).1 := ⟨_, rfl⟩
  obtain ⟨ez, hez⟩ : ∃ ez, ez = (rv [49, 46, 48]).2 := ⟨_, rfl⟩
  have HVz := Lib.hid hVz
  have HEz := Lib.hid hez
  have HVOz : Hid Vz.Ok := Lib.hid (by rw [hVz]; exact rv_okv _)
  have HIVz : Hid ((Tryd.prog.info? 24).map (·.size) = some Vz.cells.toArray.size) := Lib.hid (by rw [Ver.cells_size HVOz.out]; exact HI6.out)
  have HZVz : Hid (Ver.zero.cells.toArray.size = Vz.cells.toArray.size) := Lib.hid (by rw [Ver.cells_size HVOz.out]; rfl)
  clear hVz hez
  have hz1 : Vz = v10 := by rw [HVz.out, rv10]
  have hz2 : ez = 0 := by rw [HEz.out, rv10]
  subst hz2
  have HZ1 := Lib.hid hz1
  clear hz1
  go_wp2_with fail
  refine (parse_ok (bl [49, 46, 48]) HZL.out wr HGZ.out).mono ?_
  rintro e wza ⟨rfl, hbza⟩
  rw [bl_data, ← HVz.out, ← HEz.out]
  obtain ⟨gz, hgz⟩ : ∃ gz, gz = wza.heap.size := ⟨_, rfl⟩
  obtain ⟨w14, hwz⟩ : ∃ w14, w14 = (wza.alloc (.cells #[.int .i64 0, .int .i64 0, .int .i64 0, .int .i64 0, .int .i64 0, .string ⟨#[]⟩] 24)).setRow gz Vz.cells.toArray := ⟨_, rfl⟩
  have qz := laid_ver wza Vz 24
  have bbz : Below wza.heap.size wza w14 := by rw [hwz, hgz]; exact qz.2
  have HZz : Hid ((wza.alloc (.cells #[.int .i64 0, .int .i64 0, .int .i64 0, .int .i64 0, .int .i64 0, .string ⟨#[]⟩] 24)).heap[gz]? = some (.cells Ver.zero.cells.toArray 24 (0, 0))) := Lib.hid (by rw [hgz]; exact heap_alloc_new _ _)
  have HQz : Hid (Blk w14 gz 24 Vz.cells) := Lib.hid (by rw [hwz, hgz]; exact qz.1)
  have HBWz : Hid (Below wr.heap.size wr w14) := Lib.hid (hbza.trans (bbz.mono hbza.size))
  have HBNz : Hid (Below wC.heap.size wC w14) := Lib.hid (HB.out.trans (HBWz.out.mono HB.out.size))
  have HGz := Lib.hid hgz
  have HWz := Lib.hid hwz
  clear hgz hwz qz bbz hbza
  rw [show Vz.val = .agg Vz.cells.toArray from rfl]
  go_upto_region 35 with (refine wpList_store_row rfl 24 (.tmp 14) (.tmp 122) rfl gz Vz.cells.toArray (by rw [HGz.out]; rfl) rfl _ _ HZz.out HIVz.out HZVz.out (Ver.cells_one _) ?_)
  rw [← HGz.out, ← HWz.out]
  have c14 : w14.cell? ⟨gz, 4, none⟩ = some (.int .i64 2) := by rw [HQz.out.cell, HZ1.out]; rfl
  have HEND : Hid (Below w.heap.size w w14) := Lib.hid (HBWC.out.trans (HBNz.out.mono HBWC.out.size))
  go_wp2_with fail
  go_ret
  exact ⟨rfl, HEND.out⟩
end Go.Proofs.YteeijjhgdplifaaDoor
