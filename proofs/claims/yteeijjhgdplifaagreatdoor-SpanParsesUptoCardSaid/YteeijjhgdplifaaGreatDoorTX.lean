/- The document's ranges: Has. -/
import Derived.Test.YteeijjhgdplifaaGreatDoorTV
namespace Go.Proofs.YteeijjhgdplifaaGreatDoor
open Go.RowKit

theorem runs_loadw {P : Program} {ops : Array Oper} {o : Oper} {a : Act} {w : World} {R : Value → World → Prop} (hw : Region.wanted o (yielded ops a.tmps) = true) (ty : TypeId) (x : Operand) (ho : o.op = .load ty x) (p : Addr) (hx : a.eval x = .pointer (some p)) (v : Value)
    (hr : (loadVar ty p).run P w = .ok v w) (h : R v w) : Runs P ops o a w R := by
  unfold Runs
  rw [if_pos hw]
  show Out P R ((execOp a.eval o).run P w)
  unfold execOp
  simp only [ho, hx, Instr.loadAt, Instr.sureAddr, Sem.run_bind, Sem.run_pure, Result.andThen_ok, hr]
  exact h
def hasTs (ts : List Tm) (x : Ver) : Bool := ts.all fun t => hasT t.1 t.2 x
def hasTss (tss : List (List Tm)) (x : Ver) : Bool := tss.any fun ts => hasTs ts x
set_option maxRecDepth 100000 in
set_option maxHeartbeats 8000000 in
theorem refHas_ok (x : Ver) (hx : x.Ok) (B : Nat) (A : Option Addr) (c n : Nat) (tss : List (List Tm)) (vals : List Value) (hn : n ≤ 1000000) (hm : ∀ ts ∈ tss, ts.length ≤ 1000000) (w : World) (h : TTRow w B A c n tss vals) :
    Calls Tryz.prog 19 #[.slice A n c, .agg x.cells.toArray] w fun e w' => e = .returned (.bool (hasTss tss x)) ∧ Below w.heap.size w w' := by
  obtain ⟨w1, hw1⟩ : ∃ w1, w1 = w.alloc (.cells x.cells.toArray 37) := ⟨_, rfl⟩
  obtain ⟨g3, hg3⟩ : ∃ g3, g3 = w.heap.size := ⟨_, rfl⟩
  have hb1 : Below w.heap.size w w1 := by rw [hw1]; exact (Below.refl _ _).alloc (Nat.le_refl _) _
  have k3 : Blk w1 g3 37 x.cells := by rw [hw1, hg3]; exact Blk.new _ _ x.cells.toArray
  have HLX : Hid (∀ wI, Below w1.heap.size w1 wI → (loadVar 37 ⟨g3, 0, none⟩).run Tryz.prog wI = .ok (.agg x.cells.toArray) wI) := Lib.hid (fun wI hb => rload (k3.below' hb) hx)
  have HB1 := Lib.hid hb1
  have HT := Lib.hid (h.below hb1)
  have HX := Lib.hid hx
  have HLM := Lib.hid hm
  have HW1 := Lib.hid hw1
  have HG3 := Lib.hid hg3
  obtain ⟨R, hR⟩ : ∃ R, R = hasTss tss x := ⟨_, rfl⟩
  rw [← hR]
  have HR := Lib.hid hR
  have HB0 : Hid (Below w1.heap.size w1 w1) := Lib.hid (Below.refl _ _)
  have HA0 : Hid (hasTss (tss.take 0) x = false) := Lib.hid rfl
  clear hw1 hg3 hb1 k3 hx hm hR h
  go_enter Tryz.func19, Tryz.ntmps19
  go_upto_region 1 with fail
  rw [← HW1.out, ← HG3.out]
  go_wp2_with fail
  go_loopg [5] n (fun kq iv wr => ∃ i : Nat, iv = .int .i64 i ∧ i ≤ n ∧ kq = n - i ∧ Hid (hasTss (tss.take i) x = false) ∧ Hid (Below w1.heap.size w1 wr))
  case atStart => exact ⟨0, rfl, Nat.zero_le _, rfl, HA0, HB0⟩
  case round =>
  clear HA0 HB0
  obtain ⟨i, rfl, hi, rfl, HA, HB⟩ := hrel
  have HBW : Hid (Below w.heap.size w wr) := Lib.hid (HB1.out.trans (HB.out.mono HB1.out.size))
  by_cases hlt : i < n
  · have hltI : (i : Int) < (n : Int) := by omega
    have hi0 : 0 ≤ (i : Int) := by omega
    obtain ⟨gO, cap, hv, _, hgl⟩ := HT.out.own.form (by omega)
    simp only [Value.slice.injEq] at hv
    obtain ⟨rfl, _, rfl⟩ := hv
    obtain ⟨ts, hts⟩ : ∃ ts, tss[i]? = some ts := ⟨_, List.getElem?_eq_getElem (by rw [HT.out.lent]; exact hlt)⟩
    obtain ⟨AI, cI, hval, htr⟩ := HT.out.at_ i ts hts
    obtain ⟨m, hm⟩ : ∃ m, m = ts.length := ⟨_, rfl⟩
    rw [← hm] at hval htr
    have hm1 : m ≤ 1000000 := by rw [hm]; exact HLM.out ts (List.mem_of_getElem? hts)
    have hco : w1.cell? ⟨gO, i, none⟩ = some (.slice AI m cI) := by
      have := HT.out.own.cells rfl i _ hval
      rw [add_lit0, Nat.zero_add] at this
      exact this
    have HCO1 : Hid (∀ wI, Below w1.heap.size w1 wI → wI.cell? ⟨gO, i, none⟩ = some (.slice AI m cI)) := Lib.hid (fun wI hb => (hb.cell (p := ⟨gO, i, none⟩) (World.block_lt_of_cell? _ _ hco)).trans hco)
    have HTRW := Lib.hid htr
    have HTKN : Hid (hasTss (tss.take (i + 1)) x = hasTs ts x) := Lib.hid (by
      rw [List.take_add_one, hts]
      unfold hasTss at *
      rw [List.any_append, HA.out]
      simp)
    have HANY : Hid (hasTs ts x = true → R = true) := Lib.hid (fun h => by
      rw [HR.out]
      unfold hasTss
      exact List.any_eq_true.2 ⟨ts, List.mem_of_getElem? hts, h⟩)
    have HML := Lib.hid hm
    have cO := HCO1.out wr HB.out
    have HA0 : Hid (hasTs (ts.take 0) x = true) := Lib.hid rfl
    have HBB : Hid (Below wr.heap.size wr wr) := Lib.hid (Below.refl _ _)
    clear hts hval htr hm hco hgl
    go_wp2_with fail
    obtain ⟨w4, hw4⟩ : ∃ w4, w4 = wr := ⟨_, rfl⟩
    go_loopg [7, 6] m (fun kq jv av wr => ∃ (j : Nat) (al : Bool), jv = .int .i64 j ∧ av = .bool al ∧ j ≤ m ∧ kq = m - j ∧ Hid (hasTs (ts.take j) x = al) ∧ Hid (Below w1.heap.size w1 wr))
    case atStart => exact ⟨0, true, rfl, rfl, Nat.zero_le _, rfl, HA0, HB⟩
    case round =>
    clear HA0 HBB cO HB HBW hw4
    obtain ⟨j, al, rfl, rfl, hj, rfl, HAL, HB⟩ := hrel
    have cO := HCO1.out wr HB.out
    have HBW : Hid (Below w.heap.size w wr) := Lib.hid (HB1.out.trans (HB.out.mono HB1.out.size))
    by_cases hltj : j < m
    · have hltjI : (j : Int) < (m : Int) := by omega
      have hj0 : 0 ≤ (j : Int) := by omega
      obtain ⟨gI, rfl, hrd⟩ := HTRW.out.reads (by omega)
      obtain ⟨t, ht⟩ : ∃ t, ts[j]? = some t := ⟨_, List.getElem?_eq_getElem (by rw [← HML.out]; exact hltj)⟩
      have htk := HTRW.out.2.1 t (List.mem_of_getElem? ht)
      have hTn : ts.take (j + 1) = ts.take j ++ [t] := by rw [List.take_add_one, ht]; rfl
      cases al with
      | false =>
        have HALN : Hid (hasTs (ts.take (j + 1)) x = false) := Lib.hid (by
          have h := HAL.out
          rw [hTn]; unfold hasTs at *; rw [List.all_append, h]; rfl)
        clear hrd ht htk hTn HAL
        go_upto_region 8 with fail
        try simp only [Act.put, List.setIfInBounds_toArray, List.set_cons_zero, List.set_cons_succ]
        obtain ⟨Inv, hInv⟩ : ∃ Inv : Done → World → Prop, Inv = fun _ wI => (fun wI => Below wr.heap.size wr wI) wI := ⟨_, rfl⟩
        have HI := Lib.hid hInv
        have hcz : Hid (∀ τ wI, Inv τ wI → Below wr.heap.size wr wI) := by
          intro τ wI h
          rw [hInv] at h
          exact h
        have H00 : Hid (Inv Done.none wr.drew) := by rw [hInv]; exact (Below.refl _ _).drew
        clear hInv
        refine wp_region_inv (by kernel_rfl) [⟨0, false, [], []⟩, ⟨1, false, [], []⟩, ⟨2, false, [], []⟩, ⟨3, false, [], []⟩, ⟨4, false, [], []⟩, ⟨5, false, [], []⟩, ⟨6, false, [], []⟩, ⟨7, false, [], []⟩, ⟨8, false, [], []⟩, ⟨9, false, [], []⟩, ⟨10, false, [], []⟩, ⟨11, false, [], []⟩, ⟨12, false, [], []⟩] (by kernel_rfl) Inv (fun _ _ => True) (fun _ => ⟨undef, trivial⟩) H00.out ?_
        iterate 13 (apply WpI.pure; (simp only [List.getElem?_toArray, List.getElem?_cons_succ, List.getElem?_cons_zero]; rfl); (intro τ wI hA hI; have f0 := hcz.out τ wI hI; go_simp; exact ⟨hI, Is.rfl'⟩); simp only [Act.put, List.setIfInBounds_toArray, List.set_cons_zero, List.set_cons_succ])
        refine WpI.done ?_
        intro w5 hI
        rw [HI.out] at hI
        have hE := hI
        have HB5 : Hid (Below w1.heap.size w1 w5) := Lib.hid (HB.out.trans (hE.mono HB.out.size))
        clear hI hE hcz H00 HI HB HBW cO
        go_wp2_with fail
        go_roundg (m - (j + 1))
        case measure => omega
        case rel => exact ⟨j + 1, false, by go_num, rfl, by omega, rfl, HALN, HB5⟩
      | true =>
        obtain ⟨HV, hHV⟩ : ∃ HV, HV = hasT t.1 t.2 x := ⟨_, rfl⟩
        have HALN : Hid (hasTs (ts.take (j + 1)) x = HV) := Lib.hid (by
          have h := HAL.out
          rw [hTn]; unfold hasTs at *; rw [List.all_append, h, hHV]; simp)
        have HCO : Hid (∀ wI, Below wr.heap.size wr wI → wI.cell? ⟨gO, i, none⟩ = some (.slice (some ⟨gI, 0, none⟩) m cI)) := Lib.hid (fun wI hb => HCO1.out wI (HB.out.trans (hb.mono HB.out.size)))
        have HTR : Hid (∀ wI, Below wr.heap.size wr wI → (loadVar 64 ⟨gI, j * 7, none⟩).run Tryz.prog wI = .ok (.agg (Tm.cells t).toArray) wI) := Lib.hid (fun wI hb => hrd wI (HB.out.trans (hb.mono HB.out.size)) j t ht)
        have HLX2 : Hid (∀ wI, Below wr.heap.size wr wI → (loadVar 37 ⟨g3, 0, none⟩).run Tryz.prog wI = .ok (.agg x.cells.toArray) wI) := Lib.hid (fun wI hb => HLX.out wI (HB.out.trans (hb.mono HB.out.size)))
        have HHA : Hid (∀ wI, Calls Tryz.prog 35 #[.agg (Tm.cells t).toArray, .agg x.cells.toArray] wI fun e w' => e = .returned (.bool HV) ∧ Below wI.heap.size wI w') := Lib.hid (fun wI => by
          rw [hHV]
          exact refHas1_ok t.1 t.2 x htk.1 htk.2.1 (by have := htk.2.2.1; omega) htk.2.2.2 HX.out wI)
        clear hrd ht htk hTn HAL hHV
        go_upto_region 8 with fail
        try simp only [Act.put, List.setIfInBounds_toArray, List.set_cons_zero, List.set_cons_succ]
        obtain ⟨Inv, hInv⟩ : ∃ Inv : Done → World → Prop, Inv = fun _ wI => (fun wI => Below wr.heap.size wr wI) wI := ⟨_, rfl⟩
        have HI := Lib.hid hInv
        have hcz : Hid (∀ τ wI, Inv τ wI → Below wr.heap.size wr wI ∧ wI.cell? ⟨gO, i, none⟩ = some (.slice (some ⟨gI, 0, none⟩) m cI)) := by
          intro τ wI h
          rw [hInv] at h
          exact ⟨h, HCO.out wI h⟩
        have H00 : Hid (Inv Done.none wr.drew) := by rw [hInv]; exact (Below.refl _ _).drew
        clear hInv
        refine wp_region_inv (by kernel_rfl) [⟨0, false, [], []⟩, ⟨1, false, [], []⟩, ⟨2, false, [], []⟩, ⟨3, false, [], []⟩, ⟨4, false, [], []⟩, ⟨5, false, [], []⟩, ⟨6, false, [], []⟩, ⟨7, false, [], []⟩, ⟨8, false, [], []⟩, ⟨9, false, [], []⟩, ⟨10, false, [], []⟩, ⟨11, false, [], []⟩, ⟨12, false, [], []⟩] (by kernel_rfl) Inv (fun _ _ => True) (fun _ => ⟨undef, trivial⟩) H00.out ?_
        iterate 8 (apply WpI.pure; (simp only [List.getElem?_toArray, List.getElem?_cons_succ, List.getElem?_cons_zero]; rfl); (intro τ wI hA hI; obtain ⟨f0, f1⟩ := hcz.out τ wI hI; go_simp; exact ⟨hI, Is.rfl'⟩); simp only [Act.put, List.setIfInBounds_toArray, List.set_cons_zero, List.set_cons_succ])
        (apply WpI.pure; (simp only [List.getElem?_toArray, List.getElem?_cons_succ, List.getElem?_cons_zero]; rfl); (intro τ wI hA hI; obtain ⟨f0, f1⟩ := hcz.out τ wI hI; refine runs_loadw rfl 64 (.tmp 30) rfl ⟨gI, j * 7, none⟩ rfl _ (HTR.out wI f0) ?_; exact ⟨hI, Is.rfl'⟩); simp only [Act.put, List.setIfInBounds_toArray, List.set_cons_zero, List.set_cons_succ])
        (apply WpI.pure; (simp only [List.getElem?_toArray, List.getElem?_cons_succ, List.getElem?_cons_zero]; rfl); (intro τ wI hA hI; obtain ⟨f0, f1⟩ := hcz.out τ wI hI; refine runs_loadw rfl 37 (.tmp 3) rfl ⟨g3, 0, none⟩ rfl _ (HLX2.out wI f0) ?_; exact ⟨hI, Is.rfl'⟩); simp only [Act.put, List.setIfInBounds_toArray, List.set_cons_zero, List.set_cons_succ])
        (apply WpI.pure; (simp only [List.getElem?_toArray, List.getElem?_cons_succ, List.getElem?_cons_zero]; rfl); (intro τ wI hA hI; obtain ⟨f0, f1⟩ := hcz.out τ wI hI; go_simp; refine (HHA.out wI).mono ?_; rintro e w' ⟨rfl, hb⟩; refine ⟨_, rfl, ?_, Is.rfl'⟩; rw [HI.out]; exact f0.trans (hb.mono f0.size)); simp only [Act.put, List.setIfInBounds_toArray, List.set_cons_zero, List.set_cons_succ])
        iterate 2 (apply WpI.pure; (simp only [List.getElem?_toArray, List.getElem?_cons_succ, List.getElem?_cons_zero]; rfl); (intro τ wI hA hI; obtain ⟨f0, f1⟩ := hcz.out τ wI hI; go_simp; exact ⟨hI, Is.rfl'⟩); simp only [Act.put, List.setIfInBounds_toArray, List.set_cons_zero, List.set_cons_succ])
        refine WpI.done ?_
        intro w5 hI
        rw [HI.out] at hI
        have hE := hI
        have HB5 : Hid (Below w1.heap.size w1 w5) := Lib.hid (HB.out.trans (hE.mono HB.out.size))
        clear hI hE hcz H00 HI HB HBW cO HCO HTR HLX2 HHA
        go_wp2_with fail
        go_roundg (m - (j + 1))
        case measure => omega
        case rel => exact ⟨j + 1, HV, by go_num, rfl, by omega, rfl, HALN, HB5⟩
    · obtain rfl : j = m := by omega
      have hnj : ¬ (j : Int) < (j : Int) := by omega
      have HALL : Hid (hasTs ts x = al) := Lib.hid (by
        have h := HAL.out
        rw [List.take_of_length_le (by rw [← HML.out]; exact Nat.le_refl _)] at h
        exact h)
      cases al with
      | true =>
        have HRT : Hid (R = true) := Lib.hid (HANY.out HALL.out)
        clear HAL
        go_wp2_with fail
        go_ret
        exact ⟨by rw [HRT.out]; rfl, HBW.out⟩
      | false =>
        have HAN : Hid (hasTss (tss.take (i + 1)) x = false) := Lib.hid (by rw [HTKN.out]; exact HALL.out)
        clear HAL HALL
        go_wp2_with fail
        go_roundg (n - (i + 1))
        case measure => omega
        case rel => exact ⟨i + 1, by go_num, by omega, rfl, HAN, HB⟩
  · obtain rfl : i = n := by omega
    have hni : ¬ (i : Int) < (i : Int) := by omega
    have HRF : Hid (R = false) := Lib.hid (by
      have h := HA.out
      rw [List.take_of_length_le (by rw [HT.out.lent]; exact Nat.le_refl _)] at h
      rw [HR.out, h])
    clear HA
    go_wp2_with fail
    go_ret
    exact ⟨by rw [HRF.out]; rfl, HBW.out⟩
end Go.Proofs.YteeijjhgdplifaaGreatDoor
