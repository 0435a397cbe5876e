/- Spans: term. -/
import Derived.Test.YteeijjhgdplifaaGreatDoorTI
import Derived.Shelf.Strings.SlTrimAscii
namespace Go.Proofs.YteeijjhgdplifaaGreatDoor
open Go.RowKit

theorem trimL_ok (s : ByteArray) (w : World) : Calls Tryz.prog 41 #[.string s, .string (bl opSet)] w fun e w' => e = .returned (.string (bl (Lib.trimLeftS s.data.toList opSet))) ∧ Below w.heap.size w w' := by
  have := Any.strings_TrimLeft_laid Tryz.lays161 (by kernel_rfl) s (bl opSet) w (by rw [bl_size]; decide) (by rw [bl_data]; exact ascii_of_all (by decide))
  rw [bl_data] at this
  exact this
def TermIs (w0 w : World) (s : List UInt8) (p : Value) : Prop := (termP s = none ∧ p = .pointer none) ∨ ∃ cs g, termP s = some cs ∧ p = sp0 g ∧ SpAt w w0.heap.size g cs
theorem Chain1.start' {a : Nat} {S0 : World → Prop} {S1 : Value → World → Prop} {τ : Done} {w : World} (ha : τ a = none) (h : S0 w) : Chain1 a S0 S1 τ w := by simpa only [Chain1, ha] using h
set_option maxRecDepth 100000 in
set_option maxHeartbeats 4000000 in
theorem spTerm_ok (s : ByteArray) (hs : s.size ≤ 4000000000) (w : World) (hg : GV w) : Calls Tryz.prog 23 #[.string s] w fun e w' => ∃ p, e = .returned (.tuple #[p, .bool (termP s.data.toList).isSome]) ∧ TermIs w w' s.data.toList p ∧ Below w.heap.size w w' := by
  obtain ⟨OKB, hOKB⟩ : ∃ OKB, OKB = (termP s.data.toList).isSome := ⟨_, rfl⟩
  rw [← hOKB]
  have HOK := Lib.hid hOKB
  clear hOKB
  have HG := Lib.hid hg
  have HS := Lib.hid hs
  clear hg hs
  by_cases h42 : s.data.toList = [42]
  · obtain rfl : s = bl [42] := by rw [← h42]
    have HT : Hid (termP (bl [42]).data.toList = some [botC, topC]) := Lib.hid rfl
    clear h42
    go_enter Tryz.func23, Tryz.ntmps23
    go_wp2_with fail
    refine (spAll_ok w).mono ?_
    rintro e w1 ⟨g, rfl, h1, hb⟩
    have H1 := Lib.hid h1
    have HB := Lib.hid hb
    clear h1 hb
    go_wp2_with fail
    go_ret2
    exact ⟨_, by rw [HOK.out, HT.out]; rfl, .inr ⟨_, g, HT.out, rfl, H1.out⟩, HB.out⟩
  · have q1 : ¬ s.toList = [42] := by rw [Lib.toList_data]; exact h42
    have q2 : (s.toList == [42]) = false := by simpa using q1
    obtain ⟨t, ht⟩ : ∃ t, t = Lib.trimLeftS s.data.toList opSet := ⟨_, rfl⟩
    obtain ⟨p, hp, hpo⟩ := trim_form s.data.toList
    rw [← ht] at hp
    obtain ⟨T, hT⟩ : ∃ T, T = bl t := ⟨_, rfl⟩
    have hn2 : s.size = p.length + t.length := by rw [Lib.size_eq, hp, List.length_append]
    have hm2 : T.size = t.length := by rw [hT, bl_size]
    obtain ⟨d, hd⟩ : ∃ d : Nat, d = p.length := ⟨_, rfl⟩
    have hs1 := HS.out
    have e1 : (s.size : Int) - (T.size : Int) = (d : Int) := by omega
    have e2 : IntKind.i64.wrap (d : Int) = (d : Int) := by rw [IntKind.wrap_i64]; omega
    have e3 : (d : Int) ≤ (s.size : Int) := by omega
    have e4 : d ≤ s.size := by omega
    have e5 : 0 ≤ (d : Int) := by omega
    have hTP : termP s.data.toList = (match readVer t with | none => none | some v => opCuts p v) := by
      unfold termP
      rw [if_neg h42, ← ht]
      have : s.data.toList.take (s.data.toList.length - t.length) = p := by
        conv => lhs; rw [hp]
        rw [List.length_append, Nat.add_sub_cancel, List.take_left' rfl]
      rw [this]
      cases readVer t <;> rfl
    have HTP := Lib.hid hTP
    have HSE : Hid (s.extract 0 d = bl p) := Lib.hid (by
      have e : (s.extract 0 d).data.toList = p := by
        rw [ByteArray.data_extract, Array.toList_extract, List.extract_eq_take_drop, List.drop_zero, Nat.sub_zero, hp, show d = p.length by omega, List.take_left' rfl]
      rw [bl_eta (s.extract 0 d), e])
    have HT := Lib.hid hT
    have HTT := Lib.hid ht
    have HTL : Hid (Calls Tryz.prog 41 #[.string s, .string (bl opSet)] w fun e w' => e = .returned (.string T) ∧ Below w.heap.size w w') := Lib.hid (by rw [hT, ht]; exact trimL_ok s w)
    have hTs : T.size ≤ 4000000000 := by have := HS.out; omega
    have HPA : Hid (∀ wI, Below w.heap.size w wI → Calls Tryz.prog 42 #[.string T] wI fun e w' => e = .returned (.tuple #[(rv t).1.val, .int .i64 (rv t).2]) ∧ Below wI.heap.size wI w') := Lib.hid (fun wI hb => by
      have h := parse_ok T hTs wI (HG.out.below hb)
      rw [show T.data.toList = t by rw [hT]] at h
      exact h)
    clear ht hp hpo hT hTs hTP hn2 hm2 hd hs1
    go_enter Tryz.func23, Tryz.ntmps23
    go_wp2_with fail
    refine HTL.out.mono ?_
    rintro e w1 ⟨rfl, hb1⟩
    have HB1 := Lib.hid hb1
    have HPA1 := Lib.hid (HPA.out w1 hb1)
    clear hb1
    go_wp2_with fail
    refine HPA1.out.mono ?_
    rintro e w2 ⟨rfl, hb2⟩
    have HB2 : Hid (Below w.heap.size w w2) := Lib.hid (HB1.out.trans (hb2.mono HB1.out.size))
    clear hb2 HPA1 HB1
    obtain ⟨v, hv⟩ : ∃ v, v = (rv t).1 := ⟨_, rfl⟩
    obtain ⟨E, hE⟩ : ∃ E, E = (rv t).2 := ⟨_, rfl⟩
    rw [← hv, ← hE]
    have hvo : v.Ok ∧ (E = 0 → v.may = true) ∧ (E = 0 ∨ E = 20) ∧ termP s.data.toList = if E = 0 then opCuts p v else none := by
      rw [HTP.out, hv, hE]
      cases hr : readVer t with
      | none => rw [rv_none hr]; exact ⟨rfl, fun h => absurd h (show ¬ (20 : Int) = 0 by decide), .inr rfl, rfl⟩
      | some v =>
        obtain ⟨h1, h2, _⟩ := readVer_sound hr
        rw [rv_some hr]; exact ⟨h1, fun _ => h2, .inl rfl, rfl⟩
    obtain ⟨hvo, hvm, hE3, hTP⟩ := hvo
    have HTE := Lib.hid hTP
    obtain ⟨g5, hg5⟩ : ∃ g5, g5 = w2.heap.size := ⟨_, rfl⟩
    obtain ⟨w3, hw3⟩ : ∃ w3, w3 = (w2.alloc (.cells zv 38)).setRow g5 v.cells.toArray := ⟨_, rfl⟩
    have q4 := laid_ver w2 v
    have hb4 : Below w2.heap.size w2 w3 := by rw [hw3, hg5]; exact q4.2
    have k5 : Blk w3 g5 38 v.cells := by rw [hw3, hg5]; exact q4.1
    have HB3 : Hid (Below w.heap.size w w3) := Lib.hid (HB2.out.trans (hb4.mono HB2.out.size))
    have HZ4 : Hid ((w2.alloc (.cells zv 38)).heap[g5]? = some (.cells Ver.zero.cells.toArray 38 (0, 0))) := Lib.hid (by rw [hg5]; exact heap_alloc_new _ _)
    have HIU : Hid ((Tryz.prog.info? 38).map (·.size) = some v.cells.toArray.size) := Lib.hid (by rw [Ver.cells_size hvo]; kernel_rfl)
    have HZU : Hid (Ver.zero.cells.toArray.size = v.cells.toArray.size) := Lib.hid (by rw [Ver.cells_size hvo]; rfl)
    have HONU : Hid (v.cells.toArray.all (·.oneCell') = true) := Lib.hid (Ver.cells_one v)
    have LV := Lib.hid (vload k5 hvo)
    have KV := Lib.hid k5
    have HVO := Lib.hid hvo
    have HVM := Lib.hid hvm
    have HE3 := Lib.hid hE3
    have HG5 := Lib.hid hg5
    have HW3 := Lib.hid hw3
    clear hTP hvo hvm hE3 hg5 hw3 q4 hb4 k5 HPA HTL HB2 HTP hv hE
    rw [show v.val = .agg v.cells.toArray from rfl]
    go_upto_region 5 with (refine wpList_store_row rfl 38 (.tmp 5) (.tmp 15) rfl g5 v.cells.toArray (by rw [HG5.out]; rfl) rfl _ _ HZ4.out HIU.out HZU.out HONU.out ?_)
    rw [← HG5.out, ← HW3.out]
    rcases HE3.out with rfl | rfl
    · have HTE2 : Hid (termP s.data.toList = opCuts p v) := Lib.hid HTE.out
      have HM : Hid (v.may = true) := Lib.hid (HVM.out rfl)
      clear HTE HVM HE3
      go_upto_region 8 with fail
      rw [HSE.out]
      have HBA := Lib.hid (built_cut 1 HVO.out)
      have HBB := Lib.hid (built_cut 2 HVO.out)
      have HLD : Hid (∀ wI, Below w3.heap.size w3 wI → (loadVar 38 ⟨g5, 0, none⟩).run Tryz.prog wI = .ok (.agg v.cells.toArray) wI) := Lib.hid (fun wI hb => vload (KV.out.below' hb) HVO.out)
      have hvt : v.t.length ≤ 140737488355328 := by
        have := v.may_t HM.out
        unfold tagOk at this
        simp only [Bool.and_eq_true, decide_eq_true_eq] at this
        omega
      have HFR : Hid (∀ (n : Int) wI, Below w3.heap.size w3 wI → Calls Tryz.prog 43 #[.agg v.cells.toArray, .int .i64 n] wI fun e w' => ∃ g, e = .returned (sp0 g) ∧ SpAt w' w3.heap.size g (fromC v n) ∧ Below w3.heap.size w3 w') := Lib.hid (fun n wI hb => (from_ok v HVO.out hvt n wI).mono fun e w' ⟨g, he, h1, h2⟩ => ⟨g, he, h1.lower hb.size, hb.trans (h2.mono hb.size)⟩)
      clear hvt e1 e2 e3 e4 e5 HSE
      by_cases hp : p = [62, 61]
      · subst hp
        · have HR : Hid (termP s.data.toList = some (spl ⟨1, v⟩ topC)) := Lib.hid (by rw [HTE2.out]; rfl)
          have HOB : Hid (OKB = true) := Lib.hid (by rw [HOK.out, HR.out]; rfl)
          have HBT := Lib.hid (between_ok ⟨1, v⟩ topC (ok1 HVO.out) topC_pr.1 w3)
          go_wp2_with (first | refine wpList_load_at rfl 38 (.tmp 5) rfl ⟨g5, 0, none⟩ rfl _ LV.out ?_ | refine wpList_build_two rfl 57 0 1 (.const (.int .i64 1)) (.tmp 28) rfl (.int .i64 1) (.agg v.cells.toArray) rfl rfl _ HBA.out ?_)
          refine HBT.out.mono ?_
          rintro e w4 ⟨g, rfl, hs, hb⟩
          have HSP := Lib.hid (hs.lower HB3.out.size)
          have HB4 : Hid (Below w.heap.size w w4) := Lib.hid (HB3.out.trans (hb.mono HB3.out.size))
          clear hs hb
          go_wp2_with fail
          go_ret2
          exact ⟨_, by rw [HOB.out]; rfl, .inr ⟨_, g, HR.out, rfl, HSP.out⟩, HB4.out⟩
      by_cases hp : p = [62]
      · subst hp
        · have HR : Hid (termP s.data.toList = some (spl ⟨2, v⟩ topC)) := Lib.hid (by rw [HTE2.out]; rfl)
          have HOB : Hid (OKB = true) := Lib.hid (by rw [HOK.out, HR.out]; rfl)
          have HBT := Lib.hid (between_ok ⟨2, v⟩ topC (ok2 HVO.out) topC_pr.1 w3)
          go_wp2_with (first | refine wpList_load_at rfl 38 (.tmp 5) rfl ⟨g5, 0, none⟩ rfl _ LV.out ?_ | refine wpList_build_two rfl 57 0 1 (.const (.int .i64 2)) (.tmp 34) rfl (.int .i64 2) (.agg v.cells.toArray) rfl rfl _ HBB.out ?_)
          refine HBT.out.mono ?_
          rintro e w4 ⟨g, rfl, hs, hb⟩
          have HSP := Lib.hid (hs.lower HB3.out.size)
          have HB4 : Hid (Below w.heap.size w w4) := Lib.hid (HB3.out.trans (hb.mono HB3.out.size))
          clear hs hb
          go_wp2_with fail
          go_ret2
          exact ⟨_, by rw [HOB.out]; rfl, .inr ⟨_, g, HR.out, rfl, HSP.out⟩, HB4.out⟩
      by_cases hp : p = [60, 61]
      · subst hp
        · have HR : Hid (termP s.data.toList = some (spl botC ⟨2, v⟩)) := Lib.hid (by rw [HTE2.out]; rfl)
          have HOB : Hid (OKB = true) := Lib.hid (by rw [HOK.out, HR.out]; rfl)
          have HBT := Lib.hid (between_ok botC ⟨2, v⟩ botC_pr.1 (ok2 HVO.out) w3)
          go_wp2_with (first | refine wpList_load_at rfl 38 (.tmp 5) rfl ⟨g5, 0, none⟩ rfl _ LV.out ?_ | refine wpList_build_two rfl 57 0 1 (.const (.int .i64 2)) (.tmp 41) rfl (.int .i64 2) (.agg v.cells.toArray) rfl rfl _ HBB.out ?_)
          refine HBT.out.mono ?_
          rintro e w4 ⟨g, rfl, hs, hb⟩
          have HSP := Lib.hid (hs.lower HB3.out.size)
          have HB4 : Hid (Below w.heap.size w w4) := Lib.hid (HB3.out.trans (hb.mono HB3.out.size))
          clear hs hb
          go_wp2_with fail
          go_ret2
          exact ⟨_, by rw [HOB.out]; rfl, .inr ⟨_, g, HR.out, rfl, HSP.out⟩, HB4.out⟩
      by_cases hp : p = [60]
      · subst hp
        · have HR : Hid (termP s.data.toList = some (spl botC ⟨1, v⟩)) := Lib.hid (by rw [HTE2.out]; rfl)
          have HOB : Hid (OKB = true) := Lib.hid (by rw [HOK.out, HR.out]; rfl)
          have HBT := Lib.hid (between_ok botC ⟨1, v⟩ botC_pr.1 (ok1 HVO.out) w3)
          go_wp2_with (first | refine wpList_load_at rfl 38 (.tmp 5) rfl ⟨g5, 0, none⟩ rfl _ LV.out ?_ | refine wpList_build_two rfl 57 0 1 (.const (.int .i64 1)) (.tmp 47) rfl (.int .i64 1) (.agg v.cells.toArray) rfl rfl _ HBA.out ?_)
          refine HBT.out.mono ?_
          rintro e w4 ⟨g, rfl, hs, hb⟩
          have HSP := Lib.hid (hs.lower HB3.out.size)
          have HB4 : Hid (Below w.heap.size w w4) := Lib.hid (HB3.out.trans (hb.mono HB3.out.size))
          clear hs hb
          go_wp2_with fail
          go_ret2
          exact ⟨_, by rw [HOB.out]; rfl, .inr ⟨_, g, HR.out, rfl, HSP.out⟩, HB4.out⟩
      by_cases hp : p = [61]
      · subst hp
        · have HR : Hid (termP s.data.toList = some (spl ⟨1, v⟩ ⟨2, v⟩)) := Lib.hid (by rw [HTE2.out]; rfl)
          have HOB : Hid (OKB = true) := Lib.hid (by rw [HOK.out, HR.out]; rfl)
          have HBT := Lib.hid (between_ok ⟨1, v⟩ ⟨2, v⟩ (ok1 HVO.out) (ok2 HVO.out) w3)
          go_wp2_with (first | refine wpList_load_at rfl 38 (.tmp 5) rfl ⟨g5, 0, none⟩ rfl _ LV.out ?_ | refine wpList_build_two rfl 57 0 1 (.const (.int .i64 1)) (.tmp 52) rfl (.int .i64 1) (.agg v.cells.toArray) rfl rfl _ HBA.out ?_ | refine wpList_build_two rfl 57 0 1 (.const (.int .i64 2)) (.tmp 54) rfl (.int .i64 2) (.agg v.cells.toArray) rfl rfl _ HBB.out ?_)
          refine HBT.out.mono ?_
          rintro e w4 ⟨g, rfl, hs, hb⟩
          have HSP := Lib.hid (hs.lower HB3.out.size)
          have HB4 : Hid (Below w.heap.size w w4) := Lib.hid (HB3.out.trans (hb.mono HB3.out.size))
          clear hs hb
          go_wp2_with fail
          go_ret2
          exact ⟨_, by rw [HOB.out]; rfl, .inr ⟨_, g, HR.out, rfl, HSP.out⟩, HB4.out⟩
      by_cases hp : p = [94]
      · subst hp
        · obtain ⟨CR, hCR⟩ : ∃ CR, CR = caretC v := ⟨_, rfl⟩
          have HR : Hid (termP s.data.toList = some (fromC v CR)) := Lib.hid (by rw [HTE2.out, hCR]; rfl)
          have HOB : Hid (OKB = true) := Lib.hid (by rw [HOK.out, HR.out]; rfl)
          have HCA : Hid (∀ wI, Calls Tryz.prog 44 #[.agg v.cells.toArray] wI fun e w' => e = .returned (.int .i64 CR) ∧ Below wI.heap.size wI w') := Lib.hid (fun wI => by rw [hCR]; exact caret_ok v HVO.out HM.out wI)
          clear hCR
          go_upto_region 19 with fail
          try simp only [Act.put, List.setIfInBounds_toArray, List.set_cons_zero, List.set_cons_succ]
          obtain ⟨Inv, hInv⟩ : ∃ Inv : Done → World → Prop, Inv = Chain1 3 (fun wI => Below w3.heap.size w3 wI) (fun x wI => ∃ g, x = sp0 g ∧ SpAt wI w3.heap.size g (fromC v CR) ∧ Below w3.heap.size w3 wI) := ⟨_, rfl⟩
          have HI := Lib.hid hInv
          have hcz : Hid (∀ τ wI, Inv τ wI → τ 3 = none → Below w3.heap.size w3 wI) := by
            intro τ wI h h9
            rw [hInv] at h
            exact h.upto0 h9
          have H00 : Hid (Inv Done.none w3.drew) := by rw [hInv]; exact Chain1.start (Below.refl _ _).drew
          clear hInv
          refine wp_region_inv (by kernel_rfl) [⟨0, false, [], [3]⟩, ⟨1, false, [], [3]⟩, ⟨2, false, [], [3]⟩, ⟨3, true, [], []⟩, ⟨4, false, [3], []⟩, ⟨5, false, [3], []⟩] (by kernel_rfl) Inv (fun _ _ => True) (fun _ => ⟨undef, trivial⟩) H00.out ?_
          (apply WpI.pure; (simp only [List.getElem?_toArray, List.getElem?_cons_succ, List.getElem?_cons_zero]; rfl); (intro τ wI hA hI; have f0 := hcz.out τ wI hI (hA.2 3 (by decide)); refine runs_load_a rfl 38 (.tmp 5) rfl ⟨g5, 0, none⟩ rfl _ (HLD.out wI f0) ?_; exact ⟨hI, Is.rfl'⟩); simp only [Act.put, List.setIfInBounds_toArray, List.set_cons_zero, List.set_cons_succ])
          (apply WpI.pure; (simp only [List.getElem?_toArray, List.getElem?_cons_succ, List.getElem?_cons_zero]; rfl); (intro τ wI hA hI; have f0 := hcz.out τ wI hI (hA.2 3 (by decide)); refine runs_load_a rfl 38 (.tmp 5) rfl ⟨g5, 0, none⟩ rfl _ (HLD.out wI f0) ?_; exact ⟨hI, Is.rfl'⟩); simp only [Act.put, List.setIfInBounds_toArray, List.set_cons_zero, List.set_cons_succ])
          (apply WpI.pure; (simp only [List.getElem?_toArray, List.getElem?_cons_succ, List.getElem?_cons_zero]; rfl); (intro τ wI hA hI; have f0 := hcz.out τ wI hI (hA.2 3 (by decide)); go_simp; refine (HCA.out wI).mono ?_; rintro e w' ⟨rfl, hb⟩; refine ⟨_, rfl, ?_, Is.rfl'⟩; rw [HI.out]; exact Chain1.start' (hA.2 3 (by decide)) (f0.trans (hb.mono f0.size))); simp only [Act.put, List.setIfInBounds_toArray, List.set_cons_zero, List.set_cons_succ])
          apply WpI.effect; (simp only [List.getElem?_toArray, List.getElem?_cons_succ, List.getElem?_cons_zero]; rfl)
          · intro τ wI hA hn hI
            have h0 := hI
            rw [HI.out] at h0
            have hK := h0.at0 hn
            have HT := Lib.hid (And.intro True.intro (True.intro))
            clear hA hn hI h0
            go_simp
            refine (HFR.out CR wI hK).mono ?_
            rintro e w' ⟨g, rfl, hs, hb⟩
            refine ⟨_, rfl, ?_⟩
            rw [HI.out]
            exact Chain1.put1  ⟨g, rfl, hs, hb⟩
          intro v3 hv3
          simp only [Act.put, List.setIfInBounds_toArray, List.set_cons_zero, List.set_cons_succ]
          clear hv3
          iterate 2 (apply WpI.pure; (simp only [List.getElem?_toArray, List.getElem?_cons_succ, List.getElem?_cons_zero]; rfl); (intro τ wI hA hI; go_simp; exact ⟨hI, Is.rfl'⟩); simp only [Act.put, List.setIfInBounds_toArray, List.set_cons_zero, List.set_cons_succ])
          refine WpI.done ?_
          intro w4 hI
          rw [HI.out] at hI
          have hE := hI.end_
          obtain ⟨g, rfl, hs, hb⟩ := hE
          have HSP := Lib.hid (hs.lower HB3.out.size)
          have HB4 : Hid (Below w.heap.size w w4) := Lib.hid (HB3.out.trans (hb.mono HB3.out.size))
          clear hs hb hI H00 hcz HI
          go_wp2_with fail
          go_ret2
          exact ⟨_, by rw [HOB.out]; rfl, .inr ⟨_, g, HR.out, rfl, HSP.out⟩, HB4.out⟩
      by_cases hp : p = [126]
      · subst hp
        · obtain ⟨hc1, hc4⟩ := v.may_c HM.out
          obtain ⟨k, hk⟩ : ∃ k : Nat, v.c = (k : Int) := ⟨v.c.toNat, by omega⟩
          obtain ⟨C, hC⟩ : ∃ C, C = v.c := ⟨_, rfl⟩
          have HR : Hid (termP s.data.toList = some (fromC v (min 2 C))) := Lib.hid (by rw [HTE2.out, hC]; rfl)
          have HOB : Hid (OKB = true) := Lib.hid (by rw [HOK.out, HR.out]; rfl)
          have c4 : w3.cell? ⟨g5, 4, none⟩ = some (.int .i64 C) := by rw [KV.out.cell, Ver.cells_c HVO.out, hC]
          have l4 := KV.out.lt
          have HFX := Lib.hid (HFR.out (min 2 C) w3 (Below.refl _ _))
          clear hc1 hc4 hk hC
          go_wp2_with (refine wpList_load_at rfl 38 (.tmp 5) rfl ⟨g5, 0, none⟩ rfl _ LV.out ?_)
          refine HFX.out.mono ?_
          rintro e w4 ⟨g, rfl, hs, hb⟩
          have HSP := Lib.hid (hs.lower HB3.out.size)
          have HB4 : Hid (Below w.heap.size w w4) := Lib.hid (HB3.out.trans (hb.mono HB3.out.size))
          clear hs hb
          go_wp2_with fail
          go_ret2
          exact ⟨_, by rw [HOB.out]; rfl, .inr ⟨_, g, HR.out, rfl, HSP.out⟩, HB4.out⟩
      have HR : Hid (termP s.data.toList = none) := Lib.hid (by rw [HTE2.out]; unfold opCuts; simp only [*, if_false])
      have HOB : Hid (OKB = false) := Lib.hid (by rw [HOK.out, HR.out]; rfl)
      have n0 : ¬ (bl p).toList = [62, 61] := by rw [bl_toList]; assumption
      have m0 : ((bl p).toList == [62, 61]) = false := by simpa using n0
      have n1 : ¬ (bl p).toList = [62] := by rw [bl_toList]; assumption
      have m1 : ((bl p).toList == [62]) = false := by simpa using n1
      have n2 : ¬ (bl p).toList = [60, 61] := by rw [bl_toList]; assumption
      have m2 : ((bl p).toList == [60, 61]) = false := by simpa using n2
      have n3 : ¬ (bl p).toList = [60] := by rw [bl_toList]; assumption
      have m3 : ((bl p).toList == [60]) = false := by simpa using n3
      have n4 : ¬ (bl p).toList = [61] := by rw [bl_toList]; assumption
      have m4 : ((bl p).toList == [61]) = false := by simpa using n4
      have n5 : ¬ (bl p).toList = [94] := by rw [bl_toList]; assumption
      have m5 : ((bl p).toList == [94]) = false := by simpa using n5
      have n6 : ¬ (bl p).toList = [126] := by rw [bl_toList]; assumption
      have m6 : ((bl p).toList == [126]) = false := by simpa using n6
      obtain ⟨P0, hP0⟩ : ∃ P0, P0 = bl p := ⟨_, rfl⟩
      rw [← hP0] at n0 m0 n1 m1 n2 m2 n3 m3 n4 m4 n5 m5 n6 m6 ⊢
      clear hP0
      go_wp2_with fail
      go_ret2
      exact ⟨_, by rw [HOB.out]; rfl, .inl ⟨HR.out, rfl⟩, HB3.out⟩
    · have HTE2 : Hid (termP s.data.toList = none) := Lib.hid HTE.out
      go_wp2_with fail
      go_ret2
      exact ⟨_, by rw [HOK.out, HTE2.out]; rfl, .inl ⟨HTE2.out, rfl⟩, HB3.out⟩
end Go.Proofs.YteeijjhgdplifaaGreatDoor
