/- Contract of version.Bump. -/
import Derived.Test.YteeijjhgdplifaaGreatDoorVi
namespace Go.Proofs.YteeijjhgdplifaaGreatDoor
open Go.RowKit

theorem runs_copy_run {P : Program} {ops : Array Oper} {o : Oper} {a : Act} {w : World} {R : Value → World → Prop} (hgd : o.guard = none) (d s : Operand) (dT sT : TypeId)
    (ho : o.op = .call { callee := .builtin .copy, args := #[d, s], argTypes := #[dT, sT] }) (vd vs : Value) (hd : a.eval d = vd) (hs : a.eval s = vs) (r : Value) (w' : World) (hrun : (Builtin.copy_ #[dT, sT] o.type #[vd, vs]).run P w = .ok r w') (h : R r w') : Runs P ops o a w R := by
  unfold Runs Region.wanted
  rw [hgd]
  show Out P R ((execOp a.eval o).run P w)
  unfold execOp
  simp only [ho, resolve, invoke, builtin, Sem.run_bind, Sem.run_pure, Result.andThen_ok, List.map_toArray, List.map_cons, List.map_nil, hd, hs, hrun]
  exact h
theorem Ver.upto_cells {v : Ver} (hv : v.Ok) {k : Nat} (h1 : 1 ≤ k) (h4 : k ≤ 4) : (⟨[0, 0, 0, 0], k, []⟩ : Ver).cells.take 0 ++ ints (v.ns.take k) ++ (⟨[0, 0, 0, 0], k, []⟩ : Ver).cells.drop (0 + (ints (v.ns.take k)).length) = (⟨(v.upto k).ns, k, []⟩ : Ver).cells := by
  have hl : v.ns.length = 4 := hv
  obtain ⟨a, b, c, d, he⟩ := Ver.four hl
  obtain ⟨l, cc, t⟩ := v
  simp only at he
  subst he
  have hn : k = 1 ∨ k = 2 ∨ k = 3 ∨ k = 4 := by omega
  rcases hn with rfl | rfl | rfl | rfl <;> rfl
theorem Ver.next_cells {v : Ver} (hv : v.Ok) {n : Nat} (h1 : 1 ≤ n) (h4 : n ≤ 4) : (v.next n).cells = ((⟨(v.upto n).ns, n, []⟩ : Ver).cells).set (n - 1) (.int .i64 (v.ns.getD (n - 1) 0 + 1)) := by
  have hl : v.ns.length = 4 := hv
  obtain ⟨a, b, c, d, he⟩ := Ver.four hl
  obtain ⟨l, cc, t⟩ := v
  simp only at he
  subst he
  have hn : n = 1 ∨ n = 2 ∨ n = 3 ∨ n = 4 := by omega
  rcases hn with rfl | rfl | rfl | rfl <;> rfl
theorem bump_eq {v : Ver} (hv : v.Ok) (n : Nat) (h1 : 1 ≤ n) (h4 : n ≤ 4) (hm : v.may = true) : v.bump (n : Int) = if (v.next n).may then (v.next n, 0) else (Ver.zero, 20) := by
  unfold Ver.bump
  rw [if_neg (by rw [hm]; decide), if_neg (by omega), next_may hv hm h1 h4]
  have e : (n : Int).toNat = n := by omega
  rw [e]
  by_cases h : v.ns.getD (n - 1) 0 = 999999999
  · rw [if_pos h, decide_eq_false (fun h2 => h2 h), if_neg (by decide)]
  · rw [if_neg h, if_pos (decide_eq_true h)]

set_option maxRecDepth 100000 in
set_option maxHeartbeats 2000000 in
theorem bump_ok (v : Ver) (hv : v.Ok) (hs : v.t.length ≤ 140737488355328) (n : Int) (w : World) : Calls Tryz.prog 69 #[v.val, .int .i64 n] w fun e w' => e = .returned (.tuple #[(v.bump n).1.val, .int .i64 (v.bump n).2]) ∧ Below w.heap.size w w' := by
  obtain ⟨w1, hw1⟩ : ∃ w1, w1 = w.alloc (.cells v.cells.toArray 38) := ⟨_, rfl⟩
  obtain ⟨w2, hw2⟩ : ∃ w2, w2 = w1.alloc (.cells #[.int .i64 0, .int .i64 0, .int .i64 0, .int .i64 0, .int .i64 0, .string ⟨#[]⟩] 38) := ⟨_, rfl⟩
  obtain ⟨g2, hg2⟩ : ∃ g2, g2 = w.heap.size := ⟨_, rfl⟩
  obtain ⟨g4, hg4⟩ : ∃ g4, g4 = g2 + 1 := ⟨_, rfl⟩
  have hg41 : g4 = w1.heap.size := by rw [hg4, hg2, hw1]; simp
  have hb1 : Below w.heap.size w w1 := by rw [hw1]; exact (Below.refl _ _).alloc (Nat.le_refl _) _
  have hb2 : Below w1.heap.size w1 w2 := by rw [hw2]; exact (Below.refl _ _).alloc (Nat.le_refl _) _
  have k1 : Blk w1 g2 38 v.cells := by rw [hw1, hg2]; exact Blk.new _ _ v.cells.toArray
  have k2 : Blk w2 g2 38 v.cells := k1.below' hb2
  have z2 : Blk w2 g4 38 Ver.zero.cells := by rw [hw2, hg41]; exact Blk.new _ _ _
  have HK2 := Lib.hid k2
  have HZ2 := Lib.hid z2
  have HL2 := Lib.hid (vload k2 hv)
  have HV := Lib.hid hv
  have HS := Lib.hid hs
  have HB2 : Hid (Below w.heap.size w w2) := Lib.hid (hb1.trans (hb2.mono hb1.size))
  have HGG : Hid (w.heap.size ≤ g2 ∧ w.heap.size ≤ g4 ∧ g2 ≠ g4) := Lib.hid (by omega)
  have HW1 := Lib.hid hw1
  have HW2 := Lib.hid hw2
  have HGN2 := Lib.hid hg2
  have HGN4 := Lib.hid hg4
  have HI6 : Hid ((Tryz.prog.info? 38).map (·.size) = some 6) := Lib.hid (by kernel_rfl)
  obtain ⟨RES, hRES⟩ : ∃ RES, RES = v.bump n := ⟨_, rfl⟩
  have HRES := Lib.hid hRES
  rw [← hRES]
  -- a return of nothing
  have hzero : ∀ wc, Blk wc g4 38 Ver.zero.cells → Below w.heap.size w wc → Blk (wc.setRow g4 Ver.zero.cells.toArray) g4 38 Ver.zero.cells ∧ Below w.heap.size w (wc.setRow g4 Ver.zero.cells.toArray) := by
    intro wc h hb
    exact ⟨h.setRow_ Ver.zero.cells, hb.trans (((Mod.refl (fun b => w.heap.size ≤ b) wc).setRow (fun _ => HGG.out.2.1) _).below hb.size (fun _ h => h))⟩
  have HZR := Lib.hid hzero
  clear hw1 hw2 hg2 hg4 hg41 hb1 hb2 k1 k2 z2 hv hs hRES hzero
  rw [show v.val = .agg v.cells.toArray from rfl]
  go_enter Tryz.func69, Tryz.ntmps69
  go_upto_region 1 with fail
  rw [← HW1.out, ← HW2.out, ← HGN2.out, ← HGN4.out]
  go_wp2_with (refine wpList_load_run rfl 38 (.tmp 2) rfl g2 rfl _ HL2.out ?_)
  refine (may_ok v HV.out HS.out w2).mono ?_
  rintro e w3 ⟨rfl, hb3⟩
  have HK3 := Lib.hid (HK2.out.below' hb3)
  have HZ3 := Lib.hid (HZ2.out.below' hb3)
  have HB3 : Hid (Below w.heap.size w w3) := Lib.hid (HB2.out.trans (hb3.mono HB2.out.size))
  clear hb3
  cases hm : v.may
  · have hR : Hid (RES = (Ver.zero, 20)) := Lib.hid (by rw [HRES.out]; unfold Ver.bump; rw [if_pos hm])
    obtain ⟨w7, hw7⟩ : ∃ w7, w7 = w3.setRow g4 Ver.zero.cells.toArray := ⟨_, rfl⟩
    obtain ⟨f1, f2⟩ := HZR.out w3 HZ3.out HB3.out
    rw [← hw7] at f1 f2
    have HL7 := Lib.hid (vload f1 Ver.zero_ok)
    have HF2 := Lib.hid f2
    have HW7 := Lib.hid hw7
    clear hm hw7 f1 f2
    go_wp2_with (refine wpList_store_row rfl 38 (.tmp 4) (.tmp 11) rfl g4 Ver.zero.cells.toArray rfl rfl _ _ HZ3.out HI6.out rfl (Ver.cells_one _) ?_)
    rw [← HW7.out]
    try simp only [Exit.inBlock, Exit.then]
    refine bodyPost_ret (results_cell2 rfl _ _ g4 _ rfl HL7.out) rfl ?_
    exact ⟨by rw [hR.out]; rfl, HF2.out⟩
  · have HM := Lib.hid hm
    clear hm
    go_wp2_with fail
    refine (within_ok n 1 4 w3).mono ?_
    rintro e w' ⟨rfl, rfl⟩
    by_cases hn : 1 ≤ n ∧ n ≤ 4
    · rw [decide_eq_true hn]
      obtain ⟨k, rfl⟩ : ∃ k : Nat, n = (k : Int) := ⟨n.toNat, by omega⟩
      have hk1 : 1 ≤ k := by omega
      have hk4 : k ≤ 4 := by omega
      have hkI : (k : Int) ≤ 4 := by omega
      have hk0 : 0 ≤ (k : Int) := by omega
      clear hn
      obtain ⟨w5, hw5⟩ : ∃ w5, w5 = w3.alloc (.cells #[.int .i64 0, .int .i64 0, .int .i64 0, .int .i64 0, .int .i64 (k : Int), .string ⟨#[]⟩] 38) := ⟨_, rfl⟩
      obtain ⟨g6, hg6⟩ : ∃ g6, g6 = w3.heap.size := ⟨_, rfl⟩
      have hb5 : Below w3.heap.size w3 w5 := by rw [hw5]; exact (Below.refl _ _).alloc (Nat.le_refl _) _
      have q5 : Blk w5 g6 38 (⟨[0, 0, 0, 0], k, []⟩ : Ver).cells := by rw [hw5, hg6]; exact Blk.new _ _ _
      have HQ5 := Lib.hid q5
      have HK5 := Lib.hid (HK3.out.below' hb5)
      have HZ5 := Lib.hid (HZ3.out.below' hb5)
      have HB5 : Hid (Below w.heap.size w w5) := Lib.hid (HB3.out.trans (hb5.mono HB3.out.size))
      have HG6 : Hid (g2 ≠ g6 ∧ g4 ≠ g6 ∧ w.heap.size ≤ g6) := Lib.hid ⟨by have := HK3.out.lt; omega, by have := HZ3.out.lt; omega, by have := HB3.out.size; omega⟩
      have HW5 := Lib.hid hw5
      have HGN6 := Lib.hid hg6
      clear hw5 hg6 hb5 q5
      obtain ⟨wd, hwd⟩ : ∃ wd, wd = w5.drew := ⟨_, rfl⟩
      have hbd : Below w5.heap.size w5 wd := by rw [hwd]; exact (Below.refl _ _).drew
      have r6 : Blk wd g6 38 (⟨[0, 0, 0, 0], k, []⟩ : Ver).cells := HQ5.out.below' hbd
      have r2 := HK5.out.below' hbd
      have hl4 : v.ns.length = 4 := HV.out
      have hcp := run_copy_row (P := Tryz.prog) wd 70 70 3 3 g6 0 k 4 ⟨g2, 0, none⟩ k 4 (⟨[0, 0, 0, 0], k, []⟩ : Ver).cells.toArray 38 (ints (v.ns.take k)) Tryz.underlying70 (by kernel_rfl) r6 (by simp [ints, hl4]; omega) (fun j u hj => by
          rw [add_lit0, Nat.zero_add, r2.cell]
          simp only [ints, List.getElem?_map, Option.map_eq_some_iff] at hj
          obtain ⟨y, hy, rfl⟩ := hj
          rw [List.getElem?_take] at hy
          split at hy
          · exact Ver.cells_n hy
          · cases hy) (by rw [Ver.cells_size (show (⟨[0, 0, 0, 0], k, []⟩ : Ver).Ok from rfl)]; simp [ints, hl4]; omega) (fun u hu => by obtain ⟨y, _, rfl⟩ := List.mem_map.1 hu; rfl)
      rw [Ver.upto_cells HV.out hk1 hk4] at hcp
      have HCP := Lib.hid hcp
      obtain ⟨w7, hw7⟩ : ∃ w7, w7 = wd.setRow g6 (⟨(v.upto k).ns, k, []⟩ : Ver).cells.toArray := ⟨_, rfl⟩
      have hF : ∀ i, i = g6 → w.heap.size ≤ i := fun i h => by rw [h]; exact HG6.out.2.2
      have m7 : Mod (fun b => b = g6) wd w7 := by rw [hw7]; exact (Mod.refl (fun b => b = g6) _).setRow (fun _ => rfl) _
      have q7 : Blk w7 g6 38 (⟨(v.upto k).ns, k, []⟩ : Ver).cells := by rw [hw7]; exact r6.setRow_ _
      have HQ7 := Lib.hid q7
      have HK7 := Lib.hid (r2.mod m7 HG6.out.1)
      have HZ7 := Lib.hid ((HZ5.out.below' hbd).mod m7 HG6.out.2.1)
      have hbwd : Below w.heap.size w wd := HB5.out.trans (hbd.mono HB5.out.size)
      have HB7 : Hid (Below w.heap.size w w7) := Lib.hid (hbwd.trans (m7.below hbwd.size hF))
      have HW7 := Lib.hid hw7
      clear hbd r6 r2 hl4 hcp hw7 m7 q7 hbwd hF
      go_upto_region 6 with fail
      rw [← HW5.out, ← HGN6.out]
      try simp only [Act.put, List.setIfInBounds_toArray, List.set_cons_zero, List.set_cons_succ]
      obtain ⟨Inv, hInv⟩ : ∃ Inv : Done → World → Prop, Inv = Chain1 6 (fun wI => wI = wd) (fun x wI => wI = wd.setRow g6 (⟨(v.upto k).ns, k, []⟩ : Ver).cells.toArray) := ⟨_, rfl⟩
      have HI := Lib.hid hInv
      have hcz : Hid (∀ τ wI, Inv τ wI → τ 6 = none → True) := by
        intro τ wI h h9
        rw [hInv] at h
        trivial
      have H00 : Hid (Inv Done.none w5.drew) := by rw [hInv]; exact Chain1.start hwd.symm
      clear hInv hwd
      refine wp_region_inv (by kernel_rfl) [⟨0, false, [], [6]⟩, ⟨1, false, [], [6]⟩, ⟨2, false, [], [6]⟩, ⟨3, false, [], [6]⟩, ⟨4, false, [], [6]⟩, ⟨5, false, [], [6]⟩, ⟨6, true, [], []⟩] (by kernel_rfl) Inv (fun _ _ => True) (fun _ => ⟨undef, trivial⟩) H00.out ?_
      iterate 6 (apply WpI.pure; (simp only [List.getElem?_toArray, List.getElem?_cons_succ, List.getElem?_cons_zero]; rfl); (intro τ wI hA hI; go_simp; exact ⟨hI, Is.rfl'⟩); simp only [Act.put, List.setIfInBounds_toArray, List.set_cons_zero, List.set_cons_succ])
      apply WpI.effect; (simp only [List.getElem?_toArray, List.getElem?_cons_succ, List.getElem?_cons_zero]; rfl)
      · intro τ wI hA hn hI
        have h0 := hI
        rw [HI.out] at h0
        have hK := h0.at0 hn
        have HT := Lib.hid (And.intro True.intro (True.intro))
        clear hA hn hI h0
        subst hK
        refine runs_copy_run rfl (.tmp 21) (.tmp 24) 70 70 rfl _ _ rfl rfl _ _ HCP.out ?_
        refine ⟨trivial, ?_⟩
        rw [HI.out]
        exact Chain1.put1  rfl
      intro v6 hv6
      simp only [Act.put, List.setIfInBounds_toArray, List.set_cons_zero, List.set_cons_succ]
      clear hv6
      refine WpI.done ?_
      intro w6 hI
      rw [HI.out] at hI
      have hE := hI.end_
      rw [← HW7.out] at hE
      have hE7 : w7 = w6 := hE.symm
      subst hE7
      clear hI hcz H00 HI
      obtain ⟨j, hj⟩ : ∃ j, j = k - 1 := ⟨_, rfl⟩
      have ejk : (k : Int) - 1 = (j : Int) := by omega
      have hj4 : (j : Int) < 4 := by omega
      have hj0 : 0 ≤ (j : Int) := by omega
      obtain ⟨x, hx⟩ : ∃ x, v.ns[j]? = some x := ⟨_, List.getElem?_eq_getElem (by have : v.ns.length = 4 := HV.out; omega)⟩
      have hgx : v.ns.getD (k - 1) 0 = x := by rw [← hj, List.getD_eq_getElem?_getD, hx]; rfl
      have hxr := v.may_num HM.out j (by omega)
      rw [List.getD_eq_getElem?_getD, hx, Option.getD_some] at hxr
      obtain ⟨hx0, hx9, _⟩ := hxr
      have hux : (v.upto k).ns[j]? = some x := by
        unfold Ver.upto
        simp only
        rw [List.getElem?_append_left (by have : v.ns.length = 4 := HV.out; simp [this]; omega), List.getElem?_take, if_pos (by omega)]
        exact hx
      have cx : w7.cell? ⟨g6, j, none⟩ = some (.int .i64 x) := by rw [HQ7.out.cell]; exact Ver.cells_n (v := ⟨(v.upto k).ns, k, []⟩) hux
      have fz := HQ7.out.frozen j
      have l6 := HQ7.out.lt
      obtain ⟨w8, hw8⟩ : ∃ w8, w8 = w7.setCell ⟨g6, j, none⟩ (.int .i64 (x + 1)) := ⟨_, rfl⟩
      have q8 : Blk w8 g6 38 (v.next k).cells := by
        rw [hw8, Ver.next_cells HV.out hk1 hk4, hgx, ← hj]
        exact HQ7.out.set_ j _
      have HNO : Hid (v.next k).Ok := Lib.hid (next_length HV.out hk4)
      have HQ8 := Lib.hid q8
      have HL8 := Lib.hid (vload q8 HNO.out)
      have HZ8 : Hid (Blk w8 g4 38 Ver.zero.cells) := Lib.hid (by rw [hw8]; exact HZ7.out.far HG6.out.2.1 _)
      have HB8 : Hid (Below w.heap.size w w8) := Lib.hid (by rw [hw8]; exact HB7.out.setCell (p := ⟨g6, j, none⟩) HG6.out.2.2 _)
      have HW8 := Lib.hid hw8
      have HR : Hid (RES = if (v.next k).may then (v.next k, 0) else (Ver.zero, 20)) := Lib.hid (by rw [HRES.out]; exact bump_eq HV.out k hk1 hk4 HM.out)
      clear hj hx hgx hux hw8 q8
      go_upto_region 8 with fail
      rw [← HW8.out]
      go_wp2_with (refine wpList_load_run rfl 38 (.tmp 6) rfl g6 rfl _ HL8.out ?_)
      refine (may_ok (v.next k) HNO.out (by show ([] : List UInt8).length ≤ _; simp) w8).mono ?_
      rintro e w9 ⟨rfl, hb9⟩
      have HQ9 := Lib.hid (HQ8.out.below' hb9)
      have HZ9 := Lib.hid (HZ8.out.below' hb9)
      have HB9 : Hid (Below w.heap.size w w9) := Lib.hid (HB8.out.trans (hb9.mono HB8.out.size))
      have HL9 := Lib.hid (vload HQ9.out HNO.out)
      clear hb9 cx fz l6
      obtain ⟨U, hU⟩ : ∃ U : Ver, U = if (v.next k).may then v.next k else Ver.zero := ⟨_, rfl⟩
      have hUo : U.Ok := by
        rw [hU]
        split
        · exact HNO.out
        · exact Ver.zero_ok
      obtain ⟨wz, hwz⟩ : ∃ wz, wz = w9.setRow g4 U.cells.toArray := ⟨_, rfl⟩
      have f1 : Blk wz g4 38 U.cells := by rw [hwz]; exact HZ9.out.setRow_ U.cells
      have HFZ : Hid (Below w.heap.size w wz) := Lib.hid (by
        rw [hwz]
        exact HB9.out.trans (((Mod.refl (fun b => w.heap.size ≤ b) w9).setRow (fun _ => HGG.out.2.1) _).below HB9.out.size (fun _ h => h)))
      have HLZ := Lib.hid (vload f1 hUo)
      have HWZ := Lib.hid hwz
      have HSZ : Hid (Ver.zero.cells.toArray.size = (v.next k).cells.toArray.size) := Lib.hid (by rw [Ver.cells_size HNO.out]; rfl)
      have HI7 : Hid ((Tryz.prog.info? 38).map (·.size) = some (v.next k).cells.toArray.size) := Lib.hid (by rw [Ver.cells_size HNO.out]; exact HI6.out)
      have HU := Lib.hid hU
      clear hU hUo hwz f1
      cases hmz : (v.next k).may
      · have hR : RES = (Ver.zero, 20) := by rw [HR.out, hmz]; rfl
        have eU : U = Ver.zero := by rw [HU.out, hmz]; rfl
        subst eU
        have HRZ := Lib.hid hR
        clear hR hmz
        go_wp2_with (refine wpList_store_row rfl 38 (.tmp 4) (.tmp 37) rfl g4 Ver.zero.cells.toArray rfl rfl _ _ HZ9.out HI6.out rfl (Ver.cells_one _) ?_)
        rw [← HWZ.out]
        try simp only [Exit.inBlock, Exit.then]
        refine bodyPost_ret (results_cell2 rfl _ _ g4 _ rfl HLZ.out) rfl ?_
        exact ⟨by rw [HRZ.out]; rfl, HFZ.out⟩
      · have hR : RES = (v.next k, 0) := by rw [HR.out, hmz]; rfl
        have eU : U = v.next k := by rw [HU.out, hmz]; rfl
        subst eU
        have HRZ := Lib.hid hR
        clear hR hmz
        go_wp2_with (first | refine wpList_load_run rfl 38 (.tmp 6) rfl g6 rfl _ HL9.out ?_ | refine wpList_store_row rfl 38 (.tmp 4) (.tmp 38) rfl g4 (v.next k).cells.toArray rfl rfl _ _ HZ9.out HI7.out HSZ.out (Ver.cells_one _) ?_)
        rw [← HWZ.out]
        try simp only [Exit.inBlock, Exit.then]
        refine bodyPost_ret (results_cell2 rfl _ _ g4 _ rfl HLZ.out) rfl ?_
        exact ⟨by rw [HRZ.out]; rfl, HFZ.out⟩
    · rw [decide_eq_false hn]
      have hR : Hid (RES = (Ver.zero, 2)) := Lib.hid (by rw [HRES.out]; unfold Ver.bump; rw [if_neg (by rw [HM.out]; decide), if_pos (by omega)])
      obtain ⟨w7, hw7⟩ : ∃ w7, w7 = w3.setRow g4 Ver.zero.cells.toArray := ⟨_, rfl⟩
      obtain ⟨f1, f2⟩ := HZR.out w3 HZ3.out HB3.out
      rw [← hw7] at f1 f2
      have HL7 := Lib.hid (vload f1 Ver.zero_ok)
      have HF2 := Lib.hid f2
      have HW7 := Lib.hid hw7
      clear hn hw7 f1 f2
      go_wp2_with (refine wpList_store_row rfl 38 (.tmp 4) (.tmp 16) rfl g4 Ver.zero.cells.toArray rfl rfl _ _ HZ3.out HI6.out rfl (Ver.cells_one _) ?_)
      rw [← HW7.out]
      try simp only [Exit.inBlock, Exit.then]
      refine bodyPost_ret (results_cell2 rfl _ _ g4 _ rfl HL7.out) rfl ?_
      exact ⟨by rw [hR.out]; rfl, HF2.out⟩
end Go.Proofs.YteeijjhgdplifaaGreatDoor
