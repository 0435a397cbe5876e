/- Contract of the document's Parse. -/
import Derived.Test.YteeijjhgdplifaaGreatDoorVk
import Derived.Test.YteeijjhgdplifaaGreatDoorVh
namespace Go.Proofs.YteeijjhgdplifaaGreatDoor
open Go.RowKit

theorem rv_ref (s : List UInt8) : rv s = match refScan [0, 0, 0, 0] 1 s with
    | none => (Ver.zero, 20)
    | some v => if v.may = true ∧ v.text = s then (v, 0) else (Ver.zero, 20) := by
  unfold rv
  rw [← read_alike]
  unfold refRead
  cases refScan [0, 0, 0, 0] 1 s with
  | none => rfl
  | some v =>
    simp only
    by_cases h : v.may = true ∧ v.text = s
    · rw [if_pos h, if_pos h]
    · rw [if_neg h, if_neg h]
theorem drop_next {s : List UInt8} {i : Nat} {b : UInt8} (h : s[i]? = some b) : s.drop i = b :: s.drop (i + 1) := by
  obtain ⟨hi, rfl⟩ := List.getElem?_eq_some_iff.1 h
  exact List.drop_eq_getElem_cons hi

theorem cells_tag (ns : List Int) (c : Int) (t : List UInt8) (h : ns.length = 4) : (⟨ns, c, []⟩ : Ver).cells.set 5 (.string (bl t)) = (⟨ns, c, t⟩ : Ver).cells := by
  obtain ⟨a, b, d, e, he⟩ := Ver.four (v := ⟨ns, c, []⟩) h
  simp only at he
  subst he
  rfl
theorem cells_count (ns : List Int) (c d : Int) (h : ns.length = 4) : (⟨ns, c, []⟩ : Ver).cells.set 4 (.int .i64 d) = (⟨ns, d, []⟩ : Ver).cells := by
  obtain ⟨a, b, x, e, he⟩ := Ver.four (v := ⟨ns, c, []⟩) h
  simp only at he
  subst he
  rfl
theorem cells_num (ns : List Int) (c : Int) {j : Nat} (x : Int) (h : ns.length = 4) (hj : j < 4) : (⟨ns, c, []⟩ : Ver).cells.set j (.int .i64 x) = (⟨ns.set j x, c, []⟩ : Ver).cells := by
  obtain ⟨a, b, y, e, he⟩ := Ver.four (v := ⟨ns, c, []⟩) h
  simp only at he
  subst he
  have hn : j = 0 ∨ j = 1 ∨ j = 2 ∨ j = 3 := by omega
  rcases hn with rfl | rfl | rfl | rfl <;> rfl
theorem extract_end (s : ByteArray) (i : Nat) : s.extract i s.size = bl (s.data.toList.drop i) := by
  rw [bl_eta (s.extract i s.size), Lib.extract_to_end]
set_option maxRecDepth 100000 in
set_option maxHeartbeats 2000000 in
theorem refParse_ok (s : ByteArray) (hs : s.size ≤ 4000000000) (w : World) : Calls Tryz.prog 49 #[.string s] w fun e w' => e = .returned (.tuple #[(rv s.data.toList).1.val, .int .i64 (rv s.data.toList).2]) ∧ Below w.heap.size w w' := by
  obtain ⟨RES, hRES⟩ : ∃ RES, RES = rv s.data.toList := ⟨_, rfl⟩
  have HRES : Hid (RES = _) := Lib.hid (hRES.trans (rv_ref s.data.toList))
  rw [← hRES]
  obtain ⟨w1, hw1⟩ : ∃ w1, w1 = w.alloc (.cells #[.int .i64 0, .int .i64 0, .int .i64 0, .int .i64 0, .int .i64 0, .string ⟨#[]⟩] 37) := ⟨_, rfl⟩
  obtain ⟨w2, hw2⟩ : ∃ w2, w2 = w1.alloc (.cells #[.int .i64 0, .int .i64 0, .int .i64 0, .int .i64 0, .int .i64 1, .string ⟨#[]⟩] 37) := ⟨_, rfl⟩
  obtain ⟨g2, hg2⟩ : ∃ g2, g2 = w.heap.size := ⟨_, rfl⟩
  obtain ⟨g4, hg4⟩ : ∃ g4, g4 = w1.heap.size := ⟨_, rfl⟩
  have hg41 : g4 = g2 + 1 := by rw [hg4, hg2, hw1]; simp
  have hb1 : Below w.heap.size w w1 := by rw [hw1]; exact (Below.refl _ _).alloc (Nat.le_refl _) _
  have hb2 : Below w1.heap.size w1 w2 := by rw [hw2]; exact (Below.refl _ _).alloc (Nat.le_refl _) _
  have z2 : Blk w2 g2 37 Ver.zero.cells := by
    have : Blk w1 g2 37 Ver.zero.cells := by rw [hw1, hg2]; exact Blk.new _ _ _
    exact this.below' hb2
  have v2 : Blk w2 g4 37 (⟨[0, 0, 0, 0], ((1 : Nat) : Int), []⟩ : Ver).cells := by rw [hw2, hg4]; exact Blk.new _ _ _
  have HZ2 := Lib.hid z2
  have HV2 := Lib.hid v2
  have HB2 : Hid (Below w.heap.size w w2) := Lib.hid (hb1.trans (hb2.mono hb1.size))
  have HGG : Hid (w.heap.size ≤ g2 ∧ w.heap.size ≤ g4 ∧ g2 ≠ g4) := Lib.hid (by omega)
  have HW1 := Lib.hid hw1
  have HW2 := Lib.hid hw2
  have HGN2 := Lib.hid hg2
  have HGN4 := Lib.hid hg4
  have HI6 : Hid ((Tryz.prog.info? 37).map (·.size) = some 6) := Lib.hid (by kernel_rfl)
  have HSZ0 : Hid (s.data.toList.length = s.size) := Lib.hid (by rw [Lib.size_eq])
  have hzero : ∀ wc, Blk wc g2 37 Ver.zero.cells → Below w.heap.size w wc → Blk (wc.setRow g2 Ver.zero.cells.toArray) g2 37 Ver.zero.cells ∧ Below w.heap.size w (wc.setRow g2 Ver.zero.cells.toArray) := by
    intro wc h hb
    exact ⟨h.setRow_ Ver.zero.cells, hb.trans (((Mod.refl (fun b => w.heap.size ≤ b) wc).setRow (fun _ => HGG.out.1) _).below hb.size (fun _ h => h))⟩
  have HZR := Lib.hid hzero
  clear hw1 hw2 hg2 hg4 hg41 hb1 hb2 z2 v2 hRES hzero
  go_enter Tryz.func49, Tryz.ntmps49
  go_upto_region 1 with fail
  rw [← HW1.out, ← HGN2.out]
  go_upto_region 2 with fail
  rw [← HW2.out, ← HGN4.out]
  go_upto_block 0 with fail
  go_cut [5] (fun u wx => ∃ v : Ver, refScan [0, 0, 0, 0] 1 s.data.toList = some v ∧ v.Ok ∧ v.t.length ≤ s.size ∧ Hid (Blk wx g4 37 v.cells) ∧ Hid (Blk wx g2 37 Ver.zero.cells) ∧ Hid (Below w.heap.size w wx))
  case first =>
    go_wp2_with fail
    go_loopg [5] s.size (fun kq iv wr => ∃ (i : Nat) (ns : List Int) (c : Nat), iv = .int .i64 i ∧ i ≤ s.size ∧ kq = s.size - i ∧ ns.length = 4 ∧ 1 ≤ c ∧ c ≤ 4 ∧ (∀ j, j < 4 → 0 ≤ ns.getD j 0 ∧ ns.getD j 0 ≤ 9999999999) ∧ Hid (refScan [0, 0, 0, 0] 1 s.data.toList = refScan ns c (s.data.toList.drop i)) ∧ Hid (Blk wr g4 37 (⟨ns, (c : Int), []⟩ : Ver).cells) ∧ Hid (Blk wr g2 37 Ver.zero.cells) ∧ Hid (Below w.heap.size w wr))
    case atStart => exact ⟨0, [0, 0, 0, 0], 1, rfl, Nat.zero_le _, rfl, rfl, by decide, by decide, by decide, Lib.hid rfl, HV2, HZ2, HB2⟩
    case round =>
      clear HV2 HZ2 HB2
      obtain ⟨i, ns, c, rfl, hi, rfl, hnl, hc1, hc4, hnb, RSC, RV, RZ, RB⟩ := hrel
      by_cases hlt : i < s.size
      · obtain ⟨b, hb⟩ : ∃ b, s[i]'hlt = b := ⟨_, rfl⟩
        have hbs : s.data.toList[i]? = some b := by rw [List.getElem?_eq_getElem (by rw [HSZ0.out]; exact hlt), ← hb]; rfl
        have HDN := Lib.hid (drop_next hbs)
        have hb256 : (b.toNat : Int) < 256 := by have := b.toNat_lt; omega
        have HRS : Hid (refScan [0, 0, 0, 0] 1 s.data.toList = refScan ns c (b :: s.data.toList.drop (i + 1))) := Lib.hid (by rw [RSC.out, HDN.out])
        have l4 := RV.out.lt
        have c4 : wr.cell? ⟨g4, 4, none⟩ = some (.int .i64 (c : Int)) := by rw [RV.out.cell, Ver.cells_c (v := ⟨ns, (c : Int), []⟩) hnl]
        clear hbs
        by_cases h45 : b = 45
        · subst h45
          have e45 : (45 : UInt8).toNat = 45 := rfl
          have hsc : refScan [0, 0, 0, 0] 1 s.data.toList = some ⟨ns, (c : Int), s.data.toList.drop (i + 1)⟩ := by rw [HRS.out, refScan, if_pos rfl]
          have c5 : wr.cell? ⟨g4, 5, none⟩ = some (.string (bl [])) := by rw [RV.out.cell, Ver.cells_t (v := ⟨ns, (c : Int), []⟩) hnl]
          have fz := RV.out.frozen 5
          obtain ⟨st, hst⟩ : ∃ st, st = s.extract (i + 1) s.size := ⟨_, rfl⟩
          obtain ⟨w6, hw6⟩ : ∃ w6, w6 = wr.setCell ⟨g4, 5, none⟩ (.string st) := ⟨_, rfl⟩
          have f1 : Hid (Blk w6 g4 37 (⟨ns, (c : Int), s.data.toList.drop (i + 1)⟩ : Ver).cells) := Lib.hid (by
            rw [hw6, ← cells_tag ns c _ hnl, ← extract_end, ← hst]
            exact RV.out.set_ 5 _)
          have f2 : Hid (Blk w6 g2 37 Ver.zero.cells) := Lib.hid (by rw [hw6]; exact RZ.out.far HGG.out.2.2 _)
          have f3 : Hid (Below w.heap.size w w6) := Lib.hid (by rw [hw6]; exact RB.out.setCell (p := ⟨g4, 5, none⟩) HGG.out.2.1 _)
          have HSC := Lib.hid hsc
          have HW6 := Lib.hid hw6
          have HST := Lib.hid hst
          have hi1 : (i : Int) + 1 ≤ (s.size : Int) := by omega
          have hlen : (s.data.toList.drop (i + 1)).length ≤ s.size := by rw [List.length_drop, HSZ0.out]; omega
          have HLEN := Lib.hid hlen
          clear hsc hw6 hst RSC RV RZ RB HRS HDN hnb hlen
          go_wp2_with fail
          rw [← HST.out, ← HW6.out]
          go_meet
          exact ⟨_, HSC.out, hnl, HLEN.out, f1, f2, f3⟩
        · have h45n : (b.toNat : Int) ≠ 45 := by
            intro h
            exact h45 (UInt8.toNat_inj.1 (by show b.toNat = 45; omega))
          by_cases h46 : b = 46
          · subst h46
            have e46 : (46 : UInt8).toNat = 46 := rfl
            obtain ⟨w6, hw6⟩ : ∃ w6, w6 = wr.setCell ⟨g4, 4, none⟩ (.int .i64 ((c : Int) + 1)) := ⟨_, rfl⟩
            have p6 : Blk w6 g4 37 (⟨ns, (c : Int) + 1, []⟩ : Ver).cells := by rw [hw6, ← cells_count ns (c : Int) ((c : Int) + 1) hnl]; exact RV.out.set_ 4 _
            have RZ6 : Hid (Blk w6 g2 37 Ver.zero.cells) := Lib.hid (by rw [hw6]; exact RZ.out.far HGG.out.2.2 _)
            have RB6 : Hid (Below w.heap.size w w6) := Lib.hid (by rw [hw6]; exact RB.out.setCell (p := ⟨g4, 4, none⟩) HGG.out.2.1 _)
            have fz := RV.out.frozen 4
            have c6 : w6.cell? ⟨g4, 4, none⟩ = some (.int .i64 ((c : Int) + 1)) := by rw [p6.cell, Ver.cells_c (v := ⟨ns, (c : Int) + 1, []⟩) hnl]
            have l6 := p6.lt
            have HP6 := Lib.hid p6
            have HW6 := Lib.hid hw6
            have HC1 : Hid (1 ≤ c ∧ c ≤ 4) := Lib.hid ⟨hc1, hc4⟩
            clear hw6 p6 RV RZ RB RSC HDN
            go_upto_region 9 with fail
            rw [← HW6.out]
            by_cases hc : c = 4
            · have HR : Hid (RES = (Ver.zero, 20)) := Lib.hid (by
                have h : refScan [0, 0, 0, 0] 1 s.data.toList = none := by
                  rw [HRS.out, refScan, if_neg (by decide), if_pos rfl, if_pos (by omega)]
                rw [HRES.out, h])
              subst hc
              clear HRS fz c4 hnb
              obtain ⟨wz, hwz⟩ : ∃ wz, wz = w6.setRow g2 Ver.zero.cells.toArray := ⟨_, rfl⟩
              obtain ⟨z1, z2⟩ := HZR.out w6 RZ6.out RB6.out
              rw [← hwz] at z1 z2
              have HLZ := Lib.hid (rload z1 Ver.zero_ok)
              have HF2 := Lib.hid z2
              have HWZ := Lib.hid hwz
              clear hwz z1 z2
              go_wp2_with (refine wpList_store_row rfl 37 (.tmp 2) (.tmp 35) rfl g2 Ver.zero.cells.toArray rfl rfl _ _ RZ6.out HI6.out rfl (Ver.cells_one _) ?_)
              rw [← HWZ.out]
              try simp only [Exit.inBlock, Exit.then]
              refine bodyPost_ret (results_cell2 rfl _ _ g2 _ rfl HLZ.out) rfl ?_
              exact ⟨by rw [HR.out]; rfl, HF2.out⟩
            · have HR6 : Hid (refScan [0, 0, 0, 0] 1 s.data.toList = refScan ns (c + 1) (s.data.toList.drop (i + 1))) := Lib.hid (by
                rw [HRS.out, refScan, if_neg (by decide), if_pos rfl, if_neg (by omega)])
              have hcl : (c : Int) + 1 ≤ 4 := by omega
              have hcast : (⟨ns, ((c + 1 : Nat) : Int), []⟩ : Ver) = ⟨ns, (c : Int) + 1, []⟩ := by congr 1
              have HP7 : Hid (Blk w6 g4 37 (⟨ns, ((c + 1 : Nat) : Int), []⟩ : Ver).cells) := Lib.hid (by rw [hcast]; exact HP6.out)
              have hcc : c + 1 ≤ 4 := by omega
              clear HRS fz c4 hcast hc
              go_wp2_with fail
              go_roundg (s.size - (i + 1))
              case measure => omega
              case rel => exact ⟨i + 1, ns, c + 1, by go_num, by omega, rfl, hnl, by omega, hcc, hnb, HR6, HP7, RZ6, RB6⟩
          · have h46n : (b.toNat : Int) ≠ 46 := by
              intro h
              exact h46 (UInt8.toNat_inj.1 (by show b.toNat = 46; omega))
            obtain ⟨j, hj⟩ : ∃ j, j = c - 1 := ⟨_, rfl⟩
            have ejc : (c : Int) - 1 = (j : Int) := by omega
            have hj4 : j < 4 := by omega
            have hjI : (j : Int) < 4 := by omega
            have hj0 : 0 ≤ (j : Int) := by omega
            obtain ⟨n, hn⟩ : ∃ n, ns[j]? = some n := ⟨_, List.getElem?_eq_getElem (by omega)⟩
            have hgn : ns.getD (c - 1) 0 = n := by rw [← hj, List.getD_eq_getElem?_getD, hn]; rfl
            have hnr := hnb j hj4
            rw [List.getD_eq_getElem?_getD, hn, Option.getD_some] at hnr
            obtain ⟨hn0, hn9⟩ := hnr
            have cj : wr.cell? ⟨g4, j, none⟩ = some (.int .i64 n) := by rw [RV.out.cell]; exact Ver.cells_n (v := ⟨ns, (c : Int), []⟩) hn
            have HGN := Lib.hid hgn
            have HJ := Lib.hid hj
            have HNJ := Lib.hid hn
            by_cases hbad : b.toNat < 48 ∨ 57 < b.toNat ∨ 999999999 < n
            · have HR : Hid (RES = (Ver.zero, 20)) := Lib.hid (by
                have h : refScan [0, 0, 0, 0] 1 s.data.toList = none := by
                  rw [HRS.out, refScan, if_neg h45, if_neg h46, if_pos (by rw [HGN.out]; exact hbad)]
                rw [HRES.out, h])
              have RZ6 := RZ
              have RB6 := RB
              have hbI : (b.toNat : Int) < 48 ∨ (48 ≤ (b.toNat : Int) ∧ 57 < (b.toNat : Int)) ∨ (48 ≤ (b.toNat : Int) ∧ (b.toNat : Int) ≤ 57 ∧ 999999999 < n) := by omega
              have HBI := Lib.hid hbI
              obtain ⟨bc, hbc⟩ : ∃ bc : Int, (b.toNat : Int) = bc := ⟨_, rfl⟩
              rw [hbc] at h45n h46n hb256
              have HBC := Lib.hid hbc
              clear hbad HRS hgn hj hn hnb RSC HDN hbI
              go_upto_region 11 with fail
              go_cut [54] (fun u wx => u = .bool true ∧ wx = wr)
              case first =>
                have hbI := HBI.out
                rw [hbc] at hbI
                rcases hbI with h1 | ⟨h1, h2⟩ | ⟨h1, h2, h3⟩
                · go_wp2_with fail
                  go_meet
                  exact ⟨by (try simp; try omega), rfl⟩
                · go_wp2_with fail
                  go_meet
                  exact ⟨by (try simp; try omega), rfl⟩
                · go_wp2_with fail
                  go_meet
                  exact ⟨by (try simp; try omega), rfl⟩
              case rest =>
                obtain ⟨rfl, rfl⟩ := hcut
                obtain ⟨wz, hwz⟩ : ∃ wz, wz = wc.setRow g2 Ver.zero.cells.toArray := ⟨_, rfl⟩
                obtain ⟨z1, z2⟩ := HZR.out wc RZ6.out RB6.out
                rw [← hwz] at z1 z2
                have HLZ := Lib.hid (rload z1 Ver.zero_ok)
                have HF2 := Lib.hid z2
                have HWZ := Lib.hid hwz
                clear hwz z1 z2
                go_wp2_with (refine wpList_store_row rfl 37 (.tmp 2) (.tmp 55) rfl g2 Ver.zero.cells.toArray rfl rfl _ _ RZ6.out HI6.out rfl (Ver.cells_one _) ?_)
                rw [← HWZ.out]
                try simp only [Exit.inBlock, Exit.then]
                refine bodyPost_ret (results_cell2 rfl _ _ g2 _ rfl HLZ.out) rfl ?_
                exact ⟨by rw [HR.out]; rfl, HF2.out⟩
            · have hb1 : 48 ≤ b.toNat := by omega
              have hb2 : b.toNat ≤ 57 := by omega
              have hn99 : n ≤ 999999999 := by omega
              obtain ⟨q, hq⟩ : ∃ q : Int, (b.toNat : Int) - 48 = q := ⟨_, rfl⟩
              have hq0 : 0 ≤ q ∧ q ≤ 9 := by omega
              have HSCN : Hid (refScan [0, 0, 0, 0] 1 s.data.toList = refScan (ns.set j (n * 10 + q)) c (s.data.toList.drop (i + 1))) := Lib.hid (by
                rw [HRS.out, refScan, if_neg h45, if_neg h46, if_neg (by rw [HGN.out]; exact hbad), HGN.out, ← hj, ← hq])
              have hnl2 : (ns.set j (n * 10 + q)).length = 4 := by simpa using hnl
              have hnb2 : ∀ m, m < 4 → 0 ≤ (ns.set j (n * 10 + q)).getD m 0 ∧ (ns.set j (n * 10 + q)).getD m 0 ≤ 9999999999 := by
                intro m hm
                by_cases e : m = j
                · subst e
                  rw [List.getD_eq_getElem?_getD, List.getElem?_set_self (by omega), Option.getD_some]
                  omega
                · rw [List.getD_eq_getElem?_getD, List.getElem?_set_ne (Ne.symm e), ← List.getD_eq_getElem?_getD]
                  exact hnb m hm
              have HNB2 := Lib.hid hnb2
              have hqw : q + 48 = (b.toNat : Int) := by omega
              obtain ⟨bc, hbc⟩ : ∃ bc : Int, (b.toNat : Int) = bc := ⟨_, rfl⟩
              rw [hbc] at h45n h46n hb256 hq hqw
              have ewj : IntKind.i64.wrap (j : Int) = (j : Int) := by rw [IntKind.wrap_i64]; omega
              have ewq : IntKind.u8.wrap q = q := by rw [IntKind.wrap_u8]; omega
              have ewqi : IntKind.i64.wrap q = q := by rw [IntKind.wrap_i64]; omega
              have ewt : IntKind.i64.wrap (n * 10) = n * 10 := by rw [IntKind.wrap_i64]; omega
              have ews : IntKind.i64.wrap (n * 10 + q) = n * 10 + q := by rw [IntKind.wrap_i64]; omega
              have hb1I : 48 ≤ bc := by omega
              have hb2I : bc ≤ 57 := by omega
              obtain ⟨wd, hwd⟩ : ∃ wd, wd = wr.drew := ⟨_, rfl⟩
              have hbd : Below wr.heap.size wr wd := by rw [hwd]; exact (Below.refl _ _).drew
              have pd := RV.out.below' hbd
              have HCD : Hid (wd.cell? ⟨g4, 4, none⟩ = some (.int .i64 (c : Int)) ∧ wd.cell? ⟨g4, j, none⟩ = some (.int .i64 n) ∧ g4 < wd.heap.size ∧ wd.frozen? ⟨g4, j, none⟩ = false ∧ 0 ≤ n ∧ n ≤ 999999999) := Lib.hid
                ⟨by rw [pd.cell, Ver.cells_c (v := ⟨ns, (c : Int), []⟩) hnl], by rw [pd.cell]; exact Ver.cells_n (v := ⟨ns, (c : Int), []⟩) HNJ.out, pd.lt, pd.frozen j, hn0, hn99⟩
              obtain ⟨w7, hw7⟩ : ∃ w7, w7 = wd.setCell ⟨g4, j, none⟩ (.int .i64 (n * 10 + q)) := ⟨_, rfl⟩
              have f1 : Hid (Blk w7 g4 37 (⟨ns.set j (n * 10 + q), (c : Int), []⟩ : Ver).cells) := Lib.hid (by
                rw [hw7, ← cells_num ns (c : Int) (n * 10 + q) hnl hj4]; exact pd.set_ j _)
              have f2 : Hid (Blk w7 g2 37 Ver.zero.cells) := Lib.hid (by rw [hw7]; exact (RZ.out.below' hbd).far HGG.out.2.2 _)
              have f3 : Hid (Below w.heap.size w w7) := Lib.hid (by rw [hw7]; exact (RB.out.trans (hbd.mono RB.out.size)).setCell (p := ⟨g4, j, none⟩) HGG.out.2.1 _)
              have HW7 := Lib.hid hw7
              clear hbad HRS hgn hj hn hnb RSC HDN hnb2 hbd pd hw7 RV RZ RB
              go_upto_region 13 with fail
              try simp only [Act.put, List.setIfInBounds_toArray, List.set_cons_zero, List.set_cons_succ]
              obtain ⟨Inv, hInv⟩ : ∃ Inv : Done → World → Prop, Inv = Chain1 18 (fun wI => wI = wd) (fun x wI => wI = wd.setCell ⟨g4, j, none⟩ (.int .i64 (n * 10 + q))) := ⟨_, rfl⟩
              have HI := Lib.hid hInv
              have hcz : Hid (∀ τ wI, Inv τ wI → τ 18 = none → wI.cell? ⟨g4, 4, none⟩ = some (.int .i64 (c : Int)) ∧ wI.cell? ⟨g4, j, none⟩ = some (.int .i64 n) ∧ g4 < wI.heap.size) := by
                intro τ wI h h9
                rw [hInv] at h
                have e := h.upto0 h9
                subst e
                exact ⟨HCD.out.1, HCD.out.2.1, HCD.out.2.2.1⟩
              have H00 : Hid (Inv Done.none wr.drew) := by rw [hInv]; exact Chain1.start hwd.symm
              clear hInv hwd
              refine wp_region_inv (by kernel_rfl) [⟨0, false, [], [18]⟩, ⟨1, false, [], [18]⟩, ⟨2, false, [], [18]⟩, ⟨3, false, [], [18]⟩, ⟨4, false, [], [18]⟩, ⟨5, false, [], [18]⟩, ⟨6, false, [], [18]⟩, ⟨7, false, [], [18]⟩, ⟨8, false, [], [18]⟩, ⟨9, false, [], [18]⟩, ⟨10, false, [], [18]⟩, ⟨11, false, [], [18]⟩, ⟨12, false, [], [18]⟩, ⟨13, false, [], [18]⟩, ⟨14, false, [], [18]⟩, ⟨15, false, [], [18]⟩, ⟨16, false, [], [18]⟩, ⟨17, false, [], [18]⟩, ⟨18, true, [], []⟩] (by kernel_rfl) Inv (fun _ _ => True) (fun _ => ⟨undef, trivial⟩) H00.out ?_
              iterate 18 (apply WpI.pure; (simp only [List.getElem?_toArray, List.getElem?_cons_succ, List.getElem?_cons_zero]; rfl); (intro τ wI hA hI; obtain ⟨f0, f1, f2⟩ := hcz.out τ wI hI (hA.2 18 (by decide)); go_simp; exact ⟨hI, Is.rfl'⟩); simp only [Act.put, List.setIfInBounds_toArray, List.set_cons_zero, List.set_cons_succ])
              apply WpI.effect; (simp only [List.getElem?_toArray, List.getElem?_cons_succ, List.getElem?_cons_zero]; rfl)
              · intro τ wI hA hn hI
                have h0 := hI
                rw [HI.out] at h0
                have hK := h0.at0 hn
                have HT := Lib.hid (And.intro True.intro (True.intro))
                clear hA hn hI h0
                subst hK
                obtain ⟨k1, k2, k3, k4, k5, k6⟩ := HCD.out
                go_simp
                rw [HI.out]
                exact Chain1.put1  (by first | rfl | rw [ewqi, ews] | rw [ews])
              intro v18 hv18
              simp only [Act.put, List.setIfInBounds_toArray, List.set_cons_zero, List.set_cons_succ]
              clear hv18
              refine WpI.done ?_
              intro w6 hI
              rw [HI.out] at hI
              have hE := hI.end_
              rw [← HW7.out] at hE
              have hE7 : w7 = w6 := hE.symm
              subst hE7
              clear hI hcz H00 HI HCD
              go_wp2_with fail
              go_roundg (s.size - (i + 1))
              case measure => omega
              case rel => exact ⟨i + 1, ns.set j (n * 10 + q), c, by go_num, by omega, rfl, hnl2, hc1, hc4, HNB2.out, HSCN, f1, f2, f3⟩
      · obtain rfl : i = s.size := by omega
        have hfin : refScan [0, 0, 0, 0] 1 s.data.toList = some ⟨ns, (c : Int), []⟩ := by rw [RSC.out, ← HSZ0.out, List.drop_length]; rfl
        have HF := Lib.hid hfin
        clear hfin RSC
        go_wp2_with fail
        go_meet
        exact ⟨_, HF.out, hnl, by simp, RV, RZ, RB⟩
  case rest =>
    obtain ⟨v, hsc, hvo, hvt, RV, RZ, RB⟩ := hcut
    have HVO := Lib.hid hvo
    have HSC := Lib.hid hsc
    have HL := Lib.hid (rload RV.out hvo)
    have hvt2 : v.t.length ≤ 140737488355328 := by omega
    have htx := refText_ok v hvo hvt2 wc
    have HTX := Lib.hid htx
    clear hsc hvo hvt hvt2 htx
    go_wp2_with (refine wpList_load_run rfl 37 (.tmp 4) rfl g4 rfl _ HL.out ?_)
    refine HTX.out.mono ?_
    rintro e w5 ⟨rfl, hb5⟩
    have RV5 := Lib.hid (RV.out.below' hb5)
    have RZ5 := Lib.hid (RZ.out.below' hb5)
    have RB5 : Hid (Below w.heap.size w w5) := Lib.hid (RB.out.trans (hb5.mono RB.out.size))
    have HL5 := Lib.hid (rload RV5.out HVO.out)
    obtain ⟨GOOD, hGOOD⟩ : ∃ G, G = decide (v.may = true ∧ v.text = s.data.toList) := ⟨_, rfl⟩
    have HGOOD := Lib.hid hGOOD
    obtain ⟨tt, htt⟩ : ∃ tt, tt = bl (tv v).1 := ⟨_, rfl⟩
    obtain ⟨te, hte⟩ : ∃ te, te = (tv v).2 := ⟨_, rfl⟩
    rw [← htt, ← hte]
    have HTT := Lib.hid htt
    have HTE := Lib.hid hte
    clear hb5 hGOOD HTX HL htt hte
    go_upto_region 15 with fail
    go_cut [85] (fun u wx => u = .bool (!GOOD) ∧ wx = w5)
    case first =>
      cases hm : v.may
      · have hn : Hid (GOOD = false) := Lib.hid (by rw [HGOOD.out, decide_eq_false (fun h => by rw [hm] at h; cases h.1)])
        have e0 : (te != 0) = true := by rw [HTE.out]; unfold tv; rw [hm]; rfl
        clear hm
        go_wp2_with fail
        go_meet
        exact ⟨by (rw [hn.out]; try simp [e0]), rfl⟩
      · have e0 : (te != 0) = false := by rw [HTE.out]; unfold tv; rw [hm]; rfl
        have htt : tt = bl v.text := by rw [HTT.out]; unfold tv; rw [hm]; rfl
        by_cases ht : v.text = s.data.toList
        · have hn : Hid (GOOD = true) := Lib.hid (by rw [HGOOD.out, decide_eq_true ⟨hm, ht⟩])
          have e1 : (tt.toList == s.toList) = true := by rw [htt, bl_toList, Lib.toList_data, ht]; exact beq_self_eq_true _
          clear hm ht htt
          go_wp2_with fail
          go_meet
          exact ⟨by (rw [hn.out]; try simp [e1]), rfl⟩
        · have hn : Hid (GOOD = false) := Lib.hid (by rw [HGOOD.out, decide_eq_false (fun h => ht h.2)])
          have hne : tt.toList ≠ s.toList := by rw [htt, bl_toList, Lib.toList_data]; exact ht
          have e1 : (tt.toList == s.toList) = false := beq_eq_false_iff_ne.2 hne
          clear hm ht htt hne
          go_wp2_with fail
          go_meet
          exact ⟨by (rw [hn.out]; try simp [e1]), rfl⟩
    case rest =>
      obtain ⟨rfl, rfl⟩ := hcut
      cases GOOD
      · have HR : Hid (RES = (Ver.zero, 20)) := Lib.hid (by
          rw [HRES.out, HSC.out]
          simp only
          rw [if_neg (fun h => by have := HGOOD.out; rw [decide_eq_true h] at this; cases this)])
        obtain ⟨wz, hwz⟩ : ∃ wz, wz = wc.setRow g2 Ver.zero.cells.toArray := ⟨_, rfl⟩
        obtain ⟨z1, z2⟩ := HZR.out wc RZ5.out RB5.out
        rw [← hwz] at z1 z2
        have HLZ := Lib.hid (rload z1 Ver.zero_ok)
        have HF2 := Lib.hid z2
        have HWZ := Lib.hid hwz
        clear hwz z1 z2
        go_wp2_with (refine wpList_store_row rfl 37 (.tmp 2) (.tmp 86) rfl g2 Ver.zero.cells.toArray rfl rfl _ _ RZ5.out HI6.out rfl (Ver.cells_one _) ?_)
        rw [← HWZ.out]
        try simp only [Exit.inBlock, Exit.then]
        refine bodyPost_ret (results_cell2 rfl _ _ g2 _ rfl HLZ.out) rfl ?_
        exact ⟨by rw [HR.out]; rfl, HF2.out⟩
      · have HR : Hid (RES = (v, 0)) := Lib.hid (by
          rw [HRES.out, HSC.out]
          simp only
          rw [if_pos (of_decide_eq_true HGOOD.out.symm)])
        obtain ⟨wz, hwz⟩ : ∃ wz, wz = wc.setRow g2 v.cells.toArray := ⟨_, rfl⟩
        have z1 : Blk wz g2 37 v.cells := by rw [hwz]; exact RZ5.out.setRow_ v.cells
        have HF2 : Hid (Below w.heap.size w wz) := Lib.hid (by
          rw [hwz]
          exact RB5.out.trans (((Mod.refl (fun b => w.heap.size ≤ b) wc).setRow (fun _ => HGG.out.1) _).below RB5.out.size (fun _ h => h)))
        have HLZ := Lib.hid (rload z1 HVO.out)
        have HWZ := Lib.hid hwz
        have HSZ : Hid (Ver.zero.cells.toArray.size = v.cells.toArray.size) := Lib.hid (by rw [Ver.cells_size HVO.out]; rfl)
        have HI7 : Hid ((Tryz.prog.info? 37).map (·.size) = some v.cells.toArray.size) := Lib.hid (by rw [Ver.cells_size HVO.out]; exact HI6.out)
        clear hwz z1
        go_wp2_with (first | refine wpList_load_run rfl 37 (.tmp 4) rfl g4 rfl _ HL5.out ?_ | refine wpList_store_row rfl 37 (.tmp 2) (.tmp 87) rfl g2 v.cells.toArray rfl rfl _ _ RZ5.out HI7.out HSZ.out (Ver.cells_one _) ?_)
        rw [← HWZ.out]
        try simp only [Exit.inBlock, Exit.then]
        refine bodyPost_ret (results_cell2 rfl _ _ g2 _ rfl HLZ.out) rfl ?_
        exact ⟨by rw [HR.out]; rfl, HF2.out⟩
end Go.Proofs.YteeijjhgdplifaaGreatDoor
