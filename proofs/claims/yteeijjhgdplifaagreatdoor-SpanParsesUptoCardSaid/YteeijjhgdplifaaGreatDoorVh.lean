/- Contract of version.Parse. -/
import Derived.Test.YteeijjhgdplifaaGreatDoorVf
import Derived.Test.YteeijjhgdplifaaGreatDoorVg
import Derived.Laws.ResultCell
namespace Go.Proofs.YteeijjhgdplifaaGreatDoor
open Go.RowKit

theorem results_cell2 {fn : Func} {p u : Tmp} {ty : TypeId} {P : Program} (h : fn.results = #[.cell p ty, .tmp u]) (tmps : Array Value) (w : World) (g : Nat) (v : Value) (hp : tmps.getD p undef = .pointer (some ⟨g, 0, none⟩)) (hl : (loadVar ty ⟨g, 0, none⟩).run P w = .ok v w) :
    (results fn tmps).run P w = .ok (.tuple #[v, tmps.getD u undef]) w := by
  rw [results_cell_tmp h, hp]
  simp [asAddr, hl, Result.andThen]
theorem Ver.zero_ok : Ver.zero.Ok := rfl
theorem Ver.cells_size {v : Ver} (h : v.Ok) : v.cells.toArray.size = 6 := by
  have h4 : v.ns.length = 4 := h
  simp [Ver.cells, ints, h4]
theorem Ver.cells_one (v : Ver) : v.cells.toArray.all (·.oneCell') = true := by
  rw [Array.all_eq_true_iff_forall_mem]
  intro u hu
  simp only [Ver.cells, ints, List.mem_toArray, List.mem_append, List.mem_map, List.mem_cons, List.not_mem_nil, or_false] at hu
  rcases hu with ⟨x, _, rfl⟩ | rfl | rfl <;> rfl
theorem splitC_len {c : UInt8} {s x : List UInt8} (h : x ∈ splitC c s) : x.length ≤ s.length := by
  induction s generalizing x with
  | nil => simp [splitC] at h; subst h; simp
  | cons b r ih =>
    unfold splitC at h
    split at h
    · rcases List.mem_cons.1 h with rfl | h
      · simp
      · have := ih h; simp; omega
    · cases e : splitC c r with
      | nil => exact absurd e (splitC_ne c r)
      | cons y ys =>
        rw [e] at h ih
        rcases List.mem_cons.1 h with rfl | h
        · have := ih (x := y) (by simp); simp; omega
        · have := ih (List.mem_cons_of_mem _ h); simp; omega
/-- what version.Parse answers -/
def rv (s : List UInt8) : Ver × Int := match readVer s with
  | some v => (v, 0)
  | none => (Ver.zero, 20)
theorem rv_none {s : List UInt8} (h : readVer s = none) : rv s = (Ver.zero, 20) := by unfold rv; rw [h]
theorem rv_some {s : List UInt8} {v : Ver} (h : readVer s = some v) : rv s = (v, 0) := by unfold rv; rw [h]
/-- the version so far -/
def Ver.acc (acc : List Int) (t : List UInt8) : Ver := ⟨pad acc, acc.length, t⟩
theorem Ver.acc_ok {acc : List Int} (t : List UInt8) (h : acc.length ≤ 4) : (Ver.acc acc t).Ok := pad_length h
theorem Ver.acc_set {acc : List Int} {t : List UInt8} (h : acc.length < 4) (n : Int) : ((Ver.acc acc t).cells.set acc.length (.int .i64 n)).set 4 (.int .i64 ((acc.length : Int) + 1)) = (Ver.acc (acc ++ [n]) t).cells := by
  have e : acc.length = 0 ∨ acc.length = 1 ∨ acc.length = 2 ∨ acc.length = 3 := by omega
  match acc, h with
  | [], _ => rfl
  | [a], _ => rfl
  | [a, b], _ => rfl
  | [a, b, c], _ => rfl
theorem readNums_next {acc : List Int} {ds : List (List UInt8)} {j : Nat} {d : List UInt8} (h : ds[j]? = some d) : readNums acc (ds.drop j) = match numOk d with
    | some n => if acc.length < 4 then readNums (acc ++ [n]) (ds.drop (j + 1)) else none
    | none => none := by
  obtain ⟨hj, rfl⟩ := List.getElem?_eq_some_iff.1 h
  rw [List.drop_eq_getElem_cons hj]
  rfl

set_option maxRecDepth 100000 in
set_option maxHeartbeats 2000000 in
theorem parse_ok (s : ByteArray) (hs : s.size ≤ 4000000000) (w : World) (hg : GV w) : Calls Tryz.prog 42 #[.string s] w fun e w' => e = .returned (.tuple #[(rv s.data.toList).1.val, .int .i64 (rv s.data.toList).2]) ∧ Below w.heap.size w w' := by
  obtain ⟨RES, hRES⟩ : ∃ RES, RES = rv s.data.toList := ⟨_, rfl⟩
  have HRES := Lib.hid hRES
  rw [← hRES]
  obtain ⟨w1, hw1⟩ : ∃ w1, w1 = w.alloc (.cells #[.int .i64 0, .int .i64 0, .int .i64 0, .int .i64 0, .int .i64 0, .string ⟨#[]⟩] 38) := ⟨_, rfl⟩
  obtain ⟨g2, hg2⟩ : ∃ g2, g2 = w.heap.size := ⟨_, rfl⟩
  have hb1 : Below w.heap.size w w1 := by rw [hw1]; exact (Below.refl _ _).alloc (Nat.le_refl _) _
  have HB1 := Lib.hid hb1
  have HGW := Lib.hid hg
  have HZ1 : Hid (Blk w1 g2 38 Ver.zero.cells) := Lib.hid (by rw [hw1, hg2]; exact Blk.new _ _ _)
  have HG := Lib.hid (hg.below hb1)
  have HW1 := Lib.hid hw1
  have HG2 := Lib.hid hg2
  obtain ⟨X, hX⟩ : ∃ X, X = (Lib.cut s.data.toList [45]).1 := ⟨_, rfl⟩
  obtain ⟨T, hT⟩ : ∃ T, T = (Lib.cut s.data.toList [45]).2.1 := ⟨_, rfl⟩
  obtain ⟨tg, htg⟩ : ∃ tg, tg = (Lib.cut s.data.toList [45]).2.2 := ⟨_, rfl⟩
  have hlen : X.length ≤ s.size ∧ T.length ≤ s.size := by
    have hsz : s.data.toList.length = s.size := by rw [Lib.size_eq]
    rcases cut_form s.data.toList 45 with ⟨h1, _⟩ | ⟨x, r, h1, h2, _⟩
    · rw [hX, hT, h1]; exact ⟨by simp only; omega, by simp⟩
    · rw [hX, hT, h1]
      have := congrArg List.length h2
      rw [List.length_append, List.length_cons, hsz] at this
      exact ⟨by simp only; omega, by simp only; omega⟩
  have hRV : readVer s.data.toList = match readNums [] (splitC 46 X) with
      | none => none
      | some l => if Ver.may (Ver.acc l T) = true ∧ ¬ (tg = true ∧ T = []) then some (Ver.acc l T) else none := by
    rw [hX, hT, htg]; rfl
  have HRV := Lib.hid hRV
  have HX := Lib.hid hX
  have HT := Lib.hid hT
  have HTG := Lib.hid htg
  have HLEN := Lib.hid hlen
  clear hRES hw1 hg2 hb1 hg hX hT htg hlen hRV
  go_enter Tryz.func42, Tryz.ntmps42
  go_upto_region 1 with fail
  rw [← HW1.out, ← HG2.out]
  go_wp2_with fail
  refine (cut_ok s 45 (by omega) w1 HG.out).mono ?_
  rintro e w2 ⟨rfl, hb2⟩
  rw [← HX.out, ← HT.out, ← HTG.out]
  obtain ⟨g7, hg7⟩ : ∃ g7, g7 = w2.heap.size := ⟨_, rfl⟩
  obtain ⟨sx, hsx⟩ : ∃ sx, sx = bl X := ⟨_, rfl⟩
  obtain ⟨st, hst⟩ : ∃ st, st = bl T := ⟨_, rfl⟩
  obtain ⟨w3, hw3⟩ : ∃ w3, w3 = w2.alloc (.cells #[.int .i64 0, .int .i64 0, .int .i64 0, .int .i64 0, .int .i64 0, .string st] 38) := ⟨_, rfl⟩
  rw [← hsx, ← hst]
  have hb3 : Below w2.heap.size w2 w3 := by rw [hw3]; exact (Below.refl _ _).alloc (Nat.le_refl _) _
  have hb23 : Below w1.heap.size w1 w3 := hb2.trans (hb3.mono hb2.size)
  have HG3 := Lib.hid (HG.out.below hb23)
  have HZ3 := Lib.hid (HZ1.out.below' hb23)
  have HV3 : Hid (Blk w3 g7 38 (Ver.acc [] T).cells) := Lib.hid (by rw [hw3, hg7, hst]; exact Blk.new _ _ _)
  have HB3 : Hid (Below w.heap.size w w3) := Lib.hid (HB1.out.trans (hb23.mono HB1.out.size))
  have HGG : Hid (w.heap.size ≤ g2 ∧ w.heap.size ≤ g7 ∧ g2 ≠ g7) := Lib.hid ⟨by rw [HG2.out]; exact Nat.le_refl _, by rw [hg7]; exact Nat.le_trans HB1.out.size hb2.size, by have := HZ1.out.lt; have := hb2.size; omega⟩
  have HW3 := Lib.hid hw3
  have HG7 := Lib.hid hg7
  have HSX := Lib.hid hsx
  have HST := Lib.hid hst
  have hszx : sx.size ≤ 4000000000 := by have := HLEN.out.1; rw [hsx, bl_size]; omega
  clear hb2 hg7 hsx hst hw3 hb3 hb23
  go_upto_region 3 with fail
  rw [← HW3.out, ← HG7.out]
  go_wp2_with fail
  refine (split_ok sx 46 (by omega) w3 HG3.out).mono ?_
  rintro e w4 ⟨rfl, hw4⟩
  rw [show sx.data.toList = X from by rw [HSX.out]] at hw4 ⊢
  obtain ⟨DS, hDS⟩ : ∃ DS, DS = splitC 46 X := ⟨_, rfl⟩
  rw [← hDS] at hw4 ⊢
  obtain ⟨m, hm⟩ : ∃ m, m = DS.length := ⟨_, rfl⟩
  rw [← hm]
  have hDL : ∀ d ∈ DS, d.length ≤ 4000000000 := fun d hd => by
    rw [hDS] at hd
    have := splitC_len hd
    have := HLEN.out.1
    omega
  have hmle : m ≤ 4000000001 := by
    rw [hm, hDS, splitC_length]
    have := List.count_le_length (a := (46 : UInt8)) (l := X)
    have := HLEN.out.1
    omega
  obtain ⟨g8, hg8⟩ : ∃ g8, g8 = w3.heap.size := ⟨_, rfl⟩
  rw [← hg8]
  have hb4 : Below w3.heap.size w3 w4 := by rw [hw4]; exact (Below.refl _ _).alloc (Nat.le_refl _) _
  have HS4 : Hid (Blk w4 g8 9 (DS.map fun l => Value.string (bl l))) := Lib.hid (by rw [hw4, hg8]; exact Blk.new _ _ _)
  have HG4 := Lib.hid (HG3.out.below hb4)
  have HZ4 := Lib.hid (HZ3.out.below' hb4)
  have HV4 := Lib.hid (HV3.out.below' hb4)
  have HB4 : Hid (Below w.heap.size w w4) := Lib.hid (HB3.out.trans (hb4.mono HB3.out.size))
  have HG8 : Hid (g2 ≠ g8 ∧ g7 ≠ g8) := Lib.hid ⟨by have := HZ3.out.lt; omega, by have := HV3.out.lt; omega⟩
  have HDL := Lib.hid hDL
  have HM := Lib.hid hm
  have HDS := Lib.hid hDS
  have HRV2 : Hid (readVer s.data.toList = match readNums [] DS with
      | none => none
      | some l => if Ver.may (Ver.acc l T) = true ∧ ¬ (tg = true ∧ T = []) then some (Ver.acc l T) else none) := Lib.hid (by rw [HRV.out, HDS.out])
  have hzn : ∀ wx : World, Blk wx g2 38 Ver.zero.cells → (loadVar 38 ⟨g2, 0, none⟩).run Tryz.prog wx = .ok Ver.zero.val wx := fun _ h => vload h Ver.zero_ok
  have HZN := Lib.hid hzn
  have info6 : (Tryz.prog.info? 38).map (·.size) = some 6 := by kernel_rfl
  have HI6 := Lib.hid info6
  clear hDS hm hDL hg8 hw4 hb4 hzn info6
  go_wp2_with fail
  go_loopg [23] m (fun kq iv wr => ∃ (j : Nat) (acc : List Int), iv = .int .i64 j ∧ j ≤ m ∧ kq = m - j ∧ acc.length ≤ 4 ∧ Hid (readNums [] DS = readNums acc (DS.drop j)) ∧ Hid (Blk wr g2 38 Ver.zero.cells) ∧ Hid (Blk wr g7 38 (Ver.acc acc T).cells) ∧ Hid (Blk wr g8 9 (DS.map fun l => Value.string (bl l))) ∧ Hid (GV wr) ∧ Hid (Below w.heap.size w wr))
  case atStart => exact ⟨0, [], rfl, Nat.zero_le _, rfl, by decide, Lib.hid rfl, HZ4, HV4, HS4, HG4, HB4⟩
  case round =>
    clear HZ4 HV4 HS4 HG4 HB4
    obtain ⟨j, acc, rfl, hj, rfl, hacc, RN, RZ, RV, RS, RG, RB⟩ := hrel
    by_cases hlt : j < m
    · obtain ⟨d, hd⟩ : ∃ d, DS[j]? = some d := ⟨_, List.getElem?_eq_getElem (by rw [← HM.out]; exact hlt)⟩
      obtain ⟨sd, hsd⟩ : ∃ sd, sd = bl d := ⟨_, rfl⟩
      have cd : wr.cell? ⟨g8, j, none⟩ = some (.string sd) := by rw [RS.out.cell, hsd]; simp [hd]
      have l8 := RS.out.lt
      have hsz : sd.size ≤ 4000000000 := by rw [hsd, bl_size]; exact HDL.out d (List.mem_of_getElem? hd)
      have HN := Lib.hid (readNums_next (acc := acc) hd)
      have HSD := Lib.hid hsd
      have HDD : Hid (sd.data.toList = d) := Lib.hid (by rw [hsd])
      clear hd hsd
      go_wp2_with fail
      refine (atoi_ok sd (by omega) wr RG.out).mono ?_
      rintro e w5 ⟨n, ev, rfl, hev, hb5⟩
      rw [HDD.out] at hev
      have r2 := RZ.out.below' hb5
      have r7 := RV.out.below' hb5
      have r8 := RS.out.below' hb5
      have Q2 := Lib.hid r2
      have Q7 := Lib.hid r7
      have Q8 := Lib.hid r8
      have QG := Lib.hid (RG.out.below hb5)
      have QB : Hid (Below w.heap.size w w5) := Lib.hid (RB.out.trans (hb5.mono RB.out.size))
      obtain ⟨al, hal⟩ : ∃ al : Int, al = (acc.length : Int) := ⟨_, rfl⟩
      have cc : w5.cell? ⟨g7, 4, none⟩ = some (.int .i64 al) := by rw [r7.cell, Ver.cells_c (Ver.acc_ok T hacc), hal]; rfl
      have l7 := r7.lt
      obtain ⟨B, hB⟩ : ∃ B, B = !(decide (numOk d = some n ∧ acc.length < 4)) := ⟨_, rfl⟩
      have HBo := Lib.hid hB
      have hno : numOk d = none ∨ numOk d = some n := by
        rcases hev with ⟨_, ha⟩ | ⟨_, ha⟩
        · unfold numOk
          rw [ha]
          simp only
          split
          · exact .inr rfl
          · exact .inl rfl
        · refine .inl ?_
          unfold numOk
          split
          · rename_i hq; exact absurd hq (ha _)
          · rfl
      have HNO := Lib.hid hno
      have HEV := Lib.hid hev
      clear hno
      have HAL := Lib.hid hal
      clear hb5 r2 r7 r8 RZ RV RS RG RB hB hev cd l8 hal
      go_upto_region 7 with fail
      go_cut [53] (fun u wx => u = .bool B ∧ Hid (Below w5.heap.size w5 wx))
      case first =>
        rcases HEV.out with ⟨hev, ha⟩ | ⟨⟨t, g, hev⟩, ha⟩
        · subst hev
          by_cases h9 : sd.size ≤ 9
          · by_cases h4 : al = 4
            · have hn : Hid (B = true) := Lib.hid (by rw [HBo.out, decide_eq_false (fun h => by have := HAL.out; omega)]; rfl)
              clear ha
              go_wp2_with fail
              go_meet
              exact ⟨by (rw [hn.out]; try simp [h4]), Lib.hid (Below.refl _ _)⟩
            · have hab := Lib.atoiAll_bounds ha
              have hal4 : (al == 4) = false := by simpa using h4
              obtain ⟨w6, hq⟩ : ∃ w6, w6 = w5 := ⟨_, rfl⟩
              have hit := itoa_ok n hab.1 hab.2 w5 QG.out.gt
              have HIT := Lib.hid hit
              have HA := Lib.hid ha
              clear ha hab hq hit
              go_wp2_with fail
              refine HIT.out.mono ?_
              rintro e w6 ⟨rfl, hb6⟩
              have HB6 := Lib.hid hb6
              obtain ⟨si, hsi⟩ : ∃ si, si = bl (Lib.itoa n) := ⟨_, rfl⟩
              rw [← hsi]
              by_cases hii : si = sd
              · have hitd : Lib.itoa n = d := by rw [← HDD.out, ← hii, hsi]
                subst hii
                have k1 : (si.toList == si.toList) = true := beq_self_eq_true _
                by_cases hn0 : 0 ≤ n
                · have hn : Hid (B = false) := Lib.hid (by
                    have hq : numOk d = some n := by
                      unfold numOk
                      rw [HA.out]
                      simp only
                      rw [if_pos ⟨by rw [← HDD.out, ← Lib.size_eq]; exact h9, hitd, hn0⟩]
                    have hq2 : acc.length < 4 := by have := HAL.out; omega
                    rw [HBo.out, decide_eq_true ⟨hq, hq2⟩]; rfl)
                  clear hb6 hsi hitd
                  go_wp2_with fail
                  go_meet
                  exact ⟨by (rw [hn.out]; try (simp; omega)), HB6⟩
                · have hn : Hid (B = true) := Lib.hid (by
                    rw [HBo.out, decide_eq_false (fun h => hn0 (numOk_some h.1).1)]; rfl)
                  clear hb6 hsi hitd
                  go_wp2_with fail
                  go_meet
                  exact ⟨by (rw [hn.out]; try (simp; omega)), HB6⟩
              · have hne : si.toList ≠ sd.toList := fun h => hii (by rw [Lib.toList_data, Lib.toList_data] at h; rw [bl_eta si, bl_eta sd, h])
                have k1 : (si.toList == sd.toList) = false := beq_eq_false_iff_ne.2 hne
                have hn : Hid (B = true) := Lib.hid (by
                  rw [HBo.out, decide_eq_false (fun h => hii (by rw [hsi, HSD.out, (numOk_some h.1).2.2]))]; rfl)
                clear hb6 hsi hne hii
                go_wp2_with fail
                go_meet
                exact ⟨by rw [hn.out], HB6⟩
          · have hn : Hid (B = true) := Lib.hid (by
              rw [HBo.out, decide_eq_false (fun h => ?_)]; rfl
              have h1 := numOk_some h.1
              apply h9
              rw [HSD.out, bl_size, h1.2.2, itoa_nat h1.1]
              exact (dec_length_iff _).2 (by omega))
            clear ha
            go_wp2_with fail
            go_meet
            exact ⟨by (rw [hn.out]; try (simp; omega)), Lib.hid (Below.refl _ _)⟩
        · subst hev
          have hn : Hid (B = true) := Lib.hid (by
            rw [HBo.out, decide_eq_false (fun h => ?_)]; rfl
            have h1 := h.1
            unfold numOk at h1
            split at h1
            · rename_i hq; exact ha _ hq
            · cases h1)
          clear ha
          go_wp2_with fail
          go_meet
          exact ⟨by rw [hn.out], Lib.hid (Below.refl _ _)⟩
      case rest =>
        obtain ⟨rfl, HBW⟩ := hcut
        have P2 := Lib.hid (Q2.out.below' HBW.out)
        have P7 := Lib.hid (Q7.out.below' HBW.out)
        have P8 := Lib.hid (Q8.out.below' HBW.out)
        have PG := Lib.hid (QG.out.below HBW.out)
        have PB : Hid (Below w.heap.size w wc) := Lib.hid (QB.out.trans (HBW.out.mono QB.out.size))
        clear HEV
        cases hb : B
        · have hok : numOk d = some n ∧ acc.length < 4 := by
            have := HBo.out
            rw [hb] at this
            have h2 : decide (numOk d = some n ∧ acc.length < 4) = true := by
              cases h3 : decide (numOk d = some n ∧ acc.length < 4) with
              | true => rfl
              | false => rw [h3] at this; cases this
            exact of_decide_eq_true h2
          obtain ⟨hok1, hok2⟩ := hok
          obtain ⟨w7, hw7⟩ : ∃ w7, w7 = (wc.setCell ⟨g7, acc.length, none⟩ (.int .i64 n)).setCell ⟨g7, 4, none⟩ (.int .i64 (al + 1)) := ⟨_, rfl⟩
          have f1 : Hid (Blk w7 g2 38 Ver.zero.cells) := Lib.hid (by rw [hw7]; exact (P2.out.far HGG.out.2.2 _).far HGG.out.2.2 _)
          have f2 : Hid (Blk w7 g7 38 (Ver.acc (acc ++ [n]) T).cells) := Lib.hid (by rw [hw7, ← Ver.acc_set hok2, HAL.out]; exact (P7.out.set_ _ _).set_ _ _)
          have f3 : Hid (Blk w7 g8 9 (DS.map fun l => Value.string (bl l))) := Lib.hid (by rw [hw7]; exact (P8.out.far (Ne.symm HG8.out.2) _).far (Ne.symm HG8.out.2) _)
          have hb7 : Below w.heap.size wc w7 := by rw [hw7]; exact ((Below.refl _ _).setCell (p := ⟨g7, acc.length, none⟩) HGG.out.2.1 _).setCell (p := ⟨g7, 4, none⟩) HGG.out.2.1 _
          have f5 : Hid (Below w.heap.size w w7) := Lib.hid (PB.out.trans hb7)
          have f4 : Hid (GV w7) := Lib.hid (HGW.out.below f5.out)
          have f6 : Hid (readNums [] DS = readNums (acc ++ [n]) (DS.drop (j + 1))) := Lib.hid (by rw [RN.out, HN.out, hok1]; simp only; rw [if_pos hok2])
          have hacc' : (acc ++ [n]).length ≤ 4 := by simp; omega
          have cc7 : wc.cell? ⟨g7, 4, none⟩ = some (.int .i64 al) := by rw [P7.out.cell, Ver.cells_c (Ver.acc_ok T hacc), HAL.out]; rfl
          have l77 := P7.out.lt
          have fz := P7.out.frozen acc.length
          obtain ⟨w6, hw6⟩ : ∃ w6, w6 = wc.setCell ⟨g7, acc.length, none⟩ (.int .i64 n) := ⟨_, rfl⟩
          have p6 := P7.out.set_ acc.length (.int .i64 n)
          rw [← hw6] at p6 hw7
          have HW7 := Lib.hid hw7
          have ca : ∃ u, wc.cell? ⟨g7, acc.length, none⟩ = some u := ⟨_, by rw [P7.out.cell]; exact List.getElem?_eq_getElem (by have := Ver.cells_size (Ver.acc_ok T hacc); simp at this; omega)⟩
          obtain ⟨ua, ca⟩ := ca
          have cc6 : w6.cell? ⟨g7, 4, none⟩ = some (.int .i64 al) := by rw [p6.cell, List.getElem?_set_ne (by omega), Ver.cells_c (Ver.acc_ok T hacc), HAL.out]; rfl
          have l6 := p6.lt
          have fz4 := p6.frozen 4
          have HW6 := Lib.hid hw6
          obtain ⟨al2, hal2⟩ : ∃ al2 : Nat, al2 = acc.length := ⟨_, rfl⟩
          rw [← hal2] at fz hok2 ca
          have HAL2 := Lib.hid hal2
          have eal : al = (al2 : Int) := by rw [hal2]; exact HAL.out
          subst eal
          have halI : (al2 : Int) < 4 := by omega
          have hal0 : 0 ≤ (al2 : Int) := by omega
          clear hok1 hw7 hb7 P2 P7 P8 PG PB Q2 Q7 Q8 QG QB cc hal2 hb p6 hw6
          go_upto_region 10 with fail
          rw [show wc.setCell ⟨g7, al2, none⟩ (.int .i64 n) = w6 from by rw [HAL2.out]; exact HW6.out.symm]
          clear cc7 ca fz
          go_wp2_with fail
          rw [← HW7.out]
          go_roundg (m - (j + 1))
          case measure => omega
          case rel => exact ⟨j + 1, acc ++ [n], by go_num, by omega, rfl, hacc', f6, f1, f2, f3, f4, f5⟩
        · have HR : Hid (RES = (Ver.zero, 20)) := Lib.hid (by
            rw [HRES.out]
            refine rv_none ?_
            have hno : readNums [] DS = none := by
              rw [RN.out, HN.out]
              have h2 := HBo.out
              rw [hb] at h2
              have h3 : ¬ (numOk d = some n ∧ acc.length < 4) := by
                intro h
                rw [decide_eq_true h] at h2
                cases h2
              rcases HNO.out with h | h
              · rw [h]
              · rw [h]
                simp only
                rw [if_neg (fun h4 => h3 ⟨h, h4⟩)]
            rw [HRV2.out, hno])
          have hst := Ver.cells_size Ver.zero_ok
          obtain ⟨w7, hw7⟩ : ∃ w7, w7 = wc.setRow g2 Ver.zero.cells.toArray := ⟨_, rfl⟩
          have f1 : Hid (Blk w7 g2 38 Ver.zero.cells) := Lib.hid (by rw [hw7]; exact P2.out.setRow_ Ver.zero.cells)
          have f5 : Hid (Below w.heap.size w w7) := Lib.hid (by
            rw [hw7]
            exact PB.out.trans (((Mod.refl (fun b => w.heap.size ≤ b) wc).setRow (fun _ => HGG.out.1) _).below PB.out.size (fun _ h => h)))
          have HW7 := Lib.hid hw7
          have HL7 := Lib.hid (HZN.out w7 f1.out)
          have HP2 : Hid (wc.heap[g2]? = some (.cells Ver.zero.cells.toArray 38 (0, 0))) := Lib.hid P2.out
          clear hw7 P2 P7 P8 PG PB Q2 Q7 Q8 QG QB cc hb hst
          go_wp2_with (refine wpList_store_row rfl 38 (.tmp 2) (.tmp 54) rfl g2 Ver.zero.cells.toArray rfl rfl _ _ HP2.out HI6.out rfl (Ver.cells_one _) ?_)
          rw [← HW7.out]
          try simp only [Exit.inBlock, Exit.then]
          refine bodyPost_ret (results_cell2 rfl _ _ g2 _ rfl HL7.out) rfl ?_
          exact ⟨by rw [HR.out]; rfl, f5.out⟩
    · obtain rfl : j = m := by omega
      have hsome : readNums [] DS = some acc := by rw [RN.out, HM.out, List.drop_length]; rfl
      have HRS : Hid (RES = if Ver.may (Ver.acc acc T) = true ∧ ¬ (tg = true ∧ T = []) then (Ver.acc acc T, 0) else (Ver.zero, 20)) := Lib.hid (by
        rw [HRES.out]
        by_cases hc : Ver.may (Ver.acc acc T) = true ∧ ¬ (tg = true ∧ T = [])
        · rw [if_pos hc]
          exact rv_some (by rw [HRV2.out, hsome]; simp only; rw [if_pos hc])
        · rw [if_neg hc]
          exact rv_none (by rw [HRV2.out, hsome]; simp only; rw [if_neg hc]))
      have HL := Lib.hid (vload RV.out (Ver.acc_ok T hacc))
      obtain ⟨BB, hBB⟩ : ∃ BB, BB = !(decide (Ver.may (Ver.acc acc T) = true ∧ ¬ (tg = true ∧ T = []))) := ⟨_, rfl⟩
      have HBB := Lib.hid hBB
      have hstl : st.toList = T := by rw [HST.out, bl_toList]
      have HSTL := Lib.hid hstl
      clear hsome hBB hstl
      go_upto_region 12 with fail
      go_cut [74] (fun u wx => u = .bool BB ∧ Hid (Below wr.heap.size wr wx))
      case first =>
        go_wp2_with (refine wpList_load_run rfl 38 (.tmp 7) rfl g7 rfl _ HL.out ?_)
        refine (may_ok (Ver.acc acc T) (Ver.acc_ok T hacc) (by show T.length ≤ _; have := HLEN.out.2; omega) wr).mono ?_
        rintro e w5 ⟨rfl, hb5⟩
        have HB5 := Lib.hid hb5
        clear hb5
        cases hmay : Ver.may (Ver.acc acc T)
        · have hn : Hid (BB = true) := Lib.hid (by rw [HBB.out, decide_eq_false (fun h => by rw [hmay] at h; cases h.1)]; rfl)
          clear hmay
          go_wp2_with fail
          go_meet
          exact ⟨by rw [hn.out], HB5⟩
        · cases tg
          · have hn : Hid (BB = false) := Lib.hid (by rw [HBB.out, decide_eq_true ⟨hmay, fun h => by cases h.1⟩]; rfl)
            clear hmay
            go_wp2_with fail
            go_meet
            exact ⟨by rw [hn.out], HB5⟩
          · by_cases hT0 : T = []
            · have hn : Hid (BB = true) := Lib.hid (by rw [HBB.out, decide_eq_false (fun h => h.2 ⟨rfl, hT0⟩)]; rfl)
              have k1 : st.toList = [] := by rw [HSTL.out, hT0]
              clear hmay hT0
              go_wp2_with fail
              go_meet
              exact ⟨by (rw [hn.out]; try simp [k1]), HB5⟩
            · have hn : Hid (BB = false) := Lib.hid (by rw [HBB.out, decide_eq_true ⟨hmay, fun h => hT0 h.2⟩]; rfl)
              have k1 : ¬ st.toList = [] := by rw [HSTL.out]; exact hT0
              have k2 : st.toList.isEmpty = false := by simpa using k1
              clear hmay hT0
              go_wp2_with fail
              go_meet
              exact ⟨by (rw [hn.out]; try simp [k1]), HB5⟩
      case rest =>
        obtain ⟨rfl, HBW⟩ := hcut
        have P2 := Lib.hid (RZ.out.below' HBW.out)
        have P7 := Lib.hid (RV.out.below' HBW.out)
        have PB : Hid (Below w.heap.size w wc) := Lib.hid (RB.out.trans (HBW.out.mono RB.out.size))
        obtain ⟨U, hU⟩ : ∃ U : Ver, U = if BB then Ver.zero else Ver.acc acc T := ⟨_, rfl⟩
        have hUo : U.Ok := by
          rw [hU]
          split
          · exact Ver.zero_ok
          · exact Ver.acc_ok T hacc
        obtain ⟨w7, hw7⟩ : ∃ w7, w7 = wc.setRow g2 U.cells.toArray := ⟨_, rfl⟩
        have f1 : Blk w7 g2 38 U.cells := by rw [hw7]; exact P2.out.setRow_ U.cells
        have f5 : Hid (Below w.heap.size w w7) := Lib.hid (by
          rw [hw7]
          exact PB.out.trans (((Mod.refl (fun b => w.heap.size ≤ b) wc).setRow (fun _ => HGG.out.1) _).below PB.out.size (fun _ h => h)))
        have HW7 := Lib.hid hw7
        have HL7 := Lib.hid (vload f1 hUo)
        have HP2 : Hid (wc.heap[g2]? = some (.cells Ver.zero.cells.toArray 38 (0, 0))) := Lib.hid P2.out
        have HLW := Lib.hid (vload P7.out (Ver.acc_ok T hacc))
        have HSZ : Hid (Ver.zero.cells.toArray.size = (Ver.acc acc T).cells.toArray.size) := Lib.hid (by rw [Ver.cells_size (Ver.acc_ok T hacc)]; rfl)
        have HI7 : Hid ((Tryz.prog.info? 38).map (·.size) = some (Ver.acc acc T).cells.toArray.size) := Lib.hid (by rw [Ver.cells_size (Ver.acc_ok T hacc)]; exact HI6.out)
        have HU := Lib.hid hU
        clear hU hUo hw7 f1
        cases BB
        · have hR : Hid (RES = (Ver.acc acc T, 0)) := Lib.hid (by
            rw [HRS.out, if_pos]
            have h2 := HBB.out
            cases h3 : decide (Ver.may (Ver.acc acc T) = true ∧ ¬ (tg = true ∧ T = [])) with
            | true => exact of_decide_eq_true h3
            | false => rw [h3] at h2; cases h2)
          have eU : U = Ver.acc acc T := by rw [HU.out]; rfl
          subst eU
          go_wp2_with (first | refine wpList_load_run rfl 38 (.tmp 7) rfl g7 rfl _ HLW.out ?_ | refine wpList_store_row rfl 38 (.tmp 2) (.tmp 76) rfl g2 (Ver.acc acc T).cells.toArray rfl rfl _ _ HP2.out HI7.out HSZ.out (Ver.cells_one _) ?_)
          rw [← HW7.out]
          try simp only [Exit.inBlock, Exit.then]
          refine bodyPost_ret (results_cell2 rfl _ _ g2 _ rfl HL7.out) rfl ?_
          exact ⟨by rw [hR.out]; rfl, f5.out⟩
        · have hR : Hid (RES = (Ver.zero, 20)) := Lib.hid (by
            rw [HRS.out, if_neg]
            intro h
            have h2 := HBB.out
            rw [decide_eq_true h] at h2
            cases h2)
          have eU : U = Ver.zero := by rw [HU.out]; rfl
          subst eU
          go_wp2_with (refine wpList_store_row rfl 38 (.tmp 2) (.tmp 75) rfl g2 Ver.zero.cells.toArray rfl rfl _ _ HP2.out HI6.out rfl (Ver.cells_one _) ?_)
          rw [← HW7.out]
          try simp only [Exit.inBlock, Exit.then]
          refine bodyPost_ret (results_cell2 rfl _ _ g2 _ rfl HL7.out) rfl ?_
          exact ⟨by rw [hR.out]; rfl, f5.out⟩
end Go.Proofs.YteeijjhgdplifaaGreatDoor
