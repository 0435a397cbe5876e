/- RefdbX: contracts of Closure, Dead, Referrers, Derived, Refers. -/
import Derived.Test.YtcffmpjdonncgaaG3
namespace Go.Proofs.Ytcffmpjdonncgaa
open Go.RowKit Go.Proofs.YtcffmpjdonncgaaW.PrintWords
open Go.Proofs.Ytcffmpjdonncgaa.PRef (S33 k33 k33_open z33)

open Classical in
noncomputable def RS (l : List S33) (ps : List ByteArray) : List ByteArray := SU ((l.map (·.f0)).filter fun p => decide (Rch l ps p))
open Classical in
noncomputable def DS (l : List S33) (ps : List ByteArray) : List ByteArray := SU ((l.map (·.f0)).filter fun p => decide (¬ Rch l ps p))
theorem RS_mem {l : List S33} {ps : List ByteArray} {p : ByteArray} : p ∈ RS l ps ↔ Rch l ps p := by
  unfold RS
  rw [SU_mem, List.mem_filter]
  simp only [decide_eq_true_eq]
  exact ⟨fun h => h.2, fun h => ⟨h.key, h⟩⟩
theorem DS_mem {l : List S33} {ps : List ByteArray} {p : ByteArray} : p ∈ DS l ps ↔ p ∈ l.map (·.f0) ∧ ¬ Rch l ps p := by
  unfold DS
  rw [SU_mem, List.mem_filter]
  simp only [decide_eq_true_eq]
theorem RS_rising (l : List S33) (ps : List ByteArray) : Rising (RS l ps) := SU_rising _
theorem DS_rising (l : List S33) (ps : List ByteArray) : Rising (DS l ps) := SU_rising _

/-- a list that the call has made: e is what it returned -/
def Made (w : World) (r : List ByteArray) (v : Value) (w' : World) : Prop := ∃ A c, v = .slice A r.length c ∧ w'.ownsRow 0 9 1 (.slice A r.length c) r.length (strs r) ∧ (∀ b, (Value.slice A r.length c).ownBlock = some b → w.heap.size ≤ b) ∧ Below w.heap.size w w'
theorem Made.base {w w1 w' : World} {r : List ByteArray} {v : Value} (h : Made w1 r v w') (hb : Below w.heap.size w w1) : Made w r v w' := by
  obtain ⟨A, c, h1, h2, h3, h4⟩ := h
  exact ⟨A, c, h1, h2, fun b h => Nat.le_trans hb.size (h3 b h), hb.trans (h4.mono hb.size)⟩

theorem sorted_made (w : World) (F : Nat → Prop) (A : Option Addr) (n c : Nat) (l : List ByteArray) (h : Sl w F 1 (.slice A n c) n (strs l)) (hn : n ≤ 1000000) : Calls Try.prog 26 #[.slice A n c] w fun e w' => ∃ v, e = .returned v ∧ Made w (SU l) v w' := by
  refine (sorted_ok w F A n c l h hn).mono ?_
  rintro e w' ⟨A', c', rfl, h1, h2, h3⟩
  exact ⟨_, rfl, A', c', rfl, h1, h2, h3⟩

open Classical in
noncomputable def cloL (l : List S33) (ps : List ByteArray) : List ByteArray := if ∀ p ∈ ps, p ∈ l.map (·.f0) then RS l ps else []

set_option maxRecDepth 100000 in
set_option maxHeartbeats 2000000 in
theorem closure_ok (w : World) (F : Nat → Prop) (g : Nat) (l : List S33) (A : Option Addr) (n c : Nat) (ps : List ByteArray) (h : GrOf w g l) (hp : Sl w F 1 (.slice A n c) n (strs ps)) (hn : n ≤ 1000000) (hl : l.length ≤ 4096) (hnd : (l.map (·.f0)).Nodup) (hr : ∀ x ∈ l, x.f3.length ≤ 1000) :
    Calls Try.prog 13 #[.pointer (some ⟨g, 0, none⟩), .slice A n c] w fun e w' => ∃ v, e = .returned (.tuple #[v, .int .i64 (knownErr l ps)]) ∧ Made w (cloL l ps) v w' := by
  have HK := Lib.hid (known_ok w F g l A n c ps h hp (by omega))
  have HRE := Lib.hid (reach_ok w F g l A n c ps h hp hn hl hnd hr)
  clear h hp hnd hr
  go_enter Try.func13, Try.ntmps13
  go_wp2_with fail
  refine HK.out.mono ?_
  rintro e w' ⟨rfl, rfl⟩
  by_cases hkn : ∀ p ∈ ps, p ∈ l.map (·.f0)
  · have e1 : knownErr l ps = 0 := by unfold knownErr; rw [if_pos hkn]
    have e2 : cloL l ps = RS l ps := by unfold cloL; rw [if_pos hkn]
    rw [e1]
    have HE1 := Lib.hid e1
    have HE2 := Lib.hid e2
    clear e1 e2 hkn HK
    go_wp2_with fail
    refine HRE.out.mono ?_
    rintro e w1 ⟨m, seen, rfl, hm, hm0, hs, hsl, hb⟩
    obtain ⟨w2, hrun, hit, hb2⟩ := hm.range Try.underlying61
    obtain ⟨it, hit0⟩ : ∃ it, it = w1.heap.size := ⟨_, rfl⟩
    rw [← hit0] at hrun hit
    have HI := Lib.hid hit
    have HB := Lib.hid (hb.trans (hb2.mono hb.size))
    have HIT := Lib.hid (show w.heap.size ≤ it by rw [hit0]; exact hb.size)
    have HS := Lib.hid hs
    have HM := Lib.hid hm0
    have hdl : (trues seen).length ≤ 4096 := by have h : (trues seen).length = seen.length := (by simp [trues]); omega
    clear HRE hm hm0 hs hsl hb hit hb2 hit0
    go_wp2_with fail
    go_loopg [7] ((trues seen).length + 1) (fun kq lv wr => ∃ (done : List (ByteArray × Value)) (A : Option Addr) (c : Nat), lv = .slice A done.length c ∧ done.length ≤ (trues seen).length ∧ kq = (trues seen).length + 1 - done.length ∧ Hid (Iter KS wr it m (trues seen) done) ∧ Hid (wr.ownsRow 0 9 1 (.slice A done.length c) done.length (strs (done.map (·.1)))) ∧
      Hid (∀ b, (Value.slice A done.length c).ownBlock = some b → w.heap.size ≤ b) ∧ Hid (Below w.heap.size w wr))
    case atStart => exact ⟨[], none, 0, rfl, Nat.zero_le _, rfl, HI, own_nil0 _ _ _, Lib.hid (fun b hb => by simp [Value.ownBlock] at hb), HB⟩
    case round =>
      clear HI HB hrun
      obtain ⟨done, Al, cl, rfl, hdn, rfl, hi, ho, hf, hb⟩ := hrel
      rcases hi.out.next 0 with ⟨hall, hnx⟩ | ⟨x, w2, hnx, hen, hi2, hxD, hmod⟩
      · have hpm := hi.out.perm hall
        have hsu := Lib.hid (show SU (done.map (·.1)) = RS l ps from by
          refine rising_ext (SU_rising _) (RS_rising _ _) (fun s => ?_)
          rw [SU_mem, RS_mem, ← HS.out s, (hpm.map _).mem_iff, trues_keys])
        have HO := Lib.hid (sorted_made wr _ Al done.length cl (done.map (·.1)) (Sl.of_own ho.out) (by omega))
        clear hall hpm ho hf hi
        go_wp2_with fail
        refine HO.out.mono ?_
        rintro e w3 ⟨v, rfl, hmd⟩
        rw [hsu.out] at hmd
        have HMD := Lib.hid (hmd.base hb.out)
        clear hmd HO hb
        go_wp2_with fail
        go_ret2
        exact ⟨v, by rw [HE1.out]; rfl, by rw [HE2.out]; exact HMD.out⟩
      · obtain ⟨p, vx⟩ := x
        have kp : KS.key p = .string p := rfl
        simp only [kp] at hnx hen
        have hd1 : done.length + 1 ≤ (trues seen).length := by have := hi2.len; simpa using this
        have ho2 := own_mod ho.out hmod (fun q hq e => hi.out.ne_own ho.out (by rw [hq, e]))
        have hb2 : Below w.heap.size w w2 := hb.out.trans (hmod.below hb.out.size (fun q hq => by rw [hq]; exact HIT.out))
        have HI2 := Lib.hid hi2
        have HO2 := Lib.hid ho2
        have HB2 := Lib.hid hb2
        clear kp hi2 ho2 hb2 hxD hmod hi ho hb
        go_wp2_with (at_builtin
                     refine wpList_app _ rfl (.tmp 23) (.tmp 25) 23 rfl 9 (.string ⟨#[]⟩) 1 16 Try.underlying23 infoStr rfl (by omega) (by omega) (.slice Al done.length cl) done.length (strs (done.map (·.1))) rfl
                       (HO2.out.alloc _) (fun q => q = w2.heap.size) (.slice (some ⟨w2.heap.size, 0, none⟩) 1 1) 1 [.string p] rfl (Sl.one w2 9 _) (by simp [Value.oneCell']) (by omega) ?_
                     intro A8 c8 w8 o8 g8 at8 _
                     have HW8 := Lib.hid (And.intro o8 (And.intro g8 at8))
                     clear o8 g8 at8)
        go_roundg ((trues seen).length + 1 - (done.length + 1))
        case measure => omega
        case rel =>
          obtain ⟨k1, k2, k3⟩ := HW8.out
          have hmm : Mod (fun b => (Value.slice Al done.length cl).ownBlock = some b) w2 w8 := ((Mod.refl _ _).alloc _).grown k2 (fun k hk _ => hk)
          have hdn : (done ++ [(p, vx)]).length = done.length + 1 := by simp
          refine ⟨done ++ [(p, vx)], A8, c8, by rw [hdn], by omega, by rw [hdn], ?_, ?_, ?_, ?_⟩
          · exact HI2.out.mod hmm (fun e => HI2.out.map.ne_own HO2.out e) (fun e => HI2.out.ne_own HO2.out e)
          · rw [hdn, List.map_append, strs_append]
            exact k1
          · rw [hdn]
            intro b hb'
            have hsz := HB2.out.size
            rcases k3 with e | e
            · rw [e] at hb'; exact hf.out b hb'
            · rw [e] at hb'; injection hb' with hb'; simp at hb'; omega
          · exact HB2.out.trans (hmm.below HB2.out.size (fun i hi => hf.out i hi))
  · have e1 : knownErr l ps = 14 := by unfold knownErr; rw [if_neg hkn]
    have e2 : cloL l ps = [] := by unfold cloL; rw [if_neg hkn]
    rw [e1]
    have HE1 := Lib.hid e1
    have HE2 := Lib.hid e2
    clear e1 e2 hkn HK HRE
    go_wp2_with fail
    go_ret2
    refine ⟨.slice none 0 0, by rw [HE1.out]; rfl, ?_⟩
    rw [HE2.out]
    exact ⟨none, 0, rfl, own_nil0 _ _ _, fun b hb => by simp [Value.ownBlock] at hb, Below.refl _ _⟩

set_option maxRecDepth 100000 in
set_option maxHeartbeats 2000000 in
theorem dead_ok (w : World) (F : Nat → Prop) (g : Nat) (l : List S33) (A : Option Addr) (n c : Nat) (ps : List ByteArray) (h : GrOf w g l) (hp : Sl w F 1 (.slice A n c) n (strs ps)) (hn : n ≤ 1000000) (hl : l.length ≤ 4096) (hnd : (l.map (·.f0)).Nodup) (hr : ∀ x ∈ l, x.f3.length ≤ 1000) :
    Calls Try.prog 11 #[.pointer (some ⟨g, 0, none⟩), .slice A n c] w fun e w' => ∃ v, e = .returned v ∧ Made w (DS l ps) v w' := by
  have HNO := Lib.hid h.isnt
  have HRE := Lib.hid (reach_ok w F g l A n c ps h hp hn hl hnd hr)
  have HG := Lib.hid h
  have HND := Lib.hid hnd
  clear h hp hnd hr
  go_enter Try.func11, Try.ntmps11
  go_wp2_with fail
  refine HNO.out.mono ?_
  rintro e w' ⟨rfl, rfl⟩
  clear HNO
  go_wp2_with fail
  refine HRE.out.mono ?_
  rintro e w1 ⟨m, seen, rfl, hm, hm0, hs, hsl, hb⟩
  obtain ⟨w0, r, b, e, d, k, hst, hpk⟩ := HG.out.below hb
  obtain ⟨D1, hD1⟩ := hst.refsMap
  have hkeys := (hst.rows hD1).1
  rw [M1f_keys] at hkeys
  obtain ⟨w2, hrun, hit, hb2⟩ := hD1.range Try.underlying39
  obtain ⟨it, hit0⟩ : ∃ it, it = w1.heap.size := ⟨_, rfl⟩
  rw [← hit0] at hrun hit
  have q0 := hst.cells.1
  have q1 := hst.cells.2.2.2.2
  have HI := Lib.hid hit
  have HB := Lib.hid (hb.trans (hb2.mono hb.size))
  have HS := Lib.hid hs
  have HM := Lib.hid (hm.below hb2)
  have HIT := Lib.hid (show w.heap.size ≤ it by rw [hit0]; exact hb.size)
  have HMI := Lib.hid (show m ≠ it by rw [hit0]; have := hm.lt; omega)
  have hdl : D1.length ≤ 4096 := by have h := congrArg List.length hkeys; simp at h; omega
  have HKE := Lib.hid hkeys
  clear HRE hm hm0 hs hsl hb hit hb2 hit0 hst hpk hkeys hD1
  go_wp2_with fail
  go_loopg [5] (D1.length + 1) (fun kq lv wr => ∃ (done : List (ByteArray × Value)) (out : List ByteArray) (A : Option Addr) (c : Nat), lv = .slice A out.length c ∧ out.length ≤ done.length ∧ done.length ≤ D1.length ∧ kq = D1.length + 1 - done.length ∧ Hid (Iter KS wr it r D1 done) ∧ Hid (MapAt KS wr m (trues seen)) ∧ Hid (wr.ownsRow 0 9 1 (.slice A out.length c) out.length (strs out)) ∧
    Hid (∀ b, (Value.slice A out.length c).ownBlock = some b → w.heap.size ≤ b) ∧ Hid (Below w.heap.size w wr) ∧ Hid (∀ s, s ∈ out ↔ s ∈ done.map (·.1) ∧ s ∉ seen))
  case atStart => exact ⟨[], [], none, 0, rfl, Nat.le_refl _, Nat.zero_le _, rfl, HI, HM, own_nil0 _ _ _, Lib.hid (fun b hb => by simp [Value.ownBlock] at hb), HB, Lib.hid (by simp)⟩
  case round =>
    clear HI HB HM hrun q0 q1
    obtain ⟨done, out, Al, cl, rfl, hol, hdn, rfl, hi, hmp, ho, hf, hb, hmem⟩ := hrel
    rcases hi.out.next 0 with ⟨hall, hnx⟩ | ⟨x, w2, hnx, hen, hi2, hxD, hmod⟩
    · have hpm := hi.out.perm hall
      have hsu := Lib.hid (show SU out = DS l ps from by
        refine rising_ext (SU_rising _) (DS_rising _ _) (fun s => ?_)
        rw [SU_mem, DS_mem, hmem.out, HS.out s, (hpm.map _).mem_iff, HKE.out])
      have HO := Lib.hid (sorted_made wr _ Al out.length cl out (Sl.of_own ho.out) (by omega))
      clear hall hpm ho hf hi hmem hmp
      go_wp2_with fail
      refine HO.out.mono ?_
      rintro e w3 ⟨v, rfl, hmd⟩
      rw [hsu.out] at hmd
      have HMD := Lib.hid (hmd.base hb.out)
      clear hmd HO hb
      go_wp2_with fail
      go_ret
      exact ⟨v, rfl, HMD.out⟩
    · obtain ⟨p, vx⟩ := x
      have kp : KS.key p = .string p := rfl
      simp only [kp] at hnx hen
      have hd1 : done.length + 1 ≤ D1.length := by have := hi2.len; simpa using this
      have ho2 := own_mod ho.out hmod (fun q hq e => hi.out.ne_own ho.out (by rw [hq, e]))
      have hb2 : Below w.heap.size w w2 := hb.out.trans (hmod.below hb.out.size (fun q hq => by rw [hq]; exact HIT.out))
      have hm2 := hmp.out.mod hmod HMI.out
      have HI2 := Lib.hid hi2
      have HO2 := Lib.hid ho2
      have HB2 := Lib.hid hb2
      have HM2 := Lib.hid hm2
      have hdn1 : (done ++ [(p, vx)]).length = done.length + 1 := by simp
      by_cases hs : p ∈ seen
      · have hlk := hm2.lookup_some (mt := 61) Try.underlying61 (trues_some hs) false
        have hlk : (Instr.lookup 61 (.map (some m)) (.string p) false).run Try.prog w2 = .ok (.bool true) w2 := hlk
        have HMEM : Hid (∀ s, s ∈ out ↔ s ∈ (done ++ [(p, vx)]).map (·.1) ∧ s ∉ seen) := by
          refine Lib.hid fun s => ?_
          rw [hmem.out s, List.map_append, List.mem_append]
          simp only [List.map_cons, List.map_nil, List.mem_singleton]
          refine ⟨fun h => ⟨.inl h.1, h.2⟩, fun h => ⟨h.1.elim id (fun e => ?_), h.2⟩⟩
          subst e
          exact (h.2 hs).elim
        have HD1 := Lib.hid hdn1
        clear kp hi2 ho2 hb2 hxD hmod hi ho hb hm2 hmp hs hmem hdn1
        go_wp2_with fail
        go_roundg (D1.length + 1 - (done.length + 1))
        case measure => omega
        case rel => exact ⟨done ++ [(p, vx)], out, Al, cl, rfl, by rw [HD1.out]; omega, by rw [HD1.out]; omega, by rw [HD1.out], HI2, HM2, HO2, hf, HB2, HMEM⟩
      · have hlk := hm2.lookup_none (mt := 61) Try.underlying61 (trues_none hs) (zeroBool w2) false
        have hlk : (Instr.lookup 61 (.map (some m)) (.string p) false).run Try.prog w2 = .ok (.bool false) w2 := hlk
        have HMEM : Hid (∀ s, s ∈ out ++ [p] ↔ s ∈ (done ++ [(p, vx)]).map (·.1) ∧ s ∉ seen) := by
          refine Lib.hid fun s => ?_
          rw [List.mem_append, hmem.out s, List.map_append, List.mem_append]
          simp only [List.map_cons, List.map_nil, List.mem_singleton]
          refine ⟨fun h => h.elim (fun h => ⟨.inl h.1, h.2⟩) (fun e => ⟨.inr e, by rw [e]; exact hs⟩), fun h => h.1.elim (fun h1 => .inl ⟨h1, h.2⟩) .inr⟩
        have HD1 := Lib.hid hdn1
        clear kp hi2 ho2 hb2 hxD hmod hi ho hb hm2 hmp hs hmem hdn1
        go_wp2_with (at_builtin
                     refine wpList_app _ rfl (.tmp 27) (.tmp 29) 23 rfl 9 (.string ⟨#[]⟩) 1 16 Try.underlying23 infoStr rfl (by omega) (by omega) (.slice Al out.length cl) out.length (strs out) rfl
                       (HO2.out.alloc _) (fun q => q = w2.heap.size) (.slice (some ⟨w2.heap.size, 0, none⟩) 1 1) 1 [.string p] rfl (Sl.one w2 9 _) (by simp [Value.oneCell']) (by omega) ?_
                     intro A8 c8 w8 o8 g8 at8 _
                     have HW8 := Lib.hid (And.intro o8 (And.intro g8 at8))
                     clear o8 g8 at8)
        go_roundg (D1.length + 1 - (done.length + 1))
        case measure => omega
        case rel =>
          obtain ⟨k1, k2, k3⟩ := HW8.out
          have hmm : Mod (fun b => (Value.slice Al out.length cl).ownBlock = some b) w2 w8 := ((Mod.refl _ _).alloc _).grown k2 (fun k hk _ => hk)
          have hon : (out ++ [p]).length = out.length + 1 := by simp
          refine ⟨done ++ [(p, vx)], out ++ [p], A8, c8, by rw [hon], by rw [HD1.out, hon]; omega, by rw [HD1.out]; omega, by rw [HD1.out], ?_, ?_, ?_, ?_, ?_, HMEM⟩
          · exact HI2.out.mod hmm (fun e => HI2.out.map.ne_own HO2.out e) (fun e => HI2.out.ne_own HO2.out e)
          · exact HM2.out.mod hmm (fun e => HM2.out.ne_own HO2.out e)
          · rw [hon, strs_append]
            exact k1
          · rw [hon]
            intro b hb'
            have hsz := HB2.out.size
            rcases k3 with e | e
            · rw [e] at hb'; exact hf.out b hb'
            · rw [e] at hb'; injection hb' with hb'; simp at hb'; omega
          · exact HB2.out.trans (hmm.below HB2.out.size (fun i hi => hf.out i hi))
end Go.Proofs.Ytcffmpjdonncgaa
