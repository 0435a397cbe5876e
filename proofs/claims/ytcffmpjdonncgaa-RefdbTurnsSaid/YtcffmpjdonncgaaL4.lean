/- RefdbTurns: the walk. -/
import Derived.Test.YtcffmpjdonncgaaG17
namespace Go.Proofs.Ytcffmpjdonncgaa
open Go.RowKit Go.Proofs.YtcffmpjdonncgaaW.PrintWords
open Go.Proofs.Ytcffmpjdonncgaa.PRef

theorem below_drewN (w : World) (n : Nat) : Below w.heap.size w (w.drewN n) := pw_below_drewN (Below.refl _ _) n
theorem below_step {a b c : World} (h : Below a.heap.size a b) (k : Below b.heap.size b c) : Below a.heap.size a c := h.trans (k.mono h.size)
theorem Made.bel {w w' : World} {r : List ByteArray} {v : Value} (h : Made w r v w') : Below w.heap.size w w' := by
  obtain ⟨_, _, _, _, _, h⟩ := h
  exact h
theorem sl_len {w : World} {F : Nat → Prop} {v : Value} {n : Nat} {ps : List ByteArray} (h : Sl w F 1 v n (strs ps)) : ps.length = n := by
  have := h.1
  rwa [strs_length, Nat.mul_one] at this
/-- two lists that are alike -/
theorem same_yes (w w1 w2 w3 w4 : World) (r : List ByteArray) (u v : Value) (h1 : Made w1 r u w2) (h2 : Made w3 r v w4) (hb2 : Below w2.heap.size w2 w) (hb4 : Below w4.heap.size w4 w) (hr : r.length ≤ 1000000) :
    Calls Try.prog 14 #[u, v] w fun e w' => e = .returned (.bool true) ∧ Below w.heap.size w w' := by
  obtain ⟨A, c, rfl, o1, _⟩ := h1
  obtain ⟨B, d, rfl, o2, _⟩ := h2
  refine (same_ok w _ _ A B r.length r.length c d r r (Sl.of_own (own_below o1 hb2)) (Sl.of_own (own_below o2 hb4)) (by omega) (by omega)).mono ?_
  rintro e w' ⟨rfl, q, rfl⟩
  exact ⟨by rw [eqL_iff.2 rfl], pw_below_drewN (Below.refl _ _) q⟩
theorem keys_le {l : List S33} {m : List ByteArray} (h : m.Nodup) (hm : ∀ s ∈ m, s ∈ l.map (·.f0)) : m.length ≤ l.length := by
  have := h.length_le_of_subset (l₂ := l.map (·.f0)) (fun s hs => hm s hs)
  simpa using this
theorem turns_len {l : List S33} {n : Nat} {ps : List ByteArray} {out : List ByteArray} (hl : l.length = n) (hn : n ≤ 4096) (hd : OrdDone l out) : (cloL l ps).length ≤ 1000000 ∧ (ordOut l out).length ≤ 1000000 ∧ (DS l ps).length ≤ 1000000 := by
  refine ⟨?_, ?_, ?_⟩
  · unfold cloL
    split
    · have := keys_le (RS_rising l ps).nodup (fun p hp => (RS_mem.1 hp).key); omega
    · simp
  · unfold ordOut
    split
    · simp
    · have := hd.1.len; omega
  · have := keys_le (DS_rising l ps).nodup (fun p hp => (DS_mem.1 hp).1); omega
abbrev z33v : Value := .agg #[.string ⟨#[]⟩, .string ⟨#[]⟩, .string ⟨#[]⟩, .slice none 0 0]
theorem info33 : (Try.prog.info? 33).map (fun i => (i.zero, i.size, i.bytes)) = some (some z33v, 4, 72) := by kernel_rfl
theorem turn_k {t : Int} {n : Nat} (hn : 0 < n) : ∃ k : Nat, k < n ∧ (Int.tmod (Int.tmod t n + n) n) = (k : Int) ∧ 0 ≤ Int.tmod t n + n ∧ Int.tmod t n + n < 2 * n := by
  have h1 : -(n : Int) < Int.tmod t n := by
    have := Int.lt_tmod_of_pos t (show (0 : Int) < n by omega); omega
  have h2 : Int.tmod t n < n := Int.tmod_lt_of_pos t (by omega)
  have h3 : 0 ≤ Int.tmod t n + n := by omega
  refine ⟨(Int.tmod (Int.tmod t n + n) n).toNat, ?_, ?_, h3, by omega⟩
  · have h4 := Int.tmod_lt_of_pos (Int.tmod t n + n) (show (0 : Int) < n by omega)
    have h5 := Int.tmod_nonneg (n : Int) h3
    omega
  · have h5 := Int.tmod_nonneg (n : Int) h3
    omega

def NewGot (w : World) (gp : Option Addr) (l : List S33) : Prop := (newErr l = 0 → ∃ g, gp = some ⟨g, 0, none⟩ ∧ GrOf w g l) ∧ (newErr l ≠ 0 → gp = none)
theorem NewPost.got {w w' : World} {l : List S33} {e : Ending} (h : NewPost w l e w') : ∃ gp, e = .returned (.tuple #[.pointer gp, .int .i64 (newErr l)]) ∧ NewGot w' gp l ∧ Below w.heap.size w w' := by
  obtain ⟨hb, ⟨he, g, rfl, _, r, b, e, d, k, hst, hpk⟩ | ⟨hne, rfl⟩⟩ := h
  · exact ⟨_, by rw [he], ⟨fun _ => ⟨g, rfl, w, r, b, e, d, k, hst, hpk⟩, fun h => absurd he h⟩, hb⟩
  · exact ⟨_, rfl, ⟨fun h => absurd h hne, fun _ => rfl⟩, hb⟩

set_option maxRecDepth 100000 in
set_option maxHeartbeats 8000000 in
theorem refdbTurns_walk (A : Option Addr) (n c : Nat) (l : List S33) (B : Option Addr) (m d : Nat) (ps : List ByteArray) (t : Int) (w : World) (F : Nat → Prop) (hA : Kd.C k33 w A n l) (hc : n ≤ c) (hl : n ≤ 100000000000000) (hf : ∀ x ∈ l, x.f3.length ≤ 100000000000000)
    (hB : Sl w F 1 (.slice B m d) m (strs ps)) (hm : m ≤ 100000000000000) :
    Calls Try.prog 6 #[.slice A n c, .slice B m d, .int .i64 t] w fun e w' => e = .returned (.bool true) ∧ Below w.heap.size w w' := by
  have hln : l.length = n := hA.1
  have HFEW := Lib.hid (few_ok w A n c l hA hc (by omega) hf)
  have HA := Lib.hid hA
  have HB := Lib.hid hB
  have HLN := Lib.hid hln
  clear hA hB hf hln
  go_enter Try.func6, Try.ntmps6
  go_wp2_with fail
  refine HFEW.out.mono ?_
  rintro e w1 ⟨rfl, q1, hq1⟩
  obtain ⟨b1, hb1⟩ : ∃ b1, b1 = fewR l l.length := ⟨_, rfl⟩
  rw [← hb1]
  have HB1 := Lib.hid hb1
  have HW1 : Hid (Below w.heap.size w w1) := Lib.hid (by rw [hq1]; exact below_drewN w q1)
  clear HFEW hb1 hq1
  by_cases hb : b1 = true
  · subst hb
    by_cases h0 : n = 0
    · subst h0
      go_wp2_with fail
      go_ret
      exact ⟨rfl, HW1.out⟩
    · by_cases hm100 : m ≤ 100
      · obtain ⟨hl400, hf400⟩ := few_yes HB1.out.symm
        have hn400 : n < 400 := by rw [← HLN.out]; exact hl400
        have hn0 : 0 < n := by omega
        have hz0 : ((n : Int) == 0) = false := by rw [beq_eq_false_iff_ne]; omega
        have HF4 := Lib.hid hf400
        obtain ⟨k, hkn, hk1, hk2, hk3⟩ := turn_k (t := t) hn0
        have hk1' := hk1
        have HOWN := Lib.hid (own_okR w1 A n c l (Kd.C_below HA.out HW1.out) hc (by have := HLN.out; omega) (fun x hx => by have := hf400 x hx; omega))
        clear hf400 hl400 HB1
        go_wp2_with fail
        refine HOWN.out.mono ?_
        rintro e w2 ⟨v2, rfl, hR2, hb2⟩
        obtain ⟨A2, c2, rfl, hc2, hC2⟩ := Kd.R_reads hR2
        have HNEW := Lib.hid (new_ok w2 A2 l.length c2 l hC2 (by have := HLN.out; omega) (fun x hx => by have := HF4.out x hx; omega))
        have HW2 := Lib.hid (below_step HW1.out hb2)
        clear hC2 hR2 hb2 HOWN hc2
        go_wp2_with fail
        refine HNEW.out.mono ?_
        intro e w3 hpost
        obtain ⟨gp, rfl, hg, hb3⟩ := hpost.got
        obtain ⟨z0, hz0'⟩ : ∃ z0, z0 = newErr l := ⟨_, rfl⟩
        rw [← hz0']
        have HZ := Lib.hid hz0'
        have HG3 := Lib.hid hg
        have HW3 := Lib.hid (below_step HW2.out hb3)
        clear HNEW hpost hg hb3 hz0' HW2
        obtain ⟨l2, hl2⟩ : ∃ l2, l2 = l.drop k ++ l.take k := ⟨_, rfl⟩
        have HL2 := Lib.hid hl2
        have HP : Hid (l.Perm l2) := Lib.hid (by rw [hl2]; exact turned_perm l k)
        have HN2 : Hid (l2.length = n) := Lib.hid (by rw [← HP.out.length_eq]; exact HLN.out)
        clear hl2
        have HZ2 : Hid (z0 = newErr l2) := Lib.hid (HZ.out.trans (newErr_perm HP.out))
        have HLD : Hid ((l.drop k).length + (l.take k).length = n ∧ n < 400) := Lib.hid ⟨by rw [List.length_drop, List.length_take, HLN.out]; omega, hn400⟩
        have HLG : Hid (∀ x ∈ l2, x.f3.length ≤ 1000) := Lib.hid fun x hx => by have := HF4.out x (HP.out.mem_iff.2 hx); omega
        have HLF : Hid (∀ x ∈ l2, x.f3.length ≤ 1000000000) := Lib.hid fun x hx => by have := HF4.out x (HP.out.mem_iff.2 hx); omega
        obtain ⟨AD, hAD⟩ : ∃ AD, AD = (if c = k then A else A.map (·.add (k * 4))) := ⟨_, rfl⟩
        obtain ⟨i33, hi33, hs33⟩ : ∃ i, Try.prog.info? 33 = some i ∧ i.size = 4 := by
          obtain ⟨i, h1, _, h3, _⟩ := info_parts info33
          exact ⟨i, h1, h3⟩
        have HCUT : Hid ((∀ W : World, (Instr.slice 22 (.slice A n c) (some (.int .i64 k)) none none).run Try.prog W = .ok (.slice AD (n - k) (c - k)) W) ∧ (∀ W : World, (Instr.slice 22 (.slice A n c) none (some (.int .i64 k)) none).run Try.prog W = .ok (.slice A k c) W)) := Lib.hid ⟨fun W => by rw [hAD]; exact cut_from 22 33 .i64 Try.underlying22 hi33 4 hs33 A n c k (by omega) (by omega) W, fun W => cut_to 22 33 .i64 Try.underlying22 hi33 A n c k (by omega) (by omega) hc W⟩
        obtain ⟨wd, hwd⟩ : ∃ wd, wd = w3.drew := ⟨_, rfl⟩
        have HWD : Hid (Below w.heap.size w wd ∧ Below w3.heap.size w3 wd) := Lib.hid ⟨by rw [hwd]; exact HW3.out.drew, by rw [hwd]; exact (Below.refl _ _).drew⟩
        have HO1 : Hid (Calls Try.prog 10 #[.slice AD (n - k) (c - k)] wd fun e w' => ∃ v, e = .returned v ∧ Kd.R k33 33 w' wd.heap.size (fun _ => True) v (l.drop k) ∧ Below wd.heap.size wd w') := Lib.hid (by
          have hC := Kd.C_below HA.out HWD.out.1
          rw [← HLN.out] at hC
          have h1 := Kd.C_drop (m := k) hC (by rw [HLN.out]; omega) (c := c) (by rw [HLN.out]; exact hc)
          have h2 : (l.drop k).length = n - k := by rw [List.length_drop, HLN.out]
          have h3 : k33.sz = 4 := rfl
          rw [h2, h3, ← hAD] at h1
          exact own_okR wd AD (n - k) (c - k) (l.drop k) h1 (by omega) (by omega) (fun x hx => by have := HF4.out x (List.mem_of_mem_drop hx); omega))
        have HO2 : Hid (∀ wI, Below wd.heap.size wd wI → Calls Try.prog 10 #[.slice A k c] wI fun e w' => ∃ v, e = .returned v ∧ Kd.R k33 33 w' wI.heap.size (fun _ => True) v (l.take k) ∧ Below wI.heap.size wI w') := Lib.hid fun wI hI => by
          have hC := Kd.C_below HA.out (below_step HWD.out.1 hI)
          rw [← HLN.out] at hC
          have h1 := Kd.C_take (m := k) hC (by rw [HLN.out]; omega)
          have h2 : (l.take k).length = k := by rw [List.length_take, HLN.out]; omega
          rw [h2] at h1
          exact own_okR wI A k c (l.take k) h1 (by omega) (by omega) (fun x hx => by have := HF4.out x (List.mem_of_mem_take hx); omega)
        clear hAD hi33 hs33
        go_upto_region 5 with fail
        try simp only [Act.put, List.setIfInBounds_toArray, List.set_cons_zero, List.set_cons_succ]
        obtain ⟨Inv, hInv⟩ : ∃ Inv : Done → World → Prop, Inv = Chain4 3 7 8 9 (fun wI => wI = wd) (fun x wI => OwnI wI wd.heap.size x (l.drop k) ∧ Below wd.heap.size wd wI) (fun x y wI => OwnI wI wd.heap.size x (l.drop k) ∧ OwnI wI wd.heap.size y (l.take k) ∧ Below wd.heap.size wd wI) (fun x y z wI => OwnI wI wd.heap.size z l2 ∧ Below wd.heap.size wd wI) (fun x y z u wI => ∃ gp, u = .tuple #[.pointer gp, .int .i64 z0] ∧ NewGot wI gp l2 ∧ Below wd.heap.size wd wI) := ⟨_, rfl⟩
        have HI := Lib.hid hInv
        have hcz : Hid (∀ τ wI, Inv τ wI → τ 9 = none → True) := by
          intro τ wI h h9
          rw [hInv] at h
          trivial
        have H00 : Hid (Inv Done.none w3.drew) := by rw [hInv]; exact Chain4.start hwd.symm
        clear hInv hwd
        refine wp_region_inv (by kernel_rfl) [⟨0, false, [], [3, 7, 8, 9]⟩, ⟨1, false, [], [3, 7, 8, 9]⟩, ⟨2, false, [], [3, 7, 8, 9]⟩, ⟨4, false, [], [7, 8, 9]⟩, ⟨5, false, [], [7, 8, 9]⟩, ⟨6, false, [], [7, 8, 9]⟩, ⟨3, true, [], [7, 8, 9]⟩, ⟨7, true, [3], [8, 9]⟩, ⟨8, true, [3, 7], [9]⟩, ⟨9, true, [3, 7, 8], []⟩, ⟨10, false, [3, 7, 8, 9], []⟩, ⟨11, false, [3, 7, 8, 9], []⟩, ⟨12, false, [3, 7, 8, 9], []⟩, ⟨13, false, [3, 7, 8, 9], []⟩, ⟨14, false, [3, 7, 8, 9], []⟩] (by kernel_rfl) Inv (fun i v => i = 9 → ∃ gp, v = .tuple #[.pointer gp, .int .i64 z0]) (fun _ => ⟨.tuple #[.pointer none, .int .i64 z0], fun _ => ⟨none, rfl⟩⟩) H00.out ?_
        iterate 2 (apply WpI.pure; (simp only [List.getElem?_toArray, List.getElem?_cons_succ, List.getElem?_cons_zero]; rfl); (intro τ wI hA hI; go_simp; exact ⟨hI, Is.rfl'⟩); simp only [Act.put, List.setIfInBounds_toArray, List.set_cons_zero, List.set_cons_succ])
        (apply WpI.pure; (simp only [List.getElem?_toArray, List.getElem?_cons_succ, List.getElem?_cons_zero]; rfl); (intro τ wI hA hI; have q1 := HCUT.out.1; go_simp; exact ⟨hI, Is.rfl'⟩); simp only [Act.put, List.setIfInBounds_toArray, List.set_cons_zero, List.set_cons_succ])
        iterate 2 (apply WpI.pure; (simp only [List.getElem?_toArray, List.getElem?_cons_succ, List.getElem?_cons_zero]; rfl); (intro τ wI hA hI; go_simp; exact ⟨hI, Is.rfl'⟩); simp only [Act.put, List.setIfInBounds_toArray, List.set_cons_zero, List.set_cons_succ])
        (apply WpI.pure; (simp only [List.getElem?_toArray, List.getElem?_cons_succ, List.getElem?_cons_zero]; rfl); (intro τ wI hA hI; have q1 := HCUT.out.2; go_simp; exact ⟨hI, Is.rfl'⟩); simp only [Act.put, List.setIfInBounds_toArray, List.set_cons_zero, List.set_cons_succ])
        apply WpI.effect; (simp only [List.getElem?_toArray, List.getElem?_cons_succ, List.getElem?_cons_zero]; rfl)
        · intro τ wI hA hn hI
          have h0 := hI
          rw [HI.out] at h0
          have h7 : τ 7 = none := hA.2 7 (by decide)
          have h8 : τ 8 = none := hA.2 8 (by decide)
          have h9 : τ 9 = none := hA.2 9 (by decide)
          have hK := h0.at0 hn h7 h8 h9
          have HT := Lib.hid (And.intro True.intro (And.intro h7 ( And.intro h8 ( And.intro h9 (True.intro)))))
          clear hA hn hI h0 h7 h8 h9
          subst hK
          go_simp
          refine (HO1.out).mono ?_
          rintro e w' ⟨v, rfl, hR, hb⟩
          refine ⟨_, rfl, ?_⟩
          rw [HI.out]
          exact Chain4.put1 HT.out.2.1 (by decide) HT.out.2.2.1 (by decide) HT.out.2.2.2.1 (by decide) ⟨OwnI.of_R hR, hb⟩
        intro v3 hv3
        simp only [Act.put, List.setIfInBounds_toArray, List.set_cons_zero, List.set_cons_succ]
        clear hv3
        apply WpI.effect; (simp only [List.getElem?_toArray, List.getElem?_cons_succ, List.getElem?_cons_zero]; rfl)
        · intro τ wI hA hn hI
          have h0 := hI
          rw [HI.out] at h0
          have h3 : τ 3 = some v3 := hA.1 3 (by decide)
          have h8 : τ 8 = none := hA.2 8 (by decide)
          have h9 : τ 9 = none := hA.2 9 (by decide)
          have hK := h0.at1 h3 hn h8 h9
          have HT := Lib.hid (And.intro True.intro (And.intro h3 ( And.intro h8 ( And.intro h9 (True.intro)))))
          clear hA hn hI h0 h3 h8 h9
          obtain ⟨ho1, hb1⟩ := hK
          have HK1 := Lib.hid (And.intro ho1 hb1)
          clear ho1 hb1
          go_simp
          refine (HO2.out _ HK1.out.2).mono ?_
          rintro e w' ⟨v, rfl, hR, hb⟩
          refine ⟨_, rfl, ?_⟩
          rw [HI.out]
          exact Chain4.put2 HT.out.2.1 (by decide) HT.out.2.2.1 (by decide) HT.out.2.2.2.1 (by decide) ⟨HK1.out.1.below hb, (OwnI.of_R hR).raise HK1.out.2.size, below_step HK1.out.2 hb⟩
        intro v7 hv7
        simp only [Act.put, List.setIfInBounds_toArray, List.set_cons_zero, List.set_cons_succ]
        clear hv7
        apply WpI.effect; (simp only [List.getElem?_toArray, List.getElem?_cons_succ, List.getElem?_cons_zero]; rfl)
        · intro τ wI hA hn hI
          have h0 := hI
          rw [HI.out] at h0
          have h3 : τ 3 = some v3 := hA.1 3 (by decide)
          have h7 : τ 7 = some v7 := hA.1 7 (by decide)
          have h9 : τ 9 = none := hA.2 9 (by decide)
          have hK := h0.at2 h3 h7 hn h9
          have HT := Lib.hid (And.intro True.intro (And.intro h3 ( And.intro h7 ( And.intro h9 (True.intro)))))
          clear hA hn hI h0 h3 h7 h9
          obtain ⟨⟨A1, c1, i1, rfl, o1, r1⟩, ⟨A2, c2, i2, rfl, o2, r2⟩, hb⟩ := hK
          have hl1 := o1.1
          have hl2 := o2.1
          have hlen := HLD.out
          refine runs_app rfl (.tmp 53) (.tmp 57) 22 rfl 33 z33v 4 72 Try.underlying22 info33 rfl (by omega) (by omega) (.slice A1 (l.drop k).length c1) (l.drop k).length i1 rfl (own_lower o1 (Nat.zero_le _)) _ (.slice A2 (l.take k).length c2) (l.take k).length i2 rfl
            (Sl.of_own o2) (r2.one hl2) (by omega) ?_
          intro A4 c4 w4 k1 k2 k3 _
          refine ⟨(fun h => absurd h (by decide)), ?_⟩
          rw [HI.out]
          refine Chain4.put3 HT.out.2.1 (by decide) HT.out.2.2.1 (by decide) HT.out.2.2.2.1 (by decide) ⟨?_, hb.trans (k2.below hb.size (fun q hq => own_base o1 hq))⟩
          rw [HL2.out]
          refine ⟨A4, c4, i1 ++ i2, by rw [List.length_append], ?_, ?_⟩
          · rw [List.length_append]
            refine own_raise k1 (fun q hq => ?_)
            rcases k3 with e | e
            · rw [e] at hq; exact own_base o1 hq
            · rw [e] at hq; injection hq with hq; have := hb.size; omega
          · exact (r1.mod k2 o1 (fun q hq => hq)).append (r2.mod k2 o1 (fun q hq => hq)) hl1
        intro v8 hv8
        simp only [Act.put, List.setIfInBounds_toArray, List.set_cons_zero, List.set_cons_succ]
        clear hv8
        apply WpI.effect; (simp only [List.getElem?_toArray, List.getElem?_cons_succ, List.getElem?_cons_zero]; rfl)
        · intro τ wI hA hn hI
          have h0 := hI
          rw [HI.out] at h0
          have h3 : τ 3 = some v3 := hA.1 3 (by decide)
          have h7 : τ 7 = some v7 := hA.1 7 (by decide)
          have h8 : τ 8 = some v8 := hA.1 8 (by decide)
          have hK := h0.at3 h3 h7 h8 hn
          have HT := Lib.hid (And.intro True.intro (And.intro h3 ( And.intro h7 ( And.intro h8 (True.intro)))))
          clear hA hn hI h0 h3 h7 h8
          obtain ⟨⟨A4, c4, i4, rfl, o4, r4⟩, hb⟩ := hK
          have hC := OwnI.toC ⟨A4, c4, i4, rfl, o4, r4⟩ (by rw [HN2.out]; omega) HLF.out
          have HNEW := Lib.hid (new_ok wI A4 _ c4 _ hC.2.1 (by rw [HN2.out]; omega) HLG.out)
          have HB4 := Lib.hid hb
          clear o4 r4 hC hb
          go_simp
          refine HNEW.out.mono ?_
          intro e w' hpost
          obtain ⟨gp, he, hg, hb⟩ := hpost.got
          rw [← HZ2.out] at he
          subst he
          refine ⟨_, rfl, ⟨gp, rfl⟩, ?_⟩
          rw [HI.out]
          exact Chain4.put4 HT.out.2.1 (by decide) HT.out.2.2.1 (by decide) HT.out.2.2.2.1 (by decide) ⟨gp, rfl, hg, below_step HB4.out hb⟩
        intro v9 hv9
        simp only [Act.put, List.setIfInBounds_toArray, List.set_cons_zero, List.set_cons_succ]
        obtain ⟨gp2, rfl⟩ := hv9 rfl
        iterate 5 (apply WpI.pure; (simp only [List.getElem?_toArray, List.getElem?_cons_succ, List.getElem?_cons_zero]; rfl); (intro τ wI hA hI; go_simp; exact ⟨hI, Is.rfl'⟩); simp only [Act.put, List.setIfInBounds_toArray, List.set_cons_zero, List.set_cons_succ])
        refine WpI.done ?_
        intro w5 hI
        rw [HI.out] at hI
        have hE := hI.end_ (by decide) (by decide) (by decide) (by decide) (by decide) (by decide)
        obtain ⟨gp', he, hg2, hbd⟩ := hE
        obtain rfl : gp2 = gp' := by simpa using he
        have HG2 := Lib.hid hg2
        have HW5 := Lib.hid (below_step HWD.out.1 hbd)
        have HB35 := Lib.hid (below_step HWD.out.2 hbd)
        clear he hg2 hbd hI hcz H00 HI HO1 HO2 HCUT HWD HW3
        have hzz : (z0 != z0) = false := bne_self_eq_false z0
        by_cases hz : newErr l = 0
        · obtain ⟨g, rfl, hgr⟩ := HG3.out.1 hz
          obtain ⟨g2, rfl, hgr2⟩ := HG2.out.1 (by rw [← newErr_perm HP.out]; exact hz)
          obtain rfl : z0 = 0 := HZ.out.trans hz
          obtain ⟨hnd, hall⟩ := newErr_zero hz
          have HND := Lib.hid hnd
          have HG : Hid (∀ wx, Below w5.heap.size w5 wx → GrOf wx g l) := Lib.hid fun wx hx => hgr.below (below_step HB35.out hx)
          have HH : Hid (∀ wx, Below w5.heap.size w5 wx → GrOf wx g2 l2) := Lib.hid fun wx hx => hgr2.below hx
          have HSB : Hid (∀ wx, Below w5.heap.size w5 wx → Sl wx F 1 (.slice B m d) m (strs ps)) := Lib.hid fun wx hx => HB.out.below (by omega) (below_step HW5.out hx)
          have HND2 : Hid ((l2.map (·.f0)).Nodup) := Lib.hid ((HP.out.map _).nodup_iff.1 HND.out)
          have HALK : Hid (∀ x, x ∈ l ↔ x ∈ l2) := Lib.hid fun x => HP.out.mem_iff
          have HL1 : Hid (l.length ≤ 4096 ∧ l2.length ≤ 4096) := Lib.hid ⟨by have := HLN.out; omega, by rw [← HP.out.length_eq]; have := HLN.out; omega⟩
          have HF1 : Hid (∀ x ∈ l, x.f3.length ≤ 1000) := Lib.hid fun x hx => by have := HF4.out x hx; omega
          have HB5 : Hid (Below w5.heap.size w5 w5) := Lib.hid (Below.refl _ _)
          clear hz hnd hall hgr hgr2 HG3 HG2 HZ HZ2 HB35 hzz
          go_wp2_with fail
          refine (order_ok w5 g l (HG.out _ HB5.out) HL1.out.1 HND.out HF1.out).mono ?_
          rintro e_ w6 ⟨ve, out1, hd1, rfl, hm6⟩
          have HM6 := Lib.hid hm6
          have HS6 := Lib.hid hm6.bel
          have HB6 : Hid (Below w5.heap.size w5 w6) := Lib.hid (below_step HB5.out hm6.bel)
          clear hm6
          have HD1 := Lib.hid hd1
          clear hd1
          go_wp2_with fail
          refine (order_ok w6 g2 _ (HH.out _ HB6.out) HL1.out.2 HND2.out HLG.out).mono ?_
          rintro e_ w7 ⟨vf, out2, hd2, rfl, hm7⟩
          have HM7 := Lib.hid hm7
          have HS7 := Lib.hid hm7.bel
          have HB7 : Hid (Below w5.heap.size w5 w7) := Lib.hid (below_step HB6.out hm7.bel)
          clear hm7
          obtain rfl : out2 = out1 := Ord.uniq (OrdDone.alike (fun x => (HALK.out x).symm) hd2) HD1.out
          clear hd2
          have HOR : Hid (ordErr l2 out2 = ordErr l out2 ∧ ordOut l2 out2 = ordOut l out2) := Lib.hid (by unfold ordErr ordOut; rw [← HP.out.length_eq]; exact ⟨rfl, rfl⟩)
          rw [HOR.out.1]
          rw [HOR.out.2] at HM7
          have HLEN := Lib.hid (turns_len (ps := ps) HLN.out (by omega) HD1.out)
          obtain ⟨z3, hz3⟩ : ∃ z3, z3 = ordErr l out2 := ⟨_, rfl⟩
          rw [← hz3]
          clear hz3
          go_wp2_with fail
          refine (closure_ok w7 F g l B m d ps (HG.out _ HB7.out) (HSB.out _ HB7.out) (by omega) HL1.out.1 HND.out HF1.out).mono ?_
          rintro e_ w8 ⟨vg, rfl, hm8⟩
          have HM8 := Lib.hid hm8
          have HS8 := Lib.hid hm8.bel
          have HB8 : Hid (Below w5.heap.size w5 w8) := Lib.hid (below_step HB7.out hm8.bel)
          clear hm8
          go_wp2_with fail
          refine (closure_ok w8 F g2 _ B m d ps (HH.out _ HB8.out) (HSB.out _ HB8.out) (by omega) HL1.out.2 HND2.out HLG.out).mono ?_
          rintro e_ w9 ⟨vh, rfl, hm9⟩
          have HM9 := Lib.hid hm9
          have HS9 := Lib.hid hm9.bel
          have HB9 : Hid (Below w5.heap.size w5 w9) := Lib.hid (below_step HB8.out hm9.bel)
          clear hm9
          rw [← known_alike HALK.out ps]
          rw [← cloL_alike HALK.out ps] at HM9
          obtain ⟨z4, hz4⟩ : ∃ z4, z4 = knownErr l ps := ⟨_, rfl⟩
          rw [← hz4]
          clear hz4
          have hq3 : (z3 == z3) = true := beq_self_eq_true z3
          have hq4 : (z4 == z4) = true := beq_self_eq_true z4
          go_wp2_with fail
          refine (same_yes w9 _ _ _ _ _ _ _ HM6.out HM7.out (below_step (below_step HS7.out HS8.out) HS9.out) (below_step HS8.out HS9.out) HLEN.out.2.1).mono ?_
          rintro e_ w10 ⟨rfl, hb10⟩
          have HS10 := Lib.hid hb10
          have HB10 : Hid (Below w5.heap.size w5 w10) := Lib.hid (below_step HB9.out hb10)
          clear hb10
          go_wp2_with fail
          refine (same_yes w10 _ _ _ _ _ _ _ HM8.out HM9.out (below_step HS9.out HS10.out) HS10.out HLEN.out.1).mono ?_
          rintro e_ w11 ⟨rfl, hb11⟩
          have HS11 := Lib.hid hb11
          have HB11 : Hid (Below w5.heap.size w5 w11) := Lib.hid (below_step HB10.out hb11)
          clear hb11
          go_wp2_with fail
          refine (dead_ok w11 F g l B m d ps (HG.out _ HB11.out) (HSB.out _ HB11.out) (by omega) HL1.out.1 HND.out HF1.out).mono ?_
          rintro e_ w12 ⟨vi, rfl, hm12⟩
          have HM12 := Lib.hid hm12
          have HS12 := Lib.hid hm12.bel
          have HB12 : Hid (Below w5.heap.size w5 w12) := Lib.hid (below_step HB11.out hm12.bel)
          clear hm12
          go_wp2_with fail
          refine (dead_ok w12 F g2 _ B m d ps (HH.out _ HB12.out) (HSB.out _ HB12.out) (by omega) HL1.out.2 HND2.out HLG.out).mono ?_
          rintro e_ w13 ⟨vj, rfl, hm13⟩
          have HM13 := Lib.hid hm13
          have HS13 := Lib.hid hm13.bel
          have HB13 : Hid (Below w5.heap.size w5 w13) := Lib.hid (below_step HB12.out hm13.bel)
          clear hm13
          rw [← DS_alike HALK.out ps] at HM13
          go_wp2_with fail
          refine (same_yes w13 _ _ _ _ _ _ _ HM12.out HM13.out HS13.out (Below.refl w13.heap.size w13) HLEN.out.2.2).mono ?_
          rintro e_ w14 ⟨rfl, hb14⟩
          have HS14 := Lib.hid hb14
          have HB14 : Hid (Below w5.heap.size w5 w14) := Lib.hid (below_step HB13.out hb14)
          clear hb14
          go_wp2_with fail
          go_ret
          exact ⟨rfl, below_step HW5.out HB14.out⟩
        · obtain rfl := HG3.out.2 hz
          obtain rfl := HG2.out.2 (by rw [← newErr_perm HP.out]; exact hz)
          have hzn : (z0 != 0) = true := by rw [bne_iff_ne, HZ.out]; exact hz
          clear hz
          go_wp2_with fail
          go_ret
          exact ⟨rfl, HW5.out⟩
      · go_wp2_with fail
        go_ret
        exact ⟨rfl, HW1.out⟩
  · obtain rfl : b1 = false := by simpa using hb
    go_wp2_with fail
    go_ret
    exact ⟨rfl, HW1.out⟩
end Go.Proofs.Ytcffmpjdonncgaa
