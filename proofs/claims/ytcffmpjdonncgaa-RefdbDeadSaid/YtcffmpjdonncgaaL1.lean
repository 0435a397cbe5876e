/- RefdbDead: the walk. -/
import Derived.Test.YtcffmpjdonncgaaG7
namespace Go.Proofs.Ytcffmpjdonncgaa
open Go.RowKit Go.Proofs.YtcffmpjdonncgaaW.PrintWords
open Go.Proofs.Ytcffmpjdonncgaa.PRef

theorem below_drewN (w : World) (n : Nat) : Below w.heap.size w (w.drewN n) := pw_below_drewN (Below.refl _ _) n

set_option maxRecDepth 100000 in
set_option maxHeartbeats 4000000 in
theorem refdbDead_walk (A : Option Addr) (n c : Nat) (l : List S33) (B : Option Addr) (m d : Nat) (roots : List ByteArray) (w : World) (F : Nat → Prop) (hA : Kd.C k33 w A n l) (hc : n ≤ c) (hl : n ≤ 100000000000000) (hf : ∀ x ∈ l, x.f3.length ≤ 100000000000000)
    (hB : Sl w F 1 (.slice B m d) m (strs roots)) (hm : m ≤ 100000000000000) :
    Calls Try.prog 3 #[.slice A n c, .slice B m d] w fun e w' => e = .returned (.bool true) ∧ Below w.heap.size w w' := by
  have hln : l.length = n := hA.1
  have HFEW := Lib.hid (few_ok w A n c l hA hc (by omega) hf)
  have HA := Lib.hid hA
  have HB := Lib.hid hB
  have HLN := Lib.hid hln
  clear hA hB hf hln
  go_enter Try.func3, Try.ntmps3
  go_wp2_with fail
  refine HFEW.out.mono ?_
  rintro e w1 ⟨rfl, q1, hq1⟩
  obtain ⟨b1, hb1⟩ : ∃ b1, b1 = fewR l l.length := ⟨_, rfl⟩
  rw [← hb1]
  have HB1 := Lib.hid hb1
  have HW1 : Hid (Below w.heap.size w w1) := Lib.hid (by rw [hq1]; exact below_drewN w q1)
  clear HFEW hb1 hq1
  by_cases hb : b1 = true
  · subst hb
    by_cases hm100 : m ≤ 100
    · obtain ⟨hl400, hf400⟩ := few_yes HB1.out.symm
      have hn400 : n < 400 := by rw [← HLN.out]; exact hl400
      have HF4 := Lib.hid hf400
      have HOWN := Lib.hid (own_ok w1 A n c l (Kd.C_below HA.out HW1.out) hc (by omega) (fun x hx => by have := hf400 x hx; omega))
      clear hf400 hl400 HB1
      go_wp2_with fail
      refine HOWN.out.mono ?_
      rintro e w2 ⟨A2, c2, rfl, hC2, hc2, hb2⟩
      have HNEW := Lib.hid (new_ok w2 A2 l.length c2 l hC2 (by have := HLN.out; omega) (fun x hx => by have := HF4.out x hx; omega))
      have HW2 := Lib.hid (HW1.out.trans (hb2.mono HW1.out.size))
      clear hC2 hc2 hb2 HOWN
      go_wp2_with fail
      refine HNEW.out.mono ?_
      intro e w3 hpost
      have hb3 := hpost.1
      have HW3 := Lib.hid (HW2.out.trans (hb3.mono HW2.out.size))
      clear HNEW HW2 hb3
      rcases hpost with ⟨_, ⟨he0, g, rfl, _, hgr⟩ | ⟨hne, rfl⟩⟩
      · obtain ⟨hnd, hall⟩ := newErr_zero he0
        have HND := Lib.hid hnd
        have HALL := Lib.hid hall
        have HG3 : Hid (GrOf w3 g l) := by
          obtain ⟨r, b, e, d, k, hst, hpk⟩ := hgr
          exact Lib.hid ⟨w2, r, b, e, d, k, hst, hpk⟩
        have HDEAD := Lib.hid (dead_ok w3 F g l B m d roots HG3.out (HB.out.below (by omega) HW3.out) (by omega) (by have := HLN.out; omega) hnd (fun x hx => by have := HF4.out x hx; omega))
        clear he0 hgr hnd hall
        go_wp2_with fail
        refine HDEAD.out.mono ?_
        rintro e w4 ⟨v, rfl, A4, c4, rfl, ho4, hf4, hb4⟩
        have HG4 := Lib.hid (HG3.out.below hb4)
        have HW4 := Lib.hid (HW3.out.trans (hb4.mono HW3.out.size))
        obtain ⟨nd, hnd⟩ : ∃ nd, nd = (DS l roots).length := ⟨_, rfl⟩
        rw [← hnd] at ho4 ⊢
        have HD4 := Lib.hid ho4
        have HNDD := Lib.hid hnd
        clear ho4 hf4 hb4 HDEAD HG3 HW3 hnd
        go_wp2_with fail
        go_loopg [10, 11] n (fun kq tv iv wr => ∃ (i nt : Nat) (At : Option Addr) (ct : Nat), iv = .int .i64 i ∧ i ≤ n ∧ kq = n - i ∧ tv = .slice At nt ct ∧ nt ≤ i ∧ Hid (nt = (thr l roots i).length) ∧ Hid (wr.ownsRow w4.heap.size 9 1 (.slice At nt ct) nt (strs (thr l roots i))) ∧ Hid (Below w4.heap.size w4 wr))
        case atStart => exact ⟨0, 0, none, 0, rfl, Nat.zero_le _, rfl, rfl, Nat.le_refl _, Lib.hid (by simp [thr]), Lib.hid ⟨by simp [thr, strs], .inl ⟨rfl, rfl⟩⟩, Lib.hid (Below.refl _ _)⟩
        case round =>
          obtain ⟨i, nt, At, ct, rfl, hi, rfl, rfl, hnt, hnl, ho, hb⟩ := hrel
          by_cases hlt : i < n
          · have hcc := (info_at HA.out).2.2
            obtain ⟨ab, ao, rfl, hab, hcl⟩ := hcc (by omega)
            obtain ⟨x0, hx0⟩ : ∃ x0, l[i]? = some x0 := ⟨_, List.getElem?_eq_getElem (by rw [HLN.out]; exact hlt)⟩
            obtain ⟨A3, c3, e0, _, _, _, _⟩ := hcl i x0 hx0
            have HWR := Lib.hid (HW4.out.trans (hb.out.mono HW4.out.size))
            have e0 : wr.cell? ⟨ab, ao + i * 4, none⟩ = some (.string x0.f0) := (HWR.out.cell (p := ⟨ab, _, none⟩) hab).trans e0
            have HX0 := Lib.hid hx0
            have HHAS := Lib.hid (lhas_ok wr F B m d roots x0.f0 (HB.out.below (by omega) HWR.out) (by omega))
            obtain ⟨bh, hbh⟩ : ∃ bh, bh = inB roots x0.f0 := ⟨_, rfl⟩
            rw [← hbh] at HHAS
            have HBH := Lib.hid hbh
            clear hcc hcl hx0 hbh
            go_wp2_with fail
            refine HHAS.out.mono ?_
            rintro e w' ⟨rfl, rfl⟩
            by_cases hbt : bh = true
            · subst hbt
              have HT := Lib.hid (thr_succ (roots := roots) HX0.out)
              rw [if_pos HBH.out.symm] at HT
              have HO0 := Lib.hid (own_lower ho.out (base' := 0) (Nat.zero_le _))
              clear HHAS
              go_wp2_with (at_builtin
                           refine wpList_app _ rfl (.tmp 62) (.tmp 68) 23 rfl 9 (.string ⟨#[]⟩) 1 16 Try.underlying23 infoStr rfl (by omega) (by omega) (.slice At nt ct) nt (strs (thr l roots i)) rfl
                             (HO0.out.alloc _) (fun q => q = wr.heap.size) (.slice (some ⟨wr.heap.size, 0, none⟩) 1 1) 1 [.string x0.f0] rfl (Sl.one wr 9 _) (by simp [Value.oneCell']) (by omega) ?_
                           intro A8 c8 w8 o8 g8 at8 _
                           have HW8 := Lib.hid (And.intro o8 (And.intro g8 at8))
                           clear o8 g8 at8)
              clear e0
              go_roundg (n - (i + 1))
              case measure => omega
              case rel =>
                obtain ⟨k1, k2, k3⟩ := HW8.out
                have hmm : Mod (fun b => (Value.slice At nt ct).ownBlock = some b) wr w8 := ((Mod.refl _ _).alloc _).grown k2 (fun k hk _ => hk)
                have hsz := hb.out.size
                refine ⟨i + 1, nt + 1, A8, c8, by go_num, by omega, rfl, rfl, by omega, ?_, ?_, ?_⟩
                · rw [HT.out, List.length_append, hnl.out]; exact Lib.hid rfl
                · rw [HT.out, strs_append]
                  refine Lib.hid (own_raise k1 (fun q hq => ?_))
                  rcases k3 with e | e
                  · rw [e] at hq; exact own_base ho.out hq
                  · rw [e] at hq; simp at hq; omega
                · exact Lib.hid (hb.out.trans (hmm.below hsz (fun q hq => own_base ho.out hq)))
            · obtain rfl : bh = false := by simpa using hbt
              have HT := Lib.hid (thr_succ (roots := roots) HX0.out)
              rw [if_neg (by rw [← HBH.out]; decide)] at HT
              clear HHAS hbt e0
              go_wp2_with fail
              go_roundg (n - (i + 1))
              case measure => omega
              case rel => exact ⟨i + 1, nt, At, ct, by go_num, by omega, rfl, rfl, by omega, by rw [HT.out]; exact hnl, by rw [HT.out]; exact ho, hb⟩
          · obtain rfl : i = n := by omega
            have HGR := Lib.hid (HG4.out.below (hb.out.mono (Nat.le_refl _)))
            rw [← HLN.out] at ho
            have HCLO := Lib.hid (closure_ok wr _ g l At nt ct (thr l roots l.length) HGR.out (Sl.of_own ho.out) (by omega) (by have := HLN.out; omega) HND.out (fun x hx => by have := HF4.out x hx; omega))
            rw [known_zero thr_keys, clo_yes thr_keys, RS_thr] at HCLO
            clear ho hnl
            go_wp2_with fail
            refine HCLO.out.mono ?_
            rintro e w5 ⟨v, rfl, A5, c5, rfl, ho5, hf5, hb5⟩
            have HB5 := Lib.hid (hb.out.trans (hb5.mono hb.out.size))
            have HW5 := Lib.hid (HW4.out.trans (HB5.out.mono HW4.out.size))
            have HG5 := Lib.hid (HG4.out.below HB5.out)
            have HD5 := Lib.hid (own_below HD4.out HB5.out)
            have HL5 := Lib.hid ho5
            obtain ⟨nl, hnl⟩ : ∃ nl, nl = (RS l roots).length := ⟨_, rfl⟩
            have hsum : nl + nd = i := by rw [hnl, HNDD.out, RS_DS_length HND.out, HLN.out]
            rw [← hnl] at HL5 ⊢
            have HNL := Lib.hid hnl
            have hsumi : (nl : Int) + (nd : Int) = (i : Int) := by omega
            have HSUM := Lib.hid hsum
            clear ho5 hf5 hb5 hb HCLO hnl hsum HGR HD4
            go_wp2_with fail
            have hnli : nl ≤ i := by have := HSUM.out; omega
            have hndi : nd ≤ i := by have := HSUM.out; omega
            clear hsumi
            go_loopg [13] i (fun kq iv wr => ∃ (j : Nat), iv = .int .i64 j ∧ j ≤ i ∧ kq = i - j ∧ Hid (Below w5.heap.size w5 wr))
            case atStart => exact ⟨0, rfl, Nat.zero_le _, rfl, Lib.hid (Below.refl _ _)⟩
            case round =>
              obtain ⟨j, rfl, hj, rfl, hb⟩ := hrel
              by_cases hjl : j < i
              · have hcc := (info_at HA.out).2.2
                obtain ⟨ab, ao, rfl, hab, hcl⟩ := hcc (by omega)
                obtain ⟨x0, hx0⟩ : ∃ x0, l[j]? = some x0 := ⟨_, List.getElem?_eq_getElem (by rw [HLN.out]; exact hjl)⟩
                obtain ⟨A3, c3, e0, _, _, e3, hs3⟩ := hcl j x0 hx0
                have HWR := Lib.hid (HW5.out.trans (hb.out.mono HW5.out.size))
                have HE : Hid (∀ wx, Below w5.heap.size w5 wx → wx.cell? ⟨ab, ao + j * 4, none⟩ = some (.string x0.f0) ∧ wx.cell? ⟨ab, ao + j * 4 + 3, none⟩ = some (.slice A3 x0.f3.length c3)) := Lib.hid fun wx hx => by
                  have hbx := HW5.out.trans (hx.mono HW5.out.size)
                  exact ⟨(hbx.cell (p := ⟨ab, _, none⟩) hab).trans e0, (hbx.cell (p := ⟨ab, _, none⟩) hab).trans e3⟩
                have HS3 := Lib.hid hs3
                have HX0 := Lib.hid hx0
                have HXM := Lib.hid (List.mem_of_getElem? hx0)
                have HLV := Lib.hid (fun (wx : World) (hx : Below w5.heap.size w5 wx) (p : ByteArray) => lhas_ok wx _ A5 nl c5 (RS l roots) p (Sl.of_own (own_below HL5.out hx)) (by omega))
                have HDV := Lib.hid (fun (wx : World) (hx : Below w5.heap.size w5 wx) (p : ByteArray) => lhas_ok wx _ A4 nd c4 (DS l roots) p (Sl.of_own (own_below HD5.out hx)) (by omega))
                obtain ⟨bl, hbl⟩ : ∃ bl, bl = inB (RS l roots) x0.f0 := ⟨_, rfl⟩
                have HBL := Lib.hid hbl
                have HC0 := Lib.hid (HE.out wr.drew (hb.out.drew))
                clear hcc hcl hx0 e0 e3 hs3 hbl
                go_upto_region 20 with fail
                obtain ⟨wd, hwd⟩ : ∃ wd, wd = wr.drew := ⟨_, rfl⟩
                have HBD : Hid (Below w5.heap.size w5 wd) := Lib.hid (by rw [hwd]; exact hb.out.drew)
                rw [← hwd] at HC0
                try simp only [Act.put, List.setIfInBounds_toArray, List.set_cons_zero, List.set_cons_succ]
                obtain ⟨Inv, hInv⟩ : ∃ Inv : Done → World → Prop, Inv = fun _ wI => (fun wI => wI = wd) wI := ⟨_, rfl⟩
                have HI := Lib.hid hInv
                have hcz : Hid (∀ τ wI, Inv τ wI → wI = wd) := by
                  intro τ wI h
                  rw [hInv] at h
                  exact h
                have H00 : Hid (Inv Done.none wr.drew) := by rw [hInv]; exact hwd.symm
                clear hInv hwd
                refine wp_region_inv (by kernel_rfl) [⟨0, false, [], []⟩, ⟨1, false, [], []⟩, ⟨2, false, [], []⟩, ⟨3, false, [], []⟩, ⟨4, false, [], []⟩, ⟨5, false, [], []⟩, ⟨6, false, [], []⟩, ⟨7, false, [], []⟩, ⟨8, false, [], []⟩, ⟨9, false, [], []⟩, ⟨10, false, [], []⟩, ⟨11, false, [], []⟩, ⟨12, false, [], []⟩, ⟨13, false, [], []⟩, ⟨14, false, [], []⟩] (by kernel_rfl) Inv (fun _ _ => True) (fun _ => ⟨undef, trivial⟩) H00.out ?_
                iterate 6 (apply WpI.pure; (simp only [List.getElem?_toArray, List.getElem?_cons_succ, List.getElem?_cons_zero]; rfl); (intro τ wI hA hI; have f0 := hcz.out τ wI hI; have e1 := f0; clear f0; subst e1; have q1 := HC0.out.1; have q2 := HC0.out.2; go_simp; exact ⟨hI, Is.rfl'⟩); simp only [Act.put, List.setIfInBounds_toArray, List.set_cons_zero, List.set_cons_succ])
                (apply WpI.pure; (simp only [List.getElem?_toArray, List.getElem?_cons_succ, List.getElem?_cons_zero]; rfl); (intro τ wI hA hI; have f0 := hcz.out τ wI hI; have e1 := f0; clear f0; subst e1; go_simp; refine (HLV.out wI HBD.out x0.f0).mono ?_; rintro e w' ⟨rfl, rfl⟩; rw [← HBL.out]; exact ⟨_, rfl, hI, Is.rfl'⟩); simp only [Act.put, List.setIfInBounds_toArray, List.set_cons_zero, List.set_cons_succ])
                iterate 6 (apply WpI.pure; (simp only [List.getElem?_toArray, List.getElem?_cons_succ, List.getElem?_cons_zero]; rfl); (intro τ wI hA hI; have f0 := hcz.out τ wI hI; have e1 := f0; clear f0; subst e1; have q1 := HC0.out.1; have q2 := HC0.out.2; go_simp; exact ⟨hI, Is.rfl'⟩); simp only [Act.put, List.setIfInBounds_toArray, List.set_cons_zero, List.set_cons_succ])
                (apply WpI.pure; (simp only [List.getElem?_toArray, List.getElem?_cons_succ, List.getElem?_cons_zero]; rfl); (intro τ wI hA hI; have f0 := hcz.out τ wI hI; have e1 := f0; clear f0; subst e1; go_simp; refine (HDV.out wI HBD.out x0.f0).mono ?_; rintro e w' ⟨rfl, rfl⟩; rw [in_dead HXM.out, ← HBL.out]; exact ⟨_, rfl, hI, Is.rfl'⟩); simp only [Act.put, List.setIfInBounds_toArray, List.set_cons_zero, List.set_cons_succ])
                (apply WpI.pure; (simp only [List.getElem?_toArray, List.getElem?_cons_succ, List.getElem?_cons_zero]; rfl); (intro τ wI hA hI; have f0 := hcz.out τ wI hI; have e1 := f0; clear f0; subst e1; have q1 := HC0.out.1; have q2 := HC0.out.2; go_simp; exact ⟨hI, Is.rfl'⟩); simp only [Act.put, List.setIfInBounds_toArray, List.set_cons_zero, List.set_cons_succ])
                refine WpI.done ?_
                intro w20 hI
                rw [HI.out] at hI
                have hE := hI
                have HB20 : Hid (Below w5.heap.size w5 w20) := Lib.hid (by rw [hE]; exact HBD.out)
                clear hE hI hcz H00 HI HBD HC0 hb HWR
                go_wp2_with fail
                go_loopg [14] x0.f3.length (fun kq iv wr => ∃ (q : Nat), iv = .int .i64 q ∧ q ≤ x0.f3.length ∧ kq = x0.f3.length - q ∧ Hid (Below w5.heap.size w5 wr))
                case atStart => exact ⟨0, rfl, Nat.zero_le _, rfl, HB20⟩
                case round =>
                  clear HB20
                  obtain ⟨q, rfl, hq, rfl, hb⟩ := hrel
                  obtain ⟨c0, c3e⟩ := HE.out wr hb.out
                  have hx4 := HF4.out x0 HXM.out
                  by_cases hql : q < x0.f3.length
                  · obtain ⟨b3, o3, rfl, hb3, hc3⟩ := Sl_cells HS3.out (by omega)
                    obtain ⟨t0, ht0⟩ : ∃ t0, x0.f3[q]? = some t0 := ⟨_, List.getElem?_eq_getElem hql⟩
                    have ct : wr.cell? ⟨b3, o3 + q, none⟩ = some (.string t0) := ((HW5.out.trans (hb.out.mono HW5.out.size)).cell (p := ⟨b3, _, none⟩) hb3).trans (hc3 q t0 ht0)
                    have htm := List.mem_of_getElem? ht0
                    have HSTEP : Hid (bl = true → inB (RS l roots) t0 = true) := Lib.hid (fun h => in_live.2 (.step (in_live.1 (by rw [← HBL.out]; exact h)) HXM.out htm (HALL.out x0 HXM.out t0 htm)))
                    have HL1 := Lib.hid (HLV.out wr hb.out x0.f0)
                    have HL2 := Lib.hid (HLV.out wr hb.out t0)
                    rw [← HBL.out] at HL1
                    clear hc3 ht0 htm
                    go_wp2_with fail
                    refine HL1.out.mono ?_
                    rintro e w' ⟨rfl, rfl⟩
                    by_cases hbt : bl = true
                    · subst hbt
                      have e1 := HSTEP.out rfl
                      rw [e1] at HL2
                      clear e1 HSTEP HL1
                      go_wp2_with fail
                      refine HL2.out.mono ?_
                      rintro e w' ⟨rfl, rfl⟩
                      clear HL2
                      go_wp2_with fail
                      go_roundg (x0.f3.length - (q + 1))
                      case measure => omega
                      case rel => exact ⟨q + 1, by go_num, hql, rfl, hb⟩
                    · obtain rfl : bl = false := by simpa using hbt
                      clear HSTEP HL1 HL2 hbt
                      go_wp2_with fail
                      go_roundg (x0.f3.length - (q + 1))
                      case measure => omega
                      case rel => exact ⟨q + 1, by go_num, hql, rfl, hb⟩
                  · obtain rfl : q = x0.f3.length := by omega
                    go_wp2_with fail
                    go_roundg (i - (j + 1))
                    case measure => omega
                    case rel => exact ⟨j + 1, by go_num, by omega, rfl, hb⟩
              · obtain rfl : j = i := by omega
                have HG6 := Lib.hid (HG5.out.below hb.out)
                have HW6 := Lib.hid (HW5.out.trans (hb.out.mono HW5.out.size))
                have HL6 := Lib.hid (own_below HL5.out hb.out)
                have HCLO := Lib.hid (closure_ok wr _ g l A5 nl c5 (RS l roots) HG6.out (Sl.of_own HL6.out) (by omega) (by have := HLN.out; omega) HND.out (fun x hx => by have := HF4.out x hx; omega))
                rw [known_zero RS_keys, clo_yes RS_keys, RS_RS] at HCLO
                clear hb HG6
                go_wp2_with fail
                refine HCLO.out.mono ?_
                rintro e w7 ⟨v, rfl, A7, c7, rfl, ho7, hf7, hb7⟩
                have HW7 := Lib.hid (HW6.out.trans (hb7.mono HW6.out.size))
                have HSAME := Lib.hid (same_ok w7 _ _ A7 A5 (RS l roots).length nl c7 c5 (RS l roots) (RS l roots) (Sl.of_own ho7) (Sl.of_own (own_below HL6.out hb7)) (by rw [← HNL.out]; omega) (by omega))
                have e1 : eqL (RS l roots) (RS l roots) = true := eqL_iff.2 rfl
                rw [e1] at HSAME
                clear ho7 hf7 hb7 HCLO e1
                go_wp2_with fail
                refine HSAME.out.mono ?_
                rintro e w8 ⟨rfl, m8, rfl⟩
                clear HSAME
                go_wp2_with fail
                go_ret
                exact ⟨rfl, HW7.out.trans ((below_drewN _ _).mono HW7.out.size)⟩
      · obtain ⟨z, hz⟩ : ∃ z, z = newErr l := ⟨_, rfl⟩
        rw [← hz] at hne ⊢
        have HN2 := Lib.hid (new_ok w3 none 0 0 [] (C_nil w3) (by omega) (by simp))
        clear hz
        go_wp2_with fail
        refine HN2.out.mono ?_
        intro e w4 hpost
        have hb4 := hpost.1
        rcases hpost with ⟨_, ⟨he0, g, rfl, _, _⟩ | ⟨hne2, rfl⟩⟩
        · have HW4 := Lib.hid (HW3.out.trans (hb4.mono HW3.out.size))
          clear hb4 he0 HN2
          go_wp2_with fail
          go_ret
          exact ⟨rfl, HW4.out⟩
        · exact (hne2 newErr_nil).elim
    · go_wp2_with fail
      go_ret
      exact ⟨rfl, HW1.out⟩
  · obtain rfl : b1 = false := by simpa using hb
    go_wp2_with fail
    go_ret
    exact ⟨rfl, HW1.out⟩
end Go.Proofs.Ytcffmpjdonncgaa
