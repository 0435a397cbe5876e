/- RefdbOrder: the walk. -/
import Derived.Test.YtcffmpjdonncgaaG10
namespace Go.Proofs.Ytcffmpjdonncgaa
open Go.RowKit Go.Proofs.YtcffmpjdonncgaaW.PrintWords
open Go.Proofs.Ytcffmpjdonncgaa.PRef

theorem below_drewN (w : World) (n : Nat) : Below w.heap.size w (w.drewN n) := pw_below_drewN (Below.refl _ _) n
/-- none of the places ahead of (i, k) has a path that reaches itself -/
def NoCyc (l : List S33) (i k : Nat) : Prop := (∀ x ∈ l.take i, ∀ t ∈ x.f3, t ≠ x.f0 → ¬ Rch l [t] x.f0) ∧ ∀ x, l[i]? = some x → ∀ t ∈ x.f3.take k, t ≠ x.f0 → ¬ Rch l [t] x.f0
theorem bool_or_not (a b : ByteArray) : (a.toList == b.toList) = decide (a = b) := by
  by_cases h : a = b
  · subst h; simp
  · rw [decide_eq_false h]
    cases e : (a.toList == b.toList) with
    | false => rfl
    | true => exact (h (str_eq.1 (eq_of_beq e))).elim

set_option maxRecDepth 100000 in
set_option maxHeartbeats 4000000 in
theorem refdbOrder_walk (A : Option Addr) (n c : Nat) (l : List S33) (w : World) (hA : Kd.C k33 w A n l) (hc : n ≤ c) (hl : n ≤ 100000000000000) (hf : ∀ x ∈ l, x.f3.length ≤ 100000000000000) :
    Calls Try.prog 4 #[.slice A n c] w fun e w' => e = .returned (.bool true) ∧ Below w.heap.size w w' := by
  have hln : l.length = n := hA.1
  have HFEW := Lib.hid (few_ok w A n c l hA hc (by omega) hf)
  have HA := Lib.hid hA
  have HLN := Lib.hid hln
  clear hA hf hln
  go_enter Try.func4, Try.ntmps4
  go_wp2_with fail
  refine HFEW.out.mono ?_
  rintro e w1 ⟨rfl, q1, hq1⟩
  obtain ⟨b1, hb1⟩ : ∃ b1, b1 = fewR l l.length := ⟨_, rfl⟩
  rw [← hb1]
  have HB1 := Lib.hid hb1
  have HW1 : Hid (Below w.heap.size w w1) := Lib.hid (by rw [hq1]; exact below_drewN w q1)
  clear HFEW hb1 hq1
  by_cases hb : b1 = true
  · subst hb
    obtain ⟨hl400, hf400⟩ := few_yes HB1.out.symm
    have hn400 : n < 400 := by rw [← HLN.out]; exact hl400
    have HF4 := Lib.hid hf400
    have HOWN := Lib.hid (own_ok w1 A n c l (Kd.C_below HA.out HW1.out) hc (by omega) (fun x hx => by have := hf400 x hx; omega))
    clear hf400 hl400 HB1
    go_wp2_with fail
    refine HOWN.out.mono ?_
    rintro e w2 ⟨A2, c2, rfl, hC2, hc2, hb2⟩
    have HNEW := Lib.hid (new_ok w2 A2 l.length c2 l hC2 (by have := HLN.out; omega) (fun x hx => by have := HF4.out x hx; omega))
    have HW2 := Lib.hid (HW1.out.trans (hb2.mono HW1.out.size))
    clear hC2 hc2 hb2 HOWN
    go_wp2_with fail
    refine HNEW.out.mono ?_
    intro e w3 hpost
    have hb3 := hpost.1
    have HW3 := Lib.hid (HW2.out.trans (hb3.mono HW2.out.size))
    clear HNEW HW2 hb3
    rcases hpost with ⟨_, ⟨he0, g, rfl, _, hgr⟩ | ⟨hne, rfl⟩⟩
    · obtain ⟨hnd, hall⟩ := newErr_zero he0
      have HND := Lib.hid hnd
      have HALL := Lib.hid hall
      have HG3 : Hid (GrOf w3 g l) := by
        obtain ⟨r, b, e, d, k, hst, hpk⟩ := hgr
        exact Lib.hid ⟨w2, r, b, e, d, k, hst, hpk⟩
      have HORD := Lib.hid (order_ok w3 g l HG3.out (by have := HLN.out; omega) hnd (fun x hx => by have := HF4.out x hx; omega))
      clear he0 hgr hnd hall
      go_wp2_with fail
      refine HORD.out.mono ?_
      rintro e w4 ⟨v, out, hdone, rfl, hmd⟩
      have HG4 := Lib.hid (HG3.out.below hmd.choose_spec.choose_spec.2.2.2)
      obtain ⟨A4, c4, rfl, ho4, hf4, hb4⟩ := hmd
      have HW4 := Lib.hid (HW3.out.trans (hb4.mono HW3.out.size))
      have HD := Lib.hid hdone
      clear hf4 hb4 HORD HG3 HW3 hdone
      by_cases hlt : out.length < l.length
      · have e1 : ordErr l out = 16 := by unfold ordErr; rw [if_pos hlt]
        have e2 : ordOut l out = [] := by unfold ordOut; rw [if_pos hlt]
        rw [e1, e2]
        have HCY := Lib.hid (ord_cycle HND.out HALL.out HD.out hlt)
        clear e1 e2 ho4 hlt
        go_wp2_with fail
        go_loopg [6] n (fun kq iv wr => ∃ (i : Nat), iv = .int .i64 i ∧ i ≤ n ∧ kq = n - i ∧ Hid (NoCyc l i 0) ∧ Hid (Below w4.heap.size w4 wr))
        case atStart => exact ⟨0, rfl, Nat.zero_le _, rfl, Lib.hid ⟨by simp, by simp⟩, Lib.hid (Below.refl _ _)⟩
        case round =>
          obtain ⟨i, rfl, hi, rfl, hno, hb⟩ := hrel
          by_cases hin : i < n
          · have hcc := (info_at HA.out).2.2
            obtain ⟨ab, ao, rfl, hab, hcl⟩ := hcc (by omega)
            obtain ⟨x0, hx0⟩ : ∃ x0, l[i]? = some x0 := ⟨_, List.getElem?_eq_getElem (by rw [HLN.out]; exact hin)⟩
            obtain ⟨A3, c3, e0, _, _, e3, hs3⟩ := hcl i x0 hx0
            have HE : Hid (∀ wx, Below w4.heap.size w4 wx → wx.cell? ⟨ab, ao + i * 4, none⟩ = some (.string x0.f0) ∧ wx.cell? ⟨ab, ao + i * 4 + 3, none⟩ = some (.slice A3 x0.f3.length c3)) := Lib.hid fun wx hx => by
              have hbx := HW4.out.trans (hx.mono HW4.out.size)
              exact ⟨(hbx.cell (p := ⟨ab, _, none⟩) hab).trans e0, (hbx.cell (p := ⟨ab, _, none⟩) hab).trans e3⟩
            have HS3 := Lib.hid hs3
            have HX0 := Lib.hid hx0
            have HXM := Lib.hid (List.mem_of_getElem? hx0)
            clear hcc hcl hx0 e0 e3 hs3
            go_wp2_with fail
            go_loopg [7] x0.f3.length (fun kq iv wr => ∃ (q : Nat), iv = .int .i64 q ∧ q ≤ x0.f3.length ∧ kq = x0.f3.length - q ∧ Hid (NoCyc l i q) ∧ Hid (Below w4.heap.size w4 wr))
            case atStart => exact ⟨0, rfl, Nat.zero_le _, rfl, hno, hb⟩
            case round =>
              clear hno hb
              obtain ⟨q, rfl, hq, rfl, hno, hb⟩ := hrel
              obtain ⟨c0, c3e⟩ := HE.out wr hb.out
              have hx4 := HF4.out x0 HXM.out
              by_cases hql : q < x0.f3.length
              · obtain ⟨b3, o3, rfl, hb3, hc3⟩ := Sl_cells HS3.out (by omega)
                obtain ⟨t0, ht0⟩ : ∃ t0, x0.f3[q]? = some t0 := ⟨_, List.getElem?_eq_getElem hql⟩
                have HWR := Lib.hid (HW4.out.trans (hb.out.mono HW4.out.size))
                have ct : wr.cell? ⟨b3, o3 + q, none⟩ = some (.string t0) := (HWR.out.cell (p := ⟨b3, _, none⟩) hb3).trans (hc3 q t0 ht0)
                have htm := List.mem_of_getElem? ht0
                have hkt : ∀ p ∈ [t0], p ∈ l.map (·.f0) := fun p hp => by rw [List.mem_singleton] at hp; subst hp; exact HALL.out x0 HXM.out _ htm
                have hwb : Below wr.heap.size wr (wr.alloc (.cells #[.string t0] 9)) := (Below.refl _ _).alloc (Nat.le_refl _) _
                have HCLO := Lib.hid (closure_ok _ _ g l _ 1 1 [t0] ((HG4.out.below hb.out).below hwb) (Sl.one wr 9 (.string t0)) (by omega) (by have := HLN.out; omega) HND.out (fun x hx => by have := HF4.out x hx; omega))
                rw [known_zero hkt, clo_yes hkt] at HCLO
                have HT0 := Lib.hid ht0
                have HTM := Lib.hid htm
                have HWB := Lib.hid hwb
                clear hc3 ht0 htm hkt hwb
                go_wp2_with fail
                refine HCLO.out.mono ?_
                rintro e w5 ⟨v, rfl, A5, c5, rfl, ho5, hf5, hb5⟩
                have HB5 : Hid (Below w4.heap.size w4 w5) := Lib.hid (hb.out.trans ((HWB.out.trans (hb5.mono HWB.out.size)).mono hb.out.size))
                obtain ⟨c0, c3e⟩ := HE.out w5 HB5.out
                obtain ⟨nc, hnc⟩ : ∃ nc, nc = (RS l [t0]).length := ⟨_, rfl⟩
                rw [← hnc] at ho5 ⊢
                have hncl : nc ≤ 4096 := by
                  rw [hnc]
                  have := (RS_rising l [t0]).nodup.length_le_of_subset (l₂ := l.map (·.f0)) (fun s hs => (RS_mem.1 hs).key)
                  rw [List.length_map, HLN.out] at this
                  omega
                have HL := Lib.hid (lhas_ok w5 _ A5 nc c5 (RS l [t0]) x0.f0 (Sl.of_own ho5) (by omega))
                obtain ⟨bh, hbh⟩ : ∃ bh, bh = inB (RS l [t0]) x0.f0 := ⟨_, rfl⟩
                rw [← hbh] at HL
                have HBH := Lib.hid hbh
                clear ho5 hf5 hb5 HCLO ct hnc hncl hbh HWB HWR
                by_cases htx : t0 = x0.f0
                · -- the path itself
                  have hne : (t0.toList == x0.f0.toList) = true := by rw [bool_or_not]; exact decide_eq_true htx
                  have HNO : Hid (NoCyc l i (q + 1)) := Lib.hid ⟨hno.out.1, fun x hx t ht hn2 => by
                    have : x = x0 := Option.some.inj (hx.symm.trans HX0.out)
                    subst this
                    obtain ⟨hil, hge⟩ := List.getElem?_eq_some_iff.1 HT0.out
                    rw [List.take_succ_eq_append_getElem hil, hge] at ht
                    rcases List.mem_append.1 ht with ht | ht
                    · exact hno.out.2 x hx t ht hn2
                    · rw [List.mem_singleton] at ht; rw [ht] at hn2; exact (hn2 htx).elim⟩
                  clear htx hno HL
                  go_wp2_with fail
                  go_roundg (x0.f3.length - (q + 1))
                  case measure => omega
                  case rel => exact ⟨q + 1, by go_num, hql, rfl, HNO, HB5⟩
                · have hne : (t0.toList == x0.f0.toList) = false := by rw [bool_or_not]; exact decide_eq_false htx
                  have HNE := Lib.hid htx
                  clear htx
                  go_wp2_with fail
                  refine HL.out.mono ?_
                  rintro e w' ⟨rfl, rfl⟩
                  clear HL
                  cases bh with
                  | true =>
                    go_wp2_with fail
                    go_ret
                    exact ⟨rfl, HW4.out.trans (HB5.out.mono HW4.out.size)⟩
                  | false =>
                    have HNO : Hid (NoCyc l i (q + 1)) := Lib.hid ⟨hno.out.1, fun x hx t ht hn2 => by
                      have : x = x0 := Option.some.inj (hx.symm.trans HX0.out)
                      subst this
                      obtain ⟨hil, hge⟩ := List.getElem?_eq_some_iff.1 HT0.out
                      rw [List.take_succ_eq_append_getElem hil, hge] at ht
                      rcases List.mem_append.1 ht with ht | ht
                      · exact hno.out.2 x hx t ht hn2
                      · rw [List.mem_singleton] at ht
                        rw [ht]
                        intro hr
                        have := HBH.out
                        rw [in_live.2 hr] at this
                        cases this⟩
                    clear hno
                    go_wp2_with fail
                    go_roundg (x0.f3.length - (q + 1))
                    case measure => omega
                    case rel => exact ⟨q + 1, by go_num, hql, rfl, HNO, HB5⟩
              · obtain rfl : q = x0.f3.length := by omega
                have HNO : Hid (NoCyc l (i + 1) 0) := Lib.hid ⟨fun x hx t ht hn2 => by
                  obtain ⟨hil, hge⟩ := List.getElem?_eq_some_iff.1 HX0.out
                  rw [List.take_succ_eq_append_getElem hil, hge] at hx
                  rcases List.mem_append.1 hx with hx | hx
                  · exact hno.out.1 x hx t ht hn2
                  · rw [List.mem_singleton] at hx
                    subst hx
                    exact hno.out.2 x HX0.out t (by rw [List.take_length]; exact ht) hn2, fun x _ t ht => by simp at ht⟩
                clear hno
                go_wp2_with fail
                go_roundg (n - (i + 1))
                case measure => omega
                case rel => exact ⟨i + 1, by go_num, by omega, rfl, HNO, hb⟩
          · obtain rfl : i = n := by omega
            exfalso
            obtain ⟨x, hx, t, ht, hne, hr⟩ := HCY.out
            exact hno.out.1 x (by rw [List.take_of_length_le (by rw [HLN.out]; exact Nat.le_refl _)]; exact hx) t ht hne hr
      · have e1 : ordErr l out = 0 := by unfold ordErr; rw [if_neg hlt]
        have e2 : ordOut l out = out := by unfold ordOut; rw [if_neg hlt]
        rw [e2] at ho4
        rw [e1, e2]
        have hol : out.length = n := by have := HD.out.1.len; have := HLN.out; omega
        have HOL := Lib.hid hol
        rw [hol] at ho4 ⊢
        have HO4 := Lib.hid ho4
        clear e1 e2 ho4 hol hlt
        go_wp2_with fail
        go_loopg [11] n (fun kq iv wr => ∃ (i : Nat), iv = .int .i64 i ∧ i ≤ n ∧ kq = n - i ∧ Hid (Below w4.heap.size w4 wr))
        case atStart => exact ⟨0, rfl, Nat.zero_le _, rfl, Lib.hid (Below.refl _ _)⟩
        case round =>
          obtain ⟨i, rfl, hi, rfl, hb⟩ := hrel
          by_cases hin : i < n
          · obtain ⟨bo, capo, hvo, _, _⟩ := HO4.out.form (by omega)
            obtain ⟨_, _, hvo2, hcapo, hmaxo⟩ := own_form HO4.out
            simp only [Value.slice.injEq] at hvo hvo2
            rw [← hvo2.2.2] at hcapo hmaxo
            obtain ⟨rfl, _, rfl⟩ := hvo
            obtain ⟨s0, hs0⟩ : ∃ s0, out[i]? = some s0 := ⟨_, List.getElem?_eq_getElem (by rw [HOL.out]; exact hin)⟩
            have HO5 : Hid (∀ wx, Below w4.heap.size w4 wx → wx.cell? ⟨bo, i, none⟩ = some (.string s0)) := Lib.hid fun wx hx => by
              have := (own_below HO4.out hx).cells rfl i _ (strs_get hs0)
              rwa [add_lit0, Nat.zero_add] at this
            have HTK : Hid (∀ wx p, Below w4.heap.size w4 wx → Calls Try.prog 12 #[.slice (some ⟨bo, 0, none⟩) i c4, .string p] wx fun e w' => e = .returned (.bool (inB (out.take i) p)) ∧ wx = w') := Lib.hid fun wx p hx => by
              have h := own_take (own_below HO4.out hx) (n' := i) (by omega)
              rw [Nat.mul_one] at h
              have e : (strs out).take i = strs (out.take i) := by simp [strs]
              rw [e] at h
              exact lhas_ok wx _ _ i c4 (out.take i) p (Sl.of_own h) (by omega)
            have hcap63 : c4 ≤ 9223372036854775807 := by simp only [maxLen] at hmaxo; omega
            have HS0 := Lib.hid hs0
            have HIC := Lib.hid (show i ≤ c4 by omega)
            clear hs0 hvo2 hmaxo
            go_wp2_with fail
            go_loopg [12] n (fun kq iv wr => ∃ (j : Nat), iv = .int .i64 j ∧ j ≤ n ∧ kq = n - j ∧ Hid (Below w4.heap.size w4 wr))
            case atStart => exact ⟨0, rfl, Nat.zero_le _, rfl, hb⟩
            case round =>
              clear hb
              obtain ⟨j, rfl, hj, rfl, hb⟩ := hrel
              by_cases hjn : j < n
              · have hcc := (info_at HA.out).2.2
                obtain ⟨ab, ao, rfl, hab, hcl⟩ := hcc (by omega)
                obtain ⟨x0, hx0⟩ : ∃ x0, l[j]? = some x0 := ⟨_, List.getElem?_eq_getElem (by rw [HLN.out]; exact hjn)⟩
                obtain ⟨A3, c3, e0, _, _, e3, hs3⟩ := hcl j x0 hx0
                have HE : Hid (∀ wx, Below w4.heap.size w4 wx → wx.cell? ⟨ab, ao + j * 4, none⟩ = some (.string x0.f0) ∧ wx.cell? ⟨ab, ao + j * 4 + 3, none⟩ = some (.slice A3 x0.f3.length c3)) := Lib.hid fun wx hx => by
                  have hbx := HW4.out.trans (hx.mono HW4.out.size)
                  exact ⟨(hbx.cell (p := ⟨ab, _, none⟩) hab).trans e0, (hbx.cell (p := ⟨ab, _, none⟩) hab).trans e3⟩
                have HS3 := Lib.hid hs3
                have HX0 := Lib.hid hx0
                have HXM := Lib.hid (List.mem_of_getElem? hx0)
                have hsz : ab < w4.heap.size := Nat.lt_of_lt_of_le hab HW4.out.size
                have hwr := hb.out.size
                obtain ⟨b27, hb27⟩ : ∃ b27, b27 = decide (x0.f0 = s0) := ⟨_, rfl⟩
                have HB27 := Lib.hid hb27
                have HC0 : Hid (wr.drew.cell? ⟨ab, ao + j * 4, none⟩ = some (.string x0.f0) ∧ wr.drew.cell? ⟨bo, i, none⟩ = some (.string s0) ∧ (x0.f0.toList == s0.toList) = b27) := Lib.hid ⟨(HE.out _ hb.out.drew).1, HO5.out _ hb.out.drew, by rw [hb27]; exact bool_or_not _ _⟩
                have HBV := HB27
                clear hb27 HB27
                clear hcc hcl hx0 e0 e3 hs3
                go_upto_region 27 with fail
                obtain ⟨wd, hwd⟩ : ∃ wd, wd = wr.drew := ⟨_, rfl⟩
                have HBD : Hid (Below w4.heap.size w4 wd) := Lib.hid (by rw [hwd]; exact hb.out.drew)
                rw [← hwd] at HC0
                try simp only [Act.put, List.setIfInBounds_toArray, List.set_cons_zero, List.set_cons_succ]
                obtain ⟨Inv, hInv⟩ : ∃ Inv : Done → World → Prop, Inv = fun _ wI => (fun wI => wI = wd) wI := ⟨_, rfl⟩
                have HI := Lib.hid hInv
                have hcz : Hid (∀ τ wI, Inv τ wI → wI = wd) := by
                  intro τ wI h
                  rw [hInv] at h
                  exact h
                have H00 : Hid (Inv Done.none wr.drew) := by rw [hInv]; exact hwd.symm
                clear hInv hwd
                refine wp_region_inv (by kernel_rfl) [⟨0, false, [], []⟩, ⟨1, false, [], []⟩, ⟨2, false, [], []⟩, ⟨3, false, [], []⟩, ⟨4, false, [], []⟩, ⟨5, false, [], []⟩, ⟨6, false, [], []⟩, ⟨7, false, [], []⟩, ⟨8, false, [], []⟩, ⟨9, false, [], []⟩] (by kernel_rfl) Inv (fun _ _ => True) (fun _ => ⟨undef, trivial⟩) H00.out ?_
                iterate 10 (apply WpI.pure; (simp only [List.getElem?_toArray, List.getElem?_cons_succ, List.getElem?_cons_zero]; rfl); (intro τ wI hA hI; have f0 := hcz.out τ wI hI; have e1 := f0; clear f0; subst e1; have q1 := HC0.out.1; have q2 := HC0.out.2.1; have q3 := HC0.out.2.2; go_simp; exact ⟨hI, Is.rfl'⟩); simp only [Act.put, List.setIfInBounds_toArray, List.set_cons_zero, List.set_cons_succ])
                refine WpI.done ?_
                intro w27 hI
                rw [HI.out] at hI
                have hE := hI
                have HB27 : Hid (Below w4.heap.size w4 w27) := Lib.hid (by rw [hE]; exact HBD.out)
                clear hE hI hcz H00 HI HBD HC0 hb hwr
                cases b27 with
                | true =>
                  have HXS : Hid (x0.f0 = s0) := Lib.hid (of_decide_eq_true HBV.out.symm)
                  go_wp2_with fail
                  go_loopg [13] x0.f3.length (fun kq iv wr => ∃ (q : Nat), iv = .int .i64 q ∧ q ≤ x0.f3.length ∧ kq = x0.f3.length - q ∧ Hid (Below w4.heap.size w4 wr))
                  case atStart => exact ⟨0, rfl, Nat.zero_le _, rfl, HB27⟩
                  case round =>
                    clear HB27
                    obtain ⟨q, rfl, hq, rfl, hb⟩ := hrel
                    obtain ⟨c0, c3e⟩ := HE.out wr hb.out
                    have hx4 := HF4.out x0 HXM.out
                    by_cases hql : q < x0.f3.length
                    · obtain ⟨b3, o3, rfl, hb3, hc3⟩ := Sl_cells HS3.out (by omega)
                      obtain ⟨t0, ht0⟩ : ∃ t0, x0.f3[q]? = some t0 := ⟨_, List.getElem?_eq_getElem hql⟩
                      have hb3w : b3 < w4.heap.size := Nat.lt_of_lt_of_le hb3 HW4.out.size
                      have HC0 : Hid (wr.drew.cell? ⟨ab, ao + j * 4 + 3, none⟩ = some (.slice (some ⟨b3, o3, none⟩) x0.f3.length c3) ∧ wr.drew.cell? ⟨b3, o3 + q, none⟩ = some (.string t0) ∧ wr.drew.cell? ⟨bo, i, none⟩ = some (.string s0) ∧ (t0.toList == s0.toList) = decide (t0 = s0)) := Lib.hid
                        ⟨(HE.out _ hb.out.drew).2, ((HW4.out.trans (hb.out.drew.mono HW4.out.size)).cell (p := ⟨b3, _, none⟩) hb3).trans (hc3 q t0 ht0), HO5.out _ hb.out.drew, bool_or_not _ _⟩
                      obtain ⟨bt, hbt⟩ : ∃ bt, bt = inB (out.take i) t0 := ⟨_, rfl⟩
                      have HH : Hid (∀ wx, Below w4.heap.size w4 wx → Calls Try.prog 12 #[.slice (some ⟨bo, 0, none⟩) i c4, .string t0] wx fun e w' => e = .returned (.bool bt) ∧ wx = w') := Lib.hid fun wx hx => by rw [hbt]; exact HTK.out wx t0 hx
                      have HSTEP : Hid (t0 ≠ s0 → bt = true) := Lib.hid fun hne => by
                        rw [hbt]
                        refine inB_iff.2 (HD.out.1.behind HND.out i x0 HXM.out (by rw [HXS.out]; exact HS0.out) t0 (List.mem_of_getElem? ht0) (by rw [HXS.out]; exact hne))
                      have hwr := hb.out.size
                      clear hc3 ht0 hbt
                      by_cases hts : t0 = s0
                      · rw [decide_eq_true hts] at HC0
                        clear hts HSTEP
                        go_upto_region 31 with fail
                        obtain ⟨wd, hwd⟩ : ∃ wd, wd = wr.drew := ⟨_, rfl⟩
                        have HBD : Hid (Below w4.heap.size w4 wd) := Lib.hid (by rw [hwd]; exact hb.out.drew)
                        rw [← hwd] at HC0
                        try simp only [Act.put, List.setIfInBounds_toArray, List.set_cons_zero, List.set_cons_succ]
                        obtain ⟨Inv, hInv⟩ : ∃ Inv : Done → World → Prop, Inv = fun _ wI => (fun wI => wI = wd) wI := ⟨_, rfl⟩
                        have HI := Lib.hid hInv
                        have hcz : Hid (∀ τ wI, Inv τ wI → wI = wd) := by
                          intro τ wI h
                          rw [hInv] at h
                          exact h
                        have H00 : Hid (Inv Done.none wr.drew) := by rw [hInv]; exact hwd.symm
                        clear hInv hwd
                        refine wp_region_inv (by kernel_rfl) [⟨0, false, [], []⟩, ⟨1, false, [], []⟩, ⟨2, false, [], []⟩, ⟨3, false, [], []⟩, ⟨4, false, [], []⟩, ⟨5, false, [], []⟩, ⟨6, false, [], []⟩, ⟨7, false, [], []⟩, ⟨8, false, [], []⟩, ⟨9, false, [], []⟩, ⟨10, false, [], []⟩, ⟨11, false, [], []⟩, ⟨12, false, [], []⟩, ⟨13, false, [], []⟩, ⟨14, false, [], []⟩, ⟨15, false, [], []⟩, ⟨16, false, [], []⟩, ⟨17, false, [], []⟩, ⟨18, false, [], []⟩, ⟨19, false, [], []⟩, ⟨20, false, [], []⟩, ⟨21, false, [], []⟩, ⟨22, false, [], []⟩, ⟨23, false, [], []⟩, ⟨24, false, [], []⟩, ⟨25, false, [], []⟩, ⟨26, false, [], []⟩, ⟨27, false, [], []⟩] (by kernel_rfl) Inv (fun _ _ => True) (fun _ => ⟨undef, trivial⟩) H00.out ?_
                        iterate 28 (apply WpI.pure; (simp only [List.getElem?_toArray, List.getElem?_cons_succ, List.getElem?_cons_zero]; rfl); (intro τ wI hA hI; have f0 := hcz.out τ wI hI; have e1 := f0; clear f0; subst e1; have q1 := HC0.out.1; have q2 := HC0.out.2.1; have q3 := HC0.out.2.2.1; have q4 := HC0.out.2.2.2; have q5 := HIC.out; go_simp; exact ⟨hI, Is.rfl'⟩); simp only [Act.put, List.setIfInBounds_toArray, List.set_cons_zero, List.set_cons_succ])
                        refine WpI.done ?_
                        intro w31 hI
                        rw [HI.out] at hI
                        have hE := hI
                        have HB31 : Hid (Below w4.heap.size w4 w31) := Lib.hid (by rw [hE]; exact HBD.out)
                        clear hE hI hcz H00 HI HBD HC0 hb hwr HH
                        go_wp2_with fail
                        go_roundg (x0.f3.length - (q + 1))
                        case measure => omega
                        case rel => exact ⟨q + 1, by go_num, hql, rfl, HB31⟩
                      · rw [decide_eq_false hts] at HC0
                        have hbt := HSTEP.out hts
                        subst hbt
                        clear hts HSTEP
                        go_upto_region 31 with fail
                        obtain ⟨wd, hwd⟩ : ∃ wd, wd = wr.drew := ⟨_, rfl⟩
                        have HBD : Hid (Below w4.heap.size w4 wd) := Lib.hid (by rw [hwd]; exact hb.out.drew)
                        rw [← hwd] at HC0
                        try simp only [Act.put, List.setIfInBounds_toArray, List.set_cons_zero, List.set_cons_succ]
                        obtain ⟨Inv, hInv⟩ : ∃ Inv : Done → World → Prop, Inv = fun _ wI => (fun wI => wI = wd) wI := ⟨_, rfl⟩
                        have HI := Lib.hid hInv
                        have hcz : Hid (∀ τ wI, Inv τ wI → wI = wd) := by
                          intro τ wI h
                          rw [hInv] at h
                          exact h
                        have H00 : Hid (Inv Done.none wr.drew) := by rw [hInv]; exact hwd.symm
                        clear hInv hwd
                        refine wp_region_inv (by kernel_rfl) [⟨0, false, [], []⟩, ⟨1, false, [], []⟩, ⟨2, false, [], []⟩, ⟨3, false, [], []⟩, ⟨4, false, [], []⟩, ⟨5, false, [], []⟩, ⟨6, false, [], []⟩, ⟨7, false, [], []⟩, ⟨8, false, [], []⟩, ⟨9, false, [], []⟩, ⟨10, false, [], []⟩, ⟨11, false, [], []⟩, ⟨12, false, [], []⟩, ⟨13, false, [], []⟩, ⟨14, false, [], []⟩, ⟨15, false, [], []⟩, ⟨16, false, [], []⟩, ⟨17, false, [], []⟩, ⟨18, false, [], []⟩, ⟨19, false, [], []⟩, ⟨20, false, [], []⟩, ⟨21, false, [], []⟩, ⟨22, false, [], []⟩, ⟨23, false, [], []⟩, ⟨24, false, [], []⟩, ⟨25, false, [], []⟩, ⟨26, false, [], []⟩, ⟨27, false, [], []⟩] (by kernel_rfl) Inv (fun _ _ => True) (fun _ => ⟨undef, trivial⟩) H00.out ?_
                        iterate 25 (apply WpI.pure; (simp only [List.getElem?_toArray, List.getElem?_cons_succ, List.getElem?_cons_zero]; rfl); (intro τ wI hA hI; have f0 := hcz.out τ wI hI; have e1 := f0; clear f0; subst e1; have q1 := HC0.out.1; have q2 := HC0.out.2.1; have q3 := HC0.out.2.2.1; have q4 := HC0.out.2.2.2; have q5 := HIC.out; go_simp; exact ⟨hI, Is.rfl'⟩); simp only [Act.put, List.setIfInBounds_toArray, List.set_cons_zero, List.set_cons_succ])
                        (apply WpI.pure; (simp only [List.getElem?_toArray, List.getElem?_cons_succ, List.getElem?_cons_zero]; rfl); (intro τ wI hA hI; have f0 := hcz.out τ wI hI; have e1 := f0; clear f0; subst e1; go_simp; refine (HH.out wI HBD.out).mono ?_; rintro e w' ⟨rfl, rfl⟩; exact ⟨_, rfl, hI, Is.rfl'⟩); simp only [Act.put, List.setIfInBounds_toArray, List.set_cons_zero, List.set_cons_succ])
                        iterate 2 (apply WpI.pure; (simp only [List.getElem?_toArray, List.getElem?_cons_succ, List.getElem?_cons_zero]; rfl); (intro τ wI hA hI; have f0 := hcz.out τ wI hI; have e1 := f0; clear f0; subst e1; have q1 := HC0.out.1; have q2 := HC0.out.2.1; have q3 := HC0.out.2.2.1; have q4 := HC0.out.2.2.2; have q5 := HIC.out; go_simp; exact ⟨hI, Is.rfl'⟩); simp only [Act.put, List.setIfInBounds_toArray, List.set_cons_zero, List.set_cons_succ])
                        refine WpI.done ?_
                        intro w31 hI
                        rw [HI.out] at hI
                        have hE := hI
                        have HB31 : Hid (Below w4.heap.size w4 w31) := Lib.hid (by rw [hE]; exact HBD.out)
                        clear hE hI hcz H00 HI HBD HC0 hb hwr HH
                        go_wp2_with fail
                        go_roundg (x0.f3.length - (q + 1))
                        case measure => omega
                        case rel => exact ⟨q + 1, by go_num, hql, rfl, HB31⟩
                    · obtain rfl : q = x0.f3.length := by omega
                      go_wp2_with fail
                      go_roundg (n - (j + 1))
                      case measure => omega
                      case rel => exact ⟨j + 1, by go_num, by omega, rfl, hb⟩
                | false =>
                  go_wp2_with fail
                  go_roundg (n - (j + 1))
                  case measure => omega
                  case rel => exact ⟨j + 1, by go_num, by omega, rfl, HB27⟩
              · obtain rfl : j = n := by omega
                have hno : inB (out.take i) s0 = false := inB_no (nodup_take HD.out.1.nodup HS0.out)
                have HH : Hid (∀ wx, Below w4.heap.size w4 wx → Calls Try.prog 12 #[.slice (some ⟨bo, 0, none⟩) i c4, .string s0] wx fun e w' => e = .returned (.bool false) ∧ wx = w') := Lib.hid fun wx hx => by rw [← hno]; exact HTK.out wx s0 hx
                have HC0 : Hid (wr.drew.cell? ⟨bo, i, none⟩ = some (.string s0)) := Lib.hid (HO5.out _ hb.out.drew)
                have hwr := hb.out.size
                clear hno
                go_upto_region 33 with fail
                obtain ⟨wd, hwd⟩ : ∃ wd, wd = wr.drew := ⟨_, rfl⟩
                have HBD : Hid (Below w4.heap.size w4 wd) := Lib.hid (by rw [hwd]; exact hb.out.drew)
                rw [← hwd] at HC0
                try simp only [Act.put, List.setIfInBounds_toArray, List.set_cons_zero, List.set_cons_succ]
                obtain ⟨Inv, hInv⟩ : ∃ Inv : Done → World → Prop, Inv = fun _ wI => (fun wI => wI = wd) wI := ⟨_, rfl⟩
                have HI := Lib.hid hInv
                have hcz : Hid (∀ τ wI, Inv τ wI → wI = wd) := by
                  intro τ wI h
                  rw [hInv] at h
                  exact h
                have H00 : Hid (Inv Done.none wr.drew) := by rw [hInv]; exact hwd.symm
                clear hInv hwd
                refine wp_region_inv (by kernel_rfl) [⟨0, false, [], []⟩, ⟨1, false, [], []⟩, ⟨2, false, [], []⟩, ⟨3, false, [], []⟩, ⟨4, false, [], []⟩, ⟨5, false, [], []⟩, ⟨6, false, [], []⟩, ⟨7, false, [], []⟩] (by kernel_rfl) Inv (fun _ _ => True) (fun _ => ⟨undef, trivial⟩) H00.out ?_
                iterate 7 (apply WpI.pure; (simp only [List.getElem?_toArray, List.getElem?_cons_succ, List.getElem?_cons_zero]; rfl); (intro τ wI hA hI; have f0 := hcz.out τ wI hI; have e1 := f0; clear f0; subst e1; have q2 := HC0.out; have q5 := HIC.out; go_simp; exact ⟨hI, Is.rfl'⟩); simp only [Act.put, List.setIfInBounds_toArray, List.set_cons_zero, List.set_cons_succ])
                (apply WpI.pure; (simp only [List.getElem?_toArray, List.getElem?_cons_succ, List.getElem?_cons_zero]; rfl); (intro τ wI hA hI; have f0 := hcz.out τ wI hI; have e1 := f0; clear f0; subst e1; go_simp; refine (HH.out wI HBD.out).mono ?_; rintro e w' ⟨rfl, rfl⟩; exact ⟨_, rfl, hI, Is.rfl'⟩); simp only [Act.put, List.setIfInBounds_toArray, List.set_cons_zero, List.set_cons_succ])
                refine WpI.done ?_
                intro w33 hI
                rw [HI.out] at hI
                have hE := hI
                have HB33 : Hid (Below w4.heap.size w4 w33) := Lib.hid (by rw [hE]; exact HBD.out)
                clear hE hI hcz H00 HI HBD HC0 hb hwr HH
                go_wp2_with fail
                go_roundg (j - (i + 1))
                case measure => omega
                case rel => exact ⟨i + 1, by go_num, by omega, rfl, HB33⟩
          · obtain rfl : i = n := by omega
            go_wp2_with fail
            go_ret
            exact ⟨rfl, HW4.out.trans (hb.out.mono HW4.out.size)⟩
    · obtain ⟨z, hz⟩ : ∃ z, z = newErr l := ⟨_, rfl⟩
      rw [← hz] at hne ⊢
      clear hz
      go_wp2_with fail
      go_ret
      exact ⟨rfl, HW3.out⟩
  · obtain rfl : b1 = false := by simpa using hb
    go_wp2_with fail
    go_ret
    exact ⟨rfl, HW1.out⟩
end Go.Proofs.Ytcffmpjdonncgaa
