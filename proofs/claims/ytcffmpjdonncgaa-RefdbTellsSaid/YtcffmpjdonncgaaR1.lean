/- RefdbX: the reference's sorted, by hand. -/
import Derived.Test.YtcffmpjdonncgaaLs
import Derived.Test.YtcffmpjdonncgaaRh
namespace Go.Proofs.Ytcffmpjdonncgaa
open Go.RowKit Go.Proofs.YtcffmpjdonncgaaW.PrintWords

def bopt (is : Bool) (bs : ByteArray) : Option ByteArray := if is = true then some bs else none
theorem bool_or_not (a b : ByteArray) : (a.toList == b.toList) = decide (a = b) := by
  by_cases h : a = b
  · subst h; simp
  · rw [decide_eq_false h]
    cases e : (a.toList == b.toList) with
    | false => rfl
    | true => exact (h (str_eq.1 (eq_of_beq e))).elim

set_option maxRecDepth 100000 in
set_option maxHeartbeats 8000000 in
theorem rsorted_ok (w : World) (F : Nat → Prop) (A : Option Addr) (n c : Nat) (l : List ByteArray) (h : Sl w F 1 (.slice A n c) n (strs l)) (hn : n ≤ 1000000000) :
    Calls Try.prog 37 #[.slice A n c] w fun e w' => ∃ v, e = .returned v ∧ Made w (SU l) v w' := by
  have hpl : l.length = n := by have := h.1; rw [strs_length, Nat.mul_one] at this; exact this
  have hml : (SU l).length ≤ n := by rw [← hpl]; exact SU_le l
  have HSL := Lib.hid (h.lt (by omega))
  have HPL := Lib.hid hpl
  clear h hpl
  go_enter Try.func37, Try.ntmps37
  go_wp2_with fail
  go_loopg [3] (n + 1) (fun kq ov wr => ∃ (j : Nat) (Ao : Option Addr) (co : Nat), ov = .slice Ao j co ∧ j ≤ (SU l).length ∧ kq = n + 1 - j ∧ Hid (wr.ownsRow w.heap.size 9 1 (.slice Ao j co) j (strs ((SU l).take j))) ∧ Hid (Below w.heap.size w wr))
  case atStart => exact ⟨0, none, 0, rfl, Nat.zero_le _, rfl, Lib.hid ⟨by simp [strs], .inl ⟨rfl, rfl⟩⟩, Lib.hid (Below.refl _ _)⟩
  case round =>
    obtain ⟨j, Ao, co, rfl, hj, rfl, ho, hbw⟩ := hrel
    by_cases hjn : j < n
    · obtain ⟨w0, hw0⟩ : ∃ w0, w0 = wr := ⟨_, rfl⟩
      rw [← hw0] at ho hbw
      have HO := ho
      have HBW := hbw
      have HSTART : Hid (Below w0.heap.size w0 wr) := Lib.hid (by rw [hw0]; exact Below.refl _ _)
      clear ho hbw hw0
      go_wp2_with fail
      go_loopg [4, 5, 6] n (fun kq bv sv iv wr => ∃ (i : Nat) (bs : ByteArray) (is : Bool), bv = .string bs ∧ sv = .bool is ∧ iv = .int .i64 i ∧ i ≤ n ∧ kq = n - i ∧ Hid (least ((SU l).take j) (l.drop i) (bopt is bs) = (SU l)[j]?) ∧ Hid (Below w0.heap.size w0 wr))
      case atStart => exact ⟨0, ⟨#[]⟩, false, rfl, rfl, rfl, Nat.zero_le _, rfl, Lib.hid (least_SU l j hj), HSTART⟩
      case round =>
        clear HSTART
        obtain ⟨i, bs, is, rfl, rfl, rfl, hi, rfl, hls, hb⟩ := hrel
        by_cases hin : i < n
        · obtain ⟨bl, ol, rfl, hbl, hcl⟩ := Sl_cells HSL.out (by omega)
          obtain ⟨x, hx⟩ : ∃ x, l[i]? = some x := ⟨_, List.getElem?_eq_getElem (by rw [HPL.out]; exact hin)⟩
          have HCL : Hid (∀ wx, Below w0.heap.size w0 wx → wx.cell? ⟨bl, ol + i, none⟩ = some (.string x)) := Lib.hid fun wx hxb => ((HBW.out.trans (hxb.mono HBW.out.size)).cell (p := ⟨bl, _, none⟩) hbl.2).trans (hcl i x hx)
          obtain ⟨hil, hge⟩ := List.getElem?_eq_some_iff.1 hx
          have hls := hls.out
          rw [List.drop_eq_getElem_cons hil, hge] at hls
          unfold least at hls
          have hls := Lib.hid hls
          have hbl2 : bl < w0.heap.size := Nat.lt_of_lt_of_le hbl.2 HBW.out.size
          clear hcl hx hil hge
          have hwr := hb.out.size
          cases hlast : ((SU l).take j).getLast? with
          | none =>
            obtain rfl : j = 0 := by
              have h0 : (SU l).take j = [] := by simpa using hlast
              have := congrArg List.length h0
              rw [List.length_take, List.length_nil] at this
              omega
            have haft : aft ((SU l).take 0) x := fun c hc => by rw [hlast] at hc; cases hc
            cases is with
            | false =>
              by_cases hxy : ltB x bs
              · have HC0 : Hid (wr.drew.cell? ⟨bl, ol + i, none⟩ = some (.string x) ∧ Op.bytesLess x.toList bs.toList = true) := Lib.hid ⟨HCL.out _ hb.out.drew, by rw [less_ltB]; exact decide_eq_true hxy⟩
                have HN : Hid (least ((SU l).take 0) (l.drop (i + 1)) (some x) = (SU l)[0]?) := Lib.hid (by rw [← hls.out, if_pos ⟨haft, fun y hy => by cases hy⟩])
                clear hls
                go_upto_region 8 with fail
                obtain ⟨wd, hwd⟩ : ∃ wd, wd = wr.drew := ⟨_, rfl⟩
                have HBD : Hid (Below w0.heap.size w0 wd) := Lib.hid (by rw [hwd]; exact hb.out.drew)
                rw [← hwd] at HC0
                try simp only [Act.put, List.setIfInBounds_toArray, List.set_cons_zero, List.set_cons_succ]
                obtain ⟨Inv, hInv⟩ : ∃ Inv : Done → World → Prop, Inv = fun _ wI => (fun wI => wI = wd) wI := ⟨_, rfl⟩
                have HI := Lib.hid hInv
                have hcz : Hid (∀ τ wI, Inv τ wI → wI = wd) := by
                  intro τ wI h
                  rw [hInv] at h
                  exact h
                have H00 : Hid (Inv Done.none wr.drew) := by rw [hInv]; exact hwd.symm
                clear hInv hwd
                refine wp_region_inv (by kernel_rfl) [⟨0, false, [], []⟩, ⟨1, false, [], []⟩, ⟨2, false, [], []⟩, ⟨3, false, [], []⟩, ⟨4, false, [], []⟩, ⟨5, false, [], []⟩, ⟨6, false, [], []⟩, ⟨7, false, [], []⟩, ⟨8, false, [], []⟩, ⟨9, false, [], []⟩, ⟨10, false, [], []⟩, ⟨11, false, [], []⟩, ⟨12, false, [], []⟩, ⟨13, false, [], []⟩, ⟨14, false, [], []⟩, ⟨15, false, [], []⟩, ⟨16, false, [], []⟩, ⟨17, false, [], []⟩, ⟨18, false, [], []⟩, ⟨19, false, [], []⟩, ⟨20, false, [], []⟩, ⟨21, false, [], []⟩, ⟨22, false, [], []⟩, ⟨23, false, [], []⟩, ⟨24, false, [], []⟩, ⟨25, false, [], []⟩, ⟨26, false, [], []⟩, ⟨27, false, [], []⟩] (by kernel_rfl) Inv (fun _ _ => True) (fun _ => ⟨undef, trivial⟩) H00.out ?_
                iterate 28 (apply WpI.pure; (simp only [List.getElem?_toArray, List.getElem?_cons_succ, List.getElem?_cons_zero]; rfl); (intro τ wI hA hI; have f0 := hcz.out τ wI hI; have e1 := f0; clear f0; subst e1; have q1 := HC0.out.1; have q5 := HC0.out.2; go_simp; exact ⟨hI, Is.rfl'⟩); simp only [Act.put, List.setIfInBounds_toArray, List.set_cons_zero, List.set_cons_succ])
                refine WpI.done ?_
                intro w8 hI
                rw [HI.out] at hI
                have hE := hI
                have HB8 : Hid (Below w0.heap.size w0 w8) := Lib.hid (by rw [hE]; exact HBD.out)
                clear hE hI hcz H00 HI HBD HC0 hb
                have e0 : w8.cell? ⟨bl, ol + i, none⟩ = some (.string x) := HCL.out w8 HB8.out
                go_wp2_with fail
                go_roundg (n - (i + 1))
                case measure => omega
                case rel => exact ⟨i + 1, x, true, rfl, rfl, by go_num, by omega, rfl, HN, HB8⟩
              · have HC0 : Hid (wr.drew.cell? ⟨bl, ol + i, none⟩ = some (.string x) ∧ Op.bytesLess x.toList bs.toList = false) := Lib.hid ⟨HCL.out _ hb.out.drew, by rw [less_ltB]; exact decide_eq_false hxy⟩
                have HN : Hid (least ((SU l).take 0) (l.drop (i + 1)) (some x) = (SU l)[0]?) := Lib.hid (by rw [← hls.out, if_pos ⟨haft, fun y hy => by cases hy⟩])
                clear hls
                go_upto_region 8 with fail
                obtain ⟨wd, hwd⟩ : ∃ wd, wd = wr.drew := ⟨_, rfl⟩
                have HBD : Hid (Below w0.heap.size w0 wd) := Lib.hid (by rw [hwd]; exact hb.out.drew)
                rw [← hwd] at HC0
                try simp only [Act.put, List.setIfInBounds_toArray, List.set_cons_zero, List.set_cons_succ]
                obtain ⟨Inv, hInv⟩ : ∃ Inv : Done → World → Prop, Inv = fun _ wI => (fun wI => wI = wd) wI := ⟨_, rfl⟩
                have HI := Lib.hid hInv
                have hcz : Hid (∀ τ wI, Inv τ wI → wI = wd) := by
                  intro τ wI h
                  rw [hInv] at h
                  exact h
                have H00 : Hid (Inv Done.none wr.drew) := by rw [hInv]; exact hwd.symm
                clear hInv hwd
                refine wp_region_inv (by kernel_rfl) [⟨0, false, [], []⟩, ⟨1, false, [], []⟩, ⟨2, false, [], []⟩, ⟨3, false, [], []⟩, ⟨4, false, [], []⟩, ⟨5, false, [], []⟩, ⟨6, false, [], []⟩, ⟨7, false, [], []⟩, ⟨8, false, [], []⟩, ⟨9, false, [], []⟩, ⟨10, false, [], []⟩, ⟨11, false, [], []⟩, ⟨12, false, [], []⟩, ⟨13, false, [], []⟩, ⟨14, false, [], []⟩, ⟨15, false, [], []⟩, ⟨16, false, [], []⟩, ⟨17, false, [], []⟩, ⟨18, false, [], []⟩, ⟨19, false, [], []⟩, ⟨20, false, [], []⟩, ⟨21, false, [], []⟩, ⟨22, false, [], []⟩, ⟨23, false, [], []⟩, ⟨24, false, [], []⟩, ⟨25, false, [], []⟩, ⟨26, false, [], []⟩, ⟨27, false, [], []⟩] (by kernel_rfl) Inv (fun _ _ => True) (fun _ => ⟨undef, trivial⟩) H00.out ?_
                iterate 28 (apply WpI.pure; (simp only [List.getElem?_toArray, List.getElem?_cons_succ, List.getElem?_cons_zero]; rfl); (intro τ wI hA hI; have f0 := hcz.out τ wI hI; have e1 := f0; clear f0; subst e1; have q1 := HC0.out.1; have q5 := HC0.out.2; go_simp; exact ⟨hI, Is.rfl'⟩); simp only [Act.put, List.setIfInBounds_toArray, List.set_cons_zero, List.set_cons_succ])
                refine WpI.done ?_
                intro w8 hI
                rw [HI.out] at hI
                have hE := hI
                have HB8 : Hid (Below w0.heap.size w0 w8) := Lib.hid (by rw [hE]; exact HBD.out)
                clear hE hI hcz H00 HI HBD HC0 hb
                have e0 : w8.cell? ⟨bl, ol + i, none⟩ = some (.string x) := HCL.out w8 HB8.out
                go_wp2_with fail
                go_roundg (n - (i + 1))
                case measure => omega
                case rel => exact ⟨i + 1, x, true, rfl, rfl, by go_num, by omega, rfl, HN, HB8⟩
            | true =>
              by_cases hxy : ltB x bs
              · have HC0 : Hid (wr.drew.cell? ⟨bl, ol + i, none⟩ = some (.string x) ∧ Op.bytesLess x.toList bs.toList = true) := Lib.hid ⟨HCL.out _ hb.out.drew, by rw [less_ltB]; exact decide_eq_true hxy⟩
                have HN : Hid (least ((SU l).take 0) (l.drop (i + 1)) (some x) = (SU l)[0]?) := Lib.hid (by rw [← hls.out, if_pos ⟨haft, fun y hy => by injection hy with hy; subst hy; exact hxy⟩])
                clear hls
                go_upto_region 8 with fail
                obtain ⟨wd, hwd⟩ : ∃ wd, wd = wr.drew := ⟨_, rfl⟩
                have HBD : Hid (Below w0.heap.size w0 wd) := Lib.hid (by rw [hwd]; exact hb.out.drew)
                rw [← hwd] at HC0
                try simp only [Act.put, List.setIfInBounds_toArray, List.set_cons_zero, List.set_cons_succ]
                obtain ⟨Inv, hInv⟩ : ∃ Inv : Done → World → Prop, Inv = fun _ wI => (fun wI => wI = wd) wI := ⟨_, rfl⟩
                have HI := Lib.hid hInv
                have hcz : Hid (∀ τ wI, Inv τ wI → wI = wd) := by
                  intro τ wI h
                  rw [hInv] at h
                  exact h
                have H00 : Hid (Inv Done.none wr.drew) := by rw [hInv]; exact hwd.symm
                clear hInv hwd
                refine wp_region_inv (by kernel_rfl) [⟨0, false, [], []⟩, ⟨1, false, [], []⟩, ⟨2, false, [], []⟩, ⟨3, false, [], []⟩, ⟨4, false, [], []⟩, ⟨5, false, [], []⟩, ⟨6, false, [], []⟩, ⟨7, false, [], []⟩, ⟨8, false, [], []⟩, ⟨9, false, [], []⟩, ⟨10, false, [], []⟩, ⟨11, false, [], []⟩, ⟨12, false, [], []⟩, ⟨13, false, [], []⟩, ⟨14, false, [], []⟩, ⟨15, false, [], []⟩, ⟨16, false, [], []⟩, ⟨17, false, [], []⟩, ⟨18, false, [], []⟩, ⟨19, false, [], []⟩, ⟨20, false, [], []⟩, ⟨21, false, [], []⟩, ⟨22, false, [], []⟩, ⟨23, false, [], []⟩, ⟨24, false, [], []⟩, ⟨25, false, [], []⟩, ⟨26, false, [], []⟩, ⟨27, false, [], []⟩] (by kernel_rfl) Inv (fun _ _ => True) (fun _ => ⟨undef, trivial⟩) H00.out ?_
                iterate 28 (apply WpI.pure; (simp only [List.getElem?_toArray, List.getElem?_cons_succ, List.getElem?_cons_zero]; rfl); (intro τ wI hA hI; have f0 := hcz.out τ wI hI; have e1 := f0; clear f0; subst e1; have q1 := HC0.out.1; have q5 := HC0.out.2; go_simp; exact ⟨hI, Is.rfl'⟩); simp only [Act.put, List.setIfInBounds_toArray, List.set_cons_zero, List.set_cons_succ])
                refine WpI.done ?_
                intro w8 hI
                rw [HI.out] at hI
                have hE := hI
                have HB8 : Hid (Below w0.heap.size w0 w8) := Lib.hid (by rw [hE]; exact HBD.out)
                clear hE hI hcz H00 HI HBD HC0 hb
                have e0 : w8.cell? ⟨bl, ol + i, none⟩ = some (.string x) := HCL.out w8 HB8.out
                go_wp2_with fail
                go_roundg (n - (i + 1))
                case measure => omega
                case rel => exact ⟨i + 1, x, true, rfl, rfl, by go_num, by omega, rfl, HN, HB8⟩
              · have HC0 : Hid (wr.drew.cell? ⟨bl, ol + i, none⟩ = some (.string x) ∧ Op.bytesLess x.toList bs.toList = false) := Lib.hid ⟨HCL.out _ hb.out.drew, by rw [less_ltB]; exact decide_eq_false hxy⟩
                have HN : Hid (least ((SU l).take 0) (l.drop (i + 1)) (bopt true bs) = (SU l)[0]?) := Lib.hid (by rw [← hls.out, if_neg (fun h => hxy (h.2 bs rfl))])
                clear hls
                go_upto_region 8 with fail
                obtain ⟨wd, hwd⟩ : ∃ wd, wd = wr.drew := ⟨_, rfl⟩
                have HBD : Hid (Below w0.heap.size w0 wd) := Lib.hid (by rw [hwd]; exact hb.out.drew)
                rw [← hwd] at HC0
                try simp only [Act.put, List.setIfInBounds_toArray, List.set_cons_zero, List.set_cons_succ]
                obtain ⟨Inv, hInv⟩ : ∃ Inv : Done → World → Prop, Inv = fun _ wI => (fun wI => wI = wd) wI := ⟨_, rfl⟩
                have HI := Lib.hid hInv
                have hcz : Hid (∀ τ wI, Inv τ wI → wI = wd) := by
                  intro τ wI h
                  rw [hInv] at h
                  exact h
                have H00 : Hid (Inv Done.none wr.drew) := by rw [hInv]; exact hwd.symm
                clear hInv hwd
                refine wp_region_inv (by kernel_rfl) [⟨0, false, [], []⟩, ⟨1, false, [], []⟩, ⟨2, false, [], []⟩, ⟨3, false, [], []⟩, ⟨4, false, [], []⟩, ⟨5, false, [], []⟩, ⟨6, false, [], []⟩, ⟨7, false, [], []⟩, ⟨8, false, [], []⟩, ⟨9, false, [], []⟩, ⟨10, false, [], []⟩, ⟨11, false, [], []⟩, ⟨12, false, [], []⟩, ⟨13, false, [], []⟩, ⟨14, false, [], []⟩, ⟨15, false, [], []⟩, ⟨16, false, [], []⟩, ⟨17, false, [], []⟩, ⟨18, false, [], []⟩, ⟨19, false, [], []⟩, ⟨20, false, [], []⟩, ⟨21, false, [], []⟩, ⟨22, false, [], []⟩, ⟨23, false, [], []⟩, ⟨24, false, [], []⟩, ⟨25, false, [], []⟩, ⟨26, false, [], []⟩, ⟨27, false, [], []⟩] (by kernel_rfl) Inv (fun _ _ => True) (fun _ => ⟨undef, trivial⟩) H00.out ?_
                iterate 28 (apply WpI.pure; (simp only [List.getElem?_toArray, List.getElem?_cons_succ, List.getElem?_cons_zero]; rfl); (intro τ wI hA hI; have f0 := hcz.out τ wI hI; have e1 := f0; clear f0; subst e1; have q1 := HC0.out.1; have q5 := HC0.out.2; go_simp; exact ⟨hI, Is.rfl'⟩); simp only [Act.put, List.setIfInBounds_toArray, List.set_cons_zero, List.set_cons_succ])
                refine WpI.done ?_
                intro w8 hI
                rw [HI.out] at hI
                have hE := hI
                have HB8 : Hid (Below w0.heap.size w0 w8) := Lib.hid (by rw [hE]; exact HBD.out)
                clear hE hI hcz H00 HI HBD HC0 hb
                go_wp2_with fail
                go_roundg (n - (i + 1))
                case measure => omega
                case rel => exact ⟨i + 1, bs, true, rfl, rfl, by go_num, by omega, rfl, HN, HB8⟩
          | some cc =>
            obtain ⟨j1, rfl⟩ : ∃ j1, j = j1 + 1 := by
              refine ⟨j - 1, ?_⟩
              cases j with
              | zero => simp at hlast
              | succ j => omega
            obtain ⟨bo, capo, hvo, _, _⟩ := HO.out.form (by omega)
            simp only [Value.slice.injEq] at hvo
            obtain ⟨rfl, _, rfl⟩ := hvo
            have HCO : Hid (∀ wx, Below w0.heap.size w0 wx → wx.cell? ⟨bo, j1, none⟩ = some (.string cc)) := Lib.hid fun wx hxb => by
              have hg : ((SU l).take (j1 + 1))[j1]? = some cc := by
                rw [List.getLast?_eq_getElem?, List.length_take, Nat.min_eq_left hj] at hlast
                exact hlast
              have := (own_below HO.out hxb).cells rfl j1 _ (strs_get hg)
              rwa [add_lit0, Nat.zero_add] at this
            have hwrp : IntKind.i64.wrap (j1 : Int) = (j1 : Int) := by rw [IntKind.wrap_i64]; omega
            have hj0 : ((j1 : Int) + 1 == 0) = false := by rw [beq_eq_false_iff_ne]; omega
            have HJ0 := Lib.hid (And.intro hwrp (And.intro hj0 (show (j1 : Int) < (j1 : Int) + 1 by omega)))
            clear hwrp hj0
            by_cases hcx : ltB cc x
            · have haft : aft ((SU l).take (j1 + 1)) x := fun q hq => by rw [hlast] at hq; injection hq with hq; subst hq; exact hcx
              have hxc : ¬ ltB x cc := ltB_asymm hcx
              have hec : ¬ x = cc := fun e => by subst e; exact ltB_irrefl _ hcx
              cases is with
              | false =>
                by_cases hxy : ltB x bs
                · have HC0 : Hid (wr.drew.cell? ⟨bl, ol + i, none⟩ = some (.string x) ∧ wr.drew.cell? ⟨bo, j1, none⟩ = some (.string cc) ∧ Op.bytesLess x.toList cc.toList = false ∧ (x.toList == cc.toList) = false ∧ Op.bytesLess x.toList bs.toList = true) := Lib.hid ⟨HCL.out _ hb.out.drew, HCO.out _ hb.out.drew, by rw [less_ltB]; exact decide_eq_false hxc, by rw [bool_or_not]; exact decide_eq_false hec, by rw [less_ltB]; exact decide_eq_true hxy⟩
                  have HN : Hid (least ((SU l).take (j1 + 1)) (l.drop (i + 1)) (some x) = (SU l)[j1 + 1]?) := Lib.hid (by rw [← hls.out, if_pos ⟨haft, fun y hy => by cases hy⟩])
                  clear hls
                  go_upto_region 8 with fail
                  obtain ⟨wd, hwd⟩ : ∃ wd, wd = wr.drew := ⟨_, rfl⟩
                  have HBD : Hid (Below w0.heap.size w0 wd) := Lib.hid (by rw [hwd]; exact hb.out.drew)
                  rw [← hwd] at HC0
                  try simp only [Act.put, List.setIfInBounds_toArray, List.set_cons_zero, List.set_cons_succ]
                  obtain ⟨Inv, hInv⟩ : ∃ Inv : Done → World → Prop, Inv = fun _ wI => (fun wI => wI = wd) wI := ⟨_, rfl⟩
                  have HI := Lib.hid hInv
                  have hcz : Hid (∀ τ wI, Inv τ wI → wI = wd) := by
                    intro τ wI h
                    rw [hInv] at h
                    exact h
                  have H00 : Hid (Inv Done.none wr.drew) := by rw [hInv]; exact hwd.symm
                  clear hInv hwd
                  refine wp_region_inv (by kernel_rfl) [⟨0, false, [], []⟩, ⟨1, false, [], []⟩, ⟨2, false, [], []⟩, ⟨3, false, [], []⟩, ⟨4, false, [], []⟩, ⟨5, false, [], []⟩, ⟨6, false, [], []⟩, ⟨7, false, [], []⟩, ⟨8, false, [], []⟩, ⟨9, false, [], []⟩, ⟨10, false, [], []⟩, ⟨11, false, [], []⟩, ⟨12, false, [], []⟩, ⟨13, false, [], []⟩, ⟨14, false, [], []⟩, ⟨15, false, [], []⟩, ⟨16, false, [], []⟩, ⟨17, false, [], []⟩, ⟨18, false, [], []⟩, ⟨19, false, [], []⟩, ⟨20, false, [], []⟩, ⟨21, false, [], []⟩, ⟨22, false, [], []⟩, ⟨23, false, [], []⟩, ⟨24, false, [], []⟩, ⟨25, false, [], []⟩, ⟨26, false, [], []⟩, ⟨27, false, [], []⟩] (by kernel_rfl) Inv (fun _ _ => True) (fun _ => ⟨undef, trivial⟩) H00.out ?_
                  iterate 28 (apply WpI.pure; (simp only [List.getElem?_toArray, List.getElem?_cons_succ, List.getElem?_cons_zero]; rfl); (intro τ wI hA hI; have f0 := hcz.out τ wI hI; have e1 := f0; clear f0; subst e1; have q1 := HC0.out.1; have q2 := HC0.out.2.1; have q3 := HC0.out.2.2.1; have q4 := HC0.out.2.2.2.1; have q5 := HC0.out.2.2.2.2; have q6 := HJ0.out.1; have q7 := HJ0.out.2.1; have q8 := HJ0.out.2.2; go_simp; exact ⟨hI, Is.rfl'⟩); simp only [Act.put, List.setIfInBounds_toArray, List.set_cons_zero, List.set_cons_succ])
                  refine WpI.done ?_
                  intro w8 hI
                  rw [HI.out] at hI
                  have hE := hI
                  have HB8 : Hid (Below w0.heap.size w0 w8) := Lib.hid (by rw [hE]; exact HBD.out)
                  clear hE hI hcz H00 HI HBD HC0 hb
                  have e0 : w8.cell? ⟨bl, ol + i, none⟩ = some (.string x) := HCL.out w8 HB8.out
                  go_wp2_with fail
                  go_roundg (n - (i + 1))
                  case measure => omega
                  case rel => exact ⟨i + 1, x, true, rfl, rfl, by go_num, by omega, rfl, HN, HB8⟩
                · have HC0 : Hid (wr.drew.cell? ⟨bl, ol + i, none⟩ = some (.string x) ∧ wr.drew.cell? ⟨bo, j1, none⟩ = some (.string cc) ∧ Op.bytesLess x.toList cc.toList = false ∧ (x.toList == cc.toList) = false ∧ Op.bytesLess x.toList bs.toList = false) := Lib.hid ⟨HCL.out _ hb.out.drew, HCO.out _ hb.out.drew, by rw [less_ltB]; exact decide_eq_false hxc, by rw [bool_or_not]; exact decide_eq_false hec, by rw [less_ltB]; exact decide_eq_false hxy⟩
                  have HN : Hid (least ((SU l).take (j1 + 1)) (l.drop (i + 1)) (some x) = (SU l)[j1 + 1]?) := Lib.hid (by rw [← hls.out, if_pos ⟨haft, fun y hy => by cases hy⟩])
                  clear hls
                  go_upto_region 8 with fail
                  obtain ⟨wd, hwd⟩ : ∃ wd, wd = wr.drew := ⟨_, rfl⟩
                  have HBD : Hid (Below w0.heap.size w0 wd) := Lib.hid (by rw [hwd]; exact hb.out.drew)
                  rw [← hwd] at HC0
                  try simp only [Act.put, List.setIfInBounds_toArray, List.set_cons_zero, List.set_cons_succ]
                  obtain ⟨Inv, hInv⟩ : ∃ Inv : Done → World → Prop, Inv = fun _ wI => (fun wI => wI = wd) wI := ⟨_, rfl⟩
                  have HI := Lib.hid hInv
                  have hcz : Hid (∀ τ wI, Inv τ wI → wI = wd) := by
                    intro τ wI h
                    rw [hInv] at h
                    exact h
                  have H00 : Hid (Inv Done.none wr.drew) := by rw [hInv]; exact hwd.symm
                  clear hInv hwd
                  refine wp_region_inv (by kernel_rfl) [⟨0, false, [], []⟩, ⟨1, false, [], []⟩, ⟨2, false, [], []⟩, ⟨3, false, [], []⟩, ⟨4, false, [], []⟩, ⟨5, false, [], []⟩, ⟨6, false, [], []⟩, ⟨7, false, [], []⟩, ⟨8, false, [], []⟩, ⟨9, false, [], []⟩, ⟨10, false, [], []⟩, ⟨11, false, [], []⟩, ⟨12, false, [], []⟩, ⟨13, false, [], []⟩, ⟨14, false, [], []⟩, ⟨15, false, [], []⟩, ⟨16, false, [], []⟩, ⟨17, false, [], []⟩, ⟨18, false, [], []⟩, ⟨19, false, [], []⟩, ⟨20, false, [], []⟩, ⟨21, false, [], []⟩, ⟨22, false, [], []⟩, ⟨23, false, [], []⟩, ⟨24, false, [], []⟩, ⟨25, false, [], []⟩, ⟨26, false, [], []⟩, ⟨27, false, [], []⟩] (by kernel_rfl) Inv (fun _ _ => True) (fun _ => ⟨undef, trivial⟩) H00.out ?_
                  iterate 28 (apply WpI.pure; (simp only [List.getElem?_toArray, List.getElem?_cons_succ, List.getElem?_cons_zero]; rfl); (intro τ wI hA hI; have f0 := hcz.out τ wI hI; have e1 := f0; clear f0; subst e1; have q1 := HC0.out.1; have q2 := HC0.out.2.1; have q3 := HC0.out.2.2.1; have q4 := HC0.out.2.2.2.1; have q5 := HC0.out.2.2.2.2; have q6 := HJ0.out.1; have q7 := HJ0.out.2.1; have q8 := HJ0.out.2.2; go_simp; exact ⟨hI, Is.rfl'⟩); simp only [Act.put, List.setIfInBounds_toArray, List.set_cons_zero, List.set_cons_succ])
                  refine WpI.done ?_
                  intro w8 hI
                  rw [HI.out] at hI
                  have hE := hI
                  have HB8 : Hid (Below w0.heap.size w0 w8) := Lib.hid (by rw [hE]; exact HBD.out)
                  clear hE hI hcz H00 HI HBD HC0 hb
                  have e0 : w8.cell? ⟨bl, ol + i, none⟩ = some (.string x) := HCL.out w8 HB8.out
                  go_wp2_with fail
                  go_roundg (n - (i + 1))
                  case measure => omega
                  case rel => exact ⟨i + 1, x, true, rfl, rfl, by go_num, by omega, rfl, HN, HB8⟩
              | true =>
                by_cases hxy : ltB x bs
                · have HC0 : Hid (wr.drew.cell? ⟨bl, ol + i, none⟩ = some (.string x) ∧ wr.drew.cell? ⟨bo, j1, none⟩ = some (.string cc) ∧ Op.bytesLess x.toList cc.toList = false ∧ (x.toList == cc.toList) = false ∧ Op.bytesLess x.toList bs.toList = true) := Lib.hid ⟨HCL.out _ hb.out.drew, HCO.out _ hb.out.drew, by rw [less_ltB]; exact decide_eq_false hxc, by rw [bool_or_not]; exact decide_eq_false hec, by rw [less_ltB]; exact decide_eq_true hxy⟩
                  have HN : Hid (least ((SU l).take (j1 + 1)) (l.drop (i + 1)) (some x) = (SU l)[j1 + 1]?) := Lib.hid (by rw [← hls.out, if_pos ⟨haft, fun y hy => by injection hy with hy; subst hy; exact hxy⟩])
                  clear hls
                  go_upto_region 8 with fail
                  obtain ⟨wd, hwd⟩ : ∃ wd, wd = wr.drew := ⟨_, rfl⟩
                  have HBD : Hid (Below w0.heap.size w0 wd) := Lib.hid (by rw [hwd]; exact hb.out.drew)
                  rw [← hwd] at HC0
                  try simp only [Act.put, List.setIfInBounds_toArray, List.set_cons_zero, List.set_cons_succ]
                  obtain ⟨Inv, hInv⟩ : ∃ Inv : Done → World → Prop, Inv = fun _ wI => (fun wI => wI = wd) wI := ⟨_, rfl⟩
                  have HI := Lib.hid hInv
                  have hcz : Hid (∀ τ wI, Inv τ wI → wI = wd) := by
                    intro τ wI h
                    rw [hInv] at h
                    exact h
                  have H00 : Hid (Inv Done.none wr.drew) := by rw [hInv]; exact hwd.symm
                  clear hInv hwd
                  refine wp_region_inv (by kernel_rfl) [⟨0, false, [], []⟩, ⟨1, false, [], []⟩, ⟨2, false, [], []⟩, ⟨3, false, [], []⟩, ⟨4, false, [], []⟩, ⟨5, false, [], []⟩, ⟨6, false, [], []⟩, ⟨7, false, [], []⟩, ⟨8, false, [], []⟩, ⟨9, false, [], []⟩, ⟨10, false, [], []⟩, ⟨11, false, [], []⟩, ⟨12, false, [], []⟩, ⟨13, false, [], []⟩, ⟨14, false, [], []⟩, ⟨15, false, [], []⟩, ⟨16, false, [], []⟩, ⟨17, false, [], []⟩, ⟨18, false, [], []⟩, ⟨19, false, [], []⟩, ⟨20, false, [], []⟩, ⟨21, false, [], []⟩, ⟨22, false, [], []⟩, ⟨23, false, [], []⟩, ⟨24, false, [], []⟩, ⟨25, false, [], []⟩, ⟨26, false, [], []⟩, ⟨27, false, [], []⟩] (by kernel_rfl) Inv (fun _ _ => True) (fun _ => ⟨undef, trivial⟩) H00.out ?_
                  iterate 28 (apply WpI.pure; (simp only [List.getElem?_toArray, List.getElem?_cons_succ, List.getElem?_cons_zero]; rfl); (intro τ wI hA hI; have f0 := hcz.out τ wI hI; have e1 := f0; clear f0; subst e1; have q1 := HC0.out.1; have q2 := HC0.out.2.1; have q3 := HC0.out.2.2.1; have q4 := HC0.out.2.2.2.1; have q5 := HC0.out.2.2.2.2; have q6 := HJ0.out.1; have q7 := HJ0.out.2.1; have q8 := HJ0.out.2.2; go_simp; exact ⟨hI, Is.rfl'⟩); simp only [Act.put, List.setIfInBounds_toArray, List.set_cons_zero, List.set_cons_succ])
                  refine WpI.done ?_
                  intro w8 hI
                  rw [HI.out] at hI
                  have hE := hI
                  have HB8 : Hid (Below w0.heap.size w0 w8) := Lib.hid (by rw [hE]; exact HBD.out)
                  clear hE hI hcz H00 HI HBD HC0 hb
                  have e0 : w8.cell? ⟨bl, ol + i, none⟩ = some (.string x) := HCL.out w8 HB8.out
                  go_wp2_with fail
                  go_roundg (n - (i + 1))
                  case measure => omega
                  case rel => exact ⟨i + 1, x, true, rfl, rfl, by go_num, by omega, rfl, HN, HB8⟩
                · have HC0 : Hid (wr.drew.cell? ⟨bl, ol + i, none⟩ = some (.string x) ∧ wr.drew.cell? ⟨bo, j1, none⟩ = some (.string cc) ∧ Op.bytesLess x.toList cc.toList = false ∧ (x.toList == cc.toList) = false ∧ Op.bytesLess x.toList bs.toList = false) := Lib.hid ⟨HCL.out _ hb.out.drew, HCO.out _ hb.out.drew, by rw [less_ltB]; exact decide_eq_false hxc, by rw [bool_or_not]; exact decide_eq_false hec, by rw [less_ltB]; exact decide_eq_false hxy⟩
                  have HN : Hid (least ((SU l).take (j1 + 1)) (l.drop (i + 1)) (bopt true bs) = (SU l)[j1 + 1]?) := Lib.hid (by rw [← hls.out, if_neg (fun h => hxy (h.2 bs rfl))])
                  clear hls
                  go_upto_region 8 with fail
                  obtain ⟨wd, hwd⟩ : ∃ wd, wd = wr.drew := ⟨_, rfl⟩
                  have HBD : Hid (Below w0.heap.size w0 wd) := Lib.hid (by rw [hwd]; exact hb.out.drew)
                  rw [← hwd] at HC0
                  try simp only [Act.put, List.setIfInBounds_toArray, List.set_cons_zero, List.set_cons_succ]
                  obtain ⟨Inv, hInv⟩ : ∃ Inv : Done → World → Prop, Inv = fun _ wI => (fun wI => wI = wd) wI := ⟨_, rfl⟩
                  have HI := Lib.hid hInv
                  have hcz : Hid (∀ τ wI, Inv τ wI → wI = wd) := by
                    intro τ wI h
                    rw [hInv] at h
                    exact h
                  have H00 : Hid (Inv Done.none wr.drew) := by rw [hInv]; exact hwd.symm
                  clear hInv hwd
                  refine wp_region_inv (by kernel_rfl) [⟨0, false, [], []⟩, ⟨1, false, [], []⟩, ⟨2, false, [], []⟩, ⟨3, false, [], []⟩, ⟨4, false, [], []⟩, ⟨5, false, [], []⟩, ⟨6, false, [], []⟩, ⟨7, false, [], []⟩, ⟨8, false, [], []⟩, ⟨9, false, [], []⟩, ⟨10, false, [], []⟩, ⟨11, false, [], []⟩, ⟨12, false, [], []⟩, ⟨13, false, [], []⟩, ⟨14, false, [], []⟩, ⟨15, false, [], []⟩, ⟨16, false, [], []⟩, ⟨17, false, [], []⟩, ⟨18, false, [], []⟩, ⟨19, false, [], []⟩, ⟨20, false, [], []⟩, ⟨21, false, [], []⟩, ⟨22, false, [], []⟩, ⟨23, false, [], []⟩, ⟨24, false, [], []⟩, ⟨25, false, [], []⟩, ⟨26, false, [], []⟩, ⟨27, false, [], []⟩] (by kernel_rfl) Inv (fun _ _ => True) (fun _ => ⟨undef, trivial⟩) H00.out ?_
                  iterate 28 (apply WpI.pure; (simp only [List.getElem?_toArray, List.getElem?_cons_succ, List.getElem?_cons_zero]; rfl); (intro τ wI hA hI; have f0 := hcz.out τ wI hI; have e1 := f0; clear f0; subst e1; have q1 := HC0.out.1; have q2 := HC0.out.2.1; have q3 := HC0.out.2.2.1; have q4 := HC0.out.2.2.2.1; have q5 := HC0.out.2.2.2.2; have q6 := HJ0.out.1; have q7 := HJ0.out.2.1; have q8 := HJ0.out.2.2; go_simp; exact ⟨hI, Is.rfl'⟩); simp only [Act.put, List.setIfInBounds_toArray, List.set_cons_zero, List.set_cons_succ])
                  refine WpI.done ?_
                  intro w8 hI
                  rw [HI.out] at hI
                  have hE := hI
                  have HB8 : Hid (Below w0.heap.size w0 w8) := Lib.hid (by rw [hE]; exact HBD.out)
                  clear hE hI hcz H00 HI HBD HC0 hb
                  go_wp2_with fail
                  go_roundg (n - (i + 1))
                  case measure => omega
                  case rel => exact ⟨i + 1, bs, true, rfl, rfl, by go_num, by omega, rfl, HN, HB8⟩
            · by_cases hec : x = cc
              · have hxc : ¬ ltB x cc := fun h => by rw [hec] at h; exact ltB_irrefl _ h
                cases is with
                | false =>
                  by_cases hxy : ltB x bs
                  · have HC0 : Hid (wr.drew.cell? ⟨bl, ol + i, none⟩ = some (.string x) ∧ wr.drew.cell? ⟨bo, j1, none⟩ = some (.string cc) ∧ Op.bytesLess x.toList cc.toList = false ∧ (x.toList == cc.toList) = true ∧ Op.bytesLess x.toList bs.toList = true) := Lib.hid ⟨HCL.out _ hb.out.drew, HCO.out _ hb.out.drew, by rw [less_ltB]; exact decide_eq_false hxc, by rw [bool_or_not]; exact decide_eq_true hec, by rw [less_ltB]; exact decide_eq_true hxy⟩
                    have HN : Hid (least ((SU l).take (j1 + 1)) (l.drop (i + 1)) (bopt false bs) = (SU l)[j1 + 1]?) := Lib.hid (by rw [← hls.out, if_neg (fun h => hcx (h.1 cc hlast))])
                    clear hls
                    go_upto_region 8 with fail
                    obtain ⟨wd, hwd⟩ : ∃ wd, wd = wr.drew := ⟨_, rfl⟩
                    have HBD : Hid (Below w0.heap.size w0 wd) := Lib.hid (by rw [hwd]; exact hb.out.drew)
                    rw [← hwd] at HC0
                    try simp only [Act.put, List.setIfInBounds_toArray, List.set_cons_zero, List.set_cons_succ]
                    obtain ⟨Inv, hInv⟩ : ∃ Inv : Done → World → Prop, Inv = fun _ wI => (fun wI => wI = wd) wI := ⟨_, rfl⟩
                    have HI := Lib.hid hInv
                    have hcz : Hid (∀ τ wI, Inv τ wI → wI = wd) := by
                      intro τ wI h
                      rw [hInv] at h
                      exact h
                    have H00 : Hid (Inv Done.none wr.drew) := by rw [hInv]; exact hwd.symm
                    clear hInv hwd
                    refine wp_region_inv (by kernel_rfl) [⟨0, false, [], []⟩, ⟨1, false, [], []⟩, ⟨2, false, [], []⟩, ⟨3, false, [], []⟩, ⟨4, false, [], []⟩, ⟨5, false, [], []⟩, ⟨6, false, [], []⟩, ⟨7, false, [], []⟩, ⟨8, false, [], []⟩, ⟨9, false, [], []⟩, ⟨10, false, [], []⟩, ⟨11, false, [], []⟩, ⟨12, false, [], []⟩, ⟨13, false, [], []⟩, ⟨14, false, [], []⟩, ⟨15, false, [], []⟩, ⟨16, false, [], []⟩, ⟨17, false, [], []⟩, ⟨18, false, [], []⟩, ⟨19, false, [], []⟩, ⟨20, false, [], []⟩, ⟨21, false, [], []⟩, ⟨22, false, [], []⟩, ⟨23, false, [], []⟩, ⟨24, false, [], []⟩, ⟨25, false, [], []⟩, ⟨26, false, [], []⟩, ⟨27, false, [], []⟩] (by kernel_rfl) Inv (fun _ _ => True) (fun _ => ⟨undef, trivial⟩) H00.out ?_
                    iterate 28 (apply WpI.pure; (simp only [List.getElem?_toArray, List.getElem?_cons_succ, List.getElem?_cons_zero]; rfl); (intro τ wI hA hI; have f0 := hcz.out τ wI hI; have e1 := f0; clear f0; subst e1; have q1 := HC0.out.1; have q2 := HC0.out.2.1; have q3 := HC0.out.2.2.1; have q4 := HC0.out.2.2.2.1; have q5 := HC0.out.2.2.2.2; have q6 := HJ0.out.1; have q7 := HJ0.out.2.1; have q8 := HJ0.out.2.2; go_simp; exact ⟨hI, Is.rfl'⟩); simp only [Act.put, List.setIfInBounds_toArray, List.set_cons_zero, List.set_cons_succ])
                    refine WpI.done ?_
                    intro w8 hI
                    rw [HI.out] at hI
                    have hE := hI
                    have HB8 : Hid (Below w0.heap.size w0 w8) := Lib.hid (by rw [hE]; exact HBD.out)
                    clear hE hI hcz H00 HI HBD HC0 hb
                    go_wp2_with fail
                    go_roundg (n - (i + 1))
                    case measure => omega
                    case rel => exact ⟨i + 1, bs, false, rfl, rfl, by go_num, by omega, rfl, HN, HB8⟩
                  · have HC0 : Hid (wr.drew.cell? ⟨bl, ol + i, none⟩ = some (.string x) ∧ wr.drew.cell? ⟨bo, j1, none⟩ = some (.string cc) ∧ Op.bytesLess x.toList cc.toList = false ∧ (x.toList == cc.toList) = true ∧ Op.bytesLess x.toList bs.toList = false) := Lib.hid ⟨HCL.out _ hb.out.drew, HCO.out _ hb.out.drew, by rw [less_ltB]; exact decide_eq_false hxc, by rw [bool_or_not]; exact decide_eq_true hec, by rw [less_ltB]; exact decide_eq_false hxy⟩
                    have HN : Hid (least ((SU l).take (j1 + 1)) (l.drop (i + 1)) (bopt false bs) = (SU l)[j1 + 1]?) := Lib.hid (by rw [← hls.out, if_neg (fun h => hcx (h.1 cc hlast))])
                    clear hls
                    go_upto_region 8 with fail
                    obtain ⟨wd, hwd⟩ : ∃ wd, wd = wr.drew := ⟨_, rfl⟩
                    have HBD : Hid (Below w0.heap.size w0 wd) := Lib.hid (by rw [hwd]; exact hb.out.drew)
                    rw [← hwd] at HC0
                    try simp only [Act.put, List.setIfInBounds_toArray, List.set_cons_zero, List.set_cons_succ]
                    obtain ⟨Inv, hInv⟩ : ∃ Inv : Done → World → Prop, Inv = fun _ wI => (fun wI => wI = wd) wI := ⟨_, rfl⟩
                    have HI := Lib.hid hInv
                    have hcz : Hid (∀ τ wI, Inv τ wI → wI = wd) := by
                      intro τ wI h
                      rw [hInv] at h
                      exact h
                    have H00 : Hid (Inv Done.none wr.drew) := by rw [hInv]; exact hwd.symm
                    clear hInv hwd
                    refine wp_region_inv (by kernel_rfl) [⟨0, false, [], []⟩, ⟨1, false, [], []⟩, ⟨2, false, [], []⟩, ⟨3, false, [], []⟩, ⟨4, false, [], []⟩, ⟨5, false, [], []⟩, ⟨6, false, [], []⟩, ⟨7, false, [], []⟩, ⟨8, false, [], []⟩, ⟨9, false, [], []⟩, ⟨10, false, [], []⟩, ⟨11, false, [], []⟩, ⟨12, false, [], []⟩, ⟨13, false, [], []⟩, ⟨14, false, [], []⟩, ⟨15, false, [], []⟩, ⟨16, false, [], []⟩, ⟨17, false, [], []⟩, ⟨18, false, [], []⟩, ⟨19, false, [], []⟩, ⟨20, false, [], []⟩, ⟨21, false, [], []⟩, ⟨22, false, [], []⟩, ⟨23, false, [], []⟩, ⟨24, false, [], []⟩, ⟨25, false, [], []⟩, ⟨26, false, [], []⟩, ⟨27, false, [], []⟩] (by kernel_rfl) Inv (fun _ _ => True) (fun _ => ⟨undef, trivial⟩) H00.out ?_
                    iterate 28 (apply WpI.pure; (simp only [List.getElem?_toArray, List.getElem?_cons_succ, List.getElem?_cons_zero]; rfl); (intro τ wI hA hI; have f0 := hcz.out τ wI hI; have e1 := f0; clear f0; subst e1; have q1 := HC0.out.1; have q2 := HC0.out.2.1; have q3 := HC0.out.2.2.1; have q4 := HC0.out.2.2.2.1; have q5 := HC0.out.2.2.2.2; have q6 := HJ0.out.1; have q7 := HJ0.out.2.1; have q8 := HJ0.out.2.2; go_simp; exact ⟨hI, Is.rfl'⟩); simp only [Act.put, List.setIfInBounds_toArray, List.set_cons_zero, List.set_cons_succ])
                    refine WpI.done ?_
                    intro w8 hI
                    rw [HI.out] at hI
                    have hE := hI
                    have HB8 : Hid (Below w0.heap.size w0 w8) := Lib.hid (by rw [hE]; exact HBD.out)
                    clear hE hI hcz H00 HI HBD HC0 hb
                    go_wp2_with fail
                    go_roundg (n - (i + 1))
                    case measure => omega
                    case rel => exact ⟨i + 1, bs, false, rfl, rfl, by go_num, by omega, rfl, HN, HB8⟩
                | true =>
                  by_cases hxy : ltB x bs
                  · have HC0 : Hid (wr.drew.cell? ⟨bl, ol + i, none⟩ = some (.string x) ∧ wr.drew.cell? ⟨bo, j1, none⟩ = some (.string cc) ∧ Op.bytesLess x.toList cc.toList = false ∧ (x.toList == cc.toList) = true ∧ Op.bytesLess x.toList bs.toList = true) := Lib.hid ⟨HCL.out _ hb.out.drew, HCO.out _ hb.out.drew, by rw [less_ltB]; exact decide_eq_false hxc, by rw [bool_or_not]; exact decide_eq_true hec, by rw [less_ltB]; exact decide_eq_true hxy⟩
                    have HN : Hid (least ((SU l).take (j1 + 1)) (l.drop (i + 1)) (bopt true bs) = (SU l)[j1 + 1]?) := Lib.hid (by rw [← hls.out, if_neg (fun h => hcx (h.1 cc hlast))])
                    clear hls
                    go_upto_region 8 with fail
                    obtain ⟨wd, hwd⟩ : ∃ wd, wd = wr.drew := ⟨_, rfl⟩
                    have HBD : Hid (Below w0.heap.size w0 wd) := Lib.hid (by rw [hwd]; exact hb.out.drew)
                    rw [← hwd] at HC0
                    try simp only [Act.put, List.setIfInBounds_toArray, List.set_cons_zero, List.set_cons_succ]
                    obtain ⟨Inv, hInv⟩ : ∃ Inv : Done → World → Prop, Inv = fun _ wI => (fun wI => wI = wd) wI := ⟨_, rfl⟩
                    have HI := Lib.hid hInv
                    have hcz : Hid (∀ τ wI, Inv τ wI → wI = wd) := by
                      intro τ wI h
                      rw [hInv] at h
                      exact h
                    have H00 : Hid (Inv Done.none wr.drew) := by rw [hInv]; exact hwd.symm
                    clear hInv hwd
                    refine wp_region_inv (by kernel_rfl) [⟨0, false, [], []⟩, ⟨1, false, [], []⟩, ⟨2, false, [], []⟩, ⟨3, false, [], []⟩, ⟨4, false, [], []⟩, ⟨5, false, [], []⟩, ⟨6, false, [], []⟩, ⟨7, false, [], []⟩, ⟨8, false, [], []⟩, ⟨9, false, [], []⟩, ⟨10, false, [], []⟩, ⟨11, false, [], []⟩, ⟨12, false, [], []⟩, ⟨13, false, [], []⟩, ⟨14, false, [], []⟩, ⟨15, false, [], []⟩, ⟨16, false, [], []⟩, ⟨17, false, [], []⟩, ⟨18, false, [], []⟩, ⟨19, false, [], []⟩, ⟨20, false, [], []⟩, ⟨21, false, [], []⟩, ⟨22, false, [], []⟩, ⟨23, false, [], []⟩, ⟨24, false, [], []⟩, ⟨25, false, [], []⟩, ⟨26, false, [], []⟩, ⟨27, false, [], []⟩] (by kernel_rfl) Inv (fun _ _ => True) (fun _ => ⟨undef, trivial⟩) H00.out ?_
                    iterate 28 (apply WpI.pure; (simp only [List.getElem?_toArray, List.getElem?_cons_succ, List.getElem?_cons_zero]; rfl); (intro τ wI hA hI; have f0 := hcz.out τ wI hI; have e1 := f0; clear f0; subst e1; have q1 := HC0.out.1; have q2 := HC0.out.2.1; have q3 := HC0.out.2.2.1; have q4 := HC0.out.2.2.2.1; have q5 := HC0.out.2.2.2.2; have q6 := HJ0.out.1; have q7 := HJ0.out.2.1; have q8 := HJ0.out.2.2; go_simp; exact ⟨hI, Is.rfl'⟩); simp only [Act.put, List.setIfInBounds_toArray, List.set_cons_zero, List.set_cons_succ])
                    refine WpI.done ?_
                    intro w8 hI
                    rw [HI.out] at hI
                    have hE := hI
                    have HB8 : Hid (Below w0.heap.size w0 w8) := Lib.hid (by rw [hE]; exact HBD.out)
                    clear hE hI hcz H00 HI HBD HC0 hb
                    go_wp2_with fail
                    go_roundg (n - (i + 1))
                    case measure => omega
                    case rel => exact ⟨i + 1, bs, true, rfl, rfl, by go_num, by omega, rfl, HN, HB8⟩
                  · have HC0 : Hid (wr.drew.cell? ⟨bl, ol + i, none⟩ = some (.string x) ∧ wr.drew.cell? ⟨bo, j1, none⟩ = some (.string cc) ∧ Op.bytesLess x.toList cc.toList = false ∧ (x.toList == cc.toList) = true ∧ Op.bytesLess x.toList bs.toList = false) := Lib.hid ⟨HCL.out _ hb.out.drew, HCO.out _ hb.out.drew, by rw [less_ltB]; exact decide_eq_false hxc, by rw [bool_or_not]; exact decide_eq_true hec, by rw [less_ltB]; exact decide_eq_false hxy⟩
                    have HN : Hid (least ((SU l).take (j1 + 1)) (l.drop (i + 1)) (bopt true bs) = (SU l)[j1 + 1]?) := Lib.hid (by rw [← hls.out, if_neg (fun h => hcx (h.1 cc hlast))])
                    clear hls
                    go_upto_region 8 with fail
                    obtain ⟨wd, hwd⟩ : ∃ wd, wd = wr.drew := ⟨_, rfl⟩
                    have HBD : Hid (Below w0.heap.size w0 wd) := Lib.hid (by rw [hwd]; exact hb.out.drew)
                    rw [← hwd] at HC0
                    try simp only [Act.put, List.setIfInBounds_toArray, List.set_cons_zero, List.set_cons_succ]
                    obtain ⟨Inv, hInv⟩ : ∃ Inv : Done → World → Prop, Inv = fun _ wI => (fun wI => wI = wd) wI := ⟨_, rfl⟩
                    have HI := Lib.hid hInv
                    have hcz : Hid (∀ τ wI, Inv τ wI → wI = wd) := by
                      intro τ wI h
                      rw [hInv] at h
                      exact h
                    have H00 : Hid (Inv Done.none wr.drew) := by rw [hInv]; exact hwd.symm
                    clear hInv hwd
                    refine wp_region_inv (by kernel_rfl) [⟨0, false, [], []⟩, ⟨1, false, [], []⟩, ⟨2, false, [], []⟩, ⟨3, false, [], []⟩, ⟨4, false, [], []⟩, ⟨5, false, [], []⟩, ⟨6, false, [], []⟩, ⟨7, false, [], []⟩, ⟨8, false, [], []⟩, ⟨9, false, [], []⟩, ⟨10, false, [], []⟩, ⟨11, false, [], []⟩, ⟨12, false, [], []⟩, ⟨13, false, [], []⟩, ⟨14, false, [], []⟩, ⟨15, false, [], []⟩, ⟨16, false, [], []⟩, ⟨17, false, [], []⟩, ⟨18, false, [], []⟩, ⟨19, false, [], []⟩, ⟨20, false, [], []⟩, ⟨21, false, [], []⟩, ⟨22, false, [], []⟩, ⟨23, false, [], []⟩, ⟨24, false, [], []⟩, ⟨25, false, [], []⟩, ⟨26, false, [], []⟩, ⟨27, false, [], []⟩] (by kernel_rfl) Inv (fun _ _ => True) (fun _ => ⟨undef, trivial⟩) H00.out ?_
                    iterate 28 (apply WpI.pure; (simp only [List.getElem?_toArray, List.getElem?_cons_succ, List.getElem?_cons_zero]; rfl); (intro τ wI hA hI; have f0 := hcz.out τ wI hI; have e1 := f0; clear f0; subst e1; have q1 := HC0.out.1; have q2 := HC0.out.2.1; have q3 := HC0.out.2.2.1; have q4 := HC0.out.2.2.2.1; have q5 := HC0.out.2.2.2.2; have q6 := HJ0.out.1; have q7 := HJ0.out.2.1; have q8 := HJ0.out.2.2; go_simp; exact ⟨hI, Is.rfl'⟩); simp only [Act.put, List.setIfInBounds_toArray, List.set_cons_zero, List.set_cons_succ])
                    refine WpI.done ?_
                    intro w8 hI
                    rw [HI.out] at hI
                    have hE := hI
                    have HB8 : Hid (Below w0.heap.size w0 w8) := Lib.hid (by rw [hE]; exact HBD.out)
                    clear hE hI hcz H00 HI HBD HC0 hb
                    go_wp2_with fail
                    go_roundg (n - (i + 1))
                    case measure => omega
                    case rel => exact ⟨i + 1, bs, true, rfl, rfl, by go_num, by omega, rfl, HN, HB8⟩
              · have hxc : ltB x cc := by
                  rcases ltB_tri x cc with h | h | h
                  · exact h
                  · exact (hec h).elim
                  · exact (hcx h).elim
                cases is with
                | false =>
                  by_cases hxy : ltB x bs
                  · have HC0 : Hid (wr.drew.cell? ⟨bl, ol + i, none⟩ = some (.string x) ∧ wr.drew.cell? ⟨bo, j1, none⟩ = some (.string cc) ∧ Op.bytesLess x.toList cc.toList = true ∧ (x.toList == cc.toList) = false ∧ Op.bytesLess x.toList bs.toList = true) := Lib.hid ⟨HCL.out _ hb.out.drew, HCO.out _ hb.out.drew, by rw [less_ltB]; exact decide_eq_true hxc, by rw [bool_or_not]; exact decide_eq_false hec, by rw [less_ltB]; exact decide_eq_true hxy⟩
                    have HN : Hid (least ((SU l).take (j1 + 1)) (l.drop (i + 1)) (bopt false bs) = (SU l)[j1 + 1]?) := Lib.hid (by rw [← hls.out, if_neg (fun h => hcx (h.1 cc hlast))])
                    clear hls
                    go_upto_region 8 with fail
                    obtain ⟨wd, hwd⟩ : ∃ wd, wd = wr.drew := ⟨_, rfl⟩
                    have HBD : Hid (Below w0.heap.size w0 wd) := Lib.hid (by rw [hwd]; exact hb.out.drew)
                    rw [← hwd] at HC0
                    try simp only [Act.put, List.setIfInBounds_toArray, List.set_cons_zero, List.set_cons_succ]
                    obtain ⟨Inv, hInv⟩ : ∃ Inv : Done → World → Prop, Inv = fun _ wI => (fun wI => wI = wd) wI := ⟨_, rfl⟩
                    have HI := Lib.hid hInv
                    have hcz : Hid (∀ τ wI, Inv τ wI → wI = wd) := by
                      intro τ wI h
                      rw [hInv] at h
                      exact h
                    have H00 : Hid (Inv Done.none wr.drew) := by rw [hInv]; exact hwd.symm
                    clear hInv hwd
                    refine wp_region_inv (by kernel_rfl) [⟨0, false, [], []⟩, ⟨1, false, [], []⟩, ⟨2, false, [], []⟩, ⟨3, false, [], []⟩, ⟨4, false, [], []⟩, ⟨5, false, [], []⟩, ⟨6, false, [], []⟩, ⟨7, false, [], []⟩, ⟨8, false, [], []⟩, ⟨9, false, [], []⟩, ⟨10, false, [], []⟩, ⟨11, false, [], []⟩, ⟨12, false, [], []⟩, ⟨13, false, [], []⟩, ⟨14, false, [], []⟩, ⟨15, false, [], []⟩, ⟨16, false, [], []⟩, ⟨17, false, [], []⟩, ⟨18, false, [], []⟩, ⟨19, false, [], []⟩, ⟨20, false, [], []⟩, ⟨21, false, [], []⟩, ⟨22, false, [], []⟩, ⟨23, false, [], []⟩, ⟨24, false, [], []⟩, ⟨25, false, [], []⟩, ⟨26, false, [], []⟩, ⟨27, false, [], []⟩] (by kernel_rfl) Inv (fun _ _ => True) (fun _ => ⟨undef, trivial⟩) H00.out ?_
                    iterate 28 (apply WpI.pure; (simp only [List.getElem?_toArray, List.getElem?_cons_succ, List.getElem?_cons_zero]; rfl); (intro τ wI hA hI; have f0 := hcz.out τ wI hI; have e1 := f0; clear f0; subst e1; have q1 := HC0.out.1; have q2 := HC0.out.2.1; have q3 := HC0.out.2.2.1; have q4 := HC0.out.2.2.2.1; have q5 := HC0.out.2.2.2.2; have q6 := HJ0.out.1; have q7 := HJ0.out.2.1; have q8 := HJ0.out.2.2; go_simp; exact ⟨hI, Is.rfl'⟩); simp only [Act.put, List.setIfInBounds_toArray, List.set_cons_zero, List.set_cons_succ])
                    refine WpI.done ?_
                    intro w8 hI
                    rw [HI.out] at hI
                    have hE := hI
                    have HB8 : Hid (Below w0.heap.size w0 w8) := Lib.hid (by rw [hE]; exact HBD.out)
                    clear hE hI hcz H00 HI HBD HC0 hb
                    go_wp2_with fail
                    go_roundg (n - (i + 1))
                    case measure => omega
                    case rel => exact ⟨i + 1, bs, false, rfl, rfl, by go_num, by omega, rfl, HN, HB8⟩
                  · have HC0 : Hid (wr.drew.cell? ⟨bl, ol + i, none⟩ = some (.string x) ∧ wr.drew.cell? ⟨bo, j1, none⟩ = some (.string cc) ∧ Op.bytesLess x.toList cc.toList = true ∧ (x.toList == cc.toList) = false ∧ Op.bytesLess x.toList bs.toList = false) := Lib.hid ⟨HCL.out _ hb.out.drew, HCO.out _ hb.out.drew, by rw [less_ltB]; exact decide_eq_true hxc, by rw [bool_or_not]; exact decide_eq_false hec, by rw [less_ltB]; exact decide_eq_false hxy⟩
                    have HN : Hid (least ((SU l).take (j1 + 1)) (l.drop (i + 1)) (bopt false bs) = (SU l)[j1 + 1]?) := Lib.hid (by rw [← hls.out, if_neg (fun h => hcx (h.1 cc hlast))])
                    clear hls
                    go_upto_region 8 with fail
                    obtain ⟨wd, hwd⟩ : ∃ wd, wd = wr.drew := ⟨_, rfl⟩
                    have HBD : Hid (Below w0.heap.size w0 wd) := Lib.hid (by rw [hwd]; exact hb.out.drew)
                    rw [← hwd] at HC0
                    try simp only [Act.put, List.setIfInBounds_toArray, List.set_cons_zero, List.set_cons_succ]
                    obtain ⟨Inv, hInv⟩ : ∃ Inv : Done → World → Prop, Inv = fun _ wI => (fun wI => wI = wd) wI := ⟨_, rfl⟩
                    have HI := Lib.hid hInv
                    have hcz : Hid (∀ τ wI, Inv τ wI → wI = wd) := by
                      intro τ wI h
                      rw [hInv] at h
                      exact h
                    have H00 : Hid (Inv Done.none wr.drew) := by rw [hInv]; exact hwd.symm
                    clear hInv hwd
                    refine wp_region_inv (by kernel_rfl) [⟨0, false, [], []⟩, ⟨1, false, [], []⟩, ⟨2, false, [], []⟩, ⟨3, false, [], []⟩, ⟨4, false, [], []⟩, ⟨5, false, [], []⟩, ⟨6, false, [], []⟩, ⟨7, false, [], []⟩, ⟨8, false, [], []⟩, ⟨9, false, [], []⟩, ⟨10, false, [], []⟩, ⟨11, false, [], []⟩, ⟨12, false, [], []⟩, ⟨13, false, [], []⟩, ⟨14, false, [], []⟩, ⟨15, false, [], []⟩, ⟨16, false, [], []⟩, ⟨17, false, [], []⟩, ⟨18, false, [], []⟩, ⟨19, false, [], []⟩, ⟨20, false, [], []⟩, ⟨21, false, [], []⟩, ⟨22, false, [], []⟩, ⟨23, false, [], []⟩, ⟨24, false, [], []⟩, ⟨25, false, [], []⟩, ⟨26, false, [], []⟩, ⟨27, false, [], []⟩] (by kernel_rfl) Inv (fun _ _ => True) (fun _ => ⟨undef, trivial⟩) H00.out ?_
                    iterate 28 (apply WpI.pure; (simp only [List.getElem?_toArray, List.getElem?_cons_succ, List.getElem?_cons_zero]; rfl); (intro τ wI hA hI; have f0 := hcz.out τ wI hI; have e1 := f0; clear f0; subst e1; have q1 := HC0.out.1; have q2 := HC0.out.2.1; have q3 := HC0.out.2.2.1; have q4 := HC0.out.2.2.2.1; have q5 := HC0.out.2.2.2.2; have q6 := HJ0.out.1; have q7 := HJ0.out.2.1; have q8 := HJ0.out.2.2; go_simp; exact ⟨hI, Is.rfl'⟩); simp only [Act.put, List.setIfInBounds_toArray, List.set_cons_zero, List.set_cons_succ])
                    refine WpI.done ?_
                    intro w8 hI
                    rw [HI.out] at hI
                    have hE := hI
                    have HB8 : Hid (Below w0.heap.size w0 w8) := Lib.hid (by rw [hE]; exact HBD.out)
                    clear hE hI hcz H00 HI HBD HC0 hb
                    go_wp2_with fail
                    go_roundg (n - (i + 1))
                    case measure => omega
                    case rel => exact ⟨i + 1, bs, false, rfl, rfl, by go_num, by omega, rfl, HN, HB8⟩
                | true =>
                  by_cases hxy : ltB x bs
                  · have HC0 : Hid (wr.drew.cell? ⟨bl, ol + i, none⟩ = some (.string x) ∧ wr.drew.cell? ⟨bo, j1, none⟩ = some (.string cc) ∧ Op.bytesLess x.toList cc.toList = true ∧ (x.toList == cc.toList) = false ∧ Op.bytesLess x.toList bs.toList = true) := Lib.hid ⟨HCL.out _ hb.out.drew, HCO.out _ hb.out.drew, by rw [less_ltB]; exact decide_eq_true hxc, by rw [bool_or_not]; exact decide_eq_false hec, by rw [less_ltB]; exact decide_eq_true hxy⟩
                    have HN : Hid (least ((SU l).take (j1 + 1)) (l.drop (i + 1)) (bopt true bs) = (SU l)[j1 + 1]?) := Lib.hid (by rw [← hls.out, if_neg (fun h => hcx (h.1 cc hlast))])
                    clear hls
                    go_upto_region 8 with fail
                    obtain ⟨wd, hwd⟩ : ∃ wd, wd = wr.drew := ⟨_, rfl⟩
                    have HBD : Hid (Below w0.heap.size w0 wd) := Lib.hid (by rw [hwd]; exact hb.out.drew)
                    rw [← hwd] at HC0
                    try simp only [Act.put, List.setIfInBounds_toArray, List.set_cons_zero, List.set_cons_succ]
                    obtain ⟨Inv, hInv⟩ : ∃ Inv : Done → World → Prop, Inv = fun _ wI => (fun wI => wI = wd) wI := ⟨_, rfl⟩
                    have HI := Lib.hid hInv
                    have hcz : Hid (∀ τ wI, Inv τ wI → wI = wd) := by
                      intro τ wI h
                      rw [hInv] at h
                      exact h
                    have H00 : Hid (Inv Done.none wr.drew) := by rw [hInv]; exact hwd.symm
                    clear hInv hwd
                    refine wp_region_inv (by kernel_rfl) [⟨0, false, [], []⟩, ⟨1, false, [], []⟩, ⟨2, false, [], []⟩, ⟨3, false, [], []⟩, ⟨4, false, [], []⟩, ⟨5, false, [], []⟩, ⟨6, false, [], []⟩, ⟨7, false, [], []⟩, ⟨8, false, [], []⟩, ⟨9, false, [], []⟩, ⟨10, false, [], []⟩, ⟨11, false, [], []⟩, ⟨12, false, [], []⟩, ⟨13, false, [], []⟩, ⟨14, false, [], []⟩, ⟨15, false, [], []⟩, ⟨16, false, [], []⟩, ⟨17, false, [], []⟩, ⟨18, false, [], []⟩, ⟨19, false, [], []⟩, ⟨20, false, [], []⟩, ⟨21, false, [], []⟩, ⟨22, false, [], []⟩, ⟨23, false, [], []⟩, ⟨24, false, [], []⟩, ⟨25, false, [], []⟩, ⟨26, false, [], []⟩, ⟨27, false, [], []⟩] (by kernel_rfl) Inv (fun _ _ => True) (fun _ => ⟨undef, trivial⟩) H00.out ?_
                    iterate 28 (apply WpI.pure; (simp only [List.getElem?_toArray, List.getElem?_cons_succ, List.getElem?_cons_zero]; rfl); (intro τ wI hA hI; have f0 := hcz.out τ wI hI; have e1 := f0; clear f0; subst e1; have q1 := HC0.out.1; have q2 := HC0.out.2.1; have q3 := HC0.out.2.2.1; have q4 := HC0.out.2.2.2.1; have q5 := HC0.out.2.2.2.2; have q6 := HJ0.out.1; have q7 := HJ0.out.2.1; have q8 := HJ0.out.2.2; go_simp; exact ⟨hI, Is.rfl'⟩); simp only [Act.put, List.setIfInBounds_toArray, List.set_cons_zero, List.set_cons_succ])
                    refine WpI.done ?_
                    intro w8 hI
                    rw [HI.out] at hI
                    have hE := hI
                    have HB8 : Hid (Below w0.heap.size w0 w8) := Lib.hid (by rw [hE]; exact HBD.out)
                    clear hE hI hcz H00 HI HBD HC0 hb
                    go_wp2_with fail
                    go_roundg (n - (i + 1))
                    case measure => omega
                    case rel => exact ⟨i + 1, bs, true, rfl, rfl, by go_num, by omega, rfl, HN, HB8⟩
                  · have HC0 : Hid (wr.drew.cell? ⟨bl, ol + i, none⟩ = some (.string x) ∧ wr.drew.cell? ⟨bo, j1, none⟩ = some (.string cc) ∧ Op.bytesLess x.toList cc.toList = true ∧ (x.toList == cc.toList) = false ∧ Op.bytesLess x.toList bs.toList = false) := Lib.hid ⟨HCL.out _ hb.out.drew, HCO.out _ hb.out.drew, by rw [less_ltB]; exact decide_eq_true hxc, by rw [bool_or_not]; exact decide_eq_false hec, by rw [less_ltB]; exact decide_eq_false hxy⟩
                    have HN : Hid (least ((SU l).take (j1 + 1)) (l.drop (i + 1)) (bopt true bs) = (SU l)[j1 + 1]?) := Lib.hid (by rw [← hls.out, if_neg (fun h => hcx (h.1 cc hlast))])
                    clear hls
                    go_upto_region 8 with fail
                    obtain ⟨wd, hwd⟩ : ∃ wd, wd = wr.drew := ⟨_, rfl⟩
                    have HBD : Hid (Below w0.heap.size w0 wd) := Lib.hid (by rw [hwd]; exact hb.out.drew)
                    rw [← hwd] at HC0
                    try simp only [Act.put, List.setIfInBounds_toArray, List.set_cons_zero, List.set_cons_succ]
                    obtain ⟨Inv, hInv⟩ : ∃ Inv : Done → World → Prop, Inv = fun _ wI => (fun wI => wI = wd) wI := ⟨_, rfl⟩
                    have HI := Lib.hid hInv
                    have hcz : Hid (∀ τ wI, Inv τ wI → wI = wd) := by
                      intro τ wI h
                      rw [hInv] at h
                      exact h
                    have H00 : Hid (Inv Done.none wr.drew) := by rw [hInv]; exact hwd.symm
                    clear hInv hwd
                    refine wp_region_inv (by kernel_rfl) [⟨0, false, [], []⟩, ⟨1, false, [], []⟩, ⟨2, false, [], []⟩, ⟨3, false, [], []⟩, ⟨4, false, [], []⟩, ⟨5, false, [], []⟩, ⟨6, false, [], []⟩, ⟨7, false, [], []⟩, ⟨8, false, [], []⟩, ⟨9, false, [], []⟩, ⟨10, false, [], []⟩, ⟨11, false, [], []⟩, ⟨12, false, [], []⟩, ⟨13, false, [], []⟩, ⟨14, false, [], []⟩, ⟨15, false, [], []⟩, ⟨16, false, [], []⟩, ⟨17, false, [], []⟩, ⟨18, false, [], []⟩, ⟨19, false, [], []⟩, ⟨20, false, [], []⟩, ⟨21, false, [], []⟩, ⟨22, false, [], []⟩, ⟨23, false, [], []⟩, ⟨24, false, [], []⟩, ⟨25, false, [], []⟩, ⟨26, false, [], []⟩, ⟨27, false, [], []⟩] (by kernel_rfl) Inv (fun _ _ => True) (fun _ => ⟨undef, trivial⟩) H00.out ?_
                    iterate 28 (apply WpI.pure; (simp only [List.getElem?_toArray, List.getElem?_cons_succ, List.getElem?_cons_zero]; rfl); (intro τ wI hA hI; have f0 := hcz.out τ wI hI; have e1 := f0; clear f0; subst e1; have q1 := HC0.out.1; have q2 := HC0.out.2.1; have q3 := HC0.out.2.2.1; have q4 := HC0.out.2.2.2.1; have q5 := HC0.out.2.2.2.2; have q6 := HJ0.out.1; have q7 := HJ0.out.2.1; have q8 := HJ0.out.2.2; go_simp; exact ⟨hI, Is.rfl'⟩); simp only [Act.put, List.setIfInBounds_toArray, List.set_cons_zero, List.set_cons_succ])
                    refine WpI.done ?_
                    intro w8 hI
                    rw [HI.out] at hI
                    have hE := hI
                    have HB8 : Hid (Below w0.heap.size w0 w8) := Lib.hid (by rw [hE]; exact HBD.out)
                    clear hE hI hcz H00 HI HBD HC0 hb
                    go_wp2_with fail
                    go_roundg (n - (i + 1))
                    case measure => omega
                    case rel => exact ⟨i + 1, bs, true, rfl, rfl, by go_num, by omega, rfl, HN, HB8⟩
        · obtain rfl : i = n := by omega
          have hls := hls.out
          rw [List.drop_of_length_le (by rw [HPL.out]; exact Nat.le_refl _)] at hls
          unfold least at hls
          have HO2 := Lib.hid (own_below HO.out hb.out)
          have HB2 := Lib.hid (HBW.out.trans (hb.out.mono HBW.out.size))
          cases is with
          | false =>
            have hm : (SU l).length ≤ j := by
              refine Classical.byContradiction fun hh => ?_
              rw [List.getElem?_eq_getElem (show j < (SU l).length by omega)] at hls
              cases hls
            have hjm : (SU l).length = j := by omega
            have HT : Hid ((SU l).take j = SU l) := Lib.hid (List.take_of_length_le hm)
            have HJM := Lib.hid hjm
            clear hls hm hjm hb
            go_wp2_with fail
            go_ret
            have h2 := HO2.out
            rw [HT.out, ← HJM.out] at h2
            refine ⟨.slice Ao j co, rfl, Ao, co, by rw [HJM.out], own_lower h2 (Nat.zero_le _), fun q hq => own_base h2 hq, HB2.out⟩
          | true =>
            have hz : (SU l)[j]? = some bs := hls.symm
            obtain ⟨hjl, hge⟩ := List.getElem?_eq_some_iff.1 hz
            have HTK : Hid ((SU l).take (j + 1) = (SU l).take j ++ [bs]) := Lib.hid (by rw [List.take_succ_eq_append_getElem hjl, hge])
            have HJL := Lib.hid hjl
            clear hls hz hge hb hjl
            go_wp2_with (at_builtin
                         refine wpList_app _ rfl (.tmp 53) (.tmp 55) 23 rfl 9 (.string ⟨#[]⟩) 1 16 Try.underlying23 infoStr rfl (by omega) (by omega) (.slice Ao j co) j (strs ((SU l).take j)) rfl
                           (own_lower (HO2.out.alloc _) (base' := 0) (Nat.zero_le _)) (fun q => q = wr.heap.size) (.slice (some ⟨wr.heap.size, 0, none⟩) 1 1) 1 [.string bs] rfl (Sl.one wr 9 _) (by simp [Value.oneCell']) (by omega) ?_
                         intro A8 c8 w8 o8 g8 at8 _
                         have HW8 := Lib.hid (And.intro o8 (And.intro g8 at8))
                         clear o8 g8 at8)
            go_roundg (i + 1 - (j + 1))
            case measure => omega
            case rel =>
              obtain ⟨k1, k2, k3⟩ := HW8.out
              have hmm : Mod (fun b => (Value.slice Ao j co).ownBlock = some b) wr w8 := ((Mod.refl _ _).alloc _).grown k2 (fun k hk _ => hk)
              refine ⟨j + 1, A8, c8, rfl, HJL.out, rfl, ?_, ?_⟩
              · rw [HTK.out, strs_append]
                refine Lib.hid (own_raise k1 (fun q hq => ?_))
                have hsz := HB2.out.size
                rcases k3 with e | e
                · rw [e] at hq; exact own_base HO2.out hq
                · rw [e] at hq; injection hq with hq; simp at hq; omega
              · exact Lib.hid (HB2.out.trans (hmm.below HB2.out.size (fun i hi => own_base HO2.out hi)))
    · obtain rfl : j = n := by omega
      have hjm : (SU l).length = j := by omega
      have HT : Hid ((SU l).take j = SU l) := Lib.hid (List.take_of_length_le (by omega))
      have HJM := Lib.hid hjm
      clear hjm
      go_wp2_with fail
      go_ret
      have h2 := ho.out
      rw [HT.out, ← HJM.out] at h2
      exact ⟨.slice Ao j co, rfl, Ao, co, by rw [HJM.out], own_lower h2 (Nat.zero_le _), fun q hq => own_base h2 hq, hbw.out⟩
end Go.Proofs.Ytcffmpjdonncgaa
