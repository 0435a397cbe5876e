/- RefdbX: the reference's Order, by hand. -/
import Derived.Test.YtcffmpjdonncgaaG12
import Derived.Test.YtcffmpjdonncgaaR1
namespace Go.Proofs.Ytcffmpjdonncgaa
open Go.RowKit Go.Proofs.YtcffmpjdonncgaaW.PrintWords
open Go.Proofs.Ytcffmpjdonncgaa.PRef

theorem rhas_ok (w : World) (A : Option Addr) (n c : Nat) (l : List ByteArray) (s : ByteArray) (h : Kd.C Kd.string w A n l) (hc : n ≤ c) (hn : n ≤ 1000000000) :
    Calls Try.prog 36 #[.slice A n c, .string s] w fun e w' => e = .returned (.bool (inB l s)) ∧ Below w.heap.size w w' := by
  obtain rfl : l.length = n := h.1
  obtain ⟨k, hk⟩ := (has_ev hn s).at
  refine (stillroomref12_has.calls k A c l s _ w h hc hk).mono ?_
  rintro e w' ⟨rfl, hd⟩
  exact ⟨rfl, hd.below⟩
theorem ord_full {l : List S33} {out : List ByteArray} (h : Ord l out) (hl : l.length ≤ out.length) : OrdDone l out := by
  refine ⟨h, ?_⟩
  cases hr : readyL l out with
  | nil => rfl
  | cons p rest =>
    obtain ⟨x, hx, e, ho, _⟩ := readyL_mem.1 (show p ∈ readyL l out by rw [hr]; exact List.mem_cons_self)
    subst e
    have hnd : (x.f0 :: out).Nodup := List.nodup_cons.2 ⟨ho, h.nodup⟩
    have := hnd.length_le_of_subset (l₂ := l.map (·.f0)) (fun s hs => by
      rcases List.mem_cons.1 hs with rfl | hs
      · exact List.mem_map.2 ⟨x, hx, rfl⟩
      · exact h.key s hs)
    simp at this
    omega

open Classical in
theorem lr_cons (out : List ByteArray) (x : S33) (r : List S33) (b : Option ByteArray) : lr out (x :: r) b = lr out r (if x.f0 ∉ out ∧ (∀ y, b = some y → ltB x.f0 y) ∧ rdy out x then some x.f0 else b) := rfl
theorem lr_nil (out : List ByteArray) (b : Option ByteArray) : lr out [] b = b := rfl

set_option maxRecDepth 100000 in
set_option maxHeartbeats 8000000 in
theorem rorder_ok (w : World) (A : Option Addr) (n c : Nat) (l : List S33) (h : Kd.C k33 w A n l) (hc : n ≤ c) (hn : n ≤ 4096) (hf : ∀ x ∈ l, x.f3.length ≤ 1000000) :
    Calls Try.prog 23 #[.slice A n c] w fun e w' => ∃ v out, OrdDone l out ∧ e = .returned (.tuple #[v, .int .i64 (ordErr l out)]) ∧ Made w (ordOut l out) v w' := by
  obtain ⟨hln, _, hcells⟩ := info_at h
  have HLN := Lib.hid hln
  have HCE := Lib.hid hcells
  have HF := Lib.hid hf
  clear hln hcells hf h
  go_enter Try.func23, Try.ntmps23
  go_wp2_with fail
  go_loopg [4] (n + 1) (fun kq ov wr => ∃ (out : List ByteArray) (Ao : Option Addr) (co : Nat), ov = .slice Ao out.length co ∧ out.length ≤ n ∧ kq = n + 1 - out.length ∧ Hid (Ord l out) ∧ Hid (wr.ownsRow w.heap.size 9 1 (.slice Ao out.length co) out.length (strs out)) ∧ Hid (Below w.heap.size w wr))
  case atStart => exact ⟨[], none, 0, rfl, Nat.zero_le _, rfl, Lib.hid .nil, Lib.hid ⟨by simp [strs], .inl ⟨rfl, rfl⟩⟩, Lib.hid (Below.refl _ _)⟩
  case round =>
    obtain ⟨out, Ao, co, rfl, hol, rfl, hord, ho, hbw⟩ := hrel
    by_cases hjn : out.length < n
    · obtain ⟨w0, hw0⟩ : ∃ w0, w0 = wr := ⟨_, rfl⟩
      rw [← hw0] at ho hbw
      have HO := ho
      have HBW := hbw
      have HSTART : Hid (Below w0.heap.size w0 wr) := Lib.hid (by rw [hw0]; exact Below.refl _ _)
      have HH : Hid (∀ s wx, Below w0.heap.size w0 wx → Calls Try.prog 36 #[.slice Ao out.length co, .string s] wx fun e w' => e = .returned (.bool (inB out s)) ∧ Below w0.heap.size w0 w') := Lib.hid fun s wx hxb => by
        have ho2 := own_below HO.out hxb
        obtain ⟨_, _, hv, hcap, _⟩ := own_form ho2
        simp only [Value.slice.injEq] at hv
        refine (rhas_ok wx Ao out.length co out s (C_of_own ho2 (by omega)) (by rw [hv.2.2]; exact hcap) (by omega)).mono ?_
        rintro e w' ⟨rfl, hb'⟩
        exact ⟨rfl, hxb.trans (hb'.mono hxb.size)⟩
      clear ho hbw hw0
      go_wp2_with fail
      go_loopg [5, 6, 7] n (fun kq bv sv iv wr => ∃ (i : Nat) (bs : ByteArray) (is : Bool), bv = .string bs ∧ sv = .bool is ∧ iv = .int .i64 i ∧ i ≤ n ∧ kq = n - i ∧ Hid (lr out (l.drop i) (bopt is bs) = lr out l none) ∧ Hid (Below w0.heap.size w0 wr))
      case atStart => exact ⟨0, ⟨#[]⟩, false, rfl, rfl, rfl, Nat.zero_le _, rfl, Lib.hid rfl, HSTART⟩
      case round =>
        clear HSTART
        obtain ⟨i, bs, is, rfl, rfl, rfl, hi, rfl, hls, hb⟩ := hrel
        by_cases hin : i < n
        · obtain ⟨b, o, rfl, hbl, hcl⟩ := HCE.out (by omega)
          obtain ⟨x, hx⟩ : ∃ x, l[i]? = some x := ⟨_, List.getElem?_eq_getElem (by rw [HLN.out]; exact hin)⟩
          obtain ⟨A3, c3, hx0, _, _, hx3, hs3⟩ := hcl i x hx
          have HX : Hid (∀ wx, Below w0.heap.size w0 wx → wx.cell? ⟨b, o + i * 4, none⟩ = some (.string x.f0) ∧ wx.cell? ⟨b, o + i * 4 + 3, none⟩ = some (.slice A3 x.f3.length c3)) := Lib.hid fun wx hxb =>
            have h2 := HBW.out.trans (hxb.mono HBW.out.size)
            ⟨(h2.cell (p := ⟨b, _, none⟩) hbl).trans hx0, (h2.cell (p := ⟨b, _, none⟩) hbl).trans hx3⟩
          have HS3 := Lib.hid (hs3.lt (by omega))
          have hxl := HF.out x (List.mem_of_getElem? hx)
          obtain ⟨hil, hge⟩ := List.getElem?_eq_some_iff.1 hx
          have hls := hls.out
          rw [List.drop_eq_getElem_cons hil, hge] at hls
          rw [lr_cons] at hls
          have HLS := Lib.hid hls
          have q20 := (HX.out wr hb.out).1
          clear hcl hx hil hge hls hx0 hx3 hs3
          by_cases hno : x.f0 ∈ out
          · have HN : Hid (lr out (l.drop (i + 1)) (bopt is bs) = lr out l none) := Lib.hid (by rw [← HLS.out, if_neg (fun h => h.1 hno)])
            have HHX := Lib.hid (HH.out x.f0 wr hb.out)
            rw [inB_iff.2 hno] at HHX
            clear HLS
            go_wp2_with fail
            refine HHX.out.mono ?_
            rintro e w2 ⟨rfl, hb2⟩
            have hb2 := Lib.hid hb2
            go_wp2_with fail
            go_roundg (n - (i + 1))
            case measure => omega
            case rel => exact ⟨i + 1, bs, is, rfl, rfl, by go_num, by omega, rfl, HN, hb2⟩
          · have HHX := Lib.hid (HH.out x.f0 wr hb.out)
            rw [inB_no hno] at HHX
            cases is with
            | false =>
              go_wp2_with fail
              refine HHX.out.mono ?_
              rintro e w2 ⟨rfl, hb2⟩
              have hb2 := Lib.hid hb2
              clear HHX q20 hb
              go_wp2_with fail
              go_loopg [8, 9] x.f3.length (fun kq rv kv wr => ∃ (k : Nat) (rb : Bool), rv = .bool rb ∧ kv = .int .i64 k ∧ k ≤ x.f3.length ∧ kq = x.f3.length - k ∧ Hid (rb = true ↔ ∀ t ∈ x.f3.take k, t ≠ x.f0 → t ∈ out) ∧ Hid (Below w0.heap.size w0 wr))
              case atStart => exact ⟨0, true, rfl, rfl, Nat.zero_le _, rfl, Lib.hid ⟨fun _ t ht => by simp at ht, fun _ => rfl⟩, hb2⟩
              case round =>
                clear hb2
                obtain ⟨k, rb, rfl, rfl, hk, rfl, hrb, hb3⟩ := hrel
                have q30 := (HX.out wr hb3.out).1
                have q31 := (HX.out wr hb3.out).2
                by_cases hkl : k < x.f3.length
                · obtain ⟨b3, o3, rfl, hb3l, hc3⟩ := Sl_cells HS3.out (by omega)
                  obtain ⟨t, ht⟩ : ∃ t, x.f3[k]? = some t := ⟨_, List.getElem?_eq_getElem hkl⟩
                  have HT : Hid (∀ wx, Below w0.heap.size w0 wx → wx.cell? ⟨b3, o3 + k, none⟩ = some (.string t)) := Lib.hid fun wx hxb => (hxb.cell (p := ⟨b3, _, none⟩) (Nat.lt_of_lt_of_le hb3l.2 HBW.out.size)).trans ((HBW.out.cell (p := ⟨b3, _, none⟩) hb3l.2).trans (hc3 k t ht))
                  have HTK : Hid (x.f3.take (k + 1) = x.f3.take k ++ [t]) := Lib.hid (by
                    obtain ⟨h1, h2⟩ := List.getElem?_eq_some_iff.1 ht
                    rw [List.take_succ_eq_append_getElem h1, h2])
                  have hrb := hrb.out
                  clear hc3 ht hb3l
                  cases rb with
                  | false =>
                    have HRB : Hid (¬ ∀ t ∈ x.f3.take (k + 1), t ≠ x.f0 → t ∈ out) := Lib.hid (fun h => absurd (hrb.2 (fun u hu => h u (by rw [HTK.out]; exact List.mem_append_left _ hu))) (by simp))
                    clear hrb
                    go_upto_region 13 with fail
                    try simp only [Act.put, List.setIfInBounds_toArray, List.set_cons_zero, List.set_cons_succ]
                    obtain ⟨Inv, hInv⟩ : ∃ Inv : Done → World → Prop, Inv = fun _ wI => (fun wI => Below w0.heap.size w0 wI) wI := ⟨_, rfl⟩
                    have HI := Lib.hid hInv
                    have hcz : Hid (∀ τ wI, Inv τ wI → Below w0.heap.size w0 wI) := by
                      intro τ wI h
                      rw [hInv] at h
                      exact h
                    have H00 : Hid (Inv Done.none wr.drew) := by rw [hInv]; exact hb3.out.drew
                    clear hInv
                    refine wp_region_inv (by kernel_rfl) [⟨0, false, [], []⟩, ⟨1, false, [], []⟩, ⟨2, false, [], []⟩, ⟨3, false, [], []⟩, ⟨4, false, [], []⟩, ⟨5, false, [], []⟩, ⟨6, false, [], []⟩, ⟨7, false, [], []⟩, ⟨8, false, [], []⟩, ⟨9, false, [], []⟩, ⟨10, false, [], []⟩, ⟨11, false, [], []⟩, ⟨12, false, [], []⟩, ⟨13, false, [], []⟩, ⟨14, false, [], []⟩, ⟨15, false, [], []⟩, ⟨16, false, [], []⟩, ⟨17, false, [], []⟩, ⟨18, false, [], []⟩, ⟨19, false, [], []⟩, ⟨20, false, [], []⟩, ⟨21, false, [], []⟩, ⟨22, false, [], []⟩, ⟨23, false, [], []⟩, ⟨24, false, [], []⟩, ⟨25, false, [], []⟩, ⟨26, false, [], []⟩, ⟨27, false, [], []⟩, ⟨28, false, [], []⟩, ⟨29, false, [], []⟩] (by kernel_rfl) Inv (fun _ _ => True) (fun _ => ⟨undef, trivial⟩) H00.out ?_
                    iterate 30 (apply WpI.pure; (simp only [List.getElem?_toArray, List.getElem?_cons_succ, List.getElem?_cons_zero]; rfl); (intro τ wI hA hI; have f0 := hcz.out τ wI hI; skip; go_simp; exact ⟨hI, Is.rfl'⟩); simp only [Act.put, List.setIfInBounds_toArray, List.set_cons_zero, List.set_cons_succ])
                    refine WpI.done ?_
                    intro w8 hI
                    rw [HI.out] at hI
                    have hE := hI
                    have HB8 : Hid (Below w0.heap.size w0 w8) := Lib.hid hE
                    clear hE hI hcz H00 HI hb3
                    go_wp2_with fail
                    go_roundg (x.f3.length - (k + 1))
                    case measure => omega
                    case rel => exact ⟨k + 1, false, rfl, by go_num, by omega, rfl, (Lib.hid ⟨fun h => by simp at h, fun h => absurd h HRB.out⟩), HB8⟩
                  | true =>
                    by_cases htx : t = x.f0
                    · have HQ : Hid ((t.toList == x.f0.toList) = true) := Lib.hid (by rw [bool_or_not]; exact decide_eq_true htx)
                      have HRB : Hid (∀ t ∈ x.f3.take (k + 1), t ≠ x.f0 → t ∈ out) := Lib.hid (fun u hu hne => by
                          rw [HTK.out] at hu
                          rcases List.mem_append.1 hu with hu | hu
                          · exact hrb.1 rfl u hu hne
                          · rw [List.mem_singleton] at hu; exact (hne (hu.trans htx)).elim)
                      clear hrb
                      go_upto_region 13 with fail
                      try simp only [Act.put, List.setIfInBounds_toArray, List.set_cons_zero, List.set_cons_succ]
                      obtain ⟨Inv, hInv⟩ : ∃ Inv : Done → World → Prop, Inv = fun _ wI => (fun wI => Below w0.heap.size w0 wI) wI := ⟨_, rfl⟩
                      have HI := Lib.hid hInv
                      have hcz : Hid (∀ τ wI, Inv τ wI → Below w0.heap.size w0 wI) := by
                        intro τ wI h
                        rw [hInv] at h
                        exact h
                      have H00 : Hid (Inv Done.none wr.drew) := by rw [hInv]; exact hb3.out.drew
                      clear hInv
                      refine wp_region_inv (by kernel_rfl) [⟨0, false, [], []⟩, ⟨1, false, [], []⟩, ⟨2, false, [], []⟩, ⟨3, false, [], []⟩, ⟨4, false, [], []⟩, ⟨5, false, [], []⟩, ⟨6, false, [], []⟩, ⟨7, false, [], []⟩, ⟨8, false, [], []⟩, ⟨9, false, [], []⟩, ⟨10, false, [], []⟩, ⟨11, false, [], []⟩, ⟨12, false, [], []⟩, ⟨13, false, [], []⟩, ⟨14, false, [], []⟩, ⟨15, false, [], []⟩, ⟨16, false, [], []⟩, ⟨17, false, [], []⟩, ⟨18, false, [], []⟩, ⟨19, false, [], []⟩, ⟨20, false, [], []⟩, ⟨21, false, [], []⟩, ⟨22, false, [], []⟩, ⟨23, false, [], []⟩, ⟨24, false, [], []⟩, ⟨25, false, [], []⟩, ⟨26, false, [], []⟩, ⟨27, false, [], []⟩, ⟨28, false, [], []⟩, ⟨29, false, [], []⟩] (by kernel_rfl) Inv (fun _ _ => True) (fun _ => ⟨undef, trivial⟩) H00.out ?_
                      iterate 30 (apply WpI.pure; (simp only [List.getElem?_toArray, List.getElem?_cons_succ, List.getElem?_cons_zero]; rfl); (intro τ wI hA hI; have f0 := hcz.out τ wI hI; have q1 := (HX.out wI f0).1; have q2 := (HX.out wI f0).2; have q3 := HT.out wI f0; have q4 := HQ.out; go_simp; exact ⟨hI, Is.rfl'⟩); simp only [Act.put, List.setIfInBounds_toArray, List.set_cons_zero, List.set_cons_succ])
                      refine WpI.done ?_
                      intro w8 hI
                      rw [HI.out] at hI
                      have hE := hI
                      have HB8 : Hid (Below w0.heap.size w0 w8) := Lib.hid hE
                      clear hE hI hcz H00 HI hb3
                      go_wp2_with fail
                      go_roundg (x.f3.length - (k + 1))
                      case measure => omega
                      case rel => exact ⟨k + 1, true, rfl, by go_num, by omega, rfl, (Lib.hid ⟨fun _ => HRB.out, fun _ => rfl⟩), HB8⟩
                    · have HQ : Hid ((t.toList == x.f0.toList) = false) := Lib.hid (by rw [bool_or_not]; exact decide_eq_false htx)
                      have HRB : Hid (inB out t = true ↔ ∀ t ∈ x.f3.take (k + 1), t ≠ x.f0 → t ∈ out) := Lib.hid (⟨fun h u hu hne => by
                          rw [HTK.out] at hu
                          rcases List.mem_append.1 hu with hu | hu
                          · exact hrb.1 rfl u hu hne
                          · rw [List.mem_singleton] at hu; rw [hu]; exact inB_iff.1 h, fun h => inB_iff.2 (h t (by rw [HTK.out]; simp) htx)⟩)
                      clear hrb
                      go_upto_region 13 with fail
                      try simp only [Act.put, List.setIfInBounds_toArray, List.set_cons_zero, List.set_cons_succ]
                      obtain ⟨Inv, hInv⟩ : ∃ Inv : Done → World → Prop, Inv = fun _ wI => (fun wI => Below w0.heap.size w0 wI) wI := ⟨_, rfl⟩
                      have HI := Lib.hid hInv
                      have hcz : Hid (∀ τ wI, Inv τ wI → Below w0.heap.size w0 wI) := by
                        intro τ wI h
                        rw [hInv] at h
                        exact h
                      have H00 : Hid (Inv Done.none wr.drew) := by rw [hInv]; exact hb3.out.drew
                      clear hInv
                      refine wp_region_inv (by kernel_rfl) [⟨0, false, [], []⟩, ⟨1, false, [], []⟩, ⟨2, false, [], []⟩, ⟨3, false, [], []⟩, ⟨4, false, [], []⟩, ⟨5, false, [], []⟩, ⟨6, false, [], []⟩, ⟨7, false, [], []⟩, ⟨8, false, [], []⟩, ⟨9, false, [], []⟩, ⟨10, false, [], []⟩, ⟨11, false, [], []⟩, ⟨12, false, [], []⟩, ⟨13, false, [], []⟩, ⟨14, false, [], []⟩, ⟨15, false, [], []⟩, ⟨16, false, [], []⟩, ⟨17, false, [], []⟩, ⟨18, false, [], []⟩, ⟨19, false, [], []⟩, ⟨20, false, [], []⟩, ⟨21, false, [], []⟩, ⟨22, false, [], []⟩, ⟨23, false, [], []⟩, ⟨24, false, [], []⟩, ⟨25, false, [], []⟩, ⟨26, false, [], []⟩, ⟨27, false, [], []⟩, ⟨28, false, [], []⟩, ⟨29, false, [], []⟩] (by kernel_rfl) Inv (fun _ _ => True) (fun _ => ⟨undef, trivial⟩) H00.out ?_
                      iterate 26 (apply WpI.pure; (simp only [List.getElem?_toArray, List.getElem?_cons_succ, List.getElem?_cons_zero]; rfl); (intro τ wI hA hI; have f0 := hcz.out τ wI hI; have q1 := (HX.out wI f0).1; have q2 := (HX.out wI f0).2; have q3 := HT.out wI f0; have q4 := HQ.out; go_simp; exact ⟨hI, Is.rfl'⟩); simp only [Act.put, List.setIfInBounds_toArray, List.set_cons_zero, List.set_cons_succ])
                      (apply WpI.pure; (simp only [List.getElem?_toArray, List.getElem?_cons_succ, List.getElem?_cons_zero]; rfl); (intro τ wI hA hI; have f0 := hcz.out τ wI hI; go_simp; refine ((HH.out _ wI f0).mono ?_); rintro e w' ⟨rfl, hb'⟩; exact ⟨_, rfl, by rw [HI.out]; exact hb', Is.rfl'⟩); simp only [Act.put, List.setIfInBounds_toArray, List.set_cons_zero, List.set_cons_succ])
                      iterate 3 (apply WpI.pure; (simp only [List.getElem?_toArray, List.getElem?_cons_succ, List.getElem?_cons_zero]; rfl); (intro τ wI hA hI; have f0 := hcz.out τ wI hI; have q1 := (HX.out wI f0).1; have q2 := (HX.out wI f0).2; have q3 := HT.out wI f0; have q4 := HQ.out; go_simp; exact ⟨hI, Is.rfl'⟩); simp only [Act.put, List.setIfInBounds_toArray, List.set_cons_zero, List.set_cons_succ])
                      refine WpI.done ?_
                      intro w8 hI
                      rw [HI.out] at hI
                      have hE := hI
                      have HB8 : Hid (Below w0.heap.size w0 w8) := Lib.hid hE
                      clear hE hI hcz H00 HI hb3
                      go_wp2_with fail
                      go_roundg (x.f3.length - (k + 1))
                      case measure => omega
                      case rel => exact ⟨k + 1, inB out t, rfl, by go_num, by omega, rfl, HRB, HB8⟩
                · obtain rfl : k = x.f3.length := by omega
                  have hrb := hrb.out
                  rw [List.take_length] at hrb
                  have hls := HLS.out
                  cases rb with
                  | true =>
                    have HN : Hid (lr out (l.drop (i + 1)) (bopt true x.f0) = lr out l none) := Lib.hid (by rw [← hls, if_pos ⟨hno, (fun y hy => by cases hy), hrb.1 rfl⟩]; rfl)
                    clear hls hrb q30
                    have q30 := (HX.out wr hb3.out).1
                    go_wp2_with fail
                    go_roundg (n - (i + 1))
                    case measure => omega
                    case rel => exact ⟨i + 1, x.f0, true, rfl, rfl, by go_num, by omega, rfl, HN, hb3⟩
                  | false =>
                    have HN : Hid (lr out (l.drop (i + 1)) (bopt false bs) = lr out l none) := Lib.hid (by rw [← hls, if_neg (fun h => absurd (hrb.2 h.2.2) (by simp))])
                    clear hls hrb
                    go_wp2_with fail
                    go_roundg (n - (i + 1))
                    case measure => omega
                    case rel => exact ⟨i + 1, bs, false, rfl, rfl, by go_num, by omega, rfl, HN, hb3⟩
            | true =>
              by_cases hxy : ltB x.f0 bs
              · have HXY : Hid (Op.bytesLess x.f0.toList bs.toList = true) := Lib.hid (by rw [less_ltB]; exact decide_eq_true hxy)
                go_wp2_with fail
                refine HHX.out.mono ?_
                rintro e w2 ⟨rfl, hb2⟩
                have q21 := (HX.out w2 hb2).1
                have q22 := HXY.out
                have hb2 := Lib.hid hb2
                clear HHX q20 hb
                go_wp2_with fail
                go_loopg [8, 9] x.f3.length (fun kq rv kv wr => ∃ (k : Nat) (rb : Bool), rv = .bool rb ∧ kv = .int .i64 k ∧ k ≤ x.f3.length ∧ kq = x.f3.length - k ∧ Hid (rb = true ↔ ∀ t ∈ x.f3.take k, t ≠ x.f0 → t ∈ out) ∧ Hid (Below w0.heap.size w0 wr))
                case atStart => exact ⟨0, true, rfl, rfl, Nat.zero_le _, rfl, Lib.hid ⟨fun _ t ht => by simp at ht, fun _ => rfl⟩, hb2⟩
                case round =>
                  clear hb2
                  obtain ⟨k, rb, rfl, rfl, hk, rfl, hrb, hb3⟩ := hrel
                  have q30 := (HX.out wr hb3.out).1
                  have q31 := (HX.out wr hb3.out).2
                  by_cases hkl : k < x.f3.length
                  · obtain ⟨b3, o3, rfl, hb3l, hc3⟩ := Sl_cells HS3.out (by omega)
                    obtain ⟨t, ht⟩ : ∃ t, x.f3[k]? = some t := ⟨_, List.getElem?_eq_getElem hkl⟩
                    have HT : Hid (∀ wx, Below w0.heap.size w0 wx → wx.cell? ⟨b3, o3 + k, none⟩ = some (.string t)) := Lib.hid fun wx hxb => (hxb.cell (p := ⟨b3, _, none⟩) (Nat.lt_of_lt_of_le hb3l.2 HBW.out.size)).trans ((HBW.out.cell (p := ⟨b3, _, none⟩) hb3l.2).trans (hc3 k t ht))
                    have HTK : Hid (x.f3.take (k + 1) = x.f3.take k ++ [t]) := Lib.hid (by
                      obtain ⟨h1, h2⟩ := List.getElem?_eq_some_iff.1 ht
                      rw [List.take_succ_eq_append_getElem h1, h2])
                    have hrb := hrb.out
                    clear hc3 ht hb3l
                    cases rb with
                    | false =>
                      have HRB : Hid (¬ ∀ t ∈ x.f3.take (k + 1), t ≠ x.f0 → t ∈ out) := Lib.hid (fun h => absurd (hrb.2 (fun u hu => h u (by rw [HTK.out]; exact List.mem_append_left _ hu))) (by simp))
                      clear hrb
                      go_upto_region 13 with fail
                      try simp only [Act.put, List.setIfInBounds_toArray, List.set_cons_zero, List.set_cons_succ]
                      obtain ⟨Inv, hInv⟩ : ∃ Inv : Done → World → Prop, Inv = fun _ wI => (fun wI => Below w0.heap.size w0 wI) wI := ⟨_, rfl⟩
                      have HI := Lib.hid hInv
                      have hcz : Hid (∀ τ wI, Inv τ wI → Below w0.heap.size w0 wI) := by
                        intro τ wI h
                        rw [hInv] at h
                        exact h
                      have H00 : Hid (Inv Done.none wr.drew) := by rw [hInv]; exact hb3.out.drew
                      clear hInv
                      refine wp_region_inv (by kernel_rfl) [⟨0, false, [], []⟩, ⟨1, false, [], []⟩, ⟨2, false, [], []⟩, ⟨3, false, [], []⟩, ⟨4, false, [], []⟩, ⟨5, false, [], []⟩, ⟨6, false, [], []⟩, ⟨7, false, [], []⟩, ⟨8, false, [], []⟩, ⟨9, false, [], []⟩, ⟨10, false, [], []⟩, ⟨11, false, [], []⟩, ⟨12, false, [], []⟩, ⟨13, false, [], []⟩, ⟨14, false, [], []⟩, ⟨15, false, [], []⟩, ⟨16, false, [], []⟩, ⟨17, false, [], []⟩, ⟨18, false, [], []⟩, ⟨19, false, [], []⟩, ⟨20, false, [], []⟩, ⟨21, false, [], []⟩, ⟨22, false, [], []⟩, ⟨23, false, [], []⟩, ⟨24, false, [], []⟩, ⟨25, false, [], []⟩, ⟨26, false, [], []⟩, ⟨27, false, [], []⟩, ⟨28, false, [], []⟩, ⟨29, false, [], []⟩] (by kernel_rfl) Inv (fun _ _ => True) (fun _ => ⟨undef, trivial⟩) H00.out ?_
                      iterate 30 (apply WpI.pure; (simp only [List.getElem?_toArray, List.getElem?_cons_succ, List.getElem?_cons_zero]; rfl); (intro τ wI hA hI; have f0 := hcz.out τ wI hI; skip; go_simp; exact ⟨hI, Is.rfl'⟩); simp only [Act.put, List.setIfInBounds_toArray, List.set_cons_zero, List.set_cons_succ])
                      refine WpI.done ?_
                      intro w8 hI
                      rw [HI.out] at hI
                      have hE := hI
                      have HB8 : Hid (Below w0.heap.size w0 w8) := Lib.hid hE
                      clear hE hI hcz H00 HI hb3
                      go_wp2_with fail
                      go_roundg (x.f3.length - (k + 1))
                      case measure => omega
                      case rel => exact ⟨k + 1, false, rfl, by go_num, by omega, rfl, (Lib.hid ⟨fun h => by simp at h, fun h => absurd h HRB.out⟩), HB8⟩
                    | true =>
                      by_cases htx : t = x.f0
                      · have HQ : Hid ((t.toList == x.f0.toList) = true) := Lib.hid (by rw [bool_or_not]; exact decide_eq_true htx)
                        have HRB : Hid (∀ t ∈ x.f3.take (k + 1), t ≠ x.f0 → t ∈ out) := Lib.hid (fun u hu hne => by
                            rw [HTK.out] at hu
                            rcases List.mem_append.1 hu with hu | hu
                            · exact hrb.1 rfl u hu hne
                            · rw [List.mem_singleton] at hu; exact (hne (hu.trans htx)).elim)
                        clear hrb
                        go_upto_region 13 with fail
                        try simp only [Act.put, List.setIfInBounds_toArray, List.set_cons_zero, List.set_cons_succ]
                        obtain ⟨Inv, hInv⟩ : ∃ Inv : Done → World → Prop, Inv = fun _ wI => (fun wI => Below w0.heap.size w0 wI) wI := ⟨_, rfl⟩
                        have HI := Lib.hid hInv
                        have hcz : Hid (∀ τ wI, Inv τ wI → Below w0.heap.size w0 wI) := by
                          intro τ wI h
                          rw [hInv] at h
                          exact h
                        have H00 : Hid (Inv Done.none wr.drew) := by rw [hInv]; exact hb3.out.drew
                        clear hInv
                        refine wp_region_inv (by kernel_rfl) [⟨0, false, [], []⟩, ⟨1, false, [], []⟩, ⟨2, false, [], []⟩, ⟨3, false, [], []⟩, ⟨4, false, [], []⟩, ⟨5, false, [], []⟩, ⟨6, false, [], []⟩, ⟨7, false, [], []⟩, ⟨8, false, [], []⟩, ⟨9, false, [], []⟩, ⟨10, false, [], []⟩, ⟨11, false, [], []⟩, ⟨12, false, [], []⟩, ⟨13, false, [], []⟩, ⟨14, false, [], []⟩, ⟨15, false, [], []⟩, ⟨16, false, [], []⟩, ⟨17, false, [], []⟩, ⟨18, false, [], []⟩, ⟨19, false, [], []⟩, ⟨20, false, [], []⟩, ⟨21, false, [], []⟩, ⟨22, false, [], []⟩, ⟨23, false, [], []⟩, ⟨24, false, [], []⟩, ⟨25, false, [], []⟩, ⟨26, false, [], []⟩, ⟨27, false, [], []⟩, ⟨28, false, [], []⟩, ⟨29, false, [], []⟩] (by kernel_rfl) Inv (fun _ _ => True) (fun _ => ⟨undef, trivial⟩) H00.out ?_
                        iterate 30 (apply WpI.pure; (simp only [List.getElem?_toArray, List.getElem?_cons_succ, List.getElem?_cons_zero]; rfl); (intro τ wI hA hI; have f0 := hcz.out τ wI hI; have q1 := (HX.out wI f0).1; have q2 := (HX.out wI f0).2; have q3 := HT.out wI f0; have q4 := HQ.out; go_simp; exact ⟨hI, Is.rfl'⟩); simp only [Act.put, List.setIfInBounds_toArray, List.set_cons_zero, List.set_cons_succ])
                        refine WpI.done ?_
                        intro w8 hI
                        rw [HI.out] at hI
                        have hE := hI
                        have HB8 : Hid (Below w0.heap.size w0 w8) := Lib.hid hE
                        clear hE hI hcz H00 HI hb3
                        go_wp2_with fail
                        go_roundg (x.f3.length - (k + 1))
                        case measure => omega
                        case rel => exact ⟨k + 1, true, rfl, by go_num, by omega, rfl, (Lib.hid ⟨fun _ => HRB.out, fun _ => rfl⟩), HB8⟩
                      · have HQ : Hid ((t.toList == x.f0.toList) = false) := Lib.hid (by rw [bool_or_not]; exact decide_eq_false htx)
                        have HRB : Hid (inB out t = true ↔ ∀ t ∈ x.f3.take (k + 1), t ≠ x.f0 → t ∈ out) := Lib.hid (⟨fun h u hu hne => by
                            rw [HTK.out] at hu
                            rcases List.mem_append.1 hu with hu | hu
                            · exact hrb.1 rfl u hu hne
                            · rw [List.mem_singleton] at hu; rw [hu]; exact inB_iff.1 h, fun h => inB_iff.2 (h t (by rw [HTK.out]; simp) htx)⟩)
                        clear hrb
                        go_upto_region 13 with fail
                        try simp only [Act.put, List.setIfInBounds_toArray, List.set_cons_zero, List.set_cons_succ]
                        obtain ⟨Inv, hInv⟩ : ∃ Inv : Done → World → Prop, Inv = fun _ wI => (fun wI => Below w0.heap.size w0 wI) wI := ⟨_, rfl⟩
                        have HI := Lib.hid hInv
                        have hcz : Hid (∀ τ wI, Inv τ wI → Below w0.heap.size w0 wI) := by
                          intro τ wI h
                          rw [hInv] at h
                          exact h
                        have H00 : Hid (Inv Done.none wr.drew) := by rw [hInv]; exact hb3.out.drew
                        clear hInv
                        refine wp_region_inv (by kernel_rfl) [⟨0, false, [], []⟩, ⟨1, false, [], []⟩, ⟨2, false, [], []⟩, ⟨3, false, [], []⟩, ⟨4, false, [], []⟩, ⟨5, false, [], []⟩, ⟨6, false, [], []⟩, ⟨7, false, [], []⟩, ⟨8, false, [], []⟩, ⟨9, false, [], []⟩, ⟨10, false, [], []⟩, ⟨11, false, [], []⟩, ⟨12, false, [], []⟩, ⟨13, false, [], []⟩, ⟨14, false, [], []⟩, ⟨15, false, [], []⟩, ⟨16, false, [], []⟩, ⟨17, false, [], []⟩, ⟨18, false, [], []⟩, ⟨19, false, [], []⟩, ⟨20, false, [], []⟩, ⟨21, false, [], []⟩, ⟨22, false, [], []⟩, ⟨23, false, [], []⟩, ⟨24, false, [], []⟩, ⟨25, false, [], []⟩, ⟨26, false, [], []⟩, ⟨27, false, [], []⟩, ⟨28, false, [], []⟩, ⟨29, false, [], []⟩] (by kernel_rfl) Inv (fun _ _ => True) (fun _ => ⟨undef, trivial⟩) H00.out ?_
                        iterate 26 (apply WpI.pure; (simp only [List.getElem?_toArray, List.getElem?_cons_succ, List.getElem?_cons_zero]; rfl); (intro τ wI hA hI; have f0 := hcz.out τ wI hI; have q1 := (HX.out wI f0).1; have q2 := (HX.out wI f0).2; have q3 := HT.out wI f0; have q4 := HQ.out; go_simp; exact ⟨hI, Is.rfl'⟩); simp only [Act.put, List.setIfInBounds_toArray, List.set_cons_zero, List.set_cons_succ])
                        (apply WpI.pure; (simp only [List.getElem?_toArray, List.getElem?_cons_succ, List.getElem?_cons_zero]; rfl); (intro τ wI hA hI; have f0 := hcz.out τ wI hI; go_simp; refine ((HH.out _ wI f0).mono ?_); rintro e w' ⟨rfl, hb'⟩; exact ⟨_, rfl, by rw [HI.out]; exact hb', Is.rfl'⟩); simp only [Act.put, List.setIfInBounds_toArray, List.set_cons_zero, List.set_cons_succ])
                        iterate 3 (apply WpI.pure; (simp only [List.getElem?_toArray, List.getElem?_cons_succ, List.getElem?_cons_zero]; rfl); (intro τ wI hA hI; have f0 := hcz.out τ wI hI; have q1 := (HX.out wI f0).1; have q2 := (HX.out wI f0).2; have q3 := HT.out wI f0; have q4 := HQ.out; go_simp; exact ⟨hI, Is.rfl'⟩); simp only [Act.put, List.setIfInBounds_toArray, List.set_cons_zero, List.set_cons_succ])
                        refine WpI.done ?_
                        intro w8 hI
                        rw [HI.out] at hI
                        have hE := hI
                        have HB8 : Hid (Below w0.heap.size w0 w8) := Lib.hid hE
                        clear hE hI hcz H00 HI hb3
                        go_wp2_with fail
                        go_roundg (x.f3.length - (k + 1))
                        case measure => omega
                        case rel => exact ⟨k + 1, inB out t, rfl, by go_num, by omega, rfl, HRB, HB8⟩
                  · obtain rfl : k = x.f3.length := by omega
                    have hrb := hrb.out
                    rw [List.take_length] at hrb
                    have hls := HLS.out
                    cases rb with
                    | true =>
                      have HN : Hid (lr out (l.drop (i + 1)) (bopt true x.f0) = lr out l none) := Lib.hid (by rw [← hls, if_pos ⟨hno, (fun y hy => by injection hy with hy; subst hy; exact hxy), hrb.1 rfl⟩]; rfl)
                      clear hls hrb q30
                      have q30 := (HX.out wr hb3.out).1
                      go_wp2_with fail
                      go_roundg (n - (i + 1))
                      case measure => omega
                      case rel => exact ⟨i + 1, x.f0, true, rfl, rfl, by go_num, by omega, rfl, HN, hb3⟩
                    | false =>
                      have HN : Hid (lr out (l.drop (i + 1)) (bopt true bs) = lr out l none) := Lib.hid (by rw [← hls, if_neg (fun h => absurd (hrb.2 h.2.2) (by simp))])
                      clear hls hrb
                      go_wp2_with fail
                      go_roundg (n - (i + 1))
                      case measure => omega
                      case rel => exact ⟨i + 1, bs, true, rfl, rfl, by go_num, by omega, rfl, HN, hb3⟩
              · have HXY : Hid (Op.bytesLess x.f0.toList bs.toList = false) := Lib.hid (by rw [less_ltB]; exact decide_eq_false hxy)
                have HN : Hid (lr out (l.drop (i + 1)) (bopt true bs) = lr out l none) := Lib.hid (by rw [← HLS.out, if_neg (fun h => hxy (h.2.1 bs rfl))])
                clear HLS
                go_wp2_with fail
                refine HHX.out.mono ?_
                rintro e w2 ⟨rfl, hb2⟩
                have q21 := (HX.out w2 hb2).1
                have q22 := HXY.out
                have hb2 := Lib.hid hb2
                clear HHX q20 hb
                go_wp2_with fail
                go_roundg (n - (i + 1))
                case measure => omega
                case rel => exact ⟨i + 1, bs, true, rfl, rfl, by go_num, by omega, rfl, HN, hb2⟩
        · obtain rfl : i = n := by omega
          have hls := hls.out
          rw [List.drop_of_length_le (by rw [HLN.out]; exact Nat.le_refl _), lr_head, lr_nil] at hls
          have HO2 := Lib.hid (own_below HO.out hb.out)
          have HB2 := Lib.hid (HBW.out.trans (hb.out.mono HBW.out.size))
          cases is with
          | false =>
            have HDN : Hid (OrdDone l out ∧ ordErr l out = 16 ∧ ordOut l out = []) := Lib.hid (by
              have h1 : (readyL l out).head? = none := hls.symm
              have hlt : out.length < l.length := by rw [HLN.out]; exact hjn
              exact ⟨⟨hord.out, by cases hr : readyL l out with
                | nil => rfl
                | cons p r => rw [hr] at h1; cases h1⟩, by unfold ordErr; rw [if_pos hlt], by unfold ordOut; rw [if_pos hlt]⟩)
            clear hls hb hord
            go_wp2_with fail
            go_ret2
            refine ⟨.slice none 0 0, out, HDN.out.1, by rw [HDN.out.2.1]; rfl, ?_⟩
            rw [HDN.out.2.2]
            exact ⟨none, 0, rfl, own_nil0 _ _ _, fun b hb => by simp [Value.ownBlock] at hb, HB2.out⟩
          | true =>
            have HZ : Hid (∃ rest, readyL l out = bs :: rest) := Lib.hid (by
              have h1 : (readyL l out).head? = some bs := hls.symm
              cases hr : readyL l out with
              | nil => rw [hr] at h1; cases h1
              | cons p r =>
                rw [hr] at h1
                injection h1 with h1
                subst h1
                exact ⟨r, rfl⟩)
            clear hls hb
            go_wp2_with (at_builtin
                         refine wpList_app _ rfl (.tmp 87) (.tmp 89) 23 rfl 9 (.string ⟨#[]⟩) 1 16 Try.underlying23 infoStr rfl (by omega) (by omega) (.slice Ao out.length co) out.length (strs out) rfl
                           (own_lower (HO2.out.alloc _) (base' := 0) (Nat.zero_le _)) (fun q => q = wr.heap.size) (.slice (some ⟨wr.heap.size, 0, none⟩) 1 1) 1 [.string bs] rfl (Sl.one wr 9 _) (by simp [Value.oneCell']) (by omega) ?_
                         intro A8 c8 w8 o8 g8 at8 _
                         have HW8 := Lib.hid (And.intro o8 (And.intro g8 at8))
                         clear o8 g8 at8)
            go_roundg (i + 1 - (out.length + 1))
            case measure => omega
            case rel =>
              obtain ⟨k1, k2, k3⟩ := HW8.out
              obtain ⟨rest, hrest⟩ := HZ.out
              have hmm : Mod (fun b => (Value.slice Ao out.length co).ownBlock = some b) wr w8 := ((Mod.refl _ _).alloc _).grown k2 (fun k hk _ => hk)
              refine ⟨out ++ [bs], A8, c8, by simp, by simp; omega, by simp, Lib.hid (.snoc hord.out hrest), ?_, ?_⟩
              · rw [strs_append]
                have k1' := own_raise k1 (base' := w.heap.size) (fun q hq => ?_)
                · rw [List.length_append, List.length_singleton]
                  exact Lib.hid k1'
                have hsz := HB2.out.size
                rcases k3 with e | e
                · rw [e] at hq; exact own_base HO2.out hq
                · rw [e] at hq; injection hq with hq; simp at hq; omega
              · exact Lib.hid (HB2.out.trans (hmm.below HB2.out.size (fun i hi => own_base HO2.out hi)))
    · have HDN : Hid (OrdDone l out ∧ ordErr l out = 0 ∧ ordOut l out = out) := Lib.hid (by
        have hlt : ¬ out.length < l.length := by rw [HLN.out]; exact hjn
        exact ⟨ord_full hord.out (by omega), by unfold ordErr; rw [if_neg hlt], by unfold ordOut; rw [if_neg hlt]⟩)
      clear hord
      go_wp2_with fail
      go_ret2
      refine ⟨.slice Ao out.length co, out, HDN.out.1, by rw [HDN.out.2.1]; rfl, ?_⟩
      rw [HDN.out.2.2]
      exact ⟨Ao, co, rfl, own_lower ho.out (Nat.zero_le _), fun q hq => own_base ho.out hq, hbw.out⟩
end Go.Proofs.Ytcffmpjdonncgaa
