import Derived.Test.YtjdobjcbmmdjeaaR1
namespace Go.Proofs.Ytjdobjcbmmdjeaa
open Go.RowKit

/-- what it tells of sector n -/
def lastEv (ev : List (Int × List UInt8)) (n : Int) : Nat → Option (List UInt8)
  | 0 => none
  | i + 1 => match ev[i]? with | some x => if x.1 = n then some x.2 else lastEv ev n i | none => lastEv ev n i
def RDsk.get (R : RDsk) (n : Nat) : List UInt8 := match lastEv R.ev n R.ev.length with | some b => b | none => (R.first[n]?).getD []

theorem rflush_ok (w : World) (F : Nat → Prop) (r : Nat) (R : RDsk) (h : RefAt w F r R) (hev : R.ev.length ≤ 1000000000) :
    Calls Try.prog 22 #[.pointer (some ⟨r, 0, none⟩)] w fun e w' => e = .returned (.tuple #[]) ∧
      RefAt w' (fun b => F b ∨ (w.heap.size ≤ b ∧ b < w'.heap.size)) r ⟨R.first, R.ev ++ [(-1, [])]⟩ ∧ Mod F w w' := by
  obtain ⟨Af, cf, Ae, ce, c0, c1, hof, hoe, hlt⟩ := h.cell
  obtain ⟨vf, ve, hFr, hd, _⟩ := (id h : ∃ _, _)
  have HH := Lib.hid h
  have H0 := Lib.hid c0
  have H1 := Lib.hid c1
  have HE := Lib.hid hoe
  have HD := Lib.hid hd
  have f1 := hd.frozen 1
  clear h hof hoe hd c0
  go_enter Try.func22, Try.ntmps22
  go_wp2_with (at_builtin
               refine wpList_app _ rfl (.tmp 6) (.tmp 8) 88 rfl 93 _ 2 24 Try.underlying88 info93 rfl (by omega) (by omega) (.slice Ae R.ev.length ce) R.ev.length (EV R.ev) rfl
                 (HE.out.alloc _) (fun i => i = w.heap.size) (.slice (some ⟨w.heap.size, 0, none⟩) 1 1) 1 [.int .i64 (-1), .string ⟨#[]⟩] rfl
                 (Sl.of_blk (Blk.new w 93 #[.int .i64 (-1), .string ⟨#[]⟩]) 2 1 1 rfl (by omega)) (by simp [Value.oneCell']) (by omega) ?_
               intro Ae' ce' w2 hoe2 hg2 hat2 _
               have hm2 : Mod (fun i => (Value.slice Ae R.ev.length ce).ownBlock = some i) w w2 := ((Mod.refl _ _).alloc _).grown hg2 (fun k hk _ => hk)
               have hd2 : Blk w2 r 90 _ := HD.out.mod hm2 (fun e => own_blk_ne HE.out HD.out (by decide) e)
               have c22 : w2.cell? ⟨r, 1, none⟩ = some ve := by rw [hd2.cell]; rfl
               have f22 := hd2.frozen 1
               have hlt2 := hd2.lt
               have HW2 := Lib.hid (And.intro hoe2 (And.intro hm2 hat2))
               clear hd2 hoe2 hg2 hat2 hm2)
  go_end0
  obtain ⟨hoe2, hm2, hat2⟩ := HW2.out
  obtain ⟨k1, k2⟩ := HH.out.push H0.out H1.out (-1, []) hm2 hoe2 (hat2.imp id (fun e => ⟨_, e, by simp⟩))
  exact ⟨rfl, k1, k2⟩

theorem rwrite_out (w : World) (F : Nat → Prop) (r : Nat) (R : RDsk) (n : Int) (v : Value) (h : RefAt w F r R) (hn : ¬ (0 ≤ n ∧ n < (R.first.length : Int))) :
    Calls Try.prog 21 #[.pointer (some ⟨r, 0, none⟩), .int .i64 n, v] w fun e w' => e = .returned (.int .i64 2) ∧ w = w' := by
  have hh := h.has n
  rw [decide_eq_false hn] at hh
  have HH := Lib.hid hh
  clear hh h hn
  go_enter Try.func21, Try.ntmps21
  go_wp2_with fail
  refine HH.out.mono ?_
  rintro e w' ⟨rfl, rfl⟩
  go_wp2_with fail
  go_ret
  exact ⟨rfl, rfl⟩
theorem rwrite_odd (w : World) (F : Nat → Prop) (r : Nat) (R : RDsk) (n : Int) (A : Option Addr) (m c : Nat) (h : RefAt w F r R) (hm : m ≠ 256) :
    Calls Try.prog 21 #[.pointer (some ⟨r, 0, none⟩), .int .i64 n, .slice A m c] w fun e w' => e = .returned (.int .i64 2) ∧ w = w' := by
  by_cases hn : 0 ≤ n ∧ n < (R.first.length : Int)
  · have hh := h.has n
    rw [decide_eq_true hn] at hh
    have HH := Lib.hid hh
    have hmi : ((m : Int) == 256) = false := by simp; omega
    clear hh h hn
    go_enter Try.func21, Try.ntmps21
    go_wp2_with fail
    refine HH.out.mono ?_
    rintro e w' ⟨rfl, rfl⟩
    go_wp2_with fail
    go_ret
    exact ⟨rfl, rfl⟩
  · exact rwrite_out w F r R n _ h hn
set_option maxRecDepth 100000 in
theorem rwrite_ok (w : World) (F G : Nat → Prop) (r n : Nat) (R : RDsk) (A : Option Addr) (c : Nat) (bs : List UInt8) (h : RefAt w F r R) (hev : R.ev.length ≤ 1000000000) (hn : n < R.first.length) (hb : Sl w G 1 (.slice A 256 c) 256 (B8 bs)) :
    Calls Try.prog 21 #[.pointer (some ⟨r, 0, none⟩), .int .i64 n, .slice A 256 c] w fun e w' => e = .returned (.int .i64 0) ∧
      RefAt w' (fun b => F b ∨ (w.heap.size ≤ b ∧ b < w'.heap.size)) r ⟨R.first, R.ev ++ [((n : Int), bs)]⟩ ∧ Mod F w w' := by
  have hh := h.has n
  rw [decide_eq_true ⟨by omega, by omega⟩] at hh
  have HHas := Lib.hid hh
  have hconv := run_str w.drew _ 22 5 9 A 256 c bs Try.underlying22 Try.underlying5 Try.underlying9 hb
  obtain ⟨Af, cf, Ae, ce, c0, c1, hof, hoe, hlt⟩ := h.cell
  obtain ⟨vf, ve, hFr, hd, _⟩ := (id h : ∃ _, _)
  have HH := Lib.hid h
  have H0 := Lib.hid c0
  have H1 := Lib.hid c1
  have HE := Lib.hid hoe
  have HD := Lib.hid hd
  have HC := Lib.hid hconv
  have HEV := Lib.hid hev
  clear h hof hoe hd c0 c1 hh hconv hev hn hb
  go_enter Try.func21, Try.ntmps21
  go_wp2_with fail
  refine HHas.out.mono ?_
  rintro e w' ⟨rfl, rfl⟩
  go_upto_region 3 with fail
  try simp only [Act.put, List.setIfInBounds_toArray, List.set_cons_zero, List.set_cons_succ]
  obtain ⟨Inv, hInv⟩ : ∃ Inv : Done → World → Prop, Inv = Chain3 9 10 13 (fun wI => wI = w.drew) (fun x wI => x = .slice (some ⟨w.drew.heap.size, 0, none⟩) 1 1 ∧ wI = w.drew.alloc (.cells #[.int .i64 n, bstr bs] 93))
    (fun x y wI => (∃ A' c', y = .slice A' (R.ev.length + 1) c') ∧ Mod (fun i => (Value.slice Ae R.ev.length ce).ownBlock = some i) w wI ∧ wI.ownsRow 0 93 2 y (R.ev.length + 1) (EV R.ev ++ EV [((n : Int), bs)]) ∧ (y.ownBlock = (Value.slice Ae R.ev.length ce).ownBlock ∨ ∃ b, y.ownBlock = some b ∧ w.heap.size ≤ b))
    (fun x y z wI => RefAt wI (fun b => F b ∨ (w.heap.size ≤ b ∧ b < wI.heap.size)) r ⟨R.first, R.ev ++ [((n : Int), bs)]⟩ ∧ Mod F w wI) := ⟨_, rfl⟩
  have HI := Lib.hid hInv
  have hc1 : ∀ τ wI, Inv τ wI → τ 10 = none → Now (fun wI => wI.cell? ⟨r, 1, none⟩ = some (.slice Ae R.ev.length ce)) wI := by
    intro τ wI h h10
    rw [hInv] at h
    rcases h.upto1 h10 with rfl | ⟨x, rfl, rfl⟩
    · exact H1.out
    · have := (HD.out.drew.alloc (.cells #[.int .i64 n, bstr bs] 93)).cell 1
      have h2 := HD.out.cell 1
      rw [H1.out] at h2
      exact this.trans h2.symm
  have HC1 := Lib.hid hc1
  have H00 : Hid (Inv Done.none w.drew) := by rw [hInv]; exact Chain3.start rfl
  clear hInv hc1
  refine wp_region_inv (by kernel_rfl) [⟨0, false, [], [13]⟩, ⟨1, false, [], [10, 13]⟩, ⟨2, false, [], [10, 13]⟩, ⟨3, false, [], [10, 13]⟩, ⟨4, false, [], [10, 13]⟩, ⟨5, false, [], [9, 10, 13]⟩, ⟨6, false, [], [9, 10, 13]⟩, ⟨7, false, [], [9, 10, 13]⟩, ⟨8, false, [], [9, 10, 13]⟩, ⟨9, true, [], [10, 13]⟩, ⟨10, true, [9], [13]⟩, ⟨11, false, [9, 10], [13]⟩, ⟨12, false, [9, 10], [13]⟩, ⟨13, true, [9, 10], []⟩] (by kernel_rfl) Inv (fun _ _ => True) (fun _ => ⟨undef, trivial⟩) H00.out ?_
  iterate 4 (apply WpI.pure; (simp only [List.getElem?_toArray, List.getElem?_cons_succ, List.getElem?_cons_zero]; rfl); (intro τ wI hA hI; go_simp; exact ⟨hI, Is.rfl'⟩); simp only [Act.put, List.setIfInBounds_toArray, List.set_cons_zero, List.set_cons_succ])
  (apply WpI.pure; (simp only [List.getElem?_toArray, List.getElem?_cons_succ, List.getElem?_cons_zero]; rfl); (intro τ wI hA hI; have hc : wI.cell? ⟨r, 1, none⟩ = some (.slice Ae R.ev.length ce) := HC1.out τ wI hI (hA.2 10 (by decide)); go_simp; exact ⟨hI, Is.rfl'⟩); simp only [Act.put, List.setIfInBounds_toArray, List.set_cons_zero, List.set_cons_succ])
  iterate 2 (apply WpI.pure; (simp only [List.getElem?_toArray, List.getElem?_cons_succ, List.getElem?_cons_zero]; rfl); (intro τ wI hA hI; go_simp; exact ⟨hI, Is.rfl'⟩); simp only [Act.put, List.setIfInBounds_toArray, List.set_cons_zero, List.set_cons_succ])
  (apply WpI.pure; (simp only [List.getElem?_toArray, List.getElem?_cons_succ, List.getElem?_cons_zero]; rfl); (intro τ wI hA hI; have h0 := hI; rw [HI.out] at h0; have h0 := h0.at0 (hA.2 9 (by decide)) (hA.2 10 (by decide)) (hA.2 13 (by decide)); have hc := HC.out; rw [← h0] at hc; clear h0; go_simp; exact ⟨hI, Is.rfl'⟩); simp only [Act.put, List.setIfInBounds_toArray, List.set_cons_zero, List.set_cons_succ])
  (apply WpI.pure; (simp only [List.getElem?_toArray, List.getElem?_cons_succ, List.getElem?_cons_zero]; rfl); (intro τ wI hA hI; go_simp; exact ⟨hI, Is.rfl'⟩); simp only [Act.put, List.setIfInBounds_toArray, List.set_cons_zero, List.set_cons_succ])
  apply WpI.effect; (simp only [List.getElem?_toArray, List.getElem?_cons_succ, List.getElem?_cons_zero]; rfl)
  · intro τ wI hA hn hI
    have h0 := hI
    rw [HI.out] at h0
    have h0 := h0.at0 hn (hA.2 10 (by decide)) (hA.2 13 (by decide))
    have HA := Lib.hid (And.intro (hA.2 10 (by decide)) (hA.2 13 (by decide)))
    subst h0
    clear hA hn hI
    go_simp
    rw [HI.out]
    exact Chain3.put1 HA.out.1 (by decide) HA.out.2 (by decide) ⟨rfl, rfl⟩
  intro v9 hv9
  clear hv9
  simp only [Act.put, List.setIfInBounds_toArray, List.set_cons_zero, List.set_cons_succ]
  apply WpI.effect; (simp only [List.getElem?_toArray, List.getElem?_cons_succ, List.getElem?_cons_zero]; rfl)
  · intro τ wI hA hn hI
    rw [HI.out] at hI ⊢
    have h9 : τ 9 = some v9 := hA.1 9 (by decide)
    have h13 : τ 13 = none := hA.2 13 (by decide)
    obtain ⟨rfl, rfl⟩ := hI.at1 h9 hn h13
    refine runs_app rfl (.tmp 20) (.tmp 25) 88 rfl 93 _ 2 24 Try.underlying88 info93 rfl (by omega) (by omega) (.slice Ae R.ev.length ce) R.ev.length (EV R.ev) rfl (HE.out.alloc _) (fun i => i = w.drew.heap.size) _ 1 [.int .i64 n, bstr bs] rfl
      (Sl.of_blk (Blk.new w.drew 93 #[.int .i64 n, bstr bs]) 2 1 1 rfl (by omega)) (by simp [Value.oneCell']) (by have := HEV.out; omega) ?_
    intro A' c' w' o1 o2 o3 _
    refine ⟨trivial, Chain3.put2 h9 (by decide) h13 (by decide) ⟨⟨_, _, rfl⟩, ((Mod.refl _ _).drew.alloc _).trans o2 (fun _ _ h => h), o1, o3.imp id (fun e => ⟨_, e, by simp⟩)⟩⟩
  intro v10 hv10
  clear hv10
  simp only [Act.put, List.setIfInBounds_toArray, List.set_cons_zero, List.set_cons_succ]
  iterate 2 (apply WpI.pure; (simp only [List.getElem?_toArray, List.getElem?_cons_succ, List.getElem?_cons_zero]; rfl); (intro τ wI hA hI; go_simp; exact ⟨hI, Is.rfl'⟩); simp only [Act.put, List.setIfInBounds_toArray, List.set_cons_zero, List.set_cons_succ])
  apply WpI.effect; (simp only [List.getElem?_toArray, List.getElem?_cons_succ, List.getElem?_cons_zero]; rfl)
  · intro τ wI hA hn hI
    have h0 := hI
    rw [HI.out] at h0
    have h9 : τ 9 = some v9 := hA.1 9 (by decide)
    have h10 : τ 10 = some v10 := hA.1 10 (by decide)
    obtain ⟨⟨A', c', rfl⟩, o1, o2, o3⟩ := h0.at2 h9 h10 hn
    have hd2 := HD.out.mod o1 (fun e => own_blk_ne HE.out HD.out (by decide) e)
    have d1 : wI.cell? ⟨r, 1, none⟩ = some ve := by rw [hd2.cell]; rfl
    have f1 := hd2.frozen 1
    have hl2 := hd2.lt
    obtain ⟨k1, k2⟩ := HH.out.push H0.out H1.out ((n : Int), bs) o1 o2 o3
    have HK := Lib.hid (And.intro k1 (And.intro k2 (And.intro h9 h10)))
    clear k1 k2 o1 o2 o3 hd2 h0 hI h9 h10 hn hA
    go_simp
    rw [HI.out]
    exact Chain3.put3 HK.out.2.2.1 (by decide) HK.out.2.2.2 (by decide) ⟨HK.out.1, HK.out.2.1⟩
  intro v13 hv13
  clear hv13
  refine WpI.done ?_
  intro wI hI
  rw [HI.out] at hI
  have HK := Lib.hid (hI.end_ (by decide) (by decide) (by decide))
  clear hI
  go_wp2_with fail
  go_ret
  exact ⟨rfl, HK.out.1, HK.out.2⟩
end Go.Proofs.Ytjdobjcbmmdjeaa
