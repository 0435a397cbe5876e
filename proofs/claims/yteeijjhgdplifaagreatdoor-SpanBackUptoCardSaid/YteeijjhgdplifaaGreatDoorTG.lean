/- Spans: Not, Same, Empty. -/
import Derived.Test.YteeijjhgdplifaaGreatDoorTF
namespace Go.Proofs.YteeijjhgdplifaaGreatDoor
open Go.RowKit

theorem all_prs : Prs allCuts := by
  intro c hc
  rcases List.mem_cons.1 hc with rfl | hc
  · exact botC_pr
  · rw [List.mem_singleton.1 hc]; exact topC_pr
set_option maxRecDepth 100000 in
theorem spNot_ok (B g : Nat) (s : List Cut) (hs : Prs s) (ls : s.length ≤ 100000) (w : World) (h : SpAt w B g s) :
    Calls Tryz.prog 8 #[sp0 g] w fun e w' => ∃ gr, e = .returned (sp0 gr) ∧ ∃ cs, SpAt w' w.heap.size gr cs ∧ Merged (fun a b => a && !b) allCuts s cs ∧ Below w.heap.size w w' := by
  have H := Lib.hid h
  clear h
  go_enter Tryz.func8, Tryz.ntmps8
  go_wp2_with fail
  refine (spAll_ok w).mono ?_
  rintro e w1 ⟨ga, rfl, ha, hb⟩
  have HM := Lib.hid (merge_ok 25 (fun a b => a && !b) rfl (enters_of Tryz.func25 (by kernel_rfl) rfl) fnNot_ok _ ga B g allCuts s all_prs hs (by decide) ls w1 ha (H.out.below hb))
  have HB := Lib.hid hb
  clear ha hb
  go_wp2_with fail
  refine HM.out.mono ?_
  rintro e w' ⟨gr, cs, rfl, h1, h2, h3⟩
  have HS := Lib.hid (h1.lower HB.out.size)
  have HB2 : Hid (Below w.heap.size w w') := Lib.hid (HB.out.trans (h3.mono HB.out.size))
  clear h1 h3
  go_wp2_with fail
  go_ret
  exact ⟨gr, rfl, cs, HS.out, h2, HB2.out⟩
set_option maxRecDepth 100000 in
theorem same_ok (B1 g1 B2 g2 : Nat) (s o : List Cut) (ls : s.length ≤ 100000) (lo : o.length ≤ 100000) (w : World) (h1 : SpAt w B1 g1 s) (h2 : SpAt w B2 g2 o) :
    Calls Tryz.prog 9 #[sp0 g1, sp0 g2] w fun e w' => e = .returned (.bool (decide (s = o))) ∧ Below w.heap.size w w' := by
  have N1 := Lib.hid h1.none
  have N2 := Lib.hid h2.none
  obtain ⟨hok1, _, A1, c1, kb1, ho1, _⟩ := h1
  obtain ⟨hok2, _, A2, c2, kb2, ho2, _⟩ := h2
  obtain ⟨E, hE⟩ : ∃ E, E = decide (s = o) := ⟨_, rfl⟩
  obtain ⟨n, hn⟩ : ∃ n, n = s.length := ⟨_, rfl⟩
  obtain ⟨m, hm⟩ : ∃ m, m = o.length := ⟨_, rfl⟩
  rw [← hn] at kb1 ho1 ls
  rw [← hm] at kb2 ho2 lo
  have e1 : ∀ wI, Below w.heap.size w wI → wI.cell? ⟨g1, 1, none⟩ = some (.slice A1 n c1) := fun wI hb => by rw [(kb1.below' hb).cell]; rfl
  have e2 : ∀ wI, Below w.heap.size w wI → wI.cell? ⟨g2, 1, none⟩ = some (.slice A2 m c2) := fun wI hb => by rw [(kb2.below' hb).cell]; rfl
  have HEQ : Hid (∀ wI, Below w.heap.size w wI → Calls Tryz.prog 27 #[.slice A1 n c1, .slice A2 m c2] wI fun e w' => e = .returned (.bool E) ∧ Below wI.heap.size wI w') := Lib.hid (fun wI hb => by
    rw [hE]
    exact equal_ok s o hok1 hok2 A1 A2 n c1 m c2 hn.symm hm.symm (by omega) (by omega) _ _ wI ((Sl.of_own ho1).below (by decide) hb) ((Sl.of_own ho2).below (by decide) hb))
  have HCF : Hid (∀ wI, Below w.heap.size w wI → wI.cell? ⟨g1, 1, none⟩ = some (.slice A1 n c1) ∧ wI.cell? ⟨g2, 1, none⟩ = some (.slice A2 m c2)) := Lib.hid (fun wI hb => ⟨e1 wI hb, e2 wI hb⟩)
  rw [← hE]
  clear hok1 hok2 kb1 kb2 ho1 ho2 hn hm e1 e2 hE
  go_enter Tryz.func9, Tryz.ntmps9
  go_wp2_with fail
  refine (none_ok (sp0 g1) false w N1.out).mono ?_
  rintro e w' ⟨rfl, rfl⟩
  go_wp2_with fail
  refine (none_ok (sp0 g2) false w N2.out).mono ?_
  rintro e w' ⟨rfl, rfl⟩
  clear N1 N2
  go_upto_region 3 with fail
  try simp only [Act.put, List.setIfInBounds_toArray, List.set_cons_zero, List.set_cons_succ]
  obtain ⟨Inv, hInv⟩ : ∃ Inv : Done → World → Prop, Inv = fun _ wI => (fun wI => Below w.heap.size w wI) wI := ⟨_, rfl⟩
  have HI := Lib.hid hInv
  have hcz : Hid (∀ τ wI, Inv τ wI → Below w.heap.size w wI ∧ wI.cell? ⟨g1, 1, none⟩ = some (.slice A1 n c1) ∧ wI.cell? ⟨g2, 1, none⟩ = some (.slice A2 m c2)) := by
    intro τ wI h
    rw [hInv] at h
    exact ⟨h, HCF.out wI h⟩
  have H00 : Hid (Inv Done.none w.drew) := by rw [hInv]; exact (Below.refl _ _).drew
  clear hInv
  refine wp_region_inv (by kernel_rfl) [⟨0, false, [], []⟩, ⟨1, false, [], []⟩, ⟨2, false, [], []⟩, ⟨3, false, [], []⟩, ⟨4, false, [], []⟩, ⟨5, false, [], []⟩, ⟨6, false, [], []⟩, ⟨7, false, [], []⟩, ⟨8, false, [], []⟩, ⟨9, false, [], []⟩] (by kernel_rfl) Inv (fun _ _ => True) (fun _ => ⟨undef, trivial⟩) H00.out ?_
  iterate 8 (apply WpI.pure; (simp only [List.getElem?_toArray, List.getElem?_cons_succ, List.getElem?_cons_zero]; rfl); (intro τ wI hA hI; obtain ⟨f0, f1, f2⟩ := hcz.out τ wI hI; go_simp; exact ⟨hI, Is.rfl'⟩); simp only [Act.put, List.setIfInBounds_toArray, List.set_cons_zero, List.set_cons_succ])
  (apply WpI.pure; (simp only [List.getElem?_toArray, List.getElem?_cons_succ, List.getElem?_cons_zero]; rfl); (intro τ wI hA hI; obtain ⟨f0, f1, f2⟩ := hcz.out τ wI hI; go_simp; refine (HEQ.out wI f0).mono ?_; rintro e w' ⟨rfl, hb⟩; refine ⟨_, rfl, ?_, Is.rfl'⟩; rw [HI.out]; exact f0.trans (hb.mono f0.size)); simp only [Act.put, List.setIfInBounds_toArray, List.set_cons_zero, List.set_cons_succ])
  (apply WpI.pure; (simp only [List.getElem?_toArray, List.getElem?_cons_succ, List.getElem?_cons_zero]; rfl); (intro τ wI hA hI; obtain ⟨f0, f1, f2⟩ := hcz.out τ wI hI; go_simp; exact ⟨hI, Is.rfl'⟩); simp only [Act.put, List.setIfInBounds_toArray, List.set_cons_zero, List.set_cons_succ])
  refine WpI.done ?_
  intro w3 hI
  rw [HI.out] at hI
  have hE := hI
  have HB3 : Hid (Below w.heap.size w w3) := Lib.hid hE
  clear hI hE hcz H00 HI HCF HEQ
  go_wp2_with fail
  go_ret
  exact ⟨rfl, HB3.out⟩
set_option maxRecDepth 100000 in
theorem empty_ok (B g : Nat) (s : List Cut) (w : World) (h : SpAt w B g s) :
    Calls Tryz.prog 14 #[sp0 g] w fun e w' => e = .returned (.bool (decide (s = []))) ∧ w = w' := by
  have N1 := Lib.hid h.none
  obtain ⟨hok1, _, A1, c1, kb1, ho1, _⟩ := h
  have f1 : w.cell? ⟨g, 1, none⟩ = some (.slice A1 s.length c1) := by rw [kb1.cell]; rfl
  have l1 := kb1.lt
  clear hok1 kb1 ho1
  cases s with
  | nil =>
    go_enter Tryz.func14, Tryz.ntmps14
    go_wp2_with fail
    refine (none_ok (sp0 g) false w N1.out).mono ?_
    rintro e w' ⟨rfl, rfl⟩
    go_wp2_with fail
    go_ret
    exact ⟨rfl, rfl⟩
  | cons c cs =>
    have e1 : ((c :: cs).length == 0) = false := rfl
    have e2 : ¬ ((c :: cs).length : Int) = 0 := by simp only [List.length_cons]; omega
    obtain ⟨n, hn⟩ : ∃ n, n = (c :: cs).length := ⟨_, rfl⟩
    rw [← hn] at f1 e1 e2
    have E3 : Hid (((n : Int) == 0) = false) := Lib.hid (by rw [beq_eq_false_iff_ne]; exact e2)
    clear hn
    go_enter Tryz.func14, Tryz.ntmps14
    go_wp2_with fail
    refine (none_ok (sp0 g) false w N1.out).mono ?_
    rintro e w' ⟨rfl, rfl⟩
    go_wp2_with fail
    go_ret
    refine ⟨?_, rfl⟩
    show Ending.returned (.bool ((n : Int) == 0)) = _
    rw [E3.out]
    rfl
end Go.Proofs.YteeijjhgdplifaaGreatDoor
