/- Spans: merge. -/
import Derived.Test.YteeijjhgdplifaaGreatDoorTD
import Derived.Test.YteeijjhgdplifaaGreatDoorSB
namespace Go.Proofs.YteeijjhgdplifaaGreatDoor
open Go.RowKit

theorem runs_app_run {P : Program} {ops : Array Oper} {o : Oper} {a : Act} {w : World} {R : Value → World → Prop} (hgd : o.guard = none) (s x : Operand) (t t' : TypeId)
    (ho : o.op = .call { callee := .builtin .append, args := #[s, x], argTypes := #[t, t'] }) (vs vx : Value) (hs : a.eval s = vs) (hx : a.eval x = vx) (r : Value) (w' : World) (hrun : (Builtin.append_ #[t, t'] o.type #[vs, vx]).run P w = .ok r w')
    (h : R r w') : Runs P ops o a w R := by
  unfold Runs Region.wanted
  rw [hgd]
  show Out P R ((execOp a.eval o).run P w)
  unfold execOp
  simp only [ho, resolve, invoke, builtin, Sem.run_bind, Sem.run_pure, Result.andThen_ok, List.map_toArray, List.map_cons, List.map_nil, hs, hx, hrun]
  exact h
theorem CRow.lower {w : World} {B B' c n : Nat} {A : Option Addr} {cs : List Cut} (h : CRow w B A c n cs) (hB : B' ≤ B) : CRow w B' A c n cs := ⟨h.1, h.2.1, h.2.2.1, fun b hb => Nat.le_trans hB (h.2.2.2 b hb)⟩
set_option maxRecDepth 100000 in
set_option maxHeartbeats 8000000 in
theorem merge_ok (f : FuncId) (g : Bool → Bool → Bool) (hg0 : g false false = false) (eg : ∀ args w, (callFunc f args).run Tryz.prog w = .ok (.enter f args) w)
    (hf : ∀ a b w, Calls Tryz.prog f #[.bool a, .bool b] w fun e w' => e = .returned (.bool (g a b)) ∧ w = w') (B1 g1 B2 g2 : Nat) (s o : List Cut) (hs : Prs s) (ho : Prs o) (ls : s.length ≤ 100000) (lo : o.length ≤ 100000)
    (w : World) (h1 : SpAt w B1 g1 s) (h2 : SpAt w B2 g2 o) :
    Calls Tryz.prog 24 #[sp0 g1, sp0 g2, .func (.func f) #[] #[]] w fun e w' => ∃ gr cs, e = .returned (sp0 gr) ∧ SpAt w' w.heap.size gr cs ∧ Merged g s o cs ∧ Below w.heap.size w w' := by
  have N1 := Lib.hid h1.none
  have N2 := Lib.hid h2.none
  have HSP1 := Lib.hid h1
  have HSP2 := Lib.hid h2
  obtain ⟨hok1, _, A1, c1, kb1, ho1, _⟩ := h1
  obtain ⟨hok2, _, A2, c2, kb2, ho2, _⟩ := h2
  obtain ⟨n, hn⟩ : ∃ n, n = s.length := ⟨_, rfl⟩
  obtain ⟨m, hm⟩ : ∃ m, m = o.length := ⟨_, rfl⟩
  rw [← hn] at kb1 ho1 ls
  rw [← hm] at kb2 ho2 lo
  have HS := Lib.hid hok1
  have HO := Lib.hid hok2
  have HN := Lib.hid hn.symm
  have HM := Lib.hid hm.symm
  have HSL1 := Lib.hid (Sl.of_own ho1)
  have HSL2 := Lib.hid (Sl.of_own ho2)
  have HA1 : Hid (A1 = none → n = 0 ∧ c1 = 0) := Lib.hid (fun e => by
    subst e
    rcases ho1.2 with ⟨hv, h0⟩ | ⟨g, cap, cur, hv, _⟩
    · simp only [Value.slice.injEq] at hv
      exact ⟨h0, hv.2.2⟩
    · simp at hv)
  have HCF : Hid (∀ wI, Below w.heap.size w wI → wI.cell? ⟨g1, 1, none⟩ = some (.slice A1 n c1) ∧ wI.cell? ⟨g2, 1, none⟩ = some (.slice A2 m c2)) := Lib.hid (fun wI hb => ⟨by rw [(kb1.below' hb).cell]; rfl, by rw [(kb2.below' hb).cell]; rfl⟩)
  have HPS := Lib.hid hs
  have HPO := Lib.hid ho
  have HG0 := Lib.hid hg0
  have HFF := Lib.hid hf
  have HE := Lib.hid eg
  clear hok1 hok2 kb1 kb2 ho1 ho2 hn hm hs ho hg0 hf eg
  go_enter Tryz.func24, Tryz.ntmps24
  go_wp2_with fail
  refine (none_ok (sp0 g1) false w N1.out).mono ?_
  rintro e w' ⟨rfl, rfl⟩
  go_wp2_with fail
  refine (none_ok (sp0 g2) false w N2.out).mono ?_
  rintro e w' ⟨rfl, rfl⟩
  clear N1 N2
  go_upto_region 3 with fail
  try simp only [Act.put, List.setIfInBounds_toArray, List.set_cons_zero, List.set_cons_succ]
  obtain ⟨Inv, hInv⟩ : ∃ Inv : Done → World → Prop, Inv = Chain2 4 9 (fun wI => Below w.heap.size w wI) (fun x wI => ∃ A c, x = .slice A n c ∧ CRow wI w.heap.size A c n s ∧ Below w.heap.size w wI) (fun x y wI => ∃ A c, y = .slice A (n + m) c ∧ CRow wI w.heap.size A c (n + m) (s ++ o) ∧ Below w.heap.size w wI) := ⟨_, rfl⟩
  have HI := Lib.hid hInv
  have hcz : Hid (∀ τ wI, Inv τ wI → τ 9 = none → wI.cell? ⟨g1, 1, none⟩ = some (.slice A1 n c1) ∧ wI.cell? ⟨g2, 1, none⟩ = some (.slice A2 m c2)) := by
    intro τ wI h h9
    rw [hInv] at h
    rcases h.upto1 h9 with h | ⟨_, _, _, _, _, h⟩
    · exact HCF.out wI h
    · exact HCF.out wI h
  have H00 : Hid (Inv Done.none w.drew) := by rw [hInv]; exact Chain2.start (Below.refl _ _).drew
  clear hInv
  refine wp_region_inv (by kernel_rfl) [⟨0, false, [], [4, 9]⟩, ⟨1, false, [], [4, 9]⟩, ⟨2, false, [], [4, 9]⟩, ⟨3, false, [], [4, 9]⟩, ⟨5, false, [], [9]⟩, ⟨6, false, [], [9]⟩, ⟨7, false, [], [9]⟩, ⟨8, false, [], [9]⟩, ⟨4, true, [], [9]⟩, ⟨9, true, [4], []⟩, ⟨10, false, [4, 9], []⟩] (by kernel_rfl) Inv (fun _ _ => True) (fun _ => ⟨undef, trivial⟩) H00.out ?_
  iterate 8 (apply WpI.pure; (simp only [List.getElem?_toArray, List.getElem?_cons_succ, List.getElem?_cons_zero]; rfl); (intro τ wI hA hI; obtain ⟨f0, f1⟩ := hcz.out τ wI hI (hA.2 9 (by decide)); go_simp; exact ⟨hI, Is.rfl'⟩); simp only [Act.put, List.setIfInBounds_toArray, List.set_cons_zero, List.set_cons_succ])
  apply WpI.effect; (simp only [List.getElem?_toArray, List.getElem?_cons_succ, List.getElem?_cons_zero]; rfl)
  · intro τ wI hA hn hI
    have h0 := hI
    rw [HI.out] at h0
    have h9 : τ 9 = none := hA.2 9 (by decide)
    have hK := h0.at0 hn h9
    have HT := Lib.hid (And.intro True.intro (And.intro h9 (True.intro)))
    clear hA hn hI h0 h9
    go_simp
    refine (clone_ok s HS.out A1 n c1 HN.out (by omega) _ wI (HSL1.out.below (by decide) hK) HA1.out).mono ?_
    rintro e w' ⟨A', c', rfl, hA', hr, hb⟩
    refine ⟨_, rfl, ?_⟩
    rw [HI.out]
    exact Chain2.put1 HT.out.2.1 (by decide) ⟨A', c', rfl, hr.lower hK.size, hK.trans (hb.mono hK.size)⟩
  intro v4 hv4
  simp only [Act.put, List.setIfInBounds_toArray, List.set_cons_zero, List.set_cons_succ]
  clear hv4
  apply WpI.effect; (simp only [List.getElem?_toArray, List.getElem?_cons_succ, List.getElem?_cons_zero]; rfl)
  · intro τ wI hA hn hI
    have h0 := hI
    rw [HI.out] at h0
    have h4 : τ 4 = some v4 := hA.1 4 (by decide)
    have hK := h0.at1 h4 hn
    have HT := Lib.hid (And.intro True.intro (And.intro h4 (True.intro)))
    clear hA hn hI h0 h4
    obtain ⟨A', c', rfl, hr, hb⟩ := hK
    obtain ⟨A3, c3, w3, hap, hr3, hb3, _⟩ := hr.app hb HO.out HM.out (HSL2.out.below (by decide) hb) (by omega)
    refine runs_app_run rfl (.tmp 23) (.tmp 27) 55 55 rfl _ _ rfl rfl _ _ hap ?_
    rw [HI.out]
    exact ⟨trivial, Chain2.put2 HT.out.2.1 (by decide) ⟨A3, c3, rfl, hr3, hb3⟩⟩
  intro v9 hv9
  simp only [Act.put, List.setIfInBounds_toArray, List.set_cons_zero, List.set_cons_succ]
  clear hv9
  (apply WpI.pure; (simp only [List.getElem?_toArray, List.getElem?_cons_succ, List.getElem?_cons_zero]; rfl); (intro τ wI hA hI; go_simp; exact ⟨hI, Is.rfl'⟩); simp only [Act.put, List.setIfInBounds_toArray, List.set_cons_zero, List.set_cons_succ])
  refine WpI.done ?_
  intro w3 hI
  rw [HI.out] at hI
  have hE := hI.end_ (by decide)
  obtain ⟨A3, c3, rfl, hr3, hb3⟩ := hE
  have HR3 := Lib.hid hr3
  have HB3 := Lib.hid hb3
  clear hI hcz H00 HI HCF HA1 HSL1 HSL2 hr3 hb3
  go_wp2_with fail
  refine (sortC_ok (s ++ o) A3 c3 (n + m) (by omega) w w3 HB3.out HR3.out).mono ?_
  rintro e w4 ⟨rfl, L0, hp, hris, hr4, hb4⟩
  have HP := Lib.hid hp
  have HRI := Lib.hid hris
  have HR4 := Lib.hid hr4
  have HB4 := Lib.hid hb4
  have HL0 : Hid (L0.length = n + m) := Lib.hid (by rw [hp.length_eq, List.length_append, HN.out, HM.out])
  clear hp hris hr4 hb4 HR3 HB3
  go_wp2_with fail
  refine (compactC_ok L0 A3 c3 (n + m) (by omega) w w4 HB4.out HR4.out).mono ?_
  rintro e w5 ⟨k, rfl, hr5, hb5⟩
  obtain ⟨L, hL⟩ : ∃ L, L = cmpc L0 := ⟨_, rfl⟩
  rw [← hL] at hr5
  have HL := Lib.hid hL
  have hkn : k ≤ n + m := by
    have h1 := cmpc_len L0
    rw [← hL, hr5.1, HL0.out] at h1
    exact h1
  have HR5 := Lib.hid hr5
  have HB5 := Lib.hid hb5
  clear hL hr5 hb5 HR4 HB4 HL0
  go_wp2_with fail
  refine (spNone_ok w5).mono ?_
  rintro e w6 ⟨rfl, hs6, hb6⟩
  obtain ⟨g9, hg9⟩ : ∃ g9, g9 = w5.heap.size := ⟨_, rfl⟩
  rw [← hg9] at hs6
  obtain ⟨_, _, A6, c6, k6, o6, hB6⟩ := hs6
  have e6 : A6 = none ∧ c6 = 0 ∨ True := .inr trivial
  have HO6 : Hid (Blk w6 g9 59 [.bool true, .slice A6 0 c6]) := Lib.hid k6
  have HR6 : Hid (CRow w6 w5.heap.size A6 c6 0 []) := Lib.hid ⟨rfl, fun x hx => (by cases hx), o6, fun b hb => by have := hB6 b hb; omega⟩
  have HB6 := Lib.hid hb6
  have HG9 := Lib.hid hg9
  rw [← hg9]
  obtain ⟨Fk, hFk⟩ : ∃ Fk, Fk = fun c => g (par s c) (par o c) := ⟨_, rfl⟩
  have HK0 : Hid (keepF Fk false L = [] ++ keepF Fk false (L.drop 0)) := Lib.hid rfl
  have HFK := Lib.hid hFk
  clear hg9 k6 o6 hB6 hb6 hFk e6
  go_wp2_with fail
  go_loopg [9, 36] k (fun kq nv iv wr => ∃ (i : Nat) (now : Bool) (ks : List Cut) (Ao : Option Addr) (c l : Nat), iv = .int .i64 i ∧ nv = .bool now ∧ i ≤ k ∧ kq = k - i ∧ Hid (keepF Fk false L = ks ++ keepF Fk now (L.drop i)) ∧ Hid (Below w5.heap.size w5 wr) ∧ Hid (Blk wr g9 59 [.bool true, .slice Ao l c]) ∧ Hid (CRow wr w5.heap.size Ao c l ks))
  case atStart => exact ⟨0, false, [], A6, c6, 0, rfl, rfl, Nat.zero_le _, rfl, HK0, HB6, HO6, HR6⟩
  case round =>
  clear HK0 HB6 HO6 HR6
  obtain ⟨i, now, ks, Ao, c, l, rfl, rfl, hi, rfl, HK, HBr, HOr, HRr⟩ := hrel
  by_cases hlt : i < k
  · have hltI : (i : Int) < (k : Int) := by omega
    have hi0 : 0 ≤ (i : Int) := by omega
    have hll : l ≤ k := by
      have h1 := congrArg List.length HK.out
      have h2 := (keepF_sub Fk L false).length_le
      rw [List.length_append, HRr.out.1] at h1
      have := HR5.out.1
      omega
    obtain ⟨gL, rfl, hgL⟩ : ∃ gL, A3 = some ⟨gL, 0, none⟩ ∧ gL < w5.heap.size := by
      rcases HR5.out.form with ⟨_, h0, _, _⟩ | ⟨gL, _, h, _, hl, _⟩
      · omega
      · exact ⟨gL, h, hl⟩
    obtain ⟨x, hx⟩ : ∃ x, L[i]? = some x := ⟨_, List.getElem?_eq_getElem (by have := HR5.out.1; omega)⟩
    have HXO : Hid x.Ok := Lib.hid (HR5.out.2.1 x (List.mem_of_getElem? hx))
    have HDR : Hid (L.drop i = x :: L.drop (i + 1)) := Lib.hid (by obtain ⟨h1, h2⟩ := List.getElem?_eq_some_iff.1 hx; rw [List.drop_eq_getElem_cons h1, h2])
    have LX := Lib.hid ((HR5.out.below HBr.out).load hx)
    obtain ⟨x0, x1, x2, x3, ex⟩ := cells_seven HXO.out
    have EX := Lib.hid ex
    clear ex
    have ex := 0
    obtain ⟨g7, hg7⟩ : ∃ g7, g7 = wr.heap.size := ⟨_, rfl⟩
    obtain ⟨w2, hw2⟩ : ∃ w2, w2 = (wr.alloc (.cells #[.int .i64 0, .int .i64 0, .int .i64 0, .int .i64 0, .int .i64 0, .int .i64 0, .string ⟨#[]⟩] 57)).setRow g7 x.cells.toArray := ⟨_, rfl⟩
    have q2 := laid_cut wr x
    have bb2 : Below wr.heap.size wr w2 := by rw [hw2, hg7]; exact q2.2
    have k7 : Blk w2 g7 57 x.cells := by rw [hw2, hg7]; exact q2.1
    have HZ2 : Hid ((wr.alloc (.cells #[.int .i64 0, .int .i64 0, .int .i64 0, .int .i64 0, .int .i64 0, .int .i64 0, .string ⟨#[]⟩] 57)).heap[g7]? = some (.cells (⟨0, Ver.zero⟩ : Cut).cells.toArray 57 (0, 0))) := Lib.hid (by rw [hg7]; exact heap_alloc_new _ _)
    have HL7 : Hid (∀ wI, Below w2.heap.size w2 wI → (loadVar 57 ⟨g7, 0, none⟩).run Tryz.prog wI = .ok (.agg x.cells.toArray) wI) := Lib.hid (fun wI hb => cload (k7.below' hb) HXO.out)
    have HIX : Hid ((Tryz.prog.info? 57).map (·.size) = some x.cells.toArray.size) := Lib.hid (by rw [List.size_toArray, Cut.cells_len HXO.out]; kernel_rfl)
    have HZX : Hid ((⟨0, Ver.zero⟩ : Cut).cells.toArray.size = x.cells.toArray.size) := Lib.hid (by rw [show x.cells.toArray.size = 7 from by rw [List.size_toArray, Cut.cells_len HXO.out]]; rfl)
    have HONE : Hid (x.cells.toArray.all (·.oneCell') = true) := Lib.hid (all_oneCell_toArray (cut_one1 x))
    have hbr2 : Below w5.heap.size w5 w2 := HBr.out.trans (bb2.mono HBr.out.size)
    have hbw2 : Below w.heap.size w w2 := HB5.out.trans (hbr2.mono HB5.out.size)
    obtain ⟨P1, hP1⟩ : ∃ P1, P1 = par s x := ⟨_, rfl⟩
    obtain ⟨P2, hP2⟩ : ∃ P2, P2 = par o x := ⟨_, rfl⟩
    obtain ⟨IS, hIS⟩ : ∃ IS, IS = g P1 P2 := ⟨_, rfl⟩
    have HFX : Hid (Fk x = IS) := Lib.hid (by rw [HFK.out, hIS, hP1, hP2])
    have HB1 : Hid (∀ wI, Below w2.heap.size w2 wI → Calls Tryz.prog 48 #[sp0 g1, .agg x.cells.toArray] wI fun e w' => e = .returned (.bool P1) ∧ Below wI.heap.size wI w') := Lib.hid (fun wI hb => (behind_ok B1 g1 s x HXO.out (by rw [HN.out]; omega) wI (HSP1.out.below (hbw2.trans (hb.mono hbw2.size)))).mono fun e w' h => ⟨by rw [hP1]; exact h.1, h.2.1⟩)
    have HB2 : Hid (∀ wI, Below w2.heap.size w2 wI → Calls Tryz.prog 48 #[sp0 g2, .agg x.cells.toArray] wI fun e w' => e = .returned (.bool P2) ∧ Below wI.heap.size wI w') := Lib.hid (fun wI hb => (behind_ok B2 g2 o x HXO.out (by rw [HM.out]; omega) wI (HSP2.out.below (hbw2.trans (hb.mono hbw2.size)))).mono fun e w' h => ⟨by rw [hP2]; exact h.1, h.2.1⟩)
    have HFN : Hid (∀ wI, Calls Tryz.prog f #[.bool P1, .bool P2] wI fun e w' => e = .returned (.bool IS) ∧ wI = w') := Lib.hid (fun wI => by rw [hIS]; exact HFF.out P1 P2 wI)
    have HOR2 : Hid (Blk w2 g9 59 [.bool true, .slice Ao l c]) := Lib.hid (HOr.out.below' bb2)
    have HR2 : Hid (CRow w2 w5.heap.size Ao c l ks) := Lib.hid (HRr.out.below bb2)
    have HBR2 := Lib.hid hbr2
    have HG7 := Lib.hid hg7
    have HW2 := Lib.hid hw2
    clear hx hg7 hw2 q2 bb2 k7 hbr2 hbw2 hP1 hP2 hIS HBr HOr HRr ex
    go_upto_region 11 with (first | refine wpList_load_at rfl 57 (.tmp 38) rfl ⟨gL, i * 7, none⟩ rfl _ LX.out ?_ | refine wpList_store_row rfl 57 (.tmp 11) (.tmp 39) rfl g7 x.cells.toArray (by rw [HG7.out]; rfl) rfl _ _ HZ2.out HIX.out HZX.out HONE.out ?_)
    rw [← HG7.out, ← HW2.out]
    try simp only [Act.put, List.setIfInBounds_toArray, List.set_cons_zero, List.set_cons_succ]
    obtain ⟨Inv, hInv⟩ : ∃ Inv : Done → World → Prop, Inv = fun _ wI => (fun wI => Below w2.heap.size w2 wI) wI := ⟨_, rfl⟩
    have HI := Lib.hid hInv
    have hcz : Hid (∀ τ wI, Inv τ wI → Below w2.heap.size w2 wI) := by
      intro τ wI h
      rw [hInv] at h
      exact h
    have H00 : Hid (Inv Done.none w2.drew) := by rw [hInv]; exact (Below.refl _ _).drew
    clear hInv
    refine wp_region_inv (by kernel_rfl) [⟨0, false, [], []⟩, ⟨1, false, [], []⟩, ⟨2, false, [], []⟩, ⟨3, false, [], []⟩, ⟨4, false, [], []⟩, ⟨5, false, [], []⟩, ⟨6, false, [], []⟩, ⟨7, false, [], []⟩, ⟨8, false, [], []⟩] (by kernel_rfl) Inv (fun _ _ => True) (fun _ => ⟨undef, trivial⟩) H00.out ?_
    iterate 2 (apply WpI.pure; (simp only [List.getElem?_toArray, List.getElem?_cons_succ, List.getElem?_cons_zero]; rfl); (intro τ wI hA hI; have f0 := hcz.out τ wI hI; go_simp; exact ⟨hI, Is.rfl'⟩); simp only [Act.put, List.setIfInBounds_toArray, List.set_cons_zero, List.set_cons_succ])
    (apply WpI.pure; (simp only [List.getElem?_toArray, List.getElem?_cons_succ, List.getElem?_cons_zero]; rfl); (intro τ wI hA hI; have f0 := hcz.out τ wI hI; refine runs_load_a rfl 57 (.tmp 11) rfl ⟨g7, 0, none⟩ rfl _ (HL7.out wI f0) ?_; exact ⟨hI, Is.rfl'⟩); simp only [Act.put, List.setIfInBounds_toArray, List.set_cons_zero, List.set_cons_succ])
    (apply WpI.pure; (simp only [List.getElem?_toArray, List.getElem?_cons_succ, List.getElem?_cons_zero]; rfl); (intro τ wI hA hI; have f0 := hcz.out τ wI hI; go_simp; refine (HB1.out wI f0).mono ?_; rintro e w' ⟨rfl, hb⟩; refine ⟨_, rfl, ?_, Is.rfl'⟩; rw [HI.out]; exact f0.trans (hb.mono f0.size)); simp only [Act.put, List.setIfInBounds_toArray, List.set_cons_zero, List.set_cons_succ])
    (apply WpI.pure; (simp only [List.getElem?_toArray, List.getElem?_cons_succ, List.getElem?_cons_zero]; rfl); (intro τ wI hA hI; have f0 := hcz.out τ wI hI; go_simp; exact ⟨hI, Is.rfl'⟩); simp only [Act.put, List.setIfInBounds_toArray, List.set_cons_zero, List.set_cons_succ])
    (apply WpI.pure; (simp only [List.getElem?_toArray, List.getElem?_cons_succ, List.getElem?_cons_zero]; rfl); (intro τ wI hA hI; have f0 := hcz.out τ wI hI; refine runs_load_a rfl 57 (.tmp 11) rfl ⟨g7, 0, none⟩ rfl _ (HL7.out wI f0) ?_; exact ⟨hI, Is.rfl'⟩); simp only [Act.put, List.setIfInBounds_toArray, List.set_cons_zero, List.set_cons_succ])
    (apply WpI.pure; (simp only [List.getElem?_toArray, List.getElem?_cons_succ, List.getElem?_cons_zero]; rfl); (intro τ wI hA hI; have f0 := hcz.out τ wI hI; go_simp; refine (HB2.out wI f0).mono ?_; rintro e w' ⟨rfl, hb⟩; refine ⟨_, rfl, ?_, Is.rfl'⟩; rw [HI.out]; exact f0.trans (hb.mono f0.size)); simp only [Act.put, List.setIfInBounds_toArray, List.set_cons_zero, List.set_cons_succ])
    (apply WpI.pure; (simp only [List.getElem?_toArray, List.getElem?_cons_succ, List.getElem?_cons_zero]; rfl); (intro τ wI hA hI; have f0 := hcz.out τ wI hI; have e9 := HE.out; go_simp; refine (HFN.out wI).mono ?_; rintro e w' ⟨rfl, rfl⟩; exact ⟨_, rfl, hI, Is.rfl'⟩); simp only [Act.put, List.setIfInBounds_toArray, List.set_cons_zero, List.set_cons_succ])
    (apply WpI.pure; (simp only [List.getElem?_toArray, List.getElem?_cons_succ, List.getElem?_cons_zero]; rfl); (intro τ wI hA hI; have f0 := hcz.out τ wI hI; go_simp; exact ⟨hI, Is.rfl'⟩); simp only [Act.put, List.setIfInBounds_toArray, List.set_cons_zero, List.set_cons_succ])
    refine WpI.done ?_
    intro w7 hI
    rw [HI.out] at hI
    have hE := hI
    have HB27 : Hid (Below w2.heap.size w2 w7) := Lib.hid hE
    have HB7 : Hid (Below w5.heap.size w5 w7) := Lib.hid (HBR2.out.trans (hE.mono HBR2.out.size))
    have HO7 : Hid (Blk w7 g9 59 [.bool true, .slice Ao l c]) := Lib.hid (HOR2.out.below' hE)
    have HR7 : Hid (CRow w7 w5.heap.size Ao c l ks) := Lib.hid (HR2.out.below hE)
    clear hI hE hcz H00 HI HB1 HB2 HFN HOR2 HR2 HBR2 HG7 HW2 LX HZ2 HIX HZX HONE
    have ex := EX.out
    cases IS <;> cases now
    · skip
      have HKN : Hid (keepF Fk false L = ks ++ keepF Fk false (L.drop (i + 1))) := Lib.hid (by rw [HK.out, HDR.out, keepF, if_pos HFX.out])
      clear HK HDR HFX
      go_wp2_with fail
      go_roundg (k - (i + 1))
      case measure => omega
      case rel => exact ⟨i + 1, false, ks, Ao, c, l, by go_num, rfl, by omega, rfl, HKN, HB7, HO7, HR7⟩
    · skip
      have HKN : Hid (keepF Fk false L = (ks ++ [x]) ++ keepF Fk false (L.drop (i + 1))) := Lib.hid (by rw [HK.out, HDR.out, keepF, HFX.out, if_neg (by decide)]; simp)
      clear HK HDR HFX
      obtain ⟨wd, hwd⟩ : ∃ wd, wd = w7.drew := ⟨_, rfl⟩
      obtain ⟨wa, hwa⟩ : ∃ wa, wa = wd.alloc (.cells #[.int .i64 x.a, .int .i64 x0, .int .i64 x1, .int .i64 x2, .int .i64 x3, .int .i64 x.v.c, .string (bl x.v.t)] 57) := ⟨_, rfl⟩
      have ho7 : Blk wd g9 59 [.bool true, .slice Ao l c] := by rw [hwd]; exact HO7.out.drew
      have hrd : CRow wd w5.heap.size Ao c l ks := by rw [hwd]; exact HR7.out.below (Below.refl _ _).drew
      have hbd : Below w5.heap.size w5 wd := by rw [hwd]; exact HB7.out.drew
      have hba : Below wd.heap.size wd wa := by rw [hwa]; exact (Below.refl _ _).alloc (Nat.le_refl _) _
      have hka : Blk wa wd.heap.size 57 (cutsL [x]) := by
        rw [hwa, show cutsL [x] = x.cells.toArray.toList by unfold cutsL; simp, ex]
        exact Blk.new _ _ _
      have hok1 : Oks [x] := fun y hy => by rw [List.mem_singleton.1 hy]; exact HXO.out
      have hla := HL7.out wd (by rw [hwd]; exact HB27.out.drew)
      have hlb := HL7.out wa (by rw [hwa, hwd]; exact (HB27.out.drew).alloc (by have := HB27.out.size; exact this) _)
      obtain ⟨A8, c8, w8, hap, hr8, hb8, hgr8⟩ := (hrd.below hba).app (m := 1) (hbd.trans (hba.mono hbd.size)) hok1 rfl (Sl.of_blk hka 7 1 1 (by rw [cutsL_len hok1]; rfl) (Nat.le_refl _)) (by omega)
      have hoa : Blk wa g9 59 [.bool true, .slice Ao l c] := ho7.below' hba
      have ho8 : Blk w8 g9 59 [.bool true, .slice Ao l c] := hoa.grown hgr8 (fun e => own_blk_ne (hrd.below hba).2.2.1 hoa (by decide) e.symm)
      obtain ⟨w9, hw9⟩ : ∃ w9, w9 = w8.setCell ⟨g9, 1, none⟩ (.slice A8 (l + 1) c8) := ⟨_, rfl⟩
      have ho9 : Blk w9 g9 59 [.bool true, .slice A8 (l + 1) c8] := by rw [hw9]; exact ho8.set_ 1 _
      have hr9 : CRow w9 w5.heap.size A8 c8 (l + 1) (ks ++ [x]) := by
        rw [hw9]
        exact ⟨hr8.1, hr8.2.1, own_setCell hr8.2.2.1 (p := ⟨g9, 1, none⟩) (fun e => own_blk_ne hr8.2.2.1 ho8 (by decide) e) _, hr8.2.2.2⟩
      have hb9 : Below w5.heap.size w5 w9 := by rw [hw9]; exact hb8.setCell (p := ⟨g9, 1, none⟩) (by rw [HG9.out]; exact Nat.le_refl _) _
      have HFD : Hid (∀ wI, (wI = wd ∨ wI = wa) → wI.cell? ⟨g9, 1, none⟩ = some (.slice Ao l c) ∧ (loadVar 57 ⟨g7, 0, none⟩).run Tryz.prog wI = .ok (.agg x.cells.toArray) wI) := Lib.hid (by
        rintro wI (rfl | rfl)
        · exact ⟨by rw [ho7.cell]; rfl, hla⟩
        · exact ⟨by rw [hoa.cell]; rfl, hlb⟩)
      have HC8 : Hid (w8.cell? ⟨g9, 1, none⟩ = some (.slice Ao l c) ∧ w8.frozen? ⟨g9, 1, none⟩ = false) := Lib.hid ⟨by rw [ho8.cell]; rfl, ho8.frozen 1⟩
      have HAP := Lib.hid hap
      have HWA := Lib.hid hwa
      have HW9 := Lib.hid hw9
      have HO9 := Lib.hid ho9
      have HR9 := Lib.hid hr9
      have HB9 := Lib.hid hb9
      clear hwa ho7 hrd hbd hba hka hok1 hla hlb hap hr8 hb8 hgr8 hoa ho8 hw9 ho9 hr9 hb9
      go_upto_region 13 with fail
      try simp only [Act.put, List.setIfInBounds_toArray, List.set_cons_zero, List.set_cons_succ]
      obtain ⟨Inv, hInv⟩ : ∃ Inv : Done → World → Prop, Inv = Chain3 6 7 11 (fun wI => wI = wd) (fun u wI => u = .slice (some ⟨wd.heap.size, 0, none⟩) 1 1 ∧ wI = wa) (fun u y wI => y = .slice A8 (l + 1) c8 ∧ wI = w8) (fun u y z wI => wI = w9) := ⟨_, rfl⟩
      have HI := Lib.hid hInv
      have hcz : Hid (∀ τ wI, Inv τ wI → τ 7 = none → wI.cell? ⟨g9, 1, none⟩ = some (.slice Ao l c) ∧ (loadVar 57 ⟨g7, 0, none⟩).run Tryz.prog wI = .ok (.agg x.cells.toArray) wI) := by
        intro τ wI h h9
        rw [hInv] at h
        rcases h.upto1 h9 with h | ⟨_, _, h⟩
        · exact HFD.out wI (.inl h)
        · exact HFD.out wI (.inr h)
      have H00 : Hid (Inv Done.none w7.drew) := by rw [hInv]; exact Chain3.start hwd.symm
      clear hInv hwd
      refine wp_region_inv (by kernel_rfl) [⟨0, false, [], [11]⟩, ⟨1, false, [], [7, 11]⟩, ⟨2, false, [], [7, 11]⟩, ⟨3, false, [], [7, 11]⟩, ⟨4, false, [], [7, 11]⟩, ⟨5, false, [], [6, 7, 11]⟩, ⟨8, false, [], []⟩, ⟨6, true, [], [7, 11]⟩, ⟨7, true, [6], [11]⟩, ⟨9, false, [6, 7], [11]⟩, ⟨10, false, [6, 7], [11]⟩, ⟨11, true, [6, 7], []⟩, ⟨12, false, [6, 7, 11], []⟩] (by kernel_rfl) Inv (fun _ _ => True) (fun _ => ⟨undef, trivial⟩) H00.out ?_
      (apply WpI.pure; (simp only [List.getElem?_toArray, List.getElem?_cons_succ, List.getElem?_cons_zero]; rfl); (intro τ wI hA hI; go_simp; exact ⟨hI, Is.rfl'⟩); simp only [Act.put, List.setIfInBounds_toArray, List.set_cons_zero, List.set_cons_succ])
      iterate 4 (apply WpI.pure; (simp only [List.getElem?_toArray, List.getElem?_cons_succ, List.getElem?_cons_zero]; rfl); (intro τ wI hA hI; obtain ⟨f0, f1⟩ := hcz.out τ wI hI (hA.2 7 (by decide)); go_simp; exact ⟨hI, Is.rfl'⟩); simp only [Act.put, List.setIfInBounds_toArray, List.set_cons_zero, List.set_cons_succ])
      (apply WpI.pure; (simp only [List.getElem?_toArray, List.getElem?_cons_succ, List.getElem?_cons_zero]; rfl); (intro τ wI hA hI; obtain ⟨f0, f1⟩ := hcz.out τ wI hI (hA.2 7 (by decide)); refine runs_load_a rfl 57 (.tmp 11) rfl ⟨g7, 0, none⟩ rfl _ f1 ?_; rw [ex]; exact ⟨hI, Is.rfl'⟩); simp only [Act.put, List.setIfInBounds_toArray, List.set_cons_zero, List.set_cons_succ])
      (apply WpI.pure; (simp only [List.getElem?_toArray, List.getElem?_cons_succ, List.getElem?_cons_zero]; rfl); (intro τ wI hA hI; go_simp; exact ⟨hI, Is.rfl'⟩); simp only [Act.put, List.setIfInBounds_toArray, List.set_cons_zero, List.set_cons_succ])
      apply WpI.effect; (simp only [List.getElem?_toArray, List.getElem?_cons_succ, List.getElem?_cons_zero]; rfl)
      · intro τ wI hA hn hI
        have h0 := hI
        rw [HI.out] at h0
        have h7 : τ 7 = none := hA.2 7 (by decide)
        have h11 : τ 11 = none := hA.2 11 (by decide)
        have hK := h0.at0 hn h7 h11
        have HT := Lib.hid (And.intro True.intro (And.intro h7 ( And.intro h11 (True.intro))))
        clear hA hn hI h0 h7 h11
        subst hK
        go_simp
        rw [HI.out]
        exact Chain3.put1 HT.out.2.1 (by decide) HT.out.2.2.1 (by decide) ⟨rfl, HWA.out.symm⟩
      intro v6 hv6
      simp only [Act.put, List.setIfInBounds_toArray, List.set_cons_zero, List.set_cons_succ]
      clear hv6
      apply WpI.effect; (simp only [List.getElem?_toArray, List.getElem?_cons_succ, List.getElem?_cons_zero]; rfl)
      · intro τ wI hA hn hI
        have h0 := hI
        rw [HI.out] at h0
        have h6 : τ 6 = some v6 := hA.1 6 (by decide)
        have h11 : τ 11 = none := hA.2 11 (by decide)
        have hK := h0.at1 h6 hn h11
        have HT := Lib.hid (And.intro True.intro (And.intro h6 ( And.intro h11 (True.intro))))
        clear hA hn hI h0 h6 h11
        obtain ⟨e7, e8⟩ := hK
        subst e7
        subst e8
        refine runs_app_run rfl (.tmp 55) (.tmp 57) 55 55 rfl _ _ rfl rfl _ _ HAP.out ?_
        rw [HI.out]
        exact ⟨trivial, Chain3.put2 HT.out.2.1 (by decide) HT.out.2.2.1 (by decide) ⟨rfl, rfl⟩⟩
      intro v7 hv7
      simp only [Act.put, List.setIfInBounds_toArray, List.set_cons_zero, List.set_cons_succ]
      clear hv7
      iterate 2 (apply WpI.pure; (simp only [List.getElem?_toArray, List.getElem?_cons_succ, List.getElem?_cons_zero]; rfl); (intro τ wI hA hI; go_simp; exact ⟨hI, Is.rfl'⟩); simp only [Act.put, List.setIfInBounds_toArray, List.set_cons_zero, List.set_cons_succ])
      apply WpI.effect; (simp only [List.getElem?_toArray, List.getElem?_cons_succ, List.getElem?_cons_zero]; rfl)
      · intro τ wI hA hn hI
        have h0 := hI
        rw [HI.out] at h0
        have h6 : τ 6 = some v6 := hA.1 6 (by decide)
        have h7 : τ 7 = some v7 := hA.1 7 (by decide)
        have hK := h0.at2 h6 h7 hn
        have HT := Lib.hid (And.intro True.intro (And.intro h6 ( And.intro h7 (True.intro))))
        clear hA hn hI h0 h6 h7
        obtain ⟨e7, e8⟩ := hK
        subst e7
        subst e8
        obtain ⟨k1, k2⟩ := HC8.out
        go_simp
        rw [← HW9.out, HI.out]
        exact Chain3.put3 HT.out.2.1 (by decide) HT.out.2.2.1 (by decide) rfl
      intro v11 hv11
      simp only [Act.put, List.setIfInBounds_toArray, List.set_cons_zero, List.set_cons_succ]
      clear hv11
      (apply WpI.pure; (simp only [List.getElem?_toArray, List.getElem?_cons_succ, List.getElem?_cons_zero]; rfl); (intro τ wI hA hI; go_simp; exact ⟨hI, Is.rfl'⟩); simp only [Act.put, List.setIfInBounds_toArray, List.set_cons_zero, List.set_cons_succ])
      refine WpI.done ?_
      intro wz hI
      rw [HI.out] at hI
      have hE := hI.end_ (by decide) (by decide) (by decide)
      subst hE
      clear hI hcz H00 HI HFD HC8 HAP HWA HW9
      go_wp2_with fail
      go_roundg (k - (i + 1))
      case measure => omega
      case rel => exact ⟨i + 1, false, ks ++ [x], A8, c8, l + 1, by go_num, rfl, by omega, rfl, HKN, HB9, HO9, HR9⟩
    · skip
      have HKN : Hid (keepF Fk false L = (ks ++ [x]) ++ keepF Fk true (L.drop (i + 1))) := Lib.hid (by rw [HK.out, HDR.out, keepF, HFX.out, if_neg (by decide)]; simp)
      clear HK HDR HFX
      obtain ⟨wd, hwd⟩ : ∃ wd, wd = w7.drew := ⟨_, rfl⟩
      obtain ⟨wa, hwa⟩ : ∃ wa, wa = wd.alloc (.cells #[.int .i64 x.a, .int .i64 x0, .int .i64 x1, .int .i64 x2, .int .i64 x3, .int .i64 x.v.c, .string (bl x.v.t)] 57) := ⟨_, rfl⟩
      have ho7 : Blk wd g9 59 [.bool true, .slice Ao l c] := by rw [hwd]; exact HO7.out.drew
      have hrd : CRow wd w5.heap.size Ao c l ks := by rw [hwd]; exact HR7.out.below (Below.refl _ _).drew
      have hbd : Below w5.heap.size w5 wd := by rw [hwd]; exact HB7.out.drew
      have hba : Below wd.heap.size wd wa := by rw [hwa]; exact (Below.refl _ _).alloc (Nat.le_refl _) _
      have hka : Blk wa wd.heap.size 57 (cutsL [x]) := by
        rw [hwa, show cutsL [x] = x.cells.toArray.toList by unfold cutsL; simp, ex]
        exact Blk.new _ _ _
      have hok1 : Oks [x] := fun y hy => by rw [List.mem_singleton.1 hy]; exact HXO.out
      have hla := HL7.out wd (by rw [hwd]; exact HB27.out.drew)
      have hlb := HL7.out wa (by rw [hwa, hwd]; exact (HB27.out.drew).alloc (by have := HB27.out.size; exact this) _)
      obtain ⟨A8, c8, w8, hap, hr8, hb8, hgr8⟩ := (hrd.below hba).app (m := 1) (hbd.trans (hba.mono hbd.size)) hok1 rfl (Sl.of_blk hka 7 1 1 (by rw [cutsL_len hok1]; rfl) (Nat.le_refl _)) (by omega)
      have hoa : Blk wa g9 59 [.bool true, .slice Ao l c] := ho7.below' hba
      have ho8 : Blk w8 g9 59 [.bool true, .slice Ao l c] := hoa.grown hgr8 (fun e => own_blk_ne (hrd.below hba).2.2.1 hoa (by decide) e.symm)
      obtain ⟨w9, hw9⟩ : ∃ w9, w9 = w8.setCell ⟨g9, 1, none⟩ (.slice A8 (l + 1) c8) := ⟨_, rfl⟩
      have ho9 : Blk w9 g9 59 [.bool true, .slice A8 (l + 1) c8] := by rw [hw9]; exact ho8.set_ 1 _
      have hr9 : CRow w9 w5.heap.size A8 c8 (l + 1) (ks ++ [x]) := by
        rw [hw9]
        exact ⟨hr8.1, hr8.2.1, own_setCell hr8.2.2.1 (p := ⟨g9, 1, none⟩) (fun e => own_blk_ne hr8.2.2.1 ho8 (by decide) e) _, hr8.2.2.2⟩
      have hb9 : Below w5.heap.size w5 w9 := by rw [hw9]; exact hb8.setCell (p := ⟨g9, 1, none⟩) (by rw [HG9.out]; exact Nat.le_refl _) _
      have HFD : Hid (∀ wI, (wI = wd ∨ wI = wa) → wI.cell? ⟨g9, 1, none⟩ = some (.slice Ao l c) ∧ (loadVar 57 ⟨g7, 0, none⟩).run Tryz.prog wI = .ok (.agg x.cells.toArray) wI) := Lib.hid (by
        rintro wI (rfl | rfl)
        · exact ⟨by rw [ho7.cell]; rfl, hla⟩
        · exact ⟨by rw [hoa.cell]; rfl, hlb⟩)
      have HC8 : Hid (w8.cell? ⟨g9, 1, none⟩ = some (.slice Ao l c) ∧ w8.frozen? ⟨g9, 1, none⟩ = false) := Lib.hid ⟨by rw [ho8.cell]; rfl, ho8.frozen 1⟩
      have HAP := Lib.hid hap
      have HWA := Lib.hid hwa
      have HW9 := Lib.hid hw9
      have HO9 := Lib.hid ho9
      have HR9 := Lib.hid hr9
      have HB9 := Lib.hid hb9
      clear hwa ho7 hrd hbd hba hka hok1 hla hlb hap hr8 hb8 hgr8 hoa ho8 hw9 ho9 hr9 hb9
      go_upto_region 13 with fail
      try simp only [Act.put, List.setIfInBounds_toArray, List.set_cons_zero, List.set_cons_succ]
      obtain ⟨Inv, hInv⟩ : ∃ Inv : Done → World → Prop, Inv = Chain3 6 7 11 (fun wI => wI = wd) (fun u wI => u = .slice (some ⟨wd.heap.size, 0, none⟩) 1 1 ∧ wI = wa) (fun u y wI => y = .slice A8 (l + 1) c8 ∧ wI = w8) (fun u y z wI => wI = w9) := ⟨_, rfl⟩
      have HI := Lib.hid hInv
      have hcz : Hid (∀ τ wI, Inv τ wI → τ 7 = none → wI.cell? ⟨g9, 1, none⟩ = some (.slice Ao l c) ∧ (loadVar 57 ⟨g7, 0, none⟩).run Tryz.prog wI = .ok (.agg x.cells.toArray) wI) := by
        intro τ wI h h9
        rw [hInv] at h
        rcases h.upto1 h9 with h | ⟨_, _, h⟩
        · exact HFD.out wI (.inl h)
        · exact HFD.out wI (.inr h)
      have H00 : Hid (Inv Done.none w7.drew) := by rw [hInv]; exact Chain3.start hwd.symm
      clear hInv hwd
      refine wp_region_inv (by kernel_rfl) [⟨0, false, [], [11]⟩, ⟨1, false, [], [7, 11]⟩, ⟨2, false, [], [7, 11]⟩, ⟨3, false, [], [7, 11]⟩, ⟨4, false, [], [7, 11]⟩, ⟨5, false, [], [6, 7, 11]⟩, ⟨8, false, [], []⟩, ⟨6, true, [], [7, 11]⟩, ⟨7, true, [6], [11]⟩, ⟨9, false, [6, 7], [11]⟩, ⟨10, false, [6, 7], [11]⟩, ⟨11, true, [6, 7], []⟩, ⟨12, false, [6, 7, 11], []⟩] (by kernel_rfl) Inv (fun _ _ => True) (fun _ => ⟨undef, trivial⟩) H00.out ?_
      (apply WpI.pure; (simp only [List.getElem?_toArray, List.getElem?_cons_succ, List.getElem?_cons_zero]; rfl); (intro τ wI hA hI; go_simp; exact ⟨hI, Is.rfl'⟩); simp only [Act.put, List.setIfInBounds_toArray, List.set_cons_zero, List.set_cons_succ])
      iterate 4 (apply WpI.pure; (simp only [List.getElem?_toArray, List.getElem?_cons_succ, List.getElem?_cons_zero]; rfl); (intro τ wI hA hI; obtain ⟨f0, f1⟩ := hcz.out τ wI hI (hA.2 7 (by decide)); go_simp; exact ⟨hI, Is.rfl'⟩); simp only [Act.put, List.setIfInBounds_toArray, List.set_cons_zero, List.set_cons_succ])
      (apply WpI.pure; (simp only [List.getElem?_toArray, List.getElem?_cons_succ, List.getElem?_cons_zero]; rfl); (intro τ wI hA hI; obtain ⟨f0, f1⟩ := hcz.out τ wI hI (hA.2 7 (by decide)); refine runs_load_a rfl 57 (.tmp 11) rfl ⟨g7, 0, none⟩ rfl _ f1 ?_; rw [ex]; exact ⟨hI, Is.rfl'⟩); simp only [Act.put, List.setIfInBounds_toArray, List.set_cons_zero, List.set_cons_succ])
      (apply WpI.pure; (simp only [List.getElem?_toArray, List.getElem?_cons_succ, List.getElem?_cons_zero]; rfl); (intro τ wI hA hI; go_simp; exact ⟨hI, Is.rfl'⟩); simp only [Act.put, List.setIfInBounds_toArray, List.set_cons_zero, List.set_cons_succ])
      apply WpI.effect; (simp only [List.getElem?_toArray, List.getElem?_cons_succ, List.getElem?_cons_zero]; rfl)
      · intro τ wI hA hn hI
        have h0 := hI
        rw [HI.out] at h0
        have h7 : τ 7 = none := hA.2 7 (by decide)
        have h11 : τ 11 = none := hA.2 11 (by decide)
        have hK := h0.at0 hn h7 h11
        have HT := Lib.hid (And.intro True.intro (And.intro h7 ( And.intro h11 (True.intro))))
        clear hA hn hI h0 h7 h11
        subst hK
        go_simp
        rw [HI.out]
        exact Chain3.put1 HT.out.2.1 (by decide) HT.out.2.2.1 (by decide) ⟨rfl, HWA.out.symm⟩
      intro v6 hv6
      simp only [Act.put, List.setIfInBounds_toArray, List.set_cons_zero, List.set_cons_succ]
      clear hv6
      apply WpI.effect; (simp only [List.getElem?_toArray, List.getElem?_cons_succ, List.getElem?_cons_zero]; rfl)
      · intro τ wI hA hn hI
        have h0 := hI
        rw [HI.out] at h0
        have h6 : τ 6 = some v6 := hA.1 6 (by decide)
        have h11 : τ 11 = none := hA.2 11 (by decide)
        have hK := h0.at1 h6 hn h11
        have HT := Lib.hid (And.intro True.intro (And.intro h6 ( And.intro h11 (True.intro))))
        clear hA hn hI h0 h6 h11
        obtain ⟨e7, e8⟩ := hK
        subst e7
        subst e8
        refine runs_app_run rfl (.tmp 55) (.tmp 57) 55 55 rfl _ _ rfl rfl _ _ HAP.out ?_
        rw [HI.out]
        exact ⟨trivial, Chain3.put2 HT.out.2.1 (by decide) HT.out.2.2.1 (by decide) ⟨rfl, rfl⟩⟩
      intro v7 hv7
      simp only [Act.put, List.setIfInBounds_toArray, List.set_cons_zero, List.set_cons_succ]
      clear hv7
      iterate 2 (apply WpI.pure; (simp only [List.getElem?_toArray, List.getElem?_cons_succ, List.getElem?_cons_zero]; rfl); (intro τ wI hA hI; go_simp; exact ⟨hI, Is.rfl'⟩); simp only [Act.put, List.setIfInBounds_toArray, List.set_cons_zero, List.set_cons_succ])
      apply WpI.effect; (simp only [List.getElem?_toArray, List.getElem?_cons_succ, List.getElem?_cons_zero]; rfl)
      · intro τ wI hA hn hI
        have h0 := hI
        rw [HI.out] at h0
        have h6 : τ 6 = some v6 := hA.1 6 (by decide)
        have h7 : τ 7 = some v7 := hA.1 7 (by decide)
        have hK := h0.at2 h6 h7 hn
        have HT := Lib.hid (And.intro True.intro (And.intro h6 ( And.intro h7 (True.intro))))
        clear hA hn hI h0 h6 h7
        obtain ⟨e7, e8⟩ := hK
        subst e7
        subst e8
        obtain ⟨k1, k2⟩ := HC8.out
        go_simp
        rw [← HW9.out, HI.out]
        exact Chain3.put3 HT.out.2.1 (by decide) HT.out.2.2.1 (by decide) rfl
      intro v11 hv11
      simp only [Act.put, List.setIfInBounds_toArray, List.set_cons_zero, List.set_cons_succ]
      clear hv11
      (apply WpI.pure; (simp only [List.getElem?_toArray, List.getElem?_cons_succ, List.getElem?_cons_zero]; rfl); (intro τ wI hA hI; go_simp; exact ⟨hI, Is.rfl'⟩); simp only [Act.put, List.setIfInBounds_toArray, List.set_cons_zero, List.set_cons_succ])
      refine WpI.done ?_
      intro wz hI
      rw [HI.out] at hI
      have hE := hI.end_ (by decide) (by decide) (by decide)
      subst hE
      clear hI hcz H00 HI HFD HC8 HAP HWA HW9
      go_wp2_with fail
      go_roundg (k - (i + 1))
      case measure => omega
      case rel => exact ⟨i + 1, true, ks ++ [x], A8, c8, l + 1, by go_num, rfl, by omega, rfl, HKN, HB9, HO9, HR9⟩
    · skip
      have HKN : Hid (keepF Fk false L = ks ++ keepF Fk true (L.drop (i + 1))) := Lib.hid (by rw [HK.out, HDR.out, keepF, if_pos HFX.out])
      clear HK HDR HFX
      go_wp2_with fail
      go_roundg (k - (i + 1))
      case measure => omega
      case rel => exact ⟨i + 1, true, ks, Ao, c, l, by go_num, rfl, by omega, rfl, HKN, HB7, HO7, HR7⟩
  · obtain rfl : i = k := by omega
    have hni : ¬ (i : Int) < (i : Int) := by omega
    have HME : Hid (Merged g s o ks) := Lib.hid (by
      have h1 := HK.out
      rw [List.drop_of_length_le (by rw [HR5.out.1]; exact Nat.le_refl _), keepF, List.append_nil] at h1
      have h2 := merged_of HG0.out HPS.out HPO.out HP.out HRI.out
      rw [← HL.out, ← HFK.out, h1] at h2
      exact h2)
    have HSP : Hid (SpAt wr w.heap.size g9 ks) := Lib.hid ⟨HRr.out.2.1, by rw [HG9.out]; exact HB5.out.size, Ao, c, by rw [HRr.out.1]; exact HOr.out, by rw [HRr.out.1]; exact HRr.out.2.2.1, fun b hb => Nat.le_trans HB5.out.size (HRr.out.2.2.2 b (by rw [HRr.out.1] at hb; exact hb))⟩
    have HBE : Hid (Below w.heap.size w wr) := Lib.hid (HB5.out.trans (HBr.out.mono HB5.out.size))
    clear HK HBr HOr HRr
    go_wp2_with fail
    go_ret
    exact ⟨g9, rfl, ks, HSP.out, HME.out, HBE.out⟩
end Go.Proofs.YteeijjhgdplifaaGreatDoor
