/- Spans: Text. -/
import Derived.Test.YteeijjhgdplifaaGreatDoorTQ
import Derived.Test.YteeijjhgdplifaaGreatDoorTE
namespace Go.Proofs.YteeijjhgdplifaaGreatDoor
open Go.RowKit

theorem Chain2.start' {a b : Nat} {S0 : World → Prop} {S1 : Value → World → Prop} {S2 : Value → Value → World → Prop} {τ : Done} {w : World} (ha : τ a = none) (hb : τ b = none) (h : S0 w) : Chain2 a b S0 S1 S2 τ w := by simpa only [Chain2, ha, hb] using h
theorem pieces_snoc : ∀ (k : Nat) (cs : List Cut) (x y : Cut), cs[2 * k]? = some x → cs[2 * k + 1]? = some y → piecesP (cs.take (2 * (k + 1))) = piecesP (cs.take (2 * k)) ++ [pieceP x y]
  | 0, cs, x, y, hx, hy => by
    match cs, hx, hy with
    | a :: b :: r, hx, hy =>
      obtain rfl : a = x := by simpa using hx
      obtain rfl : b = y := by simpa using hy
      rfl
  | k + 1, cs, x, y, hx, hy => by
    match cs, hx, hy with
    | a :: b :: r, hx, hy =>
      have ih := pieces_snoc k r x y (by simpa [show 2 * (k + 1) = 2 * k + 1 + 1 by omega] using hx) (by simpa [show 2 * (k + 1) + 1 = 2 * k + 1 + 1 + 1 by omega] using hy)
      rw [show 2 * (k + 1 + 1) = 2 * (k + 1) + 1 + 1 by omega, List.take_succ_cons, List.take_succ_cons, show 2 * (k + 1) = 2 * k + 1 + 1 by omega, List.take_succ_cons, List.take_succ_cons, piecesP, piecesP, show 2 * k + 1 + 1 = 2 * (k + 1) by omega, ih, List.cons_append]
theorem piece_len {a b : Cut} (ha : a.Ok) (hb : b.Ok) : (pieceP a b).length ≤ 200 := by
  unfold pieceP
  split
  · have := tv_len ha.1; simp; omega
  · split
    · decide
    · exact lowHigh_len ha hb 44
theorem pieces_len : ∀ (cs : List Cut), Oks cs → (∀ p ∈ piecesP cs, p.length ≤ 200) ∧ (piecesP cs).length ≤ cs.length
  | [], _ => ⟨fun p hp => (by cases hp), Nat.le_refl _⟩
  | [_], _ => ⟨fun p hp => (by cases hp), Nat.zero_le _⟩
  | a :: b :: r, h => by
    have ih := pieces_len r (fun x hx => h x (by simp [hx]))
    refine ⟨fun p hp => ?_, ?_⟩
    · rcases List.mem_cons.1 hp with rfl | hp
      · exact piece_len (h a (by simp)) (h b (by simp))
      · exact ih.1 p hp
    · rw [piecesP]; simp only [List.length_cons]; omega
theorem joinTail_len2 {sep : UInt8} : ∀ (xs : List (List UInt8)), (∀ x ∈ xs, x.length ≤ 200) → (Lib.joinTail [sep] xs).length ≤ xs.length * 201
  | [], _ => by simp [Lib.joinTail]
  | x :: xs, h => by
    have ih := joinTail_len2 (sep := sep) xs (fun y hy => h y (List.mem_cons_of_mem _ hy))
    have hx := h x (by simp)
    rw [joinTail_cons, List.length_append, List.length_append, List.length_cons, List.length_cons, List.length_nil]
    omega
theorem join_len2 {sep : UInt8} (xs : List (List UInt8)) (h : ∀ x ∈ xs, x.length ≤ 200) : (Lib.join xs [sep]).length ≤ xs.length * 201 := by
  cases xs with
  | nil => simp [Lib.join]
  | cons x xs =>
    have := joinTail_len2 (sep := sep) xs (fun y hy => h y (List.mem_cons_of_mem _ hy))
    have hx := h x (by simp)
    rw [Lib.join_cons, List.length_append, List.length_cons]
    omega
set_option maxRecDepth 100000 in
set_option maxHeartbeats 8000000 in
theorem spText_ok (B g : Nat) (cs : List Cut) (htag : ∀ c ∈ cs, c.v.t.length ≤ 140737488355328) (hev : cs.length % 2 = 0) (hl : cs.length ≤ 100000) (w : World) (hg : GT w) (h : SpAt w B g cs) :
    Calls Tryz.prog 21 #[sp0 g] w fun e w' => e = .returned (.string (bl (textP cs))) ∧ Below w.heap.size w w' := by
  have N1 := Lib.hid h.none
  obtain ⟨hok, _, A0, c0, kb, ho, _⟩ := h
  obtain ⟨n, hn⟩ : ∃ n, n = cs.length := ⟨_, rfl⟩
  have hsl := Sl.of_own ho
  rw [← hn] at kb ho hl hev hsl
  have HOK : Hid (Oks cs) := Lib.hid hok
  have HTG := Lib.hid htag
  have HN := Lib.hid hn
  have HG := Lib.hid hg
  have HKB := Lib.hid kb
  have HSL := Lib.hid hsl
  have f1 : w.cell? ⟨g, 1, none⟩ = some (.slice A0 n c0) := by rw [kb.cell]; rfl
  have l1 := kb.lt
  clear hok htag hn hg kb hsl ho
  by_cases h0 : n = 0
  · subst h0
    obtain rfl : cs = [] := List.length_eq_zero_iff.1 HN.out.symm
    go_enter Tryz.func21, Tryz.ntmps21
    go_wp2_with fail
    refine (none_ok (sp0 g) false w N1.out).mono ?_
    rintro e w' ⟨rfl, rfl⟩
    go_wp2_with fail
    go_ret
    exact ⟨rfl, Below.refl _ _⟩
  have hI0 : ¬ (n : Int) = 0 := by omega
  have hI1 : ((n : Int) == 0) = false := by rw [beq_eq_false_iff_ne]; exact hI0
  obtain ⟨b, o, rfl, hrd⟩ := creads_of HOK.out HSL.out (by omega)
  have HRD : Hid (∀ wI, Below w.heap.size w wI → ∀ k c, cs[k]? = some c → (loadVar 57 ⟨b, o + k * 7, none⟩).run Tryz.prog wI = .ok (.agg c.cells.toArray) wI) := Lib.hid hrd
  have HCF : Hid (∀ wI, Below w.heap.size w wI → wI.cell? ⟨g, 1, none⟩ = some (.slice (some ⟨b, o, none⟩) n c0) ∧ Below w.heap.size w wI) := Lib.hid (fun wI hb => ⟨by rw [(HKB.out.below' hb).cell]; rfl, hb⟩)
  have HR0 : Hid (SRow w w.heap.size none 0 0 (piecesP (cs.take (2 * 0)))) := Lib.hid (SRow.nil_ w _)
  have HB0 : Hid (Below w.heap.size w w) := Lib.hid (Below.refl _ _)
  clear hrd HKB
  go_enter Tryz.func21, Tryz.ntmps21
  go_wp2_with fail
  refine (none_ok (sp0 g) false w N1.out).mono ?_
  rintro e w' ⟨rfl, rfl⟩
  go_wp2_with fail
  go_loopg [4, 3] n (fun kq iv sv wr => ∃ (i k : Nat) (A : Option Addr) (c : Nat), iv = .int .i64 i ∧ sv = .slice A k c ∧ i ≤ n ∧ kq = n - i ∧ Hid (i = 2 * k) ∧ Hid (SRow wr w.heap.size A c k (piecesP (cs.take (2 * k)))) ∧ Hid (Below w.heap.size w wr))
  case atStart => exact ⟨0, 0, none, 0, rfl, rfl, by omega, rfl, Lib.hid rfl, HR0, HB0⟩
  case round =>
  clear HR0 HB0 f1 l1
  obtain ⟨i, k, A, c, rfl, rfl, hk, rfl, HIK, HRW, HBW⟩ := hrel
  have f1 := (HCF.out wr HBW.out).1
  have l1 : g < wr.heap.size := World.block_lt_of_cell? _ _ f1
  by_cases hlt : i < n
  · have hlt1 : i + 1 < n := by have := HIK.out; omega
    have hltI : (i : Int) + 1 < (n : Int) := by omega
    have hi0 : 0 ≤ (i : Int) := by omega
    have hin : (i : Int) < (n : Int) := by omega
    have hw1 : IntKind.i64.wrap ((i : Int) + 1) = (i : Int) + 1 := by rw [IntKind.wrap_i64]; omega
    have hi1 : 0 ≤ (i : Int) + 1 := by omega
    have hkn : k ≤ n := by have := HIK.out; omega
    obtain ⟨x, hx⟩ : ∃ x, cs[i]? = some x := ⟨_, List.getElem?_eq_getElem (by have := HN.out; omega)⟩
    obtain ⟨y, hy⟩ : ∃ y, cs[i + 1]? = some y := ⟨_, List.getElem?_eq_getElem (by have := HN.out; omega)⟩
    have HX := Lib.hid hx
    have HY := Lib.hid hy
    obtain ⟨pc, hpc⟩ : ∃ pc, pc = pieceP x y := ⟨_, rfl⟩
    obtain ⟨SP, hSP⟩ : ∃ SP, SP = bl pc := ⟨_, rfl⟩
    obtain ⟨xs, hxs⟩ : ∃ xs, xs = piecesP (cs.take (2 * k)) := ⟨_, rfl⟩
    rw [← hxs] at HRW
    have HPN : Hid (piecesP (cs.take (2 * (k + 1))) = xs ++ [pc]) := Lib.hid (by rw [pieces_snoc k cs x y (by rw [← HIK.out]; exact hx) (by rw [← HIK.out]; exact hy), hxs, hpc])
    have HPI : Hid (∀ wI, Below w.heap.size w wI → Calls Tryz.prog 39 #[.agg x.cells.toArray, .agg y.cells.toArray] wI fun e w' => e = .returned (.string SP) ∧ Below wI.heap.size wI w') := Lib.hid (fun wI hb => by
      rw [hSP, hpc]
      exact piece_ok x y (HOK.out x (List.mem_of_getElem? hx)) (HOK.out y (List.mem_of_getElem? hy)) (HTG.out x (List.mem_of_getElem? hx)) (HTG.out y (List.mem_of_getElem? hy)) wI (HG.out.below hb))
    have HSP := Lib.hid hSP
    clear hx hy hpc hSP hxs
    go_upto_region 9 with fail
    try simp only [Act.put, List.setIfInBounds_toArray, List.set_cons_zero, List.set_cons_succ]
    obtain ⟨Inv, hInv⟩ : ∃ Inv : Done → World → Prop, Inv = Chain2 17 18 (fun wI => Below wr.heap.size wr wI) (fun u wI => ∃ gs, u = .slice (some ⟨gs, 0, none⟩) 1 1 ∧ Blk wI gs 9 [.string SP] ∧ Below wr.heap.size wr wI) (fun u y wI => ∃ A c, y = .slice A (k + 1) c ∧ SRow wI w.heap.size A c (k + 1) (xs ++ [pc]) ∧ Below w.heap.size w wI) := ⟨_, rfl⟩
    have HI := Lib.hid hInv
    have hcz : Hid (∀ τ wI, Inv τ wI → τ 18 = none → wI.cell? ⟨g, 1, none⟩ = some (.slice (some ⟨b, o, none⟩) n c0) ∧ Below w.heap.size w wI) := by
      intro τ wI h h9
      rw [hInv] at h
      rcases h.upto1 h9 with h | ⟨_, _, _, _, h⟩
      · exact HCF.out wI (HBW.out.trans (h.mono HBW.out.size))
      · exact HCF.out wI (HBW.out.trans (h.mono HBW.out.size))
    have H00 : Hid (Inv Done.none wr.drew) := by rw [hInv]; exact Chain2.start (Below.refl _ _).drew
    clear hInv
    refine wp_region_inv (by kernel_rfl) [⟨0, false, [], [18]⟩, ⟨1, false, [], [17, 18]⟩, ⟨2, false, [], [17, 18]⟩, ⟨3, false, [], [17, 18]⟩, ⟨4, false, [], [17, 18]⟩, ⟨5, false, [], [17, 18]⟩, ⟨6, false, [], [17, 18]⟩, ⟨7, false, [], [17, 18]⟩, ⟨8, false, [], [17, 18]⟩, ⟨9, false, [], [17, 18]⟩, ⟨10, false, [], [17, 18]⟩, ⟨11, false, [], [17, 18]⟩, ⟨12, false, [], [17, 18]⟩, ⟨13, false, [], [17, 18]⟩, ⟨14, false, [], [17, 18]⟩, ⟨15, false, [], [17, 18]⟩, ⟨16, false, [], [17, 18]⟩, ⟨17, true, [], [18]⟩, ⟨18, true, [17], []⟩, ⟨19, false, [17, 18], []⟩] (by kernel_rfl) Inv (fun _ _ => True) (fun _ => ⟨undef, trivial⟩) H00.out ?_
    iterate 7 (apply WpI.pure; (simp only [List.getElem?_toArray, List.getElem?_cons_succ, List.getElem?_cons_zero]; rfl); (intro τ wI hA hI; obtain ⟨f0, f1⟩ := hcz.out τ wI hI (hA.2 18 (by decide)); go_simp; exact ⟨hI, Is.rfl'⟩); simp only [Act.put, List.setIfInBounds_toArray, List.set_cons_zero, List.set_cons_succ])
    (apply WpI.pure; (simp only [List.getElem?_toArray, List.getElem?_cons_succ, List.getElem?_cons_zero]; rfl); (intro τ wI hA hI; obtain ⟨f0, f1⟩ := hcz.out τ wI hI (hA.2 18 (by decide)); refine runs_load_a rfl 57 (.tmp 31) rfl ⟨b, o + i * 7, none⟩ rfl _ (HRD.out wI f1 i x HX.out) ?_; exact ⟨hI, Is.rfl'⟩); simp only [Act.put, List.setIfInBounds_toArray, List.set_cons_zero, List.set_cons_succ])
    iterate 7 (apply WpI.pure; (simp only [List.getElem?_toArray, List.getElem?_cons_succ, List.getElem?_cons_zero]; rfl); (intro τ wI hA hI; obtain ⟨f0, f1⟩ := hcz.out τ wI hI (hA.2 18 (by decide)); go_simp; exact ⟨hI, Is.rfl'⟩); simp only [Act.put, List.setIfInBounds_toArray, List.set_cons_zero, List.set_cons_succ])
    (apply WpI.pure; (simp only [List.getElem?_toArray, List.getElem?_cons_succ, List.getElem?_cons_zero]; rfl); (intro τ wI hA hI; obtain ⟨f0, f1⟩ := hcz.out τ wI hI (hA.2 18 (by decide)); refine runs_load_a rfl 57 (.tmp 39) rfl ⟨b, o + (i + 1) * 7, none⟩ rfl _ (HRD.out wI f1 (i + 1) y HY.out) ?_; exact ⟨hI, Is.rfl'⟩); simp only [Act.put, List.setIfInBounds_toArray, List.set_cons_zero, List.set_cons_succ])
    (apply WpI.pure; (simp only [List.getElem?_toArray, List.getElem?_cons_succ, List.getElem?_cons_zero]; rfl); (intro τ wI hA hI; obtain ⟨f0, f1⟩ := hcz.out τ wI hI (hA.2 18 (by decide)); have h17 := hA.2 17 (by decide); have h18 := hA.2 18 (by decide); have hK := hI; rw [HI.out] at hK; have hK0 := hK.at0 h17 h18; go_simp; refine (HPI.out wI f1).mono ?_; rintro e w' ⟨rfl, hb⟩; refine ⟨_, rfl, ?_, Is.rfl'⟩; rw [HI.out]; exact Chain2.start' h17 h18 (hK0.trans (hb.mono hK0.size))); simp only [Act.put, List.setIfInBounds_toArray, List.set_cons_zero, List.set_cons_succ])
    apply WpI.effect; (simp only [List.getElem?_toArray, List.getElem?_cons_succ, List.getElem?_cons_zero]; rfl)
    · intro τ wI hA hn hI
      have h0 := hI
      rw [HI.out] at h0
      have h18 : τ 18 = none := hA.2 18 (by decide)
      have hK := h0.at0 hn h18
      have HT := Lib.hid (And.intro True.intro (And.intro h18 (True.intro)))
      clear hA hn hI h0 h18
      go_simp
      rw [HI.out]
      exact Chain2.put1 HT.out.2.1 (by decide) ⟨wI.heap.size, rfl, Blk.new _ _ _, hK.alloc hK.size _⟩
    intro v17 hv17
    simp only [Act.put, List.setIfInBounds_toArray, List.set_cons_zero, List.set_cons_succ]
    clear hv17
    apply WpI.effect; (simp only [List.getElem?_toArray, List.getElem?_cons_succ, List.getElem?_cons_zero]; rfl)
    · intro τ wI hA hn hI
      have h0 := hI
      rw [HI.out] at h0
      have h17 : τ 17 = some v17 := hA.1 17 (by decide)
      have hK := h0.at1 h17 hn
      have HT := Lib.hid (And.intro True.intro (And.intro h17 (True.intro)))
      clear hA hn hI h0 h17
      obtain ⟨gs, e7, hbs, hbr⟩ := hK
      subst e7
      obtain ⟨A3, c3, w3, hap, hr3, hb3⟩ := (HRW.out.below hbr).app (HBW.out.trans (hbr.mono HBW.out.size)) (Sl.of_blk hbs 1 1 1 rfl (Nat.le_refl _)) HSP.out (by omega)
      refine runs_app_run rfl (.tmp 25) (.tmp 42) 48 48 rfl _ _ rfl rfl _ _ hap ?_
      rw [HI.out]
      exact ⟨trivial, Chain2.put2 HT.out.2.1 (by decide) ⟨A3, c3, rfl, hr3, hb3⟩⟩
    intro v18 hv18
    simp only [Act.put, List.setIfInBounds_toArray, List.set_cons_zero, List.set_cons_succ]
    clear hv18
    (apply WpI.pure; (simp only [List.getElem?_toArray, List.getElem?_cons_succ, List.getElem?_cons_zero]; rfl); (intro τ wI hA hI; go_simp; exact ⟨hI, Is.rfl'⟩); simp only [Act.put, List.setIfInBounds_toArray, List.set_cons_zero, List.set_cons_succ])
    refine WpI.done ?_
    intro w5 hI
    rw [HI.out] at hI
    have hE := hI.end_ (by decide)
    obtain ⟨A5, c5, rfl, hr5, hb5⟩ := hE
    have HR5 : Hid (SRow w5 w.heap.size A5 c5 (k + 1) (piecesP (cs.take (2 * (k + 1))))) := Lib.hid (by rw [HPN.out]; exact hr5)
    have HB5 := Lib.hid hb5
    have HIN : Hid (i + 2 = 2 * (k + 1)) := Lib.hid (by have := HIK.out; omega)
    clear hI hcz H00 HI hr5 hb5 HRW HBW f1 l1
    go_wp2_with fail
    go_roundg (n - (i + 2))
    case measure => omega
    case rel => exact ⟨i + 2, k + 1, A5, c5, by go_num, rfl, by omega, rfl, HIN, HR5, HB5⟩
  · obtain rfl : i = n := by omega
    have hkn : 2 * k = i := HIK.out.symm
    have hni : ¬ (i : Int) + 1 < (i : Int) := by omega
    have hkI : k ≤ 100000 := by omega
    have HTX : Hid (textP cs = Lib.join (piecesP (cs.take (2 * k))) [124]) := Lib.hid (by
      unfold textP
      rw [if_neg (fun e => by have := HN.out; rw [e] at this; simp at this; omega), List.take_of_length_le (by have := HN.out; omega)])
    have hpl := pieces_len cs HOK.out
    have HJ := Lib.hid (SRow.join HRW.out (by omega) [124] (by
      have h1 := join_len2 (sep := 124) (piecesP (cs.take (2 * k))) (by rw [List.take_of_length_le (by have := HN.out; omega)]; exact hpl.1)
      have h2 := hpl.2
      rw [List.take_of_length_le (by have := HN.out; omega)] at h1 ⊢
      have := HN.out
      omega))
    clear hpl
    go_wp2_with fail
    refine HJ.out.mono ?_
    rintro e w9 ⟨rfl, hb9⟩
    have HB9 : Hid (Below w.heap.size w w9) := Lib.hid (HBW.out.trans (hb9.mono HBW.out.size))
    rw [← HTX.out]
    clear hb9
    go_wp2_with fail
    go_ret
    exact ⟨rfl, HB9.out⟩
end Go.Proofs.YteeijjhgdplifaaGreatDoor
