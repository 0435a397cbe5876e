/- The law's power loss: loses. -/
import Derived.Test.YtjdobjcbmmdjeaaQ7
import Derived.Test.YtjdobjcbmmdjeaaM1
namespace Go.Proofs.Ytjdobjcbmmdjeaa
open Go.RowKit

theorem info4c : (Try.prog.info? 4).map (fun i => (i.zero, i.size, i.bytes)) = some (some (.bool false), 1, 1) := by kernel_rfl

set_option maxRecDepth 100000 in
set_option maxHeartbeats 4000000 in
theorem wloses_ok (w : World) (p d r j q k at_ s : Nat) (F G FJ GQ : Nat → Prop) (S : Dsk) (R : RDsk) (J : Jr) (Q : QJr) (vk vn vback vfill : Int) (vb : Value) (Ak : Option Addr) (mk ck : Nat) (keep : List Bool) (hp : PairAt w p d r j q) (hB : Both w d r j q k F G FJ GQ S R J Q) (hk1 : 1 ≤ k) (hk : k ≤ 2048)
    (hs : 2 ≤ s) (hs2 : s ≤ 31) (ha : at_ + s ≤ k) (hev : S.ev.length ≤ 1000000) (hwr : S.wrote.length ≤ 1000000000) (hkeep : Sl w (fun b => b < w.heap.size) 1 (.slice Ak mk ck) mk (BL keep)) (hmk : mk ≤ 140737488351232) :
    Calls Try.prog 38 #[.pointer (some ⟨p, 0, none⟩), .agg #[.int .i64 vk, .int .i64 vn, .int .i64 vback, vb, .int .u8 vfill, .slice Ak mk ck], .int .i64 at_, .int .i64 s] w fun e w' => e = .returned (.bool true) ∧
      ∃ d' r' j' q' F' G' FJ' GQ' S' R', PairAt w' p d' r' j' q' ∧ Both w' d' r' j' q' k F' G' FJ' GQ' S' R' ⟨at_, s, []⟩ ⟨at_, s, []⟩ ∧ S'.ev.length ≤ 40 ∧ S'.wrote.length ≤ 10000 ∧ Mod (fun b => b = p) w w' ∧
        (∀ b, F' b ∨ G' b ∨ FJ' b ∨ GQ' b → w.heap.size ≤ b) ∧ (∀ b, F' b → ¬ G' b ∧ ¬ FJ' b ∧ ¬ GQ' b) ∧ (∀ b, G' b → ¬ FJ' b ∧ ¬ GQ' b) ∧ ∀ b, FJ' b → ¬ GQ' b := by
  obtain ⟨bx, hbx⟩ : ∃ bx, bx = w.heap.size := ⟨_, rfl⟩
  obtain ⟨W1, hW1⟩ : ∃ W1, W1 = w.alloc (.cells #[.int .i64 vk, .int .i64 vn, .int .i64 vback, vb, .int .u8 vfill, .slice Ak mk ck] 58) := ⟨_, rfl⟩
  have hb1 : Below w.heap.size w W1 := by rw [hW1]; exact (Below.refl _ _).alloc (Nat.le_refl _) _
  have hbl : Blk W1 bx 58 [.int .i64 vk, .int .i64 vn, .int .i64 vback, vb, .int .u8 vfill, .slice Ak mk ck] := by rw [hW1, hbx]; exact Blk.new w 58 _
  obtain ⟨p0, p1, p2, p3, pl⟩ := hp.cells
  obtain ⟨_, _, Ae, ce, _, e1, _, _, hrl⟩ := hB.ref.cell
  rw [hB.rg.rel.el] at e1
  obtain ⟨n, hn⟩ : ∃ n, n = S.ev.length := ⟨_, rfl⟩
  rw [← hn] at e1
  obtain ⟨ct, hctn, hct⟩ := at_fold2 vback n (by omega)
  obtain ⟨nn, hnn⟩ : ∃ nn, nn = n - ct := ⟨_, rfl⟩
  have HNS : Hid (nn ≤ S.ev.length) := Lib.hid (by omega)
  have HRG := Lib.hid hB.rg
  have HP := Lib.hid hp
  have HBO := Lib.hid hB
  have HB1 := Lib.hid hb1
  have HW1 := Lib.hid hW1
  have HKE := Lib.hid hkeep
  have HBX := Lib.hid hbx
  have HBL := Lib.hid hbl
  have HCT := Lib.hid hct
  have HNN := Lib.hid hn
  have hev2 : S.ev.length ≤ 1000000 := hev
  have ew : wrap64 ((n : Int) - (ct : Int)) = (nn : Int) := by unfold wrap64; omega
  have ew2 : IntKind.i64.wrap ((n : Int) - (ct : Int)) = (nn : Int) := by rw [IntKind.wrap_i64]; omega
  have ew3 : (n : Int) - (ct : Int) = (nn : Int) := by omega
  have HEW := Lib.hid (And.intro ew (And.intro ew2 ew3))
  have hn6 : n ≤ 1000000 := by omega
  clear hp hB hb1 hkeep hct hn hnn hev hbl p0 p2 p3 hctn ew ew2 ew3 hbx hW1
  go_enter Try.func38, Try.ntmps38
  go_upto_region 3 with fail
  rw [HCT.out, HEW.out.1, ← HW1.out, ← HBX.out]
  obtain ⟨wd, hwd⟩ : ∃ wd, wd = W1.drew := ⟨_, rfl⟩
  have HBD : Hid (Below w.heap.size w wd) := Lib.hid (by rw [hwd]; exact HB1.out.drew)
  have HCD : Hid (wd.cell? ⟨p, 0, none⟩ = some (.pointer (some ⟨d, 0, none⟩)) ∧ wd.cell? ⟨bx, 5, none⟩ = some (.slice Ak mk ck) ∧ p < wd.heap.size ∧ bx < wd.heap.size) := Lib.hid (by
    obtain ⟨c0, _, _, _, cl⟩ := PairAt.cells (Blk.below' HP.out HBD.out)
    have hb := HBL.out.drew
    rw [← hwd] at hb
    exact ⟨c0, by rw [hb.cell]; rfl, cl, hb.lt⟩)
  have HBX2 : Hid (wd.cell? ⟨bx, 5, none⟩ = some (.slice Ak mk ck) ∧ bx < wd.heap.size) := Lib.hid ⟨HCD.out.2.1, HCD.out.2.2.2⟩
  have HNIL : Hid ((wd.alloc (.cells #[] 4)).ownsRow 0 4 1 (.slice (some ⟨wd.heap.size, 0, none⟩) 0 0) 0 []) := Lib.hid (own_of_blk (cs := []) (Blk.new wd 4 #[]) 1 0 rfl (by simp [maxLen]))
  have HKA : Hid (Sl (wd.alloc (.cells #[] 4)) (fun b => b < w.heap.size) 1 (.slice Ak mk ck) mk (keep.map Value.bool)) := Lib.hid (HKE.out.below (by omega) (HBD.out.alloc HBD.out.size _))
  have HKO : Hid (∀ u ∈ keep.map Value.bool, u.oneCell' = true) := Lib.hid (fun u hu => by obtain ⟨b, _, rfl⟩ := List.mem_map.1 hu; rfl)
  have HDD := Lib.hid (HBO.out.disk.below HBD.out)
  have hsw := HBD.out.size
  clear p1 pl e1 hrl
  try simp only [Act.put, List.setIfInBounds_toArray, List.set_cons_zero, List.set_cons_succ]
  obtain ⟨Inv, hInv⟩ : ∃ Inv : Done → World → Prop, Inv = Chain3 5 8 9 (fun wI => wI = wd) (fun x wI => x = .slice (some ⟨wd.heap.size, 0, none⟩) 0 0 ∧ wI = wd.alloc (.cells #[] 4)) (fun x y wI => ∃ A4 c4, y = .slice A4 mk c4 ∧ wI.ownsRow 0 4 1 y mk (keep.map Value.bool) ∧ (∀ b, y.ownBlock = some b → wd.heap.size ≤ b) ∧ Below wd.heap.size wd wI) (fun x y z wI => ∃ o, z = .tuple #[.pointer (some ⟨o, 0, none⟩), .int .i64 0] ∧ DiskAt wI (fun b => wd.heap.size ≤ b ∧ b < wI.heap.size) o ⟨lossOf S nn keep, lossOf S nn keep, [], []⟩ ∧ Below wd.heap.size wd wI) := ⟨_, rfl⟩
  have HI := Lib.hid hInv
  have hcz : Hid (∀ τ wI, Inv τ wI → τ 9 = none → wI.cell? ⟨p, 0, none⟩ = some (.pointer (some ⟨d, 0, none⟩)) ∧ wI.cell? ⟨bx, 5, none⟩ = some (.slice Ak mk ck) ∧ p < wI.heap.size ∧ bx < wI.heap.size) := by
    intro τ wI h h9
    rw [hInv] at h
    have key : ∀ wI, Below wd.heap.size wd wI → wI.cell? ⟨p, 0, none⟩ = some (.pointer (some ⟨d, 0, none⟩)) ∧ wI.cell? ⟨bx, 5, none⟩ = some (.slice Ak mk ck) ∧ p < wI.heap.size ∧ bx < wI.heap.size := fun wI hb => by
      obtain ⟨d0, d1, d2, d3⟩ := HCD.out
      have := hb.size
      exact ⟨(hb.cell (p := ⟨p, 0, none⟩) d2).trans d0, (hb.cell (p := ⟨bx, 5, none⟩) d3).trans d1, by omega, by omega⟩
    rcases h.upto2 h9 with rfl | ⟨x, _, rfl⟩ | ⟨x, y, A4, c4, _, _, _, hb⟩
    · exact key _ (Below.refl _ _)
    · exact key _ ((Below.refl _ _).alloc (Nat.le_refl _) _)
    · exact key _ hb
  have H00 : Hid (Inv Done.none W1.drew) := by rw [hInv]; exact Chain3.start hwd.symm
  clear hInv hwd
  refine wp_region_inv (by kernel_rfl) [⟨0, false, [], [9]⟩, ⟨1, false, [], [9]⟩, ⟨2, false, [], [9]⟩, ⟨3, false, [], [9]⟩, ⟨4, false, [], [9]⟩, ⟨6, false, [], [8, 9]⟩, ⟨7, false, [], [8, 9]⟩, ⟨5, true, [], [8, 9]⟩, ⟨8, true, [5], [9]⟩, ⟨9, true, [5, 8], []⟩, ⟨10, false, [5, 8, 9], []⟩, ⟨11, false, [5, 8, 9], []⟩, ⟨12, false, [5, 8, 9], []⟩, ⟨13, false, [5, 8, 9], []⟩, ⟨14, false, [5, 8, 9], []⟩] (by kernel_rfl) Inv (fun i v => i = 9 → ∃ o, v = .tuple #[.pointer (some ⟨o, 0, none⟩), .int .i64 0]) (fun _ => ⟨.tuple #[.pointer (some ⟨0, 0, none⟩), .int .i64 0], fun _ => ⟨0, rfl⟩⟩) H00.out ?_
  iterate 7 (apply WpI.pure; (simp only [List.getElem?_toArray, List.getElem?_cons_succ, List.getElem?_cons_zero]; rfl); (intro τ wI hA hI; obtain ⟨f0, f1, f2, f3⟩ := hcz.out τ wI hI (hA.2 9 (by decide)); go_simp; exact ⟨hI, Is.rfl'⟩); simp only [Act.put, List.setIfInBounds_toArray, List.set_cons_zero, List.set_cons_succ])
  apply WpI.effect; (simp only [List.getElem?_toArray, List.getElem?_cons_succ, List.getElem?_cons_zero]; rfl)
  · intro τ wI hA hn hI
    have h0 := hI
    rw [HI.out] at h0
    have h8 : τ 8 = none := hA.2 8 (by decide)
    have h9 : τ 9 = none := hA.2 9 (by decide)
    have hK := h0.at0 hn h8 h9
    have HT := Lib.hid (And.intro True.intro (And.intro h8 ( And.intro h9 (True.intro))))
    clear hA hn hI h0 h8 h9
    subst hK
    go_simp
    rw [HI.out]
    exact Chain3.put1 HT.out.2.1 (by decide) HT.out.2.2.1 (by decide) ⟨rfl, rfl⟩
  intro v5 hv5
  simp only [Act.put, List.setIfInBounds_toArray, List.set_cons_zero, List.set_cons_succ]
  clear hv5
  apply WpI.effect; (simp only [List.getElem?_toArray, List.getElem?_cons_succ, List.getElem?_cons_zero]; rfl)
  · intro τ wI hA hn hI
    have h0 := hI
    rw [HI.out] at h0
    have h5 : τ 5 = some v5 := hA.1 5 (by decide)
    have h9 : τ 9 = none := hA.2 9 (by decide)
    have hK := h0.at1 h5 hn h9
    have HT := Lib.hid (And.intro True.intro (And.intro h5 ( And.intro h9 (True.intro))))
    clear hA hn hI h0 h5 h9
    obtain ⟨rfl, rfl⟩ := hK
    refine runs_app rfl (.tmp 45) (.tmp 47) 23 rfl 4 (.bool false) 1 1 Try.underlying23 info4c rfl (by omega) (by omega) (.slice (some ⟨wd.heap.size, 0, none⟩) 0 0) 0 [] rfl HNIL.out (fun b => b < w.heap.size) (.slice Ak mk ck) mk (keep.map Value.bool) rfl
      HKA.out HKO.out (by omega) ?_
    intro A4 c4 w4 o1 o2 o3 _
    simp only [List.nil_append] at o1
    rw [Nat.zero_add] at o1 o3 ⊢
    refine ⟨(fun h => absurd h (by decide)), ?_⟩
    rw [HI.out]
    refine Chain3.put2 HT.out.2.1 (by decide) HT.out.2.2.1 (by decide) ⟨A4, c4, rfl, o1, fun b hb => ?_, ?_⟩
    · rcases o3 with e | e <;> rw [e] at hb <;> simp [Value.ownBlock] at hb <;> omega
    · exact ((Below.refl wd.heap.size wd).alloc (Nat.le_refl _) _).trans (o2.below (by simp) (fun b hb => by simp [Value.ownBlock] at hb; omega))
  intro v8 hv8
  simp only [Act.put, List.setIfInBounds_toArray, List.set_cons_zero, List.set_cons_succ]
  clear hv8
  apply WpI.effect; (simp only [List.getElem?_toArray, List.getElem?_cons_succ, List.getElem?_cons_zero]; rfl)
  · intro τ wI hA hn hI
    have h0 := hI
    rw [HI.out] at h0
    have h5 : τ 5 = some v5 := hA.1 5 (by decide)
    have h8 : τ 8 = some v8 := hA.1 8 (by decide)
    have hK := h0.at2 h5 h8 hn
    have HT := Lib.hid (And.intro True.intro (And.intro h5 ( And.intro h8 (True.intro))))
    clear hA hn hI h0 h5 h8
    obtain ⟨A4, c4, rfl, o1, o2, hb⟩ := hK
    have HK := Lib.hid (And.intro o1 (And.intro o2 hb))
    clear o1 o2 hb
    go_simp
    refine (after_ok wI F _ d k nn A4 mk c4 keep S (HDD.out.below HK.out.2.2) hk1 hk HRG.out.good.ok (HNS.out) (by omega) (by omega) (Sl.of_own HK.out.1) (by omega)).mono ?_
    rintro e w' ⟨o, rfl, hd, hb⟩
    refine ⟨_, rfl, ⟨o, rfl⟩, ?_⟩
    rw [HI.out]
    have hsz := HK.out.2.2.size
    exact Chain3.put3 HT.out.2.1 (by decide) HT.out.2.2.1 (by decide) ⟨o, rfl, hd.mono (fun b hb => ⟨by omega, hb.2⟩) (fun b hb => hb.2), below_step' HK.out.2.2 hb⟩
  intro v9 hv9
  simp only [Act.put, List.setIfInBounds_toArray, List.set_cons_zero, List.set_cons_succ]
  obtain ⟨od, rfl⟩ := hv9 rfl
  iterate 5 (apply WpI.pure; (simp only [List.getElem?_toArray, List.getElem?_cons_succ, List.getElem?_cons_zero]; rfl); (intro τ wI hA hI; go_simp; exact ⟨hI, Is.rfl'⟩); simp only [Act.put, List.setIfInBounds_toArray, List.set_cons_zero, List.set_cons_succ])
  refine WpI.done ?_
  intro w3 hI
  rw [HI.out] at hI
  have hE := hI.end_ (by decide) (by decide) (by decide)
  obtain ⟨o', he, hd3, hb3⟩ := hE
  obtain rfl : od = o' := by simpa using he
  have HD3 := Lib.hid (And.intro hd3 hb3)
  have HB3 := Lib.hid (below_step' HBD.out hb3)
  obtain ⟨wd1, hwd1⟩ : ∃ wd1, wd1 = wd := ⟨_, rfl⟩
  rw [← hwd1] at HD3 HBX2 hsw
  clear he hd3 hb3 hI hcz H00 HI HCD HNIL HKA HKO HDD hwd1 HBD
  obtain ⟨wd, hwd⟩ : ∃ wd, wd = w3.drew := ⟨_, rfl⟩
  have HBD : Hid (Below w.heap.size w wd) := Lib.hid (by rw [hwd]; exact HB3.out.drew)
  have HB3D : Hid (Below w3.heap.size w3 wd) := Lib.hid (by rw [hwd]; exact (Below.refl _ _).drew)
  have HCD : Hid (wd.cell? ⟨p, 1, none⟩ = some (.pointer (some ⟨r, 0, none⟩)) ∧ wd.cell? ⟨bx, 5, none⟩ = some (.slice Ak mk ck) ∧ p < wd.heap.size ∧ bx < wd.heap.size) := Lib.hid (by
    obtain ⟨_, c1, _, _, cl⟩ := PairAt.cells (Blk.below' HP.out HBD.out)
    have hb := below_step' HD3.out.2 HB3D.out
    have := hb.size
    exact ⟨c1, (hb.cell (p := ⟨bx, 5, none⟩) HBX2.out.2).trans HBX2.out.1, cl, by have := HBX2.out.2; omega⟩)
  have HKB : Hid (Sl wd (fun b => b < w.heap.size) 1 (.slice Ak mk ck) mk (BL keep)) := Lib.hid (HKE.out.below (by omega) HBD.out)
  have HRR := Lib.hid (HBO.out.ref.below HBD.out)
  go_upto_region 4 with fail
  try simp only [Act.put, List.setIfInBounds_toArray, List.set_cons_zero, List.set_cons_succ]
  obtain ⟨Inv, hInv⟩ : ∃ Inv : Done → World → Prop, Inv = Chain1 7 (fun wI => wI = wd) (fun x wI => ∃ o, x = .tuple #[.pointer (some ⟨o, 0, none⟩), .int .i64 0] ∧ RefAt wI (fun b => wd.heap.size ≤ b ∧ b < wI.heap.size) o ⟨R.loss nn keep, []⟩ ∧ Below wd.heap.size wd wI) := ⟨_, rfl⟩
  have HI := Lib.hid hInv
  have hcz : Hid (∀ τ wI, Inv τ wI → τ 7 = none → wI = wd) := by
    intro τ wI h h9
    rw [hInv] at h
    exact h.upto0 h9
  have H00 : Hid (Inv Done.none w3.drew) := by rw [hInv]; exact Chain1.start hwd.symm
  clear hInv hwd
  refine wp_region_inv (by kernel_rfl) [⟨0, false, [], [7]⟩, ⟨1, false, [], [7]⟩, ⟨2, false, [], [7]⟩, ⟨3, false, [], [7]⟩, ⟨4, false, [], [7]⟩, ⟨5, false, [], [7]⟩, ⟨6, false, [], [7]⟩, ⟨7, true, [], []⟩, ⟨8, false, [7], []⟩, ⟨9, false, [7], []⟩, ⟨10, false, [7], []⟩, ⟨11, false, [7], []⟩, ⟨12, false, [7], []⟩] (by kernel_rfl) Inv (fun _ v => ∃ o, v = .tuple #[.pointer (some ⟨o, 0, none⟩), .int .i64 0]) (fun _ => ⟨.tuple #[.pointer (some ⟨0, 0, none⟩), .int .i64 0], ⟨0, rfl⟩⟩) H00.out ?_
  iterate 7 (apply WpI.pure; (simp only [List.getElem?_toArray, List.getElem?_cons_succ, List.getElem?_cons_zero]; rfl); (intro τ wI hA hI; have f0 := hcz.out τ wI hI (hA.2 7 (by decide)); have e1 := f0; clear f0; subst e1; obtain ⟨x0, x1, x2, x3⟩ := HCD.out; go_simp; exact ⟨hI, Is.rfl'⟩); simp only [Act.put, List.setIfInBounds_toArray, List.set_cons_zero, List.set_cons_succ])
  apply WpI.effect; (simp only [List.getElem?_toArray, List.getElem?_cons_succ, List.getElem?_cons_zero]; rfl)
  · intro τ wI hA hn hI
    have h0 := hI
    rw [HI.out] at h0
    have hK := h0.at0 hn
    have HT := Lib.hid (And.intro True.intro (True.intro))
    clear hA hn hI h0
    subst hK
    obtain ⟨x0, x1, x2, x3⟩ := HCD.out
    go_simp
    refine (rafter_ok wI G _ r nn R Ak mk ck keep HRR.out (HRG.out.rel.ok HRG.out.good) (by rw [HRG.out.rel.el]; exact HNS.out) (by rw [HRG.out.rel.el]; omega) (by rw [HRG.out.rel.fl]; omega) HKB.out (by omega)).mono ?_
    rintro e w' ⟨o, rfl, hd, hb⟩
    refine ⟨_, rfl, ⟨o, rfl⟩, ?_⟩
    rw [HI.out]
    exact Chain1.put1  ⟨o, rfl, hd, hb⟩
  intro v7 hv7
  simp only [Act.put, List.setIfInBounds_toArray, List.set_cons_zero, List.set_cons_succ]
  obtain ⟨orr, rfl⟩ := hv7
  iterate 5 (apply WpI.pure; (simp only [List.getElem?_toArray, List.getElem?_cons_succ, List.getElem?_cons_zero]; rfl); (intro τ wI hA hI; go_simp; exact ⟨hI, Is.rfl'⟩); simp only [Act.put, List.setIfInBounds_toArray, List.set_cons_zero, List.set_cons_succ])
  refine WpI.done ?_
  intro w4 hI
  rw [HI.out] at hI
  have hE := hI.end_
  obtain ⟨o', he, hd4, hb4⟩ := hE
  obtain rfl : orr = o' := by simpa using he
  obtain ⟨S0, hS0⟩ : ∃ S0 : Dsk, S0 = ⟨lossOf S nn keep, lossOf S nn keep, [], []⟩ := ⟨_, rfl⟩
  obtain ⟨R0, hR0⟩ : ∃ R0 : RDsk, R0 = ⟨R.loss nn keep, []⟩ := ⟨_, rfl⟩
  have HRG0 : Hid (RG S0 R0 k) := Lib.hid (by
    have h := HRG.out.rel.loss HRG.out.good nn HNS.out keep
    rw [← hS0, ← hR0] at h
    exact ⟨h.1, h.2⟩)
  have HS0 : Hid (S0.ev.length = 0 ∧ S0.wrote.length = 0 ∧ R0.ev.length = 0) := Lib.hid (by rw [hS0, hR0]; exact ⟨rfl, rfl, rfl⟩)
  have hd3 := HD3.out.1
  rw [← hS0] at hd3
  rw [← hR0] at hd4
  have hs3 := HD3.out.2.size
  have hs4 := hb4.size
  have hs34 := HB3D.out.size
  have hd34 := (hd3.below HB3D.out).below hb4
  have HB4 := Lib.hid (below_step' HBD.out hb4)
  obtain ⟨F1, hF1, hd3'⟩ : ∃ F1 : Nat → Prop, (∀ b, F1 b → w.heap.size ≤ b ∧ b < w3.heap.size) ∧ DiskAt w4 F1 od S0 := ⟨_, fun b hb => ⟨by omega, hb.2⟩, hd34⟩
  obtain ⟨G1, hG1, hd4'⟩ : ∃ G1 : Nat → Prop, (∀ b, G1 b → w3.heap.size ≤ b) ∧ RefAt w4 G1 orr R0 := ⟨_, fun b hb => by omega, hd4⟩
  have HF1 := Lib.hid (And.intro hF1 (And.intro hG1 (And.intro hd3' hd4')))
  have HSZ : Hid (w.heap.size ≤ w3.heap.size ∧ w3.heap.size ≤ w4.heap.size) := Lib.hid ⟨by omega, by omega⟩
  clear he hd3 hd4 hb4 hI hcz H00 HI HCD HKB HRR hS0 hR0 hd34 hF1 hG1 hd3' hd4' hs3 hs4 hs34 HD3 HB3D HBD HB3
  go_wp2_with fail
  refine (open_ok w4 F1 od k at_ s S0 HF1.out.2.2.1 hk1 hk HRG0.out.good hs hs2 ha (by have := HS0.out.1; omega) (by have := HS0.out.2.1; omega)).mono ?_
  rintro e w5 ⟨j', F', FJ', rfl, hj5, hd5, hm5, hF', hFJ', hdis5⟩
  have hr5 := HF1.out.2.2.2.mod hm5 (fun b hb e => by have h1 := HF1.out.2.1 b hb; have h2 := (HF1.out.1 b e).2; omega)
  have HB5 : Hid (Below w.heap.size w w5) := Lib.hid (HB4.out.trans (hm5.below HB4.out.size (fun b hb => (HF1.out.1 b hb).1)))
  have H5 := Lib.hid (And.intro hj5 (And.intro hd5 (And.intro hF' (And.intro hFJ' (And.intro hdis5 hr5)))))
  have HS5 := Lib.hid hm5.size
  clear hj5 hd5 hm5 hF' hFJ' hdis5 hr5
  go_wp2_with fail
  refine (ropen_ok w5 G1 orr k at_ s S0 R0 H5.out.2.2.2.2.2 HRG0.out hk1 hk hs hs2 ha (by have := HS0.out.2.2; omega)).mono ?_
  rintro e w6 ⟨q', FQ', G', rfl, hq6, hr6, hm6, hG', hFQ', hdis6⟩
  have HB6 : Hid (Below w.heap.size w w6) := Lib.hid (HB5.out.trans (hm6.below HB5.out.size (fun b hb => by have h1 := HF1.out.2.1 b hb; have := HSZ.out.1; omega)))
  obtain ⟨hj5, hd5, hF', hFJ', hdis5, _⟩ := H5.out
  have hs6 := hm6.size
  have hs5 := HS5.out
  have hs34 := HSZ.out
  have nG : ∀ b, F' b ∨ FJ' b → ¬ G1 b := fun b hb hg => by
    have h1 := HF1.out.2.1 b hg
    have h3 := HF1.out.2.2.2.lt hg
    rcases hb with hb | hb
    · rcases hF' b hb with h2 | h2
      · have := (HF1.out.1 b h2).2; omega
      · omega
    · have := hFJ' b hb; omega
  have hd6 := hd5.mod hm6 (fun b hb e => nG b (.inl hb) e)
  have hj6 := hj5.mod hm6 (fun b hb e => nG b (.inr hb) e)
  have hwF : ∀ b, F' b ∨ G' b ∨ FJ' b ∨ FQ' b → w.heap.size ≤ b := fun b hb => by
    rcases hb with hb | hb | hb | hb
    · rcases hF' b hb with h2 | h2
      · exact (HF1.out.1 b h2).1
      · omega
    · rcases hG' b hb with h2 | h2
      · have := HF1.out.2.1 b h2; omega
      · omega
    · have := hFJ' b hb; omega
    · have := hFQ' b hb; omega
  have hFG : ∀ b, F' b → ¬ G' b ∧ ¬ FJ' b ∧ ¬ FQ' b := fun b hb => ⟨fun hg => by
    rcases hG' b hg with h2 | h2
    · exact nG b (.inl hb) h2
    · have := hd5.lt hb; omega, hdis5 b hb, fun hg => by have := hd5.lt hb; have := hFQ' b hg; omega⟩
  have hGJ : ∀ b, G' b → ¬ FJ' b ∧ ¬ FQ' b := fun b hb => ⟨fun hg => by
    rcases hG' b hb with h2 | h2
    · exact nG b (.inr hg) h2
    · have := hj5.lt hg; omega, hdis6 b hb⟩
  have hJQ : ∀ b, FJ' b → ¬ FQ' b := fun b hb hg => by have := hj5.lt hb; have := hFQ' b hg; omega
  have H6 := Lib.hid (And.intro hd6 (And.intro hr6 (And.intro hj6 (And.intro hq6 (And.intro hwF (And.intro hFG (And.intro hGJ hJQ)))))))
  have HRG6 := Lib.hid (HRG0.out.opn ha hs)
  have HEV6 : Hid ((opn k at_ s S0).ev.length ≤ 40 ∧ (opn k at_ s S0).wrote.length ≤ 10000) := Lib.hid (by
    obtain ⟨_, h1, h2⟩ := opn_good (k := k) HRG0.out.good ha hs
    have h3 := HS0.out
    exact ⟨by omega, by omega⟩)
  have hpb := Blk.below' HP.out HB6.out
  obtain ⟨y0, y1, y2, y3, yl⟩ := PairAt.cells hpb
  have yf : w6.frozen? ⟨p, 0, none⟩ = false := hpb.frozen 0
  have yf1 : w6.frozen? ⟨p, 1, none⟩ = false := hpb.frozen 1
  have yf2 : w6.frozen? ⟨p, 2, none⟩ = false := hpb.frozen 2
  have yf3 : w6.frozen? ⟨p, 3, none⟩ = false := hpb.frozen 3
  have HPB := Lib.hid hpb
  clear hj5 hd5 hF' hFJ' hdis5 hs6 hs5 hs34 nG hd6 hj6 hwF hFG hGJ hJQ hq6 hr6 hm6 hG' hFQ' hdis6 hpb H5
  go_wp2_with fail
  go_ret
  have hpl : p < w.heap.size := Blk.lt HP.out
  have hm : Mod (fun b => b = p) w6 ((((w6.setCell ⟨p, 0, none⟩ (.pointer (some ⟨od, 0, none⟩))).setCell ⟨p, 1, none⟩ (.pointer (some ⟨orr, 0, none⟩))).setCell ⟨p, 2, none⟩ (.pointer (some ⟨j', 0, none⟩))).setCell ⟨p, 3, none⟩ (.pointer (some ⟨q', 0, none⟩))) :=
    ((((Mod.refl (fun b => b = p) w6).setCell (p := ⟨p, 0, none⟩) (fun _ => rfl) _).setCell (p := ⟨p, 1, none⟩) (fun _ => rfl) _).setCell (p := ⟨p, 2, none⟩) (fun _ => rfl) _).setCell (p := ⟨p, 3, none⟩) (fun _ => rfl) _
  obtain ⟨hd6, hr6, hj6, hq6, hwF, hFG, hGJ, hJQ⟩ := H6.out
  refine ⟨rfl, od, orr, j', q', F', G', FJ', FQ', _, _, (((HPB.out.set_ 0 _).set_ 1 _).set_ 2 _).set_ 3 _, ⟨hd6.mod hm (fun b hb e => by have := hwF b (.inl hb); omega), hr6.mod hm (fun b hb e => by have := hwF b (.inr (.inl hb)); omega), hj6.mod hm (fun b hb e => by have := hwF b (.inr (.inr (.inl hb))); omega), hq6.mod hm (fun b hb e => by have := hwF b (.inr (.inr (.inr hb))); omega), HRG6.out, JQ.nil⟩, HEV6.out.1, HEV6.out.2, (Mod.of_below HB6.out).trans hm (fun _ _ h => h), hwF, hFG, hGJ, hJQ⟩
end Go.Proofs.Ytjdobjcbmmdjeaa
