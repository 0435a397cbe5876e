/- The law's look at both sides: same. -/
import Derived.Test.YtjdobjcbmmdjeaaQ6
namespace Go.Proofs.Ytjdobjcbmmdjeaa
open Go.RowKit

theorem shows_eq {J : Jr} {l : List (Int × List UInt8)} (h : JQ J.put l) (S : Dsk) (k : Nat) (z : Int) : J.shows S k z = qshows l S k z := by
  unfold Jr.shows qshows
  rw [h.get]
  cases mget l z <;> rfl
def PairAt (w : World) (p d r j q : Nat) : Prop := Blk w p 78 [.pointer (some ⟨d, 0, none⟩), .pointer (some ⟨r, 0, none⟩), .pointer (some ⟨j, 0, none⟩), .pointer (some ⟨q, 0, none⟩)]
theorem PairAt.cells {w : World} {p d r j q : Nat} (h : PairAt w p d r j q) : w.cell? ⟨p, 0, none⟩ = some (.pointer (some ⟨d, 0, none⟩)) ∧ w.cell? ⟨p, 1, none⟩ = some (.pointer (some ⟨r, 0, none⟩)) ∧ w.cell? ⟨p, 2, none⟩ = some (.pointer (some ⟨j, 0, none⟩)) ∧ w.cell? ⟨p, 3, none⟩ = some (.pointer (some ⟨q, 0, none⟩)) ∧ p < w.heap.size := by
  have h' : Blk w p 78 _ := h
  exact ⟨by rw [h'.cell]; rfl, by rw [h'.cell]; rfl, by rw [h'.cell]; rfl, by rw [h'.cell]; rfl, h'.lt⟩
/-- both sides in memory -/
structure Both (w : World) (d r j q k : Nat) (F G FJ GQ : Nat → Prop) (S : Dsk) (R : RDsk) (J : Jr) (Q : QJr) : Prop where
  disk : DiskAt w F d S
  ref : RefAt w G r R
  jr : JrAt w FJ j d J
  qr : QAt w GQ q r Q
  rg : RG S R k
  jq : JQ J.put Q.l
theorem Both.below {w w' : World} {d r j q k : Nat} {F G FJ GQ : Nat → Prop} {S : Dsk} {R : RDsk} {J : Jr} {Q : QJr} (h : Both w d r j q k F G FJ GQ S R J Q) (hb : Below w.heap.size w w') : Both w' d r j q k F G FJ GQ S R J Q :=
  ⟨h.disk.below hb, h.ref.below hb, h.jr.below hb, h.qr.below hb, h.rg, h.jq⟩
theorem sh_len (S : Dsk) (k : Nat) (z : Int) (hnow : S.now.length = k * 256) : (shown S k z).1.length ≤ 256 := by
  unfold shown
  split
  · rw [sec_length hnow (by omega)]; exact Nat.le_refl _
  · simp

set_option maxRecDepth 100000 in
set_option maxHeartbeats 4000000 in
theorem wsame_ok (w : World) (p d r j q k : Nat) (F G FJ GQ : Nat → Prop) (S : Dsk) (R : RDsk) (J : Jr) (Q : QJr) (hp : PairAt w p d r j q) (hB : Both w d r j q k F G FJ GQ S R J Q) (hk1 : 1 ≤ k) (hk : k ≤ 2048) (hev : S.ev.length ≤ 1000000) (hl : J.put.length ≤ 1000000) :
    Calls Try.prog 39 #[.pointer (some ⟨p, 0, none⟩)] w fun e w' => e = .returned (.bool true) ∧ Below w.heap.size w w' := by
  have HCC : Hid (∀ wx, Below w.heap.size w wx → PairAt wx p d r j q ∧ Both wx d r j q k F G FJ GQ S R J Q) := Lib.hid fun wx hx => ⟨Blk.below' hp hx, hB.below hx⟩
  have hql : Q.l.length = J.put.length := hB.jq.length.symm
  have HQL := Lib.hid hql
  have HRG := Lib.hid hB.rg
  have HJQ := Lib.hid hB.jq
  have hfl : R.first.length = k := hB.rg.rel.fl
  have hel : R.ev.length = S.ev.length := hB.rg.rel.el
  have HFL := Lib.hid (And.intro hfl hel)
  clear hql hfl hel hp hB
  go_enter Try.func39, Try.ntmps39
  obtain ⟨wd, hwd⟩ : ∃ wd, wd = w.drew := ⟨_, rfl⟩
  have HBD : Hid (Below w.heap.size w wd) := Lib.hid (by rw [hwd]; exact (Below.refl _ _).drew)
  have HCD : Hid (wd.cell? ⟨p, 0, none⟩ = some (.pointer (some ⟨d, 0, none⟩)) ∧ wd.cell? ⟨p, 1, none⟩ = some (.pointer (some ⟨r, 0, none⟩)) ∧ (∃ Ae ce, wd.cell? ⟨r, 1, none⟩ = some (.slice Ae S.ev.length ce)) ∧ p < wd.heap.size ∧ r < wd.heap.size) := Lib.hid (by
    obtain ⟨h1, h2⟩ := HCC.out wd HBD.out
    obtain ⟨c0, c1, _, _, cl⟩ := h1.cells
    obtain ⟨_, _, Ae, ce, _, e1, _, _, hrl⟩ := h2.ref.cell
    rw [HFL.out.2] at e1
    exact ⟨c0, c1, ⟨Ae, ce, e1⟩, cl, hrl⟩)
  have hex := HCD.out.2.2.1
  obtain ⟨Ae, ce, m2⟩ := hex
  have HCD := Lib.hid (And.intro HCD.out.1 (And.intro HCD.out.2.1 (And.intro m2 (And.intro HCD.out.2.2.2.1 HCD.out.2.2.2.2))))
  have HEV := Lib.hid (HCC.out wd HBD.out).2.disk.events
  clear m2
  go_upto_region 1 with fail
  try simp only [Act.put, List.setIfInBounds_toArray, List.set_cons_zero, List.set_cons_succ]
  obtain ⟨Inv, hInv⟩ : ∃ Inv : Done → World → Prop, Inv = fun _ wI => (fun wI => wI = wd) wI := ⟨_, rfl⟩
  have HI := Lib.hid hInv
  have hcz : Hid (∀ τ wI, Inv τ wI → wI = wd) := by
    intro τ wI h
    rw [hInv] at h
    exact h
  have H00 : Hid (Inv Done.none w.drew) := by rw [hInv]; exact hwd.symm
  clear hInv hwd
  refine wp_region_inv (by kernel_rfl) [⟨0, false, [], []⟩, ⟨1, false, [], []⟩, ⟨2, false, [], []⟩, ⟨3, false, [], []⟩, ⟨4, false, [], []⟩, ⟨5, false, [], []⟩, ⟨6, false, [], []⟩, ⟨7, false, [], []⟩, ⟨8, false, [], []⟩, ⟨9, false, [], []⟩, ⟨10, false, [], []⟩, ⟨11, false, [], []⟩, ⟨12, false, [], []⟩, ⟨13, false, [], []⟩] (by kernel_rfl) Inv (fun _ _ => True) (fun _ => ⟨undef, trivial⟩) H00.out ?_
  iterate 4 (apply WpI.pure; (simp only [List.getElem?_toArray, List.getElem?_cons_succ, List.getElem?_cons_zero]; rfl); (intro τ wI hA hI; have f0 := hcz.out τ wI hI; have e1 := f0; clear f0; subst e1; obtain ⟨x0, x1, x2, x3, x4⟩ := HCD.out; go_simp; exact ⟨hI, Is.rfl'⟩); simp only [Act.put, List.setIfInBounds_toArray, List.set_cons_zero, List.set_cons_succ])
  (apply WpI.pure; (simp only [List.getElem?_toArray, List.getElem?_cons_succ, List.getElem?_cons_zero]; rfl); (intro τ wI hA hI; have f0 := hcz.out τ wI hI; have e1 := f0; clear f0; subst e1; have HX := Lib.hid hI; clear hI hA; go_simp; refine (HEV.out).mono ?_; rintro e w' ⟨rfl, rfl⟩; exact ⟨_, rfl, HX.out, Is.rfl'⟩); simp only [Act.put, List.setIfInBounds_toArray, List.set_cons_zero, List.set_cons_succ])
  iterate 9 (apply WpI.pure; (simp only [List.getElem?_toArray, List.getElem?_cons_succ, List.getElem?_cons_zero]; rfl); (intro τ wI hA hI; have f0 := hcz.out τ wI hI; have e1 := f0; clear f0; subst e1; obtain ⟨x0, x1, x2, x3, x4⟩ := HCD.out; go_simp; exact ⟨hI, Is.rfl'⟩); simp only [Act.put, List.setIfInBounds_toArray, List.set_cons_zero, List.set_cons_succ])
  refine WpI.done ?_
  intro w1 hI
  rw [HI.out] at hI
  have hE := hI
  obtain rfl : w1 = wd := hE
  clear hI hcz H00 HI HCD HEV
  have hnn : ((S.ev.length : Int) != (S.ev.length : Int)) = false := bne_self_eq_false _
  go_wp2_with fail
  go_loopg [3] k (fun kq iv wr => ∃ i : Nat, iv = .int .i64 i ∧ i ≤ k ∧ kq = k - i ∧ Hid (Below w.heap.size w wr))
  case atStart => exact ⟨0, rfl, Nat.zero_le _, rfl, HBD⟩
  case round =>
    clear HBD
    obtain ⟨i, rfl, hi, rfl, hb⟩ := hrel
    have hcc := HCC.out wr hb.out
    obtain ⟨c0, c1, c2, c3, cl⟩ := hcc.1.cells
    obtain ⟨Af, cf, _, _, e0, _, _, _, hrl⟩ := hcc.2.ref.cell
    rw [HFL.out.1] at e0
    have HBO := Lib.hid hcc.2
    clear hcc
    by_cases hlt : i < k
    · obtain ⟨s1, hs1⟩ : ∃ s1 : ByteArray, s1 = ⟨(shown S k i).1.toArray⟩ := ⟨_, rfl⟩
      obtain ⟨z1, hz1⟩ : ∃ z1, z1 = (shown S k i).2 := ⟨_, rfl⟩
      obtain ⟨s2, hs2⟩ : ∃ s2 : ByteArray, s2 = ⟨(qshows Q.l S k i).1.toArray⟩ := ⟨_, rfl⟩
      obtain ⟨z2, hz2⟩ : ∃ z2, z2 = (qshows Q.l S k i).2 := ⟨_, rfl⟩
      have HS1 := Lib.hid (And.intro hs1 (And.intro hz1 (And.intro hs2 hz2)))
      have HR1 := Lib.hid (read_all wr F d k i S HBO.out.disk hk1 hk HRG.out.good.ok.now)
      rw [← hz1] at HR1
      clear hs1 hz1 hs2 hz2
      go_wp2_with fail
      refine HR1.out.mono ?_
      rintro e w2 ⟨A2, m2, c2', rfl, hm2, o2, f2, b2⟩
      have hcv := run_str w2 _ 22 5 9 A2 m2 c2' _ Try.underlying22 Try.underlying5 Try.underlying9 (Sl.of_own o2)
      unfold bstr at hcv
      rw [← HS1.out.1] at hcv
      have HO2 := Lib.hid o2
      have HB2 := Lib.hid (below_step' hb.out b2)
      have HBO2 := Lib.hid (HBO.out.below b2)
      obtain ⟨d0, d1, d2, d3, dl⟩ := (HCC.out w2 HB2.out).1.cells
      have HRR := Lib.hid (rread_all w2 G r k i S R HBO2.out.ref (by have := HFL.out.2; omega) HRG.out.rel HRG.out.good)
      unfold bstr at HRR
      rw [← HS1.out.1, ← HS1.out.2.1] at HRR
      clear o2 f2 b2 hcv HR1
      go_wp2_with fail
      refine HRR.out.mono ?_
      rintro e w' ⟨rfl, rfl⟩
      have HGJ := Lib.hid (get_ok w2 FJ F j d k i J S HBO2.out.jr HBO2.out.disk hk1 hk HRG.out.good.ok.now)
      rw [shows_eq HJQ.out, ← HS1.out.2.2.2] at HGJ
      go_wp2_with fail
      refine HGJ.out.mono ?_
      rintro e w3 ⟨A3, m3, c3', rfl, hm3, o3, f3, b3⟩
      have hcv3 := run_str w3 _ 22 5 9 A3 m3 c3' _ Try.underlying22 Try.underlying5 Try.underlying9 (Sl.of_own o3)
      have hcv2 := run_str w3 _ 22 5 9 A2 m2 c2' _ Try.underlying22 Try.underlying5 Try.underlying9 (Sl.of_own (own_below HO2.out b3))
      unfold bstr at hcv2 hcv3
      rw [← HS1.out.1] at hcv2
      rw [← HS1.out.2.2.1] at hcv3
      have HB3 := Lib.hid (below_step' HB2.out b3)
      have HBO3 := Lib.hid (HBO2.out.below b3)
      obtain ⟨u0, u1, u2, u3, ul⟩ := (HCC.out w3 HB3.out).1.cells
      have HQG := Lib.hid (rget_ok w3 GQ G q r k i Q S R HBO3.out.qr HBO3.out.ref HRG.out (by have := HFL.out.2; omega) (by have := HQL.out; omega))
      unfold bstr at HQG
      rw [← HS1.out.2.2.1, ← HS1.out.2.2.2] at HQG
      clear o3 f3 b3 HGJ HRR d0 d1 d2 d3 dl c0 c1 c2 c3 cl
      go_wp2_with fail
      refine HQG.out.mono ?_
      rintro e w' ⟨rfl, rfl⟩
      have hq1 : (s1.toList == s1.toList) = true := beq_self_eq_true _
      have hq2 : (s2.toList == s2.toList) = true := beq_self_eq_true _
      have hq3 : (z2 != z2) = false := bne_self_eq_false _
      go_wp2_with fail
      go_roundg (k - (i + 1))
      case measure => omega
      case rel => exact ⟨i + 1, by go_num, by omega, rfl, HB3⟩
    · obtain rfl : i = k := by omega
      have HPE := Lib.hid (pending_ok wr FJ j d J HBO.out.jr (by omega))
      go_wp2_with fail
      refine HPE.out.mono ?_
      rintro e w2 ⟨A2, c2', rfl, o2, f2, b2⟩
      obtain ⟨n, hn⟩ : ∃ n, n = J.put.length := ⟨_, rfl⟩
      have hkeys : J.keys = Q.l.map (·.1) := HJQ.out.keys
      rw [← hn, hkeys] at o2
      rw [← hn]
      have HO2 := Lib.hid o2
      have HB2 := Lib.hid (below_step' hb.out b2)
      have hcc2 := HCC.out w2 HB2.out
      obtain ⟨d0, d1, d2, d3, dl⟩ := hcc2.1.cells
      obtain ⟨Aq, cq, _, _, _, q3, _, ql⟩ := hcc2.2.qr.cell
      rw [HQL.out, ← hn] at q3
      have hnq : Q.l.length = n := by rw [HQL.out, hn]
      have HNQ := Lib.hid hnq
      have hn6 : n ≤ 1000000 := by omega
      have hnn2 : ((n : Int) != (n : Int)) = false := bne_self_eq_false _
      clear hn hkeys o2 f2 b2 hcc2 hnq HPE hb c0 c1 c2 c3 cl e0 hrl
      go_wp2_with fail
      clear d0 d1 d2 d3 dl q3 ql
      go_loopg [13] n (fun kq iv wr => ∃ i : Nat, iv = .int .i64 i ∧ i ≤ n ∧ kq = n - i ∧ Hid (Below w2.heap.size w2 wr))
      case atStart => exact ⟨0, rfl, Nat.zero_le _, rfl, Lib.hid (Below.refl _ _)⟩
      case round =>
        obtain ⟨i2, rfl, hi2, rfl, hb⟩ := hrel
        by_cases hlt2 : i2 < n
        · obtain ⟨x, hx⟩ : ∃ x, Q.l[i2]? = some x := ⟨_, List.getElem?_eq_getElem (by rw [HNQ.out]; exact hlt2)⟩
          obtain ⟨z, bs⟩ := x
          have ho := own_below HO2.out hb.out
          obtain ⟨bl, capl, hv, _, hbl⟩ := ho.form (by omega)
          simp only [Value.slice.injEq] at hv
          obtain ⟨rfl, _, rfl⟩ := hv
          have x5 := ho.cells rfl i2 (.int .i64 z) (by simp only [Ints, List.getElem?_map, hx]; rfl)
          rw [add_lit0, Nat.zero_add] at x5
          have hcc := HCC.out wr (below_step' HB2.out hb.out)
          obtain ⟨d0, d1, d2, d3, dl⟩ := hcc.1.cells
          obtain ⟨Aq2, cq2, _, _, _, q3, oq, ql⟩ := hcc.2.qr.cell
          rw [HNQ.out] at q3 oq
          obtain ⟨bq, capq, hvq, _, hbq⟩ := oq.form (by omega)
          simp only [Value.slice.injEq] at hvq
          obtain ⟨rfl, _, rfl⟩ := hvq
          have x6 := oq.cells rfl _ _ (EV_get hx).1
          rw [add_lit0, Nat.zero_add] at x6
          obtain ⟨wd, hwd⟩ : ∃ wd, wd = wr.drew := ⟨_, rfl⟩
          have HCD : Hid (wd.cell? ⟨p, 3, none⟩ = some (.pointer (some ⟨q, 0, none⟩)) ∧ wd.cell? ⟨q, 3, none⟩ = some (.slice (some ⟨bq, 0, none⟩) n cq2) ∧ wd.cell? ⟨bl, i2, none⟩ = some (.int .i64 z) ∧ wd.cell? ⟨bq, i2 * 2, none⟩ = some (.int .i64 z) ∧ p < wd.heap.size ∧ q < wd.heap.size ∧ bl < wd.heap.size ∧ bq < wd.heap.size) := Lib.hid (by rw [hwd]; exact ⟨d3, q3, x5, x6, dl, ql, hbl, hbq⟩)
          have HBD : Hid (Below w2.heap.size w2 wd) := Lib.hid (by rw [hwd]; exact hb.out.drew)
          have hzz : (z != z) = false := bne_self_eq_false _
          clear ho x5 hcc d0 d1 d2 d3 dl q3 oq ql x6 hx hb
          go_upto_region 18 with fail
          try simp only [Act.put, List.setIfInBounds_toArray, List.set_cons_zero, List.set_cons_succ]
          obtain ⟨Inv, hInv⟩ : ∃ Inv : Done → World → Prop, Inv = fun _ wI => (fun wI => wI = wd) wI := ⟨_, rfl⟩
          have HI := Lib.hid hInv
          have hcz : Hid (∀ τ wI, Inv τ wI → wI = wd) := by
            intro τ wI h
            rw [hInv] at h
            exact h
          have H00 : Hid (Inv Done.none wr.drew) := by rw [hInv]; exact hwd.symm
          clear hInv hwd
          refine wp_region_inv (by kernel_rfl) [⟨0, false, [], []⟩, ⟨1, false, [], []⟩, ⟨2, false, [], []⟩, ⟨3, false, [], []⟩, ⟨4, false, [], []⟩, ⟨5, false, [], []⟩, ⟨6, false, [], []⟩, ⟨7, false, [], []⟩, ⟨8, false, [], []⟩, ⟨9, false, [], []⟩, ⟨10, false, [], []⟩, ⟨11, false, [], []⟩, ⟨12, false, [], []⟩, ⟨13, false, [], []⟩, ⟨14, false, [], []⟩, ⟨15, false, [], []⟩] (by kernel_rfl) Inv (fun _ _ => True) (fun _ => ⟨undef, trivial⟩) H00.out ?_
          iterate 16 (apply WpI.pure; (simp only [List.getElem?_toArray, List.getElem?_cons_succ, List.getElem?_cons_zero]; rfl); (intro τ wI hA hI; have f0 := hcz.out τ wI hI; have e1 := f0; clear f0; subst e1; obtain ⟨x0, x1, x2, x3, x4, x5, x6, x7⟩ := HCD.out; go_simp; exact ⟨hI, Is.rfl'⟩); simp only [Act.put, List.setIfInBounds_toArray, List.set_cons_zero, List.set_cons_succ])
          refine WpI.done ?_
          intro w1 hI
          rw [HI.out] at hI
          have hE := hI
          obtain rfl : w1 = wd := hE
          clear hI hcz H00 HI HCD
          go_wp2_with fail
          go_roundg (n - (i2 + 1))
          case measure => omega
          case rel => exact ⟨i2 + 1, by go_num, by omega, rfl, HBD⟩
        · obtain rfl : i2 = n := by omega
          go_wp2_with fail
          go_ret
          exact ⟨rfl, below_step' HB2.out hb.out⟩
end Go.Proofs.Ytjdobjcbmmdjeaa
