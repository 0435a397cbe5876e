/- Contracts of package wal: Put. -/
import Derived.Test.YtjdobjcbmmdjeaaW6
namespace Go.Proofs.Ytjdobjcbmmdjeaa
open Go.RowKit

/-- what Put answers -/
def pOk (J : Jr) (k m : Nat) (z : Int) : Bool := decide (0 ≤ z) && outK k J.at_ J.sec z.toNat && decide (m = 256)
def pErr (J : Jr) (k m : Nat) (z : Int) : Int := if pOk J k m z = false then 2 else if (mget J.put z).isNone && decide (J.sec - 1 ≤ J.put.length) then 3 else 0
def pJr (J : Jr) (k m : Nat) (z : Int) (bs : List UInt8) : Jr := if pErr J k m z = 0 then ⟨J.at_, J.sec, mput J.put z bs⟩ else J

set_option maxRecDepth 100000 in
set_option maxHeartbeats 4000000 in
theorem put_ok (w : World) (F F2 G : Nat → Prop) (j d k m : Nat) (z : Int) (J : Jr) (S : Dsk) (A : Option Addr) (c : Nat) (bs : List UInt8) (h : JrAt w F j d J) (hd : DiskAt w F2 d S) (hk : k ≤ 2048) (hnow : S.now.length = k * 256) (ha : J.at_ ≤ 1000000) (hs : J.sec ≤ 1000000) (hs1 : 1 ≤ J.sec) (hpl : J.put.length ≤ 1000000)
    (hb : Sl w G 1 (.slice A m c) m (B8 bs)) (hz : z ≤ 9223372036854775807) :
    Calls Try.prog 26 #[.pointer (some ⟨j, 0, none⟩), .int .i64 z, .slice A m c] w fun e w' => e = .returned (.int .i64 (pErr J k m z)) ∧ JrAt w' (fun b => F b ∨ (w.heap.size ≤ b ∧ b < w'.heap.size)) j d (pJr J k m z bs) ∧ Mod F w w' := by
  have HN := Lib.hid h.isnt
  have same : ∀ w', Below w.heap.size w w' → JrAt w' (fun b => F b ∨ (w.heap.size ≤ b ∧ b < w'.heap.size)) j d J := by
    intro w' hb
    obtain ⟨g, D, q1, q2, q3, q4, q5, q6⟩ := h.below hb
    exact ⟨g, D, .inl q1, .inl q2, q3, q4, q5.imp (fun _ _ h => h.mono (fun _ h => .inl h)), fun b hb => hb.elim (fun hb => q6 b hb) (fun hb => hb.2)⟩
  have HSame := Lib.hid same
  clear same
  by_cases hz0 : z < 0
  · have e1 : pErr J k m z = 2 := by simp [pErr, pOk]; omega
    have e2 : pJr J k m z bs = J := by simp [pJr, e1]
    rw [e1, e2]
    clear e1 e2 h hd hb
    go_enter Try.func26, Try.ntmps26
    go_wp2_with fail
    refine HN.out.mono ?_
    rintro e w' ⟨rfl, rfl⟩
    go_wp2_with fail
    go_ret
    exact ⟨rfl, HSame.out w (Below.refl _ _), Mod.refl _ _⟩
  · obtain ⟨n, rfl⟩ : ∃ n : Nat, z = (n : Int) := ⟨z.toNat, by omega⟩
    have wn : IntKind.u64.wrap (n : Int) = (n : Int) := by rw [IntKind.wrap_u64]; omega
    have n0 : ¬ ((n : Int) < 0) := by omega
    obtain ⟨g, D, q1, q2, q3, q4, q5, q6⟩ := (id h : ∃ _, _)
    have HO := Lib.hid (outside_ok w F F2 j d k n J S h hd hk hnow ha hs)
    have HH := Lib.hid h
    have HBS := Lib.hid hb
    have HL0 : Hid (bs.length = m) := by have := hb.1; rw [B8_length, Nat.mul_one] at this; exact this
    have HQ := Lib.hid (And.intro q1 (And.intro q2 (And.intro q3 (And.intro q4 (And.intro q5 q6)))))
    have HZ := Lib.hid (And.intro hs (And.intro hs1 hpl))
    have hlj := q3.lt
    have HE : Hid (∀ (x : Bool), outK k J.at_ J.sec n = x → pOk J k m (n : Int) = (x && decide (m = 256))) := fun x hx => by simp [pOk, hx]
    clear h hd hb q1 q2 q3 q4 q5 q6 hz hz0 ha
    obtain ⟨ob, hob⟩ : ∃ ob, ob = outK k J.at_ J.sec n := ⟨_, rfl⟩
    rw [← hob] at HO
    have HOB := Lib.hid hob.symm
    clear hob
    go_enter Try.func26, Try.ntmps26
    go_wp2_with fail
    refine HN.out.mono ?_
    rintro e w' ⟨rfl, rfl⟩
    go_wp2_with fail
    refine HO.out.mono ?_
    rintro e w2 ⟨rfl, hb2⟩
    have HB2 := Lib.hid hb2
    clear hb2 HO
    cases ob
    · have e1 : Hid (pErr J k m (n : Int) = 2) := by
        have e : pErr J k m (n : Int) = 2 := by simp [pErr, HE.out _ HOB.out]
        exact e
      have e2 : Hid (pJr J k m (n : Int) bs = J) := by
        have e : pJr J k m (n : Int) bs = J := by simp [pJr, e1.out]
        exact e
      go_wp2_with fail
      go_ret
      refine ⟨by rw [e1.out]; rfl, by rw [e2.out]; exact HSame.out w2 HB2.out, Mod.of_below HB2.out⟩
    · by_cases hm : m = 256
      · subst hm
        have hj2 : JrAt w2 F j d J := HH.out.below HB2.out
        have hlj2 : j < w2.heap.size := by have := HB2.out.size; omega
        have HM : Hid (MapAt KI w2.drew g D) := HQ.out.2.2.2.1.below (w' := w2.drew) HB2.out.drew
        have c3 : w2.cell? ⟨j, 3, none⟩ = some (.map (some g)) := by
          have := (HQ.out.2.2.1.below' HB2.out).cell 3
          exact this
        have HB : Hid (w2.drew.cell? ⟨j, 3, none⟩ = some (.map (some g)) ∧ j < w2.drew.heap.size ∧ True) := ⟨c3, hlj2, trivial⟩
        have HJ : Hid (F j ∧ F g ∧ Blk w2.drew j 62 [.pointer (some ⟨d, 0, none⟩), .int .i64 (J.at_ : Int), .int .i64 (J.sec : Int), .map (some g)] ∧ PutRel w2.drew F D J.put ∧ ∀ b, F b → b < w.heap.size) := by
          obtain ⟨r1, r2, r3, r4, r5, r6⟩ := HQ.out
          exact ⟨r1, r2, r3.below' (w' := w2.drew) HB2.out.drew, r5.imp (fun v b hv => hv.mod (G := fun _ => False) (w' := w2.drew) (Mod.of_below HB2.out.drew) (fun _ _ h => h)), r6⟩
        have HL : Hid (bs.length = 256) := HL0
        have HMo := Lib.hid (hj2.most HZ.out.1 HZ.out.2.1)
        have hm2 : MapAt KI w2 g D := HM.out
        have hlen : (Builtin.len_ #[60] 3 #[.map (some g)]).run Try.prog w2 = .ok (.int .i64 (D.length : Int)) w2 := hm2.len Try.underlying60 3
        have hDl : D.length = J.put.length := by have := congrArg List.length HJ.out.2.2.2.1.keys; simpa using this
        have hpo : pOk J k 256 (n : Int) = true := by have := HE.out _ HOB.out; simpa using this
        rcases HJ.out.2.2.2.1.get (n : Int) with ⟨h1, h2⟩ | ⟨v, b, h1, h2, _⟩
        · have hlk : (Instr.lookup 60 (.map (some g)) (.int .i64 (n : Int)) true).run Try.prog w2 = .ok (.tuple #[.slice none 0 0, .bool false]) w2 := hm2.lookup_none Try.underlying60 h1 (zero22 w2) true
          by_cases hfull : J.sec - 1 ≤ J.put.length
          · have e1 : Hid (pErr J k 256 (n : Int) = 3) := by
              have e : pErr J k 256 (n : Int) = 3 := by simp [pErr, hpo, h2, hfull]
              exact e
            have e2 : Hid (pJr J k 256 (n : Int) bs = J) := by
              have e : pJr J k 256 (n : Int) bs = J := by simp [pJr, e1.out]
              exact e
            obtain ⟨dl, hdl⟩ : ∃ dl, dl = D.length := ⟨_, rfl⟩
            rw [← hdl] at hlen hDl
            obtain ⟨s1, hse⟩ : ∃ s1, s1 = J.sec - 1 := ⟨_, rfl⟩
            rw [← hse] at HMo hfull
            have hge : (s1 : Int) ≤ (dl : Int) := by omega
            have hgd : decide (s1 ≤ dl) = true := by simp; omega
            clear hse hdl hDl h1 h2 hm2 hj2 hpo hfull
            go_wp2_with fail
            refine HMo.out.mono ?_
            rintro e w' ⟨rfl, rfl⟩
            go_wp2_with fail
            go_ret
            refine ⟨by rw [e1.out]; rfl, by rw [e2.out]; exact HSame.out w2 HB2.out, Mod.of_below HB2.out⟩
          · have e1 : Hid (pErr J k 256 (n : Int) = 0) := by
              have e : pErr J k 256 (n : Int) = 0 := by simp [pErr, hpo, h2]; omega
              exact e
            have e2 : pJr J k 256 (n : Int) bs = ⟨J.at_, J.sec, mput J.put (n : Int) bs⟩ := by simp [pJr, e1.out]
            have E1 := Lib.hid e1.out
            have E2 := Lib.hid e2
            obtain ⟨dl, hdl⟩ : ∃ dl, dl = D.length := ⟨_, rfl⟩
            rw [← hdl] at hlen hDl
            obtain ⟨s1, hse⟩ : ∃ s1, s1 = J.sec - 1 := ⟨_, rfl⟩
            rw [← hse] at HMo hfull
            have hge : ¬ (s1 : Int) ≤ (dl : Int) := by omega
            have hgd : decide (s1 ≤ dl) = false := by simp; omega
            clear hse hdl hDl h1 h2 hm2 hj2 hpo hfull e1 e2
            go_wp2_with fail
            refine HMo.out.mono ?_
            rintro e w' ⟨rfl, rfl⟩
            go_upto_region 8 with fail
            try simp only [Act.put, List.setIfInBounds_toArray, List.set_cons_zero, List.set_cons_succ]
            obtain ⟨Inv, hInv⟩ : ∃ Inv : Done → World → Prop, Inv = Chain2 6 7 (fun wI => wI = w2.drew) (fun x wI => ∃ A' c', x = .slice A' 256 c' ∧ wI.ownsRow 0 5 1 (.slice A' 256 c') 256 (B8 bs) ∧ (∀ b, (Value.slice A' 256 c').ownBlock = some b → w2.drew.heap.size ≤ b) ∧ Below w2.drew.heap.size w2.drew wI)
              (fun x y wI => JrAt wI (fun b => F b ∨ (w.heap.size ≤ b ∧ b < wI.heap.size)) j d ⟨J.at_, J.sec, mput J.put (n : Int) bs⟩ ∧ Mod F w2.drew wI) := ⟨_, rfl⟩
            have HI := Lib.hid hInv
            have HC : Hid (∀ τ wI, Inv τ wI → τ 7 = none → wI.cell? ⟨j, 3, none⟩ = some (.map (some g)) ∧ j < wI.heap.size) := by
              intro τ wI h h7
              rw [hInv] at h
              rcases h.upto1 h7 with rfl | ⟨x, _, _, _, _, _, hb⟩
              · exact ⟨HB.out.1, HB.out.2.1⟩
              · exact ⟨(hb.cell (p := ⟨j, 3, none⟩) HB.out.2.1).trans HB.out.1, by have h1 := hb.size; have h2 : j < w2.drew.heap.size := HB.out.2.1; omega⟩
            have H00 : Hid (Inv Done.none w2.drew) := by rw [hInv]; exact Chain2.start rfl
            clear hInv
            refine wp_region_inv (by kernel_rfl) [⟨0, false, [], [7]⟩, ⟨1, false, [], [7]⟩, ⟨2, false, [], [7]⟩, ⟨3, false, [], [7]⟩, ⟨4, false, [], [7]⟩, ⟨5, false, [], [6, 7]⟩, ⟨6, true, [], [7]⟩, ⟨7, true, [6], []⟩] (by kernel_rfl) Inv (fun _ _ => True) (fun _ => ⟨undef, trivial⟩) H00.out ?_
            iterate 3 (apply WpI.pure; (simp only [List.getElem?_toArray, List.getElem?_cons_succ, List.getElem?_cons_zero]; rfl); (intro τ wI hA hI; go_simp; exact ⟨hI, Is.rfl'⟩); simp only [Act.put, List.setIfInBounds_toArray, List.set_cons_zero, List.set_cons_succ])
            (apply WpI.pure; (simp only [List.getElem?_toArray, List.getElem?_cons_succ, List.getElem?_cons_zero]; rfl); (intro τ wI hA hI; obtain ⟨hc, hc2⟩ := HC.out τ wI hI (hA.2 7 (by decide)); go_simp; exact ⟨hI, Is.rfl'⟩); simp only [Act.put, List.setIfInBounds_toArray, List.set_cons_zero, List.set_cons_succ])
            iterate 2 (apply WpI.pure; (simp only [List.getElem?_toArray, List.getElem?_cons_succ, List.getElem?_cons_zero]; rfl); (intro τ wI hA hI; go_simp; exact ⟨hI, Is.rfl'⟩); simp only [Act.put, List.setIfInBounds_toArray, List.set_cons_zero, List.set_cons_succ])
            apply WpI.effect; (simp only [List.getElem?_toArray, List.getElem?_cons_succ, List.getElem?_cons_zero]; rfl)
            · intro τ wI hA hn hI
              have h0 := hI
              rw [HI.out] at h0
              have h7 : τ 7 = none := hA.2 7 (by decide)
              have h0 := h0.at0 hn h7
              subst h0
              have H7 := Lib.hid h7
              clear hA hn hI h7
              go_simp
              refine (sclone_any A 256 c bs G w2.drew (HBS.out.below (w' := w2.drew) (by omega) HB2.out.drew) (by omega)).mono ?_
              rintro e w' ⟨A', c', rfl, k1, k2, k3⟩
              refine ⟨_, rfl, ?_⟩
              rw [HI.out]
              exact Chain2.put1 H7.out (by decide) ⟨A', c', rfl, k1, k3, k2⟩
            intro v6 hv6
            clear hv6
            simp only [Act.put, List.setIfInBounds_toArray, List.set_cons_zero, List.set_cons_succ]
            apply WpI.effect; (simp only [List.getElem?_toArray, List.getElem?_cons_succ, List.getElem?_cons_zero]; rfl)
            · intro τ wI hA hn hI
              have h0 := hI
              rw [HI.out] at h0
              have h6 : τ 6 = some v6 := hA.1 6 (by decide)
              obtain ⟨A', c', rfl, k1, k2, k3⟩ := h0.at1 h6 hn
              have hmI := HM.out.below (w' := wI) k3
              obtain ⟨w4, hrun, hm4, hmod⟩ := hmI.put Try.underlying60 (n : Int) (.slice A' 256 c')
              have hrun : (Instr.mapUpdate 60 (.map (some g)) (.int .i64 (n : Int)) (.slice A' 256 c')).run Try.prog wI = .ok () w4 := hrun
              have HK := Lib.hid (And.intro h6 (And.intro k1 (And.intro k2 (And.intro k3 (And.intro hm4 hmod)))))
              clear k1 k2 k3 hmI hm4 hmod h0 hI h6 hn hA
              go_simp
              rw [HI.out]
              obtain ⟨h6, k1, k2, k3, hm4, hmod⟩ := HK.out
              refine Chain2.put2 h6 (by decide) ?_
              obtain ⟨q1, q2, q3, q4, q5⟩ := HJ.out
              have s0 : w.heap.size ≤ w2.drew.heap.size := HB2.out.size
              have s1 := k3.size
              have s2 := hmod.size
              have hgo : ∀ q, F q → q < w.heap.size := q5
              have hb4 : Below w2.drew.heap.size w2.drew wI := k3
              refine ⟨⟨g, _, .inl q1, .inl q2, (q3.below' (w' := wI) hb4).mod hmod (fun e => HM.out.ne_blk q3 e.symm), hm4, ?_, fun b hb => ?_⟩, (Mod.of_below k3).trans (hmod.mono (fun b _ e => by rw [e]; exact q2)) (fun _ _ h => h)⟩
              · refine PutRel.put ⟨HL.out, A', c', rfl, own_mod k1 hmod (fun b hb e => (HM.out.below (w' := wI) k3).ne_own k1 (by rw [hb, e])), fun q hq => .inr ⟨by have := k2 q hq; omega, by have := own_lt' k1 hq; omega⟩⟩ (q4.imp fun v b hv => ?_)
                refine SecV.mono (F := F) ?_ (fun q hq => .inl hq)
                obtain ⟨e1, A5, c5, rfl, e2, e3⟩ := hv
                refine ⟨e1, A5, c5, rfl, own_mod (own_below (w := w2.drew) e2 k3) hmod (fun q hq e => ?_), e3⟩
                exact HM.out.ne_own (w := w2.drew) e2 (by rw [hq, e])
              · rcases hb with hb | hb
                · have := hgo b hb; omega
                · exact hb.2
            intro v7 hv7
            clear hv7
            refine WpI.done ?_
            intro wI hI
            rw [HI.out] at hI
            have HE := Lib.hid (hI.end_ (by decide))
            clear hI HI HC H00
            go_wp2_with fail
            go_ret
            refine ⟨by rw [E1.out]; rfl, by rw [E2.out]; exact HE.out.1, ?_⟩
            exact (Mod.of_below (HB2.out.drew)).trans HE.out.2 (fun _ _ h => h)
        · have hlk : (Instr.lookup 60 (.map (some g)) (.int .i64 (n : Int)) true).run Try.prog w2 = .ok (.tuple #[v, .bool true]) w2 := hm2.lookup_some Try.underlying60 h1 true
          have e1 : pErr J k 256 (n : Int) = 0 := by simp [pErr, hpo, h2]
          have e2 : pJr J k 256 (n : Int) bs = ⟨J.at_, J.sec, mput J.put (n : Int) bs⟩ := by simp [pJr, e1]
          have E1 := Lib.hid e1
          have E2 := Lib.hid e2
          clear h1 h2 hm2 hj2 hpo e1 e2 hlen hDl
          go_upto_region 8 with fail
          try simp only [Act.put, List.setIfInBounds_toArray, List.set_cons_zero, List.set_cons_succ]
          obtain ⟨Inv, hInv⟩ : ∃ Inv : Done → World → Prop, Inv = Chain2 6 7 (fun wI => wI = w2.drew) (fun x wI => ∃ A' c', x = .slice A' 256 c' ∧ wI.ownsRow 0 5 1 (.slice A' 256 c') 256 (B8 bs) ∧ (∀ b, (Value.slice A' 256 c').ownBlock = some b → w2.drew.heap.size ≤ b) ∧ Below w2.drew.heap.size w2.drew wI)
            (fun x y wI => JrAt wI (fun b => F b ∨ (w.heap.size ≤ b ∧ b < wI.heap.size)) j d ⟨J.at_, J.sec, mput J.put (n : Int) bs⟩ ∧ Mod F w2.drew wI) := ⟨_, rfl⟩
          have HI := Lib.hid hInv
          have HC : Hid (∀ τ wI, Inv τ wI → τ 7 = none → wI.cell? ⟨j, 3, none⟩ = some (.map (some g)) ∧ j < wI.heap.size) := by
            intro τ wI h h7
            rw [hInv] at h
            rcases h.upto1 h7 with rfl | ⟨x, _, _, _, _, _, hb⟩
            · exact ⟨HB.out.1, HB.out.2.1⟩
            · exact ⟨(hb.cell (p := ⟨j, 3, none⟩) HB.out.2.1).trans HB.out.1, by have h1 := hb.size; have h2 : j < w2.drew.heap.size := HB.out.2.1; omega⟩
          have H00 : Hid (Inv Done.none w2.drew) := by rw [hInv]; exact Chain2.start rfl
          clear hInv
          refine wp_region_inv (by kernel_rfl) [⟨0, false, [], [7]⟩, ⟨1, false, [], [7]⟩, ⟨2, false, [], [7]⟩, ⟨3, false, [], [7]⟩, ⟨4, false, [], [7]⟩, ⟨5, false, [], [6, 7]⟩, ⟨6, true, [], [7]⟩, ⟨7, true, [6], []⟩] (by kernel_rfl) Inv (fun _ _ => True) (fun _ => ⟨undef, trivial⟩) H00.out ?_
          iterate 3 (apply WpI.pure; (simp only [List.getElem?_toArray, List.getElem?_cons_succ, List.getElem?_cons_zero]; rfl); (intro τ wI hA hI; go_simp; exact ⟨hI, Is.rfl'⟩); simp only [Act.put, List.setIfInBounds_toArray, List.set_cons_zero, List.set_cons_succ])
          (apply WpI.pure; (simp only [List.getElem?_toArray, List.getElem?_cons_succ, List.getElem?_cons_zero]; rfl); (intro τ wI hA hI; obtain ⟨hc, hc2⟩ := HC.out τ wI hI (hA.2 7 (by decide)); go_simp; exact ⟨hI, Is.rfl'⟩); simp only [Act.put, List.setIfInBounds_toArray, List.set_cons_zero, List.set_cons_succ])
          iterate 2 (apply WpI.pure; (simp only [List.getElem?_toArray, List.getElem?_cons_succ, List.getElem?_cons_zero]; rfl); (intro τ wI hA hI; go_simp; exact ⟨hI, Is.rfl'⟩); simp only [Act.put, List.setIfInBounds_toArray, List.set_cons_zero, List.set_cons_succ])
          apply WpI.effect; (simp only [List.getElem?_toArray, List.getElem?_cons_succ, List.getElem?_cons_zero]; rfl)
          · intro τ wI hA hn hI
            have h0 := hI
            rw [HI.out] at h0
            have h7 : τ 7 = none := hA.2 7 (by decide)
            have h0 := h0.at0 hn h7
            subst h0
            have H7 := Lib.hid h7
            clear hA hn hI h7
            go_simp
            refine (sclone_any A 256 c bs G w2.drew (HBS.out.below (w' := w2.drew) (by omega) HB2.out.drew) (by omega)).mono ?_
            rintro e w' ⟨A', c', rfl, k1, k2, k3⟩
            refine ⟨_, rfl, ?_⟩
            rw [HI.out]
            exact Chain2.put1 H7.out (by decide) ⟨A', c', rfl, k1, k3, k2⟩
          intro v6 hv6
          clear hv6
          simp only [Act.put, List.setIfInBounds_toArray, List.set_cons_zero, List.set_cons_succ]
          apply WpI.effect; (simp only [List.getElem?_toArray, List.getElem?_cons_succ, List.getElem?_cons_zero]; rfl)
          · intro τ wI hA hn hI
            have h0 := hI
            rw [HI.out] at h0
            have h6 : τ 6 = some v6 := hA.1 6 (by decide)
            obtain ⟨A', c', rfl, k1, k2, k3⟩ := h0.at1 h6 hn
            have hmI := HM.out.below (w' := wI) k3
            obtain ⟨w4, hrun, hm4, hmod⟩ := hmI.put Try.underlying60 (n : Int) (.slice A' 256 c')
            have hrun : (Instr.mapUpdate 60 (.map (some g)) (.int .i64 (n : Int)) (.slice A' 256 c')).run Try.prog wI = .ok () w4 := hrun
            have HK := Lib.hid (And.intro h6 (And.intro k1 (And.intro k2 (And.intro k3 (And.intro hm4 hmod)))))
            clear k1 k2 k3 hmI hm4 hmod h0 hI h6 hn hA
            go_simp
            rw [HI.out]
            obtain ⟨h6, k1, k2, k3, hm4, hmod⟩ := HK.out
            refine Chain2.put2 h6 (by decide) ?_
            obtain ⟨q1, q2, q3, q4, q5⟩ := HJ.out
            have s0 : w.heap.size ≤ w2.drew.heap.size := HB2.out.size
            have s1 := k3.size
            have s2 := hmod.size
            have hgo : ∀ q, F q → q < w.heap.size := q5
            have hb4 : Below w2.drew.heap.size w2.drew wI := k3
            refine ⟨⟨g, _, .inl q1, .inl q2, (q3.below' (w' := wI) hb4).mod hmod (fun e => HM.out.ne_blk q3 e.symm), hm4, ?_, fun b hb => ?_⟩, (Mod.of_below k3).trans (hmod.mono (fun b _ e => by rw [e]; exact q2)) (fun _ _ h => h)⟩
            · refine PutRel.put ⟨HL.out, A', c', rfl, own_mod k1 hmod (fun b hb e => (HM.out.below (w' := wI) k3).ne_own k1 (by rw [hb, e])), fun q hq => .inr ⟨by have := k2 q hq; omega, by have := own_lt' k1 hq; omega⟩⟩ (q4.imp fun v b hv => ?_)
              refine SecV.mono (F := F) ?_ (fun q hq => .inl hq)
              obtain ⟨e1, A5, c5, rfl, e2, e3⟩ := hv
              refine ⟨e1, A5, c5, rfl, own_mod (own_below (w := w2.drew) e2 k3) hmod (fun q hq e => ?_), e3⟩
              exact HM.out.ne_own (w := w2.drew) e2 (by rw [hq, e])
            · rcases hb with hb | hb
              · have := hgo b hb; omega
              · exact hb.2
          intro v7 hv7
          clear hv7
          refine WpI.done ?_
          intro wI hI
          rw [HI.out] at hI
          have HE := Lib.hid (hI.end_ (by decide))
          clear hI HI HC H00
          go_wp2_with fail
          go_ret
          refine ⟨by rw [E1.out]; rfl, by rw [E2.out]; exact HE.out.1, ?_⟩
          exact (Mod.of_below (HB2.out.drew)).trans HE.out.2 (fun _ _ h => h)
      · have hme : ((m : Int) == 256) = false := by simp; omega
        have hmn : ((m : Int) != 256) = true := by simp; omega
        have hcd : (decide ((n : Int) < 0) || ((m : Int) != 256)) = true := by rw [hmn]; simp
        have e1 : Hid (pErr J k m (n : Int) = 2) := by
          have e : pErr J k m (n : Int) = 2 := by simp [pErr, HE.out _ HOB.out, hm]
          exact e
        have e2 : Hid (pJr J k m (n : Int) bs = J) := by
          have e : pJr J k m (n : Int) bs = J := by simp [pJr, e1.out]
          exact e
        clear hm
        go_wp2_with fail
        go_ret
        refine ⟨by rw [e1.out]; rfl, by rw [e2.out]; exact HSame.out w2 HB2.out, Mod.of_below HB2.out⟩
end Go.Proofs.Ytjdobjcbmmdjeaa
