import Derived.Test.YtjdobjcbmmdjeaaB6
namespace Go.Proofs.Ytjdobjcbmmdjeaa
open Go.RowKit

/-- a disk of k sectors as Write and Flush make it -/
structure Dsk.Ok (S : Dsk) (k : Nat) : Prop where
  first : S.first.length = k * 256
  now : S.now.length = k * 256
  ev : ∀ (i : Nat) (x : Int × Int × Int), S.ev[i]? = some x → x = (0, 2, 0) ∨ ∃ n f : Nat, x = ((n : Int), 1, (f : Int)) ∧ n < k ∧ f + 256 ≤ S.wrote.length

/-- Disk.After refused -/
theorem after_bad (w : World) (F : Nat → Prop) (d k : Nat) (n : Int) (K : Value) (S : Dsk) (h : DiskAt w F d S) (hk1 : 1 ≤ k) (hk : k ≤ 2048) (hnow : S.now.length = k * 256) (hn : n < 0 ∨ (S.ev.length : Int) < n) :
    Calls Try.prog 12 #[.pointer (some ⟨d, 0, none⟩), .int .i64 n, K] w fun e w' => e = .returned (.tuple #[.pointer none, .int .i64 2]) ∧ w = w' := by
  have hs := h.sectors hk hnow
  obtain ⟨vf, vn, ve, vw, c0, c1, c2, c3, _, _, hoe, _, hlt⟩ := h.cell
  obtain ⟨Ae, ce, rfl, _, _⟩ := own_form hoe
  have HS := Lib.hid hs
  have k0 : ((k : Int) == 0) = false := by simp; omega
  clear hs h hnow hoe
  set_option maxRecDepth 100000 in
  rcases hn with hn | hn
  · go_enter Try.func12, Try.ntmps12
    go_wp2_with fail
    refine (HS.out).mono ?_; rintro e w' ⟨rfl, rfl⟩
    go_wp2_with fail
    go_ret2
    exact ⟨rfl, rfl⟩
  · have hn0 : ¬ n < 0 := by omega
    go_enter Try.func12, Try.ntmps12
    go_wp2_with fail
    refine (HS.out).mono ?_; rintro e w' ⟨rfl, rfl⟩
    go_wp2_with fail
    go_ret2
    exact ⟨rfl, rfl⟩

/-- one event behind a power loss: the disk, and what is left of what is kept -/
def lossStep (wrote : List UInt8) (last i : Nat) (x : Int × Int × Int) (st : List UInt8 × List Bool) : List UInt8 × List Bool :=
  if x.2.1 = 2 then st
  else if last ≤ i then
    (if st.2.head?.getD false = true then splice st.1 (x.1.toNat * 256) ((wrote.drop x.2.2.toNat).take 256) else st.1, st.2.tail)
  else (splice st.1 (x.1.toNat * 256) ((wrote.drop x.2.2.toNat).take 256), st.2)
def lossK (S : Dsk) (last : Nat) (keep : List Bool) : Nat → List UInt8 × List Bool
  | 0 => (S.first, keep)
  | i + 1 => match S.ev[i]? with
    | some x => lossStep S.wrote last i x (lossK S last keep i)
    | none => lossK S last keep i
def lossOf (S : Dsk) (n : Nat) (keep : List Bool) : List UInt8 := (lossK S (sureK S.ev n) keep n).1

theorem lossK_length (S : Dsk) (k last : Nat) (keep : List Bool) (h : S.Ok k) : ∀ i, (lossK S last keep i).1.length = k * 256 := by
  intro i
  induction i with
  | zero => exact h.first
  | succ i ih =>
    unfold lossK
    split
    · rename_i x hx
      unfold lossStep
      have hs : x.2.1 ≠ 2 → (splice (lossK S last keep i).1 (x.1.toNat * 256) ((S.wrote.drop x.2.2.toNat).take 256)).length = k * 256 := by
        intro h2
        rcases h.ev i x hx with rfl | ⟨n, f, rfl, hn, hf⟩
        · simp at h2
        · rw [length_splice _ _ _ (by rw [ih, List.length_take, List.length_drop]; simp; omega), ih]
      split
      · exact ih
      · split
        · dsimp only; split
          · exact hs ‹_›
          · exact ih
        · exact hs ‹_›
    · exact ih

theorem B8_inj_len {l : List UInt8} {n : Nat} (h : (B8 l).length = n) : l.length = n := by rwa [B8_length] at h

theorem Sl.tail_ {w : World} {F : Nat → Prop} {b o m c : Nat} {x : Value} {xs : List Value} (h : Sl w F 1 (.slice (some ⟨b, o, none⟩) m c) m (x :: xs)) (A' : Option Addr) (hA : A' = if c = 1 then some ⟨b, o, none⟩ else some ⟨b, o + 1, none⟩) :
    Sl w F 1 (.slice A' (m - 1) (c - 1)) (m - 1) xs := by
  obtain ⟨hl, A, c', hv, hc, hr⟩ := h
  obtain ⟨rfl, -, rfl⟩ := by simpa only [Value.slice.injEq] using hv
  simp only [List.length_cons] at hl
  refine ⟨by omega, A', c - 1, rfl, by omega, fun h0 => ?_⟩
  rw [if_neg (by omega)] at hA
  obtain ⟨ad, e, hF, hx⟩ := hr (by omega)
  cases e
  refine ⟨_, hA, hF, fun j u hu => ?_⟩
  have := hx (j + 1) u (by simpa using hu)
  rw [add_lit0] at this ⊢
  rwa [show o + (j + 1) = o + 1 + j from by omega] at this

theorem Sl.head_ {w : World} {F : Nat → Prop} {A : Option Addr} {m c : Nat} {x : Value} {xs : List Value} (h : Sl w F 1 (.slice A m c) m (x :: xs)) : ∃ b o, A = some ⟨b, o, none⟩ ∧ F b ∧ w.cell? ⟨b, o, none⟩ = some x ∧ m ≤ c ∧ m = xs.length + 1 := by
  obtain ⟨hl, A, c', hv, hc, hr⟩ := h
  obtain ⟨rfl, -, rfl⟩ := by simpa only [Value.slice.injEq] using hv
  simp only [List.length_cons] at hl
  obtain ⟨⟨b, o, s⟩, rfl, hF, hx⟩ := hr (by omega)
  have h0 := hx 0 x rfl
  have hs : s = none := by simpa [Addr.add] using World.cell?_spot h0
  subst hs
  rw [add_lit0, Nat.add_zero] at h0
  exact ⟨b, o, rfl, hF, h0, hc, by omega⟩

set_option maxHeartbeats 4000000 in
set_option maxRecDepth 100000 in
/-- Disk.After -/
theorem after_ok (w : World) (F G : Nat → Prop) (d k n : Nat) (A : Option Addr) (mk ck : Nat) (keep : List Bool) (S : Dsk) (h : DiskAt w F d S) (hk1 : 1 ≤ k) (hk : k ≤ 2048) (hok : S.Ok k) (hn : n ≤ S.ev.length) (hev : S.ev.length ≤ 1000000000) (hwr : S.wrote.length ≤ 1000000000000)
    (hkeep : Sl w G 1 (.slice A mk ck) mk (keep.map Value.bool)) (hmk : mk ≤ 140737488351232) :
    Calls Try.prog 12 #[.pointer (some ⟨d, 0, none⟩), .int .i64 n, .slice A mk ck] w fun e w' => ∃ o, e = .returned (.tuple #[.pointer (some ⟨o, 0, none⟩), .int .i64 0]) ∧
      DiskAt w' (fun b => w.heap.size ≤ b ∧ b < w'.heap.size) o ⟨lossOf S n keep, lossOf S n keep, [], []⟩ ∧ Below w.heap.size w w' := by
  have hs := h.sectors hk hok.now
  obtain ⟨vf, vn, ve, vw, hFd, hd, hof, hon, hoe, how, _⟩ := h
  obtain ⟨Af, cf, rfl, _, _⟩ := own_form hof
  obtain ⟨Ae, ce, rfl, hce, _⟩ := own_form hoe
  obtain ⟨Aw, cw, rfl, _, _⟩ := own_form how
  have c0 : w.cell? ⟨d, 0, none⟩ = some (.slice Af S.first.length cf) := by rw [hd.cell]; rfl
  have c2 : w.cell? ⟨d, 2, none⟩ = some (.slice Ae S.ev.length ce) := by rw [hd.cell]; rfl
  have hdlt : d < w.heap.size := hd.lt
  have k0 : ((k : Int) == 0) = false := by simp; omega
  have n0 : ¬ (n : Int) < 0 := by omega
  have n1 : ¬ ((S.ev.length : Int) < n) := by omega
  have HS := Lib.hid hs
  have HD := Lib.hid (And.intro hd (And.intro hof (And.intro hoe how)))
  have HK := Lib.hid hkeep
  have HO := Lib.hid hok
  have HE := Lib.hid (And.intro hn (And.intro hev (And.intro hwr (And.intro hmk hce))))
  clear hs hd hof hon hoe how hkeep hok hev hwr hmk
  go_enter Try.func12, Try.ntmps12
  go_wp2_with fail
  refine (HS.out).mono ?_; rintro e w' ⟨rfl, rfl⟩
  go_wp2_with fail
  refine (clone_any Af _ cf S.first _ _ (Sl.of_own HD.out.2.1) (by have := HO.out.first; omega)).mono ?_
  rintro e w1 ⟨A1, c1, rfl, ho1, hb1, hf1, hnil⟩
  clear hnil
  have hd1 := HD.out.1.below' hb1
  have c12 : w1.cell? ⟨d, 2, none⟩ = some (.slice Ae S.ev.length ce) := by rw [hd1.cell]; rfl
  have hdlt1 : d < w1.heap.size := hd1.lt
  have H1 := Lib.hid (And.intro ho1 (And.intro hb1 hf1))
  clear hb1 ho1 hf1 hd1 c0 c2
  go_wp2_with fail
  refine (sure_own Ae n ce S.ev _ ((own_below HD.out.2.2.1 H1.out.2.1).alloc _) HE.out.1 HE.out.2.1).mono ?_
  rintro e w2 ⟨rfl, hb2⟩
  have hsz1 := H1.out.2.1.size
  have hB2 : Below w.heap.size w w2 := (H1.out.2.1.alloc (by omega) _).trans (hb2.mono (by simp; omega))
  have ho2 : Blk w2 w1.heap.size 29 [.slice A1 S.first.length c1, .slice none 0 0, .slice none 0 0, .slice none 0 0] := (Blk.new w1 29 _).below' hb2
  have hf2 : w2.ownsRow 0 5 1 (.slice A1 S.first.length c1) S.first.length (B8 S.first) := own_below (H1.out.1.alloc _) hb2
  have hd2 : Blk w2 d 29 _ := HD.out.1.below' hB2
  have c22 : w2.cell? ⟨d, 2, none⟩ = some (.slice Ae S.ev.length ce) := by rw [hd2.cell]; rfl
  have hdlt2 : d < w2.heap.size := hd2.lt
  have H2 := Lib.hid (And.intro hB2 (And.intro ho2 hf2))
  clear hB2 ho2 hf2 hd2 hb2 c12 hdlt1
  go_wp2_with fail
  --LOOP
  obtain ⟨L0, hL0⟩ : ∃ L0 : Nat, L0 = sureK S.ev n := ⟨_, rfl⟩
  rw [← hL0]
  have HL0 := Lib.hid hL0
  clear hL0
  go_loopg [2, 50] n (fun kq kv i wr => ∃ (j : Nat) (A2 : Option Addr) (m2 c2 : Nat), i = .int .i64 j ∧ j ≤ n ∧ kq = n - j ∧ kv = .slice A2 m2 c2 ∧ Hid (m2 = (lossK S L0 keep j).2.length) ∧ m2 ≤ 140737488351232 ∧
     Hid (Sl wr (fun b => b < w.heap.size) 1 (.slice A2 m2 c2) m2 ((lossK S L0 keep j).2.map Value.bool)) ∧ Hid (Below w.heap.size w wr) ∧
     Hid (Blk wr w1.heap.size 29 [.slice A1 S.first.length c1, .slice none 0 0, .slice none 0 0, .slice none 0 0]) ∧ Hid (wr.ownsRow 0 5 1 (.slice A1 S.first.length c1) S.first.length (B8 (lossK S L0 keep j).1)))
  case atStart =>
    obtain ⟨hB2, ho2, hf2⟩ := H2.out
    have hkl : keep.length = mk := by have := HK.out.1; simpa using this
    exact ⟨0, A, mk, ck, rfl, by omega, rfl, rfl, Lib.hid hkl.symm, HE.out.2.2.2.1, Lib.hid ((((HK.out.lt (by omega)).mono (fun _ _ h => h.2) (by omega)).below (by omega)) hB2), hB2, ho2, hf2⟩
  case round =>
    obtain ⟨j, A2, m2, c2, rfl, hj, rfl, rfl, hm2, hm2b, hkp, hb, hoB, hff⟩ := hrel
    clear c22 hdlt2
    have hkw : Hid (∀ wx, Below w.heap.size w wx → Sl wx (fun b => b < w.heap.size) 1 (.slice A2 m2 c2) m2 ((lossK S L0 keep j).2.map Value.bool)) := by
      intro wx hbx
      exact hkp.out.agree (fun b hb' => (hbx.block b hb').trans (hb.out.block b hb').symm)
    have hdr := Lib.hid (HD.out.1.below' hb.out)
    have d2 : wr.cell? ⟨d, 2, none⟩ = some (.slice Ae S.ev.length ce) := by rw [Blk.cell hdr.out]; rfl
    have d3 : wr.cell? ⟨d, 3, none⟩ = some (.slice Aw S.wrote.length cw) := by rw [Blk.cell hdr.out]; rfl
    have hdlt3 : d < wr.heap.size := Blk.lt hdr.out
    by_cases hlt : j < n
    · have hj1 : j + 1 ≤ n := hlt
      have hjb : n ≤ 1000000000 := by have := HE.out; omega
      have hjl : j < S.ev.length := by have := HE.out.1; omega
      obtain ⟨x, hx⟩ : ∃ x, S.ev[j]? = some x := ⟨_, List.getElem?_eq_getElem hjl⟩
      obtain ⟨ge, cape, hAe, _, hge⟩ := HD.out.2.2.1.form (by omega)
      have hAe' : Ae = some ⟨ge, 0, none⟩ := by simp only [Value.slice.injEq] at hAe; exact hAe.1
      subst hAe'
      have hE := own_below HD.out.2.2.1 hb.out
      obtain ⟨g1, g2, g3⟩ := E3_get hx
      have e1 : wr.cell? ⟨ge, j * 3, none⟩ = some (.int .i64 x.1) := by have := hE.cells rfl _ _ g1; rwa [add_lit0, Nat.zero_add] at this
      have e2 : wr.cell? ⟨ge, j * 3 + 1, none⟩ = some (.int .i64 x.2.1) := by have := hE.cells rfl _ _ g2; rwa [add_lit0, Nat.zero_add] at this
      have e3 : wr.cell? ⟨ge, j * 3 + 2, none⟩ = some (.int .i64 x.2.2) := by have := hE.cells rfl _ _ g3; rwa [add_lit0, Nat.zero_add] at this
      have hge3 : ge < wr.heap.size := by have := hb.out.size; omega
      have HXX := Lib.hid hx
      have hstep : Hid (lossK S L0 keep (j + 1) = lossStep S.wrote L0 j x (lossK S L0 keep j)) := by
        show lossK S L0 keep (j + 1) = _
        simp only [lossK, HXX.out]
      clear hE g1 g2 g3 hx hAe
      rcases HO.out.ev j x HXX.out with rfl | ⟨nn, ff, rfl, hnn, hff2⟩
      · -- a flush
        simp only at e1 e2 e3
        go_wp2_with fail
        go_roundg (n - (j + 1))
        case measure => omega
        case rel =>
          have hs : lossK S L0 keep (j + 1) = lossK S L0 keep j := hstep.out
          refine ⟨j + 1, A2, m2, c2, by go_num, hj1, rfl, rfl, ?_, hm2b, ?_, ?_, ?_, ?_⟩
          · rw [hs]; exact hm2
          · rw [hs]; exact Lib.hid (hkp.out.below (by omega) ((Below.refl _ _).alloc (Nat.le_refl _) _))
          · exact hb.out.alloc (by have := hb.out.size; omega) _
          · exact Blk.alloc hoB.out _
          · rw [hs]; exact Lib.hid (hff.out.alloc _)
      · -- a write
        simp only at e1 e2 e3
        by_cases hlast : L0 ≤ j
        · have hl1 : (L0 : Int) ≤ j := by omega
          have hsA : Hid (lossK S L0 keep (j + 1) = (if (lossK S L0 keep j).2.head?.getD false = true then splice (lossK S L0 keep j).1 (nn * 256) ((S.wrote.drop ff).take 256) else (lossK S L0 keep j).1, (lossK S L0 keep j).2.tail)) := by
            have := hstep.out
            rw [this]
            show lossStep _ _ _ _ _ = _
            unfold lossStep
            rw [if_neg (by simp), if_pos hlast]
            simp
          rcases hkl : (lossK S L0 keep j).2 with _ | ⟨b, ks⟩
          · have hs1 : Hid (lossK S L0 keep (j + 1) = ((lossK S L0 keep j).1, [])) := by
              have := hsA.out
              rw [hkl] at this
              rw [this]
              show (_, _) = _
              simp
            have hm0 : m2 = 0 := by have := hm2.out; rw [hkl] at this; exact this
            subst hm0
            have HKL := Lib.hid hkl
            clear hkl
            go_wp2_with fail
            go_roundg (n - (j + 1))
            case measure => omega
            case rel =>
              refine ⟨j + 1, A2, 0, c2, by go_num, hj1, rfl, rfl, Lib.hid (by rw [hs1.out]; rfl), by omega, ?_, ?_, ?_, ?_⟩
              · exact Lib.hid (by rw [hs1.out]; have := hkp.out; rw [HKL.out] at this; exact this.below (by omega) ((Below.refl _ _).alloc (Nat.le_refl _) _))
              · exact hb.out.alloc (by have := hb.out.size; omega) _
              · exact Blk.alloc hoB.out _
              · rw [hs1.out]; exact Lib.hid (hff.out.alloc _)
          · have hkp2 := hkp.out
            rw [hkl] at hkp2
            obtain ⟨kb, ko, rfl, hkb, kc, hmc, hmk⟩ := Sl.head_ hkp2
            have hkm : m2 = ks.length + 1 := by simpa using hmk
            have hm0 : (0 : Int) < m2 := by omega
            have hm1 : 1 ≤ m2 := by omega
            have hm1b : m2 - 1 ≤ 140737488351232 := by omega
            have hkbl : kb < wr.heap.size := by have := hb.out.size; omega
            have HKM : Hid (m2 - 1 = ks.length) := by have : m2 - 1 = ks.length := by omega
                                                      exact this
            have hkw2 : Hid (∀ wx, Below w.heap.size w wx → ∀ A', (A' = if c2 = 1 then some ⟨kb, ko, none⟩ else some ⟨kb, ko + 1, none⟩) → Sl wx (fun b => b < w.heap.size) 1 (.slice A' (m2 - 1) (c2 - 1)) (m2 - 1) (ks.map Value.bool)) := by
              intro wx hbx A' hA'
              have := hkw.out wx hbx
              rw [hkl] at this
              exact Sl.tail_ this A' hA'
            have hsB := hsA.out
            rw [hkl] at hsB
            clear hkm hmk hkp2 hkl hkw hsA
            cases b
            · have hs1 : Hid (lossK S L0 keep (j + 1) = ((lossK S L0 keep j).1, ks)) := by
                rw [hsB]
                show (_, _) = _
                simp
              clear hsB
              by_cases hc1 : c2 = 1
              · subst hc1
                obtain rfl : m2 = 1 := by omega
                go_wp2_with fail
                go_roundg (n - (j + 1))
                case measure => omega
                case rel =>
                  refine ⟨j + 1, some ⟨kb, ko, none⟩, 0, 0, by go_num, hj1, rfl, rfl, Lib.hid (by rw [hs1.out]; exact HKM.out), by omega, ?_, ?_, ?_, ?_⟩
                  · rw [hs1.out]; exact Lib.hid (hkw2.out _ (hb.out.alloc (by have := hb.out.size; omega) _) _ (rfl))
                  · exact hb.out.alloc (by have := hb.out.size; omega) _
                  · exact Blk.alloc hoB.out _
                  · rw [hs1.out]; exact Lib.hid (hff.out.alloc _)
              · have hc2 : Hid (¬ c2 = 1) := hc1
                go_wp2_with fail
                go_roundg (n - (j + 1))
                case measure => omega
                case rel =>
                  refine ⟨j + 1, some ⟨kb, ko + 1, none⟩, m2 - 1, c2 - 1, by go_num, hj1, rfl, rfl, Lib.hid (by rw [hs1.out]; exact HKM.out), hm1b, ?_, ?_, ?_, ?_⟩
                  · rw [hs1.out]; exact Lib.hid (hkw2.out _ (hb.out.alloc (by have := hb.out.size; omega) _) _ (by rw [if_neg hc2.out]))
                  · exact hb.out.alloc (by have := hb.out.size; omega) _
                  · exact Blk.alloc hoB.out _
                  · rw [hs1.out]; exact Lib.hid (hff.out.alloc _)
            · have hs1 : Hid (lossK S L0 keep (j + 1) = (splice (lossK S L0 keep j).1 (nn * 256) ((S.wrote.drop ff).take 256), ks)) := by
                rw [hsB]
                show (_, _) = _
                simp
              clear hsB
              by_cases hc1 : c2 = 1
              · subst hc1
                obtain rfl : m2 = 1 := by omega
                obtain ⟨g1, cap1, hA1, _, hg1l⟩ := H1.out.1.form (by have := HO.out.first; omega)
                have hA1' : A1 = some ⟨g1, 0, none⟩ := by simp only [Value.slice.injEq] at hA1; exact hA1.1
                subst hA1'
                obtain ⟨gw, capw, hAw, _, _⟩ := HD.out.2.2.2.form (by omega)
                have hAw' : Aw = some ⟨gw, 0, none⟩ := by simp only [Value.slice.injEq] at hAw; exact hAw.1
                subst hAw'
                clear hA1 hAw
                have q1 : nn * 256 + 256 ≤ S.first.length := by have := HO.out.first; omega
                have q2 : S.first.length ≤ c1 := by obtain ⟨_, _, e, h, _⟩ := own_form H1.out.1; simp only [Value.slice.injEq] at e; omega
                have q3 : S.first.length ≤ 524288 := by have := HO.out.first; omega
                have q4 : S.wrote.length ≤ 1000000000000 := HE.out.2.2.1
                have q5 : S.wrote.length ≤ cw := by obtain ⟨_, _, e, h, _⟩ := own_form HD.out.2.2.2; simp only [Value.slice.injEq] at e; omega
                obtain ⟨pp, hpp⟩ : ∃ p : Nat, p = nn * 256 := ⟨_, rfl⟩
                obtain ⟨rr, hrr⟩ : ∃ p : Nat, p = ff + 256 := ⟨_, rfl⟩
                have wq1 : IntKind.i64.wrap ((nn : Int) * 256) = (pp : Int) := by rw [IntKind.wrap_i64]; omega
                have wq2 : IntKind.i64.wrap ((ff : Int) + 256) = (rr : Int) := by rw [IntKind.wrap_i64]; omega
                have q6 : pp + 256 ≤ S.first.length := by omega
                have q7 : rr ≤ S.wrote.length := by omega
                have q8 : ff ≤ rr := by omega
                have q9 : rr - ff = 256 := by omega
                have q10 : pp ≤ S.first.length := by omega
                have q11 : rr ≤ cw := by omega
                have q12 : ff ≤ cw := by omega
                have q13 : ¬ c1 = pp := by omega
                have q14 : ¬ cw = ff := by omega
                have HPP := Lib.hid hpp
                have HRR := Lib.hid hrr
                clear hpp hrr
                go_upto_region 16 with fail
                try simp only [Act.put, List.setIfInBounds_toArray, List.set_cons_zero, List.set_cons_succ]
                obtain ⟨Inv, hInv⟩ : ∃ Inv : Done → World → Prop, Inv = fun τ wI => Below w.heap.size w wI ∧ Blk wI w1.heap.size 29 [.slice (some ⟨g1, 0, none⟩) S.first.length c1, .slice none 0 0, .slice none 0 0, .slice none 0 0] ∧
                  Blk wI wr.heap.size 87 [.int .i64 nn, .int .i64 1, .int .i64 ff] ∧ wI.ownsRow 0 5 1 (.slice (some ⟨g1, 0, none⟩) S.first.length c1) S.first.length (B8 (if τ 18 = none then (lossK S L0 keep j).1 else splice (lossK S L0 keep j).1 (nn * 256) ((S.wrote.drop ff).take 256))) := ⟨_, rfl⟩
                obtain ⟨J, hJ1, hJ2⟩ := now_of Inv
                have j0 : ∀ wI, Now J wI → wI.cell? ⟨w1.heap.size, 0, none⟩ = some (.slice (some ⟨g1, 0, none⟩) S.first.length c1) := by intro wI h; obtain ⟨τ, h⟩ := hJ2.out wI h; rw [hInv] at h; rw [h.2.1.cell]; rfl
                have j1 : ∀ wI, Now J wI → wI.cell? ⟨wr.heap.size, 0, none⟩ = some (.int .i64 nn) := by intro wI h; obtain ⟨τ, h⟩ := hJ2.out wI h; rw [hInv] at h; rw [h.2.2.1.cell]; rfl
                have j2 : ∀ wI, Now J wI → wI.cell? ⟨wr.heap.size, 2, none⟩ = some (.int .i64 ff) := by intro wI h; obtain ⟨τ, h⟩ := hJ2.out wI h; rw [hInv] at h; rw [h.2.2.1.cell]; rfl
                have j3 : ∀ wI, Now J wI → wI.cell? ⟨d, 3, none⟩ = some (.slice (some ⟨gw, 0, none⟩) S.wrote.length cw) := by intro wI h; obtain ⟨τ, h⟩ := hJ2.out wI h; rw [hInv] at h; rw [(HD.out.1.below' h.1).cell]; rfl
                have HI := Lib.hid hInv
                have H0 : Hid (Inv Done.none (wr.alloc (.cells #[.int .i64 nn, .int .i64 1, .int .i64 ff] 87)).drew) := by
                  rw [hInv]
                  exact ⟨(hb.out.alloc (by have := hb.out.size; omega) _).drew, Blk.alloc hoB.out _, Blk.new wr 87 #[.int .i64 nn, .int .i64 1, .int .i64 ff], by have := hff.out.alloc (.cells #[.int .i64 nn, .int .i64 1, .int .i64 ff] 87); simp only [Done.none, if_true]; exact this⟩
                clear hInv
                refine wp_region_inv (by kernel_rfl) [⟨0, false, [], [18]⟩, ⟨1, false, [], [18]⟩, ⟨2, false, [], [18]⟩, ⟨3, false, [], [18]⟩, ⟨4, false, [], [18]⟩, ⟨5, false, [], [18]⟩, ⟨6, false, [], [18]⟩, ⟨7, false, [], [18]⟩, ⟨8, false, [], [18]⟩, ⟨9, false, [], [18]⟩, ⟨10, false, [], [18]⟩, ⟨11, false, [], [18]⟩, ⟨12, false, [], [18]⟩, ⟨13, false, [], [18]⟩, ⟨14, false, [], [18]⟩, ⟨15, false, [], [18]⟩, ⟨16, false, [], [18]⟩, ⟨17, false, [], [18]⟩, ⟨18, true, [], []⟩] (by kernel_rfl) Inv (fun _ v => v = .int .i64 (256 : Nat)) (fun _ => ⟨_, rfl⟩) H0.out ?_
                iterate 7 (apply WpI.pure; (simp only [List.getElem?_toArray, List.getElem?_cons_succ, List.getElem?_cons_zero]; rfl); (intro τ wI hA hI; have hw := hJ1.out _ _ hI; go_simp; exact ⟨hI, Is.rfl'⟩); simp only [Act.put, List.setIfInBounds_toArray, List.set_cons_zero, List.set_cons_succ])
                iterate 10 (apply WpI.pure; (simp only [List.getElem?_toArray, List.getElem?_cons_succ, List.getElem?_cons_zero]; rfl); (intro τ wI hA hI; have hw := hJ1.out _ _ hI; go_simp; exact ⟨hI, Is.rfl'⟩); simp only [Act.put, List.setIfInBounds_toArray, List.set_cons_zero, List.set_cons_succ])
                apply WpI.pure; (simp only [List.getElem?_toArray, List.getElem?_cons_succ, List.getElem?_cons_zero]; rfl); (intro τ wI hA hI; have hw := hJ1.out _ _ hI; go_simp; exact ⟨hI, Is.rfl'⟩); simp only [Act.put, List.setIfInBounds_toArray, List.set_cons_zero, List.set_cons_succ]
                apply WpI.effect; (simp only [List.getElem?_toArray, List.getElem?_cons_succ, List.getElem?_cons_zero]; rfl)
                · intro τ wI hA hn hI
                  have hI' := hI
                  rw [HI.out] at hI'
                  obtain ⟨k1, k2, k3, k4⟩ := hI'
                  rw [if_pos hn] at k4
                  refine runs_copy rfl _ _ 22 22 rfl 5 Try.underlying22 (by kernel_rfl) g1 _ c1 _ k4 pp _ _ rfl (fun b => b = gw) _ rfl 256 (B8 ((S.wrote.drop ff).take 256)) ?_ (B8_one _) ?_ ?_ ?_
                  · have hc := Sl.cut (own_below HD.out.2.2.2 k1) ff 256 (cw - ff) hff2 (by omega)
                    exact hc
                  · omega
                  · omega
                  · intro w' ho hm
                    refine ⟨rfl, ?_⟩
                    rw [HI.out]
                    have hg1 : ∀ i, i = g1 → w.heap.size ≤ i := fun i hi => by rw [hi]; exact H1.out.2.2 g1 rfl
                    refine ⟨k1.trans (hm.below (by exact k1.size) (fun i hi => hg1 i hi)), k2.mod hm (fun e => own_blk_ne k4 k2 (by decide) (by rw [e]; rfl)), k3.mod hm (fun e => own_blk_ne k4 k3 (by decide) (by rw [e]; rfl)), ?_⟩
                    rw [Done.put_same, if_neg (by simp), B8_splice, ← HPP.out]
                    exact ho
                intro v hv
                rw [hv]
                clear hv
                try simp only [Act.put, List.setIfInBounds_toArray, List.set_cons_zero, List.set_cons_succ]
                refine WpI.done ?_
                intro wI hI
                rw [HI.out] at hI
                obtain ⟨k1, k2, k3, k4⟩ := hI
                rw [Done.put_same, if_neg (by simp)] at k4
                have K4 := Lib.hid (And.intro k1 (And.intro k2 k4))
                clear k1 k2 k3 k4
                go_wp2_with fail
                go_roundg (n - (j + 1))
                case measure => omega
                case rel =>
                  refine ⟨j + 1, some ⟨kb, ko, none⟩, 0, 0, by go_num, hj1, rfl, rfl, Lib.hid (by rw [hs1.out]; exact HKM.out), by omega, ?_, K4.out.1, K4.out.2.1, ?_⟩
                  · exact Lib.hid (by rw [hs1.out]; exact (fun wx hx => hkw2.out wx hx _ rfl) _ K4.out.1)
                  · rw [hs1.out]; exact K4.out.2.2
              · have hc2 : Hid (¬ c2 = 1) := hc1
                obtain ⟨g1, cap1, hA1, _, hg1l⟩ := H1.out.1.form (by have := HO.out.first; omega)
                have hA1' : A1 = some ⟨g1, 0, none⟩ := by simp only [Value.slice.injEq] at hA1; exact hA1.1
                subst hA1'
                obtain ⟨gw, capw, hAw, _, _⟩ := HD.out.2.2.2.form (by omega)
                have hAw' : Aw = some ⟨gw, 0, none⟩ := by simp only [Value.slice.injEq] at hAw; exact hAw.1
                subst hAw'
                clear hA1 hAw
                have q1 : nn * 256 + 256 ≤ S.first.length := by have := HO.out.first; omega
                have q2 : S.first.length ≤ c1 := by obtain ⟨_, _, e, h, _⟩ := own_form H1.out.1; simp only [Value.slice.injEq] at e; omega
                have q3 : S.first.length ≤ 524288 := by have := HO.out.first; omega
                have q4 : S.wrote.length ≤ 1000000000000 := HE.out.2.2.1
                have q5 : S.wrote.length ≤ cw := by obtain ⟨_, _, e, h, _⟩ := own_form HD.out.2.2.2; simp only [Value.slice.injEq] at e; omega
                obtain ⟨pp, hpp⟩ : ∃ p : Nat, p = nn * 256 := ⟨_, rfl⟩
                obtain ⟨rr, hrr⟩ : ∃ p : Nat, p = ff + 256 := ⟨_, rfl⟩
                have wq1 : IntKind.i64.wrap ((nn : Int) * 256) = (pp : Int) := by rw [IntKind.wrap_i64]; omega
                have wq2 : IntKind.i64.wrap ((ff : Int) + 256) = (rr : Int) := by rw [IntKind.wrap_i64]; omega
                have q6 : pp + 256 ≤ S.first.length := by omega
                have q7 : rr ≤ S.wrote.length := by omega
                have q8 : ff ≤ rr := by omega
                have q9 : rr - ff = 256 := by omega
                have q10 : pp ≤ S.first.length := by omega
                have q11 : rr ≤ cw := by omega
                have q12 : ff ≤ cw := by omega
                have q13 : ¬ c1 = pp := by omega
                have q14 : ¬ cw = ff := by omega
                have HPP := Lib.hid hpp
                have HRR := Lib.hid hrr
                clear hpp hrr
                go_upto_region 16 with fail
                try simp only [Act.put, List.setIfInBounds_toArray, List.set_cons_zero, List.set_cons_succ]
                obtain ⟨Inv, hInv⟩ : ∃ Inv : Done → World → Prop, Inv = fun τ wI => Below w.heap.size w wI ∧ Blk wI w1.heap.size 29 [.slice (some ⟨g1, 0, none⟩) S.first.length c1, .slice none 0 0, .slice none 0 0, .slice none 0 0] ∧
                  Blk wI wr.heap.size 87 [.int .i64 nn, .int .i64 1, .int .i64 ff] ∧ wI.ownsRow 0 5 1 (.slice (some ⟨g1, 0, none⟩) S.first.length c1) S.first.length (B8 (if τ 18 = none then (lossK S L0 keep j).1 else splice (lossK S L0 keep j).1 (nn * 256) ((S.wrote.drop ff).take 256))) := ⟨_, rfl⟩
                obtain ⟨J, hJ1, hJ2⟩ := now_of Inv
                have j0 : ∀ wI, Now J wI → wI.cell? ⟨w1.heap.size, 0, none⟩ = some (.slice (some ⟨g1, 0, none⟩) S.first.length c1) := by intro wI h; obtain ⟨τ, h⟩ := hJ2.out wI h; rw [hInv] at h; rw [h.2.1.cell]; rfl
                have j1 : ∀ wI, Now J wI → wI.cell? ⟨wr.heap.size, 0, none⟩ = some (.int .i64 nn) := by intro wI h; obtain ⟨τ, h⟩ := hJ2.out wI h; rw [hInv] at h; rw [h.2.2.1.cell]; rfl
                have j2 : ∀ wI, Now J wI → wI.cell? ⟨wr.heap.size, 2, none⟩ = some (.int .i64 ff) := by intro wI h; obtain ⟨τ, h⟩ := hJ2.out wI h; rw [hInv] at h; rw [h.2.2.1.cell]; rfl
                have j3 : ∀ wI, Now J wI → wI.cell? ⟨d, 3, none⟩ = some (.slice (some ⟨gw, 0, none⟩) S.wrote.length cw) := by intro wI h; obtain ⟨τ, h⟩ := hJ2.out wI h; rw [hInv] at h; rw [(HD.out.1.below' h.1).cell]; rfl
                have HI := Lib.hid hInv
                have H0 : Hid (Inv Done.none (wr.alloc (.cells #[.int .i64 nn, .int .i64 1, .int .i64 ff] 87)).drew) := by
                  rw [hInv]
                  exact ⟨(hb.out.alloc (by have := hb.out.size; omega) _).drew, Blk.alloc hoB.out _, Blk.new wr 87 #[.int .i64 nn, .int .i64 1, .int .i64 ff], by have := hff.out.alloc (.cells #[.int .i64 nn, .int .i64 1, .int .i64 ff] 87); simp only [Done.none, if_true]; exact this⟩
                clear hInv
                refine wp_region_inv (by kernel_rfl) [⟨0, false, [], [18]⟩, ⟨1, false, [], [18]⟩, ⟨2, false, [], [18]⟩, ⟨3, false, [], [18]⟩, ⟨4, false, [], [18]⟩, ⟨5, false, [], [18]⟩, ⟨6, false, [], [18]⟩, ⟨7, false, [], [18]⟩, ⟨8, false, [], [18]⟩, ⟨9, false, [], [18]⟩, ⟨10, false, [], [18]⟩, ⟨11, false, [], [18]⟩, ⟨12, false, [], [18]⟩, ⟨13, false, [], [18]⟩, ⟨14, false, [], [18]⟩, ⟨15, false, [], [18]⟩, ⟨16, false, [], [18]⟩, ⟨17, false, [], [18]⟩, ⟨18, true, [], []⟩] (by kernel_rfl) Inv (fun _ v => v = .int .i64 (256 : Nat)) (fun _ => ⟨_, rfl⟩) H0.out ?_
                iterate 7 (apply WpI.pure; (simp only [List.getElem?_toArray, List.getElem?_cons_succ, List.getElem?_cons_zero]; rfl); (intro τ wI hA hI; have hw := hJ1.out _ _ hI; go_simp; exact ⟨hI, Is.rfl'⟩); simp only [Act.put, List.setIfInBounds_toArray, List.set_cons_zero, List.set_cons_succ])
                iterate 10 (apply WpI.pure; (simp only [List.getElem?_toArray, List.getElem?_cons_succ, List.getElem?_cons_zero]; rfl); (intro τ wI hA hI; have hw := hJ1.out _ _ hI; go_simp; exact ⟨hI, Is.rfl'⟩); simp only [Act.put, List.setIfInBounds_toArray, List.set_cons_zero, List.set_cons_succ])
                apply WpI.pure; (simp only [List.getElem?_toArray, List.getElem?_cons_succ, List.getElem?_cons_zero]; rfl); (intro τ wI hA hI; have hw := hJ1.out _ _ hI; go_simp; exact ⟨hI, Is.rfl'⟩); simp only [Act.put, List.setIfInBounds_toArray, List.set_cons_zero, List.set_cons_succ]
                apply WpI.effect; (simp only [List.getElem?_toArray, List.getElem?_cons_succ, List.getElem?_cons_zero]; rfl)
                · intro τ wI hA hn hI
                  have hI' := hI
                  rw [HI.out] at hI'
                  obtain ⟨k1, k2, k3, k4⟩ := hI'
                  rw [if_pos hn] at k4
                  refine runs_copy rfl _ _ 22 22 rfl 5 Try.underlying22 (by kernel_rfl) g1 _ c1 _ k4 pp _ _ rfl (fun b => b = gw) _ rfl 256 (B8 ((S.wrote.drop ff).take 256)) ?_ (B8_one _) ?_ ?_ ?_
                  · have hc := Sl.cut (own_below HD.out.2.2.2 k1) ff 256 (cw - ff) hff2 (by omega)
                    exact hc
                  · omega
                  · omega
                  · intro w' ho hm
                    refine ⟨rfl, ?_⟩
                    rw [HI.out]
                    have hg1 : ∀ i, i = g1 → w.heap.size ≤ i := fun i hi => by rw [hi]; exact H1.out.2.2 g1 rfl
                    refine ⟨k1.trans (hm.below (by exact k1.size) (fun i hi => hg1 i hi)), k2.mod hm (fun e => own_blk_ne k4 k2 (by decide) (by rw [e]; rfl)), k3.mod hm (fun e => own_blk_ne k4 k3 (by decide) (by rw [e]; rfl)), ?_⟩
                    rw [Done.put_same, if_neg (by simp), B8_splice, ← HPP.out]
                    exact ho
                intro v hv
                rw [hv]
                clear hv
                try simp only [Act.put, List.setIfInBounds_toArray, List.set_cons_zero, List.set_cons_succ]
                refine WpI.done ?_
                intro wI hI
                rw [HI.out] at hI
                obtain ⟨k1, k2, k3, k4⟩ := hI
                rw [Done.put_same, if_neg (by simp)] at k4
                have K4 := Lib.hid (And.intro k1 (And.intro k2 k4))
                clear k1 k2 k3 k4
                go_wp2_with fail
                go_roundg (n - (j + 1))
                case measure => omega
                case rel =>
                  refine ⟨j + 1, some ⟨kb, ko + 1, none⟩, m2 - 1, c2 - 1, by go_num, hj1, rfl, rfl, Lib.hid (by rw [hs1.out]; exact HKM.out), hm1b, ?_, K4.out.1, K4.out.2.1, ?_⟩
                  · exact Lib.hid (by rw [hs1.out]; exact (fun wx hx => hkw2.out wx hx _ (by rw [if_neg hc2.out])) _ K4.out.1)
                  · rw [hs1.out]; exact K4.out.2.2
        · have hs1 : Hid (lossK S L0 keep (j + 1) = (splice (lossK S L0 keep j).1 (nn * 256) ((S.wrote.drop ff).take 256), (lossK S L0 keep j).2)) := by
            have := hstep.out
            rw [this]
            show lossStep _ _ _ _ _ = _
            unfold lossStep
            rw [if_neg (by simp), if_neg (by omega)]
            simp
          have hl1 : ¬ ((L0 : Int) ≤ j) := by omega
          obtain ⟨g1, cap1, hA1, _, hg1l⟩ := H1.out.1.form (by have := HO.out.first; omega)
          have hA1' : A1 = some ⟨g1, 0, none⟩ := by simp only [Value.slice.injEq] at hA1; exact hA1.1
          subst hA1'
          obtain ⟨gw, capw, hAw, _, _⟩ := HD.out.2.2.2.form (by omega)
          have hAw' : Aw = some ⟨gw, 0, none⟩ := by simp only [Value.slice.injEq] at hAw; exact hAw.1
          subst hAw'
          clear hA1 hAw
          have q1 : nn * 256 + 256 ≤ S.first.length := by have := HO.out.first; omega
          have q2 : S.first.length ≤ c1 := by obtain ⟨_, _, e, h, _⟩ := own_form H1.out.1; simp only [Value.slice.injEq] at e; omega
          have q3 : S.first.length ≤ 524288 := by have := HO.out.first; omega
          have q4 : S.wrote.length ≤ 1000000000000 := HE.out.2.2.1
          have q5 : S.wrote.length ≤ cw := by obtain ⟨_, _, e, h, _⟩ := own_form HD.out.2.2.2; simp only [Value.slice.injEq] at e; omega
          obtain ⟨pp, hpp⟩ : ∃ p : Nat, p = nn * 256 := ⟨_, rfl⟩
          obtain ⟨rr, hrr⟩ : ∃ p : Nat, p = ff + 256 := ⟨_, rfl⟩
          have wq1 : IntKind.i64.wrap ((nn : Int) * 256) = (pp : Int) := by rw [IntKind.wrap_i64]; omega
          have wq2 : IntKind.i64.wrap ((ff : Int) + 256) = (rr : Int) := by rw [IntKind.wrap_i64]; omega
          have q6 : pp + 256 ≤ S.first.length := by omega
          have q7 : rr ≤ S.wrote.length := by omega
          have q8 : ff ≤ rr := by omega
          have q9 : rr - ff = 256 := by omega
          have q10 : pp ≤ S.first.length := by omega
          have q11 : rr ≤ cw := by omega
          have q12 : ff ≤ cw := by omega
          have q13 : ¬ c1 = pp := by omega
          have q14 : ¬ cw = ff := by omega
          have HPP := Lib.hid hpp
          have HRR := Lib.hid hrr
          clear hpp hrr
          go_upto_region 16 with fail
          try simp only [Act.put, List.setIfInBounds_toArray, List.set_cons_zero, List.set_cons_succ]
          obtain ⟨Inv, hInv⟩ : ∃ Inv : Done → World → Prop, Inv = fun τ wI => Below w.heap.size w wI ∧ Blk wI w1.heap.size 29 [.slice (some ⟨g1, 0, none⟩) S.first.length c1, .slice none 0 0, .slice none 0 0, .slice none 0 0] ∧
            Blk wI wr.heap.size 87 [.int .i64 nn, .int .i64 1, .int .i64 ff] ∧ wI.ownsRow 0 5 1 (.slice (some ⟨g1, 0, none⟩) S.first.length c1) S.first.length (B8 (if τ 18 = none then (lossK S L0 keep j).1 else splice (lossK S L0 keep j).1 (nn * 256) ((S.wrote.drop ff).take 256))) := ⟨_, rfl⟩
          obtain ⟨J, hJ1, hJ2⟩ := now_of Inv
          have j0 : ∀ wI, Now J wI → wI.cell? ⟨w1.heap.size, 0, none⟩ = some (.slice (some ⟨g1, 0, none⟩) S.first.length c1) := by intro wI h; obtain ⟨τ, h⟩ := hJ2.out wI h; rw [hInv] at h; rw [h.2.1.cell]; rfl
          have j1 : ∀ wI, Now J wI → wI.cell? ⟨wr.heap.size, 0, none⟩ = some (.int .i64 nn) := by intro wI h; obtain ⟨τ, h⟩ := hJ2.out wI h; rw [hInv] at h; rw [h.2.2.1.cell]; rfl
          have j2 : ∀ wI, Now J wI → wI.cell? ⟨wr.heap.size, 2, none⟩ = some (.int .i64 ff) := by intro wI h; obtain ⟨τ, h⟩ := hJ2.out wI h; rw [hInv] at h; rw [h.2.2.1.cell]; rfl
          have j3 : ∀ wI, Now J wI → wI.cell? ⟨d, 3, none⟩ = some (.slice (some ⟨gw, 0, none⟩) S.wrote.length cw) := by intro wI h; obtain ⟨τ, h⟩ := hJ2.out wI h; rw [hInv] at h; rw [(HD.out.1.below' h.1).cell]; rfl
          have HI := Lib.hid hInv
          have H0 : Hid (Inv Done.none (wr.alloc (.cells #[.int .i64 nn, .int .i64 1, .int .i64 ff] 87)).drew) := by
            rw [hInv]
            exact ⟨(hb.out.alloc (by have := hb.out.size; omega) _).drew, Blk.alloc hoB.out _, Blk.new wr 87 #[.int .i64 nn, .int .i64 1, .int .i64 ff], by have := hff.out.alloc (.cells #[.int .i64 nn, .int .i64 1, .int .i64 ff] 87); simp only [Done.none, if_true]; exact this⟩
          clear hInv
          refine wp_region_inv (by kernel_rfl) [⟨0, false, [], [18]⟩, ⟨1, false, [], [18]⟩, ⟨2, false, [], [18]⟩, ⟨3, false, [], [18]⟩, ⟨4, false, [], [18]⟩, ⟨5, false, [], [18]⟩, ⟨6, false, [], [18]⟩, ⟨7, false, [], [18]⟩, ⟨8, false, [], [18]⟩, ⟨9, false, [], [18]⟩, ⟨10, false, [], [18]⟩, ⟨11, false, [], [18]⟩, ⟨12, false, [], [18]⟩, ⟨13, false, [], [18]⟩, ⟨14, false, [], [18]⟩, ⟨15, false, [], [18]⟩, ⟨16, false, [], [18]⟩, ⟨17, false, [], [18]⟩, ⟨18, true, [], []⟩] (by kernel_rfl) Inv (fun _ v => v = .int .i64 (256 : Nat)) (fun _ => ⟨_, rfl⟩) H0.out ?_
          iterate 7 (apply WpI.pure; (simp only [List.getElem?_toArray, List.getElem?_cons_succ, List.getElem?_cons_zero]; rfl); (intro τ wI hA hI; have hw := hJ1.out _ _ hI; go_simp; exact ⟨hI, Is.rfl'⟩); simp only [Act.put, List.setIfInBounds_toArray, List.set_cons_zero, List.set_cons_succ])
          iterate 10 (apply WpI.pure; (simp only [List.getElem?_toArray, List.getElem?_cons_succ, List.getElem?_cons_zero]; rfl); (intro τ wI hA hI; have hw := hJ1.out _ _ hI; go_simp; exact ⟨hI, Is.rfl'⟩); simp only [Act.put, List.setIfInBounds_toArray, List.set_cons_zero, List.set_cons_succ])
          apply WpI.pure; (simp only [List.getElem?_toArray, List.getElem?_cons_succ, List.getElem?_cons_zero]; rfl); (intro τ wI hA hI; have hw := hJ1.out _ _ hI; go_simp; exact ⟨hI, Is.rfl'⟩); simp only [Act.put, List.setIfInBounds_toArray, List.set_cons_zero, List.set_cons_succ]
          apply WpI.effect; (simp only [List.getElem?_toArray, List.getElem?_cons_succ, List.getElem?_cons_zero]; rfl)
          · intro τ wI hA hn hI
            have hI' := hI
            rw [HI.out] at hI'
            obtain ⟨k1, k2, k3, k4⟩ := hI'
            rw [if_pos hn] at k4
            refine runs_copy rfl _ _ 22 22 rfl 5 Try.underlying22 (by kernel_rfl) g1 _ c1 _ k4 pp _ _ rfl (fun b => b = gw) _ rfl 256 (B8 ((S.wrote.drop ff).take 256)) ?_ (B8_one _) ?_ ?_ ?_
            · have hc := Sl.cut (own_below HD.out.2.2.2 k1) ff 256 (cw - ff) hff2 (by omega)
              exact hc
            · omega
            · omega
            · intro w' ho hm
              refine ⟨rfl, ?_⟩
              rw [HI.out]
              have hg1 : ∀ i, i = g1 → w.heap.size ≤ i := fun i hi => by rw [hi]; exact H1.out.2.2 g1 rfl
              refine ⟨k1.trans (hm.below (by exact k1.size) (fun i hi => hg1 i hi)), k2.mod hm (fun e => own_blk_ne k4 k2 (by decide) (by rw [e]; rfl)), k3.mod hm (fun e => own_blk_ne k4 k3 (by decide) (by rw [e]; rfl)), ?_⟩
              rw [Done.put_same, if_neg (by simp), B8_splice, ← HPP.out]
              exact ho
          intro v hv
          rw [hv]
          clear hv
          try simp only [Act.put, List.setIfInBounds_toArray, List.set_cons_zero, List.set_cons_succ]
          refine WpI.done ?_
          intro wI hI
          rw [HI.out] at hI
          obtain ⟨k1, k2, k3, k4⟩ := hI
          rw [Done.put_same, if_neg (by simp)] at k4
          have K4 := Lib.hid (And.intro k1 (And.intro k2 k4))
          clear k1 k2 k3 k4
          go_wp2_with fail
          go_roundg (n - (j + 1))
          case measure => omega
          case rel =>
            refine ⟨j + 1, A2, m2, c2, by go_num, hj1, rfl, rfl, Lib.hid (by rw [hs1.out]; exact hm2.out), hm2b, ?_, K4.out.1, K4.out.2.1, ?_⟩
            · exact Lib.hid (by rw [hs1.out]; exact hkw.out _ K4.out.1)
            · rw [hs1.out]; exact K4.out.2.2
    · have hjn : j = n := by omega
      subst hjn
      have d5 : wr.cell? ⟨w1.heap.size, 0, none⟩ = some (.slice A1 S.first.length c1) := by rw [Blk.cell hoB.out]; rfl
      have hltB : w1.heap.size < wr.heap.size := Blk.lt hoB.out
      go_wp2_with fail
      refine (clone_any A1 _ c1 (lossK S L0 keep j).1 _ _ (Sl.of_own hff.out) (by have := HO.out.first; omega)).mono ?_
      rintro e w3 ⟨A3, c3, rfl, ho3, hb3, hf3, hnil⟩
      clear hnil
      have hd3 := Blk.below' hoB.out hb3
      have c31 : w3.cell? ⟨w1.heap.size, 1, none⟩ = some (.slice none 0 0) := by rw [hd3.cell]; rfl
      have f31 := hd3.frozen 1
      have hlt3 := hd3.lt
      have hff3 := own_below hff.out hb3
      have H3 := Lib.hid (And.intro ho3 (And.intro hb3 (And.intro hf3 (And.intro hd3 hff3))))
      clear ho3 hb3 hf3 hd3 hff3
      go_wp2_with fail
      go_ret2
      obtain ⟨ho3, hb3, hf3, hd3, hff3⟩ := H3.out
      have e1 : lossOf S j keep = (lossK S L0 keep j).1 := by rw [HL0.out]; rfl
      have e2 : (lossK S L0 keep j).1.length = S.first.length := by rw [lossK_length S k L0 keep HO.out j, HO.out.first]
      have hsz := hb.out.size
      have hsz3 := hb3.size
      have hBB : Below w.heap.size w w3 := hb.out.trans (hb3.mono (by omega))
      have hne3 : (Value.slice A3 S.first.length c3).ownBlock ≠ some w1.heap.size := fun e => by have := hf3 _ e; omega
      have hneF : (Value.slice A1 S.first.length c1).ownBlock ≠ some w1.heap.size := fun e => own_blk_ne hff3 hd3 (by decide) e
      have hA1 := H1.out.2.2
      refine ⟨_, rfl, ⟨_, _, _, _, ⟨hsz1, by simpa using hlt3⟩, hd3.set_ 1 _, ?_, ?_, own_nil0 _ _ _, own_nil0 _ _ _, ?_, ?_, ?_, ?_⟩, ?_⟩
      · rw [e1, e2]; exact own_setCell hff3 (p := ⟨_, 1, none⟩) hneF _
      · rw [e1, e2]; exact own_setCell ho3 (p := ⟨_, 1, none⟩) hne3 _
      · intro b hb'
        rcases hb' with hb' | hb' | hb' | hb'
        · exact ⟨hA1 b hb', by have := own_lt' hff3 hb'; simpa using this⟩
        · exact ⟨by have := hf3 b hb'; omega, by have := own_lt' ho3 hb'; simpa using this⟩
        · simp [Value.ownBlock] at hb'
        · simp [Value.ownBlock] at hb'
      · intro b hb'
        refine ⟨fun hb2 => ?_, by simp [Value.ownBlock]⟩
        have := hf3 b hb2
        have := own_lt' hff.out hb'
        omega
      · intro b hb'; simp [Value.ownBlock]
      · intro b hb'; exact hb'.2
      · exact hBB.setCell (p := ⟨_, 1, none⟩) hsz1 _
end Go.Proofs.Ytjdobjcbmmdjeaa
