/- Contracts of package wal: do; and what the law shows of a disk. -/
import Derived.Test.YtjdobjcbmmdjeaaW9
import Derived.Test.YtjdobjcbmmdjeaaRz
import Derived.Laws.Concat
namespace Go.Proofs.Ytjdobjcbmmdjeaa
open Go.RowKit

def shw (now : List UInt8) : Nat → ByteArray
  | 0 => ⟨#[]⟩
  | i + 1 => shw now i ++ ⟨(sec now (4 + i)).toArray⟩
theorem shw_size (now : List UInt8) : ∀ j, (shw now j).size ≤ 256 * j := by
  intro j
  induction j with
  | zero => exact Nat.le_refl 0
  | succ j ih =>
    have h : (ByteArray.mk (sec now (4 + j)).toArray).size ≤ 256 := by
      simp only [ByteArray.size, List.size_toArray, sec, List.length_take]; omega
    simp only [shw, ByteArray.size_append]
    omega
set_option maxRecDepth 100000 in
theorem shown_ok (w : World) (F : Nat → Prop) (d : Nat) (S : Dsk) (h : DiskAt w F d S) (hnow : S.now.length = 12 * 256) :
    Calls Try.prog 33 #[.pointer (some ⟨d, 0, none⟩)] w fun e w' => e = .returned (.string (shw S.now 8)) ∧ Below w.heap.size w w' := by
  have HD := Lib.hid h
  clear h
  go_enter Try.func33, Try.ntmps33
  go_wp2_with fail
  go_loopg [3, 4] 8 (fun kq s i wr => ∃ (z j : Nat), i = .int .i64 z ∧ s = .string (shw S.now j) ∧ j ≤ 8 ∧ kq = 8 - j ∧ Hid (z = 4 + j) ∧ Hid (Below w.heap.size w wr))
  case atStart => exact ⟨4, 0, rfl, rfl, by omega, rfl, rfl, Below.refl _ _⟩
  case round =>
    obtain ⟨z, j, rfl, rfl, hj, rfl, hz, hb⟩ := hrel
    by_cases hlt : j < 8
    · have hzl : z < 12 := by have := hz.out; omega
      have hzi : (z : Int) < 12 := by omega
      have HR := Lib.hid (read_ok wr F d 12 z S (HD.out.below hb.out) (by omega) hnow hzl)
      go_wp2_with fail
      refine HR.out.mono ?_
      rintro e w2 ⟨A, c, rfl, hN⟩
      obtain ⟨o1, f1, b1⟩ := hN.out (sec_length hnow hzl)
      have hcv := run_str w2 _ 22 5 9 A 256 c (sec S.now z) Try.underlying22 Try.underlying5 Try.underlying9 (Sl.of_own o1)
      have HB := Lib.hid (hb.out.trans (b1.mono hb.out.size))
      have HS : Hid (shw S.now (j + 1) = shw S.now j ++ ⟨(sec S.now z).toArray⟩) := by
        have e : shw S.now (j + 1) = shw S.now j ++ ⟨(sec S.now z).toArray⟩ := by rw [hz.out]; rfl
        exact e
      have hadd : (Op.stringOp .add (shw S.now j) ⟨(sec S.now z).toArray⟩).run Try.prog w2 = .ok (.string (shw S.now j ++ ⟨(sec S.now z).toArray⟩)) w2 := run_string_add_sum _ _ _ (by
        have h1 := shw_size S.now j
        have h2 : (ByteArray.mk (sec S.now z).toArray).size ≤ 256 := by
          simp only [ByteArray.size, List.size_toArray, sec, List.length_take]; omega
        omega)
      clear hN o1 f1 b1 HR
      go_wp2_with fail
      go_roundg (8 - (j + 1))
      case measure => omega
      case rel => exact ⟨z + 1, j + 1, by go_num, by rw [HS.out], by omega, rfl, Lib.hid (by have := hz.out; omega), HB⟩
    · obtain rfl : j = 8 := by omega
      have hzi : ¬ (z : Int) < 12 := by have := hz.out; omega
      go_wp2_with fail
      go_ret
      exact ⟨rfl, hb.out⟩

/-- a header's numbers, the first i of them done -/
def doI (S : Dsk) (at_ : Nat) (l : List Int) : Nat → Dsk
  | 0 => S
  | i + 1 => match l[i]? with
    | some n => writeD (doI S at_ l i) n.toNat (sec (doI S at_ l i).now (at_ + 1 + i))
    | none => doI S at_ l i
def doS (S : Dsk) (at_ : Nat) (l : List Int) : Dsk := flushD (writeD (flushD (doI S at_ l l.length)) at_ (zeros 256))
theorem doI_ev (S : Dsk) (at_ : Nat) (l : List Int) : ∀ i, i ≤ l.length → (doI S at_ l i).ev.length = S.ev.length + i := by
  intro i
  induction i with
  | zero => intro _; rfl
  | succ i ih =>
    intro hi
    unfold doI
    rw [List.getElem?_eq_getElem (show i < l.length by omega)]
    simp only [writeD, List.length_append, List.length_cons, List.length_nil]
    have := ih (by omega)
    omega
theorem doI_good {S : Dsk} {k : Nat} (at_ : Nat) {l : List Int} (hg : S.Good k) (hl : ∀ n ∈ l, 0 ≤ n ∧ n < (k : Int)) (ha : at_ + l.length < k) : ∀ i, i ≤ l.length → (doI S at_ l i).Good k := by
  intro i
  induction i with
  | zero => intro _; exact hg
  | succ i ih =>
    intro hi
    have h := ih (by omega)
    unfold doI
    rw [List.getElem?_eq_getElem (show i < l.length by omega)]
    have := hl _ (List.getElem_mem (show i < l.length by omega))
    exact h.write _ (by omega) _ (sec_length h.ok.now (by omega))
theorem doI_wrote {S : Dsk} {k : Nat} (at_ : Nat) {l : List Int} (hg : S.Good k) (hl : ∀ n ∈ l, 0 ≤ n ∧ n < (k : Int)) (ha : at_ + l.length < k) : ∀ i, i ≤ l.length → (doI S at_ l i).wrote.length = S.wrote.length + 256 * i := by
  intro i
  induction i with
  | zero => intro _; rfl
  | succ i ih =>
    intro hi
    have h := doI_good at_ hg hl ha i (by omega)
    have := ih (by omega)
    unfold doI
    rw [List.getElem?_eq_getElem (show i < l.length by omega)]
    simp only [writeD, List.length_append, sec_length h.ok.now (show at_ + 1 + i < k by omega)]
    omega
theorem undrew {w w' : World} (h : Below w.drew.heap.size w.drew w') : Below w.heap.size w w' := ⟨h.os, h.tape, h.output, h.size, h.block⟩
set_option maxRecDepth 100000 in
/-- make([]byte, 256) -/
theorem zero256 (W : World) : ∃ w', (Instr.makeSlice 22 (.int .i64 256) (.int .i64 256)).run Try.prog W = .ok (.slice (some ⟨W.heap.size, 0, none⟩) 256 256) w' ∧
    Sl w' (fun b => b = W.heap.size) 1 (.slice (some ⟨W.heap.size, 0, none⟩) 256 256) 256 (B8 (zeros 256)) ∧ W.grownBy w' none ∧ W.heap.size < w'.heap.size := by
  obtain ⟨i, hi1, hz, hsize, hby⟩ := info_parts info5
  obtain ⟨w', hrun, r1, r2⟩ := run_make_full (P := Try.prog) W 0 22 5 i (.int .u8 0) 1 Try.underlying22 hi1 hz hsize .i64 .i64 256 (by rw [hby]; omega) (by simp only [maxLen]; omega) (Nat.zero_le _)
  rw [zeros_u8] at r1
  exact ⟨w', hrun, (Sl.of_own r1).mono (fun i _ h => by have := h.1; injection this with this; exact this.symm) (by omega), r2, own_lt' r1 rfl⟩
theorem zeros256 : (zeros 256).length = 256 := zeros_length 256

set_option maxRecDepth 100000 in
set_option maxHeartbeats 2000000 in
theorem do_ok (w : World) (F FJ G : Nat → Prop) (j d k : Nat) (J : Jr) (S : Dsk) (A : Option Addr) (m c : Nat) (l : List Int) (hJ : JrAt w FJ j d J) (hd : DiskAt w F d S) (hdis : ∀ b, F b → ¬ FJ b) (hk1 : 1 ≤ k) (hk : k ≤ 2048) (hg : S.Good k)
    (hl : Sl w G 1 (.slice A m c) m (Ints l)) (hGF : ∀ b, F b → ¬ G b) (hlk : ∀ n ∈ l, 0 ≤ n ∧ n < (k : Int)) (ha : J.at_ + m < k) (hev : S.ev.length ≤ 100000000) (hwr : S.wrote.length ≤ 100000000000) :
    Calls Try.prog 49 #[.pointer (some ⟨j, 0, none⟩), .slice A m c] w fun e w' => e = .returned (.tuple #[]) ∧ DiskAt w' (fun b => F b ∨ (w.heap.size ≤ b ∧ b < w'.heap.size)) d (doS S J.at_ l) ∧ Mod F w w' := by
  have hlm : l.length = m := by have := hl.1; rw [Ints_length, Nat.mul_one] at this; exact this
  have HJ := Lib.hid hJ
  have HD := Lib.hid hd
  have HX := Lib.hid (And.intro hdis hGF)
  have HG : Hid (∀ i, i ≤ m → (doI S J.at_ l i).Good k ∧ (doI S J.at_ l i).ev.length = S.ev.length + i ∧ (doI S J.at_ l i).wrote.length = S.wrote.length + 256 * i) := by
    rw [← hlm]
    exact fun i hi => ⟨doI_good J.at_ hg hlk (by omega) i hi, doI_ev S J.at_ l i hi, doI_wrote J.at_ hg hlk (by omega) i hi⟩
  have HL := Lib.hid hl
  have hfj : ∀ wx, Mod F w wx → wx.cell? ⟨j, 0, none⟩ = some (.pointer (some ⟨d, 0, none⟩)) ∧ wx.cell? ⟨j, 1, none⟩ = some (.int .i64 (J.at_ : Int)) ∧ j < wx.heap.size := by
    intro wx hm
    obtain ⟨g, c0, c1, _, _, hlj⟩ := (hJ.mod hm (fun b hb e => hdis b e hb)).cells
    exact ⟨c0, c1, hlj⟩
  have HC := Lib.hid hfj
  have HLC : Hid (∀ i n, l[i]? = some n → ∃ b o, A = some ⟨b, o, none⟩ ∧ ∀ wx, Mod F w wx → wx.cell? ⟨b, o + i, none⟩ = some (.int .i64 n) ∧ b < wx.heap.size) := by
    intro i n hi
    have hil := (List.getElem?_eq_some_iff.1 hi).1
    obtain ⟨_, A', c', hv, _, hr⟩ := hl
    simp only [Value.slice.injEq] at hv
    obtain ⟨rfl, _, rfl⟩ := hv
    obtain ⟨⟨b, o, s⟩, rfl, hGb, hx⟩ := hr (by omega)
    have hx2 := hx i (.int .i64 n) (by simp only [Ints, List.getElem?_map, hi]; rfl)
    have hs : s = none := by
      have := hx 0 (.int .i64 (l[0]'(by omega))) (by simp only [Ints, List.getElem?_map, List.getElem?_eq_getElem (show 0 < l.length by omega)]; rfl)
      simpa [Addr.add] using World.cell?_spot this
    subst hs
    rw [add_lit0] at hx2
    refine ⟨b, o, rfl, fun wx hm => ?_⟩
    have hbl : b < w.heap.size := World.block_lt_of_cell? _ _ hx2
    have hbk := hm.block b hbl (fun e => hGF b e hGb)
    refine ⟨(World.cell?_of_block (w := w) (w' := wx) (a := ⟨b, o + i, none⟩) hbk).trans hx2, by have := hm.size; omega⟩
  have HLK := Lib.hid hlk
  obtain ⟨a, hae⟩ : ∃ a, a = J.at_ := ⟨_, rfl⟩
  have HFin : Hid (doS S J.at_ l = flushD (writeD (flushD (doI S J.at_ l m)) J.at_ (zeros 256))) := by
    have e : doS S J.at_ l = flushD (writeD (flushD (doI S J.at_ l m)) J.at_ (zeros 256)) := by unfold doS; rw [hlm]
    exact e
  have hm2 : m < 2048 := by omega
  have ha2 : J.at_ < 2048 := by omega
  rw [← hae] at HG HC HFin ha ha2 ⊢
  have HAM := Lib.hid ha
  clear hJ hd hdis hg hl hGF hlk hfj hae ha
  go_enter Try.func49, Try.ntmps49
  go_wp2_with fail
  go_loopg [10] m (fun kq i wr => ∃ (q : Nat) (F2 : Nat → Prop), i = .int .i64 q ∧ q ≤ m ∧ kq = m - q ∧ Hid (DiskAt wr F2 d (doI S a l q)) ∧ Hid (∀ b, F2 b → F b ∨ w.heap.size ≤ b) ∧ Hid (Mod F w wr))
  case atStart => exact ⟨0, F, rfl, by omega, rfl, HD, Lib.hid (fun b hb => .inl hb), Mod.refl _ _⟩
  case round =>
    obtain ⟨q, F2, rfl, hq, rfl, hd, hF2, hm⟩ := hrel
    by_cases hlt : q < m
    · have hqi : (q : Int) < (m : Int) := by omega
      obtain ⟨n, hn⟩ : ∃ n, l[q]? = some n := ⟨_, List.getElem?_eq_getElem (by omega)⟩
      obtain ⟨b, o, hA, hcl⟩ := HLC.out q n hn
      subst hA
      obtain ⟨hc1, hbl⟩ := hcl wr hm.out
      obtain ⟨nn, rfl⟩ : ∃ nn : Nat, n = (nn : Int) := ⟨n.toNat, by have := (HLK.out n (List.mem_of_getElem? hn)).1; omega⟩
      have hnk : nn < k := by have := (HLK.out _ (List.mem_of_getElem? hn)).2; omega
      obtain ⟨x0, x1, xl⟩ := HC.out wr hm.out
      have x0 : wr.drew.cell? ⟨j, 0, none⟩ = some (.pointer (some ⟨d, 0, none⟩)) := x0
      have x1 : wr.drew.cell? ⟨j, 1, none⟩ = some (.int .i64 (a : Int)) := x1
      have xl : j < wr.drew.heap.size := xl
      obtain ⟨p, hp⟩ : ∃ p, p = a + 1 + q := ⟨_, rfl⟩
      have w1 : IntKind.i64.wrap ((a : Int) + 1) = (a : Int) + 1 := by rw [IntKind.wrap_i64]; omega
      have w2 : IntKind.i64.wrap ((a : Int) + 1 + (q : Int)) = (p : Int) := by rw [IntKind.wrap_i64]; omega
      have hpk : p < k := by have := HAM.out; omega
      obtain ⟨g1, g2, g3⟩ := HG.out q hq
      have hstep : Hid (doI S a l (q + 1) = writeD (doI S a l q) nn (sec (doI S a l q).now p)) := by
        have e : doI S a l (q + 1) = writeD (doI S a l q) nn (sec (doI S a l q).now p) := by rw [doI, hn, hp]; rfl
        exact e
      have HG1 := Lib.hid (And.intro g1 (And.intro g2 g3))
      have hdr : DiskAt wr.drew F2 d (doI S a l q) := hd.out.below (Below.refl _ _).drew
      have HDR := Lib.hid hdr
      have HP := Lib.hid hp
      clear hn hcl g1 g2 g3 hdr hp
      go_upto_region 3 with fail
      try simp only [Act.put, List.setIfInBounds_toArray, List.set_cons_zero, List.set_cons_succ]
      obtain ⟨Inv, hInv⟩ : ∃ Inv : Done → World → Prop, Inv = Chain1 11 (fun wI => wI = wr.drew) (fun x wI => ∃ A c, x = .tuple #[.slice A 256 c, .int .i64 0] ∧ wI.ownsRow 0 5 1 (.slice A 256 c) 256 (B8 (sec (doI S a l q).now p)) ∧ (∀ b, (Value.slice A 256 c).ownBlock = some b → wr.drew.heap.size ≤ b) ∧ Below wr.drew.heap.size wr.drew wI) := ⟨_, rfl⟩
      have HI := Lib.hid hInv
      have H00 : Hid (Inv Done.none wr.drew) := by rw [hInv]; exact Chain1.start rfl
      clear hInv
      refine wp_region_inv (by kernel_rfl) [⟨0, false, [], [11]⟩, ⟨1, false, [], [11]⟩, ⟨2, false, [], [11]⟩, ⟨3, false, [], [11]⟩, ⟨4, false, [], [11]⟩, ⟨5, false, [], [11]⟩, ⟨6, false, [], [11]⟩, ⟨7, false, [], [11]⟩, ⟨8, false, [], [11]⟩, ⟨9, false, [], [11]⟩, ⟨10, false, [], [11]⟩, ⟨11, true, [], []⟩, ⟨12, false, [11], []⟩, ⟨13, false, [11], []⟩, ⟨14, false, [11], []⟩, ⟨15, false, [11], []⟩, ⟨16, false, [11], []⟩] (by kernel_rfl) Inv (fun _ v => ∃ A c, v = .tuple #[.slice A 256 c, .int .i64 0]) (fun _ => ⟨_, none, 0, rfl⟩) H00.out ?_
      iterate 11 (apply WpI.pure; (simp only [List.getElem?_toArray, List.getElem?_cons_succ, List.getElem?_cons_zero]; rfl); (intro τ wI hA hI; have h0 := hI; rw [HI.out] at h0; have h0 := h0.at0 (hA.2 11 (by decide)); subst h0; clear hA; go_simp; exact ⟨hI, Is.rfl'⟩); simp only [Act.put, List.setIfInBounds_toArray, List.set_cons_zero, List.set_cons_succ])
      apply WpI.effect; (simp only [List.getElem?_toArray, List.getElem?_cons_succ, List.getElem?_cons_zero]; rfl)
      · intro τ wI hA hn hI
        have h0 := hI
        rw [HI.out] at h0
        have h0 := h0.at0 hn
        subst h0
        clear hA hn hI
        go_simp
        refine (read_ok wr.drew F2 d k p _ HDR.out hk HG1.out.1.ok.now hpk).mono ?_
        rintro e w' ⟨A, c, rfl, hN⟩
        obtain ⟨o1, f1, b1⟩ := hN.out (sec_length HG1.out.1.ok.now hpk)
        refine ⟨_, rfl, ⟨A, c, rfl⟩, ?_⟩
        rw [HI.out]
        exact Chain1.put1 ⟨A, c, rfl, o1, f1, b1⟩
      intro v11 hv11
      obtain ⟨A3, c3, rfl⟩ := hv11
      simp only [Act.put, List.setIfInBounds_toArray, List.set_cons_zero, List.set_cons_succ]
      iterate 5 (apply WpI.pure; (simp only [List.getElem?_toArray, List.getElem?_cons_succ, List.getElem?_cons_zero]; rfl); (intro τ wI hA hI; go_simp; exact ⟨hI, Is.rfl'⟩); simp only [Act.put, List.setIfInBounds_toArray, List.set_cons_zero, List.set_cons_succ])
      refine WpI.done ?_
      intro wI hI
      rw [HI.out] at hI
      obtain ⟨A4, c4, he, o1, f1, b1⟩ := hI.end_
      simp only [Value.tuple.injEq, Array.mk.injEq, List.cons.injEq, Value.slice.injEq, and_true, true_and] at he
      obtain ⟨rfl, rfl⟩ := he
      have hmI : Mod F w wI := hm.out.trans (Mod.of_below (F := F) (undrew b1)) (fun _ _ h => h)
      obtain ⟨y0, y1, yl⟩ := HC.out wI hmI
      have HB := Lib.hid (And.intro o1 (And.intro f1 (And.intro (undrew b1) hmI)))
      clear hI HI H00 o1 f1 b1 x0 x1 xl hc1 hbl hmI HDR
      go_wp2_with fail
      refine (write_ok wI F2 _ d k nn _ A3 c3 _ (hd.out.below HB.out.2.2.1) hk1 hk HG1.out.1.ok.now hnk (Sl.of_own HB.out.1) (fun b hb e => by have h1 := HB.out.2.1 b e.1; have h2 := hd.out.lt hb; have h1 : wr.heap.size ≤ b := h1; omega) (by have := HG1.out.2.1; omega) (by have := HG1.out.2.2; omega)).mono ?_
      rintro e w4 ⟨rfl, hd4, hm4⟩
      have hm04 : Mod F w w4 := by
        refine HB.out.2.2.2.trans (hm4.mono (fun b _ hb => hb)) (fun b hb h => (hF2.out b h).elim id (fun h => by omega))
      have hsz := HB.out.2.2.2.size
      have H4 := Lib.hid (And.intro hd4 hm04)
      clear hd4 hm4 hm04 y0 y1 yl
      go_wp2_with fail
      go_roundg (m - (q + 1))
      case measure => omega
      case rel =>
        refine ⟨q + 1, _, by go_num, by omega, rfl, by rw [hstep.out]; exact Lib.hid H4.out.1, Lib.hid (fun b hb => ?_), Lib.hid H4.out.2⟩
        rcases hb with hb | hb
        · exact hF2.out b hb
        · exact .inr (by omega)
    · obtain rfl : q = m := by omega
      obtain ⟨g1, g2, g3⟩ := HG.out q hq
      obtain ⟨x0, x1, xl⟩ := HC.out wr hm.out
      have HG1 := Lib.hid (And.intro g1 (And.intro g2 g3))
      clear g1 g2 g3
      go_wp2_with fail
      refine (flush_ok wr F2 d k _ hd.out hk1 hk HG1.out.1.ok.now (by have := HG1.out.2.1; omega)).mono ?_
      rintro e w3 ⟨rfl, hd3, hm3⟩
      have hm03 : Mod F w w3 := hm.out.trans (hm3.mono (fun b _ hb => hb)) (fun b hb h => (hF2.out b h).elim id (fun h => by omega))
      obtain ⟨F3, hF3, hd3⟩ : ∃ F3 : Nat → Prop, (∀ b, F3 b → F b ∨ w.heap.size ≤ b) ∧ DiskAt w3 F3 d (flushD (doI S a l q)) := ⟨_, fun b hb => hb.elim (fun hb => hF2.out b hb) (fun hb => .inr (by have := hm.out.size; omega)), hd3⟩
      obtain ⟨y0, y1, yl⟩ := HC.out w3 hm03
      have y0 : w3.drew.cell? ⟨j, 0, none⟩ = some (.pointer (some ⟨d, 0, none⟩)) := y0
      have y1 : w3.drew.cell? ⟨j, 1, none⟩ = some (.int .i64 (a : Int)) := y1
      have yl : j < w3.drew.heap.size := yl
      have HG2 := Lib.hid HG1.out.1.flush
      have H3 := Lib.hid (And.intro hF3 (And.intro hd3 hm03))
      have hE3 : Hid ((flushD (doI S a l q)).ev.length ≤ 200000000 ∧ (flushD (doI S a l q)).wrote.length ≤ 200000000000) := by
        have e1 := HG1.out.2.1
        have e2 := HG1.out.2.2
        refine Lib.hid ⟨by simp [flushD, e1]; omega, by simp only [flushD]; omega⟩
      obtain ⟨S3, hS3⟩ : ∃ S3, S3 = flushD (doI S a l q) := ⟨_, rfl⟩
      rw [← hS3] at HG2 H3 hE3 HFin
      clear x0 x1 xl hd3 hm3 hm03 hF3 hd hF2 hS3
      go_upto_region 7 with fail
      try simp only [Act.put, List.setIfInBounds_toArray, List.set_cons_zero, List.set_cons_succ]
      have hak : a < k := by have := HAM.out; omega
      obtain ⟨wz, hz1, hz2, hzg, hzl⟩ := zero256 w3.drew
      have HZ := Lib.hid (And.intro hz1 (And.intro hz2 (And.intro hzg hzl)))
      have HC3 := Lib.hid (And.intro y0 (And.intro y1 yl))
      clear hz1 hz2 hzg hzl
      obtain ⟨Inv, hInv⟩ : ∃ Inv : Done → World → Prop, Inv = Chain2 8 9 (fun wI => wI = w3.drew) (fun x wI => x = .slice (some ⟨w3.heap.size, 0, none⟩) 256 256 ∧ wI = wz) (fun x y wI => DiskAt wI (fun b => F3 b ∨ (wz.heap.size ≤ b ∧ b < wI.heap.size)) d (writeD S3 a (zeros 256)) ∧ Mod F3 wz wI) := ⟨_, rfl⟩
      have HI := Lib.hid hInv
      have hcz : Hid (∀ τ wI, Inv τ wI → τ 9 = none → wI.cell? ⟨j, 0, none⟩ = some (.pointer (some ⟨d, 0, none⟩)) ∧ wI.cell? ⟨j, 1, none⟩ = some (.int .i64 (a : Int)) ∧ j < wI.heap.size) := by
        intro τ wI h h9
        rw [hInv] at h
        have hb : Below w3.drew.heap.size w3.drew wz := (Below.refl _ _).grown HZ.out.2.2.1 (Nat.le_refl _) (by simp)
        rcases h.upto1 h9 with rfl | ⟨x, _, rfl⟩
        · exact HC3.out
        · refine ⟨(hb.cell (p := ⟨j, 0, none⟩) HC3.out.2.2).trans HC3.out.1, (hb.cell (p := ⟨j, 1, none⟩) HC3.out.2.2).trans HC3.out.2.1, ?_⟩
          have h1 := HC3.out.2.2
          have h2 := hb.size
          omega
      have H00 : Hid (Inv Done.none w3.drew) := by rw [hInv]; exact Chain2.start rfl
      clear hInv y0 y1 yl
      refine wp_region_inv (by kernel_rfl) [⟨0, false, [], [9]⟩, ⟨1, false, [], [9]⟩, ⟨2, false, [], [9]⟩, ⟨3, false, [], [9]⟩, ⟨4, false, [], [9]⟩, ⟨5, false, [], [9]⟩, ⟨6, false, [], [9]⟩, ⟨7, false, [], [9]⟩, ⟨8, true, [], [9]⟩, ⟨9, true, [8], []⟩] (by kernel_rfl) Inv (fun _ _ => True) (fun _ => ⟨undef, trivial⟩) H00.out ?_
      iterate 8 (apply WpI.pure; (simp only [List.getElem?_toArray, List.getElem?_cons_succ, List.getElem?_cons_zero]; rfl); (intro τ wI hA hI; obtain ⟨hc0, hc1, hcl⟩ := hcz.out τ wI hI (hA.2 9 (by decide)); go_simp; exact ⟨hI, Is.rfl'⟩); simp only [Act.put, List.setIfInBounds_toArray, List.set_cons_zero, List.set_cons_succ])
      apply WpI.effect; (simp only [List.getElem?_toArray, List.getElem?_cons_succ, List.getElem?_cons_zero]; rfl)
      · intro τ wI hA hn hI
        have h0 := hI
        rw [HI.out] at h0
        have h9 : τ 9 = none := hA.2 9 (by decide)
        have h0 := h0.at0 hn h9
        subst h0
        have H9 := Lib.hid h9
        have hz1 := HZ.out.1
        clear hA hn hI h9
        go_simp
        rw [HI.out]
        exact Chain2.put1 H9.out (by decide) ⟨rfl, rfl⟩
      intro v8 hv8
      clear hv8
      simp only [Act.put, List.setIfInBounds_toArray, List.set_cons_zero, List.set_cons_succ]
      apply WpI.effect; (simp only [List.getElem?_toArray, List.getElem?_cons_succ, List.getElem?_cons_zero]; rfl)
      · intro τ wI hA hn hI
        have h0 := hI
        rw [HI.out] at h0
        have h8 : τ 8 = some v8 := hA.1 8 (by decide)
        obtain ⟨rfl, rfl⟩ := h0.at1 h8 hn
        have H8 := Lib.hid h8
        clear hA hn hI h8 h0
        go_simp
        refine (write_ok wI F3 (fun b => b = w3.heap.size) d k a S3 (some ⟨w3.heap.size, 0, none⟩) 256 (zeros 256) (H3.out.2.1.below ((Below.refl _ _).drew.grown HZ.out.2.2.1 (Nat.le_refl _) (by simp))) hk1 hk HG2.out.ok.now hak HZ.out.2.1 (fun b hb e => by have := H3.out.2.1.lt hb; omega) (by have := hE3.out.1; omega) (by have := hE3.out.2; omega)).mono ?_
        rintro e w' ⟨rfl, k1, k2⟩
        refine ⟨_, rfl, ?_⟩
        rw [HI.out]
        exact Chain2.put2 H8.out (by decide) ⟨k1, k2⟩
      intro v9 hv9
      clear hv9
      refine WpI.done ?_
      intro wI hI
      rw [HI.out] at hI
      obtain ⟨k1, k2⟩ := hI.end_ (by decide)
      have hm0I : Mod F w wI := by
        have hz : Mod F w wz := H3.out.2.2.trans ((Mod.refl F w3).drew.grown HZ.out.2.2.1 (by simp)) (fun _ _ h => h)
        exact hz.trans (k2.mono (fun b _ hb => hb)) (fun b hb h => (H3.out.1 b h).elim id (fun h => by omega))
      have hszI : w.heap.size ≤ wz.heap.size := by
        have h1 := H3.out.2.2.size
        have h2 : w3.heap.size < wz.heap.size := HZ.out.2.2.2
        omega
      obtain ⟨F4, hF4, hd4⟩ : ∃ F4 : Nat → Prop, (∀ b, F4 b → F b ∨ w.heap.size ≤ b) ∧ DiskAt wI F4 d (writeD S3 a (zeros 256)) := ⟨_, fun b hb => hb.elim (fun hb => H3.out.1 b hb) (fun hb => .inr (by omega)), k1⟩
      obtain ⟨z0, z1, zl⟩ := HC.out wI hm0I
      have H4 := Lib.hid (And.intro hF4 (And.intro hd4 hm0I))
      clear k1 k2 hI HI H00 hcz hm0I hszI hF4 hd4 HZ HC3
      go_wp2_with fail
      have hg4 := HG2.out.write a hak (zeros 256) zeros256
      refine (flush_ok wI F4 d k _ H4.out.2.1 hk1 hk hg4.ok.now (by have := hE3.out.1; simp [writeD]; omega)).mono ?_
      rintro e w5 ⟨rfl, hd5, hm5⟩
      have H5 := Lib.hid (And.intro hd5 (H4.out.2.2.trans (hm5.mono (fun b _ hb => hb)) (fun b hb h => (H4.out.1 b h).elim id (fun h => by omega))))
      have hsz5 := H4.out.2.2.size
      clear hd5 hm5 hg4
      go_wp2_with fail
      go_end0
      refine ⟨rfl, ?_, H5.out.2⟩
      rw [HFin.out]
      have hlt5 := fun b => H5.out.1.lt (b := b)
      exact H5.out.1.mono (fun b hb => hb.elim (fun hb => (H4.out.1 b hb).imp id (fun h => ⟨h, hlt5 b (.inl hb)⟩)) (fun hb => .inr ⟨by omega, hb.2⟩)) (fun b hb => hb.elim (fun hb => by have := HD.out.lt hb; have := H5.out.2.size; omega) (fun hb => hb.2))
end Go.Proofs.Ytjdobjcbmmdjeaa
