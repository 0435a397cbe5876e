import Derived.Test.YtjdobjcbmmdjeaaL1
namespace Go.Proofs.Ytjdobjcbmmdjeaa
open Go.RowKit

def mk4 (j : Nat) : List Value := List.replicate j (bstr (zeros 256)) ++ List.replicate (4 - j) (bstr [])

theorem mk4_set (j : Nat) (hj : j < 4) : (mk4 j).set j (bstr (zeros 256)) = mk4 (j + 1) := by
  obtain rfl | rfl | rfl | rfl : j = 0 ∨ j = 1 ∨ j = 2 ∨ j = 3 := by omega
  all_goals rfl
theorem mk4_get (j : Nat) (hj : j < 4) : (mk4 j)[j]? = some (bstr []) := by
  obtain rfl | rfl | rfl | rfl : j = 0 ∨ j = 1 ∨ j = 2 ∨ j = 3 := by omega
  all_goals rfl

/-- the four sectors' strings -/
def str4 (l : List UInt8) : List Value := [bstr (sec l 0), bstr (sec l 1), bstr (sec l 2), bstr (sec l 3)]
theorem str4_get (l : List UInt8) (i : Nat) (hi : i < 4) : (str4 l)[i]? = some (bstr (sec l i)) := by
  obtain rfl | rfl | rfl | rfl : i = 0 ∨ i = 1 ∨ i = 2 ∨ i = 3 := by omega
  all_goals rfl
theorem str4_set {l bs : List UInt8} {n : Nat} (hl : l.length = 4 * 256) (hn : n < 4) (hb : bs.length = 256) : (str4 l).set n (bstr bs) = str4 (splice l (n * 256) bs) := by
  unfold str4
  rw [sec_splice hl hn (by omega) hb, sec_splice hl hn (by omega) hb, sec_splice hl hn (by omega) hb, sec_splice hl hn (by omega) hb]
  obtain rfl | rfl | rfl | rfl : n = 0 ∨ n = 1 ∨ n = 2 ∨ n = 3 := by omega
  all_goals rfl
theorem sec_zeros (i : Nat) (hi : i < 4) : sec (zeros (4 * 256)) i = zeros 256 := by
  unfold sec zeros
  rw [List.drop_replicate, List.take_replicate, show min 256 (4 * 256 - i * 256) = 256 from by omega]
theorem str4_zeros : str4 (zeros (4 * 256)) = mk4 4 := by
  unfold str4
  rw [sec_zeros 0 (by omega), sec_zeros 1 (by omega), sec_zeros 2 (by omega), sec_zeros 3 (by omega)]
  rfl

theorem flushed_length {S : Dsk} {k : Nat} (h : S.Good k) : (flushed S).length = k * 256 := by
  rw [← lossOf_none]
  exact lossK_length S k _ _ h.ok _
/-- what Read hands back, as it is used -/
theorem NewBytes.out {w w' : World} {A : Option Addr} {c n : Nat} {l : List UInt8} (h : NewBytes w w' (.slice A n c) l) (hl : l.length = n) :
    w'.ownsRow 0 5 1 (.slice A n c) n (B8 l) ∧ (∀ b, (Value.slice A n c).ownBlock = some b → w.heap.size ≤ b) ∧ Below w.heap.size w w' := by
  obtain ⟨_, h2, h3, h4⟩ := h
  rw [hl] at h2
  exact ⟨h2, h3, h4⟩

/-- the memory of BlockApart's loop -/
structure ApSt (w0 wr : World) (g9 g10 d : Nat) (F : Nat → Prop) (S : Dsk) (kv : Value) (j q : Nat) : Prop where
  below : Below w0.heap.size w0 wr
  disk : DiskAt wr F d S
  good : S.Good 4
  ev : S.ev.length = j
  wrote : S.wrote.length ≤ 256 * j
  fr : ∀ b, F b → w0.heap.size ≤ b ∧ b ≠ g9 ∧ b ≠ g10 ∧ kv.ownBlock ≠ some b
  l9 : w0.heap.size ≤ g9
  l10 : w0.heap.size ≤ g10
  ne : g9 ≠ g10
  b9 : Blk wr g9 55 (str4 (flushed S))
  b10 : Blk wr g10 55 (str4 S.now)
  keep : wr.ownsRow 0 4 1 kv q (BL (List.replicate q true))
  kf : ∀ b, kv.ownBlock = some b → w0.heap.size ≤ b
section
variable {w0 wr w' : World} {g9 g10 d : Nat} {F : Nat → Prop} {S : Dsk} {kv : Value} {j q : Nat}
theorem ApSt.later (h : ApSt w0 wr g9 g10 d F S kv j q) (hb : Below wr.heap.size wr w') : ApSt w0 w' g9 g10 d F S kv j q :=
  ⟨h.below.trans (hb.mono h.below.size), h.disk.below hb, h.good, h.ev, h.wrote, h.fr, h.l9, h.l10, h.ne, h.b9.below' hb, h.b10.below' hb, own_below h.keep hb, h.kf⟩
theorem ApSt.lt (h : ApSt w0 wr g9 g10 d F S kv j q) {b : Nat} (hb : F b) : b < wr.heap.size := by
  obtain ⟨_, _, _, _, _, _, _, _, _, _, _, _, _, hlt⟩ := h.disk
  exact hlt b hb
/-- keep = append(keep, true) -/
theorem ApSt.app (h : ApSt w0 wr g9 g10 d F S kv j q) {kv' : Value} (hg : wr.grownBy w' kv.ownBlock) (ho : w'.ownsRow 0 4 1 kv' (q + 1) (BL (List.replicate q true) ++ [.bool true])) (hat : kv'.ownBlock = kv.ownBlock ∨ kv'.ownBlock = some wr.heap.size) :
    ApSt w0 w' g9 g10 d F S kv' j (q + 1) := by
  have hm : Mod (fun b => kv.ownBlock = some b) wr w' := (Mod.refl _ _).grown hg (fun k hk _ => hk)
  have hsz := h.below.size
  refine ⟨h.below.trans (hm.below hsz h.kf), h.disk.mod hm (fun b hb e => (h.fr b hb).2.2.2 e), h.good, h.ev, h.wrote, fun b hb => ?_, h.l9, h.l10, h.ne,
    h.b9.mod hm (own_blk_ne h.keep h.b9 (by decide)), h.b10.mod hm (own_blk_ne h.keep h.b10 (by decide)), ?_, fun b hb => ?_⟩
  · obtain ⟨a1, a2, a3, a4⟩ := h.fr b hb
    refine ⟨a1, a2, a3, ?_⟩
    rcases hat with e | e
    · rw [e]; exact a4
    · rw [e]; intro e; injection e with e; have := h.lt hb; omega
  · have e : BL (List.replicate (q + 1) true) = BL (List.replicate q true) ++ [.bool true] := by rw [List.replicate_succ']; simp [BL]
    rw [e]; exact ho
  · rcases hat with e | e
    · exact h.kf b (by rw [← e]; exact hb)
    · rw [e] at hb; injection hb with hb; omega
/-- what Flush and Write leave -/
theorem ApSt.step (h : ApSt w0 wr g9 g10 d F S kv j q) (hm : Mod F wr w') :
    Below w0.heap.size w0 w' ∧ Blk w' g9 55 (str4 (flushed S)) ∧ Blk w' g10 55 (str4 S.now) ∧ w'.ownsRow 0 4 1 kv q (BL (List.replicate q true)) ∧ (∀ b, (F b ∨ (wr.heap.size ≤ b ∧ b < w'.heap.size)) → w0.heap.size ≤ b ∧ b ≠ g9 ∧ b ≠ g10 ∧ kv.ownBlock ≠ some b) := by
  have hsz := h.below.size
  refine ⟨h.below.trans (hm.below hsz (fun b hb => (h.fr b hb).1)), h.b9.mod hm (fun e => (h.fr _ e).2.1 rfl), h.b10.mod hm (fun e => (h.fr _ e).2.2.1 rfl), own_mod h.keep hm (fun b hb e => (h.fr b e).2.2.2 hb), fun b hb => ?_⟩
  rcases hb with hb | hb
  · exact h.fr b hb
  · have l9 := h.b9.lt
    have l10 := h.b10.lt
    refine ⟨by omega, by omega, by omega, fun e => ?_⟩
    have := own_lt' h.keep e
    omega
theorem DiskAt.setCell {w : World} (h : DiskAt w F d S) {p : Addr} (hp : ¬ F p.block) (u : Value) : DiskAt (w.setCell p u) F d S :=
  h.mod (G := fun b => b = p.block) ((Mod.refl (fun b => b = p.block) w).setCell (p := p) (fun _ => rfl) u) (fun _ hb e => hp (e ▸ hb))
theorem ApSt.act (h : ApSt w0 wr g9 g10 d F S kv j q) {g : Nat} {t : TypeId} {cs : List Value} (hg : Blk wr g t cs) (ht : t ≠ 55) (ht2 : (4 : TypeId) ≠ t) (hF : ¬ F g) (hl : w0.heap.size ≤ g) (i : Nat) (u : Value) : ApSt w0 (wr.setCell ⟨g, i, none⟩ u) g9 g10 d F S kv j q :=
  ⟨h.below.setCell (p := ⟨_, _, none⟩) hl _, h.disk.setCell (p := ⟨_, _, none⟩) hF _, h.good, h.ev, h.wrote, h.fr, h.l9, h.l10, h.ne, h.b9.far (p := ⟨g, _, none⟩) (h.b9.ne_ hg (Ne.symm ht)) _, h.b10.far (p := ⟨g, _, none⟩) (h.b10.ne_ hg (Ne.symm ht)) _,
    own_setCell h.keep (p := ⟨g, _, none⟩) (own_blk_ne h.keep hg ht2) _, h.kf⟩
/-- flushed = now -/
theorem ApSt.flush (h : ApSt w0 wr g9 g10 d F S kv j q) (hm : Mod F wr w') (hd : DiskAt w' (fun b => F b ∨ (wr.heap.size ≤ b ∧ b < w'.heap.size)) d (flushD S)) :
    ApSt w0 ((((w'.setCell ⟨g9, 0, none⟩ (bstr (sec S.now 0))).setCell ⟨g9, 1, none⟩ (bstr (sec S.now 1))).setCell ⟨g9, 2, none⟩ (bstr (sec S.now 2))).setCell ⟨g9, 3, none⟩ (bstr (sec S.now 3))) g9 g10 d
      (fun b => F b ∨ (wr.heap.size ≤ b ∧ b < w'.heap.size)) (flushD S) kv (j + 1) q := by
  obtain ⟨s1, s2, s3, s4, s5⟩ := h.step hm
  have nf : ¬ (F g9 ∨ (wr.heap.size ≤ g9 ∧ g9 < w'.heap.size)) := fun e => (s5 g9 e).2.1 rfl
  have nk := own_blk_ne s4 s2 (by decide)
  refine ⟨?_, ?_, h.good.flush, by simp [flushD, h.ev], by simp only [flushD]; have := h.wrote; omega, s5, h.l9, h.l10, h.ne, ?_, ?_, ?_, h.kf⟩
  · exact (((s1.setCell (p := ⟨_, _, none⟩) h.l9 _).setCell (p := ⟨_, _, none⟩) h.l9 _).setCell (p := ⟨_, _, none⟩) h.l9 _).setCell (p := ⟨_, _, none⟩) h.l9 _
  · exact (((hd.setCell (p := ⟨_, _, none⟩) nf _).setCell (p := ⟨_, _, none⟩) nf _).setCell (p := ⟨_, _, none⟩) nf _).setCell (p := ⟨_, _, none⟩) nf _
  · have := (((s2.set_ 0 (bstr (sec S.now 0))).set_ 1 (bstr (sec S.now 1))).set_ 2 (bstr (sec S.now 2))).set_ 3 (bstr (sec S.now 3))
    rw [flushed_flush S 4 h.good]
    exact this
  · exact (((s3.far (p := ⟨g9, _, none⟩) h.ne.symm _).far (p := ⟨g9, _, none⟩) h.ne.symm _).far (p := ⟨g9, _, none⟩) h.ne.symm _).far (p := ⟨g9, _, none⟩) h.ne.symm _
  · exact own_setCell (own_setCell (own_setCell (own_setCell s4 (p := ⟨g9, _, none⟩) nk _) (p := ⟨g9, _, none⟩) nk _) (p := ⟨g9, _, none⟩) nk _) (p := ⟨g9, _, none⟩) nk _
/-- now[n] = string(b) -/
theorem ApSt.write (h : ApSt w0 wr g9 g10 d F S kv j q) (hm : Mod F wr w') (n : Nat) (hn : n < 4) (bs : List UInt8) (hb : bs.length = 256) (hd : DiskAt w' (fun b => F b ∨ (wr.heap.size ≤ b ∧ b < w'.heap.size)) d (writeD S n bs)) :
    ApSt w0 (w'.setCell ⟨g10, n, none⟩ (bstr bs)) g9 g10 d (fun b => F b ∨ (wr.heap.size ≤ b ∧ b < w'.heap.size)) (writeD S n bs) kv (j + 1) q := by
  obtain ⟨s1, s2, s3, s4, s5⟩ := h.step hm
  have nf : ¬ (F g10 ∨ (wr.heap.size ≤ g10 ∧ g10 < w'.heap.size)) := fun e => (s5 g10 e).2.2.1 rfl
  have nk := own_blk_ne s4 s3 (by decide)
  refine ⟨s1.setCell (p := ⟨_, _, none⟩) h.l10 _, hd.setCell (p := ⟨_, _, none⟩) nf _, h.good.write n hn bs hb, by simp [writeD, h.ev], by simp only [writeD, List.length_append, hb]; have := h.wrote; omega, s5, h.l9, h.l10, h.ne, ?_, ?_, own_setCell s4 (p := ⟨g10, _, none⟩) nk _, h.kf⟩
  · rw [flushed_write S 4 h.good]; exact s2.far (p := ⟨g10, _, none⟩) h.ne _
  · have := s3.set_ n (bstr bs)
    rw [str4_set h.good.ok.now hn hb] at this
    exact this
end

end Go.Proofs.Ytjdobjcbmmdjeaa
