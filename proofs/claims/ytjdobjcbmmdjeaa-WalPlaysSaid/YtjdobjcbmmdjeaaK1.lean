/- The memory of BlockKeeps' loop, and what is told of it. -/
import Derived.Test.YtjdobjcbmmdjeaaP2
import Derived.Test.YtjdobjcbmmdjeaaA1
namespace Go.Proofs.Ytjdobjcbmmdjeaa
open Go.RowKit

def strs (l : List (List UInt8)) : List Value := l.map bstr
theorem strs_length (l : List (List UInt8)) : (strs l).length = l.length := by simp [strs]
def I64s (l : List Nat) : List Value := l.map fun (n : Nat) => Value.int .i64 (n : Int)
theorem I64s_length (l : List Nat) : (I64s l).length = l.length := by simp [I64s]
def R4 (R : Nat → Value) : List Value := [R 0, R 1, R 2, R 3]
def I4 (f : Nat → Nat) : List Value := R4 fun k => .int .i64 (f k : Int)
theorem R4_get (R : Nat → Value) (i : Nat) (hi : i < 4) : (R4 R)[i]? = some (R i) := by
  obtain rfl | rfl | rfl | rfl : i = 0 ∨ i = 1 ∨ i = 2 ∨ i = 3 := by omega
  all_goals rfl
theorem R4_set (R : Nat → Value) (i : Nat) (hi : i < 4) (v : Value) : (R4 R).set i v = R4 (fun k => if k = i then v else R k) := by
  obtain rfl | rfl | rfl | rfl : i = 0 ∨ i = 1 ∨ i = 2 ∨ i = 3 := by omega
  all_goals rfl
theorem I4_set (f : Nat → Nat) (i : Nat) (hi : i < 4) (n : Nat) : (I4 f).set i (.int .i64 (n : Int)) = I4 (fun k => if k = i then n else f k) := by
  unfold I4
  rw [R4_set _ _ hi]
  congr 1
  funext k
  by_cases e : k = i <;> simp [e]

structure KpSt (w0 wr : World) (g10 g12 d : Nat) (F : Nat → Prop) (S : Dsk) (W : Nat → List (List UInt8)) (R : Nat → Value) (sf : Nat → Nat) (sv : Value) (sl : List Nat) : Prop where
  below : Below w0.heap.size w0 wr
  disk : DiskAt wr F d S
  good : S.Good 4
  wrote : S.wrote.length ≤ 256 * S.ev.length
  fr : ∀ b, F b → w0.heap.size ≤ b ∧ b ≠ g10 ∧ b ≠ g12 ∧ sv.ownBlock ≠ some b ∧ ∀ k, k < 4 → (R k).ownBlock ≠ some b
  l10 : w0.heap.size ≤ g10
  l12 : w0.heap.size ≤ g12
  b10 : Blk wr g10 51 (R4 R)
  b12 : Blk wr g12 3 (I4 sf)
  rows : ∀ k, k < 4 → wr.ownsRow 0 9 1 (R k) (W k).length (strs (W k))
  rfr : ∀ k, k < 4 → ∀ b, (R k).ownBlock = some b → w0.heap.size ≤ b
  apart : ∀ k l, k < 4 → l < 4 → k ≠ l → ∀ b, (R k).ownBlock = some b → (R l).ownBlock ≠ some b
  sure : wr.ownsRow 0 3 1 sv sl.length (I64s sl)
  sfr : ∀ b, sv.ownBlock = some b → w0.heap.size ≤ b ∧ b ≠ g12
section
variable {w0 wr w' : World} {g10 g12 d : Nat} {F G F' : Nat → Prop} {S S' : Dsk} {W : Nat → List (List UInt8)} {R : Nat → Value} {sf : Nat → Nat} {sv : Value} {sl : List Nat}
theorem KpSt.lt (h : KpSt w0 wr g10 g12 d F S W R sf sv sl) {b : Nat} (hb : F b) : b < wr.heap.size := by
  obtain ⟨_, _, _, _, _, _, _, _, _, _, _, _, _, hlt⟩ := h.disk
  exact hlt b hb
/-- what lies outside the loop's own blocks may change -/
theorem KpSt.frame (h : KpSt w0 wr g10 g12 d F S W R sf sv sl) (hm : Mod G wr w') (hG : ∀ b, b < wr.heap.size → G b → w0.heap.size ≤ b ∧ b ≠ g10 ∧ b ≠ g12 ∧ sv.ownBlock ≠ some b ∧ ∀ k, k < 4 → (R k).ownBlock ≠ some b)
    (hd : DiskAt w' F' d S') (hg : S'.Good 4) (hw : S'.wrote.length ≤ 256 * S'.ev.length) (hF : ∀ b, F' b → F b ∨ wr.heap.size ≤ b) : KpSt w0 w' g10 g12 d F' S' W R sf sv sl := by
  have hsz := h.below.size
  have l10 := h.b10.lt
  have l12 := h.b12.lt
  refine ⟨?_, hd, hg, hw, fun b hb => ?_, h.l10, h.l12, h.b10.mod hm (fun e => (hG _ l10 e).2.1 rfl), h.b12.mod hm (fun e => (hG _ l12 e).2.2.1 rfl),
    fun k hk => own_agree (h.rows k hk) (fun b hv => hm.block b (own_lt' (h.rows k hk) hv) (fun e => (hG b (own_lt' (h.rows k hk) hv) e).2.2.2.2 k hk hv)), h.rfr, h.apart,
    own_agree h.sure (fun b hv => hm.block b (own_lt' h.sure hv) (fun e => (hG b (own_lt' h.sure hv) e).2.2.2.1 hv)), h.sfr⟩
  · exact h.below.trans ⟨hm.os, hm.tape, hm.output, by have := hm.size; omega, fun i hi => hm.block i (by omega) (fun e => by have := (hG i (by omega) e).1; omega)⟩
  · rcases hF b hb with hb | hb
    · exact h.fr b hb
    · refine ⟨by omega, by omega, by omega, fun e => ?_, fun k hk e => ?_⟩
      · have := own_lt' h.sure e; omega
      · have := own_lt' (h.rows k hk) e; omega
theorem KpSt.later (h : KpSt w0 wr g10 g12 d F S W R sf sv sl) (hb : Below wr.heap.size wr w') : KpSt w0 w' g10 g12 d F S W R sf sv sl :=
  h.frame (G := fun _ => False) (Mod.of_below hb) (fun _ _ h => h.elim) (h.disk.below hb) h.good h.wrote (fun _ hb => .inl hb)
theorem KpSt.act (h : KpSt w0 wr g10 g12 d F S W R sf sv sl) {g : Nat} {cs : List Value} (hg : Blk wr g 25 cs) (hF : ¬ F g) (hl : w0.heap.size ≤ g) (i : Nat) (u : Value) : KpSt w0 (wr.setCell ⟨g, i, none⟩ u) g10 g12 d F S W R sf sv sl :=
  h.frame (G := fun b => b = g) ((Mod.refl (fun b => b = g) wr).setCell (p := ⟨g, i, none⟩) (fun _ => rfl) u)
    (fun _ _ e => by subst e; exact ⟨hl, hg.ne_ h.b10 (by decide), hg.ne_ h.b12 (by decide), own_blk_ne h.sure hg (by decide), fun k hk => own_blk_ne (h.rows k hk) hg (by decide)⟩)
    (h.disk.setCell (p := ⟨g, _, none⟩) hF _) h.good h.wrote (fun _ hb => .inl hb)
theorem KpSt.step (h : KpSt w0 wr g10 g12 d F S W R sf sv sl) (hm : Mod F wr w') (hd : DiskAt w' (fun b => F b ∨ (wr.heap.size ≤ b ∧ b < w'.heap.size)) d S') (hg : S'.Good 4) (hw : S'.wrote.length ≤ 256 * S'.ev.length) :
    KpSt w0 w' g10 g12 d (fun b => F b ∨ (wr.heap.size ≤ b ∧ b < w'.heap.size)) S' W R sf sv sl :=
  h.frame hm (fun b _ hb => h.fr b hb) hd hg hw (fun _ hb => hb.imp id (fun h => h.1))
theorem KpSt.flush (h : KpSt w0 wr g10 g12 d F S W R sf sv sl) (hm : Mod F wr w') (hd : DiskAt w' (fun b => F b ∨ (wr.heap.size ≤ b ∧ b < w'.heap.size)) d (flushD S)) :
    KpSt w0 w' g10 g12 d (fun b => F b ∨ (wr.heap.size ≤ b ∧ b < w'.heap.size)) (flushD S) W R sf sv sl :=
  h.step hm hd h.good.flush (by have := h.wrote; simp only [flushD, List.length_append, List.length_cons, List.length_nil]; omega)
theorem KpSt.write (h : KpSt w0 wr g10 g12 d F S W R sf sv sl) (hm : Mod F wr w') (n : Nat) (hn : n < 4) (bs : List UInt8) (hb : bs.length = 256) (hd : DiskAt w' (fun b => F b ∨ (wr.heap.size ≤ b ∧ b < w'.heap.size)) d (writeD S n bs)) :
    KpSt w0 w' g10 g12 d (fun b => F b ∨ (wr.heap.size ≤ b ∧ b < w'.heap.size)) (writeD S n bs) W R sf sv sl :=
  h.step hm hd (h.good.write n hn bs hb) (by have := h.wrote; simp only [writeD, List.length_append, List.length_cons, List.length_nil, hb]; omega)
/-- safe[k] = n -/
theorem KpSt.safe (h : KpSt w0 wr g10 g12 d F S W R sf sv sl) (k : Nat) (hk : k < 4) (n : Nat) : KpSt w0 (wr.setCell ⟨g12, k, none⟩ (.int .i64 (n : Int))) g10 g12 d F S W R (fun i => if i = k then n else sf i) sv sl := by
  have hm : Mod (fun b => b = g12) wr (wr.setCell ⟨g12, k, none⟩ (.int .i64 (n : Int))) := (Mod.refl (fun b => b = g12) wr).setCell (p := ⟨g12, k, none⟩) (fun _ => rfl) _
  have hF : ¬ F g12 := fun e => (h.fr _ e).2.2.1 rfl
  refine ⟨hm.below h.below.size (fun i e => by subst e; exact h.l12) |> h.below.trans, h.disk.setCell (p := ⟨g12, k, none⟩) hF _, h.good, h.wrote, h.fr, h.l10, h.l12, h.b10.mod hm (h.b10.ne_ h.b12 (by decide)), ?_, fun k hk => own_mod (h.rows k hk) hm (fun _ hb e => by subst e; exact own_blk_ne (h.rows k hk) h.b12 (by decide) hb),
    h.rfr, h.apart, own_mod h.sure hm (fun b hb e => (h.sfr b hb).2 e), h.sfr⟩
  rw [← I4_set sf k hk n]
  exact h.b12.set_ k _
/-- wrote[n] = append(wrote[n], string(b)) -/
theorem KpSt.row (h : KpSt w0 wr g10 g12 d F S W R sf sv sl) (n : Nat) (hn : n < 4) (bs : List UInt8) {v' : Value} (hg : Mod (fun b => (R n).ownBlock = some b) wr w') (ho : w'.ownsRow 0 9 1 v' ((W n).length + 1) (strs (W n) ++ [bstr bs]))
    (hat : v'.ownBlock = (R n).ownBlock ∨ v'.ownBlock = some wr.heap.size) : KpSt w0 (w'.setCell ⟨g10, n, none⟩ v') g10 g12 d F S (upd W n bs) (fun k => if k = n then v' else R k) sf sv sl := by
  have hsz := h.below.size
  have hm : Mod (fun b => (R n).ownBlock = some b ∨ b = g10) wr (w'.setCell ⟨g10, n, none⟩ v') := (hg.mono (fun _ _ h => .inl h)).setCell (p := ⟨g10, n, none⟩) (fun _ => .inr rfl) _
  have n10 : ∀ k, k < 4 → (R k).ownBlock ≠ some g10 := fun k hk => own_blk_ne (h.rows k hk) h.b10 (by decide)
  have n12 : ∀ k, k < 4 → (R k).ownBlock ≠ some g12 := fun k hk => own_blk_ne (h.rows k hk) h.b12 (by decide)
  have nsv := fun k (hk : k < 4) => own_ne (h.rows k hk) h.sure (by decide)
  have s10 := own_blk_ne h.sure h.b10 (by decide)
  have l10 := h.b10.lt
  have l12 := h.b12.lt
  have hv10 : v'.ownBlock ≠ some g10 := by
    rcases hat with e | e
    · rw [e]; exact n10 n hn
    · rw [e]; intro e; injection e with e; omega
  refine ⟨h.below.trans (hm.below hsz (fun i hi => ?_)), h.disk.mod hm (fun b hb e => ?_), h.good, h.wrote, fun b hb => ?_, h.l10, h.l12, ?_, h.b12.mod hm (fun e => ?_), fun k hk => ?_, fun k hk b hb => ?_, fun k l hk hl hne b hb => ?_,
    own_mod h.sure hm (fun b hb e => ?_), h.sfr⟩
  · rcases hi with hi | hi
    · exact h.rfr n hn i hi
    · subst hi; exact h.l10
  · rcases e with e | e
    · exact (h.fr b hb).2.2.2.2 n hn e
    · exact (h.fr b hb).2.1 e
  · obtain ⟨a1, a2, a3, a4, a5⟩ := h.fr b hb
    refine ⟨a1, a2, a3, a4, fun k hk => ?_⟩
    split
    · rcases hat with e | e
      · rw [e]; exact a5 n hn
      · rw [e]; intro e; injection e with e; have := h.lt hb; omega
    · exact a5 k hk
  · rw [← R4_set R n hn v']
    exact (h.b10.mod hg (fun e => n10 n hn e)).set_ n v'
  · rcases e with e | e
    · exact n12 n hn e
    · exact h.b10.ne_ h.b12 (by decide) e.symm
  · dsimp only [upd]
    by_cases e : k = n
    · subst e
      rw [if_pos rfl, if_pos rfl, List.length_append]
      have := own_setCell ho (p := ⟨g10, k, none⟩) hv10 v'
      simpa [strs] using this
    · rw [if_neg e, if_neg e]
      exact own_mod (h.rows k hk) hm (fun b hb e2 => e2.elim (fun e2 => h.apart k n hk hn e b hb e2) (fun e2 => n10 k hk (by rw [hb, e2])))
  · split at hb
    · rcases hat with e | e
      · exact h.rfr n hn b (by rw [← e]; exact hb)
      · rw [e] at hb; injection hb with hb; omega
    · exact h.rfr k hk b hb
  · have key : ∀ q, q < 4 → q ≠ n → ∀ b, v'.ownBlock = some b → (R q).ownBlock ≠ some b := by
      intro q hq hqn b hb
      rcases hat with e | e
      · rw [e] at hb; exact h.apart n q hn hq (Ne.symm hqn) b hb
      · rw [e] at hb; injection hb with hb; intro e2; have := own_lt' (h.rows q hq) e2; omega
    split at hb
    · rename_i e
      subst e
      rw [if_neg (Ne.symm hne)]
      exact key l hl (Ne.symm hne) b hb
    · split
      · rename_i e1 e2
        intro e3
        exact key k hk e1 b e3 hb
      · exact h.apart k l hk hl hne b hb
  · rcases e with e | e
    · exact nsv n hn b e hb
    · subst e; exact s10 hb
/-- sure = append(sure, safe...) -/
theorem KpSt.app (h : KpSt w0 wr g10 g12 d F S W R sf sv sl) {sv' : Value} (hg : wr.grownBy w' sv.ownBlock) (ho : w'.ownsRow 0 3 1 sv' (sl.length + 4) (I64s sl ++ I4 sf)) (hat : sv'.ownBlock = sv.ownBlock ∨ sv'.ownBlock = some wr.heap.size) :
    KpSt w0 w' g10 g12 d F S W R sf sv' (sl ++ [sf 0, sf 1, sf 2, sf 3]) := by
  have hsz := h.below.size
  have hm : Mod (fun b => sv.ownBlock = some b) wr w' := (Mod.refl _ _).grown hg (fun k hk _ => hk)
  have nsv := fun k (hk : k < 4) => own_ne (h.rows k hk) h.sure (by decide)
  have s10 := own_blk_ne h.sure h.b10 (by decide)
  have l12 := h.b12.lt
  refine ⟨h.below.trans (hm.below hsz (fun i hi => (h.sfr i hi).1)), h.disk.mod hm (fun b hb e => (h.fr b hb).2.2.2.1 e), h.good, h.wrote, fun b hb => ?_, h.l10, h.l12, h.b10.mod hm s10, h.b12.mod hm (fun e => (h.sfr _ e).2 rfl),
    fun k hk => own_mod (h.rows k hk) hm (fun b hb e => nsv k hk b hb e), h.rfr, h.apart, ?_, fun b hb => ?_⟩
  · obtain ⟨a1, a2, a3, a4, a5⟩ := h.fr b hb
    refine ⟨a1, a2, a3, ?_, a5⟩
    rcases hat with e | e
    · rw [e]; exact a4
    · rw [e]; intro e; injection e with e; have := h.lt hb; omega
  · have e1 : (sl ++ [sf 0, sf 1, sf 2, sf 3]).length = sl.length + 4 := by simp
    have e2 : I64s (sl ++ [sf 0, sf 1, sf 2, sf 3]) = I64s sl ++ I4 sf := by simp [I64s, I4, R4]
    rw [e1, e2]; exact ho
  · rcases hat with e | e
    · exact h.sfr b (by rw [← e]; exact hb)
    · rw [e] at hb; injection hb with hb; omega
end

theorem KpSt.drew {w0 wr : World} {g10 g12 d : Nat} {F : Nat → Prop} {S : Dsk} {W : Nat → List (List UInt8)} {R : Nat → Value} {sf : Nat → Nat} {sv : Value} {sl : List Nat} (h : KpSt w0 wr g10 g12 d F S W R sf sv sl) : KpSt w0 wr.drew g10 g12 d F S W R sf sv sl :=
  h.later (Below.refl _ _).drew
/-- the loop's memory at its start -/
theorem kp_start {w wz : World} {d : Nat} {F : Nat → Prop} (hb : Below w.heap.size w wz) (hd : DiskAt wz F d ⟨zeros (4 * 256), zeros (4 * 256), [], []⟩) (hF : ∀ b, F b → w.heap.size ≤ b ∧ b < wz.heap.size) :
    KpSt w ((((((wz.alloc (.cells #[bstr (zeros 256)] 9)).alloc (.cells #[bstr (zeros 256)] 9)).alloc (.cells #[bstr (zeros 256)] 9)).alloc (.cells #[bstr (zeros 256)] 9)).alloc
      (.cells #[.slice (some ⟨wz.heap.size, 0, none⟩) 1 1, .slice (some ⟨wz.heap.size + 1, 0, none⟩) 1 1, .slice (some ⟨wz.heap.size + 1 + 1, 0, none⟩) 1 1, .slice (some ⟨wz.heap.size + 1 + 1 + 1, 0, none⟩) 1 1] 51)).alloc
      (.cells #[.int .i64 0, .int .i64 0, .int .i64 0, .int .i64 0] 3)) (wz.heap.size + 1 + 1 + 1 + 1) (wz.heap.size + 1 + 1 + 1 + 1 + 1) d F ⟨zeros (4 * 256), zeros (4 * 256), [], []⟩ (fun _ => [zeros 256]) (fun k => .slice (some ⟨wz.heap.size + k, 0, none⟩) 1 1) (fun _ => 0) (.slice none 0 0) [] := by
  have hsz := hb.size
  have b0 := Blk.new wz 9 #[bstr (zeros 256)]
  have b1 := Blk.new (wz.alloc (.cells #[bstr (zeros 256)] 9)) 9 #[bstr (zeros 256)]
  have b2 := Blk.new ((wz.alloc (.cells #[bstr (zeros 256)] 9)).alloc (.cells #[bstr (zeros 256)] 9)) 9 #[bstr (zeros 256)]
  have b3 := Blk.new (((wz.alloc (.cells #[bstr (zeros 256)] 9)).alloc (.cells #[bstr (zeros 256)] 9)).alloc (.cells #[bstr (zeros 256)] 9)) 9 #[bstr (zeros 256)]
  have b4 := Blk.new ((((wz.alloc (.cells #[bstr (zeros 256)] 9)).alloc (.cells #[bstr (zeros 256)] 9)).alloc (.cells #[bstr (zeros 256)] 9)).alloc (.cells #[bstr (zeros 256)] 9)) 51
    #[.slice (some ⟨wz.heap.size, 0, none⟩) 1 1, .slice (some ⟨wz.heap.size + 1, 0, none⟩) 1 1, .slice (some ⟨wz.heap.size + 1 + 1, 0, none⟩) 1 1, .slice (some ⟨wz.heap.size + 1 + 1 + 1, 0, none⟩) 1 1]
  have b5 := Blk.new (((((wz.alloc (.cells #[bstr (zeros 256)] 9)).alloc (.cells #[bstr (zeros 256)] 9)).alloc (.cells #[bstr (zeros 256)] 9)).alloc (.cells #[bstr (zeros 256)] 9)).alloc
      (.cells #[.slice (some ⟨wz.heap.size, 0, none⟩) 1 1, .slice (some ⟨wz.heap.size + 1, 0, none⟩) 1 1, .slice (some ⟨wz.heap.size + 1 + 1, 0, none⟩) 1 1, .slice (some ⟨wz.heap.size + 1 + 1 + 1, 0, none⟩) 1 1] 51)) 3
    #[.int .i64 0, .int .i64 0, .int .i64 0, .int .i64 0]
  have hB : Below wz.heap.size wz ((((((wz.alloc (.cells #[bstr (zeros 256)] 9)).alloc (.cells #[bstr (zeros 256)] 9)).alloc (.cells #[bstr (zeros 256)] 9)).alloc (.cells #[bstr (zeros 256)] 9)).alloc
      (.cells #[.slice (some ⟨wz.heap.size, 0, none⟩) 1 1, .slice (some ⟨wz.heap.size + 1, 0, none⟩) 1 1, .slice (some ⟨wz.heap.size + 1 + 1, 0, none⟩) 1 1, .slice (some ⟨wz.heap.size + 1 + 1 + 1, 0, none⟩) 1 1] 51)).alloc
      (.cells #[.int .i64 0, .int .i64 0, .int .i64 0, .int .i64 0] 3)) := by
    refine ((((((Below.refl _ _).alloc (Nat.le_refl _) _).alloc ?_ _).alloc ?_ _).alloc ?_ _).alloc ?_ _).alloc ?_ _ <;> simp only [World.size_alloc] <;> omega
  simp only [World.size_alloc] at b1 b2 b3 b4 b5
  refine ⟨hb.trans (hB.mono hsz), hd.below hB, Dsk.good_new 4, by simp, fun b hb => ?_, by omega, by omega, b4.alloc _, b5, fun k hk => ?_, fun k hk b hb => ?_, fun k l hk hl hne b hb => ?_, own_nil0 _ _ _, fun b hb => ?_⟩
  · have := hF b hb
    refine ⟨this.1, by omega, by omega, by simp [Value.ownBlock], fun k _ e => ?_⟩
    simp only [Value.ownBlock, Option.some.injEq] at e
    omega
  · obtain rfl | rfl | rfl | rfl : k = 0 ∨ k = 1 ∨ k = 2 ∨ k = 3 := by omega
    · exact own_of_blk (((((b0.alloc _).alloc _).alloc _).alloc _).alloc _) 1 1 rfl (by simp [maxLen])
    · exact own_of_blk ((((b1.alloc _).alloc _).alloc _).alloc _) 1 1 rfl (by simp [maxLen])
    · exact own_of_blk (((b2.alloc _).alloc _).alloc _) 1 1 rfl (by simp [maxLen])
    · exact own_of_blk ((b3.alloc _).alloc _) 1 1 rfl (by simp [maxLen])
  · simp only [Value.ownBlock, Option.some.injEq] at hb
    omega
  · simp only [Value.ownBlock, Option.some.injEq] at hb
    intro e
    simp only [Value.ownBlock, Option.some.injEq] at e
    omega
  · simp [Value.ownBlock] at hb

/-- safe: what was written ahead of the last flush -/
def safeOk (S : Dsk) (sf : Nat → Nat) : Prop := ∀ k, k < 4 → sf k = cnt S.ev k (sureK S.ev S.ev.length)
def sureOk (S : Dsk) (sl : List Nat) : Prop := sl.length = 4 * S.ev.length ∧ ∀ i k, i < S.ev.length → k < 4 → sl[4 * i + k]? = some (cnt S.ev k (sureK S.ev (i + 1)))
theorem sure_app {S S' : Dsk} {x : Int × Int × Int} {sl : List Nat} {sf : Nat → Nat} (he : S'.ev = S.ev ++ [x]) (h : sureOk S sl) (hs : safeOk S' sf) : sureOk S' (sl ++ [sf 0, sf 1, sf 2, sf 3]) := by
  obtain ⟨h1, h2⟩ := h
  have hl : S'.ev.length = S.ev.length + 1 := by rw [he]; simp
  refine ⟨by rw [hl]; simp; omega, fun i k hi hk => ?_⟩
  by_cases hlt : i < S.ev.length
  · rw [List.getElem?_append_left (by rw [h1]; omega), h2 i k hlt hk, he, sureK_append _ _ _ (by omega), cnt_append _ _ _ _ (by have := sureK_le S.ev (i + 1); omega)]
  · obtain rfl : i = S.ev.length := by omega
    rw [List.getElem?_append_right (by rw [h1]; omega), h1, show 4 * S.ev.length + k - 4 * S.ev.length = k from by omega, ← hl, ← hs k hk]
    obtain rfl | rfl | rfl | rfl : k = 0 ∨ k = 1 ∨ k = 2 ∨ k = 3 := by omega
    all_goals rfl
theorem safe_flush {S : Dsk} {sf : Nat → Nat} (h : ∀ k, k < 4 → sf k = cnt S.ev k S.ev.length) : safeOk (flushD S) sf := by
  intro k hk
  have e : sureK (flushD S).ev (flushD S).ev.length = S.ev.length := by
    simp only [flushD, List.length_append, List.length_cons, List.length_nil]
    unfold sureK
    simp
  rw [e, h k hk]
  exact (cnt_append _ _ _ _ (Nat.le_refl _)).symm
theorem safe_write {S : Dsk} {sf : Nat → Nat} (h : safeOk S sf) (n : Nat) (bs : List UInt8) : safeOk (writeD S n bs) sf := by
  intro k hk
  have e : sureK (writeD S n bs).ev (writeD S n bs).ev.length = sureK S.ev S.ev.length := by
    simp only [writeD, List.length_append, List.length_cons, List.length_nil]
    show (if _ then _ else sureK _ _) = _
    rw [sureK_append _ _ _ (Nat.le_refl _), if_neg (by simp)]
  rw [e, h k hk]
  exact (cnt_append _ _ _ _ (sureK_le _ _)).symm
/-- the sector behind a power loss is one that was written, not ahead of from -/
theorem keeps_found {S : Dsk} {W : Nat → List (List UInt8)} (h : S.Tells W) (hg : S.Good 4) (keep : List Bool) (n : Nat) (hn : n ≤ S.ev.length) (k : Nat) (hk : k < 4) {sl : List Nat} (hs : sureOk S sl) (from_ : Nat) (hf : (n = 0 ∧ from_ = 0) ∨ (0 < n ∧ sl[4 * (n - 1) + k]? = some from_)) :
    ∃ c, from_ ≤ c ∧ c < (W k).length ∧ (W k)[c]? = some (sec (lossOf S n keep) k) := by
  obtain ⟨c, h1, h2, h3, _⟩ := h.loss hg (sureK S.ev n) keep k hk n hn
  refine ⟨c, ?_, ?_, h3⟩
  · rcases hf with ⟨rfl, rfl⟩ | ⟨h0, h4⟩
    · exact Nat.zero_le _
    · rw [hs.2 (n - 1) k (by omega) hk] at h4
      injection h4 with h4
      rw [show n - 1 + 1 = n from by omega] at h4
      have := sureK_le S.ev n
      rw [show min n (sureK S.ev n) = sureK S.ev n from by omega] at h1
      omega
  · exact (List.getElem?_eq_some_iff.1 h3).1
theorem Dsk.Tells.len {S : Dsk} {W : Nat → List (List UInt8)} (h : S.Tells W) (k : Nat) (hk : k < 4) : 1 ≤ (W k).length ∧ (W k).length ≤ S.ev.length + 1 := by
  have h1 := (h k hk).1
  have : ∀ i, cnt S.ev k i ≤ i := by
    intro i
    induction i with
    | zero => exact Nat.le_refl _
    | succ i ih => unfold cnt; split <;> (try split) <;> omega
  have := this S.ev.length
  omega
end Go.Proofs.Ytjdobjcbmmdjeaa
