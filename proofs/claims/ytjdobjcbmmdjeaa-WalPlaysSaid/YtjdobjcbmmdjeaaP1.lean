/- THE PLAIN LAW of a disk: no program in sight. -/
import Derived.Test.YtjdobjcbmmdjeaaB7
namespace Go.Proofs.Ytjdobjcbmmdjeaa
open Go.RowKit

/-- the first i events, all of them on the disk -/
def applyEv (S : Dsk) : Nat → List UInt8
  | 0 => S.first
  | i + 1 => match S.ev[i]? with
    | some x => if x.2.1 = 2 then applyEv S i else splice (applyEv S i) (x.1.toNat * 256) ((S.wrote.drop x.2.2.toNat).take 256)
    | none => applyEv S i
def flushD (S : Dsk) : Dsk := ⟨S.first, S.now, S.ev ++ [(0, 2, 0)], S.wrote⟩
def writeD (S : Dsk) (n : Nat) (bs : List UInt8) : Dsk := ⟨S.first, splice S.now (n * 256) bs, S.ev ++ [((n : Int), 1, (S.wrote.length : Int))], S.wrote ++ bs⟩

theorem lossK_all (S : Dsk) (L m : Nat) : ∀ i, i ≤ m → ∃ m', m - i ≤ m' ∧ lossK S L (List.replicate m true) i = (applyEv S i, List.replicate m' true) := by
  intro i
  induction i with
  | zero => intro _; exact ⟨m, by omega, rfl⟩
  | succ i ih =>
    intro hi
    obtain ⟨m', h1, h2⟩ := ih (by omega)
    unfold lossK applyEv
    cases S.ev[i]? with
    | none => exact ⟨m', by omega, h2⟩
    | some x =>
      simp only [h2, lossStep]
      by_cases hx : x.2.1 = 2
      · simp only [if_pos hx]; exact ⟨m', by omega, rfl⟩
      · simp only [if_neg hx]
        obtain ⟨q, rfl⟩ : ∃ q, m' = q + 1 := ⟨m' - 1, by omega⟩
        by_cases hL : L ≤ i
        · exact ⟨q, by omega, by simp [hL, List.replicate_succ]⟩
        · exact ⟨q + 1, by omega, by simp [hL]⟩

theorem lossK_none (S : Dsk) (L : Nat) : ∀ i, lossK S L [] i = (applyEv S (min i L), []) := by
  intro i
  induction i with
  | zero => simp [lossK, applyEv]
  | succ i ih =>
    by_cases hL : L ≤ i
    · have e1 : min (i + 1) L = L := by omega
      have e2 : min i L = L := by omega
      rw [e2] at ih
      unfold lossK
      rw [e1]
      cases S.ev[i]? with
      | none => exact ih
      | some x => simp only [ih, lossStep]; by_cases hx : x.2.1 = 2 <;> simp [hx, hL]
    · have e1 : min (i + 1) L = i + 1 := by omega
      have e2 : min i L = i := by omega
      rw [e2] at ih
      rw [e1]
      unfold lossK applyEv
      cases S.ev[i]? with
      | none => exact ih
      | some x => simp only [ih, lossStep]; by_cases hx : x.2.1 = 2 <;> simp [hx, hL]

/-- a disk that Write and Flush made -/
structure Dsk.Good (S : Dsk) (k : Nat) : Prop where
  ok : S.Ok k
  eq : S.now = applyEv S S.ev.length

theorem Dsk.good_new (k : Nat) : Dsk.Good ⟨zeros (k * 256), zeros (k * 256), [], []⟩ k :=
  ⟨⟨by simp [zeros], by simp [zeros], by simp⟩, rfl⟩

theorem applyEv_congr (S T : Dsk) (n : Nat) (hf : S.first = T.first) (h : ∀ i, i < n → S.ev[i]? = T.ev[i]?) (hw : ∀ i x, i < n → S.ev[i]? = some x → x.2.1 ≠ 2 → (S.wrote.drop x.2.2.toNat).take 256 = (T.wrote.drop x.2.2.toNat).take 256) :
    ∀ i, i ≤ n → applyEv S i = applyEv T i := by
  intro i
  induction i with
  | zero => intro _; exact hf
  | succ i ih =>
    intro hi
    unfold applyEv
    rw [← h i (by omega), ih (by omega)]
    cases hx : S.ev[i]? with
    | none => rfl
    | some x =>
      by_cases h2 : x.2.1 = 2
      · simp [h2]
      · simp only [if_neg h2]; rw [hw i x (by omega) hx h2]

theorem applyEv_flush (S : Dsk) : ∀ i, i ≤ S.ev.length → applyEv (flushD S) i = applyEv S i :=
  applyEv_congr _ _ _ rfl (fun i hi => by simp [flushD, List.getElem?_append_left hi]) (fun _ _ _ _ _ => rfl)
theorem applyEv_write {S : Dsk} {k : Nat} (h : S.Ok k) (n : Nat) (bs : List UInt8) : ∀ i, i ≤ S.ev.length → applyEv (writeD S n bs) i = applyEv S i :=
  applyEv_congr _ _ _ rfl (fun i hi => by simp [writeD, List.getElem?_append_left hi]) (fun i x hi hx h2 => by
    simp only [writeD, List.getElem?_append_left hi] at hx
    rcases h.ev i x hx with rfl | ⟨m, f, rfl, _, hf⟩
    · simp at h2
    · simp only [writeD, Int.toNat_natCast]
      rw [List.drop_append_of_le_length (by omega), List.take_append_of_le_length (by rw [List.length_drop]; omega)])

theorem Dsk.Good.flush {S : Dsk} {k : Nat} (h : S.Good k) : (flushD S).Good k := by
  refine ⟨⟨h.ok.first, h.ok.now, fun i x hx => ?_⟩, ?_⟩
  · by_cases hi : i < S.ev.length
    · simp only [flushD, List.getElem?_append_left hi] at hx
      exact h.ok.ev i x hx
    · simp only [flushD] at hx
      rw [List.getElem?_append_right (by omega)] at hx
      have : i - S.ev.length = 0 := by
        have := (List.getElem?_eq_some_iff.1 hx).1
        simp at this; omega
      rw [this] at hx
      simp at hx
      exact .inl hx.symm
  · show S.now = applyEv _ (S.ev ++ [_]).length
    rw [List.length_append]
    show _ = applyEv (flushD S) (S.ev.length + 1)
    unfold applyEv
    rw [applyEv_flush S _ (Nat.le_refl _), ← h.eq]
    simp [flushD]

theorem Dsk.Good.write {S : Dsk} {k : Nat} (h : S.Good k) (n : Nat) (hn : n < k) (bs : List UInt8) (hb : bs.length = 256) : (writeD S n bs).Good k := by
  refine ⟨⟨h.ok.first, ?_, fun i x hx => ?_⟩, ?_⟩
  · show (splice _ _ _).length = _
    rw [length_splice _ _ _ (by rw [hb, h.ok.now]; omega)]
    exact h.ok.now
  · by_cases hi : i < S.ev.length
    · simp only [writeD, List.getElem?_append_left hi] at hx
      rcases h.ok.ev i x hx with rfl | ⟨m, f, rfl, hm, hf⟩
      · exact .inl rfl
      · exact .inr ⟨m, f, rfl, hm, by simp only [writeD, List.length_append]; omega⟩
    · simp only [writeD] at hx
      rw [List.getElem?_append_right (by omega)] at hx
      have : i - S.ev.length = 0 := by
        have := (List.getElem?_eq_some_iff.1 hx).1
        simp at this; omega
      rw [this] at hx
      simp at hx
      exact .inr ⟨n, S.wrote.length, hx.symm, hn, by simp [writeD, hb]⟩
  · show splice _ _ _ = applyEv _ (S.ev ++ [_]).length
    rw [List.length_append]
    show _ = applyEv (writeD S n bs) (S.ev.length + 1)
    unfold applyEv
    rw [applyEv_write h.ok n bs _ (Nat.le_refl _), ← h.eq]
    simp only [writeD]
    rw [List.getElem?_append_right (Nat.le_refl _)]
    simp [← hb]

theorem sureK_append (l m : List (Int × Int × Int)) : ∀ i, i ≤ l.length → sureK (l ++ m) i = sureK l i := by
  intro i
  induction i with
  | zero => intro _; rfl
  | succ i ih => intro hi; unfold sureK; rw [List.getElem?_append_left (by omega), ih (by omega)]
theorem sureK_le (l : List (Int × Int × Int)) : ∀ i, sureK l i ≤ i := by
  intro i
  induction i with
  | zero => exact Nat.le_refl _
  | succ i ih => unfold sureK; split <;> omega

/-- what a power loss leaves where nothing is kept -/
def flushed (S : Dsk) : List UInt8 := applyEv S (sureK S.ev S.ev.length)
theorem flushed_flush (S : Dsk) (k : Nat) (h : S.Good k) : flushed (flushD S) = S.now := by
  unfold flushed
  have : sureK (flushD S).ev (flushD S).ev.length = S.ev.length := by
    simp only [flushD, List.length_append, List.length_cons, List.length_nil]
    unfold sureK
    simp
  rw [this, applyEv_flush S _ (Nat.le_refl _), ← h.eq]
theorem flushed_write (S : Dsk) (k : Nat) (h : S.Good k) (n : Nat) (bs : List UInt8) : flushed (writeD S n bs) = flushed S := by
  unfold flushed
  have : sureK (writeD S n bs).ev (writeD S n bs).ev.length = sureK S.ev S.ev.length := by
    simp only [writeD, List.length_append, List.length_cons, List.length_nil]
    show (if _ then _ else sureK _ _) = _
    rw [sureK_append _ _ _ (Nat.le_refl _), if_neg (by simp)]
  rw [this, applyEv_write h.ok n bs _ (sureK_le _ _)]
theorem lossOf_none (S : Dsk) : lossOf S S.ev.length [] = flushed S := by
  unfold lossOf flushed
  rw [lossK_none]
  have := sureK_le S.ev S.ev.length
  rw [show min S.ev.length (sureK S.ev S.ev.length) = sureK S.ev S.ev.length from by omega]
theorem lossOf_all (S : Dsk) (k m : Nat) (h : S.Good k) (hm : S.ev.length ≤ m) : lossOf S S.ev.length (List.replicate m true) = S.now := by
  unfold lossOf
  obtain ⟨m', _, e⟩ := lossK_all S (sureK S.ev S.ev.length) m S.ev.length hm
  rw [e, h.eq]

/-- sector i -/
def sec (l : List UInt8) (i : Nat) : List UInt8 := (l.drop (i * 256)).take 256
theorem sec_length {l : List UInt8} {k i : Nat} (h : l.length = k * 256) (hi : i < k) : (sec l i).length = 256 := by
  unfold sec; rw [List.length_take, List.length_drop, h]; omega
theorem sec_splice {l bs : List UInt8} {k n i : Nat} (h : l.length = k * 256) (hn : n < k) (hi : i < k) (hb : bs.length = 256) : sec (splice l (n * 256) bs) i = if i = n then bs else sec l i := by
  unfold sec splice
  by_cases e : i = n
  · subst e
    rw [if_pos rfl, List.drop_append_of_le_length (by rw [List.length_take]; omega), List.drop_of_length_le (by rw [List.length_take]; omega)]
    rw [List.nil_append, List.take_append_of_le_length (by omega), List.take_of_length_le (by omega)]
  · rw [if_neg e]
    apply List.ext_getElem?
    intro j
    by_cases hj : j < 256
    · rw [List.getElem?_take, if_pos hj, List.getElem?_drop, List.getElem?_take, if_pos hj, List.getElem?_drop]
      by_cases hlt : i < n
      · rw [List.getElem?_append_left (by rw [List.length_take]; omega), List.getElem?_take, if_pos (by omega)]
      · rw [List.getElem?_append_right (by rw [List.length_take]; omega), List.getElem?_append_right (by rw [List.length_take]; omega), List.getElem?_drop]
        have q : n * 256 + bs.length + (i * 256 + j - (List.take (n * 256) l).length - bs.length) = i * 256 + j := by rw [List.length_take]; omega
        rw [q]
    · rw [List.getElem?_take, if_neg hj, List.getElem?_take, if_neg hj]
end Go.Proofs.Ytjdobjcbmmdjeaa
