/- THE PLAIN LAW of BlockKeeps: what a power loss leaves in a sector was written there. No program in sight. -/
import Derived.Test.YtjdobjcbmmdjeaaP1
namespace Go.Proofs.Ytjdobjcbmmdjeaa
open Go.RowKit

/-- is event x a write to sector k? -/
def hits (k : Nat) (x : Int × Int × Int) : Bool := x.2.1 != 2 && x.1 == (k : Int)
/-- the writes to sector k among the first i events -/
def cnt (l : List (Int × Int × Int)) (k : Nat) : Nat → Nat
  | 0 => 0
  | i + 1 => cnt l k i + (match l[i]? with | some x => if hits k x then 1 else 0 | none => 0)
theorem cnt_append (l m : List (Int × Int × Int)) (k : Nat) : ∀ i, i ≤ l.length → cnt (l ++ m) k i = cnt l k i := by
  intro i
  induction i with
  | zero => intro _; rfl
  | succ i ih => intro hi; unfold cnt; rw [List.getElem?_append_left (by omega), ih (by omega)]
theorem cnt_last (l : List (Int × Int × Int)) (x : Int × Int × Int) (k : Nat) : cnt (l ++ [x]) k (l.length + 1) = cnt l k l.length + (if hits k x then 1 else 0) := by
  unfold cnt
  rw [cnt_append _ _ _ _ (Nat.le_refl _), List.getElem?_append_right (Nat.le_refl _)]
  simp
  cases l with
  | nil => rfl
  | cons y l => rfl
theorem cnt_mono (l : List (Int × Int × Int)) (k : Nat) : ∀ i j, i ≤ j → cnt l k i ≤ cnt l k j := by
  intro i j
  induction j with
  | zero => intro h; obtain rfl : i = 0 := by omega
            exact Nat.le_refl _
  | succ j ih =>
    intro h
    by_cases e : i = j + 1
    · subst e; exact Nat.le_refl _
    · have := ih (by omega)
      show _ ≤ cnt l k j + _
      omega

/-- W k: what was written to sector k, behind what it was at first -/
def Dsk.Tells (S : Dsk) (W : Nat → List (List UInt8)) : Prop :=
  ∀ k, k < 4 → (W k).length = cnt S.ev k S.ev.length + 1 ∧ ∀ i, i ≤ S.ev.length → (W k)[cnt S.ev k i]? = some (sec (applyEv S i) k)

theorem tells_new : Dsk.Tells ⟨zeros (4 * 256), zeros (4 * 256), [], []⟩ (fun _ => [zeros 256]) := by
  intro k hk
  refine ⟨rfl, fun i hi => ?_⟩
  obtain rfl : i = 0 := by simpa using hi
  show some (zeros 256) = some (sec (zeros (4 * 256)) k)
  unfold sec zeros
  rw [List.drop_replicate, List.take_replicate, show min 256 (4 * 256 - k * 256) = 256 from by omega]

theorem Dsk.Tells.flush {S : Dsk} {W : Nat → List (List UInt8)} (h : S.Tells W) : (flushD S).Tells W := by
  intro k hk
  obtain ⟨h1, h2⟩ := h k hk
  have e : cnt (flushD S).ev k (flushD S).ev.length = cnt S.ev k S.ev.length := by
    simp only [flushD, List.length_append, List.length_cons, List.length_nil]
    rw [cnt_last]; rfl
  refine ⟨by rw [e]; exact h1, fun i hi => ?_⟩
  simp only [flushD, List.length_append, List.length_cons, List.length_nil] at hi
  by_cases hl : i ≤ S.ev.length
  · rw [applyEv_flush S i hl]
    have : cnt (flushD S).ev k i = cnt S.ev k i := cnt_append _ _ _ _ hl
    rw [this]; exact h2 i hl
  · obtain rfl : i = S.ev.length + 1 := by omega
    have e1 : cnt (flushD S).ev k (S.ev.length + 1) = cnt S.ev k S.ev.length := by
      have := cnt_last S.ev (0, 2, 0) k
      exact this
    have e2 : applyEv (flushD S) (S.ev.length + 1) = applyEv S S.ev.length := by
      have : applyEv (flushD S) (S.ev.length + 1) = applyEv (flushD S) S.ev.length := by
        show (match (flushD S).ev[S.ev.length]? with | some x => _ | none => _) = _
        simp [flushD]
      rw [this, applyEv_flush S _ (Nat.le_refl _)]
    rw [e1, e2]
    exact h2 _ (Nat.le_refl _)

def upd (W : Nat → List (List UInt8)) (n : Nat) (bs : List UInt8) : Nat → List (List UInt8) := fun k => if k = n then W k ++ [bs] else W k

theorem applyEv_length {S : Dsk} {k : Nat} (h : S.Ok k) : ∀ i, (applyEv S i).length = k * 256 := by
  intro i
  have := lossK_length S k i [] h i
  rw [lossK_none, show min i i = i from by omega] at this
  exact this

theorem applyEv_write_last {S : Dsk} {k : Nat} (h : S.Ok k) (n : Nat) (bs : List UInt8) (hb : bs.length = 256) : applyEv (writeD S n bs) (S.ev.length + 1) = splice (applyEv S S.ev.length) (n * 256) bs := by
  have e : (writeD S n bs).ev[S.ev.length]? = some ((n : Int), 1, (S.wrote.length : Int)) := by simp [writeD]
  have : applyEv (writeD S n bs) (S.ev.length + 1) = splice (applyEv (writeD S n bs) S.ev.length) (n * 256) bs := by
    show (match (writeD S n bs).ev[S.ev.length]? with | some x => _ | none => _) = _
    rw [e]
    simp [writeD, ← hb]
  rw [this, applyEv_write h n bs _ (Nat.le_refl _)]

theorem Dsk.Tells.write {S : Dsk} {W : Nat → List (List UInt8)} (h : S.Tells W) (hg : S.Good 4) (n : Nat) (hn : n < 4) (bs : List UInt8) (hb : bs.length = 256) : (writeD S n bs).Tells (upd W n bs) := by
  intro k hk
  obtain ⟨h1, h2⟩ := h k hk
  have ec : cnt (writeD S n bs).ev k (S.ev.length + 1) = cnt S.ev k S.ev.length + (if k = n then 1 else 0) := by
    have := cnt_last S.ev ((n : Int), 1, (S.wrote.length : Int)) k
    refine this.trans ?_
    by_cases e : k = n
    · subst e; simp [hits]
    · have : ¬ ((n : Int) = (k : Int)) := by omega
      simp [hits, e, this]
  have el : (writeD S n bs).ev.length = S.ev.length + 1 := by simp [writeD]
  refine ⟨?_, fun i hi => ?_⟩
  · rw [el, ec]
    unfold upd
    by_cases e : k = n
    · simp [e]; subst e; omega
    · simp [e]; omega
  · rw [el] at hi
    by_cases hl : i ≤ S.ev.length
    · have e0 : cnt (writeD S n bs).ev k i = cnt S.ev k i := cnt_append _ _ _ _ hl
      rw [e0, applyEv_write hg.ok n bs i hl]
      have := h2 i hl
      unfold upd
      split
      · rw [List.getElem?_append_left (by rw [h1]; have := cnt_mono S.ev k i _ hl; omega)]; exact this
      · exact this
    · obtain rfl : i = S.ev.length + 1 := by omega
      rw [ec, applyEv_write_last hg.ok n bs hb, sec_splice (applyEv_length hg.ok _) hn hk hb]
      unfold upd
      by_cases e : k = n
      · rw [if_pos e, if_pos e, if_pos e, List.getElem?_append_right (by rw [h1]; exact Nat.le_refl _), h1, Nat.sub_self]; rfl
      · rw [if_neg e, if_neg e, if_neg e, Nat.add_zero]; exact h2 _ (Nat.le_refl _)

/-- behind a power loss each sector is what was written there, not ahead of the last flush -/
theorem Dsk.Tells.loss {S : Dsk} {W : Nat → List (List UInt8)} (h : S.Tells W) (hg : S.Good 4) (L : Nat) (keep : List Bool) (k : Nat) (hk : k < 4) : ∀ i, i ≤ S.ev.length →
    ∃ c, cnt S.ev k (min i L) ≤ c ∧ c ≤ cnt S.ev k i ∧ (W k)[c]? = some (sec (lossK S L keep i).1 k) ∧ (i ≤ L → (lossK S L keep i).1 = applyEv S i) := by
  intro i
  induction i with
  | zero =>
    intro _
    exact ⟨0, by simp [cnt], Nat.le_refl _, (h k hk).2 0 (Nat.zero_le _), fun _ => rfl⟩
  | succ i ih =>
    intro hi
    obtain ⟨c, c1, c2, c3, c4⟩ := ih (by omega)
    obtain ⟨x, hx⟩ : ∃ x, S.ev[i]? = some x := ⟨_, List.getElem?_eq_getElem (show i < S.ev.length by omega)⟩
    have hl : lossK S L keep (i + 1) = lossStep S.wrote L i x (lossK S L keep i) := by
      show (match S.ev[i]? with | some x => _ | none => _) = _
      rw [hx]
    have ha : applyEv S (i + 1) = if x.2.1 = 2 then applyEv S i else splice (applyEv S i) (x.1.toNat * 256) ((S.wrote.drop x.2.2.toNat).take 256) := by
      show (match S.ev[i]? with | some x => _ | none => _) = _
      rw [hx]
    by_cases hL : i + 1 ≤ L
    · have e : (lossK S L keep (i + 1)).1 = applyEv S (i + 1) := by
        rw [hl, ha]
        unfold lossStep
        rw [c4 (by omega)]
        split
        · exact c4 (by omega)
        · rw [if_neg (by omega)]
      refine ⟨cnt S.ev k (i + 1), by rw [show min (i + 1) L = i + 1 from by omega]; exact Nat.le_refl _, Nat.le_refl _, ?_, fun _ => e⟩
      rw [e]; exact (h k hk).2 _ hi
    · have em : cnt S.ev k (min (i + 1) L) ≤ cnt S.ev k (min i L) := by rw [show min (i + 1) L = min i L from by omega]; exact Nat.le_refl _
      have old : ∀ st, st = (lossK S L keep i).1 → ∃ c, cnt S.ev k (min (i + 1) L) ≤ c ∧ c ≤ cnt S.ev k (i + 1) ∧ (W k)[c]? = some (sec st k) := by
        intro st hst
        subst hst
        exact ⟨c, by omega, Nat.le_trans c2 (cnt_mono _ _ _ _ (Nat.le_succ i)), c3⟩
      have new : ∀ st, (x.2.1 ≠ 2) → st = splice (lossK S L keep i).1 (x.1.toNat * 256) ((S.wrote.drop x.2.2.toNat).take 256) → ∃ c, cnt S.ev k (min (i + 1) L) ≤ c ∧ c ≤ cnt S.ev k (i + 1) ∧ (W k)[c]? = some (sec st k) := by
        intro st h2 hst
        subst hst
        rcases hg.ok.ev i x hx with rfl | ⟨m, f, rfl, hm, hf⟩
        · simp at h2
        · have hb : ((S.wrote.drop f).take 256).length = 256 := by rw [List.length_take, List.length_drop]; omega
          simp only [Int.toNat_natCast]
          rw [sec_splice (lossK_length S 4 L keep hg.ok i) hm hk hb]
          by_cases e : k = m
          · rw [if_pos e]
            refine ⟨cnt S.ev k (i + 1), cnt_mono _ _ _ _ (by omega), Nat.le_refl _, ?_⟩
            rw [(h k hk).2 _ hi, ha, if_neg (by simp)]
            simp only [Int.toNat_natCast]
            rw [sec_splice (applyEv_length hg.ok _) hm hk hb, if_pos e]
          · rw [if_neg e]
            exact ⟨c, by omega, Nat.le_trans c2 (cnt_mono _ _ _ _ (Nat.le_succ i)), c3⟩
      have : ∃ c, cnt S.ev k (min (i + 1) L) ≤ c ∧ c ≤ cnt S.ev k (i + 1) ∧ (W k)[c]? = some (sec (lossK S L keep (i + 1)).1 k) := by
        rw [hl]
        unfold lossStep
        split
        · exact old _ rfl
        · rename_i h2
          split
          · dsimp only
            split
            · exact new _ h2 rfl
            · exact old _ rfl
          · exact new _ h2 rfl
      obtain ⟨c, d1, d2, d3⟩ := this
      exact ⟨c, d1, d2, d3, fun h => absurd h hL⟩
end Go.Proofs.Ytjdobjcbmmdjeaa
