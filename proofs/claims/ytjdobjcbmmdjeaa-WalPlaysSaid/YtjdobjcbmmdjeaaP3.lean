/- THE PLAIN LAW of BlockPlays: a disk, and the reference's. No program in sight. -/
import Derived.Test.YtjdobjcbmmdjeaaR1
namespace Go.Proofs.Ytjdobjcbmmdjeaa
open Go.RowKit

def evOf (S : Dsk) (x : Int × Int × Int) : Int × List UInt8 := if x.2.1 = 2 then (-1, []) else (x.1, (S.wrote.drop x.2.2.toNat).take 256)
structure Rel (S : Dsk) (R : RDsk) (k : Nat) : Prop where
  fl : R.first.length = k
  first : ∀ i : Nat, i < k → R.first[i]? = some (sec S.first i)
  el : R.ev.length = S.ev.length
  ev : ∀ (i : Nat) (x : Int × Int × Int), S.ev[i]? = some x → R.ev[i]? = some (evOf S x)

theorem rel_new (k : Nat) : Rel ⟨zeros (k * 256), zeros (k * 256), [], []⟩ ⟨List.replicate k (zeros 256), []⟩ k := by
  refine ⟨by simp, fun i hi => ?_, rfl, fun i x h => by simp at h⟩
  rw [List.getElem?_replicate, if_pos hi]
  unfold sec zeros
  rw [List.drop_replicate, List.take_replicate, show min 256 (k * 256 - i * 256) = 256 from by omega]
section
variable {S : Dsk} {R : RDsk} {k : Nat}
theorem Rel.ok (h : Rel S R k) (hg : S.Good k) : R.Ok := by
  intro i x hx
  obtain ⟨y, hy⟩ : ∃ y, S.ev[i]? = some y := ⟨_, List.getElem?_eq_getElem (by have := (List.getElem?_eq_some_iff.1 hx).1; rw [h.el] at this; exact this)⟩
  have h2 := h.ev i y hy
  rw [hx] at h2
  injection h2 with h2
  subst h2
  rcases hg.ok.ev i y hy with rfl | ⟨n, f, rfl, hn, _⟩
  · exact .inl (by simp [evOf])
  · exact .inr ⟨n, by simp [evOf], by rw [h.fl]; exact hn⟩
theorem Rel.flush (h : Rel S R k) : Rel (flushD S) ⟨R.first, R.ev ++ [(-1, [])]⟩ k := by
  refine ⟨h.fl, h.first, by simp [flushD, h.el], fun i x hx => ?_⟩
  simp only [flushD] at hx
  by_cases hi : i < S.ev.length
  · rw [List.getElem?_append_left hi] at hx
    show (R.ev ++ _)[i]? = _
    rw [List.getElem?_append_left (by rw [h.el]; exact hi)]
    exact h.ev i x hx
  · have hl := (List.getElem?_eq_some_iff.1 hx).1
    obtain rfl : i = S.ev.length := by simp at hl; omega
    rw [List.getElem?_append_right (Nat.le_refl _)] at hx
    simp at hx
    subst hx
    show (R.ev ++ _)[_]? = _
    rw [← h.el, List.getElem?_append_right (Nat.le_refl _)]
    simp [evOf]
theorem Rel.write (h : Rel S R k) (hg : S.Good k) (n : Nat) (bs : List UInt8) (hb : bs.length = 256) : Rel (writeD S n bs) ⟨R.first, R.ev ++ [((n : Int), bs)]⟩ k := by
  refine ⟨h.fl, h.first, by simp [writeD, h.el], fun i x hx => ?_⟩
  simp only [writeD] at hx
  by_cases hi : i < S.ev.length
  · rw [List.getElem?_append_left hi] at hx
    show (R.ev ++ _)[i]? = _
    rw [List.getElem?_append_left (by rw [h.el]; exact hi), h.ev i x hx]
    rcases hg.ok.ev i x hx with rfl | ⟨m, f, rfl, _, hf⟩
    · rfl
    · simp only [evOf, writeD, Int.toNat_natCast]
      rw [List.drop_append_of_le_length (by omega), List.take_append_of_le_length (by rw [List.length_drop]; omega)]
  · have hl := (List.getElem?_eq_some_iff.1 hx).1
    obtain rfl : i = S.ev.length := by simp at hl; omega
    rw [List.getElem?_append_right (Nat.le_refl _)] at hx
    simp at hx
    subst hx
    show (R.ev ++ _)[_]? = _
    rw [← h.el, List.getElem?_append_right (Nat.le_refl _)]
    simp [evOf, writeD, ← hb]
theorem Rel.last (h : Rel S R k) (hg : S.Good k) (n : Nat) (hn : n < k) : ∀ i, i ≤ S.ev.length → sec (applyEv S i) n = (match lastEv R.ev n i with | some b => b | none => sec S.first n) := by
  intro i
  induction i with
  | zero => intro _; rfl
  | succ i ih =>
    intro hi
    obtain ⟨x, hx⟩ : ∃ x, S.ev[i]? = some x := ⟨_, List.getElem?_eq_getElem (show i < S.ev.length by omega)⟩
    have ha : applyEv S (i + 1) = if x.2.1 = 2 then applyEv S i else splice (applyEv S i) (x.1.toNat * 256) ((S.wrote.drop x.2.2.toNat).take 256) := by
      show (match S.ev[i]? with | some x => _ | none => _) = _
      rw [hx]
    have hl : lastEv R.ev n (i + 1) = if (evOf S x).1 = (n : Int) then some (evOf S x).2 else lastEv R.ev n i := by
      show (match R.ev[i]? with | some x => _ | none => _) = _
      rw [h.ev i x hx]
    rcases hg.ok.ev i x hx with rfl | ⟨m, f, rfl, hm, hf⟩
    · rw [ha, hl, if_pos rfl, if_neg (show ¬ ((evOf S (0, 2, 0)).1 = (n : Int)) by simp [evOf])]
      exact ih (by omega)
    · have hbl : ((S.wrote.drop f).take 256).length = 256 := by rw [List.length_take, List.length_drop]; omega
      have e2 : evOf S ((m : Int), 1, (f : Int)) = ((m : Int), (S.wrote.drop f).take 256) := by simp [evOf]
      rw [e2] at hl
      rw [ha, hl, if_neg (show ¬ ((1 : Int) = 2) by decide)]
      simp only [Int.toNat_natCast]
      rw [sec_splice (applyEv_length hg.ok i) hm hn hbl]
      by_cases e : n = m
      · subst e; simp
      · rw [if_neg e, if_neg (show ¬ ((m : Int) = (n : Int)) by omega)]
        exact ih (by omega)
theorem Rel.get (h : Rel S R k) (hg : S.Good k) (n : Nat) (hn : n < k) : R.get n = sec S.now n := by
  rw [hg.eq, h.last hg n hn _ (Nat.le_refl _), RDsk.get, h.el, h.first n hn]
  rfl
theorem Rel.sure (h : Rel S R k) (hg : S.Good k) : ∀ i, i ≤ S.ev.length → lastR R.ev i = sureK S.ev i := by
  intro i
  induction i with
  | zero => intro _; rfl
  | succ i ih =>
    intro hi
    obtain ⟨x, hx⟩ : ∃ x, S.ev[i]? = some x := ⟨_, List.getElem?_eq_getElem (show i < S.ev.length by omega)⟩
    have hl : lastR R.ev (i + 1) = if (evOf S x).1 < 0 then i else lastR R.ev i := by
      show (match R.ev[i]? with | some x => _ | none => _) = _
      rw [h.ev i x hx]
    have hs : sureK S.ev (i + 1) = if S.ev[i]? = some (0, 2, 0) then i else sureK S.ev i := rfl
    rw [hl, hs, hx, ih (by omega)]
    rcases hg.ok.ev i x hx with rfl | ⟨m, f, rfl, hm, hf⟩
    · rw [if_pos (by simp [evOf]), if_pos rfl]
    · rw [if_neg (by simp [evOf]), if_neg (by simp)]
theorem Rel.lossK (h : Rel S R k) (hg : S.Good k) (L : Nat) (keep : List Bool) : ∀ i, i ≤ S.ev.length →
    (∀ n, n < k → (refK R L keep i).1[n]? = some (sec (lossK S L keep i).1 n)) ∧ (lossK S L keep i).2 = keep.drop (refK R L keep i).2 := by
  intro i
  induction i with
  | zero => intro _; exact ⟨h.first, rfl⟩
  | succ i ih =>
    intro hi
    obtain ⟨i1, i2⟩ := ih (by omega)
    obtain ⟨x, hx⟩ : ∃ x, S.ev[i]? = some x := ⟨_, List.getElem?_eq_getElem (show i < S.ev.length by omega)⟩
    have hl : Go.Proofs.Ytjdobjcbmmdjeaa.lossK S L keep (i + 1) = lossStep S.wrote L i x (Go.Proofs.Ytjdobjcbmmdjeaa.lossK S L keep i) := by
      show (match S.ev[i]? with | some x => _ | none => _) = _
      rw [hx]
    have hr : refK R L keep (i + 1) = refStep L i keep (evOf S x) (refK R L keep i) := by
      show (match R.ev[i]? with | some x => _ | none => _) = _
      rw [h.ev i x hx]
    rw [hl, hr]
    rcases hg.ok.ev i x hx with rfl | ⟨m, f, rfl, hm, hf⟩
    · have e1 : lossStep S.wrote L i (0, 2, 0) (Go.Proofs.Ytjdobjcbmmdjeaa.lossK S L keep i) = Go.Proofs.Ytjdobjcbmmdjeaa.lossK S L keep i := by simp [lossStep]
      have e2 : refStep L i keep (evOf S (0, 2, 0)) (refK R L keep i) = refK R L keep i := by simp [refStep, evOf]
      rw [e1, e2]
      exact ⟨i1, i2⟩
    · have hbl : ((S.wrote.drop f).take 256).length = 256 := by rw [List.length_take, List.length_drop]; omega
      have e2 : evOf S ((m : Int), 1, (f : Int)) = ((m : Int), (S.wrote.drop f).take 256) := by simp [evOf]
      have key : ∀ n, n < k → ((refK R L keep i).1.set m ((S.wrote.drop f).take 256))[n]? = some (sec (splice (Go.Proofs.Ytjdobjcbmmdjeaa.lossK S L keep i).1 (m * 256) ((S.wrote.drop f).take 256)) n) := by
        intro n hn
        rw [sec_splice (lossK_length S k L keep hg.ok i) hm hn hbl, List.getElem?_set]
        by_cases e : m = n
        · subst e; rw [if_pos rfl, if_pos rfl, if_pos (by rw [refK_length, h.fl]; exact hm)]
        · rw [if_neg e, if_neg (Ne.symm e)]; exact i1 n hn
      rw [e2]
      obtain ⟨a, ha⟩ : ∃ a, a = Go.Proofs.Ytjdobjcbmmdjeaa.lossK S L keep i := ⟨_, rfl⟩
      obtain ⟨b, hb⟩ : ∃ b, b = refK R L keep i := ⟨_, rfl⟩
      rw [← ha] at i1 i2 key ⊢
      rw [← hb] at i1 i2 key ⊢
      have hls : lossStep S.wrote L i ((m : Int), 1, (f : Int)) a = if L ≤ i then (if a.2.head?.getD false = true then splice a.1 (m * 256) ((S.wrote.drop f).take 256) else a.1, a.2.tail) else (splice a.1 (m * 256) ((S.wrote.drop f).take 256), a.2) := by
        simp [lossStep]
      have hrs : refStep L i keep ((m : Int), (S.wrote.drop f).take 256) b = if i < L then (b.1.set m ((S.wrote.drop f).take 256), b.2) else (if (keep[b.2]?).getD false = true then b.1.set m ((S.wrote.drop f).take 256) else b.1, b.2 + 1) := by
        unfold refStep refPick
        rw [if_neg (show ¬ ((m : Int) < 0) by omega)]
        split <;> simp
      rw [hls, hrs]
      by_cases hL : L ≤ i
      · rw [if_pos hL, if_neg (by omega), i2, List.head?_drop, List.tail_drop]
        refine ⟨fun n hn => ?_, rfl⟩
        by_cases hk : (keep[b.2]?).getD false = true
        · rw [if_pos hk, if_pos hk]; exact key n hn
        · rw [if_neg hk, if_neg hk]; exact i1 n hn
      · rw [if_neg hL, if_pos (by omega)]
        exact ⟨key, i2⟩
theorem Rel.loss (h : Rel S R k) (hg : S.Good k) (m : Nat) (hm : m ≤ S.ev.length) (keep : List Bool) :
    Rel ⟨lossOf S m keep, lossOf S m keep, [], []⟩ ⟨R.loss m keep, []⟩ k ∧ Dsk.Good ⟨lossOf S m keep, lossOf S m keep, [], []⟩ k := by
  have hl := lossK_length S k (sureK S.ev m) keep hg.ok m
  refine ⟨⟨?_, fun i hi => ?_, rfl, fun i x hx => by simp at hx⟩, ⟨⟨hl, hl, fun i x hx => by simp at hx⟩, rfl⟩⟩
  · show (refK _ _ _ _).1.length = k
    rw [refK_length, h.fl]
  · show (refK R (lastR R.ev m) keep m).1[i]? = _
    rw [h.sure hg m hm]
    exact (h.lossK hg _ keep m hm).1 i hi
end
end Go.Proofs.Ytjdobjcbmmdjeaa
