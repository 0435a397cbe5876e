/- THE PLAIN LAW of power losses amid a commit: phases of writes between flushes. No program in sight. -/
import Derived.Test.YtjdobjcbmmdjeaaW14
namespace Go.Proofs.Ytjdobjcbmmdjeaa
open Go.RowKit

/-- writes, one behind the other -/
def wrs (S : Dsk) (ws : List (Nat × List UInt8)) : Dsk := ws.foldl (fun S x => writeD S x.1 x.2) S
theorem wrs_snoc (S : Dsk) (ws : List (Nat × List UInt8)) (x : Nat × List UInt8) : wrs S (ws ++ [x]) = writeD (wrs S ws) x.1 x.2 := by simp [wrs]
def WOk (k : Nat) (ws : List (Nat × List UInt8)) : Prop := ∀ x ∈ ws, x.1 < k ∧ x.2.length = 256
theorem rev_ind {α : Type} {p : List α → Prop} (h0 : p []) (h1 : ∀ l x, p l → p (l ++ [x])) (l : List α) : p l := by
  have : ∀ r : List α, p r.reverse := by
    intro r
    induction r with
    | nil => exact h0
    | cons x r ih => rw [List.reverse_cons]; exact h1 _ _ ih
  have := this l.reverse
  rwa [List.reverse_reverse] at this
theorem WOk.init {k : Nat} {ws : List (Nat × List UInt8)} {x : Nat × List UInt8} (h : WOk k (ws ++ [x])) : WOk k ws ∧ x.1 < k ∧ x.2.length = 256 :=
  ⟨fun y hy => h y (by simp [hy]), h x (by simp)⟩
theorem wrs_good {S : Dsk} {k : Nat} (hg : S.Good k) : ∀ ws : List (Nat × List UInt8), WOk k ws → (wrs S ws).Good k ∧ (wrs S ws).ev.length = S.ev.length + ws.length := by
  refine rev_ind (fun _ => ⟨hg, rfl⟩) (fun ws x ih h => ?_)
  obtain ⟨h1, h2, h3⟩ := h.init
  obtain ⟨i1, i2⟩ := ih h1
  rw [wrs_snoc]
  refine ⟨i1.write _ h2 _ h3, ?_⟩
  simp only [writeD, List.length_append, List.length_cons, List.length_nil]
  omega

/-- T goes on from S -/
def Ext (S T : Dsk) : Prop := T.first = S.first ∧ (∃ e, T.ev = S.ev ++ e) ∧ ∃ x, T.wrote = S.wrote ++ x
theorem Ext.refl (S : Dsk) : Ext S S := ⟨rfl, ⟨[], by simp⟩, [], by simp⟩
theorem Ext.trans {S T U : Dsk} (h : Ext S T) (g : Ext T U) : Ext S U := by
  obtain ⟨a1, ⟨e1, a2⟩, x1, a3⟩ := h
  obtain ⟨b1, ⟨e2, b2⟩, x2, b3⟩ := g
  exact ⟨b1.trans a1, ⟨e1 ++ e2, by rw [b2, a2, List.append_assoc]⟩, x1 ++ x2, by rw [b3, a3, List.append_assoc]⟩
theorem Ext.write (S : Dsk) (n : Nat) (b : List UInt8) : Ext S (writeD S n b) := ⟨rfl, ⟨_, rfl⟩, _, rfl⟩
theorem Ext.flush (S : Dsk) : Ext S (flushD S) := ⟨rfl, ⟨_, rfl⟩, [], by simp [flushD]⟩
theorem Ext.wrs (S : Dsk) : ∀ ws, Ext S (wrs S ws) := rev_ind (Ext.refl S) (fun ws x ih => by rw [wrs_snoc]; exact ih.trans (Ext.write _ _ _))
theorem lossK_ext {S T : Dsk} {k : Nat} (h : Ext S T) (hok : S.Ok k) (L : Nat) (keep : List Bool) : ∀ i, i ≤ S.ev.length → lossK T L keep i = lossK S L keep i := by
  obtain ⟨h1, ⟨e, h2⟩, x, h3⟩ := h
  intro i
  induction i with
  | zero => intro _; simp [lossK, h1]
  | succ i ih =>
    intro hi
    unfold lossK
    rw [h2, List.getElem?_append_left (by omega), ih (by omega)]
    cases hx : S.ev[i]? with
    | none => rfl
    | some y =>
      simp only [lossStep]
      rcases hok.ev i y hx with rfl | ⟨m, f, rfl, _, hf⟩
      · simp
      · simp only [Int.toNat_natCast]
        rw [h3, List.drop_append_of_le_length (by omega), List.take_append_of_le_length (by rw [List.length_drop]; omega)]
theorem lossOf_ext {S T : Dsk} {k : Nat} (h : Ext S T) (hok : S.Ok k) (n : Nat) (hn : n ≤ S.ev.length) (keep : List Bool) : lossOf T n keep = lossOf S n keep := by
  unfold lossOf
  obtain ⟨e, h2⟩ := h.2.1
  rw [lossK_ext h hok _ _ n hn, h2, sureK_append _ _ _ hn]

/-- nothing written behind the last flush -/
def Sure (S : Dsk) : Prop := S.ev.length = 0 ∨ S.ev[S.ev.length - 1]? = some (0, 2, 0)
theorem Sure.flush (S : Dsk) : Sure (flushD S) := by
  right
  simp only [flushD, List.length_append, List.length_cons, List.length_nil]
  rw [List.getElem?_append_right (by omega)]
  simp
theorem Sure.sureK {S : Dsk} (h : Sure S) : sureK S.ev S.ev.length = S.ev.length - 1 := by
  rcases h with h | h
  · rw [h]; rfl
  · obtain ⟨q, hq⟩ : ∃ q, S.ev.length = q + 1 := ⟨S.ev.length - 1, by have := (List.getElem?_eq_some_iff.1 h).1; omega⟩
    rw [hq] at h ⊢
    have h : S.ev[q]? = some (0, 2, 0) := h
    unfold Go.Proofs.Ytjdobjcbmmdjeaa.sureK
    rw [if_pos h]
    rfl
/-- what is sure is not lost -/
theorem lossK_sure (S : Dsk) (L : Nat) (keep : List Bool) : ∀ i, i ≤ L → lossK S L keep i = (applyEv S i, keep) := by
  intro i
  induction i with
  | zero => intro _; rfl
  | succ i ih =>
    intro hi
    unfold lossK applyEv
    cases S.ev[i]? with
    | none => exact ih (by omega)
    | some x =>
      simp only [ih (by omega), lossStep]
      split
      · rfl
      · rw [if_neg (by omega)]
theorem lossK_base {S : Dsk} {k : Nat} (hg : S.Good k) (h : Sure S) (L : Nat) (hL : S.ev.length ≤ L + 1) (keep : List Bool) : lossK S L keep S.ev.length = (S.now, keep) := by
  by_cases hle : S.ev.length ≤ L
  · rw [lossK_sure S L keep _ hle, ← hg.eq]
  · obtain ⟨q, hq⟩ : ∃ q, S.ev.length = q + 1 := ⟨L, by omega⟩
    rcases h with h | h
    · omega
    · rw [hq] at h ⊢
      have e : S.ev[q]? = some (0, 2, 0) := h
      have e2 : lossK S L keep (q + 1) = lossK S L keep q := by
        conv => lhs; unfold lossK
        simp only [e, lossStep]
        rfl
      have e3 : applyEv S (q + 1) = applyEv S q := by
        conv => lhs; unfold applyEv
        simp only [e]
        rfl
      rw [e2, lossK_sure S L keep q (by omega), ← e3, ← hq, ← hg.eq]
theorem lossOf_sure {S : Dsk} {k : Nat} (hg : S.Good k) (h : Sure S) (keep : List Bool) : lossOf S S.ev.length keep = S.now := by
  unfold lossOf
  rw [lossK_base hg h _ (by rw [h.sureK]; omega)]

/-- some of the writes -/
inductive Sub : List (Nat × List UInt8) → List UInt8 → List UInt8 → Prop
  | nil (B) : Sub [] B B
  | skip {ws B R} (x) : Sub ws B R → Sub (ws ++ [x]) B R
  | put {ws B R} (x) : Sub ws B R → Sub (ws ++ [x]) B (splice R (x.1 * 256) x.2)
theorem Sub.all (S : Dsk) : ∀ ws, Sub ws S.now (wrs S ws).now := rev_ind (.nil _) (fun ws x ih => by rw [wrs_snoc]; exact .put x ih)
theorem Sub.sec {k : Nat} {ws : List (Nat × List UInt8)} {B R : List UInt8} (h : Sub ws B R) (hB : B.length = k * 256) (hw : WOk k ws) : R.length = k * 256 ∧ ∀ j, j < k → sec R j = sec B j ∨ ∃ x ∈ ws, x.1 = j ∧ sec R j = x.2 := by
  induction h with
  | nil B => exact ⟨hB, fun j _ => .inl rfl⟩
  | skip x h ih =>
    obtain ⟨h1, h2⟩ := ih hB hw.init.1
    refine ⟨h1, fun j hj => ?_⟩
    rcases h2 j hj with h | ⟨y, hy, h3, h4⟩
    · exact .inl h
    · exact .inr ⟨y, by simp [hy], h3, h4⟩
  | put x h ih =>
    obtain ⟨h1, h2⟩ := ih hB hw.init.1
    obtain ⟨_, hx1, hx2⟩ := hw.init
    refine ⟨by rw [length_splice _ _ _ (by rw [hx2, h1]; omega)]; exact h1, fun j hj => ?_⟩
    rw [sec_splice h1 hx1 hj hx2]
    by_cases e : j = x.1
    · rw [if_pos e]; exact .inr ⟨x, by simp, e.symm, rfl⟩
    · rw [if_neg e]
      rcases h2 j hj with h | ⟨y, hy, h3, h4⟩
      · exact .inl h
      · exact .inr ⟨y, by simp [hy], h3, h4⟩
/-- all of the writes -/
theorem wrs_sec {S : Dsk} {k : Nat} (hg : S.Good k) : ∀ ws : List (Nat × List UInt8), WOk k ws → (ws.map (·.1)).Nodup → ∀ j, j < k → (∀ x ∈ ws, x.1 = j → sec (wrs S ws).now j = x.2) ∧ ((∀ x ∈ ws, x.1 ≠ j) → sec (wrs S ws).now j = sec S.now j) := by
  refine rev_ind (fun _ _ j _ => ⟨by simp, fun _ => rfl⟩) (fun ws x ih h hn j hj => ?_)
  obtain ⟨h1, h2, h3⟩ := h.init
  rw [List.map_append, List.nodup_append] at hn
  obtain ⟨i1, i2⟩ := ih h1 hn.1 j hj
  have hl := (wrs_good hg ws h1).1.ok.now
  rw [wrs_snoc]
  have e : sec (writeD (wrs S ws) x.1 x.2).now j = if j = x.1 then x.2 else sec (wrs S ws).now j := sec_splice hl h2 hj h3
  rw [e]
  refine ⟨fun y hy e2 => ?_, fun h => ?_⟩
  · rw [List.mem_append, List.mem_singleton] at hy
    rcases hy with hy | rfl
    · have hne : j ≠ x.1 := fun e3 => hn.2.2 y.1 (List.mem_map_of_mem hy) x.1 (by simp) (by rw [e2, e3])
      rw [if_neg hne]
      exact i1 y hy e2
    · rw [if_pos e2.symm]
  · have hne : j ≠ x.1 := fun e3 => h x (by simp) e3.symm
    rw [if_neg hne]
    exact i2 (fun y hy => h y (by simp [hy]))

theorem sureK_wrs (S : Dsk) : ∀ ws : List (Nat × List UInt8), sureK (wrs S ws).ev (S.ev.length + ws.length) = sureK S.ev S.ev.length ∧ (wrs S ws).ev.length = S.ev.length + ws.length := by
  refine rev_ind ⟨rfl, rfl⟩ (fun ws x ih => ?_)
  obtain ⟨i1, i2⟩ := ih
  rw [wrs_snoc, List.length_append]
  have e : (writeD (wrs S ws) x.1 x.2).ev = (wrs S ws).ev ++ [((x.1 : Int), 1, ((wrs S ws).wrote.length : Int))] := rfl
  refine ⟨?_, by rw [e, List.length_append, i2]; simp; omega⟩
  rw [e, ← i1, show S.ev.length + (ws.length + [x].length) = (S.ev.length + ws.length) + 1 from by simp; omega, ← i2]
  show (if _ then _ else sureK _ _) = _
  rw [sureK_append _ _ _ (Nat.le_refl _), if_neg (by simp)]
/-- a power loss amid a phase of writes behind a flush -/
theorem loss_all {S : Dsk} {k : Nat} (hg : S.Good k) (hs : Sure S) (keep : List Bool) : ∀ ws : List (Nat × List UInt8), WOk k ws → ∃ R kp, lossK (wrs S ws) (sureK S.ev S.ev.length) keep (S.ev.length + ws.length) = (R, kp) ∧ Sub ws S.now R := by
  refine rev_ind (fun _ => ⟨S.now, keep, lossK_base hg hs _ (by rw [hs.sureK]; omega) keep, .nil _⟩) (fun ws x ih h => ?_)
  obtain ⟨h1, h2, h3⟩ := h.init
  obtain ⟨R, kp, i1, i2⟩ := ih h1
  obtain ⟨g1, g2⟩ := wrs_good hg ws h1
  rw [wrs_snoc, List.length_append, show S.ev.length + (ws.length + [x].length) = (S.ev.length + ws.length) + 1 from by simp; omega]
  have hx : (writeD (wrs S ws) x.1 x.2).ev[S.ev.length + ws.length]? = some ((x.1 : Int), 1, ((wrs S ws).wrote.length : Int)) := by
    rw [← g2]
    simp [writeD]
  have hE : lossK (writeD (wrs S ws) x.1 x.2) (sureK S.ev S.ev.length) keep (S.ev.length + ws.length) = (R, kp) := by
    rw [lossK_ext (Ext.write _ _ _) g1.ok _ _ _ (by omega)]; exact i1
  have hD : (((writeD (wrs S ws) x.1 x.2).wrote.drop ((wrs S ws).wrote.length)).take 256) = x.2 := by
    simp [writeD, ← h3]
  unfold lossK
  rw [hx]
  simp only [hE, lossStep, Int.toNat_natCast, hD]
  rw [if_neg (by decide), if_pos (by rw [hs.sureK]; omega)]
  refine ⟨_, _, rfl, ?_⟩
  split
  · exact .put x i2
  · exact .skip x i2
theorem loss_phase {S T : Dsk} {k : Nat} (hg : S.Good k) (hs : Sure S) (keep : List Bool) (ws : List (Nat × List UInt8)) (hw : WOk k ws) (hT : Ext (wrs S ws) T) (c : Nat) (hc : c ≤ ws.length) : Sub (ws.take c) S.now (lossOf T (S.ev.length + c) keep) := by
  have hw' : WOk k (ws.take c) := fun x hx => hw x (List.mem_of_mem_take hx)
  obtain ⟨g1, g2⟩ := wrs_good hg (ws.take c) hw'
  have hl : (ws.take c).length = c := by rw [List.length_take]; omega
  have hE : Ext (wrs S (ws.take c)) (wrs S ws) := by
    have : wrs S ws = wrs (wrs S (ws.take c)) (ws.drop c) := by unfold wrs; rw [← List.foldl_append, List.take_append_drop]
    rw [this]; exact Ext.wrs _ _
  rw [lossOf_ext (hE.trans hT) g1.ok _ (by omega)]
  unfold lossOf
  have hsK := (sureK_wrs S (ws.take c)).1
  rw [hl] at hsK
  rw [hsK]
  obtain ⟨R, kp, i1, i2⟩ := loss_all hg hs keep (ws.take c) hw'
  rw [hl] at i1
  rw [i1]
  exact i2
theorem loss_flushed {S T : Dsk} {k : Nat} (hg : S.Good k) (keep : List Bool) (hT : Ext (flushD S) T) : lossOf T (S.ev.length + 1) keep = S.now := by
  have hl : (flushD S).ev.length = S.ev.length + 1 := by simp [flushD]
  rw [lossOf_ext hT hg.flush.ok _ (by omega), ← hl, lossOf_sure hg.flush (Sure.flush S)]
  rfl
end Go.Proofs.Ytjdobjcbmmdjeaa
