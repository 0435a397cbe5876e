/- WalWhole: what is sure behind each event; the memory of the law's loop. -/
import Derived.Test.YtjdobjcbmmdjeaaW15
namespace Go.Proofs.Ytjdobjcbmmdjeaa
open Go.RowKit

/-- states, and behind how many events each is sure -/
structure Hist (S : Dsk) (sts : List ByteArray) (ends : List Nat) : Prop where
  good : S.Good 12
  sure : Sure S
  zero : sec S.now 0 = zeros 256
  len : sts.length = ends.length
  pos : 1 ≤ ends.length
  last : ends[ends.length - 1]? = some S.ev.length
  lastS : sts[ends.length - 1]? = some (shw S.now 8)
  first : ends[0]? = some 0
  mono : ∀ i a b, ends[i]? = some a → ends[i + 1]? = some b → a ≤ b
  tells : ∀ k a, ends[k]? = some a → ∀ cut keep, a ≤ cut → cut ≤ S.ev.length → (∀ b, ends[k + 1]? = some b → cut < b) → sts[k]? = some (shq (lossOf S cut keep)) ∨ sts[k + 1]? = some (shq (lossOf S cut keep))
theorem mono_le {ends : List Nat} (h : ∀ i a b, ends[i]? = some a → ends[i + 1]? = some b → a ≤ b) : ∀ (j i a b : Nat), ends[i]? = some a → ends[i + j]? = some b → a ≤ b := by
  intro j
  induction j with
  | zero => intro i a b ha hb; rw [Nat.add_zero, ha] at hb; injection hb with hb; omega
  | succ j ih =>
    intro i a b ha hb
    have hlt := (List.getElem?_eq_some_iff.1 hb).1
    have e : ends[i + j]? = some (ends[i + j]'(by omega)) := List.getElem?_eq_getElem (by omega)
    have h1 := ih i a _ ha e
    have h2 := h (i + j) _ b e hb
    omega
theorem Hist.le {S : Dsk} {sts : List ByteArray} {ends : List Nat} (h : Hist S sts ends) {k a : Nat} (hk : ends[k]? = some a) : a ≤ S.ev.length := by
  have hlt := (List.getElem?_eq_some_iff.1 hk).1
  exact mono_le h.mono (ends.length - 1 - k) k a _ hk (by rw [show k + (ends.length - 1 - k) = ends.length - 1 from by omega]; exact h.last)
theorem hist_new : Hist ⟨zeros (12 * 256), zeros (12 * 256), [], []⟩ [shw (zeros (12 * 256)) 8] [0] := by
  have z0 : sec (zeros (12 * 256)) 0 = zeros 256 := by
    unfold sec zeros
    rw [List.drop_replicate, List.take_replicate, show min 256 (12 * 256 - 0 * 256) = 256 from by omega]
  refine ⟨Dsk.good_new 12, .inl rfl, z0, rfl, Nat.le_refl _, rfl, rfl, rfl, fun i a b h1 h2 => ?_, fun k a hk cut keep h1 h2 h3 => ?_⟩
  · simp at h2
  · have hlt := (List.getElem?_eq_some_iff.1 hk).1
    obtain rfl : k = 0 := by simpa using hlt
    obtain rfl : cut = 0 := by simpa using h2
    left
    have e : lossOf ⟨zeros (12 * 256), zeros (12 * 256), [], []⟩ 0 keep = zeros (12 * 256) := rfl
    rw [e, shq_no (by rw [z0]; exact zeros_std _ _ _)]
    rfl
/-- Commit -/
theorem Hist.commit {S : Dsk} {sts : List ByteArray} {ends : List Nat} (h : Hist S sts ends) {J : Jr} (hat : J.at_ = 0) (hJ : J.put ≠ [] → CmOk J.put J.keys) : Hist (cmDsk S J) (sts ++ [shw (cmDsk S J).now 8]) (ends ++ [(cmDsk S J).ev.length]) := by
  have hfacts : (cmDsk S J).Good 12 ∧ Sure (cmDsk S J) ∧ Ext S (cmDsk S J) ∧ sec (cmDsk S J).now 0 = zeros 256 ∧
      ∀ cut keep, S.ev.length ≤ cut → cut < (cmDsk S J).ev.length → shq (lossOf (cmDsk S J) cut keep) = shw S.now 8 ∨ shq (lossOf (cmDsk S J) cut keep) = shw (cmDsk S J).now 8 := by
    unfold cmDsk
    split
    · exact ⟨h.good, h.sure, Ext.refl _, h.zero, fun cut keep h1 h2 => by omega⟩
    · rename_i hne
      exact mid_ok h.good h.sure h.zero hat (hJ hne)
  obtain ⟨T, hT⟩ : ∃ T, T = cmDsk S J := ⟨_, rfl⟩
  rw [← hT] at hfacts ⊢
  obtain ⟨f1, f2, f3, f4, f5⟩ := hfacts
  have hle : S.ev.length ≤ T.ev.length := by obtain ⟨e, he⟩ := f3.2.1; rw [he, List.length_append]; omega
  have hl := h.len
  have hp := h.pos
  refine ⟨f1, f2, f4, by simp [hl], by simp, by simp, by simp [← hl], by rw [List.getElem?_append_left (by omega)]; exact h.first, fun i a b h1 h2 => ?_, fun k a hk cut keep h1 h2 h3 => ?_⟩
  · have hlt := (List.getElem?_eq_some_iff.1 h2).1
    simp only [List.length_append, List.length_cons, List.length_nil] at hlt
    rw [List.getElem?_append_left (by omega)] at h1
    by_cases q : i + 1 < ends.length
    · rw [List.getElem?_append_left q] at h2
      exact h.mono i a b h1 h2
    · rw [List.getElem?_append_right (by omega), show i + 1 - ends.length = 0 from by omega] at h2
      simp at h2
      subst h2
      have := h.le h1
      omega
  · have hlt := (List.getElem?_eq_some_iff.1 hk).1
    simp only [List.length_append, List.length_cons, List.length_nil] at hlt
    by_cases q1 : k + 1 < ends.length
    · rw [List.getElem?_append_left (by omega)] at hk
      have e : ends[k + 1]? = some ends[k + 1] := List.getElem?_eq_getElem q1
      have h4 := h3 _ (by rw [List.getElem?_append_left q1]; exact e)
      have h5 := h.le e
      rw [lossOf_ext f3 h.good.ok cut (by omega)]
      rw [List.getElem?_append_left (by omega), List.getElem?_append_left (by omega)]
      exact h.tells k a hk cut keep h1 (by omega) (fun b hb => h3 b (by rw [List.getElem?_append_left q1]; exact hb))
    · by_cases q2 : k + 1 = ends.length
      · rw [List.getElem?_append_left (by omega)] at hk
        have hk2 := h.last
        rw [show ends.length - 1 = k from by omega] at hk2
        rw [hk2] at hk
        injection hk with hk
        have h4 := h3 T.ev.length (by rw [List.getElem?_append_right (by omega), show k + 1 - ends.length = 0 from by omega]; rfl)
        rcases f5 cut keep (by omega) h4 with e | e
        · left
          rw [e, List.getElem?_append_left (by omega), show k = ends.length - 1 from by omega]
          exact h.lastS
        · right
          rw [e, List.getElem?_append_right (by omega), show k + 1 - sts.length = 0 from by omega]
          rfl
      · rw [List.getElem?_append_right (by omega), show k - ends.length = 0 from by omega] at hk
        simp at hk
        subst hk
        obtain rfl : cut = T.ev.length := by omega
        left
        rw [lossOf_sure f1 f2 keep, shq_no (by rw [f4]; exact zeros_std _ _ _), List.getElem?_append_right (by omega), show k - sts.length = 0 from by omega]
        rfl
theorem keys_ok {J : Jr} (hn : (J.put.map (·.1)).Nodup) (hne : J.put ≠ []) (h3 : J.put.length ≤ 3) (hk : ∀ n ∈ J.put.map (·.1), 4 ≤ n ∧ n < (12 : Int)) (hb : ∀ n b, mget J.put n = some b → b.length = 256) : CmOk J.put J.keys := by
  have hl := J.keys_length
  have hsorted : (J.keys).Pairwise fun a b => a < b := by
    have h1 : (J.keys).Pairwise fun a b => decide (a ≤ b) = true := List.pairwise_mergeSort (by intro a b c; simp only [decide_eq_true_eq]; omega) (by intro a b; simp only [Bool.or_eq_true, decide_eq_true_eq]; omega) _
    have h2 : (J.keys).Nodup := (List.mergeSort_perm _ _).nodup_iff.2 hn
    refine List.Pairwise.imp₂ (fun a b h1 h2 => ?_) h1 h2
    simp only [decide_eq_true_eq] at h1
    omega
  refine ⟨by rw [hl]; exact List.length_pos_iff.2 hne, by omega, fun n h => hk n (keys_get h), fun i a b ha hb => ?_, fun n h => ?_⟩
  · obtain ⟨i1, e1⟩ := List.getElem?_eq_some_iff.1 ha
    obtain ⟨i2, e2⟩ := List.getElem?_eq_some_iff.1 hb
    rw [← e1, ← e2]
    exact (List.pairwise_iff_getElem.1 hsorted) i (i + 1) i1 i2 (by omega)
  · cases hg : mget J.put n with
    | none => exact absurd (keys_get h) (mget_none.1 hg)
    | some b => exact ⟨b, rfl, hb n b hg⟩
theorem mput_nodup {V : Type} {P : List (Int × V)} (h : (P.map (·.1)).Nodup) (n : Int) (b : V) : ((mput P n b).map (·.1)).Nodup := by
  cases hg : mget P n with
  | none =>
    rw [mput_new hg, List.map_append, List.nodup_append]
    refine ⟨h, by simp, fun x hx y hy e => ?_⟩
    simp at hy
    subst hy
    exact mget_none.1 hg (by rw [← e]; exact hx)
  | some v => rw [mput_keys hg]; exact h

def bas (l : List ByteArray) : List Value := l.map Value.string
def nts (l : List Nat) : List Value := l.map fun (n : Nat) => Value.int .i64 n
structure WhSt (w0 wr : World) (d j : Nat) (F FJ : Nat → Prop) (S : Dsk) (J : Jr) (vs ve : Value) (sts : List ByteArray) (ends : List Nat) : Prop where
  sh : ShSt w0 wr d j F FJ S J
  nod : (J.put.map (·.1)).Nodup
  os : wr.ownsRow 0 9 1 vs sts.length (bas sts)
  oe : wr.ownsRow 0 3 1 ve ends.length (nts ends)
  fs : ∀ b, vs.ownBlock = some b → w0.heap.size ≤ b ∧ ¬ F b ∧ ¬ FJ b
  fe : ∀ b, ve.ownBlock = some b → w0.heap.size ≤ b ∧ ¬ F b ∧ ¬ FJ b
section
variable {w0 wr w' : World} {d j : Nat} {F FJ : Nat → Prop} {S : Dsk} {J : Jr} {vs ve : Value} {sts : List ByteArray} {ends : List Nat}
theorem WhSt.later (h : WhSt w0 wr d j F FJ S J vs ve sts ends) (hb : Below wr.heap.size wr w') : WhSt w0 w' d j F FJ S J vs ve sts ends :=
  ⟨h.sh.later hb, h.nod, own_below h.os hb, own_below h.oe hb, h.fs, h.fe⟩
theorem WhSt.put (h : WhSt w0 wr d j F FJ S J vs ve sts ends) (n : Int) (hn : 4 ≤ n ∧ n < 12) (bs : List UInt8) (hb : bs.length = 256) (hj : JrAt w' (fun b => FJ b ∨ (wr.heap.size ≤ b ∧ b < w'.heap.size)) j d (pJr J 12 256 n bs)) (hm : Mod FJ wr w') :
    WhSt w0 w' d j F (fun b => FJ b ∨ (wr.heap.size ≤ b ∧ b < w'.heap.size)) S (pJr J 12 256 n bs) vs ve sts ends := by
  refine ⟨h.sh.put n hn bs hb hj hm, ?_, own_mod h.os hm (fun b hb => (h.fs b hb).2.2), own_mod h.oe hm (fun b hb => (h.fe b hb).2.2), fun b hb => ?_, fun b hb => ?_⟩
  · unfold pJr
    split
    · exact mput_nodup h.nod n bs
    · exact h.nod
  · obtain ⟨a1, a2, a3⟩ := h.fs b hb
    exact ⟨a1, a2, fun e => e.elim a3 (fun e => by have := own_lt' h.os hb; omega)⟩
  · obtain ⟨a1, a2, a3⟩ := h.fe b hb
    exact ⟨a1, a2, fun e => e.elim a3 (fun e => by have := own_lt' h.oe hb; omega)⟩
theorem WhSt.commit (h : WhSt w0 wr d j F FJ S J vs ve sts ends) (hj : JrAt w' FJ j d ⟨J.at_, J.sec, []⟩) (hd : DiskAt w' (fun b => F b ∨ (wr.heap.size ≤ b ∧ b < w'.heap.size)) d (cmDsk S J)) (hm : Mod (fun b => F b ∨ FJ b) wr w') :
    WhSt w0 w' d j (fun b => F b ∨ (wr.heap.size ≤ b ∧ b < w'.heap.size)) FJ (cmDsk S J) ⟨J.at_, J.sec, []⟩ vs ve sts ends := by
  refine ⟨(h.sh.commit hj hd hm).1, List.nodup_nil, own_mod h.os hm (fun b hb e => e.elim (h.fs b hb).2.1 (h.fs b hb).2.2), own_mod h.oe hm (fun b hb e => e.elim (h.fe b hb).2.1 (h.fe b hb).2.2), fun b hb => ?_, fun b hb => ?_⟩
  · obtain ⟨a1, a2, a3⟩ := h.fs b hb
    exact ⟨a1, fun e => e.elim a2 (fun e => by have := own_lt' h.os hb; omega), a3⟩
  · obtain ⟨a1, a2, a3⟩ := h.fe b hb
    exact ⟨a1, fun e => e.elim a2 (fun e => by have := own_lt' h.oe hb; omega), a3⟩
/-- a list grows -/
theorem WhSt.grow (h : WhSt w0 wr d j F FJ S J vs ve sts ends) {G : Nat → Prop} (hm : Mod G wr w') (hG : ∀ b, G b → w0.heap.size ≤ b ∧ ¬ F b ∧ ¬ FJ b) :
    ShSt w0 w' d j F FJ S J :=
  ⟨h.sh.below.trans (hm.below h.sh.below.size (fun b hb => (hG b hb).1)), h.sh.disk.mod hm (fun b hb e => (hG b e).2.1 hb), h.sh.jr.mod hm (fun b hb e => (hG b e).2.2 hb), h.sh.good, h.sh.wrote, h.sh.at0, h.sh.sec4, h.sh.len, h.sh.keys, h.sh.byt, h.sh.fF, h.sh.fJ, h.sh.dis⟩
theorem WhSt.appS (h : WhSt w0 wr d j F FJ S J vs ve sts ends) {v' : Value} {s : ByteArray} (hg : wr.grownBy w' vs.ownBlock) (ho : w'.ownsRow 0 9 1 v' (sts.length + 1) (bas sts ++ [.string s])) (hat : v'.ownBlock = vs.ownBlock ∨ v'.ownBlock = some wr.heap.size) :
    WhSt w0 w' d j F FJ S J v' ve (sts ++ [s]) ends := by
  have hm : Mod (fun b => vs.ownBlock = some b) wr w' := (Mod.refl _ _).grown hg (fun k hk _ => hk)
  refine ⟨h.grow hm (fun b hb => h.fs b hb), h.nod, ?_, own_mod h.oe hm (fun b hb e => own_ne h.os h.oe (by decide) b e hb), fun b hb => ?_, h.fe⟩
  · have e1 : (sts ++ [s]).length = sts.length + 1 := by simp
    have e2 : bas (sts ++ [s]) = bas sts ++ [.string s] := by simp [bas]
    rw [e1, e2]; exact ho
  · rcases hat with e | e
    · exact h.fs b (by rw [← e]; exact hb)
    · rw [e] at hb; injection hb with hb
      exact ⟨by have := h.sh.below.size; omega, fun e => by have := h.sh.disk.lt e; omega, fun e => by have := h.sh.jr.lt e; omega⟩
theorem WhSt.appE (h : WhSt w0 wr d j F FJ S J vs ve sts ends) {v' : Value} {n : Nat} (hg : wr.grownBy w' ve.ownBlock) (ho : w'.ownsRow 0 3 1 v' (ends.length + 1) (nts ends ++ [.int .i64 n])) (hat : v'.ownBlock = ve.ownBlock ∨ v'.ownBlock = some wr.heap.size) :
    WhSt w0 w' d j F FJ S J vs v' sts (ends ++ [n]) := by
  have hm : Mod (fun b => ve.ownBlock = some b) wr w' := (Mod.refl _ _).grown hg (fun k hk _ => hk)
  refine ⟨h.grow hm (fun b hb => h.fe b hb), h.nod, own_mod h.os hm (fun b hb e => own_ne h.os h.oe (by decide) b hb e), ?_, h.fs, fun b hb => ?_⟩
  · have e1 : (ends ++ [n]).length = ends.length + 1 := by simp
    have e2 : nts (ends ++ [n]) = nts ends ++ [.int .i64 n] := by simp [nts]
    rw [e1, e2]; exact ho
  · rcases hat with e | e
    · exact h.fe b (by rw [← e]; exact hb)
    · rw [e] at hb; injection hb with hb
      exact ⟨by have := h.sh.below.size; omega, fun e => by have := h.sh.disk.lt e; omega, fun e => by have := h.sh.jr.lt e; omega⟩
end
end Go.Proofs.Ytjdobjcbmmdjeaa
