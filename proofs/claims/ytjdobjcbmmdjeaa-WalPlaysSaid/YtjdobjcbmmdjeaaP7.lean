/- THE PLAIN LAW of WalPlays: the reference's journal beside the program's. No program in sight. -/
import Derived.Test.YtjdobjcbmmdjeaaP3
import Derived.Test.YtjdobjcbmmdjeaaW13
import Derived.Test.YtjdobjcbmmdjeaaW15
import Derived.Test.YtjdobjcbmmdjeaaP6
namespace Go.Proofs.Ytjdobjcbmmdjeaa
open Go.RowKit

def rwr (R : RDsk) (n : Nat) (b : List UInt8) : RDsk := ⟨R.first, R.ev ++ [((n : Int), b)]⟩
def rfl_ (R : RDsk) : RDsk := ⟨R.first, R.ev ++ [(-1, [])]⟩
structure RG (S : Dsk) (R : RDsk) (k : Nat) : Prop where
  rel : Rel S R k
  good : S.Good k
section
variable {S : Dsk} {R : RDsk} {k : Nat}
theorem RG.write (h : RG S R k) (n : Nat) (hn : n < k) (b : List UInt8) (hb : b.length = 256) : RG (writeD S n b) (rwr R n b) k := ⟨h.rel.write h.good n b hb, h.good.write n hn b hb⟩
theorem RG.flush (h : RG S R k) : RG (flushD S) (rfl_ R) k := ⟨h.rel.flush, h.good.flush⟩
theorem RG.get (h : RG S R k) (n : Nat) (hn : n < k) : R.get n = sec S.now n := h.rel.get h.good n hn
/-- a header's numbers, the first i of them done -/
def rdoI (R : RDsk) (at_ : Nat) (l : List Int) : Nat → RDsk
  | 0 => R
  | i + 1 => match l[i]? with
    | some n => rwr (rdoI R at_ l i) n.toNat ((rdoI R at_ l i).get (at_ + 1 + i))
    | none => rdoI R at_ l i
theorem rdoI_succ {R : RDsk} {at_ : Nat} {l : List Int} {i : Nat} {n : Int} (h : l[i]? = some n) : rdoI R at_ l (i + 1) = rwr (rdoI R at_ l i) n.toNat ((rdoI R at_ l i).get (at_ + 1 + i)) := by
  rw [rdoI, h]
def rdoS (R : RDsk) (at_ : Nat) (l : List Int) : RDsk := rfl_ (rwr (rfl_ (rdoI R at_ l l.length)) at_ (zeros 256))
theorem RG.doI (h : RG S R k) {at_ : Nat} {l : List Int} (hl : ∀ n ∈ l, 0 ≤ n ∧ n < (k : Int)) (ha : at_ + l.length < k) : ∀ i, i ≤ l.length → RG (doI S at_ l i) (rdoI R at_ l i) k := by
  intro i
  induction i with
  | zero => intro _; exact h
  | succ i ih =>
    intro hi
    have hi2 := ih (by omega)
    have hx : l[i]? = some l[i] := List.getElem?_eq_getElem (show i < l.length by omega)
    have hn := hl _ (List.getElem_mem (show i < l.length by omega))
    rw [rdoI_succ hx, Go.Proofs.Ytjdobjcbmmdjeaa.doI, hx, hi2.get _ (by omega)]
    exact hi2.write _ (by omega) _ (sec_length hi2.good.ok.now (by omega))
theorem RG.doS (h : RG S R k) {at_ : Nat} {l : List Int} (hl : ∀ n ∈ l, 0 ≤ n ∧ n < (k : Int)) (ha : at_ + l.length < k) : RG (doS S at_ l) (rdoS R at_ l) k :=
  ((h.doI hl ha l.length (Nat.le_refl _)).flush.write at_ (by omega) _ (zeros_length 256)).flush
/-- what is put, the first i of it written -/
def rcmI (R : RDsk) (at_ : Nat) (l : List (Int × List UInt8)) : Nat → RDsk
  | 0 => R
  | i + 1 => match l[i]? with
    | some x => rwr (rcmI R at_ l i) (at_ + 1 + i) x.2
    | none => rcmI R at_ l i
theorem rcmI_succ {R : RDsk} {at_ : Nat} {l : List (Int × List UInt8)} {i : Nat} {x : Int × List UInt8} (h : l[i]? = some x) : rcmI R at_ l (i + 1) = rwr (rcmI R at_ l i) (at_ + 1 + i) x.2 := by
  rw [rcmI, h]
def rcommit (R : RDsk) (at_ : Nat) (l : List (Int × List UInt8)) : RDsk := rdoS (rfl_ (rwr (rfl_ (rcmI R at_ l l.length)) at_ (header (l.map (·.1))))) at_ (l.map (·.1))
def rcm (R : RDsk) (at_ : Nat) (l : List (Int × List UInt8)) : RDsk := if l = [] then R else rcommit R at_ l
end

/-- what is put on both sides -/
structure JQ (P l : List (Int × List UInt8)) : Prop where
  rise : (l.map (·.1)).Pairwise (· < ·)
  nodup : (P.map (·.1)).Nodup
  get : ∀ n, mget P n = mget l n
theorem JQ.nil : JQ [] [] := ⟨by simp, by simp, fun _ => rfl⟩
section
variable {P l : List (Int × List UInt8)}
theorem JQ.lnodup (h : JQ P l) : (l.map (·.1)).Nodup := h.rise.imp (fun hab => by omega)
theorem JQ.mem (h : JQ P l) (n : Int) : n ∈ P.map (·.1) ↔ n ∈ l.map (·.1) := by
  have h1 := mget_none (D := P) (a := n)
  have h2 := mget_none (D := l) (a := n)
  rw [h.get] at h1
  exact ⟨fun hn => Classical.byContradiction fun hc => h1.1 (h2.2 hc) hn, fun hn => Classical.byContradiction fun hc => h2.1 (h1.2 hc) hn⟩
theorem JQ.perm (h : JQ P l) : (P.map (·.1)).Perm (l.map (·.1)) := (List.perm_ext_iff_of_nodup h.nodup h.lnodup).2 h.mem
theorem JQ.length (h : JQ P l) : P.length = l.length := by have := h.perm.length_eq; simpa using this
theorem JQ.keys (h : JQ P l) : srt (P.map (·.1)) = l.map (·.1) := by
  rw [srt_perm h.perm]
  exact List.mergeSort_of_pairwise (h.rise.imp (fun hab => by simp only [decide_eq_true_eq]; omega))
theorem JQ.at_ (h : JQ P l) {i : Nat} {x : Int × List UInt8} (hx : l[i]? = some x) : mget P x.1 = some x.2 := by
  rw [h.get]
  have := h.lnodup
  clear h
  induction l generalizing i with
  | nil => simp at hx
  | cons a l ih =>
    cases i with
    | zero => simp at hx; subst hx; simp [mget]
    | succ i =>
      simp at hx
      rw [List.map_cons, List.nodup_cons] at this
      have hne : x.1 ≠ a.1 := fun e => this.1 (by rw [← e]; exact List.mem_map.2 ⟨x, List.mem_of_getElem? hx, rfl⟩)
      simp only [mget, if_neg hne]
      exact ih hx this.2
theorem JQ.empty (h : JQ P l) : P = [] ↔ l = [] := by
  have := h.length
  constructor
  · rintro rfl; exact List.eq_nil_of_length_eq_zero (by simpa using this.symm)
  · rintro rfl; exact List.eq_nil_of_length_eq_zero (by simpa using this)
/-- a sector is put -/
def qins (l : List (Int × List UInt8)) (n : Int) (b : List UInt8) : List (Int × List UInt8) := match l with
  | [] => [(n, b)]
  | x :: r => if x.1 < n then x :: qins r n b else if x.1 = n then (n, b) :: r else (n, b) :: x :: r
theorem qins_mem (n : Int) (b : List UInt8) : ∀ (l : List (Int × List UInt8)) (m : Int), m ∈ (qins l n b).map (·.1) ↔ m = n ∨ m ∈ l.map (·.1)
  | [], m => by simp [qins]
  | x :: r, m => by
    unfold qins
    split
    · rw [List.map_cons, List.mem_cons, qins_mem n b r m, List.map_cons, List.mem_cons]
      exact ⟨fun h => h.elim (fun h => .inr (.inl h)) (fun h => h.elim .inl (fun h => .inr (.inr h))), fun h => h.elim (fun h => .inr (.inl h)) (fun h => h.elim .inl (fun h => .inr (.inr h)))⟩
    · split
      · rename_i h; simp [h]
      · simp
theorem qins_rise (n : Int) (b : List UInt8) : ∀ (l : List (Int × List UInt8)), (l.map (·.1)).Pairwise (· < ·) → ((qins l n b).map (·.1)).Pairwise (· < ·)
  | [], _ => by simp [qins]
  | x :: r, h => by
    rw [List.map_cons, List.pairwise_cons] at h
    unfold qins
    split
    · rw [List.map_cons, List.pairwise_cons]
      refine ⟨fun m hm => ?_, qins_rise n b r h.2⟩
      rcases (qins_mem n b r m).1 hm with rfl | hm
      · assumption
      · exact h.1 m hm
    · split
      · rename_i h1; rw [List.map_cons, List.pairwise_cons]; exact ⟨fun m hm => by have := h.1 m hm; show n < m; omega, h.2⟩
      · rw [List.map_cons, List.pairwise_cons, List.map_cons, List.pairwise_cons]
        refine ⟨fun m hm => ?_, h.1, h.2⟩
        rcases List.mem_cons.1 hm with rfl | hm
        · show n < x.1; omega
        · have := h.1 m hm; show n < m; omega
theorem qins_get (n : Int) (b : List UInt8) : ∀ (l : List (Int × List UInt8)) (m : Int), (l.map (·.1)).Pairwise (· < ·) → mget (qins l n b) m = if m = n then some b else mget l m
  | [], m, _ => by simp [qins, mget]
  | x :: r, m, h => by
    rw [List.map_cons, List.pairwise_cons] at h
    unfold qins
    split
    · rename_i h1
      simp only [mget]
      rw [qins_get n b r m h.2]
      by_cases e : m = x.1
      · rw [if_pos e, if_neg (by omega), if_pos e]
      · rw [if_neg e, if_neg e]
    · split
      · rename_i h1 h2
        simp only [mget]
        by_cases e : m = n
        · rw [if_pos e, if_pos e]
        · rw [if_neg e, if_neg e, if_neg (by omega)]
      · simp only [mget]
theorem JQ.put (h : JQ P l) (n : Int) (b : List UInt8) : JQ (mput P n b) (qins l n b) :=
  ⟨qins_rise n b l h.rise, mput_nodup h.nodup n b, fun m => by rw [mget_mput, qins_get n b l m h.rise, h.get]⟩
theorem qins_at (n : Int) (b : List UInt8) : ∀ (l : List (Int × List UInt8)) (k : Nat), k ≤ l.length → (∀ j x, j < k → l[j]? = some x → x.1 < n) → (∀ x, l[k]? = some x → n ≤ x.1) →
    qins l n b = if (l[k]?).map (·.1) = some n then l.set k (n, b) else l.take k ++ (n, b) :: l.drop k
  | [], k, hk, _, _ => by
    obtain rfl : k = 0 := by simpa using hk
    rfl
  | x :: r, k, hk, h1, h2 => by
    cases k with
    | zero =>
      have hx := h2 x rfl
      unfold qins
      rw [if_neg (by omega)]
      simp only [List.getElem?_cons_zero, Option.map_some, Option.some.injEq, List.set_cons_zero, List.take_zero, List.nil_append, List.drop_zero]
    | succ k =>
      have hx := h1 0 x (by omega) rfl
      unfold qins
      rw [if_pos hx, qins_at n b r k (by simpa using hk) (fun j y hj hy => h1 (j + 1) y (by omega) (by simpa using hy)) (fun y hy => h2 y (by simpa using hy))]
      simp only [List.getElem?_cons_succ, List.set_cons_succ, List.take_succ_cons, List.drop_succ_cons, List.cons_append]
      split <;> rfl
theorem RG.cmI {S : Dsk} {R : RDsk} {k at_ : Nat} (hg : RG S R k) (h : JQ P l) (hb : ∀ n b, mget P n = some b → b.length = 256) (ha : at_ + l.length < k) : ∀ i, i ≤ l.length → RG (cmI S at_ P (l.map (·.1)) i) (rcmI R at_ l i) k := by
  intro i
  induction i with
  | zero => intro _; exact hg
  | succ i ih =>
    intro hi
    have hi2 := ih (by omega)
    have hx : l[i]? = some l[i] := List.getElem?_eq_getElem (show i < l.length by omega)
    have hp := h.at_ hx
    rw [rcmI_succ hx, Go.Proofs.Ytjdobjcbmmdjeaa.cmI, List.getElem?_map, hx]
    simp only [Option.map_some, Option.bind_some, hp]
    exact hi2.write _ (by omega) _ (hb _ _ hp)
theorem RG.commit {S : Dsk} {R : RDsk} {k : Nat} {J : Jr} (hg : RG S R k) (h : JQ J.put l) (hk : ∀ n ∈ J.put.map (·.1), 0 ≤ n ∧ n < (k : Int)) (hb : ∀ n b, mget J.put n = some b → b.length = 256) (ha : J.at_ + J.put.length < k) (h30 : J.put.length ≤ 30) : RG (cmDsk S J) (rcm R J.at_ l) k := by
  unfold cmDsk rcm
  by_cases he : l = []
  · rw [if_pos he, if_pos (h.empty.2 he)]; exact hg
  · rw [if_neg he, if_neg (fun e => he (h.empty.1 e))]
    unfold commitS rcommit
    have hks : J.keys = l.map (·.1) := h.keys
    have hl := h.length
    rw [hks, show (l.map (·.1)).length = l.length from List.length_map ..]
    refine RG.doS (((RG.cmI hg h hb (by omega) l.length (Nat.le_refl _)).flush.write J.at_ (by omega) _ ?_).flush) (fun n hn => hk n ((h.mem n).2 hn)) (by rw [List.length_map]; omega)
    exact header_length (by rw [List.length_map]; omega)
end
open Classical in
noncomputable def ropn (k at_ s : Nat) (S : Dsk) (R : RDsk) : RDsk := if Std k at_ s (sec S.now at_) then rdoS R at_ (hnums (sec S.now at_) (hcnt (sec S.now at_))) else R
end Go.Proofs.Ytjdobjcbmmdjeaa
