/- THE PLAIN LAW of WalWhole: a power loss amid a commit leaves what was, or what is behind it. No program in sight. -/
import Derived.Test.YtjdobjcbmmdjeaaP4
namespace Go.Proofs.Ytjdobjcbmmdjeaa
open Go.RowKit

theorem numOf_bytesOf (v : Nat) (h : v < 65536) : numOf (bytesOf v) = v := by
  have e : bytesOf v = [UInt8.ofNat (v / 256 ^ 7), UInt8.ofNat (v / 256 ^ 6), UInt8.ofNat (v / 256 ^ 5), UInt8.ofNat (v / 256 ^ 4), UInt8.ofNat (v / 256 ^ 3), UInt8.ofNat (v / 256 ^ 2), UInt8.ofNat (v / 256 ^ 1), UInt8.ofNat (v / 256 ^ 0)] := rfl
  rw [e]
  simp only [numOf, List.foldl_cons, List.foldl_nil, UInt8.toNat_ofNat']
  rw [Nat.div_eq_of_lt (show v < 256 ^ 7 by omega), Nat.div_eq_of_lt (show v < 256 ^ 6 by omega), Nat.div_eq_of_lt (show v < 256 ^ 5 by omega), Nat.div_eq_of_lt (show v < 256 ^ 4 by omega), Nat.div_eq_of_lt (show v < 256 ^ 3 by omega), Nat.div_eq_of_lt (show v < 256 ^ 2 by omega)]
  omega
theorem flat8_drop (l : List Int) : ∀ i, (l.flatMap fun x => bytesOf x.toNat).drop (8 * i) = (l.drop i).flatMap fun x => bytesOf x.toNat := by
  induction l with
  | nil => intro i; simp
  | cons x l ih =>
    intro i
    cases i with
    | zero => rfl
    | succ i =>
      rw [List.flatMap_cons, show 8 * (i + 1) = 8 + 8 * i from by omega, ← List.drop_drop, List.drop_left' (bytesOf_length _), List.drop_succ_cons, ← ih i]
theorem header_mag (l : List Int) : (header l).take 8 = magic := by
  unfold header hdrAt
  rw [List.append_assoc, List.append_assoc]
  exact List.take_left' rfl
theorem header_cnt (l : List Int) (h : l.length ≤ 30) : hcnt (header l) = l.length := by
  unfold hcnt header hdrAt
  rw [List.append_assoc, List.append_assoc, List.drop_left' (show magic.length = 8 from rfl), List.take_left' (bytesOf_length _)]
  exact numOf_bytesOf _ (by omega)
theorem header_num (l : List Int) (i : Nat) (n : Nat) (hi : l[i]? = some (n : Int)) (hn : n < 65536) : hnum (header l) i = n := by
  have hil := (List.getElem?_eq_some_iff.1 hi).1
  have e := (List.getElem?_eq_some_iff.1 hi).2
  unfold hnum header hdrAt
  have hl16 : (magic ++ bytesOf l.length).length = 16 := by rw [List.length_append, bytesOf_length]; rfl
  have hfl : 8 * i ≤ (l.flatMap fun x => bytesOf x.toNat).length := by
    have := hdrAt_length 0 l
    unfold hdrAt at this
    rw [List.length_append, List.length_append, bytesOf_length] at this
    have h8 : magic.length = 8 := rfl
    omega
  rw [List.append_assoc, ← List.drop_drop, List.drop_left' hl16, List.drop_append_of_le_length hfl, flat8_drop, List.drop_eq_getElem_cons hil, e, List.flatMap_cons, List.append_assoc, List.take_left' (bytesOf_length _)]
  exact numOf_bytesOf n hn
theorem zeros_std (k a s : Nat) : ¬ Std k a s (zeros 256) := by
  intro h
  have := h.mag
  unfold zeros at this
  rw [List.take_replicate] at this
  revert this
  decide

open Classical in
/-- what Open leaves -/
noncomputable def opn (k at_ s : Nat) (S : Dsk) : Dsk := if Std k at_ s (sec S.now at_) then doS S at_ (hnums (sec S.now at_) (hcnt (sec S.now at_))) else S
theorem opn_no {k at_ s : Nat} {S : Dsk} (h : ¬ Std k at_ s (sec S.now at_)) : opn k at_ s S = S := by unfold opn; rw [if_neg h]
theorem opn_yes {k at_ s : Nat} {S : Dsk} (h : Std k at_ s (sec S.now at_)) : opn k at_ s S = doS S at_ (hnums (sec S.now at_) (hcnt (sec S.now at_))) := by unfold opn; rw [if_pos h]
theorem Std.num {h : List UInt8} (hs : Std 12 0 4 h) : hcnt h ≤ 3 ∧ (∀ i, i < hcnt h → 4 ≤ hnum h i ∧ hnum h i < 12) ∧ ∀ i j, i < j → j < hcnt h → hnum h i < hnum h j := by
  refine ⟨hs.most, fun i hi => ?_, fun i j hij hj => ?_⟩
  · have := hs.out i hi
    simp [outK] at this
    omega
  · induction j with
    | zero => omega
    | succ j ih =>
      have h1 := hs.rise j hj
      by_cases e : i = j
      · subst e; exact h1
      · have := ih (by omega) (by omega); omega
/-- the writes that redo a header -/
def redo (h : List UInt8) (c : Nat → List UInt8) (i : Nat) : List (Nat × List UInt8) := (List.range i).map fun i => (hnum h i, c i)
theorem redo_ok {h : List UInt8} (hs : Std 12 0 4 h) {c : Nat → List UInt8} (hc : ∀ i, i < hcnt h → (c i).length = 256) (m : Nat) (hm : m ≤ hcnt h) : WOk 12 (redo h c m) ∧ ((redo h c m).map (·.1)).Nodup := by
  obtain ⟨_, n2, n3⟩ := hs.num
  refine ⟨fun x hx => ?_, ?_⟩
  · obtain ⟨i, hi, rfl⟩ := List.mem_map.1 hx
    rw [List.mem_range] at hi
    exact ⟨(n2 i (by omega)).2, hc i (by omega)⟩
  · unfold redo
    rw [List.map_map]
    refine List.Pairwise.map _ (R := fun a b => a < b ∧ b < m) (fun a b hab => ?_) ?_
    · have := n3 a b hab.1 (by omega)
      show hnum h a ≠ hnum h b
      omega
    · have h1 := List.pairwise_lt_range (n := m)
      exact List.Pairwise.imp_of_mem (fun {a b} _ hb hab => ⟨hab, List.mem_range.1 hb⟩) h1
theorem redo_take (h : List UInt8) (c : Nat → List UInt8) {i m : Nat} (hi : i ≤ m) : (redo h c m).take i = redo h c i := by
  unfold redo
  rw [← List.map_take, List.take_range, Nat.min_eq_left hi]
theorem doI_redo {S : Dsk} (hg : S.Good 12) {h : List UInt8} (hs : Std 12 0 4 h) : ∀ i, i ≤ hcnt h → doI S 0 (hnums h (hcnt h)) i = wrs S (redo h (fun i => sec S.now (1 + i)) i) := by
  obtain ⟨n1, n2, n3⟩ := hs.num
  have hc : ∀ i, i < hcnt h → (sec S.now (1 + i)).length = 256 := fun i hi => sec_length hg.ok.now (by omega)
  intro i
  induction i with
  | zero => intro _; rfl
  | succ i ih =>
    intro hi
    have ih := ih (by omega)
    have e : redo h (fun i => sec S.now (1 + i)) (i + 1) = redo h (fun i => sec S.now (1 + i)) i ++ [(hnum h i, sec S.now (1 + i))] := by simp [redo, List.range_succ]
    rw [e, wrs_snoc, ← ih]
    have hw := (redo_ok hs hc i (by omega)).1
    have h2 := ((Sub.all S (redo h (fun i => sec S.now (1 + i)) i)).sec hg.ok.now hw).2 (1 + i) (by omega)
    have h3 : sec (doI S 0 (hnums h (hcnt h)) i).now (0 + 1 + i) = sec S.now (1 + i) := by
      rw [ih, Nat.zero_add]
      rcases h2 with h2 | ⟨x, hx, e1, _⟩
      · exact h2
      · obtain ⟨q, hq, rfl⟩ := List.mem_map.1 hx
        rw [List.mem_range] at hq
        have := (n2 q (by omega)).1
        dsimp only at e1
        omega
    have h4 : doI S 0 (hnums h (hcnt h)) (i + 1) = writeD (doI S 0 (hnums h (hcnt h)) i) (hnum h i) (sec (doI S 0 (hnums h (hcnt h)) i).now (0 + 1 + i)) := by
      rw [doI, hnums_get h (show i < hcnt h by omega)]
      rfl
    rw [h4, h3]
theorem rec_sec {S : Dsk} (hg : S.Good 12) {h : List UInt8} (hh : sec S.now 0 = h) (hs : Std 12 0 4 h) :
    opn 12 0 4 S = flushD (writeD (flushD (wrs S (redo h (fun i => sec S.now (1 + i)) (hcnt h)))) 0 (zeros 256)) ∧
    (∀ j, 4 ≤ j → j < 12 → (∀ i, i < hcnt h → hnum h i = j → sec (opn 12 0 4 S).now j = sec S.now (1 + i)) ∧ ((∀ i, i < hcnt h → hnum h i ≠ j) → sec (opn 12 0 4 S).now j = sec S.now j)) ∧ sec (opn 12 0 4 S).now 0 = zeros 256 := by
  obtain ⟨n1, n2, n3⟩ := hs.num
  have hc : ∀ i, i < hcnt h → (sec S.now (1 + i)).length = 256 := fun i hi => sec_length hg.ok.now (by omega)
  have e1 : opn 12 0 4 S = flushD (writeD (flushD (wrs S (redo h (fun i => sec S.now (1 + i)) (hcnt h)))) 0 (zeros 256)) := by
    rw [opn_yes (by rw [hh]; exact hs), hh]
    unfold doS
    rw [hnums_length, doI_redo hg hs _ (Nat.le_refl _)]
  obtain ⟨hw, hn⟩ := redo_ok hs hc _ (Nat.le_refl _)
  have hl := (wrs_good hg _ hw).1.ok.now
  refine ⟨e1, fun j h4 h12 => ?_, ?_⟩
  · have e2 : sec (opn 12 0 4 S).now j = sec (wrs S (redo h (fun i => sec S.now (1 + i)) (hcnt h))).now j := by
      rw [e1]
      have := sec_splice (n := 0) (i := j) hl (by omega) h12 zeros256
      rw [if_neg (by omega)] at this
      exact this
    rw [e2]
    obtain ⟨s1, s2⟩ := wrs_sec hg _ hw hn j h12
    refine ⟨fun i hi e => ?_, fun he => s2 (fun x hx => ?_)⟩
    · exact s1 (hnum h i, sec S.now (1 + i)) (List.mem_map.2 ⟨i, List.mem_range.2 hi, rfl⟩) e
    · obtain ⟨i, hi, rfl⟩ := List.mem_map.1 hx
      exact he i (List.mem_range.1 hi)
  · rw [e1]
    have := sec_splice (n := 0) (i := 0) hl (by omega) (by omega) zeros256
    rw [if_pos rfl] at this
    exact this
theorem shw_congr {a b : List UInt8} (h : ∀ j, 4 ≤ j → j < 12 → sec a j = sec b j) : ∀ i, i ≤ 8 → shw a i = shw b i := by
  intro i
  induction i with
  | zero => intro _; rfl
  | succ i ih => intro hi; simp only [shw]; rw [ih (by omega), h (4 + i) (by omega) (by omega)]

/-- a disk just made of these bytes -/
def fresh (R : List UInt8) : Dsk := ⟨R, R, [], []⟩
theorem fresh_good {R : List UInt8} (h : R.length = 12 * 256) : (fresh R).Good 12 := ⟨⟨h, h, by simp [fresh]⟩, rfl⟩
/-- what is shown behind Open -/
noncomputable def shq (R : List UInt8) : ByteArray := shw (opn 12 0 4 (fresh R)).now 8
theorem shq_no {R : List UInt8} (h : ¬ Std 12 0 4 (sec R 0)) : shq R = shw R 8 := by unfold shq; rw [opn_no (S := fresh R) h]; rfl
theorem shq_yes {R : List UInt8} (hR : R.length = 12 * 256) {h : List UInt8} (hh : sec R 0 = h) (hs : Std 12 0 4 h) {N : List UInt8} (h1 : ∀ j, 4 ≤ j → j < 12 → (∀ i, i < hcnt h → hnum h i = j → sec N j = sec R (1 + i)) ∧ ((∀ i, i < hcnt h → hnum h i ≠ j) → sec N j = sec R j)) : shq R = shw N 8 := by
  unfold shq
  obtain ⟨_, r2, _⟩ := rec_sec (S := fresh R) (fresh_good hR) hh hs
  refine shw_congr (fun j h4 h12 => ?_) 8 (Nat.le_refl _)
  obtain ⟨a1, a2⟩ := r2 j h4 h12
  obtain ⟨b1, b2⟩ := h1 j h4 h12
  by_cases he : ∃ i, i < hcnt h ∧ hnum h i = j
  · obtain ⟨i, hi, e⟩ := he
    rw [a1 i hi e, b1 i hi e]
    rfl
  · have he : ∀ i, i < hcnt h → hnum h i ≠ j := fun i hi e => he ⟨i, hi, e⟩
    rw [a2 he, b2 he]
    rfl
/-- a loss amid what Open redoes: Open again shows the same -/
theorem half_ok {R : List UInt8} (hR : R.length = 12 * 256) (keep : List Bool) : shq (lossOf (opn 12 0 4 (fresh R)) ((opn 12 0 4 (fresh R)).ev.length / 2) keep) = shq R := by
  by_cases hs : Std 12 0 4 (sec R 0)
  · obtain ⟨h, hh⟩ : ∃ h, sec R 0 = h := ⟨_, rfl⟩
    rw [hh] at hs
    have hg := fresh_good hR
    obtain ⟨r1, r2, _⟩ := rec_sec (S := fresh R) hg hh hs
    obtain ⟨n1, n2, n3⟩ := hs.num
    have n0 := hs.one
    have hc : ∀ i, i < hcnt h → (sec (fresh R).now (1 + i)).length = 256 := fun i hi => sec_length hg.ok.now (by omega)
    obtain ⟨hw, hn⟩ := redo_ok hs hc _ (Nat.le_refl _)
    obtain ⟨W, hW⟩ : ∃ W, W = redo h (fun i => sec (fresh R).now (1 + i)) (hcnt h) := ⟨_, rfl⟩
    have hWl : W.length = hcnt h := by rw [hW]; simp [redo]
    rw [← hW] at r1 hw
    obtain ⟨g1, g2⟩ := wrs_good hg W hw
    have hev : (opn 12 0 4 (fresh R)).ev.length = hcnt h + 3 := by
      rw [r1]; simp only [flushD, writeD, List.length_append, List.length_cons, List.length_nil, g2, hWl]
      have : (fresh R).ev.length = 0 := rfl
      omega
    have hE : Ext (flushD (wrs (fresh R) W)) (opn 12 0 4 (fresh R)) := by rw [r1]; exact (Ext.write _ _ _).trans (Ext.flush _)
    have hsub : ∃ ws, WOk 12 ws ∧ (∀ x ∈ ws, x ∈ W) ∧ Sub ws R (lossOf (opn 12 0 4 (fresh R)) ((opn 12 0 4 (fresh R)).ev.length / 2) keep) := by
      rw [hev]
      by_cases hle : (hcnt h + 3) / 2 ≤ hcnt h
      · have := loss_phase hg (.inl rfl) keep W hw ((Ext.flush _).trans hE) ((hcnt h + 3) / 2) (by omega)
        rw [show (fresh R).ev.length = 0 from rfl, Nat.zero_add] at this
        exact ⟨_, fun x hx => hw x (List.mem_of_mem_take hx), fun x hx => List.mem_of_mem_take hx, this⟩
      · have := loss_flushed g1 keep hE
        rw [g2, hWl, show (fresh R).ev.length = 0 from rfl, Nat.zero_add] at this
        rw [show (hcnt h + 3) / 2 = hcnt h + 1 from by omega, this]
        exact ⟨W, hw, fun x hx => hx, Sub.all (fresh R) W⟩
    obtain ⟨ws, w1, w2, w3⟩ := hsub
    obtain ⟨l1, l2⟩ := w3.sec hR w1
    have hk : ∀ x ∈ ws, ∃ i, i < hcnt h ∧ x = (hnum h i, sec R (1 + i)) := by
      intro x hx
      have := w2 x hx
      rw [hW] at this
      obtain ⟨i, hi, rfl⟩ := List.mem_map.1 this
      exact ⟨i, List.mem_range.1 hi, rfl⟩
    have hlow : ∀ j, j < 4 → sec (lossOf (opn 12 0 4 (fresh R)) ((opn 12 0 4 (fresh R)).ev.length / 2) keep) j = sec R j := by
      intro j hj
      rcases l2 j (by omega) with e | ⟨x, hx, e1, _⟩
      · exact e
      · obtain ⟨i, hi, rfl⟩ := hk x hx
        have := (n2 i hi).1
        dsimp only at e1
        omega
    refine (shq_yes l1 ((hlow 0 (by omega)).trans hh) hs (N := (opn 12 0 4 (fresh R)).now) (fun j h4 h12 => ?_)).trans rfl
    obtain ⟨a1, a2⟩ := r2 j h4 h12
    refine ⟨fun i hi e => ?_, fun he => ?_⟩
    · rw [a1 i hi e, hlow (1 + i) (by omega)]; rfl
    · rw [a2 he]
      rcases l2 j h12 with e | ⟨x, hx, e1, _⟩
      · rw [e]; rfl
      · obtain ⟨i, hi, rfl⟩ := hk x hx
        exact absurd e1 (he i hi)
  · rw [opn_no (S := fresh R) hs]
    rw [show (fresh R).ev.length / 2 = 0 from by simp [fresh]]
    rfl
/-- opened twice -/
theorem opn_opn {S : Dsk} (hg : S.Good 12) : opn 12 0 4 (opn 12 0 4 S) = opn 12 0 4 S := by
  by_cases hs : Std 12 0 4 (sec S.now 0)
  · obtain ⟨_, _, r3⟩ := rec_sec hg rfl hs
    exact opn_no (by rw [r3]; exact zeros_std _ _ _)
  · rw [opn_no hs, opn_no hs]
/-- the writes of what is put -/
def cmW (P : List (Int × List UInt8)) (l : List Int) (i : Nat) : List (Nat × List UInt8) := (List.range i).map fun i => (1 + i, ((l[i]?).bind (mget P)).getD [])
theorem cmI_wrs (S : Dsk) {P : List (Int × List UInt8)} {l : List Int} (hl : ∀ n ∈ l, ∃ b, mget P n = some b ∧ b.length = 256) : ∀ i, i ≤ l.length → cmI S 0 P l i = wrs S (cmW P l i) := by
  intro i
  induction i with
  | zero => intro _; rfl
  | succ i ih =>
    intro hi
    have e : cmW P l (i + 1) = cmW P l i ++ [(1 + i, ((l[i]?).bind (mget P)).getD [])] := by simp [cmW, List.range_succ]
    obtain ⟨b, hb, _⟩ := hl _ (List.getElem_mem (show i < l.length by omega))
    have h1 : (l[i]?).bind (mget P) = some b := by rw [List.getElem?_eq_getElem (show i < l.length by omega)]; exact hb
    rw [e, wrs_snoc, ← ih (by omega), h1]
    rw [cmI, h1]
    simp only [Option.getD_some, Nat.zero_add]
theorem cmW_ok {P : List (Int × List UInt8)} {l : List Int} (hl : ∀ n ∈ l, ∃ b, mget P n = some b ∧ b.length = 256) (h3 : l.length ≤ 3) : WOk 12 (cmW P l l.length) ∧ ((cmW P l l.length).map (·.1)).Nodup := by
  refine ⟨fun x hx => ?_, ?_⟩
  · obtain ⟨i, hi, rfl⟩ := List.mem_map.1 hx
    rw [List.mem_range] at hi
    obtain ⟨b, hb, hbl⟩ := hl _ (List.getElem_mem hi)
    refine ⟨by dsimp only; omega, ?_⟩
    dsimp only
    rw [List.getElem?_eq_getElem hi, Option.bind_some, hb]
    exact hbl
  · unfold cmW
    rw [List.map_map]
    refine List.Pairwise.map _ (R := fun a b => a < b) (fun a b hab => ?_) List.pairwise_lt_range
    show 1 + a ≠ 1 + b
    omega
/-- what may be committed to a journal of four at 0 -/
structure CmOk (P : List (Int × List UInt8)) (l : List Int) : Prop where
  one : 1 ≤ l.length
  three : l.length ≤ 3
  num : ∀ n ∈ l, 4 ≤ n ∧ n < (12 : Int)
  rise : ∀ i a b, l[i]? = some a → l[i + 1]? = some b → a < b
  get : ∀ n ∈ l, ∃ b, mget P n = some b ∧ b.length = 256
theorem CmOk.std {P : List (Int × List UInt8)} {l : List Int} (h : CmOk P l) : hcnt (header l) = l.length ∧ (∀ i n, l[i]? = some n → (hnum (header l) i : Int) = n) ∧ Std 12 0 4 (header l) := by
  have h1 := h.three
  have hc := header_cnt l (by omega)
  have hn : ∀ i n, l[i]? = some n → (hnum (header l) i : Int) = n := by
    intro i n hi
    have := h.num n (List.mem_of_getElem? hi)
    obtain ⟨q, rfl⟩ : ∃ q : Nat, n = (q : Int) := ⟨n.toNat, by omega⟩
    rw [header_num l i q hi (by omega)]
  refine ⟨hc, hn, ⟨header_mag l, by rw [hc]; exact h.one, by rw [hc]; omega, fun i hi => ?_, fun i hi => ?_⟩⟩
  · rw [hc] at hi
    have e : l[i]? = some l[i] := List.getElem?_eq_getElem hi
    have h2 := hn i _ e
    have h3 := h.num _ (List.mem_of_getElem? e)
    simp [outK]
    omega
  · rw [hc] at hi
    have e : l[i]? = some (l[i]'(by omega)) := List.getElem?_eq_getElem (by omega)
    have e' : l[i + 1]? = some l[i + 1] := List.getElem?_eq_getElem hi
    have h2 := hn i _ e
    have h3 := hn (i + 1) _ e'
    have := h.rise i _ _ e e'
    omega
theorem hnums_header {P : List (Int × List UInt8)} {l : List Int} (h : CmOk P l) : hnums (header l) l.length = l := by
  obtain ⟨_, h2, _⟩ := h.std
  apply List.ext_getElem?
  intro i
  by_cases hi : i < l.length
  · rw [hnums_get _ hi, List.getElem?_eq_getElem hi, h2 i _ (List.getElem?_eq_getElem hi)]
  · rw [List.getElem?_eq_none (by rw [hnums_length]; omega), List.getElem?_eq_none (by omega)]

/-- a power loss amid a commit -/
theorem mid_ok {S : Dsk} (hg : S.Good 12) (hs : Sure S) (h0 : sec S.now 0 = zeros 256) {J : Jr} (hat : J.at_ = 0) (hJ : CmOk J.put J.keys) :
    (commitS S J).Good 12 ∧ Sure (commitS S J) ∧ Ext S (commitS S J) ∧ sec (commitS S J).now 0 = zeros 256 ∧
    ∀ cut keep, S.ev.length ≤ cut → cut < (commitS S J).ev.length → shq (lossOf (commitS S J) cut keep) = shw S.now 8 ∨ shq (lossOf (commitS S J) cut keep) = shw (commitS S J).now 8 := by
  obtain ⟨l, hl⟩ : ∃ l, l = J.keys := ⟨_, rfl⟩
  obtain ⟨P, hP⟩ : ∃ P, P = J.put := ⟨_, rfl⟩
  rw [← hl, ← hP] at hJ
  obtain ⟨c1, c2, c3⟩ := hJ.std
  obtain ⟨n1, n2, n3⟩ := c3.num
  have m1 := hJ.one
  have m3 := hJ.three
  obtain ⟨hw1, hnd1⟩ := cmW_ok hJ.get m3
  obtain ⟨W1, hW1⟩ : ∃ W1, W1 = cmW P l l.length := ⟨_, rfl⟩
  have hW1l : W1.length = l.length := by rw [hW1]; simp [cmW]
  rw [← hW1] at hw1 hnd1
  obtain ⟨g1, e1⟩ := wrs_good hg W1 hw1
  obtain ⟨S1, hS1⟩ : ∃ S1, S1 = flushD (wrs S W1) := ⟨_, rfl⟩
  have gS1 : S1.Good 12 := by rw [hS1]; exact g1.flush
  have sS1 : Sure S1 := by rw [hS1]; exact Sure.flush _
  have eS1 : S1.ev.length = S.ev.length + l.length + 1 := by rw [hS1]; simp only [flushD, List.length_append, List.length_cons, List.length_nil, e1, hW1l]
  have nS1 : S1.now = (wrs S W1).now := by rw [hS1]; rfl
  obtain ⟨S2, hS2⟩ : ∃ S2, S2 = flushD (writeD S1 0 (header l)) := ⟨_, rfl⟩
  have gw2 := gS1.write 0 (by omega) (header l) (header_length (by omega))
  have gS2 : S2.Good 12 := by rw [hS2]; exact gw2.flush
  have sS2 : Sure S2 := by rw [hS2]; exact Sure.flush _
  have eS2 : S2.ev.length = S.ev.length + l.length + 3 := by rw [hS2]; simp only [flushD, writeD, List.length_append, List.length_cons, List.length_nil, eS1]
  have sec2 : ∀ j, j < 12 → sec S2.now j = if j = 0 then header l else sec S1.now j := by
    intro j hj
    rw [hS2]
    exact sec_splice gS1.ok.now (by omega) hj (header_length (by omega))
  have secS1 : ∀ j, j < 12 → (∀ i b, (l[i]?).bind (mget P) = some b → j = 1 + i → sec S1.now j = b) ∧ ((j = 0 ∨ l.length < j) → sec S1.now j = sec S.now j) := by
    intro j hj
    obtain ⟨a1, a2⟩ := wrs_sec hg W1 hw1 hnd1 j hj
    rw [nS1]
    refine ⟨fun i b hb e => ?_, fun h => a2 (fun x hx => ?_)⟩
    · have hi : i < l.length := by
        cases hx : l[i]? with
        | none => rw [hx] at hb; simp at hb
        | some x => exact (List.getElem?_eq_some_iff.1 hx).1
      have := a1 (1 + i, ((l[i]?).bind (mget P)).getD []) (by rw [hW1]; exact List.mem_map.2 ⟨i, List.mem_range.2 hi, rfl⟩) e.symm
      rw [this, hb]
      rfl
    · rw [hW1] at hx
      obtain ⟨i, hi, rfl⟩ := List.mem_map.1 hx
      rw [List.mem_range] at hi
      dsimp only
      omega
  have h2 : sec S2.now 0 = header l := by rw [sec2 0 (by omega), if_pos rfl]
  obtain ⟨r1, r2, r3⟩ := rec_sec gS2 h2 c3
  obtain ⟨W3, hW3⟩ : ∃ W3, W3 = redo (header l) (fun i => sec S2.now (1 + i)) (hcnt (header l)) := ⟨_, rfl⟩
  have hT : commitS S J = opn 12 0 4 S2 := by
    unfold commitS
    rw [hat, ← hl, ← hP, cmI_wrs S hJ.get _ (Nat.le_refl _), ← hW1, ← hS1, ← hS2, opn_yes (by rw [h2]; exact c3), h2, c1, hnums_header hJ]
  obtain ⟨T, hTT⟩ : ∃ T, T = commitS S J := ⟨_, rfl⟩
  rw [← hTT] at hT ⊢
  rw [← hT] at r1 r2 r3
  rw [← hW3] at r1
  have hc : ∀ i, i < hcnt (header l) → (sec S2.now (1 + i)).length = 256 := fun i hi => sec_length gS2.ok.now (by omega)
  obtain ⟨hw3, hnd3⟩ := redo_ok c3 hc _ (Nat.le_refl _)
  rw [← hW3] at hw3 hnd3
  have hW3l : W3.length = l.length := by rw [hW3]; simp [redo, c1]
  obtain ⟨g3, e3⟩ := wrs_good gS2 W3 hw3
  obtain ⟨S3, hS3⟩ : ∃ S3, S3 = flushD (wrs S2 W3) := ⟨_, rfl⟩
  have gS3 : S3.Good 12 := by rw [hS3]; exact g3.flush
  have sS3 : Sure S3 := by rw [hS3]; exact Sure.flush _
  have eS3 : S3.ev.length = S.ev.length + 2 * l.length + 4 := by rw [hS3]; simp only [flushD, List.length_append, List.length_cons, List.length_nil, e3, hW3l, eS2]; omega
  rw [← hS3] at r1
  have gw4 := gS3.write 0 (by omega) (zeros 256) zeros256
  have gT : T.Good 12 := by rw [r1]; exact gw4.flush
  have eT : T.ev.length = S.ev.length + 2 * l.length + 6 := by rw [r1]; simp only [flushD, writeD, List.length_append, List.length_cons, List.length_nil, eS3]
  have x4 : Ext (writeD S3 0 (zeros 256)) T := by rw [r1]; exact Ext.flush _
  have x3 : Ext S3 T := (Ext.write _ _ _).trans x4
  have x3w : Ext (wrs S2 W3) T := by refine (Ext.flush _).trans ?_; rw [← hS3]; exact x3
  have x2 : Ext S2 T := (Ext.wrs _ _).trans x3w
  have x2w : Ext (writeD S1 0 (header l)) T := by refine (Ext.flush _).trans ?_; rw [← hS2]; exact x2
  have x1 : Ext S1 T := (Ext.write _ _ _).trans x2w
  have x1w : Ext (wrs S W1) T := by refine (Ext.flush _).trans ?_; rw [← hS1]; exact x1
  have x0 : Ext S T := (Ext.wrs _ _).trans x1w
  have secS : ∀ j, 4 ≤ j → j < 12 → sec S2.now j = sec S.now j := by
    intro j h4 h12
    rw [sec2 j h12, if_neg (by omega)]
    exact (secS1 j h12).2 (.inr (by omega))
  have n0 : ∀ R, sec R 0 = zeros 256 → ¬ Std 12 0 4 (sec R 0) := fun R h => by rw [h]; exact zeros_std _ _ _
  -- a phase where the header does not stand yet
  have old : ∀ R, (∀ j, j < 12 → (j = 0 ∨ 4 ≤ j) → sec R j = sec S.now j) → shq R = shw S.now 8 := by
    intro R h
    rw [shq_no (n0 R (by rw [h 0 (by omega) (.inl rfl)]; exact h0))]
    exact shw_congr (fun j h4 h12 => h j h12 (.inr h4)) 8 (Nat.le_refl _)
  -- a phase where it stands
  have new : ∀ R, R.length = 12 * 256 → sec R 0 = header l → (∀ i, i < l.length → sec R (1 + i) = sec S2.now (1 + i)) → (∀ j, 4 ≤ j → j < 12 → sec R j = sec S2.now j ∨ ∃ i, i < l.length ∧ hnum (header l) i = j) → shq R = shw T.now 8 := by
    intro R hR hh hi hj
    refine shq_yes hR hh c3 (fun j h4 h12 => ?_)
    obtain ⟨a1, a2⟩ := r2 j h4 h12
    refine ⟨fun i hi2 e => ?_, fun he => ?_⟩
    · rw [a1 i hi2 e, hi i (by omega)]
    · rw [a2 he]
      rcases hj j h4 h12 with e | ⟨i, hi2, e⟩
      · exact e.symm
      · exact absurd e (he i (by omega))
  refine ⟨gT, by rw [r1]; exact Sure.flush _, x0, r3, fun cut keep hc1 hc2 => ?_⟩
  obtain ⟨c, rfl⟩ : ∃ c, cut = S.ev.length + c := ⟨cut - S.ev.length, by omega⟩
  rw [eT] at hc2
  by_cases q1 : c ≤ l.length + 1
  · left
    have hsub : ∃ ws, WOk 12 ws ∧ (∀ x ∈ ws, x ∈ W1) ∧ Sub ws S.now (lossOf T (S.ev.length + c) keep) := by
      by_cases q : c ≤ l.length
      · exact ⟨_, fun x hx => hw1 x (List.mem_of_mem_take hx), fun x hx => List.mem_of_mem_take hx, loss_phase hg hs keep W1 hw1 x1w c (by omega)⟩
      · have := loss_flushed g1 keep (by rw [← hS1]; exact x1)
        rw [e1, hW1l] at this
        rw [show S.ev.length + c = S.ev.length + l.length + 1 from by omega, this]
        exact ⟨W1, hw1, fun x hx => hx, Sub.all S W1⟩
    obtain ⟨ws, w1, w2, w3⟩ := hsub
    obtain ⟨_, l2⟩ := w3.sec hg.ok.now w1
    refine old _ (fun j hj hj2 => ?_)
    rcases l2 j hj with e | ⟨x, hx, e, _⟩
    · exact e
    · have := w2 x hx
      rw [hW1] at this
      obtain ⟨i, hi, rfl⟩ := List.mem_map.1 this
      rw [List.mem_range] at hi
      dsimp only at e
      omega
  · by_cases q2 : c = l.length + 2
    · have hp := loss_phase gS1 sS1 keep [(0, header l)] (fun x hx => by rw [List.mem_singleton] at hx; subst hx; exact ⟨by omega, header_length (by omega)⟩) (by exact x2w) 1 (Nat.le_refl _)
      rw [eS1, show S.ev.length + l.length + 1 + 1 = S.ev.length + c from by omega] at hp
      obtain ⟨R, hR⟩ : ∃ R, R = lossOf T (S.ev.length + c) keep := ⟨_, rfl⟩
      rw [← hR] at hp ⊢
      obtain ⟨l1, l2⟩ := hp.sec gS1.ok.now (fun x hx => by rw [List.take_succ_cons, List.take_zero, List.mem_singleton] at hx; subst hx; exact ⟨by omega, header_length (by omega)⟩)
      have l3 : ∀ j, j < 12 → j ≠ 0 → sec R j = sec S1.now j := by
        intro j hj hj0
        rcases l2 j hj with e | ⟨x, hx, e, _⟩
        · exact e
        · simp at hx; subst hx; exact absurd e.symm hj0
      have l4 : sec R 0 = sec S1.now 0 ∨ sec R 0 = header l := by
        rcases l2 0 (by omega) with e | ⟨x, hx, _, e⟩
        · exact .inl e
        · simp at hx; subst hx; exact .inr e
      rcases l4 with l4 | l4
      · left
        refine old R (fun j hj hj2 => ?_)
        by_cases e : j = 0
        · rw [e, l4]; exact (secS1 0 (by omega)).2 (.inl rfl)
        · rw [l3 j hj e]; exact (secS1 j hj).2 (.inr (by omega))
      · right
        refine new R l1 l4 (fun i hi => ?_) (fun j h4 h12 => .inl ?_)
        · rw [l3 _ (by omega) (by omega), sec2 _ (by omega), if_neg (by omega)]
        · rw [l3 _ h12 (by omega), sec2 _ h12, if_neg (by omega)]
    · right
      by_cases q3 : c ≤ 2 * l.length + 4
      · have hsub : ∃ ws, WOk 12 ws ∧ (∀ x ∈ ws, x ∈ W3) ∧ Sub ws S2.now (lossOf T (S.ev.length + c) keep) := by
          by_cases q : c ≤ 2 * l.length + 3
          · have := loss_phase gS2 sS2 keep W3 hw3 x3w (c - (l.length + 3)) (by omega)
            rw [eS2, show S.ev.length + l.length + 3 + (c - (l.length + 3)) = S.ev.length + c from by omega] at this
            exact ⟨_, fun x hx => hw3 x (List.mem_of_mem_take hx), fun x hx => List.mem_of_mem_take hx, this⟩
          · have := loss_flushed g3 keep (by rw [← hS3]; exact x3)
            rw [e3, hW3l, eS2, show S.ev.length + l.length + 3 + l.length + 1 = S.ev.length + c from by omega] at this
            rw [this]
            exact ⟨W3, hw3, fun x hx => hx, Sub.all S2 W3⟩
        obtain ⟨ws, w1, w2, w3⟩ := hsub
        obtain ⟨l1, l2⟩ := w3.sec gS2.ok.now w1
        have hk : ∀ x ∈ ws, ∃ i, i < l.length ∧ hnum (header l) i = x.1 := by
          intro x hx
          have := w2 x hx
          rw [hW3] at this
          obtain ⟨i, hi, rfl⟩ := List.mem_map.1 this
          exact ⟨i, by rw [List.mem_range] at hi; omega, rfl⟩
        have hlow : ∀ j, j < 4 → sec (lossOf T (S.ev.length + c) keep) j = sec S2.now j := by
          intro j hj
          rcases l2 j (by omega) with e | ⟨x, hx, e, _⟩
          · exact e
          · obtain ⟨i, hi, e2⟩ := hk x hx
            have := (n2 i (by omega)).1
            omega
        refine new _ l1 ((hlow 0 (by omega)).trans h2) (fun i hi => hlow _ (by omega)) (fun j h4 h12 => ?_)
        rcases l2 j h12 with e | ⟨x, hx, e, _⟩
        · exact .inl e
        · obtain ⟨i, hi, e2⟩ := hk x hx
          exact .inr ⟨i, hi, by omega⟩
      · have hp := loss_phase gS3 sS3 keep [(0, zeros 256)] (fun x hx => by rw [List.mem_singleton] at hx; subst hx; exact ⟨by omega, zeros256⟩) (by exact x4) 1 (Nat.le_refl _)
        rw [eS3, show S.ev.length + 2 * l.length + 4 + 1 = S.ev.length + c from by omega] at hp
        obtain ⟨R, hR⟩ : ∃ R, R = lossOf T (S.ev.length + c) keep := ⟨_, rfl⟩
        rw [← hR] at hp ⊢
        obtain ⟨l1, l2⟩ := hp.sec gS3.ok.now (fun x hx => by rw [List.take_succ_cons, List.take_zero, List.mem_singleton] at hx; subst hx; exact ⟨by omega, zeros256⟩)
        have l3 : ∀ j, j < 12 → j ≠ 0 → sec R j = sec S3.now j := by
          intro j hj hj0
          rcases l2 j hj with e | ⟨x, hx, e, _⟩
          · exact e
          · simp at hx; subst hx; exact absurd e.symm hj0
        have l4 : sec R 0 = sec S3.now 0 ∨ sec R 0 = zeros 256 := by
          rcases l2 0 (by omega) with e | ⟨x, hx, _, e⟩
          · exact .inl e
          · simp at hx; subst hx; exact .inr e
        have s3 : S3.now = (wrs S2 W3).now := by rw [hS3]; rfl
        have k3 : ∀ j, j < 12 → sec S3.now j = sec S2.now j ∨ ∃ i, i < l.length ∧ hnum (header l) i = j := by
          intro j hj
          rw [s3]
          rcases ((Sub.all S2 W3).sec gS2.ok.now hw3).2 j hj with e | ⟨x, hx, e, _⟩
          · exact .inl e
          · rw [hW3] at hx
            obtain ⟨i, hi, rfl⟩ := List.mem_map.1 hx
            exact .inr ⟨i, by rw [List.mem_range] at hi; omega, e⟩
        have k3' : ∀ j, j < 4 → sec S3.now j = sec S2.now j := by
          intro j hj
          rcases k3 j (by omega) with e | ⟨i, hi, e⟩
          · exact e
          · have := (n2 i (by omega)).1; omega
        rcases l4 with l4 | l4
        · refine new R l1 (by rw [l4, k3' 0 (by omega)]; exact h2) (fun i hi => by rw [l3 _ (by omega) (by omega), k3' _ (by omega)]) (fun j h4 h12 => ?_)
          rw [l3 _ h12 (by omega)]
          exact k3 j h12
        · rw [shq_no (n0 R l4)]
          refine shw_congr (fun j h4 h12 => ?_) 8 (Nat.le_refl _)
          rw [l3 j h12 (by omega), r1]
          have := sec_splice (n := 0) (i := j) gS3.ok.now (by omega) h12 zeros256
          rw [if_neg (by omega)] at this
          exact this.symm
end Go.Proofs.Ytjdobjcbmmdjeaa
