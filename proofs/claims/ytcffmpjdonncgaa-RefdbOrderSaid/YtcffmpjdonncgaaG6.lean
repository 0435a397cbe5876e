/- RefdbX: what the laws look with: few, own, same. -/
import Derived.Test.YtcffmpjdonncgaaG5
import Derived.Test.YtcffmpjdonncgaaPRefx6
namespace Go.Proofs.Ytcffmpjdonncgaa
open Go.RowKit Go.Proofs.YtcffmpjdonncgaaW.PrintWords
open Go.Proofs.Ytcffmpjdonncgaa.PRef

theorem w64 {n : Nat} (h : n ≤ 1000000000000000000) : wrap64 ((n : Int) + 1) = ((n + 1 : Nat) : Int) := by unfold wrap64; omega
theorem rdT {l : List S33} {i : Nat} {x : S33} (h : l[i]? = some x) : rd_T33 l (i : Int) = x := by
  unfold rd_T33
  rw [List.getD_eq_getElem?_getD]
  simp [h]
theorem rdO {l : List ByteArray} {i : Nat} {x : ByteArray} (h : l[i]? = some x) : rdOf ByteArray.empty l (i : Int) = x := by
  unfold rdOf
  rw [List.getD_eq_getElem?_getD]
  simp [h]
theorem own_l0 (l : List S33) (hl : l.length ≤ 1000000000) (hf : ∀ x ∈ l, x.f3.length ≤ 1000000000000) (d : Nat) : ∀ (k i : Nat), i ≤ l.length → l.length - i = d → d < k → stillroomlaw12_own.l0 k l (l.take i) (i : Int) = some l := by
  induction d with
  | zero =>
    intro k i hi hd hk
    obtain ⟨k, rfl⟩ : ∃ m, k = m + 1 := ⟨k - 1, by omega⟩
    obtain rfl : i = l.length := by omega
    simp only [stillroomlaw12_own.l0]
    rw [if_neg (by omega), List.take_length]
  | succ d ih =>
    intro k i hi hd hk
    obtain ⟨k, rfl⟩ : ∃ m, k = m + 1 := ⟨k - 1, by omega⟩
    obtain ⟨x, hx⟩ : ∃ x, l[i]? = some x := ⟨_, List.getElem?_eq_getElem (show i < l.length by omega)⟩
    obtain ⟨hil, hxe⟩ := List.getElem?_eq_some_iff.1 hx
    have hxf := hf x (List.mem_of_getElem? hx)
    have h1 := ih k (i + 1) (by omega) (by omega) (by omega)
    rw [List.take_succ_eq_append_getElem hil, hxe] at h1
    have h2 : (l.take i).length ≤ i := List.length_take_le _ _
    simp only [stillroomlaw12_own.l0]
    rw [if_pos (by omega), if_pos (by omega), rdT hx, w64 (by omega)]
    simp only [Option.bind_some, List.length_nil, List.nil_append, Nat.zero_add]
    rw [if_pos (by omega), if_pos (by omega)]
    exact h1
theorem own_ok (w : World) (A : Option Addr) (n c : Nat) (l : List S33) (h : Kd.C k33 w A n l) (hc : n ≤ c) (hl : l.length ≤ 1000000000) (hf : ∀ x ∈ l, x.f3.length ≤ 1000000000000) :
    Calls Try.prog 10 #[.slice A n c] w fun e w' => ∃ A' c', e = .returned (.slice A' l.length c') ∧ Kd.C k33 w' A' l.length l ∧ l.length ≤ c' ∧ Below w.heap.size w w' := by
  obtain rfl : l.length = n := h.1
  have hrun : stillroomlaw12_own.f (l.length + 1) l = some l := by
    unfold stillroomlaw12_own.f
    have := own_l0 l hl hf l.length (l.length + 1) 0 (Nat.zero_le _) (by omega) (by omega)
    simpa using this
  refine (stillroomlaw12_own.calls (l.length + 1) A c l l w h hc hrun).mono ?_
  rintro e w' ⟨v, rfl, hs, hb⟩
  obtain ⟨A', c', rfl, h1, h2⟩ := Kd.S_reads hs
  exact ⟨A', c', rfl, h2, h1, hb⟩

def fewR : List S33 → Nat → Bool
  | [], s => decide (s < 400)
  | x :: r, s => if s < 400 then fewR r (s + x.f3.length) else false
theorem few_l0 (l : List S33) (hl : l.length ≤ 100000000000000) (hf : ∀ x ∈ l, x.f3.length ≤ 100000000000000) (d : Nat) : ∀ (k i s : Nat), i ≤ l.length → l.length - i = d → d < k → stillroomlaw12_few.l0 k l (s : Int) (i : Int) = some (fewR (l.drop i) s) := by
  induction d with
  | zero =>
    intro k i s hi hd hk
    obtain ⟨k, rfl⟩ : ∃ m, k = m + 1 := ⟨k - 1, by omega⟩
    obtain rfl : i = l.length := by omega
    simp only [stillroomlaw12_few.l0]
    rw [if_neg (by omega), List.drop_length]
    simp only [fewR, Option.some.injEq, decide_eq_decide]
    omega
  | succ d ih =>
    intro k i s hi hd hk
    obtain ⟨k, rfl⟩ : ∃ m, k = m + 1 := ⟨k - 1, by omega⟩
    obtain ⟨x, hx⟩ : ∃ x, l[i]? = some x := ⟨_, List.getElem?_eq_getElem (show i < l.length by omega)⟩
    obtain ⟨hil, hxe⟩ := List.getElem?_eq_some_iff.1 hx
    have hxf := hf x (List.mem_of_getElem? hx)
    simp only [stillroomlaw12_few.l0]
    rw [if_pos (by omega), List.drop_eq_getElem_cons hil, hxe]
    unfold fewR
    by_cases hs : s < 400
    · have h1 := ih k (i + 1) (s + x.f3.length) (by omega) (by omega) (by omega)
      rw [if_pos (by omega), if_pos (by omega), if_pos hs, rdT hx, w64 (by omega)]
      have e : wrap64 ((s : Int) + (x.f3.length : Int)) = ((s + x.f3.length : Nat) : Int) := by unfold wrap64; omega
      rw [e]
      exact h1
    · rw [if_neg (by omega), if_neg hs]
      simp only [Option.some.injEq, decide_eq_false_iff_not]
      omega
theorem few_ok (w : World) (A : Option Addr) (n c : Nat) (l : List S33) (h : Kd.C k33 w A n l) (hc : n ≤ c) (hl : l.length ≤ 100000000000000) (hf : ∀ x ∈ l, x.f3.length ≤ 100000000000000) :
    Calls Try.prog 8 #[.slice A n c] w fun e w' => e = .returned (.bool (fewR l l.length)) ∧ ∃ m, w' = w.drewN m := by
  obtain rfl : l.length = n := h.1
  have hrun : stillroomlaw12_few.f (l.length + 1) l = some (fewR l l.length) := by
    unfold stillroomlaw12_few.f
    have := few_l0 l hl hf l.length (l.length + 1) 0 l.length (Nat.zero_le _) (by omega) (by omega)
    simpa using this
  refine (stillroomlaw12_few.calls (l.length + 1) A c l _ w h hc hrun).mono ?_
  rintro e w' ⟨rfl, hd⟩
  exact ⟨rfl, hd.out⟩
theorem few_yes : ∀ {l : List S33} {s : Nat}, fewR l s = true → s < 400 ∧ ∀ x ∈ l, x.f3.length < 400
  | [], s, h => ⟨by simpa [fewR] using h, by simp⟩
  | x :: r, s, h => by
    unfold fewR at h
    split at h
    · rename_i hs
      obtain ⟨h1, h2⟩ := few_yes h
      refine ⟨hs, fun y hy => ?_⟩
      rcases List.mem_cons.1 hy with rfl | hy
      · omega
      · exact h2 y hy
    · cases h

theorem same_l0 (a b : List ByteArray) (hlen : a.length = b.length) (ha : a.length ≤ 1000000000) (d : Nat) : ∀ (k i : Nat), i ≤ a.length → a.length - i = d → d < k → ∃ r, stillroomlaw12_same.l0 k a b (i : Int) = some r ∧ (r = true ↔ a.drop i = b.drop i) := by
  induction d with
  | zero =>
    intro k i hi hd hk
    obtain ⟨k, rfl⟩ : ∃ m, k = m + 1 := ⟨k - 1, by omega⟩
    obtain rfl : i = a.length := by omega
    refine ⟨true, ?_, by rw [List.drop_length, hlen, List.drop_length]; simp⟩
    simp only [stillroomlaw12_same.l0]
    rw [if_neg (by omega)]
  | succ d ih =>
    intro k i hi hd hk
    obtain ⟨k, rfl⟩ : ∃ m, k = m + 1 := ⟨k - 1, by omega⟩
    obtain ⟨x, hx⟩ : ∃ x, a[i]? = some x := ⟨_, List.getElem?_eq_getElem (show i < a.length by omega)⟩
    obtain ⟨y, hy⟩ : ∃ y, b[i]? = some y := ⟨_, List.getElem?_eq_getElem (show i < b.length by omega)⟩
    obtain ⟨hil, hxe⟩ := List.getElem?_eq_some_iff.1 hx
    obtain ⟨hib, hye⟩ := List.getElem?_eq_some_iff.1 hy
    simp only [stillroomlaw12_same.l0]
    rw [if_pos (by omega), if_pos (by omega), if_pos (by omega), rdO hx, rdO hy, w64 (by omega), List.drop_eq_getElem_cons hil, List.drop_eq_getElem_cons hib, hxe, hye]
    by_cases e : x = y
    · obtain ⟨r, h1, h2⟩ := ih k (i + 1) (by omega) (by omega) (by omega)
      refine ⟨r, by rw [if_pos (str_eq.2 e)]; exact h1, ?_⟩
      rw [h2, e]
      simp
    · exact ⟨false, by rw [if_neg (fun h => e (str_eq.1 h))], by simp [e]⟩
open Classical in
noncomputable def eqL (a b : List ByteArray) : Bool := decide (a = b)
theorem eqL_iff {a b : List ByteArray} : eqL a b = true ↔ a = b := by classical simp [eqL]
theorem same_ok (w : World) (F G : Nat → Prop) (A B : Option Addr) (n m c d : Nat) (a b : List ByteArray) (ha : Sl w F 1 (.slice A n c) n (strs a)) (hb : Sl w G 1 (.slice B m d) m (strs b)) (hn : n ≤ 1000000000) (hm : m ≤ 1000000000) :
    Calls Try.prog 14 #[.slice A n c, .slice B m d] w fun e w' => e = .returned (.bool (eqL a b)) ∧ ∃ q, w' = w.drewN q := by
  obtain rfl : a.length = n := by have := ha.1; rw [strs_length, Nat.mul_one] at this; exact this
  obtain rfl : b.length = m := by have := hb.1; rw [strs_length, Nat.mul_one] at this; exact this
  have hca : a.length ≤ c := by obtain ⟨_, A', c', hv, hc, _⟩ := ha; simp only [Value.slice.injEq] at hv; omega
  have hcb : b.length ≤ d := by obtain ⟨_, A', c', hv, hc, _⟩ := hb; simp only [Value.slice.injEq] at hv; omega
  have hrun : stillroomlaw12_same.f (a.length + 1) a b = some (eqL a b) := by
    unfold stillroomlaw12_same.f
    by_cases hl : a.length = b.length
    · rw [if_pos (by omega)]
      obtain ⟨r, h1, h2⟩ := same_l0 a b hl hn a.length (a.length + 1) 0 (Nat.zero_le _) (by omega) (by omega)
      have h1 : stillroomlaw12_same.l0 (a.length + 1) a b 0 = some r := h1
      rw [h1]
      congr 1
      rw [Bool.eq_iff_iff, h2, eqL_iff]
      simp
    · rw [if_neg (by omega)]
      congr 1
      cases e : eqL a b with
      | false => rfl
      | true => exact (hl (by rw [eqL_iff.1 e])).elim
  refine (stillroomlaw12_same.calls (a.length + 1) A c a B d b _ w (C_of_sl ha (by omega)) hca (C_of_sl hb (by omega)) hcb hrun).mono ?_
  rintro e w' ⟨rfl, hd⟩
  exact ⟨rfl, hd.out⟩
end Go.Proofs.Ytcffmpjdonncgaa
