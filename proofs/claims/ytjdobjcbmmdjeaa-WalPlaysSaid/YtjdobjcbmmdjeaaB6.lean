import Derived.Test.YtjdobjcbmmdjeaaB5
namespace Go.Proofs.Ytjdobjcbmmdjeaa
open Go.RowKit

/-- the last flush among the first k events -/
def sureK (l : List (Int × Int × Int)) : Nat → Nat
  | 0 => 0
  | k + 1 => if l[k]? = some (0, 2, 0) then k else sureK l k

theorem E3_get {l : List (Int × Int × Int)} {i : Nat} {x : Int × Int × Int} (h : l[i]? = some x) : (E3 l)[i * 3]? = some (.int .i64 x.1) ∧ (E3 l)[i * 3 + 1]? = some (.int .i64 x.2.1) ∧ (E3 l)[i * 3 + 2]? = some (.int .i64 x.2.2) := by
  induction l generalizing i with
  | nil => simp at h
  | cons y l ih =>
    cases i with
    | zero =>
      simp at h; subst h
      exact ⟨rfl, rfl, rfl⟩
    | succ i =>
      simp at h
      have := ih h
      have e : E3 (y :: l) = [.int .i64 y.1, .int .i64 y.2.1, .int .i64 y.2.2] ++ E3 l := rfl
      rw [e]
      have q : ∀ j, ([Value.int .i64 y.1, .int .i64 y.2.1, .int .i64 y.2.2] ++ E3 l)[j + 3]? = (E3 l)[j]? := fun j => rfl
      refine ⟨?_, ?_, ?_⟩
      · rw [show (i + 1) * 3 = i * 3 + 3 from by omega, q]; exact this.1
      · rw [show (i + 1) * 3 + 1 = i * 3 + 1 + 3 from by omega, q]; exact this.2.1
      · rw [show (i + 1) * 3 + 2 = i * 3 + 2 + 3 from by omega, q]; exact this.2.2

set_option maxHeartbeats 1000000 in
/-- block.sure -/
theorem sure_any (ad : Addr) (m c : Nat) (l : List (Int × Int × Int)) (w : World) (h : m = 0 ∨ ∀ j u, (E3 (l.take m))[j]? = some u → w.cell? (ad.add j) = some u) (hm : m ≤ l.length) (hm2 : m ≤ 1000000000) (had : ad.spot = none) (hb : m = 0 ∨ ad.block < w.heap.size) :
    Calls Try.prog 42 #[.slice (some ad) m c] w fun e w' => e = .returned (.int .i64 (sureK l m)) ∧ Below w.heap.size w w' := by
  obtain ⟨b, o, s⟩ := ad
  simp only at had hb
  subst had
  have HC : Hid (∀ i, i < m → ∃ x, l[i]? = some x ∧ b < w.heap.size ∧ w.cell? ⟨b, o + i * 3, none⟩ = some (.int .i64 x.1) ∧ w.cell? ⟨b, o + i * 3 + 1, none⟩ = some (.int .i64 x.2.1) ∧ w.cell? ⟨b, o + i * 3 + 2, none⟩ = some (.int .i64 x.2.2)) := by
    intro i hi
    rcases h with h | h
    · omega
    · have hx : (l.take m)[i]? = some (l[i]'(by omega)) := by rw [List.getElem?_take, if_pos hi, List.getElem?_eq_getElem (by omega)]
      obtain ⟨g1, g2, g3⟩ := E3_get hx
      have q1 := h _ _ g1
      have q2 := h _ _ g2
      have q3 := h _ _ g3
      rw [add_lit0] at q1 q2 q3
      exact ⟨_, List.getElem?_eq_getElem (by omega), by omega, q1, by rw [Nat.add_assoc]; exact q2, by rw [Nat.add_assoc]; exact q3⟩
  clear h hb
  go_enter Try.func42, Try.ntmps42
  go_wp2_with fail
  go_loopg [3, 8] m (fun kq n i wr => ∃ j : Nat, i = .int .i64 j ∧ j ≤ m ∧ kq = m - j ∧ n = .int .i64 (sureK l j) ∧ Hid (Below w.heap.size w wr))
  case atStart => exact ⟨0, rfl, by omega, rfl, rfl, Below.refl _ _⟩
  case round =>
    obtain ⟨j, rfl, hj, rfl, rfl, hb⟩ := hrel
    have hsz := hb.out.size
    by_cases hlt : j < m
    · obtain ⟨x, hx, hbl, d1, d2, d3⟩ := HC.out j hlt
      have e1 : wr.cell? ⟨b, o + j * 3, none⟩ = some (.int .i64 x.1) := (hb.out.cell (p := ⟨b, _, none⟩) hbl).trans d1
      have e2 : wr.cell? ⟨b, o + j * 3 + 1, none⟩ = some (.int .i64 x.2.1) := (hb.out.cell (p := ⟨b, _, none⟩) hbl).trans d2
      have e3 : wr.cell? ⟨b, o + j * 3 + 2, none⟩ = some (.int .i64 x.2.2) := (hb.out.cell (p := ⟨b, _, none⟩) hbl).trans d3
      have hblr : b < wr.heap.size := by omega
      have HXX := Lib.hid hx
      clear d1 d2 d3 hx
      go_wp2_with fail
      all_goals
        go_roundg (m - (j + 1))
        case measure => omega
        case rel =>
          refine ⟨j + 1, by go_num, by omega, rfl, ?_, ?_⟩
          · have hx := HXX.out
            obtain ⟨x1, x2, x3⟩ := x
            simp only at *
            simp only [sureK, hx, Option.some.injEq, Prod.mk.injEq]
            first
              | (rw [if_pos ⟨‹_›, ‹_›, ‹_›⟩])
              | (rw [if_neg (by rintro ⟨q1, q2, q3⟩; contradiction)])
          · exact hb.out.alloc hsz _
    · go_wp2
      go_ret
      obtain rfl : j = m := by omega
      exact ⟨rfl, hb.out⟩

theorem sure_own (A : Option Addr) (m c : Nat) (l : List (Int × Int × Int)) (w : World) (h : w.ownsRow 0 87 3 (.slice A l.length c) l.length (E3 l)) (hm : m ≤ l.length) (hm2 : l.length ≤ 1000000000) :
    Calls Try.prog 42 #[.slice A m c] w fun e w' => e = .returned (.int .i64 (sureK l m)) ∧ Below w.heap.size w w' := by
  rcases h.2 with ⟨hv, h0⟩ | ⟨g, cap, cur, hv, _, hg, _⟩
  · simp only [Value.slice.injEq] at hv
    obtain ⟨rfl, _, rfl⟩ := hv
    obtain rfl : m = 0 := by omega
    clear h hm hm2 h0
    go_enter Try.func42, Try.ntmps42
    go_wp2_with fail
    refine wp_loop_once ?_
    go_wp2
    go_ret
    exact ⟨rfl, Below.refl _ _⟩
  · have hA : A = some ⟨g, 0, none⟩ := by simp only [Value.slice.injEq] at hv; exact hv.1
    subst hA
    refine sure_any ⟨g, 0, none⟩ m c l w (.inr fun j u hu => ?_) hm (by omega) rfl (.inr ?_)
    · refine h.cells rfl j u ?_
      have hj : j < m * 3 := by
        have := (List.getElem?_eq_some_iff.1 hu).1
        rw [E3_length, List.length_take] at this; omega
      have e : E3 l = E3 (l.take m) ++ E3 (l.drop m) := by rw [← E3_append, List.take_append_drop]
      rw [e, List.getElem?_append_left (by rw [E3_length, List.length_take]; omega)]
      exact hu
    · exact (Array.getElem?_eq_some_iff.1 hg).1
end Go.Proofs.Ytjdobjcbmmdjeaa
