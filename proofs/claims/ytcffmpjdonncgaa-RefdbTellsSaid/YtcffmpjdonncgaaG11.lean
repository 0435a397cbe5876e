/- RefdbX: what the reference computes, in plain: find, has, Wrong. -/
import Derived.Test.YtcffmpjdonncgaaG10
import Derived.Test.YtcffmpjdonncgaaPRefx1
namespace Go.Proofs.Ytcffmpjdonncgaa
open Go.RowKit Go.Proofs.YtcffmpjdonncgaaW.PrintWords
open Go.Proofs.Ytcffmpjdonncgaa.PRef

/-- with enough rounds the answer is r -/
def Ev {α : Type} (g : Nat → Option α) (r : α) : Prop := ∃ k0, ∀ k, k0 ≤ k → g k = some r
theorem Ev.step {α : Type} {g g' : Nat → Option α} {r : α} (h : Ev g' r) (e : ∀ k, g (k + 1) = g' k) : Ev g r := by
  obtain ⟨k0, h⟩ := h
  refine ⟨k0 + 1, fun k hk => ?_⟩
  obtain ⟨m, rfl⟩ : ∃ m, k = m + 1 := ⟨k - 1, by omega⟩
  rw [e, h m (by omega)]
theorem Ev.congr {α : Type} {g g' : Nat → Option α} {r : α} (h : Ev g r) (e : ∀ k, g' k = g k) : Ev g' r := by
  obtain ⟨k0, h⟩ := h
  exact ⟨k0, fun k hk => (e k).trans (h k hk)⟩
theorem Ev.const {α : Type} (r : α) : Ev (fun _ => some r) r := ⟨0, fun _ _ => rfl⟩
theorem Ev.bind {α β : Type} {g : Nat → Option α} {F : α → Nat → Option β} {a : α} {r : β} (h : Ev g a) (h2 : Ev (F a) r) : Ev (fun k => (g k).bind fun t => F t k) r := by
  obtain ⟨k0, h⟩ := h
  obtain ⟨k1, h2⟩ := h2
  refine ⟨max k0 k1, fun k hk => ?_⟩
  show (g k).bind _ = _
  rw [h k (by omega)]
  exact h2 k (by omega)
theorem Ev.loop {α : Type} (g : Nat → Nat → Option α) (n : Nat) {r : α} (hs : ∀ i, i < n → Ev (fun k => g k (i + 1)) r → Ev (fun k => g k i) r) (he : Ev (fun k => g k n) r) : Ev (fun k => g k 0) r := by
  have : ∀ d i, i + d = n → Ev (fun k => g k i) r := by
    intro d
    induction d with
    | zero =>
      intro i hi
      obtain rfl : i = n := by omega
      exact he
    | succ d ih => intro i hi; exact hs i (by omega) (ih (i + 1) (by omega))
  exact this n 0 (by omega)
theorem Ev.at {α : Type} {g : Nat → Option α} {r : α} (h : Ev g r) : ∃ k, g k = some r := by obtain ⟨k, h⟩ := h; exact ⟨k, h k (Nat.le_refl _)⟩
theorem w64' {n : Nat} (h : n ≤ 1000000000000000000) : wrap64 ((n : Int) + 1) = ((n + 1 : Nat) : Int) := w64 h

/-! ### find -/
theorem find_no {l : List S33} (hl : l.length ≤ 1000000000) {p : ByteArray} (h : p ∉ l.map (·.f0)) : Ev (fun k => stillroomref12_find.f k l p) (-1) := by
  unfold stillroomref12_find.f
  refine Ev.loop (fun k i => stillroomref12_find.l0 k l p (i : Int)) l.length (fun i hi hn => ?_) ?_
  · obtain ⟨x, hx⟩ : ∃ x, l[i]? = some x := ⟨_, List.getElem?_eq_getElem hi⟩
    refine hn.step fun k => ?_
    simp only [stillroomref12_find.l0]
    rw [if_pos (by omega), if_pos (by omega), rdT hx, if_neg (fun e => h (by rw [← str_eq.1 e]; exact List.mem_map.2 ⟨x, List.mem_of_getElem? hx, rfl⟩)), w64 (by omega)]
  · refine (Ev.const (-1 : Int)).step fun k => ?_
    simp only [stillroomref12_find.l0]
    rw [if_neg (by omega)]
theorem find_yes {l : List S33} (hl : l.length ≤ 1000000000) {p : ByteArray} {n : Nat} {x : S33} (hx : l[n]? = some x) (hp : x.f0 = p) (h : p ∉ (l.take n).map (·.f0)) : Ev (fun k => stillroomref12_find.f k l p) (n : Int) := by
  have hnl := (List.getElem?_eq_some_iff.1 hx).1
  unfold stillroomref12_find.f
  refine Ev.loop (fun k i => stillroomref12_find.l0 k l p (i : Int)) n (fun i hi hn => ?_) ?_
  · obtain ⟨y, hy⟩ : ∃ y, l[i]? = some y := ⟨_, List.getElem?_eq_getElem (show i < l.length by omega)⟩
    refine hn.step fun k => ?_
    simp only [stillroomref12_find.l0]
    have hne : ¬ y.f0.toList = p.toList := fun e => h (by
      rw [← str_eq.1 e]
      exact List.mem_map.2 ⟨y, List.mem_of_getElem? (i := i) (by rw [List.getElem?_take, if_pos hi]; exact hy), rfl⟩)
    rw [if_pos (by omega), if_pos (by omega), rdT hy, if_neg hne, w64 (by omega)]
  · refine (Ev.const (n : Int)).step fun k => ?_
    simp only [stillroomref12_find.l0]
    rw [if_pos (by omega), if_pos (by omega), rdT hx, if_pos (str_eq.2 hp)]
/-- the first place of a path -/
theorem first_at {l : List S33} {p : ByteArray} (h : p ∈ l.map (·.f0)) : ∃ n x, l[n]? = some x ∧ x.f0 = p ∧ p ∉ (l.take n).map (·.f0) := by
  induction l with
  | nil => cases h
  | cons a l ih =>
    by_cases e : a.f0 = p
    · exact ⟨0, a, rfl, e, by simp⟩
    · have : p ∈ l.map (·.f0) := by
        rw [List.map_cons] at h
        exact (List.mem_cons.1 h).elim (fun h => absurd h.symm e) id
      obtain ⟨n, x, h1, h2, h3⟩ := ih this
      refine ⟨n + 1, x, by simpa using h1, h2, ?_⟩
      rw [List.take_succ_cons, List.map_cons, List.mem_cons, not_or]
      exact ⟨fun h => e h.symm, h3⟩
theorem find_in {l : List S33} (hl : l.length ≤ 1000000000) {p : ByteArray} (h : p ∈ l.map (·.f0)) : ∃ (n : Nat) (x : S33), l[n]? = some x ∧ x.f0 = p ∧ Ev (fun k => stillroomref12_find.f k l p) (n : Int) := by
  obtain ⟨n, x, h1, h2, h3⟩ := first_at h
  exact ⟨n, x, h1, h2, find_yes hl h1 h2 h3⟩
/-! ### has -/
theorem has_ev {l : List ByteArray} (hl : l.length ≤ 1000000000) (p : ByteArray) : Ev (fun k => stillroomref12_has.f k l p) (inB l p) := by
  unfold stillroomref12_has.f
  by_cases h : p ∈ l
  · rw [inB_iff.2 h]
    obtain ⟨n, hn⟩ := List.getElem?_of_mem h
    have key : ∀ m, m ≤ n → Ev (fun k => stillroomref12_has.l0 k l p ((n - m : Nat) : Int)) true := by
      have hnl := (List.getElem?_eq_some_iff.1 hn).1
      intro m
      induction m with
      | zero =>
        intro _
        refine (Ev.const true).step fun k => ?_
        simp only [stillroomref12_has.l0, Nat.sub_zero]
        rw [if_pos (by omega), if_pos (by omega), rdO hn, if_pos rfl]
      | succ m ih =>
        intro hm
        obtain ⟨y, hy⟩ : ∃ y, l[n - (m + 1)]? = some y := ⟨_, List.getElem?_eq_getElem (by omega)⟩
        by_cases e : y = p
        · refine (Ev.const true).step fun k => ?_
          simp only [stillroomref12_has.l0]
          rw [if_pos (by omega), if_pos (by omega), rdO hy, if_pos (str_eq.2 e)]
        · refine (ih (by omega)).step fun k => ?_
          simp only [stillroomref12_has.l0]
          rw [if_pos (by omega), if_pos (by omega), rdO hy, if_neg (fun h => e (str_eq.1 h)), w64 (by omega), show n - (m + 1) + 1 = n - m by omega]
    have := key n (Nat.le_refl _)
    rw [Nat.sub_self] at this
    exact this
  · rw [inB_no h]
    refine Ev.loop (fun k i => stillroomref12_has.l0 k l p (i : Int)) l.length (fun i hi hn => ?_) ?_
    · obtain ⟨x, hx⟩ : ∃ x, l[i]? = some x := ⟨_, List.getElem?_eq_getElem hi⟩
      refine hn.step fun k => ?_
      simp only [stillroomref12_has.l0]
      rw [if_pos (by omega), if_pos (by omega), rdO hx, if_neg (fun e => h (by rw [← str_eq.1 e]; exact List.mem_of_getElem? hx)), w64 (by omega)]
    · refine (Ev.const false).step fun k => ?_
      simp only [stillroomref12_has.l0]
      rw [if_neg (by omega)]
/-! ### Wrong -/
theorem nodup_of_first {l : List S33} (h : ∀ j x, l[j]? = some x → x.f0 ∉ (l.take j).map (·.f0)) : (l.map (·.f0)).Nodup := by
  rw [List.Nodup, List.pairwise_iff_getElem]
  intro i j hi hj hij e
  rw [List.length_map] at hi hj
  have hx : l[j]? = some l[j] := List.getElem?_eq_getElem hj
  refine h j _ hx ?_
  rw [List.getElem_map, List.getElem_map] at e
  refine List.mem_map.2 ⟨l[i], ?_, e⟩
  exact List.mem_of_getElem? (i := i) (by rw [List.getElem?_take, if_pos hij]; exact List.getElem?_eq_getElem hi)
theorem first_of_nodup {l : List S33} (h : (l.map (·.f0)).Nodup) {j : Nat} {x : S33} (hx : l[j]? = some x) : x.f0 ∉ (l.take j).map (·.f0) := by
  have : (l.map (·.f0))[j]? = some x.f0 := by rw [List.getElem?_map, hx]; rfl
  have := nodup_take h this
  rwa [← List.map_take] at this
theorem wrong_ev {l : List S33} (hl : l.length ≤ 4096) (hf : ∀ x ∈ l, x.f3.length ≤ 1000000) : Ev (fun k => stillroomref12_Wrong.f k l) (newErr l) := by
  have key1 : (l.map (·.f0)).Nodup → ∀ d i, i + d = l.length → (∀ j x, j < i → l[j]? = some x → ∀ t ∈ x.f3, t ∈ l.map (·.f0)) → Ev (fun k => stillroomref12_Wrong.l1 k l (i : Int)) (newErr l) := by
    intro hn d
    induction d with
    | zero =>
      intro i hi hall
      obtain rfl : i = l.length := by omega
      have e : newErr l = 0 := by
        unfold newErr
        rw [if_neg (by omega), if_neg (fun h => h hn), if_neg]
        rintro ⟨x, hx, t, ht, h⟩
        obtain ⟨j, hj⟩ := List.getElem?_of_mem hx
        exact h (hall j x (List.getElem?_eq_some_iff.1 hj).1 hj t ht)
      rw [e]
      refine (Ev.const (0 : Int)).step fun k => ?_
      simp only [stillroomref12_Wrong.l1]
      rw [if_neg (by omega)]
    | succ d ih =>
      intro i hi hall
      obtain ⟨x, hx⟩ : ∃ x, l[i]? = some x := ⟨_, List.getElem?_eq_getElem (show i < l.length by omega)⟩
      have hxf := hf x (List.mem_of_getElem? hx)
      have key2 : ∀ d2 q, q + d2 = x.f3.length → (∀ t ∈ x.f3.take q, t ∈ l.map (·.f0)) → Ev (fun k => stillroomref12_Wrong.l2 k l (i : Int) (q : Int)) (newErr l) := by
        intro d2
        induction d2 with
        | zero =>
          intro q hq hqs
          obtain rfl : q = x.f3.length := by omega
          rw [List.take_length] at hqs
          refine (ih (i + 1) (by omega) (fun j y hj hy => ?_)).step fun k => ?_
          · by_cases e : j = i
            · subst e; rw [hx] at hy; injection hy with hy; subst hy; exact hqs
            · exact hall j y (by omega) hy
          · simp only [stillroomref12_Wrong.l2]
            rw [if_pos (by omega), if_pos (by omega), rdT hx, if_neg (by omega), w64 (by omega)]
        | succ d2 ih2 =>
          intro q hq hqs
          obtain ⟨t, ht⟩ : ∃ t, x.f3[q]? = some t := ⟨_, List.getElem?_eq_getElem (show q < x.f3.length by omega)⟩
          obtain ⟨hql, hqe⟩ := List.getElem?_eq_some_iff.1 ht
          by_cases hin : t ∈ l.map (·.f0)
          · obtain ⟨n, y, _, _, hev⟩ := find_in (by omega) hin
            refine (hev.bind (F := fun t107 k => if t107 < 0 then (some 14) else (stillroomref12_Wrong.l2 k l (i : Int) (wrap64 ((q : Int) + 1)))) (r := newErr l) ?_).step fun k => ?_
            · rw [w64 (by omega)]
              have := ih2 (q + 1) (by omega) (fun u hu => by
                rw [List.take_succ_eq_append_getElem hql, hqe] at hu
                rcases List.mem_append.1 hu with hu | hu
                · exact hqs u hu
                · rw [List.mem_singleton] at hu; rw [hu]; exact hin)
              exact this.congr fun k => if_neg (by omega)
            · simp only [stillroomref12_Wrong.l2]
              rw [if_pos (by omega), if_pos (by omega), rdT hx, if_pos (by omega), if_pos (by omega), rdO ht]
          · have e : newErr l = 14 := by
              unfold newErr
              rw [if_neg (by omega), if_neg (fun h => h hn), if_pos ⟨x, List.mem_of_getElem? hx, t, List.mem_of_getElem? ht, hin⟩]
            rw [e]
            refine ((find_no (by omega) hin).bind (F := fun t107 k => if t107 < 0 then (some 14) else (stillroomref12_Wrong.l2 k l (i : Int) (wrap64 ((q : Int) + 1)))) (r := (14 : Int)) ⟨0, fun k _ => if_pos (by decide)⟩).step fun k => ?_
            simp only [stillroomref12_Wrong.l2]
            rw [if_pos (by omega), if_pos (by omega), rdT hx, if_pos (by omega), if_pos (by omega), rdO ht]
      refine (key2 x.f3.length 0 (by omega) (by simp)).step fun k => ?_
      simp only [stillroomref12_Wrong.l1]
      rw [if_pos (by omega)]
      rfl
  have key0 : ∀ d i, i + d = l.length → (∀ j x, j < i → l[j]? = some x → x.f0 ∉ (l.take j).map (·.f0)) → Ev (fun k => stillroomref12_Wrong.l0 k l (i : Int)) (newErr l) := by
    intro d
    induction d with
    | zero =>
      intro i hi hall
      obtain rfl : i = l.length := by omega
      have hn : (l.map (·.f0)).Nodup := nodup_of_first fun j x hx => hall j x (List.getElem?_eq_some_iff.1 hx).1 hx
      refine (key1 hn l.length 0 (by omega) (fun j x hj => by omega)).step fun k => ?_
      simp only [stillroomref12_Wrong.l0]
      rw [if_neg (by omega)]
      rfl
    | succ d ih =>
      intro i hi hall
      obtain ⟨x, hx⟩ : ∃ x, l[i]? = some x := ⟨_, List.getElem?_eq_getElem (show i < l.length by omega)⟩
      by_cases hin : x.f0 ∈ (l.take i).map (·.f0)
      · have e : newErr l = 13 := by
          unfold newErr
          rw [if_neg (by omega), if_pos (fun h => first_of_nodup h hx hin)]
        rw [e]
        obtain ⟨n, y, h1, h2, h3⟩ := first_at hin
        have hni : n < i := by have := (List.getElem?_eq_some_iff.1 h1).1; rw [List.length_take] at this; omega
        rw [List.getElem?_take, if_pos hni] at h1
        rw [List.take_take, Nat.min_eq_left (by omega)] at h3
        refine ((find_yes (by omega) h1 h2 h3).bind (F := fun t103 k => if t103 = (i : Int) then (stillroomref12_Wrong.l0 k l (wrap64 ((i : Int) + 1))) else (some 13)) (r := (13 : Int)) ⟨0, fun k _ => if_neg (by omega)⟩).step fun k => ?_
        simp only [stillroomref12_Wrong.l0]
        rw [if_pos (by omega), if_pos (by omega), rdT hx]
      · have hev := find_yes (by omega) hx rfl hin
        have hnx := ih (i + 1) (by omega) (fun j y hj hy => by
          by_cases e : j = i
          · subst e; rw [hx] at hy; injection hy with hy; subst hy; exact hin
          · exact hall j y (by omega) hy)
        refine (hev.bind (F := fun t103 k => if t103 = (i : Int) then (stillroomref12_Wrong.l0 k l (wrap64 ((i : Int) + 1))) else (some 13)) (r := newErr l) ?_).step fun k => ?_
        · rw [w64 (by omega)]
          exact hnx.congr fun k => if_pos rfl
        · simp only [stillroomref12_Wrong.l0]
          rw [if_pos (by omega), if_pos (by omega), rdT hx]
  have := key0 l.length 0 (by omega) (fun j x hj => by omega)
  refine this.congr fun k => ?_
  unfold stillroomref12_Wrong.f
  rw [if_neg (by omega)]
  rfl
end Go.Proofs.Ytcffmpjdonncgaa
