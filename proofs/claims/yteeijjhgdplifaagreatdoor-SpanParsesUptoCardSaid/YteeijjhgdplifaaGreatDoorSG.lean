/- Spans: a store of one cut into a row of the call's own; the built-in clear at cuts. -/
import Derived.Test.YteeijjhgdplifaaGreatDoorSF
import Derived.Test.YteeijjhgdplifaaGreatDoorSD
import Derived.Deep.MidRow
import Derived.Lib.SlicesCompact
namespace Go.Proofs.YteeijjhgdplifaaGreatDoor
open Go.RowKit

/-- a list with vs written over it from place o on -/
def over {α : Type} : List α → Nat → List α → List α
  | l, _, [] => l
  | l, o, v :: r => over (l.set o v) (o + 1) r
theorem over_len {α : Type} : ∀ (r l : List α) (o : Nat), (over l o r).length = l.length
  | [], _, _ => rfl
  | v :: r, l, o => by rw [over, over_len r, List.length_set]
theorem over_get {α : Type} : ∀ (r l : List α) (o j : Nat), o + r.length ≤ l.length → (over l o r)[j]? = if j < o then l[j]? else if j < o + r.length then r[j - o]? else l[j]?
  | [], l, o, j, _ => by
    rw [over]
    simp only [List.length_nil, Nat.add_zero]
    split
    · rfl
    · rfl
  | v :: r, l, o, j, h => by
    rw [List.length_cons] at h
    rw [over, over_get r (l.set o v) (o + 1) j (by rw [List.length_set]; omega), List.length_cons]
    by_cases h1 : j < o
    · rw [if_pos (by omega), if_pos h1, List.getElem?_set_ne (by omega)]
    · rw [if_neg h1]
      by_cases h2 : j = o
      · subst h2
        rw [if_pos (by omega), if_pos (by omega), Nat.sub_self, List.getElem?_set_self (by omega)]
        rfl
      · rw [if_neg (by omega)]
        by_cases h3 : j < o + (r.length + 1)
        · rw [if_pos (by omega), if_pos h3, show j - o = (j - (o + 1)) + 1 by omega, List.getElem?_cons_succ]
        · rw [if_neg (by omega), if_neg h3, List.getElem?_set_ne (by omega)]
theorem Blk.setCells_ {g : Nat} {t : TypeId} : ∀ (vs cs : List Value) (o : Nat) {w : World}, Blk w g t cs → Blk (w.setCells g o vs) g t (over cs o vs)
  | [], _, _, _, h => h
  | v :: r, cs, o, _, h => Blk.setCells_ r (cs.set o v) (o + 1) (h.set_ o v)
theorem Below.setCells_ {B g : Nat} {a : World} (hg : B ≤ g) : ∀ (vs : List Value) (o : Nat) {w : World}, Below B a w → Below B a (w.setCells g o vs)
  | [], _, _, h => h
  | v :: r, o, _, h => Below.setCells_ hg r (o + 1) (h.setCell hg v)
theorem over_cut {ds : List Cut} (hd : Oks ds) {k : Nat} {u : Cut} (hu : u.Ok) (hk : k < ds.length) : over (cutsL ds) (k * 7) u.cells = cutsL (ds.set k u) := by
  have hd' : Oks (ds.set k u) := fun x hx => by
    rcases List.mem_or_eq_of_mem_set hx with h | rfl
    · exact hd x h
    · exact hu
  have h7 := Cut.cells_len hu
  refine List.ext_getElem? fun i => ?_
  rw [over_get _ _ _ _ (by rw [cutsL_len hd, h7]; omega), h7]
  by_cases hi : i < ds.length * 7
  · obtain ⟨q, j, hj, rfl⟩ : ∃ q j, j < 7 ∧ i = q * 7 + j := ⟨i / 7, i % 7, Nat.mod_lt _ (by omega), by omega⟩
    have hq : q < ds.length := by omega
    by_cases hqk : q = k
    · subst hqk
      rw [if_neg (by omega), if_pos (by omega), show q * 7 + j - q * 7 = j by omega]
      obtain ⟨v, hv⟩ : ∃ v, u.cells[j]? = some v := ⟨_, List.getElem?_eq_getElem (by omega)⟩
      rw [hv]
      exact (cells_in hd' (List.getElem?_set_self hq) hv).symm
    · obtain ⟨c, hc⟩ : ∃ c, ds[q]? = some c := ⟨_, List.getElem?_eq_getElem hq⟩
      obtain ⟨v, hv⟩ : ∃ v, c.cells[j]? = some v := ⟨_, List.getElem?_eq_getElem (by rw [Cut.cells_len (hd c (List.mem_of_getElem? hc))]; exact hj)⟩
      have e1 := cells_in hd hc hv
      have e2 := cells_in hd' (k := q) (by rw [List.getElem?_set_ne (by omega)]; exact hc) hv
      rw [e2]
      by_cases h : q * 7 + j < k * 7
      · rw [if_pos h, e1]
      · rw [if_neg h, if_neg (by omega), e1]
  · rw [if_neg (by omega), if_neg (by omega), List.getElem?_eq_none (by rw [cutsL_len hd]; omega), List.getElem?_eq_none (by rw [cutsL_len hd', List.length_set]; omega)]
theorem over_take {α : Type} : ∀ (r l : List α) (o m : Nat), o + r.length ≤ m → m ≤ l.length → (over l o r).take m = over (l.take m) o r := by
  intro r l o m h1 h2
  refine List.ext_getElem? fun i => ?_
  rw [over_get _ _ _ _ (by rw [List.length_take]; omega), List.getElem?_take, over_get _ _ _ _ (by omega), List.getElem?_take]
  by_cases h : i < m
  · rw [if_pos h]
    rw [if_pos h]
  · rw [if_neg h]
    rw [if_neg h, if_neg (by omega), if_neg (by omega)]
theorem over_past {α : Type} : ∀ (r l : List α) (o m : Nat), m ≤ o → (over l o r).take m = l.take m
  | [], _, _, _, _ => rfl
  | v :: r, l, o, m, h => by
    rw [over, over_past r _ (o + 1) m (by omega)]
    refine List.ext_getElem? fun i => ?_
    rw [List.getElem?_take, List.getElem?_take]
    split
    · rw [List.getElem?_set_ne (by omega)]
    · rfl
/-- one cut of a row of the call's own, stored -/
theorem CRow.set {w : World} {B g c n : Nat} {ds : List Cut} (h : CRow w B (some ⟨g, 0, none⟩) c n ds) {k : Nat} {u : Cut} (hk : k < n) (hu : u.Ok) : CRow (w.setCells g (k * 7) u.cells) B (some ⟨g, 0, none⟩) c n (ds.set k u) := by
  have h7 := Cut.cells_len hu
  refine ⟨by rw [List.length_set]; exact h.1, fun x hx => ?_, ?_, h.2.2.2⟩
  · rcases List.mem_or_eq_of_mem_set hx with h' | rfl
    · exact h.2.1 x h'
    · exact hu
  · rw [← over_cut h.2.1 hu (by rw [h.1]; exact hk)]
    obtain ⟨hl, h2⟩ := h.2.2.1
    refine ⟨by rw [over_len]; exact hl, ?_⟩
    rcases h2 with ⟨hv, _⟩ | ⟨g', cap, cur, hv, hb, hh, h3, h4, h5, h6⟩
    · simp at hv
    · simp only [Value.slice.injEq, Option.some.injEq, Addr.mk.injEq, and_true, true_and] at hv
      obtain ⟨rfl, rfl⟩ := hv
      have hB : Blk w g 57 cur.toList := by unfold Blk; simpa using hh
      have hB' := Blk.setCells_ u.cells _ (k * 7) hB
      refine .inr ⟨g, c, (over cur.toList (k * 7) u.cells).toArray, rfl, hb, hB', h3, h4, by simp [over_len, h5], ?_⟩
      rw [← h6]
      exact over_take _ _ _ _ (by omega) (by simp only [Array.length_toList]; rw [h5]; exact Nat.mul_le_mul_right _ h3)
/-- what is stored behind a row's end is none of its cuts -/
theorem CRow.past {w : World} {B g c n : Nat} {ds : List Cut} (h : CRow w B (some ⟨g, 0, none⟩) c n ds) {o : Nat} (ho : n * 7 ≤ o) (vs : List Value) : CRow (w.setCells g o vs) B (some ⟨g, 0, none⟩) c n ds := by
  refine ⟨h.1, h.2.1, ?_, h.2.2.2⟩
  obtain ⟨hl, h2⟩ := h.2.2.1
  refine ⟨hl, ?_⟩
  rcases h2 with ⟨hv, _⟩ | ⟨g', cap, cur, hv, hb, hh, h3, h4, h5, h6⟩
  · simp at hv
  · simp only [Value.slice.injEq, Option.some.injEq, Addr.mk.injEq, and_true, true_and] at hv
    obtain ⟨rfl, rfl⟩ := hv
    have hB : Blk w g 57 cur.toList := by unfold Blk; simpa using hh
    have hB' := Blk.setCells_ vs _ o hB
    refine .inr ⟨g, c, (over cur.toList o vs).toArray, rfl, hb, hB', h3, h4, by simp [over_len, h5], ?_⟩
    rw [← h6]
    exact over_past _ _ _ _ ho
theorem CRow.take {w : World} {B c n : Nat} {A : Option Addr} {ds : List Cut} (h : CRow w B A c n ds) {k : Nat} (hk : k ≤ n) : CRow w B A c k (ds.take k) := by
  refine ⟨by rw [List.length_take, h.1]; omega, fun x hx => h.2.1 x (List.mem_of_mem_take hx), ?_, fun b hb => h.2.2.2 b (by
    cases A with
    | none => simp [Value.ownBlock] at hb
    | some a => exact hb)⟩
  have := own_take h.2.2.1 hk
  have e : (cutsL ds).take (k * 7) = cutsL (ds.take k) := by
    have hd : Oks ds := h.2.1
    clear this h hk
    induction k generalizing ds with
    | zero => simp [cutsL]
    | succ k ih =>
      cases ds with
      | nil => simp [cutsL]
      | cons d ds =>
        have h7 := Cut.cells_len (hd d (by simp))
        rw [List.take_succ_cons, show cutsL (d :: ds) = d.cells ++ cutsL ds by unfold cutsL; rw [List.flatMap_cons], show cutsL (d :: ds.take k) = d.cells ++ cutsL (ds.take k) by unfold cutsL; rw [List.flatMap_cons], List.take_append, h7, List.take_of_length_le (by omega), show (k + 1) * 7 - 7 = k * 7 by omega, ih (fun x hx => hd x (by simp [hx]))]
  rw [e] at this
  exact this
/-- the built-in clear on the end of a row of cuts: what is stored lies behind place k -/
theorem clear_cuts {w : World} {B g c n : Nat} {ds : List Cut} (h : CRow w B (some ⟨g, 0, none⟩) c n ds) {k : Nat} (hk : k ≤ n) (c' : Nat) (ty : TypeId) :
    ∃ vs, (Builtin.clear_ #[55] ty #[.slice (some ⟨g, k * 7, none⟩) (n - k) c']).run Tryz.prog w = .ok (.tuple #[]) (w.setCells g (k * 7) vs) := by
  rcases Nat.eq_or_lt_of_le hk with rfl | hlt
  · refine ⟨[], ?_⟩
    rw [Nat.sub_self]
    simp [Builtin.clear_, run_underlying Tryz.underlying55, World.setCells]
  · obtain ⟨m, hm⟩ : ∃ m, n - k = m + 1 := ⟨n - k - 1, by omega⟩
    obtain ⟨Z, hZ⟩ : ∃ Z, Z = #[Value.int .i64 0, .int .i64 0, .int .i64 0, .int .i64 0, .int .i64 0, .int .i64 0, .string ⟨#[]⟩] := ⟨_, rfl⟩
    have hz7 : Z.size = 7 := by rw [hZ]; rfl
    have hz1 : ∀ j, j < 7 → (Z[j]!).oneCell' = true := by
      intro j hj
      rw [hZ]
      match j, hj with
      | 0, _ => rfl
      | 1, _ => rfl
      | 2, _ => rfl
      | 3, _ => rfl
      | 4, _ => rfl
      | 5, _ => rfl
      | 6, _ => rfl
    obtain ⟨vs, hvs⟩ : ∃ vs, vs = (Builtin.zeroCells Z (m + 1)).toList := ⟨_, rfl⟩
    have hvl : vs.length = (m + 1) * 7 := by rw [hvs]; simp [Builtin.zeroCells, hz7]
    have hv1 : ∀ v ∈ vs, v.oneCell' = true := by
      intro v hv
      rw [hvs] at hv
      simp only [Builtin.zeroCells, Array.toList_map, Array.toList_range, List.mem_map] at hv
      obtain ⟨i, _, rfl⟩ := hv
      rw [hz7]
      exact hz1 _ (Nat.mod_lt _ (by omega))
    obtain ⟨hl, h2⟩ := h.2.2.1
    rcases h2 with ⟨hv, _⟩ | ⟨g', cap, cur, hv, hb, hh, h3, h4, h5, h6⟩
    · simp at hv
    · simp only [Value.slice.injEq, Option.some.injEq, Addr.mk.injEq, and_true, true_and] at hv
      obtain ⟨rfl, rfl⟩ := hv
      have hst := run_storeCells_cells (P := Tryz.prog) g (k * 7) vs 0 w (fun j hj => by
        have : k * 7 + j < cur.size := by rw [h5]; omega
        simp [World.cell?, hh]
        exact this) (fun j hj => by simp [World.frozen?, hh]) hv1
      rw [Nat.add_zero] at hst
      refine ⟨vs, ?_⟩
      rw [hm]
      have hcz : (Value.agg Z).cells = Z := rfl
      simp [Builtin.clear_, run_underlying Tryz.underlying55, ← hZ, hcz, ← hvs, hst]
end Go.Proofs.YteeijjhgdplifaaGreatDoor
/- Spans: what slices.Compact leaves, by the shelf's words. -/
namespace Go.Proofs.YteeijjhgdplifaaGreatDoor
open Go.RowKit

instance : Inhabited Cut := ⟨⟨0, ⟨[0, 0, 0, 0], 0, []⟩⟩⟩
theorem cmpF_last : ∀ (l : List Cut) (p x : Cut), cmpF p (l ++ [x]) = cmpF p l ++ (if x = (p :: l).getLast (by simp) then [] else [x])
  | [], p, x => by
    rw [List.nil_append, cmpF, cmpF]
    simp only [List.getLast_singleton, List.nil_append]
    rfl
  | c :: l, p, x => by
    rw [List.cons_append, cmpF, cmpF]
    by_cases hc : c = p
    · subst hc
      rw [if_pos rfl, if_pos rfl, cmpF_last l c x]
      congr 2
    · rw [if_neg hc, if_neg hc, cmpF_last l c x]
      rfl
theorem upTo_cmpc (zs : List Cut) : ∀ m, m ≤ zs.length → Lib.compactUpTo zs.toArray m = cmpc (zs.take m)
  | 0, _ => by simp [Lib.compactUpTo, cmpc]
  | m + 1, h => by
    have hm : m < zs.length := by omega
    have hx : zs.toArray[m]! = zs[m] := by simp [hm]
    rw [Lib.compactUpTo_succ, upTo_cmpc zs m (by omega), hx, List.take_succ_eq_append_getElem hm]
    cases m with
    | zero =>
      rw [Lib.keeps_lt_one _ 0 (by omega)]
      simp [cmpc, cmpF]
    | succ m =>
      have hy : zs.toArray[m]! = zs[m] := by simp [show m < zs.length by omega]
      obtain ⟨c, l, hl⟩ : ∃ c l, zs.take (m + 1) = c :: l := by
        cases h0 : zs.take (m + 1) with
        | nil => have := congrArg List.length h0; rw [List.length_take, List.length_nil] at this; omega
        | cons c l => exact ⟨c, l, rfl⟩
      have hlast : (c :: l).getLast (by simp) = zs[m] := by
        have h1 : zs.take (m + 1) = zs.take m ++ [zs[m]] := List.take_succ_eq_append_getElem (by omega)
        simp only [← hl, h1, List.getLast_append, List.getLast_singleton]
        simp
      rw [hl, List.cons_append, cmpc, cmpc, cmpF_last, hlast]
      congr 2
      unfold Lib.keeps
      rw [hx, show m + 1 - 1 = m by omega, hy]
      by_cases e : zs[m + 1] = zs[m]
      · simp [e]
      · simp [e]
end Go.Proofs.YteeijjhgdplifaaGreatDoor
