/- RefdbTurns: infos in memory of the call's own put behind each other; what is told of infos hangs on no order of theirs. -/
import Derived.Test.YtcffmpjdonncgaaG10
import Derived.Test.YtcffmpjdonncgaaRc
namespace Go.Proofs.Ytcffmpjdonncgaa
open Go.RowKit Go.Proofs.YtcffmpjdonncgaaW.PrintWords
open Go.Proofs.Ytcffmpjdonncgaa.PRef

def RowsI (w : World) (l : List S33) (inner : List Value) : Prop := ∀ j x, l[j]? = some x → ∃ A3 c3, (inner.drop (j * 4)).take 4 = [.string x.f0, .string x.f1, .string x.f2, .slice A3 x.f3.length c3] ∧ x.f3.length ≤ c3 ∧ w.ownsRow 0 9 1 (.slice A3 x.f3.length c3) x.f3.length (strs x.f3)
/-- infos in memory of the call's own -/
def OwnI (w : World) (base : Nat) (v : Value) (l : List S33) : Prop := ∃ A c inner, v = .slice A l.length c ∧ w.ownsRow base 33 4 (.slice A l.length c) l.length inner ∧ RowsI w l inner
theorem RowsI.below {w w' : World} {l : List S33} {inner : List Value} (h : RowsI w l inner) (hb : Below w.heap.size w w') : RowsI w' l inner := fun j x hx => by
  obtain ⟨A3, c3, h1, h2, h3⟩ := h j x hx
  exact ⟨A3, c3, h1, h2, own_below h3 hb⟩
theorem OwnI.below {w w' : World} {base : Nat} {v : Value} {l : List S33} (h : OwnI w base v l) (hb : Below w.heap.size w w') : OwnI w' base v l := by
  obtain ⟨A, c, inner, rfl, h1, h2⟩ := h
  exact ⟨A, c, inner, rfl, own_below h1 hb, h2.below hb⟩
theorem OwnI.raise {w : World} {base base' : Nat} {v : Value} {l : List S33} (h : OwnI w base v l) (hb : base' ≤ base) : OwnI w base' v l := by
  obtain ⟨A, c, inner, rfl, h1, h2⟩ := h
  exact ⟨A, c, inner, rfl, own_lower h1 hb, h2⟩
theorem OwnI.of_R {w : World} {base : Nat} {ok : Nat → Prop} {v : Value} {l : List S33} (h : Kd.R k33 33 w base ok v l) : OwnI w base v l := by
  obtain ⟨_, inner, ho, hr⟩ := h
  obtain ⟨A, c, rfl, _, _⟩ := own_form ho
  refine ⟨A, c, inner, rfl, ho, fun j x hx => ?_⟩
  have hM := hr.2 j x hx
  obtain ⟨v3, hcs, hR⟩ := k33_openM hM
  have ho3 := own_of_Rs hR
  obtain ⟨A3, c3, rfl, hc3, _⟩ := own_form ho3
  exact ⟨A3, c3, hcs, hc3, own_lower ho3 (Nat.zero_le _)⟩
theorem OwnI.toC {w : World} {base : Nat} {A : Option Addr} {n c : Nat} {l : List S33} (h : OwnI w base (.slice A n c) l) (hn : n ≤ 1000000000) (hf : ∀ x ∈ l, x.f3.length ≤ 1000000000) : n = l.length ∧ Kd.C k33 w A n l ∧ n ≤ c := by
  obtain ⟨A', c', inner, hv, ho, hr⟩ := h
  simp only [Value.slice.injEq] at hv
  obtain ⟨rfl, rfl, rfl⟩ := hv
  obtain ⟨_, _, hv, hcap, _⟩ := own_form ho
  simp only [Value.slice.injEq] at hv
  refine ⟨rfl, ⟨rfl, by omega, fun hp => ?_⟩, by rw [hv.2.2]; exact hcap⟩
  obtain ⟨b, cap, hv2, _, _⟩ := ho.form hp
  simp only [Value.slice.injEq] at hv2
  obtain ⟨rfl, _, rfl⟩ := hv2
  refine ⟨_, rfl, fun j x hx => ?_⟩
  obtain ⟨A3, c3, hcs, hl3, ho3⟩ := hr j x hx
  refine ⟨_, rfl, k33_mk w x hl3 (C_of_own ho3 (by have := hf x (List.mem_of_getElem? hx); omega)), fun i u hu => ?_⟩
  have hi : inner[j * 4 + i]? = some u := by
    rw [← hcs, List.getElem?_take, List.getElem?_drop] at hu
    split at hu
    · exact hu
    · cases hu
  exact ho.cells rfl (j * k33.sz + i) _ hi
theorem RowsI.append {w : World} {l m : List S33} {i1 i2 : List Value} (h1 : RowsI w l i1) (h2 : RowsI w m i2) (hl : i1.length = l.length * 4) : RowsI w (l ++ m) (i1 ++ i2) := fun j x hx => by
  by_cases hj : j < l.length
  · rw [List.getElem?_append_left hj] at hx
    obtain ⟨A3, c3, hcs, h⟩ := h1 j x hx
    refine ⟨A3, c3, ?_, h⟩
    rw [← hcs, List.drop_append_of_le_length (by omega), List.take_append_of_le_length]
    rw [List.length_drop]; omega
  · rw [List.getElem?_append_right (by omega)] at hx
    obtain ⟨A3, c3, hcs, h⟩ := h2 _ x hx
    refine ⟨A3, c3, ?_, h⟩
    rw [← hcs, List.drop_append, List.drop_eq_nil_of_le (by omega), List.nil_append, hl, Nat.sub_mul]
theorem RowsI.mod {w w' : World} {l : List S33} {inner : List Value} {G : Nat → Prop} {v : Value} {base n : Nat} {xs : List Value} (h : RowsI w l inner) (hm : Mod G w w') (hv : w.ownsRow base 33 4 v n xs) (hG : ∀ q, G q → v.ownBlock = some q) : RowsI w' l inner := fun j x hx => by
  obtain ⟨A3, c3, h1, h2, h3⟩ := h j x hx
  refine ⟨A3, c3, h1, h2, own_mod h3 hm (fun q hq hg => ?_)⟩
  exact own_ne h3 hv (by decide) q hq (hG q hg)
theorem RowsI.one {w : World} {l : List S33} {inner : List Value} (h : RowsI w l inner) (hl : inner.length = l.length * 4) : ∀ u ∈ inner, u.oneCell' = true := fun u hu => by
  obtain ⟨i, hi, rfl⟩ := List.mem_iff_getElem.1 hu
  obtain ⟨x, hx⟩ : ∃ x, l[i / 4]? = some x := ⟨_, List.getElem?_eq_getElem (by omega)⟩
  obtain ⟨A3, c3, hcs, _⟩ := h _ x hx
  have e : ((inner.drop (i / 4 * 4)).take 4)[i % 4]? = some inner[i] := by
    rw [List.getElem?_take, if_pos (by omega), List.getElem?_drop, show i / 4 * 4 + i % 4 = i by omega]
    exact List.getElem?_eq_getElem hi
  rw [hcs] at e
  have h4 : i % 4 < 4 := by omega
  generalize i % 4 = r at e h4
  match r, h4 with
  | 0, _ => simp only [List.getElem?_cons_zero, Option.some.injEq] at e; rw [← e]; rfl
  | 1, _ => simp only [List.getElem?_cons_succ, List.getElem?_cons_zero, Option.some.injEq] at e; rw [← e]; rfl
  | 2, _ => simp only [List.getElem?_cons_succ, List.getElem?_cons_zero, Option.some.injEq] at e; rw [← e]; rfl
  | 3, _ => simp only [List.getElem?_cons_succ, List.getElem?_cons_zero, Option.some.injEq] at e; rw [← e]; rfl

/-! ### No order of the infos -/
section
variable {l m : List S33} (h : ∀ x, x ∈ l ↔ x ∈ m)
include h
theorem keys_alike (p : ByteArray) : p ∈ l.map (·.f0) ↔ p ∈ m.map (·.f0) := by
  rw [List.mem_map, List.mem_map]
  exact ⟨fun ⟨x, hx, e⟩ => ⟨x, (h x).1 hx, e⟩, fun ⟨x, hx, e⟩ => ⟨x, (h x).2 hx, e⟩⟩
theorem Rch.alike {ps : List ByteArray} {p : ByteArray} (hr : Rch l ps p) : Rch m ps p := by
  induction hr with
  | root hp hk => exact .root hp ((keys_alike h _).1 hk)
  | step _ hx ht hk ih => exact .step ih ((h _).1 hx) ht ((keys_alike h _).1 hk)
theorem rch_alike {ps : List ByteArray} {p : ByteArray} : Rch l ps p ↔ Rch m ps p := ⟨Rch.alike h, Rch.alike (fun x => (h x).symm)⟩
theorem known_alike (ps : List ByteArray) : knownErr l ps = knownErr m ps := by
  unfold knownErr
  by_cases hk : ∀ p ∈ ps, p ∈ l.map (·.f0)
  · rw [if_pos hk, if_pos (fun p hp => (keys_alike h p).1 (hk p hp))]
  · rw [if_neg hk, if_neg (fun g => hk (fun p hp => (keys_alike h p).2 (g p hp)))]
theorem cloL_alike (ps : List ByteArray) : cloL l ps = cloL m ps := by
  unfold cloL
  by_cases hk : ∀ p ∈ ps, p ∈ l.map (·.f0)
  · rw [if_pos hk, if_pos (fun p hp => (keys_alike h p).1 (hk p hp))]
    exact rising_ext (RS_rising l ps) (RS_rising m ps) (fun s => RS_mem.trans ((rch_alike h).trans RS_mem.symm))
  · rw [if_neg hk, if_neg (fun g => hk (fun p hp => (keys_alike h p).2 (g p hp)))]
theorem DS_alike (ps : List ByteArray) : DS l ps = DS m ps := rising_ext (DS_rising l ps) (DS_rising m ps) (fun s => by rw [DS_mem, DS_mem, keys_alike h, rch_alike h])
theorem ready_alike (out : List ByteArray) : readyL l out = readyL m out := rising_ext (readyL_rising _ _) (readyL_rising _ _) (fun s => by
  rw [readyL_mem, readyL_mem]
  exact ⟨fun ⟨x, hx, e⟩ => ⟨x, (h x).1 hx, e⟩, fun ⟨x, hx, e⟩ => ⟨x, (h x).2 hx, e⟩⟩)
theorem Ord.alike {out : List ByteArray} (ho : Ord l out) : Ord m out := by
  induction ho with
  | nil => exact .nil
  | snoc _ hr ih => exact .snoc ih (by rw [← ready_alike h]; exact hr)
theorem OrdDone.alike {out : List ByteArray} (ho : OrdDone l out) : OrdDone m out := ⟨Ord.alike h ho.1, by rw [← ready_alike h]; exact ho.2⟩
end
theorem newErr_perm {l m : List S33} (h : l.Perm m) : newErr l = newErr m := by
  unfold newErr
  have hm : ∀ x, x ∈ l ↔ x ∈ m := fun x => h.mem_iff
  have h1 : (∃ x ∈ l, ∃ t ∈ x.f3, t ∉ l.map (fun y => y.f0)) ↔ (∃ x ∈ m, ∃ t ∈ x.f3, t ∉ m.map (fun y => y.f0)) :=
    ⟨fun ⟨x, hx, t, ht, hn⟩ => ⟨x, (hm x).1 hx, t, ht, fun hk => hn ((keys_alike hm t).2 hk)⟩, fun ⟨x, hx, t, ht, hn⟩ => ⟨x, (hm x).2 hx, t, ht, fun hk => hn ((keys_alike hm t).1 hk)⟩⟩
  have h2 : (l.map (·.f0)).Nodup ↔ (m.map (·.f0)).Nodup := (h.map _).nodup_iff
  rw [h.length_eq]
  by_cases k2 : (l.map (·.f0)).Nodup
  · rw [if_neg (not_not_intro k2), if_neg (not_not_intro (h2.1 k2))]
    by_cases k1 : ∃ x ∈ l, ∃ t ∈ x.f3, t ∉ l.map (fun y => y.f0)
    · rw [if_pos k1, if_pos (h1.1 k1)]
    · rw [if_neg k1, if_neg (fun k => k1 (h1.2 k))]
  · rw [if_pos k2, if_pos (fun k => k2 (h2.2 k))]
theorem turned_perm (l : List S33) (k : Nat) : l.Perm (l.drop k ++ l.take k) := by
  have := List.perm_append_comm (l₁ := l.take k) (l₂ := l.drop k)
  rwa [List.take_append_drop] at this
end Go.Proofs.Ytcffmpjdonncgaa
