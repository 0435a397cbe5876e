/- A queue of strings: a slice that begins inside its block (QRow), with slices.Insert and slices.BinarySearch. -/
import Derived.Test.YtcffmpjdonncgaaSu
import Derived.Sort.Walk0
import Derived.Shelf.Spec.SlicesInsert
import Derived.Shelf.Spec.SlicesInsertGrow
import Derived.Shelf.Spec.SearchS
import Derived.Test.YtcffmpjdonncgaaBr
import Derived.Deep.Upon
namespace Go.Proofs.Ytcffmpjdonncgaa
open Go.RowKit Go.Proofs.YtcffmpjdonncgaaW.PrintWords

abbrev ES : TypeId := 9
theorem mod_setCells {F : Nat → Prop} {a w : World} {b : Nat} (h : Mod F a w) (hb : b < a.heap.size → F b) (o : Nat) (vs : List Value) : Mod F a (w.setCells b o vs) := by
  obtain ⟨h1, h2, h3, h4⟩ := setCells_same b vs o w
  refine ⟨h1.trans h.os, h2.trans h.tape, h3.trans h.output, by rw [h4]; exact h.size, fun i hi hF => ?_⟩
  rw [setCells_far vs o i (fun e => hF (by rw [e]; exact hb (by rw [← e]; exact hi)))]
  exact h.block i hi hF
theorem ins_get {α : Type} {S : List α} {k : Nat} (hk : k ≤ S.length) (x : α) (j : Nat) : (S.take k ++ x :: S.drop k)[j]? = if j < k then S[j]? else if j = k then some x else S[j - 1]? := by
  have hl : (S.take k).length = k := by rw [List.length_take]; omega
  by_cases h1 : j < k
  · rw [if_pos h1, List.getElem?_append_left (by omega), List.getElem?_take, if_pos h1]
  · rw [if_neg h1, List.getElem?_append_right (by omega), hl]
    by_cases h2 : j = k
    · rw [if_pos h2, h2, Nat.sub_self]; rfl
    · rw [if_neg h2, show j - k = (j - 1 - k) + 1 by omega, List.getElem?_cons_succ, List.getElem?_drop]
      congr 1; omega
theorem put_get {α : Type} {L vs : List α} {o : Nat} (h : o + vs.length ≤ L.length) (j : Nat) : (L.take o ++ vs ++ L.drop (o + vs.length))[j]? = if j < o then L[j]? else if j < o + vs.length then vs[j - o]? else L[j]? := by
  have hl : (L.take o).length = o := by rw [List.length_take]; omega
  by_cases h1 : j < o
  · rw [if_pos h1, List.append_assoc, List.getElem?_append_left (by omega), List.getElem?_take, if_pos h1]
  · rw [if_neg h1, List.append_assoc, List.getElem?_append_right (by omega), hl]
    by_cases h2 : j < o + vs.length
    · rw [if_pos h2, List.getElem?_append_left (by omega)]
    · rw [if_neg h2, List.getElem?_append_right (by omega), List.getElem?_drop]
      congr 1; omega
theorem mid_get {α : Type} (L : List α) (off n j : Nat) : ((L.drop off).take n)[j]? = if j < n then L[off + j]? else none := by
  rw [List.getElem?_take, List.getElem?_drop]
theorem strs_ins (l : List ByteArray) (k : Nat) (x : ByteArray) : strs (l.take k ++ x :: l.drop k) = (strs l).take k ++ Value.string x :: (strs l).drop k := by simp [strs]
/-- a row of strings in the middle of its block, turned -/
theorem q_of_row {w : World} {base g off c : Nat} {cur : Array Value} {l : List ByteArray} {n : Nat} (hl : l.length = n) (hb : base ≤ g) (hh : w.heap[g]? = some (.cells cur ES (0, 0))) (hn : n ≤ c) (hc : off + c ≤ maxLen) (hs : cur.size = off + c) (hm : (cur.toList.drop off).take n = strs l) : QRow w base ES 1 (.slice (some ⟨g, off, none⟩) n c) n (strs l) :=
  ⟨by rw [strs_length, hl, Nat.mul_one], .inr ⟨g, off, c, cur, by rw [Nat.mul_one], hb, hh, hn, hc, by rw [Nat.mul_one]; exact hs, by rw [Nat.mul_one, Nat.mul_one]; exact hm⟩⟩

/-- slices.Insert of one string into a queue -/
theorem q_insert (w : World) (base : Nat) (A : Option Addr) (n c k vb : Nat) (l : List ByteArray) (x : ByteArray) (h : QRow w base ES 1 (.slice A n c) n (strs l)) (hv : Blk w vb ES [.string x]) (hne : ∀ q, (Value.slice A n c).ownBlock = some q → q ≠ vb) (hk : k ≤ n) (hn : n ≤ 1000000000) (hbase : base ≤ w.heap.size) :
    Calls Try.prog 33 #[.slice A n c, .int .i64 k, .slice (some ⟨vb, 0, none⟩) 1 1] w fun e w' => ∃ A' c', e = .returned (.slice A' (n + 1) c') ∧ QRow w' base ES 1 (.slice A' (n + 1) c') (n + 1) (strs (l.take k ++ x :: l.drop k)) ∧
      Mod (fun q => (Value.slice A n c).ownBlock = some q) w w' ∧ (∀ q, (Value.slice A' (n + 1) c').ownBlock = some q → (Value.slice A n c).ownBlock = some q ∨ w.heap.size ≤ q) := by
  have hl : l.length = n := by have := h.1; rw [strs_length, Nat.mul_one] at this; exact this
  have hvs : ∀ j v, [Value.string x][j]? = some v → w.cell? ⟨vb, 0 + j, none⟩ = some v := fun j v hj => by rw [hv.cell]; simpa using hj
  have h1v : ∀ v ∈ [Value.string x], v.oneCell' = true := by intro v hv; rw [List.mem_singleton] at hv; subst hv; rfl
  have hll : (l.take k ++ x :: l.drop k).length = n + 1 := by simp; omega
  have hgc : ∀ (w : World) (need old : Nat), need ≤ 2000000000 → need ≤ grownCap w need old ES ∧ grownCap w need old ES ≤ maxLen := fun w need old hne => ⟨grownCap_ge _ _ _ _, grownCap_le_maxLen _ _ _ _ (by simp [maxLen]; omega)⟩
  have hzl : ∀ m, (Builtin.zeroCells (Value.string ⟨#[]⟩).cells m).size = m := by intro m; simp [Builtin.zeroCells, Value.cells]
  have grow_end : ∀ (base0 : Option Addr), A = base0 → (base0 = none → n = 0) → (∀ a, base0 = some a → ∀ j v, (strs l)[j]? = some v → w.cell? (a.add j) = some v) → n ≤ c → c < n + 1 → k = n →
      Calls Try.prog 33 #[.slice A n c, .int .i64 k, .slice (some ⟨vb, 0, none⟩) 1 1] w fun e w' => ∃ A' c', e = .returned (.slice A' (n + 1) c') ∧ QRow w' base ES 1 (.slice A' (n + 1) c') (n + 1) (strs (l.take k ++ x :: l.drop k)) ∧
      Mod (fun q => (Value.slice A n c).ownBlock = some q) w w' ∧ (∀ q, (Value.slice A' (n + 1) c').ownBlock = some q → (Value.slice A n c).ownBlock = some q ∨ w.heap.size ≤ q) := by
    intro base0 hA hnil hcs hnc hroom hkn
    subst hA
    subst hkn
    refine (Any2.slices_Insert_string_end_grow Try.laysNm222 A k c vb 0 1 1 (strs l) [.string x] w (by omega) hnc (by omega) (by omega) (by rw [strs_length]; exact hl) rfl hnil hcs hvs h1v).mono ?_
    rintro e w' ⟨rfl, rfl⟩
    have hg := hgc w (k + 1) c (by omega)
    refine ⟨_, _, rfl, ?_, ?_, fun q hq => .inr (by simp [Value.ownBlock] at hq; omega)⟩
    · refine q_of_row hll hbase (by rw [← heap_alloc_new w.drew]; rfl) hg.1 (by rw [Nat.zero_add]; exact hg.2) ?_ ?_
      · rw [Array.size_append, List.size_toArray, hzl, List.length_append, strs_length, hl]
        simp only [List.length_singleton]
        have := hg.1
        show k + 1 + (grownCap w (k + 1) c ES - (k + 1)) = 0 + grownCap w (k + 1) c ES
        omega
      · rw [List.drop_zero, Array.toList_append, List.take_left' (by simp [strs_length, hl])]
        simp [strs, ← hl]
    · exact ((Mod.refl _ w).drew).alloc _
  rcases h.2 with ⟨h0, A', he, hA⟩ | ⟨g, off, cap, cur, he, hb, hh, hnc, hcm, hcs, ht⟩
  · injection he with h1 h2 h3
    subst h1; subst h3
    refine grow_end A rfl (fun _ => h0) (fun a _ j v hj => ?_) (by omega) (by omega) (by omega)
    exfalso
    rw [List.getElem?_eq_none (by rw [strs_length]; omega)] at hj
    cases hj
  · injection he with h1 h2 h3
    subst h1; subst h3
    simp only [Nat.mul_one] at ht hcs hnc hcm h hne grow_end ⊢
    have hcell : ∀ j v, (strs l)[j]? = some v → w.cell? ⟨g, off + j, none⟩ = some v := fun j v hj => by
      obtain ⟨ad, h1, h2⟩ := q_cells h (by have := (List.getElem?_eq_some_iff.1 hj).1; rw [strs_length] at this; omega)
      injection h1 with h1
      subst h1
      have := h2 j v hj
      rwa [add_at] at this
    have hsome : ∀ j, j < c → (w.cell? ⟨g, off + j, none⟩).isSome = true := fun j hj => by
      rw [cell_of_row w g _ cur ES (0, 0) hh, Array.getElem?_eq_getElem (by omega)]
      rfl
    have hfr : ∀ j, w.frozen? ⟨g, j, none⟩ = false := fun j => by simp [World.frozen?, hh]
    have hgv : vb ≠ g := fun e => hne g (by simp [Value.ownBlock]) e.symm
    have hgl : g < w.heap.size := (Array.getElem?_eq_some_iff.1 hh).1
    have hlen : cur.toList.length = off + c := by rw [Array.length_toList]; exact hcs
    have hdl : (cur.toList.drop off).take n = strs l := ht
    have hml : maxLen = 9223372036854775807 ∨ maxLen ≤ 9223372036854775807 := .inr (by simp [maxLen])
    have hc63 : c ≤ 9223372036854775807 := by rcases hml with h | h <;> omega
    by_cases hkn : k = n
    · by_cases hroom : n + 1 ≤ c
      · subst hkn
        refine (Any2.slices_Insert_string_end_room Try.laysNm222 g off k c vb 0 1 1 [.string x] w (by omega) hroom hc63 rfl (fun j hj => by rw [Nat.add_assoc]; exact hsome _ (by omega)) (fun j _ => hfr _) hvs h1v).mono ?_
        rintro e w' ⟨rfl, rfl⟩
        obtain ⟨cur', k1, k2, k3⟩ := setCells_row [.string x] (off + k) w cur hh (by rw [hcs]; simp; omega)
        refine ⟨_, _, rfl, q_of_row hll hb k1 hroom hcm (by rw [k2, hcs]) ?_, mod_setCells (Mod.refl _ w) (fun _ => by simp [Value.ownBlock]) _ _, fun q hq => .inl (by simpa [Value.ownBlock] using hq)⟩
        refine List.ext_getElem? fun j => ?_
        rw [strs_ins, ins_get (by rw [strs_length]; omega), mid_get, k3, put_get (by rw [hlen]; simp; omega), ← hdl, mid_get, mid_get]
        simp only [List.length_singleton]
        by_cases h1 : j < k
        · rw [if_pos (by omega), if_pos (by omega), if_pos h1, if_pos h1]
        · by_cases h2 : j = k
          · subst h2
            rw [if_pos (by omega), if_neg (by omega), if_pos (by omega), if_neg (by omega), if_pos rfl, show off + j - (off + j) = 0 by omega]
            rfl
          · rw [if_neg (by omega), if_neg (by omega), if_neg h2, if_neg (by omega)]
      · refine grow_end _ rfl (fun e => by cases e) (fun a ha j v hj => ?_) hnc (by omega) hkn
        injection ha with ha
        subst ha
        rw [add_at]
        exact hcell j v hj
    · by_cases hroom : n + 1 ≤ c
      · have hsh : w.shape? g = some (ES, cur.size) := by simp [World.shape?, hh]
        have hsv : w.shape? vb = some (ES, 1) := by have := hv; unfold Blk at this; simp [World.shape?, this]
        refine (Any2.slices_Insert_string_shift Try.laysNm222 g off n c k vb 0 1 1 (strs l) [.string x] w (by omega) (by omega) hroom hc63 hgv (by rw [strs_length]; exact hl) rfl hcell (fun j hj => hsome _ (by omega)) (fun j _ => hfr _) hvs (strs_one l) h1v ES ES 1 cur.size hsv hsh (by omega) (hv.frozen _) (hv.frozen _)).mono ?_
        rintro e w' ⟨rfl, rfl⟩
        have hdk : ((strs l).drop k).length = n - k := by rw [List.length_drop, strs_length]; omega
        obtain ⟨c1, a1, a2, a3⟩ := setCells_row ((strs l).drop k) (off + (k + 1)) w.drew cur hh (by rw [hcs, hdk]; omega)
        obtain ⟨c2, b1, b2, b3⟩ := setCells_row [.string x] (off + k) _ c1 a1 (by rw [a2, hcs]; simp; omega)
        refine ⟨_, _, rfl, q_of_row hll hb b1 hroom hcm (by rw [b2, a2, hcs]) ?_, mod_setCells (mod_setCells (Mod.refl _ w).drew (fun _ => by simp [Value.ownBlock]) _ _) (fun _ => by simp [Value.ownBlock]) _ _, fun q hq => .inl (by simpa [Value.ownBlock] using hq)⟩
        have hl1 : c1.toList.length = off + c := by rw [Array.length_toList, a2, hcs]
        refine List.ext_getElem? fun j => ?_
        rw [strs_ins, ins_get (by rw [strs_length]; omega), mid_get, b3, put_get (by rw [hl1]; simp; omega), a3, put_get (by rw [hlen, hdk]; omega), hdk]
        simp only [List.length_singleton]
        by_cases h1 : j < k
        · rw [if_pos (by omega), if_pos (by omega), if_pos h1, if_pos (by omega), ← hdl, mid_get, if_pos (by omega)]
        · by_cases h2 : j = k
          · subst h2
            rw [if_pos (by omega), if_neg (by omega), if_pos (by omega), if_neg (by omega), if_pos rfl, show off + j - (off + j) = 0 by omega]
            rfl
          · by_cases h3 : j < n + 1
            · rw [if_pos h3, if_neg (by omega), if_neg (by omega), if_neg (by omega), if_pos (by omega), if_neg h1, if_neg h2, List.getElem?_drop]
              congr 1; omega
            · rw [if_neg h3, if_neg h1, if_neg h2, List.getElem?_eq_none (by rw [strs_length]; omega)]
      · refine (Any2.slices_Insert_string_grow Try.laysNm222 g off n c k vb 0 1 1 (strs l) [.string x] w (by omega) (by omega) hnc (by omega) (by omega) (by rw [strs_length]; exact hl) rfl hcell hvs (strs_one l) h1v).mono ?_
        rintro e w' ⟨rfl, rfl⟩
        have hgr := hgc w (n + 1) c (by omega)
        have hdk : ((strs l).drop k).length = n - k := by rw [List.length_drop, strs_length]; omega
        have htk : ((strs l).take k).length = k := by rw [List.length_take, strs_length]; omega
        have he : Try.laysNm222_ren.t 9 = ES := rfl
        rw [he]
        obtain ⟨N, hN⟩ : ∃ N, N = grownCap w (n + 1) c ES := ⟨_, rfl⟩
        rw [← hN] at hgr ⊢
        obtain ⟨c0, hc0⟩ : ∃ c0 : Array Value, c0 = ((strs l).take k).toArray ++ Builtin.zeroCells (Value.string ⟨#[]⟩).cells (n + 1 - k) ++ Builtin.zeroCells (Value.string ⟨#[]⟩).cells (N - (n + 1)) := ⟨_, rfl⟩
        rw [← hc0]
        have hs0 : c0.size = N := by rw [hc0, Array.size_append, Array.size_append, List.size_toArray, htk, hzl, hzl]; omega
        have hl0 : c0.toList.length = N := by rw [Array.length_toList, hs0]
        have hp0 : ∀ j, j < k → c0.toList[j]? = (strs l)[j]? := by
          intro j hj
          rw [hc0, Array.toList_append, Array.toList_append, List.append_assoc, List.getElem?_append_left (by rw [List.toList_toArray, htk]; exact hj), List.toList_toArray, List.getElem?_take, if_pos hj]
        have hh0 : (w.alloc (.cells c0 ES)).drew.heap[w.heap.size]? = some (.cells c0 ES (0, 0)) := heap_alloc_new w _
        obtain ⟨c1, a1, a2, a3⟩ := setCells_row [.string x] k (w.alloc (.cells c0 ES)).drew c0 hh0 (by rw [hs0]; simp; omega)
        obtain ⟨c2, b1, b2, b3⟩ := setCells_row ((strs l).drop k) (k + 1) (((w.alloc (.cells c0 ES)).drew.setCells w.heap.size k [.string x]).drew) c1 a1 (by rw [a2, hs0, hdk]; omega)
        have hl1 : c1.toList.length = N := by rw [Array.length_toList, a2, hs0]
        refine ⟨_, _, rfl, q_of_row hll hbase b1 hgr.1 (by rw [Nat.zero_add]; exact hgr.2) (by rw [b2, a2, hs0, Nat.zero_add]) ?_, mod_setCells (mod_setCells ((Mod.refl _ w).alloc _).drew (fun h => absurd h (Nat.lt_irrefl _)) _ _).drew (fun h => absurd h (Nat.lt_irrefl _)) _ _, fun q hq => .inr (by simp [Value.ownBlock] at hq; omega)⟩
        refine List.ext_getElem? fun j => ?_
        rw [strs_ins, ins_get (by rw [strs_length]; omega), mid_get, b3, put_get (by rw [hl1, hdk]; omega), a3, put_get (by rw [hl0]; simp; omega), hdk]
        simp only [List.length_singleton, Nat.zero_add]
        by_cases h1 : j < k
        · rw [if_pos (by omega), if_pos (by omega), if_pos h1, if_pos h1, hp0 j h1]
        · by_cases h2 : j = k
          · subst h2
            rw [if_pos (by omega), if_pos (by omega), if_neg (by omega), if_pos (by omega), if_neg (by omega), if_pos rfl, Nat.sub_self]
            rfl
          · by_cases h3 : j < n + 1
            · rw [if_pos h3, if_neg (by omega), if_pos (by omega), if_neg h1, if_neg h2, List.getElem?_drop]
              congr 1; omega
            · rw [if_neg h3, if_neg h1, if_neg h2, List.getElem?_eq_none (by rw [strs_length]; omega)]

theorem less_ltB (a b : ByteArray) : Op.bytesLess a.toList b.toList = decide (ltB a b) := by
  rw [bytesLess_eq, Lib.toList_data, Lib.toList_data]
/-- slices.BinarySearch of a string in a queue that rises -/
theorem q_search (w : World) (base : Nat) (A : Option Addr) (n c : Nat) (l : List ByteArray) (x : ByteArray) (h : QRow w base ES 1 (.slice A n c) n (strs l)) (k : Nat) (hn : n ≤ 1000000000) (h1 : ∀ j p, j < k → l[j]? = some p → ltB p x) (h2 : ∀ j p, k ≤ j → l[j]? = some p → ¬ ltB p x) (hk : k ≤ n) :
    Calls Try.prog 32 #[.slice A n c, .string x] w fun e w' => ∃ b, e = .returned (.tuple #[.int .i64 k, .bool b]) ∧ ∃ q, w' = w.drewN q := by
  have hl : l.length = n := by have := h.1; rw [strs_length, Nat.mul_one] at this; exact this
  by_cases h0 : n = 0
  · subst h0
    obtain rfl : k = 0 := by omega
    refine (Any2.slices_BinarySearch_string_empty Try.laysNm226 A c x w).mono ?_
    rintro e w' ⟨rfl, rfl⟩
    exact ⟨_, rfl, 0, rfl⟩
  · rcases h.2 with ⟨h0', _⟩ | ⟨g, off, cap, cur, he, hb, hh, hnc, hcm, hcs, ht⟩
    · exact (h0 h0').elim
    · injection he with e1 e2 e3
      subst e1; subst e3
      simp only [Nat.mul_one] at ht hcs hnc hcm h ⊢
      have hcell : ∀ j, j < n → w.cell? ⟨g, off + j, none⟩ = some (.string (l.getD j x)) := fun j hj => by
        obtain ⟨ad, h1, h2⟩ := q_cells h (by omega)
        injection h1 with h1
        subst h1
        obtain ⟨p, hp⟩ : ∃ p, l[j]? = some p := ⟨_, List.getElem?_eq_getElem (by omega)⟩
        have := h2 j _ (strs_get hp)
        rw [add_at] at this
        rw [this, List.getD_eq_getElem?_getD, hp]
        rfl
      have hbs : Lib.bsGo (fun t => Op.bytesLess (l.getD t x).toList x.toList) n 0 n = k := by
        refine Lib.bsGo_spec _ k (fun t ht => ?_) (fun t ht => ?_) n 0 n (by omega) (by omega) hk
        · obtain ⟨p, hp⟩ : ∃ p, l[t]? = some p := ⟨_, List.getElem?_eq_getElem (by omega)⟩
          rw [less_ltB, List.getD_eq_getElem?_getD, hp]
          exact decide_eq_true (h1 t p ht hp)
        · rw [less_ltB, List.getD_eq_getElem?_getD]
          refine decide_eq_false ?_
          cases hp : l[t]? with
          | none => exact ltB_irrefl x
          | some p => exact h2 t p ht hp
      refine (Any2.slices_BinarySearch_string Try.laysNm226 g off n c (fun t => l.getD t x) x w (by omega) hcell).mono ?_
      rintro e w' ⟨rfl, q, rfl⟩
      rw [hbs]
      exact ⟨_, rfl, q, rfl⟩
end Go.Proofs.Ytcffmpjdonncgaa
