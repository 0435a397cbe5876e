/- append(b, make([]byte, n)...) onto an owned row. No program in sight. -/
import Derived.Test.YtjdobjcbmmdjeaaRl
namespace Go.Proofs.Ytjdobjcbmmdjeaa
open Go Go.RowKit

theorem run_app_zeros {P : Program} (w : World) (t k ty e : TypeId) (ht : P.underlying t = some (.slice e)) (hk : P.underlying k = some (.int .i64)) (hi : (P.info? e).map (fun i => (i.zero, i.size, i.bytes)) = some (some (.int .u8 0), 1, 1))
    (g n cap : Nat) (l : List UInt8) (hown : w.ownsRow 0 e 1 (.slice (some ⟨g, 0, none⟩) n cap) n (B8 l)) (m : Nat) (hb : n + m ≤ 1000000000000) :
    ∃ A' c' w', (Builtin.append_ #[t, k] ty #[.slice (some ⟨g, 0, none⟩) n cap, .int .i64 (m : Int)]).run P w = .ok (.slice A' (n + m) c') w' ∧ w'.ownsRow 0 e 1 (.slice A' (n + m) c') (n + m) (B8 (l ++ List.replicate m 0)) ∧ w.grownBy w' (some g) ∧
      ((Value.slice A' (n + m) c').ownBlock = some g ∨ (Value.slice A' (n + m) c').ownBlock = some w.heap.size) := by
  obtain ⟨i, hi1, hz, hsize, hby⟩ := info_parts hi
  have hl : l.length = n := by have := hown.1; rw [B8_length, Nat.mul_one] at this; exact this
  have hz8 : B8 (List.replicate m 0) = List.replicate m (.int .u8 0) := by simp [B8]
  have hzc : (Builtin.zeroCells (Value.int .u8 0).cells m).toList = List.replicate m (.int .u8 0) := by
    rw [← hz8]
    have := toList_madeCells_one (.int .u8 0) m
    apply List.ext_getElem?
    intro q
    simp only [Builtin.zeroCells, Value.cells, List.size_toArray, List.length_cons, List.length_nil, Nat.zero_add, Nat.mul_one, Array.toList_map, Array.toList_range, List.getElem?_map, hz8]
    by_cases hq : q < m
    · rw [List.getElem?_range hq, List.getElem?_replicate, if_pos hq]; simp [Nat.mod_one]
    · rw [List.getElem?_eq_none (by simp; omega), List.getElem?_eq_none (by simp; omega)]; rfl
  have hw : IntKind.i64.wrap (m : Int) = (m : Int) := by rw [IntKind.wrap_i64]; omega
  have hneg : ¬ ((m : Int) < 0) := by omega
  have hai : ∀ (z : Int) (w : World), (asInt (.int .i64 z)).run P w = .ok z w := fun _ _ => rfl
  have hbig : ¬ ((281474976710656 : Int) < (m : Int)) := by omega
  have hlen : (B8 (l ++ List.replicate m 0)).length = (n + m) * 1 := by rw [B8_length, List.length_append, List.length_replicate, hl, Nat.mul_one]
  rcases hown.2 with ⟨h, _⟩ | ⟨g', cap', cur, hv, _, hg, hnc, hcm, hcs, htake⟩
  · simp at h
  · simp only [Value.slice.injEq, Option.some.injEq, Addr.mk.injEq, and_true, true_and] at hv
    obtain ⟨rfl, rfl⟩ := hv
    rw [Nat.mul_one] at hcs htake
    have hza : Builtin.zeroCells (Value.int .u8 0).cells m = (List.replicate m (Value.int .u8 0)).toArray := by
      apply Array.ext'
      rw [hzc]
    by_cases hroom : n + m ≤ cap
    · have hst := run_storeCells_at P g n e (List.replicate m (Value.int .u8 0)) 0 cur w hg (by simp; omega) (by intro u hu; rw [List.mem_replicate] at hu; rw [hu.2]; rfl)
      simp only [Nat.add_zero] at hst
      refine ⟨some ⟨g, 0, none⟩, cap, w.setRow g (cur.toList.take n ++ List.replicate m (Value.int .u8 0) ++ cur.toList.drop (n + (List.replicate m (Value.int .u8 0)).length)).toArray, ?_, ⟨hlen, .inr ⟨g, cap, _, rfl, Nat.zero_le _, setRow_heap w g cur _ e _ hg, hroom, hcm, ?_, ?_⟩⟩, ⟨rfl, rfl, rfl, by simp, fun k _ hk => setRow_other w g k _ (fun e => hk (by rw [e]))⟩, .inl rfl⟩
      · by_cases h0 : m = 0
        · subst h0
          simp only [List.replicate_zero, List.length_nil, Nat.add_zero, List.append_nil, List.take_append_drop] at hst ⊢
          simp [Builtin.append_, run_underlying ht, run_underlying hk, sizeOf, typeInfo, hai, IntKind.wrap_i64, hi1, hsize, hby, hnc, Addr.add_lit, hst]
        · simp [Builtin.append_, run_underlying ht, run_underlying hk, sizeOf, typeInfo, zeroValue, hai, hi1, hz, hsize, hby, hw, hneg, hbig, hroom, hza, h0, Addr.add_lit, hst]
      · simp; omega
      · rw [Nat.mul_one, List.toList_toArray, B8_append, hz8, ← htake, List.take_left' (by rw [List.length_append, List.length_take, List.length_replicate, Array.length_toList, hcs]; omega)]
    · have hm0 : m ≠ 0 := by omega
      have h63' : ¬ (9223372036854775807 < ((n : Int) + (m : Int))) := by omega
      have hfit := growslice_fits (need := n + m) (old := cap) (bytes := 1) (by omega) (by omega)
      have h48' : ¬ (281474976710656 < Builtin.nextslicecap (n + m) cap) := by omega
      have holds : ∀ j u, (B8 l)[j]? = some u → w.cell? ((⟨g, 0, none⟩ : Addr).add j) = some u := hown.cells (g := g) rfl
      have hfo := run_firstCells_some (P := P) w.drew i.size n ⟨g, 0, none⟩ n cap (B8 l) (by rw [hsize, B8_length, hl]; omega) (by simpa using holds)
      rw [hsize] at hfo
      refine ⟨some ⟨w.heap.size, 0, none⟩, grownCap w (n + m) cap e, w.drew.alloc (.cells ((B8 l).toArray ++ (List.replicate m (Value.int .u8 0)).toArray ++ Builtin.zeroCells (Value.int .u8 0).cells (grownCap w (n + m) cap e - (n + m))) e), ?_, ⟨hlen, .inr ⟨w.heap.size, _, _, rfl, Nat.zero_le _, heap_alloc_new w.drew _, grownCap_ge _ _ _ _, grownCap_le_maxLen w (n + m) cap e (by simp only [maxLen]; omega), ?_, ?_⟩⟩, ⟨rfl, rfl, rfl, by simp, fun b hb _ => heap_alloc_old w.drew _ hb⟩, .inr rfl⟩
      · simp [Builtin.append_, run_underlying ht, run_underlying hk, sizeOf, typeInfo, zeroValue, hai, hi1, hz, hsize, hby, hw, hneg, hbig, hroom, hza, hm0, h63', h48', Question.forced, hfo, newRow, grownCap]
      · simp only [Array.size_append, List.size_toArray, size_zeroCells, List.length_replicate, B8_length, hl, Value.cells, List.length_cons, List.length_nil]
        have := grownCap_ge w (n + m) cap e
        omega
      · simp only [Array.toList_append, Nat.mul_one, B8_append, hz8]
        rw [List.take_left' (by rw [List.length_append, List.length_replicate, B8_length, hl])]
end Go.Proofs.Ytjdobjcbmmdjeaa
