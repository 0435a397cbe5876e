/- slices.SortFunc at span's cuts, by span's compare: its contract on a block. -/
import Derived.Test.YteeijjhgdplifaaGreatDoorS7
namespace Go.Proofs.YteeijjhgdplifaaGreatDoor
open Go.RowKit

theorem cutsL_get : ∀ {cs : List Cut}, (∀ c ∈ cs, c.Ok) → ∀ t, (cutsL cs)[t]? = (cs[t / 7]?).bind fun c => c.cells[t % 7]?
  | [], _, t => by simp [cutsL]
  | c :: cs, h, t => by
    have h7 := Cut.cells_len (h c (by simp))
    have ih := cutsL_get (cs := cs) (fun x hx => h x (List.mem_cons_of_mem _ hx))
    have e : cutsL (c :: cs) = c.cells ++ cutsL cs := by unfold cutsL; rw [List.flatMap_cons]
    rw [e]
    by_cases ht : t < 7
    · rw [List.getElem?_append_left (by omega), show t / 7 = 0 by omega, show t % 7 = t by omega]
      rfl
    · rw [List.getElem?_append_right (by omega), h7, ih (t - 7), show t / 7 = (t - 7) / 7 + 1 by omega, show (t - 7) % 7 = t % 7 by omega]
      rfl
/-- the cuts as what the sort sorts -/
def okArr (cs : List Cut) (h : ∀ c ∈ cs, c.Ok) : Array OkCut := (cs.pmap (fun c hc => ⟨c, hc⟩) h).toArray
theorem okArr_list (cs : List Cut) (h : ∀ c ∈ cs, c.Ok) : (okArr cs h).toList.map (·.1) = cs := by
  unfold okArr
  rw [List.toList_toArray, List.map_pmap]
  exact List.pmap_eq_self.2 (fun _ _ => rfl)
theorem ok_of (d : Array OkCut) : ∀ c ∈ d.toList.map (·.1), c.Ok := by
  intro c hc
  obtain ⟨x, _, rfl⟩ := List.mem_map.1 hc
  exact x.2
theorem flatK_list (d : Array OkCut) : (Go.Sort.flatK cenc 7 d).toList = cutsL (d.toList.map (·.1)) := by
  have hl := cutsL_len (ok_of d)
  apply List.ext_getElem?
  intro t
  rw [cutsL_get (ok_of d)]
  by_cases ht : t < d.size * 7
  · have ht7 : t / 7 < d.size := by omega
    have h1 := Go.Sort.get_flatK cenc 7 d t ht
    have hsz : t < (Go.Sort.flatK cenc 7 d).size := by rw [Go.Sort.size_flatK]; exact ht
    rw [getElem!_pos _ t hsz] at h1
    rw [Array.getElem?_toList, Array.getElem?_eq_getElem hsz, h1, getElem!_pos _ (t / 7) ht7, List.getElem?_map, Array.getElem?_toList, Array.getElem?_eq_getElem ht7]
    have h7 := Cut.cells_len (d[t / 7]).2
    have hr : t % 7 < (cenc d[t / 7]).length := by unfold cenc; rw [h7]; exact Nat.mod_lt _ (by decide)
    rw [getElem!_pos (cenc d[t / 7]) (t % 7) hr]
    simp only [Option.map_some, Option.bind_some]
    exact (List.getElem?_eq_getElem hr).symm
  · rw [List.getElem?_eq_none (by rw [Array.length_toList, Go.Sort.size_flatK]; omega), List.getElem?_map, List.getElem?_eq_none (by rw [Array.length_toList]; omega)]
    rfl
theorem put_block {w : World} {g : Nat} {T : TypeId} {A B sl : List Value} (h : Blk w g T (A ++ sl)) (hl : B.length = A.length) : Blk (Go.Sort.putRow id w g 0 B.toArray) g T (B ++ sl) := by
  unfold Blk at h ⊢
  unfold Go.Sort.putRow Go.Sort.mapBlock
  simp only [Array.getElem?_modify, h, if_true, Option.map_some, Go.Sort.onCells]
  congr 2
  unfold Go.Sort.putCells
  apply Array.toList_inj.1
  apply List.ext_getElem?
  intro i
  simp only [Array.toList_mapIdx, List.toList_toArray, List.getElem?_mapIdx, List.size_toArray, Nat.zero_add, Nat.zero_le, true_and, Nat.sub_zero]
  by_cases hi : i < B.length
  · rw [List.getElem?_append_left hi, List.getElem?_append_left (by omega), List.getElem?_eq_getElem (by omega)]
    simp only [Option.map_some, if_pos hi, id]
    rw [getElem!_pos _ _ (by simpa using hi), List.getElem?_eq_getElem hi]
    simp
  · rw [List.getElem?_append_right (by omega), List.getElem?_append_right (by omega), hl]
    cases sl[i - A.length]? with
    | none => rfl
    | some x => simp only [Option.map_some]; rw [if_neg (by omega)]
theorem cut_agg (w : World) : (isAgg 57).run Tryz.prog w = .ok true w := by
  unfold isAgg
  rw [Sem.run_bind, run_underlying Tryz.underlying57 w]
  rfl
theorem cut_size (w : World) : (Go.sizeOf 57).run Tryz.prog w = .ok 7 w := by
  have hi : (Tryz.prog.info? 57).map (·.size) = some 7 := by kernel_rfl
  cases hq : Tryz.prog.info? 57 with
  | none => rw [hq] at hi; cases hi
  | some i =>
    rw [hq] at hi
    have hs : i.size = 7 := Option.some.inj hi
    simp [sizeOf, typeInfo, hq, hs]
theorem cut_one (c : Cut) : ∀ v ∈ c.cells, v.oneCell' = true := by
  intro v hv
  rcases List.mem_cons.1 hv with rfl | hv
  · rfl
  · have := Ver.cells_one c.v
    rw [Array.all_eq_true_iff_forall_mem] at this
    exact this v (by simpa using hv)
/-- Rising (equals may stand side by side). -/
def CutRis (cs : List Cut) : Prop := cs.Pairwise fun c d => c.cmp d ≤ 0
theorem cutSort_ok (cs : List Cut) (hok : ∀ c ∈ cs, c.Ok) (sl : List Value) (g cap : Nat) (w : World) (h : Blk w g 57 (cutsL cs ++ sl)) (hsz : cs.length < 4611686018427387904) :
    Calls Tryz.prog 46 #[.slice (some ⟨g, 0, none⟩) cs.length cap, .func (.func 33) #[] #[]] w fun e w' =>
      e = .returned (.tuple #[]) ∧ ∃ cs', cs'.Perm cs ∧ CutRis cs' ∧ Blk w' g 57 (cutsL cs' ++ sl) ∧ Mod (fun i => i = g) w w' := by
  obtain ⟨d, hd⟩ : ∃ d, d = okArr cs hok := ⟨_, rfl⟩
  have hdl : d.toList.map (·.1) = cs := by rw [hd]; exact okArr_list cs hok
  have hds : d.size = cs.length := by rw [← hdl, List.length_map, Array.length_toList]
  have hfl : (Go.Sort.flatK cenc 7 d).toList = cutsL cs := by rw [flatK_list, hdl]
  have hH : Go.Sort.HoldsK cenc 7 w g 0 d := by
    intro j hj
    rw [Nat.zero_add]
    have hj2 : j < (cutsL cs).length := by rw [← hfl, Array.length_toList]; exact hj
    refine ⟨?_, h.frozen j⟩
    rw [h.cell, List.getElem?_append_left hj2, ← hfl, Array.getElem?_toList, Array.getElem?_eq_getElem hj, getElem!_pos _ j hj]
    rfl
  have hcmp : CmpLays Tryz.prog 33 #[] cenc 7 ccf g 0 d.size w := by
    intro m os dk _ x y
    refine (cutCmp_g x.1 y.1 x.2 y.2 _).mono ?_
    rintro e w' ⟨he, hb, hdr⟩
    obtain ⟨q, os', hw⟩ := grow_of hb hdr
    exact ⟨he, q, os', hw⟩
  have eg : ∀ args w, (callFunc 33 args).run Tryz.prog w = .ok (.enter 33 args) w := enters_of Tryz.func33 (by kernel_rfl) rfl
  have hcon := AnyQ.slices_SortFunc Tryz.sortCut 7 cut_agg cut_size cenc (fun x => Cut.cells_len x.2) (fun x v hv => cut_one x.1 v hv) ccf ccf_swo 33 #[] g 0 cap d w eg hcmp hH h.lt (by omega)
  rw [hds] at hcon
  refine hcon.mono ?_
  rintro e w' ⟨he, d', n, os, ⟨hsz', _, hp⟩, hsort, rfl⟩
  rw [hds] at hsz'
  have hpe : d'.toList.Perm d.toList := by
    rw [show d'.extract 0 cs.length = d' by rw [← hsz']; exact Array.extract_size, show d.extract 0 cs.length = d by rw [← hds]; exact Array.extract_size] at hp
    exact hp
  have hpc : (d'.toList.map (·.1)).Perm cs := by rw [← hdl]; exact hpe.map _
  have hfl' : (Go.Sort.flatK cenc 7 d').toList = cutsL (d'.toList.map (·.1)) := flatK_list d'
  have hb : Blk (Go.Sort.ahead w n) g 57 (cutsL cs ++ sl) := h
  have hl2 : (cutsL (d'.toList.map (·.1))).length = (cutsL cs).length := by rw [cutsL_len (ok_of d'), cutsL_len hok, hpc.length_eq]
  have hb2 := put_block hb hl2
  rw [← hfl', Array.toArray_toList] at hb2
  refine ⟨he, d'.toList.map (·.1), hpc, ?_, ?_, ?_⟩
  · refine List.pairwise_iff_getElem.2 fun i j hi hj hij => ?_
    have hi' : i < d'.size := by simpa using hi
    have hj' : j < d'.size := by simpa using hj
    have h1 := hsort i j (Nat.zero_le _) hij (by omega)
    rw [getElem!_pos d' j hj', getElem!_pos d' i hi'] at h1
    have h2 : ¬ (d'[j].1.cmp d'[i].1 < 0) := of_decide_eq_false h1
    have h3 := Cut.cmp_anti d'[j].2 d'[i].2
    simp only [List.getElem_map, Array.getElem_toList]
    omega
  · rw [← hfl']
    unfold sortWorldK
    show (((Go.Sort.putRowK cenc 7 (Go.Sort.ahead w n) g 0 d').heap ++ os)[g]? = _)
    rw [Array.getElem?_append_left (by exact hb2.lt)]
    exact hb2
  · unfold sortWorldK
    refine ⟨rfl, rfl, rfl, ?_, fun i hi hne => ?_⟩
    · show w.heap.size ≤ ((Go.Sort.putRowK cenc 7 (Go.Sort.ahead w n) g 0 d').heap ++ os).size
      rw [Array.size_append]
      have : (Go.Sort.putRowK cenc 7 (Go.Sort.ahead w n) g 0 d').heap.size = w.heap.size := Go.Sort.size_putRow _ _ _ _ _
      omega
    · show ((Go.Sort.putRowK cenc 7 (Go.Sort.ahead w n) g 0 d').heap ++ os)[i]? = w.heap[i]?
      have hs : (Go.Sort.putRowK cenc 7 (Go.Sort.ahead w n) g 0 d').heap.size = w.heap.size := Go.Sort.size_putRow _ _ _ _ _
      rw [Array.getElem?_append_left (by omega)]
      show (w.heap.modify g _)[i]? = w.heap[i]?
      rw [Array.getElem?_modify, if_neg (fun e => hne e.symm)]
end Go.Proofs.YteeijjhgdplifaaGreatDoor
