/- RefdbX: plain laws of what is reached and what is dead. -/
import Derived.Test.YtcffmpjdonncgaaG6
namespace Go.Proofs.Ytcffmpjdonncgaa
open Go.RowKit Go.Proofs.YtcffmpjdonncgaaW.PrintWords
open Go.Proofs.Ytcffmpjdonncgaa.PRef

theorem newErr_zero {l : List S33} (h : newErr l = 0) : (l.map (·.f0)).Nodup ∧ ∀ x ∈ l, ∀ t ∈ x.f3, t ∈ l.map (·.f0) := by
  unfold newErr at h
  split at h
  · cases h
  · split at h
    · cases h
    · rename_i h1
      split at h
      · cases h
      · rename_i h2
        refine ⟨Classical.byContradiction h1, fun x hx t ht => Classical.byContradiction fun h3 => h2 ⟨x, hx, t, ht, h3⟩⟩
theorem newErr_nil : newErr [] = 0 := by
  unfold newErr
  rw [if_neg (by simp), if_neg (by simp), if_neg (by simp)]
theorem C_nil (w : World) : Kd.C k33 w none 0 [] := ⟨rfl, by omega, fun h => absurd h (by omega)⟩
theorem SU_perm {l : List ByteArray} (h : l.Nodup) : (SU l).Perm l := (List.perm_ext_iff_of_nodup (SU_rising l).nodup h).2 (fun _ => SU_mem)
theorem Rch.of {l : List S33} {ps qs : List ByteArray} (h : ∀ p ∈ ps, p ∈ l.map (·.f0) → Rch l qs p) {p : ByteArray} (hr : Rch l ps p) : Rch l qs p := by
  induction hr with
  | root hp hk => exact h _ hp hk
  | step _ hx ht hk ih => exact .step ih hx ht hk
theorem RS_congr {l : List S33} {ps qs : List ByteArray} (h : ∀ p, Rch l ps p ↔ Rch l qs p) : RS l ps = RS l qs := rising_ext (RS_rising _ _) (RS_rising _ _) (fun s => RS_mem.trans ((h s).trans RS_mem.symm))
theorem RS_RS (l : List S33) (ps : List ByteArray) : RS l (RS l ps) = RS l ps := RS_congr fun _ => ⟨Rch.of (fun _ hq _ => RS_mem.1 hq), fun h => .root (RS_mem.2 h) h.key⟩
theorem known_zero {l : List S33} {ps : List ByteArray} (h : ∀ p ∈ ps, p ∈ l.map (·.f0)) : knownErr l ps = 0 := by unfold knownErr; rw [if_pos h]
theorem clo_yes {l : List S33} {ps : List ByteArray} (h : ∀ p ∈ ps, p ∈ l.map (·.f0)) : cloL l ps = RS l ps := by unfold cloL; rw [if_pos h]
theorem RS_keys {l : List S33} {ps : List ByteArray} : ∀ p ∈ RS l ps, p ∈ l.map (·.f0) := fun _ hp => (RS_mem.1 hp).key
noncomputable def thr (l : List S33) (roots : List ByteArray) (i : Nat) : List ByteArray := ((l.take i).map (·.f0)).filter (inB roots)
theorem thr_keys {l : List S33} {roots : List ByteArray} : ∀ p ∈ thr l roots l.length, p ∈ l.map (·.f0) := fun _ hp => by
  have := (List.mem_filter.1 hp).1
  rwa [List.take_length] at this
theorem RS_thr (l : List S33) (roots : List ByteArray) : RS l (thr l roots l.length) = RS l roots := RS_congr fun _ =>
  ⟨Rch.of (fun _ hq hk => .root (inB_iff.1 (List.mem_filter.1 hq).2) hk), Rch.of (fun _ hq hk => .root (List.mem_filter.2 ⟨by rw [List.take_length]; exact hk, inB_iff.2 hq⟩) hk)⟩
theorem thr_le (l : List S33) (roots : List ByteArray) (i : Nat) : (thr l roots i).length ≤ i := by
  unfold thr
  refine Nat.le_trans (List.length_filter_le _ _) ?_
  rw [List.length_map]
  exact List.length_take_le _ _
theorem thr_succ {l : List S33} {roots : List ByteArray} {i : Nat} {x : S33} (h : l[i]? = some x) : thr l roots (i + 1) = if inB roots x.f0 = true then thr l roots i ++ [x.f0] else thr l roots i := by
  obtain ⟨hi, rfl⟩ := List.getElem?_eq_some_iff.1 h
  unfold thr
  rw [List.take_succ_eq_append_getElem hi, List.map_append, List.filter_append]
  by_cases hb : inB roots l[i].f0 = true
  · rw [if_pos hb]; simp [hb]
  · rw [if_neg hb]; simp [hb]
theorem RS_DS_length {l : List S33} (hn : (l.map (·.f0)).Nodup) (ps : List ByteArray) : (RS l ps).length + (DS l ps).length = l.length := by
  have hnd : (RS l ps ++ DS l ps).Nodup := by
    rw [List.nodup_append]
    exact ⟨(RS_rising l ps).nodup, (DS_rising l ps).nodup, fun a ha b hb e => (DS_mem.1 hb).2 (by rw [← e]; exact RS_mem.1 ha)⟩
  have hp : (RS l ps ++ DS l ps).Perm (l.map (·.f0)) := by
    refine (List.perm_ext_iff_of_nodup hnd hn).2 (fun s => ?_)
    rw [List.mem_append, RS_mem, DS_mem]
    exact ⟨fun h => h.elim (fun h => h.key) (fun h => h.1), fun h => (Classical.em (Rch l ps s)).imp id (fun k => ⟨h, k⟩)⟩
  have := hp.length_eq
  rwa [List.length_append, List.length_map] at this
theorem in_live {l : List S33} {ps : List ByteArray} {p : ByteArray} : inB (RS l ps) p = true ↔ Rch l ps p := inB_iff.trans RS_mem
theorem in_dead {l : List S33} {ps : List ByteArray} {x : S33} (hx : x ∈ l) : inB (DS l ps) x.f0 = !inB (RS l ps) x.f0 := by
  rw [Bool.eq_iff_iff, inB_iff, DS_mem, Bool.not_eq_true', ← Bool.not_eq_true, in_live]
  exact ⟨fun h => h.2, fun h => ⟨List.mem_map.2 ⟨x, hx, rfl⟩, h⟩⟩
end Go.Proofs.Ytcffmpjdonncgaa
