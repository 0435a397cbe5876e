/- Spans: slices.Compact at cuts. -/
import Derived.Test.YteeijjhgdplifaaGreatDoorSG
import Derived.Test.YteeijjhgdplifaaGreatDoorSE
namespace Go.Proofs.YteeijjhgdplifaaGreatDoor
open Go.RowKit

theorem CRow.load {w : World} {B g c n : Nat} {ds : List Cut} (h : CRow w B (some ⟨g, 0, none⟩) c n ds) {k : Nat} {u : Cut} (hk : ds[k]? = some u) : (loadVar 57 ⟨g, k * 7, none⟩).run Tryz.prog w = .ok (.agg u.cells.toArray) w := by
  have hu := h.2.1 u (List.mem_of_getElem? hk)
  obtain ⟨hl, h2⟩ := h.2.2.1
  rcases h2 with ⟨hv, _⟩ | ⟨g', cap, cur, hv, hb, hh, h3, h4, h5, h6⟩
  · simp at hv
  · simp only [Value.slice.injEq, Option.some.injEq, Addr.mk.injEq, and_true, true_and] at hv
    obtain ⟨rfl, rfl⟩ := hv
    refine run_loadVar_mid w g (k * 7) _ u.cells _ (fun j v hj => ?_) Tryz.underlying57 rfl ?_
    · have h1 := cells_in h.2.1 hk hj
      rw [← h6, List.getElem?_take] at h1
      split at h1
      · simpa [World.cell?, hh] using h1
      · cases h1
    · rw [Cut.cells_len hu]; kernel_rfl
theorem CRow.there {w : World} {B g c n : Nat} {ds : List Cut} (h : CRow w B (some ⟨g, 0, none⟩) c n ds) {k : Nat} (hk : k < n) : w.there g (k * 7) 7 := by
  obtain ⟨hl, h2⟩ := h.2.2.1
  rcases h2 with ⟨hv, _⟩ | ⟨g', cap, cur, hv, hb, hh, h3, h4, h5, h6⟩
  · simp at hv
  · simp only [Value.slice.injEq, Option.some.injEq, Addr.mk.injEq, and_true, true_and] at hv
    obtain ⟨rfl, rfl⟩ := hv
    intro j hj
    have : k * 7 + j < cur.size := by rw [h5]; omega
    exact ⟨by simp [World.cell?, hh, this], by simp [World.frozen?, hh]⟩
end Go.Proofs.YteeijjhgdplifaaGreatDoor
