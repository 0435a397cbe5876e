/- Spans: slices.Clone at cuts. -/
import Derived.Test.YteeijjhgdplifaaGreatDoorSB
import Derived.WalkSpells
namespace Go.Proofs.YteeijjhgdplifaaGreatDoor
open Go.RowKit

theorem infoCut : (Tryz.prog.info? 57).map (fun i => (i.zero, i.size, i.bytes)) = some (some (.agg #[.int .i64 0, .int .i64 0, .int .i64 0, .int .i64 0, .int .i64 0, .int .i64 0, .string ⟨#[]⟩]), 7, 64) := by kernel_rfl
theorem cutsL_one (cs : List Cut) : ∀ u ∈ cutsL cs, u.oneCell' = true := by
  intro u hu
  unfold cutsL at hu
  obtain ⟨c, _, hu⟩ := List.mem_flatMap.1 hu
  exact cut_one1 c u hu
/-- A row of cuts of the call's own. -/
def CRow (w : World) (B : Nat) (A : Option Addr) (c n : Nat) (cs : List Cut) : Prop := cs.length = n ∧ Oks cs ∧ w.ownsRow 0 57 7 (.slice A n c) n (cutsL cs) ∧ ∀ b, (Value.slice A n c).ownBlock = some b → B ≤ b
theorem CRow.below {w w' : World} {B : Nat} {A : Option Addr} {c n : Nat} {cs : List Cut} (h : CRow w B A c n cs) (hb : Below w.heap.size w w') : CRow w' B A c n cs := ⟨h.1, h.2.1, own_below h.2.2.1 hb, h.2.2.2⟩
/-- What an append of cuts to a row of the call's own does. -/
theorem CRow.app {w w0 : World} {A A' : Option Addr} {c c' n m : Nat} {cs ds : List Cut} {F : Nat → Prop} (h : CRow w w0.heap.size A c n cs) (hb : Below w0.heap.size w0 w) (hd : Oks ds) (hm : ds.length = m) (hs : Sl w F 7 (.slice A' m c') m (cutsL ds)) (hX : n + m ≤ 1000000) :
    ∃ A1 c1 w1, (Builtin.append_ #[55, 55] 55 #[.slice A n c, .slice A' m c']).run Tryz.prog w = .ok (.slice A1 (n + m) c1) w1 ∧ CRow w1 w0.heap.size A1 c1 (n + m) (cs ++ ds) ∧ Below w0.heap.size w0 w1 ∧ w.grownBy w1 (Value.slice A n c).ownBlock := by
  obtain ⟨A7, c7, w7, hap, o7, gr7, a7, _⟩ := run_app (P := Tryz.prog) w 55 55 57 _ 7 64 Tryz.underlying55 infoCut rfl (by decide) (by decide) (.slice A n c) n _ h.2.2.1 F (.slice A' m c') m (cutsL ds) hs (cutsL_one ds) (by omega)
  refine ⟨A7, c7, w7, hap, ⟨by rw [List.length_append, h.1, hm], fun x hx => (List.mem_append.1 hx).elim (h.2.1 x) (hd x), ?_, fun b hb' => ?_⟩, ?_, gr7⟩
  · rw [show cutsL (cs ++ ds) = cutsL cs ++ cutsL ds by unfold cutsL; rw [List.flatMap_append]]
    exact o7
  · rcases a7 with h1 | h1
    · exact h.2.2.2 b (h1 ▸ hb')
    · rw [h1] at hb'; injection hb' with hb'; have := hb.size; omega
  · exact hb.trans ⟨gr7.os, gr7.tape, gr7.output, gr7.size, fun b hb' => gr7.block b (by have := hb.size; omega) (fun e => by have := h.2.2.2 b e.symm; omega)⟩
set_option maxRecDepth 100000 in
set_option maxHeartbeats 1000000 in
theorem clone_ok (cs : List Cut) (hok : Oks cs) (A : Option Addr) (n c : Nat) (hn : cs.length = n) (hX : n ≤ 500000) (F : Nat → Prop) (w : World) (hs : Sl w F 7 (.slice A n c) n (cutsL cs)) (hA : A = none → n = 0 ∧ c = 0) :
    Calls Tryz.prog 45 #[.slice A n c] w fun e w' => ∃ A' c', e = .returned (.slice A' n c') ∧ (A' = none → n = 0 ∧ c' = 0) ∧ CRow w' w.heap.size A' c' n cs ∧ Below w.heap.size w w' := by
  cases A with
  | none =>
    obtain ⟨rfl, rfl⟩ := hA rfl
    have hc0 : cs = [] := List.length_eq_zero_iff.1 hn
    have HR : Hid (CRow w w.heap.size none 0 0 cs) := Lib.hid ⟨hn, hok, by rw [hc0]; exact own_nil0 _ _ _, fun b hb => by simp [Value.ownBlock] at hb⟩
    clear hs hok hn hc0 hA
    have q := fun (w : World) => Lib.run_eql_slice_nil (P := Tryz.prog) w 55 57 none 0 0 0 0 Tryz.underlying55
    go_enter Tryz.func45, Tryz.ntmps45
    go_wp2_with fail
    go_ret
    exact ⟨none, 0, rfl, (by intro _; simp), HR.out, Below.refl _ _⟩
  | some ad =>
    have hb : Below w.heap.size w (w.alloc (.cells #[] 57)) := (Below.refl _ _).alloc (Nat.le_refl _) _
    have h0 : CRow (w.alloc (.cells #[] 57)) w.heap.size (some ⟨w.heap.size, 0, none⟩) 0 0 [] := ⟨rfl, fun x hx => (by cases hx), own_of_blk (Blk.new w 57 #[]) 7 0 rfl (Nat.zero_le _), fun b hb => by have hb' : w.heap.size = b := Option.some.inj hb; omega⟩
    obtain ⟨A1, c1, w1, hap, h1, hb1, _⟩ := h0.app hb hok hn (hs.below (by decide) hb) (by omega)
    rw [Nat.zero_add] at hap h1
    have hA1 : A1 = none → n = 0 ∧ c1 = 0 := by
      intro e
      subst e
      rcases h1.2.2.1.2 with ⟨hv, h0⟩ | ⟨g, cap, cur, hv, _⟩
      · simp only [Value.slice.injEq] at hv
        exact ⟨h0, hv.2.2⟩
      · simp at hv
    have HAP := Lib.hid hap
    have H1 : Hid (CRow w1 w.heap.size A1 c1 n cs) := Lib.hid (by rw [List.nil_append] at h1; exact h1)
    have HA1 := Lib.hid hA1
    have HB1 := Lib.hid hb1
    clear hb h0 hap h1 hb1 hA1 hs hok hn hA
    have q := fun (w : World) => Lib.run_eql_slice_nil (P := Tryz.prog) w 55 57 (some ad) n c 0 0 Tryz.underlying55
    go_enter Tryz.func45, Tryz.ntmps45
    go_wp2_with (at_builtin; refine wpList_app_run _ rfl (.tmp 5) (.tmp 6) 55 55 rfl _ _ rfl rfl _ _ HAP.out ?_)
    go_ret
    exact ⟨A1, c1, rfl, HA1.out, H1.out, HB1.out⟩
end Go.Proofs.YteeijjhgdplifaaGreatDoor
