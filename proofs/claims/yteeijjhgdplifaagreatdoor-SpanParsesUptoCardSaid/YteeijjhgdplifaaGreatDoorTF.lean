/- Spans: And, Or, Not, Same, Empty. -/
import Derived.Test.YteeijjhgdplifaaGreatDoorTE
import Derived.Test.YteeijjhgdplifaaGreatDoorSE
namespace Go.Proofs.YteeijjhgdplifaaGreatDoor
open Go.RowKit

set_option maxRecDepth 100000 in
theorem spAnd_ok (B1 g1 B2 g2 : Nat) (s o : List Cut) (hs : Prs s) (ho : Prs o) (ls : s.length ≤ 100000) (lo : o.length ≤ 100000) (w : World) (h1 : SpAt w B1 g1 s) (h2 : SpAt w B2 g2 o) :
    Calls Tryz.prog 10 #[sp0 g1, sp0 g2] w fun e w' => ∃ gr, e = .returned (sp0 gr) ∧ ∃ cs, SpAt w' w.heap.size gr cs ∧ Merged (fun a b => a && b) s o cs ∧ Below w.heap.size w w' := by
  have hm := merge_ok 28 (fun a b => a && b) rfl (enters_of Tryz.func28 (by kernel_rfl) rfl) fnAnd_ok B1 g1 B2 g2 s o hs ho ls lo w h1 h2
  have HM := Lib.hid hm
  clear hm h1 h2
  go_enter Tryz.func10, Tryz.ntmps10
  go_wp2_with fail
  refine HM.out.mono ?_
  rintro e w' ⟨gr, cs, rfl, h1, h2, h3⟩
  go_wp2_with fail
  go_ret
  exact ⟨gr, rfl, cs, h1, h2, h3⟩
set_option maxRecDepth 100000 in
theorem spOr_ok (B1 g1 B2 g2 : Nat) (s o : List Cut) (hs : Prs s) (ho : Prs o) (ls : s.length ≤ 100000) (lo : o.length ≤ 100000) (w : World) (h1 : SpAt w B1 g1 s) (h2 : SpAt w B2 g2 o) :
    Calls Tryz.prog 11 #[sp0 g1, sp0 g2] w fun e w' => ∃ gr, e = .returned (sp0 gr) ∧ ∃ cs, SpAt w' w.heap.size gr cs ∧ Merged (fun a b => a || b) s o cs ∧ Below w.heap.size w w' := by
  have hm := merge_ok 29 (fun a b => a || b) rfl (enters_of Tryz.func29 (by kernel_rfl) rfl) fnOr_ok B1 g1 B2 g2 s o hs ho ls lo w h1 h2
  have HM := Lib.hid hm
  clear hm h1 h2
  go_enter Tryz.func11, Tryz.ntmps11
  go_wp2_with fail
  refine HM.out.mono ?_
  rintro e w' ⟨gr, cs, rfl, h1, h2, h3⟩
  go_wp2_with fail
  go_ret
  exact ⟨gr, rfl, cs, h1, h2, h3⟩
end Go.Proofs.YteeijjhgdplifaaGreatDoor
