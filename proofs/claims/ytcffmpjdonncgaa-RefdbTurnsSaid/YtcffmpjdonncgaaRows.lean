/-
  No cell of these rows narrows 'for every input' (looked for: loops, veiled, ifaces, maps, wideKeys, modest, calm, conditions, laid).
  DERIVED. THE GIVEN ROWS OF THIS SEAT. 5 by the template 'for every input the law returns true; each argument reads behind the call as it read before'; 0 by the template 'total and deterministic' (their statements: YtcffmpjdonncgaaTotals.lean).
  GIVEN WITH THE SEED: the statements are not yours to turn. If you find one false, say at which input.
  Laid BY PROGRAM, IN A SANDBOX (cutbox-rows.mjs): the forced cells as the released guide's own fill.sh prints them over the translation 0b5b7143c2efa7f4… (all of the seat's roots in one cut). By AI agents, Wed Nov 11 2026. No macro, syntax, notation, axiom, sorry.
-/
import Derived.Test.YtcffmpjdonncgaaChecked
import GoSem.Claim
import GoSem.ClaimJoined
import GoSem.ClaimMapViews
import Derived.JoinedTies
import Derived.KernelRfl
namespace Go.Proofs.Ytcffmpjdonncgaa
/- THE CELL 'sum', in the pinned program and in every row, IS THE sha256 OF THE DUMP (.gsa) THAT YtcffmpjdonncgaaProg.lean LOADS. Nothing in Lean hashes anything: it is a label: what it is worth is what the hold of that sum in a sandbox is worth. -/
noncomputable def Try.pinned : Pinned := { name := "ytcffmpjdonncgaa", sum := "0b5b7143c2efa7f4787033f33f7f117db01a46881954b2d6f4b977af0071b1a9", checked := Try.checked }
namespace Rows
def none {H : Type} : Left H := { results := [], args := [] }

/-- 'stillroomlaw12.RefdbDead': WHATEVER THE INPUT: true; the input reads as it did. -/
def refdbDeadSpec : ChangeSpec := { name := "refdbDead", fn := fun _ => fun
  | [d1, d2] => { results := [.lit (.bool true)], args := [d1, d2] }
  | _ => none }
def refdbDeadRow : OpenClaim := { program := "ytcffmpjdonncgaa", sum := "0b5b7143c2efa7f4787033f33f7f117db01a46881954b2d6f4b977af0071b1a9", func := "stillroom/stillroomlaw12.RefdbDead", spec := "refdbDead", recurses := true, plainKeys := false, apart := false }
def RefdbDeadSaid : Prop := refdbDeadRow.holds Try.pinned (OpenSpec.ofChange refdbDeadSpec)

/-- ITS FALSE NEIGHBOUR: 'it returns false'. Refute it at one input. -/
def refdbDeadWrong : ChangeSpec := { name := "refdbDead", fn := fun _ => fun
  | [d1, d2] => { results := [.lit (.bool false)], args := [d1, d2] }
  | _ => none }
def RefdbDeadWrongFalsely : Prop := refdbDeadRow.holds Try.pinned (OpenSpec.ofChange refdbDeadWrong)

/-- 'stillroomlaw12.RefdbOrder': WHATEVER THE INPUT: true; the input reads as it did. -/
def refdbOrderSpec : ChangeSpec := { name := "refdbOrder", fn := fun _ => fun
  | [d] => { results := [.lit (.bool true)], args := [d] }
  | _ => none }
def refdbOrderRow : OpenClaim := { program := "ytcffmpjdonncgaa", sum := "0b5b7143c2efa7f4787033f33f7f117db01a46881954b2d6f4b977af0071b1a9", func := "stillroom/stillroomlaw12.RefdbOrder", spec := "refdbOrder", inPlace := ["slices.overlaps[string]"], recurses := true, plainKeys := false, apart := false }
def RefdbOrderSaid : Prop := refdbOrderRow.holds Try.pinned (OpenSpec.ofChange refdbOrderSpec)

/-- ITS FALSE NEIGHBOUR: 'it returns false'. Refute it at one input. -/
def refdbOrderWrong : ChangeSpec := { name := "refdbOrder", fn := fun _ => fun
  | [d] => { results := [.lit (.bool false)], args := [d] }
  | _ => none }
def RefdbOrderWrongFalsely : Prop := refdbOrderRow.holds Try.pinned (OpenSpec.ofChange refdbOrderWrong)

/-- 'stillroomlaw12.RefdbNobody': WHATEVER THE INPUT: true; the input reads as it did. -/
def refdbNobodySpec : ChangeSpec := { name := "refdbNobody", fn := fun _ => fun
  | [d1, d2] => { results := [.lit (.bool true)], args := [d1, d2] }
  | _ => none }
def refdbNobodyRow : OpenClaim := { program := "ytcffmpjdonncgaa", sum := "0b5b7143c2efa7f4787033f33f7f117db01a46881954b2d6f4b977af0071b1a9", func := "stillroom/stillroomlaw12.RefdbNobody", spec := "refdbNobody", inPlace := ["slices.overlaps[string]"], recurses := true, plainKeys := false, apart := false }
def RefdbNobodySaid : Prop := refdbNobodyRow.holds Try.pinned (OpenSpec.ofChange refdbNobodySpec)

/-- ITS FALSE NEIGHBOUR: 'it returns false'. Refute it at one input. -/
def refdbNobodyWrong : ChangeSpec := { name := "refdbNobody", fn := fun _ => fun
  | [d1, d2] => { results := [.lit (.bool false)], args := [d1, d2] }
  | _ => none }
def RefdbNobodyWrongFalsely : Prop := refdbNobodyRow.holds Try.pinned (OpenSpec.ofChange refdbNobodyWrong)

/-- 'stillroomlaw12.RefdbTurns': WHATEVER THE INPUT: true; the input reads as it did. -/
def refdbTurnsSpec : ChangeSpec := { name := "refdbTurns", fn := fun _ => fun
  | [d1, d2, d3] => { results := [.lit (.bool true)], args := [d1, d2, d3] }
  | _ => none }
def refdbTurnsRow : OpenClaim := { program := "ytcffmpjdonncgaa", sum := "0b5b7143c2efa7f4787033f33f7f117db01a46881954b2d6f4b977af0071b1a9", func := "stillroom/stillroomlaw12.RefdbTurns", spec := "refdbTurns", inPlace := ["slices.overlaps[string]"], recurses := true, plainKeys := false, apart := false }
def RefdbTurnsSaid : Prop := refdbTurnsRow.holds Try.pinned (OpenSpec.ofChange refdbTurnsSpec)

/-- ITS FALSE NEIGHBOUR: 'it returns false'. Refute it at one input. -/
def refdbTurnsWrong : ChangeSpec := { name := "refdbTurns", fn := fun _ => fun
  | [d1, d2, d3] => { results := [.lit (.bool false)], args := [d1, d2, d3] }
  | _ => none }
def RefdbTurnsWrongFalsely : Prop := refdbTurnsRow.holds Try.pinned (OpenSpec.ofChange refdbTurnsWrong)

/-- 'stillroomlaw12.RefdbTells': WHATEVER THE INPUT: true; the input reads as it did. -/
def refdbTellsSpec : ChangeSpec := { name := "refdbTells", fn := fun _ => fun
  | [d1, d2, d3] => { results := [.lit (.bool true)], args := [d1, d2, d3] }
  | _ => none }
def refdbTellsRow : OpenClaim := { program := "ytcffmpjdonncgaa", sum := "0b5b7143c2efa7f4787033f33f7f117db01a46881954b2d6f4b977af0071b1a9", func := "stillroom/stillroomlaw12.RefdbTells", spec := "refdbTells", inPlace := ["slices.overlaps[string]"], recurses := true, plainKeys := false, apart := false }
def RefdbTellsSaid : Prop := refdbTellsRow.holds Try.pinned (OpenSpec.ofChange refdbTellsSpec)

/-- ITS FALSE NEIGHBOUR: 'it returns false'. Refute it at one input. -/
def refdbTellsWrong : ChangeSpec := { name := "refdbTells", fn := fun _ => fun
  | [d1, d2, d3] => { results := [.lit (.bool false)], args := [d1, d2, d3] }
  | _ => none }
def RefdbTellsWrongFalsely : Prop := refdbTellsRow.holds Try.pinned (OpenSpec.ofChange refdbTellsWrong)

/- THE SECOND FORM. 'bulk': how many values and letters a reading holds, each counted each time it is reached (what is shared counts as often as it is met; a slice's spare places count too). A statement '..UptoSaid' is the law's where the arguments, and the package variables that the reading takes, are together of bulk at most 1048576: NARROWER than '..Said'. Prove '..Said' where nothing that the law and all that it calls make is longer than what came in: it says more and counts as full. Else prove '..UptoSaid'. A law counts once. -/
mutual
def uptoBulk {H : Type} : DataW H → Nat
  | .lit (.string bytes) => bytes.length + 1
  | .lit _ => 1
  | .nil => 1
  | .ptr d => uptoBulk d + 1
  | .slice elems spare => uptoBulkAll elems + uptoBulkAll spare + 1
  | .agg parts => uptoBulkAll parts + 1
  | .iface _ d => uptoBulk d + 1
  | .map entries => uptoBulkEntries entries + 1
  | .held _ => 1
def uptoBulkAll {H : Type} : List (DataW H) → Nat
  | [] => 0
  | d :: r => uptoBulk d + uptoBulkAll r
def uptoBulkEntries {H : Type} : List (Lit × DataW H) → Nat
  | [] => 0
  | x :: r => uptoBulkEntry x + uptoBulkEntries r
def uptoBulkEntry {H : Type} : Lit × DataW H → Nat
  | (.string bytes, d) => bytes.length + uptoBulk d + 1
  | (_, d) => uptoBulk d + 1
 end
def uptoSmall : (H : Type) → List (DataW H) → Bool := fun _ ds => decide (uptoBulkAll ds ≤ 1048576)
def OpenSpec.upto (s : _root_.Go.ChangeSpec) : _root_.Go.OpenSpec := { _root_.Go.OpenSpec.ofChange s with cond := some uptoSmall }

/-- 'stillroomlaw12.RefdbDead', WHERE WHAT IT READS IS OF BULK AT MOST 1048576: true; the input reads as it did. -/
def refdbDeadUptoRow : OpenClaim := { program := "ytcffmpjdonncgaa", sum := "0b5b7143c2efa7f4787033f33f7f117db01a46881954b2d6f4b977af0071b1a9", func := "stillroom/stillroomlaw12.RefdbDead", spec := "refdbDead", recurses := true, plainKeys := false, apart := false, narrowed := true }
def RefdbDeadUptoSaid : Prop := refdbDeadUptoRow.holds Try.pinned (OpenSpec.upto refdbDeadSpec)

/-- 'stillroomlaw12.RefdbOrder', WHERE WHAT IT READS IS OF BULK AT MOST 1048576: true; the input reads as it did. -/
def refdbOrderUptoRow : OpenClaim := { program := "ytcffmpjdonncgaa", sum := "0b5b7143c2efa7f4787033f33f7f117db01a46881954b2d6f4b977af0071b1a9", func := "stillroom/stillroomlaw12.RefdbOrder", spec := "refdbOrder", inPlace := ["slices.overlaps[string]"], recurses := true, plainKeys := false, apart := false, narrowed := true }
def RefdbOrderUptoSaid : Prop := refdbOrderUptoRow.holds Try.pinned (OpenSpec.upto refdbOrderSpec)

/-- 'stillroomlaw12.RefdbNobody', WHERE WHAT IT READS IS OF BULK AT MOST 1048576: true; the input reads as it did. -/
def refdbNobodyUptoRow : OpenClaim := { program := "ytcffmpjdonncgaa", sum := "0b5b7143c2efa7f4787033f33f7f117db01a46881954b2d6f4b977af0071b1a9", func := "stillroom/stillroomlaw12.RefdbNobody", spec := "refdbNobody", inPlace := ["slices.overlaps[string]"], recurses := true, plainKeys := false, apart := false, narrowed := true }
def RefdbNobodyUptoSaid : Prop := refdbNobodyUptoRow.holds Try.pinned (OpenSpec.upto refdbNobodySpec)

/-- 'stillroomlaw12.RefdbTurns', WHERE WHAT IT READS IS OF BULK AT MOST 1048576: true; the input reads as it did. -/
def refdbTurnsUptoRow : OpenClaim := { program := "ytcffmpjdonncgaa", sum := "0b5b7143c2efa7f4787033f33f7f117db01a46881954b2d6f4b977af0071b1a9", func := "stillroom/stillroomlaw12.RefdbTurns", spec := "refdbTurns", inPlace := ["slices.overlaps[string]"], recurses := true, plainKeys := false, apart := false, narrowed := true }
def RefdbTurnsUptoSaid : Prop := refdbTurnsUptoRow.holds Try.pinned (OpenSpec.upto refdbTurnsSpec)

/-- 'stillroomlaw12.RefdbTells', WHERE WHAT IT READS IS OF BULK AT MOST 1048576: true; the input reads as it did. -/
def refdbTellsUptoRow : OpenClaim := { program := "ytcffmpjdonncgaa", sum := "0b5b7143c2efa7f4787033f33f7f117db01a46881954b2d6f4b977af0071b1a9", func := "stillroom/stillroomlaw12.RefdbTells", spec := "refdbTells", inPlace := ["slices.overlaps[string]"], recurses := true, plainKeys := false, apart := false, narrowed := true }
def RefdbTellsUptoSaid : Prop := refdbTellsUptoRow.holds Try.pinned (OpenSpec.upto refdbTellsSpec)

end Rows
end Go.Proofs.Ytcffmpjdonncgaa
