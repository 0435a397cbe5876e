/-
  No cell of these rows narrows 'for every input' (looked for: loops, veiled, ifaces, maps, wideKeys, modest, calm, conditions, laid).
  DERIVED. THE GIVEN ROWS OF THIS SEAT. 5 by the template 'for every input the law returns true; each argument reads behind the call as it read before'; 0 by the template 'total and deterministic' (their statements: YtkgdpkkckeihbaaTotals.lean).
  GIVEN WITH THE SEED: the statements are not yours to turn. If you find one false, say at which input.
  Laid BY PROGRAM, IN A SANDBOX (cutbox-rows.mjs): the forced cells as the released guide's own fill.sh prints them over the translation c54161280df2349b… (all of the seat's roots in one cut). By AI agents, Wed Nov 11 2026. No macro, syntax, notation, axiom, sorry.
-/
import Derived.Test.YtkgdpkkckeihbaaChecked
import GoSem.Claim
import GoSem.ClaimJoined
import GoSem.ClaimMapViews
import Derived.JoinedTies
import Derived.KernelRfl
namespace Go.Proofs.Ytkgdpkkckeihbaa
/- THE CELL 'sum', in the pinned program and in every row, IS THE sha256 OF THE DUMP (.gsa) THAT YtkgdpkkckeihbaaProg.lean LOADS. Nothing in Lean hashes anything: it is a label: what it is worth is what the hold of that sum in a sandbox is worth. -/
noncomputable def Try.pinned : Pinned := { name := "ytkgdpkkckeihbaa", sum := "c54161280df2349b5bfa9b5fbfab52e62a8c2585c6ad61791d138ece0dad166d", checked := Try.checked }
namespace Rows
def none {H : Type} : Left H := { results := [], args := [] }

/-- 'stillroomlaw24.SchedNobody': WHATEVER THE INPUT: true; the input reads as it did. -/
def schedNobodySpec : ChangeSpec := { name := "schedNobody", fn := fun _ => fun
  | [d1, d2] => { results := [.lit (.bool true)], args := [d1, d2] }
  | _ => none }
def schedNobodyRow : OpenClaim := { program := "ytkgdpkkckeihbaa", sum := "c54161280df2349b5bfa9b5fbfab52e62a8c2585c6ad61791d138ece0dad166d", func := "stillroom/stillroomlaw24.SchedNobody", spec := "schedNobody", unfollowed := true, recurses := true, plainKeys := false, apart := false }
def SchedNobodySaid : Prop := schedNobodyRow.holds Try.pinned (OpenSpec.ofChange schedNobodySpec)

/-- ITS FALSE NEIGHBOUR: 'it returns false'. Refute it at one input. -/
def schedNobodyWrong : ChangeSpec := { name := "schedNobody", fn := fun _ => fun
  | [d1, d2] => { results := [.lit (.bool false)], args := [d1, d2] }
  | _ => none }
def SchedNobodyWrongFalsely : Prop := schedNobodyRow.holds Try.pinned (OpenSpec.ofChange schedNobodyWrong)

/-- 'stillroomlaw24.SchedSafe': WHATEVER THE INPUT: true; the input reads as it did. -/
def schedSafeSpec : ChangeSpec := { name := "schedSafe", fn := fun _ => fun
  | [d1, d2, d3] => { results := [.lit (.bool true)], args := [d1, d2, d3] }
  | _ => none }
def schedSafeRow : OpenClaim := { program := "ytkgdpkkckeihbaa", sum := "c54161280df2349b5bfa9b5fbfab52e62a8c2585c6ad61791d138ece0dad166d", func := "stillroom/stillroomlaw24.SchedSafe", spec := "schedSafe", unfollowed := true, recurses := true, plainKeys := false, apart := false }
def SchedSafeSaid : Prop := schedSafeRow.holds Try.pinned (OpenSpec.ofChange schedSafeSpec)

/-- ITS FALSE NEIGHBOUR: 'it returns false'. Refute it at one input. -/
def schedSafeWrong : ChangeSpec := { name := "schedSafe", fn := fun _ => fun
  | [d1, d2, d3] => { results := [.lit (.bool false)], args := [d1, d2, d3] }
  | _ => none }
def SchedSafeWrongFalsely : Prop := schedSafeRow.holds Try.pinned (OpenSpec.ofChange schedSafeWrong)

/-- 'stillroomlaw24.SchedEnds': WHATEVER THE INPUT: true; the input reads as it did. -/
def schedEndsSpec : ChangeSpec := { name := "schedEnds", fn := fun _ => fun
  | [d1, d2, d3] => { results := [.lit (.bool true)], args := [d1, d2, d3] }
  | _ => none }
def schedEndsRow : OpenClaim := { program := "ytkgdpkkckeihbaa", sum := "c54161280df2349b5bfa9b5fbfab52e62a8c2585c6ad61791d138ece0dad166d", func := "stillroom/stillroomlaw24.SchedEnds", spec := "schedEnds", unfollowed := true, recurses := true, plainKeys := false, apart := false }
def SchedEndsSaid : Prop := schedEndsRow.holds Try.pinned (OpenSpec.ofChange schedEndsSpec)

/-- ITS FALSE NEIGHBOUR: 'it returns false'. Refute it at one input. -/
def schedEndsWrong : ChangeSpec := { name := "schedEnds", fn := fun _ => fun
  | [d1, d2, d3] => { results := [.lit (.bool false)], args := [d1, d2, d3] }
  | _ => none }
def SchedEndsWrongFalsely : Prop := schedEndsRow.holds Try.pinned (OpenSpec.ofChange schedEndsWrong)

/-- 'stillroomlaw24.SchedSteals': WHATEVER THE INPUT: true; the input reads as it did. -/
def schedStealsSpec : ChangeSpec := { name := "schedSteals", fn := fun _ => fun
  | [d1, d2, d3] => { results := [.lit (.bool true)], args := [d1, d2, d3] }
  | _ => none }
def schedStealsRow : OpenClaim := { program := "ytkgdpkkckeihbaa", sum := "c54161280df2349b5bfa9b5fbfab52e62a8c2585c6ad61791d138ece0dad166d", func := "stillroom/stillroomlaw24.SchedSteals", spec := "schedSteals", unfollowed := true, recurses := true, plainKeys := false, apart := false }
def SchedStealsSaid : Prop := schedStealsRow.holds Try.pinned (OpenSpec.ofChange schedStealsSpec)

/-- ITS FALSE NEIGHBOUR: 'it returns false'. Refute it at one input. -/
def schedStealsWrong : ChangeSpec := { name := "schedSteals", fn := fun _ => fun
  | [d1, d2, d3] => { results := [.lit (.bool false)], args := [d1, d2, d3] }
  | _ => none }
def SchedStealsWrongFalsely : Prop := schedStealsRow.holds Try.pinned (OpenSpec.ofChange schedStealsWrong)

/-- 'stillroomlaw24.SchedPlays': WHATEVER THE INPUT: true; the input reads as it did. -/
def schedPlaysSpec : ChangeSpec := { name := "schedPlays", fn := fun _ => fun
  | [d1, d2, d3] => { results := [.lit (.bool true)], args := [d1, d2, d3] }
  | _ => none }
def schedPlaysRow : OpenClaim := { program := "ytkgdpkkckeihbaa", sum := "c54161280df2349b5bfa9b5fbfab52e62a8c2585c6ad61791d138ece0dad166d", func := "stillroom/stillroomlaw24.SchedPlays", spec := "schedPlays", unfollowed := true, recurses := true, plainKeys := false, apart := false }
def SchedPlaysSaid : Prop := schedPlaysRow.holds Try.pinned (OpenSpec.ofChange schedPlaysSpec)

/-- ITS FALSE NEIGHBOUR: 'it returns false'. Refute it at one input. -/
def schedPlaysWrong : ChangeSpec := { name := "schedPlays", fn := fun _ => fun
  | [d1, d2, d3] => { results := [.lit (.bool false)], args := [d1, d2, d3] }
  | _ => none }
def SchedPlaysWrongFalsely : Prop := schedPlaysRow.holds Try.pinned (OpenSpec.ofChange schedPlaysWrong)

/- THE SECOND FORM. 'bulk': how many values and letters a reading holds, each counted each time it is reached (what is shared counts as often as it is met; a slice's spare places count too). A statement '..UptoSaid' is the law's where the arguments, and the package variables that the reading takes, are together of bulk at most 1048576: NARROWER than '..Said'. Prove '..Said' where nothing that the law and all that it calls make is longer than what came in: it says more and counts as full. Else prove '..UptoSaid'. A law counts once. -/
mutual
def uptoBulk {H : Type} : DataW H → Nat
  | .lit (.string bytes) => bytes.length + 1
  | .lit _ => 1
  | .nil => 1
  | .ptr d => uptoBulk d + 1
  | .slice elems spare => uptoBulkAll elems + uptoBulkAll spare + 1
  | .agg parts => uptoBulkAll parts + 1
  | .iface _ d => uptoBulk d + 1
  | .map entries => uptoBulkEntries entries + 1
  | .held _ => 1
def uptoBulkAll {H : Type} : List (DataW H) → Nat
  | [] => 0
  | d :: r => uptoBulk d + uptoBulkAll r
def uptoBulkEntries {H : Type} : List (Lit × DataW H) → Nat
  | [] => 0
  | x :: r => uptoBulkEntry x + uptoBulkEntries r
def uptoBulkEntry {H : Type} : Lit × DataW H → Nat
  | (.string bytes, d) => bytes.length + uptoBulk d + 1
  | (_, d) => uptoBulk d + 1
 end
def uptoSmall : (H : Type) → List (DataW H) → Bool := fun _ ds => decide (uptoBulkAll ds ≤ 1048576)
def OpenSpec.upto (s : _root_.Go.ChangeSpec) : _root_.Go.OpenSpec := { _root_.Go.OpenSpec.ofChange s with cond := some uptoSmall }

/-- 'stillroomlaw24.SchedNobody', WHERE WHAT IT READS IS OF BULK AT MOST 1048576: true; the input reads as it did. -/
def schedNobodyUptoRow : OpenClaim := { program := "ytkgdpkkckeihbaa", sum := "c54161280df2349b5bfa9b5fbfab52e62a8c2585c6ad61791d138ece0dad166d", func := "stillroom/stillroomlaw24.SchedNobody", spec := "schedNobody", unfollowed := true, recurses := true, plainKeys := false, apart := false, narrowed := true }
def SchedNobodyUptoSaid : Prop := schedNobodyUptoRow.holds Try.pinned (OpenSpec.upto schedNobodySpec)

/-- 'stillroomlaw24.SchedSafe', WHERE WHAT IT READS IS OF BULK AT MOST 1048576: true; the input reads as it did. -/
def schedSafeUptoRow : OpenClaim := { program := "ytkgdpkkckeihbaa", sum := "c54161280df2349b5bfa9b5fbfab52e62a8c2585c6ad61791d138ece0dad166d", func := "stillroom/stillroomlaw24.SchedSafe", spec := "schedSafe", unfollowed := true, recurses := true, plainKeys := false, apart := false, narrowed := true }
def SchedSafeUptoSaid : Prop := schedSafeUptoRow.holds Try.pinned (OpenSpec.upto schedSafeSpec)

/-- 'stillroomlaw24.SchedEnds', WHERE WHAT IT READS IS OF BULK AT MOST 1048576: true; the input reads as it did. -/
def schedEndsUptoRow : OpenClaim := { program := "ytkgdpkkckeihbaa", sum := "c54161280df2349b5bfa9b5fbfab52e62a8c2585c6ad61791d138ece0dad166d", func := "stillroom/stillroomlaw24.SchedEnds", spec := "schedEnds", unfollowed := true, recurses := true, plainKeys := false, apart := false, narrowed := true }
def SchedEndsUptoSaid : Prop := schedEndsUptoRow.holds Try.pinned (OpenSpec.upto schedEndsSpec)

/-- 'stillroomlaw24.SchedSteals', WHERE WHAT IT READS IS OF BULK AT MOST 1048576: true; the input reads as it did. -/
def schedStealsUptoRow : OpenClaim := { program := "ytkgdpkkckeihbaa", sum := "c54161280df2349b5bfa9b5fbfab52e62a8c2585c6ad61791d138ece0dad166d", func := "stillroom/stillroomlaw24.SchedSteals", spec := "schedSteals", unfollowed := true, recurses := true, plainKeys := false, apart := false, narrowed := true }
def SchedStealsUptoSaid : Prop := schedStealsUptoRow.holds Try.pinned (OpenSpec.upto schedStealsSpec)

/-- 'stillroomlaw24.SchedPlays', WHERE WHAT IT READS IS OF BULK AT MOST 1048576: true; the input reads as it did. -/
def schedPlaysUptoRow : OpenClaim := { program := "ytkgdpkkckeihbaa", sum := "c54161280df2349b5bfa9b5fbfab52e62a8c2585c6ad61791d138ece0dad166d", func := "stillroom/stillroomlaw24.SchedPlays", spec := "schedPlays", unfollowed := true, recurses := true, plainKeys := false, apart := false, narrowed := true }
def SchedPlaysUptoSaid : Prop := schedPlaysUptoRow.holds Try.pinned (OpenSpec.upto schedPlaysSpec)

end Rows
end Go.Proofs.Ytkgdpkkckeihbaa
