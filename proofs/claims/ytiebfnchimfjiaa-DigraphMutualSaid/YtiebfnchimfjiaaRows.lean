/-
  No cell of these rows narrows 'for every input' (looked for: loops, veiled, ifaces, maps, wideKeys, modest, calm, conditions, laid).
  DERIVED. THE GIVEN ROWS OF THIS SEAT. 9 by the template 'for every input the law returns true; each argument reads behind the call as it read before'; 0 by the template 'total and deterministic' (their statements: YtiebfnchimfjiaaTotals.lean).
  GIVEN WITH THE SEED: the statements are not yours to turn. If you find one false, say at which input.
  Laid BY PROGRAM, IN A SANDBOX (cutbox-rows.mjs): the forced cells as the released guide's own fill.sh prints them over the translation b328c6de6b2e333f… (all of the seat's roots in one cut). By AI agents, Wed Nov 11 2026. No macro, syntax, notation, axiom, sorry.
-/
import Derived.Test.YtiebfnchimfjiaaChecked
import GoSem.Claim
import GoSem.ClaimJoined
import GoSem.ClaimMapViews
import Derived.JoinedTies
import Derived.KernelRfl
namespace Go.Proofs.Ytiebfnchimfjiaa
/- THE CELL 'sum', in the pinned program and in every row, IS THE sha256 OF THE DUMP (.gsa) THAT YtiebfnchimfjiaaProg.lean LOADS. Nothing in Lean hashes anything: it is a label: what it is worth is what the hold of that sum in a sandbox is worth. -/
noncomputable def Try.pinned : Pinned := { name := "ytiebfnchimfjiaa", sum := "b328c6de6b2e333fe86189b59a3228b519f983218e4254bb2d4a2eaae26e78b5", checked := Try.checked }
namespace Rows
def none {H : Type} : Left H := { results := [], args := [] }

/-- 'configlanglaw45.DigraphReaches': WHATEVER THE INPUT: true; the input reads as it did. -/
def digraphReachesSpec : ChangeSpec := { name := "digraphReaches", fn := fun _ => fun
  | [d1, d2] => { results := [.lit (.bool true)], args := [d1, d2] }
  | _ => none }
def digraphReachesRow : OpenClaim := { program := "ytiebfnchimfjiaa", sum := "b328c6de6b2e333fe86189b59a3228b519f983218e4254bb2d4a2eaae26e78b5", func := "configlang/configlanglaw45.DigraphReaches", spec := "digraphReaches", unfollowed := true, recurses := true, apart := false }
def DigraphReachesSaid : Prop := digraphReachesRow.holds Try.pinned (OpenSpec.ofChange digraphReachesSpec)

/-- ITS FALSE NEIGHBOUR: 'it returns false'. Refute it at one input. -/
def digraphReachesWrong : ChangeSpec := { name := "digraphReaches", fn := fun _ => fun
  | [d1, d2] => { results := [.lit (.bool false)], args := [d1, d2] }
  | _ => none }
def DigraphReachesWrongFalsely : Prop := digraphReachesRow.holds Try.pinned (OpenSpec.ofChange digraphReachesWrong)

/-- 'configlanglaw45.DigraphReverses': WHATEVER THE INPUT: true; the input reads as it did. -/
def digraphReversesSpec : ChangeSpec := { name := "digraphReverses", fn := fun _ => fun
  | [d] => { results := [.lit (.bool true)], args := [d] }
  | _ => none }
def digraphReversesRow : OpenClaim := { program := "ytiebfnchimfjiaa", sum := "b328c6de6b2e333fe86189b59a3228b519f983218e4254bb2d4a2eaae26e78b5", func := "configlang/configlanglaw45.DigraphReverses", spec := "digraphReverses", unfollowed := true, recurses := true, apart := false }
def DigraphReversesSaid : Prop := digraphReversesRow.holds Try.pinned (OpenSpec.ofChange digraphReversesSpec)

/-- ITS FALSE NEIGHBOUR: 'it returns false'. Refute it at one input. -/
def digraphReversesWrong : ChangeSpec := { name := "digraphReverses", fn := fun _ => fun
  | [d] => { results := [.lit (.bool false)], args := [d] }
  | _ => none }
def DigraphReversesWrongFalsely : Prop := digraphReversesRow.holds Try.pinned (OpenSpec.ofChange digraphReversesWrong)

/-- 'configlanglaw45.DigraphDistances': WHATEVER THE INPUT: true; the input reads as it did. -/
def digraphDistancesSpec : ChangeSpec := { name := "digraphDistances", fn := fun _ => fun
  | [d1, d2] => { results := [.lit (.bool true)], args := [d1, d2] }
  | _ => none }
def digraphDistancesRow : OpenClaim := { program := "ytiebfnchimfjiaa", sum := "b328c6de6b2e333fe86189b59a3228b519f983218e4254bb2d4a2eaae26e78b5", func := "configlang/configlanglaw45.DigraphDistances", spec := "digraphDistances", unfollowed := true, recurses := true, apart := false }
def DigraphDistancesSaid : Prop := digraphDistancesRow.holds Try.pinned (OpenSpec.ofChange digraphDistancesSpec)

/-- ITS FALSE NEIGHBOUR: 'it returns false'. Refute it at one input. -/
def digraphDistancesWrong : ChangeSpec := { name := "digraphDistances", fn := fun _ => fun
  | [d1, d2] => { results := [.lit (.bool false)], args := [d1, d2] }
  | _ => none }
def DigraphDistancesWrongFalsely : Prop := digraphDistancesRow.holds Try.pinned (OpenSpec.ofChange digraphDistancesWrong)

/-- 'configlanglaw45.DigraphComponents': WHATEVER THE INPUT: true; the input reads as it did. -/
def digraphComponentsSpec : ChangeSpec := { name := "digraphComponents", fn := fun _ => fun
  | [d] => { results := [.lit (.bool true)], args := [d] }
  | _ => none }
def digraphComponentsRow : OpenClaim := { program := "ytiebfnchimfjiaa", sum := "b328c6de6b2e333fe86189b59a3228b519f983218e4254bb2d4a2eaae26e78b5", func := "configlang/configlanglaw45.DigraphComponents", spec := "digraphComponents", unfollowed := true, recurses := true, apart := false }
def DigraphComponentsSaid : Prop := digraphComponentsRow.holds Try.pinned (OpenSpec.ofChange digraphComponentsSpec)

/-- ITS FALSE NEIGHBOUR: 'it returns false'. Refute it at one input. -/
def digraphComponentsWrong : ChangeSpec := { name := "digraphComponents", fn := fun _ => fun
  | [d] => { results := [.lit (.bool false)], args := [d] }
  | _ => none }
def DigraphComponentsWrongFalsely : Prop := digraphComponentsRow.holds Try.pinned (OpenSpec.ofChange digraphComponentsWrong)

/-- 'configlanglaw45.DigraphSorts': WHATEVER THE INPUT: true; the input reads as it did. -/
def digraphSortsSpec : ChangeSpec := { name := "digraphSorts", fn := fun _ => fun
  | [d] => { results := [.lit (.bool true)], args := [d] }
  | _ => none }
def digraphSortsRow : OpenClaim := { program := "ytiebfnchimfjiaa", sum := "b328c6de6b2e333fe86189b59a3228b519f983218e4254bb2d4a2eaae26e78b5", func := "configlang/configlanglaw45.DigraphSorts", spec := "digraphSorts", unfollowed := true, recurses := true, apart := false }
def DigraphSortsSaid : Prop := digraphSortsRow.holds Try.pinned (OpenSpec.ofChange digraphSortsSpec)

/-- ITS FALSE NEIGHBOUR: 'it returns false'. Refute it at one input. -/
def digraphSortsWrong : ChangeSpec := { name := "digraphSorts", fn := fun _ => fun
  | [d] => { results := [.lit (.bool false)], args := [d] }
  | _ => none }
def DigraphSortsWrongFalsely : Prop := digraphSortsRow.holds Try.pinned (OpenSpec.ofChange digraphSortsWrong)

/-- 'configlanglaw45.DigraphCycles': WHATEVER THE INPUT: true; the input reads as it did. -/
def digraphCyclesSpec : ChangeSpec := { name := "digraphCycles", fn := fun _ => fun
  | [d] => { results := [.lit (.bool true)], args := [d] }
  | _ => none }
def digraphCyclesRow : OpenClaim := { program := "ytiebfnchimfjiaa", sum := "b328c6de6b2e333fe86189b59a3228b519f983218e4254bb2d4a2eaae26e78b5", func := "configlang/configlanglaw45.DigraphCycles", spec := "digraphCycles", unfollowed := true, recurses := true, apart := false }
def DigraphCyclesSaid : Prop := digraphCyclesRow.holds Try.pinned (OpenSpec.ofChange digraphCyclesSpec)

/-- ITS FALSE NEIGHBOUR: 'it returns false'. Refute it at one input. -/
def digraphCyclesWrong : ChangeSpec := { name := "digraphCycles", fn := fun _ => fun
  | [d] => { results := [.lit (.bool false)], args := [d] }
  | _ => none }
def DigraphCyclesWrongFalsely : Prop := digraphCyclesRow.holds Try.pinned (OpenSpec.ofChange digraphCyclesWrong)

/-- 'configlanglaw45.DigraphMutual': WHATEVER THE INPUT: true; the input reads as it did. -/
def digraphMutualSpec : ChangeSpec := { name := "digraphMutual", fn := fun _ => fun
  | [d] => { results := [.lit (.bool true)], args := [d] }
  | _ => none }
def digraphMutualRow : OpenClaim := { program := "ytiebfnchimfjiaa", sum := "b328c6de6b2e333fe86189b59a3228b519f983218e4254bb2d4a2eaae26e78b5", func := "configlang/configlanglaw45.DigraphMutual", spec := "digraphMutual", unfollowed := true, recurses := true, apart := false }
def DigraphMutualSaid : Prop := digraphMutualRow.holds Try.pinned (OpenSpec.ofChange digraphMutualSpec)

/-- ITS FALSE NEIGHBOUR: 'it returns false'. Refute it at one input. -/
def digraphMutualWrong : ChangeSpec := { name := "digraphMutual", fn := fun _ => fun
  | [d] => { results := [.lit (.bool false)], args := [d] }
  | _ => none }
def DigraphMutualWrongFalsely : Prop := digraphMutualRow.holds Try.pinned (OpenSpec.ofChange digraphMutualWrong)

/-- 'configlanglaw45.DigraphAcyclic': WHATEVER THE INPUT: true; the input reads as it did. -/
def digraphAcyclicSpec : ChangeSpec := { name := "digraphAcyclic", fn := fun _ => fun
  | [d] => { results := [.lit (.bool true)], args := [d] }
  | _ => none }
def digraphAcyclicRow : OpenClaim := { program := "ytiebfnchimfjiaa", sum := "b328c6de6b2e333fe86189b59a3228b519f983218e4254bb2d4a2eaae26e78b5", func := "configlang/configlanglaw45.DigraphAcyclic", spec := "digraphAcyclic", unfollowed := true, recurses := true, apart := false }
def DigraphAcyclicSaid : Prop := digraphAcyclicRow.holds Try.pinned (OpenSpec.ofChange digraphAcyclicSpec)

/-- ITS FALSE NEIGHBOUR: 'it returns false'. Refute it at one input. -/
def digraphAcyclicWrong : ChangeSpec := { name := "digraphAcyclic", fn := fun _ => fun
  | [d] => { results := [.lit (.bool false)], args := [d] }
  | _ => none }
def DigraphAcyclicWrongFalsely : Prop := digraphAcyclicRow.holds Try.pinned (OpenSpec.ofChange digraphAcyclicWrong)

/-- 'configlanglaw45.DigraphBackward': WHATEVER THE INPUT: true; the input reads as it did. -/
def digraphBackwardSpec : ChangeSpec := { name := "digraphBackward", fn := fun _ => fun
  | [d1, d2, d3] => { results := [.lit (.bool true)], args := [d1, d2, d3] }
  | _ => none }
def digraphBackwardRow : OpenClaim := { program := "ytiebfnchimfjiaa", sum := "b328c6de6b2e333fe86189b59a3228b519f983218e4254bb2d4a2eaae26e78b5", func := "configlang/configlanglaw45.DigraphBackward", spec := "digraphBackward", unfollowed := true, recurses := true, apart := false }
def DigraphBackwardSaid : Prop := digraphBackwardRow.holds Try.pinned (OpenSpec.ofChange digraphBackwardSpec)

/-- ITS FALSE NEIGHBOUR: 'it returns false'. Refute it at one input. -/
def digraphBackwardWrong : ChangeSpec := { name := "digraphBackward", fn := fun _ => fun
  | [d1, d2, d3] => { results := [.lit (.bool false)], args := [d1, d2, d3] }
  | _ => none }
def DigraphBackwardWrongFalsely : Prop := digraphBackwardRow.holds Try.pinned (OpenSpec.ofChange digraphBackwardWrong)

/- THE SECOND FORM. 'bulk': how many values and letters a reading holds, each counted each time it is reached (what is shared counts as often as it is met; a slice's spare places count too). A statement '..UptoSaid' is the law's where the arguments, and the package variables that the reading takes, are together of bulk at most 1048576: NARROWER than '..Said'. Prove '..Said' where nothing that the law and all that it calls make is longer than what came in: it says more and counts as full. Else prove '..UptoSaid'. A law counts once. -/
mutual
def uptoBulk {H : Type} : DataW H → Nat
  | .lit (.string bytes) => bytes.length + 1
  | .lit _ => 1
  | .nil => 1
  | .ptr d => uptoBulk d + 1
  | .slice elems spare => uptoBulkAll elems + uptoBulkAll spare + 1
  | .agg parts => uptoBulkAll parts + 1
  | .iface _ d => uptoBulk d + 1
  | .map entries => uptoBulkEntries entries + 1
  | .held _ => 1
def uptoBulkAll {H : Type} : List (DataW H) → Nat
  | [] => 0
  | d :: r => uptoBulk d + uptoBulkAll r
def uptoBulkEntries {H : Type} : List (Lit × DataW H) → Nat
  | [] => 0
  | x :: r => uptoBulkEntry x + uptoBulkEntries r
def uptoBulkEntry {H : Type} : Lit × DataW H → Nat
  | (.string bytes, d) => bytes.length + uptoBulk d + 1
  | (_, d) => uptoBulk d + 1
 end
def uptoSmall : (H : Type) → List (DataW H) → Bool := fun _ ds => decide (uptoBulkAll ds ≤ 1048576)
def OpenSpec.upto (s : _root_.Go.ChangeSpec) : _root_.Go.OpenSpec := { _root_.Go.OpenSpec.ofChange s with cond := some uptoSmall }

/-- 'configlanglaw45.DigraphReaches', WHERE WHAT IT READS IS OF BULK AT MOST 1048576: true; the input reads as it did. -/
def digraphReachesUptoRow : OpenClaim := { program := "ytiebfnchimfjiaa", sum := "b328c6de6b2e333fe86189b59a3228b519f983218e4254bb2d4a2eaae26e78b5", func := "configlang/configlanglaw45.DigraphReaches", spec := "digraphReaches", unfollowed := true, recurses := true, apart := false, narrowed := true }
def DigraphReachesUptoSaid : Prop := digraphReachesUptoRow.holds Try.pinned (OpenSpec.upto digraphReachesSpec)

/-- 'configlanglaw45.DigraphReverses', WHERE WHAT IT READS IS OF BULK AT MOST 1048576: true; the input reads as it did. -/
def digraphReversesUptoRow : OpenClaim := { program := "ytiebfnchimfjiaa", sum := "b328c6de6b2e333fe86189b59a3228b519f983218e4254bb2d4a2eaae26e78b5", func := "configlang/configlanglaw45.DigraphReverses", spec := "digraphReverses", unfollowed := true, recurses := true, apart := false, narrowed := true }
def DigraphReversesUptoSaid : Prop := digraphReversesUptoRow.holds Try.pinned (OpenSpec.upto digraphReversesSpec)

/-- 'configlanglaw45.DigraphDistances', WHERE WHAT IT READS IS OF BULK AT MOST 1048576: true; the input reads as it did. -/
def digraphDistancesUptoRow : OpenClaim := { program := "ytiebfnchimfjiaa", sum := "b328c6de6b2e333fe86189b59a3228b519f983218e4254bb2d4a2eaae26e78b5", func := "configlang/configlanglaw45.DigraphDistances", spec := "digraphDistances", unfollowed := true, recurses := true, apart := false, narrowed := true }
def DigraphDistancesUptoSaid : Prop := digraphDistancesUptoRow.holds Try.pinned (OpenSpec.upto digraphDistancesSpec)

/-- 'configlanglaw45.DigraphComponents', WHERE WHAT IT READS IS OF BULK AT MOST 1048576: true; the input reads as it did. -/
def digraphComponentsUptoRow : OpenClaim := { program := "ytiebfnchimfjiaa", sum := "b328c6de6b2e333fe86189b59a3228b519f983218e4254bb2d4a2eaae26e78b5", func := "configlang/configlanglaw45.DigraphComponents", spec := "digraphComponents", unfollowed := true, recurses := true, apart := false, narrowed := true }
def DigraphComponentsUptoSaid : Prop := digraphComponentsUptoRow.holds Try.pinned (OpenSpec.upto digraphComponentsSpec)

/-- 'configlanglaw45.DigraphSorts', WHERE WHAT IT READS IS OF BULK AT MOST 1048576: true; the input reads as it did. -/
def digraphSortsUptoRow : OpenClaim := { program := "ytiebfnchimfjiaa", sum := "b328c6de6b2e333fe86189b59a3228b519f983218e4254bb2d4a2eaae26e78b5", func := "configlang/configlanglaw45.DigraphSorts", spec := "digraphSorts", unfollowed := true, recurses := true, apart := false, narrowed := true }
def DigraphSortsUptoSaid : Prop := digraphSortsUptoRow.holds Try.pinned (OpenSpec.upto digraphSortsSpec)

/-- 'configlanglaw45.DigraphCycles', WHERE WHAT IT READS IS OF BULK AT MOST 1048576: true; the input reads as it did. -/
def digraphCyclesUptoRow : OpenClaim := { program := "ytiebfnchimfjiaa", sum := "b328c6de6b2e333fe86189b59a3228b519f983218e4254bb2d4a2eaae26e78b5", func := "configlang/configlanglaw45.DigraphCycles", spec := "digraphCycles", unfollowed := true, recurses := true, apart := false, narrowed := true }
def DigraphCyclesUptoSaid : Prop := digraphCyclesUptoRow.holds Try.pinned (OpenSpec.upto digraphCyclesSpec)

/-- 'configlanglaw45.DigraphMutual', WHERE WHAT IT READS IS OF BULK AT MOST 1048576: true; the input reads as it did. -/
def digraphMutualUptoRow : OpenClaim := { program := "ytiebfnchimfjiaa", sum := "b328c6de6b2e333fe86189b59a3228b519f983218e4254bb2d4a2eaae26e78b5", func := "configlang/configlanglaw45.DigraphMutual", spec := "digraphMutual", unfollowed := true, recurses := true, apart := false, narrowed := true }
def DigraphMutualUptoSaid : Prop := digraphMutualUptoRow.holds Try.pinned (OpenSpec.upto digraphMutualSpec)

/-- 'configlanglaw45.DigraphAcyclic', WHERE WHAT IT READS IS OF BULK AT MOST 1048576: true; the input reads as it did. -/
def digraphAcyclicUptoRow : OpenClaim := { program := "ytiebfnchimfjiaa", sum := "b328c6de6b2e333fe86189b59a3228b519f983218e4254bb2d4a2eaae26e78b5", func := "configlang/configlanglaw45.DigraphAcyclic", spec := "digraphAcyclic", unfollowed := true, recurses := true, apart := false, narrowed := true }
def DigraphAcyclicUptoSaid : Prop := digraphAcyclicUptoRow.holds Try.pinned (OpenSpec.upto digraphAcyclicSpec)

/-- 'configlanglaw45.DigraphBackward', WHERE WHAT IT READS IS OF BULK AT MOST 1048576: true; the input reads as it did. -/
def digraphBackwardUptoRow : OpenClaim := { program := "ytiebfnchimfjiaa", sum := "b328c6de6b2e333fe86189b59a3228b519f983218e4254bb2d4a2eaae26e78b5", func := "configlang/configlanglaw45.DigraphBackward", spec := "digraphBackward", unfollowed := true, recurses := true, apart := false, narrowed := true }
def DigraphBackwardUptoSaid : Prop := digraphBackwardUptoRow.holds Try.pinned (OpenSpec.upto digraphBackwardSpec)

end Rows
end Go.Proofs.Ytiebfnchimfjiaa
