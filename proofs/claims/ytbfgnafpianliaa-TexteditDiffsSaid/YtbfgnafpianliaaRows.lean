/-
  No cell of these rows narrows 'for every input' (looked for: loops, veiled, ifaces, maps, wideKeys, modest, calm, conditions, laid).
  DERIVED. THE GIVEN ROWS OF THIS SEAT. 8 by the template 'for every input the law returns true; each argument reads behind the call as it read before'; 0 by the template 'total and deterministic' (their statements: YtbfgnafpianliaaTotals.lean).
  GIVEN WITH THE SEED: the statements are not yours to turn. If you find one false, say at which input.
  Laid BY PROGRAM, IN A SANDBOX (cutbox-rows.mjs): the forced cells as the released guide's own fill.sh prints them over the translation 8bd5c62b437faffb… (all of the seat's roots in one cut). By AI agents, Wed Nov 11 2026. No macro, syntax, notation, axiom, sorry.
-/
import Derived.Test.YtbfgnafpianliaaChecked
import GoSem.Claim
import GoSem.ClaimJoined
import GoSem.ClaimMapViews
import Derived.JoinedTies
import Derived.KernelRfl
namespace Go.Proofs.Ytbfgnafpianliaa
/- THE CELL 'sum', in the pinned program and in every row, IS THE sha256 OF THE DUMP (.gsa) THAT YtbfgnafpianliaaProg.lean LOADS. Nothing in Lean hashes anything: it is a label: what it is worth is what the hold of that sum in a sandbox is worth. -/
noncomputable def Try.pinned : Pinned := { name := "ytbfgnafpianliaa", sum := "8bd5c62b437faffbc9c5f4d5325c12239746a879cb02023610962d2ef76dcc74", checked := Try.checked }
namespace Rows
def none {H : Type} : Left H := { results := [], args := [] }

/-- 'configlanglaw52.TexteditApplies': WHATEVER THE INPUT: true; the input reads as it did. -/
def texteditAppliesSpec : ChangeSpec := { name := "texteditApplies", fn := fun _ => fun
  | [d1, d2] => { results := [.lit (.bool true)], args := [d1, d2] }
  | _ => none }
def texteditAppliesRow : OpenClaim := { program := "ytbfgnafpianliaa", sum := "8bd5c62b437faffbc9c5f4d5325c12239746a879cb02023610962d2ef76dcc74", func := "configlang/configlanglaw52.TexteditApplies", spec := "texteditApplies", recurses := true, apart := false }
def TexteditAppliesSaid : Prop := texteditAppliesRow.holds Try.pinned (OpenSpec.ofChange texteditAppliesSpec)

/-- ITS FALSE NEIGHBOUR: 'it returns false'. Refute it at one input. -/
def texteditAppliesWrong : ChangeSpec := { name := "texteditApplies", fn := fun _ => fun
  | [d1, d2] => { results := [.lit (.bool false)], args := [d1, d2] }
  | _ => none }
def TexteditAppliesWrongFalsely : Prop := texteditAppliesRow.holds Try.pinned (OpenSpec.ofChange texteditAppliesWrong)

/-- 'configlanglaw52.TexteditShifts': WHATEVER THE INPUT: true; the input reads as it did. -/
def texteditShiftsSpec : ChangeSpec := { name := "texteditShifts", fn := fun _ => fun
  | [d1, d2] => { results := [.lit (.bool true)], args := [d1, d2] }
  | _ => none }
def texteditShiftsRow : OpenClaim := { program := "ytbfgnafpianliaa", sum := "8bd5c62b437faffbc9c5f4d5325c12239746a879cb02023610962d2ef76dcc74", func := "configlang/configlanglaw52.TexteditShifts", spec := "texteditShifts", recurses := true, apart := false }
def TexteditShiftsSaid : Prop := texteditShiftsRow.holds Try.pinned (OpenSpec.ofChange texteditShiftsSpec)

/-- ITS FALSE NEIGHBOUR: 'it returns false'. Refute it at one input. -/
def texteditShiftsWrong : ChangeSpec := { name := "texteditShifts", fn := fun _ => fun
  | [d1, d2] => { results := [.lit (.bool false)], args := [d1, d2] }
  | _ => none }
def TexteditShiftsWrongFalsely : Prop := texteditShiftsRow.holds Try.pinned (OpenSpec.ofChange texteditShiftsWrong)

/-- 'configlanglaw52.TexteditInverts': WHATEVER THE INPUT: true; the input reads as it did. -/
def texteditInvertsSpec : ChangeSpec := { name := "texteditInverts", fn := fun _ => fun
  | [d1, d2] => { results := [.lit (.bool true)], args := [d1, d2] }
  | _ => none }
def texteditInvertsRow : OpenClaim := { program := "ytbfgnafpianliaa", sum := "8bd5c62b437faffbc9c5f4d5325c12239746a879cb02023610962d2ef76dcc74", func := "configlang/configlanglaw52.TexteditInverts", spec := "texteditInverts", recurses := true, apart := false }
def TexteditInvertsSaid : Prop := texteditInvertsRow.holds Try.pinned (OpenSpec.ofChange texteditInvertsSpec)

/-- ITS FALSE NEIGHBOUR: 'it returns false'. Refute it at one input. -/
def texteditInvertsWrong : ChangeSpec := { name := "texteditInverts", fn := fun _ => fun
  | [d1, d2] => { results := [.lit (.bool false)], args := [d1, d2] }
  | _ => none }
def TexteditInvertsWrongFalsely : Prop := texteditInvertsRow.holds Try.pinned (OpenSpec.ofChange texteditInvertsWrong)

/-- 'configlanglaw52.TexteditBack': WHATEVER THE INPUT: true; the input reads as it did. -/
def texteditBackSpec : ChangeSpec := { name := "texteditBack", fn := fun _ => fun
  | [d1, d2] => { results := [.lit (.bool true)], args := [d1, d2] }
  | _ => none }
def texteditBackRow : OpenClaim := { program := "ytbfgnafpianliaa", sum := "8bd5c62b437faffbc9c5f4d5325c12239746a879cb02023610962d2ef76dcc74", func := "configlang/configlanglaw52.TexteditBack", spec := "texteditBack", recurses := true, apart := false }
def TexteditBackSaid : Prop := texteditBackRow.holds Try.pinned (OpenSpec.ofChange texteditBackSpec)

/-- ITS FALSE NEIGHBOUR: 'it returns false'. Refute it at one input. -/
def texteditBackWrong : ChangeSpec := { name := "texteditBack", fn := fun _ => fun
  | [d1, d2] => { results := [.lit (.bool false)], args := [d1, d2] }
  | _ => none }
def TexteditBackWrongFalsely : Prop := texteditBackRow.holds Try.pinned (OpenSpec.ofChange texteditBackWrong)

/-- 'configlanglaw52.TexteditKeeps': WHATEVER THE INPUT: true; the input reads as it did. -/
def texteditKeepsSpec : ChangeSpec := { name := "texteditKeeps", fn := fun _ => fun
  | [d1, d2] => { results := [.lit (.bool true)], args := [d1, d2] }
  | _ => none }
def texteditKeepsRow : OpenClaim := { program := "ytbfgnafpianliaa", sum := "8bd5c62b437faffbc9c5f4d5325c12239746a879cb02023610962d2ef76dcc74", func := "configlang/configlanglaw52.TexteditKeeps", spec := "texteditKeeps", recurses := true, apart := false }
def TexteditKeepsSaid : Prop := texteditKeepsRow.holds Try.pinned (OpenSpec.ofChange texteditKeepsSpec)

/-- ITS FALSE NEIGHBOUR: 'it returns false'. Refute it at one input. -/
def texteditKeepsWrong : ChangeSpec := { name := "texteditKeeps", fn := fun _ => fun
  | [d1, d2] => { results := [.lit (.bool false)], args := [d1, d2] }
  | _ => none }
def TexteditKeepsWrongFalsely : Prop := texteditKeepsRow.holds Try.pinned (OpenSpec.ofChange texteditKeepsWrong)

/-- 'configlanglaw52.TexteditLines': WHATEVER THE INPUT: true; the input reads as it did. -/
def texteditLinesSpec : ChangeSpec := { name := "texteditLines", fn := fun _ => fun
  | [d] => { results := [.lit (.bool true)], args := [d] }
  | _ => none }
def texteditLinesRow : OpenClaim := { program := "ytbfgnafpianliaa", sum := "8bd5c62b437faffbc9c5f4d5325c12239746a879cb02023610962d2ef76dcc74", func := "configlang/configlanglaw52.TexteditLines", spec := "texteditLines", recurses := true, apart := false }
def TexteditLinesSaid : Prop := texteditLinesRow.holds Try.pinned (OpenSpec.ofChange texteditLinesSpec)

/-- ITS FALSE NEIGHBOUR: 'it returns false'. Refute it at one input. -/
def texteditLinesWrong : ChangeSpec := { name := "texteditLines", fn := fun _ => fun
  | [d] => { results := [.lit (.bool false)], args := [d] }
  | _ => none }
def TexteditLinesWrongFalsely : Prop := texteditLinesRow.holds Try.pinned (OpenSpec.ofChange texteditLinesWrong)

/-- 'configlanglaw52.TexteditDiffs': WHATEVER THE INPUT: true; the input reads as it did. -/
def texteditDiffsSpec : ChangeSpec := { name := "texteditDiffs", fn := fun _ => fun
  | [d1, d2] => { results := [.lit (.bool true)], args := [d1, d2] }
  | _ => none }
def texteditDiffsRow : OpenClaim := { program := "ytbfgnafpianliaa", sum := "8bd5c62b437faffbc9c5f4d5325c12239746a879cb02023610962d2ef76dcc74", func := "configlang/configlanglaw52.TexteditDiffs", spec := "texteditDiffs", recurses := true, apart := false }
def TexteditDiffsSaid : Prop := texteditDiffsRow.holds Try.pinned (OpenSpec.ofChange texteditDiffsSpec)

/-- ITS FALSE NEIGHBOUR: 'it returns false'. Refute it at one input. -/
def texteditDiffsWrong : ChangeSpec := { name := "texteditDiffs", fn := fun _ => fun
  | [d1, d2] => { results := [.lit (.bool false)], args := [d1, d2] }
  | _ => none }
def TexteditDiffsWrongFalsely : Prop := texteditDiffsRow.holds Try.pinned (OpenSpec.ofChange texteditDiffsWrong)

/-- 'configlanglaw52.TexteditSizes': WHATEVER THE INPUT: true; the input reads as it did. -/
def texteditSizesSpec : ChangeSpec := { name := "texteditSizes", fn := fun _ => fun
  | [d1, d2] => { results := [.lit (.bool true)], args := [d1, d2] }
  | _ => none }
def texteditSizesRow : OpenClaim := { program := "ytbfgnafpianliaa", sum := "8bd5c62b437faffbc9c5f4d5325c12239746a879cb02023610962d2ef76dcc74", func := "configlang/configlanglaw52.TexteditSizes", spec := "texteditSizes", recurses := true, apart := false }
def TexteditSizesSaid : Prop := texteditSizesRow.holds Try.pinned (OpenSpec.ofChange texteditSizesSpec)

/-- ITS FALSE NEIGHBOUR: 'it returns false'. Refute it at one input. -/
def texteditSizesWrong : ChangeSpec := { name := "texteditSizes", fn := fun _ => fun
  | [d1, d2] => { results := [.lit (.bool false)], args := [d1, d2] }
  | _ => none }
def TexteditSizesWrongFalsely : Prop := texteditSizesRow.holds Try.pinned (OpenSpec.ofChange texteditSizesWrong)

/- THE SECOND FORM. 'bulk': how many values and letters a reading holds, each counted each time it is reached (what is shared counts as often as it is met; a slice's spare places count too). A statement '..UptoSaid' is the law's where the arguments, and the package variables that the reading takes, are together of bulk at most 1048576: NARROWER than '..Said'. Prove '..Said' where nothing that the law and all that it calls make is longer than what came in: it says more and counts as full. Else prove '..UptoSaid'. A law counts once. -/
mutual
def uptoBulk {H : Type} : DataW H → Nat
  | .lit (.string bytes) => bytes.length + 1
  | .lit _ => 1
  | .nil => 1
  | .ptr d => uptoBulk d + 1
  | .slice elems spare => uptoBulkAll elems + uptoBulkAll spare + 1
  | .agg parts => uptoBulkAll parts + 1
  | .iface _ d => uptoBulk d + 1
  | .map entries => uptoBulkEntries entries + 1
  | .held _ => 1
def uptoBulkAll {H : Type} : List (DataW H) → Nat
  | [] => 0
  | d :: r => uptoBulk d + uptoBulkAll r
def uptoBulkEntries {H : Type} : List (Lit × DataW H) → Nat
  | [] => 0
  | x :: r => uptoBulkEntry x + uptoBulkEntries r
def uptoBulkEntry {H : Type} : Lit × DataW H → Nat
  | (.string bytes, d) => bytes.length + uptoBulk d + 1
  | (_, d) => uptoBulk d + 1
 end
def uptoSmall : (H : Type) → List (DataW H) → Bool := fun _ ds => decide (uptoBulkAll ds ≤ 1048576)
def OpenSpec.upto (s : _root_.Go.ChangeSpec) : _root_.Go.OpenSpec := { _root_.Go.OpenSpec.ofChange s with cond := some uptoSmall }

/-- 'configlanglaw52.TexteditApplies', WHERE WHAT IT READS IS OF BULK AT MOST 1048576: true; the input reads as it did. -/
def texteditAppliesUptoRow : OpenClaim := { program := "ytbfgnafpianliaa", sum := "8bd5c62b437faffbc9c5f4d5325c12239746a879cb02023610962d2ef76dcc74", func := "configlang/configlanglaw52.TexteditApplies", spec := "texteditApplies", recurses := true, apart := false, narrowed := true }
def TexteditAppliesUptoSaid : Prop := texteditAppliesUptoRow.holds Try.pinned (OpenSpec.upto texteditAppliesSpec)

/-- 'configlanglaw52.TexteditShifts', WHERE WHAT IT READS IS OF BULK AT MOST 1048576: true; the input reads as it did. -/
def texteditShiftsUptoRow : OpenClaim := { program := "ytbfgnafpianliaa", sum := "8bd5c62b437faffbc9c5f4d5325c12239746a879cb02023610962d2ef76dcc74", func := "configlang/configlanglaw52.TexteditShifts", spec := "texteditShifts", recurses := true, apart := false, narrowed := true }
def TexteditShiftsUptoSaid : Prop := texteditShiftsUptoRow.holds Try.pinned (OpenSpec.upto texteditShiftsSpec)

/-- 'configlanglaw52.TexteditInverts', WHERE WHAT IT READS IS OF BULK AT MOST 1048576: true; the input reads as it did. -/
def texteditInvertsUptoRow : OpenClaim := { program := "ytbfgnafpianliaa", sum := "8bd5c62b437faffbc9c5f4d5325c12239746a879cb02023610962d2ef76dcc74", func := "configlang/configlanglaw52.TexteditInverts", spec := "texteditInverts", recurses := true, apart := false, narrowed := true }
def TexteditInvertsUptoSaid : Prop := texteditInvertsUptoRow.holds Try.pinned (OpenSpec.upto texteditInvertsSpec)

/-- 'configlanglaw52.TexteditBack', WHERE WHAT IT READS IS OF BULK AT MOST 1048576: true; the input reads as it did. -/
def texteditBackUptoRow : OpenClaim := { program := "ytbfgnafpianliaa", sum := "8bd5c62b437faffbc9c5f4d5325c12239746a879cb02023610962d2ef76dcc74", func := "configlang/configlanglaw52.TexteditBack", spec := "texteditBack", recurses := true, apart := false, narrowed := true }
def TexteditBackUptoSaid : Prop := texteditBackUptoRow.holds Try.pinned (OpenSpec.upto texteditBackSpec)

/-- 'configlanglaw52.TexteditKeeps', WHERE WHAT IT READS IS OF BULK AT MOST 1048576: true; the input reads as it did. -/
def texteditKeepsUptoRow : OpenClaim := { program := "ytbfgnafpianliaa", sum := "8bd5c62b437faffbc9c5f4d5325c12239746a879cb02023610962d2ef76dcc74", func := "configlang/configlanglaw52.TexteditKeeps", spec := "texteditKeeps", recurses := true, apart := false, narrowed := true }
def TexteditKeepsUptoSaid : Prop := texteditKeepsUptoRow.holds Try.pinned (OpenSpec.upto texteditKeepsSpec)

/-- 'configlanglaw52.TexteditLines', WHERE WHAT IT READS IS OF BULK AT MOST 1048576: true; the input reads as it did. -/
def texteditLinesUptoRow : OpenClaim := { program := "ytbfgnafpianliaa", sum := "8bd5c62b437faffbc9c5f4d5325c12239746a879cb02023610962d2ef76dcc74", func := "configlang/configlanglaw52.TexteditLines", spec := "texteditLines", recurses := true, apart := false, narrowed := true }
def TexteditLinesUptoSaid : Prop := texteditLinesUptoRow.holds Try.pinned (OpenSpec.upto texteditLinesSpec)

/-- 'configlanglaw52.TexteditDiffs', WHERE WHAT IT READS IS OF BULK AT MOST 1048576: true; the input reads as it did. -/
def texteditDiffsUptoRow : OpenClaim := { program := "ytbfgnafpianliaa", sum := "8bd5c62b437faffbc9c5f4d5325c12239746a879cb02023610962d2ef76dcc74", func := "configlang/configlanglaw52.TexteditDiffs", spec := "texteditDiffs", recurses := true, apart := false, narrowed := true }
def TexteditDiffsUptoSaid : Prop := texteditDiffsUptoRow.holds Try.pinned (OpenSpec.upto texteditDiffsSpec)

/-- 'configlanglaw52.TexteditSizes', WHERE WHAT IT READS IS OF BULK AT MOST 1048576: true; the input reads as it did. -/
def texteditSizesUptoRow : OpenClaim := { program := "ytbfgnafpianliaa", sum := "8bd5c62b437faffbc9c5f4d5325c12239746a879cb02023610962d2ef76dcc74", func := "configlang/configlanglaw52.TexteditSizes", spec := "texteditSizes", recurses := true, apart := false, narrowed := true }
def TexteditSizesUptoSaid : Prop := texteditSizesUptoRow.holds Try.pinned (OpenSpec.upto texteditSizesSpec)

end Rows
end Go.Proofs.Ytbfgnafpianliaa
