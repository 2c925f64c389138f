/-
  NARROWER THAN 'FOR EVERY INPUT', by the rows' own cells (each row's printed sentence says how): DataChecks: loops, laid · DataMakes: loops, laid · DataCounts: loops, laid · DataCompares: loops, laid · DataGets: loops, laid · DataLeaves: loops, laid · DataTexts: loops, laid · DataOrders: loops, laid · DataDistinct: loops, laid · DataFinds: loops, laid.
  DERIVED. THE GIVEN ROWS OF THIS SEAT. 10 by the template 'for every input the law returns true; each argument reads behind the call as it read before'; 0 by the template 'total and deterministic' (their statements: YtajpgmacabeeeaaDoorTotals.lean).
  GIVEN WITH THE SEED: the statements are not yours to turn. If you find one false, say at which input.
  Laid BY PROGRAM, IN A SANDBOX (cutbox-rows.mjs): the forced cells as the released guide's own fill.sh prints them over the translation b9248f5c19d852ec… (all of the seat's roots in one cut). By AI agents, Wed Nov 11 2026. No macro, syntax, notation, axiom, sorry.
-/
import Derived.Test.YtajpgmacabeeeaaDoorChecked
import GoSem.Claim
import GoSem.ClaimJoined
import GoSem.ClaimMapViews
import Derived.JoinedTies
import Derived.KernelRfl
namespace Go.Proofs.YtajpgmacabeeeaaDoor
/- THE CELL 'sum', in the pinned program and in every row, IS THE sha256 OF THE DUMP (.gsa) THAT YtajpgmacabeeeaaDoorProg.lean LOADS. Nothing in Lean hashes anything: it is a label: what it is worth is what the hold of that sum in a sandbox is worth. -/
noncomputable def Tryd.pinned : Pinned := { name := "ytajpgmacabeeeaadoor", sum := "b9248f5c19d852ec5f769a063a19be8727891f576b5f16575b75cf3e4ccc95a3", checked := Tryd.checked }
namespace Rows
def none {H : Type} : Left H := { results := [], args := [] }

/- WHAT THE LISTED PACKAGE-LEVEL VARIABLES READ AS WHEN THE CALL BEGINS. Each datum BY PROGRAM (the guide's laid-datum.mjs) off the statement by which the dump's own 'gosem.cut.vars' lays the variable. In a bare row this is a premise. The card (YtajpgmacabeeeaaDoorCards.lean) ties it to the program's text. -/
def laid_math_bits_deBruijn32tab {H : Type} : DataW H := .agg [.lit (.int .u8 0), .lit (.int .u8 1), .lit (.int .u8 28), .lit (.int .u8 2), .lit (.int .u8 29), .lit (.int .u8 14), .lit (.int .u8 24), .lit (.int .u8 3), .lit (.int .u8 30), .lit (.int .u8 22), .lit (.int .u8 20), .lit (.int .u8 15), .lit (.int .u8 25), .lit (.int .u8 17), .lit (.int .u8 4), .lit (.int .u8 8), .lit (.int .u8 31), .lit (.int .u8 27), .lit (.int .u8 13), .lit (.int .u8 23), .lit (.int .u8 21), .lit (.int .u8 19), .lit (.int .u8 16), .lit (.int .u8 7), .lit (.int .u8 26), .lit (.int .u8 12), .lit (.int .u8 18), .lit (.int .u8 6), .lit (.int .u8 11), .lit (.int .u8 5), .lit (.int .u8 10), .lit (.int .u8 9)]
def laid_math_bits_deBruijn64tab {H : Type} : DataW H := .agg [.lit (.int .u8 0), .lit (.int .u8 1), .lit (.int .u8 56), .lit (.int .u8 2), .lit (.int .u8 57), .lit (.int .u8 49), .lit (.int .u8 28), .lit (.int .u8 3), .lit (.int .u8 61), .lit (.int .u8 58), .lit (.int .u8 42), .lit (.int .u8 50), .lit (.int .u8 38), .lit (.int .u8 29), .lit (.int .u8 17), .lit (.int .u8 4), .lit (.int .u8 62), .lit (.int .u8 47), .lit (.int .u8 59), .lit (.int .u8 36), .lit (.int .u8 45), .lit (.int .u8 43), .lit (.int .u8 51), .lit (.int .u8 22), .lit (.int .u8 53), .lit (.int .u8 39), .lit (.int .u8 33), .lit (.int .u8 30), .lit (.int .u8 24), .lit (.int .u8 18), .lit (.int .u8 12), .lit (.int .u8 5), .lit (.int .u8 63), .lit (.int .u8 55), .lit (.int .u8 48), .lit (.int .u8 27), .lit (.int .u8 60), .lit (.int .u8 41), .lit (.int .u8 37), .lit (.int .u8 16), .lit (.int .u8 46), .lit (.int .u8 35), .lit (.int .u8 44), .lit (.int .u8 21), .lit (.int .u8 52), .lit (.int .u8 32), .lit (.int .u8 23), .lit (.int .u8 11), .lit (.int .u8 54), .lit (.int .u8 26), .lit (.int .u8 40), .lit (.int .u8 15), .lit (.int .u8 34), .lit (.int .u8 20), .lit (.int .u8 31), .lit (.int .u8 10), .lit (.int .u8 25), .lit (.int .u8 14), .lit (.int .u8 19), .lit (.int .u8 9), .lit (.int .u8 13), .lit (.int .u8 8), .lit (.int .u8 7), .lit (.int .u8 6)]
def laid_internal_strconv_uint64pow10 {H : Type} : DataW H := .agg [.lit (.int .u64 1), .lit (.int .u64 10), .lit (.int .u64 100), .lit (.int .u64 1000), .lit (.int .u64 10000), .lit (.int .u64 100000), .lit (.int .u64 1000000), .lit (.int .u64 10000000), .lit (.int .u64 100000000), .lit (.int .u64 1000000000), .lit (.int .u64 10000000000), .lit (.int .u64 100000000000), .lit (.int .u64 1000000000000), .lit (.int .u64 10000000000000), .lit (.int .u64 100000000000000), .lit (.int .u64 1000000000000000), .lit (.int .u64 10000000000000000), .lit (.int .u64 100000000000000000), .lit (.int .u64 1000000000000000000), .lit (.int .u64 10000000000000000000)]

/-- 'configlanglaw09.DataChecks': WHATEVER THE INPUT: true; the input reads as it did. -/
def dataChecksSpec : ChangeSpec := { name := "dataChecks", fn := fun _ => fun
  | [d] => { results := [.lit (.bool true)], args := [d] }
  | _ => none }
def dataChecksRow : OpenClaim := { program := "ytajpgmacabeeeaadoor", sum := "b9248f5c19d852ec5f769a063a19be8727891f576b5f16575b75cf3e4ccc95a3", func := "configlang/configlanglaw09.DataChecks", spec := "dataChecks", inPlace := ["internal/abi.NoEscape", "internal/bytealg.MakeNoZero"], unfollowed := true, recurses := true, named := ["internal/strconv.uint64pow10", "math/bits.deBruijn32tab", "math/bits.deBruijn64tab"], loops := true, apart := false, laid := [("math/bits.deBruijn32tab", laid_math_bits_deBruijn32tab), ("math/bits.deBruijn64tab", laid_math_bits_deBruijn64tab), ("internal/strconv.uint64pow10", laid_internal_strconv_uint64pow10)] }
def DataChecksSaid : Prop := dataChecksRow.holds Tryd.pinned (OpenSpec.ofChange dataChecksSpec)

/-- ITS FALSE NEIGHBOUR: 'it returns false'. Refute it at one input. -/
def dataChecksWrong : ChangeSpec := { name := "dataChecks", fn := fun _ => fun
  | [d] => { results := [.lit (.bool false)], args := [d] }
  | _ => none }
def DataChecksWrongFalsely : Prop := dataChecksRow.holds Tryd.pinned (OpenSpec.ofChange dataChecksWrong)

/-- 'configlanglaw09.DataMakes': WHATEVER THE INPUT: true; the input reads as it did. -/
def dataMakesSpec : ChangeSpec := { name := "dataMakes", fn := fun _ => fun
  | [d] => { results := [.lit (.bool true)], args := [d] }
  | _ => none }
def dataMakesRow : OpenClaim := { program := "ytajpgmacabeeeaadoor", sum := "b9248f5c19d852ec5f769a063a19be8727891f576b5f16575b75cf3e4ccc95a3", func := "configlang/configlanglaw09.DataMakes", spec := "dataMakes", inPlace := ["internal/abi.NoEscape", "internal/bytealg.MakeNoZero"], unfollowed := true, recurses := true, named := ["internal/strconv.uint64pow10", "math/bits.deBruijn32tab", "math/bits.deBruijn64tab"], loops := true, apart := false, laid := [("math/bits.deBruijn32tab", laid_math_bits_deBruijn32tab), ("math/bits.deBruijn64tab", laid_math_bits_deBruijn64tab), ("internal/strconv.uint64pow10", laid_internal_strconv_uint64pow10)] }
def DataMakesSaid : Prop := dataMakesRow.holds Tryd.pinned (OpenSpec.ofChange dataMakesSpec)

/-- ITS FALSE NEIGHBOUR: 'it returns false'. Refute it at one input. -/
def dataMakesWrong : ChangeSpec := { name := "dataMakes", fn := fun _ => fun
  | [d] => { results := [.lit (.bool false)], args := [d] }
  | _ => none }
def DataMakesWrongFalsely : Prop := dataMakesRow.holds Tryd.pinned (OpenSpec.ofChange dataMakesWrong)

/-- 'configlanglaw09.DataCounts': WHATEVER THE INPUT: true; the input reads as it did. -/
def dataCountsSpec : ChangeSpec := { name := "dataCounts", fn := fun _ => fun
  | [d] => { results := [.lit (.bool true)], args := [d] }
  | _ => none }
def dataCountsRow : OpenClaim := { program := "ytajpgmacabeeeaadoor", sum := "b9248f5c19d852ec5f769a063a19be8727891f576b5f16575b75cf3e4ccc95a3", func := "configlang/configlanglaw09.DataCounts", spec := "dataCounts", inPlace := ["internal/abi.NoEscape", "internal/bytealg.MakeNoZero"], unfollowed := true, recurses := true, named := ["internal/strconv.uint64pow10", "math/bits.deBruijn32tab", "math/bits.deBruijn64tab"], loops := true, apart := false, laid := [("math/bits.deBruijn32tab", laid_math_bits_deBruijn32tab), ("math/bits.deBruijn64tab", laid_math_bits_deBruijn64tab), ("internal/strconv.uint64pow10", laid_internal_strconv_uint64pow10)] }
def DataCountsSaid : Prop := dataCountsRow.holds Tryd.pinned (OpenSpec.ofChange dataCountsSpec)

/-- ITS FALSE NEIGHBOUR: 'it returns false'. Refute it at one input. -/
def dataCountsWrong : ChangeSpec := { name := "dataCounts", fn := fun _ => fun
  | [d] => { results := [.lit (.bool false)], args := [d] }
  | _ => none }
def DataCountsWrongFalsely : Prop := dataCountsRow.holds Tryd.pinned (OpenSpec.ofChange dataCountsWrong)

/-- 'configlanglaw09.DataCompares': WHATEVER THE INPUT: true; the input reads as it did. -/
def dataComparesSpec : ChangeSpec := { name := "dataCompares", fn := fun _ => fun
  | [d1, d2] => { results := [.lit (.bool true)], args := [d1, d2] }
  | _ => none }
def dataComparesRow : OpenClaim := { program := "ytajpgmacabeeeaadoor", sum := "b9248f5c19d852ec5f769a063a19be8727891f576b5f16575b75cf3e4ccc95a3", func := "configlang/configlanglaw09.DataCompares", spec := "dataCompares", inPlace := ["internal/abi.NoEscape", "internal/bytealg.MakeNoZero"], unfollowed := true, recurses := true, named := ["internal/strconv.uint64pow10", "math/bits.deBruijn32tab", "math/bits.deBruijn64tab"], loops := true, apart := false, laid := [("math/bits.deBruijn32tab", laid_math_bits_deBruijn32tab), ("math/bits.deBruijn64tab", laid_math_bits_deBruijn64tab), ("internal/strconv.uint64pow10", laid_internal_strconv_uint64pow10)] }
def DataComparesSaid : Prop := dataComparesRow.holds Tryd.pinned (OpenSpec.ofChange dataComparesSpec)

/-- ITS FALSE NEIGHBOUR: 'it returns false'. Refute it at one input. -/
def dataComparesWrong : ChangeSpec := { name := "dataCompares", fn := fun _ => fun
  | [d1, d2] => { results := [.lit (.bool false)], args := [d1, d2] }
  | _ => none }
def DataComparesWrongFalsely : Prop := dataComparesRow.holds Tryd.pinned (OpenSpec.ofChange dataComparesWrong)

/-- 'configlanglaw09.DataGets': WHATEVER THE INPUT: true; the input reads as it did. -/
def dataGetsSpec : ChangeSpec := { name := "dataGets", fn := fun _ => fun
  | [d1, d2] => { results := [.lit (.bool true)], args := [d1, d2] }
  | _ => none }
def dataGetsRow : OpenClaim := { program := "ytajpgmacabeeeaadoor", sum := "b9248f5c19d852ec5f769a063a19be8727891f576b5f16575b75cf3e4ccc95a3", func := "configlang/configlanglaw09.DataGets", spec := "dataGets", inPlace := ["internal/abi.NoEscape", "internal/bytealg.MakeNoZero"], unfollowed := true, recurses := true, named := ["internal/strconv.uint64pow10", "math/bits.deBruijn32tab", "math/bits.deBruijn64tab"], loops := true, apart := false, laid := [("math/bits.deBruijn32tab", laid_math_bits_deBruijn32tab), ("math/bits.deBruijn64tab", laid_math_bits_deBruijn64tab), ("internal/strconv.uint64pow10", laid_internal_strconv_uint64pow10)] }
def DataGetsSaid : Prop := dataGetsRow.holds Tryd.pinned (OpenSpec.ofChange dataGetsSpec)

/-- ITS FALSE NEIGHBOUR: 'it returns false'. Refute it at one input. -/
def dataGetsWrong : ChangeSpec := { name := "dataGets", fn := fun _ => fun
  | [d1, d2] => { results := [.lit (.bool false)], args := [d1, d2] }
  | _ => none }
def DataGetsWrongFalsely : Prop := dataGetsRow.holds Tryd.pinned (OpenSpec.ofChange dataGetsWrong)

/-- 'configlanglaw09.DataLeaves': WHATEVER THE INPUT: true; the input reads as it did. -/
def dataLeavesSpec : ChangeSpec := { name := "dataLeaves", fn := fun _ => fun
  | [d] => { results := [.lit (.bool true)], args := [d] }
  | _ => none }
def dataLeavesRow : OpenClaim := { program := "ytajpgmacabeeeaadoor", sum := "b9248f5c19d852ec5f769a063a19be8727891f576b5f16575b75cf3e4ccc95a3", func := "configlang/configlanglaw09.DataLeaves", spec := "dataLeaves", inPlace := ["internal/abi.NoEscape", "internal/bytealg.MakeNoZero"], unfollowed := true, recurses := true, named := ["internal/strconv.uint64pow10", "math/bits.deBruijn32tab", "math/bits.deBruijn64tab"], loops := true, apart := false, laid := [("math/bits.deBruijn32tab", laid_math_bits_deBruijn32tab), ("math/bits.deBruijn64tab", laid_math_bits_deBruijn64tab), ("internal/strconv.uint64pow10", laid_internal_strconv_uint64pow10)] }
def DataLeavesSaid : Prop := dataLeavesRow.holds Tryd.pinned (OpenSpec.ofChange dataLeavesSpec)

/-- ITS FALSE NEIGHBOUR: 'it returns false'. Refute it at one input. -/
def dataLeavesWrong : ChangeSpec := { name := "dataLeaves", fn := fun _ => fun
  | [d] => { results := [.lit (.bool false)], args := [d] }
  | _ => none }
def DataLeavesWrongFalsely : Prop := dataLeavesRow.holds Tryd.pinned (OpenSpec.ofChange dataLeavesWrong)

/-- 'configlanglaw09.DataTexts': WHATEVER THE INPUT: true; the input reads as it did. -/
def dataTextsSpec : ChangeSpec := { name := "dataTexts", fn := fun _ => fun
  | [d] => { results := [.lit (.bool true)], args := [d] }
  | _ => none }
def dataTextsRow : OpenClaim := { program := "ytajpgmacabeeeaadoor", sum := "b9248f5c19d852ec5f769a063a19be8727891f576b5f16575b75cf3e4ccc95a3", func := "configlang/configlanglaw09.DataTexts", spec := "dataTexts", inPlace := ["internal/abi.NoEscape", "internal/bytealg.MakeNoZero"], unfollowed := true, recurses := true, named := ["internal/strconv.uint64pow10", "math/bits.deBruijn32tab", "math/bits.deBruijn64tab"], loops := true, apart := false, laid := [("math/bits.deBruijn32tab", laid_math_bits_deBruijn32tab), ("math/bits.deBruijn64tab", laid_math_bits_deBruijn64tab), ("internal/strconv.uint64pow10", laid_internal_strconv_uint64pow10)] }
def DataTextsSaid : Prop := dataTextsRow.holds Tryd.pinned (OpenSpec.ofChange dataTextsSpec)

/-- ITS FALSE NEIGHBOUR: 'it returns false'. Refute it at one input. -/
def dataTextsWrong : ChangeSpec := { name := "dataTexts", fn := fun _ => fun
  | [d] => { results := [.lit (.bool false)], args := [d] }
  | _ => none }
def DataTextsWrongFalsely : Prop := dataTextsRow.holds Tryd.pinned (OpenSpec.ofChange dataTextsWrong)

/-- 'configlanglaw09.DataOrders': WHATEVER THE INPUT: true; the input reads as it did. -/
def dataOrdersSpec : ChangeSpec := { name := "dataOrders", fn := fun _ => fun
  | [d1, d2, d3] => { results := [.lit (.bool true)], args := [d1, d2, d3] }
  | _ => none }
def dataOrdersRow : OpenClaim := { program := "ytajpgmacabeeeaadoor", sum := "b9248f5c19d852ec5f769a063a19be8727891f576b5f16575b75cf3e4ccc95a3", func := "configlang/configlanglaw09.DataOrders", spec := "dataOrders", inPlace := ["internal/abi.NoEscape", "internal/bytealg.MakeNoZero"], unfollowed := true, recurses := true, named := ["internal/strconv.uint64pow10", "math/bits.deBruijn32tab", "math/bits.deBruijn64tab"], loops := true, apart := false, laid := [("math/bits.deBruijn32tab", laid_math_bits_deBruijn32tab), ("math/bits.deBruijn64tab", laid_math_bits_deBruijn64tab), ("internal/strconv.uint64pow10", laid_internal_strconv_uint64pow10)] }
def DataOrdersSaid : Prop := dataOrdersRow.holds Tryd.pinned (OpenSpec.ofChange dataOrdersSpec)

/-- ITS FALSE NEIGHBOUR: 'it returns false'. Refute it at one input. -/
def dataOrdersWrong : ChangeSpec := { name := "dataOrders", fn := fun _ => fun
  | [d1, d2, d3] => { results := [.lit (.bool false)], args := [d1, d2, d3] }
  | _ => none }
def DataOrdersWrongFalsely : Prop := dataOrdersRow.holds Tryd.pinned (OpenSpec.ofChange dataOrdersWrong)

/-- 'configlanglaw09.DataDistinct': WHATEVER THE INPUT: true; the input reads as it did. -/
def dataDistinctSpec : ChangeSpec := { name := "dataDistinct", fn := fun _ => fun
  | [d1, d2] => { results := [.lit (.bool true)], args := [d1, d2] }
  | _ => none }
def dataDistinctRow : OpenClaim := { program := "ytajpgmacabeeeaadoor", sum := "b9248f5c19d852ec5f769a063a19be8727891f576b5f16575b75cf3e4ccc95a3", func := "configlang/configlanglaw09.DataDistinct", spec := "dataDistinct", inPlace := ["internal/abi.NoEscape", "internal/bytealg.MakeNoZero"], unfollowed := true, recurses := true, named := ["internal/strconv.uint64pow10", "math/bits.deBruijn32tab", "math/bits.deBruijn64tab"], loops := true, apart := false, laid := [("math/bits.deBruijn32tab", laid_math_bits_deBruijn32tab), ("math/bits.deBruijn64tab", laid_math_bits_deBruijn64tab), ("internal/strconv.uint64pow10", laid_internal_strconv_uint64pow10)] }
def DataDistinctSaid : Prop := dataDistinctRow.holds Tryd.pinned (OpenSpec.ofChange dataDistinctSpec)

/-- ITS FALSE NEIGHBOUR: 'it returns false'. Refute it at one input. -/
def dataDistinctWrong : ChangeSpec := { name := "dataDistinct", fn := fun _ => fun
  | [d1, d2] => { results := [.lit (.bool false)], args := [d1, d2] }
  | _ => none }
def DataDistinctWrongFalsely : Prop := dataDistinctRow.holds Tryd.pinned (OpenSpec.ofChange dataDistinctWrong)

/-- 'configlanglaw09.DataFinds': WHATEVER THE INPUT: true; the input reads as it did. -/
def dataFindsSpec : ChangeSpec := { name := "dataFinds", fn := fun _ => fun
  | [d] => { results := [.lit (.bool true)], args := [d] }
  | _ => none }
def dataFindsRow : OpenClaim := { program := "ytajpgmacabeeeaadoor", sum := "b9248f5c19d852ec5f769a063a19be8727891f576b5f16575b75cf3e4ccc95a3", func := "configlang/configlanglaw09.DataFinds", spec := "dataFinds", inPlace := ["internal/abi.NoEscape", "internal/bytealg.MakeNoZero"], unfollowed := true, recurses := true, named := ["internal/strconv.uint64pow10", "math/bits.deBruijn32tab", "math/bits.deBruijn64tab"], loops := true, apart := false, laid := [("math/bits.deBruijn32tab", laid_math_bits_deBruijn32tab), ("math/bits.deBruijn64tab", laid_math_bits_deBruijn64tab), ("internal/strconv.uint64pow10", laid_internal_strconv_uint64pow10)] }
def DataFindsSaid : Prop := dataFindsRow.holds Tryd.pinned (OpenSpec.ofChange dataFindsSpec)

/-- ITS FALSE NEIGHBOUR: 'it returns false'. Refute it at one input. -/
def dataFindsWrong : ChangeSpec := { name := "dataFinds", fn := fun _ => fun
  | [d] => { results := [.lit (.bool false)], args := [d] }
  | _ => none }
def DataFindsWrongFalsely : Prop := dataFindsRow.holds Tryd.pinned (OpenSpec.ofChange dataFindsWrong)

/- THE SECOND FORM. 'bulk': how many values and letters a reading holds, each counted each time it is reached (what is shared counts as often as it is met; a slice's spare places count too). A statement '..UptoSaid' is the law's where the arguments, and the package variables that the reading takes, are together of bulk at most 1048576: NARROWER than '..Said'. Prove '..Said' where nothing that the law and all that it calls make is longer than what came in: it says more and counts as full. Else prove '..UptoSaid'. A law counts once. -/
mutual
def uptoBulk {H : Type} : DataW H → Nat
  | .lit (.string bytes) => bytes.length + 1
  | .lit _ => 1
  | .nil => 1
  | .ptr d => uptoBulk d + 1
  | .slice elems spare => uptoBulkAll elems + uptoBulkAll spare + 1
  | .agg parts => uptoBulkAll parts + 1
  | .iface _ d => uptoBulk d + 1
  | .map entries => uptoBulkEntries entries + 1
  | .held _ => 1
def uptoBulkAll {H : Type} : List (DataW H) → Nat
  | [] => 0
  | d :: r => uptoBulk d + uptoBulkAll r
def uptoBulkEntries {H : Type} : List (Lit × DataW H) → Nat
  | [] => 0
  | x :: r => uptoBulkEntry x + uptoBulkEntries r
def uptoBulkEntry {H : Type} : Lit × DataW H → Nat
  | (.string bytes, d) => bytes.length + uptoBulk d + 1
  | (_, d) => uptoBulk d + 1
 end
def uptoSmall : (H : Type) → List (DataW H) → Bool := fun _ ds => decide (uptoBulkAll ds ≤ 1048576)
def OpenSpec.upto (s : _root_.Go.ChangeSpec) : _root_.Go.OpenSpec := { _root_.Go.OpenSpec.ofChange s with cond := some uptoSmall }

/-- 'configlanglaw09.DataChecks', WHERE WHAT IT READS IS OF BULK AT MOST 1048576: true; the input reads as it did. -/
def dataChecksUptoRow : OpenClaim := { program := "ytajpgmacabeeeaadoor", sum := "b9248f5c19d852ec5f769a063a19be8727891f576b5f16575b75cf3e4ccc95a3", func := "configlang/configlanglaw09.DataChecks", spec := "dataChecks", inPlace := ["internal/abi.NoEscape", "internal/bytealg.MakeNoZero"], unfollowed := true, recurses := true, named := ["internal/strconv.uint64pow10", "math/bits.deBruijn32tab", "math/bits.deBruijn64tab"], loops := true, apart := false, laid := [("math/bits.deBruijn32tab", laid_math_bits_deBruijn32tab), ("math/bits.deBruijn64tab", laid_math_bits_deBruijn64tab), ("internal/strconv.uint64pow10", laid_internal_strconv_uint64pow10)], narrowed := true }
def DataChecksUptoSaid : Prop := dataChecksUptoRow.holds Tryd.pinned (OpenSpec.upto dataChecksSpec)

/-- 'configlanglaw09.DataMakes', WHERE WHAT IT READS IS OF BULK AT MOST 1048576: true; the input reads as it did. -/
def dataMakesUptoRow : OpenClaim := { program := "ytajpgmacabeeeaadoor", sum := "b9248f5c19d852ec5f769a063a19be8727891f576b5f16575b75cf3e4ccc95a3", func := "configlang/configlanglaw09.DataMakes", spec := "dataMakes", inPlace := ["internal/abi.NoEscape", "internal/bytealg.MakeNoZero"], unfollowed := true, recurses := true, named := ["internal/strconv.uint64pow10", "math/bits.deBruijn32tab", "math/bits.deBruijn64tab"], loops := true, apart := false, laid := [("math/bits.deBruijn32tab", laid_math_bits_deBruijn32tab), ("math/bits.deBruijn64tab", laid_math_bits_deBruijn64tab), ("internal/strconv.uint64pow10", laid_internal_strconv_uint64pow10)], narrowed := true }
def DataMakesUptoSaid : Prop := dataMakesUptoRow.holds Tryd.pinned (OpenSpec.upto dataMakesSpec)

/-- 'configlanglaw09.DataCounts', WHERE WHAT IT READS IS OF BULK AT MOST 1048576: true; the input reads as it did. -/
def dataCountsUptoRow : OpenClaim := { program := "ytajpgmacabeeeaadoor", sum := "b9248f5c19d852ec5f769a063a19be8727891f576b5f16575b75cf3e4ccc95a3", func := "configlang/configlanglaw09.DataCounts", spec := "dataCounts", inPlace := ["internal/abi.NoEscape", "internal/bytealg.MakeNoZero"], unfollowed := true, recurses := true, named := ["internal/strconv.uint64pow10", "math/bits.deBruijn32tab", "math/bits.deBruijn64tab"], loops := true, apart := false, laid := [("math/bits.deBruijn32tab", laid_math_bits_deBruijn32tab), ("math/bits.deBruijn64tab", laid_math_bits_deBruijn64tab), ("internal/strconv.uint64pow10", laid_internal_strconv_uint64pow10)], narrowed := true }
def DataCountsUptoSaid : Prop := dataCountsUptoRow.holds Tryd.pinned (OpenSpec.upto dataCountsSpec)

/-- 'configlanglaw09.DataCompares', WHERE WHAT IT READS IS OF BULK AT MOST 1048576: true; the input reads as it did. -/
def dataComparesUptoRow : OpenClaim := { program := "ytajpgmacabeeeaadoor", sum := "b9248f5c19d852ec5f769a063a19be8727891f576b5f16575b75cf3e4ccc95a3", func := "configlang/configlanglaw09.DataCompares", spec := "dataCompares", inPlace := ["internal/abi.NoEscape", "internal/bytealg.MakeNoZero"], unfollowed := true, recurses := true, named := ["internal/strconv.uint64pow10", "math/bits.deBruijn32tab", "math/bits.deBruijn64tab"], loops := true, apart := false, laid := [("math/bits.deBruijn32tab", laid_math_bits_deBruijn32tab), ("math/bits.deBruijn64tab", laid_math_bits_deBruijn64tab), ("internal/strconv.uint64pow10", laid_internal_strconv_uint64pow10)], narrowed := true }
def DataComparesUptoSaid : Prop := dataComparesUptoRow.holds Tryd.pinned (OpenSpec.upto dataComparesSpec)

/-- 'configlanglaw09.DataGets', WHERE WHAT IT READS IS OF BULK AT MOST 1048576: true; the input reads as it did. -/
def dataGetsUptoRow : OpenClaim := { program := "ytajpgmacabeeeaadoor", sum := "b9248f5c19d852ec5f769a063a19be8727891f576b5f16575b75cf3e4ccc95a3", func := "configlang/configlanglaw09.DataGets", spec := "dataGets", inPlace := ["internal/abi.NoEscape", "internal/bytealg.MakeNoZero"], unfollowed := true, recurses := true, named := ["internal/strconv.uint64pow10", "math/bits.deBruijn32tab", "math/bits.deBruijn64tab"], loops := true, apart := false, laid := [("math/bits.deBruijn32tab", laid_math_bits_deBruijn32tab), ("math/bits.deBruijn64tab", laid_math_bits_deBruijn64tab), ("internal/strconv.uint64pow10", laid_internal_strconv_uint64pow10)], narrowed := true }
def DataGetsUptoSaid : Prop := dataGetsUptoRow.holds Tryd.pinned (OpenSpec.upto dataGetsSpec)

/-- 'configlanglaw09.DataLeaves', WHERE WHAT IT READS IS OF BULK AT MOST 1048576: true; the input reads as it did. -/
def dataLeavesUptoRow : OpenClaim := { program := "ytajpgmacabeeeaadoor", sum := "b9248f5c19d852ec5f769a063a19be8727891f576b5f16575b75cf3e4ccc95a3", func := "configlang/configlanglaw09.DataLeaves", spec := "dataLeaves", inPlace := ["internal/abi.NoEscape", "internal/bytealg.MakeNoZero"], unfollowed := true, recurses := true, named := ["internal/strconv.uint64pow10", "math/bits.deBruijn32tab", "math/bits.deBruijn64tab"], loops := true, apart := false, laid := [("math/bits.deBruijn32tab", laid_math_bits_deBruijn32tab), ("math/bits.deBruijn64tab", laid_math_bits_deBruijn64tab), ("internal/strconv.uint64pow10", laid_internal_strconv_uint64pow10)], narrowed := true }
def DataLeavesUptoSaid : Prop := dataLeavesUptoRow.holds Tryd.pinned (OpenSpec.upto dataLeavesSpec)

/-- 'configlanglaw09.DataTexts', WHERE WHAT IT READS IS OF BULK AT MOST 1048576: true; the input reads as it did. -/
def dataTextsUptoRow : OpenClaim := { program := "ytajpgmacabeeeaadoor", sum := "b9248f5c19d852ec5f769a063a19be8727891f576b5f16575b75cf3e4ccc95a3", func := "configlang/configlanglaw09.DataTexts", spec := "dataTexts", inPlace := ["internal/abi.NoEscape", "internal/bytealg.MakeNoZero"], unfollowed := true, recurses := true, named := ["internal/strconv.uint64pow10", "math/bits.deBruijn32tab", "math/bits.deBruijn64tab"], loops := true, apart := false, laid := [("math/bits.deBruijn32tab", laid_math_bits_deBruijn32tab), ("math/bits.deBruijn64tab", laid_math_bits_deBruijn64tab), ("internal/strconv.uint64pow10", laid_internal_strconv_uint64pow10)], narrowed := true }
def DataTextsUptoSaid : Prop := dataTextsUptoRow.holds Tryd.pinned (OpenSpec.upto dataTextsSpec)

/-- 'configlanglaw09.DataOrders', WHERE WHAT IT READS IS OF BULK AT MOST 1048576: true; the input reads as it did. -/
def dataOrdersUptoRow : OpenClaim := { program := "ytajpgmacabeeeaadoor", sum := "b9248f5c19d852ec5f769a063a19be8727891f576b5f16575b75cf3e4ccc95a3", func := "configlang/configlanglaw09.DataOrders", spec := "dataOrders", inPlace := ["internal/abi.NoEscape", "internal/bytealg.MakeNoZero"], unfollowed := true, recurses := true, named := ["internal/strconv.uint64pow10", "math/bits.deBruijn32tab", "math/bits.deBruijn64tab"], loops := true, apart := false, laid := [("math/bits.deBruijn32tab", laid_math_bits_deBruijn32tab), ("math/bits.deBruijn64tab", laid_math_bits_deBruijn64tab), ("internal/strconv.uint64pow10", laid_internal_strconv_uint64pow10)], narrowed := true }
def DataOrdersUptoSaid : Prop := dataOrdersUptoRow.holds Tryd.pinned (OpenSpec.upto dataOrdersSpec)

/-- 'configlanglaw09.DataDistinct', WHERE WHAT IT READS IS OF BULK AT MOST 1048576: true; the input reads as it did. -/
def dataDistinctUptoRow : OpenClaim := { program := "ytajpgmacabeeeaadoor", sum := "b9248f5c19d852ec5f769a063a19be8727891f576b5f16575b75cf3e4ccc95a3", func := "configlang/configlanglaw09.DataDistinct", spec := "dataDistinct", inPlace := ["internal/abi.NoEscape", "internal/bytealg.MakeNoZero"], unfollowed := true, recurses := true, named := ["internal/strconv.uint64pow10", "math/bits.deBruijn32tab", "math/bits.deBruijn64tab"], loops := true, apart := false, laid := [("math/bits.deBruijn32tab", laid_math_bits_deBruijn32tab), ("math/bits.deBruijn64tab", laid_math_bits_deBruijn64tab), ("internal/strconv.uint64pow10", laid_internal_strconv_uint64pow10)], narrowed := true }
def DataDistinctUptoSaid : Prop := dataDistinctUptoRow.holds Tryd.pinned (OpenSpec.upto dataDistinctSpec)

/-- 'configlanglaw09.DataFinds', WHERE WHAT IT READS IS OF BULK AT MOST 1048576: true; the input reads as it did. -/
def dataFindsUptoRow : OpenClaim := { program := "ytajpgmacabeeeaadoor", sum := "b9248f5c19d852ec5f769a063a19be8727891f576b5f16575b75cf3e4ccc95a3", func := "configlang/configlanglaw09.DataFinds", spec := "dataFinds", inPlace := ["internal/abi.NoEscape", "internal/bytealg.MakeNoZero"], unfollowed := true, recurses := true, named := ["internal/strconv.uint64pow10", "math/bits.deBruijn32tab", "math/bits.deBruijn64tab"], loops := true, apart := false, laid := [("math/bits.deBruijn32tab", laid_math_bits_deBruijn32tab), ("math/bits.deBruijn64tab", laid_math_bits_deBruijn64tab), ("internal/strconv.uint64pow10", laid_internal_strconv_uint64pow10)], narrowed := true }
def DataFindsUptoSaid : Prop := dataFindsUptoRow.holds Tryd.pinned (OpenSpec.upto dataFindsSpec)

end Rows
end Go.Proofs.YtajpgmacabeeeaaDoor
