/-
  NARROWER THAN 'FOR EVERY INPUT', by the rows' own cells (each row's printed sentence says how): GaussMod: laid · GaussLaws: laid · MarkAll: laid · MarkTurn: laid · MarkText: laid · PouchDeep: laid · GaussNegative: laid · MarkParts: laid · MarkSwap: laid · PouchMany: loops, laid · PouchAny: loops, laid · PouchNums: laid · PouchLengths: laid · GaussAll: laid · GaussMay: laid · GaussPowers: laid.
  DERIVED. THE GIVEN ROWS OF THIS SEAT. 16 by the template 'for every input the law returns true; each argument reads behind the call as it read before'; 0 by the template 'total and deterministic' (their statements: YtchfphhelafbbaaDoorTotals.lean).
  GIVEN WITH THE SEED: the statements are not yours to turn. If you find one false, say at which input.
  Laid BY PROGRAM, IN A SANDBOX (cutbox-rows.mjs): the forced cells as the released guide's own fill.sh prints them over the translation 5be3b4d57180b3b2… (all of the seat's roots in one cut). By AI agents, Wed Nov 11 2026. No macro, syntax, notation, axiom, sorry.
-/
import Derived.Test.YtchfphhelafbbaaDoorChecked
import GoSem.Claim
import GoSem.ClaimJoined
import GoSem.ClaimMapViews
import Derived.JoinedTies
import Derived.KernelRfl
namespace Go.Proofs.YtchfphhelafbbaaDoor
/- THE CELL 'sum', in the pinned program and in every row, IS THE sha256 OF THE DUMP (.gsa) THAT YtchfphhelafbbaaDoorProg.lean LOADS. Nothing in Lean hashes anything: it is a label: what it is worth is what the hold of that sum in a sandbox is worth. -/
noncomputable def Tryd.pinned : Pinned := { name := "ytchfphhelafbbaadoor", sum := "5be3b4d57180b3b2e39fd25600470dfca0b54847851aaa7051469a1b50a7d25a", checked := Tryd.checked }
namespace Rows
def none {H : Type} : Left H := { results := [], args := [] }

/- WHAT THE LISTED PACKAGE-LEVEL VARIABLES READ AS WHEN THE CALL BEGINS. Each datum BY PROGRAM (the guide's laid-datum.mjs) off the statement by which the dump's own 'gosem.cut.vars' lays the variable. In a bare row this is a premise. The card (YtchfphhelafbbaaDoorCards.lean) ties it to the program's text. -/
def laid_math_bits_deBruijn32tab {H : Type} : DataW H := .agg [.lit (.int .u8 0), .lit (.int .u8 1), .lit (.int .u8 28), .lit (.int .u8 2), .lit (.int .u8 29), .lit (.int .u8 14), .lit (.int .u8 24), .lit (.int .u8 3), .lit (.int .u8 30), .lit (.int .u8 22), .lit (.int .u8 20), .lit (.int .u8 15), .lit (.int .u8 25), .lit (.int .u8 17), .lit (.int .u8 4), .lit (.int .u8 8), .lit (.int .u8 31), .lit (.int .u8 27), .lit (.int .u8 13), .lit (.int .u8 23), .lit (.int .u8 21), .lit (.int .u8 19), .lit (.int .u8 16), .lit (.int .u8 7), .lit (.int .u8 26), .lit (.int .u8 12), .lit (.int .u8 18), .lit (.int .u8 6), .lit (.int .u8 11), .lit (.int .u8 5), .lit (.int .u8 10), .lit (.int .u8 9)]
def laid_math_bits_deBruijn64tab {H : Type} : DataW H := .agg [.lit (.int .u8 0), .lit (.int .u8 1), .lit (.int .u8 56), .lit (.int .u8 2), .lit (.int .u8 57), .lit (.int .u8 49), .lit (.int .u8 28), .lit (.int .u8 3), .lit (.int .u8 61), .lit (.int .u8 58), .lit (.int .u8 42), .lit (.int .u8 50), .lit (.int .u8 38), .lit (.int .u8 29), .lit (.int .u8 17), .lit (.int .u8 4), .lit (.int .u8 62), .lit (.int .u8 47), .lit (.int .u8 59), .lit (.int .u8 36), .lit (.int .u8 45), .lit (.int .u8 43), .lit (.int .u8 51), .lit (.int .u8 22), .lit (.int .u8 53), .lit (.int .u8 39), .lit (.int .u8 33), .lit (.int .u8 30), .lit (.int .u8 24), .lit (.int .u8 18), .lit (.int .u8 12), .lit (.int .u8 5), .lit (.int .u8 63), .lit (.int .u8 55), .lit (.int .u8 48), .lit (.int .u8 27), .lit (.int .u8 60), .lit (.int .u8 41), .lit (.int .u8 37), .lit (.int .u8 16), .lit (.int .u8 46), .lit (.int .u8 35), .lit (.int .u8 44), .lit (.int .u8 21), .lit (.int .u8 52), .lit (.int .u8 32), .lit (.int .u8 23), .lit (.int .u8 11), .lit (.int .u8 54), .lit (.int .u8 26), .lit (.int .u8 40), .lit (.int .u8 15), .lit (.int .u8 34), .lit (.int .u8 20), .lit (.int .u8 31), .lit (.int .u8 10), .lit (.int .u8 25), .lit (.int .u8 14), .lit (.int .u8 19), .lit (.int .u8 9), .lit (.int .u8 13), .lit (.int .u8 8), .lit (.int .u8 7), .lit (.int .u8 6)]
def laid_internal_strconv_uint64pow10 {H : Type} : DataW H := .agg [.lit (.int .u64 1), .lit (.int .u64 10), .lit (.int .u64 100), .lit (.int .u64 1000), .lit (.int .u64 10000), .lit (.int .u64 100000), .lit (.int .u64 1000000), .lit (.int .u64 10000000), .lit (.int .u64 100000000), .lit (.int .u64 1000000000), .lit (.int .u64 10000000000), .lit (.int .u64 100000000000), .lit (.int .u64 1000000000000), .lit (.int .u64 10000000000000), .lit (.int .u64 100000000000000), .lit (.int .u64 1000000000000000), .lit (.int .u64 10000000000000000), .lit (.int .u64 100000000000000000), .lit (.int .u64 1000000000000000000), .lit (.int .u64 10000000000000000000)]
def laid_strconv_ErrRange {H : Type} : DataW H := .iface "*errors.errorString" (.ptr (.agg [.lit (.string [118, 97, 108, 117, 101, 32, 111, 117, 116, 32, 111, 102, 32, 114, 97, 110, 103, 101])]))
def laid_strconv_ErrSyntax {H : Type} : DataW H := .iface "*errors.errorString" (.ptr (.agg [.lit (.string [105, 110, 118, 97, 108, 105, 100, 32, 115, 121, 110, 116, 97, 120])]))

/-- 'armariumlaw1.GaussMod': WHATEVER THE INPUT: true; the input reads as it did. -/
def gaussModSpec : ChangeSpec := { name := "gaussMod", fn := fun _ => fun
  | [d1, d2, d3] => { results := [.lit (.bool true)], args := [d1, d2, d3] }
  | _ => none }
def gaussModRow : OpenClaim := { program := "ytchfphhelafbbaadoor", sum := "5be3b4d57180b3b2e39fd25600470dfca0b54847851aaa7051469a1b50a7d25a", func := "armarium/armariumlaw1.GaussMod", spec := "gaussMod", inPlace := ["math.archTrunc", "math.Float64bits", "math.Float64frombits", "internal/abi.NoEscape", "internal/bytealg.IndexByteString"], unfollowed := true, recurses := true, named := ["internal/strconv.uint64pow10", "math/bits.deBruijn32tab", "math/bits.deBruijn64tab", "strconv.ErrSyntax", "strconv.ErrRange"], apart := false, laid := [("math/bits.deBruijn32tab", laid_math_bits_deBruijn32tab), ("math/bits.deBruijn64tab", laid_math_bits_deBruijn64tab), ("internal/strconv.uint64pow10", laid_internal_strconv_uint64pow10), ("strconv.ErrRange", laid_strconv_ErrRange), ("strconv.ErrSyntax", laid_strconv_ErrSyntax)] }
def GaussModSaid : Prop := gaussModRow.holds Tryd.pinned (OpenSpec.ofChange gaussModSpec)

/-- ITS FALSE NEIGHBOUR: 'it returns false'. Refute it at one input. -/
def gaussModWrong : ChangeSpec := { name := "gaussMod", fn := fun _ => fun
  | [d1, d2, d3] => { results := [.lit (.bool false)], args := [d1, d2, d3] }
  | _ => none }
def GaussModWrongFalsely : Prop := gaussModRow.holds Tryd.pinned (OpenSpec.ofChange gaussModWrong)

/-- 'armariumlaw1.GaussLaws': WHATEVER THE INPUT: true; the input reads as it did. -/
def gaussLawsSpec : ChangeSpec := { name := "gaussLaws", fn := fun _ => fun
  | [d1, d2, d3, d4, d5, d6] => { results := [.lit (.bool true)], args := [d1, d2, d3, d4, d5, d6] }
  | _ => none }
def gaussLawsRow : OpenClaim := { program := "ytchfphhelafbbaadoor", sum := "5be3b4d57180b3b2e39fd25600470dfca0b54847851aaa7051469a1b50a7d25a", func := "armarium/armariumlaw1.GaussLaws", spec := "gaussLaws", inPlace := ["math.archTrunc", "math.Float64bits", "math.Float64frombits", "internal/abi.NoEscape", "internal/bytealg.IndexByteString"], unfollowed := true, recurses := true, named := ["internal/strconv.uint64pow10", "math/bits.deBruijn32tab", "math/bits.deBruijn64tab", "strconv.ErrSyntax", "strconv.ErrRange"], apart := false, laid := [("math/bits.deBruijn32tab", laid_math_bits_deBruijn32tab), ("math/bits.deBruijn64tab", laid_math_bits_deBruijn64tab), ("internal/strconv.uint64pow10", laid_internal_strconv_uint64pow10), ("strconv.ErrRange", laid_strconv_ErrRange), ("strconv.ErrSyntax", laid_strconv_ErrSyntax)] }
def GaussLawsSaid : Prop := gaussLawsRow.holds Tryd.pinned (OpenSpec.ofChange gaussLawsSpec)

/-- ITS FALSE NEIGHBOUR: 'it returns false'. Refute it at one input. -/
def gaussLawsWrong : ChangeSpec := { name := "gaussLaws", fn := fun _ => fun
  | [d1, d2, d3, d4, d5, d6] => { results := [.lit (.bool false)], args := [d1, d2, d3, d4, d5, d6] }
  | _ => none }
def GaussLawsWrongFalsely : Prop := gaussLawsRow.holds Tryd.pinned (OpenSpec.ofChange gaussLawsWrong)

/-- 'armariumlaw1.MarkAll': WHATEVER THE INPUT: true; the input reads as it did. -/
def markAllSpec : ChangeSpec := { name := "markAll", fn := fun _ => fun
  | [d1, d2] => { results := [.lit (.bool true)], args := [d1, d2] }
  | _ => none }
def markAllRow : OpenClaim := { program := "ytchfphhelafbbaadoor", sum := "5be3b4d57180b3b2e39fd25600470dfca0b54847851aaa7051469a1b50a7d25a", func := "armarium/armariumlaw1.MarkAll", spec := "markAll", inPlace := ["math.archTrunc", "math.Float64bits", "math.Float64frombits", "internal/abi.NoEscape", "internal/bytealg.IndexByteString"], unfollowed := true, recurses := true, named := ["internal/strconv.uint64pow10", "math/bits.deBruijn32tab", "math/bits.deBruijn64tab", "strconv.ErrSyntax", "strconv.ErrRange"], apart := false, laid := [("math/bits.deBruijn32tab", laid_math_bits_deBruijn32tab), ("math/bits.deBruijn64tab", laid_math_bits_deBruijn64tab), ("internal/strconv.uint64pow10", laid_internal_strconv_uint64pow10), ("strconv.ErrRange", laid_strconv_ErrRange), ("strconv.ErrSyntax", laid_strconv_ErrSyntax)] }
def MarkAllSaid : Prop := markAllRow.holds Tryd.pinned (OpenSpec.ofChange markAllSpec)

/-- ITS FALSE NEIGHBOUR: 'it returns false'. Refute it at one input. -/
def markAllWrong : ChangeSpec := { name := "markAll", fn := fun _ => fun
  | [d1, d2] => { results := [.lit (.bool false)], args := [d1, d2] }
  | _ => none }
def MarkAllWrongFalsely : Prop := markAllRow.holds Tryd.pinned (OpenSpec.ofChange markAllWrong)

/-- 'armariumlaw1.MarkTurn': WHATEVER THE INPUT: true; the input reads as it did. -/
def markTurnSpec : ChangeSpec := { name := "markTurn", fn := fun _ => fun
  | [d1, d2, d3] => { results := [.lit (.bool true)], args := [d1, d2, d3] }
  | _ => none }
def markTurnRow : OpenClaim := { program := "ytchfphhelafbbaadoor", sum := "5be3b4d57180b3b2e39fd25600470dfca0b54847851aaa7051469a1b50a7d25a", func := "armarium/armariumlaw1.MarkTurn", spec := "markTurn", inPlace := ["math.archTrunc", "math.Float64bits", "math.Float64frombits", "internal/abi.NoEscape", "internal/bytealg.IndexByteString"], unfollowed := true, recurses := true, named := ["internal/strconv.uint64pow10", "math/bits.deBruijn32tab", "math/bits.deBruijn64tab", "strconv.ErrSyntax", "strconv.ErrRange"], apart := false, laid := [("math/bits.deBruijn32tab", laid_math_bits_deBruijn32tab), ("math/bits.deBruijn64tab", laid_math_bits_deBruijn64tab), ("internal/strconv.uint64pow10", laid_internal_strconv_uint64pow10), ("strconv.ErrRange", laid_strconv_ErrRange), ("strconv.ErrSyntax", laid_strconv_ErrSyntax)] }
def MarkTurnSaid : Prop := markTurnRow.holds Tryd.pinned (OpenSpec.ofChange markTurnSpec)

/-- ITS FALSE NEIGHBOUR: 'it returns false'. Refute it at one input. -/
def markTurnWrong : ChangeSpec := { name := "markTurn", fn := fun _ => fun
  | [d1, d2, d3] => { results := [.lit (.bool false)], args := [d1, d2, d3] }
  | _ => none }
def MarkTurnWrongFalsely : Prop := markTurnRow.holds Tryd.pinned (OpenSpec.ofChange markTurnWrong)

/-- 'armariumlaw1.MarkText': WHATEVER THE INPUT: true; the input reads as it did. -/
def markTextSpec : ChangeSpec := { name := "markText", fn := fun _ => fun
  | [d1, d2, d3, d4, d5] => { results := [.lit (.bool true)], args := [d1, d2, d3, d4, d5] }
  | _ => none }
def markTextRow : OpenClaim := { program := "ytchfphhelafbbaadoor", sum := "5be3b4d57180b3b2e39fd25600470dfca0b54847851aaa7051469a1b50a7d25a", func := "armarium/armariumlaw1.MarkText", spec := "markText", inPlace := ["math.archTrunc", "math.Float64bits", "math.Float64frombits", "internal/abi.NoEscape", "internal/bytealg.IndexByteString"], unfollowed := true, recurses := true, named := ["internal/strconv.uint64pow10", "math/bits.deBruijn32tab", "math/bits.deBruijn64tab", "strconv.ErrSyntax", "strconv.ErrRange"], apart := false, laid := [("math/bits.deBruijn32tab", laid_math_bits_deBruijn32tab), ("math/bits.deBruijn64tab", laid_math_bits_deBruijn64tab), ("internal/strconv.uint64pow10", laid_internal_strconv_uint64pow10), ("strconv.ErrRange", laid_strconv_ErrRange), ("strconv.ErrSyntax", laid_strconv_ErrSyntax)] }
def MarkTextSaid : Prop := markTextRow.holds Tryd.pinned (OpenSpec.ofChange markTextSpec)

/-- ITS FALSE NEIGHBOUR: 'it returns false'. Refute it at one input. -/
def markTextWrong : ChangeSpec := { name := "markText", fn := fun _ => fun
  | [d1, d2, d3, d4, d5] => { results := [.lit (.bool false)], args := [d1, d2, d3, d4, d5] }
  | _ => none }
def MarkTextWrongFalsely : Prop := markTextRow.holds Tryd.pinned (OpenSpec.ofChange markTextWrong)

/-- 'armariumlaw1.PouchDeep': WHATEVER THE INPUT: true; the input reads as it did. -/
def pouchDeepSpec : ChangeSpec := { name := "pouchDeep", fn := fun _ => fun
  | [d1, d2] => { results := [.lit (.bool true)], args := [d1, d2] }
  | _ => none }
def pouchDeepRow : OpenClaim := { program := "ytchfphhelafbbaadoor", sum := "5be3b4d57180b3b2e39fd25600470dfca0b54847851aaa7051469a1b50a7d25a", func := "armarium/armariumlaw1.PouchDeep", spec := "pouchDeep", inPlace := ["math.archTrunc", "math.Float64bits", "math.Float64frombits", "internal/abi.NoEscape", "internal/bytealg.IndexByteString"], unfollowed := true, recurses := true, named := ["internal/strconv.uint64pow10", "math/bits.deBruijn32tab", "math/bits.deBruijn64tab", "strconv.ErrSyntax", "strconv.ErrRange"], apart := false, laid := [("math/bits.deBruijn32tab", laid_math_bits_deBruijn32tab), ("math/bits.deBruijn64tab", laid_math_bits_deBruijn64tab), ("internal/strconv.uint64pow10", laid_internal_strconv_uint64pow10), ("strconv.ErrRange", laid_strconv_ErrRange), ("strconv.ErrSyntax", laid_strconv_ErrSyntax)] }
def PouchDeepSaid : Prop := pouchDeepRow.holds Tryd.pinned (OpenSpec.ofChange pouchDeepSpec)

/-- ITS FALSE NEIGHBOUR: 'it returns false'. Refute it at one input. -/
def pouchDeepWrong : ChangeSpec := { name := "pouchDeep", fn := fun _ => fun
  | [d1, d2] => { results := [.lit (.bool false)], args := [d1, d2] }
  | _ => none }
def PouchDeepWrongFalsely : Prop := pouchDeepRow.holds Tryd.pinned (OpenSpec.ofChange pouchDeepWrong)

/-- 'armariumlaw1.GaussNegative': WHATEVER THE INPUT: true; the input reads as it did. -/
def gaussNegativeSpec : ChangeSpec := { name := "gaussNegative", fn := fun _ => fun
  | [d1, d2] => { results := [.lit (.bool true)], args := [d1, d2] }
  | _ => none }
def gaussNegativeRow : OpenClaim := { program := "ytchfphhelafbbaadoor", sum := "5be3b4d57180b3b2e39fd25600470dfca0b54847851aaa7051469a1b50a7d25a", func := "armarium/armariumlaw1.GaussNegative", spec := "gaussNegative", inPlace := ["math.archTrunc", "math.Float64bits", "math.Float64frombits", "internal/abi.NoEscape", "internal/bytealg.IndexByteString"], unfollowed := true, recurses := true, named := ["internal/strconv.uint64pow10", "math/bits.deBruijn32tab", "math/bits.deBruijn64tab", "strconv.ErrSyntax", "strconv.ErrRange"], apart := false, laid := [("math/bits.deBruijn32tab", laid_math_bits_deBruijn32tab), ("math/bits.deBruijn64tab", laid_math_bits_deBruijn64tab), ("internal/strconv.uint64pow10", laid_internal_strconv_uint64pow10), ("strconv.ErrRange", laid_strconv_ErrRange), ("strconv.ErrSyntax", laid_strconv_ErrSyntax)] }
def GaussNegativeSaid : Prop := gaussNegativeRow.holds Tryd.pinned (OpenSpec.ofChange gaussNegativeSpec)

/-- ITS FALSE NEIGHBOUR: 'it returns false'. Refute it at one input. -/
def gaussNegativeWrong : ChangeSpec := { name := "gaussNegative", fn := fun _ => fun
  | [d1, d2] => { results := [.lit (.bool false)], args := [d1, d2] }
  | _ => none }
def GaussNegativeWrongFalsely : Prop := gaussNegativeRow.holds Tryd.pinned (OpenSpec.ofChange gaussNegativeWrong)

/-- 'armariumlaw1.MarkParts': WHATEVER THE INPUT: true; the input reads as it did. -/
def markPartsSpec : ChangeSpec := { name := "markParts", fn := fun _ => fun
  | [d1, d2] => { results := [.lit (.bool true)], args := [d1, d2] }
  | _ => none }
def markPartsRow : OpenClaim := { program := "ytchfphhelafbbaadoor", sum := "5be3b4d57180b3b2e39fd25600470dfca0b54847851aaa7051469a1b50a7d25a", func := "armarium/armariumlaw1.MarkParts", spec := "markParts", inPlace := ["math.archTrunc", "math.Float64bits", "math.Float64frombits", "internal/abi.NoEscape", "internal/bytealg.IndexByteString"], unfollowed := true, recurses := true, named := ["internal/strconv.uint64pow10", "math/bits.deBruijn32tab", "math/bits.deBruijn64tab", "strconv.ErrSyntax", "strconv.ErrRange"], apart := false, laid := [("math/bits.deBruijn32tab", laid_math_bits_deBruijn32tab), ("math/bits.deBruijn64tab", laid_math_bits_deBruijn64tab), ("internal/strconv.uint64pow10", laid_internal_strconv_uint64pow10), ("strconv.ErrRange", laid_strconv_ErrRange), ("strconv.ErrSyntax", laid_strconv_ErrSyntax)] }
def MarkPartsSaid : Prop := markPartsRow.holds Tryd.pinned (OpenSpec.ofChange markPartsSpec)

/-- ITS FALSE NEIGHBOUR: 'it returns false'. Refute it at one input. -/
def markPartsWrong : ChangeSpec := { name := "markParts", fn := fun _ => fun
  | [d1, d2] => { results := [.lit (.bool false)], args := [d1, d2] }
  | _ => none }
def MarkPartsWrongFalsely : Prop := markPartsRow.holds Tryd.pinned (OpenSpec.ofChange markPartsWrong)

/-- 'armariumlaw1.MarkSwap': WHATEVER THE INPUT: true; the input reads as it did. -/
def markSwapSpec : ChangeSpec := { name := "markSwap", fn := fun _ => fun
  | [d1, d2] => { results := [.lit (.bool true)], args := [d1, d2] }
  | _ => none }
def markSwapRow : OpenClaim := { program := "ytchfphhelafbbaadoor", sum := "5be3b4d57180b3b2e39fd25600470dfca0b54847851aaa7051469a1b50a7d25a", func := "armarium/armariumlaw1.MarkSwap", spec := "markSwap", inPlace := ["math.archTrunc", "math.Float64bits", "math.Float64frombits", "internal/abi.NoEscape", "internal/bytealg.IndexByteString"], unfollowed := true, recurses := true, named := ["internal/strconv.uint64pow10", "math/bits.deBruijn32tab", "math/bits.deBruijn64tab", "strconv.ErrSyntax", "strconv.ErrRange"], apart := false, laid := [("math/bits.deBruijn32tab", laid_math_bits_deBruijn32tab), ("math/bits.deBruijn64tab", laid_math_bits_deBruijn64tab), ("internal/strconv.uint64pow10", laid_internal_strconv_uint64pow10), ("strconv.ErrRange", laid_strconv_ErrRange), ("strconv.ErrSyntax", laid_strconv_ErrSyntax)] }
def MarkSwapSaid : Prop := markSwapRow.holds Tryd.pinned (OpenSpec.ofChange markSwapSpec)

/-- ITS FALSE NEIGHBOUR: 'it returns false'. Refute it at one input. -/
def markSwapWrong : ChangeSpec := { name := "markSwap", fn := fun _ => fun
  | [d1, d2] => { results := [.lit (.bool false)], args := [d1, d2] }
  | _ => none }
def MarkSwapWrongFalsely : Prop := markSwapRow.holds Tryd.pinned (OpenSpec.ofChange markSwapWrong)

/-- 'armariumlaw1.PouchMany': WHATEVER THE INPUT: true; the input reads as it did. -/
def pouchManySpec : ChangeSpec := { name := "pouchMany", fn := fun _ => fun
  | [d] => { results := [.lit (.bool true)], args := [d] }
  | _ => none }
def pouchManyRow : OpenClaim := { program := "ytchfphhelafbbaadoor", sum := "5be3b4d57180b3b2e39fd25600470dfca0b54847851aaa7051469a1b50a7d25a", func := "armarium/armariumlaw1.PouchMany", spec := "pouchMany", inPlace := ["math.archTrunc", "math.Float64bits", "math.Float64frombits", "internal/abi.NoEscape", "internal/bytealg.IndexByteString"], unfollowed := true, recurses := true, named := ["internal/strconv.uint64pow10", "math/bits.deBruijn32tab", "math/bits.deBruijn64tab", "strconv.ErrSyntax", "strconv.ErrRange"], loops := true, apart := false, laid := [("math/bits.deBruijn32tab", laid_math_bits_deBruijn32tab), ("math/bits.deBruijn64tab", laid_math_bits_deBruijn64tab), ("internal/strconv.uint64pow10", laid_internal_strconv_uint64pow10), ("strconv.ErrRange", laid_strconv_ErrRange), ("strconv.ErrSyntax", laid_strconv_ErrSyntax)] }
def PouchManySaid : Prop := pouchManyRow.holds Tryd.pinned (OpenSpec.ofChange pouchManySpec)

/-- ITS FALSE NEIGHBOUR: 'it returns false'. Refute it at one input. -/
def pouchManyWrong : ChangeSpec := { name := "pouchMany", fn := fun _ => fun
  | [d] => { results := [.lit (.bool false)], args := [d] }
  | _ => none }
def PouchManyWrongFalsely : Prop := pouchManyRow.holds Tryd.pinned (OpenSpec.ofChange pouchManyWrong)

/-- 'armariumlaw1.PouchAny': WHATEVER THE INPUT: true; the input reads as it did. -/
def pouchAnySpec : ChangeSpec := { name := "pouchAny", fn := fun _ => fun
  | [d1, d2, d3, d4] => { results := [.lit (.bool true)], args := [d1, d2, d3, d4] }
  | _ => none }
def pouchAnyRow : OpenClaim := { program := "ytchfphhelafbbaadoor", sum := "5be3b4d57180b3b2e39fd25600470dfca0b54847851aaa7051469a1b50a7d25a", func := "armarium/armariumlaw1.PouchAny", spec := "pouchAny", inPlace := ["math.archTrunc", "math.Float64bits", "math.Float64frombits", "internal/abi.NoEscape", "internal/bytealg.IndexByteString"], unfollowed := true, recurses := true, named := ["internal/strconv.uint64pow10", "math/bits.deBruijn32tab", "math/bits.deBruijn64tab", "strconv.ErrSyntax", "strconv.ErrRange"], loops := true, apart := false, laid := [("math/bits.deBruijn32tab", laid_math_bits_deBruijn32tab), ("math/bits.deBruijn64tab", laid_math_bits_deBruijn64tab), ("internal/strconv.uint64pow10", laid_internal_strconv_uint64pow10), ("strconv.ErrRange", laid_strconv_ErrRange), ("strconv.ErrSyntax", laid_strconv_ErrSyntax)] }
def PouchAnySaid : Prop := pouchAnyRow.holds Tryd.pinned (OpenSpec.ofChange pouchAnySpec)

/-- ITS FALSE NEIGHBOUR: 'it returns false'. Refute it at one input. -/
def pouchAnyWrong : ChangeSpec := { name := "pouchAny", fn := fun _ => fun
  | [d1, d2, d3, d4] => { results := [.lit (.bool false)], args := [d1, d2, d3, d4] }
  | _ => none }
def PouchAnyWrongFalsely : Prop := pouchAnyRow.holds Tryd.pinned (OpenSpec.ofChange pouchAnyWrong)

/-- 'armariumlaw1.PouchNums': WHATEVER THE INPUT: true; the input reads as it did. -/
def pouchNumsSpec : ChangeSpec := { name := "pouchNums", fn := fun _ => fun
  | [d1, d2] => { results := [.lit (.bool true)], args := [d1, d2] }
  | _ => none }
def pouchNumsRow : OpenClaim := { program := "ytchfphhelafbbaadoor", sum := "5be3b4d57180b3b2e39fd25600470dfca0b54847851aaa7051469a1b50a7d25a", func := "armarium/armariumlaw1.PouchNums", spec := "pouchNums", inPlace := ["math.archTrunc", "math.Float64bits", "math.Float64frombits", "internal/abi.NoEscape", "internal/bytealg.IndexByteString"], unfollowed := true, recurses := true, named := ["internal/strconv.uint64pow10", "math/bits.deBruijn32tab", "math/bits.deBruijn64tab", "strconv.ErrSyntax", "strconv.ErrRange"], apart := false, laid := [("math/bits.deBruijn32tab", laid_math_bits_deBruijn32tab), ("math/bits.deBruijn64tab", laid_math_bits_deBruijn64tab), ("internal/strconv.uint64pow10", laid_internal_strconv_uint64pow10), ("strconv.ErrRange", laid_strconv_ErrRange), ("strconv.ErrSyntax", laid_strconv_ErrSyntax)] }
def PouchNumsSaid : Prop := pouchNumsRow.holds Tryd.pinned (OpenSpec.ofChange pouchNumsSpec)

/-- ITS FALSE NEIGHBOUR: 'it returns false'. Refute it at one input. -/
def pouchNumsWrong : ChangeSpec := { name := "pouchNums", fn := fun _ => fun
  | [d1, d2] => { results := [.lit (.bool false)], args := [d1, d2] }
  | _ => none }
def PouchNumsWrongFalsely : Prop := pouchNumsRow.holds Tryd.pinned (OpenSpec.ofChange pouchNumsWrong)

/-- 'armariumlaw1.PouchLengths': WHATEVER THE INPUT: true; the input reads as it did. -/
def pouchLengthsSpec : ChangeSpec := { name := "pouchLengths", fn := fun _ => fun
  | [d1, d2] => { results := [.lit (.bool true)], args := [d1, d2] }
  | _ => none }
def pouchLengthsRow : OpenClaim := { program := "ytchfphhelafbbaadoor", sum := "5be3b4d57180b3b2e39fd25600470dfca0b54847851aaa7051469a1b50a7d25a", func := "armarium/armariumlaw1.PouchLengths", spec := "pouchLengths", inPlace := ["math.archTrunc", "math.Float64bits", "math.Float64frombits", "internal/abi.NoEscape", "internal/bytealg.IndexByteString"], unfollowed := true, recurses := true, named := ["internal/strconv.uint64pow10", "math/bits.deBruijn32tab", "math/bits.deBruijn64tab", "strconv.ErrSyntax", "strconv.ErrRange"], apart := false, laid := [("math/bits.deBruijn32tab", laid_math_bits_deBruijn32tab), ("math/bits.deBruijn64tab", laid_math_bits_deBruijn64tab), ("internal/strconv.uint64pow10", laid_internal_strconv_uint64pow10), ("strconv.ErrRange", laid_strconv_ErrRange), ("strconv.ErrSyntax", laid_strconv_ErrSyntax)] }
def PouchLengthsSaid : Prop := pouchLengthsRow.holds Tryd.pinned (OpenSpec.ofChange pouchLengthsSpec)

/-- ITS FALSE NEIGHBOUR: 'it returns false'. Refute it at one input. -/
def pouchLengthsWrong : ChangeSpec := { name := "pouchLengths", fn := fun _ => fun
  | [d1, d2] => { results := [.lit (.bool false)], args := [d1, d2] }
  | _ => none }
def PouchLengthsWrongFalsely : Prop := pouchLengthsRow.holds Tryd.pinned (OpenSpec.ofChange pouchLengthsWrong)

/-- 'armariumlaw1.GaussAll': WHATEVER THE INPUT: true; the input reads as it did. -/
def gaussAllSpec : ChangeSpec := { name := "gaussAll", fn := fun _ => fun
  | [d1, d2, d3, d4, d5] => { results := [.lit (.bool true)], args := [d1, d2, d3, d4, d5] }
  | _ => none }
def gaussAllRow : OpenClaim := { program := "ytchfphhelafbbaadoor", sum := "5be3b4d57180b3b2e39fd25600470dfca0b54847851aaa7051469a1b50a7d25a", func := "armarium/armariumlaw1.GaussAll", spec := "gaussAll", inPlace := ["math.archTrunc", "math.Float64bits", "math.Float64frombits", "internal/abi.NoEscape", "internal/bytealg.IndexByteString"], unfollowed := true, recurses := true, named := ["internal/strconv.uint64pow10", "math/bits.deBruijn32tab", "math/bits.deBruijn64tab", "strconv.ErrSyntax", "strconv.ErrRange"], apart := false, laid := [("math/bits.deBruijn32tab", laid_math_bits_deBruijn32tab), ("math/bits.deBruijn64tab", laid_math_bits_deBruijn64tab), ("internal/strconv.uint64pow10", laid_internal_strconv_uint64pow10), ("strconv.ErrRange", laid_strconv_ErrRange), ("strconv.ErrSyntax", laid_strconv_ErrSyntax)] }
def GaussAllSaid : Prop := gaussAllRow.holds Tryd.pinned (OpenSpec.ofChange gaussAllSpec)

/-- ITS FALSE NEIGHBOUR: 'it returns false'. Refute it at one input. -/
def gaussAllWrong : ChangeSpec := { name := "gaussAll", fn := fun _ => fun
  | [d1, d2, d3, d4, d5] => { results := [.lit (.bool false)], args := [d1, d2, d3, d4, d5] }
  | _ => none }
def GaussAllWrongFalsely : Prop := gaussAllRow.holds Tryd.pinned (OpenSpec.ofChange gaussAllWrong)

/-- 'armariumlaw1.GaussMay': WHATEVER THE INPUT: true; the input reads as it did. -/
def gaussMaySpec : ChangeSpec := { name := "gaussMay", fn := fun _ => fun
  | [d1, d2, d3] => { results := [.lit (.bool true)], args := [d1, d2, d3] }
  | _ => none }
def gaussMayRow : OpenClaim := { program := "ytchfphhelafbbaadoor", sum := "5be3b4d57180b3b2e39fd25600470dfca0b54847851aaa7051469a1b50a7d25a", func := "armarium/armariumlaw1.GaussMay", spec := "gaussMay", inPlace := ["math.archTrunc", "math.Float64bits", "math.Float64frombits", "internal/abi.NoEscape", "internal/bytealg.IndexByteString"], unfollowed := true, recurses := true, named := ["internal/strconv.uint64pow10", "math/bits.deBruijn32tab", "math/bits.deBruijn64tab", "strconv.ErrSyntax", "strconv.ErrRange"], apart := false, laid := [("math/bits.deBruijn32tab", laid_math_bits_deBruijn32tab), ("math/bits.deBruijn64tab", laid_math_bits_deBruijn64tab), ("internal/strconv.uint64pow10", laid_internal_strconv_uint64pow10), ("strconv.ErrRange", laid_strconv_ErrRange), ("strconv.ErrSyntax", laid_strconv_ErrSyntax)] }
def GaussMaySaid : Prop := gaussMayRow.holds Tryd.pinned (OpenSpec.ofChange gaussMaySpec)

/-- ITS FALSE NEIGHBOUR: 'it returns false'. Refute it at one input. -/
def gaussMayWrong : ChangeSpec := { name := "gaussMay", fn := fun _ => fun
  | [d1, d2, d3] => { results := [.lit (.bool false)], args := [d1, d2, d3] }
  | _ => none }
def GaussMayWrongFalsely : Prop := gaussMayRow.holds Tryd.pinned (OpenSpec.ofChange gaussMayWrong)

/-- 'armariumlaw1.GaussPowers': WHATEVER THE INPUT: true; the input reads as it did. -/
def gaussPowersSpec : ChangeSpec := { name := "gaussPowers", fn := fun _ => fun
  | [d1, d2, d3, d4] => { results := [.lit (.bool true)], args := [d1, d2, d3, d4] }
  | _ => none }
def gaussPowersRow : OpenClaim := { program := "ytchfphhelafbbaadoor", sum := "5be3b4d57180b3b2e39fd25600470dfca0b54847851aaa7051469a1b50a7d25a", func := "armarium/armariumlaw1.GaussPowers", spec := "gaussPowers", inPlace := ["math.archTrunc", "math.Float64bits", "math.Float64frombits", "internal/abi.NoEscape", "internal/bytealg.IndexByteString"], unfollowed := true, recurses := true, named := ["internal/strconv.uint64pow10", "math/bits.deBruijn32tab", "math/bits.deBruijn64tab", "strconv.ErrSyntax", "strconv.ErrRange"], apart := false, laid := [("math/bits.deBruijn32tab", laid_math_bits_deBruijn32tab), ("math/bits.deBruijn64tab", laid_math_bits_deBruijn64tab), ("internal/strconv.uint64pow10", laid_internal_strconv_uint64pow10), ("strconv.ErrRange", laid_strconv_ErrRange), ("strconv.ErrSyntax", laid_strconv_ErrSyntax)] }
def GaussPowersSaid : Prop := gaussPowersRow.holds Tryd.pinned (OpenSpec.ofChange gaussPowersSpec)

/-- ITS FALSE NEIGHBOUR: 'it returns false'. Refute it at one input. -/
def gaussPowersWrong : ChangeSpec := { name := "gaussPowers", fn := fun _ => fun
  | [d1, d2, d3, d4] => { results := [.lit (.bool false)], args := [d1, d2, d3, d4] }
  | _ => none }
def GaussPowersWrongFalsely : Prop := gaussPowersRow.holds Tryd.pinned (OpenSpec.ofChange gaussPowersWrong)

/- THE SECOND FORM. 'bulk': how many values and letters a reading holds, each counted each time it is reached (what is shared counts as often as it is met; a slice's spare places count too). A statement '..UptoSaid' is the law's where the arguments, and the package variables that the reading takes, are together of bulk at most 1048576: NARROWER than '..Said'. Prove '..Said' where nothing that the law and all that it calls make is longer than what came in: it says more and counts as full. Else prove '..UptoSaid'. A law counts once. -/
mutual
def uptoBulk {H : Type} : DataW H → Nat
  | .lit (.string bytes) => bytes.length + 1
  | .lit _ => 1
  | .nil => 1
  | .ptr d => uptoBulk d + 1
  | .slice elems spare => uptoBulkAll elems + uptoBulkAll spare + 1
  | .agg parts => uptoBulkAll parts + 1
  | .iface _ d => uptoBulk d + 1
  | .map entries => uptoBulkEntries entries + 1
  | .held _ => 1
def uptoBulkAll {H : Type} : List (DataW H) → Nat
  | [] => 0
  | d :: r => uptoBulk d + uptoBulkAll r
def uptoBulkEntries {H : Type} : List (Lit × DataW H) → Nat
  | [] => 0
  | x :: r => uptoBulkEntry x + uptoBulkEntries r
def uptoBulkEntry {H : Type} : Lit × DataW H → Nat
  | (.string bytes, d) => bytes.length + uptoBulk d + 1
  | (_, d) => uptoBulk d + 1
 end
def uptoSmall : (H : Type) → List (DataW H) → Bool := fun _ ds => decide (uptoBulkAll ds ≤ 1048576)
def OpenSpec.upto (s : _root_.Go.ChangeSpec) : _root_.Go.OpenSpec := { _root_.Go.OpenSpec.ofChange s with cond := some uptoSmall }

/-- 'armariumlaw1.GaussMod', WHERE WHAT IT READS IS OF BULK AT MOST 1048576: true; the input reads as it did. -/
def gaussModUptoRow : OpenClaim := { program := "ytchfphhelafbbaadoor", sum := "5be3b4d57180b3b2e39fd25600470dfca0b54847851aaa7051469a1b50a7d25a", func := "armarium/armariumlaw1.GaussMod", spec := "gaussMod", inPlace := ["math.archTrunc", "math.Float64bits", "math.Float64frombits", "internal/abi.NoEscape", "internal/bytealg.IndexByteString"], unfollowed := true, recurses := true, named := ["internal/strconv.uint64pow10", "math/bits.deBruijn32tab", "math/bits.deBruijn64tab", "strconv.ErrSyntax", "strconv.ErrRange"], apart := false, laid := [("math/bits.deBruijn32tab", laid_math_bits_deBruijn32tab), ("math/bits.deBruijn64tab", laid_math_bits_deBruijn64tab), ("internal/strconv.uint64pow10", laid_internal_strconv_uint64pow10), ("strconv.ErrRange", laid_strconv_ErrRange), ("strconv.ErrSyntax", laid_strconv_ErrSyntax)], narrowed := true }
def GaussModUptoSaid : Prop := gaussModUptoRow.holds Tryd.pinned (OpenSpec.upto gaussModSpec)

/-- 'armariumlaw1.GaussLaws', WHERE WHAT IT READS IS OF BULK AT MOST 1048576: true; the input reads as it did. -/
def gaussLawsUptoRow : OpenClaim := { program := "ytchfphhelafbbaadoor", sum := "5be3b4d57180b3b2e39fd25600470dfca0b54847851aaa7051469a1b50a7d25a", func := "armarium/armariumlaw1.GaussLaws", spec := "gaussLaws", inPlace := ["math.archTrunc", "math.Float64bits", "math.Float64frombits", "internal/abi.NoEscape", "internal/bytealg.IndexByteString"], unfollowed := true, recurses := true, named := ["internal/strconv.uint64pow10", "math/bits.deBruijn32tab", "math/bits.deBruijn64tab", "strconv.ErrSyntax", "strconv.ErrRange"], apart := false, laid := [("math/bits.deBruijn32tab", laid_math_bits_deBruijn32tab), ("math/bits.deBruijn64tab", laid_math_bits_deBruijn64tab), ("internal/strconv.uint64pow10", laid_internal_strconv_uint64pow10), ("strconv.ErrRange", laid_strconv_ErrRange), ("strconv.ErrSyntax", laid_strconv_ErrSyntax)], narrowed := true }
def GaussLawsUptoSaid : Prop := gaussLawsUptoRow.holds Tryd.pinned (OpenSpec.upto gaussLawsSpec)

/-- 'armariumlaw1.MarkAll', WHERE WHAT IT READS IS OF BULK AT MOST 1048576: true; the input reads as it did. -/
def markAllUptoRow : OpenClaim := { program := "ytchfphhelafbbaadoor", sum := "5be3b4d57180b3b2e39fd25600470dfca0b54847851aaa7051469a1b50a7d25a", func := "armarium/armariumlaw1.MarkAll", spec := "markAll", inPlace := ["math.archTrunc", "math.Float64bits", "math.Float64frombits", "internal/abi.NoEscape", "internal/bytealg.IndexByteString"], unfollowed := true, recurses := true, named := ["internal/strconv.uint64pow10", "math/bits.deBruijn32tab", "math/bits.deBruijn64tab", "strconv.ErrSyntax", "strconv.ErrRange"], apart := false, laid := [("math/bits.deBruijn32tab", laid_math_bits_deBruijn32tab), ("math/bits.deBruijn64tab", laid_math_bits_deBruijn64tab), ("internal/strconv.uint64pow10", laid_internal_strconv_uint64pow10), ("strconv.ErrRange", laid_strconv_ErrRange), ("strconv.ErrSyntax", laid_strconv_ErrSyntax)], narrowed := true }
def MarkAllUptoSaid : Prop := markAllUptoRow.holds Tryd.pinned (OpenSpec.upto markAllSpec)

/-- 'armariumlaw1.MarkTurn', WHERE WHAT IT READS IS OF BULK AT MOST 1048576: true; the input reads as it did. -/
def markTurnUptoRow : OpenClaim := { program := "ytchfphhelafbbaadoor", sum := "5be3b4d57180b3b2e39fd25600470dfca0b54847851aaa7051469a1b50a7d25a", func := "armarium/armariumlaw1.MarkTurn", spec := "markTurn", inPlace := ["math.archTrunc", "math.Float64bits", "math.Float64frombits", "internal/abi.NoEscape", "internal/bytealg.IndexByteString"], unfollowed := true, recurses := true, named := ["internal/strconv.uint64pow10", "math/bits.deBruijn32tab", "math/bits.deBruijn64tab", "strconv.ErrSyntax", "strconv.ErrRange"], apart := false, laid := [("math/bits.deBruijn32tab", laid_math_bits_deBruijn32tab), ("math/bits.deBruijn64tab", laid_math_bits_deBruijn64tab), ("internal/strconv.uint64pow10", laid_internal_strconv_uint64pow10), ("strconv.ErrRange", laid_strconv_ErrRange), ("strconv.ErrSyntax", laid_strconv_ErrSyntax)], narrowed := true }
def MarkTurnUptoSaid : Prop := markTurnUptoRow.holds Tryd.pinned (OpenSpec.upto markTurnSpec)

/-- 'armariumlaw1.MarkText', WHERE WHAT IT READS IS OF BULK AT MOST 1048576: true; the input reads as it did. -/
def markTextUptoRow : OpenClaim := { program := "ytchfphhelafbbaadoor", sum := "5be3b4d57180b3b2e39fd25600470dfca0b54847851aaa7051469a1b50a7d25a", func := "armarium/armariumlaw1.MarkText", spec := "markText", inPlace := ["math.archTrunc", "math.Float64bits", "math.Float64frombits", "internal/abi.NoEscape", "internal/bytealg.IndexByteString"], unfollowed := true, recurses := true, named := ["internal/strconv.uint64pow10", "math/bits.deBruijn32tab", "math/bits.deBruijn64tab", "strconv.ErrSyntax", "strconv.ErrRange"], apart := false, laid := [("math/bits.deBruijn32tab", laid_math_bits_deBruijn32tab), ("math/bits.deBruijn64tab", laid_math_bits_deBruijn64tab), ("internal/strconv.uint64pow10", laid_internal_strconv_uint64pow10), ("strconv.ErrRange", laid_strconv_ErrRange), ("strconv.ErrSyntax", laid_strconv_ErrSyntax)], narrowed := true }
def MarkTextUptoSaid : Prop := markTextUptoRow.holds Tryd.pinned (OpenSpec.upto markTextSpec)

/-- 'armariumlaw1.PouchDeep', WHERE WHAT IT READS IS OF BULK AT MOST 1048576: true; the input reads as it did. -/
def pouchDeepUptoRow : OpenClaim := { program := "ytchfphhelafbbaadoor", sum := "5be3b4d57180b3b2e39fd25600470dfca0b54847851aaa7051469a1b50a7d25a", func := "armarium/armariumlaw1.PouchDeep", spec := "pouchDeep", inPlace := ["math.archTrunc", "math.Float64bits", "math.Float64frombits", "internal/abi.NoEscape", "internal/bytealg.IndexByteString"], unfollowed := true, recurses := true, named := ["internal/strconv.uint64pow10", "math/bits.deBruijn32tab", "math/bits.deBruijn64tab", "strconv.ErrSyntax", "strconv.ErrRange"], apart := false, laid := [("math/bits.deBruijn32tab", laid_math_bits_deBruijn32tab), ("math/bits.deBruijn64tab", laid_math_bits_deBruijn64tab), ("internal/strconv.uint64pow10", laid_internal_strconv_uint64pow10), ("strconv.ErrRange", laid_strconv_ErrRange), ("strconv.ErrSyntax", laid_strconv_ErrSyntax)], narrowed := true }
def PouchDeepUptoSaid : Prop := pouchDeepUptoRow.holds Tryd.pinned (OpenSpec.upto pouchDeepSpec)

/-- 'armariumlaw1.GaussNegative', WHERE WHAT IT READS IS OF BULK AT MOST 1048576: true; the input reads as it did. -/
def gaussNegativeUptoRow : OpenClaim := { program := "ytchfphhelafbbaadoor", sum := "5be3b4d57180b3b2e39fd25600470dfca0b54847851aaa7051469a1b50a7d25a", func := "armarium/armariumlaw1.GaussNegative", spec := "gaussNegative", inPlace := ["math.archTrunc", "math.Float64bits", "math.Float64frombits", "internal/abi.NoEscape", "internal/bytealg.IndexByteString"], unfollowed := true, recurses := true, named := ["internal/strconv.uint64pow10", "math/bits.deBruijn32tab", "math/bits.deBruijn64tab", "strconv.ErrSyntax", "strconv.ErrRange"], apart := false, laid := [("math/bits.deBruijn32tab", laid_math_bits_deBruijn32tab), ("math/bits.deBruijn64tab", laid_math_bits_deBruijn64tab), ("internal/strconv.uint64pow10", laid_internal_strconv_uint64pow10), ("strconv.ErrRange", laid_strconv_ErrRange), ("strconv.ErrSyntax", laid_strconv_ErrSyntax)], narrowed := true }
def GaussNegativeUptoSaid : Prop := gaussNegativeUptoRow.holds Tryd.pinned (OpenSpec.upto gaussNegativeSpec)

/-- 'armariumlaw1.MarkParts', WHERE WHAT IT READS IS OF BULK AT MOST 1048576: true; the input reads as it did. -/
def markPartsUptoRow : OpenClaim := { program := "ytchfphhelafbbaadoor", sum := "5be3b4d57180b3b2e39fd25600470dfca0b54847851aaa7051469a1b50a7d25a", func := "armarium/armariumlaw1.MarkParts", spec := "markParts", inPlace := ["math.archTrunc", "math.Float64bits", "math.Float64frombits", "internal/abi.NoEscape", "internal/bytealg.IndexByteString"], unfollowed := true, recurses := true, named := ["internal/strconv.uint64pow10", "math/bits.deBruijn32tab", "math/bits.deBruijn64tab", "strconv.ErrSyntax", "strconv.ErrRange"], apart := false, laid := [("math/bits.deBruijn32tab", laid_math_bits_deBruijn32tab), ("math/bits.deBruijn64tab", laid_math_bits_deBruijn64tab), ("internal/strconv.uint64pow10", laid_internal_strconv_uint64pow10), ("strconv.ErrRange", laid_strconv_ErrRange), ("strconv.ErrSyntax", laid_strconv_ErrSyntax)], narrowed := true }
def MarkPartsUptoSaid : Prop := markPartsUptoRow.holds Tryd.pinned (OpenSpec.upto markPartsSpec)

/-- 'armariumlaw1.MarkSwap', WHERE WHAT IT READS IS OF BULK AT MOST 1048576: true; the input reads as it did. -/
def markSwapUptoRow : OpenClaim := { program := "ytchfphhelafbbaadoor", sum := "5be3b4d57180b3b2e39fd25600470dfca0b54847851aaa7051469a1b50a7d25a", func := "armarium/armariumlaw1.MarkSwap", spec := "markSwap", inPlace := ["math.archTrunc", "math.Float64bits", "math.Float64frombits", "internal/abi.NoEscape", "internal/bytealg.IndexByteString"], unfollowed := true, recurses := true, named := ["internal/strconv.uint64pow10", "math/bits.deBruijn32tab", "math/bits.deBruijn64tab", "strconv.ErrSyntax", "strconv.ErrRange"], apart := false, laid := [("math/bits.deBruijn32tab", laid_math_bits_deBruijn32tab), ("math/bits.deBruijn64tab", laid_math_bits_deBruijn64tab), ("internal/strconv.uint64pow10", laid_internal_strconv_uint64pow10), ("strconv.ErrRange", laid_strconv_ErrRange), ("strconv.ErrSyntax", laid_strconv_ErrSyntax)], narrowed := true }
def MarkSwapUptoSaid : Prop := markSwapUptoRow.holds Tryd.pinned (OpenSpec.upto markSwapSpec)

/-- 'armariumlaw1.PouchMany', WHERE WHAT IT READS IS OF BULK AT MOST 1048576: true; the input reads as it did. -/
def pouchManyUptoRow : OpenClaim := { program := "ytchfphhelafbbaadoor", sum := "5be3b4d57180b3b2e39fd25600470dfca0b54847851aaa7051469a1b50a7d25a", func := "armarium/armariumlaw1.PouchMany", spec := "pouchMany", inPlace := ["math.archTrunc", "math.Float64bits", "math.Float64frombits", "internal/abi.NoEscape", "internal/bytealg.IndexByteString"], unfollowed := true, recurses := true, named := ["internal/strconv.uint64pow10", "math/bits.deBruijn32tab", "math/bits.deBruijn64tab", "strconv.ErrSyntax", "strconv.ErrRange"], loops := true, apart := false, laid := [("math/bits.deBruijn32tab", laid_math_bits_deBruijn32tab), ("math/bits.deBruijn64tab", laid_math_bits_deBruijn64tab), ("internal/strconv.uint64pow10", laid_internal_strconv_uint64pow10), ("strconv.ErrRange", laid_strconv_ErrRange), ("strconv.ErrSyntax", laid_strconv_ErrSyntax)], narrowed := true }
def PouchManyUptoSaid : Prop := pouchManyUptoRow.holds Tryd.pinned (OpenSpec.upto pouchManySpec)

/-- 'armariumlaw1.PouchAny', WHERE WHAT IT READS IS OF BULK AT MOST 1048576: true; the input reads as it did. -/
def pouchAnyUptoRow : OpenClaim := { program := "ytchfphhelafbbaadoor", sum := "5be3b4d57180b3b2e39fd25600470dfca0b54847851aaa7051469a1b50a7d25a", func := "armarium/armariumlaw1.PouchAny", spec := "pouchAny", inPlace := ["math.archTrunc", "math.Float64bits", "math.Float64frombits", "internal/abi.NoEscape", "internal/bytealg.IndexByteString"], unfollowed := true, recurses := true, named := ["internal/strconv.uint64pow10", "math/bits.deBruijn32tab", "math/bits.deBruijn64tab", "strconv.ErrSyntax", "strconv.ErrRange"], loops := true, apart := false, laid := [("math/bits.deBruijn32tab", laid_math_bits_deBruijn32tab), ("math/bits.deBruijn64tab", laid_math_bits_deBruijn64tab), ("internal/strconv.uint64pow10", laid_internal_strconv_uint64pow10), ("strconv.ErrRange", laid_strconv_ErrRange), ("strconv.ErrSyntax", laid_strconv_ErrSyntax)], narrowed := true }
def PouchAnyUptoSaid : Prop := pouchAnyUptoRow.holds Tryd.pinned (OpenSpec.upto pouchAnySpec)

/-- 'armariumlaw1.PouchNums', WHERE WHAT IT READS IS OF BULK AT MOST 1048576: true; the input reads as it did. -/
def pouchNumsUptoRow : OpenClaim := { program := "ytchfphhelafbbaadoor", sum := "5be3b4d57180b3b2e39fd25600470dfca0b54847851aaa7051469a1b50a7d25a", func := "armarium/armariumlaw1.PouchNums", spec := "pouchNums", inPlace := ["math.archTrunc", "math.Float64bits", "math.Float64frombits", "internal/abi.NoEscape", "internal/bytealg.IndexByteString"], unfollowed := true, recurses := true, named := ["internal/strconv.uint64pow10", "math/bits.deBruijn32tab", "math/bits.deBruijn64tab", "strconv.ErrSyntax", "strconv.ErrRange"], apart := false, laid := [("math/bits.deBruijn32tab", laid_math_bits_deBruijn32tab), ("math/bits.deBruijn64tab", laid_math_bits_deBruijn64tab), ("internal/strconv.uint64pow10", laid_internal_strconv_uint64pow10), ("strconv.ErrRange", laid_strconv_ErrRange), ("strconv.ErrSyntax", laid_strconv_ErrSyntax)], narrowed := true }
def PouchNumsUptoSaid : Prop := pouchNumsUptoRow.holds Tryd.pinned (OpenSpec.upto pouchNumsSpec)

/-- 'armariumlaw1.PouchLengths', WHERE WHAT IT READS IS OF BULK AT MOST 1048576: true; the input reads as it did. -/
def pouchLengthsUptoRow : OpenClaim := { program := "ytchfphhelafbbaadoor", sum := "5be3b4d57180b3b2e39fd25600470dfca0b54847851aaa7051469a1b50a7d25a", func := "armarium/armariumlaw1.PouchLengths", spec := "pouchLengths", inPlace := ["math.archTrunc", "math.Float64bits", "math.Float64frombits", "internal/abi.NoEscape", "internal/bytealg.IndexByteString"], unfollowed := true, recurses := true, named := ["internal/strconv.uint64pow10", "math/bits.deBruijn32tab", "math/bits.deBruijn64tab", "strconv.ErrSyntax", "strconv.ErrRange"], apart := false, laid := [("math/bits.deBruijn32tab", laid_math_bits_deBruijn32tab), ("math/bits.deBruijn64tab", laid_math_bits_deBruijn64tab), ("internal/strconv.uint64pow10", laid_internal_strconv_uint64pow10), ("strconv.ErrRange", laid_strconv_ErrRange), ("strconv.ErrSyntax", laid_strconv_ErrSyntax)], narrowed := true }
def PouchLengthsUptoSaid : Prop := pouchLengthsUptoRow.holds Tryd.pinned (OpenSpec.upto pouchLengthsSpec)

/-- 'armariumlaw1.GaussAll', WHERE WHAT IT READS IS OF BULK AT MOST 1048576: true; the input reads as it did. -/
def gaussAllUptoRow : OpenClaim := { program := "ytchfphhelafbbaadoor", sum := "5be3b4d57180b3b2e39fd25600470dfca0b54847851aaa7051469a1b50a7d25a", func := "armarium/armariumlaw1.GaussAll", spec := "gaussAll", inPlace := ["math.archTrunc", "math.Float64bits", "math.Float64frombits", "internal/abi.NoEscape", "internal/bytealg.IndexByteString"], unfollowed := true, recurses := true, named := ["internal/strconv.uint64pow10", "math/bits.deBruijn32tab", "math/bits.deBruijn64tab", "strconv.ErrSyntax", "strconv.ErrRange"], apart := false, laid := [("math/bits.deBruijn32tab", laid_math_bits_deBruijn32tab), ("math/bits.deBruijn64tab", laid_math_bits_deBruijn64tab), ("internal/strconv.uint64pow10", laid_internal_strconv_uint64pow10), ("strconv.ErrRange", laid_strconv_ErrRange), ("strconv.ErrSyntax", laid_strconv_ErrSyntax)], narrowed := true }
def GaussAllUptoSaid : Prop := gaussAllUptoRow.holds Tryd.pinned (OpenSpec.upto gaussAllSpec)

/-- 'armariumlaw1.GaussMay', WHERE WHAT IT READS IS OF BULK AT MOST 1048576: true; the input reads as it did. -/
def gaussMayUptoRow : OpenClaim := { program := "ytchfphhelafbbaadoor", sum := "5be3b4d57180b3b2e39fd25600470dfca0b54847851aaa7051469a1b50a7d25a", func := "armarium/armariumlaw1.GaussMay", spec := "gaussMay", inPlace := ["math.archTrunc", "math.Float64bits", "math.Float64frombits", "internal/abi.NoEscape", "internal/bytealg.IndexByteString"], unfollowed := true, recurses := true, named := ["internal/strconv.uint64pow10", "math/bits.deBruijn32tab", "math/bits.deBruijn64tab", "strconv.ErrSyntax", "strconv.ErrRange"], apart := false, laid := [("math/bits.deBruijn32tab", laid_math_bits_deBruijn32tab), ("math/bits.deBruijn64tab", laid_math_bits_deBruijn64tab), ("internal/strconv.uint64pow10", laid_internal_strconv_uint64pow10), ("strconv.ErrRange", laid_strconv_ErrRange), ("strconv.ErrSyntax", laid_strconv_ErrSyntax)], narrowed := true }
def GaussMayUptoSaid : Prop := gaussMayUptoRow.holds Tryd.pinned (OpenSpec.upto gaussMaySpec)

/-- 'armariumlaw1.GaussPowers', WHERE WHAT IT READS IS OF BULK AT MOST 1048576: true; the input reads as it did. -/
def gaussPowersUptoRow : OpenClaim := { program := "ytchfphhelafbbaadoor", sum := "5be3b4d57180b3b2e39fd25600470dfca0b54847851aaa7051469a1b50a7d25a", func := "armarium/armariumlaw1.GaussPowers", spec := "gaussPowers", inPlace := ["math.archTrunc", "math.Float64bits", "math.Float64frombits", "internal/abi.NoEscape", "internal/bytealg.IndexByteString"], unfollowed := true, recurses := true, named := ["internal/strconv.uint64pow10", "math/bits.deBruijn32tab", "math/bits.deBruijn64tab", "strconv.ErrSyntax", "strconv.ErrRange"], apart := false, laid := [("math/bits.deBruijn32tab", laid_math_bits_deBruijn32tab), ("math/bits.deBruijn64tab", laid_math_bits_deBruijn64tab), ("internal/strconv.uint64pow10", laid_internal_strconv_uint64pow10), ("strconv.ErrRange", laid_strconv_ErrRange), ("strconv.ErrSyntax", laid_strconv_ErrSyntax)], narrowed := true }
def GaussPowersUptoSaid : Prop := gaussPowersUptoRow.holds Tryd.pinned (OpenSpec.upto gaussPowersSpec)

end Rows
end Go.Proofs.YtchfphhelafbbaaDoor
