/-
  NARROWER THAN 'FOR EVERY INPUT', by the rows' own cells (each row's printed sentence says how): ScanMatch: loops, laid · ScanWays: loops, laid · ScanFirst: loops, laid · ScanCat: loops, laid · ScanAlt: loops, laid · ScanNothing: loops, laid · ScanOver: loops, laid · ScanArbno: loops, laid · ScanLens: laid · ScanSpans: laid · ScanTabs: laid · ScanArb: laid.
  DERIVED. THE GIVEN ROWS OF THIS SEAT. 12 by the template 'for every input the law returns true; each argument reads behind the call as it read before'; 0 by the template 'total and deterministic' (their statements: YtmkldfjcpmoajaaDoorTotals.lean).
  GIVEN WITH THE SEED: the statements are not yours to turn. If you find one false, say at which input.
  Laid BY PROGRAM, IN A SANDBOX (cutbox-rows.mjs): the forced cells as the released guide's own fill.sh prints them over the translation 781875f85890b87c… (all of the seat's roots in one cut). By AI agents, Wed Nov 11 2026. No macro, syntax, notation, axiom, sorry.
-/
import Derived.Test.YtmkldfjcpmoajaaDoorChecked
import GoSem.Claim
import GoSem.ClaimJoined
import GoSem.ClaimMapViews
import Derived.JoinedTies
import Derived.KernelRfl
namespace Go.Proofs.YtmkldfjcpmoajaaDoor
/- THE CELL 'sum', in the pinned program and in every row, IS THE sha256 OF THE DUMP (.gsa) THAT YtmkldfjcpmoajaaDoorProg.lean LOADS. Nothing in Lean hashes anything: it is a label: what it is worth is what the hold of that sum in a sandbox is worth. -/
noncomputable def Tryd.pinned : Pinned := { name := "ytmkldfjcpmoajaadoor", sum := "781875f85890b87c63aa1a1f951290ea5b928b57cd22f1086df8303a18d7e1a2", checked := Tryd.checked }
namespace Rows
def none {H : Type} : Left H := { results := [], args := [] }

/- WHAT THE LISTED PACKAGE-LEVEL VARIABLES READ AS WHEN THE CALL BEGINS. Each datum BY PROGRAM (the guide's laid-datum.mjs) off the statement by which the dump's own 'gosem.cut.vars' lays the variable. In a bare row this is a premise. The card (YtmkldfjcpmoajaaDoorCards.lean) ties it to the program's text. -/
def laid_math_bits_deBruijn32tab {H : Type} : DataW H := .agg [.lit (.int .u8 0), .lit (.int .u8 1), .lit (.int .u8 28), .lit (.int .u8 2), .lit (.int .u8 29), .lit (.int .u8 14), .lit (.int .u8 24), .lit (.int .u8 3), .lit (.int .u8 30), .lit (.int .u8 22), .lit (.int .u8 20), .lit (.int .u8 15), .lit (.int .u8 25), .lit (.int .u8 17), .lit (.int .u8 4), .lit (.int .u8 8), .lit (.int .u8 31), .lit (.int .u8 27), .lit (.int .u8 13), .lit (.int .u8 23), .lit (.int .u8 21), .lit (.int .u8 19), .lit (.int .u8 16), .lit (.int .u8 7), .lit (.int .u8 26), .lit (.int .u8 12), .lit (.int .u8 18), .lit (.int .u8 6), .lit (.int .u8 11), .lit (.int .u8 5), .lit (.int .u8 10), .lit (.int .u8 9)]
def laid_math_bits_deBruijn64tab {H : Type} : DataW H := .agg [.lit (.int .u8 0), .lit (.int .u8 1), .lit (.int .u8 56), .lit (.int .u8 2), .lit (.int .u8 57), .lit (.int .u8 49), .lit (.int .u8 28), .lit (.int .u8 3), .lit (.int .u8 61), .lit (.int .u8 58), .lit (.int .u8 42), .lit (.int .u8 50), .lit (.int .u8 38), .lit (.int .u8 29), .lit (.int .u8 17), .lit (.int .u8 4), .lit (.int .u8 62), .lit (.int .u8 47), .lit (.int .u8 59), .lit (.int .u8 36), .lit (.int .u8 45), .lit (.int .u8 43), .lit (.int .u8 51), .lit (.int .u8 22), .lit (.int .u8 53), .lit (.int .u8 39), .lit (.int .u8 33), .lit (.int .u8 30), .lit (.int .u8 24), .lit (.int .u8 18), .lit (.int .u8 12), .lit (.int .u8 5), .lit (.int .u8 63), .lit (.int .u8 55), .lit (.int .u8 48), .lit (.int .u8 27), .lit (.int .u8 60), .lit (.int .u8 41), .lit (.int .u8 37), .lit (.int .u8 16), .lit (.int .u8 46), .lit (.int .u8 35), .lit (.int .u8 44), .lit (.int .u8 21), .lit (.int .u8 52), .lit (.int .u8 32), .lit (.int .u8 23), .lit (.int .u8 11), .lit (.int .u8 54), .lit (.int .u8 26), .lit (.int .u8 40), .lit (.int .u8 15), .lit (.int .u8 34), .lit (.int .u8 20), .lit (.int .u8 31), .lit (.int .u8 10), .lit (.int .u8 25), .lit (.int .u8 14), .lit (.int .u8 19), .lit (.int .u8 9), .lit (.int .u8 13), .lit (.int .u8 8), .lit (.int .u8 7), .lit (.int .u8 6)]
def laid_internal_strconv_uint64pow10 {H : Type} : DataW H := .agg [.lit (.int .u64 1), .lit (.int .u64 10), .lit (.int .u64 100), .lit (.int .u64 1000), .lit (.int .u64 10000), .lit (.int .u64 100000), .lit (.int .u64 1000000), .lit (.int .u64 10000000), .lit (.int .u64 100000000), .lit (.int .u64 1000000000), .lit (.int .u64 10000000000), .lit (.int .u64 100000000000), .lit (.int .u64 1000000000000), .lit (.int .u64 10000000000000), .lit (.int .u64 100000000000000), .lit (.int .u64 1000000000000000), .lit (.int .u64 10000000000000000), .lit (.int .u64 100000000000000000), .lit (.int .u64 1000000000000000000), .lit (.int .u64 10000000000000000000)]

/-- 'scanfaillaw5.ScanMatch': WHATEVER THE INPUT: true; the input reads as it did. -/
def scanMatchSpec : ChangeSpec := { name := "scanMatch", fn := fun _ => fun
  | [d1, d2, d3, d4, d5] => { results := [.lit (.bool true)], args := [d1, d2, d3, d4, d5] }
  | _ => none }
def scanMatchRow : OpenClaim := { program := "ytmkldfjcpmoajaadoor", sum := "781875f85890b87c63aa1a1f951290ea5b928b57cd22f1086df8303a18d7e1a2", func := "scanfail/scanfaillaw5.ScanMatch", spec := "scanMatch", inPlace := ["internal/bytealg.IndexByteString"], unfollowed := true, recurses := true, named := ["internal/strconv.uint64pow10", "math/bits.deBruijn32tab", "math/bits.deBruijn64tab"], loops := true, apart := false, laid := [("math/bits.deBruijn32tab", laid_math_bits_deBruijn32tab), ("math/bits.deBruijn64tab", laid_math_bits_deBruijn64tab), ("internal/strconv.uint64pow10", laid_internal_strconv_uint64pow10)] }
def ScanMatchSaid : Prop := scanMatchRow.holds Tryd.pinned (OpenSpec.ofChange scanMatchSpec)

/-- ITS FALSE NEIGHBOUR: 'it returns false'. Refute it at one input. -/
def scanMatchWrong : ChangeSpec := { name := "scanMatch", fn := fun _ => fun
  | [d1, d2, d3, d4, d5] => { results := [.lit (.bool false)], args := [d1, d2, d3, d4, d5] }
  | _ => none }
def ScanMatchWrongFalsely : Prop := scanMatchRow.holds Tryd.pinned (OpenSpec.ofChange scanMatchWrong)

/-- 'scanfaillaw5.ScanWays': WHATEVER THE INPUT: true; the input reads as it did. -/
def scanWaysSpec : ChangeSpec := { name := "scanWays", fn := fun _ => fun
  | [d1, d2, d3, d4, d5, d6] => { results := [.lit (.bool true)], args := [d1, d2, d3, d4, d5, d6] }
  | _ => none }
def scanWaysRow : OpenClaim := { program := "ytmkldfjcpmoajaadoor", sum := "781875f85890b87c63aa1a1f951290ea5b928b57cd22f1086df8303a18d7e1a2", func := "scanfail/scanfaillaw5.ScanWays", spec := "scanWays", inPlace := ["internal/bytealg.IndexByteString"], unfollowed := true, recurses := true, named := ["internal/strconv.uint64pow10", "math/bits.deBruijn32tab", "math/bits.deBruijn64tab"], loops := true, apart := false, laid := [("math/bits.deBruijn32tab", laid_math_bits_deBruijn32tab), ("math/bits.deBruijn64tab", laid_math_bits_deBruijn64tab), ("internal/strconv.uint64pow10", laid_internal_strconv_uint64pow10)] }
def ScanWaysSaid : Prop := scanWaysRow.holds Tryd.pinned (OpenSpec.ofChange scanWaysSpec)

/-- ITS FALSE NEIGHBOUR: 'it returns false'. Refute it at one input. -/
def scanWaysWrong : ChangeSpec := { name := "scanWays", fn := fun _ => fun
  | [d1, d2, d3, d4, d5, d6] => { results := [.lit (.bool false)], args := [d1, d2, d3, d4, d5, d6] }
  | _ => none }
def ScanWaysWrongFalsely : Prop := scanWaysRow.holds Tryd.pinned (OpenSpec.ofChange scanWaysWrong)

/-- 'scanfaillaw5.ScanFirst': WHATEVER THE INPUT: true; the input reads as it did. -/
def scanFirstSpec : ChangeSpec := { name := "scanFirst", fn := fun _ => fun
  | [d1, d2, d3] => { results := [.lit (.bool true)], args := [d1, d2, d3] }
  | _ => none }
def scanFirstRow : OpenClaim := { program := "ytmkldfjcpmoajaadoor", sum := "781875f85890b87c63aa1a1f951290ea5b928b57cd22f1086df8303a18d7e1a2", func := "scanfail/scanfaillaw5.ScanFirst", spec := "scanFirst", inPlace := ["internal/bytealg.IndexByteString"], unfollowed := true, recurses := true, named := ["internal/strconv.uint64pow10", "math/bits.deBruijn32tab", "math/bits.deBruijn64tab"], loops := true, apart := false, laid := [("math/bits.deBruijn32tab", laid_math_bits_deBruijn32tab), ("math/bits.deBruijn64tab", laid_math_bits_deBruijn64tab), ("internal/strconv.uint64pow10", laid_internal_strconv_uint64pow10)] }
def ScanFirstSaid : Prop := scanFirstRow.holds Tryd.pinned (OpenSpec.ofChange scanFirstSpec)

/-- ITS FALSE NEIGHBOUR: 'it returns false'. Refute it at one input. -/
def scanFirstWrong : ChangeSpec := { name := "scanFirst", fn := fun _ => fun
  | [d1, d2, d3] => { results := [.lit (.bool false)], args := [d1, d2, d3] }
  | _ => none }
def ScanFirstWrongFalsely : Prop := scanFirstRow.holds Tryd.pinned (OpenSpec.ofChange scanFirstWrong)

/-- 'scanfaillaw5.ScanCat': WHATEVER THE INPUT: true; the input reads as it did. -/
def scanCatSpec : ChangeSpec := { name := "scanCat", fn := fun _ => fun
  | [d1, d2, d3, d4, d5, d6] => { results := [.lit (.bool true)], args := [d1, d2, d3, d4, d5, d6] }
  | _ => none }
def scanCatRow : OpenClaim := { program := "ytmkldfjcpmoajaadoor", sum := "781875f85890b87c63aa1a1f951290ea5b928b57cd22f1086df8303a18d7e1a2", func := "scanfail/scanfaillaw5.ScanCat", spec := "scanCat", inPlace := ["internal/bytealg.IndexByteString"], unfollowed := true, recurses := true, named := ["internal/strconv.uint64pow10", "math/bits.deBruijn32tab", "math/bits.deBruijn64tab"], loops := true, apart := false, laid := [("math/bits.deBruijn32tab", laid_math_bits_deBruijn32tab), ("math/bits.deBruijn64tab", laid_math_bits_deBruijn64tab), ("internal/strconv.uint64pow10", laid_internal_strconv_uint64pow10)] }
def ScanCatSaid : Prop := scanCatRow.holds Tryd.pinned (OpenSpec.ofChange scanCatSpec)

/-- ITS FALSE NEIGHBOUR: 'it returns false'. Refute it at one input. -/
def scanCatWrong : ChangeSpec := { name := "scanCat", fn := fun _ => fun
  | [d1, d2, d3, d4, d5, d6] => { results := [.lit (.bool false)], args := [d1, d2, d3, d4, d5, d6] }
  | _ => none }
def ScanCatWrongFalsely : Prop := scanCatRow.holds Tryd.pinned (OpenSpec.ofChange scanCatWrong)

/-- 'scanfaillaw5.ScanAlt': WHATEVER THE INPUT: true; the input reads as it did. -/
def scanAltSpec : ChangeSpec := { name := "scanAlt", fn := fun _ => fun
  | [d1, d2, d3, d4, d5, d6] => { results := [.lit (.bool true)], args := [d1, d2, d3, d4, d5, d6] }
  | _ => none }
def scanAltRow : OpenClaim := { program := "ytmkldfjcpmoajaadoor", sum := "781875f85890b87c63aa1a1f951290ea5b928b57cd22f1086df8303a18d7e1a2", func := "scanfail/scanfaillaw5.ScanAlt", spec := "scanAlt", inPlace := ["internal/bytealg.IndexByteString"], unfollowed := true, recurses := true, named := ["internal/strconv.uint64pow10", "math/bits.deBruijn32tab", "math/bits.deBruijn64tab"], loops := true, apart := false, laid := [("math/bits.deBruijn32tab", laid_math_bits_deBruijn32tab), ("math/bits.deBruijn64tab", laid_math_bits_deBruijn64tab), ("internal/strconv.uint64pow10", laid_internal_strconv_uint64pow10)] }
def ScanAltSaid : Prop := scanAltRow.holds Tryd.pinned (OpenSpec.ofChange scanAltSpec)

/-- ITS FALSE NEIGHBOUR: 'it returns false'. Refute it at one input. -/
def scanAltWrong : ChangeSpec := { name := "scanAlt", fn := fun _ => fun
  | [d1, d2, d3, d4, d5, d6] => { results := [.lit (.bool false)], args := [d1, d2, d3, d4, d5, d6] }
  | _ => none }
def ScanAltWrongFalsely : Prop := scanAltRow.holds Tryd.pinned (OpenSpec.ofChange scanAltWrong)

/-- 'scanfaillaw5.ScanNothing': WHATEVER THE INPUT: true; the input reads as it did. -/
def scanNothingSpec : ChangeSpec := { name := "scanNothing", fn := fun _ => fun
  | [d1, d2, d3, d4] => { results := [.lit (.bool true)], args := [d1, d2, d3, d4] }
  | _ => none }
def scanNothingRow : OpenClaim := { program := "ytmkldfjcpmoajaadoor", sum := "781875f85890b87c63aa1a1f951290ea5b928b57cd22f1086df8303a18d7e1a2", func := "scanfail/scanfaillaw5.ScanNothing", spec := "scanNothing", inPlace := ["internal/bytealg.IndexByteString"], unfollowed := true, recurses := true, named := ["internal/strconv.uint64pow10", "math/bits.deBruijn32tab", "math/bits.deBruijn64tab"], loops := true, apart := false, laid := [("math/bits.deBruijn32tab", laid_math_bits_deBruijn32tab), ("math/bits.deBruijn64tab", laid_math_bits_deBruijn64tab), ("internal/strconv.uint64pow10", laid_internal_strconv_uint64pow10)] }
def ScanNothingSaid : Prop := scanNothingRow.holds Tryd.pinned (OpenSpec.ofChange scanNothingSpec)

/-- ITS FALSE NEIGHBOUR: 'it returns false'. Refute it at one input. -/
def scanNothingWrong : ChangeSpec := { name := "scanNothing", fn := fun _ => fun
  | [d1, d2, d3, d4] => { results := [.lit (.bool false)], args := [d1, d2, d3, d4] }
  | _ => none }
def ScanNothingWrongFalsely : Prop := scanNothingRow.holds Tryd.pinned (OpenSpec.ofChange scanNothingWrong)

/-- 'scanfaillaw5.ScanOver': WHATEVER THE INPUT: true; the input reads as it did. -/
def scanOverSpec : ChangeSpec := { name := "scanOver", fn := fun _ => fun
  | [d1, d2, d3, d4, d5, d6] => { results := [.lit (.bool true)], args := [d1, d2, d3, d4, d5, d6] }
  | _ => none }
def scanOverRow : OpenClaim := { program := "ytmkldfjcpmoajaadoor", sum := "781875f85890b87c63aa1a1f951290ea5b928b57cd22f1086df8303a18d7e1a2", func := "scanfail/scanfaillaw5.ScanOver", spec := "scanOver", inPlace := ["internal/bytealg.IndexByteString"], unfollowed := true, recurses := true, named := ["internal/strconv.uint64pow10", "math/bits.deBruijn32tab", "math/bits.deBruijn64tab"], loops := true, apart := false, laid := [("math/bits.deBruijn32tab", laid_math_bits_deBruijn32tab), ("math/bits.deBruijn64tab", laid_math_bits_deBruijn64tab), ("internal/strconv.uint64pow10", laid_internal_strconv_uint64pow10)] }
def ScanOverSaid : Prop := scanOverRow.holds Tryd.pinned (OpenSpec.ofChange scanOverSpec)

/-- ITS FALSE NEIGHBOUR: 'it returns false'. Refute it at one input. -/
def scanOverWrong : ChangeSpec := { name := "scanOver", fn := fun _ => fun
  | [d1, d2, d3, d4, d5, d6] => { results := [.lit (.bool false)], args := [d1, d2, d3, d4, d5, d6] }
  | _ => none }
def ScanOverWrongFalsely : Prop := scanOverRow.holds Tryd.pinned (OpenSpec.ofChange scanOverWrong)

/-- 'scanfaillaw5.ScanArbno': WHATEVER THE INPUT: true; the input reads as it did. -/
def scanArbnoSpec : ChangeSpec := { name := "scanArbno", fn := fun _ => fun
  | [d1, d2, d3, d4] => { results := [.lit (.bool true)], args := [d1, d2, d3, d4] }
  | _ => none }
def scanArbnoRow : OpenClaim := { program := "ytmkldfjcpmoajaadoor", sum := "781875f85890b87c63aa1a1f951290ea5b928b57cd22f1086df8303a18d7e1a2", func := "scanfail/scanfaillaw5.ScanArbno", spec := "scanArbno", inPlace := ["internal/bytealg.IndexByteString"], unfollowed := true, recurses := true, named := ["internal/strconv.uint64pow10", "math/bits.deBruijn32tab", "math/bits.deBruijn64tab"], loops := true, apart := false, laid := [("math/bits.deBruijn32tab", laid_math_bits_deBruijn32tab), ("math/bits.deBruijn64tab", laid_math_bits_deBruijn64tab), ("internal/strconv.uint64pow10", laid_internal_strconv_uint64pow10)] }
def ScanArbnoSaid : Prop := scanArbnoRow.holds Tryd.pinned (OpenSpec.ofChange scanArbnoSpec)

/-- ITS FALSE NEIGHBOUR: 'it returns false'. Refute it at one input. -/
def scanArbnoWrong : ChangeSpec := { name := "scanArbno", fn := fun _ => fun
  | [d1, d2, d3, d4] => { results := [.lit (.bool false)], args := [d1, d2, d3, d4] }
  | _ => none }
def ScanArbnoWrongFalsely : Prop := scanArbnoRow.holds Tryd.pinned (OpenSpec.ofChange scanArbnoWrong)

/-- 'scanfaillaw5.ScanLens': WHATEVER THE INPUT: true; the input reads as it did. -/
def scanLensSpec : ChangeSpec := { name := "scanLens", fn := fun _ => fun
  | [d1, d2, d3, d4, d5, d6] => { results := [.lit (.bool true)], args := [d1, d2, d3, d4, d5, d6] }
  | _ => none }
def scanLensRow : OpenClaim := { program := "ytmkldfjcpmoajaadoor", sum := "781875f85890b87c63aa1a1f951290ea5b928b57cd22f1086df8303a18d7e1a2", func := "scanfail/scanfaillaw5.ScanLens", spec := "scanLens", inPlace := ["internal/bytealg.IndexByteString"], unfollowed := true, recurses := true, named := ["internal/strconv.uint64pow10", "math/bits.deBruijn32tab", "math/bits.deBruijn64tab"], apart := false, laid := [("math/bits.deBruijn32tab", laid_math_bits_deBruijn32tab), ("math/bits.deBruijn64tab", laid_math_bits_deBruijn64tab), ("internal/strconv.uint64pow10", laid_internal_strconv_uint64pow10)] }
def ScanLensSaid : Prop := scanLensRow.holds Tryd.pinned (OpenSpec.ofChange scanLensSpec)

/-- ITS FALSE NEIGHBOUR: 'it returns false'. Refute it at one input. -/
def scanLensWrong : ChangeSpec := { name := "scanLens", fn := fun _ => fun
  | [d1, d2, d3, d4, d5, d6] => { results := [.lit (.bool false)], args := [d1, d2, d3, d4, d5, d6] }
  | _ => none }
def ScanLensWrongFalsely : Prop := scanLensRow.holds Tryd.pinned (OpenSpec.ofChange scanLensWrong)

/-- 'scanfaillaw5.ScanSpans': WHATEVER THE INPUT: true; the input reads as it did. -/
def scanSpansSpec : ChangeSpec := { name := "scanSpans", fn := fun _ => fun
  | [d1, d2, d3] => { results := [.lit (.bool true)], args := [d1, d2, d3] }
  | _ => none }
def scanSpansRow : OpenClaim := { program := "ytmkldfjcpmoajaadoor", sum := "781875f85890b87c63aa1a1f951290ea5b928b57cd22f1086df8303a18d7e1a2", func := "scanfail/scanfaillaw5.ScanSpans", spec := "scanSpans", inPlace := ["internal/bytealg.IndexByteString"], unfollowed := true, recurses := true, named := ["internal/strconv.uint64pow10", "math/bits.deBruijn32tab", "math/bits.deBruijn64tab"], apart := false, laid := [("math/bits.deBruijn32tab", laid_math_bits_deBruijn32tab), ("math/bits.deBruijn64tab", laid_math_bits_deBruijn64tab), ("internal/strconv.uint64pow10", laid_internal_strconv_uint64pow10)] }
def ScanSpansSaid : Prop := scanSpansRow.holds Tryd.pinned (OpenSpec.ofChange scanSpansSpec)

/-- ITS FALSE NEIGHBOUR: 'it returns false'. Refute it at one input. -/
def scanSpansWrong : ChangeSpec := { name := "scanSpans", fn := fun _ => fun
  | [d1, d2, d3] => { results := [.lit (.bool false)], args := [d1, d2, d3] }
  | _ => none }
def ScanSpansWrongFalsely : Prop := scanSpansRow.holds Tryd.pinned (OpenSpec.ofChange scanSpansWrong)

/-- 'scanfaillaw5.ScanTabs': WHATEVER THE INPUT: true; the input reads as it did. -/
def scanTabsSpec : ChangeSpec := { name := "scanTabs", fn := fun _ => fun
  | [d1, d2, d3] => { results := [.lit (.bool true)], args := [d1, d2, d3] }
  | _ => none }
def scanTabsRow : OpenClaim := { program := "ytmkldfjcpmoajaadoor", sum := "781875f85890b87c63aa1a1f951290ea5b928b57cd22f1086df8303a18d7e1a2", func := "scanfail/scanfaillaw5.ScanTabs", spec := "scanTabs", inPlace := ["internal/bytealg.IndexByteString"], unfollowed := true, recurses := true, named := ["internal/strconv.uint64pow10", "math/bits.deBruijn32tab", "math/bits.deBruijn64tab"], apart := false, laid := [("math/bits.deBruijn32tab", laid_math_bits_deBruijn32tab), ("math/bits.deBruijn64tab", laid_math_bits_deBruijn64tab), ("internal/strconv.uint64pow10", laid_internal_strconv_uint64pow10)] }
def ScanTabsSaid : Prop := scanTabsRow.holds Tryd.pinned (OpenSpec.ofChange scanTabsSpec)

/-- ITS FALSE NEIGHBOUR: 'it returns false'. Refute it at one input. -/
def scanTabsWrong : ChangeSpec := { name := "scanTabs", fn := fun _ => fun
  | [d1, d2, d3] => { results := [.lit (.bool false)], args := [d1, d2, d3] }
  | _ => none }
def ScanTabsWrongFalsely : Prop := scanTabsRow.holds Tryd.pinned (OpenSpec.ofChange scanTabsWrong)

/-- 'scanfaillaw5.ScanArb': WHATEVER THE INPUT: true; the input reads as it did. -/
def scanArbSpec : ChangeSpec := { name := "scanArb", fn := fun _ => fun
  | [d1, d2] => { results := [.lit (.bool true)], args := [d1, d2] }
  | _ => none }
def scanArbRow : OpenClaim := { program := "ytmkldfjcpmoajaadoor", sum := "781875f85890b87c63aa1a1f951290ea5b928b57cd22f1086df8303a18d7e1a2", func := "scanfail/scanfaillaw5.ScanArb", spec := "scanArb", inPlace := ["internal/bytealg.IndexByteString"], unfollowed := true, recurses := true, named := ["internal/strconv.uint64pow10", "math/bits.deBruijn32tab", "math/bits.deBruijn64tab"], apart := false, laid := [("math/bits.deBruijn32tab", laid_math_bits_deBruijn32tab), ("math/bits.deBruijn64tab", laid_math_bits_deBruijn64tab), ("internal/strconv.uint64pow10", laid_internal_strconv_uint64pow10)] }
def ScanArbSaid : Prop := scanArbRow.holds Tryd.pinned (OpenSpec.ofChange scanArbSpec)

/-- ITS FALSE NEIGHBOUR: 'it returns false'. Refute it at one input. -/
def scanArbWrong : ChangeSpec := { name := "scanArb", fn := fun _ => fun
  | [d1, d2] => { results := [.lit (.bool false)], args := [d1, d2] }
  | _ => none }
def ScanArbWrongFalsely : Prop := scanArbRow.holds Tryd.pinned (OpenSpec.ofChange scanArbWrong)

/- THE SECOND FORM. 'bulk': how many values and letters a reading holds, each counted each time it is reached (what is shared counts as often as it is met; a slice's spare places count too). A statement '..UptoSaid' is the law's where the arguments, and the package variables that the reading takes, are together of bulk at most 1048576: NARROWER than '..Said'. Prove '..Said' where nothing that the law and all that it calls make is longer than what came in: it says more and counts as full. Else prove '..UptoSaid'. A law counts once. -/
mutual
def uptoBulk {H : Type} : DataW H → Nat
  | .lit (.string bytes) => bytes.length + 1
  | .lit _ => 1
  | .nil => 1
  | .ptr d => uptoBulk d + 1
  | .slice elems spare => uptoBulkAll elems + uptoBulkAll spare + 1
  | .agg parts => uptoBulkAll parts + 1
  | .iface _ d => uptoBulk d + 1
  | .map entries => uptoBulkEntries entries + 1
  | .held _ => 1
def uptoBulkAll {H : Type} : List (DataW H) → Nat
  | [] => 0
  | d :: r => uptoBulk d + uptoBulkAll r
def uptoBulkEntries {H : Type} : List (Lit × DataW H) → Nat
  | [] => 0
  | x :: r => uptoBulkEntry x + uptoBulkEntries r
def uptoBulkEntry {H : Type} : Lit × DataW H → Nat
  | (.string bytes, d) => bytes.length + uptoBulk d + 1
  | (_, d) => uptoBulk d + 1
 end
def uptoSmall : (H : Type) → List (DataW H) → Bool := fun _ ds => decide (uptoBulkAll ds ≤ 1048576)
def OpenSpec.upto (s : _root_.Go.ChangeSpec) : _root_.Go.OpenSpec := { _root_.Go.OpenSpec.ofChange s with cond := some uptoSmall }

/-- 'scanfaillaw5.ScanMatch', WHERE WHAT IT READS IS OF BULK AT MOST 1048576: true; the input reads as it did. -/
def scanMatchUptoRow : OpenClaim := { program := "ytmkldfjcpmoajaadoor", sum := "781875f85890b87c63aa1a1f951290ea5b928b57cd22f1086df8303a18d7e1a2", func := "scanfail/scanfaillaw5.ScanMatch", spec := "scanMatch", inPlace := ["internal/bytealg.IndexByteString"], unfollowed := true, recurses := true, named := ["internal/strconv.uint64pow10", "math/bits.deBruijn32tab", "math/bits.deBruijn64tab"], loops := true, apart := false, laid := [("math/bits.deBruijn32tab", laid_math_bits_deBruijn32tab), ("math/bits.deBruijn64tab", laid_math_bits_deBruijn64tab), ("internal/strconv.uint64pow10", laid_internal_strconv_uint64pow10)], narrowed := true }
def ScanMatchUptoSaid : Prop := scanMatchUptoRow.holds Tryd.pinned (OpenSpec.upto scanMatchSpec)

/-- 'scanfaillaw5.ScanWays', WHERE WHAT IT READS IS OF BULK AT MOST 1048576: true; the input reads as it did. -/
def scanWaysUptoRow : OpenClaim := { program := "ytmkldfjcpmoajaadoor", sum := "781875f85890b87c63aa1a1f951290ea5b928b57cd22f1086df8303a18d7e1a2", func := "scanfail/scanfaillaw5.ScanWays", spec := "scanWays", inPlace := ["internal/bytealg.IndexByteString"], unfollowed := true, recurses := true, named := ["internal/strconv.uint64pow10", "math/bits.deBruijn32tab", "math/bits.deBruijn64tab"], loops := true, apart := false, laid := [("math/bits.deBruijn32tab", laid_math_bits_deBruijn32tab), ("math/bits.deBruijn64tab", laid_math_bits_deBruijn64tab), ("internal/strconv.uint64pow10", laid_internal_strconv_uint64pow10)], narrowed := true }
def ScanWaysUptoSaid : Prop := scanWaysUptoRow.holds Tryd.pinned (OpenSpec.upto scanWaysSpec)

/-- 'scanfaillaw5.ScanFirst', WHERE WHAT IT READS IS OF BULK AT MOST 1048576: true; the input reads as it did. -/
def scanFirstUptoRow : OpenClaim := { program := "ytmkldfjcpmoajaadoor", sum := "781875f85890b87c63aa1a1f951290ea5b928b57cd22f1086df8303a18d7e1a2", func := "scanfail/scanfaillaw5.ScanFirst", spec := "scanFirst", inPlace := ["internal/bytealg.IndexByteString"], unfollowed := true, recurses := true, named := ["internal/strconv.uint64pow10", "math/bits.deBruijn32tab", "math/bits.deBruijn64tab"], loops := true, apart := false, laid := [("math/bits.deBruijn32tab", laid_math_bits_deBruijn32tab), ("math/bits.deBruijn64tab", laid_math_bits_deBruijn64tab), ("internal/strconv.uint64pow10", laid_internal_strconv_uint64pow10)], narrowed := true }
def ScanFirstUptoSaid : Prop := scanFirstUptoRow.holds Tryd.pinned (OpenSpec.upto scanFirstSpec)

/-- 'scanfaillaw5.ScanCat', WHERE WHAT IT READS IS OF BULK AT MOST 1048576: true; the input reads as it did. -/
def scanCatUptoRow : OpenClaim := { program := "ytmkldfjcpmoajaadoor", sum := "781875f85890b87c63aa1a1f951290ea5b928b57cd22f1086df8303a18d7e1a2", func := "scanfail/scanfaillaw5.ScanCat", spec := "scanCat", inPlace := ["internal/bytealg.IndexByteString"], unfollowed := true, recurses := true, named := ["internal/strconv.uint64pow10", "math/bits.deBruijn32tab", "math/bits.deBruijn64tab"], loops := true, apart := false, laid := [("math/bits.deBruijn32tab", laid_math_bits_deBruijn32tab), ("math/bits.deBruijn64tab", laid_math_bits_deBruijn64tab), ("internal/strconv.uint64pow10", laid_internal_strconv_uint64pow10)], narrowed := true }
def ScanCatUptoSaid : Prop := scanCatUptoRow.holds Tryd.pinned (OpenSpec.upto scanCatSpec)

/-- 'scanfaillaw5.ScanAlt', WHERE WHAT IT READS IS OF BULK AT MOST 1048576: true; the input reads as it did. -/
def scanAltUptoRow : OpenClaim := { program := "ytmkldfjcpmoajaadoor", sum := "781875f85890b87c63aa1a1f951290ea5b928b57cd22f1086df8303a18d7e1a2", func := "scanfail/scanfaillaw5.ScanAlt", spec := "scanAlt", inPlace := ["internal/bytealg.IndexByteString"], unfollowed := true, recurses := true, named := ["internal/strconv.uint64pow10", "math/bits.deBruijn32tab", "math/bits.deBruijn64tab"], loops := true, apart := false, laid := [("math/bits.deBruijn32tab", laid_math_bits_deBruijn32tab), ("math/bits.deBruijn64tab", laid_math_bits_deBruijn64tab), ("internal/strconv.uint64pow10", laid_internal_strconv_uint64pow10)], narrowed := true }
def ScanAltUptoSaid : Prop := scanAltUptoRow.holds Tryd.pinned (OpenSpec.upto scanAltSpec)

/-- 'scanfaillaw5.ScanNothing', WHERE WHAT IT READS IS OF BULK AT MOST 1048576: true; the input reads as it did. -/
def scanNothingUptoRow : OpenClaim := { program := "ytmkldfjcpmoajaadoor", sum := "781875f85890b87c63aa1a1f951290ea5b928b57cd22f1086df8303a18d7e1a2", func := "scanfail/scanfaillaw5.ScanNothing", spec := "scanNothing", inPlace := ["internal/bytealg.IndexByteString"], unfollowed := true, recurses := true, named := ["internal/strconv.uint64pow10", "math/bits.deBruijn32tab", "math/bits.deBruijn64tab"], loops := true, apart := false, laid := [("math/bits.deBruijn32tab", laid_math_bits_deBruijn32tab), ("math/bits.deBruijn64tab", laid_math_bits_deBruijn64tab), ("internal/strconv.uint64pow10", laid_internal_strconv_uint64pow10)], narrowed := true }
def ScanNothingUptoSaid : Prop := scanNothingUptoRow.holds Tryd.pinned (OpenSpec.upto scanNothingSpec)

/-- 'scanfaillaw5.ScanOver', WHERE WHAT IT READS IS OF BULK AT MOST 1048576: true; the input reads as it did. -/
def scanOverUptoRow : OpenClaim := { program := "ytmkldfjcpmoajaadoor", sum := "781875f85890b87c63aa1a1f951290ea5b928b57cd22f1086df8303a18d7e1a2", func := "scanfail/scanfaillaw5.ScanOver", spec := "scanOver", inPlace := ["internal/bytealg.IndexByteString"], unfollowed := true, recurses := true, named := ["internal/strconv.uint64pow10", "math/bits.deBruijn32tab", "math/bits.deBruijn64tab"], loops := true, apart := false, laid := [("math/bits.deBruijn32tab", laid_math_bits_deBruijn32tab), ("math/bits.deBruijn64tab", laid_math_bits_deBruijn64tab), ("internal/strconv.uint64pow10", laid_internal_strconv_uint64pow10)], narrowed := true }
def ScanOverUptoSaid : Prop := scanOverUptoRow.holds Tryd.pinned (OpenSpec.upto scanOverSpec)

/-- 'scanfaillaw5.ScanArbno', WHERE WHAT IT READS IS OF BULK AT MOST 1048576: true; the input reads as it did. -/
def scanArbnoUptoRow : OpenClaim := { program := "ytmkldfjcpmoajaadoor", sum := "781875f85890b87c63aa1a1f951290ea5b928b57cd22f1086df8303a18d7e1a2", func := "scanfail/scanfaillaw5.ScanArbno", spec := "scanArbno", inPlace := ["internal/bytealg.IndexByteString"], unfollowed := true, recurses := true, named := ["internal/strconv.uint64pow10", "math/bits.deBruijn32tab", "math/bits.deBruijn64tab"], loops := true, apart := false, laid := [("math/bits.deBruijn32tab", laid_math_bits_deBruijn32tab), ("math/bits.deBruijn64tab", laid_math_bits_deBruijn64tab), ("internal/strconv.uint64pow10", laid_internal_strconv_uint64pow10)], narrowed := true }
def ScanArbnoUptoSaid : Prop := scanArbnoUptoRow.holds Tryd.pinned (OpenSpec.upto scanArbnoSpec)

/-- 'scanfaillaw5.ScanLens', WHERE WHAT IT READS IS OF BULK AT MOST 1048576: true; the input reads as it did. -/
def scanLensUptoRow : OpenClaim := { program := "ytmkldfjcpmoajaadoor", sum := "781875f85890b87c63aa1a1f951290ea5b928b57cd22f1086df8303a18d7e1a2", func := "scanfail/scanfaillaw5.ScanLens", spec := "scanLens", inPlace := ["internal/bytealg.IndexByteString"], unfollowed := true, recurses := true, named := ["internal/strconv.uint64pow10", "math/bits.deBruijn32tab", "math/bits.deBruijn64tab"], apart := false, laid := [("math/bits.deBruijn32tab", laid_math_bits_deBruijn32tab), ("math/bits.deBruijn64tab", laid_math_bits_deBruijn64tab), ("internal/strconv.uint64pow10", laid_internal_strconv_uint64pow10)], narrowed := true }
def ScanLensUptoSaid : Prop := scanLensUptoRow.holds Tryd.pinned (OpenSpec.upto scanLensSpec)

/-- 'scanfaillaw5.ScanSpans', WHERE WHAT IT READS IS OF BULK AT MOST 1048576: true; the input reads as it did. -/
def scanSpansUptoRow : OpenClaim := { program := "ytmkldfjcpmoajaadoor", sum := "781875f85890b87c63aa1a1f951290ea5b928b57cd22f1086df8303a18d7e1a2", func := "scanfail/scanfaillaw5.ScanSpans", spec := "scanSpans", inPlace := ["internal/bytealg.IndexByteString"], unfollowed := true, recurses := true, named := ["internal/strconv.uint64pow10", "math/bits.deBruijn32tab", "math/bits.deBruijn64tab"], apart := false, laid := [("math/bits.deBruijn32tab", laid_math_bits_deBruijn32tab), ("math/bits.deBruijn64tab", laid_math_bits_deBruijn64tab), ("internal/strconv.uint64pow10", laid_internal_strconv_uint64pow10)], narrowed := true }
def ScanSpansUptoSaid : Prop := scanSpansUptoRow.holds Tryd.pinned (OpenSpec.upto scanSpansSpec)

/-- 'scanfaillaw5.ScanTabs', WHERE WHAT IT READS IS OF BULK AT MOST 1048576: true; the input reads as it did. -/
def scanTabsUptoRow : OpenClaim := { program := "ytmkldfjcpmoajaadoor", sum := "781875f85890b87c63aa1a1f951290ea5b928b57cd22f1086df8303a18d7e1a2", func := "scanfail/scanfaillaw5.ScanTabs", spec := "scanTabs", inPlace := ["internal/bytealg.IndexByteString"], unfollowed := true, recurses := true, named := ["internal/strconv.uint64pow10", "math/bits.deBruijn32tab", "math/bits.deBruijn64tab"], apart := false, laid := [("math/bits.deBruijn32tab", laid_math_bits_deBruijn32tab), ("math/bits.deBruijn64tab", laid_math_bits_deBruijn64tab), ("internal/strconv.uint64pow10", laid_internal_strconv_uint64pow10)], narrowed := true }
def ScanTabsUptoSaid : Prop := scanTabsUptoRow.holds Tryd.pinned (OpenSpec.upto scanTabsSpec)

/-- 'scanfaillaw5.ScanArb', WHERE WHAT IT READS IS OF BULK AT MOST 1048576: true; the input reads as it did. -/
def scanArbUptoRow : OpenClaim := { program := "ytmkldfjcpmoajaadoor", sum := "781875f85890b87c63aa1a1f951290ea5b928b57cd22f1086df8303a18d7e1a2", func := "scanfail/scanfaillaw5.ScanArb", spec := "scanArb", inPlace := ["internal/bytealg.IndexByteString"], unfollowed := true, recurses := true, named := ["internal/strconv.uint64pow10", "math/bits.deBruijn32tab", "math/bits.deBruijn64tab"], apart := false, laid := [("math/bits.deBruijn32tab", laid_math_bits_deBruijn32tab), ("math/bits.deBruijn64tab", laid_math_bits_deBruijn64tab), ("internal/strconv.uint64pow10", laid_internal_strconv_uint64pow10)], narrowed := true }
def ScanArbUptoSaid : Prop := scanArbUptoRow.holds Tryd.pinned (OpenSpec.upto scanArbSpec)

end Rows
end Go.Proofs.YtmkldfjcpmoajaaDoor
