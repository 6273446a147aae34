/-
  NARROWER THAN 'FOR EVERY INPUT', by the rows' own cells (each row's printed sentence says how): TuneTwice: loops, laid · TuneTells: loops, laid · TuneFaster: loops, laid · TuneSame: loops, laid · TuneLength: loops, laid · TuneFirst: loops, laid.
  DERIVED. THE GIVEN ROWS OF THIS SEAT. 6 by the template 'for every input the law returns true; each argument reads behind the call as it read before'; 0 by the template 'total and deterministic' (their statements: YtmcfoefhenmjeaaDoorTotals.lean).
  GIVEN WITH THE SEED: the statements are not yours to turn. If you find one false, say at which input.
  Laid BY PROGRAM, IN A SANDBOX (cutbox-rows.mjs): the forced cells as the released guide's own fill.sh prints them over the translation 86b5087e5d1dba9f… (all of the seat's roots in one cut). By AI agents, Wed Nov 11 2026. No macro, syntax, notation, axiom, sorry.
-/
import Derived.Test.YtmcfoefhenmjeaaDoorChecked
import GoSem.Claim
import GoSem.ClaimJoined
import GoSem.ClaimMapViews
import Derived.JoinedTies
import Derived.KernelRfl
namespace Go.Proofs.YtmcfoefhenmjeaaDoor
/- THE CELL 'sum', in the pinned program and in every row, IS THE sha256 OF THE DUMP (.gsa) THAT YtmcfoefhenmjeaaDoorProg.lean LOADS. Nothing in Lean hashes anything: it is a label: what it is worth is what the hold of that sum in a sandbox is worth. -/
noncomputable def Tryd.pinned : Pinned := { name := "ytmcfoefhenmjeaadoor", sum := "86b5087e5d1dba9f42a890137456d4d1d5872a7e2cd61144820b60e7f9980eb5", checked := Tryd.checked }
namespace Rows
def none {H : Type} : Left H := { results := [], args := [] }

/- WHAT THE LISTED PACKAGE-LEVEL VARIABLES READ AS WHEN THE CALL BEGINS. Each datum BY PROGRAM (the guide's laid-datum.mjs) off the statement by which the dump's own 'gosem.cut.vars' lays the variable. In a bare row this is a premise. The card (YtmcfoefhenmjeaaDoorCards.lean) ties it to the program's text. -/
def laid_math_bits_deBruijn64tab {H : Type} : DataW H := .agg [.lit (.int .u8 0), .lit (.int .u8 1), .lit (.int .u8 56), .lit (.int .u8 2), .lit (.int .u8 57), .lit (.int .u8 49), .lit (.int .u8 28), .lit (.int .u8 3), .lit (.int .u8 61), .lit (.int .u8 58), .lit (.int .u8 42), .lit (.int .u8 50), .lit (.int .u8 38), .lit (.int .u8 29), .lit (.int .u8 17), .lit (.int .u8 4), .lit (.int .u8 62), .lit (.int .u8 47), .lit (.int .u8 59), .lit (.int .u8 36), .lit (.int .u8 45), .lit (.int .u8 43), .lit (.int .u8 51), .lit (.int .u8 22), .lit (.int .u8 53), .lit (.int .u8 39), .lit (.int .u8 33), .lit (.int .u8 30), .lit (.int .u8 24), .lit (.int .u8 18), .lit (.int .u8 12), .lit (.int .u8 5), .lit (.int .u8 63), .lit (.int .u8 55), .lit (.int .u8 48), .lit (.int .u8 27), .lit (.int .u8 60), .lit (.int .u8 41), .lit (.int .u8 37), .lit (.int .u8 16), .lit (.int .u8 46), .lit (.int .u8 35), .lit (.int .u8 44), .lit (.int .u8 21), .lit (.int .u8 52), .lit (.int .u8 32), .lit (.int .u8 23), .lit (.int .u8 11), .lit (.int .u8 54), .lit (.int .u8 26), .lit (.int .u8 40), .lit (.int .u8 15), .lit (.int .u8 34), .lit (.int .u8 20), .lit (.int .u8 31), .lit (.int .u8 10), .lit (.int .u8 25), .lit (.int .u8 14), .lit (.int .u8 19), .lit (.int .u8 9), .lit (.int .u8 13), .lit (.int .u8 8), .lit (.int .u8 7), .lit (.int .u8 6)]
def laid_math_bits_deBruijn32tab {H : Type} : DataW H := .agg [.lit (.int .u8 0), .lit (.int .u8 1), .lit (.int .u8 28), .lit (.int .u8 2), .lit (.int .u8 29), .lit (.int .u8 14), .lit (.int .u8 24), .lit (.int .u8 3), .lit (.int .u8 30), .lit (.int .u8 22), .lit (.int .u8 20), .lit (.int .u8 15), .lit (.int .u8 25), .lit (.int .u8 17), .lit (.int .u8 4), .lit (.int .u8 8), .lit (.int .u8 31), .lit (.int .u8 27), .lit (.int .u8 13), .lit (.int .u8 23), .lit (.int .u8 21), .lit (.int .u8 19), .lit (.int .u8 16), .lit (.int .u8 7), .lit (.int .u8 26), .lit (.int .u8 12), .lit (.int .u8 18), .lit (.int .u8 6), .lit (.int .u8 11), .lit (.int .u8 5), .lit (.int .u8 10), .lit (.int .u8 9)]
def laid_internal_strconv_uint64pow10 {H : Type} : DataW H := .agg [.lit (.int .u64 1), .lit (.int .u64 10), .lit (.int .u64 100), .lit (.int .u64 1000), .lit (.int .u64 10000), .lit (.int .u64 100000), .lit (.int .u64 1000000), .lit (.int .u64 10000000), .lit (.int .u64 100000000), .lit (.int .u64 1000000000), .lit (.int .u64 10000000000), .lit (.int .u64 100000000000), .lit (.int .u64 1000000000000), .lit (.int .u64 10000000000000), .lit (.int .u64 100000000000000), .lit (.int .u64 1000000000000000), .lit (.int .u64 10000000000000000), .lit (.int .u64 100000000000000000), .lit (.int .u64 1000000000000000000), .lit (.int .u64 10000000000000000000)]

/-- 'scanfaillaw6.TuneTwice': WHATEVER THE INPUT: true; the input reads as it did. -/
def tuneTwiceSpec : ChangeSpec := { name := "tuneTwice", fn := fun _ => fun
  | [d] => { results := [.lit (.bool true)], args := [d] }
  | _ => none }
def tuneTwiceRow : OpenClaim := { program := "ytmcfoefhenmjeaadoor", sum := "86b5087e5d1dba9f42a890137456d4d1d5872a7e2cd61144820b60e7f9980eb5", func := "scanfail/scanfaillaw6.TuneTwice", spec := "tuneTwice", unfollowed := true, recurses := true, named := ["math/bits.deBruijn64tab"], loops := true, apart := false, laid := [("math/bits.deBruijn64tab", laid_math_bits_deBruijn64tab)] }
def TuneTwiceSaid : Prop := tuneTwiceRow.holds Tryd.pinned (OpenSpec.ofChange tuneTwiceSpec)

/-- ITS FALSE NEIGHBOUR: 'it returns false'. Refute it at one input. -/
def tuneTwiceWrong : ChangeSpec := { name := "tuneTwice", fn := fun _ => fun
  | [d] => { results := [.lit (.bool false)], args := [d] }
  | _ => none }
def TuneTwiceWrongFalsely : Prop := tuneTwiceRow.holds Tryd.pinned (OpenSpec.ofChange tuneTwiceWrong)

/-- 'scanfaillaw6.TuneTells': WHATEVER THE INPUT: true; the input reads as it did. -/
def tuneTellsSpec : ChangeSpec := { name := "tuneTells", fn := fun _ => fun
  | [d] => { results := [.lit (.bool true)], args := [d] }
  | _ => none }
def tuneTellsRow : OpenClaim := { program := "ytmcfoefhenmjeaadoor", sum := "86b5087e5d1dba9f42a890137456d4d1d5872a7e2cd61144820b60e7f9980eb5", func := "scanfail/scanfaillaw6.TuneTells", spec := "tuneTells", unfollowed := true, recurses := true, named := ["math/bits.deBruijn64tab"], loops := true, apart := false, laid := [("math/bits.deBruijn64tab", laid_math_bits_deBruijn64tab)] }
def TuneTellsSaid : Prop := tuneTellsRow.holds Tryd.pinned (OpenSpec.ofChange tuneTellsSpec)

/-- ITS FALSE NEIGHBOUR: 'it returns false'. Refute it at one input. -/
def tuneTellsWrong : ChangeSpec := { name := "tuneTells", fn := fun _ => fun
  | [d] => { results := [.lit (.bool false)], args := [d] }
  | _ => none }
def TuneTellsWrongFalsely : Prop := tuneTellsRow.holds Tryd.pinned (OpenSpec.ofChange tuneTellsWrong)

/-- 'scanfaillaw6.TuneFaster': WHATEVER THE INPUT: true; the input reads as it did. -/
def tuneFasterSpec : ChangeSpec := { name := "tuneFaster", fn := fun _ => fun
  | [d1, d2, d3, d4, d5] => { results := [.lit (.bool true)], args := [d1, d2, d3, d4, d5] }
  | _ => none }
def tuneFasterRow : OpenClaim := { program := "ytmcfoefhenmjeaadoor", sum := "86b5087e5d1dba9f42a890137456d4d1d5872a7e2cd61144820b60e7f9980eb5", func := "scanfail/scanfaillaw6.TuneFaster", spec := "tuneFaster", inPlace := ["internal/bytealg.IndexByteString"], unfollowed := true, recurses := true, named := ["math/bits.deBruijn64tab", "internal/strconv.uint64pow10", "math/bits.deBruijn32tab"], loops := true, apart := false, laid := [("math/bits.deBruijn32tab", laid_math_bits_deBruijn32tab), ("math/bits.deBruijn64tab", laid_math_bits_deBruijn64tab), ("internal/strconv.uint64pow10", laid_internal_strconv_uint64pow10)] }
def TuneFasterSaid : Prop := tuneFasterRow.holds Tryd.pinned (OpenSpec.ofChange tuneFasterSpec)

/-- ITS FALSE NEIGHBOUR: 'it returns false'. Refute it at one input. -/
def tuneFasterWrong : ChangeSpec := { name := "tuneFaster", fn := fun _ => fun
  | [d1, d2, d3, d4, d5] => { results := [.lit (.bool false)], args := [d1, d2, d3, d4, d5] }
  | _ => none }
def TuneFasterWrongFalsely : Prop := tuneFasterRow.holds Tryd.pinned (OpenSpec.ofChange tuneFasterWrong)

/-- 'scanfaillaw6.TuneSame': WHATEVER THE INPUT: true; the input reads as it did. -/
def tuneSameSpec : ChangeSpec := { name := "tuneSame", fn := fun _ => fun
  | [d1, d2, d3, d4] => { results := [.lit (.bool true)], args := [d1, d2, d3, d4] }
  | _ => none }
def tuneSameRow : OpenClaim := { program := "ytmcfoefhenmjeaadoor", sum := "86b5087e5d1dba9f42a890137456d4d1d5872a7e2cd61144820b60e7f9980eb5", func := "scanfail/scanfaillaw6.TuneSame", spec := "tuneSame", inPlace := ["internal/bytealg.IndexByteString"], unfollowed := true, recurses := true, named := ["math/bits.deBruijn64tab", "internal/strconv.uint64pow10", "math/bits.deBruijn32tab"], loops := true, apart := false, laid := [("math/bits.deBruijn32tab", laid_math_bits_deBruijn32tab), ("math/bits.deBruijn64tab", laid_math_bits_deBruijn64tab), ("internal/strconv.uint64pow10", laid_internal_strconv_uint64pow10)] }
def TuneSameSaid : Prop := tuneSameRow.holds Tryd.pinned (OpenSpec.ofChange tuneSameSpec)

/-- ITS FALSE NEIGHBOUR: 'it returns false'. Refute it at one input. -/
def tuneSameWrong : ChangeSpec := { name := "tuneSame", fn := fun _ => fun
  | [d1, d2, d3, d4] => { results := [.lit (.bool false)], args := [d1, d2, d3, d4] }
  | _ => none }
def TuneSameWrongFalsely : Prop := tuneSameRow.holds Tryd.pinned (OpenSpec.ofChange tuneSameWrong)

/-- 'scanfaillaw6.TuneLength': WHATEVER THE INPUT: true; the input reads as it did. -/
def tuneLengthSpec : ChangeSpec := { name := "tuneLength", fn := fun _ => fun
  | [d1, d2, d3, d4] => { results := [.lit (.bool true)], args := [d1, d2, d3, d4] }
  | _ => none }
def tuneLengthRow : OpenClaim := { program := "ytmcfoefhenmjeaadoor", sum := "86b5087e5d1dba9f42a890137456d4d1d5872a7e2cd61144820b60e7f9980eb5", func := "scanfail/scanfaillaw6.TuneLength", spec := "tuneLength", inPlace := ["internal/bytealg.IndexByteString"], unfollowed := true, recurses := true, named := ["math/bits.deBruijn64tab", "internal/strconv.uint64pow10", "math/bits.deBruijn32tab"], loops := true, apart := false, laid := [("math/bits.deBruijn32tab", laid_math_bits_deBruijn32tab), ("math/bits.deBruijn64tab", laid_math_bits_deBruijn64tab), ("internal/strconv.uint64pow10", laid_internal_strconv_uint64pow10)] }
def TuneLengthSaid : Prop := tuneLengthRow.holds Tryd.pinned (OpenSpec.ofChange tuneLengthSpec)

/-- ITS FALSE NEIGHBOUR: 'it returns false'. Refute it at one input. -/
def tuneLengthWrong : ChangeSpec := { name := "tuneLength", fn := fun _ => fun
  | [d1, d2, d3, d4] => { results := [.lit (.bool false)], args := [d1, d2, d3, d4] }
  | _ => none }
def TuneLengthWrongFalsely : Prop := tuneLengthRow.holds Tryd.pinned (OpenSpec.ofChange tuneLengthWrong)

/-- 'scanfaillaw6.TuneFirst': WHATEVER THE INPUT: true; the input reads as it did. -/
def tuneFirstSpec : ChangeSpec := { name := "tuneFirst", fn := fun _ => fun
  | [d1, d2, d3, d4] => { results := [.lit (.bool true)], args := [d1, d2, d3, d4] }
  | _ => none }
def tuneFirstRow : OpenClaim := { program := "ytmcfoefhenmjeaadoor", sum := "86b5087e5d1dba9f42a890137456d4d1d5872a7e2cd61144820b60e7f9980eb5", func := "scanfail/scanfaillaw6.TuneFirst", spec := "tuneFirst", inPlace := ["internal/bytealg.IndexByteString"], unfollowed := true, recurses := true, named := ["math/bits.deBruijn64tab", "internal/strconv.uint64pow10", "math/bits.deBruijn32tab"], loops := true, apart := false, laid := [("math/bits.deBruijn32tab", laid_math_bits_deBruijn32tab), ("math/bits.deBruijn64tab", laid_math_bits_deBruijn64tab), ("internal/strconv.uint64pow10", laid_internal_strconv_uint64pow10)] }
def TuneFirstSaid : Prop := tuneFirstRow.holds Tryd.pinned (OpenSpec.ofChange tuneFirstSpec)

/-- ITS FALSE NEIGHBOUR: 'it returns false'. Refute it at one input. -/
def tuneFirstWrong : ChangeSpec := { name := "tuneFirst", fn := fun _ => fun
  | [d1, d2, d3, d4] => { results := [.lit (.bool false)], args := [d1, d2, d3, d4] }
  | _ => none }
def TuneFirstWrongFalsely : Prop := tuneFirstRow.holds Tryd.pinned (OpenSpec.ofChange tuneFirstWrong)

/- THE SECOND FORM. 'bulk': how many values and letters a reading holds, each counted each time it is reached (what is shared counts as often as it is met; a slice's spare places count too). A statement '..UptoSaid' is the law's where the arguments, and the package variables that the reading takes, are together of bulk at most 1048576: NARROWER than '..Said'. Prove '..Said' where nothing that the law and all that it calls make is longer than what came in: it says more and counts as full. Else prove '..UptoSaid'. A law counts once. -/
mutual
def uptoBulk {H : Type} : DataW H → Nat
  | .lit (.string bytes) => bytes.length + 1
  | .lit _ => 1
  | .nil => 1
  | .ptr d => uptoBulk d + 1
  | .slice elems spare => uptoBulkAll elems + uptoBulkAll spare + 1
  | .agg parts => uptoBulkAll parts + 1
  | .iface _ d => uptoBulk d + 1
  | .map entries => uptoBulkEntries entries + 1
  | .held _ => 1
def uptoBulkAll {H : Type} : List (DataW H) → Nat
  | [] => 0
  | d :: r => uptoBulk d + uptoBulkAll r
def uptoBulkEntries {H : Type} : List (Lit × DataW H) → Nat
  | [] => 0
  | x :: r => uptoBulkEntry x + uptoBulkEntries r
def uptoBulkEntry {H : Type} : Lit × DataW H → Nat
  | (.string bytes, d) => bytes.length + uptoBulk d + 1
  | (_, d) => uptoBulk d + 1
 end
def uptoSmall : (H : Type) → List (DataW H) → Bool := fun _ ds => decide (uptoBulkAll ds ≤ 1048576)
def OpenSpec.upto (s : _root_.Go.ChangeSpec) : _root_.Go.OpenSpec := { _root_.Go.OpenSpec.ofChange s with cond := some uptoSmall }

/-- 'scanfaillaw6.TuneTwice', WHERE WHAT IT READS IS OF BULK AT MOST 1048576: true; the input reads as it did. -/
def tuneTwiceUptoRow : OpenClaim := { program := "ytmcfoefhenmjeaadoor", sum := "86b5087e5d1dba9f42a890137456d4d1d5872a7e2cd61144820b60e7f9980eb5", func := "scanfail/scanfaillaw6.TuneTwice", spec := "tuneTwice", unfollowed := true, recurses := true, named := ["math/bits.deBruijn64tab"], loops := true, apart := false, laid := [("math/bits.deBruijn64tab", laid_math_bits_deBruijn64tab)], narrowed := true }
def TuneTwiceUptoSaid : Prop := tuneTwiceUptoRow.holds Tryd.pinned (OpenSpec.upto tuneTwiceSpec)

/-- 'scanfaillaw6.TuneTells', WHERE WHAT IT READS IS OF BULK AT MOST 1048576: true; the input reads as it did. -/
def tuneTellsUptoRow : OpenClaim := { program := "ytmcfoefhenmjeaadoor", sum := "86b5087e5d1dba9f42a890137456d4d1d5872a7e2cd61144820b60e7f9980eb5", func := "scanfail/scanfaillaw6.TuneTells", spec := "tuneTells", unfollowed := true, recurses := true, named := ["math/bits.deBruijn64tab"], loops := true, apart := false, laid := [("math/bits.deBruijn64tab", laid_math_bits_deBruijn64tab)], narrowed := true }
def TuneTellsUptoSaid : Prop := tuneTellsUptoRow.holds Tryd.pinned (OpenSpec.upto tuneTellsSpec)

/-- 'scanfaillaw6.TuneFaster', WHERE WHAT IT READS IS OF BULK AT MOST 1048576: true; the input reads as it did. -/
def tuneFasterUptoRow : OpenClaim := { program := "ytmcfoefhenmjeaadoor", sum := "86b5087e5d1dba9f42a890137456d4d1d5872a7e2cd61144820b60e7f9980eb5", func := "scanfail/scanfaillaw6.TuneFaster", spec := "tuneFaster", inPlace := ["internal/bytealg.IndexByteString"], unfollowed := true, recurses := true, named := ["math/bits.deBruijn64tab", "internal/strconv.uint64pow10", "math/bits.deBruijn32tab"], loops := true, apart := false, laid := [("math/bits.deBruijn32tab", laid_math_bits_deBruijn32tab), ("math/bits.deBruijn64tab", laid_math_bits_deBruijn64tab), ("internal/strconv.uint64pow10", laid_internal_strconv_uint64pow10)], narrowed := true }
def TuneFasterUptoSaid : Prop := tuneFasterUptoRow.holds Tryd.pinned (OpenSpec.upto tuneFasterSpec)

/-- 'scanfaillaw6.TuneSame', WHERE WHAT IT READS IS OF BULK AT MOST 1048576: true; the input reads as it did. -/
def tuneSameUptoRow : OpenClaim := { program := "ytmcfoefhenmjeaadoor", sum := "86b5087e5d1dba9f42a890137456d4d1d5872a7e2cd61144820b60e7f9980eb5", func := "scanfail/scanfaillaw6.TuneSame", spec := "tuneSame", inPlace := ["internal/bytealg.IndexByteString"], unfollowed := true, recurses := true, named := ["math/bits.deBruijn64tab", "internal/strconv.uint64pow10", "math/bits.deBruijn32tab"], loops := true, apart := false, laid := [("math/bits.deBruijn32tab", laid_math_bits_deBruijn32tab), ("math/bits.deBruijn64tab", laid_math_bits_deBruijn64tab), ("internal/strconv.uint64pow10", laid_internal_strconv_uint64pow10)], narrowed := true }
def TuneSameUptoSaid : Prop := tuneSameUptoRow.holds Tryd.pinned (OpenSpec.upto tuneSameSpec)

/-- 'scanfaillaw6.TuneLength', WHERE WHAT IT READS IS OF BULK AT MOST 1048576: true; the input reads as it did. -/
def tuneLengthUptoRow : OpenClaim := { program := "ytmcfoefhenmjeaadoor", sum := "86b5087e5d1dba9f42a890137456d4d1d5872a7e2cd61144820b60e7f9980eb5", func := "scanfail/scanfaillaw6.TuneLength", spec := "tuneLength", inPlace := ["internal/bytealg.IndexByteString"], unfollowed := true, recurses := true, named := ["math/bits.deBruijn64tab", "internal/strconv.uint64pow10", "math/bits.deBruijn32tab"], loops := true, apart := false, laid := [("math/bits.deBruijn32tab", laid_math_bits_deBruijn32tab), ("math/bits.deBruijn64tab", laid_math_bits_deBruijn64tab), ("internal/strconv.uint64pow10", laid_internal_strconv_uint64pow10)], narrowed := true }
def TuneLengthUptoSaid : Prop := tuneLengthUptoRow.holds Tryd.pinned (OpenSpec.upto tuneLengthSpec)

/-- 'scanfaillaw6.TuneFirst', WHERE WHAT IT READS IS OF BULK AT MOST 1048576: true; the input reads as it did. -/
def tuneFirstUptoRow : OpenClaim := { program := "ytmcfoefhenmjeaadoor", sum := "86b5087e5d1dba9f42a890137456d4d1d5872a7e2cd61144820b60e7f9980eb5", func := "scanfail/scanfaillaw6.TuneFirst", spec := "tuneFirst", inPlace := ["internal/bytealg.IndexByteString"], unfollowed := true, recurses := true, named := ["math/bits.deBruijn64tab", "internal/strconv.uint64pow10", "math/bits.deBruijn32tab"], loops := true, apart := false, laid := [("math/bits.deBruijn32tab", laid_math_bits_deBruijn32tab), ("math/bits.deBruijn64tab", laid_math_bits_deBruijn64tab), ("internal/strconv.uint64pow10", laid_internal_strconv_uint64pow10)], narrowed := true }
def TuneFirstUptoSaid : Prop := tuneFirstUptoRow.holds Tryd.pinned (OpenSpec.upto tuneFirstSpec)

end Rows
end Go.Proofs.YtmcfoefhenmjeaaDoor
