/-
  NARROWER THAN 'FOR EVERY INPUT', by the rows' own cells (each row's printed sentence says how): ScanBal: laid · ScanFence: loops, laid · ScanGifts: loops, laid · ScanCalls: loops, laid · ScanMoved: loops, laid · ScanLonger: loops, laid.
  DERIVED. THE GIVEN ROWS OF THIS SEAT. 6 by the template 'for every input the law returns true; each argument reads behind the call as it read before'; 0 by the template 'total and deterministic' (their statements: YtmkldfjcpmoajabDoorTotals.lean).
  GIVEN WITH THE SEED: the statements are not yours to turn. If you find one false, say at which input.
  Laid BY PROGRAM, IN A SANDBOX (cutbox-rows.mjs): the forced cells as the released guide's own fill.sh prints them over the translation 9f6b91326d90e4e5… (all of the seat's roots in one cut). By AI agents, Wed Nov 11 2026. No macro, syntax, notation, axiom, sorry.
-/
import Derived.Test.YtmkldfjcpmoajabDoorChecked
import GoSem.Claim
import GoSem.ClaimJoined
import GoSem.ClaimMapViews
import Derived.JoinedTies
import Derived.KernelRfl
namespace Go.Proofs.YtmkldfjcpmoajabDoor
/- THE CELL 'sum', in the pinned program and in every row, IS THE sha256 OF THE DUMP (.gsa) THAT YtmkldfjcpmoajabDoorProg.lean LOADS. Nothing in Lean hashes anything: it is a label: what it is worth is what the hold of that sum in a sandbox is worth. -/
noncomputable def Tryd.pinned : Pinned := { name := "ytmkldfjcpmoajabdoor", sum := "9f6b91326d90e4e5649b6d2f6a24684097f6b08641d62a935ccfe58dbef222c6", checked := Tryd.checked }
namespace Rows
def none {H : Type} : Left H := { results := [], args := [] }

/- WHAT THE LISTED PACKAGE-LEVEL VARIABLES READ AS WHEN THE CALL BEGINS. Each datum BY PROGRAM (the guide's laid-datum.mjs) off the statement by which the dump's own 'gosem.cut.vars' lays the variable. In a bare row this is a premise. The card (YtmkldfjcpmoajabDoorCards.lean) ties it to the program's text. -/
def laid_math_bits_deBruijn32tab {H : Type} : DataW H := .agg [.lit (.int .u8 0), .lit (.int .u8 1), .lit (.int .u8 28), .lit (.int .u8 2), .lit (.int .u8 29), .lit (.int .u8 14), .lit (.int .u8 24), .lit (.int .u8 3), .lit (.int .u8 30), .lit (.int .u8 22), .lit (.int .u8 20), .lit (.int .u8 15), .lit (.int .u8 25), .lit (.int .u8 17), .lit (.int .u8 4), .lit (.int .u8 8), .lit (.int .u8 31), .lit (.int .u8 27), .lit (.int .u8 13), .lit (.int .u8 23), .lit (.int .u8 21), .lit (.int .u8 19), .lit (.int .u8 16), .lit (.int .u8 7), .lit (.int .u8 26), .lit (.int .u8 12), .lit (.int .u8 18), .lit (.int .u8 6), .lit (.int .u8 11), .lit (.int .u8 5), .lit (.int .u8 10), .lit (.int .u8 9)]
def laid_math_bits_deBruijn64tab {H : Type} : DataW H := .agg [.lit (.int .u8 0), .lit (.int .u8 1), .lit (.int .u8 56), .lit (.int .u8 2), .lit (.int .u8 57), .lit (.int .u8 49), .lit (.int .u8 28), .lit (.int .u8 3), .lit (.int .u8 61), .lit (.int .u8 58), .lit (.int .u8 42), .lit (.int .u8 50), .lit (.int .u8 38), .lit (.int .u8 29), .lit (.int .u8 17), .lit (.int .u8 4), .lit (.int .u8 62), .lit (.int .u8 47), .lit (.int .u8 59), .lit (.int .u8 36), .lit (.int .u8 45), .lit (.int .u8 43), .lit (.int .u8 51), .lit (.int .u8 22), .lit (.int .u8 53), .lit (.int .u8 39), .lit (.int .u8 33), .lit (.int .u8 30), .lit (.int .u8 24), .lit (.int .u8 18), .lit (.int .u8 12), .lit (.int .u8 5), .lit (.int .u8 63), .lit (.int .u8 55), .lit (.int .u8 48), .lit (.int .u8 27), .lit (.int .u8 60), .lit (.int .u8 41), .lit (.int .u8 37), .lit (.int .u8 16), .lit (.int .u8 46), .lit (.int .u8 35), .lit (.int .u8 44), .lit (.int .u8 21), .lit (.int .u8 52), .lit (.int .u8 32), .lit (.int .u8 23), .lit (.int .u8 11), .lit (.int .u8 54), .lit (.int .u8 26), .lit (.int .u8 40), .lit (.int .u8 15), .lit (.int .u8 34), .lit (.int .u8 20), .lit (.int .u8 31), .lit (.int .u8 10), .lit (.int .u8 25), .lit (.int .u8 14), .lit (.int .u8 19), .lit (.int .u8 9), .lit (.int .u8 13), .lit (.int .u8 8), .lit (.int .u8 7), .lit (.int .u8 6)]
def laid_internal_strconv_uint64pow10 {H : Type} : DataW H := .agg [.lit (.int .u64 1), .lit (.int .u64 10), .lit (.int .u64 100), .lit (.int .u64 1000), .lit (.int .u64 10000), .lit (.int .u64 100000), .lit (.int .u64 1000000), .lit (.int .u64 10000000), .lit (.int .u64 100000000), .lit (.int .u64 1000000000), .lit (.int .u64 10000000000), .lit (.int .u64 100000000000), .lit (.int .u64 1000000000000), .lit (.int .u64 10000000000000), .lit (.int .u64 100000000000000), .lit (.int .u64 1000000000000000), .lit (.int .u64 10000000000000000), .lit (.int .u64 100000000000000000), .lit (.int .u64 1000000000000000000), .lit (.int .u64 10000000000000000000)]

/-- 'scanfaillaw5.ScanBal': WHATEVER THE INPUT: true; the input reads as it did. -/
def scanBalSpec : ChangeSpec := { name := "scanBal", fn := fun _ => fun
  | [d1, d2] => { results := [.lit (.bool true)], args := [d1, d2] }
  | _ => none }
def scanBalRow : OpenClaim := { program := "ytmkldfjcpmoajabdoor", sum := "9f6b91326d90e4e5649b6d2f6a24684097f6b08641d62a935ccfe58dbef222c6", func := "scanfail/scanfaillaw5.ScanBal", spec := "scanBal", inPlace := ["internal/bytealg.IndexByteString"], unfollowed := true, recurses := true, named := ["internal/strconv.uint64pow10", "math/bits.deBruijn32tab", "math/bits.deBruijn64tab"], apart := false, laid := [("math/bits.deBruijn32tab", laid_math_bits_deBruijn32tab), ("math/bits.deBruijn64tab", laid_math_bits_deBruijn64tab), ("internal/strconv.uint64pow10", laid_internal_strconv_uint64pow10)] }
def ScanBalSaid : Prop := scanBalRow.holds Tryd.pinned (OpenSpec.ofChange scanBalSpec)

/-- ITS FALSE NEIGHBOUR: 'it returns false'. Refute it at one input. -/
def scanBalWrong : ChangeSpec := { name := "scanBal", fn := fun _ => fun
  | [d1, d2] => { results := [.lit (.bool false)], args := [d1, d2] }
  | _ => none }
def ScanBalWrongFalsely : Prop := scanBalRow.holds Tryd.pinned (OpenSpec.ofChange scanBalWrong)

/-- 'scanfaillaw5.ScanFence': WHATEVER THE INPUT: true; the input reads as it did. -/
def scanFenceSpec : ChangeSpec := { name := "scanFence", fn := fun _ => fun
  | [d1, d2, d3, d4, d5] => { results := [.lit (.bool true)], args := [d1, d2, d3, d4, d5] }
  | _ => none }
def scanFenceRow : OpenClaim := { program := "ytmkldfjcpmoajabdoor", sum := "9f6b91326d90e4e5649b6d2f6a24684097f6b08641d62a935ccfe58dbef222c6", func := "scanfail/scanfaillaw5.ScanFence", spec := "scanFence", inPlace := ["internal/bytealg.IndexByteString"], unfollowed := true, recurses := true, named := ["internal/strconv.uint64pow10", "math/bits.deBruijn32tab", "math/bits.deBruijn64tab"], loops := true, apart := false, laid := [("math/bits.deBruijn32tab", laid_math_bits_deBruijn32tab), ("math/bits.deBruijn64tab", laid_math_bits_deBruijn64tab), ("internal/strconv.uint64pow10", laid_internal_strconv_uint64pow10)] }
def ScanFenceSaid : Prop := scanFenceRow.holds Tryd.pinned (OpenSpec.ofChange scanFenceSpec)

/-- ITS FALSE NEIGHBOUR: 'it returns false'. Refute it at one input. -/
def scanFenceWrong : ChangeSpec := { name := "scanFence", fn := fun _ => fun
  | [d1, d2, d3, d4, d5] => { results := [.lit (.bool false)], args := [d1, d2, d3, d4, d5] }
  | _ => none }
def ScanFenceWrongFalsely : Prop := scanFenceRow.holds Tryd.pinned (OpenSpec.ofChange scanFenceWrong)

/-- 'scanfaillaw5.ScanGifts': WHATEVER THE INPUT: true; the input reads as it did. -/
def scanGiftsSpec : ChangeSpec := { name := "scanGifts", fn := fun _ => fun
  | [d1, d2, d3, d4] => { results := [.lit (.bool true)], args := [d1, d2, d3, d4] }
  | _ => none }
def scanGiftsRow : OpenClaim := { program := "ytmkldfjcpmoajabdoor", sum := "9f6b91326d90e4e5649b6d2f6a24684097f6b08641d62a935ccfe58dbef222c6", func := "scanfail/scanfaillaw5.ScanGifts", spec := "scanGifts", inPlace := ["internal/bytealg.IndexByteString"], unfollowed := true, recurses := true, named := ["internal/strconv.uint64pow10", "math/bits.deBruijn32tab", "math/bits.deBruijn64tab"], loops := true, apart := false, laid := [("math/bits.deBruijn32tab", laid_math_bits_deBruijn32tab), ("math/bits.deBruijn64tab", laid_math_bits_deBruijn64tab), ("internal/strconv.uint64pow10", laid_internal_strconv_uint64pow10)] }
def ScanGiftsSaid : Prop := scanGiftsRow.holds Tryd.pinned (OpenSpec.ofChange scanGiftsSpec)

/-- ITS FALSE NEIGHBOUR: 'it returns false'. Refute it at one input. -/
def scanGiftsWrong : ChangeSpec := { name := "scanGifts", fn := fun _ => fun
  | [d1, d2, d3, d4] => { results := [.lit (.bool false)], args := [d1, d2, d3, d4] }
  | _ => none }
def ScanGiftsWrongFalsely : Prop := scanGiftsRow.holds Tryd.pinned (OpenSpec.ofChange scanGiftsWrong)

/-- 'scanfaillaw5.ScanCalls': WHATEVER THE INPUT: true; the input reads as it did. -/
def scanCallsSpec : ChangeSpec := { name := "scanCalls", fn := fun _ => fun
  | [d1, d2, d3, d4] => { results := [.lit (.bool true)], args := [d1, d2, d3, d4] }
  | _ => none }
def scanCallsRow : OpenClaim := { program := "ytmkldfjcpmoajabdoor", sum := "9f6b91326d90e4e5649b6d2f6a24684097f6b08641d62a935ccfe58dbef222c6", func := "scanfail/scanfaillaw5.ScanCalls", spec := "scanCalls", inPlace := ["internal/bytealg.IndexByteString"], unfollowed := true, recurses := true, named := ["internal/strconv.uint64pow10", "math/bits.deBruijn32tab", "math/bits.deBruijn64tab"], loops := true, apart := false, laid := [("math/bits.deBruijn32tab", laid_math_bits_deBruijn32tab), ("math/bits.deBruijn64tab", laid_math_bits_deBruijn64tab), ("internal/strconv.uint64pow10", laid_internal_strconv_uint64pow10)] }
def ScanCallsSaid : Prop := scanCallsRow.holds Tryd.pinned (OpenSpec.ofChange scanCallsSpec)

/-- ITS FALSE NEIGHBOUR: 'it returns false'. Refute it at one input. -/
def scanCallsWrong : ChangeSpec := { name := "scanCalls", fn := fun _ => fun
  | [d1, d2, d3, d4] => { results := [.lit (.bool false)], args := [d1, d2, d3, d4] }
  | _ => none }
def ScanCallsWrongFalsely : Prop := scanCallsRow.holds Tryd.pinned (OpenSpec.ofChange scanCallsWrong)

/-- 'scanfaillaw5.ScanMoved': WHATEVER THE INPUT: true; the input reads as it did. -/
def scanMovedSpec : ChangeSpec := { name := "scanMoved", fn := fun _ => fun
  | [d1, d2, d3] => { results := [.lit (.bool true)], args := [d1, d2, d3] }
  | _ => none }
def scanMovedRow : OpenClaim := { program := "ytmkldfjcpmoajabdoor", sum := "9f6b91326d90e4e5649b6d2f6a24684097f6b08641d62a935ccfe58dbef222c6", func := "scanfail/scanfaillaw5.ScanMoved", spec := "scanMoved", inPlace := ["internal/bytealg.IndexByteString"], unfollowed := true, recurses := true, named := ["internal/strconv.uint64pow10", "math/bits.deBruijn32tab", "math/bits.deBruijn64tab"], loops := true, apart := false, laid := [("math/bits.deBruijn32tab", laid_math_bits_deBruijn32tab), ("math/bits.deBruijn64tab", laid_math_bits_deBruijn64tab), ("internal/strconv.uint64pow10", laid_internal_strconv_uint64pow10)] }
def ScanMovedSaid : Prop := scanMovedRow.holds Tryd.pinned (OpenSpec.ofChange scanMovedSpec)

/-- ITS FALSE NEIGHBOUR: 'it returns false'. Refute it at one input. -/
def scanMovedWrong : ChangeSpec := { name := "scanMoved", fn := fun _ => fun
  | [d1, d2, d3] => { results := [.lit (.bool false)], args := [d1, d2, d3] }
  | _ => none }
def ScanMovedWrongFalsely : Prop := scanMovedRow.holds Tryd.pinned (OpenSpec.ofChange scanMovedWrong)

/-- 'scanfaillaw5.ScanLonger': WHATEVER THE INPUT: true; the input reads as it did. -/
def scanLongerSpec : ChangeSpec := { name := "scanLonger", fn := fun _ => fun
  | [d1, d2, d3, d4, d5, d6] => { results := [.lit (.bool true)], args := [d1, d2, d3, d4, d5, d6] }
  | _ => none }
def scanLongerRow : OpenClaim := { program := "ytmkldfjcpmoajabdoor", sum := "9f6b91326d90e4e5649b6d2f6a24684097f6b08641d62a935ccfe58dbef222c6", func := "scanfail/scanfaillaw5.ScanLonger", spec := "scanLonger", inPlace := ["internal/bytealg.IndexByteString"], unfollowed := true, recurses := true, named := ["internal/strconv.uint64pow10", "math/bits.deBruijn32tab", "math/bits.deBruijn64tab"], loops := true, apart := false, laid := [("math/bits.deBruijn32tab", laid_math_bits_deBruijn32tab), ("math/bits.deBruijn64tab", laid_math_bits_deBruijn64tab), ("internal/strconv.uint64pow10", laid_internal_strconv_uint64pow10)] }
def ScanLongerSaid : Prop := scanLongerRow.holds Tryd.pinned (OpenSpec.ofChange scanLongerSpec)

/-- ITS FALSE NEIGHBOUR: 'it returns false'. Refute it at one input. -/
def scanLongerWrong : ChangeSpec := { name := "scanLonger", fn := fun _ => fun
  | [d1, d2, d3, d4, d5, d6] => { results := [.lit (.bool false)], args := [d1, d2, d3, d4, d5, d6] }
  | _ => none }
def ScanLongerWrongFalsely : Prop := scanLongerRow.holds Tryd.pinned (OpenSpec.ofChange scanLongerWrong)

/- THE SECOND FORM. 'bulk': how many values and letters a reading holds, each counted each time it is reached (what is shared counts as often as it is met; a slice's spare places count too). A statement '..UptoSaid' is the law's where the arguments, and the package variables that the reading takes, are together of bulk at most 1048576: NARROWER than '..Said'. Prove '..Said' where nothing that the law and all that it calls make is longer than what came in: it says more and counts as full. Else prove '..UptoSaid'. A law counts once. -/
mutual
def uptoBulk {H : Type} : DataW H → Nat
  | .lit (.string bytes) => bytes.length + 1
  | .lit _ => 1
  | .nil => 1
  | .ptr d => uptoBulk d + 1
  | .slice elems spare => uptoBulkAll elems + uptoBulkAll spare + 1
  | .agg parts => uptoBulkAll parts + 1
  | .iface _ d => uptoBulk d + 1
  | .map entries => uptoBulkEntries entries + 1
  | .held _ => 1
def uptoBulkAll {H : Type} : List (DataW H) → Nat
  | [] => 0
  | d :: r => uptoBulk d + uptoBulkAll r
def uptoBulkEntries {H : Type} : List (Lit × DataW H) → Nat
  | [] => 0
  | x :: r => uptoBulkEntry x + uptoBulkEntries r
def uptoBulkEntry {H : Type} : Lit × DataW H → Nat
  | (.string bytes, d) => bytes.length + uptoBulk d + 1
  | (_, d) => uptoBulk d + 1
 end
def uptoSmall : (H : Type) → List (DataW H) → Bool := fun _ ds => decide (uptoBulkAll ds ≤ 1048576)
def OpenSpec.upto (s : _root_.Go.ChangeSpec) : _root_.Go.OpenSpec := { _root_.Go.OpenSpec.ofChange s with cond := some uptoSmall }

/-- 'scanfaillaw5.ScanBal', WHERE WHAT IT READS IS OF BULK AT MOST 1048576: true; the input reads as it did. -/
def scanBalUptoRow : OpenClaim := { program := "ytmkldfjcpmoajabdoor", sum := "9f6b91326d90e4e5649b6d2f6a24684097f6b08641d62a935ccfe58dbef222c6", func := "scanfail/scanfaillaw5.ScanBal", spec := "scanBal", inPlace := ["internal/bytealg.IndexByteString"], unfollowed := true, recurses := true, named := ["internal/strconv.uint64pow10", "math/bits.deBruijn32tab", "math/bits.deBruijn64tab"], apart := false, laid := [("math/bits.deBruijn32tab", laid_math_bits_deBruijn32tab), ("math/bits.deBruijn64tab", laid_math_bits_deBruijn64tab), ("internal/strconv.uint64pow10", laid_internal_strconv_uint64pow10)], narrowed := true }
def ScanBalUptoSaid : Prop := scanBalUptoRow.holds Tryd.pinned (OpenSpec.upto scanBalSpec)

/-- 'scanfaillaw5.ScanFence', WHERE WHAT IT READS IS OF BULK AT MOST 1048576: true; the input reads as it did. -/
def scanFenceUptoRow : OpenClaim := { program := "ytmkldfjcpmoajabdoor", sum := "9f6b91326d90e4e5649b6d2f6a24684097f6b08641d62a935ccfe58dbef222c6", func := "scanfail/scanfaillaw5.ScanFence", spec := "scanFence", inPlace := ["internal/bytealg.IndexByteString"], unfollowed := true, recurses := true, named := ["internal/strconv.uint64pow10", "math/bits.deBruijn32tab", "math/bits.deBruijn64tab"], loops := true, apart := false, laid := [("math/bits.deBruijn32tab", laid_math_bits_deBruijn32tab), ("math/bits.deBruijn64tab", laid_math_bits_deBruijn64tab), ("internal/strconv.uint64pow10", laid_internal_strconv_uint64pow10)], narrowed := true }
def ScanFenceUptoSaid : Prop := scanFenceUptoRow.holds Tryd.pinned (OpenSpec.upto scanFenceSpec)

/-- 'scanfaillaw5.ScanGifts', WHERE WHAT IT READS IS OF BULK AT MOST 1048576: true; the input reads as it did. -/
def scanGiftsUptoRow : OpenClaim := { program := "ytmkldfjcpmoajabdoor", sum := "9f6b91326d90e4e5649b6d2f6a24684097f6b08641d62a935ccfe58dbef222c6", func := "scanfail/scanfaillaw5.ScanGifts", spec := "scanGifts", inPlace := ["internal/bytealg.IndexByteString"], unfollowed := true, recurses := true, named := ["internal/strconv.uint64pow10", "math/bits.deBruijn32tab", "math/bits.deBruijn64tab"], loops := true, apart := false, laid := [("math/bits.deBruijn32tab", laid_math_bits_deBruijn32tab), ("math/bits.deBruijn64tab", laid_math_bits_deBruijn64tab), ("internal/strconv.uint64pow10", laid_internal_strconv_uint64pow10)], narrowed := true }
def ScanGiftsUptoSaid : Prop := scanGiftsUptoRow.holds Tryd.pinned (OpenSpec.upto scanGiftsSpec)

/-- 'scanfaillaw5.ScanCalls', WHERE WHAT IT READS IS OF BULK AT MOST 1048576: true; the input reads as it did. -/
def scanCallsUptoRow : OpenClaim := { program := "ytmkldfjcpmoajabdoor", sum := "9f6b91326d90e4e5649b6d2f6a24684097f6b08641d62a935ccfe58dbef222c6", func := "scanfail/scanfaillaw5.ScanCalls", spec := "scanCalls", inPlace := ["internal/bytealg.IndexByteString"], unfollowed := true, recurses := true, named := ["internal/strconv.uint64pow10", "math/bits.deBruijn32tab", "math/bits.deBruijn64tab"], loops := true, apart := false, laid := [("math/bits.deBruijn32tab", laid_math_bits_deBruijn32tab), ("math/bits.deBruijn64tab", laid_math_bits_deBruijn64tab), ("internal/strconv.uint64pow10", laid_internal_strconv_uint64pow10)], narrowed := true }
def ScanCallsUptoSaid : Prop := scanCallsUptoRow.holds Tryd.pinned (OpenSpec.upto scanCallsSpec)

/-- 'scanfaillaw5.ScanMoved', WHERE WHAT IT READS IS OF BULK AT MOST 1048576: true; the input reads as it did. -/
def scanMovedUptoRow : OpenClaim := { program := "ytmkldfjcpmoajabdoor", sum := "9f6b91326d90e4e5649b6d2f6a24684097f6b08641d62a935ccfe58dbef222c6", func := "scanfail/scanfaillaw5.ScanMoved", spec := "scanMoved", inPlace := ["internal/bytealg.IndexByteString"], unfollowed := true, recurses := true, named := ["internal/strconv.uint64pow10", "math/bits.deBruijn32tab", "math/bits.deBruijn64tab"], loops := true, apart := false, laid := [("math/bits.deBruijn32tab", laid_math_bits_deBruijn32tab), ("math/bits.deBruijn64tab", laid_math_bits_deBruijn64tab), ("internal/strconv.uint64pow10", laid_internal_strconv_uint64pow10)], narrowed := true }
def ScanMovedUptoSaid : Prop := scanMovedUptoRow.holds Tryd.pinned (OpenSpec.upto scanMovedSpec)

/-- 'scanfaillaw5.ScanLonger', WHERE WHAT IT READS IS OF BULK AT MOST 1048576: true; the input reads as it did. -/
def scanLongerUptoRow : OpenClaim := { program := "ytmkldfjcpmoajabdoor", sum := "9f6b91326d90e4e5649b6d2f6a24684097f6b08641d62a935ccfe58dbef222c6", func := "scanfail/scanfaillaw5.ScanLonger", spec := "scanLonger", inPlace := ["internal/bytealg.IndexByteString"], unfollowed := true, recurses := true, named := ["internal/strconv.uint64pow10", "math/bits.deBruijn32tab", "math/bits.deBruijn64tab"], loops := true, apart := false, laid := [("math/bits.deBruijn32tab", laid_math_bits_deBruijn32tab), ("math/bits.deBruijn64tab", laid_math_bits_deBruijn64tab), ("internal/strconv.uint64pow10", laid_internal_strconv_uint64pow10)], narrowed := true }
def ScanLongerUptoSaid : Prop := scanLongerUptoRow.holds Tryd.pinned (OpenSpec.upto scanLongerSpec)

end Rows
end Go.Proofs.YtmkldfjcpmoajabDoor
