/-
  No cell of these rows narrows 'for every input' (looked for: loops, veiled, ifaces, maps, wideKeys, modest, calm, conditions, laid).
  DERIVED. THE GIVEN ROWS OF THIS SEAT. 9 by the template 'for every input the law returns true; each argument reads behind the call as it read before'; 0 by the template 'total and deterministic' (their statements: YtgkchdjogfdjaaaTotals.lean).
  GIVEN WITH THE SEED: the statements are not yours to turn. If you find one false, say at which input.
  Laid BY PROGRAM, IN A SANDBOX (cutbox-rows.mjs): the forced cells as the released guide's own fill.sh prints them over the translation 9e2a34a18174b083… (all of the seat's roots in one cut). By AI agents, Wed Nov 11 2026. No macro, syntax, notation, axiom, sorry.
-/
import Derived.Test.YtgkchdjogfdjaaaChecked
import GoSem.Claim
import GoSem.ClaimJoined
import GoSem.ClaimMapViews
import Derived.JoinedTies
import Derived.KernelRfl
namespace Go.Proofs.Ytgkchdjogfdjaaa
/- THE CELL 'sum', in the pinned program and in every row, IS THE sha256 OF THE DUMP (.gsa) THAT YtgkchdjogfdjaaaProg.lean LOADS. Nothing in Lean hashes anything: it is a label: what it is worth is what the hold of that sum in a sandbox is worth. -/
noncomputable def Try.pinned : Pinned := { name := "ytgkchdjogfdjaaa", sum := "9e2a34a18174b083f0c7ec7d7ae4d754655828e95c504fea5f784a417d85690b", checked := Try.checked }
namespace Rows
def none {H : Type} : Left H := { results := [], args := [] }

/-- 'scanfaillaw1.TextsTurned': WHATEVER THE INPUT: true; the input reads as it did. -/
def textsTurnedSpec : ChangeSpec := { name := "textsTurned", fn := fun _ => fun
  | [d1, d2] => { results := [.lit (.bool true)], args := [d1, d2] }
  | _ => none }
def textsTurnedRow : OpenClaim := { program := "ytgkchdjogfdjaaa", sum := "9e2a34a18174b083f0c7ec7d7ae4d754655828e95c504fea5f784a417d85690b", func := "scanfail/scanfaillaw1.TextsTurned", spec := "textsTurned", apart := false }
def TextsTurnedSaid : Prop := textsTurnedRow.holds Try.pinned (OpenSpec.ofChange textsTurnedSpec)

/-- ITS FALSE NEIGHBOUR: 'it returns false'. Refute it at one input. -/
def textsTurnedWrong : ChangeSpec := { name := "textsTurned", fn := fun _ => fun
  | [d1, d2] => { results := [.lit (.bool false)], args := [d1, d2] }
  | _ => none }
def TextsTurnedWrongFalsely : Prop := textsTurnedRow.holds Try.pinned (OpenSpec.ofChange textsTurnedWrong)

/-- 'scanfaillaw1.TextsCut': WHATEVER THE INPUT: true; the input reads as it did. -/
def textsCutSpec : ChangeSpec := { name := "textsCut", fn := fun _ => fun
  | [d1, d2, d3] => { results := [.lit (.bool true)], args := [d1, d2, d3] }
  | _ => none }
def textsCutRow : OpenClaim := { program := "ytgkchdjogfdjaaa", sum := "9e2a34a18174b083f0c7ec7d7ae4d754655828e95c504fea5f784a417d85690b", func := "scanfail/scanfaillaw1.TextsCut", spec := "textsCut", apart := false }
def TextsCutSaid : Prop := textsCutRow.holds Try.pinned (OpenSpec.ofChange textsCutSpec)

/-- ITS FALSE NEIGHBOUR: 'it returns false'. Refute it at one input. -/
def textsCutWrong : ChangeSpec := { name := "textsCut", fn := fun _ => fun
  | [d1, d2, d3] => { results := [.lit (.bool false)], args := [d1, d2, d3] }
  | _ => none }
def TextsCutWrongFalsely : Prop := textsCutRow.holds Try.pinned (OpenSpec.ofChange textsCutWrong)

/-- 'scanfaillaw1.TextsRound': WHATEVER THE INPUT: true; the input reads as it did. -/
def textsRoundSpec : ChangeSpec := { name := "textsRound", fn := fun _ => fun
  | [d1, d2, d3] => { results := [.lit (.bool true)], args := [d1, d2, d3] }
  | _ => none }
def textsRoundRow : OpenClaim := { program := "ytgkchdjogfdjaaa", sum := "9e2a34a18174b083f0c7ec7d7ae4d754655828e95c504fea5f784a417d85690b", func := "scanfail/scanfaillaw1.TextsRound", spec := "textsRound", apart := false }
def TextsRoundSaid : Prop := textsRoundRow.holds Try.pinned (OpenSpec.ofChange textsRoundSpec)

/-- ITS FALSE NEIGHBOUR: 'it returns false'. Refute it at one input. -/
def textsRoundWrong : ChangeSpec := { name := "textsRound", fn := fun _ => fun
  | [d1, d2, d3] => { results := [.lit (.bool false)], args := [d1, d2, d3] }
  | _ => none }
def TextsRoundWrongFalsely : Prop := textsRoundRow.holds Try.pinned (OpenSpec.ofChange textsRoundWrong)

/-- 'scanfaillaw1.TextsOrdered': WHATEVER THE INPUT: true; the input reads as it did. -/
def textsOrderedSpec : ChangeSpec := { name := "textsOrdered", fn := fun _ => fun
  | [d1, d2, d3] => { results := [.lit (.bool true)], args := [d1, d2, d3] }
  | _ => none }
def textsOrderedRow : OpenClaim := { program := "ytgkchdjogfdjaaa", sum := "9e2a34a18174b083f0c7ec7d7ae4d754655828e95c504fea5f784a417d85690b", func := "scanfail/scanfaillaw1.TextsOrdered", spec := "textsOrdered", inPlace := ["internal/bytealg.abigen_runtime_cmpstring"], apart := false }
def TextsOrderedSaid : Prop := textsOrderedRow.holds Try.pinned (OpenSpec.ofChange textsOrderedSpec)

/-- ITS FALSE NEIGHBOUR: 'it returns false'. Refute it at one input. -/
def textsOrderedWrong : ChangeSpec := { name := "textsOrdered", fn := fun _ => fun
  | [d1, d2, d3] => { results := [.lit (.bool false)], args := [d1, d2, d3] }
  | _ => none }
def TextsOrderedWrongFalsely : Prop := textsOrderedRow.holds Try.pinned (OpenSpec.ofChange textsOrderedWrong)

/-- 'scanfaillaw1.TextsReplaced': WHATEVER THE INPUT: true; the input reads as it did. -/
def textsReplacedSpec : ChangeSpec := { name := "textsReplaced", fn := fun _ => fun
  | [d1, d2, d3, d4] => { results := [.lit (.bool true)], args := [d1, d2, d3, d4] }
  | _ => none }
def textsReplacedRow : OpenClaim := { program := "ytgkchdjogfdjaaa", sum := "9e2a34a18174b083f0c7ec7d7ae4d754655828e95c504fea5f784a417d85690b", func := "scanfail/scanfaillaw1.TextsReplaced", spec := "textsReplaced", apart := false }
def TextsReplacedSaid : Prop := textsReplacedRow.holds Try.pinned (OpenSpec.ofChange textsReplacedSpec)

/-- ITS FALSE NEIGHBOUR: 'it returns false'. Refute it at one input. -/
def textsReplacedWrong : ChangeSpec := { name := "textsReplaced", fn := fun _ => fun
  | [d1, d2, d3, d4] => { results := [.lit (.bool false)], args := [d1, d2, d3, d4] }
  | _ => none }
def TextsReplacedWrongFalsely : Prop := textsReplacedRow.holds Try.pinned (OpenSpec.ofChange textsReplacedWrong)

/-- 'scanfaillaw1.TextsDoubled': WHATEVER THE INPUT: true; the input reads as it did. -/
def textsDoubledSpec : ChangeSpec := { name := "textsDoubled", fn := fun _ => fun
  | [d1, d2, d3] => { results := [.lit (.bool true)], args := [d1, d2, d3] }
  | _ => none }
def textsDoubledRow : OpenClaim := { program := "ytgkchdjogfdjaaa", sum := "9e2a34a18174b083f0c7ec7d7ae4d754655828e95c504fea5f784a417d85690b", func := "scanfail/scanfaillaw1.TextsDoubled", spec := "textsDoubled", inPlace := ["internal/abi.NoEscape", "internal/bytealg.MakeNoZero"], apart := false }
def TextsDoubledSaid : Prop := textsDoubledRow.holds Try.pinned (OpenSpec.ofChange textsDoubledSpec)

/-- ITS FALSE NEIGHBOUR: 'it returns false'. Refute it at one input. -/
def textsDoubledWrong : ChangeSpec := { name := "textsDoubled", fn := fun _ => fun
  | [d1, d2, d3] => { results := [.lit (.bool false)], args := [d1, d2, d3] }
  | _ => none }
def TextsDoubledWrongFalsely : Prop := textsDoubledRow.holds Try.pinned (OpenSpec.ofChange textsDoubledWrong)

/-- 'scanfaillaw1.TextsPadded': WHATEVER THE INPUT: true; the input reads as it did. -/
def textsPaddedSpec : ChangeSpec := { name := "textsPadded", fn := fun _ => fun
  | [d1, d2, d3] => { results := [.lit (.bool true)], args := [d1, d2, d3] }
  | _ => none }
def textsPaddedRow : OpenClaim := { program := "ytgkchdjogfdjaaa", sum := "9e2a34a18174b083f0c7ec7d7ae4d754655828e95c504fea5f784a417d85690b", func := "scanfail/scanfaillaw1.TextsPadded", spec := "textsPadded", inPlace := ["internal/abi.NoEscape", "internal/bytealg.MakeNoZero"], apart := false }
def TextsPaddedSaid : Prop := textsPaddedRow.holds Try.pinned (OpenSpec.ofChange textsPaddedSpec)

/-- ITS FALSE NEIGHBOUR: 'it returns false'. Refute it at one input. -/
def textsPaddedWrong : ChangeSpec := { name := "textsPadded", fn := fun _ => fun
  | [d1, d2, d3] => { results := [.lit (.bool false)], args := [d1, d2, d3] }
  | _ => none }
def TextsPaddedWrongFalsely : Prop := textsPaddedRow.holds Try.pinned (OpenSpec.ofChange textsPaddedWrong)

/-- 'scanfaillaw1.TextsCounted': WHATEVER THE INPUT: true; the input reads as it did. -/
def textsCountedSpec : ChangeSpec := { name := "textsCounted", fn := fun _ => fun
  | [d1, d2, d3] => { results := [.lit (.bool true)], args := [d1, d2, d3] }
  | _ => none }
def textsCountedRow : OpenClaim := { program := "ytgkchdjogfdjaaa", sum := "9e2a34a18174b083f0c7ec7d7ae4d754655828e95c504fea5f784a417d85690b", func := "scanfail/scanfaillaw1.TextsCounted", spec := "textsCounted", inPlace := ["internal/bytealg.Count", "internal/bytealg.IndexByte", "internal/bytealg.Index"], named := ["internal/bytealg.MaxLen"], apart := false }
def TextsCountedSaid : Prop := textsCountedRow.holds Try.pinned (OpenSpec.ofChange textsCountedSpec)

/-- ITS FALSE NEIGHBOUR: 'it returns false'. Refute it at one input. -/
def textsCountedWrong : ChangeSpec := { name := "textsCounted", fn := fun _ => fun
  | [d1, d2, d3] => { results := [.lit (.bool false)], args := [d1, d2, d3] }
  | _ => none }
def TextsCountedWrongFalsely : Prop := textsCountedRow.holds Try.pinned (OpenSpec.ofChange textsCountedWrong)

/-- 'scanfaillaw1.TextsMake': WHATEVER THE INPUT: true; the input reads as it did. -/
def textsMakeSpec : ChangeSpec := { name := "textsMake", fn := fun _ => fun
  | [d1, d2, d3, d4, d5] => { results := [.lit (.bool true)], args := [d1, d2, d3, d4, d5] }
  | _ => none }
def textsMakeRow : OpenClaim := { program := "ytgkchdjogfdjaaa", sum := "9e2a34a18174b083f0c7ec7d7ae4d754655828e95c504fea5f784a417d85690b", func := "scanfail/scanfaillaw1.TextsMake", spec := "textsMake", inPlace := ["internal/abi.NoEscape", "internal/bytealg.MakeNoZero"], apart := false }
def TextsMakeSaid : Prop := textsMakeRow.holds Try.pinned (OpenSpec.ofChange textsMakeSpec)

/-- ITS FALSE NEIGHBOUR: 'it returns false'. Refute it at one input. -/
def textsMakeWrong : ChangeSpec := { name := "textsMake", fn := fun _ => fun
  | [d1, d2, d3, d4, d5] => { results := [.lit (.bool false)], args := [d1, d2, d3, d4, d5] }
  | _ => none }
def TextsMakeWrongFalsely : Prop := textsMakeRow.holds Try.pinned (OpenSpec.ofChange textsMakeWrong)

/- THE SECOND FORM. 'bulk': how many values and letters a reading holds, each counted each time it is reached (what is shared counts as often as it is met; a slice's spare places count too). A statement '..UptoSaid' is the law's where the arguments, and the package variables that the reading takes, are together of bulk at most 1048576: NARROWER than '..Said'. Prove '..Said' where nothing that the law and all that it calls make is longer than what came in: it says more and counts as full. Else prove '..UptoSaid'. A law counts once. -/
mutual
def uptoBulk {H : Type} : DataW H → Nat
  | .lit (.string bytes) => bytes.length + 1
  | .lit _ => 1
  | .nil => 1
  | .ptr d => uptoBulk d + 1
  | .slice elems spare => uptoBulkAll elems + uptoBulkAll spare + 1
  | .agg parts => uptoBulkAll parts + 1
  | .iface _ d => uptoBulk d + 1
  | .map entries => uptoBulkEntries entries + 1
  | .held _ => 1
def uptoBulkAll {H : Type} : List (DataW H) → Nat
  | [] => 0
  | d :: r => uptoBulk d + uptoBulkAll r
def uptoBulkEntries {H : Type} : List (Lit × DataW H) → Nat
  | [] => 0
  | x :: r => uptoBulkEntry x + uptoBulkEntries r
def uptoBulkEntry {H : Type} : Lit × DataW H → Nat
  | (.string bytes, d) => bytes.length + uptoBulk d + 1
  | (_, d) => uptoBulk d + 1
 end
def uptoSmall : (H : Type) → List (DataW H) → Bool := fun _ ds => decide (uptoBulkAll ds ≤ 1048576)
def OpenSpec.upto (s : _root_.Go.ChangeSpec) : _root_.Go.OpenSpec := { _root_.Go.OpenSpec.ofChange s with cond := some uptoSmall }

/-- 'scanfaillaw1.TextsTurned', WHERE WHAT IT READS IS OF BULK AT MOST 1048576: true; the input reads as it did. -/
def textsTurnedUptoRow : OpenClaim := { program := "ytgkchdjogfdjaaa", sum := "9e2a34a18174b083f0c7ec7d7ae4d754655828e95c504fea5f784a417d85690b", func := "scanfail/scanfaillaw1.TextsTurned", spec := "textsTurned", apart := false, narrowed := true }
def TextsTurnedUptoSaid : Prop := textsTurnedUptoRow.holds Try.pinned (OpenSpec.upto textsTurnedSpec)

/-- 'scanfaillaw1.TextsCut', WHERE WHAT IT READS IS OF BULK AT MOST 1048576: true; the input reads as it did. -/
def textsCutUptoRow : OpenClaim := { program := "ytgkchdjogfdjaaa", sum := "9e2a34a18174b083f0c7ec7d7ae4d754655828e95c504fea5f784a417d85690b", func := "scanfail/scanfaillaw1.TextsCut", spec := "textsCut", apart := false, narrowed := true }
def TextsCutUptoSaid : Prop := textsCutUptoRow.holds Try.pinned (OpenSpec.upto textsCutSpec)

/-- 'scanfaillaw1.TextsRound', WHERE WHAT IT READS IS OF BULK AT MOST 1048576: true; the input reads as it did. -/
def textsRoundUptoRow : OpenClaim := { program := "ytgkchdjogfdjaaa", sum := "9e2a34a18174b083f0c7ec7d7ae4d754655828e95c504fea5f784a417d85690b", func := "scanfail/scanfaillaw1.TextsRound", spec := "textsRound", apart := false, narrowed := true }
def TextsRoundUptoSaid : Prop := textsRoundUptoRow.holds Try.pinned (OpenSpec.upto textsRoundSpec)

/-- 'scanfaillaw1.TextsOrdered', WHERE WHAT IT READS IS OF BULK AT MOST 1048576: true; the input reads as it did. -/
def textsOrderedUptoRow : OpenClaim := { program := "ytgkchdjogfdjaaa", sum := "9e2a34a18174b083f0c7ec7d7ae4d754655828e95c504fea5f784a417d85690b", func := "scanfail/scanfaillaw1.TextsOrdered", spec := "textsOrdered", inPlace := ["internal/bytealg.abigen_runtime_cmpstring"], apart := false, narrowed := true }
def TextsOrderedUptoSaid : Prop := textsOrderedUptoRow.holds Try.pinned (OpenSpec.upto textsOrderedSpec)

/-- 'scanfaillaw1.TextsReplaced', WHERE WHAT IT READS IS OF BULK AT MOST 1048576: true; the input reads as it did. -/
def textsReplacedUptoRow : OpenClaim := { program := "ytgkchdjogfdjaaa", sum := "9e2a34a18174b083f0c7ec7d7ae4d754655828e95c504fea5f784a417d85690b", func := "scanfail/scanfaillaw1.TextsReplaced", spec := "textsReplaced", apart := false, narrowed := true }
def TextsReplacedUptoSaid : Prop := textsReplacedUptoRow.holds Try.pinned (OpenSpec.upto textsReplacedSpec)

/-- 'scanfaillaw1.TextsDoubled', WHERE WHAT IT READS IS OF BULK AT MOST 1048576: true; the input reads as it did. -/
def textsDoubledUptoRow : OpenClaim := { program := "ytgkchdjogfdjaaa", sum := "9e2a34a18174b083f0c7ec7d7ae4d754655828e95c504fea5f784a417d85690b", func := "scanfail/scanfaillaw1.TextsDoubled", spec := "textsDoubled", inPlace := ["internal/abi.NoEscape", "internal/bytealg.MakeNoZero"], apart := false, narrowed := true }
def TextsDoubledUptoSaid : Prop := textsDoubledUptoRow.holds Try.pinned (OpenSpec.upto textsDoubledSpec)

/-- 'scanfaillaw1.TextsPadded', WHERE WHAT IT READS IS OF BULK AT MOST 1048576: true; the input reads as it did. -/
def textsPaddedUptoRow : OpenClaim := { program := "ytgkchdjogfdjaaa", sum := "9e2a34a18174b083f0c7ec7d7ae4d754655828e95c504fea5f784a417d85690b", func := "scanfail/scanfaillaw1.TextsPadded", spec := "textsPadded", inPlace := ["internal/abi.NoEscape", "internal/bytealg.MakeNoZero"], apart := false, narrowed := true }
def TextsPaddedUptoSaid : Prop := textsPaddedUptoRow.holds Try.pinned (OpenSpec.upto textsPaddedSpec)

/-- 'scanfaillaw1.TextsCounted', WHERE WHAT IT READS IS OF BULK AT MOST 1048576: true; the input reads as it did. -/
def textsCountedUptoRow : OpenClaim := { program := "ytgkchdjogfdjaaa", sum := "9e2a34a18174b083f0c7ec7d7ae4d754655828e95c504fea5f784a417d85690b", func := "scanfail/scanfaillaw1.TextsCounted", spec := "textsCounted", inPlace := ["internal/bytealg.Count", "internal/bytealg.IndexByte", "internal/bytealg.Index"], named := ["internal/bytealg.MaxLen"], apart := false, narrowed := true }
def TextsCountedUptoSaid : Prop := textsCountedUptoRow.holds Try.pinned (OpenSpec.upto textsCountedSpec)

/-- 'scanfaillaw1.TextsMake', WHERE WHAT IT READS IS OF BULK AT MOST 1048576: true; the input reads as it did. -/
def textsMakeUptoRow : OpenClaim := { program := "ytgkchdjogfdjaaa", sum := "9e2a34a18174b083f0c7ec7d7ae4d754655828e95c504fea5f784a417d85690b", func := "scanfail/scanfaillaw1.TextsMake", spec := "textsMake", inPlace := ["internal/abi.NoEscape", "internal/bytealg.MakeNoZero"], apart := false, narrowed := true }
def TextsMakeUptoSaid : Prop := textsMakeUptoRow.holds Try.pinned (OpenSpec.upto textsMakeSpec)

end Rows
end Go.Proofs.Ytgkchdjogfdjaaa
