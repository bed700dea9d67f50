/-
  No cell of these rows narrows 'for every input' (looked for: loops, veiled, ifaces, maps, wideKeys, modest, calm, conditions, laid).
  DERIVED. THE GIVEN ROWS OF THIS SEAT. 11 by the template 'for every input the law returns true; each argument reads behind the call as it read before'; 0 by the template 'total and deterministic' (their statements: YtbnjocbacpamiaaTotals.lean).
  GIVEN WITH THE SEED: the statements are not yours to turn. If you find one false, say at which input.
  Laid BY PROGRAM, IN A SANDBOX (cutbox-rows.mjs): the forced cells as the released guide's own fill.sh prints them over the translation fff58c2369078c19… (all of the seat's roots in one cut). By AI agents, Wed Nov 11 2026. No macro, syntax, notation, axiom, sorry.
-/
import Derived.Test.YtbnjocbacpamiaaChecked
import GoSem.Claim
import GoSem.ClaimJoined
import GoSem.ClaimMapViews
import Derived.JoinedTies
import Derived.KernelRfl
namespace Go.Proofs.Ytbnjocbacpamiaa
/- THE CELL 'sum', in the pinned program and in every row, IS THE sha256 OF THE DUMP (.gsa) THAT YtbnjocbacpamiaaProg.lean LOADS. Nothing in Lean hashes anything: it is a label: what it is worth is what the hold of that sum in a sandbox is worth. -/
noncomputable def Try.pinned : Pinned := { name := "ytbnjocbacpamiaa", sum := "fff58c2369078c195c3c8c99adf1cd840eac01aa4308ec3860b4001c67186474", checked := Try.checked }
namespace Rows
def none {H : Type} : Left H := { results := [], args := [] }

/-- 'laws.FnExactNetValid': WHATEVER THE INPUT: true; the input reads as it did. -/
def fnExactNetValidSpec : ChangeSpec := { name := "fnExactNetValid", fn := fun _ => fun
  | [d1, d2] => { results := [.lit (.bool true)], args := [d1, d2] }
  | _ => none }
def fnExactNetValidRow : OpenClaim := { program := "ytbnjocbacpamiaa", sum := "fff58c2369078c195c3c8c99adf1cd840eac01aa4308ec3860b4001c67186474", func := "loop.example/circuitswitching/laws.FnExactNetValid", spec := "fnExactNetValid", apart := false }
def FnExactNetValidSaid : Prop := fnExactNetValidRow.holds Try.pinned (OpenSpec.ofChange fnExactNetValidSpec)

/-- ITS FALSE NEIGHBOUR: 'it returns false'. Refute it at one input. -/
def fnExactNetValidWrong : ChangeSpec := { name := "fnExactNetValid", fn := fun _ => fun
  | [d1, d2] => { results := [.lit (.bool false)], args := [d1, d2] }
  | _ => none }
def FnExactNetValidWrongFalsely : Prop := fnExactNetValidRow.holds Try.pinned (OpenSpec.ofChange fnExactNetValidWrong)

/-- 'laws.FnExactBrickNet': WHATEVER THE INPUT: true; the input reads as it did. -/
def fnExactBrickNetSpec : ChangeSpec := { name := "fnExactBrickNet", fn := fun _ => fun
  | [d] => { results := [.lit (.bool true)], args := [d] }
  | _ => none }
def fnExactBrickNetRow : OpenClaim := { program := "ytbnjocbacpamiaa", sum := "fff58c2369078c195c3c8c99adf1cd840eac01aa4308ec3860b4001c67186474", func := "loop.example/circuitswitching/laws.FnExactBrickNet", spec := "fnExactBrickNet", apart := false }
def FnExactBrickNetSaid : Prop := fnExactBrickNetRow.holds Try.pinned (OpenSpec.ofChange fnExactBrickNetSpec)

/-- ITS FALSE NEIGHBOUR: 'it returns false'. Refute it at one input. -/
def fnExactBrickNetWrong : ChangeSpec := { name := "fnExactBrickNet", fn := fun _ => fun
  | [d] => { results := [.lit (.bool false)], args := [d] }
  | _ => none }
def FnExactBrickNetWrongFalsely : Prop := fnExactBrickNetRow.holds Try.pinned (OpenSpec.ofChange fnExactBrickNetWrong)

/-- 'laws.FnExactBubbleNet': WHATEVER THE INPUT: true; the input reads as it did. -/
def fnExactBubbleNetSpec : ChangeSpec := { name := "fnExactBubbleNet", fn := fun _ => fun
  | [d] => { results := [.lit (.bool true)], args := [d] }
  | _ => none }
def fnExactBubbleNetRow : OpenClaim := { program := "ytbnjocbacpamiaa", sum := "fff58c2369078c195c3c8c99adf1cd840eac01aa4308ec3860b4001c67186474", func := "loop.example/circuitswitching/laws.FnExactBubbleNet", spec := "fnExactBubbleNet", apart := false }
def FnExactBubbleNetSaid : Prop := fnExactBubbleNetRow.holds Try.pinned (OpenSpec.ofChange fnExactBubbleNetSpec)

/-- ITS FALSE NEIGHBOUR: 'it returns false'. Refute it at one input. -/
def fnExactBubbleNetWrong : ChangeSpec := { name := "fnExactBubbleNet", fn := fun _ => fun
  | [d] => { results := [.lit (.bool false)], args := [d] }
  | _ => none }
def FnExactBubbleNetWrongFalsely : Prop := fnExactBubbleNetRow.holds Try.pinned (OpenSpec.ofChange fnExactBubbleNetWrong)

/-- 'laws.FnExactNeighbours': WHATEVER THE INPUT: true; the input reads as it did. -/
def fnExactNeighboursSpec : ChangeSpec := { name := "fnExactNeighbours", fn := fun _ => fun
  | [d1, d2] => { results := [.lit (.bool true)], args := [d1, d2] }
  | _ => none }
def fnExactNeighboursRow : OpenClaim := { program := "ytbnjocbacpamiaa", sum := "fff58c2369078c195c3c8c99adf1cd840eac01aa4308ec3860b4001c67186474", func := "loop.example/circuitswitching/laws.FnExactNeighbours", spec := "fnExactNeighbours", apart := false }
def FnExactNeighboursSaid : Prop := fnExactNeighboursRow.holds Try.pinned (OpenSpec.ofChange fnExactNeighboursSpec)

/-- ITS FALSE NEIGHBOUR: 'it returns false'. Refute it at one input. -/
def fnExactNeighboursWrong : ChangeSpec := { name := "fnExactNeighbours", fn := fun _ => fun
  | [d1, d2] => { results := [.lit (.bool false)], args := [d1, d2] }
  | _ => none }
def FnExactNeighboursWrongFalsely : Prop := fnExactNeighboursRow.holds Try.pinned (OpenSpec.ofChange fnExactNeighboursWrong)

/-- 'laws.FnExactNetDepth': WHATEVER THE INPUT: true; the input reads as it did. -/
def fnExactNetDepthSpec : ChangeSpec := { name := "fnExactNetDepth", fn := fun _ => fun
  | [d1, d2] => { results := [.lit (.bool true)], args := [d1, d2] }
  | _ => none }
def fnExactNetDepthRow : OpenClaim := { program := "ytbnjocbacpamiaa", sum := "fff58c2369078c195c3c8c99adf1cd840eac01aa4308ec3860b4001c67186474", func := "loop.example/circuitswitching/laws.FnExactNetDepth", spec := "fnExactNetDepth", apart := false }
def FnExactNetDepthSaid : Prop := fnExactNetDepthRow.holds Try.pinned (OpenSpec.ofChange fnExactNetDepthSpec)

/-- ITS FALSE NEIGHBOUR: 'it returns false'. Refute it at one input. -/
def fnExactNetDepthWrong : ChangeSpec := { name := "fnExactNetDepth", fn := fun _ => fun
  | [d1, d2] => { results := [.lit (.bool false)], args := [d1, d2] }
  | _ => none }
def FnExactNetDepthWrongFalsely : Prop := fnExactNetDepthRow.holds Try.pinned (OpenSpec.ofChange fnExactNetDepthWrong)

/-- 'laws.FnExactSortsTurned': WHATEVER THE INPUT: true; the input reads as it did. -/
def fnExactSortsTurnedSpec : ChangeSpec := { name := "fnExactSortsTurned", fn := fun _ => fun
  | [d1, d2] => { results := [.lit (.bool true)], args := [d1, d2] }
  | _ => none }
def fnExactSortsTurnedRow : OpenClaim := { program := "ytbnjocbacpamiaa", sum := "fff58c2369078c195c3c8c99adf1cd840eac01aa4308ec3860b4001c67186474", func := "loop.example/circuitswitching/laws.FnExactSortsTurned", spec := "fnExactSortsTurned", apart := false }
def FnExactSortsTurnedSaid : Prop := fnExactSortsTurnedRow.holds Try.pinned (OpenSpec.ofChange fnExactSortsTurnedSpec)

/-- ITS FALSE NEIGHBOUR: 'it returns false'. Refute it at one input. -/
def fnExactSortsTurnedWrong : ChangeSpec := { name := "fnExactSortsTurned", fn := fun _ => fun
  | [d1, d2] => { results := [.lit (.bool false)], args := [d1, d2] }
  | _ => none }
def FnExactSortsTurnedWrongFalsely : Prop := fnExactSortsTurnedRow.holds Try.pinned (OpenSpec.ofChange fnExactSortsTurnedWrong)

/-- 'laws.FnExactMergeNet': WHATEVER THE INPUT: true; the input reads as it did. -/
def fnExactMergeNetSpec : ChangeSpec := { name := "fnExactMergeNet", fn := fun _ => fun
  | [d] => { results := [.lit (.bool true)], args := [d] }
  | _ => none }
def fnExactMergeNetRow : OpenClaim := { program := "ytbnjocbacpamiaa", sum := "fff58c2369078c195c3c8c99adf1cd840eac01aa4308ec3860b4001c67186474", func := "loop.example/circuitswitching/laws.FnExactMergeNet", spec := "fnExactMergeNet", recurses := true, apart := false }
def FnExactMergeNetSaid : Prop := fnExactMergeNetRow.holds Try.pinned (OpenSpec.ofChange fnExactMergeNetSpec)

/-- ITS FALSE NEIGHBOUR: 'it returns false'. Refute it at one input. -/
def fnExactMergeNetWrong : ChangeSpec := { name := "fnExactMergeNet", fn := fun _ => fun
  | [d] => { results := [.lit (.bool false)], args := [d] }
  | _ => none }
def FnExactMergeNetWrongFalsely : Prop := fnExactMergeNetRow.holds Try.pinned (OpenSpec.ofChange fnExactMergeNetWrong)

/-- 'laws.FnExactNetUseless': WHATEVER THE INPUT: true; the input reads as it did. -/
def fnExactNetUselessSpec : ChangeSpec := { name := "fnExactNetUseless", fn := fun _ => fun
  | [d1, d2] => { results := [.lit (.bool true)], args := [d1, d2] }
  | _ => none }
def fnExactNetUselessRow : OpenClaim := { program := "ytbnjocbacpamiaa", sum := "fff58c2369078c195c3c8c99adf1cd840eac01aa4308ec3860b4001c67186474", func := "loop.example/circuitswitching/laws.FnExactNetUseless", spec := "fnExactNetUseless", apart := false }
def FnExactNetUselessSaid : Prop := fnExactNetUselessRow.holds Try.pinned (OpenSpec.ofChange fnExactNetUselessSpec)

/-- ITS FALSE NEIGHBOUR: 'it returns false'. Refute it at one input. -/
def fnExactNetUselessWrong : ChangeSpec := { name := "fnExactNetUseless", fn := fun _ => fun
  | [d1, d2] => { results := [.lit (.bool false)], args := [d1, d2] }
  | _ => none }
def FnExactNetUselessWrongFalsely : Prop := fnExactNetUselessRow.holds Try.pinned (OpenSpec.ofChange fnExactNetUselessWrong)

/-- 'laws.FnExactBitFault': WHATEVER THE INPUT: true; the input reads as it did. -/
def fnExactBitFaultSpec : ChangeSpec := { name := "fnExactBitFault", fn := fun _ => fun
  | [d1, d2] => { results := [.lit (.bool true)], args := [d1, d2] }
  | _ => none }
def fnExactBitFaultRow : OpenClaim := { program := "ytbnjocbacpamiaa", sum := "fff58c2369078c195c3c8c99adf1cd840eac01aa4308ec3860b4001c67186474", func := "loop.example/circuitswitching/laws.FnExactBitFault", spec := "fnExactBitFault", apart := false }
def FnExactBitFaultSaid : Prop := fnExactBitFaultRow.holds Try.pinned (OpenSpec.ofChange fnExactBitFaultSpec)

/-- ITS FALSE NEIGHBOUR: 'it returns false'. Refute it at one input. -/
def fnExactBitFaultWrong : ChangeSpec := { name := "fnExactBitFault", fn := fun _ => fun
  | [d1, d2] => { results := [.lit (.bool false)], args := [d1, d2] }
  | _ => none }
def FnExactBitFaultWrongFalsely : Prop := fnExactBitFaultRow.holds Try.pinned (OpenSpec.ofChange fnExactBitFaultWrong)

/-- 'laws.FnExactNetSorts': WHATEVER THE INPUT: true; the input reads as it did. -/
def fnExactNetSortsSpec : ChangeSpec := { name := "fnExactNetSorts", fn := fun _ => fun
  | [d1, d2] => { results := [.lit (.bool true)], args := [d1, d2] }
  | _ => none }
def fnExactNetSortsRow : OpenClaim := { program := "ytbnjocbacpamiaa", sum := "fff58c2369078c195c3c8c99adf1cd840eac01aa4308ec3860b4001c67186474", func := "loop.example/circuitswitching/laws.FnExactNetSorts", spec := "fnExactNetSorts", apart := false }
def FnExactNetSortsSaid : Prop := fnExactNetSortsRow.holds Try.pinned (OpenSpec.ofChange fnExactNetSortsSpec)

/-- ITS FALSE NEIGHBOUR: 'it returns false'. Refute it at one input. -/
def fnExactNetSortsWrong : ChangeSpec := { name := "fnExactNetSorts", fn := fun _ => fun
  | [d1, d2] => { results := [.lit (.bool false)], args := [d1, d2] }
  | _ => none }
def FnExactNetSortsWrongFalsely : Prop := fnExactNetSortsRow.holds Try.pinned (OpenSpec.ofChange fnExactNetSortsWrong)

/-- 'laws.FnExactNetRun': WHATEVER THE INPUT: true; the input reads as it did. -/
def fnExactNetRunSpec : ChangeSpec := { name := "fnExactNetRun", fn := fun _ => fun
  | [d1, d2, d3] => { results := [.lit (.bool true)], args := [d1, d2, d3] }
  | _ => none }
def fnExactNetRunRow : OpenClaim := { program := "ytbnjocbacpamiaa", sum := "fff58c2369078c195c3c8c99adf1cd840eac01aa4308ec3860b4001c67186474", func := "loop.example/circuitswitching/laws.FnExactNetRun", spec := "fnExactNetRun", apart := false }
def FnExactNetRunSaid : Prop := fnExactNetRunRow.holds Try.pinned (OpenSpec.ofChange fnExactNetRunSpec)

/-- ITS FALSE NEIGHBOUR: 'it returns false'. Refute it at one input. -/
def fnExactNetRunWrong : ChangeSpec := { name := "fnExactNetRun", fn := fun _ => fun
  | [d1, d2, d3] => { results := [.lit (.bool false)], args := [d1, d2, d3] }
  | _ => none }
def FnExactNetRunWrongFalsely : Prop := fnExactNetRunRow.holds Try.pinned (OpenSpec.ofChange fnExactNetRunWrong)

/- THE SECOND FORM. 'bulk': how many values and letters a reading holds, each counted each time it is reached (what is shared counts as often as it is met; a slice's spare places count too). A statement '..UptoSaid' is the law's where the arguments, and the package variables that the reading takes, are together of bulk at most 1048576: NARROWER than '..Said'. Prove '..Said' where nothing that the law and all that it calls make is longer than what came in: it says more and counts as full. Else prove '..UptoSaid'. A law counts once. -/
mutual
def uptoBulk {H : Type} : DataW H → Nat
  | .lit (.string bytes) => bytes.length + 1
  | .lit _ => 1
  | .nil => 1
  | .ptr d => uptoBulk d + 1
  | .slice elems spare => uptoBulkAll elems + uptoBulkAll spare + 1
  | .agg parts => uptoBulkAll parts + 1
  | .iface _ d => uptoBulk d + 1
  | .map entries => uptoBulkEntries entries + 1
  | .held _ => 1
def uptoBulkAll {H : Type} : List (DataW H) → Nat
  | [] => 0
  | d :: r => uptoBulk d + uptoBulkAll r
def uptoBulkEntries {H : Type} : List (Lit × DataW H) → Nat
  | [] => 0
  | x :: r => uptoBulkEntry x + uptoBulkEntries r
def uptoBulkEntry {H : Type} : Lit × DataW H → Nat
  | (.string bytes, d) => bytes.length + uptoBulk d + 1
  | (_, d) => uptoBulk d + 1
 end
def uptoSmall : (H : Type) → List (DataW H) → Bool := fun _ ds => decide (uptoBulkAll ds ≤ 1048576)
def OpenSpec.upto (s : _root_.Go.ChangeSpec) : _root_.Go.OpenSpec := { _root_.Go.OpenSpec.ofChange s with cond := some uptoSmall }

/-- 'laws.FnExactNetValid', WHERE WHAT IT READS IS OF BULK AT MOST 1048576: true; the input reads as it did. -/
def fnExactNetValidUptoRow : OpenClaim := { program := "ytbnjocbacpamiaa", sum := "fff58c2369078c195c3c8c99adf1cd840eac01aa4308ec3860b4001c67186474", func := "loop.example/circuitswitching/laws.FnExactNetValid", spec := "fnExactNetValid", apart := false, narrowed := true }
def FnExactNetValidUptoSaid : Prop := fnExactNetValidUptoRow.holds Try.pinned (OpenSpec.upto fnExactNetValidSpec)

/-- 'laws.FnExactBrickNet', WHERE WHAT IT READS IS OF BULK AT MOST 1048576: true; the input reads as it did. -/
def fnExactBrickNetUptoRow : OpenClaim := { program := "ytbnjocbacpamiaa", sum := "fff58c2369078c195c3c8c99adf1cd840eac01aa4308ec3860b4001c67186474", func := "loop.example/circuitswitching/laws.FnExactBrickNet", spec := "fnExactBrickNet", apart := false, narrowed := true }
def FnExactBrickNetUptoSaid : Prop := fnExactBrickNetUptoRow.holds Try.pinned (OpenSpec.upto fnExactBrickNetSpec)

/-- 'laws.FnExactBubbleNet', WHERE WHAT IT READS IS OF BULK AT MOST 1048576: true; the input reads as it did. -/
def fnExactBubbleNetUptoRow : OpenClaim := { program := "ytbnjocbacpamiaa", sum := "fff58c2369078c195c3c8c99adf1cd840eac01aa4308ec3860b4001c67186474", func := "loop.example/circuitswitching/laws.FnExactBubbleNet", spec := "fnExactBubbleNet", apart := false, narrowed := true }
def FnExactBubbleNetUptoSaid : Prop := fnExactBubbleNetUptoRow.holds Try.pinned (OpenSpec.upto fnExactBubbleNetSpec)

/-- 'laws.FnExactNeighbours', WHERE WHAT IT READS IS OF BULK AT MOST 1048576: true; the input reads as it did. -/
def fnExactNeighboursUptoRow : OpenClaim := { program := "ytbnjocbacpamiaa", sum := "fff58c2369078c195c3c8c99adf1cd840eac01aa4308ec3860b4001c67186474", func := "loop.example/circuitswitching/laws.FnExactNeighbours", spec := "fnExactNeighbours", apart := false, narrowed := true }
def FnExactNeighboursUptoSaid : Prop := fnExactNeighboursUptoRow.holds Try.pinned (OpenSpec.upto fnExactNeighboursSpec)

/-- 'laws.FnExactNetDepth', WHERE WHAT IT READS IS OF BULK AT MOST 1048576: true; the input reads as it did. -/
def fnExactNetDepthUptoRow : OpenClaim := { program := "ytbnjocbacpamiaa", sum := "fff58c2369078c195c3c8c99adf1cd840eac01aa4308ec3860b4001c67186474", func := "loop.example/circuitswitching/laws.FnExactNetDepth", spec := "fnExactNetDepth", apart := false, narrowed := true }
def FnExactNetDepthUptoSaid : Prop := fnExactNetDepthUptoRow.holds Try.pinned (OpenSpec.upto fnExactNetDepthSpec)

/-- 'laws.FnExactSortsTurned', WHERE WHAT IT READS IS OF BULK AT MOST 1048576: true; the input reads as it did. -/
def fnExactSortsTurnedUptoRow : OpenClaim := { program := "ytbnjocbacpamiaa", sum := "fff58c2369078c195c3c8c99adf1cd840eac01aa4308ec3860b4001c67186474", func := "loop.example/circuitswitching/laws.FnExactSortsTurned", spec := "fnExactSortsTurned", apart := false, narrowed := true }
def FnExactSortsTurnedUptoSaid : Prop := fnExactSortsTurnedUptoRow.holds Try.pinned (OpenSpec.upto fnExactSortsTurnedSpec)

/-- 'laws.FnExactMergeNet', WHERE WHAT IT READS IS OF BULK AT MOST 1048576: true; the input reads as it did. -/
def fnExactMergeNetUptoRow : OpenClaim := { program := "ytbnjocbacpamiaa", sum := "fff58c2369078c195c3c8c99adf1cd840eac01aa4308ec3860b4001c67186474", func := "loop.example/circuitswitching/laws.FnExactMergeNet", spec := "fnExactMergeNet", recurses := true, apart := false, narrowed := true }
def FnExactMergeNetUptoSaid : Prop := fnExactMergeNetUptoRow.holds Try.pinned (OpenSpec.upto fnExactMergeNetSpec)

/-- 'laws.FnExactNetUseless', WHERE WHAT IT READS IS OF BULK AT MOST 1048576: true; the input reads as it did. -/
def fnExactNetUselessUptoRow : OpenClaim := { program := "ytbnjocbacpamiaa", sum := "fff58c2369078c195c3c8c99adf1cd840eac01aa4308ec3860b4001c67186474", func := "loop.example/circuitswitching/laws.FnExactNetUseless", spec := "fnExactNetUseless", apart := false, narrowed := true }
def FnExactNetUselessUptoSaid : Prop := fnExactNetUselessUptoRow.holds Try.pinned (OpenSpec.upto fnExactNetUselessSpec)

/-- 'laws.FnExactBitFault', WHERE WHAT IT READS IS OF BULK AT MOST 1048576: true; the input reads as it did. -/
def fnExactBitFaultUptoRow : OpenClaim := { program := "ytbnjocbacpamiaa", sum := "fff58c2369078c195c3c8c99adf1cd840eac01aa4308ec3860b4001c67186474", func := "loop.example/circuitswitching/laws.FnExactBitFault", spec := "fnExactBitFault", apart := false, narrowed := true }
def FnExactBitFaultUptoSaid : Prop := fnExactBitFaultUptoRow.holds Try.pinned (OpenSpec.upto fnExactBitFaultSpec)

/-- 'laws.FnExactNetSorts', WHERE WHAT IT READS IS OF BULK AT MOST 1048576: true; the input reads as it did. -/
def fnExactNetSortsUptoRow : OpenClaim := { program := "ytbnjocbacpamiaa", sum := "fff58c2369078c195c3c8c99adf1cd840eac01aa4308ec3860b4001c67186474", func := "loop.example/circuitswitching/laws.FnExactNetSorts", spec := "fnExactNetSorts", apart := false, narrowed := true }
def FnExactNetSortsUptoSaid : Prop := fnExactNetSortsUptoRow.holds Try.pinned (OpenSpec.upto fnExactNetSortsSpec)

/-- 'laws.FnExactNetRun', WHERE WHAT IT READS IS OF BULK AT MOST 1048576: true; the input reads as it did. -/
def fnExactNetRunUptoRow : OpenClaim := { program := "ytbnjocbacpamiaa", sum := "fff58c2369078c195c3c8c99adf1cd840eac01aa4308ec3860b4001c67186474", func := "loop.example/circuitswitching/laws.FnExactNetRun", spec := "fnExactNetRun", apart := false, narrowed := true }
def FnExactNetRunUptoSaid : Prop := fnExactNetRunUptoRow.holds Try.pinned (OpenSpec.upto fnExactNetRunSpec)

end Rows
end Go.Proofs.Ytbnjocbacpamiaa
