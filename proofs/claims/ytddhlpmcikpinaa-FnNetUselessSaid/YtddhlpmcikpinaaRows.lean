/-
  No cell of these rows narrows 'for every input' (looked for: loops, veiled, ifaces, maps, wideKeys, modest, calm, conditions, laid).
  DERIVED. THE GIVEN ROWS OF THIS SEAT. 11 by the template 'for every input the law returns true; each argument reads behind the call as it read before'; 0 by the template 'total and deterministic' (their statements: YtddhlpmcikpinaaTotals.lean).
  GIVEN WITH THE SEED: the statements are not yours to turn. If you find one false, say at which input.
  Laid BY PROGRAM, IN A SANDBOX (cutbox-rows.mjs): the forced cells as the released guide's own fill.sh prints them over the translation 07b8de824848faf9… (all of the seat's roots in one cut). By AI agents, Wed Nov 11 2026. No macro, syntax, notation, axiom, sorry.
-/
import Derived.Test.YtddhlpmcikpinaaChecked
import GoSem.Claim
import GoSem.ClaimJoined
import GoSem.ClaimMapViews
import Derived.JoinedTies
import Derived.KernelRfl
namespace Go.Proofs.Ytddhlpmcikpinaa
/- THE CELL 'sum', in the pinned program and in every row, IS THE sha256 OF THE DUMP (.gsa) THAT YtddhlpmcikpinaaProg.lean LOADS. Nothing in Lean hashes anything: it is a label: what it is worth is what the hold of that sum in a sandbox is worth. -/
noncomputable def Try.pinned : Pinned := { name := "ytddhlpmcikpinaa", sum := "07b8de824848faf9347b4279dda6ca82517bbc229d536de2f12c6659a9b2c325", checked := Try.checked }
namespace Rows
def none {H : Type} : Left H := { results := [], args := [] }

/-- 'laws.FnBubbleNet': WHATEVER THE INPUT: true; the input reads as it did. -/
def fnBubbleNetSpec : ChangeSpec := { name := "fnBubbleNet", fn := fun _ => fun
  | [d] => { results := [.lit (.bool true)], args := [d] }
  | _ => none }
def fnBubbleNetRow : OpenClaim := { program := "ytddhlpmcikpinaa", sum := "07b8de824848faf9347b4279dda6ca82517bbc229d536de2f12c6659a9b2c325", func := "loop.example/circuitswitching/laws.FnBubbleNet", spec := "fnBubbleNet", apart := false }
def FnBubbleNetSaid : Prop := fnBubbleNetRow.holds Try.pinned (OpenSpec.ofChange fnBubbleNetSpec)

/-- ITS FALSE NEIGHBOUR: 'it returns false'. Refute it at one input. -/
def fnBubbleNetWrong : ChangeSpec := { name := "fnBubbleNet", fn := fun _ => fun
  | [d] => { results := [.lit (.bool false)], args := [d] }
  | _ => none }
def FnBubbleNetWrongFalsely : Prop := fnBubbleNetRow.holds Try.pinned (OpenSpec.ofChange fnBubbleNetWrong)

/-- 'laws.FnBrickNet': WHATEVER THE INPUT: true; the input reads as it did. -/
def fnBrickNetSpec : ChangeSpec := { name := "fnBrickNet", fn := fun _ => fun
  | [d] => { results := [.lit (.bool true)], args := [d] }
  | _ => none }
def fnBrickNetRow : OpenClaim := { program := "ytddhlpmcikpinaa", sum := "07b8de824848faf9347b4279dda6ca82517bbc229d536de2f12c6659a9b2c325", func := "loop.example/circuitswitching/laws.FnBrickNet", spec := "fnBrickNet", apart := false }
def FnBrickNetSaid : Prop := fnBrickNetRow.holds Try.pinned (OpenSpec.ofChange fnBrickNetSpec)

/-- ITS FALSE NEIGHBOUR: 'it returns false'. Refute it at one input. -/
def fnBrickNetWrong : ChangeSpec := { name := "fnBrickNet", fn := fun _ => fun
  | [d] => { results := [.lit (.bool false)], args := [d] }
  | _ => none }
def FnBrickNetWrongFalsely : Prop := fnBrickNetRow.holds Try.pinned (OpenSpec.ofChange fnBrickNetWrong)

/-- 'laws.FnNetValid': WHATEVER THE INPUT: true; the input reads as it did. -/
def fnNetValidSpec : ChangeSpec := { name := "fnNetValid", fn := fun _ => fun
  | [d] => { results := [.lit (.bool true)], args := [d] }
  | _ => none }
def fnNetValidRow : OpenClaim := { program := "ytddhlpmcikpinaa", sum := "07b8de824848faf9347b4279dda6ca82517bbc229d536de2f12c6659a9b2c325", func := "loop.example/circuitswitching/laws.FnNetValid", spec := "fnNetValid", recurses := true, apart := false }
def FnNetValidSaid : Prop := fnNetValidRow.holds Try.pinned (OpenSpec.ofChange fnNetValidSpec)

/-- ITS FALSE NEIGHBOUR: 'it returns false'. Refute it at one input. -/
def fnNetValidWrong : ChangeSpec := { name := "fnNetValid", fn := fun _ => fun
  | [d] => { results := [.lit (.bool false)], args := [d] }
  | _ => none }
def FnNetValidWrongFalsely : Prop := fnNetValidRow.holds Try.pinned (OpenSpec.ofChange fnNetValidWrong)

/-- 'laws.FnNetDepth': WHATEVER THE INPUT: true; the input reads as it did. -/
def fnNetDepthSpec : ChangeSpec := { name := "fnNetDepth", fn := fun _ => fun
  | [d] => { results := [.lit (.bool true)], args := [d] }
  | _ => none }
def fnNetDepthRow : OpenClaim := { program := "ytddhlpmcikpinaa", sum := "07b8de824848faf9347b4279dda6ca82517bbc229d536de2f12c6659a9b2c325", func := "loop.example/circuitswitching/laws.FnNetDepth", spec := "fnNetDepth", recurses := true, apart := false }
def FnNetDepthSaid : Prop := fnNetDepthRow.holds Try.pinned (OpenSpec.ofChange fnNetDepthSpec)

/-- ITS FALSE NEIGHBOUR: 'it returns false'. Refute it at one input. -/
def fnNetDepthWrong : ChangeSpec := { name := "fnNetDepth", fn := fun _ => fun
  | [d] => { results := [.lit (.bool false)], args := [d] }
  | _ => none }
def FnNetDepthWrongFalsely : Prop := fnNetDepthRow.holds Try.pinned (OpenSpec.ofChange fnNetDepthWrong)

/-- 'laws.FnMergeNet': WHATEVER THE INPUT: true; the input reads as it did. -/
def fnMergeNetSpec : ChangeSpec := { name := "fnMergeNet", fn := fun _ => fun
  | [d] => { results := [.lit (.bool true)], args := [d] }
  | _ => none }
def fnMergeNetRow : OpenClaim := { program := "ytddhlpmcikpinaa", sum := "07b8de824848faf9347b4279dda6ca82517bbc229d536de2f12c6659a9b2c325", func := "loop.example/circuitswitching/laws.FnMergeNet", spec := "fnMergeNet", recurses := true, apart := false }
def FnMergeNetSaid : Prop := fnMergeNetRow.holds Try.pinned (OpenSpec.ofChange fnMergeNetSpec)

/-- ITS FALSE NEIGHBOUR: 'it returns false'. Refute it at one input. -/
def fnMergeNetWrong : ChangeSpec := { name := "fnMergeNet", fn := fun _ => fun
  | [d] => { results := [.lit (.bool false)], args := [d] }
  | _ => none }
def FnMergeNetWrongFalsely : Prop := fnMergeNetRow.holds Try.pinned (OpenSpec.ofChange fnMergeNetWrong)

/-- 'laws.FnNetRun': WHATEVER THE INPUT: true; the input reads as it did. -/
def fnNetRunSpec : ChangeSpec := { name := "fnNetRun", fn := fun _ => fun
  | [d] => { results := [.lit (.bool true)], args := [d] }
  | _ => none }
def fnNetRunRow : OpenClaim := { program := "ytddhlpmcikpinaa", sum := "07b8de824848faf9347b4279dda6ca82517bbc229d536de2f12c6659a9b2c325", func := "loop.example/circuitswitching/laws.FnNetRun", spec := "fnNetRun", recurses := true, apart := false }
def FnNetRunSaid : Prop := fnNetRunRow.holds Try.pinned (OpenSpec.ofChange fnNetRunSpec)

/-- ITS FALSE NEIGHBOUR: 'it returns false'. Refute it at one input. -/
def fnNetRunWrong : ChangeSpec := { name := "fnNetRun", fn := fun _ => fun
  | [d] => { results := [.lit (.bool false)], args := [d] }
  | _ => none }
def FnNetRunWrongFalsely : Prop := fnNetRunRow.holds Try.pinned (OpenSpec.ofChange fnNetRunWrong)

/-- 'laws.FnBitFault': WHATEVER THE INPUT: true; the input reads as it did. -/
def fnBitFaultSpec : ChangeSpec := { name := "fnBitFault", fn := fun _ => fun
  | [d] => { results := [.lit (.bool true)], args := [d] }
  | _ => none }
def fnBitFaultRow : OpenClaim := { program := "ytddhlpmcikpinaa", sum := "07b8de824848faf9347b4279dda6ca82517bbc229d536de2f12c6659a9b2c325", func := "loop.example/circuitswitching/laws.FnBitFault", spec := "fnBitFault", recurses := true, apart := false }
def FnBitFaultSaid : Prop := fnBitFaultRow.holds Try.pinned (OpenSpec.ofChange fnBitFaultSpec)

/-- ITS FALSE NEIGHBOUR: 'it returns false'. Refute it at one input. -/
def fnBitFaultWrong : ChangeSpec := { name := "fnBitFault", fn := fun _ => fun
  | [d] => { results := [.lit (.bool false)], args := [d] }
  | _ => none }
def FnBitFaultWrongFalsely : Prop := fnBitFaultRow.holds Try.pinned (OpenSpec.ofChange fnBitFaultWrong)

/-- 'laws.FnNetUseless': WHATEVER THE INPUT: true; the input reads as it did. -/
def fnNetUselessSpec : ChangeSpec := { name := "fnNetUseless", fn := fun _ => fun
  | [d] => { results := [.lit (.bool true)], args := [d] }
  | _ => none }
def fnNetUselessRow : OpenClaim := { program := "ytddhlpmcikpinaa", sum := "07b8de824848faf9347b4279dda6ca82517bbc229d536de2f12c6659a9b2c325", func := "loop.example/circuitswitching/laws.FnNetUseless", spec := "fnNetUseless", recurses := true, apart := false }
def FnNetUselessSaid : Prop := fnNetUselessRow.holds Try.pinned (OpenSpec.ofChange fnNetUselessSpec)

/-- ITS FALSE NEIGHBOUR: 'it returns false'. Refute it at one input. -/
def fnNetUselessWrong : ChangeSpec := { name := "fnNetUseless", fn := fun _ => fun
  | [d] => { results := [.lit (.bool false)], args := [d] }
  | _ => none }
def FnNetUselessWrongFalsely : Prop := fnNetUselessRow.holds Try.pinned (OpenSpec.ofChange fnNetUselessWrong)

/-- 'laws.FnNeighbours': WHATEVER THE INPUT: true; the input reads as it did. -/
def fnNeighboursSpec : ChangeSpec := { name := "fnNeighbours", fn := fun _ => fun
  | [d] => { results := [.lit (.bool true)], args := [d] }
  | _ => none }
def fnNeighboursRow : OpenClaim := { program := "ytddhlpmcikpinaa", sum := "07b8de824848faf9347b4279dda6ca82517bbc229d536de2f12c6659a9b2c325", func := "loop.example/circuitswitching/laws.FnNeighbours", spec := "fnNeighbours", recurses := true, apart := false }
def FnNeighboursSaid : Prop := fnNeighboursRow.holds Try.pinned (OpenSpec.ofChange fnNeighboursSpec)

/-- ITS FALSE NEIGHBOUR: 'it returns false'. Refute it at one input. -/
def fnNeighboursWrong : ChangeSpec := { name := "fnNeighbours", fn := fun _ => fun
  | [d] => { results := [.lit (.bool false)], args := [d] }
  | _ => none }
def FnNeighboursWrongFalsely : Prop := fnNeighboursRow.holds Try.pinned (OpenSpec.ofChange fnNeighboursWrong)

/-- 'laws.FnSortsTurned': WHATEVER THE INPUT: true; the input reads as it did. -/
def fnSortsTurnedSpec : ChangeSpec := { name := "fnSortsTurned", fn := fun _ => fun
  | [d] => { results := [.lit (.bool true)], args := [d] }
  | _ => none }
def fnSortsTurnedRow : OpenClaim := { program := "ytddhlpmcikpinaa", sum := "07b8de824848faf9347b4279dda6ca82517bbc229d536de2f12c6659a9b2c325", func := "loop.example/circuitswitching/laws.FnSortsTurned", spec := "fnSortsTurned", recurses := true, apart := false }
def FnSortsTurnedSaid : Prop := fnSortsTurnedRow.holds Try.pinned (OpenSpec.ofChange fnSortsTurnedSpec)

/-- ITS FALSE NEIGHBOUR: 'it returns false'. Refute it at one input. -/
def fnSortsTurnedWrong : ChangeSpec := { name := "fnSortsTurned", fn := fun _ => fun
  | [d] => { results := [.lit (.bool false)], args := [d] }
  | _ => none }
def FnSortsTurnedWrongFalsely : Prop := fnSortsTurnedRow.holds Try.pinned (OpenSpec.ofChange fnSortsTurnedWrong)

/-- 'laws.FnNetSorts': WHATEVER THE INPUT: true; the input reads as it did. -/
def fnNetSortsSpec : ChangeSpec := { name := "fnNetSorts", fn := fun _ => fun
  | [d] => { results := [.lit (.bool true)], args := [d] }
  | _ => none }
def fnNetSortsRow : OpenClaim := { program := "ytddhlpmcikpinaa", sum := "07b8de824848faf9347b4279dda6ca82517bbc229d536de2f12c6659a9b2c325", func := "loop.example/circuitswitching/laws.FnNetSorts", spec := "fnNetSorts", recurses := true, apart := false }
def FnNetSortsSaid : Prop := fnNetSortsRow.holds Try.pinned (OpenSpec.ofChange fnNetSortsSpec)

/-- ITS FALSE NEIGHBOUR: 'it returns false'. Refute it at one input. -/
def fnNetSortsWrong : ChangeSpec := { name := "fnNetSorts", fn := fun _ => fun
  | [d] => { results := [.lit (.bool false)], args := [d] }
  | _ => none }
def FnNetSortsWrongFalsely : Prop := fnNetSortsRow.holds Try.pinned (OpenSpec.ofChange fnNetSortsWrong)

/- THE SECOND FORM. 'bulk': how many values and letters a reading holds, each counted each time it is reached (what is shared counts as often as it is met; a slice's spare places count too). A statement '..UptoSaid' is the law's where the arguments, and the package variables that the reading takes, are together of bulk at most 1048576: NARROWER than '..Said'. Prove '..Said' where nothing that the law and all that it calls make is longer than what came in: it says more and counts as full. Else prove '..UptoSaid'. A law counts once. -/
mutual
def uptoBulk {H : Type} : DataW H → Nat
  | .lit (.string bytes) => bytes.length + 1
  | .lit _ => 1
  | .nil => 1
  | .ptr d => uptoBulk d + 1
  | .slice elems spare => uptoBulkAll elems + uptoBulkAll spare + 1
  | .agg parts => uptoBulkAll parts + 1
  | .iface _ d => uptoBulk d + 1
  | .map entries => uptoBulkEntries entries + 1
  | .held _ => 1
def uptoBulkAll {H : Type} : List (DataW H) → Nat
  | [] => 0
  | d :: r => uptoBulk d + uptoBulkAll r
def uptoBulkEntries {H : Type} : List (Lit × DataW H) → Nat
  | [] => 0
  | x :: r => uptoBulkEntry x + uptoBulkEntries r
def uptoBulkEntry {H : Type} : Lit × DataW H → Nat
  | (.string bytes, d) => bytes.length + uptoBulk d + 1
  | (_, d) => uptoBulk d + 1
 end
def uptoSmall : (H : Type) → List (DataW H) → Bool := fun _ ds => decide (uptoBulkAll ds ≤ 1048576)
def OpenSpec.upto (s : _root_.Go.ChangeSpec) : _root_.Go.OpenSpec := { _root_.Go.OpenSpec.ofChange s with cond := some uptoSmall }

/-- 'laws.FnBubbleNet', WHERE WHAT IT READS IS OF BULK AT MOST 1048576: true; the input reads as it did. -/
def fnBubbleNetUptoRow : OpenClaim := { program := "ytddhlpmcikpinaa", sum := "07b8de824848faf9347b4279dda6ca82517bbc229d536de2f12c6659a9b2c325", func := "loop.example/circuitswitching/laws.FnBubbleNet", spec := "fnBubbleNet", apart := false, narrowed := true }
def FnBubbleNetUptoSaid : Prop := fnBubbleNetUptoRow.holds Try.pinned (OpenSpec.upto fnBubbleNetSpec)

/-- 'laws.FnBrickNet', WHERE WHAT IT READS IS OF BULK AT MOST 1048576: true; the input reads as it did. -/
def fnBrickNetUptoRow : OpenClaim := { program := "ytddhlpmcikpinaa", sum := "07b8de824848faf9347b4279dda6ca82517bbc229d536de2f12c6659a9b2c325", func := "loop.example/circuitswitching/laws.FnBrickNet", spec := "fnBrickNet", apart := false, narrowed := true }
def FnBrickNetUptoSaid : Prop := fnBrickNetUptoRow.holds Try.pinned (OpenSpec.upto fnBrickNetSpec)

/-- 'laws.FnNetValid', WHERE WHAT IT READS IS OF BULK AT MOST 1048576: true; the input reads as it did. -/
def fnNetValidUptoRow : OpenClaim := { program := "ytddhlpmcikpinaa", sum := "07b8de824848faf9347b4279dda6ca82517bbc229d536de2f12c6659a9b2c325", func := "loop.example/circuitswitching/laws.FnNetValid", spec := "fnNetValid", recurses := true, apart := false, narrowed := true }
def FnNetValidUptoSaid : Prop := fnNetValidUptoRow.holds Try.pinned (OpenSpec.upto fnNetValidSpec)

/-- 'laws.FnNetDepth', WHERE WHAT IT READS IS OF BULK AT MOST 1048576: true; the input reads as it did. -/
def fnNetDepthUptoRow : OpenClaim := { program := "ytddhlpmcikpinaa", sum := "07b8de824848faf9347b4279dda6ca82517bbc229d536de2f12c6659a9b2c325", func := "loop.example/circuitswitching/laws.FnNetDepth", spec := "fnNetDepth", recurses := true, apart := false, narrowed := true }
def FnNetDepthUptoSaid : Prop := fnNetDepthUptoRow.holds Try.pinned (OpenSpec.upto fnNetDepthSpec)

/-- 'laws.FnMergeNet', WHERE WHAT IT READS IS OF BULK AT MOST 1048576: true; the input reads as it did. -/
def fnMergeNetUptoRow : OpenClaim := { program := "ytddhlpmcikpinaa", sum := "07b8de824848faf9347b4279dda6ca82517bbc229d536de2f12c6659a9b2c325", func := "loop.example/circuitswitching/laws.FnMergeNet", spec := "fnMergeNet", recurses := true, apart := false, narrowed := true }
def FnMergeNetUptoSaid : Prop := fnMergeNetUptoRow.holds Try.pinned (OpenSpec.upto fnMergeNetSpec)

/-- 'laws.FnNetRun', WHERE WHAT IT READS IS OF BULK AT MOST 1048576: true; the input reads as it did. -/
def fnNetRunUptoRow : OpenClaim := { program := "ytddhlpmcikpinaa", sum := "07b8de824848faf9347b4279dda6ca82517bbc229d536de2f12c6659a9b2c325", func := "loop.example/circuitswitching/laws.FnNetRun", spec := "fnNetRun", recurses := true, apart := false, narrowed := true }
def FnNetRunUptoSaid : Prop := fnNetRunUptoRow.holds Try.pinned (OpenSpec.upto fnNetRunSpec)

/-- 'laws.FnBitFault', WHERE WHAT IT READS IS OF BULK AT MOST 1048576: true; the input reads as it did. -/
def fnBitFaultUptoRow : OpenClaim := { program := "ytddhlpmcikpinaa", sum := "07b8de824848faf9347b4279dda6ca82517bbc229d536de2f12c6659a9b2c325", func := "loop.example/circuitswitching/laws.FnBitFault", spec := "fnBitFault", recurses := true, apart := false, narrowed := true }
def FnBitFaultUptoSaid : Prop := fnBitFaultUptoRow.holds Try.pinned (OpenSpec.upto fnBitFaultSpec)

/-- 'laws.FnNetUseless', WHERE WHAT IT READS IS OF BULK AT MOST 1048576: true; the input reads as it did. -/
def fnNetUselessUptoRow : OpenClaim := { program := "ytddhlpmcikpinaa", sum := "07b8de824848faf9347b4279dda6ca82517bbc229d536de2f12c6659a9b2c325", func := "loop.example/circuitswitching/laws.FnNetUseless", spec := "fnNetUseless", recurses := true, apart := false, narrowed := true }
def FnNetUselessUptoSaid : Prop := fnNetUselessUptoRow.holds Try.pinned (OpenSpec.upto fnNetUselessSpec)

/-- 'laws.FnNeighbours', WHERE WHAT IT READS IS OF BULK AT MOST 1048576: true; the input reads as it did. -/
def fnNeighboursUptoRow : OpenClaim := { program := "ytddhlpmcikpinaa", sum := "07b8de824848faf9347b4279dda6ca82517bbc229d536de2f12c6659a9b2c325", func := "loop.example/circuitswitching/laws.FnNeighbours", spec := "fnNeighbours", recurses := true, apart := false, narrowed := true }
def FnNeighboursUptoSaid : Prop := fnNeighboursUptoRow.holds Try.pinned (OpenSpec.upto fnNeighboursSpec)

/-- 'laws.FnSortsTurned', WHERE WHAT IT READS IS OF BULK AT MOST 1048576: true; the input reads as it did. -/
def fnSortsTurnedUptoRow : OpenClaim := { program := "ytddhlpmcikpinaa", sum := "07b8de824848faf9347b4279dda6ca82517bbc229d536de2f12c6659a9b2c325", func := "loop.example/circuitswitching/laws.FnSortsTurned", spec := "fnSortsTurned", recurses := true, apart := false, narrowed := true }
def FnSortsTurnedUptoSaid : Prop := fnSortsTurnedUptoRow.holds Try.pinned (OpenSpec.upto fnSortsTurnedSpec)

/-- 'laws.FnNetSorts', WHERE WHAT IT READS IS OF BULK AT MOST 1048576: true; the input reads as it did. -/
def fnNetSortsUptoRow : OpenClaim := { program := "ytddhlpmcikpinaa", sum := "07b8de824848faf9347b4279dda6ca82517bbc229d536de2f12c6659a9b2c325", func := "loop.example/circuitswitching/laws.FnNetSorts", spec := "fnNetSorts", recurses := true, apart := false, narrowed := true }
def FnNetSortsUptoSaid : Prop := fnNetSortsUptoRow.holds Try.pinned (OpenSpec.upto fnNetSortsSpec)

end Rows
end Go.Proofs.Ytddhlpmcikpinaa
