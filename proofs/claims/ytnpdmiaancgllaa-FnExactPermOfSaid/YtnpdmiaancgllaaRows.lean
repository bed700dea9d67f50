/-
  No cell of these rows narrows 'for every input' (looked for: loops, veiled, ifaces, maps, wideKeys, modest, calm, conditions, laid).
  DERIVED. THE GIVEN ROWS OF THIS SEAT. 12 by the template 'for every input the law returns true; each argument reads behind the call as it read before'; 0 by the template 'total and deterministic' (their statements: YtnpdmiaancgllaaTotals.lean).
  GIVEN WITH THE SEED: the statements are not yours to turn. If you find one false, say at which input.
  Laid BY PROGRAM, IN A SANDBOX (cutbox-rows.mjs): the forced cells as the released guide's own fill.sh prints them over the translation fedd59784a672869… (all of the seat's roots in one cut). By AI agents, Wed Nov 11 2026. No macro, syntax, notation, axiom, sorry.
-/
import Derived.Test.YtnpdmiaancgllaaChecked
import GoSem.Claim
import GoSem.ClaimJoined
import GoSem.ClaimMapViews
import Derived.JoinedTies
import Derived.KernelRfl
namespace Go.Proofs.Ytnpdmiaancgllaa
/- THE CELL 'sum', in the pinned program and in every row, IS THE sha256 OF THE DUMP (.gsa) THAT YtnpdmiaancgllaaProg.lean LOADS. Nothing in Lean hashes anything: it is a label: what it is worth is what the hold of that sum in a sandbox is worth. -/
noncomputable def Try.pinned : Pinned := { name := "ytnpdmiaancgllaa", sum := "fedd59784a672869e1afa03971b25d5b48a5394d81e98635a8c195c4e295f455", checked := Try.checked }
namespace Rows
def none {H : Type} : Left H := { results := [], args := [] }

/-- 'laws.FnExactConstants': WHATEVER THE INPUT: true; the input reads as it did. -/
def fnExactConstantsSpec : ChangeSpec := { name := "fnExactConstants", fn := fun _ => fun
  | [] => { results := [.lit (.bool true)], args := [] }
  | _ => none }
def fnExactConstantsRow : OpenClaim := { program := "ytnpdmiaancgllaa", sum := "fedd59784a672869e1afa03971b25d5b48a5394d81e98635a8c195c4e295f455", func := "loop.example/circuitswitching/laws.FnExactConstants", spec := "fnExactConstants", apart := false }
def FnExactConstantsSaid : Prop := fnExactConstantsRow.holds Try.pinned (OpenSpec.ofChange fnExactConstantsSpec)

/-- ITS FALSE NEIGHBOUR: 'it returns false'. Refute it at one input. -/
def fnExactConstantsWrong : ChangeSpec := { name := "fnExactConstants", fn := fun _ => fun
  | [] => { results := [.lit (.bool false)], args := [] }
  | _ => none }
def FnExactConstantsWrongFalsely : Prop := fnExactConstantsRow.holds Try.pinned (OpenSpec.ofChange fnExactConstantsWrong)

/-- 'laws.FnExactLoopMany': WHATEVER THE INPUT: true; the input reads as it did. -/
def fnExactLoopManySpec : ChangeSpec := { name := "fnExactLoopMany", fn := fun _ => fun
  | [d] => { results := [.lit (.bool true)], args := [d] }
  | _ => none }
def fnExactLoopManyRow : OpenClaim := { program := "ytnpdmiaancgllaa", sum := "fedd59784a672869e1afa03971b25d5b48a5394d81e98635a8c195c4e295f455", func := "loop.example/circuitswitching/laws.FnExactLoopMany", spec := "fnExactLoopMany", recurses := true, apart := false }
def FnExactLoopManySaid : Prop := fnExactLoopManyRow.holds Try.pinned (OpenSpec.ofChange fnExactLoopManySpec)

/-- ITS FALSE NEIGHBOUR: 'it returns false'. Refute it at one input. -/
def fnExactLoopManyWrong : ChangeSpec := { name := "fnExactLoopMany", fn := fun _ => fun
  | [d] => { results := [.lit (.bool false)], args := [d] }
  | _ => none }
def FnExactLoopManyWrongFalsely : Prop := fnExactLoopManyRow.holds Try.pinned (OpenSpec.ofChange fnExactLoopManyWrong)

/-- 'laws.FnExactStepMany': WHATEVER THE INPUT: true; the input reads as it did. -/
def fnExactStepManySpec : ChangeSpec := { name := "fnExactStepMany", fn := fun _ => fun
  | [d] => { results := [.lit (.bool true)], args := [d] }
  | _ => none }
def fnExactStepManyRow : OpenClaim := { program := "ytnpdmiaancgllaa", sum := "fedd59784a672869e1afa03971b25d5b48a5394d81e98635a8c195c4e295f455", func := "loop.example/circuitswitching/laws.FnExactStepMany", spec := "fnExactStepMany", apart := false }
def FnExactStepManySaid : Prop := fnExactStepManyRow.holds Try.pinned (OpenSpec.ofChange fnExactStepManySpec)

/-- ITS FALSE NEIGHBOUR: 'it returns false'. Refute it at one input. -/
def fnExactStepManyWrong : ChangeSpec := { name := "fnExactStepMany", fn := fun _ => fun
  | [d] => { results := [.lit (.bool false)], args := [d] }
  | _ => none }
def FnExactStepManyWrongFalsely : Prop := fnExactStepManyRow.holds Try.pinned (OpenSpec.ofChange fnExactStepManyWrong)

/-- 'laws.FnExactStepWay': WHATEVER THE INPUT: true; the input reads as it did. -/
def fnExactStepWaySpec : ChangeSpec := { name := "fnExactStepWay", fn := fun _ => fun
  | [d1, d2, d3] => { results := [.lit (.bool true)], args := [d1, d2, d3] }
  | _ => none }
def fnExactStepWayRow : OpenClaim := { program := "ytnpdmiaancgllaa", sum := "fedd59784a672869e1afa03971b25d5b48a5394d81e98635a8c195c4e295f455", func := "loop.example/circuitswitching/laws.FnExactStepWay", spec := "fnExactStepWay", apart := false }
def FnExactStepWaySaid : Prop := fnExactStepWayRow.holds Try.pinned (OpenSpec.ofChange fnExactStepWaySpec)

/-- ITS FALSE NEIGHBOUR: 'it returns false'. Refute it at one input. -/
def fnExactStepWayWrong : ChangeSpec := { name := "fnExactStepWay", fn := fun _ => fun
  | [d1, d2, d3] => { results := [.lit (.bool false)], args := [d1, d2, d3] }
  | _ => none }
def FnExactStepWayWrongFalsely : Prop := fnExactStepWayRow.holds Try.pinned (OpenSpec.ofChange fnExactStepWayWrong)

/-- 'laws.FnExactPermValid': WHATEVER THE INPUT: true; the input reads as it did. -/
def fnExactPermValidSpec : ChangeSpec := { name := "fnExactPermValid", fn := fun _ => fun
  | [d] => { results := [.lit (.bool true)], args := [d] }
  | _ => none }
def fnExactPermValidRow : OpenClaim := { program := "ytnpdmiaancgllaa", sum := "fedd59784a672869e1afa03971b25d5b48a5394d81e98635a8c195c4e295f455", func := "loop.example/circuitswitching/laws.FnExactPermValid", spec := "fnExactPermValid", apart := false }
def FnExactPermValidSaid : Prop := fnExactPermValidRow.holds Try.pinned (OpenSpec.ofChange fnExactPermValidSpec)

/-- ITS FALSE NEIGHBOUR: 'it returns false'. Refute it at one input. -/
def fnExactPermValidWrong : ChangeSpec := { name := "fnExactPermValid", fn := fun _ => fun
  | [d] => { results := [.lit (.bool false)], args := [d] }
  | _ => none }
def FnExactPermValidWrongFalsely : Prop := fnExactPermValidRow.holds Try.pinned (OpenSpec.ofChange fnExactPermValidWrong)

/-- 'laws.FnExactPermOf': WHATEVER THE INPUT: true; the input reads as it did. -/
def fnExactPermOfSpec : ChangeSpec := { name := "fnExactPermOf", fn := fun _ => fun
  | [d1, d2] => { results := [.lit (.bool true)], args := [d1, d2] }
  | _ => none }
def fnExactPermOfRow : OpenClaim := { program := "ytnpdmiaancgllaa", sum := "fedd59784a672869e1afa03971b25d5b48a5394d81e98635a8c195c4e295f455", func := "loop.example/circuitswitching/laws.FnExactPermOf", spec := "fnExactPermOf", apart := false }
def FnExactPermOfSaid : Prop := fnExactPermOfRow.holds Try.pinned (OpenSpec.ofChange fnExactPermOfSpec)

/-- ITS FALSE NEIGHBOUR: 'it returns false'. Refute it at one input. -/
def fnExactPermOfWrong : ChangeSpec := { name := "fnExactPermOf", fn := fun _ => fun
  | [d1, d2] => { results := [.lit (.bool false)], args := [d1, d2] }
  | _ => none }
def FnExactPermOfWrongFalsely : Prop := fnExactPermOfRow.holds Try.pinned (OpenSpec.ofChange fnExactPermOfWrong)

/-- 'laws.FnExactPermCrosses': WHATEVER THE INPUT: true; the input reads as it did. -/
def fnExactPermCrossesSpec : ChangeSpec := { name := "fnExactPermCrosses", fn := fun _ => fun
  | [d] => { results := [.lit (.bool true)], args := [d] }
  | _ => none }
def fnExactPermCrossesRow : OpenClaim := { program := "ytnpdmiaancgllaa", sum := "fedd59784a672869e1afa03971b25d5b48a5394d81e98635a8c195c4e295f455", func := "loop.example/circuitswitching/laws.FnExactPermCrosses", spec := "fnExactPermCrosses", apart := false }
def FnExactPermCrossesSaid : Prop := fnExactPermCrossesRow.holds Try.pinned (OpenSpec.ofChange fnExactPermCrossesSpec)

/-- ITS FALSE NEIGHBOUR: 'it returns false'. Refute it at one input. -/
def fnExactPermCrossesWrong : ChangeSpec := { name := "fnExactPermCrosses", fn := fun _ => fun
  | [d] => { results := [.lit (.bool false)], args := [d] }
  | _ => none }
def FnExactPermCrossesWrongFalsely : Prop := fnExactPermCrossesRow.holds Try.pinned (OpenSpec.ofChange fnExactPermCrossesWrong)

/-- 'laws.FnExactPermThen': WHATEVER THE INPUT: true; the input reads as it did. -/
def fnExactPermThenSpec : ChangeSpec := { name := "fnExactPermThen", fn := fun _ => fun
  | [d1, d2] => { results := [.lit (.bool true)], args := [d1, d2] }
  | _ => none }
def fnExactPermThenRow : OpenClaim := { program := "ytnpdmiaancgllaa", sum := "fedd59784a672869e1afa03971b25d5b48a5394d81e98635a8c195c4e295f455", func := "loop.example/circuitswitching/laws.FnExactPermThen", spec := "fnExactPermThen", apart := false }
def FnExactPermThenSaid : Prop := fnExactPermThenRow.holds Try.pinned (OpenSpec.ofChange fnExactPermThenSpec)

/-- ITS FALSE NEIGHBOUR: 'it returns false'. Refute it at one input. -/
def fnExactPermThenWrong : ChangeSpec := { name := "fnExactPermThen", fn := fun _ => fun
  | [d1, d2] => { results := [.lit (.bool false)], args := [d1, d2] }
  | _ => none }
def FnExactPermThenWrongFalsely : Prop := fnExactPermThenRow.holds Try.pinned (OpenSpec.ofChange fnExactPermThenWrong)

/-- 'laws.FnExactPermCycles': WHATEVER THE INPUT: true; the input reads as it did. -/
def fnExactPermCyclesSpec : ChangeSpec := { name := "fnExactPermCycles", fn := fun _ => fun
  | [d] => { results := [.lit (.bool true)], args := [d] }
  | _ => none }
def fnExactPermCyclesRow : OpenClaim := { program := "ytnpdmiaancgllaa", sum := "fedd59784a672869e1afa03971b25d5b48a5394d81e98635a8c195c4e295f455", func := "loop.example/circuitswitching/laws.FnExactPermCycles", spec := "fnExactPermCycles", apart := false }
def FnExactPermCyclesSaid : Prop := fnExactPermCyclesRow.holds Try.pinned (OpenSpec.ofChange fnExactPermCyclesSpec)

/-- ITS FALSE NEIGHBOUR: 'it returns false'. Refute it at one input. -/
def fnExactPermCyclesWrong : ChangeSpec := { name := "fnExactPermCycles", fn := fun _ => fun
  | [d] => { results := [.lit (.bool false)], args := [d] }
  | _ => none }
def FnExactPermCyclesWrongFalsely : Prop := fnExactPermCyclesRow.holds Try.pinned (OpenSpec.ofChange fnExactPermCyclesWrong)

/-- 'laws.FnExactPermBack': WHATEVER THE INPUT: true; the input reads as it did. -/
def fnExactPermBackSpec : ChangeSpec := { name := "fnExactPermBack", fn := fun _ => fun
  | [d] => { results := [.lit (.bool true)], args := [d] }
  | _ => none }
def fnExactPermBackRow : OpenClaim := { program := "ytnpdmiaancgllaa", sum := "fedd59784a672869e1afa03971b25d5b48a5394d81e98635a8c195c4e295f455", func := "loop.example/circuitswitching/laws.FnExactPermBack", spec := "fnExactPermBack", apart := false }
def FnExactPermBackSaid : Prop := fnExactPermBackRow.holds Try.pinned (OpenSpec.ofChange fnExactPermBackSpec)

/-- ITS FALSE NEIGHBOUR: 'it returns false'. Refute it at one input. -/
def fnExactPermBackWrong : ChangeSpec := { name := "fnExactPermBack", fn := fun _ => fun
  | [d] => { results := [.lit (.bool false)], args := [d] }
  | _ => none }
def FnExactPermBackWrongFalsely : Prop := fnExactPermBackRow.holds Try.pinned (OpenSpec.ofChange fnExactPermBackWrong)

/-- 'laws.FnExactPermSwaps': WHATEVER THE INPUT: true; the input reads as it did. -/
def fnExactPermSwapsSpec : ChangeSpec := { name := "fnExactPermSwaps", fn := fun _ => fun
  | [d] => { results := [.lit (.bool true)], args := [d] }
  | _ => none }
def fnExactPermSwapsRow : OpenClaim := { program := "ytnpdmiaancgllaa", sum := "fedd59784a672869e1afa03971b25d5b48a5394d81e98635a8c195c4e295f455", func := "loop.example/circuitswitching/laws.FnExactPermSwaps", spec := "fnExactPermSwaps", apart := false }
def FnExactPermSwapsSaid : Prop := fnExactPermSwapsRow.holds Try.pinned (OpenSpec.ofChange fnExactPermSwapsSpec)

/-- ITS FALSE NEIGHBOUR: 'it returns false'. Refute it at one input. -/
def fnExactPermSwapsWrong : ChangeSpec := { name := "fnExactPermSwaps", fn := fun _ => fun
  | [d] => { results := [.lit (.bool false)], args := [d] }
  | _ => none }
def FnExactPermSwapsWrongFalsely : Prop := fnExactPermSwapsRow.holds Try.pinned (OpenSpec.ofChange fnExactPermSwapsWrong)

/-- 'laws.FnExactPermRank': WHATEVER THE INPUT: true; the input reads as it did. -/
def fnExactPermRankSpec : ChangeSpec := { name := "fnExactPermRank", fn := fun _ => fun
  | [d] => { results := [.lit (.bool true)], args := [d] }
  | _ => none }
def fnExactPermRankRow : OpenClaim := { program := "ytnpdmiaancgllaa", sum := "fedd59784a672869e1afa03971b25d5b48a5394d81e98635a8c195c4e295f455", func := "loop.example/circuitswitching/laws.FnExactPermRank", spec := "fnExactPermRank", apart := false }
def FnExactPermRankSaid : Prop := fnExactPermRankRow.holds Try.pinned (OpenSpec.ofChange fnExactPermRankSpec)

/-- ITS FALSE NEIGHBOUR: 'it returns false'. Refute it at one input. -/
def fnExactPermRankWrong : ChangeSpec := { name := "fnExactPermRank", fn := fun _ => fun
  | [d] => { results := [.lit (.bool false)], args := [d] }
  | _ => none }
def FnExactPermRankWrongFalsely : Prop := fnExactPermRankRow.holds Try.pinned (OpenSpec.ofChange fnExactPermRankWrong)

/- THE SECOND FORM. 'bulk': how many values and letters a reading holds, each counted each time it is reached (what is shared counts as often as it is met; a slice's spare places count too). A statement '..UptoSaid' is the law's where the arguments, and the package variables that the reading takes, are together of bulk at most 1048576: NARROWER than '..Said'. Prove '..Said' where nothing that the law and all that it calls make is longer than what came in: it says more and counts as full. Else prove '..UptoSaid'. A law counts once. -/
mutual
def uptoBulk {H : Type} : DataW H → Nat
  | .lit (.string bytes) => bytes.length + 1
  | .lit _ => 1
  | .nil => 1
  | .ptr d => uptoBulk d + 1
  | .slice elems spare => uptoBulkAll elems + uptoBulkAll spare + 1
  | .agg parts => uptoBulkAll parts + 1
  | .iface _ d => uptoBulk d + 1
  | .map entries => uptoBulkEntries entries + 1
  | .held _ => 1
def uptoBulkAll {H : Type} : List (DataW H) → Nat
  | [] => 0
  | d :: r => uptoBulk d + uptoBulkAll r
def uptoBulkEntries {H : Type} : List (Lit × DataW H) → Nat
  | [] => 0
  | x :: r => uptoBulkEntry x + uptoBulkEntries r
def uptoBulkEntry {H : Type} : Lit × DataW H → Nat
  | (.string bytes, d) => bytes.length + uptoBulk d + 1
  | (_, d) => uptoBulk d + 1
 end
def uptoSmall : (H : Type) → List (DataW H) → Bool := fun _ ds => decide (uptoBulkAll ds ≤ 1048576)
def OpenSpec.upto (s : _root_.Go.ChangeSpec) : _root_.Go.OpenSpec := { _root_.Go.OpenSpec.ofChange s with cond := some uptoSmall }

/-- 'laws.FnExactConstants', WHERE WHAT IT READS IS OF BULK AT MOST 1048576: true; the input reads as it did. -/
def fnExactConstantsUptoRow : OpenClaim := { program := "ytnpdmiaancgllaa", sum := "fedd59784a672869e1afa03971b25d5b48a5394d81e98635a8c195c4e295f455", func := "loop.example/circuitswitching/laws.FnExactConstants", spec := "fnExactConstants", apart := false, narrowed := true }
def FnExactConstantsUptoSaid : Prop := fnExactConstantsUptoRow.holds Try.pinned (OpenSpec.upto fnExactConstantsSpec)

/-- 'laws.FnExactLoopMany', WHERE WHAT IT READS IS OF BULK AT MOST 1048576: true; the input reads as it did. -/
def fnExactLoopManyUptoRow : OpenClaim := { program := "ytnpdmiaancgllaa", sum := "fedd59784a672869e1afa03971b25d5b48a5394d81e98635a8c195c4e295f455", func := "loop.example/circuitswitching/laws.FnExactLoopMany", spec := "fnExactLoopMany", recurses := true, apart := false, narrowed := true }
def FnExactLoopManyUptoSaid : Prop := fnExactLoopManyUptoRow.holds Try.pinned (OpenSpec.upto fnExactLoopManySpec)

/-- 'laws.FnExactStepMany', WHERE WHAT IT READS IS OF BULK AT MOST 1048576: true; the input reads as it did. -/
def fnExactStepManyUptoRow : OpenClaim := { program := "ytnpdmiaancgllaa", sum := "fedd59784a672869e1afa03971b25d5b48a5394d81e98635a8c195c4e295f455", func := "loop.example/circuitswitching/laws.FnExactStepMany", spec := "fnExactStepMany", apart := false, narrowed := true }
def FnExactStepManyUptoSaid : Prop := fnExactStepManyUptoRow.holds Try.pinned (OpenSpec.upto fnExactStepManySpec)

/-- 'laws.FnExactStepWay', WHERE WHAT IT READS IS OF BULK AT MOST 1048576: true; the input reads as it did. -/
def fnExactStepWayUptoRow : OpenClaim := { program := "ytnpdmiaancgllaa", sum := "fedd59784a672869e1afa03971b25d5b48a5394d81e98635a8c195c4e295f455", func := "loop.example/circuitswitching/laws.FnExactStepWay", spec := "fnExactStepWay", apart := false, narrowed := true }
def FnExactStepWayUptoSaid : Prop := fnExactStepWayUptoRow.holds Try.pinned (OpenSpec.upto fnExactStepWaySpec)

/-- 'laws.FnExactPermValid', WHERE WHAT IT READS IS OF BULK AT MOST 1048576: true; the input reads as it did. -/
def fnExactPermValidUptoRow : OpenClaim := { program := "ytnpdmiaancgllaa", sum := "fedd59784a672869e1afa03971b25d5b48a5394d81e98635a8c195c4e295f455", func := "loop.example/circuitswitching/laws.FnExactPermValid", spec := "fnExactPermValid", apart := false, narrowed := true }
def FnExactPermValidUptoSaid : Prop := fnExactPermValidUptoRow.holds Try.pinned (OpenSpec.upto fnExactPermValidSpec)

/-- 'laws.FnExactPermOf', WHERE WHAT IT READS IS OF BULK AT MOST 1048576: true; the input reads as it did. -/
def fnExactPermOfUptoRow : OpenClaim := { program := "ytnpdmiaancgllaa", sum := "fedd59784a672869e1afa03971b25d5b48a5394d81e98635a8c195c4e295f455", func := "loop.example/circuitswitching/laws.FnExactPermOf", spec := "fnExactPermOf", apart := false, narrowed := true }
def FnExactPermOfUptoSaid : Prop := fnExactPermOfUptoRow.holds Try.pinned (OpenSpec.upto fnExactPermOfSpec)

/-- 'laws.FnExactPermCrosses', WHERE WHAT IT READS IS OF BULK AT MOST 1048576: true; the input reads as it did. -/
def fnExactPermCrossesUptoRow : OpenClaim := { program := "ytnpdmiaancgllaa", sum := "fedd59784a672869e1afa03971b25d5b48a5394d81e98635a8c195c4e295f455", func := "loop.example/circuitswitching/laws.FnExactPermCrosses", spec := "fnExactPermCrosses", apart := false, narrowed := true }
def FnExactPermCrossesUptoSaid : Prop := fnExactPermCrossesUptoRow.holds Try.pinned (OpenSpec.upto fnExactPermCrossesSpec)

/-- 'laws.FnExactPermThen', WHERE WHAT IT READS IS OF BULK AT MOST 1048576: true; the input reads as it did. -/
def fnExactPermThenUptoRow : OpenClaim := { program := "ytnpdmiaancgllaa", sum := "fedd59784a672869e1afa03971b25d5b48a5394d81e98635a8c195c4e295f455", func := "loop.example/circuitswitching/laws.FnExactPermThen", spec := "fnExactPermThen", apart := false, narrowed := true }
def FnExactPermThenUptoSaid : Prop := fnExactPermThenUptoRow.holds Try.pinned (OpenSpec.upto fnExactPermThenSpec)

/-- 'laws.FnExactPermCycles', WHERE WHAT IT READS IS OF BULK AT MOST 1048576: true; the input reads as it did. -/
def fnExactPermCyclesUptoRow : OpenClaim := { program := "ytnpdmiaancgllaa", sum := "fedd59784a672869e1afa03971b25d5b48a5394d81e98635a8c195c4e295f455", func := "loop.example/circuitswitching/laws.FnExactPermCycles", spec := "fnExactPermCycles", apart := false, narrowed := true }
def FnExactPermCyclesUptoSaid : Prop := fnExactPermCyclesUptoRow.holds Try.pinned (OpenSpec.upto fnExactPermCyclesSpec)

/-- 'laws.FnExactPermBack', WHERE WHAT IT READS IS OF BULK AT MOST 1048576: true; the input reads as it did. -/
def fnExactPermBackUptoRow : OpenClaim := { program := "ytnpdmiaancgllaa", sum := "fedd59784a672869e1afa03971b25d5b48a5394d81e98635a8c195c4e295f455", func := "loop.example/circuitswitching/laws.FnExactPermBack", spec := "fnExactPermBack", apart := false, narrowed := true }
def FnExactPermBackUptoSaid : Prop := fnExactPermBackUptoRow.holds Try.pinned (OpenSpec.upto fnExactPermBackSpec)

/-- 'laws.FnExactPermSwaps', WHERE WHAT IT READS IS OF BULK AT MOST 1048576: true; the input reads as it did. -/
def fnExactPermSwapsUptoRow : OpenClaim := { program := "ytnpdmiaancgllaa", sum := "fedd59784a672869e1afa03971b25d5b48a5394d81e98635a8c195c4e295f455", func := "loop.example/circuitswitching/laws.FnExactPermSwaps", spec := "fnExactPermSwaps", apart := false, narrowed := true }
def FnExactPermSwapsUptoSaid : Prop := fnExactPermSwapsUptoRow.holds Try.pinned (OpenSpec.upto fnExactPermSwapsSpec)

/-- 'laws.FnExactPermRank', WHERE WHAT IT READS IS OF BULK AT MOST 1048576: true; the input reads as it did. -/
def fnExactPermRankUptoRow : OpenClaim := { program := "ytnpdmiaancgllaa", sum := "fedd59784a672869e1afa03971b25d5b48a5394d81e98635a8c195c4e295f455", func := "loop.example/circuitswitching/laws.FnExactPermRank", spec := "fnExactPermRank", apart := false, narrowed := true }
def FnExactPermRankUptoSaid : Prop := fnExactPermRankUptoRow.holds Try.pinned (OpenSpec.upto fnExactPermRankSpec)

end Rows
end Go.Proofs.Ytnpdmiaancgllaa
