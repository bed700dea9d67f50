/-
  No cell of these rows narrows 'for every input' (looked for: loops, veiled, ifaces, maps, wideKeys, modest, calm, conditions, laid).
  DERIVED. THE GIVEN ROWS OF THIS SEAT. 10 by the template 'for every input the law returns true; each argument reads behind the call as it read before'; 0 by the template 'total and deterministic' (their statements: YtkoljbjihebifaaTotals.lean).
  GIVEN WITH THE SEED: the statements are not yours to turn. If you find one false, say at which input.
  Laid BY PROGRAM, IN A SANDBOX (cutbox-rows.mjs): the forced cells as the released guide's own fill.sh prints them over the translation 69954a5ba98b267f… (all of the seat's roots in one cut). By AI agents, Wed Nov 11 2026. No macro, syntax, notation, axiom, sorry.
-/
import Derived.Test.YtkoljbjihebifaaChecked
import GoSem.Claim
import GoSem.ClaimJoined
import GoSem.ClaimMapViews
import Derived.JoinedTies
import Derived.KernelRfl
namespace Go.Proofs.Ytkoljbjihebifaa
/- THE CELL 'sum', in the pinned program and in every row, IS THE sha256 OF THE DUMP (.gsa) THAT YtkoljbjihebifaaProg.lean LOADS. Nothing in Lean hashes anything: it is a label: what it is worth is what the hold of that sum in a sandbox is worth. -/
noncomputable def Try.pinned : Pinned := { name := "ytkoljbjihebifaa", sum := "69954a5ba98b267f01ba82adda2585db529b1403b61e0a6c55130ab73f79c7b4", checked := Try.checked }
namespace Rows
def none {H : Type} : Left H := { results := [], args := [] }

/-- 'laws.FnLoopMany': WHATEVER THE INPUT: true; the input reads as it did. -/
def fnLoopManySpec : ChangeSpec := { name := "fnLoopMany", fn := fun _ => fun
  | [d] => { results := [.lit (.bool true)], args := [d] }
  | _ => none }
def fnLoopManyRow : OpenClaim := { program := "ytkoljbjihebifaa", sum := "69954a5ba98b267f01ba82adda2585db529b1403b61e0a6c55130ab73f79c7b4", func := "loop.example/circuitswitching/laws.FnLoopMany", spec := "fnLoopMany", recurses := true, apart := false }
def FnLoopManySaid : Prop := fnLoopManyRow.holds Try.pinned (OpenSpec.ofChange fnLoopManySpec)

/-- ITS FALSE NEIGHBOUR: 'it returns false'. Refute it at one input. -/
def fnLoopManyWrong : ChangeSpec := { name := "fnLoopMany", fn := fun _ => fun
  | [d] => { results := [.lit (.bool false)], args := [d] }
  | _ => none }
def FnLoopManyWrongFalsely : Prop := fnLoopManyRow.holds Try.pinned (OpenSpec.ofChange fnLoopManyWrong)

/-- 'laws.FnStepMany': WHATEVER THE INPUT: true; the input reads as it did. -/
def fnStepManySpec : ChangeSpec := { name := "fnStepMany", fn := fun _ => fun
  | [d] => { results := [.lit (.bool true)], args := [d] }
  | _ => none }
def fnStepManyRow : OpenClaim := { program := "ytkoljbjihebifaa", sum := "69954a5ba98b267f01ba82adda2585db529b1403b61e0a6c55130ab73f79c7b4", func := "loop.example/circuitswitching/laws.FnStepMany", spec := "fnStepMany", apart := false }
def FnStepManySaid : Prop := fnStepManyRow.holds Try.pinned (OpenSpec.ofChange fnStepManySpec)

/-- ITS FALSE NEIGHBOUR: 'it returns false'. Refute it at one input. -/
def fnStepManyWrong : ChangeSpec := { name := "fnStepMany", fn := fun _ => fun
  | [d] => { results := [.lit (.bool false)], args := [d] }
  | _ => none }
def FnStepManyWrongFalsely : Prop := fnStepManyRow.holds Try.pinned (OpenSpec.ofChange fnStepManyWrong)

/-- 'laws.FnPermValid': WHATEVER THE INPUT: true; the input reads as it did. -/
def fnPermValidSpec : ChangeSpec := { name := "fnPermValid", fn := fun _ => fun
  | [d] => { results := [.lit (.bool true)], args := [d] }
  | _ => none }
def fnPermValidRow : OpenClaim := { program := "ytkoljbjihebifaa", sum := "69954a5ba98b267f01ba82adda2585db529b1403b61e0a6c55130ab73f79c7b4", func := "loop.example/circuitswitching/laws.FnPermValid", spec := "fnPermValid", apart := false }
def FnPermValidSaid : Prop := fnPermValidRow.holds Try.pinned (OpenSpec.ofChange fnPermValidSpec)

/-- ITS FALSE NEIGHBOUR: 'it returns false'. Refute it at one input. -/
def fnPermValidWrong : ChangeSpec := { name := "fnPermValid", fn := fun _ => fun
  | [d] => { results := [.lit (.bool false)], args := [d] }
  | _ => none }
def FnPermValidWrongFalsely : Prop := fnPermValidRow.holds Try.pinned (OpenSpec.ofChange fnPermValidWrong)

/-- 'laws.FnPermOf': WHATEVER THE INPUT: true; the input reads as it did. -/
def fnPermOfSpec : ChangeSpec := { name := "fnPermOf", fn := fun _ => fun
  | [d] => { results := [.lit (.bool true)], args := [d] }
  | _ => none }
def fnPermOfRow : OpenClaim := { program := "ytkoljbjihebifaa", sum := "69954a5ba98b267f01ba82adda2585db529b1403b61e0a6c55130ab73f79c7b4", func := "loop.example/circuitswitching/laws.FnPermOf", spec := "fnPermOf", apart := false }
def FnPermOfSaid : Prop := fnPermOfRow.holds Try.pinned (OpenSpec.ofChange fnPermOfSpec)

/-- ITS FALSE NEIGHBOUR: 'it returns false'. Refute it at one input. -/
def fnPermOfWrong : ChangeSpec := { name := "fnPermOf", fn := fun _ => fun
  | [d] => { results := [.lit (.bool false)], args := [d] }
  | _ => none }
def FnPermOfWrongFalsely : Prop := fnPermOfRow.holds Try.pinned (OpenSpec.ofChange fnPermOfWrong)

/-- 'laws.FnPermBack': WHATEVER THE INPUT: true; the input reads as it did. -/
def fnPermBackSpec : ChangeSpec := { name := "fnPermBack", fn := fun _ => fun
  | [d] => { results := [.lit (.bool true)], args := [d] }
  | _ => none }
def fnPermBackRow : OpenClaim := { program := "ytkoljbjihebifaa", sum := "69954a5ba98b267f01ba82adda2585db529b1403b61e0a6c55130ab73f79c7b4", func := "loop.example/circuitswitching/laws.FnPermBack", spec := "fnPermBack", apart := false }
def FnPermBackSaid : Prop := fnPermBackRow.holds Try.pinned (OpenSpec.ofChange fnPermBackSpec)

/-- ITS FALSE NEIGHBOUR: 'it returns false'. Refute it at one input. -/
def fnPermBackWrong : ChangeSpec := { name := "fnPermBack", fn := fun _ => fun
  | [d] => { results := [.lit (.bool false)], args := [d] }
  | _ => none }
def FnPermBackWrongFalsely : Prop := fnPermBackRow.holds Try.pinned (OpenSpec.ofChange fnPermBackWrong)

/-- 'laws.FnPermThen': WHATEVER THE INPUT: true; the input reads as it did. -/
def fnPermThenSpec : ChangeSpec := { name := "fnPermThen", fn := fun _ => fun
  | [d1, d2] => { results := [.lit (.bool true)], args := [d1, d2] }
  | _ => none }
def fnPermThenRow : OpenClaim := { program := "ytkoljbjihebifaa", sum := "69954a5ba98b267f01ba82adda2585db529b1403b61e0a6c55130ab73f79c7b4", func := "loop.example/circuitswitching/laws.FnPermThen", spec := "fnPermThen", apart := false }
def FnPermThenSaid : Prop := fnPermThenRow.holds Try.pinned (OpenSpec.ofChange fnPermThenSpec)

/-- ITS FALSE NEIGHBOUR: 'it returns false'. Refute it at one input. -/
def fnPermThenWrong : ChangeSpec := { name := "fnPermThen", fn := fun _ => fun
  | [d1, d2] => { results := [.lit (.bool false)], args := [d1, d2] }
  | _ => none }
def FnPermThenWrongFalsely : Prop := fnPermThenRow.holds Try.pinned (OpenSpec.ofChange fnPermThenWrong)

/-- 'laws.FnPermCycles': WHATEVER THE INPUT: true; the input reads as it did. -/
def fnPermCyclesSpec : ChangeSpec := { name := "fnPermCycles", fn := fun _ => fun
  | [d] => { results := [.lit (.bool true)], args := [d] }
  | _ => none }
def fnPermCyclesRow : OpenClaim := { program := "ytkoljbjihebifaa", sum := "69954a5ba98b267f01ba82adda2585db529b1403b61e0a6c55130ab73f79c7b4", func := "loop.example/circuitswitching/laws.FnPermCycles", spec := "fnPermCycles", apart := false }
def FnPermCyclesSaid : Prop := fnPermCyclesRow.holds Try.pinned (OpenSpec.ofChange fnPermCyclesSpec)

/-- ITS FALSE NEIGHBOUR: 'it returns false'. Refute it at one input. -/
def fnPermCyclesWrong : ChangeSpec := { name := "fnPermCycles", fn := fun _ => fun
  | [d] => { results := [.lit (.bool false)], args := [d] }
  | _ => none }
def FnPermCyclesWrongFalsely : Prop := fnPermCyclesRow.holds Try.pinned (OpenSpec.ofChange fnPermCyclesWrong)

/-- 'laws.FnPermSwaps': WHATEVER THE INPUT: true; the input reads as it did. -/
def fnPermSwapsSpec : ChangeSpec := { name := "fnPermSwaps", fn := fun _ => fun
  | [d] => { results := [.lit (.bool true)], args := [d] }
  | _ => none }
def fnPermSwapsRow : OpenClaim := { program := "ytkoljbjihebifaa", sum := "69954a5ba98b267f01ba82adda2585db529b1403b61e0a6c55130ab73f79c7b4", func := "loop.example/circuitswitching/laws.FnPermSwaps", spec := "fnPermSwaps", apart := false }
def FnPermSwapsSaid : Prop := fnPermSwapsRow.holds Try.pinned (OpenSpec.ofChange fnPermSwapsSpec)

/-- ITS FALSE NEIGHBOUR: 'it returns false'. Refute it at one input. -/
def fnPermSwapsWrong : ChangeSpec := { name := "fnPermSwaps", fn := fun _ => fun
  | [d] => { results := [.lit (.bool false)], args := [d] }
  | _ => none }
def FnPermSwapsWrongFalsely : Prop := fnPermSwapsRow.holds Try.pinned (OpenSpec.ofChange fnPermSwapsWrong)

/-- 'laws.FnPermCrosses': WHATEVER THE INPUT: true; the input reads as it did. -/
def fnPermCrossesSpec : ChangeSpec := { name := "fnPermCrosses", fn := fun _ => fun
  | [d] => { results := [.lit (.bool true)], args := [d] }
  | _ => none }
def fnPermCrossesRow : OpenClaim := { program := "ytkoljbjihebifaa", sum := "69954a5ba98b267f01ba82adda2585db529b1403b61e0a6c55130ab73f79c7b4", func := "loop.example/circuitswitching/laws.FnPermCrosses", spec := "fnPermCrosses", apart := false }
def FnPermCrossesSaid : Prop := fnPermCrossesRow.holds Try.pinned (OpenSpec.ofChange fnPermCrossesSpec)

/-- ITS FALSE NEIGHBOUR: 'it returns false'. Refute it at one input. -/
def fnPermCrossesWrong : ChangeSpec := { name := "fnPermCrosses", fn := fun _ => fun
  | [d] => { results := [.lit (.bool false)], args := [d] }
  | _ => none }
def FnPermCrossesWrongFalsely : Prop := fnPermCrossesRow.holds Try.pinned (OpenSpec.ofChange fnPermCrossesWrong)

/-- 'laws.FnPermRank': WHATEVER THE INPUT: true; the input reads as it did. -/
def fnPermRankSpec : ChangeSpec := { name := "fnPermRank", fn := fun _ => fun
  | [d] => { results := [.lit (.bool true)], args := [d] }
  | _ => none }
def fnPermRankRow : OpenClaim := { program := "ytkoljbjihebifaa", sum := "69954a5ba98b267f01ba82adda2585db529b1403b61e0a6c55130ab73f79c7b4", func := "loop.example/circuitswitching/laws.FnPermRank", spec := "fnPermRank", apart := false }
def FnPermRankSaid : Prop := fnPermRankRow.holds Try.pinned (OpenSpec.ofChange fnPermRankSpec)

/-- ITS FALSE NEIGHBOUR: 'it returns false'. Refute it at one input. -/
def fnPermRankWrong : ChangeSpec := { name := "fnPermRank", fn := fun _ => fun
  | [d] => { results := [.lit (.bool false)], args := [d] }
  | _ => none }
def FnPermRankWrongFalsely : Prop := fnPermRankRow.holds Try.pinned (OpenSpec.ofChange fnPermRankWrong)

/- THE SECOND FORM. 'bulk': how many values and letters a reading holds, each counted each time it is reached (what is shared counts as often as it is met; a slice's spare places count too). A statement '..UptoSaid' is the law's where the arguments, and the package variables that the reading takes, are together of bulk at most 1048576: NARROWER than '..Said'. Prove '..Said' where nothing that the law and all that it calls make is longer than what came in: it says more and counts as full. Else prove '..UptoSaid'. A law counts once. -/
mutual
def uptoBulk {H : Type} : DataW H → Nat
  | .lit (.string bytes) => bytes.length + 1
  | .lit _ => 1
  | .nil => 1
  | .ptr d => uptoBulk d + 1
  | .slice elems spare => uptoBulkAll elems + uptoBulkAll spare + 1
  | .agg parts => uptoBulkAll parts + 1
  | .iface _ d => uptoBulk d + 1
  | .map entries => uptoBulkEntries entries + 1
  | .held _ => 1
def uptoBulkAll {H : Type} : List (DataW H) → Nat
  | [] => 0
  | d :: r => uptoBulk d + uptoBulkAll r
def uptoBulkEntries {H : Type} : List (Lit × DataW H) → Nat
  | [] => 0
  | x :: r => uptoBulkEntry x + uptoBulkEntries r
def uptoBulkEntry {H : Type} : Lit × DataW H → Nat
  | (.string bytes, d) => bytes.length + uptoBulk d + 1
  | (_, d) => uptoBulk d + 1
 end
def uptoSmall : (H : Type) → List (DataW H) → Bool := fun _ ds => decide (uptoBulkAll ds ≤ 1048576)
def OpenSpec.upto (s : _root_.Go.ChangeSpec) : _root_.Go.OpenSpec := { _root_.Go.OpenSpec.ofChange s with cond := some uptoSmall }

/-- 'laws.FnLoopMany', WHERE WHAT IT READS IS OF BULK AT MOST 1048576: true; the input reads as it did. -/
def fnLoopManyUptoRow : OpenClaim := { program := "ytkoljbjihebifaa", sum := "69954a5ba98b267f01ba82adda2585db529b1403b61e0a6c55130ab73f79c7b4", func := "loop.example/circuitswitching/laws.FnLoopMany", spec := "fnLoopMany", recurses := true, apart := false, narrowed := true }
def FnLoopManyUptoSaid : Prop := fnLoopManyUptoRow.holds Try.pinned (OpenSpec.upto fnLoopManySpec)

/-- 'laws.FnStepMany', WHERE WHAT IT READS IS OF BULK AT MOST 1048576: true; the input reads as it did. -/
def fnStepManyUptoRow : OpenClaim := { program := "ytkoljbjihebifaa", sum := "69954a5ba98b267f01ba82adda2585db529b1403b61e0a6c55130ab73f79c7b4", func := "loop.example/circuitswitching/laws.FnStepMany", spec := "fnStepMany", apart := false, narrowed := true }
def FnStepManyUptoSaid : Prop := fnStepManyUptoRow.holds Try.pinned (OpenSpec.upto fnStepManySpec)

/-- 'laws.FnPermValid', WHERE WHAT IT READS IS OF BULK AT MOST 1048576: true; the input reads as it did. -/
def fnPermValidUptoRow : OpenClaim := { program := "ytkoljbjihebifaa", sum := "69954a5ba98b267f01ba82adda2585db529b1403b61e0a6c55130ab73f79c7b4", func := "loop.example/circuitswitching/laws.FnPermValid", spec := "fnPermValid", apart := false, narrowed := true }
def FnPermValidUptoSaid : Prop := fnPermValidUptoRow.holds Try.pinned (OpenSpec.upto fnPermValidSpec)

/-- 'laws.FnPermOf', WHERE WHAT IT READS IS OF BULK AT MOST 1048576: true; the input reads as it did. -/
def fnPermOfUptoRow : OpenClaim := { program := "ytkoljbjihebifaa", sum := "69954a5ba98b267f01ba82adda2585db529b1403b61e0a6c55130ab73f79c7b4", func := "loop.example/circuitswitching/laws.FnPermOf", spec := "fnPermOf", apart := false, narrowed := true }
def FnPermOfUptoSaid : Prop := fnPermOfUptoRow.holds Try.pinned (OpenSpec.upto fnPermOfSpec)

/-- 'laws.FnPermBack', WHERE WHAT IT READS IS OF BULK AT MOST 1048576: true; the input reads as it did. -/
def fnPermBackUptoRow : OpenClaim := { program := "ytkoljbjihebifaa", sum := "69954a5ba98b267f01ba82adda2585db529b1403b61e0a6c55130ab73f79c7b4", func := "loop.example/circuitswitching/laws.FnPermBack", spec := "fnPermBack", apart := false, narrowed := true }
def FnPermBackUptoSaid : Prop := fnPermBackUptoRow.holds Try.pinned (OpenSpec.upto fnPermBackSpec)

/-- 'laws.FnPermThen', WHERE WHAT IT READS IS OF BULK AT MOST 1048576: true; the input reads as it did. -/
def fnPermThenUptoRow : OpenClaim := { program := "ytkoljbjihebifaa", sum := "69954a5ba98b267f01ba82adda2585db529b1403b61e0a6c55130ab73f79c7b4", func := "loop.example/circuitswitching/laws.FnPermThen", spec := "fnPermThen", apart := false, narrowed := true }
def FnPermThenUptoSaid : Prop := fnPermThenUptoRow.holds Try.pinned (OpenSpec.upto fnPermThenSpec)

/-- 'laws.FnPermCycles', WHERE WHAT IT READS IS OF BULK AT MOST 1048576: true; the input reads as it did. -/
def fnPermCyclesUptoRow : OpenClaim := { program := "ytkoljbjihebifaa", sum := "69954a5ba98b267f01ba82adda2585db529b1403b61e0a6c55130ab73f79c7b4", func := "loop.example/circuitswitching/laws.FnPermCycles", spec := "fnPermCycles", apart := false, narrowed := true }
def FnPermCyclesUptoSaid : Prop := fnPermCyclesUptoRow.holds Try.pinned (OpenSpec.upto fnPermCyclesSpec)

/-- 'laws.FnPermSwaps', WHERE WHAT IT READS IS OF BULK AT MOST 1048576: true; the input reads as it did. -/
def fnPermSwapsUptoRow : OpenClaim := { program := "ytkoljbjihebifaa", sum := "69954a5ba98b267f01ba82adda2585db529b1403b61e0a6c55130ab73f79c7b4", func := "loop.example/circuitswitching/laws.FnPermSwaps", spec := "fnPermSwaps", apart := false, narrowed := true }
def FnPermSwapsUptoSaid : Prop := fnPermSwapsUptoRow.holds Try.pinned (OpenSpec.upto fnPermSwapsSpec)

/-- 'laws.FnPermCrosses', WHERE WHAT IT READS IS OF BULK AT MOST 1048576: true; the input reads as it did. -/
def fnPermCrossesUptoRow : OpenClaim := { program := "ytkoljbjihebifaa", sum := "69954a5ba98b267f01ba82adda2585db529b1403b61e0a6c55130ab73f79c7b4", func := "loop.example/circuitswitching/laws.FnPermCrosses", spec := "fnPermCrosses", apart := false, narrowed := true }
def FnPermCrossesUptoSaid : Prop := fnPermCrossesUptoRow.holds Try.pinned (OpenSpec.upto fnPermCrossesSpec)

/-- 'laws.FnPermRank', WHERE WHAT IT READS IS OF BULK AT MOST 1048576: true; the input reads as it did. -/
def fnPermRankUptoRow : OpenClaim := { program := "ytkoljbjihebifaa", sum := "69954a5ba98b267f01ba82adda2585db529b1403b61e0a6c55130ab73f79c7b4", func := "loop.example/circuitswitching/laws.FnPermRank", spec := "fnPermRank", apart := false, narrowed := true }
def FnPermRankUptoSaid : Prop := fnPermRankUptoRow.holds Try.pinned (OpenSpec.upto fnPermRankSpec)

end Rows
end Go.Proofs.Ytkoljbjihebifaa
