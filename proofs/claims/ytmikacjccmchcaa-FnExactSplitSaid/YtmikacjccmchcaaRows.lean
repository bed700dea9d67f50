/-
  No cell of these rows narrows 'for every input' (looked for: loops, veiled, ifaces, maps, wideKeys, modest, calm, conditions, laid).
  DERIVED. THE GIVEN ROWS OF THIS SEAT. 12 by the template 'for every input the law returns true; each argument reads behind the call as it read before'; 0 by the template 'total and deterministic' (their statements: YtmikacjccmchcaaTotals.lean).
  GIVEN WITH THE SEED: the statements are not yours to turn. If you find one false, say at which input.
  Laid BY PROGRAM, IN A SANDBOX (cutbox-rows.mjs): the forced cells as the released guide's own fill.sh prints them over the translation 31121949f8c832f7… (all of the seat's roots in one cut). By AI agents, Wed Nov 11 2026. No macro, syntax, notation, axiom, sorry.
-/
import Derived.Test.YtmikacjccmchcaaChecked
import GoSem.Claim
import GoSem.ClaimJoined
import GoSem.ClaimMapViews
import Derived.JoinedTies
import Derived.KernelRfl
namespace Go.Proofs.Ytmikacjccmchcaa
/- THE CELL 'sum', in the pinned program and in every row, IS THE sha256 OF THE DUMP (.gsa) THAT YtmikacjccmchcaaProg.lean LOADS. Nothing in Lean hashes anything: it is a label: what it is worth is what the hold of that sum in a sandbox is worth. -/
noncomputable def Try.pinned : Pinned := { name := "ytmikacjccmchcaa", sum := "31121949f8c832f792c56b13665352dc7fa4db8a94d729a2af6c22b3248e8bc8", checked := Try.checked }
namespace Rows
def none {H : Type} : Left H := { results := [], args := [] }

/-- 'laws.FnExactSplit': WHATEVER THE INPUT: true; the input reads as it did. -/
def fnExactSplitSpec : ChangeSpec := { name := "fnExactSplit", fn := fun _ => fun
  | [d] => { results := [.lit (.bool true)], args := [d] }
  | _ => none }
def fnExactSplitRow : OpenClaim := { program := "ytmikacjccmchcaa", sum := "31121949f8c832f792c56b13665352dc7fa4db8a94d729a2af6c22b3248e8bc8", func := "loop.example/circuitswitching/laws.FnExactSplit", spec := "fnExactSplit", recurses := true, apart := false }
def FnExactSplitSaid : Prop := fnExactSplitRow.holds Try.pinned (OpenSpec.ofChange fnExactSplitSpec)

/-- ITS FALSE NEIGHBOUR: 'it returns false'. Refute it at one input. -/
def fnExactSplitWrong : ChangeSpec := { name := "fnExactSplit", fn := fun _ => fun
  | [d] => { results := [.lit (.bool false)], args := [d] }
  | _ => none }
def FnExactSplitWrongFalsely : Prop := fnExactSplitRow.holds Try.pinned (OpenSpec.ofChange fnExactSplitWrong)

/-- 'laws.FnEven': WHATEVER THE INPUT: true; the input reads as it did. -/
def fnEvenSpec : ChangeSpec := { name := "fnEven", fn := fun _ => fun
  | [d] => { results := [.lit (.bool true)], args := [d] }
  | _ => none }
def fnEvenRow : OpenClaim := { program := "ytmikacjccmchcaa", sum := "31121949f8c832f792c56b13665352dc7fa4db8a94d729a2af6c22b3248e8bc8", func := "loop.example/circuitswitching/laws.FnEven", spec := "fnEven", recurses := true, apart := false }
def FnEvenSaid : Prop := fnEvenRow.holds Try.pinned (OpenSpec.ofChange fnEvenSpec)

/-- ITS FALSE NEIGHBOUR: 'it returns false'. Refute it at one input. -/
def fnEvenWrong : ChangeSpec := { name := "fnEven", fn := fun _ => fun
  | [d] => { results := [.lit (.bool false)], args := [d] }
  | _ => none }
def FnEvenWrongFalsely : Prop := fnEvenRow.holds Try.pinned (OpenSpec.ofChange fnEvenWrong)

/-- 'laws.FnExactTrafficValid': WHATEVER THE INPUT: true; the input reads as it did. -/
def fnExactTrafficValidSpec : ChangeSpec := { name := "fnExactTrafficValid", fn := fun _ => fun
  | [d] => { results := [.lit (.bool true)], args := [d] }
  | _ => none }
def fnExactTrafficValidRow : OpenClaim := { program := "ytmikacjccmchcaa", sum := "31121949f8c832f792c56b13665352dc7fa4db8a94d729a2af6c22b3248e8bc8", func := "loop.example/circuitswitching/laws.FnExactTrafficValid", spec := "fnExactTrafficValid", apart := false }
def FnExactTrafficValidSaid : Prop := fnExactTrafficValidRow.holds Try.pinned (OpenSpec.ofChange fnExactTrafficValidSpec)

/-- ITS FALSE NEIGHBOUR: 'it returns false'. Refute it at one input. -/
def fnExactTrafficValidWrong : ChangeSpec := { name := "fnExactTrafficValid", fn := fun _ => fun
  | [d] => { results := [.lit (.bool false)], args := [d] }
  | _ => none }
def FnExactTrafficValidWrongFalsely : Prop := fnExactTrafficValidRow.holds Try.pinned (OpenSpec.ofChange fnExactTrafficValidWrong)

/-- 'laws.FnSplit': WHATEVER THE INPUT: true; the input reads as it did. -/
def fnSplitSpec : ChangeSpec := { name := "fnSplit", fn := fun _ => fun
  | [d] => { results := [.lit (.bool true)], args := [d] }
  | _ => none }
def fnSplitRow : OpenClaim := { program := "ytmikacjccmchcaa", sum := "31121949f8c832f792c56b13665352dc7fa4db8a94d729a2af6c22b3248e8bc8", func := "loop.example/circuitswitching/laws.FnSplit", spec := "fnSplit", recurses := true, apart := false }
def FnSplitSaid : Prop := fnSplitRow.holds Try.pinned (OpenSpec.ofChange fnSplitSpec)

/-- ITS FALSE NEIGHBOUR: 'it returns false'. Refute it at one input. -/
def fnSplitWrong : ChangeSpec := { name := "fnSplit", fn := fun _ => fun
  | [d] => { results := [.lit (.bool false)], args := [d] }
  | _ => none }
def FnSplitWrongFalsely : Prop := fnSplitRow.holds Try.pinned (OpenSpec.ofChange fnSplitWrong)

/-- 'laws.FnExactLineMost': WHATEVER THE INPUT: true; the input reads as it did. -/
def fnExactLineMostSpec : ChangeSpec := { name := "fnExactLineMost", fn := fun _ => fun
  | [d] => { results := [.lit (.bool true)], args := [d] }
  | _ => none }
def fnExactLineMostRow : OpenClaim := { program := "ytmikacjccmchcaa", sum := "31121949f8c832f792c56b13665352dc7fa4db8a94d729a2af6c22b3248e8bc8", func := "loop.example/circuitswitching/laws.FnExactLineMost", spec := "fnExactLineMost", apart := false }
def FnExactLineMostSaid : Prop := fnExactLineMostRow.holds Try.pinned (OpenSpec.ofChange fnExactLineMostSpec)

/-- ITS FALSE NEIGHBOUR: 'it returns false'. Refute it at one input. -/
def fnExactLineMostWrong : ChangeSpec := { name := "fnExactLineMost", fn := fun _ => fun
  | [d] => { results := [.lit (.bool false)], args := [d] }
  | _ => none }
def FnExactLineMostWrongFalsely : Prop := fnExactLineMostRow.holds Try.pinned (OpenSpec.ofChange fnExactLineMostWrong)

/-- 'laws.FnExactEven': WHATEVER THE INPUT: true; the input reads as it did. -/
def fnExactEvenSpec : ChangeSpec := { name := "fnExactEven", fn := fun _ => fun
  | [d] => { results := [.lit (.bool true)], args := [d] }
  | _ => none }
def fnExactEvenRow : OpenClaim := { program := "ytmikacjccmchcaa", sum := "31121949f8c832f792c56b13665352dc7fa4db8a94d729a2af6c22b3248e8bc8", func := "loop.example/circuitswitching/laws.FnExactEven", spec := "fnExactEven", apart := false }
def FnExactEvenSaid : Prop := fnExactEvenRow.holds Try.pinned (OpenSpec.ofChange fnExactEvenSpec)

/-- ITS FALSE NEIGHBOUR: 'it returns false'. Refute it at one input. -/
def fnExactEvenWrong : ChangeSpec := { name := "fnExactEven", fn := fun _ => fun
  | [d] => { results := [.lit (.bool false)], args := [d] }
  | _ => none }
def FnExactEvenWrongFalsely : Prop := fnExactEvenRow.holds Try.pinned (OpenSpec.ofChange fnExactEvenWrong)

/-- 'laws.FnTrafficValid': WHATEVER THE INPUT: true; the input reads as it did. -/
def fnTrafficValidSpec : ChangeSpec := { name := "fnTrafficValid", fn := fun _ => fun
  | [d] => { results := [.lit (.bool true)], args := [d] }
  | _ => none }
def fnTrafficValidRow : OpenClaim := { program := "ytmikacjccmchcaa", sum := "31121949f8c832f792c56b13665352dc7fa4db8a94d729a2af6c22b3248e8bc8", func := "loop.example/circuitswitching/laws.FnTrafficValid", spec := "fnTrafficValid", apart := false }
def FnTrafficValidSaid : Prop := fnTrafficValidRow.holds Try.pinned (OpenSpec.ofChange fnTrafficValidSpec)

/-- ITS FALSE NEIGHBOUR: 'it returns false'. Refute it at one input. -/
def fnTrafficValidWrong : ChangeSpec := { name := "fnTrafficValid", fn := fun _ => fun
  | [d] => { results := [.lit (.bool false)], args := [d] }
  | _ => none }
def FnTrafficValidWrongFalsely : Prop := fnTrafficValidRow.holds Try.pinned (OpenSpec.ofChange fnTrafficValidWrong)

/-- 'laws.FnExactLoad': WHATEVER THE INPUT: true; the input reads as it did. -/
def fnExactLoadSpec : ChangeSpec := { name := "fnExactLoad", fn := fun _ => fun
  | [d1, d2] => { results := [.lit (.bool true)], args := [d1, d2] }
  | _ => none }
def fnExactLoadRow : OpenClaim := { program := "ytmikacjccmchcaa", sum := "31121949f8c832f792c56b13665352dc7fa4db8a94d729a2af6c22b3248e8bc8", func := "loop.example/circuitswitching/laws.FnExactLoad", spec := "fnExactLoad", apart := false }
def FnExactLoadSaid : Prop := fnExactLoadRow.holds Try.pinned (OpenSpec.ofChange fnExactLoadSpec)

/-- ITS FALSE NEIGHBOUR: 'it returns false'. Refute it at one input. -/
def fnExactLoadWrong : ChangeSpec := { name := "fnExactLoad", fn := fun _ => fun
  | [d1, d2] => { results := [.lit (.bool false)], args := [d1, d2] }
  | _ => none }
def FnExactLoadWrongFalsely : Prop := fnExactLoadRow.holds Try.pinned (OpenSpec.ofChange fnExactLoadWrong)

/-- 'laws.FnLineMost': WHATEVER THE INPUT: true; the input reads as it did. -/
def fnLineMostSpec : ChangeSpec := { name := "fnLineMost", fn := fun _ => fun
  | [d] => { results := [.lit (.bool true)], args := [d] }
  | _ => none }
def fnLineMostRow : OpenClaim := { program := "ytmikacjccmchcaa", sum := "31121949f8c832f792c56b13665352dc7fa4db8a94d729a2af6c22b3248e8bc8", func := "loop.example/circuitswitching/laws.FnLineMost", spec := "fnLineMost", apart := false }
def FnLineMostSaid : Prop := fnLineMostRow.holds Try.pinned (OpenSpec.ofChange fnLineMostSpec)

/-- ITS FALSE NEIGHBOUR: 'it returns false'. Refute it at one input. -/
def fnLineMostWrong : ChangeSpec := { name := "fnLineMost", fn := fun _ => fun
  | [d] => { results := [.lit (.bool false)], args := [d] }
  | _ => none }
def FnLineMostWrongFalsely : Prop := fnLineMostRow.holds Try.pinned (OpenSpec.ofChange fnLineMostWrong)

/-- 'laws.FnExactMatchFirst': WHATEVER THE INPUT: true; the input reads as it did. -/
def fnExactMatchFirstSpec : ChangeSpec := { name := "fnExactMatchFirst", fn := fun _ => fun
  | [d] => { results := [.lit (.bool true)], args := [d] }
  | _ => none }
def fnExactMatchFirstRow : OpenClaim := { program := "ytmikacjccmchcaa", sum := "31121949f8c832f792c56b13665352dc7fa4db8a94d729a2af6c22b3248e8bc8", func := "loop.example/circuitswitching/laws.FnExactMatchFirst", spec := "fnExactMatchFirst", recurses := true, apart := false }
def FnExactMatchFirstSaid : Prop := fnExactMatchFirstRow.holds Try.pinned (OpenSpec.ofChange fnExactMatchFirstSpec)

/-- ITS FALSE NEIGHBOUR: 'it returns false'. Refute it at one input. -/
def fnExactMatchFirstWrong : ChangeSpec := { name := "fnExactMatchFirst", fn := fun _ => fun
  | [d] => { results := [.lit (.bool false)], args := [d] }
  | _ => none }
def FnExactMatchFirstWrongFalsely : Prop := fnExactMatchFirstRow.holds Try.pinned (OpenSpec.ofChange fnExactMatchFirstWrong)

/-- 'laws.FnLoad': WHATEVER THE INPUT: true; the input reads as it did. -/
def fnLoadSpec : ChangeSpec := { name := "fnLoad", fn := fun _ => fun
  | [d] => { results := [.lit (.bool true)], args := [d] }
  | _ => none }
def fnLoadRow : OpenClaim := { program := "ytmikacjccmchcaa", sum := "31121949f8c832f792c56b13665352dc7fa4db8a94d729a2af6c22b3248e8bc8", func := "loop.example/circuitswitching/laws.FnLoad", spec := "fnLoad", apart := false }
def FnLoadSaid : Prop := fnLoadRow.holds Try.pinned (OpenSpec.ofChange fnLoadSpec)

/-- ITS FALSE NEIGHBOUR: 'it returns false'. Refute it at one input. -/
def fnLoadWrong : ChangeSpec := { name := "fnLoad", fn := fun _ => fun
  | [d] => { results := [.lit (.bool false)], args := [d] }
  | _ => none }
def FnLoadWrongFalsely : Prop := fnLoadRow.holds Try.pinned (OpenSpec.ofChange fnLoadWrong)

/-- 'laws.FnMatchFirst': WHATEVER THE INPUT: true; the input reads as it did. -/
def fnMatchFirstSpec : ChangeSpec := { name := "fnMatchFirst", fn := fun _ => fun
  | [d] => { results := [.lit (.bool true)], args := [d] }
  | _ => none }
def fnMatchFirstRow : OpenClaim := { program := "ytmikacjccmchcaa", sum := "31121949f8c832f792c56b13665352dc7fa4db8a94d729a2af6c22b3248e8bc8", func := "loop.example/circuitswitching/laws.FnMatchFirst", spec := "fnMatchFirst", recurses := true, apart := false }
def FnMatchFirstSaid : Prop := fnMatchFirstRow.holds Try.pinned (OpenSpec.ofChange fnMatchFirstSpec)

/-- ITS FALSE NEIGHBOUR: 'it returns false'. Refute it at one input. -/
def fnMatchFirstWrong : ChangeSpec := { name := "fnMatchFirst", fn := fun _ => fun
  | [d] => { results := [.lit (.bool false)], args := [d] }
  | _ => none }
def FnMatchFirstWrongFalsely : Prop := fnMatchFirstRow.holds Try.pinned (OpenSpec.ofChange fnMatchFirstWrong)

/- THE SECOND FORM. 'bulk': how many values and letters a reading holds, each counted each time it is reached (what is shared counts as often as it is met; a slice's spare places count too). A statement '..UptoSaid' is the law's where the arguments, and the package variables that the reading takes, are together of bulk at most 1048576: NARROWER than '..Said'. Prove '..Said' where nothing that the law and all that it calls make is longer than what came in: it says more and counts as full. Else prove '..UptoSaid'. A law counts once. -/
mutual
def uptoBulk {H : Type} : DataW H → Nat
  | .lit (.string bytes) => bytes.length + 1
  | .lit _ => 1
  | .nil => 1
  | .ptr d => uptoBulk d + 1
  | .slice elems spare => uptoBulkAll elems + uptoBulkAll spare + 1
  | .agg parts => uptoBulkAll parts + 1
  | .iface _ d => uptoBulk d + 1
  | .map entries => uptoBulkEntries entries + 1
  | .held _ => 1
def uptoBulkAll {H : Type} : List (DataW H) → Nat
  | [] => 0
  | d :: r => uptoBulk d + uptoBulkAll r
def uptoBulkEntries {H : Type} : List (Lit × DataW H) → Nat
  | [] => 0
  | x :: r => uptoBulkEntry x + uptoBulkEntries r
def uptoBulkEntry {H : Type} : Lit × DataW H → Nat
  | (.string bytes, d) => bytes.length + uptoBulk d + 1
  | (_, d) => uptoBulk d + 1
 end
def uptoSmall : (H : Type) → List (DataW H) → Bool := fun _ ds => decide (uptoBulkAll ds ≤ 1048576)
def OpenSpec.upto (s : _root_.Go.ChangeSpec) : _root_.Go.OpenSpec := { _root_.Go.OpenSpec.ofChange s with cond := some uptoSmall }

/-- 'laws.FnExactSplit', WHERE WHAT IT READS IS OF BULK AT MOST 1048576: true; the input reads as it did. -/
def fnExactSplitUptoRow : OpenClaim := { program := "ytmikacjccmchcaa", sum := "31121949f8c832f792c56b13665352dc7fa4db8a94d729a2af6c22b3248e8bc8", func := "loop.example/circuitswitching/laws.FnExactSplit", spec := "fnExactSplit", recurses := true, apart := false, narrowed := true }
def FnExactSplitUptoSaid : Prop := fnExactSplitUptoRow.holds Try.pinned (OpenSpec.upto fnExactSplitSpec)

/-- 'laws.FnEven', WHERE WHAT IT READS IS OF BULK AT MOST 1048576: true; the input reads as it did. -/
def fnEvenUptoRow : OpenClaim := { program := "ytmikacjccmchcaa", sum := "31121949f8c832f792c56b13665352dc7fa4db8a94d729a2af6c22b3248e8bc8", func := "loop.example/circuitswitching/laws.FnEven", spec := "fnEven", recurses := true, apart := false, narrowed := true }
def FnEvenUptoSaid : Prop := fnEvenUptoRow.holds Try.pinned (OpenSpec.upto fnEvenSpec)

/-- 'laws.FnExactTrafficValid', WHERE WHAT IT READS IS OF BULK AT MOST 1048576: true; the input reads as it did. -/
def fnExactTrafficValidUptoRow : OpenClaim := { program := "ytmikacjccmchcaa", sum := "31121949f8c832f792c56b13665352dc7fa4db8a94d729a2af6c22b3248e8bc8", func := "loop.example/circuitswitching/laws.FnExactTrafficValid", spec := "fnExactTrafficValid", apart := false, narrowed := true }
def FnExactTrafficValidUptoSaid : Prop := fnExactTrafficValidUptoRow.holds Try.pinned (OpenSpec.upto fnExactTrafficValidSpec)

/-- 'laws.FnSplit', WHERE WHAT IT READS IS OF BULK AT MOST 1048576: true; the input reads as it did. -/
def fnSplitUptoRow : OpenClaim := { program := "ytmikacjccmchcaa", sum := "31121949f8c832f792c56b13665352dc7fa4db8a94d729a2af6c22b3248e8bc8", func := "loop.example/circuitswitching/laws.FnSplit", spec := "fnSplit", recurses := true, apart := false, narrowed := true }
def FnSplitUptoSaid : Prop := fnSplitUptoRow.holds Try.pinned (OpenSpec.upto fnSplitSpec)

/-- 'laws.FnExactLineMost', WHERE WHAT IT READS IS OF BULK AT MOST 1048576: true; the input reads as it did. -/
def fnExactLineMostUptoRow : OpenClaim := { program := "ytmikacjccmchcaa", sum := "31121949f8c832f792c56b13665352dc7fa4db8a94d729a2af6c22b3248e8bc8", func := "loop.example/circuitswitching/laws.FnExactLineMost", spec := "fnExactLineMost", apart := false, narrowed := true }
def FnExactLineMostUptoSaid : Prop := fnExactLineMostUptoRow.holds Try.pinned (OpenSpec.upto fnExactLineMostSpec)

/-- 'laws.FnExactEven', WHERE WHAT IT READS IS OF BULK AT MOST 1048576: true; the input reads as it did. -/
def fnExactEvenUptoRow : OpenClaim := { program := "ytmikacjccmchcaa", sum := "31121949f8c832f792c56b13665352dc7fa4db8a94d729a2af6c22b3248e8bc8", func := "loop.example/circuitswitching/laws.FnExactEven", spec := "fnExactEven", apart := false, narrowed := true }
def FnExactEvenUptoSaid : Prop := fnExactEvenUptoRow.holds Try.pinned (OpenSpec.upto fnExactEvenSpec)

/-- 'laws.FnTrafficValid', WHERE WHAT IT READS IS OF BULK AT MOST 1048576: true; the input reads as it did. -/
def fnTrafficValidUptoRow : OpenClaim := { program := "ytmikacjccmchcaa", sum := "31121949f8c832f792c56b13665352dc7fa4db8a94d729a2af6c22b3248e8bc8", func := "loop.example/circuitswitching/laws.FnTrafficValid", spec := "fnTrafficValid", apart := false, narrowed := true }
def FnTrafficValidUptoSaid : Prop := fnTrafficValidUptoRow.holds Try.pinned (OpenSpec.upto fnTrafficValidSpec)

/-- 'laws.FnExactLoad', WHERE WHAT IT READS IS OF BULK AT MOST 1048576: true; the input reads as it did. -/
def fnExactLoadUptoRow : OpenClaim := { program := "ytmikacjccmchcaa", sum := "31121949f8c832f792c56b13665352dc7fa4db8a94d729a2af6c22b3248e8bc8", func := "loop.example/circuitswitching/laws.FnExactLoad", spec := "fnExactLoad", apart := false, narrowed := true }
def FnExactLoadUptoSaid : Prop := fnExactLoadUptoRow.holds Try.pinned (OpenSpec.upto fnExactLoadSpec)

/-- 'laws.FnLineMost', WHERE WHAT IT READS IS OF BULK AT MOST 1048576: true; the input reads as it did. -/
def fnLineMostUptoRow : OpenClaim := { program := "ytmikacjccmchcaa", sum := "31121949f8c832f792c56b13665352dc7fa4db8a94d729a2af6c22b3248e8bc8", func := "loop.example/circuitswitching/laws.FnLineMost", spec := "fnLineMost", apart := false, narrowed := true }
def FnLineMostUptoSaid : Prop := fnLineMostUptoRow.holds Try.pinned (OpenSpec.upto fnLineMostSpec)

/-- 'laws.FnExactMatchFirst', WHERE WHAT IT READS IS OF BULK AT MOST 1048576: true; the input reads as it did. -/
def fnExactMatchFirstUptoRow : OpenClaim := { program := "ytmikacjccmchcaa", sum := "31121949f8c832f792c56b13665352dc7fa4db8a94d729a2af6c22b3248e8bc8", func := "loop.example/circuitswitching/laws.FnExactMatchFirst", spec := "fnExactMatchFirst", recurses := true, apart := false, narrowed := true }
def FnExactMatchFirstUptoSaid : Prop := fnExactMatchFirstUptoRow.holds Try.pinned (OpenSpec.upto fnExactMatchFirstSpec)

/-- 'laws.FnLoad', WHERE WHAT IT READS IS OF BULK AT MOST 1048576: true; the input reads as it did. -/
def fnLoadUptoRow : OpenClaim := { program := "ytmikacjccmchcaa", sum := "31121949f8c832f792c56b13665352dc7fa4db8a94d729a2af6c22b3248e8bc8", func := "loop.example/circuitswitching/laws.FnLoad", spec := "fnLoad", apart := false, narrowed := true }
def FnLoadUptoSaid : Prop := fnLoadUptoRow.holds Try.pinned (OpenSpec.upto fnLoadSpec)

/-- 'laws.FnMatchFirst', WHERE WHAT IT READS IS OF BULK AT MOST 1048576: true; the input reads as it did. -/
def fnMatchFirstUptoRow : OpenClaim := { program := "ytmikacjccmchcaa", sum := "31121949f8c832f792c56b13665352dc7fa4db8a94d729a2af6c22b3248e8bc8", func := "loop.example/circuitswitching/laws.FnMatchFirst", spec := "fnMatchFirst", recurses := true, apart := false, narrowed := true }
def FnMatchFirstUptoSaid : Prop := fnMatchFirstUptoRow.holds Try.pinned (OpenSpec.upto fnMatchFirstSpec)

end Rows
end Go.Proofs.Ytmikacjccmchcaa
