/-
  Crossings, ranks and cycles of a permutation: both texts compute the same numbers.
-/
import Derived.Test.YtmikacjccmchcaaPermF
namespace Go.Proofs.Ytmikacjccmchcaa
open Go.RowKit V
def crossV (xs : List Int) : Int := if validB xs then (crossL xs : Int) else -1
def rankV (xs : List Int) : Int := if validB xs then (rankL xs : Int) else -1
def cycV (xs : List Int) : Int := if validB xs then (cycL xs : Int) else -1
def swapsV (xs : List Int) : Int := if validB xs then (xs.length : Int) - cycL xs else -1
end Go.Proofs.Ytmikacjccmchcaa
