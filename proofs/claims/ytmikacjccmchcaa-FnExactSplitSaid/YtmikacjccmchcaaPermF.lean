/-
  What both texts compute of a permutation: its inverse, two behind each other, crossings, ranks.
-/
import Derived.Test.YtmikacjccmchcaaPermV
namespace Go.Proofs.Ytmikacjccmchcaa
open Go.RowKit V
def backV (xs : List Int) : List Int := if validB xs then backL xs else []
theorem backL_len (xs : List Int) : (backL xs).length = xs.length := backGo_len xs _
theorem retSl {A : Option Addr} {n n' c : Nat} (h : n = n') : Ending.returned (.slice A n c) = .returned (.slice A n' c) := by rw [h]
def thenV (xs ys : List Int) : List Int := if validB xs && (validB ys && decide (xs.length = ys.length)) then thenL xs ys else []
theorem thenV_len (xs ys : List Int) : (thenV xs ys).length ≤ 6 := by
  unfold thenV
  split
  · rename_i h
    simp only [Bool.and_eq_true] at h
    have := valid_len h.1
    simp [thenL]; omega
  · simp
theorem backV_len (xs : List Int) : (backV xs).length ≤ 6 := by
  unfold backV
  split
  · rename_i h
    have := valid_len h
    rw [backL_len]; omega
  · simp
end Go.Proofs.Ytmikacjccmchcaa
