/-
  Plain: what goes back; ranks tell permutations, and the next rank has the greater number at the first difference; neighbours exchanged. By looking at all permutations of at most six numbers.
-/
import Derived.Test.YtddhlpmcikpinaaPlain
namespace Go.Proofs.Ytddhlpmcikpinaa
def okBack (xs : List Int) : Bool := validB (backL xs) && (thenL xs (backL xs) == iota xs.length) && (backL (backL xs) == xs) && (xs.length == 0 || (validB (swapL xs 0 (xs.length - 1)) && !validB (xs ++ [xs.getD 0 0])))
set_option maxRecDepth 100000 in
theorem okBack_all : ((List.range 7).all fun n => (ext n n).all okBack) = true := by decide +kernel
theorem back_facts {xs : List Int} (h : validB xs = true) : validB (backL xs) = true ∧ thenL xs (backL xs) = iota xs.length ∧ backL (backL xs) = xs := by
  have := valid_all okBack_all h
  simp only [okBack, Bool.and_eq_true, beq_iff_eq] at this
  exact ⟨this.1.1.1, this.1.1.2, this.1.2⟩
theorem swap_ends {xs : List Int} (h : validB xs = true) (hl : xs.length ≠ 0) : validB (swapL xs 0 (xs.length - 1)) = true ∧ validB (xs ++ [xs.getD 0 0]) = false := by
  have := valid_all okBack_all h
  simp only [okBack, Bool.and_eq_true, Bool.or_eq_true, beq_iff_eq, Bool.not_eq_true'] at this
  exact this.2.resolve_left hl
def okRank (xs : List Int) : Bool := decide (rankL xs < fact xs.length) && (ofGo xs.length (rankL xs) (iota xs.length) == xs)
set_option maxRecDepth 100000 in
theorem okRank_all : ((List.range 7).all fun n => (ext n n).all okRank) = true := by decide +kernel
theorem rank_of {xs : List Int} (h : validB xs = true) : rankL xs < fact xs.length ∧ ofGo xs.length (rankL xs) (iota xs.length) = xs := by
  have := valid_all okRank_all h
  simp only [okRank, Bool.and_eq_true, beq_iff_eq, decide_eq_true_eq] at this
  exact this
def lexB : List Int → List Int → Bool
  | p :: ps, q :: qs => if q = p then lexB ps qs else decide (p < q)
  | _, _ => false
def okOf (n r : Nat) : Bool := validB (ofGo n r (iota n)) && (rankL (ofGo n r (iota n)) == r) && (decide (fact n ≤ r + 1) || lexB (ofGo n r (iota n)) (ofGo n (r + 1) (iota n)))
set_option maxRecDepth 100000 in
theorem okOf_all : ((List.range 7).all fun n => (List.range (fact n)).all fun r => okOf n r) = true := by decide +kernel
theorem of_facts {n r : Nat} (hn : n ≤ 6) (hr : r < fact n) : validB (ofGo n r (iota n)) = true ∧ rankL (ofGo n r (iota n)) = r ∧ (r + 1 < fact n → lexB (ofGo n r (iota n)) (ofGo n (r + 1) (iota n)) = true) := by
  have h := okOf_all
  rw [List.all_eq_true] at h
  have h2 := h n (by simp; omega)
  rw [List.all_eq_true] at h2
  have h3 := h2 r (by simpa using hr)
  simp only [okOf, Bool.and_eq_true, Bool.or_eq_true, beq_iff_eq, decide_eq_true_eq] at h3
  exact ⟨h3.1.1, h3.1.2, fun hh => h3.2.resolve_left (by omega)⟩
def okX (xs : List Int) : Bool :=
  ((List.range xs.length).all fun k => k == 0 || (validB (swapL xs (k - 1) k) && (crossL (swapL xs (k - 1) k) == crossL xs + 1 || crossL (swapL xs (k - 1) k) + 1 == crossL xs))) &&
  (crossL xs % 2 == (xs.length - cycL xs) % 2) && (crossL (backL xs) == crossL xs)
set_option maxRecDepth 100000 in
theorem okX_all : ((List.range 7).all fun n => (ext n n).all okX) = true := by decide +kernel
theorem cross_swap {xs : List Int} (h : validB xs = true) {k : Nat} (h0 : 0 < k) (hk : k < xs.length) : validB (swapL xs (k - 1) k) = true ∧ (crossL (swapL xs (k - 1) k) = crossL xs + 1 ∨ crossL (swapL xs (k - 1) k) + 1 = crossL xs) := by
  have := valid_all okX_all h
  simp only [okX, Bool.and_eq_true, List.all_eq_true, List.mem_range, Bool.or_eq_true, beq_iff_eq] at this
  exact (this.1.1 k hk).resolve_left (by omega)
theorem cross_facts {xs : List Int} (h : validB xs = true) : crossL xs % 2 = (xs.length - cycL xs) % 2 ∧ crossL (backL xs) = crossL xs := by
  have := valid_all okX_all h
  simp only [okX, Bool.and_eq_true, beq_iff_eq] at this
  exact ⟨this.1.2, this.2⟩
end Go.Proofs.Ytddhlpmcikpinaa
