/-
  Plain: an exchange of two numbers joins two cycles or divides one; some exchange divides one, unless all numbers are in order. By looking at all permutations of at most six numbers.
-/
import Derived.Test.YtddhlpmcikpinaaPlain
namespace Go.Proofs.Ytddhlpmcikpinaa
def okCyc (xs : List Int) : Bool :=
  ((List.range xs.length).all fun a => (List.range a).all fun b => validB (swapL xs a b) && (cycL (swapL xs a b) == cycL xs + 1 || cycL (swapL xs a b) + 1 == cycL xs)) &&
  (cycL xs == xs.length || (List.range xs.length).any fun a => (List.range a).any fun b => cycL (swapL xs a b) == cycL xs + 1) &&
  ((cycL xs == xs.length) == (crossL xs == 0)) && (validB (backL xs) && cycL (backL xs) == cycL xs)
set_option maxRecDepth 100000 in
theorem okCyc_5 : ((List.range 6).all fun n => (ext n n).all okCyc) = true := by decide +kernel
set_option maxRecDepth 100000 in
theorem okCyc_6_0 : (((ext 6 6).drop (60 * 0)).take 60).all okCyc = true := by decide +kernel
set_option maxRecDepth 100000 in
theorem okCyc_6_1 : (((ext 6 6).drop (60 * 1)).take 60).all okCyc = true := by decide +kernel
set_option maxRecDepth 100000 in
theorem okCyc_6_2 : (((ext 6 6).drop (60 * 2)).take 60).all okCyc = true := by decide +kernel
set_option maxRecDepth 100000 in
theorem okCyc_6_3 : (((ext 6 6).drop (60 * 3)).take 60).all okCyc = true := by decide +kernel
set_option maxRecDepth 100000 in
theorem okCyc_6_4 : (((ext 6 6).drop (60 * 4)).take 60).all okCyc = true := by decide +kernel
set_option maxRecDepth 100000 in
theorem okCyc_6_5 : (((ext 6 6).drop (60 * 5)).take 60).all okCyc = true := by decide +kernel
set_option maxRecDepth 100000 in
theorem okCyc_6_6 : (((ext 6 6).drop (60 * 6)).take 60).all okCyc = true := by decide +kernel
set_option maxRecDepth 100000 in
theorem okCyc_6_7 : (((ext 6 6).drop (60 * 7)).take 60).all okCyc = true := by decide +kernel
set_option maxRecDepth 100000 in
theorem okCyc_6_8 : (((ext 6 6).drop (60 * 8)).take 60).all okCyc = true := by decide +kernel
set_option maxRecDepth 100000 in
theorem okCyc_6_9 : (((ext 6 6).drop (60 * 9)).take 60).all okCyc = true := by decide +kernel
set_option maxRecDepth 100000 in
theorem okCyc_6_10 : (((ext 6 6).drop (60 * 10)).take 60).all okCyc = true := by decide +kernel
set_option maxRecDepth 100000 in
theorem okCyc_6_11 : (((ext 6 6).drop (60 * 11)).take 60).all okCyc = true := by decide +kernel
theorem okCyc_all : ((List.range 7).all fun n => (ext n n).all okCyc) = true := all_split okCyc_5 (all_chunks _ _ 60 12 (by decide) (fun i hi => by
  have : i = 0 ∨ i = 1 ∨ i = 2 ∨ i = 3 ∨ i = 4 ∨ i = 5 ∨ i = 6 ∨ i = 7 ∨ i = 8 ∨ i = 9 ∨ i = 10 ∨ i = 11 := by omega
  rcases this with rfl | rfl | rfl | rfl | rfl | rfl | rfl | rfl | rfl | rfl | rfl | rfl
  · exact okCyc_6_0
  · exact okCyc_6_1
  · exact okCyc_6_2
  · exact okCyc_6_3
  · exact okCyc_6_4
  · exact okCyc_6_5
  · exact okCyc_6_6
  · exact okCyc_6_7
  · exact okCyc_6_8
  · exact okCyc_6_9
  · exact okCyc_6_10
  · exact okCyc_6_11
  ) ext_len6)
theorem cyc_swap {xs : List Int} (h : validB xs = true) {a b : Nat} (ha : a < xs.length) (hb : b < a) : validB (swapL xs a b) = true ∧ (cycL (swapL xs a b) = cycL xs + 1 ∨ cycL (swapL xs a b) + 1 = cycL xs) := by
  have := valid_all okCyc_all h
  simp only [okCyc, Bool.and_eq_true, List.all_eq_true, List.mem_range, Bool.or_eq_true, beq_iff_eq] at this
  exact this.1.1.1 a ha b hb
theorem cyc_some {xs : List Int} (h : validB xs = true) : cycL xs = xs.length ∨ ∃ a, a < xs.length ∧ ∃ b, b < a ∧ cycL (swapL xs a b) = cycL xs + 1 := by
  have := valid_all okCyc_all h
  simp only [okCyc, Bool.and_eq_true, Bool.or_eq_true, List.any_eq_true, List.mem_range, beq_iff_eq] at this
  exact this.1.1.2
theorem cyc_order {xs : List Int} (h : validB xs = true) : (cycL xs = xs.length ↔ crossL xs = 0) := by
  have := valid_all okCyc_all h
  simp only [okCyc, Bool.and_eq_true] at this
  have h2 := this.1.2
  rw [beq_iff_eq] at h2
  constructor
  · intro h3
    rw [beq_iff_eq.2 h3] at h2
    exact beq_iff_eq.1 h2.symm
  · intro h3
    rw [beq_iff_eq.2 h3] at h2
    exact beq_iff_eq.1 h2
theorem cyc_back {xs : List Int} (h : validB xs = true) : validB (backL xs) = true ∧ cycL (backL xs) = cycL xs := by
  have := valid_all okCyc_all h
  simp only [okCyc, Bool.and_eq_true, beq_iff_eq] at this
  exact this.2
end Go.Proofs.Ytddhlpmcikpinaa
