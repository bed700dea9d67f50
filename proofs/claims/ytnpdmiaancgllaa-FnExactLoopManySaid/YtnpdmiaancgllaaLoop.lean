/-
  The numbers of switches of the loop network and of the step network: both texts compute the same number.
-/
import Derived.Test.YtnpdmiaancgllaaBase
namespace Go.Proofs.Ytnpdmiaancgllaa
open Go.RowKit V

def lines3 (n : Int) : Bool := decide (n = 2 ∨ n = 4 ∨ n = 8)
def loopN (n : Int) : Int := if n = 2 then 1 else if n = 4 then 6 else if n = 8 then 20 else -1
def stepsN (n : Int) : Int := if n = 2 then 1 else if n = 4 then 2 else if n = 8 then 3 else -1

theorem l3Lines_can : Callable Try.prog 41 := callable Try.func41 (by decide +kernel) rfl
theorem l3Lines_eq (n : Int) : Pure Try.prog 41 #[.int .i64 n] (.bool (lines3 n)) := by
  intro w
  refine enter Try.func41 rfl rfl rfl ?_
  by_cases h2 : n = 2
  · subst h2
    repeat' (first | (intro h; cases h; done) | refine And.intro ?_ ?_ | intro _ | rfl)
  · by_cases h4 : n = 4
    · subst h4
      repeat' (first | (intro h; cases h; done) | refine And.intro ?_ ?_ | intro _ | rfl)
    · by_cases h8 : n = 8
      · subst h8
        repeat' (first | (intro h; cases h; done) | refine And.intro ?_ ?_ | intro _ | rfl)
      · have e2 : decide (n = 2) = false := by simpa using h2
        have e4 : decide (n = 4) = false := by simpa using h4
        have e8 : decide (n = 8) = false := by simpa using h8
        have el : lines3 n = false := by simp [lines3, h2, h4, h8]
        repeat' (first | (intro h; cases h; done) | (intro h; rw [e2] at h; cases h; done) | (intro h; rw [e4] at h; cases h; done) | (intro h; rw [e8] at h; cases h; done) | refine And.intro ?_ ?_ | intro _ | rfl | (rw [e8, el]))

theorem lines3_true {n : Int} (h : lines3 n = true) : n = 2 ∨ n = 4 ∨ n = 8 := of_decide_eq_true h
theorem lines3_false {n : Int} (h : lines3 n = false) : n ≠ 2 ∧ n ≠ 4 ∧ n ≠ 8 := by
  have := of_decide_eq_false h
  simpa using this

theorem specLoopMany_can : Callable Try.prog 15 := callable Try.func15 (by decide +kernel) rfl
theorem specLoopMany_2 : Pure Try.prog 15 #[.int .i64 2] (.int .i64 1) := by
  intro w
  refine enter Try.func15 rfl rfl rfl ?_
  refine callP l3Lines_can (l3Lines_eq 2) ?_
  repeat' (first | (intro h; cases h; done) | refine And.intro ?_ ?_ | intro _ | rfl)
theorem specLoopMany_4 : Pure Try.prog 15 #[.int .i64 4] (.int .i64 6) := by
  intro w
  refine enter Try.func15 rfl rfl rfl ?_
  refine callP l3Lines_can (l3Lines_eq 4) ?_
  repeat' (first | (intro h; cases h; done) | refine And.intro ?_ ?_ | intro _ | rfl | (exact fun h => by cases h) | refine arith (And.intro (by decide) (by decide)) ?_ | refine callP specLoopMany_can specLoopMany_2 ?_)
theorem specLoopMany_8 : Pure Try.prog 15 #[.int .i64 8] (.int .i64 20) := by
  intro w
  refine enter Try.func15 rfl rfl rfl ?_
  refine callP l3Lines_can (l3Lines_eq 8) ?_
  repeat' (first | (intro h; cases h; done) | refine And.intro ?_ ?_ | intro _ | rfl | (exact fun h => by cases h) | refine arith (And.intro (by decide) (by decide)) ?_ | refine callP specLoopMany_can specLoopMany_4 ?_)
theorem specLoopMany_eq (n : Int) : Pure Try.prog 15 #[.int .i64 n] (.int .i64 (loopN n)) := by
  by_cases h : lines3 n = true
  · rcases lines3_true h with rfl | rfl | rfl
    · exact specLoopMany_2
    · exact specLoopMany_4
    · exact specLoopMany_8
  · have hf : lines3 n = false := by simpa using h
    obtain ⟨h1, h2, h3⟩ := lines3_false hf
    intro w
    refine enter Try.func15 rfl rfl rfl ?_
    have hl := l3Lines_eq n
    rw [hf] at hl
    refine callP l3Lines_can hl ?_
    have e : loopN n = -1 := by simp [loopN, h1, h2, h3]
    rw [e]
    repeat' (first | (intro h; cases h; done) | refine And.intro ?_ ?_ | intro _ | rfl)

theorem implLoopMany_can : Callable Try.prog 16 := callable Try.func16 (by decide +kernel) rfl
theorem implLoopMany_2 : Pure Try.prog 16 #[.int .i64 2] (.int .i64 1) := by
  intro w
  refine enter Try.func16 rfl rfl rfl ?_
  repeat' (first | (intro h; cases h; done) | refine And.intro ?_ ?_ | intro _ | rfl)
theorem implLoopMany_4 : Pure Try.prog 16 #[.int .i64 4] (.int .i64 6) := by
  intro w
  refine enter Try.func16 rfl rfl rfl ?_
  repeat' (first | (intro h; cases h; done) | refine And.intro ?_ ?_ | intro _ | rfl | (exact fun h => by cases h) | refine arith (And.intro (by decide) (by decide)) ?_ | refine callP implLoopMany_can implLoopMany_2 ?_)
theorem implLoopMany_8 : Pure Try.prog 16 #[.int .i64 8] (.int .i64 20) := by
  intro w
  refine enter Try.func16 rfl rfl rfl ?_
  repeat' (first | (intro h; cases h; done) | refine And.intro ?_ ?_ | intro _ | rfl | (exact fun h => by cases h) | refine arith (And.intro (by decide) (by decide)) ?_ | refine callP implLoopMany_can implLoopMany_4 ?_)
theorem implLoopMany_eq (n : Int) : Pure Try.prog 16 #[.int .i64 n] (.int .i64 (loopN n)) := by
  by_cases h : lines3 n = true
  · rcases lines3_true h with rfl | rfl | rfl
    · exact implLoopMany_2
    · exact implLoopMany_4
    · exact implLoopMany_8
  · have hf : lines3 n = false := by simpa using h
    obtain ⟨h1, h2, h3⟩ := lines3_false hf
    intro w
    refine enter Try.func16 rfl rfl rfl ?_
    have e : loopN n = -1 := by simp [loopN, h1, h2, h3]
    have e2 : decide (n = 2) = false := by simpa using h1
    have e4 : decide (n = 4) = false := by simpa using h2
    have e8 : decide (n = 8) = false := by simpa using h3
    rw [e]
    repeat' (first | (intro h; cases h; done) | (intro h; rw [e2] at h; cases h; done) | (intro h; rw [e4] at h; cases h; done) | (intro h; rw [e8] at h; cases h; done) | refine And.intro ?_ ?_ | intro _ | rfl)

theorem stepsOf_can : Callable Try.prog 43 := callable Try.func43 (by decide +kernel) rfl
theorem stepsOf_eq (n : Int) : Pure Try.prog 43 #[.int .i64 n] (.int .i64 (stepsN n)) := by
  intro w
  refine enter Try.func43 rfl rfl rfl ?_
  by_cases h : lines3 n = true
  · rcases lines3_true h with rfl | rfl | rfl
    all_goals repeat' (first | (intro h; cases h; done) | refine And.intro ?_ ?_ | intro _ | rfl)
  · obtain ⟨h1, h2, h3⟩ := lines3_false (by simpa using h)
    have e : stepsN n = -1 := by simp [stepsN, h1, h2, h3]
    have e2 : decide (n = 2) = false := by simpa using h1
    have e4 : decide (n = 4) = false := by simpa using h2
    have e8 : decide (n = 8) = false := by simpa using h3
    rw [e]
    repeat' (first | (intro h; cases h; done) | (intro h; rw [e2] at h; cases h; done) | (intro h; rw [e4] at h; cases h; done) | (intro h; rw [e8] at h; cases h; done) | refine And.intro ?_ ?_ | intro _ | rfl)

theorem exLoopMany (n : Int) (w : World) : Calls Try.prog 4 #[.int .i64 n] w fun e w' => e = .returned (.bool true) ∧ w' = w := by
  refine enter Try.func4 rfl rfl rfl ?_
  refine callP specLoopMany_can (specLoopMany_eq n) ?_
  refine callP implLoopMany_can (implLoopMany_eq n) ?_
  refine And.intro (fun h => ?_) (fun _ => And.intro rfl rfl)
  simp at h
theorem exLoopMany_walk (n : Int) (_ : (Lit.int .i64 n).wf = true) (w : World) : Calls Try.prog 4 #[.int .i64 n] w fun e w' => e = .returned (.bool true) ∧ Below w.heap.size w w' :=
  (exLoopMany n w).mono fun _ _ ⟨he, hw⟩ => ⟨he, by rw [hw]; exact Below.refl _ _⟩
theorem exConstants_walk (w : World) : Calls Try.prog 3 #[] w fun e w' => e = .returned (.bool true) ∧ Below w.heap.size w w' := by
  refine enter Try.func3 rfl rfl rfl ?_
  repeat' (first | (intro h; cases h; done) | refine And.intro ?_ ?_ | intro _ | rfl | exact Below.refl _ _)
end Go.Proofs.Ytnpdmiaancgllaa
