/-
  The seat's types, and the functions that copy, compare and mark slices of numbers.
-/
import Derived.Test.YtddhlpmcikpinaaRules
import Derived.Test.YtddhlpmcikpinaaPlain
import Derived.Test.YtddhlpmcikpinaaProg
import Derived.KernelRfl
namespace Go.Proofs.Ytddhlpmcikpinaa
open Go.RowKit V
theorem el_of {P : Program} {e : TypeId} {size bytes : Nat} {z : Value} (h : (P.info? e).map (fun i => (i.zero, i.size, i.bytes)) = some (some z, size, bytes)) : ElTy P e size bytes z := by
  refine ⟨?_⟩
  cases hi : P.info? e with
  | none => rw [hi] at h; cases h
  | some i =>
    rw [hi] at h
    simp only [Option.map_some, Option.some.injEq, Prod.mk.injEq] at h
    exact ⟨i, rfl, h.1, h.2.1, h.2.2⟩
instance sl_int : SlTy Try.prog 35 3 := ⟨by kernel_rfl⟩
instance el_int : ElTy Try.prog 3 1 8 (I64 0) := el_of (by kernel_rfl)
instance one_int : One Try.prog 3 := ⟨.int .i64, by kernel_rfl, rfl⟩
instance sl_bool : SlTy Try.prog 56 4 := ⟨by kernel_rfl⟩
instance el_bool : ElTy Try.prog 4 1 1 (BV false) := el_of (by kernel_rfl)
instance one_bool : One Try.prog 4 := ⟨.bool, by kernel_rfl, rfl⟩
instance ty_bool : BoolTy Try.prog 4 := ⟨by kernel_rfl⟩
theorem mixed : Try.prog.follows .mixedOrders = true := by kernel_rfl

theorem set_row (xs : List Int) (k : Nat) (hk : k < xs.length) : (xs.take k ++ List.replicate (xs.length - k) (0 : Int)).set k (xs.getD k 0) = xs.take (k + 1) ++ List.replicate (xs.length - (k + 1)) 0 := by
  apply List.ext_getElem
  · simp; omega
  · intro j h1 h2
    simp only [List.getElem_set, List.getElem_append, List.length_take, List.getElem_take, List.getElem_replicate]
    by_cases h : k = j
    · subst h; rw [if_pos rfl, dif_pos (by omega)]; simp [hk]
    · rw [if_neg h]
      by_cases hj : j < k
      · rw [dif_pos (by omega), dif_pos (by omega)]
      · rw [dif_neg (by omega), dif_neg (by omega)]
theorem retB {b c : Bool} (h : b = c) : Ending.returned (.bool b) = .returned (.bool c) := by rw [h]
theorem retI {b c : Int} (h : b = c) : Ending.returned (.int .i64 b) = .returned (.int .i64 c) := by rw [h]
theorem sameInts_can : Callable Try.prog 35 := callable Try.func35 (by decide +kernel) rfl
theorem sameInts_eq (xs ys : List Int) {m m2 : Nat} {A A2 : Option Addr} {c c2 : Nat} {w0 : World} (hx : Rd w0 w0.heap.size A (xs.map I64)) (hy : Rd w0 w0.heap.size A2 (ys.map I64)) (hm : m = xs.length) (hm2 : m2 = ys.length) (hl : xs.length ≤ 1048576) (hl2 : ys.length ≤ 1048576) :
    Ret Try.prog 35 #[.slice A m c, .slice A2 m2 c2] w0 (.bool (decide (xs = ys))) := by
  subst hm
  subst hm2
  refine enter Try.func35 rfl rfl rfl ?_
  have hm := Mem.init w0
  repeat' ((conv => whnf); first | with_reducible refine cndT ?_ | with_reducible refine cndF ?_ | with_reducible refine cndNT ?_ | with_reducible refine cndNF ?_ | with_reducible refine len ?_ | with_reducible refine arith (by unfold InR; omega) ?_ | with_reducible refine arith (by unfold InR; decide) ?_ | with_reducible refine quoN (by omega) (by omega) (by omega) ?_ | with_reducible refine remN (by omega) ?_ | with_reducible refine shrN (by omega) ?_ | with_reducible refine shrI (by omega) (by omega) ?_ | with_reducible refine And.intro (by omega) ?_ | with_reducible refine idxMn (by assumption) (by omega) (by omega) ?_ | with_reducible refine idxOn 0 (by assumption) (by with_unfolding_all rfl) (by omega) ?_ | with_reducible refine idxOn 1 (by assumption) (by with_unfolding_all rfl) (by omega) ?_ | with_reducible refine idxOn 2 (by assumption) (by with_unfolding_all rfl) (by omega) ?_ | with_reducible refine idxM (by assumption) (by omega) (by omega) (by omega) ?_ | with_reducible refine idxO 0 (by assumption) (by with_unfolding_all rfl) (by omega) (by omega) ?_ | with_reducible refine idxO 1 (by assumption) (by with_unfolding_all rfl) (by omega) (by omega) ?_ | with_reducible refine idxO 2 (by assumption) (by with_unfolding_all rfl) (by omega) (by omega) ?_ | with_reducible refine ldI (by assumption) (by assumption) (by first | omega | (simp only [List.length_set]; omega) | (simp; omega)) ?_ | with_reducible refine ldB (by assumption) (by assumption) (by first | omega | (simp only [List.length_set]; omega) | (simp; omega)) ?_ | with_reducible refine ldIO 0 (by assumption) (by with_unfolding_all rfl) (by first | omega | (simp only [List.length_set]; omega) | (simp; omega)) ?_ | with_reducible refine ldBO 0 (by assumption) (by with_unfolding_all rfl) (by first | omega | (simp only [List.length_set]; omega) | (simp; omega)) ?_ | with_reducible refine ldIO 1 (by assumption) (by with_unfolding_all rfl) (by first | omega | (simp only [List.length_set]; omega) | (simp; omega)) ?_ | with_reducible refine ldBO 1 (by assumption) (by with_unfolding_all rfl) (by first | omega | (simp only [List.length_set]; omega) | (simp; omega)) ?_ | with_reducible refine ldIO 2 (by assumption) (by with_unfolding_all rfl) (by first | omega | (simp only [List.length_set]; omega) | (simp; omega)) ?_ | with_reducible refine ldBO 2 (by assumption) (by with_unfolding_all rfl) (by first | omega | (simp only [List.length_set]; omega) | (simp; omega)) ?_ | with_reducible refine stI 0 (by assumption) (by with_unfolding_all rfl) (by first | omega | (simp only [List.length_set]; omega) | (simp; omega)) (fun w1 hm => ?_) | with_reducible refine stB 0 (by assumption) (by with_unfolding_all rfl) (by first | omega | (simp only [List.length_set]; omega) | (simp; omega)) (fun w1 hm => ?_) | with_reducible refine stI 1 (by assumption) (by with_unfolding_all rfl) (by first | omega | (simp only [List.length_set]; omega) | (simp; omega)) (fun w1 hm => ?_) | with_reducible refine stB 1 (by assumption) (by with_unfolding_all rfl) (by first | omega | (simp only [List.length_set]; omega) | (simp; omega)) (fun w1 hm => ?_) | with_reducible refine stI 2 (by assumption) (by with_unfolding_all rfl) (by first | omega | (simp only [List.length_set]; omega) | (simp; omega)) (fun w1 hm => ?_) | with_reducible refine stB 2 (by assumption) (by with_unfolding_all rfl) (by first | omega | (simp only [List.length_set]; omega) | (simp; omega)) (fun w1 hm => ?_) | with_reducible refine bs0I (by assumption) (fun A1 w1 hm => ?_) | with_reducible refine bs2I (by assumption) (fun A1 w1 hm => ?_) | with_reducible refine bs7I (by assumption) (fun A1 w1 hm => ?_) | with_reducible refine bs1I (by assumption) (fun A1 w1 hm => ?_) | with_reducible refine app1 0 (by assumption) (by with_unfolding_all rfl) (by with_unfolding_all rfl) (by with_unfolding_all rfl) (by first | omega | (simp only [List.length_set]; omega) | (simp; omega)) (fun A1 c1 w1 hm => ?_) | with_reducible refine app1 1 (by assumption) (by with_unfolding_all rfl) (by with_unfolding_all rfl) (by with_unfolding_all rfl) (by first | omega | (simp only [List.length_set]; omega) | (simp; omega)) (fun A1 c1 w1 hm => ?_) | with_reducible refine app1 2 (by assumption) (by with_unfolding_all rfl) (by with_unfolding_all rfl) (by with_unfolding_all rfl) (by first | omega | (simp only [List.length_set]; omega) | (simp; omega)) (fun A1 c1 w1 hm => ?_) | with_reducible refine eqB ?_ | with_reducible refine neB ?_ | with_reducible refine slToN (by omega) ?_ | with_reducible apply qs | with_reducible apply ts | exact trivial | with_reducible refine SK.mk (by first | trivial | assumption) ?_ | with_reducible refine Both.mk ?_ ?_ | exact And.intro rfl rfl | exact And.intro rfl (by assumption) | intro w1 hm | fail | refine quiet (Mem _ _ _) mixed (by decide +kernel) (Mem.drawn (by assumption)) ?_ | with_reducible refine cndD (fun hc => ?_) (fun hc => ?_) | with_reducible refine cndN (fun hc => ?_) (fun hc => ?_) | with_reducible refine cndNB (fun hc => ?_) (fun hc => ?_) | with_reducible refine cndB (fun hc => ?_) (fun hc => ?_))
  · refine And.intro (retB ?_) hm
    symm
    exact decide_eq_false (fun h => hc (by rw [h]))
  · refine loop (γ := Nat) [(4, 5), (11, 25)] (fun k => [(5, I64 k)]) (fun k w' => k ≤ xs.length ∧ xs.take k = ys.take k ∧ Mem w0 w0.heap.size [] w') (fun k => xs.length - k) 0 rfl ⟨rfl, trivial⟩ ⟨by omega, by simp, hm⟩ ?_
    rintro k junk w1 ⟨hk, heq, hm⟩
    repeat' ((conv => whnf); first | with_reducible refine cndT ?_ | with_reducible refine cndF ?_ | with_reducible refine cndNT ?_ | with_reducible refine cndNF ?_ | with_reducible refine len ?_ | with_reducible refine arith (by unfold InR; omega) ?_ | with_reducible refine arith (by unfold InR; decide) ?_ | with_reducible refine quoN (by omega) (by omega) (by omega) ?_ | with_reducible refine remN (by omega) ?_ | with_reducible refine shrN (by omega) ?_ | with_reducible refine shrI (by omega) (by omega) ?_ | with_reducible refine And.intro (by omega) ?_ | with_reducible refine idxMn (by assumption) (by omega) (by omega) ?_ | with_reducible refine idxOn 0 (by assumption) (by with_unfolding_all rfl) (by omega) ?_ | with_reducible refine idxOn 1 (by assumption) (by with_unfolding_all rfl) (by omega) ?_ | with_reducible refine idxOn 2 (by assumption) (by with_unfolding_all rfl) (by omega) ?_ | with_reducible refine idxM (by assumption) (by omega) (by omega) (by omega) ?_ | with_reducible refine idxO 0 (by assumption) (by with_unfolding_all rfl) (by omega) (by omega) ?_ | with_reducible refine idxO 1 (by assumption) (by with_unfolding_all rfl) (by omega) (by omega) ?_ | with_reducible refine idxO 2 (by assumption) (by with_unfolding_all rfl) (by omega) (by omega) ?_ | with_reducible refine ldI (by assumption) (by assumption) (by first | omega | (simp only [List.length_set]; omega) | (simp; omega)) ?_ | with_reducible refine ldB (by assumption) (by assumption) (by first | omega | (simp only [List.length_set]; omega) | (simp; omega)) ?_ | with_reducible refine ldIO 0 (by assumption) (by with_unfolding_all rfl) (by first | omega | (simp only [List.length_set]; omega) | (simp; omega)) ?_ | with_reducible refine ldBO 0 (by assumption) (by with_unfolding_all rfl) (by first | omega | (simp only [List.length_set]; omega) | (simp; omega)) ?_ | with_reducible refine ldIO 1 (by assumption) (by with_unfolding_all rfl) (by first | omega | (simp only [List.length_set]; omega) | (simp; omega)) ?_ | with_reducible refine ldBO 1 (by assumption) (by with_unfolding_all rfl) (by first | omega | (simp only [List.length_set]; omega) | (simp; omega)) ?_ | with_reducible refine ldIO 2 (by assumption) (by with_unfolding_all rfl) (by first | omega | (simp only [List.length_set]; omega) | (simp; omega)) ?_ | with_reducible refine ldBO 2 (by assumption) (by with_unfolding_all rfl) (by first | omega | (simp only [List.length_set]; omega) | (simp; omega)) ?_ | with_reducible refine stI 0 (by assumption) (by with_unfolding_all rfl) (by first | omega | (simp only [List.length_set]; omega) | (simp; omega)) (fun w1 hm => ?_) | with_reducible refine stB 0 (by assumption) (by with_unfolding_all rfl) (by first | omega | (simp only [List.length_set]; omega) | (simp; omega)) (fun w1 hm => ?_) | with_reducible refine stI 1 (by assumption) (by with_unfolding_all rfl) (by first | omega | (simp only [List.length_set]; omega) | (simp; omega)) (fun w1 hm => ?_) | with_reducible refine stB 1 (by assumption) (by with_unfolding_all rfl) (by first | omega | (simp only [List.length_set]; omega) | (simp; omega)) (fun w1 hm => ?_) | with_reducible refine stI 2 (by assumption) (by with_unfolding_all rfl) (by first | omega | (simp only [List.length_set]; omega) | (simp; omega)) (fun w1 hm => ?_) | with_reducible refine stB 2 (by assumption) (by with_unfolding_all rfl) (by first | omega | (simp only [List.length_set]; omega) | (simp; omega)) (fun w1 hm => ?_) | with_reducible refine bs0I (by assumption) (fun A1 w1 hm => ?_) | with_reducible refine bs2I (by assumption) (fun A1 w1 hm => ?_) | with_reducible refine bs7I (by assumption) (fun A1 w1 hm => ?_) | with_reducible refine bs1I (by assumption) (fun A1 w1 hm => ?_) | with_reducible refine app1 0 (by assumption) (by with_unfolding_all rfl) (by with_unfolding_all rfl) (by with_unfolding_all rfl) (by first | omega | (simp only [List.length_set]; omega) | (simp; omega)) (fun A1 c1 w1 hm => ?_) | with_reducible refine app1 1 (by assumption) (by with_unfolding_all rfl) (by with_unfolding_all rfl) (by with_unfolding_all rfl) (by first | omega | (simp only [List.length_set]; omega) | (simp; omega)) (fun A1 c1 w1 hm => ?_) | with_reducible refine app1 2 (by assumption) (by with_unfolding_all rfl) (by with_unfolding_all rfl) (by with_unfolding_all rfl) (by first | omega | (simp only [List.length_set]; omega) | (simp; omega)) (fun A1 c1 w1 hm => ?_) | with_reducible refine eqB ?_ | with_reducible refine neB ?_ | with_reducible refine slToN (by omega) ?_ | with_reducible apply qs | with_reducible apply ts | exact trivial | with_reducible refine SK.mk (by first | trivial | assumption) ?_ | with_reducible refine Both.mk ?_ ?_ | exact And.intro rfl rfl | exact And.intro rfl (by assumption) | intro w1 hm | fail | refine quiet (Mem _ _ _) mixed (by decide +kernel) (Mem.drawn (by assumption)) ?_ | with_reducible refine cndD (fun hc => ?_) (fun hc => ?_) | with_reducible refine cndN (fun hc => ?_) (fun hc => ?_) | with_reducible refine cndNB (fun hc => ?_) (fun hc => ?_) | with_reducible refine cndB (fun hc => ?_) (fun hc => ?_))
    · refine And.intro (retB ?_) (by assumption)
      symm
      exact decide_eq_false (fun h => by subst h; simp at *)
    · refine Exists.intro (k + 1) (And.intro (by repeat' (first | exact trivial | refine And.intro rfl ?_ | refine And.intro (congrArg I64 (by first | omega | (simp only [List.length_set]; omega) | (simp; omega))) ?_)) (And.intro ?_ (by first | omega | (simp only [List.length_set]; omega) | (simp; omega))))
      refine ⟨by omega, ?_, by assumption⟩
      rw [take_step xs 0 k (by omega), take_step ys 0 k (by omega), heq]
      simp at *; assumption
    · refine And.intro (retB ?_) (by assumption)
      symm
      obtain rfl : k = xs.length := by omega
      exact decide_eq_true (by rw [List.take_length] at heq; rw [heq, List.take_of_length_le (by omega)])
theorem sameInts_same {xs : List Int} {m m2 : Nat} {A A2 : Option Addr} {c c2 : Nat} {w0 : World} (hx : Rd w0 w0.heap.size A (xs.map I64)) (hy : Rd w0 w0.heap.size A2 (xs.map I64)) (hm : m = xs.length) (hm2 : m2 = xs.length) (hl : xs.length ≤ 1048576) :
    Ret Try.prog 35 #[.slice A m c, .slice A2 m2 c2] w0 (.bool true) := by
  have := sameInts_eq xs xs (c := c) (c2 := c2) hx hy hm hm2 hl hl
  rwa [decide_eq_true rfl] at this
def markN (k : Int) (n : Nat) : List Int := (List.range n).map fun (i : Nat) => k + (i : Int)
theorem markN_set (k : Int) (n : Nat) (xs : List Int) (h : n < xs.length) : (markN k n ++ xs.drop n).set n (k + n) = markN k (n + 1) ++ xs.drop (n + 1) := by
  apply List.ext_getElem
  · simp [markN]; omega
  · intro j h1 h2
    simp only [List.getElem_set, List.getElem_append, markN, List.length_map, List.length_range, List.getElem_map, List.getElem_range, List.getElem_drop]
    by_cases hj : n = j
    · subst hj; rw [if_pos rfl, dif_pos (by omega)]
    · rw [if_neg hj]
      by_cases hj2 : j < n
      · rw [dif_pos (by omega), dif_pos (by omega)]
      · rw [dif_neg (by omega), dif_neg (by omega)]
        congr 1; omega
theorem markN_len (k : Int) (n : Nat) : (markN k n).length = n := by simp [markN]
end Go.Proofs.Ytddhlpmcikpinaa
