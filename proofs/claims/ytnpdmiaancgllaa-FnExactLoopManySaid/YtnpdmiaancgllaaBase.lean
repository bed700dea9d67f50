/-
  The seat's types, and the functions that copy, compare and mark slices of numbers.
-/
import Derived.Test.YtnpdmiaancgllaaRules
import Derived.Test.YtnpdmiaancgllaaProg
import Derived.KernelRfl
namespace Go.Proofs.Ytnpdmiaancgllaa
open Go.RowKit V
theorem sl_of {P : Program} {t e : TypeId} (h : P.underlying t = some (.slice e)) : SlTy P t e := h
theorem sl_int : SlTy Try.prog 25 3 := sl_of (by kernel_rfl)
theorem el_of {P : Program} {e : TypeId} {size bytes : Nat} {z : Value} (h : (P.info? e).map (fun i => (i.zero, i.size, i.bytes)) = some (some z, size, bytes)) : ElTy P e size bytes z := by
  cases hi : P.info? e with
  | none => rw [hi] at h; cases h
  | some i =>
    rw [hi] at h
    simp only [Option.map_some, Option.some.injEq, Prod.mk.injEq] at h
    exact ⟨i, hi, h.1, h.2.1, h.2.2⟩
theorem el_int : ElTy Try.prog 3 1 8 (.int .i64 0) := el_of (by kernel_rfl)
theorem one_int : One Try.prog 3 := ⟨.int .i64, by kernel_rfl, rfl⟩
abbrev I64 (n : Int) : Value := .int .i64 n

theorem set_row (xs : List Int) (k : Nat) (hk : k < xs.length) : ((xs.take k).map (Value.int .i64) ++ List.replicate (xs.length - k) (Value.int .i64 0)).set k (.int .i64 xs[k]) =
    (xs.take (k + 1)).map (Value.int .i64) ++ List.replicate (xs.length - (k + 1)) (.int .i64 0) := by
  apply List.ext_getElem
  · simp; omega
  · intro j h1 h2
    simp only [List.getElem_set, List.getElem_append, List.length_map, List.length_take, List.getElem_map, List.getElem_take, List.getElem_replicate]
    by_cases h : k = j
    · subst h; rw [if_pos rfl, dif_pos (by omega)]
    · rw [if_neg h]
      by_cases hj : j < k
      · rw [dif_pos (by omega), dif_pos (by omega)]
      · rw [dif_neg (by omega), dif_neg (by omega)]
theorem toIntS_can : Callable Try.prog 25 := callable Try.func25 (by decide +kernel) rfl
theorem toIntS_eq (xs : List Int) (A : Option Addr) (c : Nat) (w : World) (hx : Rd w w.heap.size A (xs.map (Value.int .i64))) (hl : xs.length ≤ 1048576) :
    Calls Try.prog 25 #[.slice A xs.length c] w fun e w' => e = .returned (.slice (some ⟨w.heap.size, 0, none⟩) xs.length xs.length) ∧ Row w' w.heap.size 3 (xs.map (Value.int .i64)) ∧ Below w.heap.size w w' := by
  refine enter Try.func25 rfl rfl rfl ?_
  refine len sl_int ?_
  refine make1 sl_int el_int rfl (Nat.le_refl _) (by omega) (by omega) ?_
  refine loop (γ := Nat) (fun k => [(0, .slice A xs.length c), (3, .slice (some ⟨w.heap.size, 0, none⟩) xs.length xs.length), (4, .int .i64 (k : Int))])
    (fun k w' => k ≤ xs.length ∧ Row w' w.heap.size 3 ((xs.take k).map (Value.int .i64) ++ List.replicate (xs.length - k) (.int .i64 0)) ∧ Below w.heap.size w w') (fun k => xs.length - k) 0
    (And.intro rfl (And.intro rfl (And.intro rfl trivial))) ⟨Nat.zero_le _, by simp only [List.take_zero, List.map_nil, List.nil_append, Nat.sub_zero]; exact Row.new w _ _, (Below.refl _ _).alloc (Nat.le_refl _) _⟩ ?_
  rintro k junk w' ⟨hk, hrow, hb⟩
  refine len sl_int ?_
  refine And.intro (fun h => ?_) (fun h => ?_)
  · have hlt : (k : Int) < xs.length := of_decide_eq_true h
    obtain ⟨ad, rfl, hbl, hc⟩ := (hx.below hb).int (k := k) (by omega)
    refine idx1 sl_int el_int (by omega) (by omega) ?_
    refine load1 one_int hc ?_
    refine idx1 sl_int el_int (by omega) (by omega) ?_
    refine store1 el_int rfl (hrow.cell (i := k) (by simp; omega)) (hrow.frozen k) ?_
    refine arith (by unfold InR; omega) ?_
    refine Exists.intro (k + 1) (And.intro (And.intro rfl (And.intro rfl (And.intro rfl trivial))) (And.intro ?_ (by omega)))
    refine ⟨by omega, ?_, hb.setCell (by rw [add_block]; exact Nat.le_refl _) _⟩
    have h1 := hrow.set k (.int .i64 xs[k])
    rw [set_row xs k (by omega)] at h1
    exact h1
  · have hge : ¬ (k : Int) < xs.length := of_decide_eq_false h
    obtain rfl : k = xs.length := by omega
    refine And.intro rfl (And.intro ?_ hb)
    simpa using hrow
end Go.Proofs.Ytnpdmiaancgllaa
