/-
  Small networks, and rules for the drawing of networks.
-/
import Derived.Test.YtddhlpmcikpinaaRead
import Derived.Test.YtddhlpmcikpinaaNetK
import Derived.Test.YtddhlpmcikpinaaNetI
namespace Go.Proofs.Ytddhlpmcikpinaa
open Go.RowKit V
/-- a network whose lines are small numbers -/
def SmallN (net : Net) : Prop := ∀ c ∈ net, (-9 ≤ c.1 ∧ c.1 ≤ 9) ∧ (-9 ≤ c.2 ∧ c.2 ≤ 9)
theorem SmallN.wf {net : Net} (h : SmallN net) : WfN net := fun c hc => by
  have := h c hc
  exact ⟨by unfold InR; omega, by unfold InR; omega⟩
theorem SmallN.nil : SmallN [] := fun c hc => by cases hc
theorem SmallN.app {a b : Net} (ha : SmallN a) (hb : SmallN b) : SmallN (a ++ b) := fun c hc => (List.mem_append.1 hc).elim (ha c) (hb c)
theorem SmallN.one {x y : Int} (hx : -9 ≤ x ∧ x ≤ 9) (hy : -9 ≤ y ∧ y ≤ 9) : SmallN [(x, y)] := fun c hc => by
  rw [List.mem_singleton] at hc
  subst hc
  exact ⟨hx, hy⟩
theorem SmallN.take {a : Net} (h : SmallN a) (k : Nat) : SmallN (a.take k) := fun c hc => h c (List.mem_of_mem_take hc)
theorem SmallN.drop {a : Net} (h : SmallN a) (k : Nat) : SmallN (a.drop k) := fun c hc => h c (List.mem_of_mem_drop hc)
theorem SmallN.at {a : Net} (h : SmallN a) {k : Nat} (hk : k < a.length) : (-9 ≤ (a.getD k (0, 0)).1 ∧ (a.getD k (0, 0)).1 ≤ 9) ∧ (-9 ≤ (a.getD k (0, 0)).2 ∧ (a.getD k (0, 0)).2 ≤ 9) := h _ (getD_mem a (0, 0) k hk)
def smallB (net : Net) : Bool := net.all fun c => decide ((-9 ≤ c.1 ∧ c.1 ≤ 9) ∧ (-9 ≤ c.2 ∧ c.2 ≤ 9))
theorem small_of {net : Net} (h : smallB net = true) : SmallN net := fun c hc => by
  rw [smallB, List.all_eq_true] at h
  exact of_decide_eq_true (h c hc)
theorem made_small : ∀ l : Nat, l ≤ 6 → (smallB (bubbleB l) && smallB (brickB l) && smallB (mergeB l)) = true ∧ (bubbleB l).length ≤ 15 ∧ (brickB l).length ≤ 15 ∧ (mergeB l).length ≤ 15 := by decide +kernel
theorem made_facts {l : Int} (h0 : 0 ≤ l) (h6 : l ≤ 6) : SmallN (bubbleB l) ∧ SmallN (brickB l) ∧ SmallN (mergeB l) ∧ (bubbleB l).length ≤ 15 ∧ (brickB l).length ≤ 15 ∧ (mergeB l).length ≤ 15 := by
  obtain ⟨n, rfl⟩ := Int.eq_ofNat_of_zero_le h0
  have := made_small n (by omega)
  simp only [Bool.and_eq_true] at this
  exact ⟨small_of this.1.1.1, small_of this.1.1.2, small_of this.1.2, this.2.1, this.2.2.1, this.2.2.2⟩
theorem dropC {w : World} {B : Nat} {A : Option Addr} {net : Net} (h : Rd w B A (cc net)) (k c : Nat) (hc : net.length ≤ c) : Rd w B (if c = k then A else A.map (·.add (k * 2))) (cc (net.drop k)) := by
  by_cases hk : c = k
  · rw [if_pos hk, List.drop_of_length_le (by omega)]
    exact Rd.nil
  · rw [if_neg hk, ← cc_drop]
    by_cases hl : (cc net).length ≤ k * 2
    · rw [List.drop_of_length_le hl]; exact Rd.nil
    · have := h.drop (k * 2) ((cc net).length) (Nat.le_refl _)
      rwa [if_neg (by omega)] at this
theorem slFromC {P : Program} {w : World} {K : Value → World → Prop} {t e : TypeId} {bytes : Nat} {z : Value} {k : IntKind} {A : Option Addr} {n c : Nat} {l : Int} [ht : SlTy P t e] [hi : ElTy P e 2 bytes z] (j : Nat) (hj : l = (j : Int)) (h1 : j ≤ n) (hk : K (.slice (if c = j then A else A.map (·.add (j * 2))) (n - j) (c - j)) w) :
    RunV .slice P (Instr.sliceAt t (.slice A n c) (some (.int k l)) none none) w K := by
  subst hj
  exact slFrom (by omega) (by omega) (by simpa using hk)
theorem bs3I {P : Program} {w0 w : World} {B : Nat} {L : List Ent} {K : Value → World → Prop} {t e : TypeId} {bytes : Nat} {a b c : Int} [SlTy P t e] [ElTy P e 1 bytes (I64 0)] (hm : Mem w0 B L w) (hk : ∀ A w', Mem w0 B (⟨e, 1, A, [a, b, c].length, 3, [a, b, c].map I64⟩ :: L) w' → K (.slice A [a, b, c].length 3) w') :
    RunV .bslice P (Instr.buildSlice t 3 #[(0, I64 a), (1, I64 b), (2, I64 c)]) w K :=
  bsK (cells := #[I64 a, I64 b, I64 c]) hm ⟨by decide, by decide, by decide⟩ (by rw [show 3 * 1 = 3 from rfl, show Array.range 3 = #[0, 1, 2] by decide]; simp [Instr.fill, Value.cells]) rfl hk
end Go.Proofs.Ytddhlpmcikpinaa
