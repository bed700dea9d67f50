/-
  Plain: bits on lines, and what a comparator does to them. No program is named here.
-/
import Derived.Test.YtddhlpmcikpinaaNetR
namespace Go.Proofs.Ytddhlpmcikpinaa
open Go.RowKit V
def bitsL (lines n : Nat) : List Int := (List.range lines).map fun k => ((n / 2 ^ k % 2 : Nat) : Int)
theorem bitsL_len (lines n : Nat) : (bitsL lines n).length = lines := by simp [bitsL]
theorem bitsL_get (lines n k : Nat) (h : k < lines) : (bitsL lines n).getD k 0 = ((n / 2 ^ k % 2 : Nat) : Int) := by simp [bitsL, h]
/-- no number is less than the one before it -/
def upTo (l : List Int) : Nat → Bool
  | 0 => true
  | k + 1 => upTo l k && (k == 0 || decide (l.getD (k - 1) 0 ≤ l.getD k 0))
def upB (l : List Int) : Bool := upTo l l.length
theorem upTo_iff (l : List Int) : ∀ n, upTo l n = true ↔ ∀ k, 0 < k → k < n → l.getD (k - 1) 0 ≤ l.getD k 0
  | 0 => by simp [upTo]
  | n + 1 => by
    rw [upTo, Bool.and_eq_true, upTo_iff l n]
    simp only [Bool.or_eq_true, beq_iff_eq, decide_eq_true_eq]
    constructor
    · rintro ⟨h1, h2⟩ k hk hk2
      by_cases h : k < n
      · exact h1 k hk h
      · obtain rfl : k = n := by omega
        rcases h2 with h2 | h2
        · omega
        · exact h2
    · intro h
      refine ⟨fun k hk hk2 => h k hk (by omega), ?_⟩
      by_cases h0 : n = 0
      · exact Or.inl h0
      · exact Or.inr (h n (by omega) (by omega))
theorem upB_iff (l : List Int) : upB l = true ↔ ∀ k, 0 < k → k < l.length → l.getD (k - 1) 0 ≤ l.getD k 0 := upTo_iff l _
def bitStepN (r a b : Nat) : Nat := if r / 2 ^ a % 2 = 1 ∧ r / 2 ^ b % 2 = 0 then r - 2 ^ a + 2 ^ b else r
def bitMoves (r a b : Nat) : Bool := decide (r / 2 ^ a % 2 = 1 ∧ r / 2 ^ b % 2 = 0)
def bitTab (l : Nat) : Bool := (List.range (2 ^ l)).all fun r => (List.range l).all fun b => (List.range b).all fun a =>
  decide (bitStepN r a b < 2 ^ l) && (bitsL l (bitStepN r a b) == stepR (bitsL l r) ((a : Int), (b : Int))) && (bitMoves r a b == decide ((bitsL l r).getD a 0 > (bitsL l r).getD b 0)) && (!bitMoves r a b || decide (xorI (r : Int) (orI ((2 ^ a : Nat) : Int) ((2 ^ b : Nat) : Int)) = ((bitStepN r a b : Nat) : Int)))
set_option maxRecDepth 100000 in
theorem bitTab_all : ((List.range 7).all bitTab) = true := by decide +kernel
theorem bit_facts {l r a b : Nat} (hl : l ≤ 6) (hr : r < 2 ^ l) (hb : b < l) (ha : a < b) :
    bitStepN r a b < 2 ^ l ∧ bitsL l (bitStepN r a b) = stepR (bitsL l r) ((a : Int), (b : Int)) ∧ (bitMoves r a b = decide ((bitsL l r).getD a 0 > (bitsL l r).getD b 0)) ∧ (bitMoves r a b = true → xorI (r : Int) (orI ((2 ^ a : Nat) : Int) ((2 ^ b : Nat) : Int)) = ((bitStepN r a b : Nat) : Int)) := by
  have h := bitTab_all
  rw [List.all_eq_true] at h
  have h1 := h l (by simp; omega)
  simp only [bitTab, List.all_eq_true, List.mem_range, Bool.and_eq_true, decide_eq_true_eq, beq_iff_eq, Bool.or_eq_true, Bool.not_eq_true'] at h1
  obtain ⟨⟨⟨h2, h3⟩, h4⟩, h5⟩ := h1 r hr b hb a ha
  exact ⟨h2, h3, h4, fun hm => h5.resolve_left (by rw [hm]; decide)⟩
theorem pow6 {l : Nat} (h : l ≤ 6) : 2 ^ l ≤ 64 := by
  have : (2 : Nat) ^ l ≤ 2 ^ 6 := Nat.pow_le_pow_right (by decide) h
  simpa using this
theorem shl1 {n : Int} {p : Nat} {K : Value → Prop} (hp : p = 2 ^ n.toNat) (h6 : n ≤ 6) (hk : K (I64 p)) : Arith (1 * 2 ^ (min n.toNat 64)) K := by
  have h : n.toNat ≤ 6 := by omega
  have h2 := pow6 h
  refine arith ?_ ?_
  · rw [Nat.min_eq_left (by omega)]
    have : ((2 : Int) ^ n.toNat) = ((2 ^ n.toNat : Nat) : Int) := by simp
    unfold InR
    omega
  · rw [Nat.min_eq_left (by omega), Int.one_mul]
    have : ((2 : Int) ^ n.toNat) = ((2 ^ n.toNat : Nat) : Int) := by simp
    rw [this, ← hp]
    exact hk
/-- whether a network sorts the bits of n -/
def sortsAt (lines : Int) (net : Net) (n : Nat) : Bool := upB (runN net (bitsL lines.toNat n))
def sortsAll (lines : Int) (net : Net) : Bool := (List.range (2 ^ lines.toNat)).all (sortsAt lines net)
def sortsB (lines : Int) (net : Net) : Bool := netB lines net && sortsAll lines net
def faultN (lines : Int) (net : Net) : Option Nat := (List.range (2 ^ lines.toNat)).find? fun n => !sortsAt lines net n
def faultB (lines : Int) (net : Net) : Int := if netB lines net then (match faultN lines net with | some n => (n : Int) | none => -1) else -1
theorem find_first {p : Nat → Bool} {N n : Nat} (hn : n < N) (hp : p n = true) (h : ∀ k, k < n → p k = false) : (List.range N).find? p = some n := by
  rw [List.find?_eq_some_iff_getElem]
  refine ⟨hp, n, by simpa using hn, by simp, fun j hj => ?_⟩
  have := h j hj
  simpa using this
theorem find_none {p : Nat → Bool} {N : Nat} (h : ∀ k, k < N → p k = false) : (List.range N).find? p = none := by
  rw [List.find?_eq_none]
  intro x hx
  rw [h x (by simpa using hx)]
  decide
theorem fault_first {lines : Int} {net : Net} {n : Nat} (hv : netB lines net = true) (hn : n < 2 ^ lines.toNat) (hp : sortsAt lines net n = false) (h : ∀ k, k < n → sortsAt lines net k = true) : faultB lines net = n := by
  rw [faultB, if_pos hv, faultN, find_first hn (by rw [hp]; rfl) (fun k hk => by rw [h k hk]; rfl)]
theorem fault_none {lines : Int} {net : Net} (h : ∀ k, k < 2 ^ lines.toNat → sortsAt lines net k = true) : faultB lines net = -1 := by
  unfold faultB faultN
  rw [find_none (fun k hk => by rw [h k hk]; rfl)]
  split <;> rfl
theorem fault_not {lines : Int} {net : Net} (h : netB lines net = false) : faultB lines net = -1 := by simp [faultB, h]
theorem sortsAll_iff {lines : Int} {net : Net} : sortsAll lines net = true ↔ ∀ k, k < 2 ^ lines.toNat → sortsAt lines net k = true := by simp [sortsAll]
theorem fault_or {lines : Int} {net : Net} (hv : netB lines net = true) : (sortsAll lines net = true ∧ faultB lines net = -1) ∨ (sortsAll lines net = false ∧ ∃ n : Nat, faultB lines net = n ∧ n < 2 ^ lines.toNat ∧ sortsAt lines net n = false ∧ ∀ k, k < n → sortsAt lines net k = true) := by
  by_cases h : ∀ k, k < 2 ^ lines.toNat → sortsAt lines net k = true
  · exact Or.inl ⟨sortsAll_iff.2 h, fault_none h⟩
  · right
    refine ⟨by rw [← Bool.not_eq_true, sortsAll_iff]; exact h, ?_⟩
    obtain ⟨n, hn, hmin⟩ := V.exists_min (fun k => k < 2 ^ lines.toNat ∧ sortsAt lines net k = false) (by
      simp only [Classical.not_forall, Bool.not_eq_true] at h
      obtain ⟨k, h1, h2⟩ := h
      exact ⟨k, h1, h2⟩)
    have hlow : ∀ k, k < n → sortsAt lines net k = true := fun k hk => by
      cases hs : sortsAt lines net k with
      | true => rfl
      | false => have := hmin k ⟨by omega, hs⟩; omega
    exact ⟨n, fault_first hv hn.1 hn.2 hlow, hn.1, hn.2, hlow⟩
/-- whether comparator k exchanges the bits of n -/
def movesAt (lines : Int) (net : Net) (k n : Nat) : Bool := decide ((runN (net.take k) (bitsL lines.toNat n)).getD (net.getD k (0, 0)).1.toNat 0 > (runN (net.take k) (bitsL lines.toNat n)).getD (net.getD k (0, 0)).2.toNat 0)
def usedTo (lines : Int) (net : Net) (k : Nat) : Nat → Bool
  | 0 => false
  | n + 1 => usedTo lines net k n || movesAt lines net k n
def usedB (lines : Int) (net : Net) (k : Nat) : Bool := usedTo lines net k (2 ^ lines.toNat)
def uselessB (lines : Int) (net : Net) : Int := if netB lines net then (match (List.range net.length).find? (fun k => !usedB lines net k) with | some n => (n : Int) | none => -1) else -1
theorem useless_first {lines : Int} {net : Net} {n : Nat} (hv : netB lines net = true) (hn : n < net.length) (hp : usedB lines net n = false) (h : ∀ k, k < n → usedB lines net k = true) : uselessB lines net = n := by
  rw [uselessB, if_pos hv, find_first hn (by rw [hp]; rfl) (fun k hk => by rw [h k hk]; rfl)]
theorem useless_none {lines : Int} {net : Net} (h : ∀ k, k < net.length → usedB lines net k = true) : uselessB lines net = -1 := by
  unfold uselessB
  rw [find_none (fun k hk => by rw [h k hk]; rfl)]
  split <;> rfl
theorem useless_not {lines : Int} {net : Net} (h : netB lines net = false) : uselessB lines net = -1 := by simp [uselessB, h]
end Go.Proofs.Ytddhlpmcikpinaa
