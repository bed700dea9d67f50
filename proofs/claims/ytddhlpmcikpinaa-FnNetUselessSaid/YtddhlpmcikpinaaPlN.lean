/-
  Plain: the depth of a network, useless comparators, what a network leaves as it is. No program is named here.
-/
import Derived.Test.YtddhlpmcikpinaaNetQ
import Derived.Test.YtddhlpmcikpinaaNetA
namespace Go.Proofs.Ytddhlpmcikpinaa
open Go.RowKit V
/-! depth -/
theorem sum_set : ∀ (l : List Int) (i : Nat) (v : Int), i < l.length → (l.set i v).sum = l.sum - l.getD i 0 + v
  | [], i, v, h => by simp at h
  | x :: l, 0, v, _ => by simp; omega
  | x :: l, i + 1, v, h => by
    have := sum_set l i v (by simpa using h)
    simp only [List.set_cons_succ, List.sum_cons, List.getD_cons_succ]
    omega
theorem sum_le (M : Int) : ∀ (l : List Int), (∀ v ∈ l, v ≤ M) → l.sum ≤ M * (l.length : Int)
  | [], _ => by simp
  | x :: l, h => by
    have h1 := sum_le M l (fun v hv => h v (by simp [hv]))
    have h2 := h x (by simp)
    simp only [List.sum_cons, List.length_cons, Int.natCast_add, Int.mul_add]
    omega
theorem depD_more {lines : Int} {net : Net} (hv : netB lines net = true) : ∀ k, k ≤ net.length → (∀ i, (depD lines (net.take k)).1.getD i 0 ≤ (depD lines (net.take k)).2) ∧ 2 * (k : Int) ≤ (depD lines (net.take k)).1.sum
  | 0, _ => by
    simp only [depD, List.take_zero, List.foldl_nil]
    refine ⟨fun i => ?_, by simp⟩
    by_cases h : i < lines.toNat <;> simp [h]
  | k + 1, h => by
    obtain ⟨h1, h2⟩ := depD_more hv k (by omega)
    obtain ⟨f1, f2, f3, f4⟩ := depD_facts lines net k (by omega)
    have hc := netB_all_of hv (k := k) (by omega)
    rw [depD_step lines net k (by omega)]
    generalize depD lines (net.take k) = s at *
    generalize net.getD k (0, 0) = c at *
    have ha := h1 c.1.toNat
    have hb := h1 c.2.toNat
    constructor
    · intro i
      simp only [stepD]
      have hi := h1 i
      have e : ∀ (l : List Int) (j : Nat) (v : Int), (l.set j v).getD i 0 = v ∨ (l.set j v).getD i 0 = l.getD i 0 := fun l j v => by
        by_cases hij : i = j
        · subst hij
          by_cases hl : i < l.length
          · left; simp [hl]
          · right; simp [hl, List.set_eq_of_length_le (Nat.le_of_not_lt hl)]
        · right; simp [Ne.symm hij]
      rcases e (s.1.set c.1.toNat (max (s.1.getD c.1.toNat 0) (s.1.getD c.2.toNat 0) + 1)) c.2.toNat (max (s.1.getD c.1.toNat 0) (s.1.getD c.2.toNat 0) + 1) with h | h
      · rw [h]; omega
      · rw [h]
        rcases e s.1 c.1.toNat (max (s.1.getD c.1.toNat 0) (s.1.getD c.2.toNat 0) + 1) with h | h
        · rw [h]; omega
        · rw [h]; omega
    · simp only [stepD]
      rw [sum_set _ _ _ (by rw [List.length_set]; omega), sum_set _ _ _ (by omega)]
      have e : ((s.1.set c.1.toNat (max (s.1.getD c.1.toNat 0) (s.1.getD c.2.toNat 0) + 1)).getD c.2.toNat 0) = s.1.getD c.2.toNat 0 := by
        rw [List.getD_eq_getElem?_getD, List.getElem?_set_ne (by omega), List.getD_eq_getElem?_getD]
      rw [e]
      omega
theorem depth_facts {lines : Int} {net : Net} (hv : netB lines net = true) : 0 ≤ depthB lines net ∧ depthB lines net ≤ net.length ∧ 2 * (net.length : Int) ≤ depthB lines net * lines ∧
    (net.length ≠ 0 → depthB lines (net.take (net.length - 1)) = depthB lines net ∨ depthB lines (net.take (net.length - 1)) = depthB lines net - 1) := by
  have hf := netB_facts hv
  have hd := depD_facts lines net net.length (Nat.le_refl _)
  have hm := depD_more hv net.length (Nat.le_refl _)
  rw [List.take_of_length_le (Nat.le_refl _)] at hd hm
  have e : depthB lines net = (depD lines net).2 := by simp [depthB, hv]
  refine ⟨by omega, by omega, ?_, fun hl => ?_⟩
  · have := sum_le (depD lines net).2 (depD lines net).1 (fun v hv => by
      obtain ⟨i, hi, rfl⟩ := List.getElem_of_mem hv
      have := hm.1 i
      rwa [getD_lt _ 0 i hi] at this)
    rw [hd.1, Int.toNat_of_nonneg (by omega)] at this
    rw [e]
    omega
  · have hvt : netB lines (net.take (net.length - 1)) = true := by
      refine netB_true ⟨hf.1, hf.2.1⟩ (by simp; omega) ?_
      rw [List.all_eq_true]
      have h4 := hf.2.2.2
      rw [List.all_eq_true] at h4
      exact fun c hc => h4 c (List.mem_of_mem_take hc)
    have e2 : depthB lines (net.take (net.length - 1)) = (depD lines (net.take (net.length - 1))).2 := by simp [depthB, hvt]
    have h1 := depD_step lines net (net.length - 1) (by omega)
    rw [show net.length - 1 + 1 = net.length by omega, List.take_of_length_le (Nat.le_refl _)] at h1
    have h2 := depD_more hv (net.length - 1) (by omega)
    rw [e, e2, h1]
    have ha := h2.1 (net.getD (net.length - 1) (0, 0)).1.toNat
    have hb := h2.1 (net.getD (net.length - 1) (0, 0)).2.toNat
    simp only [stepD]
    omega
/-! useless comparators -/
theorem useless_or {lines : Int} {net : Net} (hv : netB lines net = true) : (uselessB lines net = -1 ∧ ∀ k, k < net.length → usedB lines net k = true) ∨ ∃ n : Nat, n < net.length ∧ uselessB lines net = n ∧ usedB lines net n = false := by
  unfold uselessB
  rw [if_pos hv]
  cases hf : (List.range net.length).find? (fun k => !usedB lines net k) with
  | none =>
    left
    rw [List.find?_eq_none] at hf
    exact ⟨rfl, fun k hk => by simpa using hf k (by simpa using hk)⟩
  | some n =>
    right
    have h1 := List.find?_some hf
    have h2 := List.mem_of_find?_eq_some hf
    exact ⟨n, by simpa using h2, rfl, by simpa using h1⟩
theorem used_no {lines : Int} {net : Net} {k : Nat} : ∀ (N : Nat), usedTo lines net k N = false ↔ ∀ n, n < N → movesAt lines net k n = false
  | 0 => by simp [usedTo]
  | N + 1 => by
    rw [usedTo, Bool.or_eq_false_iff, used_no N]
    constructor
    · rintro ⟨h1, h2⟩ n hn
      by_cases h : n < N
      · exact h1 n h
      · obtain rfl : n = N := by omega
        exact h2
    · exact fun h => ⟨fun n hn => h n (by omega), h N (by omega)⟩
theorem stepR_order (s : List Int) (c : Int × Int) (h1 : c.1.toNat < s.length) (h2 : c.2.toNat < s.length) (h : c.1.toNat ≠ c.2.toNat) : (stepR s c).getD c.1.toNat 0 ≤ (stepR s c).getD c.2.toNat 0 := by
  unfold stepR
  have e1 : ((s.set c.1.toNat (min (s.getD c.1.toNat 0) (s.getD c.2.toNat 0))).set c.2.toNat (max (s.getD c.1.toNat 0) (s.getD c.2.toNat 0))).getD c.1.toNat 0 = min (s.getD c.1.toNat 0) (s.getD c.2.toNat 0) := by
    rw [List.getD_eq_getElem?_getD, List.getElem?_set_ne (by omega)]
    simp [h1]
  have e2 : ((s.set c.1.toNat (min (s.getD c.1.toNat 0) (s.getD c.2.toNat 0))).set c.2.toNat (max (s.getD c.1.toNat 0) (s.getD c.2.toNat 0))).getD c.2.toNat 0 = max (s.getD c.1.toNat 0) (s.getD c.2.toNat 0) := by
    rw [List.getD_eq_getElem?_getD, List.getElem?_set_self (by rw [List.length_set]; exact h2)]
    rfl
  rw [e1, e2]
  omega
theorem netB_app {lines : Int} {net : Net} (hv : netB lines net = true) {c : Int × Int} (hc : c ∈ net) (h : net.length < 20) : netB lines (net ++ [c]) = true := by
  have hf := netB_facts hv
  refine netB_true ⟨hf.1, hf.2.1⟩ (by simp; omega) ?_
  rw [List.all_append, hf.2.2.2, Bool.true_and]
  have h4 := hf.2.2.2
  rw [List.all_eq_true] at h4
  simp [h4 c hc]
theorem twice_useless {lines : Int} {net : Net} (hv : netB lines net = true) (h0 : net.length ≠ 0) (h : net.length < 20) : ∃ n : Nat, n < net.length + 1 ∧ uselessB lines (net ++ [net.getD (net.length - 1) (0, 0)]) = n := by
  have hf := netB_facts hv
  have hv2 := netB_app hv (getD_mem net (0, 0) (net.length - 1) (by omega)) h
  generalize hc : net.getD (net.length - 1) (0, 0) = c at *
  rcases useless_or hv2 with ⟨_, h2⟩ | ⟨n, h1, h2, _⟩
  · exfalso
    have h3 := h2 net.length (by simp)
    have h4 : usedB lines (net ++ [c]) net.length = false := by
      unfold usedB
      rw [used_no]
      intro n _
      unfold movesAt
      have e1 : (net ++ [c]).take net.length = net := by simp
      have e2 : (net ++ [c]).getD net.length (0, 0) = c := by simp
      rw [e1, e2]
      have hok := netB_all_of hv (k := net.length - 1) (by omega)
      rw [hc] at hok
      have e3 := runN_step net (bitsL lines.toNat n) (net.length - 1) (by omega)
      rw [show net.length - 1 + 1 = net.length by omega, List.take_of_length_le (Nat.le_refl _), hc] at e3
      have hl : (runN (net.take (net.length - 1)) (bitsL lines.toNat n)).length = lines.toNat := by rw [runN_len, bitsL_len]
      have := stepR_order (runN (net.take (net.length - 1)) (bitsL lines.toNat n)) c (by omega) (by omega) (by omega)
      rw [← e3] at this
      exact decide_eq_false (by omega)
    rw [h4] at h3
    cases h3
  · exact ⟨n, by simpa using h1, h2⟩
theorem useless_gone {lines : Int} {net : Net} (hv : netB lines net = true) {k : Nat} (hk : k < net.length) (hu : usedB lines net k = false) : sortsB lines (net.take k ++ net.drop (k + 1)) = sortsB lines net := by
  have hf := netB_facts hv
  have hv2 : netB lines (net.take k ++ net.drop (k + 1)) = true := by
    refine netB_true ⟨hf.1, hf.2.1⟩ (by simp; omega) ?_
    rw [List.all_eq_true]
    have h4 := hf.2.2.2
    rw [List.all_eq_true] at h4
    intro c hc
    rcases List.mem_append.1 hc with h | h
    · exact h4 c (List.mem_of_mem_take h)
    · exact h4 c (List.mem_of_mem_drop h)
  unfold usedB at hu
  rw [used_no] at hu
  have e : ∀ n, n < 2 ^ lines.toNat → sortsAt lines (net.take k ++ net.drop (k + 1)) n = sortsAt lines net n := fun n hn => by
    have h1 := hu n hn
    unfold movesAt at h1
    have h2 := of_decide_eq_false h1
    unfold sortsAt
    congr 1
    have h3 : runN net (bitsL lines.toNat n) = runN (net.take (k + 1) ++ net.drop (k + 1)) (bitsL lines.toNat n) := by rw [List.take_append_drop]
    rw [h3]
    simp only [runN, List.foldl_append]
    show runN (net.drop (k + 1)) (runN (net.take k) (bitsL lines.toNat n)) = runN (net.drop (k + 1)) (runN (net.take (k + 1)) (bitsL lines.toNat n))
    rw [runN_step net _ k hk, stepR_keep h2]
  rw [sortsB, sortsB, hv, hv2, Bool.true_and, Bool.true_and, Bool.eq_iff_iff, sortsAll_iff, sortsAll_iff]
  exact ⟨fun h n hn => by rw [← e n hn]; exact h n hn, fun h n hn => by rw [e n hn]; exact h n hn⟩
/-! what a network leaves as it is -/
theorem runN_app (a b : Net) (xs : List Int) : runN (a ++ b) xs = runN b (runN a xs) := by simp [runN]
theorem runN_iota {l : Nat} : ∀ (net : Net), (∀ c ∈ net, c.1.toNat ≤ c.2.toNat ∧ c.2.toNat < l) → runN net (iota l) = iota l
  | [], _ => rfl
  | c :: r, h => by
    have hc := h c (by simp)
    show runN r (stepR (iota l) c) = _
    rw [stepR_keep (by rw [iota_get l _ (by omega), iota_get l _ (by omega)]; omega)]
    exact runN_iota r (fun c hc => h c (by simp [hc]))
theorem run_iota {lines : Int} {net : Net} (hv : netB lines net = true) : runN net (iota lines.toNat) = iota lines.toNat := by
  obtain ⟨h1, h2, h3, h4⟩ := netB_facts hv
  rw [List.all_eq_true] at h4
  refine runN_iota net fun c hc => ?_
  have : 0 ≤ c.1 ∧ c.1 < c.2 ∧ c.2 < lines := of_decide_eq_true (h4 c hc)
  omega
theorem netB_sub {lines : Int} {net net' : Net} (hv : netB lines net = true) (hl : net'.length ≤ net.length) (hs : ∀ c ∈ net', c ∈ net) : netB lines net' = true := by
  have hf := netB_facts hv
  refine netB_true ⟨hf.1, hf.2.1⟩ (by omega) ?_
  rw [List.all_eq_true]
  have h4 := hf.2.2.2
  rw [List.all_eq_true] at h4
  exact fun c hc => h4 c (hs c hc)
theorem run_count {lines : Int} {net : Net} {s : List Int} (h : netB lines net = true) (hl : s.length = lines.toNat) (n : Int) : (runN net s).count n = s.count n := (run_perm h hl).count_eq n
theorem netB_bad {lines : Int} {net : Net} : netB lines (net ++ [(0, 0)]) = false := by
  refine netB_all ?_
  rw [List.all_append, Bool.and_eq_false_iff]
  right
  simp [okC]
end Go.Proofs.Ytddhlpmcikpinaa
