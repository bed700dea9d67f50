/-
  Plain: a comparator permutes what is on the lines; permutations in order. No program is named here.
-/
import Derived.Test.YtddhlpmcikpinaaNetP
namespace Go.Proofs.Ytddhlpmcikpinaa
open Go.RowKit V
theorem permGo_of {n : Int} : ∀ (rest seen : List Int), (∀ v ∈ rest, 0 ≤ v ∧ v < n) → (seen ++ rest).Nodup → permGo n seen rest = true
  | [], _, _, _ => rfl
  | x :: r, seen, hm, hn => by
    have hx := hm x (by simp)
    have hns : x ∉ seen := fun h => by
      rw [List.nodup_append] at hn
      exact hn.2.2 x h x (by simp) rfl
    simp only [permGo, Bool.and_eq_true, decide_eq_true_eq, Bool.not_eq_true', decide_eq_false_iff_not]
    exact ⟨⟨hx, hns⟩, permGo_of r (seen ++ [x]) (fun v hv => hm v (by simp [hv])) (by simpa using hn)⟩
theorem validB_of {xs : List Int} (h6 : xs.length ≤ 6) (hm : ∀ v ∈ xs, 0 ≤ v ∧ v < xs.length) (hn : xs.Nodup) : validB xs = true := by
  simp only [validB, Bool.and_eq_true, decide_eq_true_eq]
  exact ⟨h6, permGo_of xs [] hm (by simpa using hn)⟩
theorem validB_perm {xs ys : List Int} (hp : xs.Perm ys) (h : validB ys = true) : validB xs = true :=
  validB_of (by rw [hp.length_eq]; exact valid_len h) (fun v hv => by rw [hp.length_eq]; exact valid_mem h v (hp.mem_iff.1 hv)) (hp.nodup_iff.2 (valid_nodup h))
theorem swap_perm (s : List Int) {i j : Nat} (hi : i < s.length) (hj : j < s.length) : ((s.set i (s.getD j 0)).set j (s.getD i 0)).Perm s := by
  have := List.set_set_perm hi hj
  rwa [List.getD_eq_getElem?_getD, List.getD_eq_getElem?_getD, List.getElem?_eq_getElem hi, List.getElem?_eq_getElem hj]
theorem stepR_perm (s : List Int) (c : Int × Int) (h1 : c.1.toNat < s.length) (h2 : c.2.toNat < s.length) : (stepR s c).Perm s := by
  by_cases h : s.getD c.1.toNat 0 > s.getD c.2.toNat 0
  · rw [stepR_swap h]; exact swap_perm s h1 h2
  · rw [stepR_keep h]
theorem runN_perm {lines : Nat} : ∀ (net : Net) (s : List Int), (∀ c ∈ net, c.1.toNat < lines ∧ c.2.toNat < lines) → s.length = lines → (runN net s).Perm s
  | [], s, _, _ => .refl _
  | c :: r, s, h, hl => by
    have hc := h c (by simp)
    have h1 := stepR_perm s c (by omega) (by omega)
    exact (runN_perm r (stepR s c) (fun c hc => h c (by simp [hc])) (by rw [stepR_len]; exact hl)).trans h1
theorem netB_lt {lines : Int} {net : Net} (h : netB lines net = true) : ∀ c ∈ net, c.1.toNat < lines.toNat ∧ c.2.toNat < lines.toNat := by
  obtain ⟨h1, h2, h3, h4⟩ := netB_facts h
  rw [List.all_eq_true] at h4
  intro c hc
  have : 0 ≤ c.1 ∧ c.1 < c.2 ∧ c.2 < lines := of_decide_eq_true (h4 c hc)
  omega
theorem run_perm {lines : Int} {net : Net} {s : List Int} (h : netB lines net = true) (hl : s.length = lines.toNat) : (runN net s).Perm s := runN_perm net s (netB_lt h) hl
def okUp (xs : List Int) : Bool := upB xs == (xs == iota xs.length)
set_option maxRecDepth 100000 in
theorem okUp_all : ((List.range 7).all fun n => (ext n n).all okUp) = true := by decide +kernel
theorem up_iota {xs : List Int} (h : validB xs = true) : upB xs = true ↔ xs = iota xs.length := by
  have := valid_all okUp_all h
  simp only [okUp, beq_iff_eq] at this
  rw [this]
  simp
theorem iota_get (n k : Nat) (h : k < n) : (iota n).getD k 0 = k := by simp [iota, h]
theorem eq_iota {xs : List Int} (h : ∀ k, k < xs.length → xs.getD k 0 = k) : xs = iota xs.length := by
  apply List.ext_getElem
  · simp [iota]
  · intro k h1 h2
    have := h k h1
    rw [getD_lt xs 0 k h1] at this
    rw [this]
    simp [iota]
/-- descending numbers -/
def downTo (l k : Nat) : List Int := (List.range k).map fun (i : Nat) => (l : Int) - 1 - (i : Int)
def downL (l : Nat) : List Int := downTo l l
theorem downTo_len (l k : Nat) : (downTo l k).length = k := by simp [downTo]
theorem downTo_succ (l k : Nat) : downTo l (k + 1) = downTo l k ++ [(l : Int) - 1 - k] := by simp [downTo, List.range_succ]
theorem downL_valid : ∀ l, l ≤ 6 → validB (downL l) = true := by decide +kernel
def fillD (l k : Nat) : List Int := (List.range l).map fun (i : Nat) => if i < k then (l : Int) - 1 - (i : Int) else 0
theorem fillD_len (l k : Nat) : (fillD l k).length = l := by simp [fillD]
theorem fillD_zero (l : Nat) : fillD l 0 = List.replicate l 0 := by
  apply List.ext_getElem
  · simp [fillD]
  · intro j h1 h2
    simp [fillD]
theorem fillD_all (l : Nat) : fillD l l = downL l := by
  apply List.ext_getElem
  · simp [fillD, downL, downTo]
  · intro j h1 h2
    rw [fillD_len] at h1
    simp [fillD, downL, downTo, h1]
theorem fillD_set (l k : Nat) : (fillD l k).set k ((l : Int) - 1 - k) = fillD l (k + 1) := by
  apply List.ext_getElem
  · simp [fillD]
  · intro j h1 h2
    simp only [fillD, List.getElem_set, List.getElem_map, List.getElem_range]
    by_cases hj : k = j
    · subst hj; simp
    · rw [if_neg hj]
      by_cases hj2 : j < k
      · rw [if_pos hj2, if_pos (by omega)]
      · rw [if_neg hj2, if_neg (by omega)]
def turnedB (lines : Int) (net : Net) : Bool := netB lines net && upB (runN net (downL lines.toNat))
theorem turned_valid {lines : Int} {net : Net} (h : netB lines net = true) : validB (runN net (downL lines.toNat)) = true := by
  have := netB_facts h
  exact validB_perm (run_perm h (downTo_len _ _)) (downL_valid _ (by omega))
end Go.Proofs.Ytddhlpmcikpinaa
