/-
  Plain facts on lists of numbers: permutations, their inverses, cycles, crossings and ranks. No program is named here.
-/
namespace Go.Proofs.Ytmikacjccmchcaa

theorem drop_step {α : Type} (xs : List α) (d : α) (k : Nat) (hk : k < xs.length) : xs.drop k = xs.getD k d :: xs.drop (k + 1) := by
  rw [List.drop_eq_getElem_cons hk]; simp [hk]
theorem take_step {α : Type} (xs : List α) (d : α) (k : Nat) (hk : k < xs.length) : xs.take (k + 1) = xs.take k ++ [xs.getD k d] := by
  rw [List.take_succ_eq_append_getElem hk]; simp [hk]
theorem getD_lt {α : Type} (xs : List α) (d : α) (k : Nat) (hk : k < xs.length) : xs.getD k d = xs[k] := by simp [hk]
theorem getD_mem {α : Type} (xs : List α) (d : α) (k : Nat) (hk : k < xs.length) : xs.getD k d ∈ xs := by rw [getD_lt xs d k hk]; exact List.getElem_mem hk

/-- each number of 'rest' is in 0..n-1 and stands neither before it nor in 'seen' -/
def permGo (n : Int) : List Int → List Int → Bool
  | _, [] => true
  | seen, v :: r => (decide (0 ≤ v ∧ v < n) && !decide (v ∈ seen)) && permGo n (seen ++ [v]) r
def permB (xs : List Int) : Bool := permGo xs.length [] xs
def validB (xs : List Int) : Bool := decide (xs.length ≤ 6) && permB xs
theorem permGo_mem {n : Int} : ∀ {seen rest : List Int}, permGo n seen rest = true → ∀ v ∈ rest, 0 ≤ v ∧ v < n
  | _, [], _, v, hv => by cases hv
  | seen, x :: r, h, v, hv => by
    simp only [permGo, Bool.and_eq_true, decide_eq_true_eq] at h
    rcases List.mem_cons.1 hv with rfl | hv
    · exact h.1.1
    · exact permGo_mem h.2 v hv
theorem permGo_nodup {n : Int} : ∀ {seen rest : List Int}, permGo n seen rest = true → seen.Nodup → (seen ++ rest).Nodup
  | _, [], _, hs => by simpa using hs
  | seen, x :: r, h, hs => by
    simp only [permGo, Bool.and_eq_true, decide_eq_true_eq, Bool.not_eq_true', decide_eq_false_iff_not] at h
    have := permGo_nodup h.2 (by rw [List.nodup_append]; exact ⟨hs, by simp, fun a ha b hb => by simp at hb; subst hb; exact fun e => h.1.2 (e ▸ ha)⟩)
    simpa using this
theorem valid_len {xs : List Int} (h : validB xs = true) : xs.length ≤ 6 := by simp [validB] at h; exact h.1
theorem valid_mem {xs : List Int} (h : validB xs = true) : ∀ v ∈ xs, 0 ≤ v ∧ v < xs.length := by simp [validB] at h; exact permGo_mem h.2
theorem valid_nodup {xs : List Int} (h : validB xs = true) : xs.Nodup := by simp [validB] at h; simpa using permGo_nodup h.2 .nil
theorem valid_at {xs : List Int} (h : validB xs = true) (k : Nat) (hk : k < xs.length) : 0 ≤ xs.getD k 0 ∧ xs.getD k 0 < xs.length := valid_mem h _ (getD_mem xs 0 k hk)
/-- the marks of what has been seen -/
def marks (n : Nat) (l : List Int) : List Bool := (List.range n).map fun (i : Nat) => decide ((i : Int) ∈ l)
theorem marks_len (n : Nat) (l : List Int) : (marks n l).length = n := by simp [marks]
theorem marks_nil (n : Nat) : marks n [] = List.replicate n false := by
  apply List.ext_getElem <;> simp [marks]
theorem marks_get (n : Nat) (l : List Int) (v : Int) (h0 : 0 ≤ v) (h1 : v < n) : (marks n l).getD v.toNat false = decide (v ∈ l) := by
  have : v.toNat < n := by omega
  simp [marks, this, Int.toNat_of_nonneg h0]
theorem marks_set (n : Nat) (l : List Int) (v : Int) (h0 : 0 ≤ v) (_h1 : v < n) : (marks n l).set v.toNat true = marks n (l ++ [v]) := by
  apply List.ext_getElem
  · simp [marks]
  · intro j h1 h2
    simp only [marks, List.getElem_set, List.getElem_map, List.getElem_range, List.mem_append, List.mem_singleton]
    by_cases hj : v.toNat = j
    · rw [if_pos hj]
      have : (j : Int) = v := by omega
      simp [this]
    · rw [if_neg hj]
      have : ¬ (j : Int) = v := by omega
      simp [this]

/-- for each number its place -/
def backGo (xs : List Int) : Nat → List Int
  | 0 => List.replicate xs.length 0
  | k + 1 => (backGo xs k).set (xs.getD k 0).toNat k
def backL (xs : List Int) : List Int := backGo xs xs.length
theorem backGo_len (xs : List Int) : ∀ k, (backGo xs k).length = xs.length
  | 0 => by simp [backGo]
  | k + 1 => by simp [backGo, backGo_len xs k]
def thenL (xs ys : List Int) : List Int := xs.map fun v => ys.getD v.toNat 0

/-- how many numbers of 'r' are less than v -/
def lessL (v : Int) (r : List Int) : Nat := r.countP fun x => decide (x < v)
def crossGo (xs : List Int) : Nat → Nat
  | 0 => 0
  | k + 1 => crossGo xs k + lessL (xs.getD k 0) (xs.drop (k + 1))
def crossL (xs : List Int) : Nat := crossGo xs xs.length
def fact : Nat → Nat
  | 0 => 1
  | n + 1 => (n + 1) * fact n
def rankGo (xs : List Int) : Nat → Nat
  | 0 => 0
  | k + 1 => rankGo xs k + lessL (xs.getD k 0) (xs.drop (k + 1)) * fact (xs.length - 1 - k)
def rankL (xs : List Int) : Nat := rankGo xs xs.length
theorem lessL_le (v : Int) (r : List Int) : lessL v r ≤ r.length := List.countP_le_length
theorem lessL_step (v : Int) (r : List Int) (j : Nat) (hj : j < r.length) : lessL v (r.take (j + 1)) = lessL v (r.take j) + if r.getD j 0 < v then 1 else 0 := by
  unfold lessL
  rw [take_step r 0 j hj, List.countP_append]
  by_cases h : r.getD j 0 < v <;> simp
theorem fact_small : ∀ m, m ≤ 8 → fact m ≤ 40320 := by decide
theorem fact_le5 : ∀ m, m ≤ 5 → fact m ≤ 120 := by decide
theorem fact_pos : ∀ m, 0 < fact m
  | 0 => by decide
  | n + 1 => Nat.mul_pos (by omega) (fact_pos n)
theorem crossGo_le (xs : List Int) (h : xs.length ≤ 6) : ∀ k, crossGo xs k ≤ 6 * k
  | 0 => by simp [crossGo]
  | k + 1 => by
    have := crossGo_le xs h k
    have h2 := lessL_le (xs.getD k 0) (xs.drop (k + 1))
    simp only [List.length_drop] at h2
    simp only [crossGo]; omega
theorem rankTerm_le (xs : List Int) (h : xs.length ≤ 6) (k : Nat) : lessL (xs.getD k 0) (xs.drop (k + 1)) * fact (xs.length - 1 - k) ≤ 720 := by
  have h2 := lessL_le (xs.getD k 0) (xs.drop (k + 1))
  simp only [List.length_drop] at h2
  have h3 := fact_le5 (xs.length - 1 - k) (by omega)
  have := Nat.mul_le_mul (show lessL (xs.getD k 0) (xs.drop (k + 1)) ≤ 6 by omega) h3
  omega
theorem rankGo_le (xs : List Int) (h : xs.length ≤ 6) : ∀ k, rankGo xs k ≤ 720 * k
  | 0 => by simp [rankGo]
  | k + 1 => by
    have := rankGo_le xs h k
    have := rankTerm_le xs h k
    simp only [rankGo]; omega
/-- the same pairs, by their second place -/
def greatL (v : Int) (r : List Int) : Nat := r.countP fun x => decide (v < x)
def crossSGo (xs : List Int) : Nat → Nat
  | 0 => 0
  | k + 1 => crossSGo xs k + greatL (xs.getD k 0) (xs.take k)
theorem greatL_le (v : Int) (r : List Int) : greatL v r ≤ r.length := List.countP_le_length
theorem greatL_step (v : Int) (r : List Int) (j : Nat) (hj : j < r.length) : greatL v (r.take (j + 1)) = greatL v (r.take j) + if v < r.getD j 0 then 1 else 0 := by
  unfold greatL
  rw [take_step r 0 j hj, List.countP_append]
  by_cases h : v < r.getD j 0 <;> simp
theorem crossSGo_le (xs : List Int) (h : xs.length ≤ 6) : ∀ k, crossSGo xs k ≤ 6 * k
  | 0 => by simp [crossSGo]
  | k + 1 => by
    have := crossSGo_le xs h k
    have h2 := greatL_le (xs.getD k 0) (xs.take k)
    simp only [List.length_take] at h2
    simp only [crossSGo]; omega

/-! all permutations -/
def ext (n : Nat) : Nat → List (List Int)
  | 0 => [[]]
  | m + 1 => (ext n m).flatMap fun l => ((List.range n).filter fun (v : Nat) => !decide ((v : Int) ∈ l)).map fun (v : Nat) => l ++ [(v : Int)]
theorem ext_mem (n : Nat) : ∀ (m : Nat) (l : List Int), l.length = m → (∀ v ∈ l, 0 ≤ v ∧ v < n) → l.Nodup → l ∈ ext n m
  | 0, l, hl, _, _ => by
    have := List.eq_nil_of_length_eq_zero hl
    subst this; simp [ext]
  | m + 1, l, hl, hb, hn => by
    have hne : l ≠ [] := by intro h; subst h; simp at hl
    obtain ⟨l', v, rfl⟩ : ∃ l' v, l = l' ++ [v] := ⟨l.dropLast, l.getLast hne, (List.dropLast_concat_getLast hne).symm⟩
    have hl' : l'.length = m := by simpa using hl
    have ih := ext_mem n m l' hl' (fun u hu => hb u (List.mem_append_left _ hu)) (List.nodup_append.1 hn).1
    have hv := hb v (by simp)
    have hvn : v ∉ l' := fun h => (List.nodup_append.1 hn).2.2 v h v (by simp) rfl
    simp only [ext, List.mem_flatMap, List.mem_map, List.mem_filter, List.mem_range]
    refine ⟨l', ih, v.toNat, ⟨by omega, ?_⟩, ?_⟩
    · simpa [Int.toNat_of_nonneg hv.1] using hvn
    · simp [Int.toNat_of_nonneg hv.1]
theorem valid_ext {xs : List Int} (h : validB xs = true) : xs ∈ ext xs.length xs.length := ext_mem _ _ xs rfl (valid_mem h) (valid_nodup h)
theorem valid_all {p : List Int → Bool} (hp : ((List.range 7).all fun n => (ext n n).all p) = true) {xs : List Int} (h : validB xs = true) : p xs = true := by
  rw [List.all_eq_true] at hp
  have := hp xs.length (by simp; have := valid_len h; omega)
  rw [List.all_eq_true] at this
  exact this xs (valid_ext h)
theorem cross_same {xs : List Int} (h : validB xs = true) : crossSGo xs xs.length = crossL xs := by
  have := valid_all (p := fun xs => decide (crossSGo xs xs.length = crossL xs)) (by decide +kernel) h
  exact of_decide_eq_true this

/-! cycles -/
def cycIn (xs : List Int) : Nat → List Bool → Int → List Bool
  | 0, s, _ => s
  | f + 1, s, a => if s.getD a.toNat false then s else cycIn xs f (s.set a.toNat true) (xs.getD a.toNat 0)
def cycGo (xs : List Int) : Nat → List Bool × Nat
  | 0 => (List.replicate xs.length false, 0)
  | k + 1 => if (cycGo xs k).1.getD k false then cycGo xs k else (cycIn xs xs.length (cycGo xs k).1 k, (cycGo xs k).2 + 1)
def cycL (xs : List Int) : Nat := (cycGo xs xs.length).2
theorem cycIn_stop (xs : List Int) (f : Nat) (s : List Bool) (a : Int) (h : s.getD a.toNat false = true) : cycIn xs f s a = s := by
  cases f with
  | zero => rfl
  | succ f => unfold cycIn; rw [if_pos h]
theorem cycIn_len (xs : List Int) : ∀ (f : Nat) (s : List Bool) (a : Int), (cycIn xs f s a).length = s.length
  | 0, _, _ => rfl
  | f + 1, s, a => by
    unfold cycIn
    split
    · rfl
    · rw [cycIn_len xs f]; simp
theorem cycGo_len (xs : List Int) : ∀ k, (cycGo xs k).1.length = xs.length
  | 0 => by simp [cycGo]
  | k + 1 => by
    unfold cycGo
    split
    · exact cycGo_len xs k
    · simp [cycIn_len, cycGo_len xs k]
theorem cycGo_le (xs : List Int) : ∀ k, (cycGo xs k).2 ≤ k
  | 0 => by simp [cycGo]
  | k + 1 => by
    have := cycGo_le xs k
    unfold cycGo
    split
    · omega
    · simp; omega
theorem count_set_true : ∀ (s : List Bool) (j : Nat), s.getD j true = false → (s.set j true).count false + 1 = s.count false
  | [], j, h => by simp at h
  | b :: s, 0, h => by simp at h; subst h; simp
  | b :: s, j + 1, h => by
    have := count_set_true s j (by simpa using h)
    simp only [List.set_cons_succ, List.count_cons]
    omega
theorem cycIn_step (xs : List Int) (f : Nat) (s : List Bool) (a : Int) (ha : a.toNat < s.length) (h : s.getD a.toNat false = false) (hf : s.count false ≤ f) : ∃ f', f = f' + 1 ∧ (s.set a.toNat true).count false ≤ f' ∧ cycIn xs f s a = cycIn xs f' (s.set a.toNat true) (xs.getD a.toNat 0) := by
  have hc := count_set_true s a.toNat (by simp [ha] at h ⊢; exact h)
  obtain ⟨f', rfl⟩ : ∃ f', f = f' + 1 := ⟨f - 1, by omega⟩
  exact ⟨f', rfl, by omega, by simp only [cycIn, h]; rfl⟩

/-! the permutation of a rank -/
def iota (n : Nat) : List Int := (List.range n).map fun (i : Nat) => (i : Int)
theorem iota_len (n : Nat) : (iota n).length = n := by simp [iota]
theorem iota_succ (n : Nat) : iota (n + 1) = iota n ++ [(n : Int)] := by simp [iota, List.range_succ]
def ofGo : Nat → Nat → List Int → List Int
  | 0, _, _ => []
  | k + 1, r, left => left.getD (r / fact k) 0 :: ofGo k (r % fact k) (left.eraseIdx (r / fact k))
def ofOk (len rank : Int) : Bool := decide (0 ≤ len ∧ len ≤ 6) && decide (0 ≤ rank ∧ rank < fact len.toNat)
def ofL (len rank : Int) : List Int := if ofOk len rank then ofGo len.toNat rank.toNat (iota len.toNat) else []
theorem ofGo_len : ∀ (k r : Nat) (l : List Int), (ofGo k r l).length = k
  | 0, _, _ => rfl
  | k + 1, r, l => by simp [ofGo, ofGo_len k]
theorem ofL_len (len rank : Int) : (ofL len rank).length ≤ 6 := by
  unfold ofL
  split
  · rename_i h
    simp only [ofOk, Bool.and_eq_true, decide_eq_true_eq] at h
    rw [ofGo_len]; omega
  · simp
theorem at_lt {k r : Nat} (h : r < fact (k + 1)) : r / fact k < k + 1 := by
  rw [Nat.div_lt_iff_lt_mul (fact_pos k)]
  exact h
theorem erase_eq (l : List Int) (k : Nat) : l.take k ++ l.drop (k + 1) = l.eraseIdx k := (List.eraseIdx_eq_take_drop_succ l k).symm
/-- two numbers exchanged -/
def swapL (xs : List Int) (a b : Nat) : List Int := (xs.set a (xs.getD b 0)).set b (xs.getD a 0)
theorem swapL_len (xs : List Int) (a b : Nat) : (swapL xs a b).length = xs.length := by simp [swapL]
theorem all_chunks {α : Type} (l : List α) (p : α → Bool) (c k : Nat) (hc : 0 < c) (h : ∀ i, i < k → ((l.drop (c * i)).take c).all p = true) (hl : l.length ≤ c * k) : l.all p = true := by
  rw [List.all_eq_true]
  intro x hx
  obtain ⟨j, hj, rfl⟩ := List.getElem_of_mem hx
  have h1 := h (j / c) (by rw [Nat.div_lt_iff_lt_mul hc, Nat.mul_comm]; omega)
  rw [List.all_eq_true] at h1
  apply h1
  have h2 : c * (j / c) + j % c = j := Nat.div_add_mod j c
  have h3 := Nat.mod_lt j hc
  rw [List.mem_take_iff_getElem]
  refine ⟨j % c, by simp; omega, ?_⟩
  simp [h2]
theorem all_split {p : List Int → Bool} (h5 : ((List.range 6).all fun n => (ext n n).all p) = true) (h6 : (ext 6 6).all p = true) : ((List.range 7).all fun n => (ext n n).all p) = true := by
  rw [List.all_eq_true] at h5 ⊢
  intro n hn
  rw [List.mem_range] at hn
  by_cases h : n < 6
  · exact h5 n (List.mem_range.2 h)
  · obtain rfl : n = 6 := by omega
    exact h6
theorem ext_len6 : (ext 6 6).length ≤ 60 * 12 := by decide +kernel
end Go.Proofs.Ytmikacjccmchcaa
