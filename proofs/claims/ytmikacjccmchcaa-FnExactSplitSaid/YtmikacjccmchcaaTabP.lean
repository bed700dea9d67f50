/-
  Plain: permutations load every line alike; even tables are made of permutations.
-/
import Derived.Test.YtmikacjccmchcaaTabQ
import Derived.Test.YtmikacjccmchcaaTabN
import Derived.Test.YtmikacjccmchcaaTabL
namespace Go.Proofs.Ytmikacjccmchcaa
/-! a permutation as a table -/
def okPm (xs : List Int) : Bool := (List.range xs.length).all fun i => decide (((List.range xs.length).map fun j => if j = (xs.getD i 0).toNat then (1 : Int) else 0).sum = 1) && decide (((List.range xs.length).map fun j => if i = (xs.getD j 0).toNat then (1 : Int) else 0).sum = 1)
set_option maxRecDepth 100000 in
theorem okPm_all : ((List.range 7).all fun n => (ext n n).all okPm) = true := by decide +kernel
theorem pm_facts {p : List Int} (h : validB p = true) {i : Nat} (hi : i < p.length) : ((List.range p.length).map fun j => if j = (p.getD i 0).toNat then (1 : Int) else 0).sum = 1 ∧ ((List.range p.length).map fun j => if i = (p.getD j 0).toNat then (1 : Int) else 0).sum = 1 := by
  have := valid_all okPm_all h
  simp only [okPm, List.all_eq_true, List.mem_range, Bool.and_eq_true, decide_eq_true_eq] at this
  exact this i hi
theorem row_sum {t : Tab} {n i : Nat} (h : (t.getD i []).length = n) : rowS t i = ((List.range n).map fun j => at2 t i j).sum := by
  exact sum_row _ _ h
theorem col_sum {t : Tab} {n j : Nat} (h : t.length = n) : colS t j = ((List.range n).map fun i => at2 t i j).sum := by
  rw [colS, sum_row (colL t j) n (by rw [colL_len]; exact h)]
  congr 1
  apply List.map_congr_left
  intro i _
  rw [colL_get]
theorem lines_add {t u : Tab} {p : List Int} {n : Nat} {d : Int} (hv : validB p = true) (hp : p.length = n) (htl : t.length = n) (hul : u.length = n) (ht : ∀ i, i < n → (t.getD i []).length = n) (hu : ∀ i, i < n → (u.getD i []).length = n)
    (h : ∀ i j, i < n → at2 u i j = at2 t i j + if j = (p.getD i 0).toNat then d else 0) : ∀ k, k < n → rowS u k = rowS t k + d ∧ colS u k = colS t k + d := by
  intro k hk
  obtain ⟨h1, h2⟩ := pm_facts hv (i := k) (by omega)
  rw [hp] at h1 h2
  have mulD : ∀ (f : Nat → Prop) [DecidablePred f] (l : List Nat), (l.map fun x => if f x then d else 0).sum = d * (l.map fun x => if f x then (1 : Int) else 0).sum := by
    intro f _ l
    induction l with
    | nil => simp
    | cons x l ih =>
      simp only [List.map_cons, List.sum_cons, ih, Int.mul_add]
      split <;> simp
  constructor
  · rw [row_sum (hu k hk), row_sum (ht k hk)]
    have e : ((List.range n).map fun j => at2 u k j) = (List.range n).map fun j => at2 t k j + if j = (p.getD k 0).toNat then d else 0 := List.map_congr_left fun j _ => h k j hk
    rw [e, sum_add, mulD (fun j => j = (p.getD k 0).toNat), h1, Int.mul_one]
  · rw [col_sum hul, col_sum htl]
    have e : ((List.range n).map fun i => at2 u i k) = (List.range n).map fun i => at2 t i k + if k = (p.getD i 0).toNat then d else 0 := List.map_congr_left fun i hi => h i k (List.mem_range.1 hi)
    rw [e, sum_add, mulD (fun i => k = (p.getD i 0).toNat), h2, Int.mul_one]
theorem valid_in {p : List Int} {n : Nat} (hv : validB p = true) (hp : p.length = n) : ∀ i, i < n → (p.getD i 0).toNat < n := fun i hi => by
  have := valid_at hv i (by omega)
  omega
theorem lines_zero {n : Nat} : ∀ k, k < n → rowS (zeroT n) k = 0 ∧ colS (zeroT n) k = 0 := by
  intro k hk
  rw [row_sum (n := n) (by simp [zeroT, hk]), col_sum (n := n) (by simp [zeroT])]
  constructor
  · rw [show ((List.range n).map fun j => at2 (zeroT n) k j) = (List.range n).map fun _ => (0 : Int) from List.map_congr_left fun j _ => zero_at n k j]
    exact sum_zero _
  · rw [show ((List.range n).map fun i => at2 (zeroT n) i k) = (List.range n).map fun _ => (0 : Int) from List.map_congr_left fun j _ => zero_at n j k]
    exact sum_zero _
theorem load_facts {n : Nat} {ps : Tab} : ∀ (k : Nat) (t : Tab), loadGo n ps k = some t → t.length = n ∧ (∀ i, i < n → (t.getD i []).length = n) ∧ ∀ i, i < n → rowS t i = k ∧ colS t i = k
  | 0, t, h => by
    simp only [loadGo, Option.some.injEq] at h
    subst h
    exact ⟨by simp [zeroT], fun i hi => by simp [zeroT, hi], lines_zero⟩
  | k + 1, t, h => by
    rw [loadGo] at h
    split at h
    · cases h
    · rename_i u hu
      split at h
      · rename_i hv
        obtain ⟨h1, h2, h3⟩ := load_facts k u hu
        simp only [Option.some.injEq] at h
        subst h
        have h4 : ∀ i, i < n → ((addTo u (ps.getD k []) n).getD i []).length = n := fun i hi => by rw [addTo_row]; exact h2 i hi
        refine ⟨by rw [addTo_len]; exact h1, h4, fun i hi => ?_⟩
        have := lines_add (d := 1) hv.1 hv.2 h1 (by rw [addTo_len]; exact h1) h2 h4 (fun i j hi => by
          rw [addTo_at u _ n h1 h2 (valid_in hv.1 hv.2) n (Nat.le_refl _) i j]
          congr 1
          by_cases hj : j = ((ps.getD k []).getD i 0).toNat
          · rw [if_pos hj, if_pos ⟨hi, hj⟩]
          · rw [if_neg hj, if_neg (fun h => hj h.2)]) i hi
        have := h3 i hi
        omega
      · cases h
theorem even_of {t : Tab} {M : Int} (hv : tvB t = true) (hl : ∀ k, k < t.length → rowS t k = M ∧ colS t k = M) : evenB t = true ∧ (0 < t.length → mostTo t t.length = M) := by
  have he : evenB t = true := (even_row0 hv).2 fun k hk => by
    have := hl k hk
    have := hl 0 (by omega)
    omega
  refine ⟨he, fun h => ?_⟩
  have h1 := (even_facts he).2 0 h
  have h2 := hl 0 h
  omega
theorem loadV_facts {ports : Int} {ps : Tab} (h : loadV ports ps ≠ []) : evenB (loadV ports ps) = true ∧ mostV (loadV ports ps) = ps.length ∧ ((loadV ports ps).length : Int) = ports := by
  by_cases hp : 0 ≤ ports ∧ ports ≤ 6
  · cases ht : loadGo ports.toNat ps ps.length with
    | none => exact absurd (by rw [loadV, if_pos hp, ht]) h
    | some t =>
      have e : loadV ports ps = if tvB t = true then t else [] := by rw [loadV, if_pos hp, ht]
      by_cases hv : tvB t = true
      · rw [if_pos hv] at e
        rw [e] at h ⊢
        obtain ⟨h1, h2, h3⟩ := load_facts _ t ht
        obtain ⟨e1, e2⟩ := even_of (M := ps.length) hv (fun k hk => h3 k (by omega))
        have hpos : 0 < t.length := by
          rcases t with _ | ⟨r, t⟩
          · exact absurd rfl h
          · simp
        refine ⟨e1, ?_, by omega⟩
        rw [mostV, if_pos hv]
        exact e2 hpos
      · rw [if_neg hv] at e
        exact absurd e h
  · exact absurd (by rw [loadV, if_neg hp]) h
/-! an even table, taken apart -/
def subTo (t : Tab) (p : List Int) : Nat → Tab
  | 0 => t
  | k + 1 => (subTo t p k).set k (((subTo t p k).getD k []).set (p.getD k 0).toNat (((subTo t p k).getD k []).getD (p.getD k 0).toNat 0 - 1))
theorem subTo_len (t : Tab) (p : List Int) : ∀ k, (subTo t p k).length = t.length
  | 0 => rfl
  | k + 1 => by rw [subTo, List.length_set, subTo_len t p k]
theorem subTo_row (t : Tab) (p : List Int) : ∀ k i, ((subTo t p k).getD i []).length = (t.getD i []).length
  | 0, i => rfl
  | k + 1, i => by
    rw [subTo]
    by_cases h : i = k
    · subst h
      by_cases hl : i < (subTo t p i).length
      · have : ((subTo t p i).set i (((subTo t p i).getD i []).set (p.getD i 0).toNat (((subTo t p i).getD i []).getD (p.getD i 0).toNat 0 - 1))).getD i [] = ((subTo t p i).getD i []).set (p.getD i 0).toNat (((subTo t p i).getD i []).getD (p.getD i 0).toNat 0 - 1) := by simp [hl]
        rw [this, List.length_set, subTo_row t p i i]
      · rw [List.set_eq_of_length_le (Nat.le_of_not_lt hl), subTo_row t p i i]
    · rw [List.getD_eq_getElem?_getD, List.getElem?_set_ne (Ne.symm h), ← List.getD_eq_getElem?_getD, subTo_row t p k i]
theorem subTo_at (t : Tab) (p : List Int) (n : Nat) (hn : t.length = n) (hr : ∀ i, i < n → (t.getD i []).length = n) (hp : ∀ i, i < n → (p.getD i 0).toNat < n) : ∀ k, k ≤ n → ∀ i j, at2 (subTo t p k) i j = at2 t i j + if i < k ∧ j = (p.getD i 0).toNat then -1 else 0
  | 0, _, i, j => by rw [if_neg (by omega)]; simp [subTo]
  | k + 1, hk, i, j => by
    have ih := subTo_at t p n hn hr hp k (by omega)
    have hl : ((subTo t p k).getD k []).length = n := by rw [subTo_row]; exact hr k (by omega)
    have hpk := hp k (by omega)
    have ihk := ih k (p.getD k 0).toNat
    have e : ((subTo t p k).getD k []).getD (p.getD k 0).toNat 0 = at2 (subTo t p k) k (p.getD k 0).toNat := rfl
    rw [subTo, at2_set _ _ _ _ _ (by rw [subTo_len]; omega)]
    by_cases h : i = k
    · subst h
      rw [if_pos rfl, getD_setI _ _ _ _ (by rw [hl]; exact hpk), e, ihk]
      by_cases hj : j = (p.getD i 0).toNat
      · rw [if_pos hj, if_neg (by omega), if_pos ⟨by omega, hj⟩, hj]; omega
      · have := ih i j
        rw [if_neg hj, if_neg (fun h => hj h.2)]
        have e2 : ((subTo t p i).getD i []).getD j 0 = at2 (subTo t p i) i j := rfl
        rw [e2, this, if_neg (by omega)]
    · rw [if_neg h, ih i j]
      by_cases hc : i < k ∧ j = (p.getD i 0).toNat
      · rw [if_pos hc, if_pos ⟨by omega, hc.2⟩]
      · rw [if_neg hc, if_neg (fun h2 => hc ⟨by omega, h2.2⟩)]
def leftT (t : Tab) : Nat → Tab
  | 0 => t
  | k + 1 => subTo (leftT t k) (optL (firstT (leftT t k))) t.length
def permT (t : Tab) (k : Nat) : List Int := optL (firstT (leftT t k))
def splitL (t : Tab) (m : Nat) : Tab := (List.range m).map (permT t)
def splitV (t : Tab) : Tab := if evenB t then splitL t (mostTo t t.length).toNat else []
theorem tv_of {t : Tab} {n : Nat} (h6 : n ≤ 6) (h1 : t.length = n) (h2 : ∀ i, i < n → (t.getD i []).length = n) (h3 : ∀ i j, i < n → j < n → 0 ≤ at2 t i j ∧ at2 t i j ≤ 6) : tvB t = true := by
  subst h1
  simp only [tvB, Bool.and_eq_true, decide_eq_true_eq, List.all_eq_true]
  refine ⟨h6, fun r hr => ?_⟩
  obtain ⟨i, hi, rfl⟩ := List.getElem_of_mem hr
  have e := getD_lt t [] i hi
  have hl := h2 i hi
  rw [e] at hl
  refine ⟨hl, fun u hu => ?_⟩
  obtain ⟨j, hj, rfl⟩ := List.getElem_of_mem hu
  have := h3 i j hi (by omega)
  unfold at2 at this
  rw [e, getD_lt _ 0 j hj] at this
  exact this
/-- what is left stays even, with one less each time -/
theorem left_facts {t : Tab} (he : evenB t = true) (hn : 0 < t.length) : ∀ k : Nat, (k : Int) ≤ mostTo t t.length → (leftT t k).length = t.length ∧ evenB (leftT t k) = true ∧ mostTo (leftT t k) t.length = mostTo t t.length - k
  | 0, _ => ⟨rfl, he, by simp [leftT]⟩
  | k + 1, hk => by
    obtain ⟨h1, h2, h3⟩ := left_facts he hn k (by omega)
    obtain ⟨hv, hl⟩ := even_facts h2
    rw [h1] at hl
    obtain ⟨h6, hrl, hat⟩ := tv_facts hv
    rw [h1] at h6 hrl
    obtain ⟨p, hp⟩ := even_first h2 (by rw [h1]; omega)
    have hpv := first_valid (by rw [h1]; exact h6) hp
    obtain ⟨hpl, _, _, hcov⟩ := first_facts hp
    rw [h1] at hpl
    have e : leftT t (k + 1) = subTo (leftT t k) p t.length := by rw [leftT, hp]; rfl
    have hsl : (leftT t (k + 1)).length = t.length := by rw [e, subTo_len, h1]
    have hsr : ∀ i, i < t.length → ((leftT t (k + 1)).getD i []).length = t.length := fun i hi => by rw [e, subTo_row]; exact hrl i hi
    have hsa : ∀ i j, i < t.length → at2 (leftT t (k + 1)) i j = at2 (leftT t k) i j + if j = (p.getD i 0).toNat then -1 else 0 := fun i j hi => by
      rw [e, subTo_at _ p t.length h1 hrl (valid_in hpv hpl) _ (Nat.le_refl _) i j]
      congr 1
      by_cases hj : j = (p.getD i 0).toNat
      · rw [if_pos hj, if_pos ⟨hi, hj⟩]
      · rw [if_neg hj, if_neg (fun h => hj h.2)]
    have hv' : tvB (leftT t (k + 1)) = true := tv_of h6 hsl hsr fun i j hi hj => by
      rw [hsa i j hi]
      have ha := hat i j
      split
      · rename_i hjp
        have := cov_at _ p i hcov (by omega) (by omega)
        rw [← hjp] at this
        omega
      · omega
    have hlin := lines_add (d := -1) hpv hpl h1 hsl hrl hsr hsa
    obtain ⟨e1, e2⟩ := even_of (M := mostTo t t.length - (k + 1 : Nat)) hv' (fun i hi => by
      rw [hsl] at hi
      have := hlin i hi
      have := hl i hi
      omega)
    rw [hsl] at e2
    exact ⟨hsl, e1, e2 hn⟩
theorem perm_facts {t : Tab} (he : evenB t = true) (hn : 0 < t.length) {k : Nat} (hk : (k : Int) < mostTo t t.length) : firstT (leftT t k) = some (permT t k) ∧ validB (permT t k) = true ∧ (permT t k).length = t.length ∧ ∀ i, i < t.length → 0 ≤ (permT t k).getD i 0 ∧ (permT t k).getD i 0 < t.length ∧ 1 ≤ at2 (leftT t k) i ((permT t k).getD i 0).toNat ∧ at2 (leftT t k) i ((permT t k).getD i 0).toNat ≤ 6 := by
  obtain ⟨h1, h2, h3⟩ := left_facts he hn k (by omega)
  obtain ⟨hv, _⟩ := even_facts h2
  obtain ⟨h6, hrl, hat⟩ := tv_facts hv
  obtain ⟨p, hp⟩ := even_first h2 (by rw [h1]; omega)
  have e : permT t k = p := by rw [permT, hp]; rfl
  obtain ⟨f1, f2, f3, f4⟩ := first_facts hp
  rw [e]
  refine ⟨hp, first_valid h6 hp, by omega, fun i hi => ?_⟩
  have g1 := f3 _ (getD_mem p 0 i (by omega))
  have g2 := cov_at _ p i f4 (by omega) (by omega)
  have g3 := hat i (p.getD i 0).toNat
  omega
theorem tab_ext {t u : Tab} {n : Nat} (h1 : t.length = n) (h2 : u.length = n) (h3 : ∀ i, i < n → (t.getD i []).length = n) (h4 : ∀ i, i < n → (u.getD i []).length = n) (h : ∀ i j, i < n → j < n → at2 t i j = at2 u i j) : t = u := by
  apply List.ext_getElem (by omega)
  intro i hi hi2
  have e1 := getD_lt t [] i hi
  have e2 := getD_lt u [] i hi2
  have l1 := h3 i (by omega)
  have l2 := h4 i (by omega)
  rw [e1] at l1
  rw [e2] at l2
  apply List.ext_getElem (by omega)
  intro j hj hj2
  have := h i j (by omega) (by omega)
  unfold at2 at this
  rw [e1, e2, getD_lt _ 0 j hj, getD_lt _ 0 j hj2] at this
  exact this
theorem splitL_len (t : Tab) (m : Nat) : (splitL t m).length = m := by simp [splitL]
theorem splitL_get (t : Tab) (m k : Nat) (h : k < m) : (splitL t m).getD k [] = permT t k := by simp [splitL, h]
/-- together they are just the table -/
theorem load_split {t : Tab} (he : evenB t = true) (hn : 0 < t.length) {m : Nat} (hm : (m : Int) ≤ mostTo t t.length) : ∀ k, k ≤ m → ∃ u, loadGo t.length (splitL t m) k = some u ∧ ∀ i j, i < t.length → at2 u i j = at2 t i j - at2 (leftT t k) i j
  | 0, _ => ⟨zeroT t.length, rfl, fun i j _ => by rw [zero_at]; simp [leftT]⟩
  | k + 1, hk => by
    obtain ⟨u, h1, h2⟩ := load_split he hn hm k (by omega)
    obtain ⟨f1, f2, f3, f4⟩ := perm_facts he hn (k := k) (by omega)
    obtain ⟨g1, g2, _⟩ := left_facts he hn k (by omega)
    obtain ⟨hv, _⟩ := even_facts g2
    obtain ⟨h6, hrl, _⟩ := tv_facts hv
    rw [g1] at hrl
    obtain ⟨u1, u2, _⟩ := load_facts k u h1
    refine ⟨addTo u (permT t k) t.length, ?_, fun i j hi => ?_⟩
    · rw [loadGo, h1, splitL_get t m k (by omega)]
      exact if_pos ⟨f2, f3⟩
    · have e : leftT t (k + 1) = subTo (leftT t k) (permT t k) t.length := rfl
      rw [e, addTo_at u _ t.length u1 u2 (valid_in f2 f3) _ (Nat.le_refl _), subTo_at _ _ t.length g1 hrl (valid_in f2 f3) _ (Nat.le_refl _), h2 i j hi]
      split <;> omega
theorem loadV_split {t : Tab} (he : evenB t = true) : loadV t.length (splitV t) = t := by
  obtain ⟨hv, _⟩ := even_facts he
  obtain ⟨h6, hrl, hat⟩ := tv_facts hv
  rw [splitV, if_pos he]
  by_cases hn : 0 < t.length
  · have hb := most_bd hv t.length (Nat.le_refl _)
    obtain ⟨u, h1, h2⟩ := load_split he hn (m := (mostTo t t.length).toNat) (by omega) _ (Nat.le_refl _)
    obtain ⟨g1, g2, g3⟩ := left_facts he hn (mostTo t t.length).toNat (by omega)
    obtain ⟨hv2, hl2⟩ := even_facts g2
    obtain ⟨_, hrl2, hat2⟩ := tv_facts hv2
    rw [g1] at hl2 hrl2
    obtain ⟨u1, u2, _⟩ := load_facts _ u h1
    have hz : ∀ i j, i < t.length → j < t.length → at2 (leftT t (mostTo t t.length).toNat) i j = 0 := fun i j hi hj => by
      have h0 := (hl2 i hi).1
      rw [row_sum (hrl2 i hi)] at h0
      have h5 := sum_sub (fun j => at2 (leftT t (mostTo t t.length).toNat) i j) [j] (List.range t.length) (by simp) (fun x hx => by obtain rfl := List.mem_singleton.1 hx; exact List.mem_range.2 hj) (fun o _ => (hat2 i o).1)
      have h7 := hat2 i j
      simp only [List.map_cons, List.map_nil, List.sum_cons, List.sum_nil] at h5
      omega
    have hu : u = t := tab_ext u1 rfl u2 hrl fun i j hi hj => by
      have := h2 i j hi
      have := hz i j hi hj
      omega
    subst hu
    rw [loadV, if_pos ⟨by omega, by omega⟩, Int.toNat_natCast, splitL_len, h1]
    exact if_pos hv
  · have : t = [] := by
      rcases t with _ | ⟨r, t⟩
      · rfl
      · simp at hn
    subst this
    decide
theorem splitV_facts {t : Tab} (he : evenB t = true) : ((splitV t).length : Int) = mostV t ∧ ∀ k, k < (splitV t).length → validB ((splitV t).getD k []) = true ∧ ((splitV t).getD k []).length = t.length := by
  obtain ⟨hv, _⟩ := even_facts he
  have hb := most_bd hv t.length (Nat.le_refl _)
  have e : splitV t = splitL t (mostTo t t.length).toNat := by rw [splitV, if_pos he]
  have e2 : mostV t = mostTo t t.length := by rw [mostV, if_pos hv]
  rw [e, splitL_len, e2]
  refine ⟨by omega, fun k hk => ?_⟩
  have hn : 0 < t.length := by
    rcases t with _ | ⟨r, t⟩
    · simp [mostTo] at hk
    · simp
  obtain ⟨_, f2, f3, _⟩ := perm_facts he hn (k := k) (by omega)
  rw [splitL_get t _ k hk]
  exact ⟨f2, f3⟩
end Go.Proofs.Ytmikacjccmchcaa
