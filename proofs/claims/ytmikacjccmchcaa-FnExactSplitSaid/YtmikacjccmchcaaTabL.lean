/-
  Plain: to take for each row the least output with which the others still find theirs gives the first permutation; even tables that have something always have one. No program is named here.
-/
import Derived.Test.YtmikacjccmchcaaTabH
import Derived.Test.YtmikacjccmchcaaTabV
namespace Go.Proofs.Ytmikacjccmchcaa
def leastP (t : Tab) (i : Nat) (taken : List Bool) (o : Nat) : Bool := decide (0 < at2 t i o) && (!taken.getD o false && restB t (i + 1) (taken.set o true))
def leastGo (t : Tab) : Nat → Nat → List Bool → Option (List Int)
  | 0, _, _ => some []
  | k + 1, i, taken => ((List.range t.length).find? (leastP t i taken)).bind fun o => (leastGo t k (i + 1) (taken.set o true)).map ((o : Int) :: ·)
def leastB (t : Tab) : Option (List Int) := leastGo t t.length 0 (List.replicate t.length false)
theorem findSome_filter {α β : Type} (p : α → Bool) (f : α → Option β) : ∀ (l : List α), (l.filter p).findSome? f = l.findSome? fun x => if p x = true then f x else none
  | [] => rfl
  | x :: l => by
    rw [List.filter_cons, List.findSome?_cons]
    cases hp : p x with
    | true =>
      simp only [if_true, List.findSome?_cons]
      rw [findSome_filter p f l]
    | false =>
      simp only [Bool.false_eq_true, if_false]
      exact findSome_filter p f l
theorem findSome_find {α β : Type} (f : α → Option β) (c : α → Bool) : ∀ (l : List α), (∀ x ∈ l, (f x).isSome = c x) → l.findSome? f = (l.find? c).bind f
  | [], _ => rfl
  | x :: l, h => by
    have hx := h x (by simp)
    rw [List.findSome?_cons, List.find?_cons]
    cases hf : f x with
    | some y =>
      rw [hf] at hx
      rw [← hx]
      simp [hf]
    | none =>
      rw [hf] at hx
      rw [← hx]
      simp only [Option.isSome_none]
      exact findSome_find f c l (fun y hy => h y (by simp [hy]))
theorem untaken_erase {n o : Nat} {taken : List Bool} (ho : o < n) (hl : taken.length = n) : (untaken n taken).erase (o : Int) = untaken n (taken.set o true) := by
  rw [List.Nodup.erase_eq_filter (untaken_nodup n taken)]
  unfold untaken
  rw [List.filter_filter]
  apply List.filter_congr
  intro x hx
  rw [iota_mem] at hx
  rw [getD_set_b taken o x.toNat (by omega)]
  by_cases h : x.toNat = o
  · have : x = (o : Int) := by omega
    rw [if_pos h]
    simp [this]
  · have : x ≠ (o : Int) := by omega
    rw [if_neg h]
    simp [this]
theorem least_search {t : Tab} (hs : Sq t) : ∀ (k i : Nat) (taken : List Bool), k = t.length - i → i ≤ t.length → taken.length = t.length → leastGo t k i taken = searchT (t.drop i) (untaken t.length taken)
  | 0, i, taken, hk, hi, htl => by
    obtain rfl : i = t.length := by omega
    rw [List.drop_length]
    rfl
  | k + 1, i, taken, hk, hi, htl => by
    have hd : t.drop i = t.getD i [] :: t.drop (i + 1) := drop_step t [] i (by omega)
    rw [hd, searchT]
    unfold untaken
    rw [findSome_filter]
    unfold iota
    rw [List.findSome?_map]
    have hat : ∀ o : Nat, (t.getD i []).getD o 0 = at2 t i o := fun o => rfl
    have e1 : ∀ o ∈ List.range t.length, ((fun x : Int => if (!taken.getD x.toNat false) = true then (if (t.getD i []).getD x.toNat 0 ≠ 0 then (searchT (t.drop (i + 1)) (((List.map (fun (i : Nat) => (i : Int)) (List.range t.length)).filter fun o => !taken.getD o.toNat false).erase x)).map (x :: ·) else none) else none) ∘ fun (i : Nat) => (i : Int)) o =
        if taken.getD o false = false ∧ 0 < at2 t i o then (leastGo t k (i + 1) (taken.set o true)).map ((o : Int) :: ·) else none := by
      intro o ho
      rw [List.mem_range] at ho
      simp only [Function.comp, Int.toNat_natCast, hat]
      have hnn := hs.nn i o
      cases hto : taken.getD o false with
      | true => simp
      | false =>
        by_cases h1 : 0 < at2 t i o
        · rw [if_pos (by rfl), if_pos (by omega), if_pos ⟨rfl, h1⟩]
          have e2 := untaken_erase (n := t.length) (o := o) ho htl
          unfold untaken iota at e2
          rw [e2]
          have ih := least_search hs k (i + 1) (taken.set o true) (by omega) (by omega) (by rw [List.length_set]; exact htl)
          rw [ih]
          rfl
        · rw [if_pos (by rfl), if_neg (by omega), if_neg (fun h => h1 h.2)]
    rw [findSome_congr _ e1]
    rw [findSome_find _ (leastP t i taken)]
    · rw [show leastGo t (k + 1) i taken = ((List.range t.length).find? (leastP t i taken)).bind fun o => (leastGo t k (i + 1) (taken.set o true)).map ((o : Int) :: ·) from rfl]
      cases hfd : (List.range t.length).find? (leastP t i taken) with
      | none => rfl
      | some o =>
        have h1 := List.find?_some hfd
        simp only [leastP, Bool.and_eq_true, decide_eq_true_eq, Bool.not_eq_true'] at h1
        show _ = (if taken.getD o false = false ∧ 0 < at2 t i o then _ else none)
        rw [if_pos ⟨h1.2.1, h1.1⟩]
        rfl
    · intro o ho
      rw [List.mem_range] at ho
      have hr := restB_iff hs (taken := taken.set o true) (by rw [List.length_set]; exact htl) (i := i + 1) (by omega)
      have ih := least_search hs k (i + 1) (taken.set o true) (by omega) (by omega) (by rw [List.length_set]; exact htl)
      rw [leastP, hr, ← ih]
      cases hto : taken.getD o false with
      | true => simp
      | false =>
        by_cases h1 : 0 < at2 t i o
        · rw [if_pos ⟨rfl, h1⟩, decide_eq_true h1]; simp
        · rw [if_neg (fun h => h1 h.2), decide_eq_false h1]; simp
theorem least_first {t : Tab} (hs : Sq t) : leastB t = firstT t := by
  unfold leastB firstT
  rw [least_search hs t.length 0 _ (by omega) (by omega) (by simp), List.drop_zero]
  congr 1
  unfold untaken
  rw [List.filter_eq_self]
  intro o ho
  rw [iota_mem] at ho
  have : o.toNat < t.length := by omega
  simp [this]
theorem tv_sq {t : Tab} (h : tvB t = true) : Sq t := by
  obtain ⟨h1, h2, h3⟩ := tv_facts h
  exact ⟨h2, fun i j => (h3 i j).1⟩
/-! even tables -/
theorem sum_row (row : List Int) (n : Nat) (h : row.length = n) : row.sum = ((List.range n).map fun o => row.getD o 0).sum := by
  subst h
  congr 1
  apply List.ext_getElem
  · simp
  · intro j h1 h2
    simp [h1]
theorem sum_filter (p : Nat → Bool) (g : Nat → Int) : ∀ (l : List Nat), (∀ o ∈ l, p o = false → g o = 0) → (l.map g).sum = ((l.filter p).map g).sum
  | [], _ => rfl
  | x :: l, h => by
    have ih := sum_filter p g l (fun o ho => h o (by simp [ho]))
    rw [List.filter_cons]
    cases hp : p x with
    | true => simp [ih]
    | false =>
      have := h x (by simp) hp
      simp [ih, this]
theorem sum_zero : ∀ (l : List Nat), (l.map fun _ => (0 : Int)).sum = 0
  | [] => rfl
  | x :: l => by simp [sum_zero l]
theorem sum_add (f g : Nat → Int) : ∀ (l : List Nat), (l.map fun o => f o + g o).sum = (l.map f).sum + (l.map g).sum
  | [] => rfl
  | x :: l => by
    have := sum_add f g l
    simp only [List.map_cons, List.sum_cons]
    omega
theorem sum_swap (g : Nat → Nat → Int) (X : List Nat) : ∀ (S : List Nat), (S.map fun r => (X.map fun o => g r o).sum).sum = (X.map fun o => (S.map fun r => g r o).sum).sum
  | [] => by simp [sum_zero]
  | r :: S => by
    simp only [List.map_cons, List.sum_cons]
    rw [sum_swap g X S, sum_add]
theorem sum_mono (f g : Nat → Int) : ∀ (l : List Nat), (∀ o ∈ l, f o ≤ g o) → (l.map f).sum ≤ (l.map g).sum
  | [], _ => Int.le_refl _
  | x :: l, h => by
    have h1 := sum_mono f g l (fun o ho => h o (by simp [ho]))
    have h2 := h x (by simp)
    simp only [List.map_cons, List.sum_cons]
    omega
theorem sum_const (m : Int) : ∀ (l : List Nat), (l.map fun _ => m).sum = m * (l.length : Int)
  | [] => by simp
  | x :: l => by
    have := sum_const m l
    simp only [List.map_cons, List.sum_cons, List.length_cons, Int.natCast_add, Int.mul_add]
    omega
theorem sum_erase (g : Nat → Int) : ∀ (l : List Nat) (a : Nat), a ∈ l → (l.map g).sum = g a + ((l.erase a).map g).sum
  | x :: l, a, h => by
    by_cases he : x = a
    · subst he; simp
    · have ha : a ∈ l := by
        rcases List.mem_cons.1 h with h | h
        · exact absurd h.symm he
        · exact h
      have := sum_erase g l a ha
      rw [List.erase_cons_tail (by simpa using he)]
      simp only [List.map_cons, List.sum_cons]
      omega
theorem sum_nn (g : Nat → Int) : ∀ (l : List Nat), (∀ o ∈ l, 0 ≤ g o) → 0 ≤ (l.map g).sum
  | [], _ => by simp
  | x :: l, h => by
    have h1 := sum_nn g l (fun o ho => h o (by simp [ho]))
    have h2 := h x (by simp)
    simp only [List.map_cons, List.sum_cons]
    omega
theorem sum_sub (g : Nat → Int) : ∀ (S l : List Nat), S.Nodup → (∀ x ∈ S, x ∈ l) → (∀ o ∈ l, 0 ≤ g o) → (S.map g).sum ≤ (l.map g).sum
  | [], l, _, _, h => by simpa using sum_nn g l h
  | a :: S, l, hn, hs, h => by
    rw [List.nodup_cons] at hn
    have ha := hs a (by simp)
    have ih := sum_sub g S (l.erase a) hn.2 (fun x hx => (List.mem_erase_of_ne (fun e => hn.1 (by rw [← e]; exact hx))).2 (hs x (by simp [hx]))) (fun o ho => h o (List.mem_of_mem_erase ho))
    rw [sum_erase g l a ha]
    simp only [List.map_cons, List.sum_cons]
    omega
theorem even_facts {t : Tab} (h : evenB t = true) : tvB t = true ∧ ∀ k, k < t.length → rowS t k = mostTo t t.length ∧ colS t k = mostTo t t.length := by
  simp only [evenB, Bool.and_eq_true, List.all_eq_true, List.mem_range, decide_eq_true_eq] at h
  exact ⟨h.1, h.2⟩
theorem even_first {t : Tab} (h : evenB t = true) (hp : 0 < mostTo t t.length) : ∃ p, firstT t = some p := by
  obtain ⟨hv, he⟩ := even_facts h
  have hs := tv_sq hv
  rcases restB_or hs (taken := List.replicate t.length false) (by simp) (i := 0) (by omega) with ⟨_, ow, h2⟩ | ⟨_, S, X, hst⟩
  · obtain ⟨p, hp⟩ := own_sys (by omega) h2
    have := sys_search _ _ p (untaken_nodup _ _) hp
    rw [← restB_iff hs (by simp) (by omega)] at this
    have h3 := restB_iff hs (taken := List.replicate t.length false) (by simp) (i := 0) (by omega)
    rw [this, List.drop_zero] at h3
    have e : untaken t.length (List.replicate t.length false) = iota t.length := by
      unfold untaken
      rw [List.filter_eq_self]
      intro o ho
      rw [iota_mem] at ho
      have : o.toNat < t.length := by omega
      simp [this]
    rw [e] at h3
    exact Option.isSome_iff_exists.1 h3.symm
  · exfalso
    have hto : ∀ o, (List.replicate t.length false).getD o false = false := fun o => by
      by_cases h : o < t.length <;> simp [h]
    have e1 : (S.map fun r => rowS t r).sum = mostTo t t.length * (S.length : Int) := by
      rw [← sum_const]
      congr 1
      apply List.map_congr_left
      intro r hr
      exact (he r (hst.sr r hr).2).1
    have e2 : ∀ r ∈ S, rowS t r = (X.map fun o => at2 t r o).sum := fun r hr => by
      have hr2 := hst.sr r hr
      rw [rowS, sum_row _ _ (hs.row r hr2.2)]
      have h1 : ((List.range t.length).map fun o => at2 t r o).sum ≤ (X.map fun o => at2 t r o).sum := by
        rw [sum_filter (fun o => decide (o ∈ X)) (fun o => at2 t r o) (List.range t.length) (fun o _ hn => by
          have h0 := hs.nn r o
          by_cases hpos : 0 < at2 t r o
          · have := hst.all r hr o hpos (hto o)
            simp [this] at hn
          · omega)]
        exact sum_sub _ _ _ (List.Pairwise.filter _ List.nodup_range) (fun x hx => by
          have := (List.mem_filter.1 hx).2
          simpa using this) (fun o _ => hs.nn r o)
      have h2 : (X.map fun o => at2 t r o).sum ≤ ((List.range t.length).map fun o => at2 t r o).sum :=
        sum_sub _ _ _ hst.xn (fun x hx => List.mem_range.2 (hst.xr x hx)) (fun o _ => hs.nn r o)
      have h3 : ((List.range t.length).map fun o => at2 t r o).sum = ((List.range t.length).map fun o => (t.getD r []).getD o 0).sum := rfl
      omega
    have e3 : (S.map fun r => rowS t r).sum = (X.map fun o => (S.map fun r => at2 t r o).sum).sum := by
      rw [← sum_swap]
      congr 1
      apply List.map_congr_left
      exact e2
    have e4 : (X.map fun o => (S.map fun r => at2 t r o).sum).sum ≤ (X.map fun _ => mostTo t t.length).sum := by
      apply sum_mono
      intro o ho
      have ho2 := hst.xr o ho
      rw [← (he o ho2).2, colS, sum_row _ _ (colL_len t o)]
      have h3 : ((List.range t.length).map fun i => (colL t o).getD i 0) = (List.range t.length).map fun i => at2 t i o := by
        apply List.map_congr_left
        intro i _
        exact colL_get t o i
      rw [h3]
      exact sum_sub _ _ _ hst.sn (fun x hx => List.mem_range.2 (hst.sr x hx).2) (fun i _ => hs.nn i o)
    rw [sum_const] at e4
    rw [← e3, e1, hst.len, Int.natCast_add, Int.mul_add] at e4
    omega
end Go.Proofs.Ytmikacjccmchcaa
