/-
  Plain: tables of numbers, and the first permutation that uses only what a table has: by ranks, and by searching. No program is named here.
-/
import Derived.Test.YtmikacjccmchcaaPlain
namespace Go.Proofs.Ytmikacjccmchcaa
abbrev Tab := List (List Int)
def at2 (t : Tab) (i j : Nat) : Int := (t.getD i []).getD j 0
theorem getD_out {α : Type} (l : List α) (d : α) (i : Nat) (h : l.length ≤ i) : l.getD i d = d := by
  rw [List.getD_eq_getElem?_getD, List.getElem?_eq_none h]; rfl
def tvB (t : Tab) : Bool := decide (t.length ≤ 6) && t.all fun r => decide (r.length = t.length) && r.all fun u => decide (0 ≤ u ∧ u ≤ 6)
theorem tv_facts {t : Tab} (h : tvB t = true) : t.length ≤ 6 ∧ (∀ i, i < t.length → (t.getD i []).length = t.length) ∧ ∀ i j, 0 ≤ at2 t i j ∧ at2 t i j ≤ 6 := by
  simp only [tvB, Bool.and_eq_true, decide_eq_true_eq, List.all_eq_true] at h
  refine ⟨h.1, fun i hi => ?_, fun i j => ?_⟩
  · exact (h.2 _ (getD_mem t [] i hi)).1
  · unfold at2
    by_cases hi : i < t.length
    · by_cases hj : j < (t.getD i []).length
      · exact (h.2 _ (getD_mem t [] i hi)).2 _ (getD_mem _ 0 j hj)
      · rw [getD_out _ 0 j (Nat.le_of_not_lt hj)]; decide
    · rw [getD_out t [] i (Nat.le_of_not_lt hi)]; simp
/-! which lists of outputs use only what the rows have -/
def cov : Tab → List Int → Bool
  | row :: rs, o :: p => decide (row.getD o.toNat 0 ≠ 0) && cov rs p
  | _, _ => true
def searchT : Tab → List Int → Option (List Int)
  | [], _ => some []
  | row :: rest, left => left.findSome? fun o => if row.getD o.toNat 0 ≠ 0 then (searchT rest (left.erase o)).map (o :: ·) else none
def Sys (rows : Tab) (left p : List Int) : Prop := p.length = rows.length ∧ p.Nodup ∧ (∀ o ∈ p, o ∈ left) ∧ cov rows p = true
theorem search_sys : ∀ (rows : Tab) (left p : List Int), left.Nodup → searchT rows left = some p → Sys rows left p
  | [], left, p, _, h => by
    simp only [searchT, Option.some.injEq] at h
    subst h
    exact ⟨rfl, .nil, (fun o ho => by cases ho), rfl⟩
  | row :: rest, left, p, hn, h => by
    simp only [searchT] at h
    obtain ⟨o, ho, h2⟩ := List.exists_of_findSome?_eq_some h
    split at h2
    · rename_i hr
      rw [Option.map_eq_some_iff] at h2
      obtain ⟨q, hq, rfl⟩ := h2
      obtain ⟨h3, h4, h5, h6⟩ := search_sys rest (left.erase o) q (hn.erase o) hq
      refine ⟨by simp [h3], ?_, ?_, ?_⟩
      · rw [List.nodup_cons]
        refine ⟨fun hm => ?_, h4⟩
        have := h5 o hm
        rw [hn.mem_erase_iff] at this
        exact this.1 rfl
      · intro x hx
        rcases List.mem_cons.1 hx with rfl | hx
        · exact ho
        · exact List.mem_of_mem_erase (h5 x hx)
      · show (decide (row.getD o.toNat 0 ≠ 0) && cov rest q) = true
        rw [decide_eq_true hr, h6]; rfl
    · cases h2
theorem sys_search : ∀ (rows : Tab) (left p : List Int), left.Nodup → Sys rows left p → (searchT rows left).isSome = true
  | [], left, p, _, _ => rfl
  | row :: rest, left, p, hn, ⟨h1, h2, h3, h4⟩ => by
    match p, h1, h2, h3, h4 with
    | o :: q, h1, h2, h3, h4 =>
      rw [List.nodup_cons] at h2
      simp only [cov, Bool.and_eq_true, decide_eq_true_eq] at h4
      have ih := sys_search rest (left.erase o) q (hn.erase o) ⟨by simpa using h1, h2.2, fun x hx => by
        rw [hn.mem_erase_iff]
        exact ⟨fun e => h2.1 (e ▸ hx), h3 x (by simp [hx])⟩, h4.2⟩
      simp only [searchT]
      rw [List.findSome?_isSome_iff]
      exact ⟨o, h3 o (by simp), by rw [if_pos h4.1]; simpa using ih⟩
/-! the same by ranks -/
theorem findSome_congr {α β : Type} {f g : α → Option β} : ∀ (l : List α), (∀ x ∈ l, f x = g x) → l.findSome? f = l.findSome? g
  | [], _ => rfl
  | x :: l, h => by
    simp only [List.findSome?_cons]
    rw [h x (by simp), findSome_congr l (fun y hy => h y (by simp [hy]))]
theorem findSome_map {α β γ : Type} (f : α → Option β) (g : β → γ) : ∀ (l : List α), (l.findSome? fun x => (f x).map g) = (l.findSome? f).map g
  | [] => rfl
  | x :: l => by
    simp only [List.findSome?_cons]
    cases f x with
    | none => simpa using findSome_map f g l
    | some y => rfl
theorem findSome_none {α β : Type} {f : α → Option β} : ∀ (l : List α), (∀ x ∈ l, f x = none) → l.findSome? f = none
  | [], _ => rfl
  | x :: l, h => by
    simp only [List.findSome?_cons]
    rw [h x (by simp)]
    exact findSome_none l (fun y hy => h y (by simp [hy]))
theorem findSome_mul {β : Type} (F : Nat → Option β) (b : Nat) : ∀ (a : Nat), (List.range (a * b)).findSome? F = (List.range a).findSome? fun d => (List.range b).findSome? fun s => F (d * b + s)
  | 0 => by simp
  | a + 1 => by
    rw [Nat.succ_mul, List.range_add, List.findSome?_append, findSome_mul F b a, List.range_succ, List.findSome?_append, List.findSome?_map]
    simp only [List.findSome?_cons, List.findSome?_nil, Function.comp_def]
    cases (List.range b).findSome? fun s => F (a * b + s) <;> rfl
def tryR (rows : Tab) (left : List Int) (k r : Nat) : Option (List Int) := if cov rows (ofGo k r left) = true then some (ofGo k r left) else none
theorem findSome_index {β : Type} (H : Int → Option β) : ∀ (l : List Int), (List.range l.length).findSome? (fun d => H (l.getD d 0)) = l.findSome? H
  | [] => rfl
  | x :: l => by
    rw [List.length_cons, List.range_succ_eq_map, List.findSome?_cons, List.findSome?_cons, List.findSome?_map]
    simp only [List.getD_cons_zero]
    cases H x with
    | some y => rfl
    | none =>
      simp only [Function.comp_def, List.getD_cons_succ]
      exact findSome_index H l
theorem eraseIdx_eq : ∀ {l : List Int} (_ : l.Nodup) {d : Nat} (_ : d < l.length), l.eraseIdx d = l.erase (l.getD d 0)
  | x :: l, _, 0, _ => by simp
  | x :: l, hn, d + 1, hd => by
    rw [List.nodup_cons] at hn
    have hd2 : d < l.length := by simpa using hd
    have ih := eraseIdx_eq hn.2 hd2
    have hne : x ≠ l.getD d 0 := fun e => hn.1 (e ▸ getD_mem l 0 d hd2)
    rw [List.eraseIdx_cons_succ, List.getD_cons_succ, ih, List.erase_cons_tail (by simpa using hne)]
theorem rank_search : ∀ (rows : Tab) (left : List Int), left.Nodup → left.length = rows.length → (List.range (fact rows.length)).findSome? (tryR rows left rows.length) = searchT rows left
  | [], left, _, _ => rfl
  | row :: rest, left, hn, hl => by
    have hlen : left.length = rest.length + 1 := by simpa using hl
    show (List.range ((rest.length + 1) * fact rest.length)).findSome? (tryR (row :: rest) left (rest.length + 1)) = _
    rw [findSome_mul]
    have e : ∀ d ∈ List.range (rest.length + 1), ((List.range (fact rest.length)).findSome? fun s => tryR (row :: rest) left (rest.length + 1) (d * fact rest.length + s)) =
        (fun o => if row.getD o.toNat 0 ≠ 0 then (searchT rest (left.erase o)).map (o :: ·) else none) (left.getD d 0) := by
      intro d hd
      rw [List.mem_range] at hd
      have hfp := fact_pos rest.length
      have e1 : ∀ s ∈ List.range (fact rest.length), tryR (row :: rest) left (rest.length + 1) (d * fact rest.length + s) = if row.getD (left.getD d 0).toNat 0 ≠ 0 then (tryR rest (left.erase (left.getD d 0)) rest.length s).map (left.getD d 0 :: ·) else none := by
        intro s hs
        rw [List.mem_range] at hs
        have hq : (d * fact rest.length + s) / fact rest.length = d := by
          rw [Nat.mul_comm, Nat.mul_add_div hfp, Nat.div_eq_of_lt hs, Nat.add_zero]
        have hr : (d * fact rest.length + s) % fact rest.length = s := by
          rw [Nat.mul_comm, Nat.mul_add_mod, Nat.mod_eq_of_lt hs]
        unfold tryR
        rw [ofGo, hq, hr, eraseIdx_eq hn (by omega)]
        by_cases h1 : row.getD (left.getD d 0).toNat 0 ≠ 0
        · rw [if_pos h1]
          have hc : cov (row :: rest) (left.getD d 0 :: ofGo rest.length s (left.erase (left.getD d 0))) = cov rest (ofGo rest.length s (left.erase (left.getD d 0))) := by
            show (decide (row.getD (left.getD d 0).toNat 0 ≠ 0) && _) = _
            rw [decide_eq_true h1, Bool.true_and]
          by_cases h2 : cov rest (ofGo rest.length s (left.erase (left.getD d 0))) = true
          · rw [if_pos (hc.trans h2), if_pos h2]; rfl
          · rw [if_neg (by rw [hc]; exact h2), if_neg h2]; rfl
        · rw [if_neg h1, if_neg (by show ¬ ((decide (row.getD (left.getD d 0).toNat 0 ≠ 0) && _) = true); rw [decide_eq_false h1]; simp)]
      rw [findSome_congr _ e1]
      by_cases h1 : row.getD (left.getD d 0).toNat 0 ≠ 0
      · simp only [if_pos h1]
        rw [findSome_map, rank_search rest (left.erase (left.getD d 0)) (hn.erase _) (by rw [List.length_erase_of_mem (getD_mem left 0 d (by omega))]; omega)]
      · simp only [if_neg h1]
        exact findSome_none _ (fun _ _ => rfl)
    rw [findSome_congr _ e, ← hlen]
    exact findSome_index (fun o => if row.getD o.toNat 0 ≠ 0 then (searchT rest (left.erase o)).map (o :: ·) else none) left
def firstT (t : Tab) : Option (List Int) := searchT t (iota t.length)
theorem iota_nodup (n : Nat) : (iota n).Nodup := by
  unfold iota List.Nodup
  rw [List.pairwise_map]
  refine List.Pairwise.imp ?_ List.nodup_range
  intro a b h e
  exact h (by omega)
theorem iota_mem {n : Nat} {v : Int} : v ∈ iota n ↔ 0 ≤ v ∧ v < n := by
  unfold iota
  rw [List.mem_map]
  constructor
  · rintro ⟨a, ha, rfl⟩
    rw [List.mem_range] at ha
    omega
  · intro h
    exact ⟨v.toNat, List.mem_range.2 (by omega), by omega⟩
theorem first_facts {t : Tab} {p : List Int} (h : firstT t = some p) : p.length = t.length ∧ p.Nodup ∧ (∀ o ∈ p, 0 ≤ o ∧ o < t.length) ∧ cov t p = true := by
  obtain ⟨h1, h2, h3, h4⟩ := search_sys t _ p (iota_nodup _) h
  exact ⟨h1, h2, fun o ho => iota_mem.1 (h3 o ho), h4⟩
theorem permGo_ofS {n : Int} : ∀ (rest seen : List Int), (∀ v ∈ rest, 0 ≤ v ∧ v < n) → (seen ++ rest).Nodup → permGo n seen rest = true
  | [], _, _, _ => rfl
  | x :: r, seen, hm, hn => by
    have hx := hm x (by simp)
    have hns : x ∉ seen := fun h => by
      rw [List.nodup_append] at hn
      exact hn.2.2 x h x (by simp) rfl
    simp only [permGo, Bool.and_eq_true, decide_eq_true_eq, Bool.not_eq_true', decide_eq_false_iff_not]
    exact ⟨⟨hx, hns⟩, permGo_ofS r (seen ++ [x]) (fun v hv => hm v (by simp [hv])) (by simpa using hn)⟩
theorem validB_ofS {xs : List Int} (h6 : xs.length ≤ 6) (hm : ∀ v ∈ xs, 0 ≤ v ∧ v < xs.length) (hn : xs.Nodup) : validB xs = true := by
  simp only [validB, Bool.and_eq_true, decide_eq_true_eq]
  exact ⟨h6, permGo_ofS xs [] hm (by simpa using hn)⟩
theorem first_valid {t : Tab} {p : List Int} (h6 : t.length ≤ 6) (h : firstT t = some p) : validB p = true := by
  obtain ⟨h1, h2, h3, h4⟩ := first_facts h
  exact validB_ofS (by omega) (fun v hv => by rw [h1]; exact h3 v hv) h2
theorem cov_at : ∀ (rows : Tab) (p : List Int) (k : Nat), cov rows p = true → k < p.length → p.length ≤ rows.length → at2 rows k (p.getD k 0).toNat ≠ 0
  | row :: rs, o :: p, 0, h, _, _ => by
    simp only [cov, Bool.and_eq_true, decide_eq_true_eq] at h
    exact h.1
  | row :: rs, o :: p, k + 1, h, hk, hl => by
    simp only [cov, Bool.and_eq_true] at h
    have := cov_at rs p k h.2 (by simpa using hk) (by simpa using hl)
    simpa [at2] using this
  | [], o :: p, k, _, _, hl => by simp at hl
  | _, [], k, _, hk, _ => by simp at hk
theorem cov_of : ∀ (rows : Tab) (p : List Int), (∀ k, k < p.length → at2 rows k (p.getD k 0).toNat ≠ 0) → cov rows p = true
  | row :: rs, o :: p, h => by
    simp only [cov, Bool.and_eq_true, decide_eq_true_eq]
    refine ⟨by simpa [at2] using h 0 (by simp), cov_of rs p fun k hk => ?_⟩
    have := h (k + 1) (by simpa using hk)
    simpa [at2] using this
  | [], _, _ => by unfold cov; rfl
  | row :: rs, [], _ => by unfold cov; rfl
end Go.Proofs.Ytmikacjccmchcaa
