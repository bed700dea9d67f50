/-
  Plain: rows that find outputs along alternating ways; if they do not, too many rows share too few outputs. No program is named here.
-/
import Derived.Test.YtmikacjccmchcaaTabS
namespace Go.Proofs.Ytmikacjccmchcaa
abbrev WayR := Bool × List Bool × List Int
def wayL (rec : Int → List Bool → List Int → WayR) (row : List Int) (i : Int) : Nat → List Bool → List Int → WayR
  | 0, tr, ow => (false, tr, ow)
  | k + 1, tr, ow =>
    if row.getD (row.length - (k + 1)) 0 ≤ 0 ∨ tr.getD (row.length - (k + 1)) false = true then wayL rec row i k tr ow
    else if ow.getD (row.length - (k + 1)) 0 < 0 then (true, tr.set (row.length - (k + 1)) true, ow.set (row.length - (k + 1)) i)
    else
      let r := rec (ow.getD (row.length - (k + 1)) 0) (tr.set (row.length - (k + 1)) true) ow
      if r.1 = true then (true, r.2.1, r.2.2.set (row.length - (k + 1)) i) else wayL rec row i k r.2.1 r.2.2
def wayT (t : Tab) : Nat → Int → List Bool → List Int → WayR
  | 0, _, tr, ow => (false, tr, ow)
  | f + 1, i, tr, ow => wayL (wayT t f) (t.getD i.toNat []) i (t.getD i.toNat []).length tr ow
/-- what a way that was found has done -/
structure WayYes (t : Tab) (i : Int) (tr : List Bool) (ow : List Int) (ow' : List Int) : Prop where
  len : ow'.length = ow.length
  keep : ∀ o, tr.getD o false = true → ow'.getD o (-1) = ow.getD o (-1)
  chg : ∀ o, ow'.getD o (-1) ≠ ow.getD o (-1) → 0 ≤ ow'.getD o (-1) ∧ 0 < at2 t (ow'.getD o (-1)).toNat o
  cnt : ∀ r, 0 ≤ r → ow'.count r = ow.count r + if r = i then 1 else 0
/-- what a search that failed has tried -/
structure WayNo (t : Tab) (tr tr' : List Bool) (ow : List Int) : Prop where
  new : ∀ o, tr'.getD o false = true → tr.getD o false = false → 0 ≤ ow.getD o (-1) ∧ ∀ o', 0 < at2 t (ow.getD o (-1)).toNat o' → tr'.getD o' false = true
structure WayOk (t : Tab) (i : Int) (tr : List Bool) (ow : List Int) (r : WayR) : Prop where
  len : r.2.1.length = tr.length
  mono : ∀ o, tr.getD o false = true → r.2.1.getD o false = true
  yes : r.1 = true → WayYes t i tr ow r.2.2
  no : r.1 = false → r.2.2 = ow ∧ WayNo t tr r.2.1 ow ∧ ∀ o, 0 < at2 t i.toNat o → r.2.1.getD o false = true
theorem getD_set_b (l : List Bool) (o o' : Nat) (h : o < l.length) : (l.set o true).getD o' false = if o' = o then true else l.getD o' false := by
  by_cases he : o' = o
  · subst he; simp [h]
  · rw [if_neg he, List.getD_eq_getElem?_getD, List.getElem?_set_ne (Ne.symm he), List.getD_eq_getElem?_getD]
theorem getD_set_i (l : List Int) (o o' : Nat) (v d : Int) (h : o < l.length) : (l.set o v).getD o' d = if o' = o then v else l.getD o' d := by
  by_cases he : o' = o
  · subst he; simp [h]
  · rw [if_neg he, List.getD_eq_getElem?_getD, List.getElem?_set_ne (Ne.symm he), List.getD_eq_getElem?_getD]
theorem count_le_of_mono : ∀ (a b : List Bool), a.length = b.length → (∀ o, a.getD o false = true → b.getD o false = true) → b.count false ≤ a.count false
  | [], [], _, _ => by simp
  | [], y :: b, h, _ => by simp at h
  | x :: a, [], h, _ => by simp at h
  | x :: a, y :: b, h, hm => by
    have ih := count_le_of_mono a b (by simpa using h) (fun o ho => by simpa using hm (o + 1) (by simpa using ho))
    have h0 := hm 0
    simp only [List.getD_cons_zero] at h0
    simp only [List.count_cons]
    cases x <;> cases y <;> simp_all <;> omega
theorem count_set_i (l : List Int) (o : Nat) (v r : Int) (h : o < l.length) : (l.set o v).count r + (if l.getD o (-1) = r then 1 else 0) = l.count r + (if v = r then 1 else 0) := by
  induction l generalizing o with
  | nil => simp at h
  | cons x l ih =>
    cases o with
    | zero =>
      simp only [List.set_cons_zero, List.getD_cons_zero, List.count_cons, beq_iff_eq]
      omega
    | succ o =>
      have := ih o (by simpa using h)
      simp only [List.set_cons_succ, List.getD_cons_succ, List.count_cons]
      omega
theorem out_b {l : List Bool} {o : Nat} (h : l.getD o false = true) : o < l.length := by
  by_cases hl : o < l.length
  · exact hl
  · rw [getD_out l false o (Nat.le_of_not_lt hl)] at h; cases h
theorem wayL_ok (t : Tab) (n : Nat) (rec : Int → List Bool → List Int → WayR) (i : Int) (hi : 0 ≤ i) (ow : List Int) (how : ow.length = n) (hlt : ∀ o, ow.getD o 0 < n) (row : List Int) (hrow : row = t.getD i.toNat []) (hrl : row.length = n) : ∀ (k : Nat) (tr : List Bool), k ≤ n → tr.length = n →
    (∀ (r : Int) tr', tr'.length = n → 0 ≤ r → r < n → tr'.count false < tr.count false → WayOk t r tr' ow (rec r tr' ow)) →
    (∀ o, o < n - k → 0 < row.getD o 0 → tr.getD o false = true) → WayOk t i tr ow (wayL rec row i k tr ow)
  | 0, tr, _, htl, _, hpre => by
    refine ⟨rfl, fun o h => h, (fun h => by cases h), fun _ => ⟨rfl, ⟨(fun o h1 h2 => by rw [show (wayL rec row i 0 tr ow).2.1 = tr from rfl] at h1; rw [h1] at h2; cases h2)⟩, fun o ho => ?_⟩⟩
    have : o < n := by
      by_cases h : o < n
      · exact h
      · exfalso
        unfold at2 at ho
        rw [← hrow, getD_out row 0 o (by omega)] at ho
        omega
    exact hpre o (by omega) (by unfold at2 at ho; rw [← hrow] at ho; exact ho)
  | k + 1, tr, hk, htl, hrc, hpre => by
    have hpos : row.length - (k + 1) = n - (k + 1) := by omega
    have hat : ∀ o, at2 t i.toNat o = row.getD o 0 := fun o => by unfold at2; rw [← hrow]
    unfold wayL
    rw [hpos]
    have hOlt : n - (k + 1) < n := by omega
    generalize hO : n - (k + 1) = O at *
    by_cases h1 : row.getD O 0 ≤ 0 ∨ tr.getD O false = true
    · rw [if_pos h1]
      refine wayL_ok t n rec i hi ow how hlt row hrow hrl k tr (by omega) htl hrc fun o ho hr => ?_
      by_cases h : o < O
      · exact hpre o h hr
      · obtain rfl : o = O := by omega
        rcases h1 with h1 | h1
        · omega
        · exact h1
    · rw [if_neg h1]
      have h1a : 0 < row.getD O 0 := by omega
      have h1b : tr.getD O false = false := by
        cases h : tr.getD O false with
        | true => exact absurd (Or.inr h) h1
        | false => rfl
      have hts := getD_set_b tr O
      have htO : O < tr.length := by omega
      by_cases h2 : ow.getD O 0 < 0
      · rw [if_pos h2]
        have e2 : ow.getD O (-1) = ow.getD O 0 := by rw [getD_lt ow _ O (by omega), getD_lt ow _ O (by omega)]
        refine ⟨by simp, fun o h => ?_, fun _ => ⟨by simp, fun o h => ?_, fun o h => ?_, fun r hr => ?_⟩, (fun h => by cases h)⟩
        · show (tr.set O true).getD o false = true
          rw [hts o htO]
          split
          · rfl
          · exact h
        · show (ow.set O i).getD o (-1) = _
          rw [getD_set_i ow O o i (-1) (by omega), if_neg]
          intro e
          rw [e, h1b] at h
          cases h
        · have h : (ow.set O i).getD o (-1) ≠ ow.getD o (-1) := h
          show 0 ≤ (ow.set O i).getD o (-1) ∧ 0 < at2 t ((ow.set O i).getD o (-1)).toNat o
          rw [getD_set_i ow O o i (-1) (by omega)] at h ⊢
          by_cases he : o = O
          · rw [if_pos he]
            subst he
            exact ⟨hi, by rw [hat]; exact h1a⟩
          · rw [if_neg he] at h
            exact absurd rfl h
        · have := count_set_i ow O i r (by omega)
          show (ow.set O i).count r = _
          rw [if_neg (show ¬ ow.getD O (-1) = r by omega), Nat.add_zero] at this
          rw [this]
          by_cases he : r = i
          · rw [if_pos he, if_pos he.symm]
          · rw [if_neg he, if_neg (Ne.symm he)]
      · rw [if_neg h2]
        have e2 : ow.getD O (-1) = ow.getD O 0 := by rw [getD_lt ow _ O (by omega), getD_lt ow _ O (by omega)]
        have hcs := count_set_true tr O (by rw [getD_lt tr true O htO, ← getD_lt tr false O htO]; exact h1b)
        have hr := hrc (ow.getD O 0) (tr.set O true) (by rw [List.length_set]; exact htl) (by omega) (hlt O) (by omega)
        generalize rec (ow.getD O 0) (tr.set O true) ow = r at hr
        obtain ⟨rb, rt, ro⟩ := r
        obtain ⟨r1, r2, r3, r4⟩ := hr
        simp only at r1 r2 r3 r4 ⊢
        have hmono : ∀ o, tr.getD o false = true → rt.getD o false = true := fun o h => r2 o (by
          rw [hts o htO]
          split
          · rfl
          · exact h)
        cases rb with
        | true =>
          rw [if_pos rfl]
          obtain ⟨y1, y2, y3, y4⟩ := r3 rfl
          have hOk := y2 O (by rw [hts O htO, if_pos rfl])
          refine ⟨by simpa using r1, hmono, fun _ => ⟨by simp [y1], fun o h => ?_, fun o h => ?_, fun r hr => ?_⟩, (fun h => by cases h)⟩
          · show (ro.set O i).getD o (-1) = _
            rw [getD_set_i ro O o i (-1) (by omega), if_neg]
            · refine y2 o ?_
              rw [hts o htO]
              split
              · rfl
              · exact h
            · intro e
              rw [e, h1b] at h
              cases h
          · have h : (ro.set O i).getD o (-1) ≠ ow.getD o (-1) := h
            show 0 ≤ (ro.set O i).getD o (-1) ∧ 0 < at2 t ((ro.set O i).getD o (-1)).toNat o
            rw [getD_set_i ro O o i (-1) (by omega)] at h ⊢
            by_cases he : o = O
            · rw [if_pos he]
              subst he
              exact ⟨hi, by rw [hat]; exact h1a⟩
            · rw [if_neg he] at h ⊢
              exact y3 o h
          · have hc := count_set_i ro O i r (by omega)
            have hy := y4 r hr
            show (ro.set O i).count r = _
            rw [hOk, e2] at hc
            by_cases h5 : r = i
            · by_cases h6 : r = ow.getD O 0
              · rw [if_pos h5]; rw [if_pos h6] at hy; rw [if_pos h6.symm, if_pos h5.symm] at hc; omega
              · rw [if_pos h5]; rw [if_neg h6] at hy; rw [if_neg (Ne.symm h6), if_pos h5.symm] at hc; omega
            · by_cases h6 : r = ow.getD O 0
              · rw [if_neg h5]; rw [if_pos h6] at hy; rw [if_pos h6.symm, if_neg (Ne.symm h5)] at hc; omega
              · rw [if_neg h5]; rw [if_neg h6] at hy; rw [if_neg (Ne.symm h6), if_neg (Ne.symm h5)] at hc; omega
        | false =>
          rw [if_neg (by decide)]
          obtain ⟨n1, n2, n3⟩ := r4 rfl
          subst n1
          have hcm := count_le_of_mono (tr.set O true) rt (by rw [r1]) r2
          have htt : rt.getD O false = true := r2 O (by rw [hts O htO, if_pos rfl])
          have ih := wayL_ok t n rec i hi ro how hlt row hrow hrl k rt (by omega) (by rw [r1, List.length_set]; exact htl)
            (fun r tr' h1 h2 h3 h4 => hrc r tr' h1 h2 h3 (by omega)) (fun o ho hr => by
              by_cases h : o < O
              · exact hmono o (hpre o h hr)
              · obtain rfl : o = O := by omega
                exact htt)
          obtain ⟨i1, i2, i3, i4⟩ := ih
          refine ⟨by rw [i1, r1, List.length_set], fun o h => i2 o (hmono o h), fun h => ?_, fun h => ?_⟩
          · obtain ⟨y1, y2, y3, y4⟩ := i3 h
            exact ⟨y1, fun o ho => y2 o (hmono o ho), y3, y4⟩
          · obtain ⟨j1, j2, j3⟩ := i4 h
            refine ⟨j1, ⟨fun o ho hn => ?_⟩, j3⟩
            by_cases hro : rt.getD o false = true
            · by_cases he : o = O
              · subst he
                rw [e2]
                exact ⟨by omega, fun o' ho' => i2 o' (n3 o' ho')⟩
              · have := n2.new o hro (by rw [hts o htO, if_neg he]; exact hn)
                exact ⟨this.1, fun o' ho' => i2 o' (this.2 o' ho')⟩
            · exact j2.new o ho (by cases h : rt.getD o false with | true => exact absurd h hro | false => rfl)
theorem wayT_ok (t : Tab) (n : Nat) (hn : ∀ i, i < n → (t.getD i []).length = n) (ow : List Int) (how : ow.length = n) (hlt : ∀ o, ow.getD o 0 < n) : ∀ (f : Nat) (i : Int) (tr : List Bool), 0 ≤ i → i < n → tr.length = n → tr.count false < f → WayOk t i tr ow (wayT t f i tr ow)
  | 0, _, _, _, _, _, h => by omega
  | f + 1, i, tr, hi, hin, htl, hf => by
    have hrl := hn i.toNat (by omega)
    unfold wayT
    exact wayL_ok t n (wayT t f) i hi ow how hlt _ rfl hrl _ tr (by omega) htl (fun r tr' h1 h2 h3 h4 => wayT_ok t n hn ow how hlt f r tr' h2 h3 h1 (by omega)) (fun o ho _ => by omega)
end Go.Proofs.Ytmikacjccmchcaa
