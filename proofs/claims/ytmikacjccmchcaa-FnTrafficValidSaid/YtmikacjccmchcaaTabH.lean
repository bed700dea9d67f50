/-
  Plain: the rows from one on find different outputs exactly if the search along alternating ways finds them; in even tables that have something they always do. No program is named here.
-/
import Derived.Test.YtmikacjccmchcaaTabK
namespace Go.Proofs.Ytmikacjccmchcaa
def restGo (t : Tab) (taken : List Bool) : Nat → Nat → List Int → Bool
  | 0, _, _ => true
  | k + 1, i, ow => (wayT t (t.length + 1) i taken ow).1 && restGo t taken k (i + 1) (wayT t (t.length + 1) i taken ow).2.2
def restB (t : Tab) (i : Nat) (taken : List Bool) : Bool := restGo t taken (t.length - i) i (List.replicate t.length (-1))
structure Sq (t : Tab) : Prop where
  row : ∀ i, i < t.length → (t.getD i []).length = t.length
  nn : ∀ i j, 0 ≤ at2 t i j
theorem at2_lt {t : Tab} (h : Sq t) {i j : Nat} (ha : 0 < at2 t i j) : i < t.length ∧ j < t.length := by
  unfold at2 at ha
  by_cases hi : i < t.length
  · refine ⟨hi, ?_⟩
    by_cases hj : j < t.length
    · exact hj
    · rw [getD_out _ 0 j (by rw [h.row i hi]; omega)] at ha; omega
  · rw [getD_out t [] i (by omega)] at ha; simp at ha
structure OwnI (t : Tab) (taken : List Bool) (fr i : Nat) (ow : List Int) : Prop where
  len : ow.length = t.length
  lt : ∀ o, ow.getD o (-1) < t.length
  ge : ∀ o, -1 ≤ ow.getD o (-1)
  good : ∀ o, 0 ≤ ow.getD o (-1) → taken.getD o false = false ∧ 0 < at2 t (ow.getD o (-1)).toNat o
  cnt : ∀ r : Nat, ow.count (r : Int) = if fr ≤ r ∧ r < i then 1 else 0
theorem ownI_start (t : Tab) (taken : List Bool) (fr : Nat) : OwnI t taken fr fr (List.replicate t.length (-1)) := by
  have e : ∀ o, (List.replicate t.length (-1 : Int)).getD o (-1) = -1 := fun o => by
    by_cases h : o < t.length <;> simp [h]
  refine ⟨by simp, fun o => by rw [e]; omega, fun o => by rw [e]; omega, fun o h => by rw [e] at h; omega, fun r => ?_⟩
  rw [if_neg (by omega), List.count_eq_zero]
  intro h
  have := (List.mem_replicate.1 h).2
  omega
theorem ownI_way {t : Tab} (hs : Sq t) {taken : List Bool} (htl : taken.length = t.length) {fr i : Nat} {ow : List Int} (h : OwnI t taken fr i ow) (hi : i < t.length) : WayOk t i taken ow (wayT t (t.length + 1) i taken ow) := by
  refine wayT_ok t t.length hs.row ow h.len (fun o => ?_) (t.length + 1) i taken (by omega) (by omega) htl ?_
  · by_cases ho : o < ow.length
    · have := h.lt o; rwa [getD_lt ow _ o ho] at this ⊢
    · rw [getD_out ow _ o (by omega)]; omega
  · have := List.count_le_length (a := false) (l := taken)
    omega
theorem ownI_next {t : Tab} (hs : Sq t) {taken : List Bool} {fr i : Nat} {ow ow' : List Int} (h : OwnI t taken fr i ow) (hi : i < t.length) (hfr : fr ≤ i) (hy : WayYes t i taken ow ow') : OwnI t taken fr (i + 1) ow' := by
  refine ⟨by rw [hy.len, h.len], fun o => ?_, fun o => ?_, fun o ho => ?_, fun r => ?_⟩
  · by_cases he : ow'.getD o (-1) = ow.getD o (-1)
    · rw [he]; exact h.lt o
    · have h1 := hy.chg o he
      have := (at2_lt hs h1.2).1
      omega
  · by_cases he : ow'.getD o (-1) = ow.getD o (-1)
    · rw [he]; exact h.ge o
    · have h1 := hy.chg o he
      omega
  · by_cases he : ow'.getD o (-1) = ow.getD o (-1)
    · rw [he] at ho ⊢; exact h.good o ho
    · refine ⟨?_, (hy.chg o he).2⟩
      cases ht : taken.getD o false with
      | false => rfl
      | true => exact absurd (hy.keep o ht) he
  · have h1 := hy.cnt (r : Int) (by omega)
    have h2 := h.cnt r
    rw [h1, h2]
    by_cases he : r = i
    · subst he
      rw [if_neg (by omega), if_pos rfl, if_pos (by omega)]
    · rw [if_neg (show ¬ (r : Int) = (i : Int) by omega)]
      by_cases hc : fr ≤ r ∧ r < i
      · rw [if_pos hc, if_pos (by omega)]
      · rw [if_neg hc, if_neg (by omega)]
/-- what is left when the search fails -/
structure Stuck (t : Tab) (taken : List Bool) (fr : Nat) (S X : List Nat) : Prop where
  sn : S.Nodup
  len : S.length = X.length + 1
  sr : ∀ r ∈ S, fr ≤ r ∧ r < t.length
  xn : X.Nodup
  xr : ∀ o ∈ X, o < t.length
  all : ∀ r ∈ S, ∀ o, 0 < at2 t r o → taken.getD o false = false → o ∈ X
theorem count_one {l : List Int} {r : Int} (h : l.count r ≤ 1) {a b : Nat} (ha : a < l.length) (hb : b < l.length) (e1 : l.getD a (-1) = r) (e2 : l.getD b (-1) = r) : a = b := by
  induction l generalizing a b with
  | nil => simp at ha
  | cons x l ih =>
    rw [List.count_cons] at h
    match a, b with
    | 0, 0 => rfl
    | 0, b + 1 =>
      simp only [List.getD_cons_zero, List.getD_cons_succ] at e1 e2
      have hb' : b < l.length := by simpa using hb
      have : r ∈ l := e2 ▸ getD_mem l (-1) b hb'
      have := List.count_pos_iff.2 this
      rw [if_pos (by simpa using e1)] at h
      omega
    | a + 1, 0 =>
      simp only [List.getD_cons_zero, List.getD_cons_succ] at e1 e2
      have ha' : a < l.length := by simpa using ha
      have : r ∈ l := e1 ▸ getD_mem l (-1) a ha'
      have := List.count_pos_iff.2 this
      rw [if_pos (by simpa using e2)] at h
      omega
    | a + 1, b + 1 =>
      simp only [List.getD_cons_succ] at e1 e2
      rw [ih (by omega) (by simpa using ha) (by simpa using hb) e1 e2]
theorem stuck_of {t : Tab} (hs : Sq t) {taken : List Bool} (_ : taken.length = t.length) {fr i : Nat} {ow : List Int} (h : OwnI t taken fr i ow) (hi : i < t.length) (hfr : fr ≤ i) {tr : List Bool} (htr : tr.length = t.length) (hno : WayNo t taken tr ow) (hall : ∀ o, 0 < at2 t i o → tr.getD o false = true) : ∃ S X, Stuck t taken fr S X := by
  let X := (List.range t.length).filter fun o => tr.getD o false && !taken.getD o false
  have hX : ∀ o, o ∈ X ↔ (o < t.length ∧ tr.getD o false = true ∧ taken.getD o false = false) := fun o => by
    simp [X, List.mem_filter]
  have hXn : X.Nodup := List.Pairwise.filter _ List.nodup_range
  have hrow : ∀ o ∈ X, 0 ≤ ow.getD o (-1) ∧ fr ≤ (ow.getD o (-1)).toNat ∧ (ow.getD o (-1)).toNat < i := fun o ho => by
    obtain ⟨h1, h2, h3⟩ := (hX o).1 ho
    have h4 := (hno.new o h2 h3).1
    refine ⟨h4, ?_⟩
    have h5 := h.cnt (ow.getD o (-1)).toNat
    rw [Int.toNat_of_nonneg h4] at h5
    have h6 : ow.getD o (-1) ∈ ow := getD_mem ow (-1) o (by rw [h.len]; exact h1)
    have h7 := List.count_pos_iff.2 h6
    by_cases hc : fr ≤ (ow.getD o (-1)).toNat ∧ (ow.getD o (-1)).toNat < i
    · exact hc
    · rw [if_neg hc] at h5; omega
  refine ⟨i :: X.map (fun o => (ow.getD o (-1)).toNat), X, ⟨?_, by simp, ?_, hXn, fun o ho => ((hX o).1 ho).1, ?_⟩⟩
  · rw [List.nodup_cons]
    constructor
    · intro hm
      obtain ⟨o, ho, he⟩ := List.mem_map.1 hm
      have := hrow o ho
      omega
    · unfold List.Nodup
      rw [List.pairwise_map]
      refine List.Pairwise.imp_of_mem ?_ hXn
      intro a b ha hb hne he
      have h1 := hrow a ha
      have h2 := hrow b hb
      have h3 := h.cnt (ow.getD a (-1)).toNat
      rw [if_pos h1.2, Int.toNat_of_nonneg h1.1] at h3
      exact hne (count_one (l := ow) (r := ow.getD a (-1)) (by omega) (by rw [h.len]; exact ((hX a).1 ha).1) (by rw [h.len]; exact ((hX b).1 hb).1) rfl (by omega))
  · intro r hr
    rcases List.mem_cons.1 hr with rfl | hr
    · exact ⟨hfr, hi⟩
    · obtain ⟨o, ho, rfl⟩ := List.mem_map.1 hr
      have := hrow o ho
      omega
  · intro r hr o ho hto
    rw [hX]
    refine ⟨(at2_lt hs ho).2, ?_, hto⟩
    rcases List.mem_cons.1 hr with rfl | hr
    · exact hall o ho
    · obtain ⟨o', ho', rfl⟩ := List.mem_map.1 hr
      obtain ⟨h1, h2, h3⟩ := (hX o').1 ho'
      exact (hno.new o' h2 h3).2 o ho
theorem restGo_or {t : Tab} (hs : Sq t) {taken : List Bool} (htl : taken.length = t.length) {fr : Nat} : ∀ (k i : Nat) (ow : List Int), k = t.length - i → i ≤ t.length → fr ≤ i → OwnI t taken fr i ow → (restGo t taken k i ow = true ∧ ∃ ow', OwnI t taken fr t.length ow') ∨ (restGo t taken k i ow = false ∧ ∃ S X, Stuck t taken fr S X)
  | 0, i, ow, hk, hi, hf, h => by
    obtain rfl : i = t.length := by omega
    exact Or.inl ⟨rfl, ow, h⟩
  | k + 1, i, ow, hk, hi, hf, h => by
    have hw := ownI_way hs htl h (by omega)
    unfold restGo
    generalize wayT t (t.length + 1) i taken ow = W at hw
    obtain ⟨W1, W2, W3⟩ := W
    cases W1 with
    | true =>
      have h2 := ownI_next hs h (by omega) hf (hw.yes rfl)
      simpa using restGo_or hs htl k (i + 1) W3 (by omega) (by omega) (by omega) h2
    | false =>
      obtain ⟨_, h2, h3⟩ := hw.no rfl
      exact Or.inr ⟨rfl, stuck_of hs htl h (by omega) hf (by rw [hw.len]; exact htl) h2 (fun o ho => h3 o (by simpa using ho))⟩
theorem restB_or {t : Tab} (hs : Sq t) {taken : List Bool} (htl : taken.length = t.length) {i : Nat} (hi : i ≤ t.length) : (restB t i taken = true ∧ ∃ ow', OwnI t taken i t.length ow') ∨ (restB t i taken = false ∧ ∃ S X, Stuck t taken i S X) :=
  restGo_or hs htl _ i _ rfl hi (Nat.le_refl _) (ownI_start t taken i)
def untaken (n : Nat) (taken : List Bool) : List Int := (iota n).filter fun o => !taken.getD o.toNat false
theorem untaken_mem {n : Nat} {taken : List Bool} {o : Int} : o ∈ untaken n taken ↔ (0 ≤ o ∧ o < n) ∧ taken.getD o.toNat false = false := by
  unfold untaken
  rw [List.mem_filter, iota_mem]
  simp
theorem own_sys {t : Tab} {taken : List Bool} {fr : Nat} (hf : fr ≤ t.length) {ow : List Int} (h : OwnI t taken fr t.length ow) : ∃ p, Sys (t.drop fr) (untaken t.length taken) p := by
  have hm : ∀ j, j < t.length - fr → ((fr + j : Nat) : Int) ∈ ow := fun j hj => by
    have := h.cnt (fr + j)
    rw [if_pos (by omega)] at this
    exact List.count_pos_iff.1 (by omega)
  have hidx : ∀ j, j < t.length - fr → ow.idxOf ((fr + j : Nat) : Int) < t.length ∧ ow.getD (ow.idxOf ((fr + j : Nat) : Int)) (-1) = ((fr + j : Nat) : Int) := fun j hj => by
    have h1 := List.idxOf_lt_length_of_mem (hm j hj)
    refine ⟨by rw [← h.len]; exact h1, ?_⟩
    rw [getD_lt ow (-1) _ h1]
    exact List.getElem_idxOf h1
  refine ⟨(List.range (t.length - fr)).map fun j => ((ow.idxOf ((fr + j : Nat) : Int) : Nat) : Int), by simp, ?_, fun o ho => ?_, ?_⟩
  · unfold List.Nodup
    rw [List.pairwise_map]
    refine List.Pairwise.imp_of_mem ?_ List.nodup_range
    intro a b ha hb hne he
    rw [List.mem_range] at ha hb
    have h1 := (hidx a ha).2
    have h2 := (hidx b hb).2
    have e : ow.idxOf ((fr + a : Nat) : Int) = ow.idxOf ((fr + b : Nat) : Int) := by omega
    rw [e, h2] at h1
    omega
  · obtain ⟨j, hj, rfl⟩ := List.mem_map.1 ho
    rw [List.mem_range] at hj
    have h1 := hidx j hj
    rw [untaken_mem, Int.toNat_natCast]
    exact ⟨by omega, (h.good _ (by rw [h1.2]; omega)).1⟩
  · apply cov_of
    intro k hk
    have hk' : k < t.length - fr := by simpa using hk
    have h1 := hidx k hk'
    have h2 := (h.good _ (by rw [h1.2]; omega)).2
    rw [h1.2, Int.toNat_natCast] at h2
    have e1 : ((List.range (t.length - fr)).map fun j => ((ow.idxOf ((fr + j : Nat) : Int) : Nat) : Int)).getD k 0 = ((ow.idxOf ((fr + k : Nat) : Int) : Nat) : Int) := by simp [hk']
    rw [e1, Int.toNat_natCast]
    have e2 : at2 (t.drop fr) k (ow.idxOf ((fr + k : Nat) : Int)) = at2 t (fr + k) (ow.idxOf ((fr + k : Nat) : Int)) := by
      unfold at2
      congr 1
      simp
    rw [e2]
    omega
theorem sub_len : ∀ (a b : List Nat), a.Nodup → (∀ x ∈ a, x ∈ b) → a.length ≤ b.length
  | [], _, _, _ => Nat.zero_le _
  | x :: a, b, hn, hs => by
    rw [List.nodup_cons] at hn
    have hx := hs x (by simp)
    have ih := sub_len a (b.erase x) hn.2 (fun y hy => (List.mem_erase_of_ne (fun e => hn.1 (by rw [← e]; exact hy))).2 (hs y (by simp [hy])))
    rw [List.length_erase_of_mem hx] at ih
    have : 0 < b.length := List.length_pos_of_mem hx
    simp only [List.length_cons]
    omega
theorem stuck_no {t : Tab} (hs : Sq t) {taken : List Bool} {fr : Nat} {S X : List Nat} (h : Stuck t taken fr S X) : ¬ ∃ p, Sys (t.drop fr) (untaken t.length taken) p := by
  rintro ⟨p, h1, h2, h3, h4⟩
  rw [List.length_drop] at h1
  have hf : ∀ r ∈ S, r - fr < p.length := fun r hr => by have := h.sr r hr; omega
  have hle := sub_len (S.map fun r => (p.getD (r - fr) 0).toNat) X ?_ ?_
  · rw [List.length_map, h.len] at hle
    omega
  · unfold List.Nodup
    rw [List.pairwise_map]
    refine List.Pairwise.imp_of_mem ?_ h.sn
    intro a b ha hb hne he
    have ha2 := h.sr a ha
    have hb2 := h.sr b hb
    have m1 := untaken_mem.1 (h3 _ (getD_mem p 0 (a - fr) (hf a ha)))
    have m2 := untaken_mem.1 (h3 _ (getD_mem p 0 (b - fr) (hf b hb)))
    have e : p.getD (a - fr) 0 = p.getD (b - fr) 0 := by omega
    rw [getD_lt p 0 _ (hf a ha), getD_lt p 0 _ (hf b hb)] at e
    have := (List.getElem_inj h2).1 e
    omega
  · intro o ho
    obtain ⟨r, hr, rfl⟩ := List.mem_map.1 ho
    have hr2 := h.sr r hr
    have m1 := untaken_mem.1 (h3 _ (getD_mem p 0 (r - fr) (hf r hr)))
    refine h.all r hr _ ?_ m1.2
    have hc := cov_at (t.drop fr) p (r - fr) h4 (hf r hr) (by rw [List.length_drop]; omega)
    have e2 : at2 (t.drop fr) (r - fr) (p.getD (r - fr) 0).toNat = at2 t r (p.getD (r - fr) 0).toNat := by
      unfold at2
      congr 1
      rw [List.getD_eq_getElem?_getD, List.getElem?_drop, show fr + (r - fr) = r by omega, List.getD_eq_getElem?_getD]
    rw [e2] at hc
    have := hs.nn r (p.getD (r - fr) 0).toNat
    omega
theorem untaken_nodup (n : Nat) (taken : List Bool) : (untaken n taken).Nodup := List.Pairwise.filter _ (iota_nodup n)
theorem restB_iff {t : Tab} (hs : Sq t) {taken : List Bool} (htl : taken.length = t.length) {i : Nat} (hi : i ≤ t.length) : restB t i taken = (searchT (t.drop i) (untaken t.length taken)).isSome := by
  rcases restB_or hs htl hi with ⟨h1, ow, h2⟩ | ⟨h1, S, X, h2⟩
  · obtain ⟨p, hp⟩ := own_sys hi h2
    rw [h1, sys_search _ _ p (untaken_nodup _ _) hp]
  · rw [h1]
    cases hse : searchT (t.drop i) (untaken t.length taken) with
    | none => rfl
    | some p => exact absurd ⟨p, search_sys _ _ p (untaken_nodup _ _) hse⟩ (stuck_no hs h2)
end Go.Proofs.Ytmikacjccmchcaa
