/-
  Tables that are filled: a new table, and what permutations load.
-/
import Derived.Test.YtmikacjccmchcaaTabV
import Derived.Test.YtmikacjccmchcaaTabO
namespace Go.Proofs.Ytmikacjccmchcaa
open Go.RowKit V
/-! what permutations load -/
def zeroT (n : Nat) : Tab := List.replicate n (List.replicate n 0)
def addTo (t : Tab) (p : List Int) : Nat → Tab
  | 0 => t
  | k + 1 => (addTo t p k).set k (((addTo t p k).getD k []).set (p.getD k 0).toNat (((addTo t p k).getD k []).getD (p.getD k 0).toNat 0 + 1))
def loadGo (n : Nat) (ps : Tab) : Nat → Option Tab
  | 0 => some (zeroT n)
  | k + 1 => match loadGo n ps k with
    | none => none
    | some t => if validB (ps.getD k []) = true ∧ (ps.getD k []).length = n then some (addTo t (ps.getD k []) n) else none
def loadV (ports : Int) (ps : Tab) : Tab := if 0 ≤ ports ∧ ports ≤ 6 then (match loadGo ports.toNat ps ps.length with | none => [] | some t => if tvB t = true then t else []) else []
theorem loadGo_none {n : Nat} {ps : Tab} : ∀ (d k : Nat), loadGo n ps k = none → loadGo n ps (k + d) = none
  | 0, k, h => h
  | d + 1, k, h => by
    have := loadGo_none d k h
    show loadGo n ps (k + d + 1) = none
    rw [loadGo, this]
theorem addTo_len (t : Tab) (p : List Int) : ∀ k, (addTo t p k).length = t.length
  | 0 => rfl
  | k + 1 => by rw [addTo, List.length_set, addTo_len t p k]
theorem addTo_row (t : Tab) (p : List Int) : ∀ k i, ((addTo t p k).getD i []).length = (t.getD i []).length
  | 0, i => rfl
  | k + 1, i => by
    rw [addTo]
    by_cases h : i = k
    · subst h
      by_cases hl : i < (addTo t p i).length
      · have : ((addTo t p i).set i (((addTo t p i).getD i []).set (p.getD i 0).toNat (((addTo t p i).getD i []).getD (p.getD i 0).toNat 0 + 1))).getD i [] = ((addTo t p i).getD i []).set (p.getD i 0).toNat (((addTo t p i).getD i []).getD (p.getD i 0).toNat 0 + 1) := by simp [hl]
        rw [this, List.length_set, addTo_row t p i i]
      · rw [List.set_eq_of_length_le (Nat.le_of_not_lt hl), addTo_row t p i i]
    · rw [List.getD_eq_getElem?_getD, List.getElem?_set_ne (Ne.symm h), ← List.getD_eq_getElem?_getD, addTo_row t p k i]
theorem getD_set_ne {α : Type} (l : List α) (k i : Nat) (r d : α) (h : i ≠ k) : (l.set k r).getD i d = l.getD i d := by
  rw [List.getD_eq_getElem?_getD, List.getElem?_set_ne (Ne.symm h), ← List.getD_eq_getElem?_getD]
theorem at2_set (t : Tab) (k : Nat) (row : List Int) (i j : Nat) (hk : k < t.length) : at2 (t.set k row) i j = if i = k then row.getD j 0 else at2 t i j := by
  unfold at2
  by_cases h : i = k
  · subst h; simp [hk]
  · rw [if_neg h, getD_set_ne _ _ _ _ _ h]
theorem getD_setI (l : List Int) (o j : Nat) (v : Int) (h : o < l.length) : (l.set o v).getD j 0 = if j = o then v else l.getD j 0 := by
  by_cases he : j = o
  · subst he; simp [h]
  · rw [if_neg he, List.getD_eq_getElem?_getD, List.getElem?_set_ne (Ne.symm he), List.getD_eq_getElem?_getD]
theorem addTo_at (t : Tab) (p : List Int) (n : Nat) (hn : t.length = n) (hr : ∀ i, i < n → (t.getD i []).length = n) (hp : ∀ i, i < n → (p.getD i 0).toNat < n) : ∀ k, k ≤ n → ∀ i j, at2 (addTo t p k) i j = at2 t i j + if i < k ∧ j = (p.getD i 0).toNat then 1 else 0
  | 0, _, i, j => by rw [if_neg (by omega)]; simp [addTo]
  | k + 1, hk, i, j => by
    have ih := addTo_at t p n hn hr hp k (by omega)
    have hl : ((addTo t p k).getD k []).length = n := by rw [addTo_row]; exact hr k (by omega)
    have hpk := hp k (by omega)
    have ihk := ih k (p.getD k 0).toNat
    have e : ((addTo t p k).getD k []).getD (p.getD k 0).toNat 0 = at2 (addTo t p k) k (p.getD k 0).toNat := rfl
    rw [addTo, at2_set _ _ _ _ _ (by rw [addTo_len]; omega)]
    by_cases h : i = k
    · subst h
      rw [if_pos rfl, getD_setI _ _ _ _ (by rw [hl]; exact hpk), e, ihk]
      by_cases hj : j = (p.getD i 0).toNat
      · rw [if_pos hj, if_neg (by omega), if_pos ⟨by omega, hj⟩, hj]; omega
      · have := ih i j
        rw [if_neg hj, if_neg (fun h => hj h.2)]
        have e2 : ((addTo t p i).getD i []).getD j 0 = at2 (addTo t p i) i j := rfl
        rw [e2, this, if_neg (by omega)]
    · rw [if_neg h, ih i j]
      by_cases hc : i < k ∧ j = (p.getD i 0).toNat
      · rw [if_pos hc, if_pos ⟨by omega, hc.2⟩]
      · rw [if_neg hc, if_neg (fun h2 => hc ⟨by omega, h2.2⟩)]
/-! walks -/
theorem Row.val_set (R : List Row) (i : Nat) (xs : List Int) (h : xs.length = (R.getD i dR).xs.length) : (R.set i ⟨(R.getD i dR).A, (R.getD i dR).c, xs⟩).map Row.val = R.map Row.val := by
  by_cases hi : i < R.length
  · rw [List.map_set]
    apply List.ext_getElem
    · simp
    · intro j h1 h2
      rw [List.getElem_set]
      split
      · rename_i he
        subst he
        simp [Row.val, h, hi]
      · rfl
  · rw [List.set_eq_of_length_le (Nat.le_of_not_lt hi)]
theorem tabOf_set (R : List Row) (i : Nat) (r : Row) : tabOf (R.set i r) = (tabOf R).set i r.xs := by simp [tabOf, List.map_set]
theorem rowT (R : List Row) {w0 w : World} {B : Nat} {L : List Ent} {A : Option Addr} {c : Nat} (hm : Mem w0 B (tabE A c R ++ L) w) (i : Nat) : Rd w w.heap.size (R.getD i dR).A ((R.getD i dR).xs.map I64) := by
  by_cases hi : i < R.length
  · exact hm.own (e := (R.getD i dR).ent) (List.mem_append_left _ (List.mem_cons_of_mem _ (List.mem_map_of_mem (getD_mem R dR i hi))))
  · rw [getD_out R dR i (by omega)]; exact Rd.nil
theorem outT (R : List Row) {w0 w : World} {B : Nat} {L : List Ent} {A : Option Addr} {c : Nat} (hm : Mem w0 B (tabE A c R ++ L) w) : Rd w w.heap.size A (R.map Row.val) := Mem.atE 0 hm rfl
theorem stT {P : Program} {w0 w : World} {B : Nat} {L : List Ent} {K : World → Prop} {t : TypeId} {bytes : Nat} {z : Value} {x : Int} {A : Option Addr} {c i j : Nat} {R : List Row} [ElTy P t 1 bytes z] (hm : Mem w0 B (tabE A c R ++ L) w) (hi : i < R.length) (hj : j < (R.getD i dR).xs.length)
    (hk : ∀ w', Mem w0 B (tabE A c (R.set i ⟨(R.getD i dR).A, (R.getD i dR).c, (R.getD i dR).xs.set j x⟩) ++ L) w' → K w') : RunU .store P (Instr.storeAt t (.pointer ((R.getD i dR).A.map (·.add j))) (I64 x)) w K := by
  have hent : (tabE A c R ++ L)[i + 1]? = some (R.getD i dR).ent := by
    unfold tabE
    rw [List.cons_append, List.getElem?_cons_succ, List.getElem?_append_left (by simpa using hi), List.getElem?_map, List.getElem?_eq_getElem hi, getD_lt R dR i hi]
    rfl
  refine stI (i + 1) hm hent hj (fun w' h => hk w' ?_)
  have e : (tabE A c R ++ L).set (i + 1) ⟨3, 1, (R.getD i dR).A, (R.getD i dR).xs.length, (R.getD i dR).c, ((R.getD i dR).xs.set j x).map I64⟩ = tabE A c (R.set i ⟨(R.getD i dR).A, (R.getD i dR).c, (R.getD i dR).xs.set j x⟩) ++ L := by
    unfold tabE
    rw [Row.val_set _ _ _ (by rw [List.length_set]), List.length_set, List.map_set, List.cons_append, List.set_cons_succ, List.set_append_left _ _ (by simpa using hi), List.cons_append]
    congr 3
    unfold Row.ent
    simp
  rw [e] at h
  exact h
theorem newTable_can : Callable Try.prog 56 := callable Try.func56 (by decide +kernel) rfl
theorem newTable_eq (n : Nat) (hn : n ≤ 6) (w0 : World) : RetT Try.prog 56 #[I64 n] w0 (zeroT n) := by
  refine enter Try.func56 rfl rfl rfl ?_
  have hm := Mem.init w0
  repeat' ((conv => whnf); first | first | with_reducible refine mk n n (by assumption) rfl rfl rfl (by omega) (by omega) (fun A' w1 hm => ?_) | with_reducible refine cndT ?_ | with_reducible refine cndF ?_ | with_reducible refine cndNT ?_ | with_reducible refine cndNF ?_ | with_reducible refine len ?_ | with_reducible refine arith (by unfold InR; omega) ?_ | with_reducible refine arith (by unfold InR; decide) ?_ | with_reducible refine quoN (by omega) (by omega) (by omega) ?_ | with_reducible refine remN (by omega) ?_ | with_reducible refine shrN (by omega) ?_ | with_reducible refine shrI (by omega) (by omega) ?_ | with_reducible refine And.intro (by omega) ?_ | with_reducible refine idxMn (by assumption) (by omega) (by omega) ?_ | with_reducible refine idxM (by assumption) (by omega) (by omega) (by omega) ?_ | with_reducible refine ldI (by assumption) (by assumption) (by first | omega | (simp only [List.length_set]; omega) | (simp; omega)) ?_ | with_reducible refine ldB (by assumption) (by assumption) (by first | omega | (simp only [List.length_set]; omega) | (simp; omega)) ?_ | with_reducible refine bs0I (by assumption) (fun A1 w1 hm => ?_) | with_reducible refine bs2I (by assumption) (fun A1 w1 hm => ?_) | with_reducible refine bs7I (by assumption) (fun A1 w1 hm => ?_) | with_reducible refine bs1I (by assumption) (fun A1 w1 hm => ?_) | with_reducible refine eqB ?_ | with_reducible refine neB ?_ | with_reducible refine slToN (by omega) ?_ | with_reducible apply qs | with_reducible apply ts | exact trivial | with_reducible refine SK.mk (by first | trivial | assumption) ?_ | with_reducible refine Both.mk ?_ ?_ | exact And.intro rfl rfl | exact And.intro rfl (by assumption) | intro w1 hm | refine quiet (Mem _ _ _) mixed (by decide +kernel) (Mem.drawn (by assumption)) ?_ | ((with_reducible refine cndD (fun hc => ?_) (fun hc => ?_)) <;> (first | (exfalso; omega) | skip)) | ((with_reducible refine cndN (fun hc => ?_) (fun hc => ?_)) <;> (first | (exfalso; omega) | skip)) | with_reducible refine cndNB (fun hc => ?_) (fun hc => ?_) | with_reducible refine cndB (fun hc => ?_) (fun hc => ?_))
  refine loop (γ := Nat × List Row) [(4, 4), (9, 17)] (fun ⟨k, _⟩ => [(9, I64 k)]) (fun ⟨k, R⟩ w' => k ≤ n ∧ R.length = k ∧ tabOf R = List.replicate k (List.replicate n 0) ∧ Mem w0 w0.heap.size (⟨35, 1, A', n, n, R.map Row.val ++ List.replicate (n - k) (.slice none 0 0)⟩ :: R.map Row.ent) w') (fun ⟨k, _⟩ => n - k) (0, []) rfl ⟨rfl, trivial⟩ ⟨by omega, rfl, by simp [tabOf], by simpa using hm⟩ ?_
  rintro ⟨k, R⟩ junk w1 ⟨hk, hR, htab, hm⟩
  by_cases hlt : k < n
  · repeat' ((conv => whnf); first | first | with_reducible refine mkI n n (by assumption) rfl rfl (by omega) (by omega) (fun A1 w1 hm => ?_) | with_reducible refine idxOn 1 (by assumption) (by with_unfolding_all rfl) (by omega) ?_ | with_reducible refine stO 1 (by assumption) (by with_unfolding_all rfl) rfl (by simp; omega) (fun w1 hm => ?_) | with_reducible refine cndT ?_ | with_reducible refine cndF ?_ | with_reducible refine cndNT ?_ | with_reducible refine cndNF ?_ | with_reducible refine len ?_ | with_reducible refine arith (by unfold InR; omega) ?_ | with_reducible refine arith (by unfold InR; decide) ?_ | with_reducible refine quoN (by omega) (by omega) (by omega) ?_ | with_reducible refine remN (by omega) ?_ | with_reducible refine shrN (by omega) ?_ | with_reducible refine shrI (by omega) (by omega) ?_ | with_reducible refine And.intro (by omega) ?_ | with_reducible refine idxMn (by assumption) (by omega) (by omega) ?_ | with_reducible refine idxM (by assumption) (by omega) (by omega) (by omega) ?_ | with_reducible refine ldI (by assumption) (by assumption) (by first | omega | (simp only [List.length_set]; omega) | (simp; omega)) ?_ | with_reducible refine ldB (by assumption) (by assumption) (by first | omega | (simp only [List.length_set]; omega) | (simp; omega)) ?_ | with_reducible refine bs0I (by assumption) (fun A1 w1 hm => ?_) | with_reducible refine bs2I (by assumption) (fun A1 w1 hm => ?_) | with_reducible refine bs7I (by assumption) (fun A1 w1 hm => ?_) | with_reducible refine bs1I (by assumption) (fun A1 w1 hm => ?_) | with_reducible refine eqB ?_ | with_reducible refine neB ?_ | with_reducible refine slToN (by omega) ?_ | with_reducible apply qs | with_reducible apply ts | exact trivial | with_reducible refine SK.mk (by first | trivial | assumption) ?_ | with_reducible refine Both.mk ?_ ?_ | exact And.intro rfl rfl | exact And.intro rfl (by assumption) | intro w1 hm | refine quiet (Mem _ _ _) mixed (by decide +kernel) (Mem.drawn (by assumption)) ?_ | ((with_reducible refine cndD (fun hc => ?_) (fun hc => ?_)) <;> (first | (exfalso; omega) | skip)) | ((with_reducible refine cndN (fun hc => ?_) (fun hc => ?_)) <;> (first | (exfalso; omega) | skip)) | with_reducible refine cndNB (fun hc => ?_) (fun hc => ?_) | with_reducible refine cndB (fun hc => ?_) (fun hc => ?_))
    refine Exists.intro (k + 1, R ++ [⟨A1, n, List.replicate n 0⟩]) (And.intro ⟨rfl, trivial⟩ (And.intro ⟨by omega, by simp; omega, ?_, ?_⟩ (by show n - (k + 1) < n - k; omega)))
    · rw [tabOf_app, htab, List.replicate_succ']; rfl
    · refine Mem.perm hm ?_
      rw [List.set_cons_succ, List.set_cons_zero]
      rw [set_snoc _ _ _ _ _ (by rw [List.length_map]; exact hR) hlt]
      simp only [List.map_append, List.map_cons, List.map_nil]
      have e1 : (Row.ent ⟨A1, n, List.replicate n 0⟩) = ⟨3, 1, A1, n, n, (List.replicate n (0 : Int)).map I64⟩ := by unfold Row.ent; simp
      have e2 : Row.val ⟨A1, n, List.replicate n 0⟩ = .slice A1 n n := by unfold Row.val; simp
      rw [e1, e2]
      exact (List.Perm.swap _ _ _).trans (List.Perm.cons _ (List.perm_append_singleton _ _).symm)
  · obtain rfl : k = n := by omega
    repeat' ((conv => whnf); first | fail | with_reducible refine cndT ?_ | with_reducible refine cndF ?_ | with_reducible refine cndNT ?_ | with_reducible refine cndNF ?_ | with_reducible refine len ?_ | with_reducible refine arith (by unfold InR; omega) ?_ | with_reducible refine arith (by unfold InR; decide) ?_ | with_reducible refine quoN (by omega) (by omega) (by omega) ?_ | with_reducible refine remN (by omega) ?_ | with_reducible refine shrN (by omega) ?_ | with_reducible refine shrI (by omega) (by omega) ?_ | with_reducible refine And.intro (by omega) ?_ | with_reducible refine idxMn (by assumption) (by omega) (by omega) ?_ | with_reducible refine idxM (by assumption) (by omega) (by omega) (by omega) ?_ | with_reducible refine ldI (by assumption) (by assumption) (by first | omega | (simp only [List.length_set]; omega) | (simp; omega)) ?_ | with_reducible refine ldB (by assumption) (by assumption) (by first | omega | (simp only [List.length_set]; omega) | (simp; omega)) ?_ | with_reducible refine bs0I (by assumption) (fun A1 w1 hm => ?_) | with_reducible refine bs2I (by assumption) (fun A1 w1 hm => ?_) | with_reducible refine bs7I (by assumption) (fun A1 w1 hm => ?_) | with_reducible refine bs1I (by assumption) (fun A1 w1 hm => ?_) | with_reducible refine eqB ?_ | with_reducible refine neB ?_ | with_reducible refine slToN (by omega) ?_ | with_reducible apply qs | with_reducible apply ts | exact trivial | with_reducible refine SK.mk (by first | trivial | assumption) ?_ | with_reducible refine Both.mk ?_ ?_ | exact And.intro rfl rfl | exact And.intro rfl (by assumption) | intro w1 hm | refine quiet (Mem _ _ _) mixed (by decide +kernel) (Mem.drawn (by assumption)) ?_ | ((with_reducible refine cndD (fun hc => ?_) (fun hc => ?_)) <;> (first | (exfalso; omega) | skip)) | ((with_reducible refine cndN (fun hc => ?_) (fun hc => ?_)) <;> (first | (exfalso; omega) | skip)) | with_reducible refine cndNB (fun hc => ?_) (fun hc => ?_) | with_reducible refine cndB (fun hc => ?_) (fun hc => ?_))
    refine Exists.intro A' (Exists.intro k (Exists.intro R (And.intro (retSlT hR.symm) (And.intro htab ?_))))
    unfold tabE
    rw [hR]
    simpa using hm
theorem iLoad_can : Callable Try.prog 26 := callable Try.func26 (by decide +kernel) rfl
theorem zero_at (n i j : Nat) : at2 (zeroT n) i j = 0 := by
  unfold at2 zeroT
  by_cases hi : i < n
  · by_cases hj : j < n <;> simp [hi, hj]
  · simp [hi]
theorem zero_rows {n : Nat} {R : List Row} (h : tabOf R = zeroT n) : R.length = n ∧ (∀ i, i < n → (R.getD i dR).xs.length = n) ∧ ∀ i j, at2 (tabOf R) i j = 0 := by
  refine ⟨by rw [← tabOf_len, h]; simp [zeroT], fun i hi => ?_, fun i j => by rw [h]; exact zero_at n i j⟩
  rw [← tabOf_get, h]
  simp [zeroT, hi]
theorem sml_rows {n : Nat} {R : List Row} (hl : R.length = n) (hn : n ≤ 6) (h : ∀ i, i < n → (R.getD i dR).xs.length = n) : ∀ r ∈ R, r.xs.length ≤ 1048576 := by
  intro r hr
  obtain ⟨i, hi, rfl⟩ := List.getElem_of_mem hr
  have := h i (by omega)
  rw [getD_lt R dR i hi] at this
  omega
theorem addTo_store (R : List Row) (t : Tab) (p : List Int) (j : Nat) (h : tabOf R = addTo t p j) : tabOf (R.set j ⟨(R.getD j dR).A, (R.getD j dR).c, (R.getD j dR).xs.set (p.getD j 0).toNat ((R.getD j dR).xs.getD (p.getD j 0).toNat 0 + 1)⟩) = addTo t p (j + 1) := by
  rw [tabOf_set, addTo, ← h, tabOf_get]
theorem rows_set {n : Nat} {R : List Row} (hRr : ∀ i, i < n → (R.getD i dR).xs.length = n) (j : Nat) (xs : List Int) (hj : xs.length = (R.getD j dR).xs.length) : ∀ i, i < n → ((R.set j ⟨(R.getD j dR).A, (R.getD j dR).c, xs⟩).getD i dR).xs.length = n := by
  intro i hi
  by_cases h : i = j
  · subst h
    by_cases hl : i < R.length
    · have : (R.set i ⟨(R.getD i dR).A, (R.getD i dR).c, xs⟩).getD i dR = ⟨(R.getD i dR).A, (R.getD i dR).c, xs⟩ := by simp [hl]
      rw [this]
      show xs.length = n
      rw [hj]; exact hRr i hi
    · rw [List.set_eq_of_length_le (Nat.le_of_not_lt hl)]; exact hRr i hi
  · rw [getD_set_ne _ _ _ _ _ h]; exact hRr i hi
set_option maxHeartbeats 1000000 in
theorem iLoad_eq (ports : Int) (T : List Row) {m : Nat} {A : Option Addr} {c : Nat} {w0 : World} (hx : RdT w0 w0.heap.size A T) (hm : m = T.length) (hl : T.length ≤ 1048576) :
    RetT Try.prog 26 #[I64 ports, .slice A m c] w0 (loadV ports (tabOf T)) := by
  subst hm
  have hxo := hx.outer
  have htab := tabOf_len T
  have nilT : ∀ (w' : World) (L' : List Ent), Mem w0 w0.heap.size L' w' → Mem w0 w0.heap.size (tabE none 0 []) w' := fun w' L' h => Mem.addNil (h.sub (List.nil_sublist _)) _ _
  refine enter Try.func26 rfl rfl rfl ?_
  have hm := Mem.init w0
  by_cases hp : 0 ≤ ports ∧ ports ≤ 6
  case neg =>
    rw [show loadV ports (tabOf T) = [] from if_neg hp]
    repeat' ((conv => whnf); first | fail | with_reducible refine cndT ?_ | with_reducible refine cndF ?_ | with_reducible refine cndNT ?_ | with_reducible refine cndNF ?_ | with_reducible refine len ?_ | with_reducible refine arith (by unfold InR; omega) ?_ | with_reducible refine arith (by unfold InR; decide) ?_ | with_reducible refine quoN (by omega) (by omega) (by omega) ?_ | with_reducible refine remN (by omega) ?_ | with_reducible refine shrN (by omega) ?_ | with_reducible refine shrI (by omega) (by omega) ?_ | with_reducible refine And.intro (by omega) ?_ | with_reducible refine idxMn (by assumption) (by omega) (by omega) ?_ | with_reducible refine idxM (by assumption) (by omega) (by omega) (by omega) ?_ | with_reducible refine ldI (by assumption) (by assumption) (by first | omega | (simp only [List.length_set]; omega) | (simp; omega)) ?_ | with_reducible refine ldB (by assumption) (by assumption) (by first | omega | (simp only [List.length_set]; omega) | (simp; omega)) ?_ | with_reducible refine bs0I (by assumption) (fun A1 w1 hm => ?_) | with_reducible refine bs2I (by assumption) (fun A1 w1 hm => ?_) | with_reducible refine bs7I (by assumption) (fun A1 w1 hm => ?_) | with_reducible refine bs1I (by assumption) (fun A1 w1 hm => ?_) | with_reducible refine eqB ?_ | with_reducible refine neB ?_ | with_reducible refine slToN (by omega) ?_ | with_reducible apply qs | with_reducible apply ts | exact trivial | with_reducible refine SK.mk (by first | trivial | assumption) ?_ | with_reducible refine Both.mk ?_ ?_ | exact And.intro rfl rfl | exact And.intro rfl (by assumption) | intro w1 hm | refine quiet (Mem _ _ _) mixed (by decide +kernel) (Mem.drawn (by assumption)) ?_ | ((with_reducible refine cndD (fun hc => ?_) (fun hc => ?_)) <;> (first | (exfalso; omega) | skip)) | ((with_reducible refine cndN (fun hc => ?_) (fun hc => ?_)) <;> (first | (exfalso; omega) | skip)) | with_reducible refine cndNB (fun hc => ?_) (fun hc => ?_) | with_reducible refine cndB (fun hc => ?_) (fun hc => ?_))
    all_goals first | (exfalso; omega) | exact Exists.intro none (Exists.intro 0 (Exists.intro [] (And.intro rfl (And.intro rfl (nilT _ _ hm)))))
  obtain ⟨n, rfl⟩ := Int.eq_ofNat_of_zero_le hp.1
  have hn : n ≤ 6 := by omega
  have hV : loadV (n : Int) (tabOf T) = match loadGo n (tabOf T) T.length with | none => [] | some t => if tvB t = true then t else [] := by
    rw [loadV, if_pos hp, Int.toNat_natCast, htab]
  generalize loadV (n : Int) (tabOf T) = V at *
  repeat' ((conv => whnf); first | fail | with_reducible refine cndT ?_ | with_reducible refine cndF ?_ | with_reducible refine cndNT ?_ | with_reducible refine cndNF ?_ | with_reducible refine len ?_ | with_reducible refine arith (by unfold InR; omega) ?_ | with_reducible refine arith (by unfold InR; decide) ?_ | with_reducible refine quoN (by omega) (by omega) (by omega) ?_ | with_reducible refine remN (by omega) ?_ | with_reducible refine shrN (by omega) ?_ | with_reducible refine shrI (by omega) (by omega) ?_ | with_reducible refine And.intro (by omega) ?_ | with_reducible refine idxMn (by assumption) (by omega) (by omega) ?_ | with_reducible refine idxM (by assumption) (by omega) (by omega) (by omega) ?_ | with_reducible refine ldI (by assumption) (by assumption) (by first | omega | (simp only [List.length_set]; omega) | (simp; omega)) ?_ | with_reducible refine ldB (by assumption) (by assumption) (by first | omega | (simp only [List.length_set]; omega) | (simp; omega)) ?_ | with_reducible refine bs0I (by assumption) (fun A1 w1 hm => ?_) | with_reducible refine bs2I (by assumption) (fun A1 w1 hm => ?_) | with_reducible refine bs7I (by assumption) (fun A1 w1 hm => ?_) | with_reducible refine bs1I (by assumption) (fun A1 w1 hm => ?_) | with_reducible refine eqB ?_ | with_reducible refine neB ?_ | with_reducible refine slToN (by omega) ?_ | with_reducible apply qs | with_reducible apply ts | exact trivial | with_reducible refine SK.mk (by first | trivial | assumption) ?_ | with_reducible refine Both.mk ?_ ?_ | exact And.intro rfl rfl | exact And.intro rfl (by assumption) | intro w1 hm | refine quiet (Mem _ _ _) mixed (by decide +kernel) (Mem.drawn (by assumption)) ?_ | ((with_reducible refine cndD (fun hc => ?_) (fun hc => ?_)) <;> (first | (exfalso; omega) | skip)) | ((with_reducible refine cndN (fun hc => ?_) (fun hc => ?_)) <;> (first | (exfalso; omega) | skip)) | with_reducible refine cndNB (fun hc => ?_) (fun hc => ?_) | with_reducible refine cndB (fun hc => ?_) (fun hc => ?_))
  (try conv => whnf)
  refine callT hm newTable_can (newTable_eq n hn _) (fun A1 c1 R w1 hR hm => ?_)
  obtain ⟨z1, z2, z3⟩ := zero_rows hR
  rw [z1]
  repeat' ((conv => whnf); first | fail | with_reducible refine cndT ?_ | with_reducible refine cndF ?_ | with_reducible refine cndNT ?_ | with_reducible refine cndNF ?_ | with_reducible refine len ?_ | with_reducible refine arith (by unfold InR; omega) ?_ | with_reducible refine arith (by unfold InR; decide) ?_ | with_reducible refine quoN (by omega) (by omega) (by omega) ?_ | with_reducible refine remN (by omega) ?_ | with_reducible refine shrN (by omega) ?_ | with_reducible refine shrI (by omega) (by omega) ?_ | with_reducible refine And.intro (by omega) ?_ | with_reducible refine idxMn (by assumption) (by omega) (by omega) ?_ | with_reducible refine idxM (by assumption) (by omega) (by omega) (by omega) ?_ | with_reducible refine ldI (by assumption) (by assumption) (by first | omega | (simp only [List.length_set]; omega) | (simp; omega)) ?_ | with_reducible refine ldB (by assumption) (by assumption) (by first | omega | (simp only [List.length_set]; omega) | (simp; omega)) ?_ | with_reducible refine bs0I (by assumption) (fun A1 w1 hm => ?_) | with_reducible refine bs2I (by assumption) (fun A1 w1 hm => ?_) | with_reducible refine bs7I (by assumption) (fun A1 w1 hm => ?_) | with_reducible refine bs1I (by assumption) (fun A1 w1 hm => ?_) | with_reducible refine eqB ?_ | with_reducible refine neB ?_ | with_reducible refine slToN (by omega) ?_ | with_reducible apply qs | with_reducible apply ts | exact trivial | with_reducible refine SK.mk (by first | trivial | assumption) ?_ | with_reducible refine Both.mk ?_ ?_ | exact And.intro rfl rfl | exact And.intro rfl (by assumption) | intro w1 hm | refine quiet (Mem _ _ _) mixed (by decide +kernel) (Mem.drawn (by assumption)) ?_ | ((with_reducible refine cndD (fun hc => ?_) (fun hc => ?_)) <;> (first | (exfalso; omega) | skip)) | ((with_reducible refine cndN (fun hc => ?_) (fun hc => ?_)) <;> (first | (exfalso; omega) | skip)) | with_reducible refine cndNB (fun hc => ?_) (fun hc => ?_) | with_reducible refine cndB (fun hc => ?_) (fun hc => ?_))
  refine loop (γ := Nat × List Row) [(4, 4), (7, 9), (20, 50)] (fun ⟨k, _⟩ => [(20, I64 k)]) (fun ⟨k, R⟩ w' => k ≤ T.length ∧ loadGo n (tabOf T) k = some (tabOf R) ∧ R.length = n ∧ (∀ i, i < n → (R.getD i dR).xs.length = n) ∧ (∀ i j, 0 ≤ at2 (tabOf R) i j ∧ at2 (tabOf R) i j ≤ k) ∧ Mem w0 w0.heap.size (tabE A1 c1 R ++ []) w') (fun ⟨k, _⟩ => T.length - k) (0, R) rfl ⟨rfl, trivial⟩ ⟨by omega, by rw [hR]; rfl, z1, z2, fun i j => by rw [z3]; decide, hm⟩ ?_
  clear z1 z2 z3 hR hm
  rintro ⟨k, R⟩ junk w1 ⟨hk, hgo, hRl, hRr, hRb, hm⟩
  have hRt := tabOf_len R
  by_cases hlt : k < T.length
  · have hxr := hx.row k
    have hsm := hx.sml k
    have hst : loadGo n (tabOf T) (k + 1) = if validB (T.getD k dR).xs = true ∧ (T.getD k dR).xs.length = n then some (addTo (tabOf R) (T.getD k dR).xs n) else none := by
      rw [loadGo, hgo, tabOf_get]
    have hbad : loadGo n (tabOf T) (k + 1) = none → V = [] := fun h => by
      have := loadGo_none (T.length - (k + 1)) (k + 1) h
      rw [show k + 1 + (T.length - (k + 1)) = T.length by omega] at this
      rw [hV, this]
    generalize hr : T.getD k dR = r at *
    have hpv := fun w hx => implPermValid_eq r.xs (w0 := w) (A := r.A) (c := r.c) hx rfl (by omega)
    generalize hvb : validB r.xs = vb at *
    repeat' ((conv => whnf); first | first | with_reducible refine ldT hxo (by assumption) (by omega) ?_ | rw [hr] | with_reducible refine call (by assumption) implPermValid_can (hpv _ (Mem.rd (by assumption) hxr)) (fun w1 hm => ?_) | with_reducible refine cndT ?_ | with_reducible refine cndF ?_ | with_reducible refine cndNT ?_ | with_reducible refine cndNF ?_ | with_reducible refine len ?_ | with_reducible refine arith (by unfold InR; omega) ?_ | with_reducible refine arith (by unfold InR; decide) ?_ | with_reducible refine quoN (by omega) (by omega) (by omega) ?_ | with_reducible refine remN (by omega) ?_ | with_reducible refine shrN (by omega) ?_ | with_reducible refine shrI (by omega) (by omega) ?_ | with_reducible refine And.intro (by omega) ?_ | with_reducible refine idxMn (by assumption) (by omega) (by omega) ?_ | with_reducible refine idxM (by assumption) (by omega) (by omega) (by omega) ?_ | with_reducible refine ldI (by assumption) (by assumption) (by first | omega | (simp only [List.length_set]; omega) | (simp; omega)) ?_ | with_reducible refine ldB (by assumption) (by assumption) (by first | omega | (simp only [List.length_set]; omega) | (simp; omega)) ?_ | with_reducible refine bs0I (by assumption) (fun A1 w1 hm => ?_) | with_reducible refine bs2I (by assumption) (fun A1 w1 hm => ?_) | with_reducible refine bs7I (by assumption) (fun A1 w1 hm => ?_) | with_reducible refine bs1I (by assumption) (fun A1 w1 hm => ?_) | with_reducible refine eqB ?_ | with_reducible refine neB ?_ | with_reducible refine slToN (by omega) ?_ | with_reducible apply qs | with_reducible apply ts | exact trivial | with_reducible refine SK.mk (by first | trivial | assumption) ?_ | with_reducible refine Both.mk ?_ ?_ | exact And.intro rfl rfl | exact And.intro rfl (by assumption) | intro w1 hm | refine quiet (Mem _ _ _) mixed (by decide +kernel) (Mem.drawn (by assumption)) ?_ | ((with_reducible refine cndD (fun hc => ?_) (fun hc => ?_)) <;> (first | (exfalso; omega) | skip)) | ((with_reducible refine cndN (fun hc => ?_) (fun hc => ?_)) <;> (first | (exfalso; omega) | skip)) | with_reducible refine cndNB (fun hc => ?_) (fun hc => ?_) | with_reducible refine cndB (fun hc => ?_) (fun hc => ?_))
    · rw [hbad (by rw [hst, if_neg (fun h => by omega)])]
      exact Exists.intro none (Exists.intro 0 (Exists.intro [] (And.intro rfl (And.intro rfl (nilT _ _ hm)))))
    · rw [hbad (by rw [hst, if_neg (fun h => by rw [hc] at h; cases h.1)])]
      exact Exists.intro none (Exists.intro 0 (Exists.intro [] (And.intro rfl (And.intro rfl (nilT _ _ hm)))))
    · have hrn : r.xs.length = n := by omega
      subst hc
      rw [if_pos ⟨rfl, hrn⟩] at hst
      have hadd := addTo_at (tabOf R) r.xs n (by omega) (fun i hi => by rw [tabOf_get]; exact hRr i hi) (fun i hi => by have := valid_at hvb i (by omega); omega)
      refine loop (γ := Nat × List Row) [(8, 9), (35, 49)] (fun ⟨j, _⟩ => [(35, I64 j)]) (fun ⟨j, R'⟩ w' => j ≤ n ∧ tabOf R' = addTo (tabOf R) r.xs j ∧ R'.length = n ∧ (∀ i, i < n → (R'.getD i dR).xs.length = n) ∧ Mem w0 w0.heap.size (tabE A1 c1 R' ++ []) w') (fun ⟨j, _⟩ => n - j) (0, R) rfl ⟨rfl, trivial⟩ ⟨by omega, rfl, hRl, hRr, hm⟩ ?_
      rintro ⟨j, R'⟩ junk w1 ⟨hj, htb, hRl', hRr', hm⟩
      by_cases hjl : j < n
      · have hv := valid_at hvb j (by omega)
        have hrw := hRr' j hjl
        have hval : 0 ≤ (R'.getD j dR).xs.getD (r.xs.getD j 0).toNat 0 ∧ (R'.getD j dR).xs.getD (r.xs.getD j 0).toNat 0 ≤ 1048577 := by
          rw [← tabOf_at, htb, hadd j (by omega)]
          have := hRb j (r.xs.getD j 0).toNat
          split <;> omega
        have hrt := rowT R' hm j
        have hot := outT R' hm
        generalize hV0 : r.xs.getD j 0 = v at *
        repeat' ((conv => whnf); first | first | (with_reducible refine ldI hxr (by assumption) (by omega) ?_; rw [hV0]) | with_reducible refine idxMn hot (by omega) (by omega) ?_ | with_reducible refine ldT hot (Mem.init _) (by omega) ?_ | with_reducible refine idxM hrt (by omega) (by omega) (by omega) ?_ | with_reducible refine ldI hrt (Mem.init _) (by omega) ?_ | with_reducible refine cndT ?_ | with_reducible refine cndF ?_ | with_reducible refine cndNT ?_ | with_reducible refine cndNF ?_ | with_reducible refine len ?_ | with_reducible refine arith (by unfold InR; omega) ?_ | with_reducible refine arith (by unfold InR; decide) ?_ | with_reducible refine quoN (by omega) (by omega) (by omega) ?_ | with_reducible refine remN (by omega) ?_ | with_reducible refine shrN (by omega) ?_ | with_reducible refine shrI (by omega) (by omega) ?_ | with_reducible refine And.intro (by omega) ?_ | with_reducible refine idxMn (by assumption) (by omega) (by omega) ?_ | with_reducible refine idxM (by assumption) (by omega) (by omega) (by omega) ?_ | with_reducible refine ldI (by assumption) (by assumption) (by first | omega | (simp only [List.length_set]; omega) | (simp; omega)) ?_ | with_reducible refine ldB (by assumption) (by assumption) (by first | omega | (simp only [List.length_set]; omega) | (simp; omega)) ?_ | with_reducible refine bs0I (by assumption) (fun A1 w1 hm => ?_) | with_reducible refine bs2I (by assumption) (fun A1 w1 hm => ?_) | with_reducible refine bs7I (by assumption) (fun A1 w1 hm => ?_) | with_reducible refine bs1I (by assumption) (fun A1 w1 hm => ?_) | with_reducible refine eqB ?_ | with_reducible refine neB ?_ | with_reducible refine slToN (by omega) ?_ | with_reducible apply qs | with_reducible apply ts | exact trivial | with_reducible refine SK.mk (by first | trivial | assumption) ?_ | with_reducible refine Both.mk ?_ ?_ | exact And.intro rfl rfl | exact And.intro rfl (by assumption) | intro w1 hm | refine quiet (Mem _ _ _) mixed (by decide +kernel) (Mem.drawn (by assumption)) ?_ | ((with_reducible refine cndD (fun hc => ?_) (fun hc => ?_)) <;> (first | (exfalso; omega) | skip)) | ((with_reducible refine cndN (fun hc => ?_) (fun hc => ?_)) <;> (first | (exfalso; omega) | skip)) | with_reducible refine cndNB (fun hc => ?_) (fun hc => ?_) | with_reducible refine cndB (fun hc => ?_) (fun hc => ?_))
        (try conv => whnf)
        refine stT hm (by omega) (by omega) (fun w1 hm => ?_)
        repeat' ((conv => whnf); first | fail | with_reducible refine cndT ?_ | with_reducible refine cndF ?_ | with_reducible refine cndNT ?_ | with_reducible refine cndNF ?_ | with_reducible refine len ?_ | with_reducible refine arith (by unfold InR; omega) ?_ | with_reducible refine arith (by unfold InR; decide) ?_ | with_reducible refine quoN (by omega) (by omega) (by omega) ?_ | with_reducible refine remN (by omega) ?_ | with_reducible refine shrN (by omega) ?_ | with_reducible refine shrI (by omega) (by omega) ?_ | with_reducible refine And.intro (by omega) ?_ | with_reducible refine idxMn (by assumption) (by omega) (by omega) ?_ | with_reducible refine idxM (by assumption) (by omega) (by omega) (by omega) ?_ | with_reducible refine ldI (by assumption) (by assumption) (by first | omega | (simp only [List.length_set]; omega) | (simp; omega)) ?_ | with_reducible refine ldB (by assumption) (by assumption) (by first | omega | (simp only [List.length_set]; omega) | (simp; omega)) ?_ | with_reducible refine bs0I (by assumption) (fun A1 w1 hm => ?_) | with_reducible refine bs2I (by assumption) (fun A1 w1 hm => ?_) | with_reducible refine bs7I (by assumption) (fun A1 w1 hm => ?_) | with_reducible refine bs1I (by assumption) (fun A1 w1 hm => ?_) | with_reducible refine eqB ?_ | with_reducible refine neB ?_ | with_reducible refine slToN (by omega) ?_ | with_reducible apply qs | with_reducible apply ts | exact trivial | with_reducible refine SK.mk (by first | trivial | assumption) ?_ | with_reducible refine Both.mk ?_ ?_ | exact And.intro rfl rfl | exact And.intro rfl (by assumption) | intro w1 hm | refine quiet (Mem _ _ _) mixed (by decide +kernel) (Mem.drawn (by assumption)) ?_ | ((with_reducible refine cndD (fun hc => ?_) (fun hc => ?_)) <;> (first | (exfalso; omega) | skip)) | ((with_reducible refine cndN (fun hc => ?_) (fun hc => ?_)) <;> (first | (exfalso; omega) | skip)) | with_reducible refine cndNB (fun hc => ?_) (fun hc => ?_) | with_reducible refine cndB (fun hc => ?_) (fun hc => ?_))
        have hstore := addTo_store R' (tabOf R) r.xs j htb
        rw [hV0] at hstore
        refine Exists.intro (j + 1, R'.set j ⟨(R'.getD j dR).A, (R'.getD j dR).c, (R'.getD j dR).xs.set v.toNat ((R'.getD j dR).xs.getD v.toNat 0 + 1)⟩) (And.intro ⟨rfl, trivial⟩ (And.intro ⟨by omega, hstore, by rw [List.length_set]; exact hRl', rows_set hRr' j _ (by rw [List.length_set]), hm⟩ (by show n - (j + 1) < n - j; omega)))
      · obtain rfl : j = n := by omega
        repeat' ((conv => whnf); first | fail | with_reducible refine cndT ?_ | with_reducible refine cndF ?_ | with_reducible refine cndNT ?_ | with_reducible refine cndNF ?_ | with_reducible refine len ?_ | with_reducible refine arith (by unfold InR; omega) ?_ | with_reducible refine arith (by unfold InR; decide) ?_ | with_reducible refine quoN (by omega) (by omega) (by omega) ?_ | with_reducible refine remN (by omega) ?_ | with_reducible refine shrN (by omega) ?_ | with_reducible refine shrI (by omega) (by omega) ?_ | with_reducible refine And.intro (by omega) ?_ | with_reducible refine idxMn (by assumption) (by omega) (by omega) ?_ | with_reducible refine idxM (by assumption) (by omega) (by omega) (by omega) ?_ | with_reducible refine ldI (by assumption) (by assumption) (by first | omega | (simp only [List.length_set]; omega) | (simp; omega)) ?_ | with_reducible refine ldB (by assumption) (by assumption) (by first | omega | (simp only [List.length_set]; omega) | (simp; omega)) ?_ | with_reducible refine bs0I (by assumption) (fun A1 w1 hm => ?_) | with_reducible refine bs2I (by assumption) (fun A1 w1 hm => ?_) | with_reducible refine bs7I (by assumption) (fun A1 w1 hm => ?_) | with_reducible refine bs1I (by assumption) (fun A1 w1 hm => ?_) | with_reducible refine eqB ?_ | with_reducible refine neB ?_ | with_reducible refine slToN (by omega) ?_ | with_reducible apply qs | with_reducible apply ts | exact trivial | with_reducible refine SK.mk (by first | trivial | assumption) ?_ | with_reducible refine Both.mk ?_ ?_ | exact And.intro rfl rfl | exact And.intro rfl (by assumption) | intro w1 hm | refine quiet (Mem _ _ _) mixed (by decide +kernel) (Mem.drawn (by assumption)) ?_ | ((with_reducible refine cndD (fun hc => ?_) (fun hc => ?_)) <;> (first | (exfalso; omega) | skip)) | ((with_reducible refine cndN (fun hc => ?_) (fun hc => ?_)) <;> (first | (exfalso; omega) | skip)) | with_reducible refine cndNB (fun hc => ?_) (fun hc => ?_) | with_reducible refine cndB (fun hc => ?_) (fun hc => ?_))
        refine Exists.intro (k + 1, R') (And.intro ⟨rfl, trivial⟩ (And.intro ⟨by omega, by rw [hst, htb], hRl', hRr', fun i l => ?_, hm⟩ (by show T.length - (k + 1) < T.length - k; omega)))
        rw [htb, hadd j (Nat.le_refl _)]
        have := hRb i l
        split <;> omega
  · obtain rfl : k = T.length := by omega
    rw [hgo] at hV
    have hV : V = if tvB (tabOf R) = true then tabOf R else [] := hV
    have htv := fun w hx => iTV_eq R (w0 := w) (A := A1) (c := c1) (m := n) hx hRl.symm (by omega)
    generalize hvv : tvB (tabOf R) = vv at *
    repeat' ((conv => whnf); first | first | with_reducible refine call (by assumption) iTV_can (htv _ (Mem.rdT1 (by assumption) (sml_rows hRl hn hRr))) (fun w1 hm => ?_) | with_reducible refine cndT ?_ | with_reducible refine cndF ?_ | with_reducible refine cndNT ?_ | with_reducible refine cndNF ?_ | with_reducible refine len ?_ | with_reducible refine arith (by unfold InR; omega) ?_ | with_reducible refine arith (by unfold InR; decide) ?_ | with_reducible refine quoN (by omega) (by omega) (by omega) ?_ | with_reducible refine remN (by omega) ?_ | with_reducible refine shrN (by omega) ?_ | with_reducible refine shrI (by omega) (by omega) ?_ | with_reducible refine And.intro (by omega) ?_ | with_reducible refine idxMn (by assumption) (by omega) (by omega) ?_ | with_reducible refine idxM (by assumption) (by omega) (by omega) (by omega) ?_ | with_reducible refine ldI (by assumption) (by assumption) (by first | omega | (simp only [List.length_set]; omega) | (simp; omega)) ?_ | with_reducible refine ldB (by assumption) (by assumption) (by first | omega | (simp only [List.length_set]; omega) | (simp; omega)) ?_ | with_reducible refine bs0I (by assumption) (fun A1 w1 hm => ?_) | with_reducible refine bs2I (by assumption) (fun A1 w1 hm => ?_) | with_reducible refine bs7I (by assumption) (fun A1 w1 hm => ?_) | with_reducible refine bs1I (by assumption) (fun A1 w1 hm => ?_) | with_reducible refine eqB ?_ | with_reducible refine neB ?_ | with_reducible refine slToN (by omega) ?_ | with_reducible apply qs | with_reducible apply ts | exact trivial | with_reducible refine SK.mk (by first | trivial | assumption) ?_ | with_reducible refine Both.mk ?_ ?_ | exact And.intro rfl rfl | exact And.intro rfl (by assumption) | intro w1 hm | refine quiet (Mem _ _ _) mixed (by decide +kernel) (Mem.drawn (by assumption)) ?_ | ((with_reducible refine cndD (fun hc => ?_) (fun hc => ?_)) <;> (first | (exfalso; omega) | skip)) | ((with_reducible refine cndN (fun hc => ?_) (fun hc => ?_)) <;> (first | (exfalso; omega) | skip)) | with_reducible refine cndNB (fun hc => ?_) (fun hc => ?_) | with_reducible refine cndB (fun hc => ?_) (fun hc => ?_))
    · subst hc
      rw [if_neg (by decide)] at hV
      rw [hV]
      exact Exists.intro none (Exists.intro 0 (Exists.intro [] (And.intro rfl (And.intro rfl (nilT _ _ hm)))))
    · subst hc
      rw [if_pos rfl] at hV
      rw [hV]
      refine Exists.intro A1 (Exists.intro c1 (Exists.intro R (And.intro (retSlT hRl.symm) (And.intro rfl ?_))))
      rw [List.append_nil] at hm
      exact hm
end Go.Proofs.Ytmikacjccmchcaa
