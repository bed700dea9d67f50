/-
  Tables that a function owns; the functions that copy, measure, compare and mark tables; the tables that are given.
-/
import Derived.Test.YtmikacjccmchcaaTabR
import Derived.Deep.Matrix
namespace Go.Proofs.Ytmikacjccmchcaa
open Go.RowKit V
def Row.ent (r : Row) : Ent := ⟨3, 1, r.A, r.xs.length, r.c, r.xs.map I64⟩
def tabE (A : Option Addr) (c : Nat) (T : List Row) : List Ent := ⟨35, 1, A, T.length, c, T.map Row.val⟩ :: T.map Row.ent
theorem Mem.perm {w0 w : World} {B : Nat} {L L' : List Ent} (h : Mem w0 B L w) (hp : L.Perm L') : Mem w0 B L' w :=
  ⟨h.below, h.base, fun e he => h.ok e (hp.mem_iff.2 he), h.apart.perm hp (fun h => h.symm)⟩
theorem Mem.rdTab {w0 w : World} {B : Nat} {L : List Ent} {A : Option Addr} {c : Nat} {T : List Row} (hm : Mem w0 B L w) (hs : ∀ e ∈ tabE A c T, e ∈ L) (hsm : ∀ r ∈ T, r.xs.length ≤ 1048576) : RdT w w.heap.size A T := by
  have hrow : ∀ i, i < T.length → (T.getD i dR).ent ∈ L := fun i hi => hs _ (List.mem_cons_of_mem _ (List.mem_map_of_mem (getD_mem T dR i hi)))
  refine ⟨⟨hm.own (hs _ List.mem_cons_self), fun i => ?_, fun i => ?_⟩, fun i => ?_⟩
  · by_cases hi : i < T.length
    · exact hm.own (hrow i hi)
    · rw [getD_out T dR i (by omega)]; exact Rd.nil
  · by_cases hi : i < T.length
    · obtain ⟨j, hj⟩ := List.getElem?_of_mem (hrow i hi)
      exact Mem.capE j hm hj
    · rw [getD_out T dR i (by omega)]; exact Nat.le_refl _
  · by_cases hi : i < T.length
    · exact hsm _ (getD_mem T dR i hi)
    · rw [getD_out T dR i (by omega)]; exact Nat.zero_le _
theorem sml_of {T T' : List Row} (h : tabOf T' = tabOf T) (hs : ∀ i, (T.getD i dR).xs.length ≤ 1048576) : ∀ r ∈ T', r.xs.length ≤ 1048576 := by
  intro r hr
  obtain ⟨i, hi, rfl⟩ := List.getElem_of_mem hr
  have e1 := tabOf_get T' i
  rw [h, tabOf_get, getD_lt T' dR i hi] at e1
  rw [← e1]
  exact hs i
theorem retSlT {A : Option Addr} {n n' c : Nat} (h : n = n') : Ending.returned (.slice A n c) = .returned (.slice A n' c) := by rw [h]
def RetT (P : Program) (f : FuncId) (args : Array Value) (w : World) (t : Tab) : Prop := Calls P f args w fun e w' => ∃ A c, ∃ R : List Row, e = .returned (.slice A R.length c) ∧ tabOf R = t ∧ Mem w w.heap.size (tabE A c R) w'
theorem callT {P : Program} {K : Value → World → Prop} {w0 w : World} {B : Nat} {L : List Ent} {f : FuncId} {args : Array Value} {t : Tab} (hm : Mem w0 B L w) (hc : Callable P f) (h : RetT P f args w t) (hk : ∀ A c (R : List Row) w', tabOf R = t → Mem w0 B (tabE A c R ++ L) w' → K (.slice A R.length c) w') : CallW P f args w K :=
  ⟨hc, h.mono fun _ w' ⟨A, c, R, he, ht, h2⟩ => ⟨_, he, hk A c R w' ht (hm.comp h2)⟩⟩
theorem set_snoc {α : Type} (l : List α) (z v : α) (n k : Nat) (hl : l.length = k) (hk : k < n) : (l ++ List.replicate (n - k) z).set k v = (l ++ [v]) ++ List.replicate (n - (k + 1)) z := by
  subst hl
  rw [List.set_append_right _ _ (Nat.le_refl _), Nat.sub_self, show n - l.length = (n - (l.length + 1)) + 1 by omega, List.replicate_succ, List.set_cons_zero, List.append_assoc]
  rfl
theorem tab_take (T : List Row) (k : Nat) (h : k < T.length) : (tabOf T).take (k + 1) = (tabOf T).take k ++ [(T.getD k dR).xs] := by
  rw [take_step (tabOf T) [] k (by rw [tabOf_len]; exact h), tabOf_get]
theorem tabOf_app (R S : List Row) : tabOf (R ++ S) = tabOf R ++ tabOf S := by simp [tabOf]
theorem toIntSS_can : Callable Try.prog 17 := callable Try.func17 (by decide +kernel) rfl
theorem toIntSS_eq (T : List Row) {m : Nat} {A : Option Addr} {c : Nat} {w0 : World} (hx : RdT w0 w0.heap.size A T) (hm : m = T.length) (hl : T.length ≤ 1048576) :
    RetT Try.prog 17 #[.slice A m c] w0 (tabOf T) := by
  subst hm
  have hxo := hx.outer
  have htl := tabOf_len T
  refine enter Try.func17 rfl rfl rfl ?_
  have hm := Mem.init w0
  repeat' ((conv => whnf); first | first | with_reducible refine mk T.length T.length (by assumption) rfl rfl rfl (by omega) (by omega) (fun A' w1 hm => ?_) | with_reducible refine cndT ?_ | with_reducible refine cndF ?_ | with_reducible refine cndNT ?_ | with_reducible refine cndNF ?_ | with_reducible refine len ?_ | with_reducible refine arith (by unfold InR; omega) ?_ | with_reducible refine arith (by unfold InR; decide) ?_ | with_reducible refine quoN (by omega) (by omega) (by omega) ?_ | with_reducible refine remN (by omega) ?_ | with_reducible refine shrN (by omega) ?_ | with_reducible refine shrI (by omega) (by omega) ?_ | with_reducible refine And.intro (by omega) ?_ | with_reducible refine idxMn (by assumption) (by omega) (by omega) ?_ | with_reducible refine idxM (by assumption) (by omega) (by omega) (by omega) ?_ | with_reducible refine ldI (by assumption) (by assumption) (by first | omega | (simp only [List.length_set]; omega) | (simp; omega)) ?_ | with_reducible refine ldB (by assumption) (by assumption) (by first | omega | (simp only [List.length_set]; omega) | (simp; omega)) ?_ | with_reducible refine bs0I (by assumption) (fun A1 w1 hm => ?_) | with_reducible refine bs2I (by assumption) (fun A1 w1 hm => ?_) | with_reducible refine bs7I (by assumption) (fun A1 w1 hm => ?_) | with_reducible refine bs1I (by assumption) (fun A1 w1 hm => ?_) | with_reducible refine eqB ?_ | with_reducible refine neB ?_ | with_reducible refine slToN (by omega) ?_ | with_reducible apply qs | with_reducible apply ts | exact trivial | with_reducible refine SK.mk (by first | trivial | assumption) ?_ | with_reducible refine Both.mk ?_ ?_ | exact And.intro rfl rfl | exact And.intro rfl (by assumption) | intro w1 hm | refine quiet (Mem _ _ _) mixed (by decide +kernel) (Mem.drawn (by assumption)) ?_ | ((with_reducible refine cndD (fun hc => ?_) (fun hc => ?_)) <;> (first | (exfalso; omega) | skip)) | ((with_reducible refine cndN (fun hc => ?_) (fun hc => ?_)) <;> (first | (exfalso; omega) | skip)) | with_reducible refine cndNB (fun hc => ?_) (fun hc => ?_) | with_reducible refine cndB (fun hc => ?_) (fun hc => ?_))
  refine loop (γ := Nat × List Row) [(4, 4), (8, 21)] (fun ⟨k, _⟩ => [(4, I64 k)]) (fun ⟨k, R⟩ w' => k ≤ T.length ∧ R.length = k ∧ tabOf R = (tabOf T).take k ∧ Mem w0 w0.heap.size (⟨35, 1, A', T.length, T.length, R.map Row.val ++ List.replicate (T.length - k) (.slice none 0 0)⟩ :: R.map Row.ent) w') (fun ⟨k, _⟩ => T.length - k) (0, []) rfl ⟨rfl, trivial⟩ ⟨by omega, rfl, by simp [tabOf], by simpa using hm⟩ ?_
  rintro ⟨k, R⟩ junk w1 ⟨hk, hR, htab, hm⟩
  by_cases hlt : k < T.length
  · have hxr := hx.row k
    have hxs := hx.sml k
    have htk := tab_take T k hlt
    generalize hr : T.getD k dR = r at *
    repeat' ((conv => whnf); first | first | with_reducible refine ldT (by assumption) (by assumption) (by omega) ?_ | rw [hr] | with_reducible refine callS (by assumption) toIntS_can (toIntS_eq r.xs (Mem.rd (by assumption) hxr) rfl (by omega)) (fun A1 c1 w1 hm => ?_) | with_reducible refine idxOn 1 (by assumption) (by with_unfolding_all rfl) (by omega) ?_ | with_reducible refine stO 1 (by assumption) (by with_unfolding_all rfl) rfl (by simp; omega) (fun w1 hm => ?_) | with_reducible refine cndT ?_ | with_reducible refine cndF ?_ | with_reducible refine cndNT ?_ | with_reducible refine cndNF ?_ | with_reducible refine len ?_ | with_reducible refine arith (by unfold InR; omega) ?_ | with_reducible refine arith (by unfold InR; decide) ?_ | with_reducible refine quoN (by omega) (by omega) (by omega) ?_ | with_reducible refine remN (by omega) ?_ | with_reducible refine shrN (by omega) ?_ | with_reducible refine shrI (by omega) (by omega) ?_ | with_reducible refine And.intro (by omega) ?_ | with_reducible refine idxMn (by assumption) (by omega) (by omega) ?_ | with_reducible refine idxM (by assumption) (by omega) (by omega) (by omega) ?_ | with_reducible refine ldI (by assumption) (by assumption) (by first | omega | (simp only [List.length_set]; omega) | (simp; omega)) ?_ | with_reducible refine ldB (by assumption) (by assumption) (by first | omega | (simp only [List.length_set]; omega) | (simp; omega)) ?_ | with_reducible refine bs0I (by assumption) (fun A1 w1 hm => ?_) | with_reducible refine bs2I (by assumption) (fun A1 w1 hm => ?_) | with_reducible refine bs7I (by assumption) (fun A1 w1 hm => ?_) | with_reducible refine bs1I (by assumption) (fun A1 w1 hm => ?_) | with_reducible refine eqB ?_ | with_reducible refine neB ?_ | with_reducible refine slToN (by omega) ?_ | with_reducible apply qs | with_reducible apply ts | exact trivial | with_reducible refine SK.mk (by first | trivial | assumption) ?_ | with_reducible refine Both.mk ?_ ?_ | exact And.intro rfl rfl | exact And.intro rfl (by assumption) | intro w1 hm | refine quiet (Mem _ _ _) mixed (by decide +kernel) (Mem.drawn (by assumption)) ?_ | ((with_reducible refine cndD (fun hc => ?_) (fun hc => ?_)) <;> (first | (exfalso; omega) | skip)) | ((with_reducible refine cndN (fun hc => ?_) (fun hc => ?_)) <;> (first | (exfalso; omega) | skip)) | with_reducible refine cndNB (fun hc => ?_) (fun hc => ?_) | with_reducible refine cndB (fun hc => ?_) (fun hc => ?_))
    refine Exists.intro (k + 1, R ++ [⟨A1, c1, r.xs⟩]) (And.intro ⟨rfl, trivial⟩ (And.intro ⟨by omega, by simp; omega, ?_, ?_⟩ (by show T.length - (k + 1) < T.length - k; omega)))
    · rw [htk, ← htab, tabOf_app]; rfl
    · refine Mem.perm hm ?_
      rw [List.set_cons_succ, List.set_cons_zero]
      rw [set_snoc _ _ _ _ _ (by rw [List.length_map]; exact hR) hlt]
      simp only [List.map_append, List.map_cons, List.map_nil]
      exact (List.Perm.swap _ _ _).trans (List.Perm.cons _ (List.perm_append_singleton _ _).symm)
  · obtain rfl : k = T.length := by omega
    repeat' ((conv => whnf); first | fail | with_reducible refine cndT ?_ | with_reducible refine cndF ?_ | with_reducible refine cndNT ?_ | with_reducible refine cndNF ?_ | with_reducible refine len ?_ | with_reducible refine arith (by unfold InR; omega) ?_ | with_reducible refine arith (by unfold InR; decide) ?_ | with_reducible refine quoN (by omega) (by omega) (by omega) ?_ | with_reducible refine remN (by omega) ?_ | with_reducible refine shrN (by omega) ?_ | with_reducible refine shrI (by omega) (by omega) ?_ | with_reducible refine And.intro (by omega) ?_ | with_reducible refine idxMn (by assumption) (by omega) (by omega) ?_ | with_reducible refine idxM (by assumption) (by omega) (by omega) (by omega) ?_ | with_reducible refine ldI (by assumption) (by assumption) (by first | omega | (simp only [List.length_set]; omega) | (simp; omega)) ?_ | with_reducible refine ldB (by assumption) (by assumption) (by first | omega | (simp only [List.length_set]; omega) | (simp; omega)) ?_ | with_reducible refine bs0I (by assumption) (fun A1 w1 hm => ?_) | with_reducible refine bs2I (by assumption) (fun A1 w1 hm => ?_) | with_reducible refine bs7I (by assumption) (fun A1 w1 hm => ?_) | with_reducible refine bs1I (by assumption) (fun A1 w1 hm => ?_) | with_reducible refine eqB ?_ | with_reducible refine neB ?_ | with_reducible refine slToN (by omega) ?_ | with_reducible apply qs | with_reducible apply ts | exact trivial | with_reducible refine SK.mk (by first | trivial | assumption) ?_ | with_reducible refine Both.mk ?_ ?_ | exact And.intro rfl rfl | exact And.intro rfl (by assumption) | intro w1 hm | refine quiet (Mem _ _ _) mixed (by decide +kernel) (Mem.drawn (by assumption)) ?_ | ((with_reducible refine cndD (fun hc => ?_) (fun hc => ?_)) <;> (first | (exfalso; omega) | skip)) | ((with_reducible refine cndN (fun hc => ?_) (fun hc => ?_)) <;> (first | (exfalso; omega) | skip)) | with_reducible refine cndNB (fun hc => ?_) (fun hc => ?_) | with_reducible refine cndB (fun hc => ?_) (fun hc => ?_))
    rw [List.take_of_length_le (by omega)] at htab
    refine Exists.intro A' (Exists.intro T.length (Exists.intro R (And.intro (retSlT hR.symm) (And.intro htab ?_))))
    unfold tabE
    rw [hR]
    simpa using hm
theorem eqIntSS_can : Callable Try.prog 19 := callable Try.func19 (by decide +kernel) rfl
theorem eqIntSS_same {T U : List Row} (h : tabOf T = tabOf U) {m m2 : Nat} {A A2 : Option Addr} {c c2 : Nat} {w0 : World} (hx : RdT w0 w0.heap.size A T) (hy : RdT w0 w0.heap.size A2 U) (hm : m = T.length) (hm2 : m2 = U.length) (hl : T.length ≤ 1048576) :
    Ret Try.prog 19 #[.slice A m c, .slice A2 m2 c2] w0 (.bool true) := by
  subst hm
  subst hm2
  have hlen : U.length = T.length := by rw [← tabOf_len U, ← h, tabOf_len]
  have hxo := hx.outer
  have hyo := hy.outer
  refine enter Try.func19 rfl rfl rfl ?_
  have hm := Mem.init w0
  repeat' ((conv => whnf); first | fail | with_reducible refine cndT ?_ | with_reducible refine cndF ?_ | with_reducible refine cndNT ?_ | with_reducible refine cndNF ?_ | with_reducible refine len ?_ | with_reducible refine arith (by unfold InR; omega) ?_ | with_reducible refine arith (by unfold InR; decide) ?_ | with_reducible refine quoN (by omega) (by omega) (by omega) ?_ | with_reducible refine remN (by omega) ?_ | with_reducible refine shrN (by omega) ?_ | with_reducible refine shrI (by omega) (by omega) ?_ | with_reducible refine And.intro (by omega) ?_ | with_reducible refine idxMn (by assumption) (by omega) (by omega) ?_ | with_reducible refine idxM (by assumption) (by omega) (by omega) (by omega) ?_ | with_reducible refine ldI (by assumption) (by assumption) (by first | omega | (simp only [List.length_set]; omega) | (simp; omega)) ?_ | with_reducible refine ldB (by assumption) (by assumption) (by first | omega | (simp only [List.length_set]; omega) | (simp; omega)) ?_ | with_reducible refine bs0I (by assumption) (fun A1 w1 hm => ?_) | with_reducible refine bs2I (by assumption) (fun A1 w1 hm => ?_) | with_reducible refine bs7I (by assumption) (fun A1 w1 hm => ?_) | with_reducible refine bs1I (by assumption) (fun A1 w1 hm => ?_) | with_reducible refine eqB ?_ | with_reducible refine neB ?_ | with_reducible refine slToN (by omega) ?_ | with_reducible apply qs | with_reducible apply ts | exact trivial | with_reducible refine SK.mk (by first | trivial | assumption) ?_ | with_reducible refine Both.mk ?_ ?_ | exact And.intro rfl rfl | exact And.intro rfl (by assumption) | intro w1 hm | refine quiet (Mem _ _ _) mixed (by decide +kernel) (Mem.drawn (by assumption)) ?_ | ((with_reducible refine cndD (fun hc => ?_) (fun hc => ?_)) <;> (first | (exfalso; omega) | skip)) | ((with_reducible refine cndN (fun hc => ?_) (fun hc => ?_)) <;> (first | (exfalso; omega) | skip)) | with_reducible refine cndNB (fun hc => ?_) (fun hc => ?_) | with_reducible refine cndB (fun hc => ?_) (fun hc => ?_))
  refine loop (γ := Nat) [(4, 5), (11, 26)] (fun k => [(5, I64 k)]) (fun k w' => k ≤ T.length ∧ Mem w0 w0.heap.size [] w') (fun k => T.length - k) 0 rfl ⟨rfl, trivial⟩ ⟨by omega, hm⟩ ?_
  rintro k junk w1 ⟨hk, hm⟩
  by_cases hlt : k < T.length
  · have hxr := hx.row k
    have hyr := hy.row k
    have hxs := hx.sml k
    have he : (U.getD k dR).xs = (T.getD k dR).xs := by rw [← tabOf_get, ← h, tabOf_get]
    rw [he] at hyr
    have hel : (U.getD k dR).xs.length = (T.getD k dR).xs.length := by rw [he]
    repeat' ((conv => whnf); first | first | with_reducible refine ldT hxo (by assumption) (by omega) ?_ | with_reducible refine ldT hyo (by assumption) (by omega) ?_ | with_reducible refine call (by assumption) eqIntS_can (eqIntS_same (xs := (T.getD k dR).xs) (Mem.rd (by assumption) hxr) (Mem.rd (by assumption) hyr) rfl hel (by omega)) (fun w1 hm => ?_) | with_reducible refine cndT ?_ | with_reducible refine cndF ?_ | with_reducible refine cndNT ?_ | with_reducible refine cndNF ?_ | with_reducible refine len ?_ | with_reducible refine arith (by unfold InR; omega) ?_ | with_reducible refine arith (by unfold InR; decide) ?_ | with_reducible refine quoN (by omega) (by omega) (by omega) ?_ | with_reducible refine remN (by omega) ?_ | with_reducible refine shrN (by omega) ?_ | with_reducible refine shrI (by omega) (by omega) ?_ | with_reducible refine And.intro (by omega) ?_ | with_reducible refine idxMn (by assumption) (by omega) (by omega) ?_ | with_reducible refine idxM (by assumption) (by omega) (by omega) (by omega) ?_ | with_reducible refine ldI (by assumption) (by assumption) (by first | omega | (simp only [List.length_set]; omega) | (simp; omega)) ?_ | with_reducible refine ldB (by assumption) (by assumption) (by first | omega | (simp only [List.length_set]; omega) | (simp; omega)) ?_ | with_reducible refine bs0I (by assumption) (fun A1 w1 hm => ?_) | with_reducible refine bs2I (by assumption) (fun A1 w1 hm => ?_) | with_reducible refine bs7I (by assumption) (fun A1 w1 hm => ?_) | with_reducible refine bs1I (by assumption) (fun A1 w1 hm => ?_) | with_reducible refine eqB ?_ | with_reducible refine neB ?_ | with_reducible refine slToN (by omega) ?_ | with_reducible apply qs | with_reducible apply ts | exact trivial | with_reducible refine SK.mk (by first | trivial | assumption) ?_ | with_reducible refine Both.mk ?_ ?_ | exact And.intro rfl rfl | exact And.intro rfl (by assumption) | intro w1 hm | refine quiet (Mem _ _ _) mixed (by decide +kernel) (Mem.drawn (by assumption)) ?_ | ((with_reducible refine cndD (fun hc => ?_) (fun hc => ?_)) <;> (first | (exfalso; omega) | skip)) | ((with_reducible refine cndN (fun hc => ?_) (fun hc => ?_)) <;> (first | (exfalso; omega) | skip)) | with_reducible refine cndNB (fun hc => ?_) (fun hc => ?_) | with_reducible refine cndB (fun hc => ?_) (fun hc => ?_))
    refine Exists.intro (k + 1) (And.intro ⟨rfl, trivial⟩ (And.intro ⟨by omega, hm⟩ (by omega)))
  · repeat' ((conv => whnf); first | fail | with_reducible refine cndT ?_ | with_reducible refine cndF ?_ | with_reducible refine cndNT ?_ | with_reducible refine cndNF ?_ | with_reducible refine len ?_ | with_reducible refine arith (by unfold InR; omega) ?_ | with_reducible refine arith (by unfold InR; decide) ?_ | with_reducible refine quoN (by omega) (by omega) (by omega) ?_ | with_reducible refine remN (by omega) ?_ | with_reducible refine shrN (by omega) ?_ | with_reducible refine shrI (by omega) (by omega) ?_ | with_reducible refine And.intro (by omega) ?_ | with_reducible refine idxMn (by assumption) (by omega) (by omega) ?_ | with_reducible refine idxM (by assumption) (by omega) (by omega) (by omega) ?_ | with_reducible refine ldI (by assumption) (by assumption) (by first | omega | (simp only [List.length_set]; omega) | (simp; omega)) ?_ | with_reducible refine ldB (by assumption) (by assumption) (by first | omega | (simp only [List.length_set]; omega) | (simp; omega)) ?_ | with_reducible refine bs0I (by assumption) (fun A1 w1 hm => ?_) | with_reducible refine bs2I (by assumption) (fun A1 w1 hm => ?_) | with_reducible refine bs7I (by assumption) (fun A1 w1 hm => ?_) | with_reducible refine bs1I (by assumption) (fun A1 w1 hm => ?_) | with_reducible refine eqB ?_ | with_reducible refine neB ?_ | with_reducible refine slToN (by omega) ?_ | with_reducible apply qs | with_reducible apply ts | exact trivial | with_reducible refine SK.mk (by first | trivial | assumption) ?_ | with_reducible refine Both.mk ?_ ?_ | exact And.intro rfl rfl | exact And.intro rfl (by assumption) | intro w1 hm | refine quiet (Mem _ _ _) mixed (by decide +kernel) (Mem.drawn (by assumption)) ?_ | ((with_reducible refine cndD (fun hc => ?_) (fun hc => ?_)) <;> (first | (exfalso; omega) | skip)) | ((with_reducible refine cndN (fun hc => ?_) (fun hc => ?_)) <;> (first | (exfalso; omega) | skip)) | with_reducible refine cndNB (fun hc => ?_) (fun hc => ?_) | with_reducible refine cndB (fun hc => ?_) (fun hc => ?_))
/-- how many numbers a table has -/
def tot (T : List Row) : Nat := (T.map fun r => r.xs.length).sum
theorem tot_step (T : List Row) (k : Nat) (h : k < T.length) : tot (T.take (k + 1)) = tot (T.take k) + (T.getD k dR).xs.length := by
  unfold tot
  rw [take_step T dR k h]; simp
theorem tot_row (T : List Row) (i : Nat) : (T.getD i dR).xs.length ≤ tot T := by
  by_cases h : i < T.length
  · have h1 := tot_step T i h
    have h2 : tot (T.take (i + 1)) ≤ tot T := by
      unfold tot
      have : T.map (fun r => r.xs.length) = (T.take (i + 1)).map (fun r => r.xs.length) ++ (T.drop (i + 1)).map (fun r => r.xs.length) := by rw [← List.map_append, List.take_append_drop]
      rw [this, List.sum_append]
      omega
    omega
  · rw [getD_out T dR i (by omega)]; exact Nat.zero_le _
theorem szIntS_can : Callable Try.prog 46 := callable Try.func46 (by decide +kernel) rfl
theorem szIntS_eq {m : Nat} {A : Option Addr} {c : Nat} {k : Int} {w0 : World} (hk : 0 ≤ k ∧ k ≤ 1099511627776) (hb : m ≤ 9223372036854775807) :
    Ret Try.prog 46 #[.slice A m c, I64 k] w0 (I64 (if (m : Int) ≤ k then k - m else -1)) := by
  refine enter Try.func46 rfl rfl rfl ?_
  have hm := Mem.init w0
  by_cases h : (m : Int) ≤ k
  · rw [if_pos h]
    repeat' ((conv => whnf); first | fail | with_reducible refine cndT ?_ | with_reducible refine cndF ?_ | with_reducible refine cndNT ?_ | with_reducible refine cndNF ?_ | with_reducible refine len ?_ | with_reducible refine arith (by unfold InR; omega) ?_ | with_reducible refine arith (by unfold InR; decide) ?_ | with_reducible refine quoN (by omega) (by omega) (by omega) ?_ | with_reducible refine remN (by omega) ?_ | with_reducible refine shrN (by omega) ?_ | with_reducible refine shrI (by omega) (by omega) ?_ | with_reducible refine And.intro (by omega) ?_ | with_reducible refine idxMn (by assumption) (by omega) (by omega) ?_ | with_reducible refine idxM (by assumption) (by omega) (by omega) (by omega) ?_ | with_reducible refine ldI (by assumption) (by assumption) (by first | omega | (simp only [List.length_set]; omega) | (simp; omega)) ?_ | with_reducible refine ldB (by assumption) (by assumption) (by first | omega | (simp only [List.length_set]; omega) | (simp; omega)) ?_ | with_reducible refine bs0I (by assumption) (fun A1 w1 hm => ?_) | with_reducible refine bs2I (by assumption) (fun A1 w1 hm => ?_) | with_reducible refine bs7I (by assumption) (fun A1 w1 hm => ?_) | with_reducible refine bs1I (by assumption) (fun A1 w1 hm => ?_) | with_reducible refine eqB ?_ | with_reducible refine neB ?_ | with_reducible refine slToN (by omega) ?_ | with_reducible apply qs | with_reducible apply ts | exact trivial | with_reducible refine SK.mk (by first | trivial | assumption) ?_ | with_reducible refine Both.mk ?_ ?_ | exact And.intro rfl rfl | exact And.intro rfl (by assumption) | intro w1 hm | refine quiet (Mem _ _ _) mixed (by decide +kernel) (Mem.drawn (by assumption)) ?_ | ((with_reducible refine cndD (fun hc => ?_) (fun hc => ?_)) <;> (first | (exfalso; omega) | skip)) | ((with_reducible refine cndN (fun hc => ?_) (fun hc => ?_)) <;> (first | (exfalso; omega) | skip)) | with_reducible refine cndNB (fun hc => ?_) (fun hc => ?_) | with_reducible refine cndB (fun hc => ?_) (fun hc => ?_))
    all_goals first | exact And.intro rfl hm | (exfalso; omega)
  · rw [if_neg h]
    repeat' ((conv => whnf); first | fail | with_reducible refine cndT ?_ | with_reducible refine cndF ?_ | with_reducible refine cndNT ?_ | with_reducible refine cndNF ?_ | with_reducible refine len ?_ | with_reducible refine arith (by unfold InR; omega) ?_ | with_reducible refine arith (by unfold InR; decide) ?_ | with_reducible refine quoN (by omega) (by omega) (by omega) ?_ | with_reducible refine remN (by omega) ?_ | with_reducible refine shrN (by omega) ?_ | with_reducible refine shrI (by omega) (by omega) ?_ | with_reducible refine And.intro (by omega) ?_ | with_reducible refine idxMn (by assumption) (by omega) (by omega) ?_ | with_reducible refine idxM (by assumption) (by omega) (by omega) (by omega) ?_ | with_reducible refine ldI (by assumption) (by assumption) (by first | omega | (simp only [List.length_set]; omega) | (simp; omega)) ?_ | with_reducible refine ldB (by assumption) (by assumption) (by first | omega | (simp only [List.length_set]; omega) | (simp; omega)) ?_ | with_reducible refine bs0I (by assumption) (fun A1 w1 hm => ?_) | with_reducible refine bs2I (by assumption) (fun A1 w1 hm => ?_) | with_reducible refine bs7I (by assumption) (fun A1 w1 hm => ?_) | with_reducible refine bs1I (by assumption) (fun A1 w1 hm => ?_) | with_reducible refine eqB ?_ | with_reducible refine neB ?_ | with_reducible refine slToN (by omega) ?_ | with_reducible apply qs | with_reducible apply ts | exact trivial | with_reducible refine SK.mk (by first | trivial | assumption) ?_ | with_reducible refine Both.mk ?_ ?_ | exact And.intro rfl rfl | exact And.intro rfl (by assumption) | intro w1 hm | refine quiet (Mem _ _ _) mixed (by decide +kernel) (Mem.drawn (by assumption)) ?_ | ((with_reducible refine cndD (fun hc => ?_) (fun hc => ?_)) <;> (first | (exfalso; omega) | skip)) | ((with_reducible refine cndN (fun hc => ?_) (fun hc => ?_)) <;> (first | (exfalso; omega) | skip)) | with_reducible refine cndNB (fun hc => ?_) (fun hc => ?_) | with_reducible refine cndB (fun hc => ?_) (fun hc => ?_))
    all_goals first | exact And.intro rfl hm | (exfalso; omega)
theorem szIntSS_can : Callable Try.prog 15 := callable Try.func15 (by decide +kernel) rfl
theorem szIntSS_eq (T : List Row) {m : Nat} {A : Option Addr} {c : Nat} {w0 : World} (hx : RdO w0 w0.heap.size A T) (hm : m = T.length) (hb : T.length ≤ 9223372036854775807) (hr : ∀ i, (T.getD i dR).xs.length ≤ 9223372036854775807) :
    Calls Try.prog 15 #[.slice A m c, I64 1048576] w0 fun e w' => ∃ v, e = .returned (I64 v) ∧ (v = -1 ∨ (0 ≤ v ∧ T.length + tot T ≤ 1048576)) ∧ Mem w0 w0.heap.size [] w' := by
  subst hm
  have hxo := hx.outer
  refine enter Try.func15 rfl rfl rfl ?_
  have hm := Mem.init w0
  by_cases hl : T.length ≤ 1048576
  · repeat' ((conv => whnf); first | fail | with_reducible refine cndT ?_ | with_reducible refine cndF ?_ | with_reducible refine cndNT ?_ | with_reducible refine cndNF ?_ | with_reducible refine len ?_ | with_reducible refine arith (by unfold InR; omega) ?_ | with_reducible refine arith (by unfold InR; decide) ?_ | with_reducible refine quoN (by omega) (by omega) (by omega) ?_ | with_reducible refine remN (by omega) ?_ | with_reducible refine shrN (by omega) ?_ | with_reducible refine shrI (by omega) (by omega) ?_ | with_reducible refine And.intro (by omega) ?_ | with_reducible refine idxMn (by assumption) (by omega) (by omega) ?_ | with_reducible refine idxM (by assumption) (by omega) (by omega) (by omega) ?_ | with_reducible refine ldI (by assumption) (by assumption) (by first | omega | (simp only [List.length_set]; omega) | (simp; omega)) ?_ | with_reducible refine ldB (by assumption) (by assumption) (by first | omega | (simp only [List.length_set]; omega) | (simp; omega)) ?_ | with_reducible refine bs0I (by assumption) (fun A1 w1 hm => ?_) | with_reducible refine bs2I (by assumption) (fun A1 w1 hm => ?_) | with_reducible refine bs7I (by assumption) (fun A1 w1 hm => ?_) | with_reducible refine bs1I (by assumption) (fun A1 w1 hm => ?_) | with_reducible refine eqB ?_ | with_reducible refine neB ?_ | with_reducible refine slToN (by omega) ?_ | with_reducible apply qs | with_reducible apply ts | exact trivial | with_reducible refine SK.mk (by first | trivial | assumption) ?_ | with_reducible refine Both.mk ?_ ?_ | exact And.intro rfl rfl | exact And.intro rfl (by assumption) | intro w1 hm | refine quiet (Mem _ _ _) mixed (by decide +kernel) (Mem.drawn (by assumption)) ?_ | ((with_reducible refine cndD (fun hc => ?_) (fun hc => ?_)) <;> (first | (exfalso; omega) | skip)) | ((with_reducible refine cndN (fun hc => ?_) (fun hc => ?_)) <;> (first | (exfalso; omega) | skip)) | with_reducible refine cndNB (fun hc => ?_) (fun hc => ?_) | with_reducible refine cndB (fun hc => ?_) (fun hc => ?_))
    refine loop (γ := Nat × Int) [(1, 1), (4, 5), (12, 25)] (fun ⟨k, s⟩ => [(1, I64 s), (5, I64 k)]) (fun ⟨k, s⟩ w' => k ≤ T.length ∧ (T.length + tot (T.take k) : Nat) ≤ 1048576 ∧ s = 1048576 - T.length - tot (T.take k) ∧ Mem w0 w0.heap.size [] w') (fun ⟨k, _⟩ => T.length - k) (0, 1048576 - T.length) rfl ⟨rfl, rfl, trivial⟩ ⟨by omega, by simp [tot]; omega, by simp [tot], hm⟩ ?_
    rintro ⟨k, s⟩ junk w1 ⟨hk, ht, hs, hm⟩
    by_cases hlt : k < T.length
    · have hst := tot_step T k hlt
      have hrk := hr k
      generalize hrr : T.getD k dR = r at *
      have hsz := fun w => szIntS_eq (m := r.xs.length) (A := r.A) (c := r.c) (k := s) (w0 := w) (by omega) hrk
      by_cases hfit : (r.xs.length : Int) ≤ s
      · rw [if_pos hfit] at hsz
        repeat' ((conv => whnf); first | first | with_reducible refine ldT hxo (by assumption) (by omega) ?_ | rw [hrr] | with_reducible refine call (by assumption) szIntS_can (hsz _) (fun w1 hm => ?_) | with_reducible refine cndT ?_ | with_reducible refine cndF ?_ | with_reducible refine cndNT ?_ | with_reducible refine cndNF ?_ | with_reducible refine len ?_ | with_reducible refine arith (by unfold InR; omega) ?_ | with_reducible refine arith (by unfold InR; decide) ?_ | with_reducible refine quoN (by omega) (by omega) (by omega) ?_ | with_reducible refine remN (by omega) ?_ | with_reducible refine shrN (by omega) ?_ | with_reducible refine shrI (by omega) (by omega) ?_ | with_reducible refine And.intro (by omega) ?_ | with_reducible refine idxMn (by assumption) (by omega) (by omega) ?_ | with_reducible refine idxM (by assumption) (by omega) (by omega) (by omega) ?_ | with_reducible refine ldI (by assumption) (by assumption) (by first | omega | (simp only [List.length_set]; omega) | (simp; omega)) ?_ | with_reducible refine ldB (by assumption) (by assumption) (by first | omega | (simp only [List.length_set]; omega) | (simp; omega)) ?_ | with_reducible refine bs0I (by assumption) (fun A1 w1 hm => ?_) | with_reducible refine bs2I (by assumption) (fun A1 w1 hm => ?_) | with_reducible refine bs7I (by assumption) (fun A1 w1 hm => ?_) | with_reducible refine bs1I (by assumption) (fun A1 w1 hm => ?_) | with_reducible refine eqB ?_ | with_reducible refine neB ?_ | with_reducible refine slToN (by omega) ?_ | with_reducible apply qs | with_reducible apply ts | exact trivial | with_reducible refine SK.mk (by first | trivial | assumption) ?_ | with_reducible refine Both.mk ?_ ?_ | exact And.intro rfl rfl | exact And.intro rfl (by assumption) | intro w1 hm | refine quiet (Mem _ _ _) mixed (by decide +kernel) (Mem.drawn (by assumption)) ?_ | ((with_reducible refine cndD (fun hc => ?_) (fun hc => ?_)) <;> (first | (exfalso; omega) | skip)) | ((with_reducible refine cndN (fun hc => ?_) (fun hc => ?_)) <;> (first | (exfalso; omega) | skip)) | with_reducible refine cndNB (fun hc => ?_) (fun hc => ?_) | with_reducible refine cndB (fun hc => ?_) (fun hc => ?_))
        refine Exists.intro (k + 1, s - r.xs.length) (And.intro ⟨rfl, rfl, trivial⟩ (And.intro ⟨by omega, by omega, by omega, hm⟩ (by show T.length - (k + 1) < T.length - k; omega)))
      · rw [if_neg hfit] at hsz
        repeat' ((conv => whnf); first | first | with_reducible refine ldT hxo (by assumption) (by omega) ?_ | rw [hrr] | with_reducible refine call (by assumption) szIntS_can (hsz _) (fun w1 hm => ?_) | with_reducible refine cndT ?_ | with_reducible refine cndF ?_ | with_reducible refine cndNT ?_ | with_reducible refine cndNF ?_ | with_reducible refine len ?_ | with_reducible refine arith (by unfold InR; omega) ?_ | with_reducible refine arith (by unfold InR; decide) ?_ | with_reducible refine quoN (by omega) (by omega) (by omega) ?_ | with_reducible refine remN (by omega) ?_ | with_reducible refine shrN (by omega) ?_ | with_reducible refine shrI (by omega) (by omega) ?_ | with_reducible refine And.intro (by omega) ?_ | with_reducible refine idxMn (by assumption) (by omega) (by omega) ?_ | with_reducible refine idxM (by assumption) (by omega) (by omega) (by omega) ?_ | with_reducible refine ldI (by assumption) (by assumption) (by first | omega | (simp only [List.length_set]; omega) | (simp; omega)) ?_ | with_reducible refine ldB (by assumption) (by assumption) (by first | omega | (simp only [List.length_set]; omega) | (simp; omega)) ?_ | with_reducible refine bs0I (by assumption) (fun A1 w1 hm => ?_) | with_reducible refine bs2I (by assumption) (fun A1 w1 hm => ?_) | with_reducible refine bs7I (by assumption) (fun A1 w1 hm => ?_) | with_reducible refine bs1I (by assumption) (fun A1 w1 hm => ?_) | with_reducible refine eqB ?_ | with_reducible refine neB ?_ | with_reducible refine slToN (by omega) ?_ | with_reducible apply qs | with_reducible apply ts | exact trivial | with_reducible refine SK.mk (by first | trivial | assumption) ?_ | with_reducible refine Both.mk ?_ ?_ | exact And.intro rfl rfl | exact And.intro rfl (by assumption) | intro w1 hm | refine quiet (Mem _ _ _) mixed (by decide +kernel) (Mem.drawn (by assumption)) ?_ | ((with_reducible refine cndD (fun hc => ?_) (fun hc => ?_)) <;> (first | (exfalso; omega) | skip)) | ((with_reducible refine cndN (fun hc => ?_) (fun hc => ?_)) <;> (first | (exfalso; omega) | skip)) | with_reducible refine cndNB (fun hc => ?_) (fun hc => ?_) | with_reducible refine cndB (fun hc => ?_) (fun hc => ?_))
        exact Exists.intro _ (And.intro rfl (And.intro (Or.inl rfl) hm))
    · repeat' ((conv => whnf); first | fail | with_reducible refine cndT ?_ | with_reducible refine cndF ?_ | with_reducible refine cndNT ?_ | with_reducible refine cndNF ?_ | with_reducible refine len ?_ | with_reducible refine arith (by unfold InR; omega) ?_ | with_reducible refine arith (by unfold InR; decide) ?_ | with_reducible refine quoN (by omega) (by omega) (by omega) ?_ | with_reducible refine remN (by omega) ?_ | with_reducible refine shrN (by omega) ?_ | with_reducible refine shrI (by omega) (by omega) ?_ | with_reducible refine And.intro (by omega) ?_ | with_reducible refine idxMn (by assumption) (by omega) (by omega) ?_ | with_reducible refine idxM (by assumption) (by omega) (by omega) (by omega) ?_ | with_reducible refine ldI (by assumption) (by assumption) (by first | omega | (simp only [List.length_set]; omega) | (simp; omega)) ?_ | with_reducible refine ldB (by assumption) (by assumption) (by first | omega | (simp only [List.length_set]; omega) | (simp; omega)) ?_ | with_reducible refine bs0I (by assumption) (fun A1 w1 hm => ?_) | with_reducible refine bs2I (by assumption) (fun A1 w1 hm => ?_) | with_reducible refine bs7I (by assumption) (fun A1 w1 hm => ?_) | with_reducible refine bs1I (by assumption) (fun A1 w1 hm => ?_) | with_reducible refine eqB ?_ | with_reducible refine neB ?_ | with_reducible refine slToN (by omega) ?_ | with_reducible apply qs | with_reducible apply ts | exact trivial | with_reducible refine SK.mk (by first | trivial | assumption) ?_ | with_reducible refine Both.mk ?_ ?_ | exact And.intro rfl rfl | exact And.intro rfl (by assumption) | intro w1 hm | refine quiet (Mem _ _ _) mixed (by decide +kernel) (Mem.drawn (by assumption)) ?_ | ((with_reducible refine cndD (fun hc => ?_) (fun hc => ?_)) <;> (first | (exfalso; omega) | skip)) | ((with_reducible refine cndN (fun hc => ?_) (fun hc => ?_)) <;> (first | (exfalso; omega) | skip)) | with_reducible refine cndNB (fun hc => ?_) (fun hc => ?_) | with_reducible refine cndB (fun hc => ?_) (fun hc => ?_))
      rw [List.take_of_length_le (by omega)] at ht hs
      exact Exists.intro _ (And.intro rfl (And.intro (Or.inr ⟨by omega, ht⟩) hm))
  · repeat' ((conv => whnf); first | fail | with_reducible refine cndT ?_ | with_reducible refine cndF ?_ | with_reducible refine cndNT ?_ | with_reducible refine cndNF ?_ | with_reducible refine len ?_ | with_reducible refine arith (by unfold InR; omega) ?_ | with_reducible refine arith (by unfold InR; decide) ?_ | with_reducible refine quoN (by omega) (by omega) (by omega) ?_ | with_reducible refine remN (by omega) ?_ | with_reducible refine shrN (by omega) ?_ | with_reducible refine shrI (by omega) (by omega) ?_ | with_reducible refine And.intro (by omega) ?_ | with_reducible refine idxMn (by assumption) (by omega) (by omega) ?_ | with_reducible refine idxM (by assumption) (by omega) (by omega) (by omega) ?_ | with_reducible refine ldI (by assumption) (by assumption) (by first | omega | (simp only [List.length_set]; omega) | (simp; omega)) ?_ | with_reducible refine ldB (by assumption) (by assumption) (by first | omega | (simp only [List.length_set]; omega) | (simp; omega)) ?_ | with_reducible refine bs0I (by assumption) (fun A1 w1 hm => ?_) | with_reducible refine bs2I (by assumption) (fun A1 w1 hm => ?_) | with_reducible refine bs7I (by assumption) (fun A1 w1 hm => ?_) | with_reducible refine bs1I (by assumption) (fun A1 w1 hm => ?_) | with_reducible refine eqB ?_ | with_reducible refine neB ?_ | with_reducible refine slToN (by omega) ?_ | with_reducible apply qs | with_reducible apply ts | exact trivial | with_reducible refine SK.mk (by first | trivial | assumption) ?_ | with_reducible refine Both.mk ?_ ?_ | exact And.intro rfl rfl | exact And.intro rfl (by assumption) | intro w1 hm | refine quiet (Mem _ _ _) mixed (by decide +kernel) (Mem.drawn (by assumption)) ?_ | ((with_reducible refine cndD (fun hc => ?_) (fun hc => ?_)) <;> (first | (exfalso; omega) | skip)) | ((with_reducible refine cndN (fun hc => ?_) (fun hc => ?_)) <;> (first | (exfalso; omega) | skip)) | with_reducible refine cndNB (fun hc => ?_) (fun hc => ?_) | with_reducible refine cndB (fun hc => ?_) (fun hc => ?_))
    exact Exists.intro _ (And.intro rfl (And.intro (Or.inl rfl) hm))
theorem callSz {P : Program} {K : Value → World → Prop} {w0 w : World} {B : Nat} {L : List Ent} {f : FuncId} {args : Array Value} {F : Prop} (hm : Mem w0 B L w) (hc : Callable P f) (h : Calls P f args w fun e w' => ∃ v, e = .returned (I64 v) ∧ (v = -1 ∨ (0 ≤ v ∧ F)) ∧ Mem w w.heap.size [] w')
    (hk : ∀ v w', (v = -1 ∨ (0 ≤ v ∧ F)) → Mem w0 B L w' → K (I64 v) w') : CallW P f args w K :=
  ⟨hc, h.mono fun _ w' ⟨v, he, hv, h2⟩ => ⟨_, he, hk v w' hv (hm.nilComp h2)⟩⟩
theorem len_of {T R : List Row} (h : tabOf R = tabOf T) : R.length = T.length := by rw [← tabOf_len R, h, tabOf_len]
theorem Mem.rdT1 {w0 w : World} {B : Nat} {L : List Ent} {A : Option Addr} {c : Nat} {T : List Row} (hm : Mem w0 B (tabE A c T ++ L) w) (hsm : ∀ r ∈ T, r.xs.length ≤ 1048576) : RdT w w.heap.size A T := Mem.rdTab hm (c := c) (fun _ he => List.mem_append_left _ he) hsm
theorem Mem.rdT2 {w0 w : World} {B : Nat} {L L' : List Ent} {A : Option Addr} {c : Nat} {T : List Row} (hm : Mem w0 B (L' ++ (tabE A c T ++ L)) w) (hsm : ∀ r ∈ T, r.xs.length ≤ 1048576) : RdT w w.heap.size A T := Mem.rdTab hm (c := c) (fun _ he => List.mem_append_right _ (List.mem_append_left _ he)) hsm
theorem open_tab {H : Type} {enc : TypeId × Value → H} {P : Program} {w : World} {base : Nat} {held : Bool} {t e q : TypeId} {fuel len cap : Nat} {a : Option Addr} {x : DataW H × List MemPlace} (ht : P.underlying t = some (.slice e)) (he : P.underlying e = some (.slice q)) (hq : P.underlying q = some (.int .i64))
    (ce : P.cellsOf e = 1) (cq : P.cellsOf q = 1) (h : DataW.trod enc P w base (fun _ => true) held fuel t [.slice a len cap] = some x) :
    ∃ T : List Row, RdO w w.heap.size a T ∧ len = T.length ∧ T.length ≤ cap ∧ T.length ≤ 9223372036854775807 ∧ ∀ i, (T.getD i dR).xs.length ≤ 9223372036854775807 := by
  have hml : maxLen ≤ 9223372036854775807 := by unfold maxLen; omega
  rcases Deep.open_int_rows ht he hq ce cq h with ⟨hcs, _⟩ | ⟨a', len', cap', A, L, C, Z, hcs, _, hl, hm, _, hr⟩
  · simp only [List.cons.injEq, Value.slice.injEq, and_true] at hcs
    obtain ⟨rfl, rfl, rfl⟩ := hcs
    exact ⟨[], ⟨Rd.nil, fun i => Rd.nil, fun i => Nat.le_refl _⟩, rfl, Nat.le_refl _, by simp, fun i => by simp [dR]⟩
  · simp only [List.cons.injEq, Value.slice.injEq, and_true] at hcs
    obtain ⟨rfl, rfl, rfl⟩ := hcs
    have hget : ∀ i, i < len → (((List.range len).map fun r => (⟨A r, C r, (Z r).take (L r)⟩ : Row)).getD i dR) = ⟨A i, C i, (Z i).take (L i)⟩ := fun i hi => by simp [hi]
    have hlen : ((List.range len).map fun r => (⟨A r, C r, (Z r).take (L r)⟩ : Row)).length = len := by simp
    refine ⟨(List.range len).map fun r => ⟨A r, C r, (Z r).take (L r)⟩, ⟨?_, fun i => ?_, fun i => ?_⟩, hlen.symm, by rw [hlen]; exact hl, by rw [hlen]; omega, fun i => ?_⟩
    · intro j hj
      have hj' : j < len := by simpa using hj
      obtain ⟨h1, h2, h3, h4, _⟩ := hr j (by omega)
      have h9 := cell_lt h1
      rw [add_block] at h9
      refine ⟨a', rfl, h9, ?_⟩
      rw [h1]
      simp [h4, Nat.min_eq_left h2]
    · by_cases hi : i < len
      · rw [hget i hi]
        obtain ⟨h1, h2, h3, h4, h5, h6, h7⟩ := hr i (by omega)
        intro j hj
        have hj' : j < L i := by simpa [h4, Nat.min_eq_left h2] using hj
        cases hA : A i with
        | none => have := h6 hA; omega
        | some ad =>
          have h8 := (h7 ad hA).2 j (by omega)
          have h9 := cell_lt h8
          rw [add_block] at h9
          refine ⟨ad, rfl, h9, ?_⟩
          rw [h8]
          simp [show j < (Z i).length by omega]
      · rw [getD_out _ dR i (by rw [hlen]; omega)]; exact Rd.nil
    · by_cases hi : i < len
      · rw [hget i hi]
        obtain ⟨h1, h2, h3, h4, _⟩ := hr i (by omega)
        simp only [List.length_take]
        omega
      · rw [getD_out _ dR i (by rw [hlen]; omega)]; exact Nat.le_refl _
    · by_cases hi : i < len
      · rw [hget i hi]
        obtain ⟨h1, h2, h3, h4, _⟩ := hr i (by omega)
        simp only [List.length_take]
        omega
      · rw [getD_out _ dR i (by rw [hlen]; omega)]; simp [dR]
end Go.Proofs.Ytmikacjccmchcaa
