/-
  Tables that are marked, and read again.
-/
import Derived.Test.YtmikacjccmchcaaTabO
namespace Go.Proofs.Ytmikacjccmchcaa
open Go.RowKit V
def markRow (k0 : Int) (R : List Row) (j : Nat) : Row := ⟨(R.getD j dR).A, (R.getD j dR).c, markN (k0 + tot (R.take j)) (R.getD j dR).xs.length⟩
def markTo (k0 : Int) (R : List Row) (i : Nat) : List Row := (List.range R.length).map fun j => if j < i then markRow k0 R j else R.getD j dR
theorem markTo_len (k0 : Int) (R : List Row) (i : Nat) : (markTo k0 R i).length = R.length := by simp [markTo]
theorem markTo_zero (k0 : Int) (R : List Row) : markTo k0 R 0 = R := by
  unfold markTo
  apply List.ext_getElem
  · simp
  · intro j h1 h2
    simp [h2]
theorem markTo_set (k0 : Int) (R : List Row) (i : Nat) : (markTo k0 R i).set i (markRow k0 R i) = markTo k0 R (i + 1) := by
  unfold markTo
  apply List.ext_getElem
  · simp
  · intro j h1 h2
    simp only [List.getElem_set, List.getElem_map, List.getElem_range]
    by_cases hj : i = j
    · subst hj; simp
    · rw [if_neg hj]
      by_cases hj2 : j < i
      · rw [if_pos hj2, if_pos (by omega)]
      · rw [if_neg hj2, if_neg (by omega)]
theorem markTo_get (k0 : Int) (R : List Row) (i j : Nat) (h : j < R.length) : (markTo k0 R i).getD j dR = if j < i then markRow k0 R j else R.getD j dR := by simp [markTo, h]
theorem markTo_val (k0 : Int) (R : List Row) (i : Nat) : (markTo k0 R i).map Row.val = R.map Row.val := by
  apply List.ext_getElem
  · simp [markTo]
  · intro j h1 h2
    have hj : j < R.length := by simpa using h2
    simp only [List.getElem_map]
    have e := markTo_get k0 R i j hj
    rw [getD_lt _ dR j (by rw [markTo_len]; exact hj)] at e
    rw [e]
    split
    · simp [markRow, markN_len, hj]
    · simp [hj]
theorem tot_le (R : List Row) (j : Nat) : tot (R.take j) ≤ tot R := by
  unfold tot
  have : R.map (fun r => r.xs.length) = (R.take j).map (fun r => r.xs.length) ++ (R.drop j).map (fun r => r.xs.length) := by rw [← List.map_append, List.take_append_drop]
  rw [this, List.sum_append]
  omega
theorem markIntSS_can : Callable Try.prog 20 := callable Try.func20 (by decide +kernel) rfl
theorem markIntSS_eq {R : List Row} {m : Nat} {A : Option Addr} {c : Nat} {w0 w : World} {B : Nat} {L : List Ent} (hm : Mem w0 B (tabE A c R ++ L) w) (hmm : m = R.length) (hl : R.length ≤ 1048576) (ht : tot R ≤ 1048576) :
    Calls Try.prog 20 #[.slice A m c, I64 1] w fun e w' => e = .returned (I64 (1 + tot R)) ∧ Mem w0 B (tabE A c (markTo 1 R R.length) ++ L) w' := by
  subst hmm
  refine enter Try.func20 rfl rfl rfl ?_
  have hm : Mem w0 B (⟨35, 1, A, R.length, c, R.map Row.val⟩ :: ((markTo 1 R 0).map Row.ent ++ L)) w := by rw [markTo_zero]; exact hm
  repeat' ((conv => whnf); first | fail | with_reducible refine cndT ?_ | with_reducible refine cndF ?_ | with_reducible refine cndNT ?_ | with_reducible refine cndNF ?_ | with_reducible refine len ?_ | with_reducible refine arith (by unfold InR; omega) ?_ | with_reducible refine arith (by unfold InR; decide) ?_ | with_reducible refine quoN (by omega) (by omega) (by omega) ?_ | with_reducible refine remN (by omega) ?_ | with_reducible refine shrN (by omega) ?_ | with_reducible refine shrI (by omega) (by omega) ?_ | with_reducible refine And.intro (by omega) ?_ | with_reducible refine idxMn (by assumption) (by omega) (by omega) ?_ | with_reducible refine idxM (by assumption) (by omega) (by omega) (by omega) ?_ | with_reducible refine ldI (by assumption) (by assumption) (by first | omega | (simp only [List.length_set]; omega) | (simp; omega)) ?_ | with_reducible refine ldB (by assumption) (by assumption) (by first | omega | (simp only [List.length_set]; omega) | (simp; omega)) ?_ | with_reducible refine bs0I (by assumption) (fun A1 w1 hm => ?_) | with_reducible refine bs2I (by assumption) (fun A1 w1 hm => ?_) | with_reducible refine bs7I (by assumption) (fun A1 w1 hm => ?_) | with_reducible refine bs1I (by assumption) (fun A1 w1 hm => ?_) | with_reducible refine eqB ?_ | with_reducible refine neB ?_ | with_reducible refine slToN (by omega) ?_ | with_reducible apply qs | with_reducible apply ts | exact trivial | with_reducible refine SK.mk (by first | trivial | assumption) ?_ | with_reducible refine Both.mk ?_ ?_ | exact And.intro rfl rfl | exact And.intro rfl (by assumption) | intro w1 hm | refine quiet (Mem _ _ _) mixed (by decide +kernel) (Mem.drawn (by assumption)) ?_ | ((with_reducible refine cndD (fun hc => ?_) (fun hc => ?_)) <;> (first | (exfalso; omega) | skip)) | ((with_reducible refine cndN (fun hc => ?_) (fun hc => ?_)) <;> (first | (exfalso; omega) | skip)) | with_reducible refine cndNB (fun hc => ?_) (fun hc => ?_) | with_reducible refine cndB (fun hc => ?_) (fun hc => ?_))
  refine loop (γ := Nat × Int) [(1, 1), (5, 17)] (fun ⟨i, s⟩ => [(1, I64 s), (5, I64 i)]) (fun ⟨i, s⟩ w' => i ≤ R.length ∧ s = 1 + tot (R.take i) ∧ Mem w0 B (⟨35, 1, A, R.length, c, R.map Row.val⟩ :: ((markTo 1 R i).map Row.ent ++ L)) w') (fun ⟨i, _⟩ => R.length - i) (0, 1) rfl ⟨rfl, rfl, trivial⟩ ⟨by omega, by simp [tot], hm⟩ ?_
  clear hm
  rintro ⟨i, s⟩ junk w1 ⟨hi, hs, hm⟩
  have hmi := markTo_len 1 R i
  have htl := tot_le R i
  by_cases hlt : i < R.length
  · have hst := tot_step R i hlt
    have htr := tot_row R i
    have hxo : Rd w1 w1.heap.size A (R.map Row.val) := Mem.atE 0 hm rfl
    have hent : (⟨35, 1, A, R.length, c, R.map Row.val⟩ :: ((markTo 1 R i).map Row.ent ++ L))[i + 1]? = some (R.getD i dR).ent := by
      rw [List.getElem?_cons_succ, List.getElem?_append_left (by simp; omega), List.getElem?_map]
      have e := markTo_get 1 R i i hlt
      rw [if_neg (by omega), getD_lt _ dR i (by omega)] at e
      rw [List.getElem?_eq_getElem (by omega), e]
      rfl
    have hset : ∀ e : Ent, (⟨35, 1, A, R.length, c, R.map Row.val⟩ :: ((markTo 1 R i).map Row.ent ++ L)).set (i + 1) e = ⟨35, 1, A, R.length, c, R.map Row.val⟩ :: (((markTo 1 R i).map Row.ent).set i e ++ L) := fun e => by
      rw [List.set_cons_succ, List.set_append_left _ _ (by simp; omega)]
    have hmk := markIntS_eq (i + 1) (xs := (R.getD i dR).xs) (m := (R.getD i dR).xs.length) (A := (R.getD i dR).A) (c := (R.getD i dR).c) (k0 := s) hm hent rfl (by omega) (by omega)
    have hme : (⟨3, 1, (R.getD i dR).A, (R.getD i dR).xs.length, (R.getD i dR).c, (markN s (R.getD i dR).xs.length).map I64⟩ : Ent) = (markRow 1 R i).ent := by
      unfold markRow Row.ent
      simp only [markN_len, hs]
    rw [hset, hme, ← List.map_set, markTo_set] at hmk
    repeat' ((conv => whnf); first | first | with_reducible refine ldT hxo (Mem.init _) (by omega) ?_ | with_reducible refine cndT ?_ | with_reducible refine cndF ?_ | with_reducible refine cndNT ?_ | with_reducible refine cndNF ?_ | with_reducible refine len ?_ | with_reducible refine arith (by unfold InR; omega) ?_ | with_reducible refine arith (by unfold InR; decide) ?_ | with_reducible refine quoN (by omega) (by omega) (by omega) ?_ | with_reducible refine remN (by omega) ?_ | with_reducible refine shrN (by omega) ?_ | with_reducible refine shrI (by omega) (by omega) ?_ | with_reducible refine And.intro (by omega) ?_ | with_reducible refine idxMn (by assumption) (by omega) (by omega) ?_ | with_reducible refine idxM (by assumption) (by omega) (by omega) (by omega) ?_ | with_reducible refine ldI (by assumption) (by assumption) (by first | omega | (simp only [List.length_set]; omega) | (simp; omega)) ?_ | with_reducible refine ldB (by assumption) (by assumption) (by first | omega | (simp only [List.length_set]; omega) | (simp; omega)) ?_ | with_reducible refine bs0I (by assumption) (fun A1 w1 hm => ?_) | with_reducible refine bs2I (by assumption) (fun A1 w1 hm => ?_) | with_reducible refine bs7I (by assumption) (fun A1 w1 hm => ?_) | with_reducible refine bs1I (by assumption) (fun A1 w1 hm => ?_) | with_reducible refine eqB ?_ | with_reducible refine neB ?_ | with_reducible refine slToN (by omega) ?_ | with_reducible apply qs | with_reducible apply ts | exact trivial | with_reducible refine SK.mk (by first | trivial | assumption) ?_ | with_reducible refine Both.mk ?_ ?_ | exact And.intro rfl rfl | exact And.intro rfl (by assumption) | intro w1 hm | refine quiet (Mem _ _ _) mixed (by decide +kernel) (Mem.drawn (by assumption)) ?_ | ((with_reducible refine cndD (fun hc => ?_) (fun hc => ?_)) <;> (first | (exfalso; omega) | skip)) | ((with_reducible refine cndN (fun hc => ?_) (fun hc => ?_)) <;> (first | (exfalso; omega) | skip)) | with_reducible refine cndNB (fun hc => ?_) (fun hc => ?_) | with_reducible refine cndB (fun hc => ?_) (fun hc => ?_))
    (try conv => whnf)
    refine callM markIntS_can hmk (fun w1 hm => ?_)
    repeat' ((conv => whnf); first | fail | with_reducible refine cndT ?_ | with_reducible refine cndF ?_ | with_reducible refine cndNT ?_ | with_reducible refine cndNF ?_ | with_reducible refine len ?_ | with_reducible refine arith (by unfold InR; omega) ?_ | with_reducible refine arith (by unfold InR; decide) ?_ | with_reducible refine quoN (by omega) (by omega) (by omega) ?_ | with_reducible refine remN (by omega) ?_ | with_reducible refine shrN (by omega) ?_ | with_reducible refine shrI (by omega) (by omega) ?_ | with_reducible refine And.intro (by omega) ?_ | with_reducible refine idxMn (by assumption) (by omega) (by omega) ?_ | with_reducible refine idxM (by assumption) (by omega) (by omega) (by omega) ?_ | with_reducible refine ldI (by assumption) (by assumption) (by first | omega | (simp only [List.length_set]; omega) | (simp; omega)) ?_ | with_reducible refine ldB (by assumption) (by assumption) (by first | omega | (simp only [List.length_set]; omega) | (simp; omega)) ?_ | with_reducible refine bs0I (by assumption) (fun A1 w1 hm => ?_) | with_reducible refine bs2I (by assumption) (fun A1 w1 hm => ?_) | with_reducible refine bs7I (by assumption) (fun A1 w1 hm => ?_) | with_reducible refine bs1I (by assumption) (fun A1 w1 hm => ?_) | with_reducible refine eqB ?_ | with_reducible refine neB ?_ | with_reducible refine slToN (by omega) ?_ | with_reducible apply qs | with_reducible apply ts | exact trivial | with_reducible refine SK.mk (by first | trivial | assumption) ?_ | with_reducible refine Both.mk ?_ ?_ | exact And.intro rfl rfl | exact And.intro rfl (by assumption) | intro w1 hm | refine quiet (Mem _ _ _) mixed (by decide +kernel) (Mem.drawn (by assumption)) ?_ | ((with_reducible refine cndD (fun hc => ?_) (fun hc => ?_)) <;> (first | (exfalso; omega) | skip)) | ((with_reducible refine cndN (fun hc => ?_) (fun hc => ?_)) <;> (first | (exfalso; omega) | skip)) | with_reducible refine cndNB (fun hc => ?_) (fun hc => ?_) | with_reducible refine cndB (fun hc => ?_) (fun hc => ?_))
    refine Exists.intro (i + 1, s + (R.getD i dR).xs.length) (And.intro ⟨rfl, rfl, trivial⟩ (And.intro ⟨by omega, by rw [hs, hst]; omega, hm⟩ (by show R.length - (i + 1) < R.length - i; omega)))
  · repeat' ((conv => whnf); first | fail | with_reducible refine cndT ?_ | with_reducible refine cndF ?_ | with_reducible refine cndNT ?_ | with_reducible refine cndNF ?_ | with_reducible refine len ?_ | with_reducible refine arith (by unfold InR; omega) ?_ | with_reducible refine arith (by unfold InR; decide) ?_ | with_reducible refine quoN (by omega) (by omega) (by omega) ?_ | with_reducible refine remN (by omega) ?_ | with_reducible refine shrN (by omega) ?_ | with_reducible refine shrI (by omega) (by omega) ?_ | with_reducible refine And.intro (by omega) ?_ | with_reducible refine idxMn (by assumption) (by omega) (by omega) ?_ | with_reducible refine idxM (by assumption) (by omega) (by omega) (by omega) ?_ | with_reducible refine ldI (by assumption) (by assumption) (by first | omega | (simp only [List.length_set]; omega) | (simp; omega)) ?_ | with_reducible refine ldB (by assumption) (by assumption) (by first | omega | (simp only [List.length_set]; omega) | (simp; omega)) ?_ | with_reducible refine bs0I (by assumption) (fun A1 w1 hm => ?_) | with_reducible refine bs2I (by assumption) (fun A1 w1 hm => ?_) | with_reducible refine bs7I (by assumption) (fun A1 w1 hm => ?_) | with_reducible refine bs1I (by assumption) (fun A1 w1 hm => ?_) | with_reducible refine eqB ?_ | with_reducible refine neB ?_ | with_reducible refine slToN (by omega) ?_ | with_reducible apply qs | with_reducible apply ts | exact trivial | with_reducible refine SK.mk (by first | trivial | assumption) ?_ | with_reducible refine Both.mk ?_ ?_ | exact And.intro rfl rfl | exact And.intro rfl (by assumption) | intro w1 hm | refine quiet (Mem _ _ _) mixed (by decide +kernel) (Mem.drawn (by assumption)) ?_ | ((with_reducible refine cndD (fun hc => ?_) (fun hc => ?_)) <;> (first | (exfalso; omega) | skip)) | ((with_reducible refine cndN (fun hc => ?_) (fun hc => ?_)) <;> (first | (exfalso; omega) | skip)) | with_reducible refine cndNB (fun hc => ?_) (fun hc => ?_) | with_reducible refine cndB (fun hc => ?_) (fun hc => ?_))
    obtain rfl : i = R.length := by omega
    rw [List.take_of_length_le (by omega)] at hs
    rw [hs]
    refine And.intro rfl ?_
    unfold tabE
    rw [markTo_val, markTo_len]
    exact hm
theorem heldIntSS_can : Callable Try.prog 21 := callable Try.func21 (by decide +kernel) rfl
theorem heldIntSS_eq {R : List Row} {m : Nat} {A : Option Addr} {c : Nat} {w0 : World} (hx : RdT w0 w0.heap.size A (markTo 1 R R.length)) (hmm : m = R.length) (hl : R.length ≤ 1048576) (ht : tot R ≤ 1048576) :
    Ret Try.prog 21 #[.slice A m c, I64 1] w0 (I64 (1 + tot R)) := by
  subst hmm
  have hxo := hx.outer
  have hml := markTo_len 1 R R.length
  refine enter Try.func21 rfl rfl rfl ?_
  have hm := Mem.init w0
  repeat' ((conv => whnf); first | fail | with_reducible refine cndT ?_ | with_reducible refine cndF ?_ | with_reducible refine cndNT ?_ | with_reducible refine cndNF ?_ | with_reducible refine len ?_ | with_reducible refine arith (by unfold InR; omega) ?_ | with_reducible refine arith (by unfold InR; decide) ?_ | with_reducible refine quoN (by omega) (by omega) (by omega) ?_ | with_reducible refine remN (by omega) ?_ | with_reducible refine shrN (by omega) ?_ | with_reducible refine shrI (by omega) (by omega) ?_ | with_reducible refine And.intro (by omega) ?_ | with_reducible refine idxMn (by assumption) (by omega) (by omega) ?_ | with_reducible refine idxM (by assumption) (by omega) (by omega) (by omega) ?_ | with_reducible refine ldI (by assumption) (by assumption) (by first | omega | (simp only [List.length_set]; omega) | (simp; omega)) ?_ | with_reducible refine ldB (by assumption) (by assumption) (by first | omega | (simp only [List.length_set]; omega) | (simp; omega)) ?_ | with_reducible refine bs0I (by assumption) (fun A1 w1 hm => ?_) | with_reducible refine bs2I (by assumption) (fun A1 w1 hm => ?_) | with_reducible refine bs7I (by assumption) (fun A1 w1 hm => ?_) | with_reducible refine bs1I (by assumption) (fun A1 w1 hm => ?_) | with_reducible refine eqB ?_ | with_reducible refine neB ?_ | with_reducible refine slToN (by omega) ?_ | with_reducible apply qs | with_reducible apply ts | exact trivial | with_reducible refine SK.mk (by first | trivial | assumption) ?_ | with_reducible refine Both.mk ?_ ?_ | exact And.intro rfl rfl | exact And.intro rfl (by assumption) | intro w1 hm | refine quiet (Mem _ _ _) mixed (by decide +kernel) (Mem.drawn (by assumption)) ?_ | ((with_reducible refine cndD (fun hc => ?_) (fun hc => ?_)) <;> (first | (exfalso; omega) | skip)) | ((with_reducible refine cndN (fun hc => ?_) (fun hc => ?_)) <;> (first | (exfalso; omega) | skip)) | with_reducible refine cndNB (fun hc => ?_) (fun hc => ?_) | with_reducible refine cndB (fun hc => ?_) (fun hc => ?_))
  refine loop (γ := Nat × Int) [(1, 1), (4, 19)] (fun ⟨i, s⟩ => [(1, I64 s), (5, I64 i)]) (fun ⟨i, s⟩ w' => i ≤ R.length ∧ s = 1 + tot (R.take i) ∧ Mem w0 w0.heap.size [] w') (fun ⟨i, _⟩ => R.length - i) (0, 1) rfl ⟨rfl, rfl, trivial⟩ ⟨by omega, by simp [tot], hm⟩ ?_
  rintro ⟨i, s⟩ junk w1 ⟨hi, hs, hm⟩
  have htl := tot_le R i
  by_cases hlt : i < R.length
  · have hst := tot_step R i hlt
    have htr := tot_row R i
    have hxr := hx.row i
    have hg := markTo_get 1 R R.length i hlt
    rw [if_pos hlt] at hg
    rw [hg] at hxr
    have hmx : (markRow 1 R i).xs = markN s (R.getD i dR).xs.length := by rw [markRow, ← hs]
    have hml2 : (markRow 1 R i).xs.length = (R.getD i dR).xs.length := by rw [hmx, markN_len]
    rw [hmx] at hxr
    have hh := fun w hx => heldIntS_eq (n := (R.getD i dR).xs.length) (A := (markRow 1 R i).A) (c := (markRow 1 R i).c) (k0 := s) (w0 := w) hx (by omega) (by omega)
    rw [← hml2] at hh
    generalize hr : markRow 1 R i = r at *
    generalize (R.getD i dR).xs.length = n at *
    repeat' ((conv => whnf); first | first | with_reducible refine ldT hxo (by assumption) (by omega) ?_ | rw [hg] | with_reducible refine call (by assumption) heldIntS_can (hh _ (by rw [hml2]; exact Mem.rd (by assumption) hxr)) (fun w1 hm => ?_) | with_reducible refine cndT ?_ | with_reducible refine cndF ?_ | with_reducible refine cndNT ?_ | with_reducible refine cndNF ?_ | with_reducible refine len ?_ | with_reducible refine arith (by unfold InR; omega) ?_ | with_reducible refine arith (by unfold InR; decide) ?_ | with_reducible refine quoN (by omega) (by omega) (by omega) ?_ | with_reducible refine remN (by omega) ?_ | with_reducible refine shrN (by omega) ?_ | with_reducible refine shrI (by omega) (by omega) ?_ | with_reducible refine And.intro (by omega) ?_ | with_reducible refine idxMn (by assumption) (by omega) (by omega) ?_ | with_reducible refine idxM (by assumption) (by omega) (by omega) (by omega) ?_ | with_reducible refine ldI (by assumption) (by assumption) (by first | omega | (simp only [List.length_set]; omega) | (simp; omega)) ?_ | with_reducible refine ldB (by assumption) (by assumption) (by first | omega | (simp only [List.length_set]; omega) | (simp; omega)) ?_ | with_reducible refine bs0I (by assumption) (fun A1 w1 hm => ?_) | with_reducible refine bs2I (by assumption) (fun A1 w1 hm => ?_) | with_reducible refine bs7I (by assumption) (fun A1 w1 hm => ?_) | with_reducible refine bs1I (by assumption) (fun A1 w1 hm => ?_) | with_reducible refine eqB ?_ | with_reducible refine neB ?_ | with_reducible refine slToN (by omega) ?_ | with_reducible apply qs | with_reducible apply ts | exact trivial | with_reducible refine SK.mk (by first | trivial | assumption) ?_ | with_reducible refine Both.mk ?_ ?_ | exact And.intro rfl rfl | exact And.intro rfl (by assumption) | intro w1 hm | refine quiet (Mem _ _ _) mixed (by decide +kernel) (Mem.drawn (by assumption)) ?_ | ((with_reducible refine cndD (fun hc => ?_) (fun hc => ?_)) <;> (first | (exfalso; omega) | skip)) | ((with_reducible refine cndN (fun hc => ?_) (fun hc => ?_)) <;> (first | (exfalso; omega) | skip)) | with_reducible refine cndNB (fun hc => ?_) (fun hc => ?_) | with_reducible refine cndB (fun hc => ?_) (fun hc => ?_))
    refine Exists.intro (i + 1, s + r.xs.length) (And.intro ⟨rfl, rfl, trivial⟩ (And.intro ⟨by omega, by rw [hs, hst]; omega, hm⟩ (by show R.length - (i + 1) < R.length - i; omega)))
  · repeat' ((conv => whnf); first | fail | with_reducible refine cndT ?_ | with_reducible refine cndF ?_ | with_reducible refine cndNT ?_ | with_reducible refine cndNF ?_ | with_reducible refine len ?_ | with_reducible refine arith (by unfold InR; omega) ?_ | with_reducible refine arith (by unfold InR; decide) ?_ | with_reducible refine quoN (by omega) (by omega) (by omega) ?_ | with_reducible refine remN (by omega) ?_ | with_reducible refine shrN (by omega) ?_ | with_reducible refine shrI (by omega) (by omega) ?_ | with_reducible refine And.intro (by omega) ?_ | with_reducible refine idxMn (by assumption) (by omega) (by omega) ?_ | with_reducible refine idxM (by assumption) (by omega) (by omega) (by omega) ?_ | with_reducible refine ldI (by assumption) (by assumption) (by first | omega | (simp only [List.length_set]; omega) | (simp; omega)) ?_ | with_reducible refine ldB (by assumption) (by assumption) (by first | omega | (simp only [List.length_set]; omega) | (simp; omega)) ?_ | with_reducible refine bs0I (by assumption) (fun A1 w1 hm => ?_) | with_reducible refine bs2I (by assumption) (fun A1 w1 hm => ?_) | with_reducible refine bs7I (by assumption) (fun A1 w1 hm => ?_) | with_reducible refine bs1I (by assumption) (fun A1 w1 hm => ?_) | with_reducible refine eqB ?_ | with_reducible refine neB ?_ | with_reducible refine slToN (by omega) ?_ | with_reducible apply qs | with_reducible apply ts | exact trivial | with_reducible refine SK.mk (by first | trivial | assumption) ?_ | with_reducible refine Both.mk ?_ ?_ | exact And.intro rfl rfl | exact And.intro rfl (by assumption) | intro w1 hm | refine quiet (Mem _ _ _) mixed (by decide +kernel) (Mem.drawn (by assumption)) ?_ | ((with_reducible refine cndD (fun hc => ?_) (fun hc => ?_)) <;> (first | (exfalso; omega) | skip)) | ((with_reducible refine cndN (fun hc => ?_) (fun hc => ?_)) <;> (first | (exfalso; omega) | skip)) | with_reducible refine cndNB (fun hc => ?_) (fun hc => ?_) | with_reducible refine cndB (fun hc => ?_) (fun hc => ?_))
    obtain rfl : i = R.length := by omega
    rw [List.take_of_length_le (by omega)] at hs
    rw [hs]
    all_goals exact And.intro rfl hm
end Go.Proofs.Ytmikacjccmchcaa
