/-
  Rules for max, min and copy.
-/
import Derived.Test.YtmikacjccmchcaaRules
import Derived.Lib.MinMax
import Derived.Laws.Cover1
import Derived.Laws.IdiomCopy
namespace Go.Proofs.Ytmikacjccmchcaa
open Go.RowKit V
namespace V
section
variable {P : Program} {w0 w : World} {B : Nat} {L : List Ent} {K : Value → World → Prop}
theorem mx2 {ts : Array TypeId} {t : TypeId} {k k' : IntKind} {x y : Int} (hk : K (.int k (max x y)) w) : RunV .max P (Builtin.max_ ts t #[.int k x, .int k' y]) w K := ⟨_, _, Lib.run_max_ints w ts t k k' x y, hk⟩
theorem mn2 {ts : Array TypeId} {t : TypeId} {k k' : IntKind} {x y : Int} (hk : K (.int k (min x y)) w) : RunV .min P (Builtin.min_ ts t #[.int k x, .int k' y]) w K := ⟨_, _, Lib.run_min_ints w ts t k k' x y, hk⟩
theorem mx3 {ts : Array TypeId} {t : TypeId} {k k' k'' : IntKind} {x y z : Int} (hk : K (.int k (max (max x y) z)) w) : RunV .max P (Builtin.max_ ts t #[.int k x, .int k' y, .int k'' z]) w K := by
  refine ⟨_, _, run_max_int3 (P := P) (w := w) ts t k k' k'' x y z, ?_⟩
  have e : (if z > (if y > x then y else x) then z else (if y > x then y else x)) = max (max x y) z := by
    rw [Int.max_def, Int.max_def]
    split <;> split <;> split <;> omega
  rw [e]; exact hk
theorem Mem.stores {e : TypeId} {n c g q : Nat} : ∀ (xs : List Value) (o : Nat) (cs : List Value) (L : List Ent) (w : World), Mem w0 B L w → L[q]? = some ⟨e, 1, some ⟨g, 0, none⟩, n, c, cs⟩ → o + xs.length = cs.length →
    Mem w0 B (L.set q ⟨e, 1, some ⟨g, 0, none⟩, n, c, cs.take o ++ xs⟩) (w.setCells g o xs)
  | [], o, cs, L, w, hm, hL, hl => by
    simp at hl
    rw [List.append_nil, List.take_of_length_le (by omega), set_same hL]
    exact hm
  | v :: r, o, cs, L, w, hm, hL, hl => by
    simp at hl
    have hq : q < L.length := (List.getElem?_eq_some_iff.1 hL).1
    obtain ⟨ad, h1, _, _, h4⟩ := hm.store hL (k := o) (by simp only; omega) v
    simp only [Option.some.injEq] at h1
    subst h1
    have := Mem.stores (e := e) (n := n) (c := c) (g := g) (q := q) r (o + 1) (cs.set o v) _ _ h4 (by simp [hq]) (by simp; omega)
    rw [List.set_set, List.take_set, List.take_succ_eq_append_getElem (by omega), List.set_append_right _ _ (by simp; omega)] at this
    simp only [List.length_take, show min o cs.length = o by omega, Nat.sub_self, List.set_cons_zero, List.append_assoc, List.singleton_append] at this
    rw [add0] at this
    exact this
theorem cpO {dT sT ty e : TypeId} {bytes n c m2 c2 : Nat} {z : Value} {A A2 : Option Addr} {cs xs : List Value} [ht : SlTy P dT e] [hi : ElTy P e 1 bytes z] (q : Nat) (hm : Mem w0 B L w) (hL : L[q]? = some ⟨e, 1, A, n, c, cs⟩) (hx : Rd w w.heap.size A2 xs) (hxl : xs.length = n) (hm2 : m2 = n) (h1 : ∀ v ∈ xs, oneCell v = true)
    (hk : ∀ w', Mem w0 B (L.set q ⟨e, 1, A, n, c, xs⟩) w' → K (.int .i64 n) w') : RunV .copy P (Builtin.copy_ #[dT, sT] ty #[.slice A n c, .slice A2 m2 c2]) w K := by
  subst hm2
  obtain ⟨ti, i2, i3, i4, i5⟩ := hi.eq
  have hs : (P.info? e).map (·.size) = some 1 := by rw [i2]; simp [i4]
  have he := hm.ok _ (List.mem_of_getElem? hL)
  have hcl : cs.length = m2 := by have := he.len; simpa using this
  by_cases hn : m2 = 0
  · subst hn
    refine ⟨_, _, run_copy_none w dT sT ty e A A2 0 c 0 c2 ht.eq hs rfl, ?_⟩
    refine hk w ?_
    rw [List.length_eq_zero_iff.1 hxl]
    rw [List.length_eq_zero_iff.1 hcl] at hL
    rw [set_same hL]
    exact hm
  · obtain ⟨g, cur, hA, hb, hg, hnc, hcm, hs', htk⟩ := he.atN (by simp only; omega)
    simp only at hA
    subst hA
    obtain ⟨a, rfl, _⟩ := hx 0 (by omega)
    have hst : ∀ j, j < cs.length → (∃ u, w.cell? ⟨g, 0 + j, none⟩ = some u) ∧ w.frozen? ⟨g, 0 + j, none⟩ = false := fun j hj => by
      obtain ⟨ad, h1, h2, h3, _⟩ := hm.store hL (k := j) (by simpa using hj) (.bool true)
      simp only [Option.some.injEq] at h1
      subst h1
      rw [add0] at h2 h3
      rw [Nat.zero_add]
      exact ⟨h2, h3⟩
    have hr := run_copy_cells (P := P) w dT sT ty e g 0 m2 c a m2 c2 xs ht.eq hs (by rw [hxl]; exact (Nat.min_self _).symm) (fun j v hv => by
      obtain ⟨hj, rfl⟩ := List.getElem?_eq_some_iff.1 hv
      obtain ⟨ad, h1, h2⟩ := hx.cell hj
      cases h1
      exact h2) (fun j hj => by obtain ⟨⟨u, hu⟩, _⟩ := hst j (by omega); rw [hu]; rfl) (fun j hj => (hst j (by omega)).2) (fun v hv => by
        have := h1 v hv
        cases v <;> simp [oneCell] at this <;> rfl)
    refine ⟨_, _, hr, ?_⟩
    rw [hxl]
    refine hk _ ?_
    have := Mem.stores xs 0 cs L w hm hL (by omega)
    simpa using this
theorem cpI {dT sT ty e : TypeId} {bytes n c m2 c2 : Nat} {z : Value} {A A2 : Option Addr} {cs : List Value} {xs : List Int} [SlTy P dT e] [ElTy P e 1 bytes z] (q : Nat) (hm : Mem w0 B L w) (hL : L[q]? = some ⟨e, 1, A, n, c, cs⟩) (hx : Rd w w.heap.size A2 (xs.map I64)) (hxl : xs.length = n) (hm2 : m2 = n)
    (hk : ∀ w', Mem w0 B (L.set q ⟨e, 1, A, n, c, xs.map I64⟩) w' → K (.int .i64 n) w') : RunV .copy P (Builtin.copy_ #[dT, sT] ty #[.slice A n c, .slice A2 m2 c2]) w K :=
  cpO q hm hL hx (by simpa using hxl) hm2 (fun v hv => by simp only [List.mem_map] at hv; obtain ⟨i, _, rfl⟩ := hv; rfl) hk
/-- the worlds in which some row of numbers holds anything -/
def SomeI (n : Nat) (F : List Int → World → Prop) (w : World) : Prop := ∃ ys : List Int, ys.length = n ∧ F ys w
theorem someI {n : Nat} {F : List Int → World → Prop} {T : World → Prop} (h : ∀ w ys, ys.length = n → F ys w → T w) : ∀ w, SomeI n F w → T w := fun w ⟨ys, h1, h2⟩ => h w ys h1 h2
theorem someI_mk {n : Nat} {F : List Int → World → Prop} {ys : List Int} (h2 : F ys w) (h1 : ys.length = n) : SomeI n F w := ⟨ys, h1, h2⟩
end
end V
end Go.Proofs.Ytmikacjccmchcaa
