/-
  An argument that is a slice of comparators, opened.
-/
import Derived.Test.YtddhlpmcikpinaaRulesC
import Derived.Deep.SlicePairs
import Derived.DataShut
namespace Go.Proofs.Ytddhlpmcikpinaa
open Go.RowKit V
def WfN (net : Net) : Prop := ∀ c ∈ net, InR c.1 ∧ InR c.2
theorem InR_of {n : Int} (h : (Lit.int .i64 n).wf = true) : InR n := by
  rw [Lit.wf_int_iff] at h
  rw [IntKind.min_i64, IntKind.max_i64] at h
  exact h
theorem choose_i {Q : Nat → Int → Prop} {m : Nat} (h : ∀ i, i < m → ∃ n, Q i n) : ∃ f : Nat → Int, ∀ i, i < m → Q i (f i) :=
  ⟨fun i => if hi : i < m then (h i hi).choose else 0, fun i hi => by simp only [hi, dif_pos]; exact (h i hi).choose_spec⟩
theorem open_comps {H : Type} {enc : TypeId × Value → H} {P : Program} {w : World} {base : Nat} {held : Bool} {t e : TypeId} {f0 f1 : Field} {fuel len cap : Nat} {a : Option Addr} {x : DataW H × List MemPlace} {cs : List Value} (hcs : cs = [.slice a len cap])
    (h : DataW.trod enc P w base (fun _ => true) held fuel t cs = some x) (ht : P.underlying t = some (.slice e)) (he : P.underlying e = some (.struct #[f0, f1])) (ce : P.cellsOf e = 2) (o0 : f0.offset = 0) (o1 : f1.offset = 1) (c0 : P.cellsOf f0.type = 1) (c1 : P.cellsOf f1.type = 1)
    (u0 : P.underlying f0.type = some (.int .i64)) (u1 : P.underlying f1.type = some (.int .i64)) :
    ∃ net : Net, Rd w w.heap.size a (cc net) ∧ len = net.length ∧ net.length ≤ cap ∧ net.length ≤ 9223372036854775807 ∧ WfN net := by
  rcases Go.Deep.open_slice_pairs ht he ce o0 o1 c0 c1 h with ⟨hc, _⟩ | ⟨ad, l, c, m, n, V0, V1, D0, D1, P0, P1, hc, _, hl, hml, hm, _, hx⟩
  · rw [hcs] at hc
    simp at hc
    obtain ⟨rfl, rfl, rfl⟩ := hc
    exact ⟨[], Rd.nil, rfl, Nat.le_refl _, by simp, fun n hn => by cases hn⟩
  · rw [hcs] at hc
    simp at hc
    obtain ⟨rfl, rfl, rfl⟩ := hc
    have hlm : len ≤ m := by rw [hm]; simpa using hl
    have hF : ∀ i, i < len → ∃ v, V0 i = I64 v ∧ InR v := fun i hi => by
      obtain ⟨v, h1, _, h2⟩ := DataW.trod_int u0 (hx i (by omega)).2.2.1
      exact ⟨v, by simpa using h1, InR_of h2⟩
    have hG : ∀ i, i < len → ∃ v, V1 i = I64 v ∧ InR v := fun i hi => by
      obtain ⟨v, h1, _, h2⟩ := DataW.trod_int u1 (hx i (by omega)).2.2.2
      exact ⟨v, by simpa using h1, InR_of h2⟩
    obtain ⟨F, hF⟩ := choose_i hF
    obtain ⟨G, hG⟩ := choose_i hG
    have hlen : ((List.range len).map fun i => (F i, G i)).length = len := by simp
    have hget : ∀ i, i < len → ((List.range len).map fun i => (F i, G i)).getD i (0, 0) = (F i, G i) := fun i hi => by simp [hi]
    refine ⟨(List.range len).map fun i => (F i, G i), ?_, by simp, by simpa using hl, by unfold maxLen at hml; simp; omega, ?_⟩
    · intro j hj
      have hj' : j < len * 2 := by rw [cc_len] at hj; simp at hj; omega
      obtain ⟨i, hi⟩ : ∃ i, j = i * 2 ∨ j = i * 2 + 1 := ⟨j / 2, by omega⟩
      have hil : i < len := by omega
      have h0 := hx i (by omega)
      rcases hi with rfl | rfl
      · refine ⟨ad, rfl, ?_, ?_⟩
        · have := cell_lt h0.1
          rwa [add_block] at this
        · rw [h0.1, (hF i hil).1]
          have := cc_get0 ((List.range len).map fun i => (F i, G i)) i (by simpa using hil)
          rw [hget i hil, List.getElem?_eq_getElem hj] at this
          exact this.symm
      · refine ⟨ad, rfl, ?_, ?_⟩
        · have := cell_lt h0.2.1
          rwa [add_block] at this
        · rw [h0.2.1, (hG i hil).1]
          have := cc_get1 ((List.range len).map fun i => (F i, G i)) i (by simpa using hil)
          rw [hget i hil, List.getElem?_eq_getElem hj] at this
          exact this.symm
    · intro c hc
      simp only [List.mem_map, List.mem_range] at hc
      obtain ⟨i, hi, rfl⟩ := hc
      exact ⟨(hF i hi).2, (hG i hi).2⟩
end Go.Proofs.Ytddhlpmcikpinaa
