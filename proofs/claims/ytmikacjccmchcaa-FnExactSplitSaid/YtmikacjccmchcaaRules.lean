/-
  Rules for the operations that touch memory, and words for slices in memory. No program of the seat is named here.
-/
import Derived.Test.YtmikacjccmchcaaEngine
import Derived.Maps.AppendAt
import Derived.Laws.Small
import Derived.Laws.Tables
namespace Go.Proofs.Ytmikacjccmchcaa
open Go.RowKit
namespace V

class SlTy (P : Program) (t : TypeId) (e : outParam TypeId) : Prop where
  eq : P.underlying t = some (.slice e)
class ElTy (P : Program) (e : TypeId) (size bytes : outParam Nat) (z : outParam Value) : Prop where
  eq : ∃ i, P.info? e = some i ∧ i.zero = some z ∧ i.size = size ∧ i.bytes = bytes
def isOne : TypeDesc → Bool
  | .struct _ => false
  | .array _ _ => false
  | _ => true
class One (P : Program) (t : TypeId) : Prop where
  eq : ∃ d, P.underlying t = some d ∧ isOne d = true
def oneCell : Value → Bool
  | .agg _ => false
  | .tuple _ => false
  | _ => true
abbrev I64 (n : Int) : Value := .int .i64 n
abbrev BV (b : Bool) : Value := .bool b

theorem callable {P : Program} {f : FuncId} {fn : Func} {c : Code} (hf : P.funcs[f]? = some fn) (hn : (fn.name == "runtime.NumGoroutine") = false) (hb : fn.body = some c) : Callable P f := fun args w => by
  have hn' : ¬ fn.name = "runtime.NumGoroutine" := by simpa using hn
  simp [callFunc, hf, hn', hb]
/-! a slice that is read: its cells, below block B -/
def Rd (w : World) (B : Nat) (A : Option Addr) (cs : List Value) : Prop := ∀ j (h : j < cs.length), ∃ ad, A = some ad ∧ ad.block < B ∧ w.cell? (ad.add j) = some cs[j]
theorem add_block (a : Addr) (n : Nat) : (a.add n).block = a.block := by unfold Addr.add; split <;> rfl
theorem add_add (a : Addr) (i j : Nat) : (a.add i).add j = a.add (i + j) := by
  unfold Addr.add
  by_cases hi : i = 0 <;> by_cases hj : j = 0 <;> simp [hi, hj, Nat.add_assoc]
theorem add0 (g i : Nat) : (⟨g, 0, none⟩ : Addr).add i = ⟨g, i, none⟩ := by unfold Addr.add; by_cases h : i = 0 <;> simp [h]
section
variable {w w' : World} {B B' : Nat} {A : Option Addr} {cs : List Value}
theorem Rd.nil : Rd w B A [] := fun j h => by simp at h
theorem Rd.mono (h : Rd w B A cs) (hB : B ≤ B') : Rd w B' A cs := fun j hj => let ⟨ad, h1, h2, h3⟩ := h j hj; ⟨ad, h1, by omega, h3⟩
theorem Rd.keep (h : Rd w B A cs) (hk : ∀ b, b < B → w'.heap[b]? = w.heap[b]?) : Rd w' B A cs := fun j hj =>
  let ⟨ad, h1, h2, h3⟩ := h j hj
  ⟨ad, h1, h2, (World.cell?_of_block (by rw [add_block]; exact hk _ h2)).trans h3⟩
theorem Rd.below (h : Rd w B A cs) (hb : Below B w w') : Rd w' B A cs := h.keep hb.block
theorem Rd.ne (h : Rd w B A cs) (hl : 0 < cs.length) : A ≠ none := by obtain ⟨ad, rfl, _⟩ := h 0 hl; simp
theorem Rd.take (h : Rd w B A cs) (k : Nat) : Rd w B A (cs.take k) := fun j hj => by
  rw [List.length_take] at hj
  obtain ⟨ad, h1, h2, h3⟩ := h j (by omega)
  exact ⟨ad, h1, h2, by rw [h3, List.getElem_take]⟩
theorem Rd.drop (h : Rd w B A cs) (k c : Nat) (hc : cs.length ≤ c) : Rd w B (if c = k then A else A.map (·.add k)) (cs.drop k) := fun j hj => by
  rw [List.length_drop] at hj
  obtain ⟨ad, h1, h2, h3⟩ := h (k + j) (by omega)
  rw [if_neg (by omega), h1]
  exact ⟨ad.add k, rfl, by rw [add_block]; exact h2, by rw [add_add, h3, List.getElem_drop]⟩
theorem Rd.of_cells {ad : Addr} (hb : ad.block < B) (h : ∀ j (h : j < cs.length), w.cell? (ad.add j) = some cs[j]) : Rd w B (some ad) cs := fun j hj => ⟨ad, rfl, hb, h j hj⟩
theorem Rd.cell (h : Rd w B A cs) {j : Nat} (hj : j < cs.length) : ∃ ad, A = some ad ∧ w.cell? (ad.add j) = some cs[j] := let ⟨ad, h1, _, h3⟩ := h j hj; ⟨ad, h1, h3⟩
end

abbrev U8 (n : Int) : Value := .int .u8 n
theorem cell_lt {w : World} {p : Addr} {v : Value} (h : w.cell? p = some v) : p.block < w.heap.size := by
  rcases Nat.lt_or_ge p.block w.heap.size with hl | hl
  · exact hl
  · simp [World.cell?, Array.getElem?_eq_none hl] at h
theorem open_row {w : World} {a : Addr} {len cap : Nat} {k : IntKind} {zs : List Int} (hl : len ≤ cap) (hz : zs.length = cap) (hcell : ∀ i, i < zs.length → w.cell? (a.add i) = some (.int k (zs.getD i 0))) (hw : ∀ n ∈ zs, (Lit.int k n).wf = true) :
    ∃ ys : List Int, Rd w w.heap.size (some a) (ys.map fun n => Value.int k n) ∧ len = ys.length ∧ ys.length ≤ cap ∧ ∀ n ∈ ys, (Lit.int k n).wf = true := by
  refine ⟨zs.take len, ?_, by simp; omega, by simp; omega, fun n hn => hw n (List.mem_of_mem_take hn)⟩
  intro j hj
  have hj' : j < len ∧ j < zs.length := by simp at hj; omega
  have hc := hcell j hj'.2
  refine ⟨a, rfl, ?_, ?_⟩
  · have := cell_lt hc
    rwa [add_block] at this
  · rw [hc]
    simp [hj'.2]
/-! memory that the call owns -/
structure Ent where
  t : TypeId
  sz : Nat
  A : Option Addr
  n : Nat
  c : Nat
  cs : List Value
def Ent.Ok (w : World) (B : Nat) (e : Ent) : Prop := w.ownsRow B e.t e.sz (.slice e.A e.n e.c) e.n e.cs
def blk (A : Option Addr) : Option Nat := A.map (·.block)
theorem ownBlock_slice (A : Option Addr) (n c : Nat) : Value.ownBlock (.slice A n c) = blk A := by cases A <;> rfl
def Apart (A A' : Option Addr) : Prop := ∀ b, blk A = some b → blk A' ≠ some b
theorem Apart.symm {A A' : Option Addr} (h : Apart A A') : Apart A' A := fun b h1 h2 => h b h2 h1
structure Mem (w0 : World) (B : Nat) (L : List Ent) (w : World) : Prop where
  below : Below B w0 w
  base : B ≤ w0.heap.size
  ok : ∀ e ∈ L, e.Ok w B
  apart : L.Pairwise fun e e' => Apart e.A e'.A
section
variable {w0 w w' : World} {B : Nat} {L L' : List Ent} {e : Ent} {i j : Nat}
theorem Mem.init (w : World) : Mem w w.heap.size [] w := ⟨Below.refl _ _, Nat.le_refl _, fun e h => (by cases h), .nil⟩
theorem Mem.size (h : Mem w0 B L w) : B ≤ w.heap.size := Nat.le_trans h.base h.below.size
theorem Mem.rd {A : Option Addr} {cs : List Value} (h : Mem w0 B L w) (hx : Rd w0 B A cs) : Rd w w.heap.size A cs := (hx.below h.below).mono h.size
theorem Mem.drew (h : Mem w0 B L w) : Mem w0 B L w.drew := ⟨h.below.drew, h.base, fun e he => h.ok e he, h.apart⟩
theorem Mem.drawn (h : Mem w0 B L w) : Mem w0 B L { w with drawn := w.drawn + 1 } := h.drew
theorem Ent.Ok.atN (h : e.Ok w B) (hn : 0 < e.n) : ∃ g cur, e.A = some ⟨g, 0, none⟩ ∧ B ≤ g ∧ w.heap[g]? = some (.cells cur e.t (0, 0)) ∧ e.n ≤ e.c ∧ e.c ≤ maxLen ∧ cur.size = e.c * e.sz ∧ cur.toList.take (e.n * e.sz) = e.cs := by
  rcases h.2 with ⟨_, h0⟩ | ⟨g, cap, cur, hv, hb, hg, h1, h2, h3, h4⟩
  · omega
  · simp only [Value.slice.injEq] at hv
    obtain ⟨hA, _, hc⟩ := hv
    subst hc
    exact ⟨g, cur, hA, hb, hg, h1, h2, h3, h4⟩
theorem Ent.Ok.len (h : e.Ok w B) : e.cs.length = e.n * e.sz := h.1
theorem Ent.Ok.pos (h : e.Ok w B) (hl : j < e.cs.length) : 0 < e.n := by
  have := h.len
  rcases Nat.eq_zero_or_pos e.n with h0 | h0
  · rw [h0] at this; omega
  · exact h0
theorem Ent.Ok.rd (h : e.Ok w B) : Rd w w.heap.size e.A e.cs := fun k hk => by
  obtain ⟨g, cur, hA, hb, hg, _, _, hs, ht⟩ := h.atN (h.pos hk)
  have hlt : g < w.heap.size := (Array.getElem?_eq_some_iff.1 hg).1
  refine ⟨⟨g, 0, none⟩, hA, hlt, ?_⟩
  rw [add0]
  simp only [World.cell?, hg]
  have key : ∀ v, e.cs[k]? = some v → cur[k]? = some v := by
    intro v hv
    rw [← ht, List.getElem?_take] at hv
    split at hv
    · simpa using hv
    · cases hv
  simpa using key _ (List.getElem?_eq_getElem hk)
theorem Ent.Ok.blkLt (h : e.Ok w B) {b : Nat} (hb : blk e.A = some b) : B ≤ b ∧ b < w.heap.size := by
  have := World.ownsRow.lt h b (by rw [ownBlock_slice]; exact hb)
  exact this
theorem Ent.Ok.move {B' : Nat} (h : e.Ok w B) (hk : ∀ b, blk e.A = Option.some b → w'.heap[b]? = w.heap[b]?) (hb : ∀ b, blk e.A = Option.some b → B' ≤ b) : e.Ok w' B' := by
  refine ⟨h.1, ?_⟩
  rcases h.2 with hn | ⟨g, cap, cur, hv, hb', hg, r⟩
  · exact Or.inl hn
  · have hA : blk e.A = Option.some g := by
      simp only [Value.slice.injEq] at hv
      rw [hv.1]; rfl
    exact Or.inr ⟨g, cap, cur, hv, hb g hA, by rw [hk g hA]; exact hg, r⟩
theorem Mem.own (h : Mem w0 B L w) (he : e ∈ L) : Rd w w.heap.size e.A e.cs := (h.ok e he).rd
theorem Mem.at (h : Mem w0 B L w) (hL : L[i]? = some e) : Rd w w.heap.size e.A e.cs := h.own (List.mem_of_getElem? hL)
theorem Mem.atE {t : TypeId} {sz n c : Nat} {A : Option Addr} {cs : List Value} (i : Nat) (h : Mem w0 B L w) (hL : L[i]? = some ⟨t, sz, A, n, c, cs⟩) : Rd w w.heap.size A cs := h.at hL
theorem Mem.capE {t : TypeId} {sz n c : Nat} {A : Option Addr} {cs : List Value} (i : Nat) (h : Mem w0 B L w) (hL : L[i]? = some ⟨t, sz, A, n, c, cs⟩) : n ≤ c := by
  rcases (h.ok _ (List.mem_of_getElem? hL)).2 with ⟨_, h0⟩ | ⟨g, cap, cur, hv, _, _, hnc, _⟩
  · simp only at h0; omega
  · simp only [Value.slice.injEq] at hv hnc; omega
theorem Mem.sub (h : Mem w0 B L w) (hs : L'.Sublist L) : Mem w0 B L' w := ⟨h.below, h.base, fun e he => h.ok e (hs.subset he), h.apart.sublist hs⟩
theorem Mem.tail (h : Mem w0 B (e :: L) w) : Mem w0 B L w := h.sub (List.sublist_cons_self _ _)
theorem Mem.comp (h : Mem w0 B L w) (k : Mem w w.heap.size L' w') : Mem w0 B (L' ++ L) w' := by
  have hsz := h.size
  refine ⟨h.below.trans (k.below.mono hsz), h.base, fun e he => ?_, ?_⟩
  · rcases List.mem_append.1 he with he | he
    · exact (k.ok e he).move (fun _ _ => rfl) fun b hb => Nat.le_trans hsz ((k.ok e he).blkLt hb).1
    · exact (h.ok e he).move (fun b hb => k.below.block b ((h.ok e he).blkLt hb).2) fun b hb => ((h.ok e he).blkLt hb).1
  · refine List.pairwise_append.2 ⟨k.apart, h.apart, fun e he e' he' b hb hb' => ?_⟩
    have h1 := ((k.ok e he).blkLt hb).1
    have h2 := ((h.ok e' he').blkLt hb').2
    omega
theorem Mem.nilComp (h : Mem w0 B L w) (k : Mem w w.heap.size [] w') : Mem w0 B L w' := h.comp k
/-- a new block -/
theorem Mem.alloc (h : Mem w0 B L w) (t : TypeId) (sz : Nat) (cur : Array Value) (n c : Nat) (hn : n ≤ c) (hc : c ≤ maxLen) (hs : cur.size = c * sz) :
    Mem w0 B (⟨t, sz, some ⟨w.heap.size, 0, none⟩, n, c, cur.toList.take (n * sz)⟩ :: L) (w.alloc (.cells cur t)) := by
  have hsz := h.size
  have k : Mem w w.heap.size [⟨t, sz, some ⟨w.heap.size, 0, none⟩, n, c, cur.toList.take (n * sz)⟩] (w.alloc (.cells cur t)) := by
    refine ⟨(Below.refl _ _).alloc (Nat.le_refl _) _, Nat.le_refl _, fun e he => ?_, List.pairwise_singleton _ _⟩
    rw [List.mem_singleton] at he
    subst he
    refine ⟨?_, Or.inr ⟨w.heap.size, c, cur, rfl, Nat.le_refl _, heap_alloc_new w _, hn, hc, hs, rfl⟩⟩
    simp only [List.length_take, Array.length_toList, hs]
    exact Nat.min_eq_left (Nat.mul_le_mul_right _ hn)
  exact h.comp k
theorem pairwise_set {R : Ent → Ent → Prop} (hR : ∀ x y, R x y → R y x) {e' : Ent} : ∀ (L : List Ent) (i : Nat), L.Pairwise R → (∀ j y, j ≠ i → L[j]? = some y → R e' y) → (L.set i e').Pairwise R
  | [], _, h, _ => h
  | x :: L, 0, h, hx => by
    rw [List.set_cons_zero, List.pairwise_cons]
    rw [List.pairwise_cons] at h
    refine ⟨fun y hy => ?_, h.2⟩
    obtain ⟨j, hj, rfl⟩ := List.getElem_of_mem hy
    exact hx (j + 1) _ (by omega) (by simp)
  | x :: L, i + 1, h, hx => by
    rw [List.set_cons_succ, List.pairwise_cons]
    rw [List.pairwise_cons] at h
    refine ⟨fun y hy => ?_, pairwise_set hR L i h.2 fun j y hj hy => hx (j + 1) y (by omega) (by simpa using hy)⟩
    rcases List.mem_or_eq_of_mem_set hy with hy | rfl
    · exact h.1 y hy
    · exact hR _ _ (hx 0 x (by omega) (by simp))
theorem pairwise_at {R : Ent → Ent → Prop} (hR : ∀ x y, R x y → R y x) : ∀ (L : List Ent) (i j : Nat) (x y : Ent), L.Pairwise R → L[i]? = some x → L[j]? = some y → i ≠ j → R x y
  | [], _, _, _, _, _, h, _, _ => by simp at h
  | z :: L, 0, 0, _, _, _, _, _, h => absurd rfl h
  | z :: L, 0, j + 1, x, y, h, hx, hy, _ => by
    simp at hx hy; subst hx
    exact (List.pairwise_cons.1 h).1 y (List.mem_of_getElem? hy)
  | z :: L, i + 1, 0, x, y, h, hx, hy, _ => by
    simp at hx hy; subst hy
    exact hR _ _ ((List.pairwise_cons.1 h).1 x (List.mem_of_getElem? hx))
  | z :: L, i + 1, j + 1, x, y, h, hx, hy, hn => pairwise_at hR L i j x y (List.pairwise_cons.1 h).2 (by simpa using hx) (by simpa using hy) (by omega)
theorem Mem.apartAt (h : Mem w0 B L w) {x y : Ent} (hx : L[i]? = some x) (hy : L[j]? = some y) (hn : i ≠ j) : Apart x.A y.A := pairwise_at (fun _ _ h => h.symm) L i j x y h.apart hx hy hn
theorem set_same {α : Type} {L : List α} {i : Nat} {x : α} (h : L[i]? = some x) : L.set i x = L := by
  apply List.ext_getElem?
  intro j
  rw [List.getElem?_set]
  by_cases hij : i = j
  · subst hij; rw [if_pos rfl, h, if_pos (List.getElem?_eq_some_iff.1 h).1]
  · rw [if_neg hij]
/-- one entry is changed, its block alone (or a new block) -/
theorem Mem.change (h : Mem w0 B L w) (hL : L[i]? = some e) {e' : Ent} (hb : Below B w w') (hok : e'.Ok w' B) (hk : ∀ b, b < w.heap.size → blk e.A ≠ some b → w'.heap[b]? = w.heap[b]?)
    (hbl : ∀ b, blk e'.A = some b → blk e.A = some b ∨ w.heap.size ≤ b) : Mem w0 B (L.set i e') w' := by
  refine ⟨h.below.trans hb, h.base, fun x hx => ?_, pairwise_set (fun _ _ h => h.symm) L i h.apart fun j y hj hy b hb1 hb2 => ?_⟩
  · obtain ⟨j, hj⟩ := List.getElem?_of_mem hx
    rw [List.getElem?_set] at hj
    by_cases hij : i = j
    · subst hij
      rw [if_pos rfl] at hj
      split at hj
      · cases hj; exact hok
      · cases hj
    · rw [if_neg hij] at hj
      have hxo := h.ok x (List.mem_of_getElem? hj)
      exact hxo.move (fun b hb' => hk b (hxo.blkLt hb').2 fun hc => h.apartAt hL hj hij b hc hb') fun b hb' => (hxo.blkLt hb').1
  · have hyo := (h.ok y (List.mem_of_getElem? hy)).blkLt hb2
    rcases hbl b hb1 with h1 | h1
    · exact h.apartAt hL hy (fun hij => hj hij.symm) b h1 hb2
    · omega
/-- a store into an entry -/
theorem Mem.store (h : Mem w0 B L w) (hL : L[i]? = some e) {k : Nat} (hk : k < e.cs.length) (v : Value) : ∃ ad, e.A = some ad ∧ (∃ u, w.cell? (ad.add k) = some u) ∧ w.frozen? (ad.add k) = false ∧ Mem w0 B (L.set i { e with cs := e.cs.set k v }) (w.setCell (ad.add k) v) := by
  have he := h.ok e (List.mem_of_getElem? hL)
  obtain ⟨g, cur, hA, hb, hg, hnc, hcm, hs, ht⟩ := he.atN (he.pos hk)
  have hkl : k < e.n * e.sz := by have := he.len; omega
  have hkc : k < cur.size := by rw [hs]; exact Nat.lt_of_lt_of_le hkl (Nat.mul_le_mul_right _ hnc)
  refine ⟨⟨g, 0, none⟩, hA, ⟨cur[k], by rw [add0]; simp [World.cell?, hg, hkc]⟩, by rw [add0]; simp [World.frozen?, hg], ?_⟩
  rw [add0]
  have hh : (w.setCell ⟨g, k, none⟩ v).heap[g]? = some (.cells (cur.setIfInBounds k v) e.t (0, 0)) := by
    simp [World.setCell, Array.getElem?_modify, hg]
  refine h.change hL ((Below.refl _ _).setCell (p := ⟨g, k, none⟩) hb v) ?_ (fun b hlt hne => Below.heap_setCell w _ v b ?_) fun b hb' => Or.inl hb'
  · refine ⟨?_, Or.inr ⟨g, e.c, cur.setIfInBounds k v, by simp only [hA], hb, hh, hnc, hcm, by simpa using hs, ?_⟩⟩
    · simp only [List.length_set]; exact he.len
    · show (cur.setIfInBounds k v).toList.take (e.n * e.sz) = e.cs.set k v
      rw [Array.toList_setIfInBounds, List.take_set, ht]
  · intro hbg
    apply hne
    rw [hA]
    show some g = some b
    rw [hbg]
end

section
variable {P : Program} {w0 w : World} {B : Nat} {L : List Ent} {K : Value → World → Prop}
theorem arith {r : Int} {K : Value → Prop} (h : InR r) (hk : K (.int .i64 r)) : Arith r K := by
  refine ⟨?_⟩
  have : IntKind.i64.wrap r = r := by rw [IntKind.wrap_i64]; obtain ⟨h1, h2⟩ := h; omega
  rw [this]
  exact hk
theorem arithW {r : Int} {K : Value → Prop} (hk : K (.int .i64 (IntKind.i64.wrap r))) : Arith r K := ⟨hk⟩
theorem wrap_in {r : Int} (h : InR r) : IntKind.i64.wrap r = r := by rw [IntKind.wrap_i64]; obtain ⟨h1, h2⟩ := h; omega
theorem quoN {m n : Int} {K : Value → Prop} (h0 : 0 ≤ m) (h1 : 0 < n) (hb : m ≤ 9223372036854775807) (hk : K (.int .i64 (m / n))) : Arith (m.tdiv n) K := by
  rw [Int.tdiv_eq_ediv_of_nonneg h0]
  refine arith ⟨?_, ?_⟩ hk
  · have := Int.ediv_nonneg h0 (Int.le_of_lt h1); omega
  · have := Int.ediv_le_self n h0; omega
theorem remN {m n : Int} {K : Value → Prop} (h0 : 0 ≤ m) (hk : K (.int .i64 (m % n))) : RemW m n K := ⟨by rw [Int.tmod_eq_emod_of_nonneg h0]; exact hk⟩
theorem shrN {m : Int} {n : Nat} {K : Value → Prop} (hn : n ≤ 63) (hk : K (.int .i64 (m / 2 ^ n))) : ShrW m (n : Int) K := by
  refine ⟨?_⟩
  rw [Int.toNat_natCast, Nat.min_eq_left (by omega), Int.fdiv_eq_ediv_of_nonneg _ (Int.le_of_lt (Int.pow_pos (by decide)))]
  exact hk
theorem shrI {m n : Int} {K : Value → Prop} (h0 : 0 ≤ n) (hn : n ≤ 63) (hk : K (.int .i64 (m / 2 ^ n.toNat))) : ShrW m n K := by
  obtain ⟨k, rfl⟩ := Int.eq_ofNat_of_zero_le h0
  exact shrN (by omega) (by simpa using hk)
theorem shlN {n : Nat} {m : Int} {K : Value → Prop} (hn : n ≤ 62) (hr : InR (m * 2 ^ n)) (hk : K (.int .i64 (m * 2 ^ n))) : Arith (m * 2 ^ (min (n : Int).toNat 64)) K := by
  rw [Int.toNat_natCast, Nat.min_eq_left (by omega)]
  exact arith hr hk
theorem len {t e ty : TypeId} {A : Option Addr} {n c : Nat} [ht : SlTy P t e] (hk : K (.int .i64 (n : Int)) w) : RunV .len P (Builtin.len_ #[t] ty #[.slice A n c]) w K :=
  ⟨_, _, by simp [Builtin.len_, run_underlying ht.eq, goInt], hk⟩
theorem idx1 {t e : TypeId} {bytes : Nat} {z : Value} {k : IntKind} {A : Option Addr} {n c : Nat} {i : Int} [ht : SlTy P t e] [hi : ElTy P e 1 bytes z] (hA : A ≠ none) (h0 : 0 ≤ i) (h1 : i < n) (hk : K (.pointer (A.map (·.add i.toNat))) w) :
    RunV .idx P (Instr.indexAt t (.slice A n c) (.int k i)) w K := by
  obtain ⟨ti, h2, h3, h4, h5⟩ := hi.eq
  obtain ⟨ad, rfl⟩ := Option.ne_none_iff_exists'.1 hA
  refine ⟨_, _, ?_, hk⟩
  simp [Instr.indexAt, run_underlying ht.eq, asIntOf, sizeOf, typeInfo, h2, h4, h0, h1]
theorem idxN {t e : TypeId} {size bytes : Nat} {z : Value} {k : IntKind} {A : Option Addr} {n c : Nat} {i : Int} [ht : SlTy P t e] [hi : ElTy P e size bytes z] (hA : A ≠ none) (h0 : 0 ≤ i) (h1 : i < n) (hk : K (.pointer (A.map (·.add (i.toNat * size)))) w) :
    RunV .idx P (Instr.indexAt t (.slice A n c) (.int k i)) w K := by
  obtain ⟨ti, h2, h3, h4, h5⟩ := hi.eq
  obtain ⟨ad, rfl⟩ := Option.ne_none_iff_exists'.1 hA
  refine ⟨_, _, ?_, hk⟩
  simp [Instr.indexAt, run_underlying ht.eq, asIntOf, sizeOf, typeInfo, h2, h4, h0, h1]
theorem run_load (P : Program) {w : World} {p : Addr} {v : Value} (hc : w.cell? p = some v) : (load p).run P w = .ok v w := by simp [load, Sem.run, hc]
theorem run_store1 (P : Program) {w : World} {p : Addr} {u v : Value} (hv : oneCell v = true) (hc : w.cell? p = some u) (hf : w.frozen? p = false) : (store p v).run P w = .ok () (w.setCell p v) := by
  cases v <;> simp [oneCell] at hv <;> simp [store, Sem.run, hc, hf]
theorem load1 {t : TypeId} {p : Addr} {v : Value} [ht : One P t] (hc : w.cell? p = some v) (hk : K v w) : RunV .load P (Instr.loadAt t (.pointer (some p))) w K := by
  obtain ⟨d, h1, h2⟩ := ht.eq
  refine ⟨_, _, ?_, hk⟩
  cases d <;> simp [isOne] at h2 <;> simp [Instr.loadAt, Instr.sureAddr, loadVar, isAgg, run_underlying h1, hc]
theorem store1 {t : TypeId} {bytes : Nat} {z : Value} {p : Addr} {u v : Value} {K : World → Prop} [ht : ElTy P t 1 bytes z] (hv : oneCell v = true) (hc : w.cell? p = some u) (hf : w.frozen? p = false) (hk : K (w.setCell p v)) :
    RunU .store P (Instr.storeAt t (.pointer (some p)) v) w K := by
  obtain ⟨ti, h2, h3, h4, h5⟩ := ht.eq
  refine ⟨_, ?_, hk⟩
  have hvc : v.cells = #[v] := by cases v <;> simp [oneCell] at hv <;> rfl
  simp [Instr.storeAt, Instr.sureAddr, storeVar, hvc, sizeOf, typeInfo, h2, h4, storeCells, run_store1 P hv hc hf, Addr.add]

/-! reading an argument -/
theorem idxR {t e : TypeId} {bytes : Nat} {z : Value} {k : IntKind} {A : Option Addr} {n c : Nat} {i : Int} {cs : List Value} [SlTy P t e] [ElTy P e 1 bytes z] (hx : Rd w0 B A cs) (h0 : 0 ≤ i) (h1 : i < n) (hn : n ≤ cs.length) (hk : K (.pointer (A.map (·.add i.toNat))) w) :
    RunV .idx P (Instr.indexAt t (.slice A n c) (.int k i)) w K := idx1 (hx.ne (by omega)) h0 h1 hk
theorem ldR {t : TypeId} {A : Option Addr} {j : Nat} {cs : List Value} [One P t] (hx : Rd w0 B A cs) (hm : Mem w0 B L w) (hj : j < cs.length) (hk : K cs[j] w) : RunV .load P (Instr.loadAt t (.pointer (A.map (·.add j)))) w K := by
  obtain ⟨ad, rfl, hc⟩ := (hx.below hm.below).cell hj
  exact load1 hc hk
theorem ldI {t : TypeId} {A : Option Addr} {j : Nat} {xs : List Int} [One P t] (hx : Rd w0 B A (xs.map I64)) (hm : Mem w0 B L w) (hj : j < xs.length) (hk : K (I64 (xs.getD j 0)) w) : RunV .load P (Instr.loadAt t (.pointer (A.map (·.add j)))) w K :=
  ldR hx hm (by simpa using hj) (by simpa [hj] using hk)
theorem ldB {t : TypeId} {A : Option Addr} {j : Nat} {xs : List Bool} [One P t] (hx : Rd w0 B A (xs.map BV)) (hm : Mem w0 B L w) (hj : j < xs.length) (hk : K (BV (xs.getD j false)) w) : RunV .load P (Instr.loadAt t (.pointer (A.map (·.add j)))) w K :=
  ldR hx hm (by simpa using hj) (by simpa [hj] using hk)
theorem idxM {α : Type} {f : α → Value} {t e : TypeId} {bytes : Nat} {z : Value} {k : IntKind} {A : Option Addr} {n c : Nat} {i : Int} {xs : List α} [SlTy P t e] [ElTy P e 1 bytes z] (hx : Rd w0 B A (xs.map f)) (h0 : 0 ≤ i) (h1 : i < n) (hn : n ≤ xs.length) (hk : K (.pointer (A.map (·.add i.toNat))) w) :
    RunV .idx P (Instr.indexAt t (.slice A n c) (.int k i)) w K := idxR hx h0 h1 (by simpa using hn) hk
theorem idxMn {α : Type} {f : α → Value} {t e : TypeId} {bytes : Nat} {z : Value} {k : IntKind} {A : Option Addr} {n c j : Nat} {xs : List α} [SlTy P t e] [ElTy P e 1 bytes z] (hx : Rd w0 B A (xs.map f)) (h1 : j < n) (hn : n ≤ xs.length) (hk : K (.pointer (A.map (·.add j))) w) :
    RunV .idx P (Instr.indexAt t (.slice A n c) (.int k (j : Int))) w K := idxR hx (Int.natCast_nonneg j) (by omega) (by simpa using hn) hk
/-! the call's own rows -/
theorem Mem.ne {e : Ent} {i : Nat} (hm : Mem w0 B L w) (hL : L[i]? = some e) (hn : 0 < e.n) : e.A ≠ none := by
  obtain ⟨g, cur, hA, _⟩ := (hm.ok e (List.mem_of_getElem? hL)).atN hn
  rw [hA]; simp
theorem idxO {t e t' : TypeId} {bytes : Nat} {z : Value} {k : IntKind} {A : Option Addr} {n c : Nat} {i : Int} {cs : List Value} [SlTy P t e] [ElTy P e 1 bytes z] (q : Nat) (hm : Mem w0 B L w) (hL : L[q]? = some ⟨t', 1, A, n, c, cs⟩) (h0 : 0 ≤ i) (h1 : i < n) (hk : K (.pointer (A.map (·.add i.toNat))) w) :
    RunV .idx P (Instr.indexAt t (.slice A n c) (.int k i)) w K := idx1 (hm.ne hL (by show 0 < n; omega)) h0 h1 hk
theorem idxOn {t e t' : TypeId} {bytes : Nat} {z : Value} {k : IntKind} {A : Option Addr} {n c j : Nat} {cs : List Value} [SlTy P t e] [ElTy P e 1 bytes z] (q : Nat) (hm : Mem w0 B L w) (hL : L[q]? = some ⟨t', 1, A, n, c, cs⟩) (h1 : j < n) (hk : K (.pointer (A.map (·.add j))) w) :
    RunV .idx P (Instr.indexAt t (.slice A n c) (.int k (j : Int))) w K := idxO q hm hL (Int.natCast_nonneg j) (by omega) hk
theorem ldO {t t' : TypeId} {sz n c : Nat} {A : Option Addr} {j : Nat} {cs : List Value} [One P t] (q : Nat) (hm : Mem w0 B L w) (hL : L[q]? = some ⟨t', sz, A, n, c, cs⟩) (hj : j < cs.length) (hk : K cs[j] w) : RunV .load P (Instr.loadAt t (.pointer (A.map (·.add j)))) w K := by
  obtain ⟨ad, h1, hc⟩ := (hm.at hL).cell hj
  simp only at h1
  subst h1
  exact load1 hc hk
theorem ldIO {t t' : TypeId} {sz n c : Nat} {A : Option Addr} {j : Nat} {xs : List Int} [One P t] (q : Nat) (hm : Mem w0 B L w) (hL : L[q]? = some ⟨t', sz, A, n, c, xs.map I64⟩) (hj : j < xs.length) (hk : K (I64 (xs.getD j 0)) w) : RunV .load P (Instr.loadAt t (.pointer (A.map (·.add j)))) w K :=
  ldO q hm hL (by simpa using hj) (by simpa [hj] using hk)
theorem ldBO {t t' : TypeId} {sz n c : Nat} {A : Option Addr} {j : Nat} {xs : List Bool} [One P t] (q : Nat) (hm : Mem w0 B L w) (hL : L[q]? = some ⟨t', sz, A, n, c, xs.map BV⟩) (hj : j < xs.length) (hk : K (BV (xs.getD j false)) w) : RunV .load P (Instr.loadAt t (.pointer (A.map (·.add j)))) w K :=
  ldO q hm hL (by simpa using hj) (by simpa [hj] using hk)
theorem stO {t t' : TypeId} {bytes sz n c : Nat} {z v : Value} {A : Option Addr} {j : Nat} {cs : List Value} {K : World → Prop} [ElTy P t 1 bytes z] (q : Nat) (hm : Mem w0 B L w) (hL : L[q]? = some ⟨t', sz, A, n, c, cs⟩) (hv : oneCell v = true) (hj : j < cs.length)
    (hk : ∀ w', Mem w0 B (L.set q ⟨t', sz, A, n, c, cs.set j v⟩) w' → K w') : RunU .store P (Instr.storeAt t (.pointer (A.map (·.add j))) v) w K := by
  obtain ⟨ad, h1, ⟨u, hu⟩, hf, hm'⟩ := hm.store hL hj v
  simp only at h1
  subst h1
  exact store1 hv hu hf (hk _ hm')
theorem stI {t t' : TypeId} {bytes sz n c : Nat} {z : Value} {x : Int} {A : Option Addr} {j : Nat} {xs : List Int} {K : World → Prop} [ElTy P t 1 bytes z] (q : Nat) (hm : Mem w0 B L w) (hL : L[q]? = some ⟨t', sz, A, n, c, xs.map I64⟩) (hj : j < xs.length)
    (hk : ∀ w', Mem w0 B (L.set q ⟨t', sz, A, n, c, (xs.set j x).map I64⟩) w' → K w') : RunU .store P (Instr.storeAt t (.pointer (A.map (·.add j))) (I64 x)) w K :=
  stO q hm hL rfl (by simpa using hj) (by rw [List.map_set] at hk; exact hk)
theorem stB {t t' : TypeId} {bytes sz n c : Nat} {z : Value} {x : Bool} {A : Option Addr} {j : Nat} {xs : List Bool} {K : World → Prop} [ElTy P t 1 bytes z] (q : Nat) (hm : Mem w0 B L w) (hL : L[q]? = some ⟨t', sz, A, n, c, xs.map BV⟩) (hj : j < xs.length)
    (hk : ∀ w', Mem w0 B (L.set q ⟨t', sz, A, n, c, (xs.set j x).map BV⟩) w' → K w') : RunU .store P (Instr.storeAt t (.pointer (A.map (·.add j))) (BV x)) w K :=
  stO q hm hL rfl (by simpa using hj) (by rw [List.map_set] at hk; exact hk)

/-! new rows -/
theorem mk {t e : TypeId} {bytes : Nat} {z : Value} {kl kc : IntKind} {m mc : Int} (n c : Nat) [ht : SlTy P t e] [hi : ElTy P e 1 bytes z] (hm : Mem w0 B L w) (hz : oneCell z = true) (hn : m = (n : Int)) (hcc : mc = (c : Int)) (hnc : n ≤ c) (hc : bytes * c ≤ 281474976710656 ∧ c ≤ 4398046511104)
    (hk : ∀ A w', Mem w0 B (⟨e, 1, A, n, c, List.replicate n z⟩ :: L) w' → K (.slice A n c) w') : RunV .make P (Instr.makeSlice t (.int kl m) (.int kc mc)) w K := by
  subst hn
  subst hcc
  obtain ⟨ti, h2, h3, h4, h5⟩ := hi.eq
  have hb' : (ti.bytes : Int) * (c : Int) ≤ 281474976710656 := by rw [h5]; have : ((bytes * c : Nat) : Int) ≤ 281474976710656 := by omega
                                                                  rwa [Int.natCast_mul] at this
  have hr := run_make (P := P) w t e ti z ht.eq h2 h3 kl kc n c (by omega) (by omega) hb' (by omega)
  simp only [Int.toNat_natCast, h4, Nat.mul_one] at hr
  have hmc : madeCells z.cells c = (List.replicate c z).toArray := by
    have hzc : z.cells = #[z] := by cases z <;> simp [oneCell] at hz <;> rfl
    rw [hzc, ← toList_madeCells_one, Array.toArray_toList]
  rw [hmc] at hr
  have := hm.alloc e 1 (List.replicate c z).toArray n c hnc (by unfold maxLen; omega) (by simp)
  refine ⟨_, _, hr, hk _ _ ?_⟩
  simpa [List.take_replicate, Nat.min_eq_left hnc] using this
theorem mkI {t e : TypeId} {bytes : Nat} {kl kc : IntKind} {m mc : Int} (n c : Nat) [SlTy P t e] [ElTy P e 1 bytes (I64 0)] (hm : Mem w0 B L w) (hn : m = (n : Int)) (hcc : mc = (c : Int)) (hnc : n ≤ c) (hc : bytes * c ≤ 281474976710656 ∧ c ≤ 4398046511104)
    (hk : ∀ A w', Mem w0 B (⟨e, 1, A, n, c, (List.replicate n (0 : Int)).map I64⟩ :: L) w' → K (.slice A n c) w') : RunV .make P (Instr.makeSlice t (.int kl m) (.int kc mc)) w K :=
  mk n c hm rfl hn hcc hnc hc (by rw [List.map_replicate] at hk; exact hk)
theorem mkB {t e : TypeId} {bytes : Nat} {kl kc : IntKind} {m mc : Int} (n c : Nat) [SlTy P t e] [ElTy P e 1 bytes (BV false)] (hm : Mem w0 B L w) (hn : m = (n : Int)) (hcc : mc = (c : Int)) (hnc : n ≤ c) (hc : bytes * c ≤ 281474976710656 ∧ c ≤ 4398046511104)
    (hk : ∀ A w', Mem w0 B (⟨e, 1, A, n, c, (List.replicate n false).map BV⟩ :: L) w' → K (.slice A n c) w') : RunV .make P (Instr.makeSlice t (.int kl m) (.int kc mc)) w K :=
  mk n c hm rfl hn hcc hnc hc (by rw [List.map_replicate] at hk; exact hk)
theorem bs0 {t e : TypeId} {size bytes : Nat} {z : Value} [ht : SlTy P t e] [hi : ElTy P e size bytes z] (hm : Mem w0 B L w) (hk : ∀ A w', Mem w0 B (⟨e, size, A, 0, 0, []⟩ :: L) w' → K (.slice A 0 0) w') :
    RunV .bslice P (Instr.buildSlice t 0 #[]) w K := by
  obtain ⟨ti, h2, h3, h4, h5⟩ := hi.eq
  have := hm.alloc e size #[] 0 0 (Nat.le_refl _) (Nat.zero_le _) (by simp)
  refine ⟨_, _, ?_, hk _ _ (by simpa using this)⟩
  simp [Instr.buildSlice, run_underlying ht.eq, sizeOf, typeInfo, h2, Instr.fill, newRow, newObj]
  rw [show Array.range 0 = #[] by decide, show ∀ f : Nat → Value, Array.map f #[] = #[] from fun f => by simp]
  rfl
theorem bs1 {t e : TypeId} {bytes : Nat} {z v : Value} [ht : SlTy P t e] [hi : ElTy P e 1 bytes z] (hm : Mem w0 B L w) (hz : oneCell z = true) (hv : oneCell v = true) (hk : ∀ A w', Mem w0 B (⟨e, 1, A, 1, 1, [v]⟩ :: L) w' → K (.slice A 1 1) w') :
    RunV .bslice P (Instr.buildSlice t 1 #[(0, v)]) w K := by
  obtain ⟨ti, h2, h3, h4, h5⟩ := hi.eq
  have hvc : v.cells = #[v] := by cases v <;> simp [oneCell] at hv <;> rfl
  have hzc : z.cells = #[z] := by cases z <;> simp [oneCell] at hz <;> rfl
  have := hm.alloc e 1 #[v] 1 1 (Nat.le_refl _) (by decide) (by simp)
  refine ⟨_, _, ?_, hk _ _ (by simpa using this)⟩
  simp [Instr.buildSlice, run_underlying ht.eq, sizeOf, typeInfo, zeroValue, h2, h3, h4, Instr.fill, newRow, newObj, hvc, hzc]
  rw [show Array.range 1 = #[0] by decide, show ∀ f : Nat → Value, (Array.map f #[0]).setIfInBounds 0 v = #[v] from fun f => by simp]
  rfl
/-! parts of a slice -/
theorem slTo {t e : TypeId} {size bytes : Nat} {z : Value} {k : IntKind} {A : Option Addr} {n c : Nat} {h : Int} [ht : SlTy P t e] [hi : ElTy P e size bytes z] (h0 : 0 ≤ h) (h1 : h ≤ c) (hk : K (.slice A h.toNat c) w) :
    RunV .slice P (Instr.sliceAt t (.slice A n c) none (some (.int k h)) none) w K := by
  obtain ⟨ti, h2, h3, h4, h5⟩ := hi.eq
  refine ⟨_, _, ?_, hk⟩
  have hA : Option.map (fun x : Addr => x.add 0) A = A := by cases A <;> simp [Addr.add]
  simp [Instr.sliceAt, Instr.slice, Instr.sliceBounds, Instr.sliceBound, run_underlying ht.eq, asIntOf, sizeOf, typeInfo, h2, h0, h1, hA]
theorem slFrom {t e : TypeId} {size bytes : Nat} {z : Value} {k : IntKind} {A : Option Addr} {n c : Nat} {l : Int} [ht : SlTy P t e] [hi : ElTy P e size bytes z] (h0 : 0 ≤ l) (h1 : l ≤ n)
    (hk : K (.slice (if c = l.toNat then A else A.map (·.add (l.toNat * size))) (n - l.toNat) (c - l.toNat)) w) :
    RunV .slice P (Instr.sliceAt t (.slice A n c) (some (.int k l)) none none) w K := by
  obtain ⟨ti, h2, h3, h4, h5⟩ := hi.eq
  refine ⟨_, _, ?_, hk⟩
  simp [Instr.sliceAt, Instr.slice, Instr.sliceBounds, Instr.sliceBound, run_underlying ht.eq, asIntOf, sizeOf, typeInfo, h2, h0, h1, h4]
class BoolTy (P : Program) (t : TypeId) : Prop where
  eq : P.underlying t = some .bool
theorem eqB {t : TypeId} {x y : Operand} {a b : Bool} [ht : BoolTy P t] (hk : K (.bool (a == b)) w) : RunV .bin P (do eqGuard .eql t x y (.bool a) (.bool b); binOp .eql t (.bool a) (.bool b)) w K := by
  refine ⟨_, _, ?_, hk⟩
  have hq : (Op.equal t (.bool a) (.bool b)).run P w = .ok (a == b) w := run_equalIn_bool w 9999 t a b ht.eq
  simp [eqGuard, binOp, hq]
theorem neB {t : TypeId} {x y : Operand} {a b : Bool} [ht : BoolTy P t] (hk : K (.bool (!(a == b))) w) : RunV .bin P (do eqGuard .neq t x y (.bool a) (.bool b); binOp .neq t (.bool a) (.bool b)) w K := by
  refine ⟨_, _, ?_, hk⟩
  have hq : (Op.equal t (.bool a) (.bool b)).run P w = .ok (a == b) w := run_equalIn_bool w 9999 t a b ht.eq
  simp [eqGuard, binOp, hq]
/-! calls -/
def Ret (P : Program) (f : FuncId) (args : Array Value) (w : World) (v : Value) : Prop := Calls P f args w fun e w' => e = .returned v ∧ Mem w w.heap.size [] w'
def RetS (P : Program) (f : FuncId) (args : Array Value) (w : World) (t : TypeId) (sz n : Nat) (cs : List Value) : Prop := Calls P f args w fun e w' => ∃ A c, e = .returned (.slice A n c) ∧ Mem w w.heap.size [⟨t, sz, A, n, c, cs⟩] w'
def RetSB (P : Program) (f : FuncId) (args : Array Value) (w : World) (t : TypeId) (sz n : Nat) (cs : List Value) (b : Bool) : Prop := Calls P f args w fun e w' => ∃ A c, e = .returned (.tuple #[.slice A n c, .bool b]) ∧ Mem w w.heap.size [⟨t, sz, A, n, c, cs⟩] w'
theorem call {f : FuncId} {args : Array Value} {v : Value} (hm : Mem w0 B L w) (hc : Callable P f) (h : Ret P f args w v) (hk : ∀ w', Mem w0 B L w' → K v w') : CallW P f args w K :=
  ⟨hc, h.mono fun _ w' ⟨he, hr⟩ => ⟨v, he, hk w' (hm.comp hr)⟩⟩
theorem callM {f : FuncId} {args : Array Value} {v : Value} {L' : List Ent} (hc : Callable P f) (h : Calls P f args w fun e w' => e = .returned v ∧ Mem w0 B L' w') (hk : ∀ w', Mem w0 B L' w' → K v w') : CallW P f args w K :=
  ⟨hc, h.mono fun _ w' ⟨he, hr⟩ => ⟨v, he, hk w' hr⟩⟩
theorem callS {f : FuncId} {args : Array Value} {t : TypeId} {sz n : Nat} {cs : List Value} (hm : Mem w0 B L w) (hc : Callable P f) (h : RetS P f args w t sz n cs) (hk : ∀ A c w', Mem w0 B (⟨t, sz, A, n, c, cs⟩ :: L) w' → K (.slice A n c) w') : CallW P f args w K :=
  ⟨hc, h.mono fun _ w' ⟨A, c, he, hr⟩ => ⟨_, he, hk A c w' (hm.comp hr)⟩⟩
theorem callSB {f : FuncId} {args : Array Value} {t : TypeId} {sz n : Nat} {cs : List Value} {b : Bool} (hm : Mem w0 B L w) (hc : Callable P f) (h : RetSB P f args w t sz n cs b) (hk : ∀ A c w', Mem w0 B (⟨t, sz, A, n, c, cs⟩ :: L) w' → K (.tuple #[.slice A n c, .bool b]) w') : CallW P f args w K :=
  ⟨hc, h.mono fun _ w' ⟨A, c, he, hr⟩ => ⟨_, he, hk A c w' (hm.comp hr)⟩⟩
theorem slFrom1 {t e : TypeId} {bytes : Nat} {z : Value} {k : IntKind} {A : Option Addr} {n c : Nat} {l : Int} [ht : SlTy P t e] [hi : ElTy P e 1 bytes z] (j : Nat) (hl : l = (j : Int)) (hj : j ≤ n) (hk : K (.slice (if c = j then A else A.map (·.add j)) (n - j) (c - j)) w) :
    RunV .slice P (Instr.sliceAt t (.slice A n c) (some (.int k l)) none none) w K := by
  subst hl
  exact slFrom (by omega) (by omega) (by simpa using hk)
theorem Rd.dropM {α : Type} {f : α → Value} {w : World} {B : Nat} {A : Option Addr} {xs : List α} (h : Rd w B A (xs.map f)) (k c : Nat) (hc : xs.length ≤ c) : Rd w B (if c = k then A else A.map (·.add k)) ((xs.drop k).map f) := by
  rw [List.map_drop]; exact h.drop k c (by simpa using hc)
theorem Rd.takeM {α : Type} {f : α → Value} {w : World} {B : Nat} {A : Option Addr} {xs : List α} (h : Rd w B A (xs.map f)) (k : Nat) : Rd w B A ((xs.take k).map f) := by
  rw [List.map_take]; exact h.take k
/-! append to a row of the call's own -/
theorem run_app_none {w : World} {e t ty : TypeId} {ti : TypeInfo} {size : Nat} {A : Option Addr} {n c c2 : Nat} {cs : List Value} (ht : P.underlying t = some (.slice e)) (hi : P.info? e = some ti) (hown : w.ownsRow B e size (.slice A n c) n cs) :
    (Builtin.append_ #[t, t] ty #[.slice A n c, .slice none 0 c2]).run P w = .ok (.slice A n c) w := by
  rcases hown.2 with ⟨h, rfl⟩ | ⟨g, cap, cur, h, _, _, hnc, _⟩
  · simp only [Value.slice.injEq] at h
    obtain ⟨rfl, _, rfl⟩ := h
    simp [Builtin.append_, run_underlying ht, sizeOf, typeInfo, hi, Builtin.lenOf, Builtin.firstCells]
  · simp only [Value.slice.injEq] at h
    obtain ⟨rfl, _, rfl⟩ := h
    simp [Builtin.append_, run_underlying ht, sizeOf, typeInfo, hi, Builtin.lenOf, Builtin.firstCells, hnc, storeCells]
theorem app_blk {w w' : World} {e t ty : TypeId} {ti : TypeInfo} {z : Value} {A : Option Addr} {n c m c2 : Nat} {cs cs2 : List Value} {ad : Addr} {v' : Value} (ht : P.underlying t = some (.slice e)) (hi : P.info? e = some ti) (hz : ti.zero = some z) (hown : w.ownsRow B e ti.size (.slice A n c) n cs)
    (hl : cs2.length = m * ti.size) (hnews : ∀ j u, cs2[j]? = some u → w.cell? (ad.add j) = some u) (h1 : ∀ u ∈ cs2, u.oneCell' = true) (hb : n + m ≤ maxLen) (hby : (n + m) * ti.bytes ≤ 140737488355328)
    (hr : (Builtin.append_ #[t, t] ty #[.slice A n c, .slice (some ad) m c2]).run P w = .ok v' w') {b : Nat} (hv : v'.ownBlock = some b) : blk A = some b ∨ w.heap.size ≤ b := by
  have hsmall : n + m ≤ 9223372036854775807 := by simp only [maxLen] at hb; omega
  rcases hown.2 with ⟨h, rfl⟩ | ⟨g, cap, cur, h, hbg, hg, hnc, hcm, hcs, htake⟩
  · simp only [Value.slice.injEq] at h
    obtain ⟨rfl, _, rfl⟩ := h
    by_cases hm : m = 0
    · subst hm
      have hn : cs2 = [] := List.eq_nil_of_length_eq_zero (by simpa using hl)
      subst hn
      have : (Builtin.append_ #[t, t] ty #[.slice none 0 0, .slice (some ad) 0 c2]).run P w = .ok (.slice none 0 0) w := by
        simp [Builtin.append_, run_underlying ht, sizeOf, typeInfo, hi, Builtin.lenOf, Builtin.firstCells, loadCells, loadCellsFrom]
      rw [this] at hr
      cases hr
      simp [Value.ownBlock] at hv
    · have := run_append_nil (P := P) w t ty e ti z ht hi hz ad m c2 cs2 hl hnews (by omega) (by omega) (by have hb := hby; simp only [Nat.zero_add] at hb; omega)
      rw [this] at hr
      cases hr
      simp [Value.ownBlock] at hv
      exact Or.inr (by omega)
  · simp only [Value.slice.injEq] at h
    obtain ⟨rfl, _, rfl⟩ := h
    by_cases hroom : n + m ≤ c
    · have hfit : n * ti.size + cs2.length ≤ cur.size := by rw [hl, hcs, ← Nat.add_mul]; exact Nat.mul_le_mul_right _ hroom
      have := run_append_room (P := P) w t ty e ti ht hi g n c cur hg ad m c2 cs2 hl hnews h1 hroom hfit
      rw [this] at hr
      cases hr
      exact Or.inl hv
    · have holds : ∀ j u, cs[j]? = some u → w.cell? ((⟨g, 0, none⟩ : Addr).add j) = some u := hown.cells (g := g) rfl
      have := run_append_grow (P := P) w t ty e ti z ht hi hz ⟨g, 0, none⟩ n c cs hown.1 holds ad m c2 cs2 hl hnews (by omega) (by omega) (growslice_fits (by omega) hby)
      rw [this] at hr
      cases hr
      simp [Value.ownBlock] at hv
      exact Or.inr (by omega)
theorem appO {t e ty : TypeId} {size bytes : Nat} {z : Value} {A A2 : Option Addr} {n c m c2 : Nat} {cs cs2 : List Value} [ht : SlTy P t e] [hi : ElTy P e size bytes z] (q : Nat) (hm : Mem w0 B L w) (hL : L[q]? = some ⟨e, size, A, n, c, cs⟩) (hz : z.cells.size = size ∧ 0 < size)
    (hx : Rd w w.heap.size A2 cs2) (hl : cs2.length = m * size) (h1 : ∀ u ∈ cs2, oneCell u = true) (hb : n + m ≤ 4398046511104 ∧ (n + m) * bytes ≤ 140737488355328)
    (hk : ∀ A' c' w', Mem w0 B (L.set q ⟨e, size, A', n + m, c', cs ++ cs2⟩) w' → K (.slice A' (n + m) c') w') : RunV .append P (Builtin.append_ #[t, t] ty #[.slice A n c, .slice A2 m c2]) w K := by
  obtain ⟨ti, i2, i3, i4, i5⟩ := hi.eq
  have hent := hm.ok _ (List.mem_of_getElem? hL)
  have hsz := hm.size
  cases A2 with
  | none =>
    have hm0 : cs2 = [] := by
      cases cs2 with
      | nil => rfl
      | cons x r => obtain ⟨ad, h, _⟩ := hx 0 (by simp); cases h
    subst hm0
    have hm1 : m = 0 := by
      rcases Nat.eq_zero_or_pos m with h | h
      · exact h
      · have := Nat.mul_pos h hz.2; simp at hl; omega
    subst hm1
    refine ⟨_, _, run_app_none ht.eq i2 hent, hk A c w ?_⟩
    have he : (⟨e, size, A, n + 0, c, cs ++ []⟩ : Ent) = ⟨e, size, A, n, c, cs⟩ := by simp
    rw [he, set_same hL]
    exact hm
  | some ad =>
    have hnews : ∀ j u, cs2[j]? = some u → w.cell? (ad.add j) = some u := fun j u hu => by
      obtain ⟨hj, rfl⟩ := List.getElem?_eq_some_iff.1 hu
      obtain ⟨ad', h, hc⟩ := hx.cell hj
      cases h
      exact hc
    have h1' : ∀ u ∈ cs2, u.oneCell' = true := fun u hu => by have := h1 u hu; cases u <;> simp [oneCell] at this <;> rfl
    have hml : n + m ≤ maxLen := by unfold maxLen; omega
    obtain ⟨v', w', k1, k2, k3, _⟩ := run_append_own (P := P) w B t ty e ti z size bytes ht.eq i2 i3 i4 i5 hz.1 hz.2 (.slice A n c) n cs hent ad m c2 cs2 hl hnews h1' hml hb.2 hsz
    have hv' : ∃ A' c', v' = .slice A' (n + m) c' := by
      rcases k2.2 with ⟨rfl, h0⟩ | ⟨g, cap, cur, rfl, _⟩
      · exact ⟨none, 0, by rw [h0]⟩
      · exact ⟨_, _, rfl⟩
    obtain ⟨A', c', rfl⟩ := hv'
    rw [ownBlock_slice] at k3
    refine ⟨_, _, k1, hk A' c' w' ?_⟩
    refine hm.change hL ((Below.refl _ _).grown k3 hsz fun b hb' => (hent.blkLt hb').1) k2 (fun b hlt hne => k3.block b hlt (fun h => hne h.symm)) fun b hb' => ?_
    subst i4
    subst i5
    exact app_blk ht.eq i2 i3 hent hl hnews h1' hml hb.2 k1 (by rw [ownBlock_slice]; exact hb')
/-- 'append(out, x)' -/
theorem app1 {α : Type} {f : α → Value} {x : α} {xs : List α} {t e ty : TypeId} {bytes : Nat} {z : Value} {A A2 : Option Addr} {c : Nat} [ht : SlTy P t e] [hi : ElTy P e 1 bytes z] (q : Nat) (hm : Mem w0 B (⟨e, 1, A2, 1, 1, [f x]⟩ :: L) w) (hL : L[q]? = some ⟨e, 1, A, xs.length, c, xs.map f⟩)
    (hz : z.cells.size = 1) (h1 : oneCell (f x) = true) (hb : xs.length ≤ 1099511627776 ∧ bytes ≤ 64)
    (hk : ∀ A' c' w', Mem w0 B (L.set q ⟨e, 1, A', (xs ++ [x]).length, c', (xs ++ [x]).map f⟩) w' → K (.slice A' (xs ++ [x]).length c') w') : RunV .append P (Builtin.append_ #[t, t] ty #[.slice A xs.length c, .slice A2 1 1]) w K := by
  refine appO (q + 1) hm (by simpa using hL) ⟨hz, by decide⟩ (hm.at (i := 0) rfl) rfl (by simpa using h1) ⟨by omega, ?_⟩ fun A' c' w' h => ?_
  · have := Nat.mul_le_mul (show xs.length + 1 ≤ 1099511627777 by omega) hb.2; omega
  · have h' := h.tail
    have e1 : (xs ++ [x]).length = xs.length + 1 := by simp
    have e2 : (xs ++ [x]).map f = xs.map f ++ [f x] := by simp
    have := hk A' c' w'
    rw [e1, e2] at this
    exact this h'
/-- 'append(out, ys...)' -/
theorem appS {α : Type} {f : α → Value} {xs ys : List α} {t e ty : TypeId} {bytes m : Nat} {z : Value} {A A2 : Option Addr} {c c2 : Nat} [ht : SlTy P t e] [hi : ElTy P e 1 bytes z] (q : Nat) (hm : Mem w0 B L w) (hL : L[q]? = some ⟨e, 1, A, xs.length, c, xs.map f⟩)
    (hx : Rd w w.heap.size A2 (ys.map f)) (hmm : m = ys.length) (hz : z.cells.size = 1) (h1 : ∀ x, oneCell (f x) = true) (hb : xs.length + ys.length ≤ 1099511627776 ∧ bytes ≤ 64)
    (hk : ∀ A' c' w', Mem w0 B (L.set q ⟨e, 1, A', (xs ++ ys).length, c', (xs ++ ys).map f⟩) w' → K (.slice A' (xs ++ ys).length c') w') : RunV .append P (Builtin.append_ #[t, t] ty #[.slice A xs.length c, .slice A2 m c2]) w K := by
  subst hmm
  refine appO q hm hL ⟨hz, by decide⟩ hx (by simp) (fun u hu => by obtain ⟨x, _, rfl⟩ := List.mem_map.1 hu; exact h1 x) ⟨by omega, ?_⟩ fun A' c' w' h => ?_
  · have := Nat.mul_le_mul (show xs.length + ys.length ≤ 1099511627776 by omega) hb.2; omega
  · have e1 : (xs ++ ys).length = xs.length + ys.length := by simp
    have := hk A' c' w'
    rw [e1, List.map_append] at this
    exact this h
theorem bs0I {t e : TypeId} {bytes : Nat} [SlTy P t e] [ElTy P e 1 bytes (I64 0)] (hm : Mem w0 B L w) (hk : ∀ A w', Mem w0 B (⟨e, 1, A, ([] : List Int).length, 0, ([] : List Int).map I64⟩ :: L) w' → K (.slice A ([] : List Int).length 0) w') :
    RunV .bslice P (Instr.buildSlice t 0 #[]) w K := bs0 hm hk
theorem bs1I {t e : TypeId} {bytes : Nat} {x : Int} [SlTy P t e] [ElTy P e 1 bytes (I64 0)] (hm : Mem w0 B L w) (hk : ∀ A w', Mem w0 B (⟨e, 1, A, 1, 1, [I64 x]⟩ :: L) w' → K (.slice A 1 1) w') :
    RunV .bslice P (Instr.buildSlice t 1 #[(0, I64 x)]) w K := bs1 hm rfl rfl hk
theorem Mem.addNil {w0 w : World} {B : Nat} {L : List Ent} (h : Mem w0 B L w) (t : TypeId) (sz : Nat) : Mem w0 B (⟨t, sz, none, 0, 0, []⟩ :: L) w :=
  ⟨h.below, h.base, fun e he => by
    rcases List.mem_cons.1 he with rfl | he
    · exact ⟨by simp, Or.inl ⟨rfl, rfl⟩⟩
    · exact h.ok e he, List.pairwise_cons.2 ⟨(fun e _ b hb => by cases hb), h.apart⟩⟩
theorem remE {m n q : Nat} {K : Value → Prop} (h : m % n = q) (hk : K (.int .i64 (q : Int))) : RemW (m : Int) (n : Int) K := remN (by omega) (by rw [← Int.natCast_emod, h]; exact hk)
theorem Ent.Ok.trunc {t : TypeId} {sz n c k : Nat} {A : Option Addr} {cs : List Value} (h : Ent.Ok w B ⟨t, sz, A, n, c, cs⟩) (hk : k ≤ n) : Ent.Ok w B ⟨t, sz, A, k, c, cs.take (k * sz)⟩ := by
  obtain ⟨h1, h2⟩ := h
  simp only at h1 h2
  have hle : k * sz ≤ n * sz := Nat.mul_le_mul_right _ hk
  refine ⟨by simp only [List.length_take]; omega, ?_⟩
  rcases h2 with ⟨hv, h0⟩ | ⟨g, cap, cur, hv, hb, hg, hnc, hcm, hcs, htake⟩
  · left
    simp only [Value.slice.injEq] at hv ⊢
    exact ⟨⟨hv.1, by omega, hv.2.2⟩, by omega⟩
  · right
    simp only [Value.slice.injEq] at hv
    obtain ⟨rfl, _, rfl⟩ := hv
    refine ⟨g, c, cur, rfl, hb, hg, by simp only; omega, hcm, hcs, ?_⟩
    simp only
    rw [← htake, List.take_take, Nat.min_eq_left hle]
theorem Mem.trunc {t : TypeId} {sz n c k q : Nat} {A : Option Addr} {cs : List Value} (h : Mem w0 B L w) (hL : L[q]? = some ⟨t, sz, A, n, c, cs⟩) (hk : k ≤ n) : Mem w0 B (L.set q ⟨t, sz, A, k, c, cs.take (k * sz)⟩) w :=
  h.change hL (Below.refl _ _) ((h.ok _ (List.mem_of_getElem? hL)).trunc hk) (fun _ _ _ => rfl) fun _ hb => Or.inl hb
/-- 'append(out[:k], ys...)' -/
theorem appPre {α : Type} {f : α → Value} {xs ys : List α} {t e ty : TypeId} {bytes m n k : Nat} {z : Value} {A A2 : Option Addr} {c c2 : Nat} [ht : SlTy P t e] [hi : ElTy P e 1 bytes z] (q : Nat) (hm : Mem w0 B L w) (hL : L[q]? = some ⟨e, 1, A, n, c, xs.map f⟩) (hn : n = xs.length) (hk1 : k ≤ n)
    (hx : Rd w w.heap.size A2 (ys.map f)) (hmm : m = ys.length) (hz : z.cells.size = 1) (h1 : ∀ x, oneCell (f x) = true) (hb : xs.length + ys.length ≤ 1099511627776 ∧ bytes ≤ 64)
    (hk : ∀ A' c' w', Mem w0 B (L.set q ⟨e, 1, A', (xs.take k ++ ys).length, c', (xs.take k ++ ys).map f⟩) w' → K (.slice A' (xs.take k ++ ys).length c') w') : RunV .append P (Builtin.append_ #[t, t] ty #[.slice A k c, .slice A2 m c2]) w K := by
  subst hn
  have hm2 := hm.trunc hL hk1
  have hq : q < L.length := (List.getElem?_eq_some_iff.1 hL).1
  have e0 : (xs.map f).take (k * 1) = (xs.take k).map f := by rw [Nat.mul_one, List.map_take]
  have e1 : (xs.take k).length = k := by simp; omega
  rw [e0] at hm2
  have hL2 : (L.set q ⟨e, 1, A, k, c, (xs.take k).map f⟩)[q]? = some ⟨e, 1, A, (xs.take k).length, c, (xs.take k).map f⟩ := by simp [hq, e1]
  have := appS (P := P) (K := K) (t := t) (ty := ty) (c2 := c2) q hm2 hL2 hx hmm hz h1 ⟨by omega, hb.2⟩ (by simpa using hk)
  rwa [e1] at this
theorem Mem.swap {a b : Ent} (h : Mem w0 B (a :: b :: L) w) : Mem w0 B (b :: a :: L) w := by
  refine ⟨h.below, h.base, fun e he => h.ok e ?_, ?_⟩
  · simp only [List.mem_cons] at he ⊢
    rcases he with h1 | h1 | h1
    · exact Or.inr (Or.inl h1)
    · exact Or.inl h1
    · exact Or.inr (Or.inr h1)
  · have := h.apart
    simp only [List.pairwise_cons, List.mem_cons] at this ⊢
    obtain ⟨h1, h2, h3⟩ := this
    refine ⟨fun e he => ?_, fun e he => h1 e (Or.inr he), h3⟩
    rcases he with rfl | he
    · exact (h1 b (Or.inl rfl)).symm
    · exact h2 e he
theorem Mem.drop2 {a b : Ent} (h : Mem w0 B (a :: b :: L) w) : Mem w0 B (a :: L) w := h.swap.tail
theorem Mem.drop3 {a b d : Ent} (h : Mem w0 B (a :: b :: d :: L) w) : Mem w0 B (a :: b :: L) w := h.sub (List.Sublist.cons_cons _ (List.Sublist.cons_cons _ (List.sublist_cons_self _ _)))
theorem slToN {t e : TypeId} {size bytes : Nat} {z : Value} {k : IntKind} {A : Option Addr} {n c j : Nat} [ht : SlTy P t e] [hi : ElTy P e size bytes z] (h1 : j ≤ c) (hk : K (.slice A j c) w) :
    RunV .slice P (Instr.sliceAt t (.slice A n c) none (some (.int k (j : Int))) none) w K := slTo (by omega) (by omega) (by simpa using hk)
theorem quoC {m n : Nat} {K : Value → Prop} (h1 : 0 < n) (hb : m ≤ 9223372036854775807) (hk : K (.int .i64 ((m / n : Nat) : Int))) : Arith ((m : Int).tdiv (n : Int)) K := quoN (by omega) (by omega) (by omega) (by rw [Int.natCast_ediv] at hk; exact hk)
theorem quoE {m n q : Nat} {K : Value → Prop} (h : m / n = q) (h1 : 0 < n) (hb : m ≤ 9223372036854775807) (hk : K (.int .i64 (q : Int))) : Arith ((m : Int).tdiv (n : Int)) K := quoC h1 hb (by rw [h]; exact hk)
theorem remC {m n : Nat} {K : Value → Prop} (hk : K (.int .i64 ((m % n : Nat) : Int))) : RemW (m : Int) (n : Int) K := remN (by omega) (by rw [Int.natCast_emod] at hk; exact hk)
class FdTy (P : Program) (s : TypeId) (f : Nat) (off : outParam Nat) : Prop where
  eq : ∃ fields fd ti, P.underlying s = some (.struct fields) ∧ fields[f]? = some fd ∧ fd.offset = off ∧ P.info? fd.type = some ti ∧ ti.size ≠ 0
theorem faddr {s : TypeId} {f off : Nat} {ad : Addr} [h : FdTy P s f off] (hk : K (.pointer ((some ad).map (·.add off))) w) : RunV .faddr P (Instr.fieldAt s (.pointer (some ad)) f) w K := by
  obtain ⟨fields, fd, ti, h1, h2, rfl, h4, h5⟩ := h.eq
  refine ⟨_, _, ?_, hk⟩
  simp [Instr.fieldAt, run_underlying h1, h2, Instr.sureAddr, fieldPlace, sizeOf, typeInfo, h4, h5]
theorem faddrM {s : TypeId} {f off j : Nat} {A : Option Addr} [h : FdTy P s f off] (hA : A ≠ none) (hk : K (.pointer (A.map (·.add (j + off)))) w) : RunV .faddr P (Instr.fieldAt s (.pointer (A.map (·.add j))) f) w K := by
  obtain ⟨ad, rfl⟩ := Option.ne_none_iff_exists'.1 hA
  have := faddr (P := P) (s := s) (f := f) (off := off) (ad := ad.add j) (K := K) (w := w) (by simpa [add_add] using hk)
  simpa using this
theorem ldU {t : TypeId} {A : Option Addr} {j : Nat} {xs : List Int} [One P t] (hx : Rd w0 B A (xs.map U8)) (hm : Mem w0 B L w) (hj : j < xs.length) (hk : K (U8 (xs.getD j 0)) w) : RunV .load P (Instr.loadAt t (.pointer (A.map (·.add j)))) w K :=
  ldR hx hm (by simpa using hj) (by simpa [hj] using hk)
class IntTy (P : Program) (s d : TypeId) : Prop where
  src : (P.underlying s).isSome = true
  dst : P.underlying d = some (.int .i64)
theorem convI {s d : TypeId} {k : IntKind} {n : Int} [h : IntTy P s d] (hr : InR n) (hk : K (.int .i64 n) w) : RunV .conv P (convert s d (.int k n)) w K := by
  obtain ⟨d', hd'⟩ := Option.isSome_iff_exists.mp h.src
  refine ⟨.int .i64 (IntKind.i64.wrap n), w, by simp [convert, run_underlying hd', run_underlying h.dst, Conv.intToInt], ?_⟩
  have : IntKind.i64.wrap n = n := by rw [IntKind.wrap_i64]; obtain ⟨h1, h2⟩ := hr; omega
  rw [this]; exact hk
theorem bld {t : TypeId} {parts : Array (Nat × Value)} {cells : Array Value} (h : P.built t parts.toList = some cells) (hk : K (.agg cells) w) : RunV .build P (Instr.build t parts) w K := ⟨_, _, run_build w t parts cells h, hk⟩
theorem boxA {sz : Nat} {t : TypeId} {cells : Array Value} (hm : Mem w0 B L w) (hc : cells.size = sz) (hk : ∀ ad w', Mem w0 B (⟨t, sz, some ad, 1, 1, cells.toList⟩ :: L) w' → K (.pointer (some ad)) w') : RunV .box P (Instr.box t (.agg cells)) w K := by
  have := hm.alloc t sz cells 1 1 (Nat.le_refl _) (by decide) (by omega)
  refine ⟨_, _, ?_, hk ⟨w.heap.size, 0, none⟩ (w.alloc (.cells cells t)) ?_⟩
  · simp [Instr.box, newVar, newRow, newObj, Value.cells]
    rfl
  · rw [Nat.one_mul, List.take_of_length_le (by simp [hc])] at this
    exact this
theorem slB {t e : TypeId} {size bytes : Nat} {z : Value} {k k2 : IntKind} {A : Option Addr} {n c : Nat} {l h : Int} [ht : SlTy P t e] [hi : ElTy P e size bytes z] (h0 : 0 ≤ l) (h1 : l ≤ h) (h2 : h ≤ c) (hk : K (.slice (if c = l.toNat then A else A.map (·.add (l.toNat * size))) (h.toNat - l.toNat) (c - l.toNat)) w) :
    RunV .slice P (Instr.sliceAt t (.slice A n c) (some (.int k l)) (some (.int k2 h)) none) w K := by
  obtain ⟨ti, i2, i3, i4, i5⟩ := hi.eq
  refine ⟨_, _, ?_, hk⟩
  have h3 : 0 ≤ h := by omega
  have h5 : max h 0 = h := by omega
  simp [h5, Instr.sliceAt, Instr.slice, Instr.sliceBounds, Instr.sliceBound, run_underlying ht.eq, asIntOf, sizeOf, typeInfo, i2, h0, h1, h2, h3, i4]
theorem bsK {t e : TypeId} {size bytes n : Nat} {z : Value} {parts : Array (Nat × Value)} {cells : Array Value} [ht : SlTy P t e] [hi : ElTy P e size bytes z] (hm : Mem w0 B L w) (hn : n * size ≠ 0 ∧ n * size ≤ 16777216 ∧ n ≤ 16777216)
    (hf : Instr.fill (fun i => some (i * size, size)) ((Array.range (n * size)).map (z.cells[· % z.cells.size]!)) parts.toList = some cells) (hs : cells.size = n * size)
    (hk : ∀ A w', Mem w0 B (⟨e, size, A, n, n, cells.toList⟩ :: L) w' → K (.slice A n n) w') : RunV .bslice P (Instr.buildSlice t n parts) w K := by
  obtain ⟨ti, h2, h3, h4, h5⟩ := hi.eq
  subst h4
  have := hm.alloc e ti.size cells n n (Nat.le_refl _) (by unfold maxLen; omega) hs
  rw [List.take_of_length_le (by simp [hs])] at this
  refine ⟨_, _, ?_, hk (some ⟨w.heap.size, 0, none⟩) (w.alloc (.cells cells e)) this⟩
  have h6 : ¬ 16777216 < n * ti.size := by omega
  have h7 : ¬ n * ti.size = 0 := hn.1
  simp [Instr.buildSlice, run_underlying ht.eq, sizeOf, typeInfo, zeroValue, h2, h3, newRow, newObj, h6]
  rw [if_neg h7]
  simp [hf]
  rfl
theorem bs2I {t e : TypeId} {bytes : Nat} {a b : Int} [SlTy P t e] [ElTy P e 1 bytes (I64 0)] (hm : Mem w0 B L w) (hk : ∀ A w', Mem w0 B (⟨e, 1, A, [a, b].length, 2, [a, b].map I64⟩ :: L) w' → K (.slice A [a, b].length 2) w') :
    RunV .bslice P (Instr.buildSlice t 2 #[(0, I64 a), (1, I64 b)]) w K :=
  bsK (cells := #[I64 a, I64 b]) hm ⟨by decide, by decide, by decide⟩ (by rw [show 2 * 1 = 2 from rfl, show Array.range 2 = #[0, 1] by decide]; simp [Instr.fill, Value.cells]) rfl hk
theorem bs7I {t e : TypeId} {bytes : Nat} {a0 a1 a2 a3 a4 a5 a6 : Int} [SlTy P t e] [ElTy P e 1 bytes (I64 0)] (hm : Mem w0 B L w) (hk : ∀ A w', Mem w0 B (⟨e, 1, A, [a0, a1, a2, a3, a4, a5, a6].length, 7, [a0, a1, a2, a3, a4, a5, a6].map I64⟩ :: L) w' → K (.slice A [a0, a1, a2, a3, a4, a5, a6].length 7) w') :
    RunV .bslice P (Instr.buildSlice t 7 #[(0, I64 a0), (1, I64 a1), (2, I64 a2), (3, I64 a3), (4, I64 a4), (5, I64 a5), (6, I64 a6)]) w K :=
  bsK (cells := #[I64 a0, I64 a1, I64 a2, I64 a3, I64 a4, I64 a5, I64 a6]) hm ⟨by decide, by decide, by decide⟩ (by rw [show 7 * 1 = 7 from rfl, show Array.range 7 = #[0, 1, 2, 3, 4, 5, 6] by decide]; simp [Instr.fill, Value.cells]) rfl hk
end
end V
end Go.Proofs.Ytmikacjccmchcaa
