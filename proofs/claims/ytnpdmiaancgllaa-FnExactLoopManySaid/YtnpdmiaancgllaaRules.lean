/-
  Rules for the operations that touch memory, and words for slices in memory. No program of the seat is named here.
-/
import Derived.Test.YtnpdmiaancgllaaEngine
import Derived.Maps.AppendAt
namespace Go.Proofs.Ytnpdmiaancgllaa
open Go.RowKit
namespace V

def SlTy (P : Program) (t e : TypeId) : Prop := P.underlying t = some (.slice e)
def ElTy (P : Program) (e : TypeId) (size bytes : Nat) (z : Value) : Prop := ∃ i, P.info? e = some i ∧ i.zero = some z ∧ i.size = size ∧ i.bytes = bytes
def isOne : TypeDesc → Bool
  | .struct _ => false
  | .array _ _ => false
  | _ => true
def One (P : Program) (t : TypeId) : Prop := ∃ d, P.underlying t = some d ∧ isOne d = true
def oneCell : Value → Bool
  | .agg _ => false
  | .tuple _ => false
  | _ => true

section
variable {P : Program} {w : World} {K : Value → World → Prop}
theorem arith {r : Int} {K : Value → Prop} (h : InR r) (hk : K (.int .i64 r)) : Arith r K := by
  refine ⟨?_⟩
  have : IntKind.i64.wrap r = r := by rw [IntKind.wrap_i64]; obtain ⟨h1, h2⟩ := h; omega
  rw [this]
  exact hk
theorem len {t e ty : TypeId} {A : Option Addr} {n c : Nat} (ht : SlTy P t e) (hk : K (.int .i64 (n : Int)) w) : RunV .len P (Builtin.len_ #[t] ty #[.slice A n c]) w K :=
  ⟨_, _, by simp [Builtin.len_, run_underlying ht, goInt], hk⟩
theorem idx1 {t e : TypeId} {bytes : Nat} {z : Value} {k : IntKind} {ad : Addr} {n c : Nat} {i : Int} (ht : SlTy P t e) (hi : ElTy P e 1 bytes z) (h0 : 0 ≤ i) (h1 : i < n) (hk : K (.pointer (some (ad.add i.toNat))) w) :
    RunV .idx P (Instr.indexAt t (.slice (some ad) n c) (.int k i)) w K := by
  obtain ⟨ti, h2, h3, h4, h5⟩ := hi
  refine ⟨_, _, ?_, hk⟩
  simp [Instr.indexAt, run_underlying ht, asIntOf, sizeOf, typeInfo, h2, h4, h0, h1]
theorem idxN {t e : TypeId} {size bytes : Nat} {z : Value} {k : IntKind} {ad : Addr} {n c : Nat} {i : Int} (ht : SlTy P t e) (hi : ElTy P e size bytes z) (h0 : 0 ≤ i) (h1 : i < n) (hk : K (.pointer (some (ad.add (i.toNat * size)))) w) :
    RunV .idx P (Instr.indexAt t (.slice (some ad) n c) (.int k i)) w K := by
  obtain ⟨ti, h2, h3, h4, h5⟩ := hi
  refine ⟨_, _, ?_, hk⟩
  simp [Instr.indexAt, run_underlying ht, asIntOf, sizeOf, typeInfo, h2, h4, h0, h1]
theorem run_load (P : Program) {w : World} {p : Addr} {v : Value} (hc : w.cell? p = some v) : (load p).run P w = .ok v w := by simp [load, Sem.run, hc]
theorem run_store1 (P : Program) {w : World} {p : Addr} {u v : Value} (hv : oneCell v = true) (hc : w.cell? p = some u) (hf : w.frozen? p = false) : (store p v).run P w = .ok () (w.setCell p v) := by
  cases v <;> simp [oneCell] at hv <;> simp [store, Sem.run, hc, hf]
theorem load1 {t : TypeId} {p : Addr} {v : Value} (ht : One P t) (hc : w.cell? p = some v) (hk : K v w) : RunV .load P (Instr.loadAt t (.pointer (some p))) w K := by
  obtain ⟨d, h1, h2⟩ := ht
  refine ⟨_, _, ?_, hk⟩
  cases d <;> simp [isOne] at h2 <;> simp [Instr.loadAt, Instr.sureAddr, loadVar, isAgg, run_underlying h1, hc]
theorem store1 {t : TypeId} {bytes : Nat} {z : Value} {p : Addr} {u v : Value} {K : World → Prop} (ht : ElTy P t 1 bytes z) (hv : oneCell v = true) (hc : w.cell? p = some u) (hf : w.frozen? p = false) (hk : K (w.setCell p v)) :
    RunU .store P (Instr.storeAt t (.pointer (some p)) v) w K := by
  obtain ⟨ti, h2, h3, h4, h5⟩ := ht
  refine ⟨_, ?_, hk⟩
  have hvc : v.cells = #[v] := by cases v <;> simp [oneCell] at hv <;> rfl
  simp [Instr.storeAt, Instr.sureAddr, storeVar, hvc, sizeOf, typeInfo, h2, h4, storeCells, run_store1 P hv hc hf, Addr.add]
theorem make1 {t e : TypeId} {bytes : Nat} {z : Value} {kl kc : IntKind} {n c : Nat} (ht : SlTy P t e) (hi : ElTy P e 1 bytes z) (hz : oneCell z = true) (hnc : n ≤ c) (hb : bytes * c ≤ 281474976710656) (hc : c ≤ 9223372036854775807)
    (hk : K (.slice (some ⟨w.heap.size, 0, none⟩) n c) (w.alloc (.cells (List.replicate c z).toArray e))) : RunV .make P (Instr.makeSlice t (.int kl (n : Int)) (.int kc (c : Int))) w K := by
  obtain ⟨ti, h2, h3, h4, h5⟩ := hi
  have hb' : (ti.bytes : Int) * (c : Int) ≤ 281474976710656 := by rw [h5]; have : ((bytes * c : Nat) : Int) ≤ 281474976710656 := by omega
                                                                  rwa [Int.natCast_mul] at this
  have hr := run_make (P := P) w t e ti z ht h2 h3 kl kc n c (by omega) (by omega) hb' (by omega)
  simp only [Int.toNat_natCast, h4, Nat.mul_one] at hr
  have hm : madeCells z.cells c = (List.replicate c z).toArray := by
    have hzc : z.cells = #[z] := by cases z <;> simp [oneCell] at hz <;> rfl
    rw [hzc, ← toList_madeCells_one, Array.toArray_toList]
  rw [hm] at hr
  exact ⟨_, _, hr, hk⟩
theorem bslice0 {t e : TypeId} {size bytes : Nat} {z : Value} (ht : SlTy P t e) (hi : ElTy P e size bytes z) (hk : K (.slice (some ⟨w.heap.size, 0, none⟩) 0 0) (w.alloc (.cells #[] e))) :
    RunV .bslice P (Instr.buildSlice t 0 #[]) w K := by
  obtain ⟨ti, h2, h3, h4, h5⟩ := hi
  refine ⟨_, _, ?_, hk⟩
  simp [Instr.buildSlice, run_underlying ht, sizeOf, typeInfo, h2, Instr.fill, newRow, newObj]
  rw [show Array.range 0 = #[] by decide, show ∀ f : Nat → Value, Array.map f #[] = #[] from fun f => by simp]
  rfl
theorem bslice1 {t e : TypeId} {bytes : Nat} {z v : Value} (ht : SlTy P t e) (hi : ElTy P e 1 bytes z) (hz : oneCell z = true) (hv : oneCell v = true) (hk : K (.slice (some ⟨w.heap.size, 0, none⟩) 1 1) (w.alloc (.cells #[v] e))) :
    RunV .bslice P (Instr.buildSlice t 1 #[(0, v)]) w K := by
  obtain ⟨ti, h2, h3, h4, h5⟩ := hi
  have hvc : v.cells = #[v] := by cases v <;> simp [oneCell] at hv <;> rfl
  have hzc : z.cells = #[z] := by cases z <;> simp [oneCell] at hz <;> rfl
  refine ⟨_, _, ?_, hk⟩
  simp [Instr.buildSlice, run_underlying ht, sizeOf, typeInfo, zeroValue, h2, h3, h4, Instr.fill, newRow, newObj, hvc, hzc]
  rw [show Array.range 1 = #[0] by decide, show ∀ f : Nat → Value, (Array.map f #[0]).setIfInBounds 0 v = #[v] from fun f => by simp]
  rfl
theorem slice_to {t e : TypeId} {size bytes : Nat} {z : Value} {k : IntKind} {A : Option Addr} {n c : Nat} {h : Int} (ht : SlTy P t e) (hi : ElTy P e size bytes z) (h0 : 0 ≤ h) (h1 : h ≤ c) (hk : K (.slice A h.toNat c) w) :
    RunV .slice P (Instr.sliceAt t (.slice A n c) none (some (.int k h)) none) w K := by
  obtain ⟨ti, h2, h3, h4, h5⟩ := hi
  refine ⟨_, _, ?_, hk⟩
  have hA : Option.map (fun x : Addr => x.add 0) A = A := by cases A <;> simp [Addr.add]
  simp [Instr.sliceAt, Instr.slice, Instr.sliceBounds, Instr.sliceBound, run_underlying ht, asIntOf, sizeOf, typeInfo, h2, h0, h1, hA]
theorem slice_from {t e : TypeId} {size bytes : Nat} {z : Value} {k : IntKind} {A : Option Addr} {n c : Nat} {l : Int} (ht : SlTy P t e) (hi : ElTy P e size bytes z) (h0 : 0 ≤ l) (h1 : l ≤ n)
    (hk : K (.slice (if c = l.toNat then A else A.map (·.add (l.toNat * size))) (n - l.toNat) (c - l.toNat)) w) :
    RunV .slice P (Instr.sliceAt t (.slice A n c) (some (.int k l)) none none) w K := by
  obtain ⟨ti, h2, h3, h4, h5⟩ := hi
  refine ⟨_, _, ?_, hk⟩
  simp [Instr.sliceAt, Instr.slice, Instr.sliceBounds, Instr.sliceBound, run_underlying ht, asIntOf, sizeOf, typeInfo, h2, h0, h1, h4]
theorem call {f : FuncId} {args : Array Value} {R : Ending → World → Prop} (hc : Callable P f) (h : Calls P f args w R) (hk : ∀ e w', R e w' → ∃ v, e = .returned v ∧ K v w') : CallW P f args w K := ⟨hc, h.mono hk⟩
/-- a callee whose contract names the value -/
theorem call1 {f : FuncId} {args : Array Value} {v : Value} {R : World → Prop} (hc : Callable P f) (h : Calls P f args w fun e w' => e = .returned v ∧ R w') (hk : ∀ w', R w' → K v w') : CallW P f args w K :=
  ⟨hc, h.mono fun _ _ ⟨he, hr⟩ => ⟨v, he, hk _ hr⟩⟩
def Pure (P : Program) (f : FuncId) (args : Array Value) (v : Value) : Prop := ∀ w, Calls P f args w fun e w' => e = .returned v ∧ w' = w
theorem callP {f : FuncId} {args : Array Value} {v : Value} (hc : Callable P f) (h : Pure P f args v) (hk : K v w) : CallW P f args w K :=
  ⟨hc, (h w).mono fun _ _ ⟨he, hr⟩ => ⟨v, he, by rw [hr]; exact hk⟩⟩
end
theorem callable {P : Program} {f : FuncId} {fn : Func} {c : Code} (hf : P.funcs[f]? = some fn) (hn : (fn.name == "runtime.NumGoroutine") = false) (hb : fn.body = some c) : Callable P f := fun args w => by
  have hn' : ¬ fn.name = "runtime.NumGoroutine" := by simpa using hn
  simp [callFunc, hf, hn', hb]

/-! a slice that is read: its cells, below block B -/
def Rd (w : World) (B : Nat) (A : Option Addr) (cs : List Value) : Prop := ∀ j (h : j < cs.length), ∃ ad, A = some ad ∧ ad.block < B ∧ w.cell? (ad.add j) = some cs[j]
theorem add_block (a : Addr) (n : Nat) : (a.add n).block = a.block := by unfold Addr.add; split <;> rfl
theorem add_add (a : Addr) (i j : Nat) : (a.add i).add j = a.add (i + j) := by
  unfold Addr.add
  by_cases hi : i = 0 <;> by_cases hj : j = 0 <;> simp [hi, hj, Nat.add_assoc]
section
variable {w w' : World} {B B' : Nat} {A : Option Addr} {cs : List Value}
theorem Rd.nil : Rd w B A [] := fun j h => by simp at h
theorem Rd.mono (h : Rd w B A cs) (hB : B ≤ B') : Rd w B' A cs := fun j hj => let ⟨ad, h1, h2, h3⟩ := h j hj; ⟨ad, h1, by omega, h3⟩
theorem Rd.keep (h : Rd w B A cs) (hk : ∀ b, b < B → w'.heap[b]? = w.heap[b]?) : Rd w' B A cs := fun j hj =>
  let ⟨ad, h1, h2, h3⟩ := h j hj
  ⟨ad, h1, h2, (World.cell?_of_block (by rw [add_block]; exact hk _ h2)).trans h3⟩
theorem Rd.below (h : Rd w B A cs) (hb : Below B w w') : Rd w' B A cs := h.keep hb.block
theorem Rd.take (h : Rd w B A cs) (k : Nat) : Rd w B A (cs.take k) := fun j hj => by
  rw [List.length_take] at hj
  obtain ⟨ad, h1, h2, h3⟩ := h j (by omega)
  exact ⟨ad, h1, h2, by rw [h3, List.getElem_take]⟩
theorem Rd.drop (h : Rd w B A cs) (k c : Nat) (hc : cs.length ≤ c) : Rd w B (if c = k then A else A.map (·.add k)) (cs.drop k) := fun j hj => by
  rw [List.length_drop] at hj
  obtain ⟨ad, h1, h2, h3⟩ := h (k + j) (by omega)
  rw [if_neg (by omega), h1]
  exact ⟨ad.add k, rfl, by rw [add_block]; exact h2, by rw [add_add, h3, List.getElem_drop]⟩
theorem Rd.of_cells {ad : Addr} (hb : ad.block < B) (h : ∀ j (h : j < cs.length), w.cell? (ad.add j) = some cs[j]) : Rd w B (some ad) cs := fun j hj => ⟨ad, rfl, hb, h j hj⟩
theorem Rd.int {xs : List Int} (h : Rd w B A (xs.map (Value.int .i64))) {k : Nat} (hk : k < xs.length) : ∃ ad, A = some ad ∧ ad.block < B ∧ w.cell? (ad.add k) = some (.int .i64 xs[k]) := by
  obtain ⟨ad, h1, h2, h3⟩ := h k (by simpa using hk)
  exact ⟨ad, h1, h2, by rw [h3]; simp⟩
theorem Rd.bool {xs : List Bool} (h : Rd w B A (xs.map Value.bool)) {k : Nat} (hk : k < xs.length) : ∃ ad, A = some ad ∧ ad.block < B ∧ w.cell? (ad.add k) = some (.bool xs[k]) := by
  obtain ⟨ad, h1, h2, h3⟩ := h k (by simpa using hk)
  exact ⟨ad, h1, h2, by rw [h3]; simp⟩
end

/-! a row that the call made, known whole -/
def Row (w : World) (g : Nat) (t : TypeId) (cs : List Value) : Prop := w.heap[g]? = some (.cells cs.toArray t (0, 0))
section
variable {w w' : World} {g : Nat} {t : TypeId} {cs : List Value}
theorem Row.lt (h : Row w g t cs) : g < w.heap.size := by
  rcases Nat.lt_or_ge g w.heap.size with hl | hl
  · exact hl
  · unfold Row at h; rw [Array.getElem?_eq_none hl] at h; cases h
theorem add0 (g i : Nat) : (⟨g, 0, none⟩ : Addr).add i = ⟨g, i, none⟩ := by unfold Addr.add; by_cases h : i = 0 <;> simp [h]
theorem Row.cell (h : Row w g t cs) {i : Nat} (hi : i < cs.length) : w.cell? ((⟨g, 0, none⟩ : Addr).add i) = some cs[i] := by
  rw [add0]; unfold Row at h; simp [World.cell?, h, List.getElem?_eq_getElem hi]
theorem Row.frozen (h : Row w g t cs) (i : Nat) : w.frozen? ((⟨g, 0, none⟩ : Addr).add i) = false := by
  rw [add0]; unfold Row at h; simp [World.frozen?, h]
theorem Row.new (w : World) (t : TypeId) (cs : List Value) : Row (w.alloc (.cells cs.toArray t)) w.heap.size t cs := heap_alloc_new w _
theorem Row.alloc (h : Row w g t cs) (o : Obj) : Row (w.alloc o) g t cs := (Below.heap_alloc w o g h.lt).trans h
theorem Row.set (h : Row w g t cs) (i : Nat) (u : Value) : Row (w.setCell ((⟨g, 0, none⟩ : Addr).add i) u) g t (cs.set i u) := by
  rw [add0]; unfold Row at h ⊢
  simp [World.setCell, Array.getElem?_modify, h]
theorem Row.far (h : Row w g t cs) {p : Addr} (hp : g ≠ p.block) (u : Value) : Row (w.setCell p u) g t cs := (Below.heap_setCell w p u g hp).trans h
theorem Row.below {B : Nat} (h : Row w g t cs) (hb : Below B w w') (hg : g < B) : Row w' g t cs := (hb.block g hg).trans h
theorem Row.rd (h : Row w g t cs) : Rd w (g + 1) (some ⟨g, 0, none⟩) cs := Rd.of_cells (by simp) fun _ hj => h.cell hj
theorem Row.rd' (h : Row w g t cs) : Rd w w.heap.size (some ⟨g, 0, none⟩) cs := h.rd.mono (by have := h.lt; omega)
end
end V
end Go.Proofs.Ytnpdmiaancgllaa
