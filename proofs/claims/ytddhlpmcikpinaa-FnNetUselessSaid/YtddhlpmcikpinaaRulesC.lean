/-
  Rules for structs of two numbers, and for slices of them. No program of the seat is named here.
-/
import Derived.Test.YtddhlpmcikpinaaRules
import Derived.Test.YtddhlpmcikpinaaPlain
import Derived.Laws.Rows
namespace Go.Proofs.Ytddhlpmcikpinaa
open Go.RowKit
namespace V
abbrev Net := List (Int × Int)
/-- the cells of comparators -/
def cc (net : Net) : List Value := net.flatMap fun c => [I64 c.1, I64 c.2]
theorem cc_nil : cc [] = [] := rfl
theorem cc_cons (c : Int × Int) (r : Net) : cc (c :: r) = I64 c.1 :: I64 c.2 :: cc r := rfl
theorem cc_append (a b : Net) : cc (a ++ b) = cc a ++ cc b := by simp [cc]
theorem cc_len : ∀ (net : Net), (cc net).length = 2 * net.length
  | [] => rfl
  | c :: r => by rw [cc_cons]; simp [cc_len r]; omega
theorem cc_get0 : ∀ (net : Net) (i : Nat), i < net.length → (cc net)[i * 2]? = some (I64 (net.getD i (0, 0)).1)
  | [], i, h => by simp at h
  | c :: r, 0, _ => rfl
  | c :: r, i + 1, h => by
    have := cc_get0 r i (by simpa using h)
    rw [cc_cons, show (i + 1) * 2 = i * 2 + 1 + 1 by omega, List.getElem?_cons_succ, List.getElem?_cons_succ, this]
    simp
theorem cc_get1 : ∀ (net : Net) (i : Nat), i < net.length → (cc net)[i * 2 + 1]? = some (I64 (net.getD i (0, 0)).2)
  | [], i, h => by simp at h
  | c :: r, 0, _ => rfl
  | c :: r, i + 1, h => by
    have := cc_get1 r i (by simpa using h)
    rw [cc_cons, show (i + 1) * 2 + 1 = (i * 2 + 1) + 1 + 1 by omega, List.getElem?_cons_succ, List.getElem?_cons_succ, this]
    simp
theorem cc_set : ∀ (net : Net) (i : Nat) (c : Int × Int), ((cc net).set (i * 2) (I64 c.1)).set (i * 2 + 1) (I64 c.2) = cc (net.set i c)
  | [], i, c => by simp [cc]
  | d :: r, 0, c => by simp [cc_cons]
  | d :: r, i + 1, c => by
    have := cc_set r i c
    rw [cc_cons, List.set_cons_succ, cc_cons, show (i + 1) * 2 = i * 2 + 1 + 1 by omega, show (i * 2 + 1 + 1 + 1) = (i * 2 + 1) + 1 + 1 by omega]
    simp only [List.set_cons_succ]
    rw [this]
theorem cc_set0 : ∀ (net : Net) (i : Nat) (x : Int), (cc net).set (i * 2) (I64 x) = cc (net.set i (x, (net.getD i (0, 0)).2))
  | [], i, c => by simp [cc]
  | d :: r, 0, c => by simp [cc_cons]
  | d :: r, i + 1, c => by
    have := cc_set0 r i c
    rw [cc_cons, List.set_cons_succ, cc_cons, show (i + 1) * 2 = i * 2 + 1 + 1 by omega]
    simp only [List.set_cons_succ]
    rw [this]
    simp
theorem cc_set1 : ∀ (net : Net) (i : Nat) (x : Int), (cc net).set (i * 2 + 1) (I64 x) = cc (net.set i ((net.getD i (0, 0)).1, x))
  | [], i, c => by simp [cc]
  | d :: r, 0, c => by simp [cc_cons]
  | d :: r, i + 1, c => by
    have := cc_set1 r i c
    rw [show (i + 1) * 2 + 1 = (i * 2 + 1) + 1 + 1 by omega, cc_cons, show ∀ x, (d :: r).set (i + 1) x = d :: r.set i x from fun x => rfl, cc_cons]
    simp only [List.set_cons_succ]
    rw [this]
    simp
theorem cc_take : ∀ (net : Net) (k : Nat), (cc net).take (k * 2) = cc (net.take k)
  | [], k => by simp [cc]
  | c :: r, 0 => by simp [cc]
  | c :: r, k + 1 => by
    rw [cc_cons, List.take_succ_cons, cc_cons, show (k + 1) * 2 = k * 2 + 1 + 1 by omega, List.take_succ_cons, List.take_succ_cons, cc_take r k]
theorem cc_drop : ∀ (net : Net) (k : Nat), (cc net).drop (k * 2) = cc (net.drop k)
  | [], k => by simp [cc]
  | c :: r, 0 => by simp
  | c :: r, k + 1 => by
    rw [cc_cons, List.drop_succ_cons, show (k + 1) * 2 = k * 2 + 1 + 1 by omega, List.drop_succ_cons, List.drop_succ_cons, cc_drop r k]
theorem cc_one (net : Net) : ∀ u ∈ cc net, oneCell u = true := by
  intro u hu
  simp only [cc, List.mem_flatMap] at hu
  obtain ⟨c, _, h⟩ := hu
  simp at h
  rcases h with rfl | rfl <;> rfl

class StTy (P : Program) (t : TypeId) : Prop where
  eq : ∃ fs, P.underlying t = some (.struct fs)
abbrev Zc : Value := .agg #[I64 0, I64 0]
section
variable {P : Program} {w0 w : World} {B : Nat} {L : List Ent} {K : Value → World → Prop}
theorem add00 (a : Addr) : a.add 0 = a := by unfold Addr.add; simp
theorem ldAgg {t : TypeId} {bytes j : Nat} {z x y : Value} {A : Option Addr} {cs : List Value} [hs : StTy P t] [hi : ElTy P t 2 bytes z] (hx : Rd w w.heap.size A cs) (h0 : cs[j]? = some x) (h1 : cs[j + 1]? = some y) (hk : K (.agg #[x, y]) w) : RunV .load P (Instr.loadAt t (.pointer (A.map (·.add j)))) w K := by
  obtain ⟨fs, hu⟩ := hs.eq
  obtain ⟨ti, i2, i3, i4, i5⟩ := hi.eq
  obtain ⟨j0, e0⟩ := List.getElem?_eq_some_iff.1 h0
  obtain ⟨j1, e1⟩ := List.getElem?_eq_some_iff.1 h1
  obtain ⟨ad, rfl, c0⟩ := hx.cell j0
  obtain ⟨ad', he, c1⟩ := hx.cell j1
  cases he
  rw [e0] at c0
  rw [e1] at c1
  have d0 : w.cell? ((ad.add j).add 0) = some x := by rw [add00]; exact c0
  have d1 : w.cell? ((ad.add j).add 1) = some y := by rw [add_add]; exact c1
  refine ⟨_, _, ?_, hk⟩
  simp [Instr.loadAt, Instr.sureAddr, loadVar, isAgg, run_underlying hu, sizeOf, typeInfo, i2, i4, loadCells, loadCellsFrom, d0, d1]
theorem stAgg {t t' : TypeId} {bytes sz n c j : Nat} {z x y : Value} {A : Option Addr} {cs : List Value} {K : World → Prop} [hi : ElTy P t 2 bytes z] (q : Nat) (hm : Mem w0 B L w) (hL : L[q]? = some ⟨t', sz, A, n, c, cs⟩) (hx : oneCell x = true) (hy : oneCell y = true) (hj : j + 1 < cs.length)
    (hk : ∀ w', Mem w0 B (L.set q ⟨t', sz, A, n, c, (cs.set j x).set (j + 1) y⟩) w' → K w') : RunU .store P (Instr.storeAt t (.pointer (A.map (·.add j))) (.agg #[x, y])) w K := by
  obtain ⟨ti, i2, i3, i4, i5⟩ := hi.eq
  have hq : q < L.length := (List.getElem?_eq_some_iff.1 hL).1
  obtain ⟨ad, h1, ⟨u, hu⟩, hf, hm1⟩ := hm.store hL (k := j) (by simp only; omega) x
  have hL1 : (L.set q ⟨t', sz, A, n, c, cs.set j x⟩)[q]? = some ⟨t', sz, A, n, c, cs.set j x⟩ := by simp [hq]
  obtain ⟨ad', h2, ⟨u', hu'⟩, hf', hm2⟩ := hm1.store hL1 (k := j + 1) (by simp only [List.length_set]; omega) y
  simp only at h1 h2
  subst h1
  cases h2
  have e0 : (ad.add j).add 0 = ad.add j := add00 _
  have e1 : (ad.add j).add 1 = ad.add (j + 1) := add_add _ _ _
  refine ⟨_, ?_, hk _ (by simpa using hm2)⟩
  simp [Instr.storeAt, Instr.sureAddr, storeVar, Value.cells, sizeOf, typeInfo, i2, i4, storeCells, e0, e1, run_store1 P hx hu hf, run_store1 P hy hu' hf']
theorem stAggP {t t' : TypeId} {bytes sz n c : Nat} {z x y : Value} {ad : Addr} {cs : List Value} {K : World → Prop} [ElTy P t 2 bytes z] (q : Nat) (hm : Mem w0 B L w) (hL : L[q]? = some ⟨t', sz, some ad, n, c, cs⟩) (hx : oneCell x = true) (hy : oneCell y = true) (hj : 1 < cs.length)
    (hk : ∀ w', Mem w0 B (L.set q ⟨t', sz, some ad, n, c, (cs.set 0 x).set 1 y⟩) w' → K w') : RunU .store P (Instr.storeAt t (.pointer (some ad)) (.agg #[x, y])) w K := by
  have := stAgg (P := P) (t := t) (j := 0) (K := K) q hm hL hx hy (by omega) hk
  simpa [add00] using this
theorem ldAggP {t : TypeId} {bytes : Nat} {z x y : Value} {ad : Addr} {cs : List Value} [StTy P t] [ElTy P t 2 bytes z] (hx : Rd w w.heap.size (some ad) cs) (h0 : cs[0]? = some x) (h1 : cs[1]? = some y) (hk : K (.agg #[x, y]) w) : RunV .load P (Instr.loadAt t (.pointer (some ad))) w K := by
  have := ldAgg (P := P) (t := t) (j := 0) (K := K) hx h0 h1 hk
  simpa [add00] using this
theorem alZ {t : TypeId} {bytes sz : Nat} {z : Value} [hi : ElTy P t sz bytes z] (hm : Mem w0 B L w) (hz : z.cells.size = sz) (hk : ∀ ad w', Mem w0 B (⟨t, sz, some ad, 1, 1, z.cells.toList⟩ :: L) w' → K (.pointer (some ad)) w') : RunV .alloc P (Instr.alloc t true (.tuple #[])) w K := by
  obtain ⟨ti, i2, i3, i4, i5⟩ := hi.eq
  have := hm.alloc t sz z.cells 1 1 (Nat.le_refl _) (by decide) (by omega)
  rw [Nat.one_mul, List.take_of_length_le (by simp [hz])] at this
  refine ⟨_, _, ?_, hk ⟨w.heap.size, 0, none⟩ (w.alloc (.cells z.cells t)) this⟩
  simp [Instr.alloc, zeroValue, typeInfo, i2, i3, newVar, newRow, newObj]
  rfl
theorem alC {t : TypeId} {bytes : Nat} [ElTy P t 2 bytes Zc] (hm : Mem w0 B L w) (hk : ∀ ad w', Mem w0 B (⟨t, 2, some ad, 1, 1, [I64 0, I64 0]⟩ :: L) w' → K (.pointer (some ad)) w') : RunV .alloc P (Instr.alloc t true (.tuple #[])) w K := alZ (sz := 2) (z := Zc) hm rfl hk
theorem boxC {t : TypeId} {x y : Value} (hm : Mem w0 B L w) (hk : ∀ ad w', Mem w0 B (⟨t, 2, some ad, 1, 1, [x, y]⟩ :: L) w' → K (.pointer (some ad)) w') : RunV .box P (Instr.box t (.agg #[x, y])) w K := boxA (sz := 2) hm rfl hk
/-! boxes of two cells -/
theorem ldX0 {t t' : TypeId} {sz n c : Nat} {ad : Addr} {x : Value} {r : List Value} [One P t] (q : Nat) (hm : Mem w0 B L w) (hL : L[q]? = some ⟨t', sz, some ad, n, c, x :: r⟩) (hk : K x w) : RunV .load P (Instr.loadAt t (.pointer (Option.map (fun y => y.add 0) (some ad)))) w K := by
  obtain ⟨a, h1, h2⟩ := (hm.atE q hL).cell (j := 0) (by simp)
  cases h1
  exact load1 h2 hk
theorem ldX1 {t t' : TypeId} {sz n c : Nat} {ad : Addr} {x y : Value} {r : List Value} [One P t] (q : Nat) (hm : Mem w0 B L w) (hL : L[q]? = some ⟨t', sz, some ad, n, c, x :: y :: r⟩) (hk : K y w) : RunV .load P (Instr.loadAt t (.pointer (Option.map (fun y => y.add 1) (some ad)))) w K := by
  obtain ⟨a, h1, h2⟩ := (hm.atE q hL).cell (j := 1) (by simp)
  cases h1
  exact load1 h2 hk
theorem stX0 {t t' : TypeId} {bytes sz n c : Nat} {z v x : Value} {ad : Addr} {r : List Value} {K : World → Prop} [ElTy P t 1 bytes z] (q : Nat) (hm : Mem w0 B L w) (hL : L[q]? = some ⟨t', sz, some ad, n, c, x :: r⟩) (hv : oneCell v = true)
    (hk : ∀ w', Mem w0 B (L.set q ⟨t', sz, some ad, n, c, v :: r⟩) w' → K w') : RunU .store P (Instr.storeAt t (.pointer (Option.map (fun y => y.add 0) (some ad))) v) w K := stO q hm hL hv (by simp) hk
theorem stX1 {t t' : TypeId} {bytes sz n c : Nat} {z v x y : Value} {ad : Addr} {r : List Value} {K : World → Prop} [ElTy P t 1 bytes z] (q : Nat) (hm : Mem w0 B L w) (hL : L[q]? = some ⟨t', sz, some ad, n, c, x :: y :: r⟩) (hv : oneCell v = true)
    (hk : ∀ w', Mem w0 B (L.set q ⟨t', sz, some ad, n, c, x :: v :: r⟩) w' → K w') : RunU .store P (Instr.storeAt t (.pointer (Option.map (fun y => y.add 1) (some ad))) v) w K := stO q hm hL hv (by simp) hk
theorem stAggX {t t' : TypeId} {bytes sz n c : Nat} {z x y u v : Value} {ad : Addr} {r : List Value} {K : World → Prop} [ElTy P t 2 bytes z] (q : Nat) (hm : Mem w0 B L w) (hL : L[q]? = some ⟨t', sz, some ad, n, c, u :: v :: r⟩) (hx : oneCell x = true) (hy : oneCell y = true)
    (hk : ∀ w', Mem w0 B (L.set q ⟨t', sz, some ad, n, c, x :: y :: r⟩) w' → K w') : RunU .store P (Instr.storeAt t (.pointer (some ad)) (.agg #[x, y])) w K := stAggP q hm hL hx hy (by simp) hk
theorem ldAggX {t t' : TypeId} {bytes sz n c : Nat} {z x y : Value} {ad : Addr} {r : List Value} [StTy P t] [ElTy P t 2 bytes z] (q : Nat) (hm : Mem w0 B L w) (hL : L[q]? = some ⟨t', sz, some ad, n, c, x :: y :: r⟩) (hk : K (.agg #[x, y]) w) : RunV .load P (Instr.loadAt t (.pointer (some ad))) w K := ldAggP (hm.atE q hL) rfl rfl hk
/-! slices of comparators -/
theorem idxC {t e : TypeId} {bytes n c : Nat} {z : Value} {k : IntKind} {A : Option Addr} {i : Nat} {net : Net} [SlTy P t e] [ElTy P e 2 bytes z] (hx : Rd w w.heap.size A (cc net)) (h1 : i < n) (hn : n ≤ net.length) (hk : K (.pointer (A.map (·.add (i * 2)))) w) :
    RunV .idx P (Instr.indexAt t (.slice A n c) (.int k (i : Int))) w K :=
  idxN (hx.ne (by rw [cc_len]; omega)) (by omega) (by omega) (by simpa using hk)
theorem faC {s : TypeId} {f off j : Nat} {A : Option Addr} {cs : List Value} [FdTy P s f off] (hx : Rd w w.heap.size A cs) (hl : 0 < cs.length) (hk : K (.pointer (A.map (·.add (j + off)))) w) : RunV .faddr P (Instr.fieldAt s (.pointer (A.map (·.add j))) f) w K := faddrM (hx.ne hl) hk
theorem ldV {t : TypeId} {A : Option Addr} {j : Nat} {cs : List Value} {v : Value} [One P t] (hx : Rd w w.heap.size A cs) (hv : cs[j]? = some v) (hk : K v w) : RunV .load P (Instr.loadAt t (.pointer (A.map (·.add j)))) w K := by
  obtain ⟨hj, rfl⟩ := List.getElem?_eq_some_iff.1 hv
  obtain ⟨ad, rfl, hc⟩ := hx.cell hj
  exact load1 hc hk
theorem ldCA {t : TypeId} {A : Option Addr} {i : Nat} {net : Net} [One P t] (hx : Rd w w.heap.size A (cc net)) (hi : i < net.length) (hk : K (I64 (net.getD i (0, 0)).1) w) : RunV .load P (Instr.loadAt t (.pointer (A.map (·.add (i * 2 + 0))))) w K := ldV hx (by simpa using cc_get0 net i hi) hk
theorem ldCB {t : TypeId} {A : Option Addr} {i : Nat} {net : Net} [One P t] (hx : Rd w w.heap.size A (cc net)) (hi : i < net.length) (hk : K (I64 (net.getD i (0, 0)).2) w) : RunV .load P (Instr.loadAt t (.pointer (A.map (·.add (i * 2 + 1))))) w K := ldV hx (cc_get1 net i hi) hk
theorem ldC {t : TypeId} {bytes i : Nat} {z : Value} {A : Option Addr} {net : Net} [StTy P t] [ElTy P t 2 bytes z] (hx : Rd w w.heap.size A (cc net)) (hi : i < net.length) (hk : K (.agg #[I64 (net.getD i (0, 0)).1, I64 (net.getD i (0, 0)).2]) w) : RunV .load P (Instr.loadAt t (.pointer (A.map (·.add (i * 2))))) w K :=
  ldAgg hx (cc_get0 net i hi) (cc_get1 net i hi) hk
theorem stC {t t' : TypeId} {bytes n c i : Nat} {z : Value} {a b : Int} {A : Option Addr} {net : Net} {K : World → Prop} [ElTy P t 2 bytes z] (q : Nat) (hm : Mem w0 B L w) (hL : L[q]? = some ⟨t', 2, A, n, c, cc net⟩) (hi : i < net.length)
    (hk : ∀ w', Mem w0 B (L.set q ⟨t', 2, A, n, c, cc (net.set i (a, b))⟩) w' → K w') : RunU .store P (Instr.storeAt t (.pointer (A.map (·.add (i * 2)))) (.agg #[I64 a, I64 b])) w K :=
  stAgg q hm hL rfl rfl (by rw [cc_len]; omega) (by rw [cc_set net i (a, b)]; exact hk)
theorem stCA {t t' : TypeId} {bytes n c i : Nat} {z : Value} {x : Int} {A : Option Addr} {net : Net} {K : World → Prop} [ElTy P t 1 bytes z] (q : Nat) (hm : Mem w0 B L w) (hL : L[q]? = some ⟨t', 2, A, n, c, cc net⟩) (hi : i < net.length)
    (hk : ∀ w', Mem w0 B (L.set q ⟨t', 2, A, n, c, cc (net.set i (x, (net.getD i (0, 0)).2))⟩) w' → K w') : RunU .store P (Instr.storeAt t (.pointer (A.map (·.add (i * 2 + 0)))) (I64 x)) w K :=
  stO q hm hL rfl (by rw [cc_len]; omega) (by rw [Nat.add_zero, cc_set0]; exact hk)
theorem stCB {t t' : TypeId} {bytes n c i : Nat} {z : Value} {x : Int} {A : Option Addr} {net : Net} {K : World → Prop} [ElTy P t 1 bytes z] (q : Nat) (hm : Mem w0 B L w) (hL : L[q]? = some ⟨t', 2, A, n, c, cc net⟩) (hi : i < net.length)
    (hk : ∀ w', Mem w0 B (L.set q ⟨t', 2, A, n, c, cc (net.set i ((net.getD i (0, 0)).1, x))⟩) w' → K w') : RunU .store P (Instr.storeAt t (.pointer (A.map (·.add (i * 2 + 1)))) (I64 x)) w K :=
  stO q hm hL rfl (by rw [cc_len]; omega) (by rw [cc_set1]; exact hk)
theorem bs0C {t e : TypeId} {bytes : Nat} [SlTy P t e] [ElTy P e 2 bytes Zc] (hm : Mem w0 B L w) (hk : ∀ A w', Mem w0 B (⟨e, 2, A, ([] : Net).length, 0, cc []⟩ :: L) w' → K (.slice A ([] : Net).length 0) w') :
    RunV .bslice P (Instr.buildSlice t 0 #[]) w K := bs0 hm hk
theorem bs1C {t e : TypeId} {bytes : Nat} {a b : Int} [SlTy P t e] [ElTy P e 2 bytes Zc] (hm : Mem w0 B L w) (hk : ∀ A w', Mem w0 B (⟨e, 2, A, [(a, b)].length, 1, cc [(a, b)]⟩ :: L) w' → K (.slice A [(a, b)].length 1) w') :
    RunV .bslice P (Instr.buildSlice t 1 #[(0, .agg #[I64 a, I64 b])]) w K :=
  bsK (cells := #[I64 a, I64 b]) hm ⟨by decide, by decide, by decide⟩ (by rw [show 1 * 2 = 2 from rfl, show Array.range 2 = #[0, 1] by decide]; simp [Instr.fill, Value.cells]) rfl hk
theorem appSC {net ys : Net} {t e ty : TypeId} {bytes m : Nat} {A A2 : Option Addr} {c c2 : Nat} [SlTy P t e] [ElTy P e 2 bytes Zc] (q : Nat) (hm : Mem w0 B L w) (hL : L[q]? = some ⟨e, 2, A, net.length, c, cc net⟩)
    (hx : Rd w w.heap.size A2 (cc ys)) (hmm : m = ys.length) (hb : net.length + ys.length ≤ 1099511627776 ∧ bytes ≤ 64)
    (hk : ∀ A' c' w', Mem w0 B (L.set q ⟨e, 2, A', (net ++ ys).length, c', cc (net ++ ys)⟩) w' → K (.slice A' (net ++ ys).length c') w') : RunV .append P (Builtin.append_ #[t, t] ty #[.slice A net.length c, .slice A2 m c2]) w K := by
  subst hmm
  refine appO q hm hL ⟨rfl, by decide⟩ hx (by rw [cc_len]; omega) (cc_one ys) ⟨by omega, ?_⟩ fun A' c' w' h => ?_
  · have := Nat.mul_le_mul (show net.length + ys.length ≤ 1099511627776 by omega) hb.2; omega
  · have e1 : (net ++ ys).length = net.length + ys.length := by simp
    have := hk A' c' w'
    rw [e1, cc_append] at this
    exact this h
theorem app1C {net : Net} {a b : Int} {t e ty : TypeId} {bytes m c2 : Nat} {A A2 : Option Addr} {c : Nat} [SlTy P t e] [ElTy P e 2 bytes Zc] (q : Nat) (hm : Mem w0 B (⟨e, 2, A2, m, c2, cc [(a, b)]⟩ :: L) w) (hL : L[q]? = some ⟨e, 2, A, net.length, c, cc net⟩) (hm1 : m = 1)
    (hb : net.length ≤ 1099511627 ∧ bytes ≤ 64)
    (hk : ∀ A' c' w', Mem w0 B (L.set q ⟨e, 2, A', (net ++ [(a, b)]).length, c', cc (net ++ [(a, b)])⟩) w' → K (.slice A' (net ++ [(a, b)]).length c') w') : RunV .append P (Builtin.append_ #[t, t] ty #[.slice A net.length c, .slice A2 m c2]) w K :=
  appSC (ys := [(a, b)]) (q + 1) hm (by simpa using hL) (hm.atE 0 rfl) hm1 ⟨by simp; omega, hb.2⟩ fun A' c' w' h => hk A' c' w' h.tail
theorem cc_rep : ∀ c : Nat, cc (List.replicate c (0, 0)) = List.replicate (c * 2) (I64 0)
  | 0 => rfl
  | c + 1 => by rw [List.replicate_succ, cc_cons, cc_rep c, show (c + 1) * 2 = c * 2 + 1 + 1 by omega, List.replicate_succ, List.replicate_succ]
theorem made_cc (n : Nat) : (madeCells Zc.cells n).toList = List.replicate n (I64 0) := by
  rw [List.eq_replicate_iff]
  refine ⟨by simp [madeCells], fun b hb => ?_⟩
  simp only [madeCells, Array.toList_map, List.mem_map] at hb
  obtain ⟨i, _, rfl⟩ := hb
  rcases (show i % 2 = 0 ∨ i % 2 = 1 by omega) with h | h <;> simp [Value.cells, h]
theorem mkC {t e : TypeId} {bytes : Nat} {kl kc : IntKind} {m mc : Int} (n : Nat) [ht : SlTy P t e] [hi : ElTy P e 2 bytes Zc] (hm : Mem w0 B L w) (hn : m = (n : Int)) (hcc : mc = (n : Int)) (hc : bytes * n ≤ 281474976710656 ∧ n ≤ 4398046511104)
    (hk : ∀ A w', Mem w0 B (⟨e, 2, A, n, n, cc (List.replicate n (0, 0))⟩ :: L) w' → K (.slice A n n) w') : RunV .make P (Instr.makeSlice t (.int kl m) (.int kc mc)) w K := by
  subst hn
  subst hcc
  obtain ⟨ti, h2, h3, h4, h5⟩ := hi.eq
  have hb' : (ti.bytes : Int) * (n : Int) ≤ 281474976710656 := by rw [h5]; have : ((bytes * n : Nat) : Int) ≤ 281474976710656 := by omega
                                                                  rwa [Int.natCast_mul] at this
  have hr := run_make (P := P) w t e ti Zc ht.eq h2 h3 kl kc n n (by omega) (by omega) hb' (by omega)
  simp only [Int.toNat_natCast, h4] at hr
  have := hm.alloc e 2 (madeCells Zc.cells (n * 2)) n n (Nat.le_refl _) (by unfold maxLen; omega) (size_madeCells _ _)
  rw [List.take_of_length_le (by simp [size_madeCells]), made_cc, ← cc_rep] at this
  exact ⟨_, _, hr, hk _ _ this⟩
end
end V
end Go.Proofs.Ytddhlpmcikpinaa
