/-
  An evaluator of the model's code on environments: 'vc' turns a function's code, step by step, into plain conditions; 'vc_sound' proves that they suffice for the kit's own 'Code.wp'. No program of the seat is named here.
-/
import Derived.Below
import Derived.Tactics2
import Derived.Laws.MakeOwn
import Derived.Laws.OwnMore
import Derived.Laws.CopyRow
import Derived.Laws.Entries
import Derived.OrdersHeld
import Derived.Deep.Quiet
namespace Go.Proofs.Ytddhlpmcikpinaa
open Go.RowKit
namespace V

abbrev Env := Nat → Value
def upd (e : Env) (d : Nat) (v : Value) : Env := fun s => bif Nat.beq d s then v else e s
def ev (e : Env) : Operand → Value
  | .tmp t => e t
  | .const v => v
  | .global g => .pointer (some ⟨g, 0, none⟩)
  | .func f => .func (.func f) #[] #[]
noncomputable def nth (l : List Value) : Nat → Value := @List.rec Value (fun _ => Nat → Value) (fun _ => undef) (fun v _ ih n => @Nat.rec (fun _ => Value) v (fun m _ => ih m) n) l
noncomputable def envOf (l : List Value) : Env := nth l
def toEnv (a : Act) : Env := fun s => a.tmps.getD s undef
def force (v : Value) (K : Value → Prop) : Prop :=
  match v with
  | .int k n => K (.int k n)
  | .bool b => K (.bool b)
  | .slice a n c => K (.slice a n c)
  | .pointer p => K (.pointer p)
  | .agg cs => K (.agg cs)
  | .tuple vs => K (.tuple vs)
  | v => K v
def forceL (l : List Value) : (List Value → Prop) → Prop := @List.rec Value (fun _ => (List Value → Prop) → Prop) (fun K => K []) (fun v _ ih K => force v fun v => ih fun r => K (v :: r)) l
def forceP (l : List (Nat × Value)) : (List (Nat × Value) → Prop) → Prop := @List.rec (Nat × Value) (fun _ => (List (Nat × Value) → Prop) → Prop) (fun K => K []) (fun p _ ih K => force p.2 fun v => ih fun r => K ((p.1, v) :: r)) l
def forceO : Option Value → (Option Value → Prop) → Prop
  | none, K => K none
  | some v, K => force v fun v => K (some v)
theorem force_eq (v : Value) (K : Value → Prop) : force v K = K v := by cases v <;> rfl

structure Cnd (b : Bool) (T F : Prop) : Prop where
  t : b = true → T
  f : b = false → F

theorem forceL_eq : ∀ (l : List Value) (K : List Value → Prop), forceL l K = K l
  | [], K => rfl
  | v :: r, K => by show force v (fun v => forceL r fun r => K (v :: r)) = _; rw [force_eq, forceL_eq r]
theorem forceP_eq : ∀ (l : List (Nat × Value)) (K : List (Nat × Value) → Prop), forceP l K = K l
  | [], K => rfl
  | (i, v) :: r, K => by show force v (fun v => forceP r fun r => K ((i, v) :: r)) = _; rw [force_eq, forceP_eq r]
theorem forceO_eq : ∀ (o : Option Value) (K : Option Value → Prop), forceO o K = K o
  | none, K => rfl
  | some v, K => by simp only [forceO, force_eq]
inductive Tag where
  | bin | load | store | idx | slice | make | bslice | build | box | alloc | faddr | field | conv | len | append | copy | max | min | eqv
structure RunV (g : Tag) (P : Program) (s : Sem Value) (w : World) (K : Value → World → Prop) : Prop where
  ex : ∃ v w', s.run P w = .ok v w' ∧ K v w'
structure RunU (g : Tag) (P : Program) (s : Sem Unit) (w : World) (K : World → Prop) : Prop where
  ex : ∃ w', s.run P w = .ok () w' ∧ K w'
/-- a function that has a body can be called -/
def Callable (P : Program) (f : FuncId) : Prop := ∀ (args : Array Value) (w : World), (callFunc f args).run P w = .ok (.enter f args) w
structure CallW (P : Program) (f : FuncId) (args : Array Value) (w : World) (K : Value → World → Prop) : Prop where
  can : Callable P f
  ex : Calls P f args w fun e w' => ∃ v, e = .returned v ∧ K v w'

def InR (r : Int) : Prop := -9223372036854775808 ≤ r ∧ r ≤ 9223372036854775807
structure Arith (r : Int) (K : Value → Prop) : Prop where
  ex : K (.int .i64 (IntKind.i64.wrap r))
structure RemW (m n : Int) (K : Value → Prop) : Prop where
  ex : K (.int .i64 (m.tmod n))
structure ShrW (m n : Int) (K : Value → Prop) : Prop where
  ex : K (.int .i64 (m.fdiv (2 ^ (min n.toNat 64))))
def andI (m n : Int) : Int := IntKind.i64.wrap (BitVec.ofInt 64 m &&& BitVec.ofInt 64 n).toNat
def orI (m n : Int) : Int := IntKind.i64.wrap (BitVec.ofInt 64 m ||| BitVec.ofInt 64 n).toNat
def xorI (m n : Int) : Int := IntKind.i64.wrap (BitVec.ofInt 64 m ^^^ BitVec.ofInt 64 n).toNat
def vcBin (op : BinOp) (x y : Value) (K : Value → Prop) (other : Prop) : Prop :=
  match x, y with
  | .int .i64 m, .int .i64 n =>
    match op with
    | .add => Arith (m + n) K
    | .sub => Arith (m - n) K
    | .mul => Arith (m * n) K
    | .quo => n ≠ 0 ∧ Arith (m.tdiv n) K
    | .rem => n ≠ 0 ∧ RemW m n K
    | .eql => K (.bool (decide (m = n)))
    | .neq => K (.bool (!decide (m = n)))
    | .lss => K (.bool (decide (m < n)))
    | .leq => K (.bool (decide (m ≤ n)))
    | .gtr => K (.bool (decide (n < m)))
    | .geq => K (.bool (decide (n ≤ m)))
    | .shl => 0 ≤ n ∧ Arith (m * 2 ^ (min n.toNat 64)) K
    | .shr => 0 ≤ n ∧ ShrW m n K
    | .and => K (.int .i64 (andI m n))
    | .or => K (.int .i64 (orI m n))
    | .xor => K (.int .i64 (xorI m n))
    | _ => other
  | _, _ => other

def vcOp (P : Program) (o : Oper) (e : Env) (w : World) (K Kc : Value → World → Prop) : Prop :=
  match o.op with
  | .move x => force (ev e x) fun v => K v w
  | .assign x => force (ev e x) fun v => K v w
  | .pick c a b =>
    match ev e c with
    | .bool t => Cnd t (force (ev e a) fun v => K v w) (force (ev e b) fun v => K v w)
    | _ => False
  | .binOp op t x y _ => force (ev e x) fun vx => force (ev e y) fun vy => vcBin op vx vy (fun v => K v w) (RunV .bin P (do eqGuard op t x y vx vy; binOp op t vx vy) w K)
  | .unOp op _ x =>
    match op, ev e x with
    | .not, .bool b => K (.bool (!b)) w
    | .neg, .int .i64 n => Arith (0 - n) fun v => K v w
    | _, _ => False
  | .load t a => force (ev e a) fun a => RunV .load P (Instr.loadAt t a) w K
  | .store t a x => force (ev e a) fun a => force (ev e x) fun x => RunU .store P (Instr.storeAt t a x) w fun w' => K undef w'
  | .indexAddr t x i => force (ev e x) fun x => force (ev e i) fun i => RunV .idx P (Instr.indexAt t x i) w K
  | .slice t x lo hi mx => force (ev e x) fun x => forceO (lo.map (ev e)) fun lo => forceO (hi.map (ev e)) fun hi => forceO (mx.map (ev e)) fun mx => RunV .slice P (Instr.sliceAt t x lo hi mx) w K
  | .makeSlice t l c => force (ev e l) fun l => force (ev e c) fun c => RunV .make P (Instr.makeSlice t l c) w K
  | .buildSlice t n parts => forceP (parts.toList.map fun p => (p.1, ev e p.2)) fun ps => RunV .bslice P (Instr.buildSlice t n ps.toArray) w K
  | .build t parts => forceP (parts.toList.map fun p => (p.1, ev e p.2)) fun ps => RunV .build P (Instr.build t ps.toArray) w K
  | .box t x => force (ev e x) fun x => RunV .box P (Instr.box t x) w K
  | .alloc t => RunV .alloc P (Instr.alloc t true (.tuple #[])) w K
  | .fieldAddr s x f => force (ev e x) fun x => RunV .faddr P (Instr.fieldAt s x f) w K
  | .field t x f => force (ev e x) fun x => RunV .field P (Instr.field t x f) w K
  | .convert s d x => force (ev e x) fun x => RunV .conv P (convert s d x) w K
  | .nilCheck x =>
    match ev e x with
    | .pointer (some p) => K (.pointer (some p)) w
    | _ => False
  | .extract t ix =>
    match ev e t with
    | .tuple vs => bif Nat.ble vs.toList.length ix then False else force (nth vs.toList ix) fun v => K v w
    | _ => False
  | .call c =>
    match c.callee with
    | .builtin .len => forceL (c.args.toList.map (ev e)) fun l => RunV .len P (Builtin.len_ c.argTypes o.type l.toArray) w K
    | .builtin .append => forceL (c.args.toList.map (ev e)) fun l => RunV .append P (Builtin.append_ c.argTypes o.type l.toArray) w K
    | .builtin .copy => forceL (c.args.toList.map (ev e)) fun l => RunV .copy P (Builtin.copy_ c.argTypes o.type l.toArray) w K
    | .builtin .max => forceL (c.args.toList.map (ev e)) fun l => RunV .max P (Builtin.max_ c.argTypes o.type l.toArray) w K
    | .builtin .min => forceL (c.args.toList.map (ev e)) fun l => RunV .min P (Builtin.min_ c.argTypes o.type l.toArray) w K
    | .value (.func f) => forceL (c.args.toList.map (ev e)) fun l => CallW P f l.toArray w Kc
    | _ => False
  | _ => False

noncomputable def nthOp (l : List Oper) : Nat → Option Oper := @List.rec Oper (fun _ => Nat → Option Oper) (fun _ => none) (fun o _ ih n => @Nat.rec (fun _ => Option Oper) (some o) (fun m _ => ih m) n) l
def put (N : Nat) (e : Env) (dst : Option Nat) (v : Value) (K : Env → Prop) : Prop :=
  match dst with
  | none => K e
  | some d => bif Nat.ble N d then False else K (upd e d v)
def vcGuard (ops : List Oper) (g : Option (Nat × Bool)) (e : Env) (run skip : Env → Prop) : Prop :=
  match g with
  | none => run e
  | some (j, want) =>
    match nthOp ops j with
    | some o =>
      match o.dst with
      | some d =>
        match e d with
        | .bool b => Cnd b (bif want then run (upd e d (.bool true)) else skip (upd e d (.bool true))) (bif want then skip (upd e d (.bool false)) else run (upd e d (.bool false)))
        | .tuple _ => skip e
        | _ => False
      | none => False
    | none => False
def vcOps (P : Program) (N : Nat) (ops : List Oper) (K : Env → World → Prop) (l : List Oper) : Env → World → Prop :=
  @List.rec Oper (fun _ => Env → World → Prop) K (fun o _ ih e w =>
    vcGuard ops o.guard e (fun e => vcOp P o e w (fun v w' => put N e o.dst v fun e' => ih e' w') (fun v w' => put N e o.dst v fun e' => ih e' w'))
      (fun e => put N e o.dst undef fun e' => ih e' w)) l

def lift (N : Nat) (Q : Exit → Env → World → Prop) : Exit → Act → World → Prop := fun ex a w => a.defers = [] ∧ a.tmps.size = N ∧ Q ex (toEnv a) w
def Wp (P : Program) (N : Nat) (c : Code) (Q : Exit → Env → World → Prop) (e : Env) (w : World) : Prop :=
  ∀ a : Act, a.defers = [] → a.tmps.size = N → toEnv a = e → c.wp P (lift N Q) a w
noncomputable def memR (s : Nat) (l : List (Nat × Nat)) : Bool := @List.rec (Nat × Nat) (fun _ => Bool) false (fun p _ ih => bif Nat.ble p.1 s then (bif Nat.ble s p.2 then true else ih) else ih) l
def wrOps : List Oper → List Nat
  | [] => []
  | o :: r => match o.dst with | some d => d :: wrOps r | none => wrOps r
def writes : Code → List Nat
  | .seq a b => writes a ++ writes b
  | .cond _ t f => writes t ++ writes f
  | .block _ b => writes b
  | .loop b => writes b
  | .region _ ops _ => wrOps ops.toList
  | _ => []
def Same (ws : List Nat) (e e' : Env) : Prop := ∀ s, s ∉ ws → e' s = e s
theorem Same.refl (ws : List Nat) (e : Env) : Same ws e e := fun _ _ => rfl
structure LoopW (P : Program) (N : Nat) (c : Code) (Q : Exit → Env → World → Prop) (e : Env) (w : World) : Prop where
  ex : Wp P N (.loop c) (fun ex e' w' => Q ex e' w' ∧ Same (writes c) e e') e w
structure DrawW (P : Program) (N : Nat) (id : Nat) (ops : Array Oper) (Q : Exit → Env → World → Prop) (e : Env) (w : World) : Prop where
  ex : Wp P N (.region id ops true) (fun ex e' w' => Q ex e' w' ∧ Same (wrOps ops.toList) e e') e w

def vc (P : Program) (N : Nat) (c : Code) : (Exit → Env → World → Prop) → Env → World → Prop :=
  @Code.rec (fun _ => (Exit → Env → World → Prop) → Env → World → Prop)
    (fun Q e w => Q .normal e w)
    (fun id ops draw Q e w => bif draw then DrawW P N id ops Q e w else vcOps P N ops.toList (fun e w => Q .normal e w) ops.toList e w)
    (fun _ _ iha ihb Q e w => iha (fun ex e w => match ex with | .normal => ihb Q e w | ex => Q ex e w) e w)
    (fun c _ _ iht ihf Q e w => match ev e c with | .bool b => Cnd b (iht Q e w) (ihf Q e w) | _ => False)
    (fun id _ ih Q e w => ih (fun ex e w => match ex with | .exit i => (bif Nat.beq i id then Q .normal e w else Q (.exit i) e w) | ex => Q ex e w) e w)
    (fun b _ Q e w => LoopW P N b Q e w)
    (fun _ _ _ _ _ _ _ _ _ => False)
    (fun id Q e w => Q (.exit id) e w)
    (fun _ _ _ _ _ => False)
    (fun _ _ _ _ => False)
    (fun _ _ _ _ => False)
    (fun Q e w => Q .ret e w)
    (fun _ _ _ _ => False) c

/-! soundness -/
theorem ev_eq (a : Act) (x : Operand) : a.eval x = ev (toEnv a) x := by cases x <;> rfl
theorem ev_fun (a : Act) : a.eval = ev (toEnv a) := funext (ev_eq a)
theorem toEnv_put (a : Act) (d : Nat) (v : Value) (h : d < a.tmps.size) : toEnv (a.put (some d) v) = upd (toEnv a) d v := by
  funext s
  simp only [toEnv, Act.put, upd, Array.getD_eq_getD_getElem?, Array.getElem?_setIfInBounds]
  by_cases hs : d = s
  · subst hs
    have hb : Nat.beq d d = true := Nat.beq_refl d
    simp [h]
  · have : Nat.beq d s = false := by
      cases hb : Nat.beq d s
      · rfl
      · exact absurd (Nat.eq_of_beq_eq_true hb) hs
    simp [hs, this]
theorem size_put (a : Act) (d : Option Nat) (v : Value) : (a.put d v).tmps.size = a.tmps.size := by cases d <;> simp [Act.put]
theorem defers_put (a : Act) (d : Option Nat) (v : Value) : (a.put d v).defers = a.defers := by cases d <;> rfl
theorem upd_self (e : Env) (d : Nat) (v : Value) (h : e d = v) : upd e d v = e := by
  funext s
  simp only [upd]
  cases hb : Nat.beq d s
  · rfl
  · have := Nat.eq_of_beq_eq_true hb
    subst this
    exact h.symm
theorem nthOp_eq : ∀ (l : List Oper) (j : Nat), nthOp l j = l[j]?
  | [], _ => rfl
  | _ :: _, 0 => rfl
  | _ :: r, n + 1 => nthOp_eq r n
theorem nth_eq : ∀ (l : List Value) (j : Nat), nth l j = l[j]?.getD undef
  | [], _ => rfl
  | _ :: _, 0 => rfl
  | _ :: r, n + 1 => nth_eq r n

/-- what an operation's result owes -/
def isStore : Op → Bool
  | .store _ _ _ => true
  | _ => false
def Upon (P : Program) (st : Bool) (w : World) (K Kc : Value → World → Prop) : Result Next → Prop
  | .ok (.value v) w' => K v w'
  | .ok .skip w' => st = true ∧ K undef w'
  | .ok (.enter f args) w' => w' = w ∧ Calls P f args w fun e w'' => ∃ v, e = .returned v ∧ Kc v w''
  | _ => False
theorem wp_of_runV {P : Program} {o : Oper} {a : Act} {w : World} {st : Bool} {s : Sem Value} {g : Tag} {K Kc : Value → World → Prop}
    (ho : execOp a.eval o = (do pure (.value (← s)))) (h : RunV g P s w K) : Upon P st w K Kc ((execOp a.eval o).run P w) := by
  obtain ⟨v, w', hr, hK⟩ := h.ex
  rw [ho]
  simp only [Sem.run_bind, hr, Result.andThen_ok, Sem.run_pure]
  exact hK
theorem wp_of_runU {P : Program} {o : Oper} {a : Act} {w : World} {s : Sem Unit} {g : Tag} {K Kc : Value → World → Prop}
    (ho : execOp a.eval o = (do s; pure .skip)) (h : RunU g P s w fun w' => K undef w') : Upon P true w K Kc ((execOp a.eval o).run P w) := by
  obtain ⟨w', hr, hK⟩ := h.ex
  rw [ho]
  simp only [Sem.run_bind, hr, Result.andThen_ok, Sem.run_pure]
  exact ⟨rfl, hK⟩
theorem wp_of_val {P : Program} {o : Oper} {a : Act} {w : World} {st : Bool} {v : Value} {K Kc : Value → World → Prop}
    (ho : (execOp a.eval o).run P w = .ok (.value v) w) (hk : K v w) : Upon P st w K Kc ((execOp a.eval o).run P w) := by
  rw [ho]
  exact hk

theorem bin_sound {P : Program} {op : BinOp} {t : TypeId} {x y : Operand} {a : Act} {w : World} {K : Value → World → Prop} (h : vcBin op (ev (toEnv a) x) (ev (toEnv a) y) (fun v => K v w) (RunV .bin P (do eqGuard op t x y (ev (toEnv a) x) (ev (toEnv a) y); binOp op t (ev (toEnv a) x) (ev (toEnv a) y)) w K)) :
    RunV .bin P (do eqGuard op t x y (ev (toEnv a) x) (ev (toEnv a) y); binOp op t (ev (toEnv a) x) (ev (toEnv a) y)) w K := by
  generalize ev (toEnv a) x = u at *
  generalize ev (toEnv a) y = v at *
  unfold vcBin at h
  split at h
  · rename_i m n
    have hg : (eqGuard op t x y (.int .i64 m) (.int .i64 n)).run P w = .ok () w := by
      unfold eqGuard
      cases op <;> simp
    refine ⟨?_⟩
    simp only [Sem.run_bind, hg, Result.andThen_ok]
    cases op <;> simp only at h
    case add => exact ⟨_, _, by simp only [binOp, Op.intArith, ne_eq, not_true_eq_false, if_false, Sem.run_pure], h.ex⟩
    case sub => exact ⟨_, _, by simp only [binOp, Op.intArith, ne_eq, not_true_eq_false, if_false, Sem.run_pure], h.ex⟩
    case mul => exact ⟨_, _, by simp only [binOp, Op.intArith, ne_eq, not_true_eq_false, if_false, Sem.run_pure], h.ex⟩
    case quo => exact ⟨_, _, by simp only [binOp, Op.intDiv, h.1, ne_eq, not_true_eq_false, if_false, Sem.run_pure], h.2.ex⟩
    case rem => exact ⟨_, _, by simp only [binOp, Op.intDiv, h.1, ne_eq, not_true_eq_false, if_false, Sem.run_pure], h.2.ex⟩
    case eql => exact ⟨_, _, by simp only [binOp, Op.intCmp, ne_eq, not_true_eq_false, if_false, Sem.run_pure] <;> rfl, h⟩
    case neq => exact ⟨_, _, by simp only [binOp, Op.intCmp, ne_eq, not_true_eq_false, if_false, Sem.run_pure] <;> rfl, h⟩
    case lss => exact ⟨_, _, by simp only [binOp, Op.intCmp, ne_eq, not_true_eq_false, if_false, Sem.run_pure] <;> rfl, h⟩
    case leq => exact ⟨_, _, by simp only [binOp, Op.intCmp, ne_eq, not_true_eq_false, if_false, Sem.run_pure] <;> rfl, h⟩
    case gtr => exact ⟨_, _, by simp only [binOp, Op.intCmp, ne_eq, not_true_eq_false, if_false, Sem.run_pure] <;> rfl, h⟩
    case geq => exact ⟨_, _, by simp only [binOp, Op.intCmp, ne_eq, not_true_eq_false, if_false, Sem.run_pure] <;> rfl, h⟩
    case shl => exact ⟨_, _, by simp only [binOp, Op.shift, if_neg (Int.not_lt.2 h.1), Sem.run_pure]; rfl, h.2.ex⟩
    case shr => exact ⟨_, _, by simp only [binOp, Op.shift, if_neg (Int.not_lt.2 h.1), Sem.run_pure]; rfl, h.2.ex⟩
    case and => exact ⟨_, _, by simp only [binOp, Op.intBits, ne_eq, not_true_eq_false, if_false, Sem.run_pure]; rfl, h⟩
    case or => exact ⟨_, _, by simp only [binOp, Op.intBits, ne_eq, not_true_eq_false, if_false, Sem.run_pure]; rfl, h⟩
    case xor => exact ⟨_, _, by simp only [binOp, Op.intBits, ne_eq, not_true_eq_false, if_false, Sem.run_pure]; rfl, h⟩
    all_goals
      obtain ⟨v, w', hr, hK⟩ := h.ex
      simp only [Sem.run_bind, hg, Result.andThen_ok] at hr
      exact ⟨v, w', hr, hK⟩
  · exact h

theorem map_arr {α β : Type} (f : α → β) (a : Array α) : a.map f = (a.toList.map f).toArray := by rw [← Array.toList_map, Array.toArray_toList]
theorem op_run {P : Program} {o : Oper} {a : Act} {w : World} {K Kc : Value → World → Prop} (h : vcOp P o (toEnv a) w K Kc) : Upon P (isStore o.op) w K Kc ((execOp a.eval o).run P w) := by
  obtain ⟨dst, op, type, pos, after, guard⟩ := o
  have hev : a.eval = ev (toEnv a) := ev_fun a
  cases op <;> simp only [vcOp, force_eq, forceL_eq, forceP_eq, forceO_eq] at h
  case move x => exact wp_of_val (by simp only [execOp, hev, Sem.run_pure]) h
  case assign x => exact wp_of_val (by simp only [execOp, hev, Sem.run_pure]) h
  case pick c x y =>
    split at h
    · rename_i t ht
      cases t
      · have h2 := h.f rfl
        exact wp_of_val (by simp [execOp, hev, ht, asBool]) h2
      · have h1 := h.t rfl
        exact wp_of_val (by simp [execOp, hev, ht, asBool]) h1
    · exact h.elim
  case binOp op t x y yt => exact wp_of_runV (by simp only [execOp, hev]) (bin_sound h)
  case unOp op t x =>
    split at h
    · rename_i b hb; exact wp_of_val (by simp [execOp, hev, hb, Op.unary]) h
    · rename_i n hn; exact wp_of_val (by simp [execOp, hev, hn, Op.unary, Op.intArith]) h.ex
    · exact h.elim
  case load => exact wp_of_runV (by simp only [execOp, hev]) h
  case store => exact wp_of_runU (by simp only [execOp, hev]) h
  case indexAddr => exact wp_of_runV (by simp only [execOp, hev]) h
  case slice => exact wp_of_runV (by simp only [execOp, hev]) h
  case makeSlice => exact wp_of_runV (by simp only [execOp, hev]) h
  case buildSlice t n parts => exact wp_of_runV (by simp only [execOp, hev, map_arr]) h
  case build t parts => exact wp_of_runV (by simp only [execOp, hev, map_arr]) h
  case box => exact wp_of_runV (by simp only [execOp, hev]) h
  case alloc => exact wp_of_runV (by simp only [execOp]) h
  case fieldAddr => exact wp_of_runV (by simp only [execOp, hev]) h
  case field => exact wp_of_runV (by simp only [execOp, hev]) h
  case convert => exact wp_of_runV (by simp only [execOp, hev]) h
  case nilCheck x =>
    split at h
    · rename_i p hp; exact wp_of_val (by simp [execOp, hev, hp]) h
    · exact h.elim
  case extract t ix =>
    split at h
    · rename_i vs hvs
      have hl : ix < vs.toList.length := by
        rcases Nat.lt_or_ge ix vs.toList.length with h1 | h1
        · exact h1
        · rw [Nat.ble_eq_true_of_le h1] at h; exact h.elim
      have hb : Nat.ble vs.toList.length ix = false := by
        cases hb : Nat.ble vs.toList.length ix with
        | false => rfl
        | true => have := Nat.le_of_ble_eq_true hb; omega
      rw [hb, nth_eq] at h
      have h : K (vs.toList[ix]?.getD undef) w := h
      refine wp_of_val ?_ h
      have hx : vs[ix]? = some (vs.toList[ix]?.getD undef) := by
        rw [← Array.getElem?_toList, List.getElem?_eq_getElem hl]; rfl
      simp only [execOp, hev, hvs, Instr.extract, hx, Sem.run_bind, Sem.run_pure, Result.andThen_ok]
    · exact h.elim
  case call c =>
    obtain ⟨callee, args, argTypes⟩ := c
    have hargs : args.map a.eval = (args.toList.map (ev (toEnv a))).toArray := by rw [hev, map_arr]
    cases callee with
    | invoke r m => exact h.elim
    | builtin b =>
      cases b <;> first
        | exact False.elim h
        | exact wp_of_runV (by simp only [execOp, resolve, invoke, builtin, hargs]; rfl) h
    | value x =>
      cases x with
      | func f =>
        have hr : (execOp a.eval { dst, op := .call ⟨.value (.func f), args, argTypes⟩, type, pos, after, guard }).run P w = .ok (.enter f (args.toList.map (ev (toEnv a))).toArray) w := by
          have hc := h.can (args.toList.map (ev (toEnv a))).toArray w
          have hf : a.eval (.func f) = .func (.func f) #[] #[] := rfl
          simp only [execOp, resolve, hf, Deferred.ofValue, Sem.run_bind, Sem.run_pure, Result.andThen_ok, invoke, hargs, Array.empty_append, Array.append_empty]
          exact hc
        rw [hr]
        exact ⟨rfl, h.ex⟩
      | tmp t => exact h.elim
      | const v => exact h.elim
      | global g => exact h.elim
  all_goals exact h.elim

theorem op_sound {P : Program} {o : Oper} {a : Act} {w : World} {next : Act → World → Prop} {Q : Exit → Act → World → Prop} {K : Value → World → Prop}
    (h : vcOp P o (toEnv a) w K K) (hk : ∀ v w', K v w' → next (a.put o.dst v) w') : o.wp P a w next Q := by
  have hr := op_run h
  unfold Oper.wp
  generalize (execOp a.eval o).run P w = r at *
  cases r with
  | ok n w' =>
    cases n <;> simp only [Upon] at hr <;> simp only [Oper.upon]
    case value v => exact hk _ _ hr
    case skip => exact hk _ _ hr.2
    case enter f args =>
      obtain ⟨rfl, hc⟩ := hr
      exact hc.mono fun e w'' ⟨v, he, hK⟩ => by subst he; exact hk _ _ hK
  | halt x w' => simp only [Upon] at hr

theorem put_sound {N : Nat} {a : Act} {dst : Option Nat} {v : Value} {K : Env → Prop} (hN : a.tmps.size = N) (h : put N (toEnv a) dst v K) : K (toEnv (a.put dst v)) := by
  cases dst with
  | none => exact h
  | some d =>
    simp only [put] at h
    cases hb : Nat.ble N d with
    | true => rw [hb] at h; exact h.elim
    | false =>
      rw [hb] at h
      have hlt : d < a.tmps.size := by
        rw [hN]
        rcases Nat.lt_or_ge d N with h1 | h1
        · exact h1
        · rw [Nat.ble_eq_true_of_le h1] at hb; cases hb
      rw [toEnv_put a d v hlt]
      exact h

theorem same_put {a : Act} {dst : Option Nat} {v : Value} {ws : List Nat} {e' : Env} {o : Oper} {rest : List Oper} (ho : o.dst = dst) (hws : ws = wrOps rest) (h : Same ws (toEnv (a.put dst v)) e') : Same (wrOps (o :: rest)) (toEnv a) e' := by
  intro s hs
  subst hws
  cases dst with
  | none =>
    simp only [wrOps, ho] at hs
    exact h s hs
  | some d =>
    simp only [wrOps, ho, List.mem_cons, not_or] at hs
    rw [h s hs.2]
    simp only [toEnv, Act.put, Array.getD_eq_getD_getElem?, Array.getElem?_setIfInBounds]
    rw [if_neg (fun hd => hs.1 hd.symm)]

theorem ops_sound {P : Program} {N : Nat} {ops : Array Oper} {K : Env → World → Prop} : ∀ (l : List Oper) (Q : Exit → Env → World → Prop) (a : Act) (w : World), a.defers = [] → a.tmps.size = N →
    vcOps P N ops.toList K l (toEnv a) w → (∀ e' w', K e' w' → Same (wrOps l) (toEnv a) e' → Q .normal e' w') → wpList P ops (lift N Q) l a w
  | [], Q, a, w, hd, hN, h, hq => ⟨hd, hN, hq _ _ h (Same.refl _ _)⟩
  | o :: rest, Q, a, w, hd, hN, h, hq => by
    have ih := fun a' w' hd hN h hq => ops_sound (P := P) (N := N) (ops := ops) (K := K) rest Q a' w' hd hN h hq
    have h : vcGuard ops.toList o.guard (toEnv a) (fun e => vcOp P o e w (fun v w' => put N e o.dst v fun e' => vcOps P N ops.toList K rest e' w') (fun v w' => put N e o.dst v fun e' => vcOps P N ops.toList K rest e' w'))
      (fun e => put N e o.dst undef fun e' => vcOps P N ops.toList K rest e' w) := h
    have hrun : ∀ e, e = toEnv a → (vcOp P o e w (fun v w' => put N e o.dst v fun e' => vcOps P N ops.toList K rest e' w') (fun v w' => put N e o.dst v fun e' => vcOps P N ops.toList K rest e' w')) → o.wp P a w (wpList P ops (lift N Q) rest) (lift N Q) := by
      rintro e rfl h
      refine op_sound h fun v w' hp => ?_
      exact ih _ _ (by rw [defers_put]; exact hd) (by rw [size_put]; exact hN) (put_sound hN hp) fun e' w'' hk hs => hq e' w'' hk (same_put rfl rfl hs)
    have hskip : ∀ e, e = toEnv a → (put N e o.dst undef fun e' => vcOps P N ops.toList K rest e' w) → wpList P ops (lift N Q) rest (a.put o.dst undef) w := by
      rintro e rfl h
      exact ih _ _ (by rw [defers_put]; exact hd) (by rw [size_put]; exact hN) (put_sound hN h) fun e' w'' hk hs => hq e' w'' hk (same_put rfl rfl hs)
    unfold vcGuard at h
    split at h
    · rename_i hg
      unfold wpList
      rw [if_pos (by simp [Region.wanted, hg])]
      exact .inl (hrun _ rfl h)
    · rename_i j want hg
      split at h
      · rename_i oj hoj
        split at h
        · rename_i d hdst
          have hlt : ∀ b, toEnv a d = .bool b → yielded ops a.tmps j = some b := by
            intro b hb
            rw [nthOp_eq, Array.getElem?_toList] at hoj
            have : a.tmps[d]? = some (.bool b) := by
              simp only [toEnv, Array.getD_eq_getD_getElem?] at hb
              cases ht : a.tmps[d]? with
              | none => rw [ht] at hb; simp [undef] at hb
              | some u => rw [ht] at hb; simp at hb; rw [hb]
            simp [yielded, hoj, hdst, this]
          split at h
          · rename_i b hb
            have hy := hlt b hb
            unfold wpList
            cases b <;> cases want <;> simp only [cond_true, cond_false] at h
            · rw [if_pos (by simp [Region.wanted, hg, hy])]
              exact .inl (hrun _ (upd_self _ _ _ hb) (h.f rfl))
            · rw [if_neg (by simp [Region.wanted, hg, hy])]
              exact hskip _ (upd_self _ _ _ hb) (h.f rfl)
            · rw [if_neg (by simp [Region.wanted, hg, hy])]
              exact hskip _ (upd_self _ _ _ hb) (h.t rfl)
            · rw [if_pos (by simp [Region.wanted, hg, hy])]
              exact .inl (hrun _ (upd_self _ _ _ hb) (h.t rfl))
          · rename_i vs hvs
            have hy : yielded ops a.tmps j = none := by
              rw [nthOp_eq, Array.getElem?_toList] at hoj
              simp only [toEnv, Array.getD_eq_getD_getElem?] at hvs
              cases ht : a.tmps[d]? with
              | none => simp [yielded, hoj, hdst, ht]
              | some u => rw [ht] at hvs; simp at hvs; subst hvs; simp [yielded, hoj, hdst, ht]
            unfold wpList
            rw [if_neg (by simp [Region.wanted, hg, hy])]
            exact hskip _ rfl h
          · exact h.elim
        · exact h.elim
      · exact h.elim

theorem same_left {x y : List Nat} {e e' : Env} (h : Same x e e') : Same (x ++ y) e e' := fun s hs => h s (fun hx => hs (List.mem_append_left _ hx))
theorem same_right {x y : List Nat} {e e' : Env} (h : Same y e e') : Same (x ++ y) e e' := fun s hs => h s (fun hx => hs (List.mem_append_right _ hx))
theorem same_both {x y : List Nat} {e e' e'' : Env} (h : Same x e e') (k : Same y e' e'') : Same (x ++ y) e e'' := fun s hs =>
  (k s (fun hx => hs (List.mem_append_right _ hx))).trans (h s (fun hx => hs (List.mem_append_left _ hx)))

theorem vc_sound {P : Program} {N : Nat} : ∀ (c : Code) (Q Q' : Exit → Env → World → Prop) (e : Env) (w : World), vc P N c Q e w → (∀ ex e' w', Q ex e' w' → Same (writes c) e e' → Q' ex e' w') → Wp P N c Q' e w
  | .skip, Q, Q', e, w, h, hq => fun a hd hN he => wp_skip ⟨hd, hN, by rw [he]; exact hq _ _ _ h (Same.refl _ _)⟩
  | .seq x y, Q, Q', e, w, h, hq => fun a hd hN he => by
    have hx := vc_sound x _ (fun ex e1 w1 => Same (writes x) e e1 ∧ (match ex with | .normal => vc P N y Q e1 w1 | ex => Q ex e1 w1)) e w h (fun ex e1 w1 h1 h2 => ⟨h2, h1⟩) a hd hN he
    refine wp_seq (wp_mono hx fun ex a' w' hq' => ?_)
    obtain ⟨hd', hN', hs, hq'⟩ := hq'
    cases ex with
    | normal => exact vc_sound y Q Q' _ w' hq' (fun ex e2 w2 h1 h2 => hq _ _ _ h1 (same_both hs h2)) a' hd' hN' rfl
    | exit id => exact ⟨hd', hN', hq _ _ _ hq' (same_left hs)⟩
    | goto l => exact ⟨hd', hN', hq _ _ _ hq' (same_left hs)⟩
    | ret => exact ⟨hd', hN', hq _ _ _ hq' (same_left hs)⟩
    | panic ch => exact ⟨hd', hN', hq _ _ _ hq' (same_left hs)⟩
    | outgrown => exact ⟨hd', hN', hq _ _ _ hq' (same_left hs)⟩
  | .cond c t f, Q, Q', e, w, h, hq => fun a hd hN he => by
    have h : match ev e c with | .bool b => Cnd b (vc P N t Q e w) (vc P N f Q e w) | _ => False := h
    split at h
    · rename_i b hb
      subst he
      exact wp_cond_split (by rw [ev_eq]; exact hb) (fun ht => vc_sound t Q Q' _ w (h.t ht) (fun ex e1 w1 h1 h2 => hq _ _ _ h1 (same_left h2)) a hd hN rfl) (fun hf => vc_sound f Q Q' _ w (h.f hf) (fun ex e1 w1 h1 h2 => hq _ _ _ h1 (same_right h2)) a hd hN rfl)
    · exact h.elim
  | .block id b, Q, Q', e, w, h, hq => fun a hd hN he => by
    have hx := vc_sound b _ (fun ex e1 w1 => Same (writes b) e e1 ∧ (match ex with | .exit i => (bif Nat.beq i id then Q .normal e1 w1 else Q (.exit i) e1 w1) | ex => Q ex e1 w1)) e w h (fun ex e1 w1 h1 h2 => ⟨h2, h1⟩) a hd hN he
    refine wp_block (wp_mono hx fun ex a' w' hq' => ?_)
    obtain ⟨hd', hN', hs, hq'⟩ := hq'
    cases ex with
    | exit i =>
      simp only [Exit.inBlock]
      simp only at hq'
      cases hb : Nat.beq i id with
      | true => rw [hb] at hq'; rw [if_pos (Nat.eq_of_beq_eq_true hb)]; exact ⟨hd', hN', hq _ _ _ hq' hs⟩
      | false =>
        rw [hb] at hq'
        rw [if_neg (fun he => by subst he; rw [Nat.beq_refl] at hb; cases hb)]
        exact ⟨hd', hN', hq _ _ _ hq' hs⟩
    | normal => exact ⟨hd', hN', hq _ _ _ hq' hs⟩
    | goto l => exact ⟨hd', hN', hq _ _ _ hq' hs⟩
    | ret => exact ⟨hd', hN', hq _ _ _ hq' hs⟩
    | panic ch => exact ⟨hd', hN', hq _ _ _ hq' hs⟩
    | outgrown => exact ⟨hd', hN', hq _ _ _ hq' hs⟩
  | .exit id, Q, Q', e, w, h, hq => fun a hd hN he => wp_exit ⟨hd, hN, by rw [he]; exact hq _ _ _ h (Same.refl _ _)⟩
  | .ret, Q, Q', e, w, h, hq => fun a hd hN he => wp_ret ⟨hd, hN, by rw [he]; exact hq _ _ _ h (Same.refl _ _)⟩
  | .loop b, Q, Q', e, w, h, hq => fun a hd hN he => wp_mono (LoopW.ex h a hd hN he) fun ex a' w' ⟨hd', hN', h1, h2⟩ => ⟨hd', hN', hq _ _ _ h1 h2⟩
  | .region id ops draw, Q, Q', e, w, h, hq => by
    cases draw with
    | true => exact fun a hd hN he => wp_mono (DrawW.ex h a hd hN he) fun ex a' w' ⟨hd', hN', h1, h2⟩ => ⟨hd', hN', hq _ _ _ h1 h2⟩
    | false =>
      intro a hd hN he
      subst he
      exact wp_region_list (ops_sound ops.toList Q' a w hd hN h fun e' w' h1 h2 => hq _ _ _ h1 h2)
  | .rangeFunc .., _, _, _, _, h, _ => h.elim
  | .scope _, _, _, _, _, h, _ => h.elim
  | .label _, _, _, _, _, h, _ => h.elim
  | .goto _, _, _, _, _, h, _ => h.elim
  | .refuse _, _, _, _, _, h, _ => h.elim

/-! a region that draws its order and leaves a class of worlds -/
structure QS (P : Program) (C : World → Prop) (o : Oper) (e : Env) (K : Value → Prop) : Prop where
  ex : ∃ v, (∀ w, C w → vcOp P o e w (fun v' w' => v' = v ∧ w' = w) (fun v' w' => v' = v ∧ C w')) ∧ K v
def vcQOp (P : Program) (C : World → Prop) (o : Oper) (e : Env) (K : Value → Prop) : Prop :=
  match o.op with
  | .move x => force (ev e x) K
  | .assign x => force (ev e x) K
  | .pick c a b =>
    match ev e c with
    | .bool t => Cnd t (force (ev e a) K) (force (ev e b) K)
    | _ => False
  | .binOp op _ x y _ => force (ev e x) fun vx => force (ev e y) fun vy => vcBin op vx vy K (QS P C o e K)
  | .unOp op _ x =>
    match op, ev e x with
    | .not, .bool b => K (.bool (!b))
    | _, _ => False
  | _ => QS P C o e K
def vcQ (P : Program) (N : Nat) (ops : List Oper) (C : World → Prop) (K : Env → Prop) (l : List Oper) : Env → Prop :=
  @List.rec Oper (fun _ => Env → Prop) K (fun o _ ih e =>
    vcGuard ops o.guard e (fun e => vcQOp P C o e fun v => put N e o.dst v fun e' => ih e')
      (fun e => put N e o.dst undef fun e' => ih e')) l
theorem qs {P : Program} {C : World → Prop} {o : Oper} {e : Env} {K : Value → Prop} {v : Value} (h : ∀ w, C w → vcOp P o e w (fun v' w' => v' = v ∧ w' = w) (fun v' w' => v' = v ∧ C w')) (hk : K v) : QS P C o e K := ⟨v, h, hk⟩
theorem vcBin_ex {op : BinOp} {x y : Value} {K : Value → Prop} {other : Prop} (h : vcBin op x y K other) : (∃ v, (∀ other', vcBin op x y (fun v' => v' = v) other') ∧ K v) ∨ other := by
  unfold vcBin at h
  split at h
  · cases op <;> simp only at h
    case add => exact Or.inl ⟨_, fun _ => ⟨rfl⟩, h.ex⟩
    case sub => exact Or.inl ⟨_, fun _ => ⟨rfl⟩, h.ex⟩
    case mul => exact Or.inl ⟨_, fun _ => ⟨rfl⟩, h.ex⟩
    case quo => exact Or.inl ⟨_, fun _ => ⟨h.1, ⟨rfl⟩⟩, h.2.ex⟩
    case rem => exact Or.inl ⟨_, fun _ => ⟨h.1, ⟨rfl⟩⟩, h.2.ex⟩
    case shl => exact Or.inl ⟨_, fun _ => ⟨h.1, ⟨rfl⟩⟩, h.2.ex⟩
    case shr => exact Or.inl ⟨_, fun _ => ⟨h.1, ⟨rfl⟩⟩, h.2.ex⟩
    all_goals first
      | exact Or.inl ⟨_, fun _ => rfl, h⟩
      | exact Or.inr h
  · exact Or.inr h
theorem qop_ex {P : Program} {C : World → Prop} {o : Oper} {e : Env} {K : Value → Prop} (h : vcQOp P C o e K) : ∃ v, (∀ w, C w → vcOp P o e w (fun v' w' => v' = v ∧ w' = w) (fun v' w' => v' = v ∧ C w')) ∧ K v := by
  obtain ⟨dst, op, type, pos, after, guard⟩ := o
  cases op <;> simp only [vcQOp] at h
  case move x => rw [force_eq] at h; exact ⟨_, fun w hw => by simp only [vcOp, force_eq]; simp, h⟩
  case assign x => rw [force_eq] at h; exact ⟨_, fun w hw => by simp only [vcOp, force_eq]; simp, h⟩
  case pick c x y =>
    split at h
    · rename_i t ht
      cases t
      · have h2 := h.f rfl
        rw [force_eq] at h2
        exact ⟨_, fun w hw => by simp only [vcOp, ht, force_eq]; exact ⟨(fun h => by cases h), fun _ => (by simp)⟩, h2⟩
      · have h1 := h.t rfl
        rw [force_eq] at h1
        exact ⟨_, fun w hw => by simp only [vcOp, ht, force_eq]; exact ⟨fun _ => (by simp), (fun h => by cases h)⟩, h1⟩
    · exact h.elim
  case binOp op t x y yt =>
    rw [force_eq, force_eq] at h
    rcases vcBin_ex h with ⟨v, hv, hk⟩ | h
    · refine ⟨v, fun w hw => ?_, hk⟩
      simp only [vcOp, force_eq]
      simp only [and_true]
      exact hv _
    · exact h.ex
  case unOp op t x =>
    split at h
    · rename_i b hb; exact ⟨_, fun w hw => by simp only [vcOp, hb]; simp, h⟩
    · exact h.elim
  all_goals exact h.ex
theorem q_sound {P : Program} {N : Nat} {ops : Array Oper} {C : World → Prop} {K : Env → Prop} : ∀ (l : List Oper) (Q : Env → Prop) (a : Act), a.defers = [] → a.tmps.size = N →
    vcQ P N ops.toList C K l (toEnv a) → (∀ e', K e' → Same (wrOps l) (toEnv a) e' → Q e') → wpQuiet P ops C (fun a' => a'.defers = [] ∧ a'.tmps.size = N ∧ Q (toEnv a')) l a
  | [], Q, a, hd, hN, h, hq => ⟨hd, hN, hq _ h (Same.refl _ _)⟩
  | o :: rest, Q, a, hd, hN, h, hq => by
    have ih := fun a' hd hN h hq => q_sound (P := P) (N := N) (ops := ops) (C := C) (K := K) rest Q a' hd hN h hq
    have h : vcGuard ops.toList o.guard (toEnv a) (fun e => vcQOp P C o e fun v => put N e o.dst v fun e' => vcQ P N ops.toList C K rest e')
      (fun e => put N e o.dst undef fun e' => vcQ P N ops.toList C K rest e') := h
    have hrun : ∀ e, e = toEnv a → (vcQOp P C o e fun v => put N e o.dst v fun e' => vcQ P N ops.toList C K rest e') → o.quiet P a C (wpQuiet P ops C (fun a' => a'.defers = [] ∧ a'.tmps.size = N ∧ Q (toEnv a')) rest) := by
      rintro e rfl h
      obtain ⟨v, h1, h2⟩ := qop_ex h
      refine ⟨v, fun w hw => ?_, ih _ (by rw [defers_put]; exact hd) (by rw [size_put]; exact hN) (put_sound hN h2) fun e' hk hs => hq e' hk (same_put rfl rfl hs)⟩
      have hr := op_run (h1 w hw)
      unfold Oper.quietAt
      generalize (execOp a.eval o).run P w = r at *
      cases r with
      | ok n w' =>
        cases n <;> simp only [Upon] at hr <;> simp only [Oper.quietUpon]
        case value u => exact ⟨hr.2, hr.1⟩
        case skip => exact ⟨hr.2.2, hr.2.1.symm⟩
        case enter f args =>
          obtain ⟨rfl, hc⟩ := hr
          exact ⟨rfl, hc.mono fun e w'' ⟨v', he, hv, hC⟩ => ⟨by rw [he, hv], hC⟩⟩
      | halt x w' => simp only [Upon] at hr
    have hskip : ∀ e, e = toEnv a → (put N e o.dst undef fun e' => vcQ P N ops.toList C K rest e') → wpQuiet P ops C (fun a' => a'.defers = [] ∧ a'.tmps.size = N ∧ Q (toEnv a')) rest (a.put o.dst undef) := by
      rintro e rfl h
      exact ih _ (by rw [defers_put]; exact hd) (by rw [size_put]; exact hN) (put_sound hN h) fun e' hk hs => hq e' hk (same_put rfl rfl hs)
    unfold vcGuard at h
    split at h
    · rename_i hg
      unfold wpQuiet
      rw [if_pos (by simp [Region.wanted, hg])]
      exact hrun _ rfl h
    · rename_i j want hg
      split at h
      · rename_i oj hoj
        split at h
        · rename_i d hdst
          have hlt : ∀ b, toEnv a d = .bool b → yielded ops a.tmps j = some b := by
            intro b hb
            rw [nthOp_eq, Array.getElem?_toList] at hoj
            have : a.tmps[d]? = some (.bool b) := by
              simp only [toEnv, Array.getD_eq_getD_getElem?] at hb
              cases ht : a.tmps[d]? with
              | none => rw [ht] at hb; simp [undef] at hb
              | some u => rw [ht] at hb; simp at hb; rw [hb]
            simp [yielded, hoj, hdst, this]
          split at h
          · rename_i b hb
            have hy := hlt b hb
            unfold wpQuiet
            cases b <;> cases want <;> simp only [cond_true, cond_false] at h
            · rw [if_pos (by simp [Region.wanted, hg, hy])]
              exact hrun _ (upd_self _ _ _ hb) (h.f rfl)
            · rw [if_neg (by simp [Region.wanted, hg, hy])]
              exact hskip _ (upd_self _ _ _ hb) (h.f rfl)
            · rw [if_neg (by simp [Region.wanted, hg, hy])]
              exact hskip _ (upd_self _ _ _ hb) (h.t rfl)
            · rw [if_pos (by simp [Region.wanted, hg, hy])]
              exact hrun _ (upd_self _ _ _ hb) (h.t rfl)
          · rename_i vs hvs
            have hy : yielded ops a.tmps j = none := by
              rw [nthOp_eq, Array.getElem?_toList] at hoj
              simp only [toEnv, Array.getD_eq_getD_getElem?] at hvs
              cases ht : a.tmps[d]? with
              | none => simp [yielded, hoj, hdst, ht]
              | some u => rw [ht] at hvs; simp at hvs; subst hvs; simp [yielded, hoj, hdst, ht]
            unfold wpQuiet
            rw [if_neg (by simp [Region.wanted, hg, hy])]
            exact hskip _ rfl h
          · exact h.elim
        · exact h.elim
      · exact h.elim
theorem wpQuiet_mono {P : Program} {ops : Array Oper} {C : World → Prop} {Q Q' : Act → Prop} (h : ∀ a, Q a → Q' a) : ∀ (l : List Oper) (a : Act), wpQuiet P ops C Q l a → wpQuiet P ops C Q' l a
  | [], a, k => h a k
  | o :: rest, a, k => by
    unfold wpQuiet at k ⊢
    split
    · rename_i hw; rw [if_pos hw] at k
      exact Oper.quiet_mono (fun a' k' => wpQuiet_mono h rest a' k') k
    · rename_i hw; rw [if_neg hw] at k
      exact wpQuiet_mono h rest _ k
/-- one walk in the text's order serves every order, if every operation is quiet in the class -/
theorem quiet {P : Program} {N id : Nat} {ops : Array Oper} {Q : Exit → Env → World → Prop} {e : Env} {w : World} (C : World → Prop) (hm : P.follows .mixedOrders = true) (hB : Region.lexB .any ops = true) (hC : C { w with drawn := w.drawn + 1 })
    (h : vcQ P N ops.toList C (fun e' => ∀ w', C w' → Q .normal e' w') ops.toList e) : DrawW P N id ops Q e w := by
  refine ⟨fun a hd hN he => ?_⟩
  subst he
  refine wp_region_quiet (C := C) hm hB hC ?_
  have := q_sound (ops := ops) ops.toList (fun e' => (∀ w', C w' → Q .normal e' w') ∧ Same (wrOps ops.toList) (toEnv a) e') a hd hN h fun e' h1 h2 => ⟨h1, h2⟩
  exact wpQuiet_mono (fun a' ⟨hd', hN', h1, h2⟩ w' hw' => ⟨hd', hN', h1 w' hw', h2⟩) _ a this

/-! a region that draws its order, by a plan: some operations yield the same in every world of a class and are taken first; each other one is the only one that may come -/
structure TS (P : Program) (S : World → Prop) (o : Oper) (e : Env) (w : World) (K : Value → Prop) : Prop where
  ex : ∃ v, S w ∧ (∀ w, S w → vcOp P o e w (fun v' w' => v' = v ∧ w' = w) (fun _ _ => False)) ∧ K v
theorem ts {P : Program} {S : World → Prop} {o : Oper} {e : Env} {w : World} {K : Value → Prop} {v : Value} (hS : S w) (h : ∀ w, S w → vcOp P o e w (fun v' w' => v' = v ∧ w' = w) (fun _ _ => False)) (hk : K v) : TS P S o e w K := ⟨v, hS, h, hk⟩
structure SK (S : World → Prop) (w : World) (K : Prop) : Prop where
  s : S w
  k : K
def planStep (P : Program) (N : Nat) (ops : List Oper) (S : World → Prop) (b : Bool) (o : Oper) (K : Env → World → Prop) (e : Env) (w : World) : Prop :=
  bif b then vcGuard ops o.guard e (fun e => TS P S o e w fun v => put N e o.dst v fun e' => K e' w) (fun e => SK S w (put N e o.dst undef fun e' => K e' w))
  else vcGuard ops o.guard e (fun e => vcOp P o e w (fun v w' => SK S w' (put N e o.dst v fun e' => K e' w')) (fun v w' => SK S w' (put N e o.dst v fun e' => K e' w'))) (fun e => SK S w (put N e o.dst undef fun e' => K e' w))
def planAt (P : Program) (N : Nat) (ops : List Oper) (S : World → Prop) (b : Bool) (oo : Option Oper) (K : Env → World → Prop) (e : Env) (w : World) : Prop :=
  match oo with
  | none => False
  | some o => planStep P N ops S b o K e w
inductive Plan where
  | done
  | take (i : Nat) (p : Plan)
  | only (i : Nat) (p : Plan)
  | either (i j : Nat) (p q : Plan)
structure Both (A B : Prop) : Prop where
  a : A
  b : B
def vcPlan (P : Program) (N : Nat) (ops : List Oper) (S : World → Prop) (Q : Env → World → Prop) (pl : Plan) : Env → World → Prop :=
  @Plan.rec (fun _ => Env → World → Prop) Q
    (fun i _ ih e w => planAt P N ops S true (nthOp ops i) ih e w)
    (fun i _ ih e w => planAt P N ops S false (nthOp ops i) ih e w)
    (fun i j _ _ ih ih2 e w => Both (planAt P N ops S false (nthOp ops i) ih e w) (planAt P N ops S false (nthOp ops j) ih2 e w)) pl
def planOk (ops : Array Oper) : Plan → Array Bool → Nat → Bool
  | .done, listed, n => (n == 0) && (Region.ready .any ops listed).isEmpty
  | .take _ _, _, 0 => false
  | .only _ _, _, 0 => false
  | .either _ _ _ _, _, 0 => false
  | .take i p, listed, n + 1 => Region.free .any ops listed i && (Region.ready .any ops listed).contains i && (match ops[i]? with | some o => !isStore o.op | none => false) && planOk ops p (listed.setIfInBounds i true) n
  | .only i p, listed, n + 1 => (Region.ready .any ops listed == [i]) && planOk ops p (listed.setIfInBounds i true) n
  | .either i j p q, listed, n + 1 => (Region.ready .any ops listed == [i, j]) && planOk ops p (listed.setIfInBounds i true) n && planOk ops q (listed.setIfInBounds j true) n
theorem guard_cases {ops : Array Oper} {o : Oper} {a : Act} {run skip : Env → Prop} (h : vcGuard ops.toList o.guard (toEnv a) run skip) : (Region.wanted o (yielded ops a.tmps) = true ∧ run (toEnv a)) ∨ (Region.wanted o (yielded ops a.tmps) = false ∧ skip (toEnv a)) := by
  unfold vcGuard at h
  split at h
  · rename_i hg
    exact Or.inl ⟨by simp [Region.wanted, hg], h⟩
  · rename_i j want hg
    split at h
    · rename_i oj hoj
      split at h
      · rename_i d hdst
        have hlt : ∀ b, toEnv a d = .bool b → yielded ops a.tmps j = some b := by
          intro b hb
          rw [nthOp_eq, Array.getElem?_toList] at hoj
          have : a.tmps[d]? = some (.bool b) := by
            simp only [toEnv, Array.getD_eq_getD_getElem?] at hb
            cases ht : a.tmps[d]? with
            | none => rw [ht] at hb; simp [undef] at hb
            | some u => rw [ht] at hb; simp at hb; rw [hb]
          simp [yielded, hoj, hdst, this]
        split at h
        · rename_i b hb
          have hy := hlt b hb
          cases b <;> cases want <;> simp only [cond_true, cond_false] at h
          · have h := h.f rfl; rw [upd_self _ _ _ hb] at h; exact Or.inl ⟨by simp [Region.wanted, hg, hy], h⟩
          · have h := h.f rfl; rw [upd_self _ _ _ hb] at h; exact Or.inr ⟨by simp [Region.wanted, hg, hy], h⟩
          · have h := h.t rfl; rw [upd_self _ _ _ hb] at h; exact Or.inr ⟨by simp [Region.wanted, hg, hy], h⟩
          · have h := h.t rfl; rw [upd_self _ _ _ hb] at h; exact Or.inl ⟨by simp [Region.wanted, hg, hy], h⟩
        · rename_i vs hvs
          have hy : yielded ops a.tmps j = none := by
            rw [nthOp_eq, Array.getElem?_toList] at hoj
            simp only [toEnv, Array.getD_eq_getD_getElem?] at hvs
            cases ht : a.tmps[d]? with
            | none => simp [yielded, hoj, hdst, ht]
            | some u => rw [ht] at hvs; simp at hvs; subst hvs; simp [yielded, hoj, hdst, ht]
          exact Or.inr ⟨by simp [Region.wanted, hg, hy], h⟩
        · exact h.elim
      · exact h.elim
    · exact h.elim
theorem same_put1 {a : Act} {o : Oper} {v : Value} {ws : List Nat} {e' : Env} (hin : ∀ d, o.dst = some d → d ∈ ws) (h : Same ws (toEnv (a.put o.dst v)) e') : Same ws (toEnv a) e' := by
  intro s hs
  rw [h s hs]
  cases hd : o.dst with
  | none => rfl
  | some d =>
    have : d ≠ s := fun e => hs (e ▸ hin d hd)
    simp [toEnv, Act.put, this]
theorem mem_wrOps {l : List Oper} {o : Oper} {d : Nat} (ho : o ∈ l) (hd : o.dst = some d) : d ∈ wrOps l := by
  induction l with
  | nil => cases ho
  | cons x l ih =>
    have e : wrOps (x :: l) = match x.dst with | some d => d :: wrOps l | none => wrOps l := rfl
    rw [e]
    rcases List.mem_cons.1 ho with rfl | ho
    · rw [hd]; simp
    · cases hx : x.dst with
      | none => exact ih ho
      | some d' => exact List.mem_cons_of_mem _ (ih ho)
theorem plan_only {P : Program} {N : Nat} {ops : Array Oper} {S : World → Prop} {Q : Exit → Env → World → Prop} {i n : Nat} {listed : Array Bool} {a : Act} {w : World} {K : Env → World → Prop}
    (hstep : ∀ (o : Oper) (_ : ops[i]? = some o) (v : Value) (w' : World) (_ : put N (toEnv a) o.dst v fun e' => K e' w'), wpAnyH P .any ops (lift N Q) S n (listed.setIfInBounds i true) (a.put o.dst v) w')
    (h1 : planAt P N ops.toList S false (nthOp ops.toList i) K (toEnv a) w) : wpOp P ops (lift N Q) i (fun a' w' => S w' ∧ wpAnyH P .any ops (lift N Q) S n (listed.setIfInBounds i true) a' w') a w := by
  cases hno : nthOp ops.toList i with
  | none => rw [hno] at h1; exact h1.elim
  | some o =>
    rw [hno] at h1
    have ho := hno
    rw [nthOp_eq, Array.getElem?_toList] at ho
    have h3 : vcGuard ops.toList o.guard (toEnv a) (fun e => vcOp P o e w (fun v w' => SK S w' (put N e o.dst v fun e' => K e' w')) (fun v w' => SK S w' (put N e o.dst v fun e' => K e' w'))) (fun e => SK S w (put N e o.dst undef fun e' => K e' w)) := h1
    unfold wpOp
    simp only [ho]
    rcases guard_cases (ops := ops) h3 with ⟨hw, h4⟩ | ⟨hw, h4⟩
    · rw [if_pos hw]
      exact Or.inl (op_sound h4 fun v w' hk => ⟨hk.s, hstep o ho v w' hk.k⟩)
    · rw [if_neg (by rw [hw]; simp)]
      exact ⟨h4.s, hstep o ho undef w h4.k⟩
theorem plan_sound {P : Program} {N : Nat} {ops : Array Oper} {S : World → Prop} {K : Env → World → Prop} {Q : Exit → Env → World → Prop} (hs : Region.noSelect ops = true) (hp : ∀ c e w, Q (.panic c) e w → False) (pl : Plan) : ∀ (n : Nat) (listed : Array Bool) (a : Act) (w : World), a.defers = [] → a.tmps.size = N → planOk ops pl listed n = true →
    vcPlan P N ops.toList S K pl (toEnv a) w → (∀ e' w', K e' w' → Same (wrOps ops.toList) (toEnv a) e' → Q .normal e' w') → wpAnyH P .any ops (lift N Q) S n listed a w := by
  have hstep : ∀ (r : Plan) (_ : ∀ (n : Nat) (listed : Array Bool) (a : Act) (w : World), a.defers = [] → a.tmps.size = N → planOk ops r listed n = true →
      vcPlan P N ops.toList S K r (toEnv a) w → (∀ e' w', K e' w' → Same (wrOps ops.toList) (toEnv a) e' → Q .normal e' w') → wpAnyH P .any ops (lift N Q) S n listed a w)
      (n i : Nat) (listed : Array Bool) (a : Act) (_ : a.defers = []) (_ : a.tmps.size = N) (_ : planOk ops r (listed.setIfInBounds i true) n = true) (_ : ∀ e' w', K e' w' → Same (wrOps ops.toList) (toEnv a) e' → Q .normal e' w')
      (o : Oper) (_ : ops[i]? = some o) (v : Value) (w' : World) (_ : put N (toEnv a) o.dst v fun e' => vcPlan P N ops.toList S K r e' w'), wpAnyH P .any ops (lift N Q) S n (listed.setIfInBounds i true) (a.put o.dst v) w' :=
    fun r ih n i listed a hd hN hB' hq o ho v w' hk =>
      ih n (listed.setIfInBounds i true) (a.put o.dst v) w' (by rw [defers_put]; exact hd) (by rw [size_put]; exact hN) hB' (put_sound hN hk)
        fun e' w'' h1 h2 => hq e' w'' h1 (same_put1 (fun d hd' => mem_wrOps (Array.mem_toList_iff.2 (Array.mem_of_getElem? ho)) hd') h2)
  have hpp : ∀ (dst : Option Nat) (v : Value) c (a : Act) w, lift N Q (.panic c) (a.put dst v) w → lift N Q (.panic c) a w := fun dst v c a w h => (hp _ _ _ h.2.2).elim
  induction pl with
  | done =>
    intro n listed a w hd hN hB h hq
    simp only [planOk, Bool.and_eq_true, beq_iff_eq, List.isEmpty_iff] at hB
    obtain ⟨rfl, hB⟩ := hB
    exact ⟨hB, hd, hN, hq _ _ h (Same.refl _ _)⟩
  | take i r ih =>
    intro n listed a w hd hN hB h0 hq
    cases n with
    | zero => simp [planOk] at hB
    | succ n =>
      simp only [planOk, Bool.and_eq_true] at hB
      obtain ⟨⟨⟨hf, hr⟩, hst⟩, hB'⟩ := hB
      have h1 : planAt P N ops.toList S true (nthOp ops.toList i) (vcPlan P N ops.toList S K r) (toEnv a) w := h0
      cases hno : nthOp ops.toList i with
      | none => rw [hno] at h1; exact h1.elim
      | some o =>
        rw [hno] at h1
        have ho := hno
        rw [nthOp_eq, Array.getElem?_toList] at ho
        rw [ho] at hst
        have hst : isStore o.op = false := by simpa using hst
        have h3 : vcGuard ops.toList o.guard (toEnv a) (fun e => TS P S o e w fun v => put N e o.dst v fun e' => vcPlan P N ops.toList S K r e' w) (fun e => SK S w (put N e o.dst undef fun e' => vcPlan P N ops.toList S K r e' w)) := h1
        rcases guard_cases (ops := ops) h3 with ⟨hw, h4⟩ | ⟨hw, h4⟩
        · obtain ⟨v, hS, k1, k2⟩ := h4.ex
          refine wpAnyH_take ho hs hf hr (hpp o.dst v) (Or.inl ⟨hw, fun w hw' => ?_⟩) hS (hstep r ih n i listed a hd hN hB' hq o ho v w k2)
          have hu := op_run (k1 w hw')
          rw [hst] at hu
          generalize (execOp a.eval o).run P w = res at *
          cases res with
          | ok n w' =>
            cases n <;> simp only [Upon] at hu
            case value u => rw [hu.1, hu.2]
            case skip => exact absurd hu.1 (by simp)
            case enter f args =>
              obtain ⟨_, hc⟩ := hu
              obtain ⟨e, w'', fr, ⟨_, _, hff⟩, _⟩ := hc []
              exact hff.elim
          | halt x w' => simp only [Upon] at hu
        · exact wpAnyH_take ho hs hf hr (hpp o.dst undef) (Or.inr ⟨hw, rfl⟩) h4.s (hstep r ih n i listed a hd hN hB' hq o ho undef w h4.k)
  | only i r ih =>
    intro n listed a w hd hN hB h0 hq
    cases n with
    | zero => simp [planOk] at hB
    | succ n =>
      simp only [planOk, Bool.and_eq_true, beq_iff_eq] at hB
      obtain ⟨hr, hB'⟩ := hB
      refine wpAnyH_all hr (by simp) fun j hj => ?_
      obtain rfl : j = i := List.mem_singleton.1 hj
      exact plan_only (hstep r ih n j listed a hd hN hB' hq) h0
  | either i j r r' ih ih' =>
    intro n listed a w hd hN hB h0 hq
    cases n with
    | zero => simp [planOk] at hB
    | succ n =>
      simp only [planOk, Bool.and_eq_true, beq_iff_eq] at hB
      obtain ⟨⟨hr, hB'⟩, hB''⟩ := hB
      have h1 : Both (planAt P N ops.toList S false (nthOp ops.toList i) (vcPlan P N ops.toList S K r) (toEnv a) w) (planAt P N ops.toList S false (nthOp ops.toList j) (vcPlan P N ops.toList S K r') (toEnv a) w) := h0
      refine wpAnyH_all hr (by simp) fun k hk => ?_
      rcases List.mem_cons.1 hk with rfl | hk
      · exact plan_only (hstep r ih n k listed a hd hN hB' hq) h1.a
      · obtain rfl : k = j := List.mem_singleton.1 hk
        exact plan_only (hstep r' ih' n k listed a hd hN hB'' hq) h1.b
theorem plan {P : Program} {N id : Nat} {ops : Array Oper} {Q : Exit → Env → World → Prop} {e : Env} {w : World} (S : World → Prop) (pl : Plan) (hm : P.follows .mixedOrders = true) (hB : (Region.noSelect ops && planOk ops pl (Array.replicate ops.size false) ops.size) = true) (hp : ∀ c e w, Q (.panic c) e w → False)
    (h : vcPlan P N ops.toList S (fun e' w' => Q .normal e' w') pl e { w with drawn := w.drawn + 1 }) : DrawW P N id ops Q e w := by
  simp only [Bool.and_eq_true] at hB
  obtain ⟨hs, hok⟩ := hB
  refine ⟨fun a hd hN he => ?_⟩
  subst he
  refine wp_region_held (S := S) hm ?_
  exact plan_sound (Q := fun ex e' w' => Q ex e' w' ∧ Same (wrOps ops.toList) (toEnv a) e') hs (fun c e w h => hp c e w h.1) pl _ _ a _ hd hN hok h fun e' w' h1 h2 => ⟨h1, h2⟩

/-! a function's entry -/
def res : List ResultVar → Env → Value
  | [.tmp t], e => e t
  | [.tmp t, .tmp u], e => .tuple #[e t, e u]
  | [.tmp t, .tmp u, .tmp v], e => .tuple #[e t, e u, e v]
  | _, _ => .tuple #[]
def resOk : List ResultVar → Bool
  | [] => true
  | [.tmp _] => true
  | [.tmp _, .tmp _] => true
  | [.tmp _, .tmp _, .tmp _] => true
  | _ => false
theorem res_run {fn : Func} (h : resOk fn.results.toList = true) (a : Act) (P : Program) (w : World) : (results fn a.tmps).run P w = .ok (res fn.results.toList (toEnv a)) w := by
  match hr : fn.results.toList, h with
  | [], _ => exact results_none (by rw [← Array.toArray_toList (xs := fn.results), hr]) _ _ _
  | [.tmp t], _ => exact results_tmp (by rw [← Array.toArray_toList (xs := fn.results), hr]) _ _ _
  | [.tmp t, .tmp u], _ => exact results_tmp2 (by rw [← Array.toArray_toList (xs := fn.results), hr]) _ _ _
  | [.tmp t, .tmp u, .tmp v], _ =>
    have hr' : fn.results = #[.tmp t, .tmp u, .tmp v] := by rw [← Array.toArray_toList (xs := fn.results), hr]
    simp [results, hr', res, toEnv]

theorem enter {P : Program} {f : FuncId} {fn : Func} {c : Code} {l : List Value} {w : World} {R : Ending → World → Prop} (hf : P.funcs[f]? = some fn) (hb : fn.body = some c) (hr : resOk fn.results.toList = true) (hN : Nat.ble l.length fn.ntmps = true)
    (h : vc P fn.ntmps c (fun ex e w' => match ex with | .normal => R (.returned (res fn.results.toList e)) w' | .ret => R (.returned (res fn.results.toList e)) w' | _ => False) (envOf l) w) : Calls P f l.toArray w R := by
  have hN' : l.length ≤ fn.ntmps := Nat.le_of_ble_eq_true hN
  refine calls_of_wp hf hb (wp_mono (vc_sound c _ _ _ w h (fun _ _ _ h1 _ => h1) _ rfl (by simp; omega) ?_) ?_)
  · funext s
    simp only [toEnv, envOf, nth_eq, Array.getD_eq_getD_getElem?, Array.getElem?_append, List.size_toArray, List.getElem?_toArray, Array.getElem?_replicate]
    by_cases hs : s < l.length
    · rw [if_pos hs]
    · rw [if_neg hs, List.getElem?_eq_none (by omega)]
      split <;> rfl
  · intro ex a' w' ⟨hd', _, hq⟩
    cases ex with
    | normal => exact ⟨hd', _, res_run hr a' P w', hq⟩
    | ret => exact ⟨hd', _, res_run hr a' P w', hq⟩
    | exit id => exact hq.elim
    | goto l => exact hq.elim
    | panic ch => exact hq.elim
    | outgrown => exact hq.elim

/-- a function whose one result lies in memory -/
theorem enterC {P : Program} {f : FuncId} {fn : Func} {c : Code} {l : List Value} {w : World} {R : Ending → World → Prop} {p : Nat} {ty : TypeId} (hf : P.funcs[f]? = some fn) (hb : fn.body = some c) (hr : fn.results = #[.cell p ty]) (hN : Nat.ble l.length fn.ntmps = true)
    (h : vc P fn.ntmps c (fun ex e w' => match ex with | .normal => force (e p) fun x => RunV .load P (Instr.loadAt ty x) w' (fun v w'' => w'' = w' ∧ R (.returned v) w') | .ret => force (e p) fun x => RunV .load P (Instr.loadAt ty x) w' (fun v w'' => w'' = w' ∧ R (.returned v) w') | _ => False) (envOf l) w) : Calls P f l.toArray w R := by
  have hN' : l.length ≤ fn.ntmps := Nat.le_of_ble_eq_true hN
  have key : ∀ (a' : Act) (w' : World), RunV .load P (Instr.loadAt ty (toEnv a' p)) w' (fun v w'' => w'' = w' ∧ R (.returned v) w') → ∃ v, (results fn a'.tmps).run P w' = .ok v w' ∧ R (.returned v) w' := by
    intro a' w' hl
    obtain ⟨v, w'', hrun, rfl, hR⟩ := hl.ex
    refine ⟨v, ?_, hR⟩
    simp only [Instr.loadAt, toEnv] at hrun
    cases hv : a'.tmps.getD p undef with
    | pointer q =>
      rw [hv] at hrun
      cases q with
      | none => simp [Instr.sureAddr] at hrun
      | some ad =>
        simp [Instr.sureAddr] at hrun
        simp only [Array.getD_eq_getD_getElem?] at hv
        simp [results, hr, asAddr, hv, hrun]
    | _ => rw [hv] at hrun; simp [Instr.sureAddr] at hrun
  refine calls_of_wp hf hb (wp_mono (vc_sound c _ _ _ w h (fun _ _ _ h1 _ => h1) _ rfl (by simp; omega) ?_) ?_)
  · funext s
    simp only [toEnv, envOf, nth_eq, Array.getD_eq_getD_getElem?, Array.getElem?_append, List.size_toArray, List.getElem?_toArray, Array.getElem?_replicate]
    by_cases hs : s < l.length
    · rw [if_pos hs]
    · rw [if_neg hs, List.getElem?_eq_none (by omega)]
      split <;> rfl
  · intro ex a' w' ⟨hd', _, hq⟩
    cases ex with
    | normal => simp only at hq; rw [force_eq] at hq; exact ⟨hd', key a' w' hq⟩
    | ret => simp only at hq; rw [force_eq] at hq; exact ⟨hd', key a' w' hq⟩
    | exit id => exact hq.elim
    | goto l => exact hq.elim
    | panic ch => exact hq.elim
    | outgrown => exact hq.elim

/-! loops -/
def Agree (l : List (Nat × Value)) : Env → Prop := @List.rec (Nat × Value) (fun _ => Env → Prop) (fun _ => True) (fun p _ ih e => e p.1 = p.2 ∧ ih e) l
noncomputable def lay (l : List (Nat × Value)) : Env → Env := @List.rec (Nat × Value) (fun _ => Env → Env) (fun j => j) (fun p _ ih j => upd (ih j) p.1 p.2) l
theorem lay_self : ∀ (l : List (Nat × Value)) (e : Env), Agree l e → lay l e = e
  | [], _, _ => rfl
  | (s, v) :: r, e, h => by
    show upd (lay r e) s v = e
    rw [lay_self r e h.2]
    exact upd_self _ _ _ h.1
theorem exists_min (p : Nat → Prop) (h : ∃ n, p n) : ∃ n, p n ∧ ∀ m, p m → n ≤ m := by
  obtain ⟨n, hn⟩ := h
  induction n using Nat.strongRecOn with
  | _ n ih =>
    by_cases hl : ∃ m, m < n ∧ p m
    · obtain ⟨m, hm, hp⟩ := hl; exact ih m hm hp
    · exact ⟨n, hn, fun m hp => by
        rcases Nat.lt_or_ge m n with h1 | h1
        · exact (hl ⟨m, h1, hp⟩).elim
        · exact h1⟩
noncomputable def mix (ws : List (Nat × Nat)) (junk e : Env) : Env := fun s => bif memR s ws then junk s else e s
noncomputable def wsOk (c : Code) (ws : List (Nat × Nat)) : Bool := (writes c).all fun s => memR s ws
theorem mix_self {ws : List (Nat × Nat)} {e e' : Env} (h : ∀ s, memR s ws = false → e' s = e s) : mix ws e' e = e' := by
  funext s
  simp only [mix]
  cases hb : memR s ws
  · exact (h s hb).symm
  · rfl
theorem loop {γ : Type} {P : Program} {N : Nat} {c : Code} {Q : Exit → Env → World → Prop} {e : Env} {w : World} (ws : List (Nat × Nat)) (slots : γ → List (Nat × Value)) (I : γ → World → Prop) (μ : γ → Nat) (g0 : γ)
    (hws : wsOk c ws = true) (h0 : Agree (slots g0) e) (hI : I g0 w)
    (round : ∀ g junk w', I g w' → vc P N c (fun ex e' w'' => match ex with | .normal => ∃ g', Agree (slots g') e' ∧ I g' w'' ∧ μ g' < μ g | ex => Q ex e' w'') (lay (slots g) (mix ws junk e)) w') : LoopW P N c Q e w := by
  refine ⟨fun a hd hN he => ?_⟩
  have hin : ∀ s, s ∈ writes c → memR s ws = true := fun s hs => List.all_eq_true.1 hws s hs
  have hout : ∀ s, memR s ws = false → s ∉ writes c := fun s hs hm => by rw [hin s hm] at hs; cases hs
  have min := fun (a : Act) (w : World) (h : ∃ g, Agree (slots g) (toEnv a) ∧ I g w) => exists_min (fun n => ∃ g, Agree (slots g) (toEnv a) ∧ I g w ∧ μ g = n) (let ⟨g, h1, h2⟩ := h; ⟨μ g, g, h1, h2, rfl⟩)
  classical
  refine wp_loop (fun a w => a.defers = [] ∧ a.tmps.size = N ∧ Same (writes c) e (toEnv a) ∧ ∃ g, Agree (slots g) (toEnv a) ∧ I g w) (fun a w => if h : ∃ g, Agree (slots g) (toEnv a) ∧ I g w then (min a w h).choose else 0) ⟨hd, hN, by rw [he]; exact Same.refl _ _, g0, by rw [he]; exact h0, hI⟩ ?_
  rintro a w ⟨hd, hN, hs, hg⟩
  obtain ⟨⟨g, h1, h2, h3⟩, _⟩ := (min a w hg).choose_spec
  have hself : toEnv a = lay (slots g) (mix ws (toEnv a) e) := by rw [mix_self (fun s hb => hs s (hout s hb)), lay_self _ _ h1]
  have hr := vc_sound c _ (fun ex e' w'' => Same (writes c) (toEnv a) e' ∧ (match ex with | .normal => ∃ g', Agree (slots g') e' ∧ I g' w'' ∧ μ g' < μ g | ex => Q ex e' w'')) _ w (round g (toEnv a) w h2) (fun ex e' w' k1 k2 => ⟨by rw [hself]; exact k2, k1⟩) a hd hN hself
  refine wp_mono hr fun ex a' w' ⟨hd', hN', hs', hq⟩ => ?_
  have hs2 : Same (writes c) e (toEnv a') := fun s hn => (hs' s hn).trans (hs s hn)
  cases ex with
  | normal =>
    obtain ⟨g', k1, k2, k3⟩ := hq
    refine ⟨⟨hd', hN', hs2, g', k1, k2⟩, ?_⟩
    have hg' : ∃ g, Agree (slots g) (toEnv a') ∧ I g w' := ⟨g', k1, k2⟩
    rw [dif_pos hg', dif_pos hg, ← h3]
    exact Nat.lt_of_le_of_lt ((min a' w' hg').choose_spec.2 _ ⟨g', k1, k2, rfl⟩) k3
  | exit id => exact ⟨hd', hN', hq, hs2⟩
  | goto l => exact ⟨hd', hN', hq, hs2⟩
  | ret => exact ⟨hd', hN', hq, hs2⟩
  | panic ch => exact ⟨hd', hN', hq, hs2⟩
  | outgrown => exact ⟨hd', hN', hq, hs2⟩

/-! conditions -/
section
variable {T F : Prop}
theorem cndT (h : T) : Cnd true T F := ⟨fun _ => h, fun h => by cases h⟩
theorem cndF (h : F) : Cnd false T F := ⟨(fun h => by cases h), fun _ => h⟩
theorem cndNT (h : F) : Cnd (!true) T F := cndF h
theorem cndNF (h : T) : Cnd (!false) T F := cndT h
theorem cndD {p : Prop} [Decidable p] (t : p → T) (f : ¬ p → F) : Cnd (decide p) T F := ⟨fun h => t (of_decide_eq_true h), fun h => f (of_decide_eq_false h)⟩
theorem cndN {p : Prop} [Decidable p] (t : ¬ p → T) (f : p → F) : Cnd (!decide p) T F := ⟨fun h => t (of_decide_eq_false (by simpa using h)), fun h => f (of_decide_eq_true (by simpa using h))⟩
theorem cndB {b : Bool} (t : b = true → T) (f : b = false → F) : Cnd b T F := ⟨t, f⟩
theorem cndNB {b : Bool} (t : b = false → T) (f : b = true → F) : Cnd (!b) T F := ⟨fun h => t (by simpa using h), fun h => f (by simpa using h)⟩
end

end V
end Go.Proofs.Ytddhlpmcikpinaa
