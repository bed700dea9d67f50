/-
  An evaluator of the model's code on environments: 'vc' turns a function's code, step by step, into plain conditions; 'vc_sound' proves that they suffice for the kit's own 'Code.wp'. No program of the seat is named here.
-/
import Derived.Below
import Derived.Tactics2
import Derived.Laws.MakeOwn
import Derived.Laws.OwnMore
import Derived.Laws.CopyRow
import Derived.Laws.Entries
namespace Go.Proofs.Ytnpdmiaancgllaa
open Go.RowKit
namespace V

abbrev Env := Nat → Value
def upd (e : Env) (d : Nat) (v : Value) : Env := fun s => bif Nat.beq d s then v else e s
def ev (e : Env) : Operand → Value
  | .tmp t => e t
  | .const v => v
  | .global g => .pointer (some ⟨g, 0, none⟩)
  | .func f => .func (.func f) #[] #[]
def nth : List Value → Nat → Value
  | [], _ => undef
  | v :: _, 0 => v
  | _ :: r, n + 1 => nth r n
def envOf (l : List Value) : Env := nth l
def toEnv (a : Act) : Env := fun s => a.tmps.getD s undef
def force (v : Value) (K : Value → Prop) : Prop :=
  match v with
  | .int k n => K (.int k n)
  | .bool b => K (.bool b)
  | .slice a n c => K (.slice a n c)
  | .pointer p => K (.pointer p)
  | .agg cs => K (.agg cs)
  | .tuple vs => K (.tuple vs)
  | v => K v
theorem force_eq (v : Value) (K : Value → Prop) : force v K = K v := by cases v <;> rfl

inductive Tag where
  | bin | load | store | idx | slice | make | bslice | build | box | alloc | faddr | field | conv | len | append | copy | max | min | eqv
structure RunV (g : Tag) (P : Program) (s : Sem Value) (w : World) (K : Value → World → Prop) : Prop where
  ex : ∃ v w', s.run P w = .ok v w' ∧ K v w'
structure RunU (g : Tag) (P : Program) (s : Sem Unit) (w : World) (K : World → Prop) : Prop where
  ex : ∃ w', s.run P w = .ok () w' ∧ K w'
/-- a function that has a body can be called -/
def Callable (P : Program) (f : FuncId) : Prop := ∀ (args : Array Value) (w : World), (callFunc f args).run P w = .ok (.enter f args) w
structure CallW (P : Program) (f : FuncId) (args : Array Value) (w : World) (K : Value → World → Prop) : Prop where
  can : Callable P f
  ex : Calls P f args w fun e w' => ∃ v, e = .returned v ∧ K v w'

def InR (r : Int) : Prop := -9223372036854775808 ≤ r ∧ r ≤ 9223372036854775807
structure Arith (r : Int) (K : Value → Prop) : Prop where
  ex : K (.int .i64 (IntKind.i64.wrap r))
def vcBin (op : BinOp) (x y : Value) (K : Value → Prop) (other : Prop) : Prop :=
  match x, y with
  | .int .i64 m, .int .i64 n =>
    match op with
    | .add => Arith (m + n) K
    | .sub => Arith (m - n) K
    | .mul => Arith (m * n) K
    | .quo => n ≠ 0 ∧ Arith (m.tdiv n) K
    | .rem => n ≠ 0 ∧ K (.int .i64 (m.tmod n))
    | .eql => K (.bool (decide (m = n)))
    | .neq => K (.bool (!decide (m = n)))
    | .lss => K (.bool (decide (m < n)))
    | .leq => K (.bool (decide (m ≤ n)))
    | .gtr => K (.bool (decide (n < m)))
    | .geq => K (.bool (decide (n ≤ m)))
    | _ => other
  | _, _ => other

def vcOp (P : Program) (o : Oper) (e : Env) (w : World) (K : Value → World → Prop) : Prop :=
  match o.op with
  | .move x => force (ev e x) fun v => K v w
  | .assign x => force (ev e x) fun v => K v w
  | .pick c a b =>
    match ev e c with
    | .bool t => (t = true → force (ev e a) fun v => K v w) ∧ (t = false → force (ev e b) fun v => K v w)
    | _ => False
  | .binOp op t x y _ => vcBin op (ev e x) (ev e y) (fun v => K v w) (RunV .bin P (do eqGuard op t x y (ev e x) (ev e y); binOp op t (ev e x) (ev e y)) w K)
  | .unOp op _ x =>
    match op, ev e x with
    | .not, .bool b => K (.bool (!b)) w
    | .neg, .int .i64 n => Arith (0 - n) fun v => K v w
    | _, _ => False
  | .load t a => RunV .load P (Instr.loadAt t (ev e a)) w K
  | .store t a x => RunU .store P (Instr.storeAt t (ev e a) (ev e x)) w fun w' => K undef w'
  | .indexAddr t x i => RunV .idx P (Instr.indexAt t (ev e x) (ev e i)) w K
  | .slice t x lo hi mx => RunV .slice P (Instr.sliceAt t (ev e x) (lo.map (ev e)) (hi.map (ev e)) (mx.map (ev e))) w K
  | .makeSlice t l c => RunV .make P (Instr.makeSlice t (ev e l) (ev e c)) w K
  | .buildSlice t n parts => RunV .bslice P (Instr.buildSlice t n (parts.toList.map fun p => (p.1, ev e p.2)).toArray) w K
  | .build t parts => RunV .build P (Instr.build t (parts.toList.map fun p => (p.1, ev e p.2)).toArray) w K
  | .box t x => RunV .box P (Instr.box t (ev e x)) w K
  | .alloc t => RunV .alloc P (Instr.alloc t true (.tuple #[])) w K
  | .fieldAddr s x f => RunV .faddr P (Instr.fieldAt s (ev e x) f) w K
  | .field t x f => RunV .field P (Instr.field t (ev e x) f) w K
  | .convert s d x => RunV .conv P (convert s d (ev e x)) w K
  | .nilCheck x =>
    match ev e x with
    | .pointer (some p) => K (.pointer (some p)) w
    | _ => False
  | .extract t ix =>
    match ev e t with
    | .tuple vs => ix < vs.toList.length ∧ force (nth vs.toList ix) fun v => K v w
    | _ => False
  | .call c =>
    match c.callee with
    | .builtin .len => RunV .len P (Builtin.len_ c.argTypes o.type (c.args.toList.map (ev e)).toArray) w K
    | .builtin .append => RunV .append P (Builtin.append_ c.argTypes o.type (c.args.toList.map (ev e)).toArray) w K
    | .builtin .copy => RunV .copy P (Builtin.copy_ c.argTypes o.type (c.args.toList.map (ev e)).toArray) w K
    | .builtin .max => RunV .max P (Builtin.max_ c.argTypes o.type (c.args.toList.map (ev e)).toArray) w K
    | .builtin .min => RunV .min P (Builtin.min_ c.argTypes o.type (c.args.toList.map (ev e)).toArray) w K
    | .value (.func f) => CallW P f (c.args.toList.map (ev e)).toArray w K
    | _ => False
  | _ => False

def nthOp : List Oper → Nat → Option Oper
  | [], _ => none
  | o :: _, 0 => some o
  | _ :: r, n + 1 => nthOp r n
def put (N : Nat) (e : Env) (dst : Option Nat) (v : Value) (K : Env → Prop) : Prop :=
  match dst with
  | none => K e
  | some d => bif Nat.ble N d then False else K (upd e d v)
def vcGuard (ops : List Oper) (g : Option (Nat × Bool)) (e : Env) (run skip : Env → Prop) : Prop :=
  match g with
  | none => run e
  | some (j, want) =>
    match nthOp ops j with
    | some o =>
      match o.dst with
      | some d =>
        match e d with
        | .bool b => (b = want → run (upd e d (.bool want))) ∧ (b = !want → skip (upd e d (.bool (!want))))
        | .tuple _ => skip e
        | _ => False
      | none => False
    | none => False
def vcOps (P : Program) (N : Nat) (ops : List Oper) (K : Env → World → Prop) : List Oper → Env → World → Prop
  | [], e, w => K e w
  | o :: rest, e, w =>
    vcGuard ops o.guard e (fun e => vcOp P o e w fun v w' => put N e o.dst v fun e' => vcOps P N ops K rest e' w')
      (fun e => put N e o.dst undef fun e' => vcOps P N ops K rest e' w)

def lift (N : Nat) (Q : Exit → Env → World → Prop) : Exit → Act → World → Prop := fun ex a w => a.defers = [] ∧ a.tmps.size = N ∧ Q ex (toEnv a) w
def Wp (P : Program) (N : Nat) (c : Code) (Q : Exit → Env → World → Prop) (e : Env) (w : World) : Prop :=
  ∀ a : Act, a.defers = [] → a.tmps.size = N → toEnv a = e → c.wp P (lift N Q) a w
structure LoopW (P : Program) (N : Nat) (c : Code) (Q : Exit → Env → World → Prop) (e : Env) (w : World) : Prop where
  ex : Wp P N (.loop c) Q e w
structure DrawW (P : Program) (N : Nat) (id : Nat) (ops : Array Oper) (Q : Exit → Env → World → Prop) (e : Env) (w : World) : Prop where
  ex : Wp P N (.region id ops true) Q e w

def vc (P : Program) (N : Nat) : Code → (Exit → Env → World → Prop) → Env → World → Prop
  | .skip, Q, e, w => Q .normal e w
  | .seq a b, Q, e, w => vc P N a (fun ex e w => match ex with | .normal => vc P N b Q e w | ex => Q ex e w) e w
  | .cond c t f, Q, e, w =>
    match ev e c with
    | .bool b => (b = true → vc P N t Q e w) ∧ (b = false → vc P N f Q e w)
    | _ => False
  | .block id b, Q, e, w => vc P N b (fun ex e w => match ex with | .exit i => (bif Nat.beq i id then Q .normal e w else Q (.exit i) e w) | ex => Q ex e w) e w
  | .exit id, Q, e, w => Q (.exit id) e w
  | .ret, Q, e, w => Q .ret e w
  | .loop b, Q, e, w => LoopW P N b Q e w
  | .region id ops draw, Q, e, w => bif draw then DrawW P N id ops Q e w else vcOps P N ops.toList (fun e w => Q .normal e w) ops.toList e w
  | _, _, _, _ => False

/-! soundness -/
theorem ev_eq (a : Act) (x : Operand) : a.eval x = ev (toEnv a) x := by cases x <;> rfl
theorem ev_fun (a : Act) : a.eval = ev (toEnv a) := funext (ev_eq a)
theorem toEnv_put (a : Act) (d : Nat) (v : Value) (h : d < a.tmps.size) : toEnv (a.put (some d) v) = upd (toEnv a) d v := by
  funext s
  simp only [toEnv, Act.put, upd, Array.getD_eq_getD_getElem?, Array.getElem?_setIfInBounds]
  by_cases hs : d = s
  · subst hs
    have hb : Nat.beq d d = true := Nat.beq_refl d
    simp [h]
  · have : Nat.beq d s = false := by
      cases hb : Nat.beq d s
      · rfl
      · exact absurd (Nat.eq_of_beq_eq_true hb) hs
    simp [hs, this]
theorem size_put (a : Act) (d : Option Nat) (v : Value) : (a.put d v).tmps.size = a.tmps.size := by cases d <;> simp [Act.put]
theorem defers_put (a : Act) (d : Option Nat) (v : Value) : (a.put d v).defers = a.defers := by cases d <;> rfl
theorem upd_self (e : Env) (d : Nat) (v : Value) (h : e d = v) : upd e d v = e := by
  funext s
  simp only [upd]
  cases hb : Nat.beq d s
  · rfl
  · have := Nat.eq_of_beq_eq_true hb
    subst this
    exact h.symm
theorem nthOp_eq : ∀ (l : List Oper) (j : Nat), nthOp l j = l[j]?
  | [], _ => by simp [nthOp]
  | _ :: _, 0 => by simp [nthOp]
  | _ :: r, n + 1 => by simp [nthOp, nthOp_eq r n]
theorem nth_eq : ∀ (l : List Value) (j : Nat), nth l j = l[j]?.getD undef
  | [], _ => by simp [nth]
  | _ :: _, 0 => by simp [nth]
  | _ :: r, n + 1 => by simp [nth, nth_eq r n]

theorem wp_of_runV {P : Program} {o : Oper} {a : Act} {w : World} {next : Act → World → Prop} {Q : Exit → Act → World → Prop} {s : Sem Value} {g : Tag} {K : Value → World → Prop}
    (ho : execOp a.eval o = (do pure (.value (← s)))) (h : RunV g P s w K) (hk : ∀ v w', K v w' → next (a.put o.dst v) w') : o.wp P a w next Q := by
  obtain ⟨v, w', hr, hK⟩ := h.ex
  unfold Oper.wp
  rw [ho]
  simp only [Sem.run_bind, hr, Result.andThen_ok, Sem.run_pure]
  exact hk _ _ hK
theorem wp_of_runU {P : Program} {o : Oper} {a : Act} {w : World} {next : Act → World → Prop} {Q : Exit → Act → World → Prop} {s : Sem Unit} {g : Tag} {K : World → Prop}
    (ho : execOp a.eval o = (do s; pure .skip)) (h : RunU g P s w K) (hk : ∀ w', K w' → next (a.put o.dst undef) w') : o.wp P a w next Q := by
  obtain ⟨w', hr, hK⟩ := h.ex
  unfold Oper.wp
  rw [ho]
  simp only [Sem.run_bind, hr, Result.andThen_ok, Sem.run_pure]
  exact hk _ hK
theorem wp_of_val {P : Program} {o : Oper} {a : Act} {w : World} {next : Act → World → Prop} {Q : Exit → Act → World → Prop} {v : Value}
    (ho : (execOp a.eval o).run P w = .ok (.value v) w) (hk : next (a.put o.dst v) w) : o.wp P a w next Q := by
  unfold Oper.wp
  rw [ho]
  exact hk

theorem bin_sound {P : Program} {op : BinOp} {t : TypeId} {x y : Operand} {a : Act} {w : World} {K : Value → World → Prop} (h : vcBin op (ev (toEnv a) x) (ev (toEnv a) y) (fun v => K v w) (RunV .bin P (do eqGuard op t x y (ev (toEnv a) x) (ev (toEnv a) y); binOp op t (ev (toEnv a) x) (ev (toEnv a) y)) w K)) :
    RunV .bin P (do eqGuard op t x y (ev (toEnv a) x) (ev (toEnv a) y); binOp op t (ev (toEnv a) x) (ev (toEnv a) y)) w K := by
  generalize ev (toEnv a) x = u at *
  generalize ev (toEnv a) y = v at *
  unfold vcBin at h
  split at h
  · rename_i m n
    have hg : (eqGuard op t x y (.int .i64 m) (.int .i64 n)).run P w = .ok () w := by
      unfold eqGuard
      cases op <;> simp
    refine ⟨?_⟩
    simp only [Sem.run_bind, hg, Result.andThen_ok]
    cases op <;> simp only at h
    case add => exact ⟨_, _, by simp only [binOp, Op.intArith, ne_eq, not_true_eq_false, if_false, Sem.run_pure], h.ex⟩
    case sub => exact ⟨_, _, by simp only [binOp, Op.intArith, ne_eq, not_true_eq_false, if_false, Sem.run_pure], h.ex⟩
    case mul => exact ⟨_, _, by simp only [binOp, Op.intArith, ne_eq, not_true_eq_false, if_false, Sem.run_pure], h.ex⟩
    case quo => exact ⟨_, _, by simp only [binOp, Op.intDiv, h.1, ne_eq, not_true_eq_false, if_false, Sem.run_pure], h.2.ex⟩
    case rem => exact ⟨_, _, by simp only [binOp, Op.intDiv, h.1, ne_eq, not_true_eq_false, if_false, Sem.run_pure], h.2⟩
    case eql => exact ⟨_, _, by simp only [binOp, Op.intCmp, ne_eq, not_true_eq_false, if_false, Sem.run_pure] <;> rfl, h⟩
    case neq => exact ⟨_, _, by simp only [binOp, Op.intCmp, ne_eq, not_true_eq_false, if_false, Sem.run_pure] <;> rfl, h⟩
    case lss => exact ⟨_, _, by simp only [binOp, Op.intCmp, ne_eq, not_true_eq_false, if_false, Sem.run_pure] <;> rfl, h⟩
    case leq => exact ⟨_, _, by simp only [binOp, Op.intCmp, ne_eq, not_true_eq_false, if_false, Sem.run_pure] <;> rfl, h⟩
    case gtr => exact ⟨_, _, by simp only [binOp, Op.intCmp, ne_eq, not_true_eq_false, if_false, Sem.run_pure] <;> rfl, h⟩
    case geq => exact ⟨_, _, by simp only [binOp, Op.intCmp, ne_eq, not_true_eq_false, if_false, Sem.run_pure] <;> rfl, h⟩
    all_goals
      obtain ⟨v, w', hr, hK⟩ := h.ex
      simp only [Sem.run_bind, hg, Result.andThen_ok] at hr
      exact ⟨v, w', hr, hK⟩
  · exact h

theorem map_arr {α β : Type} (f : α → β) (a : Array α) : a.map f = (a.toList.map f).toArray := by rw [← Array.toList_map, Array.toArray_toList]
theorem op_sound {P : Program} {o : Oper} {a : Act} {w : World} {next : Act → World → Prop} {Q : Exit → Act → World → Prop} {K : Value → World → Prop}
    (h : vcOp P o (toEnv a) w K) (hk : ∀ v w', K v w' → next (a.put o.dst v) w') : o.wp P a w next Q := by
  obtain ⟨dst, op, type, pos, after, guard⟩ := o
  have hev : a.eval = ev (toEnv a) := ev_fun a
  cases op <;> simp only [vcOp] at h
  case move x => rw [force_eq] at h; exact wp_of_val (by simp only [execOp, hev, Sem.run_pure]) (hk _ _ h)
  case assign x => rw [force_eq] at h; exact wp_of_val (by simp only [execOp, hev, Sem.run_pure]) (hk _ _ h)
  case pick c x y =>
    split at h
    · rename_i t ht
      cases t
      · have h2 := h.2 rfl
        rw [force_eq] at h2
        exact wp_of_val (by simp [execOp, hev, ht, asBool]) (hk _ _ h2)
      · have h1 := h.1 rfl
        rw [force_eq] at h1
        exact wp_of_val (by simp [execOp, hev, ht, asBool]) (hk _ _ h1)
    · exact h.elim
  case binOp op t x y yt => exact wp_of_runV (by simp only [execOp, hev]) (bin_sound h) hk
  case unOp op t x =>
    split at h
    · rename_i b hb; exact wp_of_val (by simp [execOp, hev, hb, Op.unary]) (hk _ _ h)
    · rename_i n hn; exact wp_of_val (by simp [execOp, hev, hn, Op.unary, Op.intArith]) (hk _ _ h.ex)
    · exact h.elim
  case load => exact wp_of_runV (by simp only [execOp, hev]) h hk
  case store => exact wp_of_runU (by simp only [execOp, hev]) h fun w' hw => hk _ _ hw
  case indexAddr => exact wp_of_runV (by simp only [execOp, hev]) h hk
  case slice => exact wp_of_runV (by simp only [execOp, hev]) h hk
  case makeSlice => exact wp_of_runV (by simp only [execOp, hev]) h hk
  case buildSlice t n parts => exact wp_of_runV (by simp only [execOp, hev, map_arr]) h hk
  case build t parts => exact wp_of_runV (by simp only [execOp, hev, map_arr]) h hk
  case box => exact wp_of_runV (by simp only [execOp, hev]) h hk
  case alloc => exact wp_of_runV (by simp only [execOp]) h hk
  case fieldAddr => exact wp_of_runV (by simp only [execOp, hev]) h hk
  case field => exact wp_of_runV (by simp only [execOp, hev]) h hk
  case convert => exact wp_of_runV (by simp only [execOp, hev]) h hk
  case nilCheck x =>
    split at h
    · rename_i p hp; exact wp_of_val (by simp [execOp, hev, hp]) (hk _ _ h)
    · exact h.elim
  case extract t ix =>
    split at h
    · rename_i vs hvs
      obtain ⟨hl, h⟩ := h
      rw [force_eq, nth_eq] at h
      refine wp_of_val ?_ (hk _ _ h)
      have hx : vs[ix]? = some (vs.toList[ix]?.getD undef) := by
        rw [← Array.getElem?_toList, List.getElem?_eq_getElem hl]; rfl
      simp only [execOp, hev, hvs, Instr.extract, hx, Sem.run_bind, Sem.run_pure, Result.andThen_ok]
    · exact h.elim
  case call c =>
    obtain ⟨callee, args, argTypes⟩ := c
    have hargs : args.map a.eval = (args.toList.map (ev (toEnv a))).toArray := by rw [hev, map_arr]
    cases callee with
    | invoke r m => exact h.elim
    | builtin b =>
      cases b <;> first
        | exact False.elim h
        | exact wp_of_runV (by simp only [execOp, resolve, invoke, builtin, hargs]; rfl) h hk
    | value x =>
      cases x with
      | func f =>
        have hr : (execOp a.eval { dst, op := .call ⟨.value (.func f), args, argTypes⟩, type, pos, after, guard }).run P w = .ok (.enter f (args.toList.map (ev (toEnv a))).toArray) w := by
          have hc := h.can (args.toList.map (ev (toEnv a))).toArray w
          have hf : a.eval (.func f) = .func (.func f) #[] #[] := rfl
          simp only [execOp, resolve, hf, Deferred.ofValue, Sem.run_bind, Sem.run_pure, Result.andThen_ok, invoke, hargs, Array.empty_append, Array.append_empty]
          exact hc
        unfold Oper.wp
        rw [hr]
        refine h.ex.mono fun e w' ⟨v, he, hK⟩ => ?_
        subst he
        exact hk _ _ hK
      | tmp t => exact h.elim
      | const v => exact h.elim
      | global g => exact h.elim
  all_goals exact h.elim

theorem put_sound {N : Nat} {a : Act} {dst : Option Nat} {v : Value} {K : Env → Prop} (hN : a.tmps.size = N) (h : put N (toEnv a) dst v K) : K (toEnv (a.put dst v)) := by
  cases dst with
  | none => exact h
  | some d =>
    simp only [put] at h
    cases hb : Nat.ble N d with
    | true => rw [hb] at h; exact h.elim
    | false =>
      rw [hb] at h
      have hlt : d < a.tmps.size := by
        rw [hN]
        rcases Nat.lt_or_ge d N with h1 | h1
        · exact h1
        · rw [Nat.ble_eq_true_of_le h1] at hb; cases hb
      rw [toEnv_put a d v hlt]
      exact h

theorem ops_sound {P : Program} {N : Nat} {ops : Array Oper} {Q : Exit → Env → World → Prop} : ∀ (l : List Oper) (a : Act) (w : World), a.defers = [] → a.tmps.size = N →
    vcOps P N ops.toList (fun e w => Q .normal e w) l (toEnv a) w → wpList P ops (lift N Q) l a w
  | [], a, w, hd, hN, h => ⟨hd, hN, h⟩
  | o :: rest, a, w, hd, hN, h => by
    have ih := fun a w hd hN h => ops_sound (P := P) (N := N) (ops := ops) (Q := Q) rest a w hd hN h
    simp only [vcOps] at h
    have hrun : ∀ e, e = toEnv a → (vcOp P o e w fun v w' => put N e o.dst v fun e' => vcOps P N ops.toList (fun e w => Q .normal e w) rest e' w') → o.wp P a w (wpList P ops (lift N Q) rest) (lift N Q) := by
      rintro e rfl h
      refine op_sound h fun v w' hp => ?_
      exact ih _ _ (by rw [defers_put]; exact hd) (by rw [size_put]; exact hN) (put_sound hN hp)
    have hskip : ∀ e, e = toEnv a → (put N e o.dst undef fun e' => vcOps P N ops.toList (fun e w => Q .normal e w) rest e' w) → wpList P ops (lift N Q) rest (a.put o.dst undef) w := by
      rintro e rfl h
      exact ih _ _ (by rw [defers_put]; exact hd) (by rw [size_put]; exact hN) (put_sound hN h)
    unfold vcGuard at h
    split at h
    · rename_i hg
      unfold wpList
      rw [if_pos (by simp [Region.wanted, hg])]
      exact .inl (hrun _ rfl h)
    · rename_i j want hg
      split at h
      · rename_i oj hoj
        split at h
        · rename_i d hdst
          have hlt : ∀ b, toEnv a d = .bool b → yielded ops a.tmps j = some b := by
            intro b hb
            rw [nthOp_eq, Array.getElem?_toList] at hoj
            have : a.tmps[d]? = some (.bool b) := by
              simp only [toEnv, Array.getD_eq_getD_getElem?] at hb
              cases ht : a.tmps[d]? with
              | none => rw [ht] at hb; simp [undef] at hb
              | some u => rw [ht] at hb; simp at hb; rw [hb]
            simp [yielded, hoj, hdst, this]
          split at h
          · rename_i b hb
            have hy := hlt b hb
            unfold wpList
            by_cases hbw : b = want
            · subst hbw
              rw [if_pos (by simp [Region.wanted, hg, hy])]
              exact .inl (hrun _ (upd_self _ _ _ hb) (h.1 rfl))
            · have hn : b = !want := by cases b <;> cases want <;> simp_all
              rw [if_neg (by simp [Region.wanted, hg, hy, hbw])]
              exact hskip _ (upd_self _ _ _ (by rw [hb, hn])) (h.2 hn)
          · rename_i vs hvs
            have hy : yielded ops a.tmps j = none := by
              rw [nthOp_eq, Array.getElem?_toList] at hoj
              simp only [toEnv, Array.getD_eq_getD_getElem?] at hvs
              cases ht : a.tmps[d]? with
              | none => simp [yielded, hoj, hdst, ht]
              | some u => rw [ht] at hvs; simp at hvs; subst hvs; simp [yielded, hoj, hdst, ht]
            unfold wpList
            rw [if_neg (by simp [Region.wanted, hg, hy])]
            exact hskip _ rfl h
          · exact h.elim
        · exact h.elim
      · exact h.elim

theorem vc_sound {P : Program} {N : Nat} : ∀ (c : Code) (Q : Exit → Env → World → Prop) (e : Env) (w : World), vc P N c Q e w → Wp P N c Q e w
  | .skip, Q, e, w, h => fun a hd hN he => wp_skip ⟨hd, hN, by rw [he]; exact h⟩
  | .seq x y, Q, e, w, h => fun a hd hN he => by
    refine wp_seq (wp_mono (vc_sound x _ e w h a hd hN he) fun ex a' w' hq => ?_)
    obtain ⟨hd', hN', hq⟩ := hq
    cases ex with
    | normal => exact vc_sound y Q _ w' hq a' hd' hN' rfl
    | exit id => exact ⟨hd', hN', hq⟩
    | goto l => exact ⟨hd', hN', hq⟩
    | ret => exact ⟨hd', hN', hq⟩
    | panic ch => exact ⟨hd', hN', hq⟩
    | outgrown => exact ⟨hd', hN', hq⟩
  | .cond c t f, Q, e, w, h => fun a hd hN he => by
    simp only [vc] at h
    split at h
    · rename_i b hb
      subst he
      exact wp_cond_split (by rw [ev_eq]; exact hb) (fun ht => vc_sound t Q _ w (h.1 ht) a hd hN rfl) (fun hf => vc_sound f Q _ w (h.2 hf) a hd hN rfl)
    · exact h.elim
  | .block id b, Q, e, w, h => fun a hd hN he => by
    refine wp_block (wp_mono (vc_sound b _ e w h a hd hN he) fun ex a' w' hq => ?_)
    obtain ⟨hd', hN', hq⟩ := hq
    cases ex with
    | exit i =>
      simp only [Exit.inBlock]
      simp only at hq
      cases hb : Nat.beq i id with
      | true => rw [hb] at hq; rw [if_pos (Nat.eq_of_beq_eq_true hb)]; exact ⟨hd', hN', hq⟩
      | false =>
        rw [hb] at hq
        rw [if_neg (fun he => by subst he; rw [Nat.beq_refl] at hb; cases hb)]
        exact ⟨hd', hN', hq⟩
    | normal => exact ⟨hd', hN', hq⟩
    | goto l => exact ⟨hd', hN', hq⟩
    | ret => exact ⟨hd', hN', hq⟩
    | panic ch => exact ⟨hd', hN', hq⟩
    | outgrown => exact ⟨hd', hN', hq⟩
  | .exit id, Q, e, w, h => fun a hd hN he => wp_exit ⟨hd, hN, by rw [he]; exact h⟩
  | .ret, Q, e, w, h => fun a hd hN he => wp_ret ⟨hd, hN, by rw [he]; exact h⟩
  | .loop b, Q, e, w, h => h.ex
  | .region id ops draw, Q, e, w, h => by
    cases draw with
    | true => exact DrawW.ex h
    | false =>
      intro a hd hN he
      subst he
      exact wp_region_list (ops_sound ops.toList a w hd hN h)
  | .rangeFunc .., _, _, _, h => h.elim
  | .scope _, _, _, _, h => h.elim
  | .label _, _, _, _, h => h.elim
  | .goto _, _, _, _, h => h.elim
  | .refuse _, _, _, _, h => h.elim

/-! a function's entry -/
def res : List ResultVar → Env → Value
  | [.tmp t], e => e t
  | [.tmp t, .tmp u], e => .tuple #[e t, e u]
  | _, _ => .tuple #[]
def resOk : List ResultVar → Bool
  | [] => true
  | [.tmp _] => true
  | [.tmp _, .tmp _] => true
  | _ => false
theorem res_run {fn : Func} (h : resOk fn.results.toList = true) (a : Act) (P : Program) (w : World) : (results fn a.tmps).run P w = .ok (res fn.results.toList (toEnv a)) w := by
  match hr : fn.results.toList, h with
  | [], _ => exact results_none (by rw [← Array.toArray_toList (xs := fn.results), hr]) _ _ _
  | [.tmp t], _ => exact results_tmp (by rw [← Array.toArray_toList (xs := fn.results), hr]) _ _ _
  | [.tmp t, .tmp u], _ => exact results_tmp2 (by rw [← Array.toArray_toList (xs := fn.results), hr]) _ _ _

theorem enter {P : Program} {f : FuncId} {fn : Func} {c : Code} {l : List Value} {w : World} {R : Ending → World → Prop} (hf : P.funcs[f]? = some fn) (hb : fn.body = some c) (hr : resOk fn.results.toList = true) (hN : Nat.ble l.length fn.ntmps = true)
    (h : vc P fn.ntmps c (fun ex e w' => match ex with | .normal => R (.returned (res fn.results.toList e)) w' | .ret => R (.returned (res fn.results.toList e)) w' | _ => False) (envOf l) w) : Calls P f l.toArray w R := by
  have hN' : l.length ≤ fn.ntmps := Nat.le_of_ble_eq_true hN
  refine calls_of_wp hf hb (wp_mono (vc_sound c _ _ w h _ rfl (by simp; omega) ?_) ?_)
  · funext s
    simp only [toEnv, envOf, nth_eq, Array.getD_eq_getD_getElem?, Array.getElem?_append, List.size_toArray, List.getElem?_toArray, Array.getElem?_replicate]
    by_cases hs : s < l.length
    · rw [if_pos hs]
    · rw [if_neg hs, List.getElem?_eq_none (by omega)]
      split <;> rfl
  · intro ex a' w' ⟨hd', _, hq⟩
    cases ex with
    | normal => exact ⟨hd', _, res_run hr a' P w', hq⟩
    | ret => exact ⟨hd', _, res_run hr a' P w', hq⟩
    | exit id => exact hq.elim
    | goto l => exact hq.elim
    | panic ch => exact hq.elim
    | outgrown => exact hq.elim

/-! loops -/
def Agree : List (Nat × Value) → Env → Prop
  | [], _ => True
  | (s, v) :: r, e => e s = v ∧ Agree r e
def lay : List (Nat × Value) → Env → Env
  | [], j => j
  | (s, v) :: r, j => upd (lay r j) s v
theorem lay_self : ∀ (l : List (Nat × Value)) (e : Env), Agree l e → lay l e = e
  | [], _, _ => rfl
  | (s, v) :: r, e, h => by
    simp only [lay]
    rw [lay_self r e h.2]
    exact upd_self _ _ _ h.1
theorem exists_min (p : Nat → Prop) (h : ∃ n, p n) : ∃ n, p n ∧ ∀ m, p m → n ≤ m := by
  obtain ⟨n, hn⟩ := h
  induction n using Nat.strongRecOn with
  | _ n ih =>
    by_cases hl : ∃ m, m < n ∧ p m
    · obtain ⟨m, hm, hp⟩ := hl; exact ih m hm hp
    · exact ⟨n, hn, fun m hp => by
        rcases Nat.lt_or_ge m n with h1 | h1
        · exact (hl ⟨m, h1, hp⟩).elim
        · exact h1⟩
theorem loop {γ : Type} {P : Program} {N : Nat} {c : Code} {Q : Exit → Env → World → Prop} {e : Env} {w : World} (slots : γ → List (Nat × Value)) (I : γ → World → Prop) (μ : γ → Nat) (g0 : γ)
    (h0 : Agree (slots g0) e) (hI : I g0 w)
    (round : ∀ g junk w', I g w' → vc P N c (fun ex e' w'' => match ex with | .normal => ∃ g', Agree (slots g') e' ∧ I g' w'' ∧ μ g' < μ g | ex => Q ex e' w'') (lay (slots g) junk) w') : LoopW P N c Q e w := by
  refine ⟨fun a hd hN he => ?_⟩
  subst he
  have min := fun (a : Act) (w : World) (h : ∃ g, Agree (slots g) (toEnv a) ∧ I g w) => exists_min (fun n => ∃ g, Agree (slots g) (toEnv a) ∧ I g w ∧ μ g = n) (let ⟨g, h1, h2⟩ := h; ⟨μ g, g, h1, h2, rfl⟩)
  classical
  refine wp_loop (fun a w => a.defers = [] ∧ a.tmps.size = N ∧ ∃ g, Agree (slots g) (toEnv a) ∧ I g w) (fun a w => if h : ∃ g, Agree (slots g) (toEnv a) ∧ I g w then (min a w h).choose else 0) ⟨hd, hN, g0, h0, hI⟩ ?_
  rintro a w ⟨hd, hN, hg⟩
  obtain ⟨⟨g, h1, h2, h3⟩, _⟩ := (min a w hg).choose_spec
  have hr := vc_sound c _ _ w (round g (toEnv a) w h2) a hd hN (lay_self _ _ h1).symm
  refine wp_mono hr fun ex a' w' ⟨hd', hN', hq⟩ => ?_
  cases ex with
  | normal =>
    obtain ⟨g', k1, k2, k3⟩ := hq
    refine ⟨⟨hd', hN', g', k1, k2⟩, ?_⟩
    have hg' : ∃ g, Agree (slots g) (toEnv a') ∧ I g w' := ⟨g', k1, k2⟩
    rw [dif_pos hg', dif_pos hg, ← h3]
    exact Nat.lt_of_le_of_lt ((min a' w' hg').choose_spec.2 _ ⟨g', k1, k2, rfl⟩) k3
  | exit id => exact ⟨hd', hN', hq⟩
  | goto l => exact ⟨hd', hN', hq⟩
  | ret => exact ⟨hd', hN', hq⟩
  | panic ch => exact ⟨hd', hN', hq⟩
  | outgrown => exact ⟨hd', hN', hq⟩

end V
end Go.Proofs.Ytnpdmiaancgllaa
