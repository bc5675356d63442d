/-
  The engine of these proofs: a code's weakest precondition, reckoned over a list of known slots ('Env') by unfolding alone; each operation on memory stands as a small proposition of its own. 'exec_sound' ties it to the library's 'Code.wp'.
  Conditions: none.
-/
import Derived.WalkKit
import Derived.Deep.QuietTactic
import Derived.Laws.CopyOwn
import Derived.StillTail
import Derived.OrdersHeld
import Derived.Laws.StructEq
namespace Go.Proofs.YtedopgkbajhanaaGreatDoor
open Go Go.RowKit

/-! ### Known slots -/
inductive Ent where
  | v (x : Value)
  | t
  | f

def Ent.val : Ent → Value
  | .v x => x
  | .t => .bool true
  | .f => .bool false

abbrev Env := List (Nat × Ent)

def Env.ent : Env → Nat → Option Ent
  | [], _ => none
  | (t, x) :: S, k => match Nat.beq t k with
    | true => some x
    | false => Env.ent S k

def Env.get (S : Env) (k : Nat) : Option Value :=
  match S.ent k with
  | some (.v x) => some x
  | some .t => some (.bool true)
  | some .f => some (.bool false)
  | none => none

def Env.ev (S : Env) : Operand → Option Value
  | .tmp t => S.get t
  | .const v => some v
  | .global g => some (.pointer (some ⟨g, 0, none⟩))
  | .func f => some (.func (.func f) #[] #[])

theorem Env.get_eq (S : Env) (k : Nat) : S.get k = (S.ent k).map Ent.val := by
  unfold Env.get; cases S.ent k with
  | none => rfl
  | some e => cases e <;> rfl

/-- How many slots a function has, and what is deferred at this place. -/
structure Slots where
  n : Nat
  ds : List Deferred := []
instance (k : Nat) : OfNat Slots k := ⟨⟨k, []⟩⟩

structure Fits (N : Slots) (S : Env) (a : Act) : Prop where
  size : a.tmps.size = N.n
  defers : a.defers = N.ds
  has : ∀ k x, S.ent k = some x → a.tmps[k]? = some x.val

theorem Fits.get {N : Slots} {S : Env} {a : Act} (h : Fits N S a) {k : Nat} {v : Value} (hk : S.get k = some v) : a.tmps[k]? = some v := by
  rw [Env.get_eq] at hk
  cases he : S.ent k with
  | none => simp [he] at hk
  | some e => simp [he] at hk; subst hk; exact h.has k e he

theorem Fits.ev {N : Slots} {S : Env} {a : Act} (h : Fits N S a) {x : Operand} {v : Value} (hx : S.ev x = some v) : a.eval x = v := by
  cases x with
  | tmp t => have := h.get hx; simp [Act.eval, this]
  | const u => simp [Env.ev] at hx; simp [Act.eval, hx]
  | global g => simp [Env.ev] at hx; simp [Act.eval, hx]
  | func f => simp [Env.ev] at hx; simp [Act.eval, hx]

theorem Fits.put {N : Slots} {S : Env} {a : Act} (h : Fits N S a) {d : Nat} (hd : d < N.n) (e : Ent) : Fits N ((d, e) :: S) (a.put (some d) e.val) := by
  refine ⟨by simp [Act.put, h.size], by simp [Act.put, h.defers], fun k x hk => ?_⟩
  simp only [Env.ent] at hk
  cases hb : Nat.beq d k with
  | true =>
    have : d = k := Nat.eq_of_beq_eq_true hb
    subst this
    simp only [hb] at hk
    cases hk
    have : d < a.tmps.size := by rw [h.size]; exact hd
    simp [Act.put, this]
  | false =>
    have hne : d ≠ k := fun e => by subst e; simp at hb
    simp only [hb] at hk
    simp [Act.put, hne, h.has k x hk]

/-! ### What is told of the program -/
structure TyRow where
  t : Nat
  d : TypeDesc
  sz : Nat
  by_ : Nat
  z : Value

def TyOk (P : Program) (r : TyRow) : Prop := P.underlying r.t = some r.d ∧ (P.info? r.t).map (fun i => (i.size, i.bytes, i.zero)) = some (r.sz, r.by_, some r.z)

def Callable (P : Program) (f : FuncId) : Prop := ∃ fn, P.funcs[f]? = some fn ∧ fn.body.isNone = false ∧ (fn.name == "runtime.NumGoroutine") = false

/-- A method of a type, found by its name: the receiver is the value itself. -/
structure MRow where
  t : Nat
  name : String
  f : Nat
  ptr : Bool

def ptrD : TypeDesc → Bool
  | .pointer _ => true
  | _ => false

def MOk (P : Program) (r : MRow) : Prop :=
  (P.info? r.t).bind (fun i => (i.methods.find? (·.name == r.name)).map (fun m => (m.path.isEmpty, m.func))) = some (true, some (r.f, r.ptr)) ∧ (P.underlying r.t).map ptrD = some r.ptr

/-- A struct of plain fields that can be compared by ==: the fields' kinds, in their order (0: an integer, 1: a string, 2: a bool). -/
structure ERow where
  t : Nat
  ks : List Nat

def kindD : Option TypeDesc → Nat
  | some (.int _) => 0
  | some .string => 1
  | some .bool => 2
  | _ => 1000

def fieldsB (P : Program) : Nat → List Field → List Nat → Bool
  | _, [], [] => true
  | n, f :: l, k :: ks => f.name != "_" && Nat.beq f.offset n && Nat.beq (kindD (P.underlying f.type)) k && Nat.blt k 3 && fieldsB P (n + 1) l ks
  | _, _, _ => false

def EOk (P : Program) (r : ERow) : Prop :=
  P.stoodInHeld r.t = false ∧ P.eqGuardType P.depth r.t = false ∧ (match P.underlying r.t with
    | some (.struct fs) => fieldsB P 0 fs.toList r.ks
    | _ => false) = true

structure Gx where
  P : Program
  tys : List TyRow
  fns : List Nat
  ms : List MRow := []
  eqs : List ERow := []

def AllM (P : Program) : List MRow → Prop
  | [] => True
  | r :: l => MOk P r ∧ AllM P l

def AllE (P : Program) : List ERow → Prop
  | [] => True
  | r :: l => EOk P r ∧ AllE P l

def mRowOf : List MRow → Nat → Option MRow
  | [], _ => none
  | r :: l, t => match Nat.beq r.t t with
    | true => some r
    | false => mRowOf l t

def eRowOf : List ERow → Nat → Option ERow
  | [], _ => none
  | r :: l, t => match Nat.beq r.t t with
    | true => some r
    | false => eRowOf l t

theorem mRowOf_spec {P : Program} {l : List MRow} {t : Nat} {r : MRow} (h : mRowOf l t = some r) (ha : AllM P l) : MOk P r ∧ r.t = t := by
  induction l with
  | nil => cases h
  | cons x l ih =>
    simp only [mRowOf] at h
    cases hb : Nat.beq x.t t with
    | true => simp only [hb] at h; cases h; exact ⟨ha.1, Nat.eq_of_beq_eq_true hb⟩
    | false => simp only [hb] at h; exact ih h ha.2

theorem eRowOf_spec {P : Program} {l : List ERow} {t : Nat} {r : ERow} (h : eRowOf l t = some r) (ha : AllE P l) : EOk P r ∧ r.t = t := by
  induction l with
  | nil => cases h
  | cons x l ih =>
    simp only [eRowOf] at h
    cases hb : Nat.beq x.t t with
    | true => simp only [hb] at h; cases h; exact ⟨ha.1, Nat.eq_of_beq_eq_true hb⟩
    | false => simp only [hb] at h; exact ih h ha.2

def AllTy (P : Program) : List TyRow → Prop
  | [] => True
  | r :: l => TyOk P r ∧ AllTy P l

def AllFn (P : Program) : List Nat → Prop
  | [] => True
  | f :: l => Callable P f ∧ AllFn P l

structure Gx.Ok (g : Gx) : Prop where
  tys : AllTy g.P g.tys
  fns' : AllFn g.P g.fns
  mixed : g.P.follows .mixedOrders = true
  ms : AllM g.P g.ms
  eqs : AllE g.P g.eqs

def rowOf : List TyRow → Nat → Option TyRow
  | [], _ => none
  | r :: l, t => match Nat.beq r.t t with
    | true => some r
    | false => rowOf l t

theorem rowOf_spec {l : List TyRow} {t : Nat} {r : TyRow} (h : rowOf l t = some r) : r ∈ l ∧ r.t = t := by
  induction l with
  | nil => cases h
  | cons x l ih =>
    simp only [rowOf] at h
    cases hb : Nat.beq x.t t with
    | true => simp only [hb] at h; cases h; exact ⟨by simp, Nat.eq_of_beq_eq_true hb⟩
    | false => simp only [hb] at h; have := ih h; exact ⟨by simp [this.1], this.2⟩

theorem Gx.Ok.row {g : Gx} (h : g.Ok) {t : Nat} {r : TyRow} (hr : rowOf g.tys t = some r) : g.P.underlying t = some r.d ∧ ∃ i, g.P.info? t = some i ∧ i.size = r.sz ∧ i.bytes = r.by_ ∧ i.zero = some r.z := by
  obtain ⟨hm, rfl⟩ := rowOf_spec hr
  have key : ∀ l, AllTy g.P l → r ∈ l → TyOk g.P r := by
    intro l
    induction l with
    | nil => intro _ h; cases h
    | cons x l ih => intro h hm; cases hm with
      | head => exact h.1
      | tail _ hm => exact ih h.2 hm
  obtain ⟨h1, h2⟩ := key _ h.tys hm
  refine ⟨h1, ?_⟩
  cases hi : g.P.info? r.t with
  | none => simp [hi] at h2
  | some i => simp [hi] at h2; exact ⟨i, rfl, h2.1, h2.2.1, h2.2.2⟩

theorem Gx.Ok.fns {g : Gx} (h : g.Ok) : ∀ f ∈ g.fns, Callable g.P f := by
  intro f
  have key : ∀ l, AllFn g.P l → f ∈ l → Callable g.P f := by
    intro l
    induction l with
    | nil => intro _ h; cases h
    | cons x l ih => intro h hm; cases hm with
      | head => exact h.1
      | tail _ hm => exact ih h.2 hm
  exact key _ h.fns'

def memN (n : Nat) : List Nat → Bool
  | [] => false
  | x :: l => match Nat.beq x n with
    | true => true
    | false => memN n l

theorem memN_spec {n : Nat} {l : List Nat} (h : memN n l = true) : n ∈ l := by
  induction l with
  | nil => cases h
  | cons x l ih =>
    simp only [memN] at h
    cases hb : Nat.beq x n with
    | true => have := Nat.eq_of_beq_eq_true hb; simp [this]
    | false => simp only [hb] at h; simp [ih h]

structure Cx where
  g : Gx
  N : Slots
  named : Nat
  keep : List Nat
  cuts : List Nat := []

abbrev Post := Exit → Env → World → Prop

def Up (c : Cx) (Q : Post) : Exit → Act → World → Prop := fun e a w => ∃ S, Fits c.N S a ∧ Q e S w

/-! ### The small propositions -/
@[irreducible] def WIf (b : Bool) (p q : Prop) : Prop := (b = true → p) ∧ (b = false → q)
@[irreducible] def Norm (n : Int) (K : Int → Prop) : Prop := K n
@[irreducible] def NormIf (p : Prop) (n : Int) (K : Int → Prop) : Prop := p ∧ K n
@[irreducible] def Need (p : Prop) (v : Value) (K : Value → Prop) : Prop := p ∧ K v
@[irreducible] def Load (w : World) (p : Addr) (K : Value → Prop) : Prop := ∃ v, w.cell? p = some v ∧ K v
@[irreducible] def LoadN (w : World) (p : Addr) (n : Nat) (K : List Value → Prop) : Prop := ∃ vs : List Value, vs.length = n ∧ (∀ j v, vs[j]? = some v → w.cell? (p.add j) = some v) ∧ K vs
@[irreducible] def Store (w : World) (p : Addr) (v : Value) (K : World → Prop) : Prop := (∃ u, w.cell? p = some u) ∧ w.frozen? p = false ∧ K (w.setCell p v)
/-- A new variable. -/
@[irreducible] def New (w : World) (t : TypeId) (cs : List Value) (K : Addr → World → Prop) : Prop := K ⟨w.heap.size, 0, none⟩ (w.alloc (.cells cs.toArray t))
@[irreducible] def StoreN (P : Program) (w : World) (p : Addr) (vs : List Value) (K : World → Prop) : Prop := ∃ w', (storeCells p vs).run P w = .ok () w' ∧ K w'
@[irreducible] def Named (a b : String) (K : Prop) : Prop := a = b ∧ K
@[irreducible] def Index (b : Option Addr) (n : Nat) (i : Int) (sz : Nat) (K : Addr → Prop) : Prop := ∃ a, b = some a ∧ 0 ≤ i ∧ i < n ∧ K (a.add (i.toNat * sz))
@[irreducible] def SIndex (s : ByteArray) (i : Int) (K : Int → Prop) : Prop := ∃ b, 0 ≤ i ∧ s[i.toNat]? = some b ∧ K (b.toNat : Int)
/-- A call that comes back, and what is asked behind it. -/
@[irreducible] def Fn (P : Program) (f : FuncId) (l : List Value) (w : World) (R : Value → World → Prop) : Prop := Calls P f l.toArray w fun
  | .returned v, w' => R v w'
  | _, _ => False
@[irreducible] def CallAt (P : Program) (f : FuncId) (l : List Value) (w : World) (K : Value → World → Prop) (pan : List PanicEntry → World → Prop) : Prop := Calls P f l.toArray w fun
  | .returned v, w' => K v w'
  | .panicked ch, w' => pan ch w'
  | .outgrown, _ => False
/-- A method of an interface's value of type t: l begins with the value. -/
@[irreducible] def InvokeAt (c : Cx) (nm : String) (t : Nat) (l : List Value) (w : World) (K : Value → World → Prop) (pan : List PanicEntry → World → Prop) : Prop :=
  ∃ r, mRowOf c.g.ms t = some r ∧ nm = r.name ∧ memN r.f c.g.fns = true ∧ CallAt c.g.P r.f l w K pan
@[irreducible] def AtOp (c : Cx) (o : Oper) (S : Env) (w : World) (K : Env → World → Prop) (Q : Post) : Prop :=
  ∀ a, Fits c.N S a → o.wp c.g.P a w (fun a' w' => ∃ S', Fits c.N S' a' ∧ K S' w') (Up c Q)
@[irreducible] def AtDraw (c : Cx) (id : Nat) (ops : List Oper) (S : Env) (w : World) (Q : Post) : Prop :=
  ∀ a, Fits c.N S a → (Code.region id ops.toArray true).wp c.g.P (Up c Q) a w
@[irreducible] def AtLoop (c : Cx) (x : Code) (S : Env) (w : World) (Q : Post) : Prop :=
  ∀ a, Fits c.N S a → (Code.loop x).wp c.g.P (Up c Q) a w
@[irreducible] def AtCode (c : Cx) (x : Code) (S : Env) (w : World) (Q : Post) : Prop :=
  ∀ a, Fits c.N S a → x.wp c.g.P (Up c Q) a w

/-! ### Operations that leave the world alone -/
inductive PR where
  | val (v : Value)
  | ent (e : Ent)
  | norm (k : IntKind) (n : Int)
  | normIf (p : Prop) (k : IntKind) (n : Int)
  | need (p : Prop) (v : Value)
  | no

def nth : List Value → Nat → Option Value
  | [], _ => none
  | x :: _, 0 => some x
  | _ :: l, n + 1 => nth l n

theorem nth_eq (l : List Value) (n : Nat) : nth l n = l[n]? := by
  induction l generalizing n with
  | nil => simp [nth]
  | cons x l ih => cases n <;> simp [nth, ih]

def kindNo : IntKind → Nat
  | .i8 => 0 | .i16 => 1 | .i32 => 2 | .i64 => 3 | .u8 => 4 | .u16 => 5 | .u32 => 6 | .u64 => 7

theorem kindNo_inj {a b : IntKind} (h : Nat.beq (kindNo a) (kindNo b) = true) : a = b := by
  have := Nat.eq_of_beq_eq_true h
  cases a <;> cases b <;> first | rfl | (simp [kindNo] at this)

def intBin (op : BinOp) (k : IntKind) (x y : Int) : PR :=
  match op with
  | .add => .norm k (k.wrap (x + y))
  | .sub => .norm k (k.wrap (x - y))
  | .mul => .norm k (k.wrap (x * y))
  | .quo => .normIf (y ≠ 0) k (k.wrap (x.tdiv y))
  | .rem => .normIf (y ≠ 0) k (x.tmod y)
  | .and => .norm k (k.wrap ((BitVec.ofInt k.bits x &&& BitVec.ofInt k.bits y).toNat))
  | .or => .norm k (k.wrap ((BitVec.ofInt k.bits x ||| BitVec.ofInt k.bits y).toNat))
  | .xor => .norm k (k.wrap ((BitVec.ofInt k.bits x ^^^ BitVec.ofInt k.bits y).toNat))
  | .andNot => .norm k (k.wrap ((BitVec.ofInt k.bits x &&& ~~~ BitVec.ofInt k.bits y).toNat))
  | .eql => .val (.bool (x == y))
  | .neq => .val (.bool (x != y))
  | .lss => .val (.bool (decide (x < y)))
  | .leq => .val (.bool (decide (x ≤ y)))
  | .gtr => .val (.bool (decide (x > y)))
  | .geq => .val (.bool (decide (x ≥ y)))
  | _ => .no

def binPR (op : BinOp) (k : IntKind) (x : Int) (k' : IntKind) (y : Int) : PR :=
  match op with
  | .shl => .normIf (0 ≤ y) k (k.wrap (x * 2 ^ (min y.toNat k.bits)))
  | .shr => .normIf (0 ≤ y) k (x.fdiv (2 ^ (min y.toNat k.bits)))
  | op => match Nat.beq (kindNo k) (kindNo k') with
    | true => intBin op k x y
    | false => .no

def strPR (op : BinOp) (x y : ByteArray) : PR :=
  match op with
  | .add => .need (x.size + y.size ≤ maxLen) (.string (x ++ y))
  | .eql => .val (.bool (decide (x = y)))
  | .neq => .val (.bool (!decide (x = y)))
  | .lss => .val (.bool (Op.bytesLess x.data.toList y.data.toList))
  | _ => .no

def lenPR : TypeDesc → Value → PR
  | .string, .string s => .val (.int .i64 s.size)
  | .slice _, .slice _ n _ => .val (.int .i64 n)
  | _, _ => .no

/-- The comparisons by == that need no look at memory. -/
def eqB : TypeDesc → Value → Value → Option Bool
  | .bool, .bool a, .bool b => some (a == b)
  | .slice _, .slice none _ _, .slice b _ _ => some b.isNone
  | .slice _, .slice (some _) _ _, .slice none _ _ => some false
  | .map _ _, .map none, .map b => some b.isNone
  | .map _ _, .map (some _), .map none => some false
  | .pointer _, .pointer none, .pointer b => some b.isNone
  | .pointer _, .pointer (some _), .pointer none => some false
  | .interface _, .nilIface, .iface _ _ => some false
  | .interface _, .iface _ _, .nilIface => some false
  | .func _ _ _, .nilFunc, .nilFunc => some true
  | .func _ _ _, .nilFunc, .func _ _ _ => some false
  | .func _ _ _, .func _ _ _, .nilFunc => some false
  | _, _, _ => none

def eqCells : List Nat → List Value → List Value → Option Bool
  | [], [], [] => some true
  | 0 :: ks, .int k a :: xs, .int k' b :: ys => match Nat.beq (kindNo k) (kindNo k'), eqCells ks xs ys with
    | true, some r => some (a == b && r)
    | _, _ => none
  | 1 :: ks, .string a :: xs, .string b :: ys => match eqCells ks xs ys with
    | some r => some (decide (a = b) && r)
    | none => none
  | 2 :: ks, .bool a :: xs, .bool b :: ys => match eqCells ks xs ys with
    | some r => some (a == b && r)
    | none => none
  | _, _, _ => none

def eqPR (op : BinOp) (r : Option Bool) : PR :=
  match op, r with
  | .eql, some b => .val (.bool b)
  | .neq, some b => .val (.bool (!b))
  | _, _ => .no

def nthA {α : Type} : List α → Nat → Option α
  | [], _ => none
  | x :: _, 0 => some x
  | _ :: l, n + 1 => nthA l n

def isAggD : TypeDesc → Bool
  | .struct _ => true
  | .array _ _ => true
  | _ => false

def isIfaceD : TypeDesc → Bool
  | .interface _ => true
  | _ => false

def cellsL : Value → List Value
  | .agg cs => cs.toList
  | v => [v]

/-- vs laid over the head of a list; over what lies from place n on. -/
def overL : List Value → List Value → List Value
  | [], cs => cs
  | v :: vs, _ :: cs => v :: overL vs cs
  | _ :: _, [] => []
def putL : Nat → List Value → List Value → List Value
  | 0, vs, cs => overL vs cs
  | n + 1, vs, c :: cs => c :: putL n vs cs
  | _ + 1, _, [] => []

def sizesL (g : Gx) : List Field → Option (List (Nat × Nat))
  | [] => some []
  | f :: l => match rowOf g.tys f.type, sizesL g l with
    | some r, some m => some ((f.offset, r.sz) :: m)
    | _, _ => none

def fillL (ps : Nat → Option (Nat × Nat)) : List Value → List (Nat × Value) → Option (List Value)
  | cells, [] => some cells
  | cells, (i, v) :: rest => match ps i with
    | some (off, sz) => (match Nat.beq (cellsL v).length sz, Nat.ble (off + (cellsL v).length) cells.length with
      | true, true => fillL ps (putL off (cellsL v) cells) rest
      | _, _ => none)
    | none => none

def evL (S : Env) : List Operand → Option (List Value)
  | [] => some []
  | x :: l => match S.ev x, evL S l with
    | some v, some m => some (v :: m)
    | _, _ => none
def evP (S : Env) : List (Nat × Operand) → Option (List (Nat × Value))
  | [] => some []
  | (i, x) :: l => match S.ev x, evP S l with
    | some v, some m => some ((i, v) :: m)
    | _, _ => none

/-- A bound of a slice expression: none where it is not known. -/
def boundOf (S : Env) (d : Int) : Option Operand → Option Int
  | none => some d
  | some x => match S.ev x with
    | some (.int _ n) => some n
    | _ => none

def pureOp (g : Gx) (S : Env) : Op → PR
  | .move (.const (.bool true)) | .assign (.const (.bool true)) => .ent .t
  | .move (.const (.bool false)) | .assign (.const (.bool false)) => .ent .f
  | .move (.tmp t) | .assign (.tmp t) => match S.ent t with
    | some e => .ent e
    | none => .no
  | .move x | .assign x => match S.ev x with
    | some v => .val v
    | none => .no
  | .pick (.tmp t) a b => match S.ent t with
    | some .t => (match a with
      | .const (.bool true) => .ent .t
      | .const (.bool false) => .ent .f
      | .tmp u => (match S.ent u with
        | some e => .ent e
        | none => .no)
      | a => match S.ev a with
        | some v => .val v
        | none => .no)
    | some .f => (match b with
      | .const (.bool true) => .ent .t
      | .const (.bool false) => .ent .f
      | .tmp u => (match S.ent u with
        | some e => .ent e
        | none => .no)
      | b => match S.ev b with
        | some v => .val v
        | none => .no)
    | _ => .no
  | .binOp op t x y _ => match S.ev x, S.ev y with
    | some (.int k a), some (.int k' b) => binPR op k a k' b
    | some (.string a), some (.string b) => strPR op a b
    | some (.agg a), some (.agg b) => (match eRowOf g.eqs t with
      | some r => eqPR op (eqCells r.ks a.toList b.toList)
      | none => .no)
    | some a, some b => (match rowOf g.tys t with
      | some r => eqPR op (eqB r.d a b)
      | none => .no)
    | _, _ => .no
  | .unOp .not _ (.tmp t) => match S.ent t with
    | some .t => .ent .f
    | some .f => .ent .t
    | some (.v (.bool b)) => .val (.bool (!b))
    | _ => .no
  | .unOp .neg _ x => match S.ev x with
    | some (.int k n) => .norm k (k.wrap (0 - n))
    | _ => .no
  | .convert s t x => match rowOf g.tys s, rowOf g.tys t, S.ev x with
    | some _, some ⟨_, .int k, _, _, _⟩, some (.int _ n) => .norm k (k.wrap n)
    | some _, some ⟨_, .string, _, _, _⟩, some (.string s) => .val (.string s)
    | _, _, _ => .no
  | .extract x i => match S.ev x with
    | some (.tuple vs) => (match nth vs.toList i with
      | some v => .val v
      | none => .no)
    | _ => .no
  | .call ⟨.builtin .len, xs, ts⟩ => match xs.toList, ts.toList with
    | [x], [t] => (match rowOf g.tys t, S.ev x with
      | some r, some v => lenPR r.d v
      | _, _ => .no)
    | _, _ => .no
  | .call ⟨.builtin .min, xs, _⟩ => match xs.toList with
    | [x, y] => (match S.ev x, S.ev y with
      | some (.int k a), some (.int _ b) => .norm k (if b < a then b else a)
      | _, _ => .no)
    | [x, y, z] => (match S.ev x, S.ev y, S.ev z with
      | some (.int k a), some (.int _ b), some (.int _ c) => .norm k (if c < (if b < a then b else a) then c else (if b < a then b else a))
      | _, _, _ => .no)
    | _ => .no
  | .call ⟨.builtin .max, xs, _⟩ => match xs.toList with
    | [x, y] => (match S.ev x, S.ev y with
      | some (.int k a), some (.int _ b) => .norm k (if b > a then b else a)
      | _, _ => .no)
    | _ => .no
  | .nilCheck x => match S.ev x with
    | some (.pointer (some p)) => .val (.pointer (some p))
    | some (.iface t v) => .val (.iface t v)
    | some (.func (.func n) a b) => .val (.func (.func n) a b)
    | _ => .no
  | .fieldAddr t x k => match rowOf g.tys t, S.ev x with
    | some r, some (.pointer (some p)) => (match r.d with
      | .struct fs => (match nthA fs.toList k with
        | some f => (match rowOf g.tys f.type with
          | some rf => (match Nat.beq rf.sz 0 with
            | false => .val (.pointer (some (p.add f.offset)))
            | true => .no)
          | none => .no)
        | none => .no)
      | _ => .no)
    | _, _ => .no
  | .field t x k => match rowOf g.tys t, S.ev x with
    | some r, some (.agg cs) => (match r.d with
      | .struct fs => (match nthA fs.toList k with
        | some f => (match rowOf g.tys f.type with
          | some rf => (match isAggD rf.d with
            | true => .val (.agg ((cs.toList.drop f.offset).take rf.sz).toArray)
            | false => (match nth cs.toList f.offset with
              | some v => .val v
              | none => .no))
          | none => .no)
        | none => .no)
      | _ => .no)
    | _, _ => .no
  | .build t parts => match rowOf g.tys t, evP S parts.toList with
    | some r, some ps => (match r.d with
      | .struct fs => (match sizesL g fs.toList with
        | some pl => (match fillL (nthA pl) r.z.cells.toList ps with
          | some cs => .val (.agg cs.toArray)
          | none => .no)
        | none => .no)
      | .array _ e => (match rowOf g.tys e with
        | some re => (match fillL (fun i => some (i * re.sz, re.sz)) r.z.cells.toList ps with
          | some cs => .val (.agg cs.toArray)
          | none => .no)
        | none => .no)
      | _ => .no)
    | _, _ => .no
  | .makeInterface t x => match rowOf g.tys t, S.ev x with
    | some r, some v => (match isIfaceD r.d with
      | false => .val (.iface t v)
      | true => .no)
    | _, _ => .no
  | .makeFunc f xs ys => match evL S xs.toList, evL S ys.toList with
    | some a, some b => .val (.func f a.toArray b.toArray)
    | _, _ => .no
  | .slice t x lo hi none => match rowOf g.tys t, S.ev x with
    | some ⟨_, .string, _, _, _⟩, some (.string s) => (match boundOf S 0 lo, boundOf S s.size hi with
      | some l, some h => .need (0 ≤ l ∧ l ≤ h ∧ h ≤ s.size) (.string (s.extract l.toNat h.toNat))
      | _, _ => .no)
    | _, _ => .no
  | _ => .no

/-- What a reckoning says of an operation's run. -/
def PR.Means (w : World) (r : Result Next) : PR → Prop
  | .val v => r = .ok (.value v) w
  | .ent e => r = .ok (.value e.val) w
  | .norm k n => r = .ok (.value (.int k n)) w
  | .normIf p k n => p → r = .ok (.value (.int k n)) w
  | .need p v => p → r = .ok (.value v) w
  | .no => True

section
variable {g : Gx} {S : Env} {w : World} {ρ : Operand → Value}

theorem intBin_sound (op : BinOp) (t : TypeId) (k : IntKind) (x y : Int) (h1 : op ≠ .shl) (h2 : op ≠ .shr) :
    (intBin op k x y).Means w (((binOp op t (.int k x) (.int k y)).run g.P w).andThen fun v w => .ok (.value v) w) := by
  cases op <;> first | (exact absurd rfl h1) | (exact absurd rfl h2) | skip
  all_goals simp [intBin, PR.Means, binOp, Op.intArith, Op.intBits, Op.intCmp, Op.intDiv]
  all_goals (intro h; simp [h])

theorem binPR_sound (op : BinOp) (t : TypeId) (k k' : IntKind) (x y : Int) :
    (binPR op k x k' y).Means w (((binOp op t (.int k x) (.int k' y)).run g.P w).andThen fun v w => .ok (.value v) w) := by
  unfold binPR
  split
  · intro h; simp only [binOp, Op.shift]; rw [if_neg (by omega)]; simp
  · intro h; simp only [binOp, Op.shift]; rw [if_neg (by omega)]; simp
  · rename_i h1 h2
    split
    · rename_i hk
      have := kindNo_inj hk
      subst this
      exact intBin_sound op t k x y h1 h2
    · trivial

theorem bytes_beq (a b : ByteArray) : (a.toList == b.toList) = decide (a = b) := by
  rw [Bool.eq_iff_iff]; simp [ByteArray.toList_eq]
  constructor
  · intro h; cases a; cases b; simp_all
  · intro h; rw [h]

theorem strPR_sound (op : BinOp) (t : TypeId) (x y : ByteArray) :
    (strPR op x y).Means w (((binOp op t (.string x) (.string y)).run g.P w).andThen fun v w => .ok (.value v) w) := by
  unfold strPR
  split <;> simp only [PR.Means]
  · intro h
    have : ¬ ((x.size + y.size : Nat) : Int) > IntKind.i64.max := by
      have h2 : IntKind.i64.max = 9223372036854775807 := by decide
      rw [h2]; unfold maxLen at h; omega
    simp only [binOp, Op.stringOp]; rw [if_neg this]; simp
  · simp [binOp, Op.stringOp, bytes_beq]
  · simp [binOp, Op.stringOp, bytes_beq]
  · simp [binOp, Op.stringOp, ByteArray.toList_eq]

theorem run_und (hg : g.Ok) {t : Nat} {r : TyRow} (hr : rowOf g.tys t = some r) (w : World) : (underlying t).run g.P w = .ok r.d w :=
  run_underlying (hg.row hr).1 w

theorem lenPR_sound (hg : g.Ok) {t : Nat} {r : TyRow} (hr : rowOf g.tys t = some r) (ty : TypeId) (v : Value) :
    (lenPR r.d v).Means w (((Builtin.len_ #[t] ty #[v]).run g.P w).andThen fun v w => .ok (.value v) w) := by
  have hu := run_und hg hr w
  unfold lenPR
  split <;> simp only [PR.Means]
  · rename_i h; simp [Builtin.len_, hu, h, goInt]
  · rename_i h; simp [Builtin.len_, hu, h, goInt]

theorem eqB_deep (hg : g.Ok) {t : Nat} {r : TyRow} (hr : rowOf g.tys t = some r) {x y : Value} {b : Bool} (h : eqB r.d x y = some b) (n : Nat) :
    (Op.equalIn (n + 1) t x y).run g.P w = .ok b w := by
  have hu := run_und hg hr w
  unfold eqB at h
  split at h <;> first | (simp only [Option.some.injEq] at h; subst h; rename_i hd; simp [Op.equalIn, hu, hd]; done) | cases h

theorem eqB_sound (hg : g.Ok) {t : Nat} {r : TyRow} (hr : rowOf g.tys t = some r) {x y : Value} {b : Bool} (h : eqB r.d x y = some b) :
    (Op.equal t x y).run g.P w = .ok b w := eqB_deep hg hr h 9999

theorem eqGuard_of (op : BinOp) (t : TypeId) (x y : Operand) {d : TypeDesc} {a b : Value} {r : Bool} (h : eqB d a b = some r) : eqGuard op t x y a b = pure () := by
  unfold eqB at h
  split at h <;> first | (simp only [eqGuard]; split <;> rfl) | cases h

theorem eqPR_sound (hg : g.Ok) (op : BinOp) {t : Nat} {r : TyRow} (hr : rowOf g.tys t = some r) (x y : Value) :
    (eqPR op (eqB r.d x y)).Means w (((binOp op t x y).run g.P w).andThen fun v w => .ok (.value v) w) := by
  unfold eqPR
  split
  · rename_i b hb
    have h := eqB_sound (w := w) hg hr hb
    have e : binOp .eql t x y = (do pure (.bool (← Op.equal t x y))) := by
      unfold eqB at hb
      split at hb <;> first | rfl | cases hb
    simp [PR.Means, e, h]
  · rename_i b hb
    have h := eqB_sound (w := w) hg hr hb
    have e : binOp .neq t x y = (do pure (.bool (!(← Op.equal t x y)))) := by
      unfold eqB at hb
      split at hb <;> first | rfl | cases hb
    simp [PR.Means, e, h]
  · trivial

theorem isAgg_kind {P : Program} {t : TypeId} (h : kindD (P.underlying t) < 3) (w : World) : (isAgg t).run P w = .ok false w := by
  cases hu : P.underlying t with
  | none => rw [hu] at h; simp [kindD] at h
  | some d =>
    simp only [isAgg, Sem.run_bind, run_underlying hu, Result.andThen_ok]
    rw [hu] at h
    cases d <;> first | rfl | (simp [kindD] at h)

theorem part_one {P : Program} {t : TypeId} (h : kindD (P.underlying t) < 3) {cs : Array Value} {n : Nat} {v : Value} (hv : cs[n]? = some v) (w : World) : (part t cs n).run P w = .ok v w := by
  simp [part, isAgg_kind h, hv]

theorem eqCells_fields {P : Program} {xs ys : Array Value} : ∀ (fs : List Field) (ks : List Nat) (n : Nat) (xl yl : List Value) (b : Bool), fieldsB P n fs ks = true → eqCells ks xl yl = some b →
    (∀ j, xl[j]? = xs[n + j]?) → (∀ j, yl[j]? = ys[n + j]?) → ∀ (d : Nat) (w : World), (Op.eqFields (d + 1) xs ys fs).run P w = .ok b w
  | [], [], n, [], [], b, _, h, _, _, d, w => by
    simp only [eqCells, Option.some.injEq] at h
    subst h; simp [Op.eqFields]
  | [], [], _, [], _ :: _, _, _, h, _, _, _, _ => by simp [eqCells] at h
  | [], [], _, _ :: _, _, _, _, h, _, _, _, _ => by simp [eqCells] at h
  | [], _ :: _, _, _, _, _, hb, _, _, _, _, _ => by simp [fieldsB] at hb
  | _ :: _, [], _, _, _, _, hb, _, _, _, _, _ => by simp [fieldsB] at hb
  | f :: fs, k :: ks, n, xl, yl, b, hb, h, hx, hy, d, w => by
    simp only [fieldsB, Bool.and_eq_true, bne_iff_ne, ne_eq] at hb
    obtain ⟨⟨⟨⟨hnm, hoff⟩, hk⟩, hk3⟩, hrest⟩ := hb
    have hoff := Nat.eq_of_beq_eq_true hoff
    have hk := Nat.eq_of_beq_eq_true hk
    have hk3 : k < 3 := by rw [Nat.blt_eq] at hk3; exact hk3
    have hlt : kindD (P.underlying f.type) < 3 := by omega
    have step : ∀ (u v : Value) (xt yt : List Value) (e r : Bool), xl = u :: xt → yl = v :: yt → eqCells ks xt yt = some r → (Op.equalIn (d + 1) f.type u v).run P w = .ok e w →
        (Op.eqFields (d + 1) xs ys (f :: fs)).run P w = .ok (e && r) w := by
      rintro u v xt yt e r rfl rfl hr he
      have hu : xs[f.offset]? = some u := by rw [hoff]; simpa using (hx 0).symm
      have hv : ys[f.offset]? = some v := by rw [hoff]; simpa using (hy 0).symm
      have ih := eqCells_fields fs ks (n + 1) xt yt r hrest hr (fun j => by have := hx (j + 1); simpa [Nat.add_assoc, Nat.add_comm 1 j] using this) (fun j => by have := hy (j + 1); simpa [Nat.add_assoc, Nat.add_comm 1 j] using this) d w
      simp only [Op.eqFields, ne_eq, hnm, not_false_eq_true, if_true, Sem.run_bind, part_one hlt hu, part_one hlt hv, Result.andThen_ok, he]
      cases e with
      | true => simpa using ih
      | false => simp
    unfold eqCells at h
    split at h
    · simp at *
    · rename_i ks' k1 a xt k2 b2 yt hkk
      simp only [List.cons.injEq] at hkk
      obtain ⟨rfl, rfl⟩ := hkk
      split at h
      · rename_i r h1 h2
        have := kindNo_inj h1
        subst this
        simp only [Option.some.injEq] at h
        subst h
        cases hu : P.underlying f.type with
        | none => rw [hu] at hk; simp [kindD] at hk
        | some dd => rw [hu] at hk; cases dd <;> first | (exact step _ _ _ _ _ _ rfl rfl h2 (run_equalIn_int w d f.type _ _ _ _ hu)) | (simp [kindD] at hk)
      · cases h
    · rename_i ks' a xt b2 yt hkk
      simp only [List.cons.injEq] at hkk
      obtain ⟨rfl, rfl⟩ := hkk
      split at h
      · rename_i r h2
        simp only [Option.some.injEq] at h
        subst h
        cases hu : P.underlying f.type with
        | none => rw [hu] at hk; simp [kindD] at hk
        | some dd => rw [hu] at hk; cases dd <;> first | (refine step _ _ _ _ _ _ rfl rfl h2 ?_; rw [run_equalIn_string w d f.type _ _ hu, bytes_beq]; done) | (simp [kindD] at hk)
      · cases h
    · rename_i ks' a xt b2 yt hkk
      simp only [List.cons.injEq] at hkk
      obtain ⟨rfl, rfl⟩ := hkk
      split at h
      · rename_i r h2
        simp only [Option.some.injEq] at h
        subst h
        cases hu : P.underlying f.type with
        | none => rw [hu] at hk; simp [kindD] at hk
        | some dd => rw [hu] at hk; cases dd <;> first | (exact step _ _ _ _ _ _ rfl rfl h2 (run_equalIn_bool' w d f.type _ _ hu)) | (simp [kindD] at hk)
      · cases h
    · cases h

theorem eqCells_run (hg : g.Ok) {t : Nat} {r : ERow} (hr : eRowOf g.eqs t = some r) {xs ys : Array Value} {b : Bool} (h : eqCells r.ks xs.toList ys.toList = some b) (n : Nat) :
    (Op.equalIn (n + 2) t (.agg xs) (.agg ys)).run g.P w = .ok b w := by
  obtain ⟨⟨h1, _, h3⟩, rfl⟩ := eRowOf_spec hr hg.eqs
  split at h3
  · rename_i fs hu
    have hf : g.P.fieldsOf r.t = fs := by simp [Program.fieldsOf, hu]
    rw [run_equalIn_struct w (n + 1) r.t xs ys (by rw [hf]; exact hu) h1, hf]
    exact eqCells_fields fs.toList r.ks 0 _ _ b h3 h (fun j => by simp) (fun j => by simp) n w
  · cases h3

theorem eqAgg_sound (hg : g.Ok) (op : BinOp) {t : Nat} {r : ERow} (hr : eRowOf g.eqs t = some r) (x y : Operand) (xs ys : Array Value) :
    (eqPR op (eqCells r.ks xs.toList ys.toList)).Means w (((eqGuard op t x y (.agg xs) (.agg ys)).run g.P w).andThen fun _ w => ((binOp op t (.agg xs) (.agg ys)).run g.P w).andThen fun v w => .ok (.value v) w) := by
  have hgd : ∀ op, (eqGuard op t x y (.agg xs) (.agg ys)).run g.P w = .ok () w := fun op => by
    obtain ⟨⟨_, h2, _⟩, rfl⟩ := eRowOf_spec hr hg.eqs
    exact run_eqGuard_agg w op r.t x y xs ys h2
  unfold eqPR
  split
  · rename_i b hb
    have h := eqCells_run (w := w) hg hr hb 9998
    simp only [PR.Means, hgd, Result.andThen_ok, run_eql_struct]
    rw [h]; rfl
  · rename_i b hb
    have h := eqCells_run (w := w) hg hr hb 9998
    simp only [PR.Means, hgd, Result.andThen_ok, run_neq_struct]
    rw [h]; rfl
  · trivial

theorem toList1 {α : Type} {xs : Array α} {x : α} (h : xs.toList = [x]) : xs = #[x] := by
  cases xs; simp_all

theorem toList2 {α : Type} {xs : Array α} {x y : α} (h : xs.toList = [x, y]) : xs = #[x, y] := by
  cases xs; simp_all

theorem toList3 {α : Type} {xs : Array α} {x y z : α} (h : xs.toList = [x, y, z]) : xs = #[x, y, z] := by
  cases xs; simp_all

theorem nthA_eq {α : Type} (l : List α) (n : Nat) : nthA l n = l[n]? := by
  induction l generalizing n with
  | nil => simp [nthA]
  | cons x l ih => cases n <;> simp [nthA, ih]

theorem cells_toList (v : Value) : v.cells.toList = cellsL v := by cases v <;> rfl

theorem putL_set (vs : List Value) (v : Value) : ∀ (n : Nat) (l : List Value), putL (n + 1) vs (l.set n v) = putL n (v :: vs) l
  | 0, [] => rfl
  | 0, _ :: _ => rfl
  | _ + 1, [] => rfl
  | n + 1, c :: l => by
    show c :: putL (n + 1) vs (l.set n v) = c :: putL n (v :: vs) l
    rw [putL_set vs v n l]

theorem putL_nil : ∀ (n : Nat) (l : List Value), putL n [] l = l
  | 0, _ => rfl
  | _ + 1, [] => rfl
  | n + 1, c :: l => by
    show c :: putL n [] l = c :: l
    rw [putL_nil n l]

theorem foldl_putL (off : Nat) : ∀ (vs : List Value) (k : Nat) (l : List Value),
    (vs.zipIdx k).foldl (fun cs (p : Value × Nat) => cs.set (off + p.2) p.1) l = putL (off + k) vs l
  | [], _, _ => (putL_nil _ _).symm
  | v :: vs, k, l => by
    rw [List.zipIdx_cons, List.foldl_cons, foldl_putL off vs (k + 1)]
    exact putL_set vs v (off + k) l

theorem foldl_cells (off : Nat) (vs cells : Array Value) :
    (vs.zipIdx.foldl (fun cs (c, j) => cs.setIfInBounds (off + j) c) cells).toList = putL off vs.toList cells.toList := by
  have h := foldl_putL off vs.toList 0 cells.toList
  rw [Nat.add_zero] at h
  rw [← Array.foldl_toList, Array.toList_zipIdx, ← h]
  clear h
  generalize vs.toList.zipIdx 0 = l
  induction l generalizing cells with
  | nil => rfl
  | cons p l ih => simp only [List.foldl_cons]; rw [ih]; simp

theorem fillL_spec (ps : Nat → Option (Nat × Nat)) : ∀ (parts : List (Nat × Value)) (cells : Array Value) (out : List Value), fillL ps cells.toList parts = some out → Instr.fill ps cells parts = some out.toArray
  | [], cells, out, h => by
    simp only [fillL, Option.some.injEq] at h
    subst h; simp [Instr.fill]
  | (i, v) :: rest, cells, out, h => by
    simp only [fillL] at h
    split at h
    · rename_i off sz hp
      split at h
      · rename_i h1 h2
        have h1 := Nat.eq_of_beq_eq_true h1
        have h2 := Nat.le_of_ble_eq_true h2
        have e1 : v.cells.size = sz := by rw [← h1, ← cells_toList]; simp
        have e2 : off + v.cells.size ≤ cells.size := by rw [e1, ← h1]; simpa using h2
        simp only [Instr.fill, hp]
        rw [if_neg (by simp; omega)]
        refine fillL_spec ps rest _ out ?_
        rw [foldl_cells, cells_toList]; exact h
      · cases h
    · cases h

theorem sizesL_spec (hg : g.Ok) : ∀ (l : List Field) (m : List (Nat × Nat)), sizesL g l = some m →
    (l.mapM (m := Sem) fun f => Prod.mk f.offset <$> sizeOf f.type).run g.P w = .ok m w
  | [], m, h => by simp only [sizesL, Option.some.injEq] at h; subst h; simp
  | f :: l, m, h => by
    simp only [sizesL] at h
    split at h
    · rename_i r m' hr hm
      simp only [Option.some.injEq] at h
      subst h
      obtain ⟨_, i, hi, hs, _⟩ := hg.row hr
      have ih := sizesL_spec hg l m' hm
      have hz : (sizeOf f.type).run g.P w = .ok r.sz w := by simp [sizeOf, typeInfo, hi, hs]
      rw [List.mapM_cons]
      simp [hz, ih]
    · cases h

theorem evL_spec {ρ : Operand → Value} (hρ : ∀ x v, S.ev x = some v → ρ x = v) : ∀ (l : List Operand) (m : List Value), evL S l = some m → l.map ρ = m
  | [], m, h => by simp only [evL, Option.some.injEq] at h; subst h; rfl
  | x :: l, m, h => by
    simp only [evL] at h
    split at h
    · rename_i v m' hv hm
      simp only [Option.some.injEq] at h
      subst h
      rw [List.map_cons, hρ _ _ hv, evL_spec hρ l m' hm]
    · cases h
theorem evP_spec {ρ : Operand → Value} (hρ : ∀ x v, S.ev x = some v → ρ x = v) : ∀ (l : List (Nat × Operand)) (m : List (Nat × Value)), evP S l = some m → l.map (fun (i, x) => (i, ρ x)) = m
  | [], m, h => by simp only [evP, Option.some.injEq] at h; subst h; rfl
  | (i, x) :: l, m, h => by
    simp only [evP] at h
    split at h
    · rename_i v m' hv hm
      simp only [Option.some.injEq] at h
      subst h
      rw [List.map_cons, evP_spec hρ l m' hm]
      show (i, ρ x) :: m' = _
      rw [hρ _ _ hv]
    · cases h

theorem bound_run {ρ : Operand → Value} (hρ : ∀ x v, S.ev x = some v → ρ x = v) {x : Operand} {n : Int} {d : Int} (h : boundOf S d (some x) = some n) (y : Nat) (hn : 0 ≤ n ∧ n ≤ y) (code : BoundsCode) :
    (Instr.sliceBound (ρ x) y code).run g.P w = .ok n.toNat w := by
  unfold boundOf at h
  simp only at h
  split at h
  · rename_i k m hv
    simp only [Option.some.injEq] at h
    subst h
    rw [hρ _ _ hv]
    simp [Instr.sliceBound, asIntOf, hn]
  · cases h

theorem bounds_run {ρ : Operand → Value} (hρ : ∀ x v, S.ev x = some v → ρ x = v) {lo hi : Option Operand} {l h : Int} {n : Nat} (h1 : boundOf S 0 lo = some l) (h2 : boundOf S n hi = some h) (hp : 0 ≤ l ∧ l ≤ h ∧ h ≤ n) :
    (Instr.sliceBounds false n n (lo.map ρ) (hi.map ρ) none).run g.P w = .ok (l.toNat, h.toNat, n) w := by
  have e1 : ∀ x, lo = some x → ∀ y : Nat, h = (y : Int) → ∀ code, (Instr.sliceBound (ρ x) y code).run g.P w = .ok l.toNat w := fun x hx y hy code =>
    bound_run hρ (d := 0) (by rw [← hx]; exact h1) y ⟨hp.1, by omega⟩ code
  have e2 : ∀ x, hi = some x → ∀ code, (Instr.sliceBound (ρ x) n code).run g.P w = .ok h.toNat w := fun x hx code =>
    bound_run hρ (d := n) (by rw [← hx]; exact h2) n ⟨by omega, hp.2.2⟩ code
  have hn : h = ((h.toNat : Nat) : Int) := by omega
  cases lo with
  | none =>
    have : l = 0 := by simpa [boundOf] using h1.symm
    subst this
    cases hi with
    | none =>
      have : h = n := by simpa [boundOf] using h2.symm
      subst this
      simp [Instr.sliceBounds]
    | some y => simp [Instr.sliceBounds, e2 y rfl]
  | some x =>
    cases hi with
    | none =>
      have : h = n := by simpa [boundOf] using h2.symm
      subst this
      simp [Instr.sliceBounds, e1 x rfl n rfl]
    | some y => simp [Instr.sliceBounds, e2 y rfl, e1 x rfl _ hn]

theorem pureOp_sound (hg : g.Ok) (hρ : ∀ x v, S.ev x = some v → ρ x = v) (o : Oper) :
    (pureOp g S o.op).Means w ((execOp ρ o).run g.P w) := by
  obtain ⟨dst, op, ty, pos, aft, gd⟩ := o
  simp only
  have hent : ∀ t e, S.ent t = some e → ρ (.tmp t) = e.val := fun t e h => hρ _ _ (by
    simp only [Env.ev, Env.get]; rw [h]; cases e <;> rfl)
  unfold pureOp
  split
  · have := hρ (.const (.bool true)) _ rfl; simp [PR.Means, execOp, this, Ent.val]
  · have := hρ (.const (.bool true)) _ rfl; simp [PR.Means, execOp, this, Ent.val]
  · have := hρ (.const (.bool false)) _ rfl; simp [PR.Means, execOp, this, Ent.val]
  · have := hρ (.const (.bool false)) _ rfl; simp [PR.Means, execOp, this, Ent.val]
  · split
    · rename_i e h; simp [PR.Means, execOp, hent _ _ h]
    · trivial
  · split
    · rename_i e h; simp [PR.Means, execOp, hent _ _ h]
    · trivial
  · split
    · rename_i e h; simp [PR.Means, execOp, hρ _ _ h]
    · trivial
  · split
    · rename_i e h; simp [PR.Means, execOp, hρ _ _ h]
    · trivial
  · rename_i t a b
    split
    · rename_i h
      have h1 := hent _ _ h
      split
      · have := hρ (.const (.bool true)) _ rfl; simp [PR.Means, execOp, h1, this, Ent.val, asBool]
      · have := hρ (.const (.bool false)) _ rfl; simp [PR.Means, execOp, h1, this, Ent.val, asBool]
      · split
        · rename_i h2; simp [PR.Means, execOp, h1, hent _ _ h2, Ent.val, asBool]
        · trivial
      · split
        · rename_i h2; simp [PR.Means, execOp, h1, hρ _ _ h2, Ent.val, asBool]
        · trivial
    · rename_i h
      have h1 := hent _ _ h
      split
      · have := hρ (.const (.bool true)) _ rfl; simp [PR.Means, execOp, h1, this, Ent.val, asBool]
      · have := hρ (.const (.bool false)) _ rfl; simp [PR.Means, execOp, h1, this, Ent.val, asBool]
      · split
        · rename_i h2; simp [PR.Means, execOp, h1, hent _ _ h2, Ent.val, asBool]
        · trivial
      · split
        · rename_i h2; simp [PR.Means, execOp, h1, hρ _ _ h2, Ent.val, asBool]
        · trivial
    · trivial
  · split
    · rename_i hx hy
      have := binPR_sound (g := g) (w := w)
      simp only [execOp, hρ _ _ hx, hρ _ _ hy, eqGuard]
      split <;> simpa using this _ _ _ _ _ _
    · rename_i hx hy
      have := strPR_sound (g := g) (w := w)
      simp only [execOp, hρ _ _ hx, hρ _ _ hy, eqGuard]
      split <;> simpa using this _ _ _ _
    · rename_i op t x y _ _ _ a b hx hy
      cases hr : eRowOf g.eqs t with
      | none => trivial
      | some r =>
        have := eqAgg_sound (w := w) hg op hr x y a b
        simp only [execOp, hρ _ _ hx, hρ _ _ hy]
        simpa using this
    · rename_i op t x y _ _ _ a b _ _ _ hx hy
      cases hr : rowOf g.tys t with
      | none => trivial
      | some r =>
        have := eqPR_sound (w := w) hg op hr a b
        generalize ho : eqB r.d a b = o at this
        simp only [ho]
        cases o with
        | none => unfold eqPR; split <;> first | trivial | (rename_i hn; cases hn)
        | some q =>
          simp only [execOp, hρ _ _ hx, hρ _ _ hy, eqGuard_of op t x y ho]
          simpa using this
    · trivial
  · split
    · rename_i h; simp [PR.Means, execOp, hent _ _ h, Ent.val, Op.unary]
    · rename_i h; simp [PR.Means, execOp, hent _ _ h, Ent.val, Op.unary]
    · rename_i h; simp [PR.Means, execOp, hent _ _ h, Ent.val, Op.unary]
    · trivial
  · split
    · rename_i h; simp [PR.Means, execOp, hρ _ _ h, Op.unary, Op.intArith]
    · trivial
  · split
    · rename_i hs ht hx
      simp only [PR.Means, execOp, hρ _ _ hx, convert]
      simp [run_und hg hs, run_und hg ht, Conv.intToInt]
    · rename_i hs ht hx
      simp only [PR.Means, execOp, hρ _ _ hx, convert]
      simp [run_und hg hs, run_und hg ht]
    · trivial
  · split
    · rename_i vs hx
      split
      · rename_i v hv
        rw [nth_eq, Array.getElem?_toList] at hv
        simp [PR.Means, execOp, hρ _ _ hx, Instr.extract, hv]
      · trivial
    · trivial
  · split
    · rename_i x t hxs hts
      have h1 := toList1 hxs
      have h2 := toList1 hts
      subst h1 h2
      split
      · rename_i r v hr hv
        have := lenPR_sound (w := w) hg hr ty v
        simpa [execOp, resolve, invoke, builtin, hρ _ _ hv] using this
      · trivial
    · trivial
  · split
    · rename_i x y hxs
      have h1 := toList2 hxs
      subst h1
      split
      · rename_i hx hy
        simp [PR.Means, execOp, resolve, invoke, builtin, hρ _ _ hx, hρ _ _ hy, Builtin.min_, Builtin.min2]
      · trivial
    · rename_i x y z hxs
      have h1 := toList3 hxs
      subst h1
      split
      · rename_i hx hy hz
        simp [PR.Means, execOp, resolve, invoke, builtin, hρ _ _ hx, hρ _ _ hy, hρ _ _ hz, Builtin.min_, Builtin.min2]
      · trivial
    · trivial
  · split
    · rename_i x y hxs
      have h1 := toList2 hxs
      subst h1
      split
      · rename_i hx hy
        simp [PR.Means, execOp, resolve, invoke, builtin, hρ _ _ hx, hρ _ _ hy, Builtin.max_, Builtin.max2]
      · trivial
    · trivial
  · split
    · rename_i h; simp [PR.Means, execOp, hρ _ _ h]
    · rename_i h; simp [PR.Means, execOp, hρ _ _ h]
    · rename_i h; simp [PR.Means, execOp, hρ _ _ h]
    · trivial
  · rename_i t x k
    split
    · rename_i hr hx
      split
      · rename_i fs hd
        split
        · rename_i f hf
          split
          · rename_i rf hrf
            split
            · rename_i hz
              have hu := run_und hg hr w
              rw [hd] at hu
              obtain ⟨_, i, hi, hs, _⟩ := hg.row hrf
              have hz' : i.size ≠ 0 := by rw [hs]; exact Nat.ne_of_beq_eq_false hz
              rw [nthA_eq] at hf
              have hf' : fs[k]? = some f := by simpa using hf
              simp [PR.Means, execOp, hρ _ _ hx, Instr.fieldAt, hu, hf', Instr.sureAddr, fieldPlace, sizeOf, typeInfo, hi, hz']
            · trivial
          · trivial
        · trivial
      · trivial
    · trivial
  · rename_i t x k
    split
    · rename_i cs hr hx
      split
      · rename_i fs hd
        split
        · rename_i f hf
          have hu := run_und hg hr w
          rw [hd] at hu
          rw [nthA_eq] at hf
          have hf' : fs[k]? = some f := by simpa using hf
          split
          · rename_i rf hrf
            have hu2 := run_und hg hrf w
            obtain ⟨_, i, hi, hs, _⟩ := hg.row hrf
            have ha : (isAgg f.type).run g.P w = .ok (isAggD rf.d) w := by
              simp only [isAgg, Sem.run_bind, hu2, Result.andThen_ok]
              cases rf.d <;> rfl
            split
            · rename_i hag
              simp [PR.Means, execOp, hρ _ _ hx, Instr.field, hu, hf', asAgg, part, ha, hag, sizeOf, typeInfo, hi, hs]
              apply Array.ext'
              simp [List.take_drop]
            · rename_i hag
              split
              · rename_i v hv
                rw [nth_eq] at hv
                have hv' : cs[f.offset]? = some v := by simpa using hv
                simp [PR.Means, execOp, hρ _ _ hx, Instr.field, hu, hf', asAgg, part, ha, hag, hv']
              · trivial
          · trivial
        · trivial
      · trivial
    · trivial
  · rename_i t parts
    split
    · rename_i r ps hr hps
      have hpm := evP_spec hρ _ _ hps
      have hu := run_und hg hr w
      obtain ⟨_, i, hi, hs, hb, hz⟩ := hg.row hr
      have hpm' : (parts.map fun (x : Nat × Operand) => (x.1, ρ x.2)).toList = ps := by rw [Array.toList_map]; exact hpm
      split
      · rename_i fs hd
        rw [hd] at hu
        split
        · rename_i pl hpl
          have hsz := sizesL_spec (w := w) hg _ _ hpl
          split
          · rename_i cs hfl
            have hfill := fillL_spec _ _ _ _ hfl
            have hmap : (fs.mapM (m := Sem) fun f => Prod.mk f.offset <$> sizeOf f.type).run g.P w = .ok pl.toArray w := by
              rw [Array.mapM_eq_mapM_toList]; simp [hsz]
            have hget : (fun i => pl[i]?) = nthA pl := by funext i; rw [nthA_eq]
            have hfill' : Instr.fill (fun i => pl[i]?) r.z.cells (parts.toList.map fun (x : Nat × Operand) => (x.1, ρ x.2)) = some cs.toArray := by
              rw [hget]; rw [show (parts.toList.map fun (x : Nat × Operand) => (x.1, ρ x.2)) = ps from hpm]; exact hfill
            simp only [PR.Means, execOp, Instr.build, zeroValue, typeInfo]
            simp [hi, hz, hu, hmap, hfill']
          · trivial
        · trivial
      · rename_i n e hd
        rw [hd] at hu
        split
        · rename_i re hre
          obtain ⟨_, i2, hi2, hs2, _⟩ := hg.row hre
          split
          · rename_i cs hfl
            have hfill := fillL_spec _ _ _ _ hfl
            have hfill' : Instr.fill (fun i => some (i * re.sz, re.sz)) r.z.cells (parts.toList.map fun (x : Nat × Operand) => (x.1, ρ x.2)) = some cs.toArray := by
              rw [show (parts.toList.map fun (x : Nat × Operand) => (x.1, ρ x.2)) = ps from hpm]; exact hfill
            simp only [PR.Means, execOp, Instr.build, zeroValue, typeInfo, sizeOf]
            simp [hi, hz, hu, hi2, hs2, hfill']
          · trivial
        · trivial
      · trivial
    · trivial
  · split
    · rename_i r v hr hx
      split
      · rename_i hd
        have hu := run_und hg hr w
        simp only [PR.Means, execOp, hρ _ _ hx, Instr.makeInterface]
        simp only [Sem.run_bind, hu, Result.andThen_ok]
        cases hk : r.d <;> rw [hk] at hd <;> first | (simp [isIfaceD] at hd; done) | simp
      · trivial
    · trivial
  · rename_i f xs ys
    split
    · rename_i a b ha hb
      have e1 := evL_spec hρ _ _ ha
      have e2 := evL_spec hρ _ _ hb
      have e1' : xs.map ρ = a.toArray := by apply Array.ext'; simpa using e1
      have e2' : ys.map ρ = b.toArray := by apply Array.ext'; simpa using e2
      simp [PR.Means, execOp, Instr.makeFunc, e1', e2']
    · trivial
  · split
    · rename_i hr hx
      split
      · rename_i l h hl hh
        intro hp
        have hb := bounds_run (g := g) (w := w) hρ hl hh hp
        have hu := run_und hg hr w
        simp only [execOp, hρ _ _ hx, Instr.sliceAt, Instr.slice]
        simp [hu, hb]
      · trivial
    · trivial
  · trivial
end

/-! ### The reckoning of a code -/
def putK (c : Cx) (S : Env) (dst : Option Tmp) (e : Ent) (K : Env → Prop) : Prop :=
  match dst with
  | none => K S
  | some d => match Nat.blt d c.N.n with
    | true => K ((d, e) :: S)
    | false => False

def revK : List Value → List Value → (List Value → Prop) → Prop
  | [], acc, K => K acc
  | x :: l, acc, K => revK l (x :: acc) K

def argsK (S : Env) : List Operand → List Value → (List Value → Prop) → Prop
  | [], acc, K => K acc
  | x :: xs, acc, K => match S.ev x with
    | some v => argsK S xs (v :: acc) K
    | none => False

def hasKey (t : Nat) : Env → Bool
  | [] => false
  | (k, _) :: S => match Nat.beq k t with
    | true => true
    | false => hasKey t S

def keepB (c : Cx) (t : Nat) : Bool := match Nat.blt t c.named with
  | true => true
  | false => memN t c.keep

def prune (p : Nat → Bool) : Env → Env → (Env → Prop) → Prop
  | [], acc, K => K acc
  | (t, x) :: S, acc, K => match p t with
    | true => (match hasKey t acc with
      | true => prune p S acc K
      | false => prune p S ((t, x) :: acc) K)
    | false => prune p S acc K

def scalar : Value → Bool
  | .agg _ => false
  | .tuple _ => false
  | _ => true

def memOp (c : Cx) (o : Oper) (S : Env) (w : World) (K : Env → World → Prop) (Q : Post) : Prop :=
  match o.op with
  | .load t x => (match rowOf c.g.tys t, S.ev x with
    | some r, some (.pointer (some p)) => (match isAggD r.d with
      | false => Load w p (fun v => putK c S o.dst (.v v) (fun S => K S w))
      | true => LoadN w p r.sz (fun vs => putK c S o.dst (.v (.agg vs.toArray)) (fun S => K S w)))
    | _, _ => AtOp c o S w K Q)
  | .store t x y => (match rowOf c.g.tys t, S.ev x, S.ev y with
    | some r, some (.pointer (some p)), some v => (match scalar v, Nat.beq r.sz 1, o.dst with
      | true, true, none => Store w p v (fun w => K S w)
      | false, _, none => (match v with
        | .agg cs => (match Nat.beq cs.toList.length r.sz with
          | true => StoreN c.g.P w p cs.toList (fun w => K S w)
          | false => AtOp c o S w K Q)
        | _ => AtOp c o S w K Q)
      | _, _, _ => AtOp c o S w K Q)
    | _, _, _ => AtOp c o S w K Q)
  | .alloc e => (match rowOf c.g.tys e with
    | some r => New w e (cellsL r.z) (fun p w => putK c S o.dst (.v (.pointer (some p))) (fun S => K S w))
    | none => AtOp c o S w K Q)
  | .box e x => (match S.ev x with
    | some v => New w e (cellsL v) (fun p w => putK c S o.dst (.v (.pointer (some p))) (fun S => K S w))
    | none => AtOp c o S w K Q)
  | .indexAddr t x i => (match rowOf c.g.tys t, S.ev x, S.ev i with
    | some ⟨_, .slice e, _, _, _⟩, some (.slice b n _), some (.int _ i) => (match rowOf c.g.tys e with
      | some r => Index b n i r.sz (fun p => putK c S o.dst (.v (.pointer (some p))) (fun S => K S w))
      | none => AtOp c o S w K Q)
    | some ⟨_, .array n e, _, _, _⟩, some (.pointer (some p)), some (.int _ i) => (match rowOf c.g.tys e with
      | some r => Index (some p) n i r.sz (fun p => putK c S o.dst (.v (.pointer (some p))) (fun S => K S w))
      | none => AtOp c o S w K Q)
    | _, _, _ => AtOp c o S w K Q)
  | .index t x i => (match rowOf c.g.tys t, S.ev x, S.ev i with
    | some ⟨_, .string, _, _, _⟩, some (.string s), some (.int _ i) => SIndex s i (fun b => putK c S o.dst (.v (.int .u8 b)) (fun S => K S w))
    | _, _, _ => AtOp c o S w K Q)
  | .call ⟨.value f, xs, _⟩ => (match S.ev f with
    | some (.func (.func n) first cap) => (match memN n c.g.fns with
      | true => revK first.toList [] (fun acc => argsK S xs.toList acc (fun acc => revK cap.toList acc (fun acc => revK acc [] (fun l =>
          CallAt c.g.P n l w (fun v w => putK c S o.dst (.v v) (fun S => K S w)) (fun ch w => Q (.panic ch) S w)))))
      | false => AtOp c o S w K Q)
    | _ => AtOp c o S w K Q)
  | .call ⟨.invoke x nm, xs, _⟩ => (match S.ev x with
    | some (.iface t v) => argsK S xs.toList [v] (fun acc => revK acc [] (fun l =>
        InvokeAt c nm t l w (fun v w => putK c S o.dst (.v v) (fun S => K S w)) (fun ch w => Q (.panic ch) S w)))
    | _ => AtOp c o S w K Q)
  | _ => AtOp c o S w K Q

def execO (c : Cx) (o : Oper) (S : Env) (w : World) (K : Env → World → Prop) (Q : Post) : Prop :=
  match pureOp c.g S o.op with
  | .val v => putK c S o.dst (.v v) (fun S => K S w)
  | .ent e => putK c S o.dst e (fun S => K S w)
  | .norm k n => Norm n (fun m => putK c S o.dst (.v (.int k m)) (fun S => K S w))
  | .normIf p k n => NormIf p n (fun m => putK c S o.dst (.v (.int k m)) (fun S => K S w))
  | .need p v => Need p v (fun v => putK c S o.dst (.v v) (fun S => K S w))
  | .no => memOp c o S w K Q

def nthO : List Oper → Nat → Option Oper
  | [], _ => none
  | x :: _, 0 => some x
  | _ :: l, n + 1 => nthO l n

def execL (c : Cx) (all : List Oper) : List Oper → Env → World → (Env → World → Prop) → Post → Prop
  | [], S, w, K, _ => prune (keepB c) S [] (fun S => K S w)
  | o :: rest, S, w, K, Q => match o.guard with
    | none => execO c o S w (fun S w => execL c all rest S w K Q) Q
    | some (j, want) => match nthO all j with
      | some oj => (match oj.dst with
        | some d => (match S.ent d with
          | some .t => (match want with
            | true => execO c o S w (fun S w => execL c all rest S w K Q) Q
            | false => putK c S o.dst (.v undef) (fun S => execL c all rest S w K Q))
          | some .f => (match want with
            | false => execO c o S w (fun S w => execL c all rest S w K Q) Q
            | true => putK c S o.dst (.v undef) (fun S => execL c all rest S w K Q))
          | some (.v (.bool b)) => (match want with
            | true => WIf b (execO c o ((d, .t) :: S) w (fun S w => execL c all rest S w K Q) Q) (putK c ((d, .f) :: S) o.dst (.v undef) (fun S => execL c all rest S w K Q))
            | false => WIf b (putK c ((d, .t) :: S) o.dst (.v undef) (fun S => execL c all rest S w K Q)) (execO c o ((d, .f) :: S) w (fun S w => execL c all rest S w K Q) Q))
          | some (.v (.tuple _)) => putK c S o.dst (.v undef) (fun S => execL c all rest S w K Q)
          | _ => False)
        | none => False)
      | none => False

def setDec (S : Env) (x : Operand) (e : Ent) : Env := match x with
  | .tmp t => (t, e) :: S
  | _ => S

def firstR : Code → Nat
  | .region id _ _ => id
  | .seq x _ => firstR x
  | .block _ x => firstR x
  | .loop x => firstR x
  | _ => 1000000

def isCut (c : Cx) : Code → Bool
  | .region _ _ _ => false
  | x => memN (firstR x) c.cuts

def exec (c : Cx) : Code → Env → World → Post → Prop
  | .skip, S, w, Q => Q .normal S w
  | .label _, S, w, Q => Q .normal S w
  | .region id ops draw, S, w, Q => (match draw with
    | false => execL c ops.toList ops.toList S w (fun S w => Q .normal S w) Q
    | true => AtDraw c id ops.toList S w Q)
  | .seq x y, S, w, Q => (match isCut c x with
    | true => AtCode c (.seq x y) S w Q
    | false => exec c x S w (fun e S w => match e with
      | .normal => exec c y S w Q
      | e => Q e S w))
  | .cond b x y, S, w, Q => (match b with
    | .tmp t => (match S.ent t with
      | some .t => exec c x S w Q
      | some .f => exec c y S w Q
      | some (.v (.bool b)) => WIf b (exec c x ((t, .t) :: S) w Q) (exec c y ((t, .f) :: S) w Q)
      | _ => False)
    | .const (.bool true) => exec c x S w Q
    | .const (.bool false) => exec c y S w Q
    | _ => False)
  | .block id x, S, w, Q => exec c x S w (fun e S w => match e with
    | .exit i => (match Nat.beq i id with
      | true => Q .normal S w
      | false => Q (.exit i) S w)
    | e => Q e S w)
  | .loop x, S, w, Q => AtLoop c x S w Q
  | .exit id, S, w, Q => Q (.exit id) S w
  | .ret, S, w, Q => Q .ret S w
  | x, S, w, Q => AtCode c x S w Q

/-! ### It is the code's own -/
section
variable {c : Cx} {a : Act} {S : Env} {w : World} {K : Env → World → Prop} {Q : Post}

theorem putK_sound {dst : Option Tmp} {e : Ent} {K : Env → Prop} (h : putK c S dst e K) (hf : Fits c.N S a) :
    ∃ S', Fits c.N S' (a.put dst e.val) ∧ K S' := by
  unfold putK at h
  split at h
  · exact ⟨S, by simpa [Act.put] using hf, h⟩
  · rename_i d
    split at h
    · rename_i hd
      exact ⟨_, hf.put (by rw [Nat.blt_eq] at hd; exact hd) e, h⟩
    · exact h.elim

theorem revK_eq (l acc : List Value) (K : List Value → Prop) : revK l acc K = K (l.reverse ++ acc) := by
  induction l generalizing acc with
  | nil => simp [revK]
  | cons x l ih => simp [revK, ih]

theorem argsK_spec {xs : List Operand} {acc : List Value} {K : List Value → Prop} (h : argsK S xs acc K) (hf : Fits c.N S a) :
    K ((xs.map a.eval).reverse ++ acc) := by
  induction xs generalizing acc with
  | nil => simpa [argsK] using h
  | cons x xs ih =>
    simp only [argsK] at h
    split at h
    · rename_i v hv
      have := ih h
      simp only [List.map_cons, List.reverse_cons, List.append_assoc, List.singleton_append]
      rw [hf.ev hv]; exact this
    · exact h.elim

theorem hasKey_false {t : Nat} {S : Env} (h : hasKey t S = false) : S.ent t = none := by
  induction S with
  | nil => rfl
  | cons p S ih =>
    obtain ⟨k, x⟩ := p
    simp only [hasKey] at h
    split at h
    · cases h
    · rename_i hb; simp [Env.ent, hb, ih h]

theorem hasKey_true {t : Nat} {S : Env} (h : hasKey t S = true) : ∃ x, S.ent t = some x := by
  induction S with
  | nil => cases h
  | cons p S ih =>
    obtain ⟨k, x⟩ := p
    simp only [hasKey] at h
    split at h
    · rename_i hb; exact ⟨x, by simp [Env.ent, hb]⟩
    · rename_i hb; simp [Env.ent, hb, ih h]

theorem ent_append (S T : Env) (k : Nat) : Env.ent (S ++ T) k = (S.ent k).or (Env.ent T k) := by
  induction S with
  | nil => simp [Env.ent]
  | cons p S ih =>
    obtain ⟨t, x⟩ := p
    simp only [List.cons_append, Env.ent]
    split <;> simp [ih]

theorem prune_sound {p : Nat → Bool} {N : Slots} {a : Act} (h1 : a.tmps.size = N.n) (h2 : a.defers = N.ds) {K : Env → Prop} : ∀ (T acc : Env), (∀ k x, acc.ent k = some x → p k = true) →
    (∀ k x, p k = true → Env.ent (acc ++ T) k = some x → a.tmps[k]? = some x.val) → prune p T acc K → ∃ S', Fits N S' a ∧ K S'
  | [], acc, hp, hh, h => ⟨acc, ⟨h1, h2, fun k x hk => hh k x (hp k x hk) (by simpa using hk)⟩, h⟩
  | (t, x) :: T, acc, hp, hh, h => by
    simp only [prune] at h
    split at h
    · rename_i hpt
      split at h
      · rename_i hk
        refine prune_sound h1 h2 T acc hp (fun k y hpk hy => hh k y hpk ?_) h
        rw [ent_append] at hy ⊢
        cases hb : Nat.beq t k with
        | true =>
          have := Nat.eq_of_beq_eq_true hb
          subst this
          obtain ⟨z, hz⟩ := hasKey_true hk
          simp only [hz, Option.some_or] at hy ⊢; exact hy
        | false => simpa [Env.ent, hb] using hy
      · rename_i hk
        refine prune_sound h1 h2 T ((t, x) :: acc) (fun k y hy => ?_) (fun k y hpk hy => hh k y hpk ?_) h
        · simp only [Env.ent] at hy
          split at hy
          · rename_i hb; rw [← Nat.eq_of_beq_eq_true hb]; exact hpt
          · exact hp k y hy
        · rw [List.cons_append] at hy
          simp only [Env.ent] at hy
          rw [ent_append]
          split at hy
          · rename_i hb
            have := Nat.eq_of_beq_eq_true hb
            subst this
            rw [hasKey_false hk]
            simpa [Env.ent] using hy
          · rename_i hb
            rw [ent_append] at hy
            simpa [Env.ent, hb] using hy
    · rename_i hpt
      refine prune_sound h1 h2 T acc hp (fun k y hpk hy => hh k y hpk ?_) h
      rw [ent_append] at hy ⊢
      have hb : Nat.beq t k = false := by
        cases hb : Nat.beq t k with
        | false => rfl
        | true => have := Nat.eq_of_beq_eq_true hb; subst this; rw [hpk] at hpt; cases hpt
      simpa [Env.ent, hb] using hy

/-- The frame behind an operation, as the engine asks it. -/
abbrev Nxt (c : Cx) (K : Env → World → Prop) : Act → World → Prop := fun a' w' => ∃ S', Fits c.N S' a' ∧ K S' w'

theorem wp_value {o : Oper} {v : Value} {w' : World} {N : Act → World → Prop} {Q' : Exit → Act → World → Prop}
    (hr : (execOp a.eval o).run c.g.P w = .ok (.value v) w') (h : N (a.put o.dst v) w') : o.wp c.g.P a w N Q' := by
  unfold Oper.wp; rw [hr]; exact h

theorem pure_sound (hg : c.g.Ok) {o : Oper} (hf : Fits c.N S a) {r : PR} (hr : pureOp c.g S o.op = r) : r.Means w ((execOp a.eval o).run c.g.P w) := by
  rw [← hr]; exact pureOp_sound hg (fun x v h => hf.ev h) o

theorem run_storeVar1 {P : Program} (t : TypeId) (i : TypeInfo) (hi : P.info? t = some i) (hs : i.size = 1) (p : Addr) (v : Value) (hv : scalar v = true) (w : World) :
    (storeVar t p v).run P w = (store p v).run P w := by
  have hc : v.cells = #[v] := by cases v <;> first | rfl | (simp [scalar] at hv)
  simp [storeVar, hc, sizeOf, typeInfo, hi, hs, storeCells, Addr.add]

theorem run_isAgg (hg : c.g.Ok) {t : Nat} {r : TyRow} (hr : rowOf c.g.tys t = some r) (w : World) : (isAgg t).run c.g.P w = .ok (isAggD r.d) w := by
  simp only [isAgg, Sem.run_bind, run_und hg hr, Result.andThen_ok]
  cases r.d <;> rfl

theorem run_sizeOf (hg : c.g.Ok) {t : Nat} {r : TyRow} (hr : rowOf c.g.tys t = some r) (w : World) : (sizeOf t).run c.g.P w = .ok r.sz w := by
  obtain ⟨_, i, hi, hs, _⟩ := hg.row hr
  simp [sizeOf, typeInfo, hi, hs]

theorem run_callFunc {P : Program} {n : Nat} (hc : Callable P n) (args : Array Value) (w : World) : (callFunc n args).run P w = .ok (.enter n args) w := by
  obtain ⟨fn, h1, h2, h3⟩ := hc
  have h2' : fn.body ≠ none := fun e => by simp [e] at h2
  have h3' : fn.name ≠ "runtime.NumGoroutine" := by simpa using h3
  simp [callFunc, h1, h2', h3']

theorem run_method (hg : c.g.Ok) {t : Nat} {r : MRow} (hr : mRowOf c.g.ms t = some r) (v : Value) (n : Nat) (w : World) : (method (n + 1) t v r.name).run c.g.P w = .ok (r.f, v) w := by
  obtain ⟨⟨h1, h2⟩, rfl⟩ := mRowOf_spec hr hg.ms
  cases hi : c.g.P.info? r.t with
  | none => simp [hi] at h1
  | some i =>
    cases hm : i.methods.find? (fun m => m.name == r.name) with
    | none => simp [hi, hm] at h1
    | some m =>
      simp [hi, hm] at h1
      cases hu : c.g.P.underlying r.t with
      | none => simp [hu] at h2
      | some d =>
        simp [hu] at h2
        have hp : m.path.toList = [] := by rw [h1.1]
        cases hb : r.ptr with
        | false =>
          rw [hb] at h1 h2
          have hx : (receiverAt r.t (.val v) false (if m.path.isEmpty = true then some ((r.name.splitOn ".").getLastD r.name) else none)).run c.g.P w = .ok v w := by
            unfold receiverAt
            rw [Sem.run_bind, run_underlying hu]
            cases d <;> first | (simp [ptrD] at h2; done) | simp [Place.get]
          unfold method
          simp only [typeInfo, Sem.run_bind, run_program, Result.andThen_ok, hi, Sem.run_pure, hm, hp, follow, h1.2]
          simp only [hx, Result.andThen_ok]
        | true =>
          rw [hb] at h1 h2
          have hx : (receiverAt r.t (.val v) true (if m.path.isEmpty = true then some ((r.name.splitOn ".").getLastD r.name) else none)).run c.g.P w = .ok v w := by
            unfold receiverAt
            rw [Sem.run_bind, run_underlying hu]
            cases d <;> first | (simp [ptrD] at h2; done) | simp [Place.get]
          unfold method
          simp only [typeInfo, Sem.run_bind, run_program, Result.andThen_ok, hi, Sem.run_pure, hm, hp, follow, h1.2]
          simp only [hx, Result.andThen_ok]

theorem memOp_sound (hg : c.g.Ok) {o : Oper} (h : memOp c o S w K Q) (hf : Fits c.N S a) : o.wp c.g.P a w (Nxt c K) (Up c Q) := by
  have hAt : AtOp c o S w K Q → o.wp c.g.P a w (Nxt c K) (Up c Q) := fun h => by unfold AtOp at h; exact h a hf
  obtain ⟨dst, op, ty, pos, aft, gd⟩ := o
  unfold memOp at h
  split at h
  · rename_i t x hop
    simp only at hop; subst hop
    split at h
    · rename_i r p hr hx
      split at h
      · rename_i hd
        unfold Load at h
        obtain ⟨v, hv, hk⟩ := h
        refine wp_value (v := v) (w' := w) ?_ (putK_sound (e := .v v) hk hf)
        have := hf.ev hx
        simp [execOp, this, Instr.loadAt, Instr.sureAddr, loadVar, run_isAgg hg hr, hd, load, Sem.run, hv]
      · rename_i hd
        unfold LoadN at h
        obtain ⟨vs, hl, hv, hk⟩ := h
        refine wp_value (v := .agg vs.toArray) (w' := w) ?_ (putK_sound (e := .v (.agg vs.toArray)) hk hf)
        have := hf.ev hx
        have h2 := run_loadCells_list (P := c.g.P) (w := w) p vs hv
        rw [hl] at h2
        simp [execOp, this, Instr.loadAt, Instr.sureAddr, loadVar, run_isAgg hg hr, hd, run_sizeOf hg hr, h2]
    · exact hAt h
  · rename_i t x y hop
    simp only at hop; subst hop
    split at h
    · rename_i r p v hr hx hy
      split at h
      · rename_i hs h1 hd
        unfold Store at h
        obtain ⟨⟨u, hu⟩, hfr, hk⟩ := h
        obtain ⟨_, i, hi, hsz, _⟩ := hg.row hr
        have e1 := hf.ev hx
        have e2 := hf.ev hy
        have h1' : i.size = 1 := by rw [hsz]; exact Nat.eq_of_beq_eq_true h1
        have hst := run_storeVar1 t i hi h1' p v hs w
        simp only at hd; subst hd
        unfold Oper.wp
        have : (execOp a.eval { dst := none, op := .store t x y, type := ty, pos := pos, after := aft, guard := gd }).run c.g.P w = .ok .skip (w.setCell p v) := by
          simp [execOp, e1, e2, Instr.storeAt, Instr.sureAddr, hst, store]
          cases v <;> first | (simp [scalar] at hs; done) | simp [Sem.run, hu, hfr]
        rw [this]
        exact ⟨S, by simpa [Act.put] using hf, hk⟩
      · rename_i hs hd
        split at h
        · rename_i cs
          split at h
          · rename_i hn
            unfold StoreN at h
            obtain ⟨w', hrun, hk⟩ := h
            have hn := Nat.eq_of_beq_eq_true hn
            have e1 := hf.ev hx
            have e2 := hf.ev hy
            simp only at hd; subst hd
            unfold Oper.wp
            have : (execOp a.eval { dst := none, op := .store t x y, type := ty, pos := pos, after := aft, guard := gd }).run c.g.P w = .ok .skip w' := by
              simp only [execOp, e1, e2, Instr.storeAt, Instr.sureAddr, storeVar, Value.cells]
              simp only [Sem.run_bind, Sem.run_pure, run_sizeOf hg hr, Result.andThen_ok]
              rw [if_neg (by simpa using hn)]
              simp [hrun]
            rw [this]
            exact ⟨S, by simpa [Act.put] using hf, hk⟩
          · exact hAt h
        · exact hAt h
      · exact hAt h
    · exact hAt h
  · rename_i e hop
    simp only at hop; subst hop
    split at h
    · rename_i r hr
      obtain ⟨_, i, hi, _, _, hz⟩ := hg.row hr
      unfold New at h
      refine wp_value (v := .pointer (some ⟨w.heap.size, 0, none⟩)) (w' := w.alloc (.cells (cellsL r.z).toArray e)) ?_ (putK_sound (e := .v _) h hf)
      have hc : r.z.cells = (cellsL r.z).toArray := by rw [← cells_toList]
      simp [execOp, Instr.alloc, zeroValue, typeInfo, hi, hz, newVar, newRow, hc]
    · exact hAt h
  · rename_i e x hop
    simp only at hop; subst hop
    split at h
    · rename_i v hx
      unfold New at h
      have e1 := hf.ev hx
      refine wp_value (v := .pointer (some ⟨w.heap.size, 0, none⟩)) (w' := w.alloc (.cells (cellsL v).toArray e)) ?_ (putK_sound (e := .v _) h hf)
      have hc : v.cells = (cellsL v).toArray := by rw [← cells_toList]
      simp [execOp, e1, Instr.box, newVar, newRow, hc]
    · exact hAt h
  · rename_i t x ix hop
    simp only at hop; subst hop
    split at h
    · rename_i e b n k i hr hx hi
      split at h
      · rename_i r hre
        unfold Index at h
        obtain ⟨p, rfl, h0, h1, hk⟩ := h
        refine wp_value (v := .pointer (some (p.add (i.toNat * r.sz)))) (w' := w) ?_ (putK_sound (e := .v _) hk hf)
        have e1 := hf.ev hx
        have e2 := hf.ev hi
        simp [execOp, e1, e2, Instr.indexAt, asIntOf, run_und hg hr, run_sizeOf hg hre, h0, h1]
      · exact hAt h
    · rename_i n e p k i hr hx hi
      split at h
      · rename_i r hre
        unfold Index at h
        obtain ⟨p', hp, h0, h1, hk⟩ := h
        cases hp
        refine wp_value (v := .pointer (some (p.add (i.toNat * r.sz)))) (w' := w) ?_ (putK_sound (e := .v _) hk hf)
        have e1 := hf.ev hx
        have e2 := hf.ev hi
        simp [execOp, e1, e2, Instr.indexAt, Instr.sureAddr, asIntOf, run_und hg hr, run_sizeOf hg hre, h0, h1]
      · exact hAt h
    · exact hAt h
  · rename_i t x ix hop
    simp only at hop; subst hop
    split at h
    · rename_i s k i hr hx hi
      unfold SIndex at h
      obtain ⟨b, h0, h1, hk⟩ := h
      refine wp_value (v := .int .u8 b.toNat) (w' := w) ?_ (putK_sound (e := .v _) hk hf)
      have e1 := hf.ev hx
      have e2 := hf.ev hi
      simp [execOp, e1, e2, Instr.index, asIntOf, run_und hg hr, h0, h1]
    · exact hAt h
  · rename_i f xs ts hop
    simp only at hop; subst hop
    split at h
    · rename_i n first cap hv
      split at h
      · rename_i hm
        have hc := hg.fns n (memN_spec hm)
        rw [revK_eq] at h
        have h2 := argsK_spec h hf
        rw [revK_eq, revK_eq] at h2
        simp only [List.append_nil, List.reverse_append, List.reverse_reverse, List.append_assoc] at h2
        unfold CallAt at h2
        have e1 := hf.ev hv
        unfold Oper.wp
        have : (execOp a.eval { dst := dst, op := .call ⟨.value f, xs, ts⟩, type := ty, pos := pos, after := aft, guard := gd }).run c.g.P w =
            .ok (.enter n (first.toList ++ (List.map a.eval xs.toList ++ cap.toList)).toArray) w := by
          simp [execOp, resolve, e1, Deferred.ofValue, invoke, run_callFunc hc]
        rw [this]
        unfold Oper.upon
        refine h2.mono fun e w' he => ?_
        cases e with
        | returned v => exact putK_sound (e := .v v) he hf
        | panicked ch => exact ⟨S, hf, he⟩
        | outgrown => exact he.elim
      · exact hAt h
    · exact hAt h
  · rename_i x nm xs ts hop
    simp only at hop; subst hop
    split at h
    · rename_i t v hv
      · have h2 := argsK_spec h hf
        rw [revK_eq] at h2
        simp only [List.append_nil, List.reverse_append, List.reverse_reverse, List.reverse_cons, List.reverse_nil, List.nil_append] at h2
        unfold InvokeAt at h2
        obtain ⟨r, hr, rfl, hm, h2⟩ := h2
        · have hc := hg.fns r.f (memN_spec hm)
          unfold CallAt at h2
          have e1 := hf.ev hv
          unfold Oper.wp
          have hmt := run_method hg hr v (c.g.P.types.size + 99) w
          have : (execOp a.eval { dst := dst, op := .call ⟨.invoke x r.name, xs, ts⟩, type := ty, pos := pos, after := aft, guard := gd }).run c.g.P w =
              .ok (.enter r.f ([v] ++ List.map a.eval xs.toList).toArray) w := by
            have hex : (#[Value.iface t v] ++ Array.map a.eval xs).extract 1 (#[Value.iface t v] ++ Array.map a.eval xs).size = Array.map a.eval xs := by
              apply Array.ext'; simp
              exact List.take_of_length_le (by simp)
            have hcm : (callMethod (.iface t v) r.name (Array.map a.eval xs)).run c.g.P w = .ok (.enter r.f ([v] ++ List.map a.eval xs.toList).toArray) w := by
              simp only [callMethod, Sem.run_bind, run_program, Result.andThen_ok]
              rw [show c.g.P.types.size + Made.depth = c.g.P.types.size + 99 + 1 from rfl, hmt]
              simp [run_callFunc hc]
            simp only [execOp, resolve, e1, Sem.run_bind, Sem.run_pure, Result.andThen_ok, invoke]
            rw [hex, show (#[Value.iface t v] ++ Array.map a.eval xs)[0]? = some (Value.iface t v) from (Array.getElem?_append_left (show 0 < 1 by decide)).trans rfl]
            exact hcm
          rw [this]
          unfold Oper.upon
          refine h2.mono fun e w' he => ?_
          cases e with
          | returned v => exact putK_sound (e := .v v) he hf
          | panicked ch => exact ⟨S, hf, he⟩
          | outgrown => exact he.elim
    · exact hAt h
  · exact hAt h

theorem execO_sound (hg : c.g.Ok) {o : Oper} (h : execO c o S w K Q) (hf : Fits c.N S a) : o.wp c.g.P a w (Nxt c K) (Up c Q) := by
  unfold execO at h
  split at h
  · rename_i v hp
    have hm := pure_sound (w := w) hg hf hp
    exact wp_value hm (putK_sound (e := .v v) h hf)
  · rename_i e hp
    have hm := pure_sound (w := w) hg hf hp
    exact wp_value hm (putK_sound (e := e) h hf)
  · rename_i k n hp
    have hm := pure_sound (w := w) hg hf hp
    unfold Norm at h
    exact wp_value hm (putK_sound (e := .v (.int k n)) h hf)
  · rename_i p k n hp
    have hm := pure_sound (w := w) hg hf hp
    unfold NormIf at h
    exact wp_value (hm h.1) (putK_sound (e := .v (.int k n)) h.2 hf)
  · rename_i p v hp
    have hm := pure_sound (w := w) hg hf hp
    unfold Need at h
    exact wp_value (hm h.1) (putK_sound (e := .v v) h.2 hf)
  · exact memOp_sound hg h hf

theorem nthO_eq (l : List Oper) (n : Nat) : nthO l n = l[n]? := by
  induction l generalizing n with
  | nil => simp [nthO]
  | cons x l ih => cases n <;> simp [nthO, ih]

theorem wanted_iff {all : List Oper} {o oj : Oper} {j d : Nat} {want b : Bool} (hgd : o.guard = some (j, want)) (hj : nthO all j = some oj) (hd : oj.dst = some d) (ha : a.tmps[d]? = some (.bool b)) :
    Region.wanted o (yielded all.toArray a.tmps) = (b == want) := by
  rw [nthO_eq] at hj
  simp [Region.wanted, hgd, yielded, hj, hd, ha]

theorem unwanted {all : List Oper} {o oj : Oper} {j d : Nat} {want : Bool} {vs : Array Value} (hgd : o.guard = some (j, want)) (hj : nthO all j = some oj) (hd : oj.dst = some d) (ha : a.tmps[d]? = some (.tuple vs)) :
    Region.wanted o (yielded all.toArray a.tmps) = false := by
  rw [nthO_eq] at hj
  simp [Region.wanted, hgd, yielded, hj, hd, ha]

theorem execL_sound (hg : c.g.Ok) (all : List Oper) : ∀ (l : List Oper) (S : Env) (w : World) (a : Act), execL c all l S w K Q → Fits c.N S a →
    wpList c.g.P all.toArray (fun e a w => Exit.then (Nxt c K) (Up c Q) e a w) l a w
  | [], S, w, a, h, hf => by
    simp only [execL] at h
    exact prune_sound (p := keepB c) hf.size hf.defers S [] (fun k x hk => by simp [Env.ent] at hk) (fun k x _ hk => hf.has k x hk) h
  | o :: rest, S, w, a, h, hf => by
    have go : ∀ (S : Env), execO c o S w (fun S w => execL c all rest S w K Q) Q → Fits c.N S a → o.wp c.g.P a w (wpList c.g.P all.toArray (fun e a w => Exit.then (Nxt c K) (Up c Q) e a w) rest) (fun e a w => Exit.then (Nxt c K) (Up c Q) e a w) := fun S h hf => by
      have h1 := execO_sound hg h hf
      have h2 := Oper.wp_mono (K' := wpList c.g.P all.toArray (fun e a w => Exit.then (Nxt c K) (Up c Q) e a w) rest) (fun a' w' ⟨S', hf', hk⟩ => execL_sound hg all rest S' w' a' hk hf') h1
      unfold Oper.wp at h2 ⊢
      generalize (execOp a.eval o).run c.g.P w = r at *
      cases r with
      | ok n w' =>
        cases n <;> simp only [Oper.upon] at h2 ⊢ <;> exact h2
      | halt x w' => cases x <;> simp only [Oper.upon] at h2 ⊢ <;> exact h2
    have no : ∀ (S : Env), putK c S o.dst (.v undef) (fun S => execL c all rest S w K Q) → Fits c.N S a → wpList c.g.P all.toArray (fun e a w => Exit.then (Nxt c K) (Up c Q) e a w) rest (a.put o.dst undef) w := fun S h hf => by
      obtain ⟨S', hf', hk⟩ := putK_sound h hf
      exact execL_sound hg all rest S' w _ hk hf'
    have fit : ∀ (d : Nat) (b : Bool) (e : Ent), S.ent d = some (.v (.bool b)) → e.val = .bool b → Fits c.N ((d, e) :: S) a := fun d b e hd he => by
      refine ⟨hf.size, hf.defers, fun k x hk => ?_⟩
      simp only [Env.ent] at hk
      split at hk
      · rename_i hb
        have := Nat.eq_of_beq_eq_true hb
        subst this
        cases hk
        rw [he]
        exact hf.has _ _ hd
      · exact hf.has _ _ hk
    simp only [execL] at h
    unfold wpList
    split at h
    · rename_i hgd
      rw [if_pos (by simp [Region.wanted, hgd])]
      exact .inl (go S h hf)
    · rename_i j want hgd
      split at h
      · rename_i oj hj
        split at h
        · rename_i d hd
          split at h
          · rename_i hd'
            have hw := wanted_iff hgd hj hd (hf.has _ _ hd')
            split at h
            · rw [if_pos (by rw [hw]; rfl)]; exact .inl (go S h hf)
            · rw [if_neg (by rw [hw]; decide)]; exact no S h hf
          · rename_i hd'
            have hw := wanted_iff hgd hj hd (hf.has _ _ hd')
            split at h
            · rw [if_pos (by rw [hw]; rfl)]; exact .inl (go S h hf)
            · rw [if_neg (by rw [hw]; decide)]; exact no S h hf
          · rename_i b hd'
            have hw := wanted_iff hgd hj hd (hf.has _ _ hd')
            split at h
            · unfold WIf at h
              cases b with
              | true => rw [if_pos (by rw [hw]; rfl)]; exact .inl (go _ (h.1 rfl) (fit d true .t hd' rfl))
              | false => rw [if_neg (by rw [hw]; decide)]; exact no _ (h.2 rfl) (fit d false .f hd' rfl)
            · unfold WIf at h
              cases b with
              | true => rw [if_neg (by rw [hw]; decide)]; exact no _ (h.1 rfl) (fit d true .t hd' rfl)
              | false => rw [if_pos (by rw [hw]; rfl)]; exact .inl (go _ (h.2 rfl) (fit d false .f hd' rfl))
          · rename_i hd'
            rw [if_neg (by rw [unwanted hgd hj hd (hf.has _ _ hd')]; decide)]; exact no S h hf
          · exact h.elim
        · exact h.elim
      · exact h.elim

theorem exec_sound (hg : c.g.Ok) : ∀ (x : Code) (S : Env) (w : World) (Q : Post) (a : Act), exec c x S w Q → Fits c.N S a → x.wp c.g.P (Up c Q) a w := by
  intro x
  have hc : ∀ (x : Code) (S : Env) (w : World) (Q : Post) (a : Act), AtCode c x S w Q → Fits c.N S a → x.wp c.g.P (Up c Q) a w := fun x S w Q a h hf => by
    unfold AtCode at h; exact h a hf
  induction x with
  | skip => exact fun S w Q a h hf => wp_skip ⟨S, hf, h⟩
  | label l => exact fun S w Q a h hf => wp_label ⟨S, hf, h⟩
  | region id ops draw =>
    intro S w Q a h hf
    simp only [exec] at h
    cases draw with
    | false =>
      have h1 := execL_sound hg _ _ _ _ _ h hf
      refine wp_mono (wp_region_list ?_) (Q := fun e a w => Exit.then (Nxt c (fun S w => Q .normal S w)) (Up c Q) e a w) (fun e a w hq => ?_)
      · simpa using h1
      · cases e <;> exact hq
    | true =>
      unfold AtDraw at h
      simpa using h a hf
  | seq x y ihx ihy =>
    intro S w Q a h hf
    simp only [exec] at h
    split at h
    · exact hc _ _ _ _ _ h hf
    · refine wp_seq (wp_mono (ihx _ _ _ _ h hf) (fun e a w hq => ?_))
      obtain ⟨S', hf', hq⟩ := hq
      cases e <;> first | exact ihy _ _ _ _ hq hf' | exact ⟨S', hf', hq⟩
  | cond b x y ihx ihy =>
    intro S w Q a h hf
    simp only [exec] at h
    split at h
    · rename_i t
      split at h
      · rename_i ht
        exact wp_cond_true (by have := hf.has _ _ ht; simp [Act.eval, this, Ent.val]) (ihx _ _ _ _ h hf)
      · rename_i ht
        exact wp_cond_false (by have := hf.has _ _ ht; simp [Act.eval, this, Ent.val]) (ihy _ _ _ _ h hf)
      · rename_i b ht
        have hev : a.eval (.tmp t) = .bool b := by have := hf.has _ _ ht; simp [Act.eval, this, Ent.val]
        have fit : ∀ (e : Ent), e.val = .bool b → Fits c.N ((t, e) :: S) a := fun e he => by
          refine ⟨hf.size, hf.defers, fun k x hk => ?_⟩
          simp only [Env.ent] at hk
          split at hk
          · rename_i hb
            have := Nat.eq_of_beq_eq_true hb
            subst this
            cases hk
            rw [he]
            exact hf.has _ _ ht
          · exact hf.has _ _ hk
        unfold WIf at h
        cases b with
        | true => exact wp_cond_true hev (ihx _ _ _ _ (h.1 rfl) (fit .t rfl))
        | false => exact wp_cond_false hev (ihy _ _ _ _ (h.2 rfl) (fit .f rfl))
      · exact h.elim
    · exact wp_cond_true rfl (ihx _ _ _ _ h hf)
    · exact wp_cond_false rfl (ihy _ _ _ _ h hf)
    · exact h.elim
  | block id x ih =>
    intro S w Q a h hf
    simp only [exec] at h
    refine wp_block (wp_mono (ih _ _ _ _ h hf) (fun e a w hq => ?_))
    obtain ⟨S', hf', hq⟩ := hq
    cases e with
    | exit i =>
      simp only at hq
      simp only [Exit.inBlock]
      split at hq
      · rename_i hb; rw [if_pos (Nat.eq_of_beq_eq_true hb)]; exact ⟨S', hf', hq⟩
      · rename_i hb; rw [if_neg (fun e => by subst e; simp at hb)]; exact ⟨S', hf', hq⟩
    | normal => exact ⟨S', hf', hq⟩
    | goto l => exact ⟨S', hf', hq⟩
    | ret => exact ⟨S', hf', hq⟩
    | panic ch => exact ⟨S', hf', hq⟩
    | outgrown => exact ⟨S', hf', hq⟩
  | loop x ih => intro S w Q a h hf; simp only [exec] at h; unfold AtLoop at h; exact h a hf
  | exit id => exact fun S w Q a h hf => wp_exit ⟨S, hf, h⟩
  | ret => exact fun S w Q a h hf => wp_ret ⟨S, hf, h⟩
  | rangeFunc f ps as_ b ih1 ih2 => exact fun S w Q a h hf => hc _ _ _ _ _ h hf
  | scope x ih => exact fun S w Q a h hf => hc _ _ _ _ _ h hf
  | goto l => exact fun S w Q a h hf => hc _ _ _ _ _ h hf
  | refuse y => exact fun S w Q a h hf => hc _ _ _ _ _ h hf
end

theorem at_code {c : Cx} (hg : c.g.Ok) {x : Code} {S : Env} {w : World} {Q : Post} (h : exec c x S w Q) : AtCode c x S w Q := by
  unfold AtCode; exact fun a hf => exec_sound hg x S w Q a h hf

/-! ### A function's contract -/
def envK : List Nat → List Value → Env → (Env → Prop) → Prop
  | _, [], S, K => K S
  | t :: ts, v :: vs, S, K => envK ts vs ((t, .v v) :: S) K
  | [], _ :: _, _, _ => False

def oneOf (w : World) (R : Value → World → Prop) : List Value → Prop
  | [v] => R v w
  | vs => R (.tuple vs.toArray) w

def retK (c : Cx) (S : Env) (w : World) (R : Value → World → Prop) : List ResultVar → List Value → Prop
  | [], acc => revK acc [] (fun l => oneOf w R l)
  | .tmp t :: rs, acc => (match S.get t with
    | some v => retK c S w R rs (v :: acc)
    | none => False)
  | .cell t ty :: rs, acc => (match rowOf c.g.tys ty, S.get t with
    | some r, some (.pointer (some p)) => (match isAggD r.d with
      | false => Load w p (fun v => retK c S w R rs (v :: acc))
      | true => LoadN w p r.sz (fun vs => retK c S w R rs (.agg vs.toArray :: acc)))
    | _, _ => False)

def Fin (c : Cx) (rs : List ResultVar) (R : Value → World → Prop) : Post := fun e S w => match e with
  | .normal => retK c S w R rs []
  | .ret => retK c S w R rs []
  | _ => False

def resF (tmps : Array Value) : ResultVar → Sem Value
  | .tmp t => pure (tmps.getD t undef)
  | .cell t ty => do loadVar ty (← asAddr (tmps.getD t undef))

theorem results_resF (fn : Func) (tmps : Array Value) : results fn tmps = (do
    let vs ← fn.results.mapM (resF tmps)
    pure (if h : vs.size = 1 then vs[0] else .tuple vs)) := by
  unfold results
  congr 2

theorem mapM_ret {c : Cx} (hg : c.g.Ok) {S : Env} {a : Act} {w : World} (hf : Fits c.N S a) (R : Value → World → Prop) : ∀ (rs : List ResultVar) (acc : List Value), retK c S w R rs acc →
    ∃ vs : List Value, (rs.mapM (resF a.tmps)).run c.g.P w = .ok vs w ∧ oneOf w R (acc.reverse ++ vs)
  | [], acc, h => by
    simp only [retK, revK_eq, List.append_nil] at h
    exact ⟨[], by simp, by simpa using h⟩
  | .tmp t :: rs, acc, h => by
    simp only [retK] at h
    split at h
    · rename_i v hv
      obtain ⟨vs, h1, h2⟩ := mapM_ret hg hf R rs _ h
      have := hf.get hv
      refine ⟨v :: vs, ?_, by simpa using h2⟩
      simp only [List.mapM_cons, Sem.run_bind]
      rw [show (resF a.tmps (.tmp t)).run c.g.P w = .ok v w by simp [resF, this]]
      simp only [Result.andThen_ok]
      rw [h1]
      simp
    · exact h.elim
  | .cell t ty :: rs, acc, h => by
    simp only [retK] at h
    split at h
    · rename_i r p hr hp
      have hp := hf.get hp
      split at h
      · rename_i hd
        unfold Load at h
        obtain ⟨v, hv, h⟩ := h
        obtain ⟨vs, h1, h2⟩ := mapM_ret hg hf R rs _ h
        refine ⟨v :: vs, ?_, by simpa using h2⟩
        have e1 : (do loadVar ty (← asAddr (a.tmps.getD t undef)) : Sem Value).run c.g.P w = .ok v w := by
          simp [hp, asAddr, loadVar, run_isAgg hg hr, hd, load, Sem.run, hv]
        rw [List.mapM_cons, Sem.run_bind]
        show Result.andThen ((do loadVar ty (← asAddr (a.tmps.getD t undef)) : Sem Value).run c.g.P w) _ = _
        rw [e1]
        simp only [Result.andThen_ok, Sem.run_bind]
        rw [h1]; simp
      · rename_i hd
        unfold LoadN at h
        obtain ⟨cs, hl, hv, h⟩ := h
        obtain ⟨vs, h1, h2⟩ := mapM_ret hg hf R rs _ h
        have h3 := run_loadCells_list (P := c.g.P) (w := w) p cs hv
        rw [hl] at h3
        refine ⟨.agg cs.toArray :: vs, ?_, by simpa using h2⟩
        have e1 : (do loadVar ty (← asAddr (a.tmps.getD t undef)) : Sem Value).run c.g.P w = .ok (.agg cs.toArray) w := by
          simp [hp, asAddr, loadVar, run_isAgg hg hr, hd, run_sizeOf hg hr, h3]
        rw [List.mapM_cons, Sem.run_bind]
        show Result.andThen ((do loadVar ty (← asAddr (a.tmps.getD t undef)) : Sem Value).run c.g.P w) _ = _
        rw [e1]
        simp only [Result.andThen_ok, Sem.run_bind]
        rw [h1]; simp
    · exact h.elim

theorem run_results {c : Cx} (hg : c.g.Ok) {S : Env} {a : Act} {w : World} (hf : Fits c.N S a) {R : Value → World → Prop} {fn : Func} (h : retK c S w R fn.results.toList []) :
    ∃ v, (results fn a.tmps).run c.g.P w = .ok v w ∧ R v w := by
  obtain ⟨vs, h1, h2⟩ := mapM_ret hg hf R _ _ h
  have e : fn.results = fn.results.toList.toArray := by simp
  rw [results_resF, e, List.mapM_toArray]
  simp only [Sem.run_bind, Sem.run_map]
  rw [h1]
  simp only [Result.andThen_ok, Sem.run_pure, List.size_toArray, List.nil_append, List.reverse_nil] at h2 ⊢
  match vs, h2 with
  | [], h2 => exact ⟨_, rfl, h2⟩
  | [v], h2 => exact ⟨_, rfl, h2⟩
  | v :: u :: vs, h2 => exact ⟨_, rfl, h2⟩

theorem fits_args {N : Nat} (args : List Value) (hN : args.length ≤ N) (S : Env) (hS : ∀ k x, S.ent k = some x → args[k]? = some x.val) :
    Fits ⟨N, []⟩ S { tmps := args.toArray ++ Array.replicate (N - args.toArray.size) undef, defers := [] } := by
  refine ⟨by simp; omega, rfl, fun k x hk => ?_⟩
  have h1 := hS k x hk
  have : k < args.length := (List.getElem?_eq_some_iff.1 h1).1
  rw [Array.getElem?_append_left (by simpa using this)]
  simpa using h1

theorem envK_spec {K : Env → Prop} : ∀ (ts : List Nat) (vs : List Value) (S : Env) (m : Nat) (args : List Value), (∀ j t, ts[j]? = some t → t = m + j) → args.drop m = vs → (∀ k x, S.ent k = some x → args[k]? = some x.val) →
    envK ts vs S K → ∃ S', (∀ k x, Env.ent S' k = some x → args[k]? = some x.val) ∧ K S'
  | _, [], S, _, _, _, _, hS, h => ⟨S, hS, by unfold envK at h; exact h⟩
  | [], _ :: _, _, _, _, _, _, _, h => by simp [envK] at h
  | t :: ts, v :: vs, S, m, args, ht, hd, hS, h => by
    simp only [envK] at h
    have ht0 : t = m := by have := ht 0 t rfl; omega
    subst ht0
    have hv : args[t]? = some v := by
      have := congrArg (fun l => l[0]?) hd
      simpa using this
    refine envK_spec ts vs _ (t + 1) args (fun j u hu => by have := ht (j + 1) u hu; omega) ?_ (fun k x hk => ?_) h
    · rw [← List.drop_drop, hd]; rfl
    · simp only [Env.ent] at hk
      split at hk
      · rename_i hb
        have := Nat.eq_of_beq_eq_true hb
        subst this
        cases hk
        exact hv
      · exact hS k x hk

theorem fn_of_exec {c : Cx} (hg : c.g.Ok) {f : FuncId} {fn : Func} {x : Code} {args : List Value} {w : World} {R : Value → World → Prop} (hf : c.g.P.funcs[f]? = some fn) (hb : fn.body = some x) (hN : ⟨fn.ntmps, []⟩ = c.N)
    (hl : Nat.ble args.length c.N.n = true) (h : envK [0, 1, 2, 3, 4, 5, 6, 7, 8, 9, 10, 11, 12, 13, 14, 15] args [] (fun S => exec c x S w (Fin c fn.results.toList R))) : Fn c.g.P f args w R := by
  unfold Fn
  obtain ⟨S, hS, hx⟩ := envK_spec _ args [] 0 args (fun j t ht => by
    match j, ht with
    | 0, ht | 1, ht | 2, ht | 3, ht | 4, ht | 5, ht | 6, ht | 7, ht | 8, ht | 9, ht | 10, ht | 11, ht | 12, ht | 13, ht | 14, ht | 15, ht => simp at ht; omega
    | j + 16, ht => simp at ht) (by simp) (fun k x hk => by simp [Env.ent] at hk) h
  refine calls_of_wp hf hb ?_
  have hn : fn.ntmps = c.N.n := congrArg Slots.n hN
  have hfit := fits_args (N := c.N.n) args (Nat.le_of_ble_eq_true hl) S hS
  rw [← hn, hN] at hfit
  refine wp_mono (exec_sound hg x S w _ _ hx hfit) (fun e a w' hq => ?_)
  obtain ⟨S', hf', hq⟩ := hq
  have hd' : a.defers = [] := by rw [hf'.defers, ← hN]
  cases e with
  | normal => obtain ⟨v, h1, h2⟩ := run_results hg hf' hq; exact ⟨hd', v, h1, h2⟩
  | ret => obtain ⟨v, h1, h2⟩ := run_results hg hf' hq; exact ⟨hd', v, h1, h2⟩
  | exit i => exact hq.elim
  | goto l => exact hq.elim
  | panic ch => exact hq.elim
  | outgrown => exact hq.elim

/-- A call that comes back, or panics. -/
@[irreducible] def FnP (P : Program) (f : FuncId) (l : List Value) (w : World) (R : Value → World → Prop) (pan : List PanicEntry → World → Prop) : Prop := Calls P f l.toArray w fun
  | .returned v, w' => R v w'
  | .panicked ch, w' => pan ch w'
  | .outgrown, _ => False
/-- At a function's end, where a panic may be the end. -/
def FinP (c : Cx) (rs : List ResultVar) (R : Value → World → Prop) (pan : List PanicEntry → World → Prop) : Post
  | .panic ch, _, w => pan ch w
  | e, S, w => Fin c rs R e S w
theorem fnP_of_exec {c : Cx} (hg : c.g.Ok) {f : FuncId} {fn : Func} {x : Code} {args : List Value} {w : World} {R : Value → World → Prop} {pan : List PanicEntry → World → Prop} (hf : c.g.P.funcs[f]? = some fn) (hb : fn.body = some x) (hN : ⟨fn.ntmps, []⟩ = c.N)
    (hl : Nat.ble args.length c.N.n = true) (h : envK [0, 1, 2, 3, 4, 5, 6, 7, 8, 9, 10, 11, 12, 13, 14, 15] args [] (fun S => exec c x S w (FinP c fn.results.toList R pan))) : FnP c.g.P f args w R pan := by
  unfold FnP
  obtain ⟨S, hS, hx⟩ := envK_spec _ args [] 0 args (fun j t ht => by
    match j, ht with
    | 0, ht | 1, ht | 2, ht | 3, ht | 4, ht | 5, ht | 6, ht | 7, ht | 8, ht | 9, ht | 10, ht | 11, ht | 12, ht | 13, ht | 14, ht | 15, ht => simp at ht; omega
    | j + 16, ht => simp at ht) (by simp) (fun k x hk => by simp [Env.ent] at hk) h
  refine calls_of_wp hf hb ?_
  have hn : fn.ntmps = c.N.n := congrArg Slots.n hN
  have hfit := fits_args (N := c.N.n) args (Nat.le_of_ble_eq_true hl) S hS
  rw [← hn, hN] at hfit
  refine wp_mono (exec_sound hg x S w _ _ hx hfit) (fun e a w' hq => ?_)
  obtain ⟨S', hf', hq⟩ := hq
  have hd' : a.defers = [] := by rw [hf'.defers, ← hN]
  cases e with
  | normal => obtain ⟨v, h1, h2⟩ := run_results hg hf' hq; exact ⟨hd', v, h1, h2⟩
  | ret => obtain ⟨v, h1, h2⟩ := run_results hg hf' hq; exact ⟨hd', v, h1, h2⟩
  | exit i => exact hq.elim
  | goto l => exact hq.elim
  | panic ch => exact ⟨hd', hq⟩
  | outgrown => exact hq.elim
theorem FnP.mono {P : Program} {f : FuncId} {l : List Value} {w : World} {R R' : Value → World → Prop} {p p' : List PanicEntry → World → Prop} (h : FnP P f l w R p) (hr : ∀ v w', R v w' → R' v w') (hp : ∀ ch w', p ch w' → p' ch w') : FnP P f l w R' p' := by
  unfold FnP at *
  exact Calls.mono h fun e w' he => by cases e <;> first | exact hr _ _ he | exact hp _ _ he | exact he
theorem Fn.toP {P : Program} {f : FuncId} {l : List Value} {w : World} {R : Value → World → Prop} {p : List PanicEntry → World → Prop} (h : Fn P f l w R) : FnP P f l w R p := by
  unfold Fn at h; unfold FnP
  exact Calls.mono h fun e w' he => by cases e <;> first | exact he | exact he.elim
theorem callP {P : Program} {f : FuncId} {l : List Value} {w : World} {R : Value → World → Prop} {p : List PanicEntry → World → Prop} {K : Value → World → Prop} {pan : List PanicEntry → World → Prop} (h : FnP P f l w R p) (k : ∀ v w', R v w' → K v w') (kp : ∀ ch w', p ch w' → pan ch w') : CallAt P f l w K pan := by
  unfold FnP at h; unfold CallAt
  exact Calls.mono h fun e w' he => by cases e <;> first | exact k _ _ he | exact kp _ _ he | exact he

theorem Fn.mono {P : Program} {f : FuncId} {l : List Value} {w : World} {R R' : Value → World → Prop} (h : Fn P f l w R) (hr : ∀ v w', R v w' → R' v w') : Fn P f l w R' := by
  unfold Fn at *
  exact Calls.mono h fun e w' he => by cases e <;> first | exact hr _ _ he | exact he

theorem call {P : Program} {f : FuncId} {l : List Value} {w : World} {R : Value → World → Prop} {K : Value → World → Prop} {pan : List PanicEntry → World → Prop} (h : Fn P f l w R) (k : ∀ v w', R v w' → K v w') : CallAt P f l w K pan := by
  unfold Fn at h; unfold CallAt
  exact Calls.mono h fun e w' he => by cases e <;> first | exact k _ _ he | exact he.elim

/-! ### Loops and cuts -/
def dstsL : List Oper → List Nat → List Nat
  | [], acc => acc
  | o :: l, acc => match o.dst with
    | some d => dstsL l (d :: acc)
    | none => dstsL l acc

def dstsC : Code → List Nat → List Nat
  | .region _ ops _, acc => dstsL ops.toList acc
  | .seq x y, acc => dstsC y (dstsC x acc)
  | .cond _ x y, acc => dstsC y (dstsC x acc)
  | .block _ x, acc => dstsC x acc
  | .loop x, acc => dstsC x acc
  | .scope x, acc => dstsC x acc
  | .rangeFunc _ _ x y, acc => dstsC y (dstsC x acc)
  | _, acc => acc

def stays (x : Code) (t : Nat) : Bool := match memN t (dstsC x []) with
  | true => false
  | false => true

def zipK : List Nat → List Value → Env → (Env → Prop) → Prop
  | [], [], S, K => K S
  | t :: ts, v :: vs, S, K => zipK ts vs ((t, .v v) :: S) K
  | _, _, _, _ => False

/-- Every slot of T holds in S what T says. -/
def Has (T S : Env) : Prop := T.map (fun p => S.get p.1) = T.map (fun p => some p.2.val)

theorem ent_mem {T : Env} {k : Nat} {x : Ent} (h : T.ent k = some x) : (k, x) ∈ T := by
  induction T with
  | nil => cases h
  | cons p T ih =>
    obtain ⟨t, y⟩ := p
    simp only [Env.ent] at h
    split at h
    · rename_i hb; cases h; rw [Nat.eq_of_beq_eq_true hb]; simp
    · simp [ih h]

theorem Has.fits {T S : Env} {N : Slots} {a : Act} (h : Has T S) (hf : Fits N S a) : Fits N T a := by
  refine ⟨hf.size, hf.defers, fun k x hk => ?_⟩
  have hm := ent_mem hk
  exact hf.get ((List.map_inj_left.1 h) (k, x) hm)

theorem zipK_spec {ts : List Nat} {vs : List Value} {S : Env} {K : Env → Prop} (h : zipK ts vs S K) : ∃ T, T = (ts.zip (vs.map Ent.v)).reverse ++ S ∧ K T := by
  induction ts generalizing vs S with
  | nil =>
    cases vs with
    | nil => exact ⟨S, rfl, h⟩
    | cons v vs => exact h.elim
  | cons t ts ih =>
    cases vs with
    | nil => exact h.elim
    | cons v vs =>
      obtain ⟨T, rfl, hk⟩ := ih h
      exact ⟨_, by simp, hk⟩

def pruneS (p : Nat → Bool) : Env → Env → Env
  | [], acc => acc
  | (t, x) :: S, acc => match p t with
    | true => (match hasKey t acc with
      | true => pruneS p S acc
      | false => pruneS p S ((t, x) :: acc))
    | false => pruneS p S acc

theorem prune_eq (p : Nat → Bool) (S acc : Env) (K : Env → Prop) : prune p S acc K = K (pruneS p S acc) := by
  induction S generalizing acc with
  | nil => rfl
  | cons q S ih =>
    obtain ⟨t, x⟩ := q
    simp only [prune, pruneS]
    split
    · split <;> exact ih _
    · exact ih _

section
variable {c : Cx} {S : Env} {w : World} {Q : Post} {α : Type}

theorem wp_loop' {x : Code} (J : α → Act → World → Prop) (μ : α → World → Nat) {a : Act} (s0 : α) (h0 : J s0 a w)
    (hr : ∀ s a w, J s a w → x.wp c.g.P (fun e a' w' => match e with
      | .normal => ∃ s2, J s2 a' w' ∧ μ s2 w' < μ s w
      | e => Up c Q e a' w') a w) : (Code.loop x).wp c.g.P (Up c Q) a w := by
  intro b k cs
  have key : ∀ n s a w, μ s w = n → J s a w → ∃ e a' w', Up c Q e a' w' ∧ Arrives c.g.P (lone (b.at a (.code x :: .inLoop x :: k)) cs w) b k cs e a' w' := by
    intro n
    induction n using Nat.strongRecOn with
    | _ n ih =>
      intro s a w hn hJ
      obtain ⟨e, a1, w1, hq, harr⟩ := hr s a w hJ b (.inLoop x :: k) cs
      cases e with
      | normal =>
        obtain ⟨s2, hJ2, hlt⟩ := hq
        obtain ⟨e2, a2, w2, hq2, harr2⟩ := ih (μ s2 w1) (hn ▸ hlt) s2 a1 w1 rfl hJ2
        exact ⟨e2, a2, w2, hq2, .of_steps (Steps.trans harr (.one step_inLoop)) harr2⟩
      | exit id => exact ⟨_, a1, w1, hq, .pass (x := .inLoop x) rfl (fun _ _ => .inl (by simp)) harr⟩
      | goto l => exact ⟨_, a1, w1, hq, .pass (x := .inLoop x) rfl (fun _ _ => .inl (by simp)) harr⟩
      | ret => exact ⟨_, a1, w1, hq, .pass (x := .inLoop x) rfl (fun _ _ => .inl (by simp)) harr⟩
      | panic ch => exact ⟨_, a1, w1, hq, .pass (x := .inLoop x) rfl (fun _ _ => .inl (by simp)) harr⟩
      | outgrown => exact ⟨_, a1, w1, hq, .pass (x := .inLoop x) rfl (fun _ _ => .inl (by simp)) harr⟩
  obtain ⟨e, a', w', hq, harr⟩ := key _ s0 a w rfl h0
  exact ⟨e, a', w', hq, .of_steps (.one step_loop) harr⟩

/-- What a round owes: the slots, the relation, the measure. -/
def Again (sl : List Nat) (val : α → List Value) (S0 : Env) (I : α → World → Prop) (μ : α → World → Nat) (m : Nat) (S2 : Env) (w2 : World) : Prop :=
  ∃ s2, zipK sl (val s2) S0 (fun T => Has T S2) ∧ I s2 w2 ∧ μ s2 w2 < m

theorem loop (hg : c.g.Ok) {x : Code} (sl : List Nat) (val : α → List Value) (I : α → World → Prop) (μ : α → World → Nat) (s0 : α)
    (h0 : prune (stays x) S [] (fun S0 => zipK sl (val s0) S0 (fun T => Has T S))) (hI : I s0 w)
    (hr : prune (stays x) S [] (fun S0 => ∀ s w', I s w' → zipK sl (val s) S0 (fun S1 => exec c x S1 w' (fun e S2 w2 => match e with
      | .normal => Again sl val S0 I μ (μ s w') S2 w2
      | e => Q e S2 w2)))) : AtLoop c x S w Q := by
  rw [prune_eq] at h0 hr
  unfold AtLoop
  intro a hf
  generalize pruneS (stays x) S [] = S0 at *
  have hsplit : ∀ s (K : Env → Prop), zipK sl (val s) S0 K → K ((sl.zip ((val s).map Ent.v)).reverse ++ S0) := fun s K h => by
    obtain ⟨T, rfl, hk⟩ := zipK_spec h; exact hk
  refine wp_loop' (c := c) (x := x) (Q := Q) (J := fun s a' w' => Fits c.N ((sl.zip ((val s).map Ent.v)).reverse ++ S0) a' ∧ I s w') (μ := μ) s0 ⟨(hsplit s0 _ h0).fits hf, hI⟩ ?_
  intro s a' w' ⟨hf', hI'⟩
  have h1 := exec_sound hg x _ w' _ a' (hsplit s _ (hr s w' hI')) hf'
  refine wp_mono h1 (fun e a2 w2 hq => ?_)
  obtain ⟨S2, hf2, hq⟩ := hq
  cases e with
  | normal =>
    obtain ⟨s2, hz, hI2, hm⟩ := hq
    exact ⟨s2, ⟨(hsplit s2 _ hz).fits hf2, hI2⟩, hm⟩
  | exit i => exact ⟨S2, hf2, hq⟩
  | goto l => exact ⟨S2, hf2, hq⟩
  | ret => exact ⟨S2, hf2, hq⟩
  | panic ch => exact ⟨S2, hf2, hq⟩
  | outgrown => exact ⟨S2, hf2, hq⟩

/-- The ways through x meet again ahead of y. -/
theorem cutIn (cs : List Nat) (hg : c.g.Ok) {x y : Code} (sl : List Nat) (val : α → List Value) (R : α → World → Prop)
    (hx : prune (stays x) S [] (fun S0 => exec { c with cuts := cs } x S w (fun e S2 w2 => match e with
      | .normal => ∃ s, zipK sl (val s) S0 (fun T => Has T S2) ∧ R s w2
      | e => Q e S2 w2)))
    (hy : prune (stays x) S [] (fun S0 => ∀ s w', R s w' → zipK sl (val s) S0 (fun S1 => exec c y S1 w' Q))) : AtCode c (.seq x y) S w Q := by
  rw [prune_eq] at hx hy
  unfold AtCode
  intro a hf
  generalize pruneS (stays x) S [] = S0 at *
  have hsplit : ∀ s (K : Env → Prop), zipK sl (val s) S0 K → K ((sl.zip ((val s).map Ent.v)).reverse ++ S0) := fun s K h => by
    obtain ⟨T, rfl, hk⟩ := zipK_spec h; exact hk
  refine wp_seq (wp_mono (exec_sound (c := { c with cuts := cs }) hg x S w _ a hx hf) (fun e a2 w2 hq => ?_))
  obtain ⟨S2, hf2, hq⟩ := hq
  cases e with
  | normal =>
    obtain ⟨s, hz, hR⟩ := hq
    exact exec_sound hg y _ w2 Q a2 (hsplit s _ (hy s w2 hR)) ((hsplit s _ hz).fits hf2)
  | exit i => exact ⟨S2, hf2, hq⟩
  | goto l => exact ⟨S2, hf2, hq⟩
  | ret => exact ⟨S2, hf2, hq⟩
  | panic ch => exact ⟨S2, hf2, hq⟩
  | outgrown => exact ⟨S2, hf2, hq⟩

theorem cut (hg : c.g.Ok) {x y : Code} (sl : List Nat) (val : α → List Value) (R : α → World → Prop)
    (hx : prune (stays x) S [] (fun S0 => exec { c with cuts := [] } x S w (fun e S2 w2 => match e with
      | .normal => ∃ s, zipK sl (val s) S0 (fun T => Has T S2) ∧ R s w2
      | e => Q e S2 w2)))
    (hy : prune (stays x) S [] (fun S0 => ∀ s w', R s w' → zipK sl (val s) S0 (fun S1 => exec c y S1 w' Q))) : AtCode c (.seq x y) S w Q :=
  cutIn [] hg sl val R hx hy
end

/-! ### A region that draws its order, all of it quiet -/
@[irreducible] def QLoad (C : World → Prop) (p : Addr) (K : Value → Prop) : Prop := ∃ v, (∀ w, C w → w.cell? p = some v) ∧ K v
@[irreducible] def QLoadN (C : World → Prop) (p : Addr) (n : Nat) (K : List Value → Prop) : Prop := ∃ vs : List Value, vs.length = n ∧ (∀ w, C w → ∀ j v, vs[j]? = some v → w.cell? (p.add j) = some v) ∧ K vs
@[irreducible] def QCall (P : Program) (f : FuncId) (l : List Value) (C : World → Prop) (K : Value → Prop) : Prop := ∃ v, (∀ w, C w → Fn P f l w (fun u w' => u = v ∧ C w')) ∧ K v
@[irreducible] def QOp (c : Cx) (o : Oper) (S : Env) (C : World → Prop) (K : Env → Prop) : Prop := ∃ v, (∀ a w, Fits c.N S a → C w → o.quietAt c.g.P a C w v) ∧ putK c S o.dst (.v v) K

def memQ (c : Cx) (o : Oper) (S : Env) (C : World → Prop) (K : Env → Prop) : Prop :=
  match o.op with
  | .load t x => (match rowOf c.g.tys t, S.ev x with
    | some r, some (.pointer (some p)) => (match isAggD r.d with
      | false => QLoad C p (fun v => putK c S o.dst (.v v) K)
      | true => QLoadN C p r.sz (fun vs => putK c S o.dst (.v (.agg vs.toArray)) K))
    | _, _ => QOp c o S C K)
  | .indexAddr t x i => (match rowOf c.g.tys t, S.ev x, S.ev i with
    | some ⟨_, .slice e, _, _, _⟩, some (.slice b n _), some (.int _ i) => (match rowOf c.g.tys e with
      | some r => Index b n i r.sz (fun p => putK c S o.dst (.v (.pointer (some p))) K)
      | none => QOp c o S C K)
    | _, _, _ => QOp c o S C K)
  | .index t x i => (match rowOf c.g.tys t, S.ev x, S.ev i with
    | some ⟨_, .string, _, _, _⟩, some (.string s), some (.int _ i) => SIndex s i (fun b => putK c S o.dst (.v (.int .u8 b)) K)
    | _, _, _ => QOp c o S C K)
  | .call ⟨.value f, xs, _⟩ => (match S.ev f with
    | some (.func (.func n) first cap) => (match memN n c.g.fns with
      | true => revK first.toList [] (fun acc => argsK S xs.toList acc (fun acc => revK cap.toList acc (fun acc => revK acc [] (fun l =>
          QCall c.g.P n l C (fun v => putK c S o.dst (.v v) K)))))
      | false => QOp c o S C K)
    | _ => QOp c o S C K)
  | _ => QOp c o S C K

def execQO (c : Cx) (o : Oper) (S : Env) (C : World → Prop) (K : Env → Prop) : Prop :=
  match pureOp c.g S o.op with
  | .val v => putK c S o.dst (.v v) K
  | .ent e => putK c S o.dst e K
  | .norm k n => Norm n (fun m => putK c S o.dst (.v (.int k m)) K)
  | .normIf p k n => NormIf p n (fun m => putK c S o.dst (.v (.int k m)) K)
  | .need p v => Need p v (fun v => putK c S o.dst (.v v) K)
  | .no => memQ c o S C K

def execQL (c : Cx) (all : List Oper) : List Oper → Env → (World → Prop) → (Env → Prop) → Prop
  | [], S, _, K => prune (keepB c) S [] K
  | o :: rest, S, C, K => match o.guard with
    | none => execQO c o S C (fun S => execQL c all rest S C K)
    | some (j, want) => match nthO all j with
      | some oj => (match oj.dst with
        | some d => (match S.ent d with
          | some .t => (match want with
            | true => execQO c o S C (fun S => execQL c all rest S C K)
            | false => putK c S o.dst (.v undef) (fun S => execQL c all rest S C K))
          | some .f => (match want with
            | false => execQO c o S C (fun S => execQL c all rest S C K)
            | true => putK c S o.dst (.v undef) (fun S => execQL c all rest S C K))
          | some (.v (.bool b)) => (match want with
            | true => WIf b (execQO c o ((d, .t) :: S) C (fun S => execQL c all rest S C K)) (putK c ((d, .f) :: S) o.dst (.v undef) (fun S => execQL c all rest S C K))
            | false => WIf b (putK c ((d, .t) :: S) o.dst (.v undef) (fun S => execQL c all rest S C K)) (execQO c o ((d, .f) :: S) C (fun S => execQL c all rest S C K)))
          | some (.v (.tuple _)) => putK c S o.dst (.v undef) (fun S => execQL c all rest S C K)
          | _ => False)
        | none => False)
      | none => False

section
variable {c : Cx} {a : Act} {S : Env} {C : World → Prop} {K : Env → Prop}

abbrev NxtQ (c : Cx) (K : Env → Prop) : Act → Prop := fun a' => ∃ S', Fits c.N S' a' ∧ K S'

theorem quiet_value {o : Oper} {v : Value} {N : Act → Prop} (hr : ∀ w, (execOp a.eval o).run c.g.P w = .ok (.value v) w) (h : N (a.put o.dst v)) : o.quiet c.g.P a C N :=
  ⟨v, fun w _ => by unfold Oper.quietAt; rw [hr w]; exact ⟨rfl, rfl⟩, h⟩

theorem quiet_value' {o : Oper} {v : Value} {N : Act → Prop} (hr : ∀ w, C w → (execOp a.eval o).run c.g.P w = .ok (.value v) w) (h : N (a.put o.dst v)) : o.quiet c.g.P a C N :=
  ⟨v, fun w hw => by unfold Oper.quietAt; rw [hr w hw]; exact ⟨rfl, rfl⟩, h⟩

theorem memQ_sound (hg : c.g.Ok) {o : Oper} (h : memQ c o S C K) (hf : Fits c.N S a) : o.quiet c.g.P a C (NxtQ c K) := by
  have hAt : QOp c o S C K → o.quiet c.g.P a C (NxtQ c K) := fun h => by
    unfold QOp at h
    obtain ⟨v, h1, h2⟩ := h
    exact ⟨v, fun w hw => h1 a w hf hw, putK_sound (e := .v v) h2 hf⟩
  obtain ⟨dst, op, ty, pos, aft, gd⟩ := o
  unfold memQ at h
  split at h
  · rename_i t x hop
    simp only at hop; subst hop
    split at h
    · rename_i r p hr hx
      have e1 := hf.ev hx
      split at h
      · rename_i hd
        unfold QLoad at h
        obtain ⟨v, hv, hk⟩ := h
        refine quiet_value' (v := v) (fun w hw => ?_) (putK_sound (e := .v v) hk hf)
        simp [execOp, e1, Instr.loadAt, Instr.sureAddr, loadVar, run_isAgg hg hr, hd, load, Sem.run, hv w hw]
      · rename_i hd
        unfold QLoadN at h
        obtain ⟨vs, hl, hv, hk⟩ := h
        refine quiet_value' (v := .agg vs.toArray) (fun w hw => ?_) (putK_sound (e := .v (.agg vs.toArray)) hk hf)
        have h2 := run_loadCells_list (P := c.g.P) (w := w) p vs (hv w hw)
        rw [hl] at h2
        simp [execOp, e1, Instr.loadAt, Instr.sureAddr, loadVar, run_isAgg hg hr, hd, run_sizeOf hg hr, h2]
    · exact hAt h
  · rename_i t x ix hop
    simp only at hop; subst hop
    split at h
    · rename_i e b n k i hr hx hi
      split at h
      · rename_i r hre
        unfold Index at h
        obtain ⟨p, rfl, h0, h1, hk⟩ := h
        have e1 := hf.ev hx
        have e2 := hf.ev hi
        refine quiet_value (v := .pointer (some (p.add (i.toNat * r.sz)))) (fun w => ?_) (putK_sound (e := .v _) hk hf)
        simp [execOp, e1, e2, Instr.indexAt, asIntOf, run_und hg hr, run_sizeOf hg hre, h0, h1]
      · exact hAt h
    · exact hAt h
  · rename_i t x ix hop
    simp only at hop; subst hop
    split at h
    · rename_i s k i hr hx hi
      unfold SIndex at h
      obtain ⟨b, h0, h1, hk⟩ := h
      have e1 := hf.ev hx
      have e2 := hf.ev hi
      refine quiet_value (v := .int .u8 b.toNat) (fun w => ?_) (putK_sound (e := .v _) hk hf)
      simp [execOp, e1, e2, Instr.index, asIntOf, run_und hg hr, h0, h1]
    · exact hAt h
  · rename_i f xs ts hop
    simp only at hop; subst hop
    split at h
    · rename_i n first cap hv
      split at h
      · rename_i hm
        have hc := hg.fns n (memN_spec hm)
        rw [revK_eq] at h
        have h2 := argsK_spec h hf
        rw [revK_eq, revK_eq] at h2
        simp only [List.append_nil, List.reverse_append, List.reverse_reverse, List.append_assoc] at h2
        unfold QCall at h2
        obtain ⟨v, h3, hk⟩ := h2
        have e1 := hf.ev hv
        refine ⟨v, fun w hw => ?_, putK_sound (e := .v v) hk hf⟩
        unfold Oper.quietAt
        have : (execOp a.eval { dst := dst, op := .call ⟨.value f, xs, ts⟩, type := ty, pos := pos, after := aft, guard := gd }).run c.g.P w =
            .ok (.enter n (first.toList ++ (List.map a.eval xs.toList ++ cap.toList)).toArray) w := by
          simp [execOp, resolve, e1, Deferred.ofValue, invoke, run_callFunc hc]
        rw [this]
        refine ⟨rfl, ?_⟩
        have h4 := h3 w hw
        unfold Fn at h4
        refine h4.mono fun e w' he => ?_
        cases e with
        | returned u => exact ⟨by rw [he.1], he.2⟩
        | panicked ch => exact he.elim
        | outgrown => exact he.elim
      · exact hAt h
    · exact hAt h
  · exact hAt h

theorem execQO_sound (hg : c.g.Ok) {o : Oper} (h : execQO c o S C K) (hf : Fits c.N S a) : o.quiet c.g.P a C (NxtQ c K) := by
  unfold execQO at h
  split at h
  · rename_i v hp
    exact quiet_value (fun w => pure_sound (w := w) hg hf hp) (putK_sound (e := .v v) h hf)
  · rename_i e hp
    exact quiet_value (fun w => pure_sound (w := w) hg hf hp) (putK_sound (e := e) h hf)
  · rename_i k n hp
    unfold Norm at h
    exact quiet_value (fun w => pure_sound (w := w) hg hf hp) (putK_sound (e := .v (.int k n)) h hf)
  · rename_i p k n hp
    unfold NormIf at h
    exact quiet_value (fun w => pure_sound (w := w) hg hf hp h.1) (putK_sound (e := .v (.int k n)) h.2 hf)
  · rename_i p v hp
    unfold Need at h
    exact quiet_value (fun w => pure_sound (w := w) hg hf hp h.1) (putK_sound (e := .v v) h.2 hf)
  · exact memQ_sound hg h hf

theorem execQL_sound (hg : c.g.Ok) (all : List Oper) : ∀ (l : List Oper) (S : Env) (a : Act), execQL c all l S C K → Fits c.N S a → wpQuiet c.g.P all.toArray C (NxtQ c K) l a
  | [], S, a, h, hf => by
    simp only [execQL] at h
    exact prune_sound (p := keepB c) hf.size hf.defers S [] (fun k x hk => by simp [Env.ent] at hk) (fun k x _ hk => hf.has k x hk) h
  | o :: rest, S, a, h, hf => by
    have go : ∀ (S : Env), execQO c o S C (fun S => execQL c all rest S C K) → Fits c.N S a → o.quiet c.g.P a C (wpQuiet c.g.P all.toArray C (NxtQ c K) rest) := fun S h hf =>
      Oper.quiet_mono (fun a' ⟨S', hf', hk⟩ => execQL_sound hg all rest S' a' hk hf') (execQO_sound hg h hf)
    have no : ∀ (S : Env), putK c S o.dst (.v undef) (fun S => execQL c all rest S C K) → Fits c.N S a → wpQuiet c.g.P all.toArray C (NxtQ c K) rest (a.put o.dst undef) := fun S h hf => by
      obtain ⟨S', hf', hk⟩ := putK_sound h hf
      exact execQL_sound hg all rest S' _ hk hf'
    have fit : ∀ (d : Nat) (b : Bool) (e : Ent), S.ent d = some (.v (.bool b)) → e.val = .bool b → Fits c.N ((d, e) :: S) a := fun d b e hd he => by
      refine ⟨hf.size, hf.defers, fun k x hk => ?_⟩
      simp only [Env.ent] at hk
      split at hk
      · rename_i hb
        have := Nat.eq_of_beq_eq_true hb
        subst this
        cases hk
        rw [he]
        exact hf.has _ _ hd
      · exact hf.has _ _ hk
    simp only [execQL] at h
    unfold wpQuiet
    split at h
    · rename_i hgd
      rw [if_pos (by simp [Region.wanted, hgd])]
      exact go S h hf
    · rename_i j want hgd
      split at h
      · rename_i oj hj
        split at h
        · rename_i d hd
          split at h
          · rename_i hd'
            have hw := wanted_iff hgd hj hd (hf.has _ _ hd')
            split at h
            · rw [if_pos (by rw [hw]; rfl)]; exact go S h hf
            · rw [if_neg (by rw [hw]; decide)]; exact no S h hf
          · rename_i hd'
            have hw := wanted_iff hgd hj hd (hf.has _ _ hd')
            split at h
            · rw [if_pos (by rw [hw]; rfl)]; exact go S h hf
            · rw [if_neg (by rw [hw]; decide)]; exact no S h hf
          · rename_i b hd'
            have hw := wanted_iff hgd hj hd (hf.has _ _ hd')
            split at h
            · unfold WIf at h
              cases b with
              | true => rw [if_pos (by rw [hw]; rfl)]; exact go _ (h.1 rfl) (fit d true .t hd' rfl)
              | false => rw [if_neg (by rw [hw]; decide)]; exact no _ (h.2 rfl) (fit d false .f hd' rfl)
            · unfold WIf at h
              cases b with
              | true => rw [if_neg (by rw [hw]; decide)]; exact no _ (h.1 rfl) (fit d true .t hd' rfl)
              | false => rw [if_pos (by rw [hw]; rfl)]; exact go _ (h.2 rfl) (fit d false .f hd' rfl)
          · rename_i hd'
            rw [if_neg (by rw [unwanted hgd hj hd (hf.has _ _ hd')]; decide)]; exact no S h hf
          · exact h.elim
        · exact h.elim
      · exact h.elim
end

theorem wpQuiet_mono' {P : Program} {ops : Array Oper} {C : World → Prop} {Q Q' : Act → Prop} (h : ∀ a, Q a → Q' a) : ∀ {l : List Oper} {a : Act}, wpQuiet P ops C Q l a → wpQuiet P ops C Q' l a
  | [], a, hh => h a hh
  | o :: l, a, hh => by
    unfold wpQuiet at *
    split
    · rename_i hw; rw [if_pos hw] at hh; exact Oper.quiet_mono (fun a' h' => wpQuiet_mono' h h') hh
    · rename_i hw; rw [if_neg hw] at hh; exact wpQuiet_mono' h hh

theorem draw_in {c : Cx} (hg : c.g.Ok) {id : Nat} {ops : List Oper} {S : Env} {w : World} {Q : Post} (C : World → Prop) (hC : C w.drew) (hB : Region.lexB .any ops.toArray = true)
    (h : execQL c ops ops S C (fun S => ∀ w', C w' → Q .normal S w')) : AtDraw c id ops S w Q := by
  unfold AtDraw
  intro a hf
  refine wp_region_quiet (C := C) hg.mixed hB hC ?_
  have := execQL_sound hg ops ops S a h hf
  refine wpQuiet_mono' ?_ this
  intro a' ⟨S', hf', hk⟩ w' hw'
  exact ⟨S', hf', hk w' hw'⟩

theorem wpStill_of_quiet {P : Program} {ops : Array Oper} {w : World} {Q : Act → Prop} : ∀ {l : List Oper} {a : Act}, wpQuiet P ops (fun w' => w' = w) Q l a → wpStill P ops w Q l a
  | [], a, h => h
  | o :: l, a, h => by
    unfold wpQuiet at h
    unfold wpStill
    split
    · rename_i hw
      rw [if_pos hw] at h
      obtain ⟨v, h1, h2⟩ := h
      have h3 := h1 w rfl
      unfold Oper.quietAt at h3
      unfold Oper.still
      generalize (execOp a.eval o).run P w = r at *
      cases r with
      | ok n w' =>
        cases n <;> simp only [Oper.quietUpon] at h3 <;> simp only [Oper.stillUpon]
        case value u => obtain ⟨rfl, rfl⟩ := h3; exact ⟨rfl, wpStill_of_quiet h2⟩
        case skip => obtain ⟨rfl, rfl⟩ := h3; exact ⟨rfl, wpStill_of_quiet h2⟩
        case enter f args => exact ⟨h3.1, v, h3.2, wpStill_of_quiet h2⟩
      | halt x w' => simp only [Oper.quietUpon] at h3
    · rename_i hw
      rw [if_neg hw] at h
      exact wpStill_of_quiet h

theorem wpStill_mono' {P : Program} {ops : Array Oper} {w : World} {Q Q' : Act → Prop} (h : ∀ a, Q a → Q' a) : ∀ {l : List Oper} {a : Act}, wpStill P ops w Q l a → wpStill P ops w Q' l a
  | [], a, hh => h a hh
  | o :: l, a, hh => by
    unfold wpStill at *
    split
    · rename_i hw
      rw [if_pos hw] at hh
      unfold Oper.still at *
      generalize (execOp a.eval o).run P w = r at *
      cases r with
      | ok n w' =>
        cases n <;> simp only [Oper.stillUpon] at hh ⊢
        case value u => exact ⟨hh.1, wpStill_mono' h hh.2⟩
        case skip => exact ⟨hh.1, wpStill_mono' h hh.2⟩
        case enter f args => obtain ⟨h1, v, h2, h3⟩ := hh; exact ⟨h1, v, h2, wpStill_mono' h h3⟩
      | halt x w' => simp only [Oper.stillUpon] at hh
    · rename_i hw; rw [if_neg hw] at hh; exact wpStill_mono' h hh

theorem wpList_mono' {P : Program} {ops : Array Oper} {Q Q' : Exit → Act → World → Prop} (h : ∀ e a w, Q e a w → Q' e a w) : ∀ {l : List Oper} {a : Act} {w : World}, wpList P ops Q l a w → wpList P ops Q' l a w
  | [], a, w, hh => h _ a w hh
  | o :: l, a, w, hh => by
    unfold wpList at *
    split
    · rename_i hw
      rw [if_pos hw] at hh
      rcases hh with hh | ⟨h1, a0, w0, h2⟩
      · refine .inl ?_
        have h2 := Oper.wp_mono (K' := wpList P ops Q' l) (fun a w => wpList_mono' h) hh
        unfold Oper.wp at h2 ⊢
        generalize (execOp a.eval o).run P w = r at *
        cases r with
        | ok n w' =>
          cases n <;> simp only [Oper.upon] at h2 ⊢ <;> try exact h2
          exact h2.mono fun e w'' he => by
            cases e with
            | returned v => exact he
            | panicked ch => exact h _ _ _ he
            | outgrown => obtain ⟨a0, w0, h0⟩ := he; exact ⟨a0, w0, h _ _ _ h0⟩
        | halt x w' => cases x <;> simp only [Oper.upon] at h2 ⊢ <;> first | exact h2 | exact h _ _ _ h2
      · exact .inr ⟨h1, a0, w0, h _ _ _ h2⟩
    · rename_i hw; rw [if_neg hw] at hh; exact wpList_mono' h hh

/-- All but the last operations only read; those come in the text's order. -/
theorem draw_tail {c : Cx} (hg : c.g.Ok) {id : Nat} {ops : List Oper} {S : Env} {w : World} {Q : Post} (n : Nat) (hB : Region.lexTailB .any ops.toArray n = true)
    (h : execQL { c with named := 1000000 } ops (ops.take n) S (fun w' => w' = w.drew) (fun S => execL c ops (ops.drop n) S w.drew (fun S w => Q .normal S w) Q)) : AtDraw c id ops S w Q := by
  unfold AtDraw
  intro a hf
  refine wp_region_still_tail n hg.mixed hB ?_
  have h1 := execQL_sound (c := { c with named := 1000000 }) hg ops (ops.take n) S a h hf
  refine wpStill_mono' ?_ (wpStill_of_quiet h1)
  intro a' ⟨S', hf', hk⟩
  have h2 := execL_sound (c := c) hg ops _ _ _ _ hk hf'
  refine wpList_mono' (fun e a w hq => ?_) h2
  cases e <;> exact hq
end Go.Proofs.YtedopgkbajhanaaGreatDoor
