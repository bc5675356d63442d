/-
  What PSourceNames rests on, part 1: the texts of this work, without what it does not use; printed by a program (wip/shake.py).
  Conditions: none.
-/
import Derived.Test.YtedopgkbajhanaaGreatDoorProg
import Derived.WalkKit
import Derived.Deep.QuietTactic
import Derived.Laws.CopyOwn
import Derived.StillTail
import Derived.OrdersHeld
import Derived.Laws.StructEq
import Derived.Lib.AppendStr
import Derived.Shelf.Strings.Builder1
import Derived.Shelf.Small.Utf8
import Derived.Shelf.Small.Strs
import Derived.Shelf.Strings.BuilderF
import Derived.Shelf.Strings.Search1
import Derived.Shelf.Strings.Search2
import Derived.Shelf.Strings.Search3
import Derived.Shelf.Strings.Cut
import Derived.Shelf.Strings.Count
import Derived.Shelf.LaysM
import Derived.Shelf.Strings.Shaped
import Derived.Shelf.GgClosure.StringsIndexFunc
import Derived.Shelf.Strings.Prefix
import Derived.Shelf.Strings.Runes
import Derived.Shelf.Strings.AsciiSet
import Derived.Shelf.Unicode.DecodeSlow
import Derived.Lib.Builder
import Derived.Lib.UnsafeStr
import Derived.Maps.RangeRun
import Derived.Recover
import Derived.ChangeKeysEq
import Derived.Deep.Grids
import Derived.Below
import Derived.ProofKit
import Derived.OpenShut
import Derived.ShutString
import Derived.ChangeOld
import Derived.Deep.Slices
import Derived.ChangeSame
import Derived.WideShapes
import Derived.Lay
import Derived.SevenTiedAt
import Derived.Deep.DeepHandedRow
namespace Go.Proofs.YtedopgkbajhanaaGreatDoor
section
open Go Go.RowKit

/-! ### Known slots -/
inductive Ent where
  | v (x : Value)
  | t
  | f

def Ent.val : Ent → Value
  | .v x => x
  | .t => .bool true
  | .f => .bool false

abbrev Env := List (Nat × Ent)

def Env.ent : Env → Nat → Option Ent
  | [], _ => none
  | (t, x) :: S, k => match Nat.beq t k with
    | true => some x
    | false => Env.ent S k

def Env.get (S : Env) (k : Nat) : Option Value :=
  match S.ent k with
  | some (.v x) => some x
  | some .t => some (.bool true)
  | some .f => some (.bool false)
  | none => none

def Env.ev (S : Env) : Operand → Option Value
  | .tmp t => S.get t
  | .const v => some v
  | .global g => some (.pointer (some ⟨g, 0, none⟩))
  | .func f => some (.func (.func f) #[] #[])

theorem Env.get_eq (S : Env) (k : Nat) : S.get k = (S.ent k).map Ent.val := by
  unfold Env.get; cases S.ent k with
  | none => rfl
  | some e => cases e <;> rfl

/-- How many slots a function has, and what is deferred at this place. -/
structure Slots where
  n : Nat
  ds : List Deferred := []
instance (k : Nat) : OfNat Slots k := ⟨⟨k, []⟩⟩

structure Fits (N : Slots) (S : Env) (a : Act) : Prop where
  size : a.tmps.size = N.n
  defers : a.defers = N.ds
  has : ∀ k x, S.ent k = some x → a.tmps[k]? = some x.val

theorem Fits.get {N : Slots} {S : Env} {a : Act} (h : Fits N S a) {k : Nat} {v : Value} (hk : S.get k = some v) : a.tmps[k]? = some v := by
  rw [Env.get_eq] at hk
  cases he : S.ent k with
  | none => simp [he] at hk
  | some e => simp [he] at hk; subst hk; exact h.has k e he

theorem Fits.ev {N : Slots} {S : Env} {a : Act} (h : Fits N S a) {x : Operand} {v : Value} (hx : S.ev x = some v) : a.eval x = v := by
  cases x with
  | tmp t => have := h.get hx; simp [Act.eval, this]
  | const u => simp [Env.ev] at hx; simp [Act.eval, hx]
  | global g => simp [Env.ev] at hx; simp [Act.eval, hx]
  | func f => simp [Env.ev] at hx; simp [Act.eval, hx]

theorem Fits.put {N : Slots} {S : Env} {a : Act} (h : Fits N S a) {d : Nat} (hd : d < N.n) (e : Ent) : Fits N ((d, e) :: S) (a.put (some d) e.val) := by
  refine ⟨by simp [Act.put, h.size], by simp [Act.put, h.defers], fun k x hk => ?_⟩
  simp only [Env.ent] at hk
  cases hb : Nat.beq d k with
  | true =>
    have : d = k := Nat.eq_of_beq_eq_true hb
    subst this
    simp only [hb] at hk
    cases hk
    have : d < a.tmps.size := by rw [h.size]; exact hd
    simp [Act.put, this]
  | false =>
    have hne : d ≠ k := fun e => by subst e; simp at hb
    simp only [hb] at hk
    simp [Act.put, hne, h.has k x hk]

/-! ### What is told of the program -/
structure TyRow where
  t : Nat
  d : TypeDesc
  sz : Nat
  by_ : Nat
  z : Value

def TyOk (P : Program) (r : TyRow) : Prop := P.underlying r.t = some r.d ∧ (P.info? r.t).map (fun i => (i.size, i.bytes, i.zero)) = some (r.sz, r.by_, some r.z)

def Callable (P : Program) (f : FuncId) : Prop := ∃ fn, P.funcs[f]? = some fn ∧ fn.body.isNone = false ∧ (fn.name == "runtime.NumGoroutine") = false

/-- A method of a type, found by its name: the receiver is the value itself. -/
structure MRow where
  t : Nat
  name : String
  f : Nat
  ptr : Bool

def ptrD : TypeDesc → Bool
  | .pointer _ => true
  | _ => false

def MOk (P : Program) (r : MRow) : Prop :=
  (P.info? r.t).bind (fun i => (i.methods.find? (·.name == r.name)).map (fun m => (m.path.isEmpty, m.func))) = some (true, some (r.f, r.ptr)) ∧ (P.underlying r.t).map ptrD = some r.ptr

/-- A struct of plain fields that can be compared by ==: the fields' kinds, in their order (0: an integer, 1: a string, 2: a bool). -/
structure ERow where
  t : Nat
  ks : List Nat

def kindD : Option TypeDesc → Nat
  | some (.int _) => 0
  | some .string => 1
  | some .bool => 2
  | _ => 1000

def fieldsB (P : Program) : Nat → List Field → List Nat → Bool
  | _, [], [] => true
  | n, f :: l, k :: ks => f.name != "_" && Nat.beq f.offset n && Nat.beq (kindD (P.underlying f.type)) k && Nat.blt k 3 && fieldsB P (n + 1) l ks
  | _, _, _ => false

def EOk (P : Program) (r : ERow) : Prop :=
  P.stoodInHeld r.t = false ∧ P.eqGuardType P.depth r.t = false ∧ (match P.underlying r.t with
    | some (.struct fs) => fieldsB P 0 fs.toList r.ks
    | _ => false) = true

structure Gx where
  P : Program
  tys : List TyRow
  fns : List Nat
  ms : List MRow := []
  eqs : List ERow := []

def AllM (P : Program) : List MRow → Prop
  | [] => True
  | r :: l => MOk P r ∧ AllM P l

def AllE (P : Program) : List ERow → Prop
  | [] => True
  | r :: l => EOk P r ∧ AllE P l

def mRowOf : List MRow → Nat → Option MRow
  | [], _ => none
  | r :: l, t => match Nat.beq r.t t with
    | true => some r
    | false => mRowOf l t

def eRowOf : List ERow → Nat → Option ERow
  | [], _ => none
  | r :: l, t => match Nat.beq r.t t with
    | true => some r
    | false => eRowOf l t

theorem mRowOf_spec {P : Program} {l : List MRow} {t : Nat} {r : MRow} (h : mRowOf l t = some r) (ha : AllM P l) : MOk P r ∧ r.t = t := by
  induction l with
  | nil => cases h
  | cons x l ih =>
    simp only [mRowOf] at h
    cases hb : Nat.beq x.t t with
    | true => simp only [hb] at h; cases h; exact ⟨ha.1, Nat.eq_of_beq_eq_true hb⟩
    | false => simp only [hb] at h; exact ih h ha.2

theorem eRowOf_spec {P : Program} {l : List ERow} {t : Nat} {r : ERow} (h : eRowOf l t = some r) (ha : AllE P l) : EOk P r ∧ r.t = t := by
  induction l with
  | nil => cases h
  | cons x l ih =>
    simp only [eRowOf] at h
    cases hb : Nat.beq x.t t with
    | true => simp only [hb] at h; cases h; exact ⟨ha.1, Nat.eq_of_beq_eq_true hb⟩
    | false => simp only [hb] at h; exact ih h ha.2

def AllTy (P : Program) : List TyRow → Prop
  | [] => True
  | r :: l => TyOk P r ∧ AllTy P l

def AllFn (P : Program) : List Nat → Prop
  | [] => True
  | f :: l => Callable P f ∧ AllFn P l

structure Gx.Ok (g : Gx) : Prop where
  tys : AllTy g.P g.tys
  fns' : AllFn g.P g.fns
  mixed : g.P.follows .mixedOrders = true
  ms : AllM g.P g.ms
  eqs : AllE g.P g.eqs

def rowOf : List TyRow → Nat → Option TyRow
  | [], _ => none
  | r :: l, t => match Nat.beq r.t t with
    | true => some r
    | false => rowOf l t

theorem rowOf_spec {l : List TyRow} {t : Nat} {r : TyRow} (h : rowOf l t = some r) : r ∈ l ∧ r.t = t := by
  induction l with
  | nil => cases h
  | cons x l ih =>
    simp only [rowOf] at h
    cases hb : Nat.beq x.t t with
    | true => simp only [hb] at h; cases h; exact ⟨by simp, Nat.eq_of_beq_eq_true hb⟩
    | false => simp only [hb] at h; have := ih h; exact ⟨by simp [this.1], this.2⟩

theorem Gx.Ok.row {g : Gx} (h : g.Ok) {t : Nat} {r : TyRow} (hr : rowOf g.tys t = some r) : g.P.underlying t = some r.d ∧ ∃ i, g.P.info? t = some i ∧ i.size = r.sz ∧ i.bytes = r.by_ ∧ i.zero = some r.z := by
  obtain ⟨hm, rfl⟩ := rowOf_spec hr
  have key : ∀ l, AllTy g.P l → r ∈ l → TyOk g.P r := by
    intro l
    induction l with
    | nil => intro _ h; cases h
    | cons x l ih => intro h hm; cases hm with
      | head => exact h.1
      | tail _ hm => exact ih h.2 hm
  obtain ⟨h1, h2⟩ := key _ h.tys hm
  refine ⟨h1, ?_⟩
  cases hi : g.P.info? r.t with
  | none => simp [hi] at h2
  | some i => simp [hi] at h2; exact ⟨i, rfl, h2.1, h2.2.1, h2.2.2⟩

theorem Gx.Ok.fns {g : Gx} (h : g.Ok) : ∀ f ∈ g.fns, Callable g.P f := by
  intro f
  have key : ∀ l, AllFn g.P l → f ∈ l → Callable g.P f := by
    intro l
    induction l with
    | nil => intro _ h; cases h
    | cons x l ih => intro h hm; cases hm with
      | head => exact h.1
      | tail _ hm => exact ih h.2 hm
  exact key _ h.fns'

def memN (n : Nat) : List Nat → Bool
  | [] => false
  | x :: l => match Nat.beq x n with
    | true => true
    | false => memN n l

theorem memN_spec {n : Nat} {l : List Nat} (h : memN n l = true) : n ∈ l := by
  induction l with
  | nil => cases h
  | cons x l ih =>
    simp only [memN] at h
    cases hb : Nat.beq x n with
    | true => have := Nat.eq_of_beq_eq_true hb; simp [this]
    | false => simp only [hb] at h; simp [ih h]

structure Cx where
  g : Gx
  N : Slots
  named : Nat
  keep : List Nat
  cuts : List Nat := []

abbrev Post := Exit → Env → World → Prop

def Up (c : Cx) (Q : Post) : Exit → Act → World → Prop := fun e a w => ∃ S, Fits c.N S a ∧ Q e S w

/-! ### The small propositions -/
@[irreducible] def WIf (b : Bool) (p q : Prop) : Prop := (b = true → p) ∧ (b = false → q)
@[irreducible] def Norm (n : Int) (K : Int → Prop) : Prop := K n
@[irreducible] def NormIf (p : Prop) (n : Int) (K : Int → Prop) : Prop := p ∧ K n
@[irreducible] def Need (p : Prop) (v : Value) (K : Value → Prop) : Prop := p ∧ K v
@[irreducible] def Load (w : World) (p : Addr) (K : Value → Prop) : Prop := ∃ v, w.cell? p = some v ∧ K v
@[irreducible] def LoadN (w : World) (p : Addr) (n : Nat) (K : List Value → Prop) : Prop := ∃ vs : List Value, vs.length = n ∧ (∀ j v, vs[j]? = some v → w.cell? (p.add j) = some v) ∧ K vs
@[irreducible] def Store (w : World) (p : Addr) (v : Value) (K : World → Prop) : Prop := (∃ u, w.cell? p = some u) ∧ w.frozen? p = false ∧ K (w.setCell p v)
/-- A new variable. -/
@[irreducible] def New (w : World) (t : TypeId) (cs : List Value) (K : Addr → World → Prop) : Prop := K ⟨w.heap.size, 0, none⟩ (w.alloc (.cells cs.toArray t))
@[irreducible] def StoreN (P : Program) (w : World) (p : Addr) (vs : List Value) (K : World → Prop) : Prop := ∃ w', (storeCells p vs).run P w = .ok () w' ∧ K w'
@[irreducible] def Named (a b : String) (K : Prop) : Prop := a = b ∧ K
@[irreducible] def Index (b : Option Addr) (n : Nat) (i : Int) (sz : Nat) (K : Addr → Prop) : Prop := ∃ a, b = some a ∧ 0 ≤ i ∧ i < n ∧ K (a.add (i.toNat * sz))
@[irreducible] def SIndex (s : ByteArray) (i : Int) (K : Int → Prop) : Prop := ∃ b, 0 ≤ i ∧ s[i.toNat]? = some b ∧ K (b.toNat : Int)
/-- A call that comes back, and what is asked behind it. -/
@[irreducible] def Fn (P : Program) (f : FuncId) (l : List Value) (w : World) (R : Value → World → Prop) : Prop := Calls P f l.toArray w fun
  | .returned v, w' => R v w'
  | _, _ => False
@[irreducible] def CallAt (P : Program) (f : FuncId) (l : List Value) (w : World) (K : Value → World → Prop) (pan : List PanicEntry → World → Prop) : Prop := Calls P f l.toArray w fun
  | .returned v, w' => K v w'
  | .panicked ch, w' => pan ch w'
  | .outgrown, _ => False
/-- A method of an interface's value of type t: l begins with the value. -/
@[irreducible] def InvokeAt (c : Cx) (nm : String) (t : Nat) (l : List Value) (w : World) (K : Value → World → Prop) (pan : List PanicEntry → World → Prop) : Prop :=
  ∃ r, mRowOf c.g.ms t = some r ∧ nm = r.name ∧ memN r.f c.g.fns = true ∧ CallAt c.g.P r.f l w K pan
@[irreducible] def AtOp (c : Cx) (o : Oper) (S : Env) (w : World) (K : Env → World → Prop) (Q : Post) : Prop :=
  ∀ a, Fits c.N S a → o.wp c.g.P a w (fun a' w' => ∃ S', Fits c.N S' a' ∧ K S' w') (Up c Q)
@[irreducible] def AtDraw (c : Cx) (id : Nat) (ops : List Oper) (S : Env) (w : World) (Q : Post) : Prop :=
  ∀ a, Fits c.N S a → (Code.region id ops.toArray true).wp c.g.P (Up c Q) a w
@[irreducible] def AtLoop (c : Cx) (x : Code) (S : Env) (w : World) (Q : Post) : Prop :=
  ∀ a, Fits c.N S a → (Code.loop x).wp c.g.P (Up c Q) a w
@[irreducible] def AtCode (c : Cx) (x : Code) (S : Env) (w : World) (Q : Post) : Prop :=
  ∀ a, Fits c.N S a → x.wp c.g.P (Up c Q) a w

/-! ### Operations that leave the world alone -/
inductive PR where
  | val (v : Value)
  | ent (e : Ent)
  | norm (k : IntKind) (n : Int)
  | normIf (p : Prop) (k : IntKind) (n : Int)
  | need (p : Prop) (v : Value)
  | no

def nth : List Value → Nat → Option Value
  | [], _ => none
  | x :: _, 0 => some x
  | _ :: l, n + 1 => nth l n

theorem nth_eq (l : List Value) (n : Nat) : nth l n = l[n]? := by
  induction l generalizing n with
  | nil => simp [nth]
  | cons x l ih => cases n <;> simp [nth, ih]

def kindNo : IntKind → Nat
  | .i8 => 0 | .i16 => 1 | .i32 => 2 | .i64 => 3 | .u8 => 4 | .u16 => 5 | .u32 => 6 | .u64 => 7

theorem kindNo_inj {a b : IntKind} (h : Nat.beq (kindNo a) (kindNo b) = true) : a = b := by
  have := Nat.eq_of_beq_eq_true h
  cases a <;> cases b <;> first | rfl | (simp [kindNo] at this)

def intBin (op : BinOp) (k : IntKind) (x y : Int) : PR :=
  match op with
  | .add => .norm k (k.wrap (x + y))
  | .sub => .norm k (k.wrap (x - y))
  | .mul => .norm k (k.wrap (x * y))
  | .quo => .normIf (y ≠ 0) k (k.wrap (x.tdiv y))
  | .rem => .normIf (y ≠ 0) k (x.tmod y)
  | .and => .norm k (k.wrap ((BitVec.ofInt k.bits x &&& BitVec.ofInt k.bits y).toNat))
  | .or => .norm k (k.wrap ((BitVec.ofInt k.bits x ||| BitVec.ofInt k.bits y).toNat))
  | .xor => .norm k (k.wrap ((BitVec.ofInt k.bits x ^^^ BitVec.ofInt k.bits y).toNat))
  | .andNot => .norm k (k.wrap ((BitVec.ofInt k.bits x &&& ~~~ BitVec.ofInt k.bits y).toNat))
  | .eql => .val (.bool (x == y))
  | .neq => .val (.bool (x != y))
  | .lss => .val (.bool (decide (x < y)))
  | .leq => .val (.bool (decide (x ≤ y)))
  | .gtr => .val (.bool (decide (x > y)))
  | .geq => .val (.bool (decide (x ≥ y)))
  | _ => .no

def binPR (op : BinOp) (k : IntKind) (x : Int) (k' : IntKind) (y : Int) : PR :=
  match op with
  | .shl => .normIf (0 ≤ y) k (k.wrap (x * 2 ^ (min y.toNat k.bits)))
  | .shr => .normIf (0 ≤ y) k (x.fdiv (2 ^ (min y.toNat k.bits)))
  | op => match Nat.beq (kindNo k) (kindNo k') with
    | true => intBin op k x y
    | false => .no

def strPR (op : BinOp) (x y : ByteArray) : PR :=
  match op with
  | .add => .need (x.size + y.size ≤ maxLen) (.string (x ++ y))
  | .eql => .val (.bool (decide (x = y)))
  | .neq => .val (.bool (!decide (x = y)))
  | .lss => .val (.bool (Op.bytesLess x.data.toList y.data.toList))
  | _ => .no

def lenPR : TypeDesc → Value → PR
  | .string, .string s => .val (.int .i64 s.size)
  | .slice _, .slice _ n _ => .val (.int .i64 n)
  | _, _ => .no

/-- The comparisons by == that need no look at memory. -/
def eqB : TypeDesc → Value → Value → Option Bool
  | .bool, .bool a, .bool b => some (a == b)
  | .slice _, .slice none _ _, .slice b _ _ => some b.isNone
  | .slice _, .slice (some _) _ _, .slice none _ _ => some false
  | .map _ _, .map none, .map b => some b.isNone
  | .map _ _, .map (some _), .map none => some false
  | .pointer _, .pointer none, .pointer b => some b.isNone
  | .pointer _, .pointer (some _), .pointer none => some false
  | .interface _, .nilIface, .iface _ _ => some false
  | .interface _, .iface _ _, .nilIface => some false
  | .func _ _ _, .nilFunc, .nilFunc => some true
  | .func _ _ _, .nilFunc, .func _ _ _ => some false
  | .func _ _ _, .func _ _ _, .nilFunc => some false
  | _, _, _ => none

def eqCells : List Nat → List Value → List Value → Option Bool
  | [], [], [] => some true
  | 0 :: ks, .int k a :: xs, .int k' b :: ys => match Nat.beq (kindNo k) (kindNo k'), eqCells ks xs ys with
    | true, some r => some (a == b && r)
    | _, _ => none
  | 1 :: ks, .string a :: xs, .string b :: ys => match eqCells ks xs ys with
    | some r => some (decide (a = b) && r)
    | none => none
  | 2 :: ks, .bool a :: xs, .bool b :: ys => match eqCells ks xs ys with
    | some r => some (a == b && r)
    | none => none
  | _, _, _ => none

def eqPR (op : BinOp) (r : Option Bool) : PR :=
  match op, r with
  | .eql, some b => .val (.bool b)
  | .neq, some b => .val (.bool (!b))
  | _, _ => .no

def nthA {α : Type} : List α → Nat → Option α
  | [], _ => none
  | x :: _, 0 => some x
  | _ :: l, n + 1 => nthA l n

def isAggD : TypeDesc → Bool
  | .struct _ => true
  | .array _ _ => true
  | _ => false

def isIfaceD : TypeDesc → Bool
  | .interface _ => true
  | _ => false

def cellsL : Value → List Value
  | .agg cs => cs.toList
  | v => [v]

/-- vs laid over the head of a list; over what lies from place n on. -/
def overL : List Value → List Value → List Value
  | [], cs => cs
  | v :: vs, _ :: cs => v :: overL vs cs
  | _ :: _, [] => []
def putL : Nat → List Value → List Value → List Value
  | 0, vs, cs => overL vs cs
  | n + 1, vs, c :: cs => c :: putL n vs cs
  | _ + 1, _, [] => []

def sizesL (g : Gx) : List Field → Option (List (Nat × Nat))
  | [] => some []
  | f :: l => match rowOf g.tys f.type, sizesL g l with
    | some r, some m => some ((f.offset, r.sz) :: m)
    | _, _ => none

def fillL (ps : Nat → Option (Nat × Nat)) : List Value → List (Nat × Value) → Option (List Value)
  | cells, [] => some cells
  | cells, (i, v) :: rest => match ps i with
    | some (off, sz) => (match Nat.beq (cellsL v).length sz, Nat.ble (off + (cellsL v).length) cells.length with
      | true, true => fillL ps (putL off (cellsL v) cells) rest
      | _, _ => none)
    | none => none

def evL (S : Env) : List Operand → Option (List Value)
  | [] => some []
  | x :: l => match S.ev x, evL S l with
    | some v, some m => some (v :: m)
    | _, _ => none
def evP (S : Env) : List (Nat × Operand) → Option (List (Nat × Value))
  | [] => some []
  | (i, x) :: l => match S.ev x, evP S l with
    | some v, some m => some ((i, v) :: m)
    | _, _ => none

/-- A bound of a slice expression: none where it is not known. -/
def boundOf (S : Env) (d : Int) : Option Operand → Option Int
  | none => some d
  | some x => match S.ev x with
    | some (.int _ n) => some n
    | _ => none

def pureOp (g : Gx) (S : Env) : Op → PR
  | .move (.const (.bool true)) | .assign (.const (.bool true)) => .ent .t
  | .move (.const (.bool false)) | .assign (.const (.bool false)) => .ent .f
  | .move (.tmp t) | .assign (.tmp t) => match S.ent t with
    | some e => .ent e
    | none => .no
  | .move x | .assign x => match S.ev x with
    | some v => .val v
    | none => .no
  | .pick (.tmp t) a b => match S.ent t with
    | some .t => (match a with
      | .const (.bool true) => .ent .t
      | .const (.bool false) => .ent .f
      | .tmp u => (match S.ent u with
        | some e => .ent e
        | none => .no)
      | a => match S.ev a with
        | some v => .val v
        | none => .no)
    | some .f => (match b with
      | .const (.bool true) => .ent .t
      | .const (.bool false) => .ent .f
      | .tmp u => (match S.ent u with
        | some e => .ent e
        | none => .no)
      | b => match S.ev b with
        | some v => .val v
        | none => .no)
    | _ => .no
  | .binOp op t x y _ => match S.ev x, S.ev y with
    | some (.int k a), some (.int k' b) => binPR op k a k' b
    | some (.string a), some (.string b) => strPR op a b
    | some (.agg a), some (.agg b) => (match eRowOf g.eqs t with
      | some r => eqPR op (eqCells r.ks a.toList b.toList)
      | none => .no)
    | some a, some b => (match rowOf g.tys t with
      | some r => eqPR op (eqB r.d a b)
      | none => .no)
    | _, _ => .no
  | .unOp .not _ (.tmp t) => match S.ent t with
    | some .t => .ent .f
    | some .f => .ent .t
    | some (.v (.bool b)) => .val (.bool (!b))
    | _ => .no
  | .unOp .neg _ x => match S.ev x with
    | some (.int k n) => .norm k (k.wrap (0 - n))
    | _ => .no
  | .convert s t x => match rowOf g.tys s, rowOf g.tys t, S.ev x with
    | some _, some ⟨_, .int k, _, _, _⟩, some (.int _ n) => .norm k (k.wrap n)
    | some _, some ⟨_, .string, _, _, _⟩, some (.string s) => .val (.string s)
    | _, _, _ => .no
  | .extract x i => match S.ev x with
    | some (.tuple vs) => (match nth vs.toList i with
      | some v => .val v
      | none => .no)
    | _ => .no
  | .call ⟨.builtin .len, xs, ts⟩ => match xs.toList, ts.toList with
    | [x], [t] => (match rowOf g.tys t, S.ev x with
      | some r, some v => lenPR r.d v
      | _, _ => .no)
    | _, _ => .no
  | .call ⟨.builtin .min, xs, _⟩ => match xs.toList with
    | [x, y] => (match S.ev x, S.ev y with
      | some (.int k a), some (.int _ b) => .norm k (if b < a then b else a)
      | _, _ => .no)
    | [x, y, z] => (match S.ev x, S.ev y, S.ev z with
      | some (.int k a), some (.int _ b), some (.int _ c) => .norm k (if c < (if b < a then b else a) then c else (if b < a then b else a))
      | _, _, _ => .no)
    | _ => .no
  | .call ⟨.builtin .max, xs, _⟩ => match xs.toList with
    | [x, y] => (match S.ev x, S.ev y with
      | some (.int k a), some (.int _ b) => .norm k (if b > a then b else a)
      | _, _ => .no)
    | _ => .no
  | .nilCheck x => match S.ev x with
    | some (.pointer (some p)) => .val (.pointer (some p))
    | some (.iface t v) => .val (.iface t v)
    | some (.func (.func n) a b) => .val (.func (.func n) a b)
    | _ => .no
  | .fieldAddr t x k => match rowOf g.tys t, S.ev x with
    | some r, some (.pointer (some p)) => (match r.d with
      | .struct fs => (match nthA fs.toList k with
        | some f => (match rowOf g.tys f.type with
          | some rf => (match Nat.beq rf.sz 0 with
            | false => .val (.pointer (some (p.add f.offset)))
            | true => .no)
          | none => .no)
        | none => .no)
      | _ => .no)
    | _, _ => .no
  | .field t x k => match rowOf g.tys t, S.ev x with
    | some r, some (.agg cs) => (match r.d with
      | .struct fs => (match nthA fs.toList k with
        | some f => (match rowOf g.tys f.type with
          | some rf => (match isAggD rf.d with
            | true => .val (.agg ((cs.toList.drop f.offset).take rf.sz).toArray)
            | false => (match nth cs.toList f.offset with
              | some v => .val v
              | none => .no))
          | none => .no)
        | none => .no)
      | _ => .no)
    | _, _ => .no
  | .build t parts => match rowOf g.tys t, evP S parts.toList with
    | some r, some ps => (match r.d with
      | .struct fs => (match sizesL g fs.toList with
        | some pl => (match fillL (nthA pl) r.z.cells.toList ps with
          | some cs => .val (.agg cs.toArray)
          | none => .no)
        | none => .no)
      | .array _ e => (match rowOf g.tys e with
        | some re => (match fillL (fun i => some (i * re.sz, re.sz)) r.z.cells.toList ps with
          | some cs => .val (.agg cs.toArray)
          | none => .no)
        | none => .no)
      | _ => .no)
    | _, _ => .no
  | .makeInterface t x => match rowOf g.tys t, S.ev x with
    | some r, some v => (match isIfaceD r.d with
      | false => .val (.iface t v)
      | true => .no)
    | _, _ => .no
  | .makeFunc f xs ys => match evL S xs.toList, evL S ys.toList with
    | some a, some b => .val (.func f a.toArray b.toArray)
    | _, _ => .no
  | .slice t x lo hi none => match rowOf g.tys t, S.ev x with
    | some ⟨_, .string, _, _, _⟩, some (.string s) => (match boundOf S 0 lo, boundOf S s.size hi with
      | some l, some h => .need (0 ≤ l ∧ l ≤ h ∧ h ≤ s.size) (.string (s.extract l.toNat h.toNat))
      | _, _ => .no)
    | _, _ => .no
  | _ => .no

/-- What a reckoning says of an operation's run. -/
def PR.Means (w : World) (r : Result Next) : PR → Prop
  | .val v => r = .ok (.value v) w
  | .ent e => r = .ok (.value e.val) w
  | .norm k n => r = .ok (.value (.int k n)) w
  | .normIf p k n => p → r = .ok (.value (.int k n)) w
  | .need p v => p → r = .ok (.value v) w
  | .no => True

section
variable {g : Gx} {S : Env} {w : World} {ρ : Operand → Value}

theorem intBin_sound (op : BinOp) (t : TypeId) (k : IntKind) (x y : Int) (h1 : op ≠ .shl) (h2 : op ≠ .shr) :
    (intBin op k x y).Means w (((binOp op t (.int k x) (.int k y)).run g.P w).andThen fun v w => .ok (.value v) w) := by
  cases op <;> first | (exact absurd rfl h1) | (exact absurd rfl h2) | skip
  all_goals simp [intBin, PR.Means, binOp, Op.intArith, Op.intBits, Op.intCmp, Op.intDiv]
  all_goals (intro h; simp [h])

theorem binPR_sound (op : BinOp) (t : TypeId) (k k' : IntKind) (x y : Int) :
    (binPR op k x k' y).Means w (((binOp op t (.int k x) (.int k' y)).run g.P w).andThen fun v w => .ok (.value v) w) := by
  unfold binPR
  split
  · intro h; simp only [binOp, Op.shift]; rw [if_neg (by omega)]; simp
  · intro h; simp only [binOp, Op.shift]; rw [if_neg (by omega)]; simp
  · rename_i h1 h2
    split
    · rename_i hk
      have := kindNo_inj hk
      subst this
      exact intBin_sound op t k x y h1 h2
    · trivial

theorem bytes_beq (a b : ByteArray) : (a.toList == b.toList) = decide (a = b) := by
  rw [Bool.eq_iff_iff]; simp [ByteArray.toList_eq]
  constructor
  · intro h; cases a; cases b; simp_all
  · intro h; rw [h]

theorem strPR_sound (op : BinOp) (t : TypeId) (x y : ByteArray) :
    (strPR op x y).Means w (((binOp op t (.string x) (.string y)).run g.P w).andThen fun v w => .ok (.value v) w) := by
  unfold strPR
  split <;> simp only [PR.Means]
  · intro h
    have : ¬ ((x.size + y.size : Nat) : Int) > IntKind.i64.max := by
      have h2 : IntKind.i64.max = 9223372036854775807 := by decide
      rw [h2]; unfold maxLen at h; omega
    simp only [binOp, Op.stringOp]; rw [if_neg this]; simp
  · simp [binOp, Op.stringOp, bytes_beq]
  · simp [binOp, Op.stringOp, bytes_beq]
  · simp [binOp, Op.stringOp, ByteArray.toList_eq]

theorem run_und (hg : g.Ok) {t : Nat} {r : TyRow} (hr : rowOf g.tys t = some r) (w : World) : (underlying t).run g.P w = .ok r.d w :=
  run_underlying (hg.row hr).1 w

theorem lenPR_sound (hg : g.Ok) {t : Nat} {r : TyRow} (hr : rowOf g.tys t = some r) (ty : TypeId) (v : Value) :
    (lenPR r.d v).Means w (((Builtin.len_ #[t] ty #[v]).run g.P w).andThen fun v w => .ok (.value v) w) := by
  have hu := run_und hg hr w
  unfold lenPR
  split <;> simp only [PR.Means]
  · rename_i h; simp [Builtin.len_, hu, h, goInt]
  · rename_i h; simp [Builtin.len_, hu, h, goInt]

theorem eqB_deep (hg : g.Ok) {t : Nat} {r : TyRow} (hr : rowOf g.tys t = some r) {x y : Value} {b : Bool} (h : eqB r.d x y = some b) (n : Nat) :
    (Op.equalIn (n + 1) t x y).run g.P w = .ok b w := by
  have hu := run_und hg hr w
  unfold eqB at h
  split at h <;> first | (simp only [Option.some.injEq] at h; subst h; rename_i hd; simp [Op.equalIn, hu, hd]; done) | cases h

theorem eqB_sound (hg : g.Ok) {t : Nat} {r : TyRow} (hr : rowOf g.tys t = some r) {x y : Value} {b : Bool} (h : eqB r.d x y = some b) :
    (Op.equal t x y).run g.P w = .ok b w := eqB_deep hg hr h 9999

theorem eqGuard_of (op : BinOp) (t : TypeId) (x y : Operand) {d : TypeDesc} {a b : Value} {r : Bool} (h : eqB d a b = some r) : eqGuard op t x y a b = pure () := by
  unfold eqB at h
  split at h <;> first | (simp only [eqGuard]; split <;> rfl) | cases h

theorem eqPR_sound (hg : g.Ok) (op : BinOp) {t : Nat} {r : TyRow} (hr : rowOf g.tys t = some r) (x y : Value) :
    (eqPR op (eqB r.d x y)).Means w (((binOp op t x y).run g.P w).andThen fun v w => .ok (.value v) w) := by
  unfold eqPR
  split
  · rename_i b hb
    have h := eqB_sound (w := w) hg hr hb
    have e : binOp .eql t x y = (do pure (.bool (← Op.equal t x y))) := by
      unfold eqB at hb
      split at hb <;> first | rfl | cases hb
    simp [PR.Means, e, h]
  · rename_i b hb
    have h := eqB_sound (w := w) hg hr hb
    have e : binOp .neq t x y = (do pure (.bool (!(← Op.equal t x y)))) := by
      unfold eqB at hb
      split at hb <;> first | rfl | cases hb
    simp [PR.Means, e, h]
  · trivial

theorem isAgg_kind {P : Program} {t : TypeId} (h : kindD (P.underlying t) < 3) (w : World) : (isAgg t).run P w = .ok false w := by
  cases hu : P.underlying t with
  | none => rw [hu] at h; simp [kindD] at h
  | some d =>
    simp only [isAgg, Sem.run_bind, run_underlying hu, Result.andThen_ok]
    rw [hu] at h
    cases d <;> first | rfl | (simp [kindD] at h)

theorem part_one {P : Program} {t : TypeId} (h : kindD (P.underlying t) < 3) {cs : Array Value} {n : Nat} {v : Value} (hv : cs[n]? = some v) (w : World) : (part t cs n).run P w = .ok v w := by
  simp [part, isAgg_kind h, hv]

theorem eqCells_fields {P : Program} {xs ys : Array Value} : ∀ (fs : List Field) (ks : List Nat) (n : Nat) (xl yl : List Value) (b : Bool), fieldsB P n fs ks = true → eqCells ks xl yl = some b →
    (∀ j, xl[j]? = xs[n + j]?) → (∀ j, yl[j]? = ys[n + j]?) → ∀ (d : Nat) (w : World), (Op.eqFields (d + 1) xs ys fs).run P w = .ok b w
  | [], [], n, [], [], b, _, h, _, _, d, w => by
    simp only [eqCells, Option.some.injEq] at h
    subst h; simp [Op.eqFields]
  | [], [], _, [], _ :: _, _, _, h, _, _, _, _ => by simp [eqCells] at h
  | [], [], _, _ :: _, _, _, _, h, _, _, _, _ => by simp [eqCells] at h
  | [], _ :: _, _, _, _, _, hb, _, _, _, _, _ => by simp [fieldsB] at hb
  | _ :: _, [], _, _, _, _, hb, _, _, _, _, _ => by simp [fieldsB] at hb
  | f :: fs, k :: ks, n, xl, yl, b, hb, h, hx, hy, d, w => by
    simp only [fieldsB, Bool.and_eq_true, bne_iff_ne, ne_eq] at hb
    obtain ⟨⟨⟨⟨hnm, hoff⟩, hk⟩, hk3⟩, hrest⟩ := hb
    have hoff := Nat.eq_of_beq_eq_true hoff
    have hk := Nat.eq_of_beq_eq_true hk
    have hk3 : k < 3 := by rw [Nat.blt_eq] at hk3; exact hk3
    have hlt : kindD (P.underlying f.type) < 3 := by omega
    have step : ∀ (u v : Value) (xt yt : List Value) (e r : Bool), xl = u :: xt → yl = v :: yt → eqCells ks xt yt = some r → (Op.equalIn (d + 1) f.type u v).run P w = .ok e w →
        (Op.eqFields (d + 1) xs ys (f :: fs)).run P w = .ok (e && r) w := by
      rintro u v xt yt e r rfl rfl hr he
      have hu : xs[f.offset]? = some u := by rw [hoff]; simpa using (hx 0).symm
      have hv : ys[f.offset]? = some v := by rw [hoff]; simpa using (hy 0).symm
      have ih := eqCells_fields fs ks (n + 1) xt yt r hrest hr (fun j => by have := hx (j + 1); simpa [Nat.add_assoc, Nat.add_comm 1 j] using this) (fun j => by have := hy (j + 1); simpa [Nat.add_assoc, Nat.add_comm 1 j] using this) d w
      simp only [Op.eqFields, ne_eq, hnm, not_false_eq_true, if_true, Sem.run_bind, part_one hlt hu, part_one hlt hv, Result.andThen_ok, he]
      cases e with
      | true => simpa using ih
      | false => simp
    unfold eqCells at h
    split at h
    · simp at *
    · rename_i ks' k1 a xt k2 b2 yt hkk
      simp only [List.cons.injEq] at hkk
      obtain ⟨rfl, rfl⟩ := hkk
      split at h
      · rename_i r h1 h2
        have := kindNo_inj h1
        subst this
        simp only [Option.some.injEq] at h
        subst h
        cases hu : P.underlying f.type with
        | none => rw [hu] at hk; simp [kindD] at hk
        | some dd => rw [hu] at hk; cases dd <;> first | (exact step _ _ _ _ _ _ rfl rfl h2 (run_equalIn_int w d f.type _ _ _ _ hu)) | (simp [kindD] at hk)
      · cases h
    · rename_i ks' a xt b2 yt hkk
      simp only [List.cons.injEq] at hkk
      obtain ⟨rfl, rfl⟩ := hkk
      split at h
      · rename_i r h2
        simp only [Option.some.injEq] at h
        subst h
        cases hu : P.underlying f.type with
        | none => rw [hu] at hk; simp [kindD] at hk
        | some dd => rw [hu] at hk; cases dd <;> first | (refine step _ _ _ _ _ _ rfl rfl h2 ?_; rw [run_equalIn_string w d f.type _ _ hu, bytes_beq]; done) | (simp [kindD] at hk)
      · cases h
    · rename_i ks' a xt b2 yt hkk
      simp only [List.cons.injEq] at hkk
      obtain ⟨rfl, rfl⟩ := hkk
      split at h
      · rename_i r h2
        simp only [Option.some.injEq] at h
        subst h
        cases hu : P.underlying f.type with
        | none => rw [hu] at hk; simp [kindD] at hk
        | some dd => rw [hu] at hk; cases dd <;> first | (exact step _ _ _ _ _ _ rfl rfl h2 (run_equalIn_bool' w d f.type _ _ hu)) | (simp [kindD] at hk)
      · cases h
    · cases h

theorem eqCells_run (hg : g.Ok) {t : Nat} {r : ERow} (hr : eRowOf g.eqs t = some r) {xs ys : Array Value} {b : Bool} (h : eqCells r.ks xs.toList ys.toList = some b) (n : Nat) :
    (Op.equalIn (n + 2) t (.agg xs) (.agg ys)).run g.P w = .ok b w := by
  obtain ⟨⟨h1, _, h3⟩, rfl⟩ := eRowOf_spec hr hg.eqs
  split at h3
  · rename_i fs hu
    have hf : g.P.fieldsOf r.t = fs := by simp [Program.fieldsOf, hu]
    rw [run_equalIn_struct w (n + 1) r.t xs ys (by rw [hf]; exact hu) h1, hf]
    exact eqCells_fields fs.toList r.ks 0 _ _ b h3 h (fun j => by simp) (fun j => by simp) n w
  · cases h3

theorem eqAgg_sound (hg : g.Ok) (op : BinOp) {t : Nat} {r : ERow} (hr : eRowOf g.eqs t = some r) (x y : Operand) (xs ys : Array Value) :
    (eqPR op (eqCells r.ks xs.toList ys.toList)).Means w (((eqGuard op t x y (.agg xs) (.agg ys)).run g.P w).andThen fun _ w => ((binOp op t (.agg xs) (.agg ys)).run g.P w).andThen fun v w => .ok (.value v) w) := by
  have hgd : ∀ op, (eqGuard op t x y (.agg xs) (.agg ys)).run g.P w = .ok () w := fun op => by
    obtain ⟨⟨_, h2, _⟩, rfl⟩ := eRowOf_spec hr hg.eqs
    exact run_eqGuard_agg w op r.t x y xs ys h2
  unfold eqPR
  split
  · rename_i b hb
    have h := eqCells_run (w := w) hg hr hb 9998
    simp only [PR.Means, hgd, Result.andThen_ok, run_eql_struct]
    rw [h]; rfl
  · rename_i b hb
    have h := eqCells_run (w := w) hg hr hb 9998
    simp only [PR.Means, hgd, Result.andThen_ok, run_neq_struct]
    rw [h]; rfl
  · trivial

theorem toList1 {α : Type} {xs : Array α} {x : α} (h : xs.toList = [x]) : xs = #[x] := by
  cases xs; simp_all

theorem toList2 {α : Type} {xs : Array α} {x y : α} (h : xs.toList = [x, y]) : xs = #[x, y] := by
  cases xs; simp_all

theorem toList3 {α : Type} {xs : Array α} {x y z : α} (h : xs.toList = [x, y, z]) : xs = #[x, y, z] := by
  cases xs; simp_all

theorem nthA_eq {α : Type} (l : List α) (n : Nat) : nthA l n = l[n]? := by
  induction l generalizing n with
  | nil => simp [nthA]
  | cons x l ih => cases n <;> simp [nthA, ih]

theorem cells_toList (v : Value) : v.cells.toList = cellsL v := by cases v <;> rfl

theorem putL_set (vs : List Value) (v : Value) : ∀ (n : Nat) (l : List Value), putL (n + 1) vs (l.set n v) = putL n (v :: vs) l
  | 0, [] => rfl
  | 0, _ :: _ => rfl
  | _ + 1, [] => rfl
  | n + 1, c :: l => by
    show c :: putL (n + 1) vs (l.set n v) = c :: putL n (v :: vs) l
    rw [putL_set vs v n l]

theorem putL_nil : ∀ (n : Nat) (l : List Value), putL n [] l = l
  | 0, _ => rfl
  | _ + 1, [] => rfl
  | n + 1, c :: l => by
    show c :: putL n [] l = c :: l
    rw [putL_nil n l]

theorem foldl_putL (off : Nat) : ∀ (vs : List Value) (k : Nat) (l : List Value),
    (vs.zipIdx k).foldl (fun cs (p : Value × Nat) => cs.set (off + p.2) p.1) l = putL (off + k) vs l
  | [], _, _ => (putL_nil _ _).symm
  | v :: vs, k, l => by
    rw [List.zipIdx_cons, List.foldl_cons, foldl_putL off vs (k + 1)]
    exact putL_set vs v (off + k) l

theorem foldl_cells (off : Nat) (vs cells : Array Value) :
    (vs.zipIdx.foldl (fun cs (c, j) => cs.setIfInBounds (off + j) c) cells).toList = putL off vs.toList cells.toList := by
  have h := foldl_putL off vs.toList 0 cells.toList
  rw [Nat.add_zero] at h
  rw [← Array.foldl_toList, Array.toList_zipIdx, ← h]
  clear h
  generalize vs.toList.zipIdx 0 = l
  induction l generalizing cells with
  | nil => rfl
  | cons p l ih => simp only [List.foldl_cons]; rw [ih]; simp

theorem fillL_spec (ps : Nat → Option (Nat × Nat)) : ∀ (parts : List (Nat × Value)) (cells : Array Value) (out : List Value), fillL ps cells.toList parts = some out → Instr.fill ps cells parts = some out.toArray
  | [], cells, out, h => by
    simp only [fillL, Option.some.injEq] at h
    subst h; simp [Instr.fill]
  | (i, v) :: rest, cells, out, h => by
    simp only [fillL] at h
    split at h
    · rename_i off sz hp
      split at h
      · rename_i h1 h2
        have h1 := Nat.eq_of_beq_eq_true h1
        have h2 := Nat.le_of_ble_eq_true h2
        have e1 : v.cells.size = sz := by rw [← h1, ← cells_toList]; simp
        have e2 : off + v.cells.size ≤ cells.size := by rw [e1, ← h1]; simpa using h2
        simp only [Instr.fill, hp]
        rw [if_neg (by simp; omega)]
        refine fillL_spec ps rest _ out ?_
        rw [foldl_cells, cells_toList]; exact h
      · cases h
    · cases h

theorem sizesL_spec (hg : g.Ok) : ∀ (l : List Field) (m : List (Nat × Nat)), sizesL g l = some m →
    (l.mapM (m := Sem) fun f => Prod.mk f.offset <$> sizeOf f.type).run g.P w = .ok m w
  | [], m, h => by simp only [sizesL, Option.some.injEq] at h; subst h; simp
  | f :: l, m, h => by
    simp only [sizesL] at h
    split at h
    · rename_i r m' hr hm
      simp only [Option.some.injEq] at h
      subst h
      obtain ⟨_, i, hi, hs, _⟩ := hg.row hr
      have ih := sizesL_spec hg l m' hm
      have hz : (sizeOf f.type).run g.P w = .ok r.sz w := by simp [sizeOf, typeInfo, hi, hs]
      rw [List.mapM_cons]
      simp [hz, ih]
    · cases h

theorem evL_spec {ρ : Operand → Value} (hρ : ∀ x v, S.ev x = some v → ρ x = v) : ∀ (l : List Operand) (m : List Value), evL S l = some m → l.map ρ = m
  | [], m, h => by simp only [evL, Option.some.injEq] at h; subst h; rfl
  | x :: l, m, h => by
    simp only [evL] at h
    split at h
    · rename_i v m' hv hm
      simp only [Option.some.injEq] at h
      subst h
      rw [List.map_cons, hρ _ _ hv, evL_spec hρ l m' hm]
    · cases h
theorem evP_spec {ρ : Operand → Value} (hρ : ∀ x v, S.ev x = some v → ρ x = v) : ∀ (l : List (Nat × Operand)) (m : List (Nat × Value)), evP S l = some m → l.map (fun (i, x) => (i, ρ x)) = m
  | [], m, h => by simp only [evP, Option.some.injEq] at h; subst h; rfl
  | (i, x) :: l, m, h => by
    simp only [evP] at h
    split at h
    · rename_i v m' hv hm
      simp only [Option.some.injEq] at h
      subst h
      rw [List.map_cons, evP_spec hρ l m' hm]
      show (i, ρ x) :: m' = _
      rw [hρ _ _ hv]
    · cases h

theorem bound_run {ρ : Operand → Value} (hρ : ∀ x v, S.ev x = some v → ρ x = v) {x : Operand} {n : Int} {d : Int} (h : boundOf S d (some x) = some n) (y : Nat) (hn : 0 ≤ n ∧ n ≤ y) (code : BoundsCode) :
    (Instr.sliceBound (ρ x) y code).run g.P w = .ok n.toNat w := by
  unfold boundOf at h
  simp only at h
  split at h
  · rename_i k m hv
    simp only [Option.some.injEq] at h
    subst h
    rw [hρ _ _ hv]
    simp [Instr.sliceBound, asIntOf, hn]
  · cases h

theorem bounds_run {ρ : Operand → Value} (hρ : ∀ x v, S.ev x = some v → ρ x = v) {lo hi : Option Operand} {l h : Int} {n : Nat} (h1 : boundOf S 0 lo = some l) (h2 : boundOf S n hi = some h) (hp : 0 ≤ l ∧ l ≤ h ∧ h ≤ n) :
    (Instr.sliceBounds false n n (lo.map ρ) (hi.map ρ) none).run g.P w = .ok (l.toNat, h.toNat, n) w := by
  have e1 : ∀ x, lo = some x → ∀ y : Nat, h = (y : Int) → ∀ code, (Instr.sliceBound (ρ x) y code).run g.P w = .ok l.toNat w := fun x hx y hy code =>
    bound_run hρ (d := 0) (by rw [← hx]; exact h1) y ⟨hp.1, by omega⟩ code
  have e2 : ∀ x, hi = some x → ∀ code, (Instr.sliceBound (ρ x) n code).run g.P w = .ok h.toNat w := fun x hx code =>
    bound_run hρ (d := n) (by rw [← hx]; exact h2) n ⟨by omega, hp.2.2⟩ code
  have hn : h = ((h.toNat : Nat) : Int) := by omega
  cases lo with
  | none =>
    have : l = 0 := by simpa [boundOf] using h1.symm
    subst this
    cases hi with
    | none =>
      have : h = n := by simpa [boundOf] using h2.symm
      subst this
      simp [Instr.sliceBounds]
    | some y => simp [Instr.sliceBounds, e2 y rfl]
  | some x =>
    cases hi with
    | none =>
      have : h = n := by simpa [boundOf] using h2.symm
      subst this
      simp [Instr.sliceBounds, e1 x rfl n rfl]
    | some y => simp [Instr.sliceBounds, e2 y rfl, e1 x rfl _ hn]

theorem pureOp_sound (hg : g.Ok) (hρ : ∀ x v, S.ev x = some v → ρ x = v) (o : Oper) :
    (pureOp g S o.op).Means w ((execOp ρ o).run g.P w) := by
  obtain ⟨dst, op, ty, pos, aft, gd⟩ := o
  simp only
  have hent : ∀ t e, S.ent t = some e → ρ (.tmp t) = e.val := fun t e h => hρ _ _ (by
    simp only [Env.ev, Env.get]; rw [h]; cases e <;> rfl)
  unfold pureOp
  split
  · have := hρ (.const (.bool true)) _ rfl; simp [PR.Means, execOp, this, Ent.val]
  · have := hρ (.const (.bool true)) _ rfl; simp [PR.Means, execOp, this, Ent.val]
  · have := hρ (.const (.bool false)) _ rfl; simp [PR.Means, execOp, this, Ent.val]
  · have := hρ (.const (.bool false)) _ rfl; simp [PR.Means, execOp, this, Ent.val]
  · split
    · rename_i e h; simp [PR.Means, execOp, hent _ _ h]
    · trivial
  · split
    · rename_i e h; simp [PR.Means, execOp, hent _ _ h]
    · trivial
  · split
    · rename_i e h; simp [PR.Means, execOp, hρ _ _ h]
    · trivial
  · split
    · rename_i e h; simp [PR.Means, execOp, hρ _ _ h]
    · trivial
  · rename_i t a b
    split
    · rename_i h
      have h1 := hent _ _ h
      split
      · have := hρ (.const (.bool true)) _ rfl; simp [PR.Means, execOp, h1, this, Ent.val, asBool]
      · have := hρ (.const (.bool false)) _ rfl; simp [PR.Means, execOp, h1, this, Ent.val, asBool]
      · split
        · rename_i h2; simp [PR.Means, execOp, h1, hent _ _ h2, Ent.val, asBool]
        · trivial
      · split
        · rename_i h2; simp [PR.Means, execOp, h1, hρ _ _ h2, Ent.val, asBool]
        · trivial
    · rename_i h
      have h1 := hent _ _ h
      split
      · have := hρ (.const (.bool true)) _ rfl; simp [PR.Means, execOp, h1, this, Ent.val, asBool]
      · have := hρ (.const (.bool false)) _ rfl; simp [PR.Means, execOp, h1, this, Ent.val, asBool]
      · split
        · rename_i h2; simp [PR.Means, execOp, h1, hent _ _ h2, Ent.val, asBool]
        · trivial
      · split
        · rename_i h2; simp [PR.Means, execOp, h1, hρ _ _ h2, Ent.val, asBool]
        · trivial
    · trivial
  · split
    · rename_i hx hy
      have := binPR_sound (g := g) (w := w)
      simp only [execOp, hρ _ _ hx, hρ _ _ hy, eqGuard]
      split <;> simpa using this _ _ _ _ _ _
    · rename_i hx hy
      have := strPR_sound (g := g) (w := w)
      simp only [execOp, hρ _ _ hx, hρ _ _ hy, eqGuard]
      split <;> simpa using this _ _ _ _
    · rename_i op t x y _ _ _ a b hx hy
      cases hr : eRowOf g.eqs t with
      | none => trivial
      | some r =>
        have := eqAgg_sound (w := w) hg op hr x y a b
        simp only [execOp, hρ _ _ hx, hρ _ _ hy]
        simpa using this
    · rename_i op t x y _ _ _ a b _ _ _ hx hy
      cases hr : rowOf g.tys t with
      | none => trivial
      | some r =>
        have := eqPR_sound (w := w) hg op hr a b
        generalize ho : eqB r.d a b = o at this
        simp only [ho]
        cases o with
        | none => unfold eqPR; split <;> first | trivial | (rename_i hn; cases hn)
        | some q =>
          simp only [execOp, hρ _ _ hx, hρ _ _ hy, eqGuard_of op t x y ho]
          simpa using this
    · trivial
  · split
    · rename_i h; simp [PR.Means, execOp, hent _ _ h, Ent.val, Op.unary]
    · rename_i h; simp [PR.Means, execOp, hent _ _ h, Ent.val, Op.unary]
    · rename_i h; simp [PR.Means, execOp, hent _ _ h, Ent.val, Op.unary]
    · trivial
  · split
    · rename_i h; simp [PR.Means, execOp, hρ _ _ h, Op.unary, Op.intArith]
    · trivial
  · split
    · rename_i hs ht hx
      simp only [PR.Means, execOp, hρ _ _ hx, convert]
      simp [run_und hg hs, run_und hg ht, Conv.intToInt]
    · rename_i hs ht hx
      simp only [PR.Means, execOp, hρ _ _ hx, convert]
      simp [run_und hg hs, run_und hg ht]
    · trivial
  · split
    · rename_i vs hx
      split
      · rename_i v hv
        rw [nth_eq, Array.getElem?_toList] at hv
        simp [PR.Means, execOp, hρ _ _ hx, Instr.extract, hv]
      · trivial
    · trivial
  · split
    · rename_i x t hxs hts
      have h1 := toList1 hxs
      have h2 := toList1 hts
      subst h1 h2
      split
      · rename_i r v hr hv
        have := lenPR_sound (w := w) hg hr ty v
        simpa [execOp, resolve, invoke, builtin, hρ _ _ hv] using this
      · trivial
    · trivial
  · split
    · rename_i x y hxs
      have h1 := toList2 hxs
      subst h1
      split
      · rename_i hx hy
        simp [PR.Means, execOp, resolve, invoke, builtin, hρ _ _ hx, hρ _ _ hy, Builtin.min_, Builtin.min2]
      · trivial
    · rename_i x y z hxs
      have h1 := toList3 hxs
      subst h1
      split
      · rename_i hx hy hz
        simp [PR.Means, execOp, resolve, invoke, builtin, hρ _ _ hx, hρ _ _ hy, hρ _ _ hz, Builtin.min_, Builtin.min2]
      · trivial
    · trivial
  · split
    · rename_i x y hxs
      have h1 := toList2 hxs
      subst h1
      split
      · rename_i hx hy
        simp [PR.Means, execOp, resolve, invoke, builtin, hρ _ _ hx, hρ _ _ hy, Builtin.max_, Builtin.max2]
      · trivial
    · trivial
  · split
    · rename_i h; simp [PR.Means, execOp, hρ _ _ h]
    · rename_i h; simp [PR.Means, execOp, hρ _ _ h]
    · rename_i h; simp [PR.Means, execOp, hρ _ _ h]
    · trivial
  · rename_i t x k
    split
    · rename_i hr hx
      split
      · rename_i fs hd
        split
        · rename_i f hf
          split
          · rename_i rf hrf
            split
            · rename_i hz
              have hu := run_und hg hr w
              rw [hd] at hu
              obtain ⟨_, i, hi, hs, _⟩ := hg.row hrf
              have hz' : i.size ≠ 0 := by rw [hs]; exact Nat.ne_of_beq_eq_false hz
              rw [nthA_eq] at hf
              have hf' : fs[k]? = some f := by simpa using hf
              simp [PR.Means, execOp, hρ _ _ hx, Instr.fieldAt, hu, hf', Instr.sureAddr, fieldPlace, sizeOf, typeInfo, hi, hz']
            · trivial
          · trivial
        · trivial
      · trivial
    · trivial
  · rename_i t x k
    split
    · rename_i cs hr hx
      split
      · rename_i fs hd
        split
        · rename_i f hf
          have hu := run_und hg hr w
          rw [hd] at hu
          rw [nthA_eq] at hf
          have hf' : fs[k]? = some f := by simpa using hf
          split
          · rename_i rf hrf
            have hu2 := run_und hg hrf w
            obtain ⟨_, i, hi, hs, _⟩ := hg.row hrf
            have ha : (isAgg f.type).run g.P w = .ok (isAggD rf.d) w := by
              simp only [isAgg, Sem.run_bind, hu2, Result.andThen_ok]
              cases rf.d <;> rfl
            split
            · rename_i hag
              simp [PR.Means, execOp, hρ _ _ hx, Instr.field, hu, hf', asAgg, part, ha, hag, sizeOf, typeInfo, hi, hs]
              apply Array.ext'
              simp [List.take_drop]
            · rename_i hag
              split
              · rename_i v hv
                rw [nth_eq] at hv
                have hv' : cs[f.offset]? = some v := by simpa using hv
                simp [PR.Means, execOp, hρ _ _ hx, Instr.field, hu, hf', asAgg, part, ha, hag, hv']
              · trivial
          · trivial
        · trivial
      · trivial
    · trivial
  · rename_i t parts
    split
    · rename_i r ps hr hps
      have hpm := evP_spec hρ _ _ hps
      have hu := run_und hg hr w
      obtain ⟨_, i, hi, hs, hb, hz⟩ := hg.row hr
      have hpm' : (parts.map fun (x : Nat × Operand) => (x.1, ρ x.2)).toList = ps := by rw [Array.toList_map]; exact hpm
      split
      · rename_i fs hd
        rw [hd] at hu
        split
        · rename_i pl hpl
          have hsz := sizesL_spec (w := w) hg _ _ hpl
          split
          · rename_i cs hfl
            have hfill := fillL_spec _ _ _ _ hfl
            have hmap : (fs.mapM (m := Sem) fun f => Prod.mk f.offset <$> sizeOf f.type).run g.P w = .ok pl.toArray w := by
              rw [Array.mapM_eq_mapM_toList]; simp [hsz]
            have hget : (fun i => pl[i]?) = nthA pl := by funext i; rw [nthA_eq]
            have hfill' : Instr.fill (fun i => pl[i]?) r.z.cells (parts.toList.map fun (x : Nat × Operand) => (x.1, ρ x.2)) = some cs.toArray := by
              rw [hget]; rw [show (parts.toList.map fun (x : Nat × Operand) => (x.1, ρ x.2)) = ps from hpm]; exact hfill
            simp only [PR.Means, execOp, Instr.build, zeroValue, typeInfo]
            simp [hi, hz, hu, hmap, hfill']
          · trivial
        · trivial
      · rename_i n e hd
        rw [hd] at hu
        split
        · rename_i re hre
          obtain ⟨_, i2, hi2, hs2, _⟩ := hg.row hre
          split
          · rename_i cs hfl
            have hfill := fillL_spec _ _ _ _ hfl
            have hfill' : Instr.fill (fun i => some (i * re.sz, re.sz)) r.z.cells (parts.toList.map fun (x : Nat × Operand) => (x.1, ρ x.2)) = some cs.toArray := by
              rw [show (parts.toList.map fun (x : Nat × Operand) => (x.1, ρ x.2)) = ps from hpm]; exact hfill
            simp only [PR.Means, execOp, Instr.build, zeroValue, typeInfo, sizeOf]
            simp [hi, hz, hu, hi2, hs2, hfill']
          · trivial
        · trivial
      · trivial
    · trivial
  · split
    · rename_i r v hr hx
      split
      · rename_i hd
        have hu := run_und hg hr w
        simp only [PR.Means, execOp, hρ _ _ hx, Instr.makeInterface]
        simp only [Sem.run_bind, hu, Result.andThen_ok]
        cases hk : r.d <;> rw [hk] at hd <;> first | (simp [isIfaceD] at hd; done) | simp
      · trivial
    · trivial
  · rename_i f xs ys
    split
    · rename_i a b ha hb
      have e1 := evL_spec hρ _ _ ha
      have e2 := evL_spec hρ _ _ hb
      have e1' : xs.map ρ = a.toArray := by apply Array.ext'; simpa using e1
      have e2' : ys.map ρ = b.toArray := by apply Array.ext'; simpa using e2
      simp [PR.Means, execOp, Instr.makeFunc, e1', e2']
    · trivial
  · split
    · rename_i hr hx
      split
      · rename_i l h hl hh
        intro hp
        have hb := bounds_run (g := g) (w := w) hρ hl hh hp
        have hu := run_und hg hr w
        simp only [execOp, hρ _ _ hx, Instr.sliceAt, Instr.slice]
        simp [hu, hb]
      · trivial
    · trivial
  · trivial
end

/-! ### The reckoning of a code -/
def putK (c : Cx) (S : Env) (dst : Option Tmp) (e : Ent) (K : Env → Prop) : Prop :=
  match dst with
  | none => K S
  | some d => match Nat.blt d c.N.n with
    | true => K ((d, e) :: S)
    | false => False

def revK : List Value → List Value → (List Value → Prop) → Prop
  | [], acc, K => K acc
  | x :: l, acc, K => revK l (x :: acc) K

def argsK (S : Env) : List Operand → List Value → (List Value → Prop) → Prop
  | [], acc, K => K acc
  | x :: xs, acc, K => match S.ev x with
    | some v => argsK S xs (v :: acc) K
    | none => False

def hasKey (t : Nat) : Env → Bool
  | [] => false
  | (k, _) :: S => match Nat.beq k t with
    | true => true
    | false => hasKey t S

def keepB (c : Cx) (t : Nat) : Bool := match Nat.blt t c.named with
  | true => true
  | false => memN t c.keep

def prune (p : Nat → Bool) : Env → Env → (Env → Prop) → Prop
  | [], acc, K => K acc
  | (t, x) :: S, acc, K => match p t with
    | true => (match hasKey t acc with
      | true => prune p S acc K
      | false => prune p S ((t, x) :: acc) K)
    | false => prune p S acc K

def scalar : Value → Bool
  | .agg _ => false
  | .tuple _ => false
  | _ => true

def memOp (c : Cx) (o : Oper) (S : Env) (w : World) (K : Env → World → Prop) (Q : Post) : Prop :=
  match o.op with
  | .load t x => (match rowOf c.g.tys t, S.ev x with
    | some r, some (.pointer (some p)) => (match isAggD r.d with
      | false => Load w p (fun v => putK c S o.dst (.v v) (fun S => K S w))
      | true => LoadN w p r.sz (fun vs => putK c S o.dst (.v (.agg vs.toArray)) (fun S => K S w)))
    | _, _ => AtOp c o S w K Q)
  | .store t x y => (match rowOf c.g.tys t, S.ev x, S.ev y with
    | some r, some (.pointer (some p)), some v => (match scalar v, Nat.beq r.sz 1, o.dst with
      | true, true, none => Store w p v (fun w => K S w)
      | false, _, none => (match v with
        | .agg cs => (match Nat.beq cs.toList.length r.sz with
          | true => StoreN c.g.P w p cs.toList (fun w => K S w)
          | false => AtOp c o S w K Q)
        | _ => AtOp c o S w K Q)
      | _, _, _ => AtOp c o S w K Q)
    | _, _, _ => AtOp c o S w K Q)
  | .alloc e => (match rowOf c.g.tys e with
    | some r => New w e (cellsL r.z) (fun p w => putK c S o.dst (.v (.pointer (some p))) (fun S => K S w))
    | none => AtOp c o S w K Q)
  | .box e x => (match S.ev x with
    | some v => New w e (cellsL v) (fun p w => putK c S o.dst (.v (.pointer (some p))) (fun S => K S w))
    | none => AtOp c o S w K Q)
  | .indexAddr t x i => (match rowOf c.g.tys t, S.ev x, S.ev i with
    | some ⟨_, .slice e, _, _, _⟩, some (.slice b n _), some (.int _ i) => (match rowOf c.g.tys e with
      | some r => Index b n i r.sz (fun p => putK c S o.dst (.v (.pointer (some p))) (fun S => K S w))
      | none => AtOp c o S w K Q)
    | some ⟨_, .array n e, _, _, _⟩, some (.pointer (some p)), some (.int _ i) => (match rowOf c.g.tys e with
      | some r => Index (some p) n i r.sz (fun p => putK c S o.dst (.v (.pointer (some p))) (fun S => K S w))
      | none => AtOp c o S w K Q)
    | _, _, _ => AtOp c o S w K Q)
  | .index t x i => (match rowOf c.g.tys t, S.ev x, S.ev i with
    | some ⟨_, .string, _, _, _⟩, some (.string s), some (.int _ i) => SIndex s i (fun b => putK c S o.dst (.v (.int .u8 b)) (fun S => K S w))
    | _, _, _ => AtOp c o S w K Q)
  | .call ⟨.value f, xs, _⟩ => (match S.ev f with
    | some (.func (.func n) first cap) => (match memN n c.g.fns with
      | true => revK first.toList [] (fun acc => argsK S xs.toList acc (fun acc => revK cap.toList acc (fun acc => revK acc [] (fun l =>
          CallAt c.g.P n l w (fun v w => putK c S o.dst (.v v) (fun S => K S w)) (fun ch w => Q (.panic ch) S w)))))
      | false => AtOp c o S w K Q)
    | _ => AtOp c o S w K Q)
  | .call ⟨.invoke x nm, xs, _⟩ => (match S.ev x with
    | some (.iface t v) => argsK S xs.toList [v] (fun acc => revK acc [] (fun l =>
        InvokeAt c nm t l w (fun v w => putK c S o.dst (.v v) (fun S => K S w)) (fun ch w => Q (.panic ch) S w)))
    | _ => AtOp c o S w K Q)
  | _ => AtOp c o S w K Q

def execO (c : Cx) (o : Oper) (S : Env) (w : World) (K : Env → World → Prop) (Q : Post) : Prop :=
  match pureOp c.g S o.op with
  | .val v => putK c S o.dst (.v v) (fun S => K S w)
  | .ent e => putK c S o.dst e (fun S => K S w)
  | .norm k n => Norm n (fun m => putK c S o.dst (.v (.int k m)) (fun S => K S w))
  | .normIf p k n => NormIf p n (fun m => putK c S o.dst (.v (.int k m)) (fun S => K S w))
  | .need p v => Need p v (fun v => putK c S o.dst (.v v) (fun S => K S w))
  | .no => memOp c o S w K Q

def nthO : List Oper → Nat → Option Oper
  | [], _ => none
  | x :: _, 0 => some x
  | _ :: l, n + 1 => nthO l n

def execL (c : Cx) (all : List Oper) : List Oper → Env → World → (Env → World → Prop) → Post → Prop
  | [], S, w, K, _ => prune (keepB c) S [] (fun S => K S w)
  | o :: rest, S, w, K, Q => match o.guard with
    | none => execO c o S w (fun S w => execL c all rest S w K Q) Q
    | some (j, want) => match nthO all j with
      | some oj => (match oj.dst with
        | some d => (match S.ent d with
          | some .t => (match want with
            | true => execO c o S w (fun S w => execL c all rest S w K Q) Q
            | false => putK c S o.dst (.v undef) (fun S => execL c all rest S w K Q))
          | some .f => (match want with
            | false => execO c o S w (fun S w => execL c all rest S w K Q) Q
            | true => putK c S o.dst (.v undef) (fun S => execL c all rest S w K Q))
          | some (.v (.bool b)) => (match want with
            | true => WIf b (execO c o ((d, .t) :: S) w (fun S w => execL c all rest S w K Q) Q) (putK c ((d, .f) :: S) o.dst (.v undef) (fun S => execL c all rest S w K Q))
            | false => WIf b (putK c ((d, .t) :: S) o.dst (.v undef) (fun S => execL c all rest S w K Q)) (execO c o ((d, .f) :: S) w (fun S w => execL c all rest S w K Q) Q))
          | some (.v (.tuple _)) => putK c S o.dst (.v undef) (fun S => execL c all rest S w K Q)
          | _ => False)
        | none => False)
      | none => False

def firstR : Code → Nat
  | .region id _ _ => id
  | .seq x _ => firstR x
  | .block _ x => firstR x
  | .loop x => firstR x
  | _ => 1000000

def isCut (c : Cx) : Code → Bool
  | .region _ _ _ => false
  | x => memN (firstR x) c.cuts

def exec (c : Cx) : Code → Env → World → Post → Prop
  | .skip, S, w, Q => Q .normal S w
  | .label _, S, w, Q => Q .normal S w
  | .region id ops draw, S, w, Q => (match draw with
    | false => execL c ops.toList ops.toList S w (fun S w => Q .normal S w) Q
    | true => AtDraw c id ops.toList S w Q)
  | .seq x y, S, w, Q => (match isCut c x with
    | true => AtCode c (.seq x y) S w Q
    | false => exec c x S w (fun e S w => match e with
      | .normal => exec c y S w Q
      | e => Q e S w))
  | .cond b x y, S, w, Q => (match b with
    | .tmp t => (match S.ent t with
      | some .t => exec c x S w Q
      | some .f => exec c y S w Q
      | some (.v (.bool b)) => WIf b (exec c x ((t, .t) :: S) w Q) (exec c y ((t, .f) :: S) w Q)
      | _ => False)
    | .const (.bool true) => exec c x S w Q
    | .const (.bool false) => exec c y S w Q
    | _ => False)
  | .block id x, S, w, Q => exec c x S w (fun e S w => match e with
    | .exit i => (match Nat.beq i id with
      | true => Q .normal S w
      | false => Q (.exit i) S w)
    | e => Q e S w)
  | .loop x, S, w, Q => AtLoop c x S w Q
  | .exit id, S, w, Q => Q (.exit id) S w
  | .ret, S, w, Q => Q .ret S w
  | x, S, w, Q => AtCode c x S w Q

/-! ### It is the code's own -/
section
variable {c : Cx} {a : Act} {S : Env} {w : World} {K : Env → World → Prop} {Q : Post}

theorem putK_sound {dst : Option Tmp} {e : Ent} {K : Env → Prop} (h : putK c S dst e K) (hf : Fits c.N S a) :
    ∃ S', Fits c.N S' (a.put dst e.val) ∧ K S' := by
  unfold putK at h
  split at h
  · exact ⟨S, by simpa [Act.put] using hf, h⟩
  · rename_i d
    split at h
    · rename_i hd
      exact ⟨_, hf.put (by rw [Nat.blt_eq] at hd; exact hd) e, h⟩
    · exact h.elim

theorem revK_eq (l acc : List Value) (K : List Value → Prop) : revK l acc K = K (l.reverse ++ acc) := by
  induction l generalizing acc with
  | nil => simp [revK]
  | cons x l ih => simp [revK, ih]

theorem argsK_spec {xs : List Operand} {acc : List Value} {K : List Value → Prop} (h : argsK S xs acc K) (hf : Fits c.N S a) :
    K ((xs.map a.eval).reverse ++ acc) := by
  induction xs generalizing acc with
  | nil => simpa [argsK] using h
  | cons x xs ih =>
    simp only [argsK] at h
    split at h
    · rename_i v hv
      have := ih h
      simp only [List.map_cons, List.reverse_cons, List.append_assoc, List.singleton_append]
      rw [hf.ev hv]; exact this
    · exact h.elim

theorem hasKey_false {t : Nat} {S : Env} (h : hasKey t S = false) : S.ent t = none := by
  induction S with
  | nil => rfl
  | cons p S ih =>
    obtain ⟨k, x⟩ := p
    simp only [hasKey] at h
    split at h
    · cases h
    · rename_i hb; simp [Env.ent, hb, ih h]

theorem hasKey_true {t : Nat} {S : Env} (h : hasKey t S = true) : ∃ x, S.ent t = some x := by
  induction S with
  | nil => cases h
  | cons p S ih =>
    obtain ⟨k, x⟩ := p
    simp only [hasKey] at h
    split at h
    · rename_i hb; exact ⟨x, by simp [Env.ent, hb]⟩
    · rename_i hb; simp [Env.ent, hb, ih h]

theorem ent_append (S T : Env) (k : Nat) : Env.ent (S ++ T) k = (S.ent k).or (Env.ent T k) := by
  induction S with
  | nil => simp [Env.ent]
  | cons p S ih =>
    obtain ⟨t, x⟩ := p
    simp only [List.cons_append, Env.ent]
    split <;> simp [ih]

theorem prune_sound {p : Nat → Bool} {N : Slots} {a : Act} (h1 : a.tmps.size = N.n) (h2 : a.defers = N.ds) {K : Env → Prop} : ∀ (T acc : Env), (∀ k x, acc.ent k = some x → p k = true) →
    (∀ k x, p k = true → Env.ent (acc ++ T) k = some x → a.tmps[k]? = some x.val) → prune p T acc K → ∃ S', Fits N S' a ∧ K S'
  | [], acc, hp, hh, h => ⟨acc, ⟨h1, h2, fun k x hk => hh k x (hp k x hk) (by simpa using hk)⟩, h⟩
  | (t, x) :: T, acc, hp, hh, h => by
    simp only [prune] at h
    split at h
    · rename_i hpt
      split at h
      · rename_i hk
        refine prune_sound h1 h2 T acc hp (fun k y hpk hy => hh k y hpk ?_) h
        rw [ent_append] at hy ⊢
        cases hb : Nat.beq t k with
        | true =>
          have := Nat.eq_of_beq_eq_true hb
          subst this
          obtain ⟨z, hz⟩ := hasKey_true hk
          simp only [hz, Option.some_or] at hy ⊢; exact hy
        | false => simpa [Env.ent, hb] using hy
      · rename_i hk
        refine prune_sound h1 h2 T ((t, x) :: acc) (fun k y hy => ?_) (fun k y hpk hy => hh k y hpk ?_) h
        · simp only [Env.ent] at hy
          split at hy
          · rename_i hb; rw [← Nat.eq_of_beq_eq_true hb]; exact hpt
          · exact hp k y hy
        · rw [List.cons_append] at hy
          simp only [Env.ent] at hy
          rw [ent_append]
          split at hy
          · rename_i hb
            have := Nat.eq_of_beq_eq_true hb
            subst this
            rw [hasKey_false hk]
            simpa [Env.ent] using hy
          · rename_i hb
            rw [ent_append] at hy
            simpa [Env.ent, hb] using hy
    · rename_i hpt
      refine prune_sound h1 h2 T acc hp (fun k y hpk hy => hh k y hpk ?_) h
      rw [ent_append] at hy ⊢
      have hb : Nat.beq t k = false := by
        cases hb : Nat.beq t k with
        | false => rfl
        | true => have := Nat.eq_of_beq_eq_true hb; subst this; rw [hpk] at hpt; cases hpt
      simpa [Env.ent, hb] using hy

/-- The frame behind an operation, as the engine asks it. -/
abbrev Nxt (c : Cx) (K : Env → World → Prop) : Act → World → Prop := fun a' w' => ∃ S', Fits c.N S' a' ∧ K S' w'

theorem wp_value {o : Oper} {v : Value} {w' : World} {N : Act → World → Prop} {Q' : Exit → Act → World → Prop}
    (hr : (execOp a.eval o).run c.g.P w = .ok (.value v) w') (h : N (a.put o.dst v) w') : o.wp c.g.P a w N Q' := by
  unfold Oper.wp; rw [hr]; exact h

theorem pure_sound (hg : c.g.Ok) {o : Oper} (hf : Fits c.N S a) {r : PR} (hr : pureOp c.g S o.op = r) : r.Means w ((execOp a.eval o).run c.g.P w) := by
  rw [← hr]; exact pureOp_sound hg (fun x v h => hf.ev h) o

theorem run_storeVar1 {P : Program} (t : TypeId) (i : TypeInfo) (hi : P.info? t = some i) (hs : i.size = 1) (p : Addr) (v : Value) (hv : scalar v = true) (w : World) :
    (storeVar t p v).run P w = (store p v).run P w := by
  have hc : v.cells = #[v] := by cases v <;> first | rfl | (simp [scalar] at hv)
  simp [storeVar, hc, sizeOf, typeInfo, hi, hs, storeCells, Addr.add]

theorem run_isAgg (hg : c.g.Ok) {t : Nat} {r : TyRow} (hr : rowOf c.g.tys t = some r) (w : World) : (isAgg t).run c.g.P w = .ok (isAggD r.d) w := by
  simp only [isAgg, Sem.run_bind, run_und hg hr, Result.andThen_ok]
  cases r.d <;> rfl

theorem run_sizeOf (hg : c.g.Ok) {t : Nat} {r : TyRow} (hr : rowOf c.g.tys t = some r) (w : World) : (sizeOf t).run c.g.P w = .ok r.sz w := by
  obtain ⟨_, i, hi, hs, _⟩ := hg.row hr
  simp [sizeOf, typeInfo, hi, hs]

theorem run_callFunc {P : Program} {n : Nat} (hc : Callable P n) (args : Array Value) (w : World) : (callFunc n args).run P w = .ok (.enter n args) w := by
  obtain ⟨fn, h1, h2, h3⟩ := hc
  have h2' : fn.body ≠ none := fun e => by simp [e] at h2
  have h3' : fn.name ≠ "runtime.NumGoroutine" := by simpa using h3
  simp [callFunc, h1, h2', h3']

theorem run_method (hg : c.g.Ok) {t : Nat} {r : MRow} (hr : mRowOf c.g.ms t = some r) (v : Value) (n : Nat) (w : World) : (method (n + 1) t v r.name).run c.g.P w = .ok (r.f, v) w := by
  obtain ⟨⟨h1, h2⟩, rfl⟩ := mRowOf_spec hr hg.ms
  cases hi : c.g.P.info? r.t with
  | none => simp [hi] at h1
  | some i =>
    cases hm : i.methods.find? (fun m => m.name == r.name) with
    | none => simp [hi, hm] at h1
    | some m =>
      simp [hi, hm] at h1
      cases hu : c.g.P.underlying r.t with
      | none => simp [hu] at h2
      | some d =>
        simp [hu] at h2
        have hp : m.path.toList = [] := by rw [h1.1]
        cases hb : r.ptr with
        | false =>
          rw [hb] at h1 h2
          have hx : (receiverAt r.t (.val v) false (if m.path.isEmpty = true then some ((r.name.splitOn ".").getLastD r.name) else none)).run c.g.P w = .ok v w := by
            unfold receiverAt
            rw [Sem.run_bind, run_underlying hu]
            cases d <;> first | (simp [ptrD] at h2; done) | simp [Place.get]
          unfold method
          simp only [typeInfo, Sem.run_bind, run_program, Result.andThen_ok, hi, Sem.run_pure, hm, hp, follow, h1.2]
          simp only [hx, Result.andThen_ok]
        | true =>
          rw [hb] at h1 h2
          have hx : (receiverAt r.t (.val v) true (if m.path.isEmpty = true then some ((r.name.splitOn ".").getLastD r.name) else none)).run c.g.P w = .ok v w := by
            unfold receiverAt
            rw [Sem.run_bind, run_underlying hu]
            cases d <;> first | (simp [ptrD] at h2; done) | simp [Place.get]
          unfold method
          simp only [typeInfo, Sem.run_bind, run_program, Result.andThen_ok, hi, Sem.run_pure, hm, hp, follow, h1.2]
          simp only [hx, Result.andThen_ok]

theorem memOp_sound (hg : c.g.Ok) {o : Oper} (h : memOp c o S w K Q) (hf : Fits c.N S a) : o.wp c.g.P a w (Nxt c K) (Up c Q) := by
  have hAt : AtOp c o S w K Q → o.wp c.g.P a w (Nxt c K) (Up c Q) := fun h => by unfold AtOp at h; exact h a hf
  obtain ⟨dst, op, ty, pos, aft, gd⟩ := o
  unfold memOp at h
  split at h
  · rename_i t x hop
    simp only at hop; subst hop
    split at h
    · rename_i r p hr hx
      split at h
      · rename_i hd
        unfold Load at h
        obtain ⟨v, hv, hk⟩ := h
        refine wp_value (v := v) (w' := w) ?_ (putK_sound (e := .v v) hk hf)
        have := hf.ev hx
        simp [execOp, this, Instr.loadAt, Instr.sureAddr, loadVar, run_isAgg hg hr, hd, load, Sem.run, hv]
      · rename_i hd
        unfold LoadN at h
        obtain ⟨vs, hl, hv, hk⟩ := h
        refine wp_value (v := .agg vs.toArray) (w' := w) ?_ (putK_sound (e := .v (.agg vs.toArray)) hk hf)
        have := hf.ev hx
        have h2 := run_loadCells_list (P := c.g.P) (w := w) p vs hv
        rw [hl] at h2
        simp [execOp, this, Instr.loadAt, Instr.sureAddr, loadVar, run_isAgg hg hr, hd, run_sizeOf hg hr, h2]
    · exact hAt h
  · rename_i t x y hop
    simp only at hop; subst hop
    split at h
    · rename_i r p v hr hx hy
      split at h
      · rename_i hs h1 hd
        unfold Store at h
        obtain ⟨⟨u, hu⟩, hfr, hk⟩ := h
        obtain ⟨_, i, hi, hsz, _⟩ := hg.row hr
        have e1 := hf.ev hx
        have e2 := hf.ev hy
        have h1' : i.size = 1 := by rw [hsz]; exact Nat.eq_of_beq_eq_true h1
        have hst := run_storeVar1 t i hi h1' p v hs w
        simp only at hd; subst hd
        unfold Oper.wp
        have : (execOp a.eval { dst := none, op := .store t x y, type := ty, pos := pos, after := aft, guard := gd }).run c.g.P w = .ok .skip (w.setCell p v) := by
          simp [execOp, e1, e2, Instr.storeAt, Instr.sureAddr, hst, store]
          cases v <;> first | (simp [scalar] at hs; done) | simp [Sem.run, hu, hfr]
        rw [this]
        exact ⟨S, by simpa [Act.put] using hf, hk⟩
      · rename_i hs hd
        split at h
        · rename_i cs
          split at h
          · rename_i hn
            unfold StoreN at h
            obtain ⟨w', hrun, hk⟩ := h
            have hn := Nat.eq_of_beq_eq_true hn
            have e1 := hf.ev hx
            have e2 := hf.ev hy
            simp only at hd; subst hd
            unfold Oper.wp
            have : (execOp a.eval { dst := none, op := .store t x y, type := ty, pos := pos, after := aft, guard := gd }).run c.g.P w = .ok .skip w' := by
              simp only [execOp, e1, e2, Instr.storeAt, Instr.sureAddr, storeVar, Value.cells]
              simp only [Sem.run_bind, Sem.run_pure, run_sizeOf hg hr, Result.andThen_ok]
              rw [if_neg (by simpa using hn)]
              simp [hrun]
            rw [this]
            exact ⟨S, by simpa [Act.put] using hf, hk⟩
          · exact hAt h
        · exact hAt h
      · exact hAt h
    · exact hAt h
  · rename_i e hop
    simp only at hop; subst hop
    split at h
    · rename_i r hr
      obtain ⟨_, i, hi, _, _, hz⟩ := hg.row hr
      unfold New at h
      refine wp_value (v := .pointer (some ⟨w.heap.size, 0, none⟩)) (w' := w.alloc (.cells (cellsL r.z).toArray e)) ?_ (putK_sound (e := .v _) h hf)
      have hc : r.z.cells = (cellsL r.z).toArray := by rw [← cells_toList]
      simp [execOp, Instr.alloc, zeroValue, typeInfo, hi, hz, newVar, newRow, hc]
    · exact hAt h
  · rename_i e x hop
    simp only at hop; subst hop
    split at h
    · rename_i v hx
      unfold New at h
      have e1 := hf.ev hx
      refine wp_value (v := .pointer (some ⟨w.heap.size, 0, none⟩)) (w' := w.alloc (.cells (cellsL v).toArray e)) ?_ (putK_sound (e := .v _) h hf)
      have hc : v.cells = (cellsL v).toArray := by rw [← cells_toList]
      simp [execOp, e1, Instr.box, newVar, newRow, hc]
    · exact hAt h
  · rename_i t x ix hop
    simp only at hop; subst hop
    split at h
    · rename_i e b n k i hr hx hi
      split at h
      · rename_i r hre
        unfold Index at h
        obtain ⟨p, rfl, h0, h1, hk⟩ := h
        refine wp_value (v := .pointer (some (p.add (i.toNat * r.sz)))) (w' := w) ?_ (putK_sound (e := .v _) hk hf)
        have e1 := hf.ev hx
        have e2 := hf.ev hi
        simp [execOp, e1, e2, Instr.indexAt, asIntOf, run_und hg hr, run_sizeOf hg hre, h0, h1]
      · exact hAt h
    · rename_i n e p k i hr hx hi
      split at h
      · rename_i r hre
        unfold Index at h
        obtain ⟨p', hp, h0, h1, hk⟩ := h
        cases hp
        refine wp_value (v := .pointer (some (p.add (i.toNat * r.sz)))) (w' := w) ?_ (putK_sound (e := .v _) hk hf)
        have e1 := hf.ev hx
        have e2 := hf.ev hi
        simp [execOp, e1, e2, Instr.indexAt, Instr.sureAddr, asIntOf, run_und hg hr, run_sizeOf hg hre, h0, h1]
      · exact hAt h
    · exact hAt h
  · rename_i t x ix hop
    simp only at hop; subst hop
    split at h
    · rename_i s k i hr hx hi
      unfold SIndex at h
      obtain ⟨b, h0, h1, hk⟩ := h
      refine wp_value (v := .int .u8 b.toNat) (w' := w) ?_ (putK_sound (e := .v _) hk hf)
      have e1 := hf.ev hx
      have e2 := hf.ev hi
      simp [execOp, e1, e2, Instr.index, asIntOf, run_und hg hr, h0, h1]
    · exact hAt h
  · rename_i f xs ts hop
    simp only at hop; subst hop
    split at h
    · rename_i n first cap hv
      split at h
      · rename_i hm
        have hc := hg.fns n (memN_spec hm)
        rw [revK_eq] at h
        have h2 := argsK_spec h hf
        rw [revK_eq, revK_eq] at h2
        simp only [List.append_nil, List.reverse_append, List.reverse_reverse, List.append_assoc] at h2
        unfold CallAt at h2
        have e1 := hf.ev hv
        unfold Oper.wp
        have : (execOp a.eval { dst := dst, op := .call ⟨.value f, xs, ts⟩, type := ty, pos := pos, after := aft, guard := gd }).run c.g.P w =
            .ok (.enter n (first.toList ++ (List.map a.eval xs.toList ++ cap.toList)).toArray) w := by
          simp [execOp, resolve, e1, Deferred.ofValue, invoke, run_callFunc hc]
        rw [this]
        unfold Oper.upon
        refine h2.mono fun e w' he => ?_
        cases e with
        | returned v => exact putK_sound (e := .v v) he hf
        | panicked ch => exact ⟨S, hf, he⟩
        | outgrown => exact he.elim
      · exact hAt h
    · exact hAt h
  · rename_i x nm xs ts hop
    simp only at hop; subst hop
    split at h
    · rename_i t v hv
      · have h2 := argsK_spec h hf
        rw [revK_eq] at h2
        simp only [List.append_nil, List.reverse_append, List.reverse_reverse, List.reverse_cons, List.reverse_nil, List.nil_append] at h2
        unfold InvokeAt at h2
        obtain ⟨r, hr, rfl, hm, h2⟩ := h2
        · have hc := hg.fns r.f (memN_spec hm)
          unfold CallAt at h2
          have e1 := hf.ev hv
          unfold Oper.wp
          have hmt := run_method hg hr v (c.g.P.types.size + 99) w
          have : (execOp a.eval { dst := dst, op := .call ⟨.invoke x r.name, xs, ts⟩, type := ty, pos := pos, after := aft, guard := gd }).run c.g.P w =
              .ok (.enter r.f ([v] ++ List.map a.eval xs.toList).toArray) w := by
            have hex : (#[Value.iface t v] ++ Array.map a.eval xs).extract 1 (#[Value.iface t v] ++ Array.map a.eval xs).size = Array.map a.eval xs := by
              apply Array.ext'; simp
              exact List.take_of_length_le (by simp)
            have hcm : (callMethod (.iface t v) r.name (Array.map a.eval xs)).run c.g.P w = .ok (.enter r.f ([v] ++ List.map a.eval xs.toList).toArray) w := by
              simp only [callMethod, Sem.run_bind, run_program, Result.andThen_ok]
              rw [show c.g.P.types.size + Made.depth = c.g.P.types.size + 99 + 1 from rfl, hmt]
              simp [run_callFunc hc]
            simp only [execOp, resolve, e1, Sem.run_bind, Sem.run_pure, Result.andThen_ok, invoke]
            rw [hex, show (#[Value.iface t v] ++ Array.map a.eval xs)[0]? = some (Value.iface t v) from (Array.getElem?_append_left (show 0 < 1 by decide)).trans rfl]
            exact hcm
          rw [this]
          unfold Oper.upon
          refine h2.mono fun e w' he => ?_
          cases e with
          | returned v => exact putK_sound (e := .v v) he hf
          | panicked ch => exact ⟨S, hf, he⟩
          | outgrown => exact he.elim
    · exact hAt h
  · exact hAt h

theorem execO_sound (hg : c.g.Ok) {o : Oper} (h : execO c o S w K Q) (hf : Fits c.N S a) : o.wp c.g.P a w (Nxt c K) (Up c Q) := by
  unfold execO at h
  split at h
  · rename_i v hp
    have hm := pure_sound (w := w) hg hf hp
    exact wp_value hm (putK_sound (e := .v v) h hf)
  · rename_i e hp
    have hm := pure_sound (w := w) hg hf hp
    exact wp_value hm (putK_sound (e := e) h hf)
  · rename_i k n hp
    have hm := pure_sound (w := w) hg hf hp
    unfold Norm at h
    exact wp_value hm (putK_sound (e := .v (.int k n)) h hf)
  · rename_i p k n hp
    have hm := pure_sound (w := w) hg hf hp
    unfold NormIf at h
    exact wp_value (hm h.1) (putK_sound (e := .v (.int k n)) h.2 hf)
  · rename_i p v hp
    have hm := pure_sound (w := w) hg hf hp
    unfold Need at h
    exact wp_value (hm h.1) (putK_sound (e := .v v) h.2 hf)
  · exact memOp_sound hg h hf

theorem nthO_eq (l : List Oper) (n : Nat) : nthO l n = l[n]? := by
  induction l generalizing n with
  | nil => simp [nthO]
  | cons x l ih => cases n <;> simp [nthO, ih]

theorem wanted_iff {all : List Oper} {o oj : Oper} {j d : Nat} {want b : Bool} (hgd : o.guard = some (j, want)) (hj : nthO all j = some oj) (hd : oj.dst = some d) (ha : a.tmps[d]? = some (.bool b)) :
    Region.wanted o (yielded all.toArray a.tmps) = (b == want) := by
  rw [nthO_eq] at hj
  simp [Region.wanted, hgd, yielded, hj, hd, ha]

theorem unwanted {all : List Oper} {o oj : Oper} {j d : Nat} {want : Bool} {vs : Array Value} (hgd : o.guard = some (j, want)) (hj : nthO all j = some oj) (hd : oj.dst = some d) (ha : a.tmps[d]? = some (.tuple vs)) :
    Region.wanted o (yielded all.toArray a.tmps) = false := by
  rw [nthO_eq] at hj
  simp [Region.wanted, hgd, yielded, hj, hd, ha]

theorem execL_sound (hg : c.g.Ok) (all : List Oper) : ∀ (l : List Oper) (S : Env) (w : World) (a : Act), execL c all l S w K Q → Fits c.N S a →
    wpList c.g.P all.toArray (fun e a w => Exit.then (Nxt c K) (Up c Q) e a w) l a w
  | [], S, w, a, h, hf => by
    simp only [execL] at h
    exact prune_sound (p := keepB c) hf.size hf.defers S [] (fun k x hk => by simp [Env.ent] at hk) (fun k x _ hk => hf.has k x hk) h
  | o :: rest, S, w, a, h, hf => by
    have go : ∀ (S : Env), execO c o S w (fun S w => execL c all rest S w K Q) Q → Fits c.N S a → o.wp c.g.P a w (wpList c.g.P all.toArray (fun e a w => Exit.then (Nxt c K) (Up c Q) e a w) rest) (fun e a w => Exit.then (Nxt c K) (Up c Q) e a w) := fun S h hf => by
      have h1 := execO_sound hg h hf
      have h2 := Oper.wp_mono (K' := wpList c.g.P all.toArray (fun e a w => Exit.then (Nxt c K) (Up c Q) e a w) rest) (fun a' w' ⟨S', hf', hk⟩ => execL_sound hg all rest S' w' a' hk hf') h1
      unfold Oper.wp at h2 ⊢
      generalize (execOp a.eval o).run c.g.P w = r at *
      cases r with
      | ok n w' =>
        cases n <;> simp only [Oper.upon] at h2 ⊢ <;> exact h2
      | halt x w' => cases x <;> simp only [Oper.upon] at h2 ⊢ <;> exact h2
    have no : ∀ (S : Env), putK c S o.dst (.v undef) (fun S => execL c all rest S w K Q) → Fits c.N S a → wpList c.g.P all.toArray (fun e a w => Exit.then (Nxt c K) (Up c Q) e a w) rest (a.put o.dst undef) w := fun S h hf => by
      obtain ⟨S', hf', hk⟩ := putK_sound h hf
      exact execL_sound hg all rest S' w _ hk hf'
    have fit : ∀ (d : Nat) (b : Bool) (e : Ent), S.ent d = some (.v (.bool b)) → e.val = .bool b → Fits c.N ((d, e) :: S) a := fun d b e hd he => by
      refine ⟨hf.size, hf.defers, fun k x hk => ?_⟩
      simp only [Env.ent] at hk
      split at hk
      · rename_i hb
        have := Nat.eq_of_beq_eq_true hb
        subst this
        cases hk
        rw [he]
        exact hf.has _ _ hd
      · exact hf.has _ _ hk
    simp only [execL] at h
    unfold wpList
    split at h
    · rename_i hgd
      rw [if_pos (by simp [Region.wanted, hgd])]
      exact .inl (go S h hf)
    · rename_i j want hgd
      split at h
      · rename_i oj hj
        split at h
        · rename_i d hd
          split at h
          · rename_i hd'
            have hw := wanted_iff hgd hj hd (hf.has _ _ hd')
            split at h
            · rw [if_pos (by rw [hw]; rfl)]; exact .inl (go S h hf)
            · rw [if_neg (by rw [hw]; decide)]; exact no S h hf
          · rename_i hd'
            have hw := wanted_iff hgd hj hd (hf.has _ _ hd')
            split at h
            · rw [if_pos (by rw [hw]; rfl)]; exact .inl (go S h hf)
            · rw [if_neg (by rw [hw]; decide)]; exact no S h hf
          · rename_i b hd'
            have hw := wanted_iff hgd hj hd (hf.has _ _ hd')
            split at h
            · unfold WIf at h
              cases b with
              | true => rw [if_pos (by rw [hw]; rfl)]; exact .inl (go _ (h.1 rfl) (fit d true .t hd' rfl))
              | false => rw [if_neg (by rw [hw]; decide)]; exact no _ (h.2 rfl) (fit d false .f hd' rfl)
            · unfold WIf at h
              cases b with
              | true => rw [if_neg (by rw [hw]; decide)]; exact no _ (h.1 rfl) (fit d true .t hd' rfl)
              | false => rw [if_pos (by rw [hw]; rfl)]; exact .inl (go _ (h.2 rfl) (fit d false .f hd' rfl))
          · rename_i hd'
            rw [if_neg (by rw [unwanted hgd hj hd (hf.has _ _ hd')]; decide)]; exact no S h hf
          · exact h.elim
        · exact h.elim
      · exact h.elim

theorem exec_sound (hg : c.g.Ok) : ∀ (x : Code) (S : Env) (w : World) (Q : Post) (a : Act), exec c x S w Q → Fits c.N S a → x.wp c.g.P (Up c Q) a w := by
  intro x
  have hc : ∀ (x : Code) (S : Env) (w : World) (Q : Post) (a : Act), AtCode c x S w Q → Fits c.N S a → x.wp c.g.P (Up c Q) a w := fun x S w Q a h hf => by
    unfold AtCode at h; exact h a hf
  induction x with
  | skip => exact fun S w Q a h hf => wp_skip ⟨S, hf, h⟩
  | label l => exact fun S w Q a h hf => wp_label ⟨S, hf, h⟩
  | region id ops draw =>
    intro S w Q a h hf
    simp only [exec] at h
    cases draw with
    | false =>
      have h1 := execL_sound hg _ _ _ _ _ h hf
      refine wp_mono (wp_region_list ?_) (Q := fun e a w => Exit.then (Nxt c (fun S w => Q .normal S w)) (Up c Q) e a w) (fun e a w hq => ?_)
      · simpa using h1
      · cases e <;> exact hq
    | true =>
      unfold AtDraw at h
      simpa using h a hf
  | seq x y ihx ihy =>
    intro S w Q a h hf
    simp only [exec] at h
    split at h
    · exact hc _ _ _ _ _ h hf
    · refine wp_seq (wp_mono (ihx _ _ _ _ h hf) (fun e a w hq => ?_))
      obtain ⟨S', hf', hq⟩ := hq
      cases e <;> first | exact ihy _ _ _ _ hq hf' | exact ⟨S', hf', hq⟩
  | cond b x y ihx ihy =>
    intro S w Q a h hf
    simp only [exec] at h
    split at h
    · rename_i t
      split at h
      · rename_i ht
        exact wp_cond_true (by have := hf.has _ _ ht; simp [Act.eval, this, Ent.val]) (ihx _ _ _ _ h hf)
      · rename_i ht
        exact wp_cond_false (by have := hf.has _ _ ht; simp [Act.eval, this, Ent.val]) (ihy _ _ _ _ h hf)
      · rename_i b ht
        have hev : a.eval (.tmp t) = .bool b := by have := hf.has _ _ ht; simp [Act.eval, this, Ent.val]
        have fit : ∀ (e : Ent), e.val = .bool b → Fits c.N ((t, e) :: S) a := fun e he => by
          refine ⟨hf.size, hf.defers, fun k x hk => ?_⟩
          simp only [Env.ent] at hk
          split at hk
          · rename_i hb
            have := Nat.eq_of_beq_eq_true hb
            subst this
            cases hk
            rw [he]
            exact hf.has _ _ ht
          · exact hf.has _ _ hk
        unfold WIf at h
        cases b with
        | true => exact wp_cond_true hev (ihx _ _ _ _ (h.1 rfl) (fit .t rfl))
        | false => exact wp_cond_false hev (ihy _ _ _ _ (h.2 rfl) (fit .f rfl))
      · exact h.elim
    · exact wp_cond_true rfl (ihx _ _ _ _ h hf)
    · exact wp_cond_false rfl (ihy _ _ _ _ h hf)
    · exact h.elim
  | block id x ih =>
    intro S w Q a h hf
    simp only [exec] at h
    refine wp_block (wp_mono (ih _ _ _ _ h hf) (fun e a w hq => ?_))
    obtain ⟨S', hf', hq⟩ := hq
    cases e with
    | exit i =>
      simp only at hq
      simp only [Exit.inBlock]
      split at hq
      · rename_i hb; rw [if_pos (Nat.eq_of_beq_eq_true hb)]; exact ⟨S', hf', hq⟩
      · rename_i hb; rw [if_neg (fun e => by subst e; simp at hb)]; exact ⟨S', hf', hq⟩
    | normal => exact ⟨S', hf', hq⟩
    | goto l => exact ⟨S', hf', hq⟩
    | ret => exact ⟨S', hf', hq⟩
    | panic ch => exact ⟨S', hf', hq⟩
    | outgrown => exact ⟨S', hf', hq⟩
  | loop x ih => intro S w Q a h hf; simp only [exec] at h; unfold AtLoop at h; exact h a hf
  | exit id => exact fun S w Q a h hf => wp_exit ⟨S, hf, h⟩
  | ret => exact fun S w Q a h hf => wp_ret ⟨S, hf, h⟩
  | rangeFunc f ps as_ b ih1 ih2 => exact fun S w Q a h hf => hc _ _ _ _ _ h hf
  | scope x ih => exact fun S w Q a h hf => hc _ _ _ _ _ h hf
  | goto l => exact fun S w Q a h hf => hc _ _ _ _ _ h hf
  | refuse y => exact fun S w Q a h hf => hc _ _ _ _ _ h hf
end

/-! ### A function's contract -/
def envK : List Nat → List Value → Env → (Env → Prop) → Prop
  | _, [], S, K => K S
  | t :: ts, v :: vs, S, K => envK ts vs ((t, .v v) :: S) K
  | [], _ :: _, _, _ => False

def oneOf (w : World) (R : Value → World → Prop) : List Value → Prop
  | [v] => R v w
  | vs => R (.tuple vs.toArray) w

def retK (c : Cx) (S : Env) (w : World) (R : Value → World → Prop) : List ResultVar → List Value → Prop
  | [], acc => revK acc [] (fun l => oneOf w R l)
  | .tmp t :: rs, acc => (match S.get t with
    | some v => retK c S w R rs (v :: acc)
    | none => False)
  | .cell t ty :: rs, acc => (match rowOf c.g.tys ty, S.get t with
    | some r, some (.pointer (some p)) => (match isAggD r.d with
      | false => Load w p (fun v => retK c S w R rs (v :: acc))
      | true => LoadN w p r.sz (fun vs => retK c S w R rs (.agg vs.toArray :: acc)))
    | _, _ => False)

def Fin (c : Cx) (rs : List ResultVar) (R : Value → World → Prop) : Post := fun e S w => match e with
  | .normal => retK c S w R rs []
  | .ret => retK c S w R rs []
  | _ => False

def resF (tmps : Array Value) : ResultVar → Sem Value
  | .tmp t => pure (tmps.getD t undef)
  | .cell t ty => do loadVar ty (← asAddr (tmps.getD t undef))

theorem results_resF (fn : Func) (tmps : Array Value) : results fn tmps = (do
    let vs ← fn.results.mapM (resF tmps)
    pure (if h : vs.size = 1 then vs[0] else .tuple vs)) := by
  unfold results
  congr 2

theorem mapM_ret {c : Cx} (hg : c.g.Ok) {S : Env} {a : Act} {w : World} (hf : Fits c.N S a) (R : Value → World → Prop) : ∀ (rs : List ResultVar) (acc : List Value), retK c S w R rs acc →
    ∃ vs : List Value, (rs.mapM (resF a.tmps)).run c.g.P w = .ok vs w ∧ oneOf w R (acc.reverse ++ vs)
  | [], acc, h => by
    simp only [retK, revK_eq, List.append_nil] at h
    exact ⟨[], by simp, by simpa using h⟩
  | .tmp t :: rs, acc, h => by
    simp only [retK] at h
    split at h
    · rename_i v hv
      obtain ⟨vs, h1, h2⟩ := mapM_ret hg hf R rs _ h
      have := hf.get hv
      refine ⟨v :: vs, ?_, by simpa using h2⟩
      simp only [List.mapM_cons, Sem.run_bind]
      rw [show (resF a.tmps (.tmp t)).run c.g.P w = .ok v w by simp [resF, this]]
      simp only [Result.andThen_ok]
      rw [h1]
      simp
    · exact h.elim
  | .cell t ty :: rs, acc, h => by
    simp only [retK] at h
    split at h
    · rename_i r p hr hp
      have hp := hf.get hp
      split at h
      · rename_i hd
        unfold Load at h
        obtain ⟨v, hv, h⟩ := h
        obtain ⟨vs, h1, h2⟩ := mapM_ret hg hf R rs _ h
        refine ⟨v :: vs, ?_, by simpa using h2⟩
        have e1 : (do loadVar ty (← asAddr (a.tmps.getD t undef)) : Sem Value).run c.g.P w = .ok v w := by
          simp [hp, asAddr, loadVar, run_isAgg hg hr, hd, load, Sem.run, hv]
        rw [List.mapM_cons, Sem.run_bind]
        show Result.andThen ((do loadVar ty (← asAddr (a.tmps.getD t undef)) : Sem Value).run c.g.P w) _ = _
        rw [e1]
        simp only [Result.andThen_ok, Sem.run_bind]
        rw [h1]; simp
      · rename_i hd
        unfold LoadN at h
        obtain ⟨cs, hl, hv, h⟩ := h
        obtain ⟨vs, h1, h2⟩ := mapM_ret hg hf R rs _ h
        have h3 := run_loadCells_list (P := c.g.P) (w := w) p cs hv
        rw [hl] at h3
        refine ⟨.agg cs.toArray :: vs, ?_, by simpa using h2⟩
        have e1 : (do loadVar ty (← asAddr (a.tmps.getD t undef)) : Sem Value).run c.g.P w = .ok (.agg cs.toArray) w := by
          simp [hp, asAddr, loadVar, run_isAgg hg hr, hd, run_sizeOf hg hr, h3]
        rw [List.mapM_cons, Sem.run_bind]
        show Result.andThen ((do loadVar ty (← asAddr (a.tmps.getD t undef)) : Sem Value).run c.g.P w) _ = _
        rw [e1]
        simp only [Result.andThen_ok, Sem.run_bind]
        rw [h1]; simp
    · exact h.elim

theorem run_results {c : Cx} (hg : c.g.Ok) {S : Env} {a : Act} {w : World} (hf : Fits c.N S a) {R : Value → World → Prop} {fn : Func} (h : retK c S w R fn.results.toList []) :
    ∃ v, (results fn a.tmps).run c.g.P w = .ok v w ∧ R v w := by
  obtain ⟨vs, h1, h2⟩ := mapM_ret hg hf R _ _ h
  have e : fn.results = fn.results.toList.toArray := by simp
  rw [results_resF, e, List.mapM_toArray]
  simp only [Sem.run_bind, Sem.run_map]
  rw [h1]
  simp only [Result.andThen_ok, Sem.run_pure, List.size_toArray, List.nil_append, List.reverse_nil] at h2 ⊢
  match vs, h2 with
  | [], h2 => exact ⟨_, rfl, h2⟩
  | [v], h2 => exact ⟨_, rfl, h2⟩
  | v :: u :: vs, h2 => exact ⟨_, rfl, h2⟩

theorem fits_args {N : Nat} (args : List Value) (hN : args.length ≤ N) (S : Env) (hS : ∀ k x, S.ent k = some x → args[k]? = some x.val) :
    Fits ⟨N, []⟩ S { tmps := args.toArray ++ Array.replicate (N - args.toArray.size) undef, defers := [] } := by
  refine ⟨by simp; omega, rfl, fun k x hk => ?_⟩
  have h1 := hS k x hk
  have : k < args.length := (List.getElem?_eq_some_iff.1 h1).1
  rw [Array.getElem?_append_left (by simpa using this)]
  simpa using h1

theorem envK_spec {K : Env → Prop} : ∀ (ts : List Nat) (vs : List Value) (S : Env) (m : Nat) (args : List Value), (∀ j t, ts[j]? = some t → t = m + j) → args.drop m = vs → (∀ k x, S.ent k = some x → args[k]? = some x.val) →
    envK ts vs S K → ∃ S', (∀ k x, Env.ent S' k = some x → args[k]? = some x.val) ∧ K S'
  | _, [], S, _, _, _, _, hS, h => ⟨S, hS, by unfold envK at h; exact h⟩
  | [], _ :: _, _, _, _, _, _, _, h => by simp [envK] at h
  | t :: ts, v :: vs, S, m, args, ht, hd, hS, h => by
    simp only [envK] at h
    have ht0 : t = m := by have := ht 0 t rfl; omega
    subst ht0
    have hv : args[t]? = some v := by
      have := congrArg (fun l => l[0]?) hd
      simpa using this
    refine envK_spec ts vs _ (t + 1) args (fun j u hu => by have := ht (j + 1) u hu; omega) ?_ (fun k x hk => ?_) h
    · rw [← List.drop_drop, hd]; rfl
    · simp only [Env.ent] at hk
      split at hk
      · rename_i hb
        have := Nat.eq_of_beq_eq_true hb
        subst this
        cases hk
        exact hv
      · exact hS k x hk

theorem fn_of_exec {c : Cx} (hg : c.g.Ok) {f : FuncId} {fn : Func} {x : Code} {args : List Value} {w : World} {R : Value → World → Prop} (hf : c.g.P.funcs[f]? = some fn) (hb : fn.body = some x) (hN : ⟨fn.ntmps, []⟩ = c.N)
    (hl : Nat.ble args.length c.N.n = true) (h : envK [0, 1, 2, 3, 4, 5, 6, 7, 8, 9, 10, 11, 12, 13, 14, 15] args [] (fun S => exec c x S w (Fin c fn.results.toList R))) : Fn c.g.P f args w R := by
  unfold Fn
  obtain ⟨S, hS, hx⟩ := envK_spec _ args [] 0 args (fun j t ht => by
    match j, ht with
    | 0, ht | 1, ht | 2, ht | 3, ht | 4, ht | 5, ht | 6, ht | 7, ht | 8, ht | 9, ht | 10, ht | 11, ht | 12, ht | 13, ht | 14, ht | 15, ht => simp at ht; omega
    | j + 16, ht => simp at ht) (by simp) (fun k x hk => by simp [Env.ent] at hk) h
  refine calls_of_wp hf hb ?_
  have hn : fn.ntmps = c.N.n := congrArg Slots.n hN
  have hfit := fits_args (N := c.N.n) args (Nat.le_of_ble_eq_true hl) S hS
  rw [← hn, hN] at hfit
  refine wp_mono (exec_sound hg x S w _ _ hx hfit) (fun e a w' hq => ?_)
  obtain ⟨S', hf', hq⟩ := hq
  have hd' : a.defers = [] := by rw [hf'.defers, ← hN]
  cases e with
  | normal => obtain ⟨v, h1, h2⟩ := run_results hg hf' hq; exact ⟨hd', v, h1, h2⟩
  | ret => obtain ⟨v, h1, h2⟩ := run_results hg hf' hq; exact ⟨hd', v, h1, h2⟩
  | exit i => exact hq.elim
  | goto l => exact hq.elim
  | panic ch => exact hq.elim
  | outgrown => exact hq.elim

/-- A call that comes back, or panics. -/
@[irreducible] def FnP (P : Program) (f : FuncId) (l : List Value) (w : World) (R : Value → World → Prop) (pan : List PanicEntry → World → Prop) : Prop := Calls P f l.toArray w fun
  | .returned v, w' => R v w'
  | .panicked ch, w' => pan ch w'
  | .outgrown, _ => False
/-- At a function's end, where a panic may be the end. -/
def FinP (c : Cx) (rs : List ResultVar) (R : Value → World → Prop) (pan : List PanicEntry → World → Prop) : Post
  | .panic ch, _, w => pan ch w
  | e, S, w => Fin c rs R e S w
theorem fnP_of_exec {c : Cx} (hg : c.g.Ok) {f : FuncId} {fn : Func} {x : Code} {args : List Value} {w : World} {R : Value → World → Prop} {pan : List PanicEntry → World → Prop} (hf : c.g.P.funcs[f]? = some fn) (hb : fn.body = some x) (hN : ⟨fn.ntmps, []⟩ = c.N)
    (hl : Nat.ble args.length c.N.n = true) (h : envK [0, 1, 2, 3, 4, 5, 6, 7, 8, 9, 10, 11, 12, 13, 14, 15] args [] (fun S => exec c x S w (FinP c fn.results.toList R pan))) : FnP c.g.P f args w R pan := by
  unfold FnP
  obtain ⟨S, hS, hx⟩ := envK_spec _ args [] 0 args (fun j t ht => by
    match j, ht with
    | 0, ht | 1, ht | 2, ht | 3, ht | 4, ht | 5, ht | 6, ht | 7, ht | 8, ht | 9, ht | 10, ht | 11, ht | 12, ht | 13, ht | 14, ht | 15, ht => simp at ht; omega
    | j + 16, ht => simp at ht) (by simp) (fun k x hk => by simp [Env.ent] at hk) h
  refine calls_of_wp hf hb ?_
  have hn : fn.ntmps = c.N.n := congrArg Slots.n hN
  have hfit := fits_args (N := c.N.n) args (Nat.le_of_ble_eq_true hl) S hS
  rw [← hn, hN] at hfit
  refine wp_mono (exec_sound hg x S w _ _ hx hfit) (fun e a w' hq => ?_)
  obtain ⟨S', hf', hq⟩ := hq
  have hd' : a.defers = [] := by rw [hf'.defers, ← hN]
  cases e with
  | normal => obtain ⟨v, h1, h2⟩ := run_results hg hf' hq; exact ⟨hd', v, h1, h2⟩
  | ret => obtain ⟨v, h1, h2⟩ := run_results hg hf' hq; exact ⟨hd', v, h1, h2⟩
  | exit i => exact hq.elim
  | goto l => exact hq.elim
  | panic ch => exact ⟨hd', hq⟩
  | outgrown => exact hq.elim
theorem callP {P : Program} {f : FuncId} {l : List Value} {w : World} {R : Value → World → Prop} {p : List PanicEntry → World → Prop} {K : Value → World → Prop} {pan : List PanicEntry → World → Prop} (h : FnP P f l w R p) (k : ∀ v w', R v w' → K v w') (kp : ∀ ch w', p ch w' → pan ch w') : CallAt P f l w K pan := by
  unfold FnP at h; unfold CallAt
  exact Calls.mono h fun e w' he => by cases e <;> first | exact k _ _ he | exact kp _ _ he | exact he

theorem Fn.mono {P : Program} {f : FuncId} {l : List Value} {w : World} {R R' : Value → World → Prop} (h : Fn P f l w R) (hr : ∀ v w', R v w' → R' v w') : Fn P f l w R' := by
  unfold Fn at *
  exact Calls.mono h fun e w' he => by cases e <;> first | exact hr _ _ he | exact he

theorem call {P : Program} {f : FuncId} {l : List Value} {w : World} {R : Value → World → Prop} {K : Value → World → Prop} {pan : List PanicEntry → World → Prop} (h : Fn P f l w R) (k : ∀ v w', R v w' → K v w') : CallAt P f l w K pan := by
  unfold Fn at h; unfold CallAt
  exact Calls.mono h fun e w' he => by cases e <;> first | exact k _ _ he | exact he.elim

/-! ### Loops and cuts -/
def dstsL : List Oper → List Nat → List Nat
  | [], acc => acc
  | o :: l, acc => match o.dst with
    | some d => dstsL l (d :: acc)
    | none => dstsL l acc

def dstsC : Code → List Nat → List Nat
  | .region _ ops _, acc => dstsL ops.toList acc
  | .seq x y, acc => dstsC y (dstsC x acc)
  | .cond _ x y, acc => dstsC y (dstsC x acc)
  | .block _ x, acc => dstsC x acc
  | .loop x, acc => dstsC x acc
  | .scope x, acc => dstsC x acc
  | .rangeFunc _ _ x y, acc => dstsC y (dstsC x acc)
  | _, acc => acc

def stays (x : Code) (t : Nat) : Bool := match memN t (dstsC x []) with
  | true => false
  | false => true

def zipK : List Nat → List Value → Env → (Env → Prop) → Prop
  | [], [], S, K => K S
  | t :: ts, v :: vs, S, K => zipK ts vs ((t, .v v) :: S) K
  | _, _, _, _ => False

/-- Every slot of T holds in S what T says. -/
def Has (T S : Env) : Prop := T.map (fun p => S.get p.1) = T.map (fun p => some p.2.val)

theorem ent_mem {T : Env} {k : Nat} {x : Ent} (h : T.ent k = some x) : (k, x) ∈ T := by
  induction T with
  | nil => cases h
  | cons p T ih =>
    obtain ⟨t, y⟩ := p
    simp only [Env.ent] at h
    split at h
    · rename_i hb; cases h; rw [Nat.eq_of_beq_eq_true hb]; simp
    · simp [ih h]

theorem Has.fits {T S : Env} {N : Slots} {a : Act} (h : Has T S) (hf : Fits N S a) : Fits N T a := by
  refine ⟨hf.size, hf.defers, fun k x hk => ?_⟩
  have hm := ent_mem hk
  exact hf.get ((List.map_inj_left.1 h) (k, x) hm)

theorem zipK_spec {ts : List Nat} {vs : List Value} {S : Env} {K : Env → Prop} (h : zipK ts vs S K) : ∃ T, T = (ts.zip (vs.map Ent.v)).reverse ++ S ∧ K T := by
  induction ts generalizing vs S with
  | nil =>
    cases vs with
    | nil => exact ⟨S, rfl, h⟩
    | cons v vs => exact h.elim
  | cons t ts ih =>
    cases vs with
    | nil => exact h.elim
    | cons v vs =>
      obtain ⟨T, rfl, hk⟩ := ih h
      exact ⟨_, by simp, hk⟩

def pruneS (p : Nat → Bool) : Env → Env → Env
  | [], acc => acc
  | (t, x) :: S, acc => match p t with
    | true => (match hasKey t acc with
      | true => pruneS p S acc
      | false => pruneS p S ((t, x) :: acc))
    | false => pruneS p S acc

theorem prune_eq (p : Nat → Bool) (S acc : Env) (K : Env → Prop) : prune p S acc K = K (pruneS p S acc) := by
  induction S generalizing acc with
  | nil => rfl
  | cons q S ih =>
    obtain ⟨t, x⟩ := q
    simp only [prune, pruneS]
    split
    · split <;> exact ih _
    · exact ih _

section
variable {c : Cx} {S : Env} {w : World} {Q : Post} {α : Type}

theorem wp_loop' {x : Code} (J : α → Act → World → Prop) (μ : α → World → Nat) {a : Act} (s0 : α) (h0 : J s0 a w)
    (hr : ∀ s a w, J s a w → x.wp c.g.P (fun e a' w' => match e with
      | .normal => ∃ s2, J s2 a' w' ∧ μ s2 w' < μ s w
      | e => Up c Q e a' w') a w) : (Code.loop x).wp c.g.P (Up c Q) a w := by
  intro b k cs
  have key : ∀ n s a w, μ s w = n → J s a w → ∃ e a' w', Up c Q e a' w' ∧ Arrives c.g.P (lone (b.at a (.code x :: .inLoop x :: k)) cs w) b k cs e a' w' := by
    intro n
    induction n using Nat.strongRecOn with
    | _ n ih =>
      intro s a w hn hJ
      obtain ⟨e, a1, w1, hq, harr⟩ := hr s a w hJ b (.inLoop x :: k) cs
      cases e with
      | normal =>
        obtain ⟨s2, hJ2, hlt⟩ := hq
        obtain ⟨e2, a2, w2, hq2, harr2⟩ := ih (μ s2 w1) (hn ▸ hlt) s2 a1 w1 rfl hJ2
        exact ⟨e2, a2, w2, hq2, .of_steps (Steps.trans harr (.one step_inLoop)) harr2⟩
      | exit id => exact ⟨_, a1, w1, hq, .pass (x := .inLoop x) rfl (fun _ _ => .inl (by simp)) harr⟩
      | goto l => exact ⟨_, a1, w1, hq, .pass (x := .inLoop x) rfl (fun _ _ => .inl (by simp)) harr⟩
      | ret => exact ⟨_, a1, w1, hq, .pass (x := .inLoop x) rfl (fun _ _ => .inl (by simp)) harr⟩
      | panic ch => exact ⟨_, a1, w1, hq, .pass (x := .inLoop x) rfl (fun _ _ => .inl (by simp)) harr⟩
      | outgrown => exact ⟨_, a1, w1, hq, .pass (x := .inLoop x) rfl (fun _ _ => .inl (by simp)) harr⟩
  obtain ⟨e, a', w', hq, harr⟩ := key _ s0 a w rfl h0
  exact ⟨e, a', w', hq, .of_steps (.one step_loop) harr⟩

/-- What a round owes: the slots, the relation, the measure. -/
def Again (sl : List Nat) (val : α → List Value) (S0 : Env) (I : α → World → Prop) (μ : α → World → Nat) (m : Nat) (S2 : Env) (w2 : World) : Prop :=
  ∃ s2, zipK sl (val s2) S0 (fun T => Has T S2) ∧ I s2 w2 ∧ μ s2 w2 < m

theorem loop (hg : c.g.Ok) {x : Code} (sl : List Nat) (val : α → List Value) (I : α → World → Prop) (μ : α → World → Nat) (s0 : α)
    (h0 : prune (stays x) S [] (fun S0 => zipK sl (val s0) S0 (fun T => Has T S))) (hI : I s0 w)
    (hr : prune (stays x) S [] (fun S0 => ∀ s w', I s w' → zipK sl (val s) S0 (fun S1 => exec c x S1 w' (fun e S2 w2 => match e with
      | .normal => Again sl val S0 I μ (μ s w') S2 w2
      | e => Q e S2 w2)))) : AtLoop c x S w Q := by
  rw [prune_eq] at h0 hr
  unfold AtLoop
  intro a hf
  generalize pruneS (stays x) S [] = S0 at *
  have hsplit : ∀ s (K : Env → Prop), zipK sl (val s) S0 K → K ((sl.zip ((val s).map Ent.v)).reverse ++ S0) := fun s K h => by
    obtain ⟨T, rfl, hk⟩ := zipK_spec h; exact hk
  refine wp_loop' (c := c) (x := x) (Q := Q) (J := fun s a' w' => Fits c.N ((sl.zip ((val s).map Ent.v)).reverse ++ S0) a' ∧ I s w') (μ := μ) s0 ⟨(hsplit s0 _ h0).fits hf, hI⟩ ?_
  intro s a' w' ⟨hf', hI'⟩
  have h1 := exec_sound hg x _ w' _ a' (hsplit s _ (hr s w' hI')) hf'
  refine wp_mono h1 (fun e a2 w2 hq => ?_)
  obtain ⟨S2, hf2, hq⟩ := hq
  cases e with
  | normal =>
    obtain ⟨s2, hz, hI2, hm⟩ := hq
    exact ⟨s2, ⟨(hsplit s2 _ hz).fits hf2, hI2⟩, hm⟩
  | exit i => exact ⟨S2, hf2, hq⟩
  | goto l => exact ⟨S2, hf2, hq⟩
  | ret => exact ⟨S2, hf2, hq⟩
  | panic ch => exact ⟨S2, hf2, hq⟩
  | outgrown => exact ⟨S2, hf2, hq⟩

/-- The ways through x meet again ahead of y. -/
theorem cutIn (cs : List Nat) (hg : c.g.Ok) {x y : Code} (sl : List Nat) (val : α → List Value) (R : α → World → Prop)
    (hx : prune (stays x) S [] (fun S0 => exec { c with cuts := cs } x S w (fun e S2 w2 => match e with
      | .normal => ∃ s, zipK sl (val s) S0 (fun T => Has T S2) ∧ R s w2
      | e => Q e S2 w2)))
    (hy : prune (stays x) S [] (fun S0 => ∀ s w', R s w' → zipK sl (val s) S0 (fun S1 => exec c y S1 w' Q))) : AtCode c (.seq x y) S w Q := by
  rw [prune_eq] at hx hy
  unfold AtCode
  intro a hf
  generalize pruneS (stays x) S [] = S0 at *
  have hsplit : ∀ s (K : Env → Prop), zipK sl (val s) S0 K → K ((sl.zip ((val s).map Ent.v)).reverse ++ S0) := fun s K h => by
    obtain ⟨T, rfl, hk⟩ := zipK_spec h; exact hk
  refine wp_seq (wp_mono (exec_sound (c := { c with cuts := cs }) hg x S w _ a hx hf) (fun e a2 w2 hq => ?_))
  obtain ⟨S2, hf2, hq⟩ := hq
  cases e with
  | normal =>
    obtain ⟨s, hz, hR⟩ := hq
    exact exec_sound hg y _ w2 Q a2 (hsplit s _ (hy s w2 hR)) ((hsplit s _ hz).fits hf2)
  | exit i => exact ⟨S2, hf2, hq⟩
  | goto l => exact ⟨S2, hf2, hq⟩
  | ret => exact ⟨S2, hf2, hq⟩
  | panic ch => exact ⟨S2, hf2, hq⟩
  | outgrown => exact ⟨S2, hf2, hq⟩

end

/-! ### A region that draws its order, all of it quiet -/
@[irreducible] def QLoad (C : World → Prop) (p : Addr) (K : Value → Prop) : Prop := ∃ v, (∀ w, C w → w.cell? p = some v) ∧ K v
@[irreducible] def QLoadN (C : World → Prop) (p : Addr) (n : Nat) (K : List Value → Prop) : Prop := ∃ vs : List Value, vs.length = n ∧ (∀ w, C w → ∀ j v, vs[j]? = some v → w.cell? (p.add j) = some v) ∧ K vs
@[irreducible] def QCall (P : Program) (f : FuncId) (l : List Value) (C : World → Prop) (K : Value → Prop) : Prop := ∃ v, (∀ w, C w → Fn P f l w (fun u w' => u = v ∧ C w')) ∧ K v
@[irreducible] def QOp (c : Cx) (o : Oper) (S : Env) (C : World → Prop) (K : Env → Prop) : Prop := ∃ v, (∀ a w, Fits c.N S a → C w → o.quietAt c.g.P a C w v) ∧ putK c S o.dst (.v v) K

def memQ (c : Cx) (o : Oper) (S : Env) (C : World → Prop) (K : Env → Prop) : Prop :=
  match o.op with
  | .load t x => (match rowOf c.g.tys t, S.ev x with
    | some r, some (.pointer (some p)) => (match isAggD r.d with
      | false => QLoad C p (fun v => putK c S o.dst (.v v) K)
      | true => QLoadN C p r.sz (fun vs => putK c S o.dst (.v (.agg vs.toArray)) K))
    | _, _ => QOp c o S C K)
  | .indexAddr t x i => (match rowOf c.g.tys t, S.ev x, S.ev i with
    | some ⟨_, .slice e, _, _, _⟩, some (.slice b n _), some (.int _ i) => (match rowOf c.g.tys e with
      | some r => Index b n i r.sz (fun p => putK c S o.dst (.v (.pointer (some p))) K)
      | none => QOp c o S C K)
    | _, _, _ => QOp c o S C K)
  | .index t x i => (match rowOf c.g.tys t, S.ev x, S.ev i with
    | some ⟨_, .string, _, _, _⟩, some (.string s), some (.int _ i) => SIndex s i (fun b => putK c S o.dst (.v (.int .u8 b)) K)
    | _, _, _ => QOp c o S C K)
  | .call ⟨.value f, xs, _⟩ => (match S.ev f with
    | some (.func (.func n) first cap) => (match memN n c.g.fns with
      | true => revK first.toList [] (fun acc => argsK S xs.toList acc (fun acc => revK cap.toList acc (fun acc => revK acc [] (fun l =>
          QCall c.g.P n l C (fun v => putK c S o.dst (.v v) K)))))
      | false => QOp c o S C K)
    | _ => QOp c o S C K)
  | _ => QOp c o S C K

def execQO (c : Cx) (o : Oper) (S : Env) (C : World → Prop) (K : Env → Prop) : Prop :=
  match pureOp c.g S o.op with
  | .val v => putK c S o.dst (.v v) K
  | .ent e => putK c S o.dst e K
  | .norm k n => Norm n (fun m => putK c S o.dst (.v (.int k m)) K)
  | .normIf p k n => NormIf p n (fun m => putK c S o.dst (.v (.int k m)) K)
  | .need p v => Need p v (fun v => putK c S o.dst (.v v) K)
  | .no => memQ c o S C K

def execQL (c : Cx) (all : List Oper) : List Oper → Env → (World → Prop) → (Env → Prop) → Prop
  | [], S, _, K => prune (keepB c) S [] K
  | o :: rest, S, C, K => match o.guard with
    | none => execQO c o S C (fun S => execQL c all rest S C K)
    | some (j, want) => match nthO all j with
      | some oj => (match oj.dst with
        | some d => (match S.ent d with
          | some .t => (match want with
            | true => execQO c o S C (fun S => execQL c all rest S C K)
            | false => putK c S o.dst (.v undef) (fun S => execQL c all rest S C K))
          | some .f => (match want with
            | false => execQO c o S C (fun S => execQL c all rest S C K)
            | true => putK c S o.dst (.v undef) (fun S => execQL c all rest S C K))
          | some (.v (.bool b)) => (match want with
            | true => WIf b (execQO c o ((d, .t) :: S) C (fun S => execQL c all rest S C K)) (putK c ((d, .f) :: S) o.dst (.v undef) (fun S => execQL c all rest S C K))
            | false => WIf b (putK c ((d, .t) :: S) o.dst (.v undef) (fun S => execQL c all rest S C K)) (execQO c o ((d, .f) :: S) C (fun S => execQL c all rest S C K)))
          | some (.v (.tuple _)) => putK c S o.dst (.v undef) (fun S => execQL c all rest S C K)
          | _ => False)
        | none => False)
      | none => False

section
variable {c : Cx} {a : Act} {S : Env} {C : World → Prop} {K : Env → Prop}

abbrev NxtQ (c : Cx) (K : Env → Prop) : Act → Prop := fun a' => ∃ S', Fits c.N S' a' ∧ K S'

theorem quiet_value {o : Oper} {v : Value} {N : Act → Prop} (hr : ∀ w, (execOp a.eval o).run c.g.P w = .ok (.value v) w) (h : N (a.put o.dst v)) : o.quiet c.g.P a C N :=
  ⟨v, fun w _ => by unfold Oper.quietAt; rw [hr w]; exact ⟨rfl, rfl⟩, h⟩

theorem quiet_value' {o : Oper} {v : Value} {N : Act → Prop} (hr : ∀ w, C w → (execOp a.eval o).run c.g.P w = .ok (.value v) w) (h : N (a.put o.dst v)) : o.quiet c.g.P a C N :=
  ⟨v, fun w hw => by unfold Oper.quietAt; rw [hr w hw]; exact ⟨rfl, rfl⟩, h⟩

theorem memQ_sound (hg : c.g.Ok) {o : Oper} (h : memQ c o S C K) (hf : Fits c.N S a) : o.quiet c.g.P a C (NxtQ c K) := by
  have hAt : QOp c o S C K → o.quiet c.g.P a C (NxtQ c K) := fun h => by
    unfold QOp at h
    obtain ⟨v, h1, h2⟩ := h
    exact ⟨v, fun w hw => h1 a w hf hw, putK_sound (e := .v v) h2 hf⟩
  obtain ⟨dst, op, ty, pos, aft, gd⟩ := o
  unfold memQ at h
  split at h
  · rename_i t x hop
    simp only at hop; subst hop
    split at h
    · rename_i r p hr hx
      have e1 := hf.ev hx
      split at h
      · rename_i hd
        unfold QLoad at h
        obtain ⟨v, hv, hk⟩ := h
        refine quiet_value' (v := v) (fun w hw => ?_) (putK_sound (e := .v v) hk hf)
        simp [execOp, e1, Instr.loadAt, Instr.sureAddr, loadVar, run_isAgg hg hr, hd, load, Sem.run, hv w hw]
      · rename_i hd
        unfold QLoadN at h
        obtain ⟨vs, hl, hv, hk⟩ := h
        refine quiet_value' (v := .agg vs.toArray) (fun w hw => ?_) (putK_sound (e := .v (.agg vs.toArray)) hk hf)
        have h2 := run_loadCells_list (P := c.g.P) (w := w) p vs (hv w hw)
        rw [hl] at h2
        simp [execOp, e1, Instr.loadAt, Instr.sureAddr, loadVar, run_isAgg hg hr, hd, run_sizeOf hg hr, h2]
    · exact hAt h
  · rename_i t x ix hop
    simp only at hop; subst hop
    split at h
    · rename_i e b n k i hr hx hi
      split at h
      · rename_i r hre
        unfold Index at h
        obtain ⟨p, rfl, h0, h1, hk⟩ := h
        have e1 := hf.ev hx
        have e2 := hf.ev hi
        refine quiet_value (v := .pointer (some (p.add (i.toNat * r.sz)))) (fun w => ?_) (putK_sound (e := .v _) hk hf)
        simp [execOp, e1, e2, Instr.indexAt, asIntOf, run_und hg hr, run_sizeOf hg hre, h0, h1]
      · exact hAt h
    · exact hAt h
  · rename_i t x ix hop
    simp only at hop; subst hop
    split at h
    · rename_i s k i hr hx hi
      unfold SIndex at h
      obtain ⟨b, h0, h1, hk⟩ := h
      have e1 := hf.ev hx
      have e2 := hf.ev hi
      refine quiet_value (v := .int .u8 b.toNat) (fun w => ?_) (putK_sound (e := .v _) hk hf)
      simp [execOp, e1, e2, Instr.index, asIntOf, run_und hg hr, h0, h1]
    · exact hAt h
  · rename_i f xs ts hop
    simp only at hop; subst hop
    split at h
    · rename_i n first cap hv
      split at h
      · rename_i hm
        have hc := hg.fns n (memN_spec hm)
        rw [revK_eq] at h
        have h2 := argsK_spec h hf
        rw [revK_eq, revK_eq] at h2
        simp only [List.append_nil, List.reverse_append, List.reverse_reverse, List.append_assoc] at h2
        unfold QCall at h2
        obtain ⟨v, h3, hk⟩ := h2
        have e1 := hf.ev hv
        refine ⟨v, fun w hw => ?_, putK_sound (e := .v v) hk hf⟩
        unfold Oper.quietAt
        have : (execOp a.eval { dst := dst, op := .call ⟨.value f, xs, ts⟩, type := ty, pos := pos, after := aft, guard := gd }).run c.g.P w =
            .ok (.enter n (first.toList ++ (List.map a.eval xs.toList ++ cap.toList)).toArray) w := by
          simp [execOp, resolve, e1, Deferred.ofValue, invoke, run_callFunc hc]
        rw [this]
        refine ⟨rfl, ?_⟩
        have h4 := h3 w hw
        unfold Fn at h4
        refine h4.mono fun e w' he => ?_
        cases e with
        | returned u => exact ⟨by rw [he.1], he.2⟩
        | panicked ch => exact he.elim
        | outgrown => exact he.elim
      · exact hAt h
    · exact hAt h
  · exact hAt h

theorem execQO_sound (hg : c.g.Ok) {o : Oper} (h : execQO c o S C K) (hf : Fits c.N S a) : o.quiet c.g.P a C (NxtQ c K) := by
  unfold execQO at h
  split at h
  · rename_i v hp
    exact quiet_value (fun w => pure_sound (w := w) hg hf hp) (putK_sound (e := .v v) h hf)
  · rename_i e hp
    exact quiet_value (fun w => pure_sound (w := w) hg hf hp) (putK_sound (e := e) h hf)
  · rename_i k n hp
    unfold Norm at h
    exact quiet_value (fun w => pure_sound (w := w) hg hf hp) (putK_sound (e := .v (.int k n)) h hf)
  · rename_i p k n hp
    unfold NormIf at h
    exact quiet_value (fun w => pure_sound (w := w) hg hf hp h.1) (putK_sound (e := .v (.int k n)) h.2 hf)
  · rename_i p v hp
    unfold Need at h
    exact quiet_value (fun w => pure_sound (w := w) hg hf hp h.1) (putK_sound (e := .v v) h.2 hf)
  · exact memQ_sound hg h hf

theorem execQL_sound (hg : c.g.Ok) (all : List Oper) : ∀ (l : List Oper) (S : Env) (a : Act), execQL c all l S C K → Fits c.N S a → wpQuiet c.g.P all.toArray C (NxtQ c K) l a
  | [], S, a, h, hf => by
    simp only [execQL] at h
    exact prune_sound (p := keepB c) hf.size hf.defers S [] (fun k x hk => by simp [Env.ent] at hk) (fun k x _ hk => hf.has k x hk) h
  | o :: rest, S, a, h, hf => by
    have go : ∀ (S : Env), execQO c o S C (fun S => execQL c all rest S C K) → Fits c.N S a → o.quiet c.g.P a C (wpQuiet c.g.P all.toArray C (NxtQ c K) rest) := fun S h hf =>
      Oper.quiet_mono (fun a' ⟨S', hf', hk⟩ => execQL_sound hg all rest S' a' hk hf') (execQO_sound hg h hf)
    have no : ∀ (S : Env), putK c S o.dst (.v undef) (fun S => execQL c all rest S C K) → Fits c.N S a → wpQuiet c.g.P all.toArray C (NxtQ c K) rest (a.put o.dst undef) := fun S h hf => by
      obtain ⟨S', hf', hk⟩ := putK_sound h hf
      exact execQL_sound hg all rest S' _ hk hf'
    have fit : ∀ (d : Nat) (b : Bool) (e : Ent), S.ent d = some (.v (.bool b)) → e.val = .bool b → Fits c.N ((d, e) :: S) a := fun d b e hd he => by
      refine ⟨hf.size, hf.defers, fun k x hk => ?_⟩
      simp only [Env.ent] at hk
      split at hk
      · rename_i hb
        have := Nat.eq_of_beq_eq_true hb
        subst this
        cases hk
        rw [he]
        exact hf.has _ _ hd
      · exact hf.has _ _ hk
    simp only [execQL] at h
    unfold wpQuiet
    split at h
    · rename_i hgd
      rw [if_pos (by simp [Region.wanted, hgd])]
      exact go S h hf
    · rename_i j want hgd
      split at h
      · rename_i oj hj
        split at h
        · rename_i d hd
          split at h
          · rename_i hd'
            have hw := wanted_iff hgd hj hd (hf.has _ _ hd')
            split at h
            · rw [if_pos (by rw [hw]; rfl)]; exact go S h hf
            · rw [if_neg (by rw [hw]; decide)]; exact no S h hf
          · rename_i hd'
            have hw := wanted_iff hgd hj hd (hf.has _ _ hd')
            split at h
            · rw [if_pos (by rw [hw]; rfl)]; exact go S h hf
            · rw [if_neg (by rw [hw]; decide)]; exact no S h hf
          · rename_i b hd'
            have hw := wanted_iff hgd hj hd (hf.has _ _ hd')
            split at h
            · unfold WIf at h
              cases b with
              | true => rw [if_pos (by rw [hw]; rfl)]; exact go _ (h.1 rfl) (fit d true .t hd' rfl)
              | false => rw [if_neg (by rw [hw]; decide)]; exact no _ (h.2 rfl) (fit d false .f hd' rfl)
            · unfold WIf at h
              cases b with
              | true => rw [if_neg (by rw [hw]; decide)]; exact no _ (h.1 rfl) (fit d true .t hd' rfl)
              | false => rw [if_pos (by rw [hw]; rfl)]; exact go _ (h.2 rfl) (fit d false .f hd' rfl)
          · rename_i hd'
            rw [if_neg (by rw [unwanted hgd hj hd (hf.has _ _ hd')]; decide)]; exact no S h hf
          · exact h.elim
        · exact h.elim
      · exact h.elim
end

theorem wpQuiet_mono' {P : Program} {ops : Array Oper} {C : World → Prop} {Q Q' : Act → Prop} (h : ∀ a, Q a → Q' a) : ∀ {l : List Oper} {a : Act}, wpQuiet P ops C Q l a → wpQuiet P ops C Q' l a
  | [], a, hh => h a hh
  | o :: l, a, hh => by
    unfold wpQuiet at *
    split
    · rename_i hw; rw [if_pos hw] at hh; exact Oper.quiet_mono (fun a' h' => wpQuiet_mono' h h') hh
    · rename_i hw; rw [if_neg hw] at hh; exact wpQuiet_mono' h hh

theorem draw_in {c : Cx} (hg : c.g.Ok) {id : Nat} {ops : List Oper} {S : Env} {w : World} {Q : Post} (C : World → Prop) (hC : C w.drew) (hB : Region.lexB .any ops.toArray = true)
    (h : execQL c ops ops S C (fun S => ∀ w', C w' → Q .normal S w')) : AtDraw c id ops S w Q := by
  unfold AtDraw
  intro a hf
  refine wp_region_quiet (C := C) hg.mixed hB hC ?_
  have := execQL_sound hg ops ops S a h hf
  refine wpQuiet_mono' ?_ this
  intro a' ⟨S', hf', hk⟩ w' hw'
  exact ⟨S', hf', hk w' hw'⟩

theorem wpStill_of_quiet {P : Program} {ops : Array Oper} {w : World} {Q : Act → Prop} : ∀ {l : List Oper} {a : Act}, wpQuiet P ops (fun w' => w' = w) Q l a → wpStill P ops w Q l a
  | [], a, h => h
  | o :: l, a, h => by
    unfold wpQuiet at h
    unfold wpStill
    split
    · rename_i hw
      rw [if_pos hw] at h
      obtain ⟨v, h1, h2⟩ := h
      have h3 := h1 w rfl
      unfold Oper.quietAt at h3
      unfold Oper.still
      generalize (execOp a.eval o).run P w = r at *
      cases r with
      | ok n w' =>
        cases n <;> simp only [Oper.quietUpon] at h3 <;> simp only [Oper.stillUpon]
        case value u => obtain ⟨rfl, rfl⟩ := h3; exact ⟨rfl, wpStill_of_quiet h2⟩
        case skip => obtain ⟨rfl, rfl⟩ := h3; exact ⟨rfl, wpStill_of_quiet h2⟩
        case enter f args => exact ⟨h3.1, v, h3.2, wpStill_of_quiet h2⟩
      | halt x w' => simp only [Oper.quietUpon] at h3
    · rename_i hw
      rw [if_neg hw] at h
      exact wpStill_of_quiet h

theorem wpStill_mono' {P : Program} {ops : Array Oper} {w : World} {Q Q' : Act → Prop} (h : ∀ a, Q a → Q' a) : ∀ {l : List Oper} {a : Act}, wpStill P ops w Q l a → wpStill P ops w Q' l a
  | [], a, hh => h a hh
  | o :: l, a, hh => by
    unfold wpStill at *
    split
    · rename_i hw
      rw [if_pos hw] at hh
      unfold Oper.still at *
      generalize (execOp a.eval o).run P w = r at *
      cases r with
      | ok n w' =>
        cases n <;> simp only [Oper.stillUpon] at hh ⊢
        case value u => exact ⟨hh.1, wpStill_mono' h hh.2⟩
        case skip => exact ⟨hh.1, wpStill_mono' h hh.2⟩
        case enter f args => obtain ⟨h1, v, h2, h3⟩ := hh; exact ⟨h1, v, h2, wpStill_mono' h h3⟩
      | halt x w' => simp only [Oper.stillUpon] at hh
    · rename_i hw; rw [if_neg hw] at hh; exact wpStill_mono' h hh

theorem wpList_mono' {P : Program} {ops : Array Oper} {Q Q' : Exit → Act → World → Prop} (h : ∀ e a w, Q e a w → Q' e a w) : ∀ {l : List Oper} {a : Act} {w : World}, wpList P ops Q l a w → wpList P ops Q' l a w
  | [], a, w, hh => h _ a w hh
  | o :: l, a, w, hh => by
    unfold wpList at *
    split
    · rename_i hw
      rw [if_pos hw] at hh
      rcases hh with hh | ⟨h1, a0, w0, h2⟩
      · refine .inl ?_
        have h2 := Oper.wp_mono (K' := wpList P ops Q' l) (fun a w => wpList_mono' h) hh
        unfold Oper.wp at h2 ⊢
        generalize (execOp a.eval o).run P w = r at *
        cases r with
        | ok n w' =>
          cases n <;> simp only [Oper.upon] at h2 ⊢ <;> try exact h2
          exact h2.mono fun e w'' he => by
            cases e with
            | returned v => exact he
            | panicked ch => exact h _ _ _ he
            | outgrown => obtain ⟨a0, w0, h0⟩ := he; exact ⟨a0, w0, h _ _ _ h0⟩
        | halt x w' => cases x <;> simp only [Oper.upon] at h2 ⊢ <;> first | exact h2 | exact h _ _ _ h2
      · exact .inr ⟨h1, a0, w0, h _ _ _ h2⟩
    · rename_i hw; rw [if_neg hw] at hh; exact wpList_mono' h hh

/-- All but the last operations only read; those come in the text's order. -/
theorem draw_tail {c : Cx} (hg : c.g.Ok) {id : Nat} {ops : List Oper} {S : Env} {w : World} {Q : Post} (n : Nat) (hB : Region.lexTailB .any ops.toArray n = true)
    (h : execQL { c with named := 1000000 } ops (ops.take n) S (fun w' => w' = w.drew) (fun S => execL c ops (ops.drop n) S w.drew (fun S w => Q .normal S w) Q)) : AtDraw c id ops S w Q := by
  unfold AtDraw
  intro a hf
  refine wp_region_still_tail n hg.mixed hB ?_
  have h1 := execQL_sound (c := { c with named := 1000000 }) hg ops (ops.take n) S a h hf
  refine wpStill_mono' ?_ (wpStill_of_quiet h1)
  intro a' ⟨S', hf', hk⟩
  have h2 := execL_sound (c := c) hg ops _ _ _ _ hk hf'
  refine wpList_mono' (fun e a w hq => ?_) h2
  cases e <;> exact hq
end
end Go.Proofs.YtedopgkbajhanaaGreatDoor

namespace Go.Proofs.YtedopgkbajhanaaGreatDoor
section
open Go Go.RowKit

/-! ### Worlds that grew -/
def Ext (w w' : World) : Prop := w.grownBy w' none

theorem Ext.refl (w : World) : Ext w w := ⟨rfl, rfl, rfl, Nat.le_refl _, fun _ _ _ => rfl⟩
theorem Ext.trans {a b c : World} (h : Ext a b) (k : Ext b c) : Ext a c :=
  ⟨k.os.trans h.os, k.tape.trans h.tape, k.output.trans h.output, Nat.le_trans h.size k.size, fun i hi hn => (k.block i (Nat.lt_of_lt_of_le hi h.size) hn).trans (h.block i hi hn)⟩
theorem Ext.drew (w : World) : Ext w w.drew := ⟨rfl, rfl, rfl, Nat.le_refl _, fun _ _ _ => rfl⟩
theorem Ext.alloc (w : World) (o : Obj) : Ext w (w.alloc o) := World.grownBy_alloc w o none
/-- A write into a block that the older world did not have. -/
theorem Ext.own {w0 w w1 : World} {g : Nat} (h : Ext w0 w) (k : w.grownBy w1 (some g)) (hg : w0.heap.size ≤ g) : Ext w0 w1 :=
  ⟨k.os.trans h.os, k.tape.trans h.tape, k.output.trans h.output, Nat.le_trans h.size k.size, fun i hi hn => (k.block i (Nat.lt_of_lt_of_le hi h.size) (fun e => by cases e; omega)).trans (h.block i hi hn)⟩
theorem Ext.cell {w w' : World} (h : Ext w w') {a : Addr} {v : Value} (hc : w.cell? a = some v) : w'.cell? a = some v := World.grownBy.cell h hc (by simp)
theorem Ext.below {w w' : World} (h : Ext w w') : Below w.heap.size w w' := ⟨h.os, h.tape, h.output, h.size, fun k hk => h.block k hk (by simp)⟩
theorem Ext.grown {w w' : World} (h : Ext w w') (row : Option Nat) : w.grownBy w' row := ⟨h.os, h.tape, h.output, h.size, fun k hk _ => h.block k hk (by simp)⟩
theorem grown_trans {a b c : World} {row : Option Nat} (h : a.grownBy b row) (k : b.grownBy c row) : a.grownBy c row :=
  ⟨k.os.trans h.os, k.tape.trans h.tape, k.output.trans h.output, Nat.le_trans h.size k.size, fun i hi hn => (k.block i (Nat.lt_of_lt_of_le hi h.size) hn).trans (h.block i hi hn)⟩

/-! ### A block known whole -/
def Blk (w : World) (g : Nat) (t : TypeId) (cs : List Value) : Prop := w.heap[g]? = some (.cells cs.toArray t (0, 0))

theorem Blk.lt {w : World} {g t : Nat} {cs : List Value} (h : Blk w g t cs) : g < w.heap.size := (Array.getElem?_eq_some_iff.1 h).1
theorem Blk.ext {w w' : World} {g t : Nat} {cs : List Value} (h : Blk w g t cs) (k : Ext w w') : Blk w' g t cs := (k.block g h.lt (by simp)).trans h
theorem add_own (g j : Nat) : (⟨g, 0, none⟩ : Addr).add j = ⟨g, j, none⟩ := by unfold Addr.add; split <;> simp_all
theorem Blk.cell {w : World} {g t : Nat} {cs : List Value} (h : Blk w g t cs) (j : Nat) : w.cell? ((⟨g, 0, none⟩ : Addr).add j) = cs[j]? := by
  rw [add_own, cell_of_row w g j _ t _ h]; simp
theorem Blk.frozen {w : World} {g t : Nat} {cs : List Value} (h : Blk w g t cs) (j : Nat) : w.frozen? ((⟨g, 0, none⟩ : Addr).add j) = false := by
  rw [add_own]; exact frozen_of_row w g j _ t h
theorem Blk.new (w : World) (t : TypeId) (cs : List Value) : Blk (w.alloc (.cells cs.toArray t)) w.heap.size t cs := heap_alloc_new w _

theorem grown_setCell (w : World) (a : Addr) (v : Value) : w.grownBy (w.setCell a v) (some a.block) :=
  ⟨rfl, rfl, rfl, by simp, fun k _ hn => Below.heap_setCell w a v k (fun e => hn (by rw [e]))⟩
theorem Blk.set {w : World} {g t : Nat} {cs : List Value} (h : Blk w g t cs) (j : Nat) (v : Value) : Blk (w.setCell ((⟨g, 0, none⟩ : Addr).add j) v) g t (cs.set j v) := by
  rw [add_own]
  have := heap_setCell_same w g j cs.toArray t v h
  unfold Blk
  rw [this]
  simp

/-! ### A slice that reads as a list -/
structure Sl (w : World) (sz : Nat) (A : Option Addr) (n c : Nat) (cs : List Value) : Prop where
  len : cs.length = n * sz
  le : n ≤ c
  cap : c ≤ maxLen
  at_ : 0 < n → ∃ ad, A = some ad ∧ ∀ j u, cs[j]? = some u → w.cell? (ad.add j) = some u

theorem Sl.ext {w w' : World} {sz n c : Nat} {A : Option Addr} {cs : List Value} (h : Sl w sz A n c cs) (k : Ext w w') : Sl w' sz A n c cs :=
  ⟨h.len, h.le, h.cap, fun hn => let ⟨ad, e, hc⟩ := h.at_ hn; ⟨ad, e, fun j u hu => k.cell (hc j u hu)⟩⟩
theorem Sl.nil (w : World) (sz : Nat) : Sl w sz none 0 0 [] := ⟨by simp, Nat.le_refl _, by simp [maxLen], fun h => absurd h (by omega)⟩
theorem Sl.take {w : World} {sz n c : Nat} {A : Option Addr} {cs : List Value} (h : Sl w sz A n c cs) {m : Nat} (hm : m ≤ n) : Sl w sz A m c (cs.take (m * sz)) :=
  ⟨by rw [List.length_take, h.len]; exact Nat.min_eq_left (Nat.mul_le_mul_right _ hm), Nat.le_trans hm h.le, h.cap, fun hn => let ⟨ad, e, hc⟩ := h.at_ (by omega); ⟨ad, e, fun j u hu => hc j u (by
    rw [List.getElem?_take] at hu; split at hu <;> simp_all)⟩⟩
theorem Sl.own {w : World} {g t sz n c : Nat} {cs : List Value} (h : Blk w g t cs) (hn : n ≤ c) (hc : c ≤ maxLen) (hl : n * sz ≤ cs.length) : Sl w sz (some ⟨g, 0, none⟩) n c (cs.take (n * sz)) :=
  ⟨by rw [List.length_take]; exact Nat.min_eq_left hl, hn, hc, fun _ => ⟨_, rfl, fun j u hu => by
    rw [h.cell]; rw [List.getElem?_take] at hu; split at hu <;> simp_all⟩⟩
theorem Sl.own' {w : World} {g t n : Nat} {cs : List Value} (h : Blk w g t cs) (hl : cs.length = n) (hn : n ≤ maxLen) : Sl w 1 (some ⟨g, 0, none⟩) n n cs := by
  have := Sl.own (sz := 1) h (Nat.le_refl n) hn (by omega)
  rwa [List.take_of_length_le (by omega)] at this

/-! ### The small propositions, one by one -/
theorem wif {b : Bool} {p q : Prop} (hp : b = true → p) (hq : b = false → q) : WIf b p q := by unfold WIf; exact ⟨hp, hq⟩
theorem wif_d {c p q : Prop} [Decidable c] (hp : c → p) (hq : ¬ c → q) : WIf (decide c) p q := wif (fun h => hp (of_decide_eq_true h)) (fun h => hq (of_decide_eq_false h))
theorem wif_t {b : Bool} {p q : Prop} (hb : b = true) (hp : p) : WIf b p q := wif (fun _ => hp) (fun h => by rw [hb] at h; cases h)
theorem wif_f {b : Bool} {p q : Prop} (hb : b = false) (hq : q) : WIf b p q := wif (fun h => by rw [hb] at h; cases h) (fun _ => hq)
theorem wif_dt {c p q : Prop} [Decidable c] (hc : c) (hp : p) : WIf (decide c) p q := wif_t (decide_eq_true hc) hp
theorem wif_df {c p q : Prop} [Decidable c] (hc : ¬ c) (hq : q) : WIf (decide c) p q := wif_f (decide_eq_false hc) hq
theorem wif_eq {x y : Int} {p q : Prop} (hp : x = y → p) (hq : x ≠ y → q) : WIf (x == y) p q := wif (fun h => hp (by simpa using h)) (fun h => hq (by simpa using h))
theorem wif_eqt {x y : Int} {p q : Prop} (h : x = y) (hp : p) : WIf (x == y) p q := wif_t (by simpa using h) hp
theorem wif_eqf {x y : Int} {p q : Prop} (h : x ≠ y) (hq : q) : WIf (x == y) p q := wif_f (by simpa using h) hq
theorem wif_ne {x y : Int} {p q : Prop} (hp : x ≠ y → p) (hq : x = y → q) : WIf (x != y) p q := wif (fun h => hp (by simpa using h)) (fun h => hq (by simpa using h))
theorem wif_net {x y : Int} {p q : Prop} (h : x ≠ y) (hp : p) : WIf (x != y) p q := wif_t (by simpa using h) hp
theorem wif_nef {x y : Int} {p q : Prop} (h : x = y) (hq : q) : WIf (x != y) p q := wif_f (by simpa using h) hq
theorem wif_not {b : Bool} {p q : Prop} (h : WIf b q p) : WIf (!b) p q := by unfold WIf at *; cases b <;> simp_all

theorem norm {n m : Int} {K : Int → Prop} (h : n = m) (k : K m) : Norm n K := by unfold Norm; rw [h]; exact k
theorem norm_i64 {n : Int} {K : Int → Prop} (h : -9223372036854775808 ≤ n ∧ n ≤ 9223372036854775807) (k : K n) : Norm (IntKind.i64.wrap n) K := norm (IntWalk.i64_in n h) k
/-- The same, and the number gets the shape that is wanted. -/
theorem norm_i64_to {n : Int} {K : Int → Prop} (m : Int) (hm : n = m) (h : -9223372036854775808 ≤ m ∧ m ≤ 9223372036854775807) (k : K m) : Norm (IntKind.i64.wrap n) K := by subst hm; exact norm_i64 h k
theorem normIf {p : Prop} {n m : Int} {K : Int → Prop} (hp : p) (h : n = m) (k : K m) : NormIf p n K := by unfold NormIf; rw [h]; exact ⟨hp, k⟩
theorem need {p : Prop} {v : Value} {K : Value → Prop} (hp : p) (k : K v) : Need p v K := by unfold Need; exact ⟨hp, k⟩
theorem fdiv_pow (x : Nat) (n : Nat) : (x : Int).fdiv (2 ^ n) = ((x / 2 ^ n : Nat) : Int) := by
  rw [Int.fdiv_eq_ediv_of_nonneg _ (Int.le_of_lt (Int.pow_pos (by decide)))]
  norm_cast
theorem norm_shr {x : Nat} {k : IntKind} {y : Int} {K : Int → Prop} (n d : Nat) (hy : 0 ≤ y) (hn : min y.toNat k.bits = n) (hd : 2 ^ n = d) (h : K ((x / d : Nat) : Int)) : NormIf (0 ≤ y) ((x : Int).fdiv (2 ^ (min y.toNat k.bits))) K := by
  subst hd; rw [hn]; exact (by unfold NormIf; exact ⟨hy, by rw [fdiv_pow]; exact h⟩)
theorem load {w : World} {p : Addr} {v : Value} {K : Value → Prop} (h : w.cell? p = some v) (k : K v) : Load w p K := by unfold Load; exact ⟨v, h, k⟩
theorem load_blk {w : World} {g t : Nat} {cs : List Value} {j : Nat} {v : Value} {K : Value → Prop} (h : Blk w g t cs) (hv : cs[j]? = some v) (k : K v) : Load w ((⟨g, 0, none⟩ : Addr).add j) K := load (by rw [h.cell]; exact hv) k
theorem store_blk {w : World} {g t : Nat} {cs : List Value} {j : Nat} {v : Value} {K : World → Prop} (h : Blk w g t cs) (hj : j < cs.length) (k : ∀ w1, w.grownBy w1 (some g) → Blk w1 g t (cs.set j v) → K w1) : Store w ((⟨g, 0, none⟩ : Addr).add j) v K := by
  unfold Store
  refine ⟨⟨cs[j], by rw [h.cell]; simp [hj]⟩, h.frozen j, k _ ?_ (h.set j v)⟩
  have := grown_setCell w ((⟨g, 0, none⟩ : Addr).add j) v
  rw [add_own] at this ⊢; exact this
theorem index {a : Addr} {n j : Nat} {K : Addr → Prop} (hj : j < n) (k : K (a.add j)) : Index (some a) n (j : Int) 1 K := by
  unfold Index; exact ⟨a, rfl, by omega, by omega, by simpa using k⟩
theorem index_n {a : Addr} {n j sz : Nat} {K : Addr → Prop} (hj : j < n) (k : K (a.add (j * sz))) : Index (some a) n (j : Int) sz K := by
  unfold Index; exact ⟨a, rfl, by omega, by omega, by simpa using k⟩
theorem index_sl {w : World} {A : Option Addr} {n c j : Nat} {cs : List Value} {K : Addr → Prop} (h : Sl w 1 A n c cs) (hj : j < n) (k : ∀ ad u, A = some ad → cs[j]? = some u → w.cell? (ad.add j) = some u → K (ad.add j)) : Index A n (j : Int) 1 K := by
  obtain ⟨ad, rfl, hc⟩ := h.at_ (by omega)
  have hl : j < cs.length := by have := h.len; omega
  exact index hj (k ad cs[j] rfl (by simp [hl]) (hc j _ (by simp [hl])))
theorem sindex {s : ByteArray} {j : Nat} {K : Int → Prop} (hj : j < s.size) (k : K (s[j].toNat : Int)) : SIndex s (j : Int) K := by
  unfold SIndex; exact ⟨s[j], by omega, by simp [hj], k⟩
theorem qload {C : World → Prop} {p : Addr} {v : Value} {K : Value → Prop} (h : ∀ w, C w → w.cell? p = some v) (k : K v) : QLoad C p K := by unfold QLoad; exact ⟨v, h, k⟩
theorem draw {c : Cx} (hg : c.g.Ok) {id : Nat} {ops : List Oper} {S : Env} {w : World} {Q : Post} (hB : Region.lexB .any ops.toArray = true)
    (h : execQL c ops ops S (Ext w) (fun S => ∀ w', Ext w w' → Q .normal S w')) : AtDraw c id ops S w Q := draw_in hg (Ext w) (Ext.drew w) hB h

/-! ### Operations that make memory -/
theorem at_run {c : Cx} {o : Oper} {S : Env} {w w' : World} {K : Env → World → Prop} {Q : Post} {v : Value} (h : ∀ a, Fits c.N S a → (execOp a.eval o).run c.g.P w = .ok (.value v) w') (k : putK c S o.dst (.v v) (fun S => K S w')) : AtOp c o S w K Q := by
  unfold AtOp
  intro a hf
  exact wp_value (h a hf) (putK_sound (e := .v v) k hf)

theorem madeCells_one (z : Value) (n : Nat) : madeCells #[z] n = Array.replicate n z := by
  apply Array.ext
  · simp [madeCells]
  · intro i h1 h2; simp [madeCells, Nat.mod_one]

theorem at_make {c : Cx} (hg : c.g.Ok) {o : Oper} {S : Env} {w : World} {K : Env → World → Prop} {Q : Post} {t e : Nat} {x y : Operand} {n : Nat} {r re : TyRow} (ho : o.op = .makeSlice t x y) (hr : rowOf c.g.tys t = some r) (hd : r.d = .slice e) (hre : rowOf c.g.tys e = some re) (hz : re.z.cells = #[re.z])
    (hs : re.sz = 1) (hx : S.ev x = some (.int .i64 n)) (hy : S.ev y = some (.int .i64 n)) (hb : re.by_ * n ≤ 281474976710656) (hn : n ≤ maxLen)
    (k : ∀ w1, Ext w w1 → w1.heap.size = w.heap.size + 1 → Blk w1 w.heap.size e (List.replicate n re.z) → putK c S o.dst (.v (.slice (some ⟨w.heap.size, 0, none⟩) n n)) (fun S => K S w1)) : AtOp c o S w K Q := by
  obtain ⟨_, i, hi, hsz, hby, hiz⟩ := hg.row hre
  have hr' := (hg.row hr).1
  rw [hd] at hr'
  have hr1 := run_make (P := c.g.P) w t e i re.z hr' hi hiz .i64 .i64 n n (by omega) (by omega) (by rw [hby]; omega) (by unfold maxLen at hn; omega)
  rw [hz, hsz, hs, madeCells_one] at hr1
  refine at_run (w' := w.alloc (.cells (Array.replicate n re.z) e)) (v := .slice (some ⟨w.heap.size, 0, none⟩) n n) (fun a hf => ?_) (k _ (Ext.alloc w _) (by simp) ?_)
  · have e1 := hf.ev hx
    have e2 := hf.ev hy
    simp only [execOp, ho, e1, e2]
    simp at hr1 ⊢
    rw [hr1]; rfl
  · have := Blk.new w e (List.replicate n re.z)
    simpa using this

theorem at_slice_h {c : Cx} (hg : c.g.Ok) {o : Oper} {S : Env} {w : World} {K : Env → World → Prop} {Q : Post} {t e : Nat} {x y : Operand} {A : Option Addr} {n cp : Nat} {h : Nat} {r : TyRow} (ho : o.op = .slice t x none (some y) none) (hr : rowOf c.g.tys t = some r) (hd : r.d = .slice e) {re : TyRow} (hre : rowOf c.g.tys e = some re)
    (hx : S.ev x = some (.slice A n cp)) (hy : S.ev y = some (.int .i64 h)) (hh : h ≤ cp)
    (k : putK c S o.dst (.v (.slice A h cp)) (fun S => K S w)) : AtOp c o S w K Q := by
  have hr' := (hg.row hr).1
  rw [hd] at hr'
  refine at_run (w' := w) (fun a hf => ?_) k
  have e1 := hf.ev hx
  have e2 := hf.ev hy
  simp [execOp, ho, e1, e2, Instr.sliceAt, Instr.slice, run_underlying hr', Instr.sliceBounds, Instr.sliceBound, asIntOf, hh, run_sizeOf hg hre]
  intro _
  cases A <;> simp [Addr.add]

/-! ### Slices that the call itself makes and appends to -/
structure Own (w : World) (base e sz : Nat) (A : Option Addr) (n c : Nat) (cs : List Value) : Prop where
  row : w.ownsRow base e sz (.slice A n c) n cs

theorem Own.form {w : World} {base e sz : Nat} {v : Value} {n : Nat} {cs : List Value} (h : w.ownsRow base e sz v n cs) : ∃ A c, v = .slice A n c ∧ Own w base e sz A n c cs := by
  rcases h.2 with ⟨rfl, rfl⟩ | ⟨g, cap, cur, rfl, r⟩
  · exact ⟨none, 0, rfl, ⟨h⟩⟩
  · exact ⟨_, cap, rfl, ⟨h⟩⟩

theorem Own.sl {w : World} {base e sz n c : Nat} {A : Option Addr} {cs : List Value} (h : Own w base e sz A n c cs) : Sl w sz A n c cs := by
  have h := h.row
  have h1 := h.1
  rcases h.2 with ⟨hv, rfl⟩ | ⟨g, cap, cur, hv, hb, hg, hn, hm, hs, ht⟩
  · cases hv; exact ⟨h1, Nat.le_refl _, by simp [maxLen], fun h => absurd h (by omega)⟩
  · cases hv
    refine ⟨h1, hn, hm, fun _ => ⟨_, rfl, fun j u hu => ?_⟩⟩
    exact World.ownsRow.cells h (g := g) rfl j u hu

theorem Own.ext {w w' : World} {base e sz n c : Nat} {A : Option Addr} {cs : List Value} (h : Own w base e sz A n c cs) (k : Ext w w') : Own w' base e sz A n c cs :=
  ⟨h.row.kept k (by cases hv : (Value.slice A n c).ownBlock <;> simp)⟩

theorem Own.empty {w : World} {g e sz : Nat} {base : Nat} (h : Blk w g e []) (hb : base ≤ g) : Own w base e sz (some ⟨g, 0, none⟩) 0 0 [] :=
  ⟨⟨by simp, .inr ⟨g, 0, _, rfl, hb, h, Nat.le_refl _, by simp [maxLen], by simp, by simp⟩⟩⟩

theorem Own.nil (w : World) (base e sz : Nat) : Own w base e sz none 0 0 [] := ⟨World.ownsRow_nil w base e sz⟩

theorem Own.blk {w : World} {base e n c : Nat} {A : Option Addr} {cs : List Value} (h : Own w base e 1 A n c cs) (hn : 0 < n) : ∃ g sp, A = some ⟨g, 0, none⟩ ∧ base ≤ g ∧ Blk w g e (cs ++ sp) ∧ (cs ++ sp).length = c := by
  have h := h.row
  rcases h.2 with ⟨hv, rfl⟩ | ⟨g, cap, cur, hv, hb, hg, hn', hm, hs, ht⟩
  · omega
  · cases hv
    refine ⟨g, cur.toList.drop n, rfl, hb, ?_⟩
    rw [Nat.mul_one] at ht
    rw [← ht, List.take_append_drop]
    exact ⟨by simpa [Blk] using hg, by simpa using hs⟩

theorem block_add (a : Addr) (j : Nat) : (a.add j).block = a.block := by unfold Addr.add; split <;> rfl

theorem scalar_one {u : Value} (h : scalar u = true) : u.oneCell' = true := by cases u <;> first | rfl | (simp [scalar] at h)

theorem fill1 (z v : Value) (h : scalar v = true) : Instr.fill (fun i => some (i * 1, 1)) #[z] [(0, v)] = some #[v] := by
  have hc : v.cells = #[v] := by cases v <;> first | rfl | (simp [scalar] at h)
  simp [Instr.fill, hc]

theorem fill2 (z v u : Value) (h : scalar v = true) (h' : scalar u = true) : Instr.fill (fun i => some (i * 1, 1)) #[z, z] [(0, v), (1, u)] = some #[v, u] := by
  have hc : v.cells = #[v] := by cases v <;> first | rfl | (simp [scalar] at h)
  have hc' : u.cells = #[u] := by cases u <;> first | rfl | (simp [scalar] at h')
  simp [Instr.fill, hc, hc']

section
variable {c : Cx} (hg : c.g.Ok) {o : Oper} {S : Env} {w : World} {K : Env → World → Prop} {Q : Post} {t e : Nat} {r re : TyRow}
include hg
theorem run_build (hr : rowOf c.g.tys t = some r) (hd : r.d = .slice e) (hre : rowOf c.g.tys e = some re) (hs : re.sz = 1) (hz : re.z.cells = #[re.z]) (n : Nat) (hn : n ≤ 1000) (parts : Array (Nat × Value)) (cs : List Value)
    (hf : Instr.fill (fun i => some (i * 1, 1)) (Array.replicate n re.z) parts.toList = some cs.toArray) :
    (Instr.buildSlice t n parts).run c.g.P w = .ok (.slice (some ⟨w.heap.size, 0, none⟩) n n) (w.alloc (.cells cs.toArray e)) := by
  obtain ⟨_, i, hi, hsz, hbyt, hiz⟩ := hg.row hre
  have hr' := (hg.row hr).1
  rw [hd] at hr'
  have e1 : (Array.range n).map (fun j => (#[re.z] : Array Value)[j % (#[re.z] : Array Value).size]!) = Array.replicate n re.z := madeCells_one re.z n
  have h24 : ¬ (16777216 < n) := by omega
  by_cases h0 : n = 0
  · subst h0
    simp [Instr.buildSlice, run_underlying hr', sizeOf, typeInfo, hi, hsz, hs, newRow] at hf ⊢
    rw [show Array.map (fun _ => (default : Value)) (Array.range 0) = #[] by simp [Array.range_zero'], hf]
    simp
  · simp [Instr.buildSlice, run_underlying hr', sizeOf, typeInfo, hi, hsz, hs, newRow, h24, h0, zeroValue, hiz, hz]
    simp at e1 hf
    rw [e1, hf]
    simp

theorem at_build1 {x : Operand} {v : Value} (ho : o.op = .buildSlice t 1 #[(0, x)]) (hr : rowOf c.g.tys t = some r) (hd : r.d = .slice e) (hre : rowOf c.g.tys e = some re) (hs : re.sz = 1) (hz : re.z.cells = #[re.z]) (hx : S.ev x = some v) (hv : scalar v = true)
    (k : ∀ w1, Ext w w1 → w1.heap.size = w.heap.size + 1 → Blk w1 w.heap.size e [v] → putK c S o.dst (.v (.slice (some ⟨w.heap.size, 0, none⟩) 1 1)) (fun S => K S w1)) : AtOp c o S w K Q := by
  have hrun := run_build (w := w) hg hr hd hre hs hz 1 (by omega) #[(0, v)] [v] (fill1 re.z v hv)
  refine at_run (w' := w.alloc (.cells #[v] e)) (fun a hf => ?_) (k _ (Ext.alloc w _) (by simp) (Blk.new w e [v]))
  have e1 := hf.ev hx
  simp only [execOp, ho]
  simp [e1, hrun]

theorem at_build2 {x y : Operand} {v u : Value} (ho : o.op = .buildSlice t 2 #[(0, x), (1, y)]) (hr : rowOf c.g.tys t = some r) (hd : r.d = .slice e) (hre : rowOf c.g.tys e = some re) (hs : re.sz = 1) (hz : re.z.cells = #[re.z]) (hx : S.ev x = some v) (hy : S.ev y = some u) (hv : scalar v = true) (hu : scalar u = true)
    (k : ∀ w1, Ext w w1 → w1.heap.size = w.heap.size + 1 → Blk w1 w.heap.size e [v, u] → putK c S o.dst (.v (.slice (some ⟨w.heap.size, 0, none⟩) 2 2)) (fun S => K S w1)) : AtOp c o S w K Q := by
  have hrun := run_build (w := w) hg hr hd hre hs hz 2 (by omega) #[(0, v), (1, u)] [v, u] (fill2 re.z v u hv hu)
  refine at_run (w' := w.alloc (.cells #[v, u] e)) (fun a hf => ?_) (k _ (Ext.alloc w _) (by simp) (Blk.new w e [v, u]))
  have e1 := hf.ev hx
  have e2 := hf.ev hy
  simp only [execOp, ho]
  simp [e1, e2, hrun]
end

/-! ### Bytes -/
def bytesV (l : List Nat) : List Value := l.map fun (x : Nat) => .int .u8 x
def strOf (l : List Nat) : ByteArray := ⟨(l.map UInt8.ofNat).toArray⟩

theorem bytesV_get' {l : List Nat} {j x : Nat} (h : l[j]? = some x) : (bytesV l)[j]? = some (.int .u8 (x : Int)) := by simp [bytesV, h]
theorem bytesV_append (l m : List Nat) : bytesV (l ++ m) = bytesV l ++ bytesV m := by simp [bytesV]
theorem bytesV_length (l : List Nat) : (bytesV l).length = l.length := by simp [bytesV]
theorem bytesV_scalar (l : List Nat) : ∀ u ∈ bytesV l, scalar u = true := by
  intro u hu; simp only [bytesV, List.mem_map] at hu; obtain ⟨x, _, rfl⟩ := hu; rfl

theorem strOf_append (l m : List Nat) : strOf l ++ strOf m = strOf (l ++ m) := by
  apply ByteArray.ext; simp [strOf, ByteArray.data_append]
theorem strOf_size (l : List Nat) : (strOf l).size = l.length := by simp [strOf, ByteArray.size]

/-! ### Strings as lists of bytes -/
def bytesOf (s : ByteArray) : List Nat := s.data.toList.map UInt8.toNat
theorem bytesOf_length (s : ByteArray) : (bytesOf s).length = s.size := by simp [bytesOf]
theorem bytesOf_lt (s : ByteArray) : ∀ x ∈ bytesOf s, x < 256 := by
  intro x hx; simp only [bytesOf, List.mem_map] at hx; obtain ⟨b, _, rfl⟩ := hx; exact b.toNat_lt
theorem bytesOf_get {s : ByteArray} {j : Nat} (hj : j < s.size) : (bytesOf s)[j]? = some s[j].toNat := by
  have h' : j < s.data.size := hj
  have : s[j] = s.data[j] := rfl
  rw [this]
  simp only [bytesOf, List.getElem?_map, Array.getElem?_toList]
  rw [Array.getElem?_eq_getElem h']; rfl
theorem sindex' {s : ByteArray} {j : Nat} {K : Int → Prop} (hj : j < s.size) (k : ∀ x, (bytesOf s)[j]? = some x → x < 256 → K (x : Int)) : SIndex s (j : Int) K :=
  sindex hj (k _ (bytesOf_get hj) (s[j]).toNat_lt)
theorem strOf_bytesOf (s : ByteArray) : strOf (bytesOf s) = s := by
  apply ByteArray.ext; simp [strOf, bytesOf, Function.comp_def]
theorem bytesOf_strOf {l : List Nat} (h : ∀ x ∈ l, x < 256) : bytesOf (strOf l) = l := by
  simp only [bytesOf, strOf, List.map_map]
  conv => rhs; rw [← List.map_id l]
  apply List.map_congr_left
  intro x hx
  simp [Nat.mod_eq_of_lt (h x hx)]
theorem strOf_inj {l m : List Nat} (hl : ∀ x ∈ l, x < 256) (hm : ∀ x ∈ m, x < 256) (h : strOf l = strOf m) : l = m := by
  rw [← bytesOf_strOf hl, ← bytesOf_strOf hm, h]
end
end Go.Proofs.YtedopgkbajhanaaGreatDoor

namespace Go.Proofs.YtedopgkbajhanaaGreatDoor
section
open Go Go.RowKit

section
variable {P : Program} {ops : Array Oper} {md : Region.Mode} {C : World → Prop} {Q : Exit → Act → World → Prop}

def NoPan (Q : Exit → Act → World → Prop) : Exit → Act → World → Prop
  | .panic _, _, _ => False
  | e, a, w => Q e a w
theorem NoPan.imp {Q : Exit → Act → World → Prop} : ∀ (e : Exit) (a : Act) (w : World), NoPan Q e a w → Q e a w := fun e a w h => by
  cases e <;> first | exact h | exact (h : False).elim

/-- The head of the region: f operations, each with a number below n, each of which keeps the class C; then L. -/
def wpG (P : Program) (md : Region.Mode) (ops : Array Oper) (Q : Exit → Act → World → Prop) (C : World → Prop) (n : Nat) (L : Array Bool → Act → World → Prop) : Nat → Array Bool → Act → World → Prop
  | 0, listed, a, w => L listed a w
  | f + 1, listed, a, w =>
    Region.ready md ops listed ≠ [] ∧ ∀ i ∈ Region.ready md ops listed, i < n ∧ wpOp P ops Q i (fun a' w' => C w' ∧ wpG P md ops Q C n L f (listed.setIfInBounds i true) a' w') a w

theorem wpAny_of_G {n g : Nat} {L : Array Bool → Act → World → Prop} (hL : ∀ listed a w, L listed a w → wpAny P md ops Q g listed a w) :
    ∀ (f : Nat) (listed : Array Bool) (a : Act) (w : World), wpG P md ops Q C n L f listed a w → wpAny P md ops Q (f + g) listed a w
  | 0, listed, a, w, h => by rw [Nat.zero_add]; exact hL _ _ _ h
  | f + 1, listed, a, w, h => by
    rw [show f + 1 + g = (f + g) + 1 by omega]
    exact ⟨fun h0 => absurd h0 h.1, fun i hi => wpOp_mono (fun a' w' h' => wpAny_of_G hL f _ a' w' h'.2) (h.2 i hi).2⟩

/-- Either there is no tail, or nothing of it is ready before all of the head is listed. -/
def Sink (md : Region.Mode) (ops : Array Oper) (n : Nat) : Prop := n = ops.size ∨ (n < ops.size ∧ Region.sinkB md ops n = true ∧ Region.chainB md ops n = true)

theorem sink_lt {n i : Nat} {listed : Array Bool} (hs : Sink md ops n) (inv : HeadInv md ops n listed) (hin : i < n) (hun : listed.getD i true = false) : ∀ j ∈ Region.ready md ops listed, j < n := by
  intro j hj
  rcases hs with hs | ⟨h1, h2, h3⟩
  · obtain ⟨_, oj, hoj, _⟩ := mem_ready.1 hj
    rw [hs]; exact (Array.getElem?_eq_some_iff.1 hoj).1
  · rcases Nat.lt_or_ge j n with h | h
    · exact h
    · exact absurd hj (tail_waits h2 h3 h1 inv _ i rfl hin hun j h)

theorem wpG_first {n i : Nat} {oi : Oper} {v : Value} {L : Array Bool → Act → World → Prop} (hi : ops[i]? = some oi) (hsel : ∀ (j : Nat) (o : Oper) cs b, ops[j]? = some o → o.op ≠ .select cs b)
    (hs : Sink md ops n) (hin : i < n) (hdone : ∀ listed a w, L listed a w → ∀ j ∈ Region.ready md ops listed, n ≤ j) :
    ∀ (f : Nat) (listed : Array Bool) (a : Act) (w : World), HeadInv md ops n listed →
      (∀ j oj, ops[j]? = some oj → j ≠ i → listed.getD j true = false → (∀ e ∈ oj.after, Region.binds md e = true → e.on ≠ i) → oi.apart ops oj = true) →
      i ∈ Region.ready md ops listed → YieldsIf P ops C oi v a → C w →
      wpG P md ops (NoPan Q) C n L f (listed.setIfInBounds i true) (a.put oi.dst v) w → wpG P md ops (NoPan Q) C n L (f + 1) listed a w := by
  intro f
  induction f with
  | zero =>
    intro listed a w inv _ hr hy hC H
    have hun := (mem_ready.1 hr).1
    refine ⟨fun h => (by rw [h] at hr; cases hr), fun j hj => ?_⟩
    have hjn := sink_lt hs inv hin hun j hj
    refine ⟨hjn, ?_⟩
    by_cases hji : j = i
    · subst hji; exact hy.wpOp hi hC ⟨hC, H⟩
    · have := hdone _ _ _ H j (ready_mono hj hji)
      omega
  | succ f ih =>
    intro listed a w inv hfree hr hy hC H
    have hun := (mem_ready.1 hr).1
    refine ⟨fun h => (by rw [h] at hr; cases hr), fun j hj => ?_⟩
    have hjn := sink_lt hs inv hin hun j hj
    refine ⟨hjn, ?_⟩
    by_cases hji : j = i
    · subst hji; exact hy.wpOp hi hC ⟨hC, H⟩
    · have h1 := (H.2 j (ready_mono hj hji)).2
      obtain ⟨hjun, oj, hoj, hall⟩ := mem_ready.1 hj
      have hnot : ∀ e ∈ oj.after, Region.binds md e = true → e.on ≠ i := fun e he hb heq => by
        have h1 := hall e he hb
        rw [heq, getD_both hun] at h1
        cases h1
      have h2 := wpOp_putIf hoj (hfree j oj hoj hji hjun hnot) (fun cs b => hsel i oi cs b hi) (fun cs b => hsel j oj cs b hoj) (fun _ _ _ h => h) hy h1
      have hfree' : ∀ k ok, ops[k]? = some ok → k ≠ i → (listed.setIfInBounds j true).getD k true = false →
          (∀ e ∈ ok.after, Region.binds md e = true → e.on ≠ i) → oi.apart ops ok = true := fun k ok hk hki hun hno => by
        refine hfree k ok hk hki ?_ hno
        by_cases hjk : j = k
        · subst hjk; exact hjun
        · rw [getD_set_ne true hjk] at hun; exact hun
      refine wpOp_mono (fun a' w' h3 => ⟨h3.2.1, ih (listed.setIfInBounds j true) a' w' (inv.set hj hjn) hfree' (ready_mono hr (Ne.symm hji)) h3.1 h3.2.1 ?_⟩) h2
      rw [Array.setIfInBounds_comm _ _ hji]
      exact h3.2.2

/-- The plan: true: taken first; false: alone. -/
def planB (md : Region.Mode) (ops : Array Oper) (n : Nat) : List (Bool × Nat) → Array Bool → Bool
  | [], listed => Region.seqB md ops (ops.size - n) n listed
  | (true, k) :: l, listed => Nat.blt k n && (Region.ready md ops listed).contains k && Region.free md ops listed k && planB md ops n l (listed.setIfInBounds k true)
  | (false, k) :: l, listed => Nat.blt k n && decide (Region.ready md ops listed = [k]) && planB md ops n l (listed.setIfInBounds k true)

def sinkOk (md : Region.Mode) (ops : Array Oper) (n : Nat) : Bool := Nat.beq n ops.size || (Nat.blt n ops.size && Region.sinkB md ops n && Region.chainB md ops n)

theorem sinkOk_spec {n : Nat} (h : sinkOk md ops n = true) : Sink md ops n := by
  simp only [sinkOk, Bool.or_eq_true, Bool.and_eq_true] at h
  rcases h with h | ⟨⟨h1, h2⟩, h3⟩
  · exact .inl (Nat.eq_of_beq_eq_true h)
  · exact .inr ⟨by rw [Nat.blt_eq] at h1; exact h1, h2, h3⟩
end

section
variable {c : Cx} {S : Env} {a : Act}

@[irreducible] def TOp (c : Cx) (o : Oper) (S : Env) (C : World → Prop) (K : Env → Prop) : Prop := ∃ v, (∀ a w, Fits c.N S a → C w → (execOp a.eval o).run c.g.P w = .ok (.value v) w) ∧ putK c S o.dst (.v v) K

def execT (c : Cx) (o : Oper) (S : Env) (C : World → Prop) (K : Env → Prop) : Prop :=
  match pureOp c.g S o.op with
  | .val v => putK c S o.dst (.v v) K
  | .ent e => putK c S o.dst e K
  | .norm k n => Norm n (fun m => putK c S o.dst (.v (.int k m)) K)
  | .normIf p k n => NormIf p n (fun m => putK c S o.dst (.v (.int k m)) K)
  | .need p v => Need p v (fun v => putK c S o.dst (.v v) K)
  | .no => match o.op with
    | .load t x => (match rowOf c.g.tys t, S.ev x with
      | some r, some (.pointer (some p)) => (match isAggD r.d with
        | false => QLoad C p (fun v => putK c S o.dst (.v v) K)
        | true => QLoadN C p r.sz (fun vs => putK c S o.dst (.v (.agg vs.toArray)) K))
      | _, _ => TOp c o S C K)
    | .indexAddr t x i => (match rowOf c.g.tys t, S.ev x, S.ev i with
      | some ⟨_, .slice e, _, _, _⟩, some (.slice b n _), some (.int _ i) => (match rowOf c.g.tys e with
        | some r => Index b n i r.sz (fun p => putK c S o.dst (.v (.pointer (some p))) K)
        | none => TOp c o S C K)
      | some ⟨_, .array n e, _, _, _⟩, some (.pointer (some p)), some (.int _ i) => (match rowOf c.g.tys e with
        | some r => Index (some p) n i r.sz (fun p => putK c S o.dst (.v (.pointer (some p))) K)
        | none => TOp c o S C K)
      | _, _, _ => TOp c o S C K)
    | .index t x i => (match rowOf c.g.tys t, S.ev x, S.ev i with
      | some ⟨_, .string, _, _, _⟩, some (.string s), some (.int _ i) => SIndex s i (fun b => putK c S o.dst (.v (.int .u8 b)) K)
      | _, _, _ => TOp c o S C K)
    | _ => TOp c o S C K

/-- Behind a guard: carried out (with what is then known), or not. -/
def guardK (all : List Oper) (o : Oper) (S : Env) (yes no : Env → Prop) : Prop := match o.guard with
  | none => yes S
  | some (j, want) => match nthO all j with
    | some oj => (match oj.dst with
      | some d => (match S.ent d with
        | some .t => (match want with
          | true => yes S
          | false => no S)
        | some .f => (match want with
          | false => yes S
          | true => no S)
        | some (.v (.bool b)) => (match want with
          | true => WIf b (yes ((d, .t) :: S)) (no ((d, .f) :: S))
          | false => WIf b (no ((d, .t) :: S)) (yes ((d, .f) :: S)))
        | some (.v (.tuple _)) => no S
        | _ => False)
      | none => False)
    | none => False

def planL (c : Cx) (all : List Oper) (C : World → Prop) : List (Bool × Nat) → Env → World → (Env → World → Prop) → Prop
  | [], S, w, K => K S w
  | (true, k) :: l, S, w, K => match nthO all k with
    | some o => guardK all o S (fun S => execT c o S C (fun S => planL c all C l S w K)) (fun S => putK c S o.dst (.v undef) (fun S => planL c all C l S w K))
    | none => False
  | (false, k) :: l, S, w, K => match nthO all k with
    | some o => guardK all o S (fun S => execO c o S w (fun S w => C w ∧ planL c all C l S w K) (fun _ _ _ => False)) (fun S => putK c S o.dst (.v undef) (fun S => planL c all C l S w K))
    | none => False

theorem guardK_spec {all : List Oper} {o : Oper} {yes no : Env → Prop} (h : guardK all o S yes no) (hf : Fits c.N S a) :
    (Region.wanted o (yielded all.toArray a.tmps) = true ∧ ∃ S', Fits c.N S' a ∧ yes S') ∨ (Region.wanted o (yielded all.toArray a.tmps) = false ∧ ∃ S', Fits c.N S' a ∧ no S') := by
  have fit : ∀ (d : Nat) (b : Bool) (e : Ent), S.ent d = some (.v (.bool b)) → e.val = .bool b → Fits c.N ((d, e) :: S) a := fun d b e hd he => by
    refine ⟨hf.size, hf.defers, fun k x hk => ?_⟩
    simp only [Env.ent] at hk
    split at hk
    · rename_i hb
      have := Nat.eq_of_beq_eq_true hb
      subst this
      cases hk
      rw [he]
      exact hf.has _ _ hd
    · exact hf.has _ _ hk
  unfold guardK at h
  split at h
  · rename_i hgd
    exact .inl ⟨by simp [Region.wanted, hgd], S, hf, h⟩
  · rename_i j want hgd
    split at h
    · rename_i oj hj
      split at h
      · rename_i d hd
        split at h
        · rename_i hd'
          have hw := wanted_iff hgd hj hd (hf.has _ _ hd')
          split at h
          · exact .inl ⟨by rw [hw]; rfl, S, hf, h⟩
          · exact .inr ⟨by rw [hw]; rfl, S, hf, h⟩
        · rename_i hd'
          have hw := wanted_iff hgd hj hd (hf.has _ _ hd')
          split at h
          · exact .inl ⟨by rw [hw]; rfl, S, hf, h⟩
          · exact .inr ⟨by rw [hw]; rfl, S, hf, h⟩
        · rename_i b hd'
          have hw := wanted_iff hgd hj hd (hf.has _ _ hd')
          split at h
          · unfold WIf at h
            cases b with
            | true => exact .inl ⟨by rw [hw]; rfl, _, fit d true .t hd' rfl, h.1 rfl⟩
            | false => exact .inr ⟨by rw [hw]; rfl, _, fit d false .f hd' rfl, h.2 rfl⟩
          · unfold WIf at h
            cases b with
            | true => exact .inr ⟨by rw [hw]; rfl, _, fit d true .t hd' rfl, h.1 rfl⟩
            | false => exact .inl ⟨by rw [hw]; rfl, _, fit d false .f hd' rfl, h.2 rfl⟩
        · rename_i hd'
          exact .inr ⟨unwanted hgd hj hd (hf.has _ _ hd'), S, hf, h⟩
        · exact h.elim
      · exact h.elim
    · exact h.elim

theorem execT_sound (hg : c.g.Ok) {o : Oper} {C : World → Prop} {K : Env → Prop} (h : execT c o S C K) (hf : Fits c.N S a) :
    ∃ v, (∀ w, C w → (execOp a.eval o).run c.g.P w = .ok (.value v) w) ∧ ∃ S', Fits c.N S' (a.put o.dst v) ∧ K S' := by
  have hAt : TOp c o S C K → ∃ v, (∀ w, C w → (execOp a.eval o).run c.g.P w = .ok (.value v) w) ∧ ∃ S', Fits c.N S' (a.put o.dst v) ∧ K S' := fun h => by
    unfold TOp at h
    obtain ⟨v, h1, h2⟩ := h
    exact ⟨v, fun w hw => h1 a w hf hw, putK_sound (e := .v v) h2 hf⟩
  unfold execT at h
  split at h
  · rename_i v hp
    exact ⟨v, fun w _ => pure_sound (w := w) hg hf hp, putK_sound (e := .v v) h hf⟩
  · rename_i e hp
    exact ⟨e.val, fun w _ => pure_sound (w := w) hg hf hp, putK_sound (e := e) h hf⟩
  · rename_i k n hp
    unfold Norm at h
    exact ⟨_, fun w _ => pure_sound (w := w) hg hf hp, putK_sound (e := .v (.int k n)) h hf⟩
  · rename_i p k n hp
    unfold NormIf at h
    exact ⟨_, fun w _ => pure_sound (w := w) hg hf hp h.1, putK_sound (e := .v (.int k n)) h.2 hf⟩
  · rename_i p v hp
    unfold Need at h
    exact ⟨_, fun w _ => pure_sound (w := w) hg hf hp h.1, putK_sound (e := .v v) h.2 hf⟩
  · obtain ⟨dst, op, ty, pos, aft, gd⟩ := o
    simp only at h hAt ⊢
    split at h
    · rename_i t x
      split at h
      · rename_i r p hr hx
        have e1 := hf.ev hx
        split at h
        · rename_i hd
          unfold QLoad at h
          obtain ⟨v, hv, hk⟩ := h
          refine ⟨v, fun w hw => ?_, putK_sound (e := .v v) hk hf⟩
          simp [execOp, e1, Instr.loadAt, Instr.sureAddr, loadVar, run_isAgg hg hr, hd, hv w hw]
        · rename_i hd
          unfold QLoadN at h
          obtain ⟨vs, hl, hv, hk⟩ := h
          refine ⟨.agg vs.toArray, fun w hw => ?_, putK_sound (e := .v (.agg vs.toArray)) hk hf⟩
          have h2 := run_loadCells_list (P := c.g.P) (w := w) p vs (hv w hw)
          rw [hl] at h2
          simp [execOp, e1, Instr.loadAt, Instr.sureAddr, loadVar, run_isAgg hg hr, hd, run_sizeOf hg hr, h2]
      · exact hAt h
    · rename_i t x ix
      split at h
      · rename_i e b n k i hr hx hi
        split at h
        · rename_i r hre
          unfold Index at h
          obtain ⟨p, rfl, h0, h1, hk⟩ := h
          have e1 := hf.ev hx
          have e2 := hf.ev hi
          refine ⟨.pointer (some (p.add (i.toNat * r.sz))), fun w _ => ?_, putK_sound (e := .v _) hk hf⟩
          simp [execOp, e1, e2, Instr.indexAt, asIntOf, run_und hg hr, run_sizeOf hg hre, h0, h1]
        · exact hAt h
      · rename_i n e p k i hr hx hi
        split at h
        · rename_i r hre
          unfold Index at h
          obtain ⟨p', hp, h0, h1, hk⟩ := h
          cases hp
          have e1 := hf.ev hx
          have e2 := hf.ev hi
          refine ⟨.pointer (some (p.add (i.toNat * r.sz))), fun w _ => ?_, putK_sound (e := .v _) hk hf⟩
          simp [execOp, e1, e2, Instr.indexAt, Instr.sureAddr, asIntOf, run_und hg hr, run_sizeOf hg hre, h0, h1]
        · exact hAt h
      · exact hAt h
    · rename_i t x ix
      split at h
      · rename_i s k i hr hx hi
        unfold SIndex at h
        obtain ⟨b, h0, h1, hk⟩ := h
        have e1 := hf.ev hx
        have e2 := hf.ev hi
        refine ⟨.int .u8 b.toNat, fun w _ => ?_, putK_sound (e := .v _) hk hf⟩
        simp [execOp, e1, e2, Instr.index, asIntOf, run_und hg hr, h0, h1]
      · exact hAt h
    · exact hAt h

theorem planL_sound (hg : c.g.Ok) {md : Region.Mode} {ops : List Oper} {C : World → Prop} {Q : Exit → Act → World → Prop} {n : Nat} (hs : Region.noSelect ops.toArray = true) (hk : Sink md ops.toArray n) {K : Env → World → Prop} :
    ∀ (l : List (Bool × Nat)) (listed : Array Bool) (S : Env) (a : Act) (w : World), HeadInv md ops.toArray n listed → planB md ops.toArray n l listed = true → planL c ops C l S w K → Fits c.N S a → C w →
    wpG c.g.P md ops.toArray (NoPan Q) C n (fun listed' a' w' => Region.seqB md ops.toArray (ops.toArray.size - n) n listed' = true ∧ ∃ S', Fits c.N S' a' ∧ K S' w') l.length listed a w
  | [], listed, S, a, w, inv, hB, h, hf, hC => ⟨hB, S, hf, h⟩
  | (true, k) :: l, listed, S, a, w, inv, hB, h, hf, hC => by
    simp only [planB, Bool.and_eq_true] at hB
    obtain ⟨⟨⟨hkn, hr⟩, hfr⟩, hB'⟩ := hB
    have hkn : k < n := by rw [Nat.blt_eq] at hkn; exact hkn
    have hr' : k ∈ Region.ready md ops.toArray listed := by simpa using hr
    obtain ⟨_, o, ho, _⟩ := mem_ready.1 hr'
    have hn : nthO ops k = some o := by rw [nthO_eq]; simpa using ho
    simp only [planL, hn] at h
    have key : ∃ v, YieldsIf c.g.P ops.toArray C o v a ∧ ∃ S', Fits c.N S' (a.put o.dst v) ∧ planL c ops C l S' w K := by
      rcases guardK_spec h hf with ⟨hw, S1, hf1, h1⟩ | ⟨hw, S1, hf1, h1⟩
      · obtain ⟨v, h2, h3⟩ := execT_sound hg h1 hf1
        exact ⟨v, .inl ⟨hw, h2⟩, h3⟩
      · exact ⟨undef, .inr ⟨hw, rfl⟩, putK_sound (e := .v undef) h1 hf1⟩
    obtain ⟨v, hy, S', hf', h'⟩ := key
    exact wpG_first ho (Region.noSelect_spec hs) hk hkn (fun listed' a' w' hL => seqB_ready hL.1) l.length listed a w inv (Region.free_spec ho hfr) hr' hy hC
      (planL_sound hg hs hk l _ S' _ w (inv.set hr' hkn) hB' h' hf' hC)
  | (false, k) :: l, listed, S, a, w, inv, hB, h, hf, hC => by
    simp only [planB, Bool.and_eq_true, decide_eq_true_eq] at hB
    obtain ⟨⟨hkn, hr⟩, hB'⟩ := hB
    have hkn : k < n := by rw [Nat.blt_eq] at hkn; exact hkn
    have hr' : k ∈ Region.ready md ops.toArray listed := by rw [hr]; simp
    obtain ⟨_, o, ho, _⟩ := mem_ready.1 hr'
    have hn : nthO ops k = some o := by rw [nthO_eq]; simpa using ho
    simp only [planL, hn] at h
    have inv' := inv.set hr' hkn
    refine ⟨fun h0 => (by rw [hr] at h0; cases h0), fun i hi => ?_⟩
    rw [hr] at hi
    have hik : i = k := by simpa using hi
    subst hik
    refine ⟨hkn, ?_⟩
    unfold wpOp
    simp only [ho]
    rcases guardK_spec h hf with ⟨hw, S1, hf1, h1⟩ | ⟨hw, S1, hf1, h1⟩
    · rw [if_pos hw]
      refine .inl ?_
      have h2 := execO_sound hg h1 hf1
      have h3 := Oper.wp_mono (K' := fun a' w' => C w' ∧ wpG c.g.P md ops.toArray (NoPan Q) C n (fun listed' a' w' => Region.seqB md ops.toArray (ops.toArray.size - n) n listed' = true ∧ ∃ S', Fits c.N S' a' ∧ K S' w') l.length (listed.setIfInBounds i true) a' w')
        (fun a' w' ⟨S', hf', hc', hk'⟩ => ⟨hc', planL_sound hg hs hk l _ S' a' w' inv' hB' hk' hf' hc'⟩) h2
      unfold Oper.wp at h3 ⊢
      generalize (execOp a.eval o).run c.g.P w = r at *
      cases r with
      | ok nx w' =>
        cases nx <;> simp only [Oper.upon] at h3 ⊢ <;> try exact h3
        exact h3.mono fun e w'' he => by
          cases e with
          | returned v => exact he
          | panicked ch => obtain ⟨_, _, he⟩ := he; exact he.elim
          | outgrown => obtain ⟨_, _, _, _, he⟩ := he; exact he.elim
      | halt x w' => cases x <;> simp only [Oper.upon] at h3 ⊢ <;> first | exact h3 | (obtain ⟨_, _, h3⟩ := h3; exact h3.elim)
    · rw [if_neg (by rw [hw]; decide)]
      obtain ⟨S', hf', h'⟩ := putK_sound (e := .v undef) h1 hf1
      exact ⟨hC, planL_sound hg hs hk l _ S' _ w inv' hB' h' hf' hC⟩

theorem top_op {o : Oper} {C : World → Prop} {K : Env → Prop} {v : Value} (h : ∀ a w, Fits c.N S a → C w → (execOp a.eval o).run c.g.P w = .ok (.value v) w) (k : putK c S o.dst (.v v) K) : TOp c o S C K := by
  unfold TOp; exact ⟨v, h, k⟩

/-- A region that draws, by a plan for its first n operations; the rest in the text's order. -/
theorem draw_plan (hg : c.g.Ok) {id : Nat} {ops : List Oper} {w : World} {Q : Post} (C : World → Prop) (n : Nat) (plan : List (Bool × Nat))
    (hB : (Region.noSelect ops.toArray && Nat.beq plan.length n && sinkOk .any ops.toArray n && planB .any ops.toArray n plan (Array.replicate ops.toArray.size false)) = true) (hC : C w.drew)
    (h : planL { c with named := 1000000 } ops C plan S w.drew (fun S w => execL c ops (ops.drop n) S w (fun S w => Q .normal S w) (fun _ _ _ => False))) : AtDraw c id ops S w Q := by
  unfold AtDraw
  intro a hf
  simp only [Bool.and_eq_true] at hB
  obtain ⟨⟨⟨hs, hl⟩, hsk⟩, hpl⟩ := hB
  have hl := Nat.eq_of_beq_eq_true hl
  have hk := sinkOk_spec hsk
  have hnle : n ≤ ops.length := by
    rcases hk with hk | hk
    · rw [hk]; simp
    · have := hk.1; simp at this; omega
  refine Code.wp_mono NoPan.imp (wp_region_any hg.mixed ?_)
  have inv0 : HeadInv .any ops.toArray n (Array.replicate ops.toArray.size false) :=
    ⟨by simp, fun j oj _ hl => (by rw [getD_replicate_false] at hl; cases hl), fun t _ ht => getD_in (by simpa using ht) (getD_replicate_false _ _)⟩
  have H := planL_sound (c := { c with named := 1000000 }) hg (Q := Up c Q) hs hk plan _ S a _ inv0 hpl h hf hC
  have hdl : (ops.drop n).length = ops.toArray.size - n := by simp
  have H2 := wpAny_of_G (Q := NoPan (Up c Q)) (g := ops.toArray.size - n) (fun listed' a' w' hL => by
    obtain ⟨hq, S', hf', hk'⟩ := hL
    have h2 := execL_sound (c := c) hg ops _ _ _ _ hk' hf'
    have := wpAny_of_seq (P := c.g.P) (md := .any) (ops := ops.toArray) (Q' := NoPan (Up c Q)) (ops.drop n) n listed' a' w' (fun j => by simp) (by rw [hdl]; exact hq) (wpList_mono' (fun e a w hq => by
      cases e with
      | normal => exact hq
      | _ => exact absurd hq (by rintro ⟨_, _, h⟩; exact h)) h2)
    rwa [hdl] at this) _ _ _ _ H
  rw [hl, show n + (ops.toArray.size - n) = ops.toArray.size by simp; omega] at H2
  exact H2
end
end
end Go.Proofs.YtedopgkbajhanaaGreatDoor

namespace Go.Proofs.YtedopgkbajhanaaGreatDoor
section
open Go Go.RowKit

/-- The ways through x meet again; no slot that x writes is wanted behind it. -/
theorem cut0In (cs : List Nat) {c : Cx} {S : Env} {w : World} {Q : Post} (hg : c.g.Ok) {x y : Code} (R : World → Prop)
    (hx : prune (stays x) S [] (fun S0 => exec { c with cuts := cs } x S w (fun e S2 w2 => match e with
      | .normal => Has S0 S2 ∧ R w2
      | e => Q e S2 w2)))
    (hy : prune (stays x) S [] (fun S0 => ∀ w', R w' → exec c y S0 w' Q)) : AtCode c (.seq x y) S w Q := by
  rw [prune_eq] at hx hy
  unfold AtCode
  intro a hf
  refine wp_seq (wp_mono (exec_sound (c := { c with cuts := cs }) hg x S w _ a hx hf) (fun e a2 w2 hq => ?_))
  obtain ⟨S2, hf2, hq⟩ := hq
  cases e with
  | normal => exact exec_sound hg y _ w2 Q a2 (hy w2 hq.2) (hq.1.fits hf2)
  | exit i => exact ⟨S2, hf2, hq⟩
  | goto l => exact ⟨S2, hf2, hq⟩
  | ret => exact ⟨S2, hf2, hq⟩
  | panic ch => exact ⟨S2, hf2, hq⟩
  | outgrown => exact ⟨S2, hf2, hq⟩

theorem index_i {a : Addr} {n j : Nat} {i : Int} {K : Addr → Prop} (hi : i = j) (hj : j < n) (k : K (a.add j)) : Index (some a) n i 1 K := by subst hi; exact index hj k

theorem named {a b : String} {K : Prop} (h : a = b) (k : K) : Named a b K := by unfold Named; exact ⟨h, k⟩

theorem new {w : World} {t : TypeId} {cs : List Value} {K : Addr → World → Prop} (k : ∀ w1, Ext w w1 → w1.heap.size = w.heap.size + 1 → Blk w1 w.heap.size t cs → K ⟨w.heap.size, 0, none⟩ w1) : New w t cs K := by
  unfold New; exact k _ (Ext.alloc w _) (by simp) (Blk.new w t cs)

theorem add_add (a : Addr) (n m : Nat) : (a.add n).add m = a.add (n + m) := by
  unfold Addr.add
  split
  · rename_i h; subst h; simp
  · split
    · rename_i h1 h2; subst h2; simp [h1]
    · rename_i h1 h2; simp [h1, Nat.add_assoc]

theorem overL_spec : ∀ (vs cs : List Value), vs.length ≤ cs.length → overL vs cs = vs ++ cs.drop vs.length
  | [], _, _ => rfl
  | v :: vs, [], h => by simp at h
  | v :: vs, c :: cs, h => by
    show v :: overL vs cs = _
    rw [overL_spec vs cs (by simpa using h)]; rfl
theorem putL_spec : ∀ (n : Nat) (vs cs : List Value), n + vs.length ≤ cs.length → putL n vs cs = cs.take n ++ vs ++ cs.drop (n + vs.length)
  | 0, vs, cs, h => by
    have e : putL 0 vs cs = overL vs cs := by cases cs <;> rfl
    rw [e, overL_spec vs cs (by omega)]; simp
  | n + 1, vs, [], h => by simp at h
  | n + 1, vs, c :: cs, h => by
    show c :: putL n vs cs = _
    rw [putL_spec n vs cs (by simp at h; omega)]
    rw [show n + 1 + vs.length = (n + vs.length) + 1 by omega]
    simp
theorem putL_length : ∀ (n : Nat) (vs cs : List Value), n + vs.length ≤ cs.length → (putL n vs cs).length = cs.length := fun n vs cs h => by
  rw [putL_spec n vs cs h]; simp; omega

/-- A struct is stored into a block. -/
theorem storeN_blk {P : Program} {w : World} {g t : Nat} {cs vs : List Value} {j : Nat} {K : World → Prop} (h : Blk w g t cs) (hj : j + vs.length ≤ cs.length) (hsc : ∀ u ∈ vs, scalar u = true)
    (k : ∀ w1, w.grownBy w1 (some g) → w1.heap.size = w.heap.size → Blk w1 g t (putL j vs cs) → K w1) : StoreN P w ((⟨g, 0, none⟩ : Addr).add j) vs K := by
  unfold StoreN
  have hst := run_storeCells_at P g j t vs 0 cs.toArray w h (by simpa using hj) (fun u hu => scalar_one (hsc u hu))
  rw [add_own]
  refine ⟨_, hst, ?_⟩
  refine k _ ⟨rfl, rfl, rfl, by simp, fun i _ hi => setRow_other w g i _ (fun e => hi (by rw [e]))⟩ (by simp) ?_
  have := setRow_heap w g cs.toArray (cs.toArray.toList.take (j + 0) ++ vs ++ cs.toArray.toList.drop (j + 0 + vs.length)).toArray t _ h
  unfold Blk
  rw [this, putL_spec j vs cs hj]; rfl

theorem storeN_blk0 {P : Program} {w : World} {g t : Nat} {cs vs : List Value} {K : World → Prop} (h : Blk w g t cs) (hl : vs.length = cs.length) (hsc : ∀ u ∈ vs, scalar u = true)
    (k : ∀ w1, w.grownBy w1 (some g) → w1.heap.size = w.heap.size → Blk w1 g t vs → K w1) : StoreN P w ⟨g, 0, none⟩ vs K := by
  have := storeN_blk (P := P) (j := 0) (K := K) h (by omega) hsc (fun w1 h1 h2 h3 => k w1 h1 h2 (by
    rw [putL_spec 0 vs cs (by omega), hl] at h3; simpa using h3))
  simpa [Addr.add] using this

theorem loadN_blk {w : World} {g t : Nat} {cs vs : List Value} {j n : Nat} {K : List Value → Prop} (h : Blk w g t cs) (hn : vs.length = n) (hv : ∀ i v, vs[i]? = some v → cs[j + i]? = some v) (k : K vs) : LoadN w ((⟨g, 0, none⟩ : Addr).add j) n K := by
  unfold LoadN
  exact ⟨vs, hn, fun i v hi => by rw [add_add, h.cell]; exact hv i v hi, k⟩

theorem loadN_blk0 {w : World} {g t : Nat} {cs : List Value} {n : Nat} {K : List Value → Prop} (h : Blk w g t cs) (hn : cs.length = n) (k : K cs) : LoadN w ⟨g, 0, none⟩ n K := by
  have := loadN_blk (j := 0) (vs := cs) (K := K) h hn (fun i v hi => by simpa using hi) k
  simpa [Addr.add] using this

theorem load_blk0 {w : World} {g t : Nat} {cs : List Value} {v : Value} {K : Value → Prop} (h : Blk w g t cs) (hv : cs[0]? = some v) (k : K v) : Load w ⟨g, 0, none⟩ K := by
  have := load_blk (j := 0) (K := K) h hv k
  simpa [Addr.add] using this

theorem store_blk0 {w : World} {g t : Nat} {cs : List Value} {v : Value} {K : World → Prop} (h : Blk w g t cs) (hj : 0 < cs.length) (k : ∀ w1, w.grownBy w1 (some g) → Blk w1 g t (cs.set 0 v) → K w1) : Store w ⟨g, 0, none⟩ v K := by
  have := store_blk (j := 0) (v := v) (K := K) h hj k
  simpa [Addr.add] using this

/-! ### Lists of structs -/
section
variable {α : Type} {f : α → List Value} {sz : Nat}

theorem flat_length (hf : ∀ x, (f x).length = sz) : ∀ (l : List α), (l.flatMap f).length = l.length * sz
  | [] => by simp
  | x :: l => by simp [hf, flat_length hf l, Nat.succ_mul, Nat.add_comm]

theorem flat_get (hf : ∀ x, (f x).length = sz) : ∀ (l : List α) (j : Nat) (x : α) (i : Nat) (v : Value), l[j]? = some x → (f x)[i]? = some v → (l.flatMap f)[j * sz + i]? = some v
  | [], j, x, i, v, h, _ => by simp at h
  | y :: l, 0, x, i, v, h, hi => by
    simp at h; subst h
    have : i < (f y).length := (List.getElem?_eq_some_iff.1 hi).1
    rw [List.flatMap_cons, List.getElem?_append_left (by simpa using this)]; simpa using hi
  | y :: l, j + 1, x, i, v, h, hi => by
    rw [List.flatMap_cons, List.getElem?_append_right (by rw [hf]; rw [Nat.succ_mul]; omega), hf]
    rw [show (j + 1) * sz + i - sz = j * sz + i by rw [Nat.succ_mul]; omega]
    exact flat_get hf l j x i v (by simpa using h) hi

/-- The slice reads as this list of structs. -/
def SlS (f : α → List Value) (sz : Nat) (w : World) (A : Option Addr) (n c : Nat) (l : List α) : Prop := Sl w sz A n c (l.flatMap f) ∧ l.length = n

theorem SlS.ext {w w' : World} {A : Option Addr} {n c : Nat} {l : List α} (h : SlS f sz w A n c l) (k : Ext w w') : SlS f sz w' A n c l := ⟨h.1.ext k, h.2⟩
theorem SlS.nil (w : World) : SlS f sz w none 0 0 [] := ⟨Sl.nil w sz, rfl⟩

theorem SlS.cell (hf : ∀ x, (f x).length = sz) {w : World} {A : Option Addr} {n c : Nat} {l : List α} (h : SlS f sz w A n c l) {j : Nat} {x : α} (hj : l[j]? = some x) :
    ∃ ad, A = some ad ∧ ∀ i v, (f x)[i]? = some v → w.cell? ((ad.add (j * sz)).add i) = some v := by
  have hlt : j < l.length := (List.getElem?_eq_some_iff.1 hj).1
  obtain ⟨ad, rfl, hc⟩ := h.1.at_ (by have := h.2; omega)
  exact ⟨ad, rfl, fun i v hi => by rw [add_add]; exact hc _ _ (flat_get hf l j x i v hj hi)⟩

/-- The address of a struct of a slice. -/
theorem index_sls (hf : ∀ x, (f x).length = sz) {w : World} {A : Option Addr} {n c : Nat} {l : List α} {i : Int} {j : Nat} {K : Addr → Prop} (h : SlS f sz w A n c l) (hi : i = j) (hj : j < n)
    (k : ∀ p x, l[j]? = some x → (∀ i v, (f x)[i]? = some v → w.cell? (p.add i) = some v) → K p) : Index A n i sz K := by
  subst hi
  have hlt : j < l.length := by rw [h.2]; exact hj
  have hx : l[j]? = some l[j] := List.getElem?_eq_getElem hlt
  obtain ⟨ad, rfl, hc⟩ := h.cell hf hx
  unfold Index
  exact ⟨ad, rfl, by omega, by omega, by simpa using k _ _ hx hc⟩

theorem loadN_at {w : World} {p : Addr} {vs : List Value} {n : Nat} {K : List Value → Prop} (hn : vs.length = n) (h : ∀ i v, vs[i]? = some v → w.cell? (p.add i) = some v) (k : K vs) : LoadN w p n K := by
  unfold LoadN; exact ⟨vs, hn, h, k⟩
end

/-! ### Appending, for values of any size -/
theorem append_blockN {P : Program} {w w1 : World} {t ty e : TypeId} {i : TypeInfo} {z : Value} {bytes base n m cc sz : Nat} {v v' : Value} {xs ys : List Value} (ht : P.underlying t = some (.slice e)) (hi : P.info? e = some i) (hz : i.zero = some z) (hs : i.size = sz) (hby : i.bytes = bytes)
    (hown : w.ownsRow base e sz v n xs) (b : Addr) (hm : 0 < m) (hl : ys.length = m * sz) (hcell : ∀ j u, ys[j]? = some u → w.cell? (b.add j) = some u) (h1 : ∀ u ∈ ys, u.oneCell' = true) (h63 : n + m ≤ maxLen) (hbytes : (n + m) * bytes ≤ 140737488355328)
    (hrun : (Builtin.append_ #[t, t] ty #[v, .slice (some b) m cc]).run P w = .ok v' w1) : ∀ g', v'.ownBlock = some g' → v.ownBlock = some g' ∨ w.heap.size ≤ g' := by
  intro g' hg'
  subst hby
  have hsmall : n + m ≤ 9223372036854775807 := by simp only [maxLen] at h63; omega
  rcases hown.2 with ⟨rfl, rfl⟩ | ⟨g, cap, cur, rfl, hbg, hg, hnc, hcm, hcs, htake⟩
  · have hr := run_append_nil (P := P) w t ty e i z ht hi hz b m cc ys (by rw [hl, hs]) hcell (by omega) (by omega) (by have hb := hbytes; simp only [Nat.zero_add] at hb; omega)
    rw [hr] at hrun
    cases hrun
    simp [Value.ownBlock] at hg'
    exact .inr (by omega)
  · by_cases hroom : n + m ≤ cap
    · have hr := run_append_room (P := P) w t ty e i ht hi g n cap cur hg b m cc ys (by rw [hl, hs]) hcell h1 hroom (by rw [hl, hs, hcs, ← Nat.add_mul]; exact Nat.mul_le_mul_right _ hroom)
      rw [hr] at hrun
      cases hrun
      exact .inl hg'
    · have holds : ∀ j u, xs[j]? = some u → w.cell? ((⟨g, 0, none⟩ : Addr).add j) = some u := hown.cells (g := g) rfl
      have hr := run_append_grow (P := P) w t ty e i z ht hi hz ⟨g, 0, none⟩ n cap xs (by rw [hs]; exact hown.1) holds b m cc ys (by rw [hl, hs]) hcell (by omega) (by omega) (growslice_fits (by omega) hbytes)
      rw [hr] at hrun
      cases hrun
      simp [Value.ownBlock] at hg'
      exact .inr (by omega)

theorem at_appendN {c : Cx} (hg : c.g.Ok) {o : Oper} {S : Env} {w : World} {K : Env → World → Prop} {Q : Post} {t t2 e sz : Nat} {x y : Operand} {A B : Option Addr} {n cp : Nat} {m c2 : Nat} {xs ys : List Value} {base : Nat} {r re r2 : TyRow}
    (ho : o.op = .call ⟨.builtin .append, #[x, y], #[t, t2]⟩) (hr : rowOf c.g.tys t = some r) (hd : r.d = .slice e) (hre : rowOf c.g.tys e = some re) (hs : re.sz = sz) (hsz0 : 0 < sz) (hzc : re.z.cells.size = sz) (hr2 : rowOf c.g.tys t2 = some r2) (hd2 : ∃ e2, r2.d = .slice e2)
    (hx : S.ev x = some (.slice A n cp)) (hy : S.ev y = some (.slice B m c2)) (hown : Own w base e sz A n cp xs) (hys : Sl w sz B m c2 ys) (hsc : ∀ u ∈ ys, scalar u = true)
    (h63 : n + m ≤ maxLen) (hby : (n + m) * re.by_ ≤ 140737488355328) (hbase : base ≤ w.heap.size)
    (k : ∀ A' c' w1, w.grownBy w1 (Value.slice A n cp).ownBlock → Own w1 base e sz A' (n + m) c' (xs ++ ys) → (∀ ad, A' = some ad → A = some ad ∨ w.heap.size ≤ ad.block) → putK c S o.dst (.v (.slice A' (n + m) c')) (fun S => K S w1)) : AtOp c o S w K Q := by
  obtain ⟨_, i, hi, hsz, hbyt, hiz⟩ := hg.row hre
  have hr' := (hg.row hr).1
  rw [hd] at hr'
  obtain ⟨e2, hd2⟩ := hd2
  have hr2' := (hg.row hr2).1
  rw [hd2] at hr2'
  have hlen : ys.length = m * sz := hys.len
  unfold AtOp
  intro a hf
  have e1 := hf.ev hx
  have e2' := hf.ev hy
  have key : ∃ v' w1, (Builtin.append_ #[t, t] o.type #[.slice A n cp, .slice B m c2]).run c.g.P w = .ok v' w1 ∧ w1.ownsRow base e sz v' (n + m) (xs ++ ys) ∧ w.grownBy w1 (Value.slice A n cp).ownBlock ∧ (∀ g', v'.ownBlock = some g' → (Value.slice A n cp).ownBlock = some g' ∨ w.heap.size ≤ g') := by
    by_cases h0 : m = 0
    · subst h0
      have hnil : ys = [] := List.eq_nil_of_length_eq_zero (by omega)
      subst hnil
      have hle : n ≤ cp := hown.sl.le
      refine ⟨.slice A n cp, w, ?_, by simpa using hown.row, ⟨rfl, rfl, rfl, Nat.le_refl _, fun _ _ _ => rfl⟩, fun _ h => .inl h⟩
      cases A <;> cases B <;> simp [Builtin.append_, run_underlying hr', sizeOf, typeInfo, hi, Builtin.lenOf, hle, Builtin.firstCells, loadCells, loadCellsFrom, storeCells]
    · obtain ⟨b, rfl, hcell⟩ := hys.at_ (by omega)
      obtain ⟨v', w1, hrun, how, hgr, _⟩ := run_append_own (P := c.g.P) (w := w) base t o.type e i re.z sz re.by_ hr' hi hiz (by rw [hsz, hs]) hbyt hzc hsz0 _ n xs hown.row b m c2 ys hlen hcell (fun u hu => scalar_one (hsc u hu)) h63 hby hbase
      exact ⟨v', w1, hrun, how, hgr, append_blockN hr' hi hiz (by rw [hsz, hs]) hbyt hown.row b (by omega) hlen hcell (fun u hu => scalar_one (hsc u hu)) h63 hby hrun⟩
  obtain ⟨v', w1, hrun, how, hgr, hblk⟩ := key
  obtain ⟨A', c', rfl, hown'⟩ := Own.form how
  have hblk' : ∀ ad, A' = some ad → A = some ad ∨ w.heap.size ≤ ad.block := fun ad e => by
    subst e
    rcases hblk ad.block rfl with h | h
    · left
      rcases hown.row.2 with ⟨hv, _⟩ | ⟨g, cap, cur, hv, _⟩
      · cases hv; simp [Value.ownBlock] at h
      · cases hv
        rcases how.2 with ⟨hv, _⟩ | ⟨g2, cap2, cur2, hv2, _⟩
        · cases hv
        · cases hv2; simp [Value.ownBlock] at h; rw [h]
    · exact .inr h
  refine wp_value (v := .slice A' (n + m) c') (w' := w1) ?_ (putK_sound (e := .v _) (k A' c' w1 hgr hown' hblk') hf)
  have hsame : (Builtin.append_ #[t, t2] o.type #[.slice A n cp, .slice B m c2]).run c.g.P w = (Builtin.append_ #[t, t] o.type #[.slice A n cp, .slice B m c2]).run c.g.P w := by
    simp [Builtin.append_, run_underlying hr', run_underlying hr2']
  simp only [execOp, ho, resolve, invoke]
  simp [builtin, e1, e2', hsame, hrun]

theorem append_block_str {P : Program} {w w1 : World} {t u ty e : TypeId} {i : TypeInfo} {base n : Nat} {v v' : Value} {xs : List Value} (ht : P.underlying t = some (.slice e)) (hu : P.underlying u = some .string) (hi : P.info? e = some i) (hz : i.zero = some (.int .u8 0)) (hs : i.size = 1) (hby : i.bytes = 1)
    (hown : w.ownsRow base e 1 v n xs) (s : ByteArray) (hbytes : n + s.size ≤ 140737488355328)
    (hrun : (Builtin.append_ #[t, u] ty #[v, .string s]).run P w = .ok v' w1) : ∀ g', v'.ownBlock = some g' → v.ownBlock = some g' ∨ w.heap.size ≤ g' := by
  intro g' hg'
  have hxl : xs.length = n := by simpa using hown.1
  rcases hown.2 with ⟨rfl, rfl⟩ | ⟨g, cap, cur, rfl, hbg, hg, hnc, hcm, hcs, htake⟩
  · by_cases hm : s.size = 0
    · have hf := Lib.run_firstCells_string (P := P) w 1 s
      rw [hm] at hf
      have : (Builtin.append_ #[t, u] ty #[.slice none 0 0, .string s]).run P w = .ok (.slice none 0 0) w := by
        simp [Builtin.append_, run_underlying ht, run_underlying hu, sizeOf, typeInfo, hi, hs, Builtin.lenOf, hm, hf]
      rw [this] at hrun
      cases hrun
      simp [Value.ownBlock] at hg'
    · have hr := run_append_nil_string (P := P) w t u ty e i (.int .u8 0) ht hu hi hz s (by omega) (by omega) (by rw [hby]; omega)
      rw [hr] at hrun
      cases hrun
      simp [Value.ownBlock] at hg'
      exact .inr (by omega)
  · by_cases hroom : n + s.size ≤ cap
    · have hcs' : cur.size = cap := by simpa using hcs
      have hr := Lib.run_append_room_string (P := P) w t u ty e i ht hu hi hs g n cap cur hg s hroom (by omega)
      rw [hr] at hrun
      cases hrun
      exact .inl hg'
    · have holds : ∀ j u, xs[j]? = some u → w.cell? ((⟨g, 0, none⟩ : Addr).add j) = some u := hown.cells (g := g) rfl
      have hr := Lib.run_append_grow_string (P := P) w t u ty e i (.int .u8 0) ht hu hi hz ⟨g, 0, none⟩ n cap xs (by rw [hs]; simpa using hxl) holds s (by omega) (by omega) (by rw [hby]; exact growslice_fits (by omega) (by omega))
      rw [hr] at hrun
      cases hrun
      simp [Value.ownBlock] at hg'
      exact .inr (by omega)

/-- 'append(b, s...)' of a string's bytes. -/
theorem at_append_str {c : Cx} (hg : c.g.Ok) {o : Oper} {S : Env} {w : World} {K : Env → World → Prop} {Q : Post} {t t2 e : Nat} {x y : Operand} {A : Option Addr} {n cp : Nat} {s : ByteArray} {xs : List Value} {base : Nat} {r re r2 : TyRow}
    (ho : o.op = .call ⟨.builtin .append, #[x, y], #[t, t2]⟩) (hr : rowOf c.g.tys t = some r) (hd : r.d = .slice e) (hre : rowOf c.g.tys e = some re) (hs : re.sz = 1) (hzc : re.z = .int .u8 0) (hbt : re.by_ = 1) (hr2 : rowOf c.g.tys t2 = some r2) (hd2 : r2.d = .string)
    (hx : S.ev x = some (.slice A n cp)) (hy : S.ev y = some (.string s)) (hown : Own w base e 1 A n cp xs)
    (h63 : n + s.size ≤ 140737488355328) (hbase : base ≤ w.heap.size)
    (k : ∀ A' c' w1, w.grownBy w1 (Value.slice A n cp).ownBlock → Own w1 base e 1 A' (n + s.size) c' (xs ++ Lib.strCells s) → (∀ ad, A' = some ad → A = some ad ∨ w.heap.size ≤ ad.block) → putK c S o.dst (.v (.slice A' (n + s.size) c')) (fun S => K S w1)) : AtOp c o S w K Q := by
  obtain ⟨_, i, hi, hsz, hbyt, hiz⟩ := hg.row hre
  have hr' := (hg.row hr).1
  rw [hd] at hr'
  have hr2' := (hg.row hr2).1
  rw [hd2] at hr2'
  unfold AtOp
  intro a hf
  have e1 := hf.ev hx
  have e2' := hf.ev hy
  obtain ⟨v', w1, hrun, how, hgr, _⟩ := Lib.run_append_own_string (P := c.g.P) (w := w) base t t2 o.type e i hr' hr2' hi (by rw [hiz, hzc]) (by rw [hsz, hs]) (by rw [hbyt, hbt]) _ n xs hown.row s (by unfold maxLen; omega) h63 hbase
  have hblk := append_block_str hr' hr2' hi (by rw [hiz, hzc]) (by rw [hsz, hs]) (by rw [hbyt, hbt]) hown.row s h63 hrun
  obtain ⟨A', c', rfl, hown'⟩ := Own.form how
  have hblk' : ∀ ad, A' = some ad → A = some ad ∨ w.heap.size ≤ ad.block := fun ad e => by
    subst e
    rcases hblk ad.block rfl with h | h
    · left
      rcases hown.row.2 with ⟨hv, _⟩ | ⟨g, cap, cur, hv, _⟩
      · cases hv; simp [Value.ownBlock] at h
      · cases hv
        rcases how.2 with ⟨hv, _⟩ | ⟨g2, cap2, cur2, hv2, _⟩
        · cases hv
        · cases hv2; simp [Value.ownBlock] at h; rw [h]
    · exact .inr h
  refine wp_value (v := .slice A' (n + s.size) c') (w' := w1) ?_ (putK_sound (e := .v _) (k A' c' w1 hgr hown' hblk') hf)
  simp only [execOp, ho, resolve, invoke]
  simp [builtin, e1, e2', hrun]

/-! ### Slices that are built -/
def buildL : Nat → List (List Value) → List (Nat × Value) → Prop
  | _, [], [] => True
  | n, cs :: l, (i, v) :: r => i = n ∧ cellsL v = cs ∧ buildL (n + 1) l r
  | _, _, _ => False

theorem fill_build {sz : Nat} {z : List Value} (hz : z.length = sz) : ∀ (parts : List (Nat × Value)) (n : Nat) (l : List (List Value)) (pre : List Value), buildL n l parts → (∀ cs ∈ l, cs.length = sz) → pre.length = n * sz →
    Instr.fill (fun i => some (i * sz, sz)) (pre ++ (List.replicate l.length z).flatten).toArray parts = some (pre ++ l.flatten).toArray
  | [], n, [], pre, _, _, _ => by simp [Instr.fill]
  | [], n, _ :: _, pre, h, _, _ => h.elim
  | _ :: _, n, [], pre, h, _, _ => h.elim
  | (i, v) :: parts, n, cs :: l, pre, h, hl, hp => by
    obtain ⟨rfl, rfl, h'⟩ := h
    have hc : (cellsL v).length = sz := hl _ (by simp)
    have hcs : v.cells.size = sz := by rw [← hc, ← cells_toList]; simp
    have hcond : ¬ ((v.cells.size ≠ sz || i * sz + v.cells.size > (pre ++ (List.replicate (cellsL v :: l).length z).flatten).toArray.size) = true) := by
      rw [hcs]; simp [hp, List.replicate_succ, hz]
    unfold Instr.fill
    simp only
    rw [if_neg hcond]
    have e : (v.cells.zipIdx.foldl (fun cs (c, j) => cs.setIfInBounds (i * sz + j) c) (pre ++ (List.replicate (cellsL v :: l).length z).flatten).toArray) = ((pre ++ cellsL v) ++ (List.replicate l.length z).flatten).toArray := by
      apply Array.ext'
      rw [foldl_cells, cells_toList, putL_spec _ _ _ (by simp [hp, List.replicate_succ, hz, hc])]
      simp only [List.length_cons, List.replicate_succ, List.flatten_cons]
      rw [List.take_append, List.drop_append, hp]
      simp only [Nat.sub_self, List.take_zero, List.append_nil]
      rw [List.take_of_length_le (by omega), List.drop_of_length_le (by omega), List.nil_append]
      rw [show i * sz + (cellsL v).length - i * sz = sz by omega, List.drop_append, hz, Nat.sub_self, List.drop_zero, List.drop_of_length_le (by omega)]
      simp
    rw [e]
    have := fill_build hz parts (i + 1) l (pre ++ cellsL v) h' (fun cs hcs => hl cs (by simp [hcs])) (by rw [List.length_append, hp, hc, Nat.succ_mul])
    rw [this]
    simp

theorem zeros_flat (z : List Value) (hz : 0 < z.length) : ∀ (n : Nat), (List.range (n * z.length)).map (fun j => z.toArray[j % z.length]!) = (List.replicate n z).flatten
  | 0 => by simp
  | n + 1 => by
    rw [Nat.succ_mul, List.range_add, List.map_append, zeros_flat z hz n, List.replicate_succ', List.flatten_append]
    congr 1
    simp only [List.map_map, List.flatten_cons, List.flatten_nil, List.append_nil]
    apply List.ext_getElem
    · simp
    · intro i h1 h2
      simp at h1
      simp [Nat.mod_eq_of_lt h1, h1]

theorem at_buildN {c : Cx} (hg : c.g.Ok) {o : Oper} {S : Env} {w : World} {K : Env → World → Prop} {Q : Post} {t e n : Nat} {r re : TyRow} {ps : Array (Nat × Operand)} {vs : List (Nat × Value)} (l : List (List Value))
    (ho : o.op = .buildSlice t n ps) (hr : rowOf c.g.tys t = some r) (hd : r.d = .slice e) (hre : rowOf c.g.tys e = some re) (hv : evP S ps.toList = some vs) (hb : buildL 0 l vs) (hn : l.length = n) (hl : ∀ cs ∈ l, cs.length = re.sz) (hz : (cellsL re.z).length = re.sz) (hsz : 0 < re.sz) (hbig : n * re.sz ≤ 16777216)
    (k : ∀ w1, Ext w w1 → w1.heap.size = w.heap.size + 1 → Blk w1 w.heap.size e l.flatten → putK c S o.dst (.v (.slice (some ⟨w.heap.size, 0, none⟩) n n)) (fun S => K S w1)) : AtOp c o S w K Q := by
  obtain ⟨_, i, hi, hsi, hbyt, hiz⟩ := hg.row hre
  have hr' := (hg.row hr).1
  rw [hd] at hr'
  subst hn
  refine at_run (w' := w.alloc (.cells l.flatten.toArray e)) (fun a hf => ?_) (k _ (Ext.alloc w _) (by simp) (Blk.new w e l.flatten))
  have hpm := evP_spec (ρ := a.eval) (fun x v h => hf.ev h) _ _ hv
  have hpm' : (ps.map fun (x : Nat × Operand) => (x.1, a.eval x.2)).toList = vs := by rw [Array.toList_map]; exact hpm
  have hzc : re.z.cells = (cellsL re.z).toArray := by rw [← cells_toList]
  have hfill := fill_build hz vs 0 l [] hb hl (by simp)
  simp only [List.nil_append] at hfill
  have hzs := zeros_flat (cellsL re.z) (by rw [hz]; exact hsz) l.length
  rw [hz] at hzs
  simp only [execOp, ho, Instr.buildSlice]
  rw [show (ps.map fun (x : Nat × Operand) => (x.1, a.eval x.2)).toList = vs from hpm']
  have h24 : ¬ l.length * re.sz > 2 ^ 24 := by omega
  by_cases h0 : l.length = 0
  · have hnil : l = [] := List.eq_nil_of_length_eq_zero h0
    subst hnil
    cases vs with
    | cons p vs => exact hb.elim
    | nil => simp [run_underlying hr', sizeOf, typeInfo, hi, Instr.fill, newRow, Array.range_zero']
  · have h1 : ¬ (l.length * re.sz = 0) := by
      intro h; rcases Nat.mul_eq_zero.1 h with h | h <;> omega
    have hmap : (Array.range (l.length * re.sz)).map (fun j => (cellsL re.z).toArray[j % (cellsL re.z).toArray.size]!) = (List.replicate l.length (cellsL re.z)).flatten.toArray := by
      apply Array.ext'
      rw [Array.toList_map, Array.toList_range]
      simpa [hz] using hzs
    simp only [Sem.run_bind, run_underlying hr', Result.andThen_ok, sizeOf, typeInfo, run_program, hi, Sem.run_pure, hsi, if_neg h24, if_neg h1, zeroValue, hiz, hzc]
    rw [hmap]
    simp only [hfill]
    simp [newRow]

/-! ### Maps with plain keys -/
def sameKind : TypeDesc → Nat
  | .int _ => 0
  | .string => 1
  | .bool => 2
  | _ => 1000

structure KeyV {α : Type} [DecidableEq α] (d : TypeDesc) (kv : α → Value) : Prop where
  same : ∀ a b, Instr.sameNow d (kv a) (kv b) = some (decide (a = b))
  bits : ∀ a n, Instr.sameBits n (kv a) (kv a) = true
  plain : sameKind d < 3

theorem KeyV.int (k : IntKind) : KeyV (.int k) (fun n : Int => .int k n) := ⟨fun a b => by simp [Instr.sameNow]; rfl, fun a n => by cases n <;> simp [Instr.sameBits], by simp [sameKind]⟩
theorem KeyV.str : KeyV .string (fun s : ByteArray => .string s) := ⟨fun a b => by
    simp only [Instr.sameNow, Option.some.injEq]
    rw [beq_toListBytes, bytes_beq], fun a n => by cases n <;> (simp only [Instr.sameBits]; rw [beq_toListBytes, bytes_beq]; simp), by simp [sameKind]⟩
def assoc {α : Type} [DecidableEq α] (a : α) : List (α × Value) → Option Value
  | [] => none
  | (b, v) :: l => if a = b then some v else assoc a l

def assocSet {α : Type} [DecidableEq α] (a : α) (v : Value) : List (α × Value) → List (α × Value)
  | [] => [(a, v)]
  | (b, u) :: l => if a = b then (b, v) :: l else (b, u) :: assocSet a v l

theorem assoc_set {α : Type} [DecidableEq α] (a b : α) (v : Value) : ∀ l, assoc b (assocSet a v l) = if b = a then some v else assoc b l
  | [] => by simp [assocSet, assoc]
  | (d, u) :: l => by
    simp only [assocSet]
    split
    · rename_i h; subst h
      simp only [assoc]; split <;> rfl
    · rename_i h
      simp only [assoc, assoc_set a b v l]
      by_cases h1 : b = d
      · subst h1; rw [if_pos rfl, if_neg (fun e => h e.symm)]; simp
      · rw [if_neg h1, if_neg h1]

/-- The map's entries, in their order: each with its stamp. -/
def entsOf {α : Type} (kv : α → Value) (m : List (α × Value)) (bs : List Nat) : List MapEntry := (m.zip bs).map fun p => { key := kv p.1.1, val := p.1.2, born := p.2 }

structure MapAt {α : Type} (kv : α → Value) (w : World) (r : Nat) (m : List (α × Value)) : Prop where
  ex : ∃ bs ck, bs.length = m.length ∧ w.heap[r]? = some (.map (entsOf kv m bs).toArray ck)

theorem MapAt.ext {α : Type} {kv : α → Value} {w w' : World} {r : Nat} {m : List (α × Value)} (h : MapAt kv w r m) (k : Ext w w') : MapAt kv w' r m := by
  obtain ⟨bs, ck, hl, hb⟩ := h.ex
  exact ⟨bs, ck, hl, (k.block r (Array.getElem?_eq_some_iff.1 hb).1 (by simp)).trans hb⟩
theorem MapAt.lt {α : Type} {kv : α → Value} {w : World} {r : Nat} {m : List (α × Value)} (h : MapAt kv w r m) : r < w.heap.size := by
  obtain ⟨bs, ck, hl, hb⟩ := h.ex
  exact (Array.getElem?_eq_some_iff.1 hb).1
section
variable {α : Type} [DecidableEq α] {d : TypeDesc} {kv : α → Value}

theorem at_makeMap {α : Type} {c : Cx} (_ : c.g.Ok) {o : Oper} {S : Env} {w : World} {K : Env → World → Prop} {Q : Post} {t : Nat} (kv : α → Value) (ho : o.op = .makeMap t none)
    (k : ∀ w1, Ext w w1 → w1.heap.size = w.heap.size + 1 → MapAt kv w1 w.heap.size [] → putK c S o.dst (.v (.map (some w.heap.size))) (fun S => K S w1)) : AtOp c o S w K Q := by
  refine at_run (w' := w.alloc (.map #[] 0)) (fun a hf => ?_) (k _ (Ext.alloc w _) (by simp) ⟨[], 0, rfl, heap_alloc_new w _⟩)
  simp [execOp, ho, Instr.makeMap]

theorem run_checkKey_plain {P : Program} {t : TypeId} (hu : P.underlying t = some d) (hd : sameKind d < 3) (b : Bool) (n : Nat) (v : Value) (w : World) : (Instr.checkKey b (n + 1) t v).run P w = .ok () w := by
  simp only [Instr.checkKey, Sem.run_bind, run_underlying hu, Result.andThen_ok]
  cases d <;> first | (simp [sameKind] at hd; done) | rfl

theorem findNow_ents (hk : KeyV d kv) (a : α) : ∀ (m : List (α × Value)) (bs : List Nat) (i : Nat), bs.length = m.length →
    ∃ r, Instr.findNow d (kv a) (entsOf kv m bs) i = some r ∧ r.map (·.2) = assoc a m ∧ (∀ j v, r = some (j, v) → i ≤ j ∧ j < i + m.length ∧ ∀ v', entsOf kv (assocSet a v' m) bs = (entsOf kv m bs).modify (j - i) (fun e => { e with key := kv a, val := v' }) ∧ ((entsOf kv m bs)[j - i]?).map (·.key) = some (kv a)) ∧ (r = none → ∀ v', assocSet a v' m = m ++ [(a, v')])
  | [], bs, i, h => ⟨none, rfl, rfl, (fun j v h => by cases h), fun _ v' => rfl⟩
  | (b, u) :: m, [], i, h => by simp at h
  | (b, u) :: m, s :: bs, i, h => by
    have e : entsOf kv ((b, u) :: m) (s :: bs) = { key := kv b, val := u, born := s } :: entsOf kv m bs := rfl
    rw [e]
    unfold Instr.findNow
    simp only [hk.same]
    by_cases hab : a = b
    · subst hab
      simp only [decide_true]
      refine ⟨some (i, u), rfl, by simp [assoc], fun j v hj => ?_, fun h => by cases h⟩
      cases hj
      refine ⟨Nat.le_refl _, by simp, fun v' => ?_⟩
      simp [assocSet, entsOf]
    · simp only [hab, decide_false]
      obtain ⟨r, h1, h2, h3, h4⟩ := findNow_ents hk a m bs (i + 1) (by simpa using h)
      refine ⟨r, h1, by simp [assoc, hab, h2], fun j v hj => ?_, fun hn v' => by simp [assocSet, hab, h4 hn v']⟩
      obtain ⟨h5, h6, h7⟩ := h3 j v hj
      refine ⟨by omega, by simp; omega, fun v' => ?_⟩
      obtain ⟨h8, h9⟩ := h7 v'
      rw [show j - i = (j - (i + 1)) + 1 by omega]
      refine ⟨?_, by simpa using h9⟩
      simp only [assocSet, hab, if_false]
      rw [show entsOf kv ((b, u) :: assocSet a v' m) (s :: bs) = { key := kv b, val := u, born := s } :: entsOf kv (assocSet a v' m) bs from rfl, h8]
      simp

variable {c : Cx} (hg : c.g.Ok) {o : Oper} {S : Env} {w : World} {K : Env → World → Prop} {Q : Post} {t ke e : Nat} {r rk re : TyRow} {x y : Operand} {q : Nat} {m : List (α × Value)} {a : α}
include hg

theorem run_lookup (hr : rowOf c.g.tys t = some r) (hd : r.d = .map ke e) (hrk : rowOf c.g.tys ke = some rk) (hre : rowOf c.g.tys e = some re) (hk : KeyV rk.d kv) (hm : MapAt kv w q m) (ok : Bool) :
    (Instr.lookup t (.map (some q)) (kv a) ok).run c.g.P w = .ok (match assoc a m with
      | some v => if ok then .tuple #[v, .bool true] else v
      | none => if ok then .tuple #[re.z, .bool false] else re.z) w := by
  have hr' := (hg.row hr).1
  rw [hd] at hr'
  have hrk' := (hg.row hrk).1
  obtain ⟨_, i, hi, _, _, hz⟩ := hg.row hre
  obtain ⟨bs, ck, hl, hb⟩ := hm.ex
  obtain ⟨res, h1, h2, _, _⟩ := findNow_ents hk a m bs 0 hl
  have hgo : (getObj q).run c.g.P w = .ok (.map (entsOf kv m bs).toArray ck) w := by simp [getObj, Sem.run, hb]
  simp only [Instr.lookup, Sem.run_bind, run_underlying hr', Result.andThen_ok, hgo]
  simp only [Sem.run_pure, Result.andThen_ok, run_checkKey_plain hrk' hk.plain, Instr.findKey, Sem.run_bind, run_underlying hrk', h1]
  cases res with
  | none =>
    have : assoc a m = none := by simpa using h2.symm
    rw [this]
    cases ok <;> simp [zeroValue, typeInfo, hi, hz]
  | some p =>
    have : assoc a m = some p.2 := by simpa using h2.symm
    rw [this]
    cases ok <;> simp

theorem at_lookup (ho : o.op = .lookup t x y false) (hr : rowOf c.g.tys t = some r) (hd : r.d = .map ke e) (hrk : rowOf c.g.tys ke = some rk) (hre : rowOf c.g.tys e = some re) (hk : KeyV rk.d kv)
    (hx : S.ev x = some (.map (some q))) (hy : S.ev y = some (kv a)) (hm : MapAt kv w q m) (k : putK c S o.dst (.v ((assoc a m).getD re.z)) (fun S => K S w)) : AtOp c o S w K Q := by
  refine at_run (w' := w) (v := (assoc a m).getD re.z) (fun b hf => ?_) k
  have e1 := hf.ev hx
  have e2 := hf.ev hy
  have := run_lookup (w := w) (a := a) hg hr hd hrk hre hk hm false
  simp only [execOp, ho, e1, e2]
  simp only [Sem.run_bind, this, Result.andThen_ok]
  cases assoc a m <;> simp

theorem at_lookup_ok (ho : o.op = .lookup t x y true) (hr : rowOf c.g.tys t = some r) (hd : r.d = .map ke e) (hrk : rowOf c.g.tys ke = some rk) (hre : rowOf c.g.tys e = some re) (hk : KeyV rk.d kv)
    (hx : S.ev x = some (.map (some q))) (hy : S.ev y = some (kv a)) (hm : MapAt kv w q m) (k : putK c S o.dst (.v (.tuple #[(assoc a m).getD re.z, .bool (assoc a m).isSome])) (fun S => K S w)) : AtOp c o S w K Q := by
  refine at_run (w' := w) (v := .tuple #[(assoc a m).getD re.z, .bool (assoc a m).isSome]) (fun b hf => ?_) k
  have e1 := hf.ev hx
  have e2 := hf.ev hy
  have := run_lookup (w := w) (a := a) hg hr hd hrk hre hk hm true
  simp only [execOp, ho, e1, e2]
  simp only [Sem.run_bind, this, Result.andThen_ok]
  cases assoc a m <;> simp

theorem at_mapUpdate {v : Value} {z : Operand} (ho : o.op = .mapUpdate t x y z) (hdst : o.dst = none) (hr : rowOf c.g.tys t = some r) (hd : r.d = .map ke e) (hrk : rowOf c.g.tys ke = some rk) (hk : KeyV rk.d kv)
    (hx : S.ev x = some (.map (some q))) (hy : S.ev y = some (kv a)) (hz : S.ev z = some v) (hm : MapAt kv w q m)
    (k : ∀ w1, w.grownBy w1 (some q) → w1.heap.size = w.heap.size → MapAt kv w1 q (assocSet a v m) → K S w1) : AtOp c o S w K Q := by
  have hr' := (hg.row hr).1
  rw [hd] at hr'
  have hrk' := (hg.row hrk).1
  obtain ⟨bs, ck, hl, hb⟩ := hm.ex
  have hlt : q < w.heap.size := (Array.getElem?_eq_some_iff.1 hb).1
  obtain ⟨res, h1, h2, h3, h4⟩ := findNow_ents hk a m bs 0 hl
  have hgo : (getObj q).run c.g.P w = .ok (.map (entsOf kv m bs).toArray ck) w := by simp [getObj, Sem.run, hb]
  have hset : ∀ ob, (setObj q ob).run c.g.P w = .ok () { w with heap := w.heap.setIfInBounds q ob } := fun ob => by simp [setObj, Sem.run, hb]
  have main : ∃ ob, (Instr.mapUpdate t (.map (some q)) (kv a) v).run c.g.P w = .ok () { w with heap := w.heap.setIfInBounds q ob } ∧ ∃ bs' ck', bs'.length = (assocSet a v m).length ∧ ob = .map (entsOf kv (assocSet a v m) bs').toArray ck' := by
    cases res with
    | none =>
      refine ⟨_, ?_, bs ++ [ck], ck + 1, ?_, rfl⟩
      · simp only [Instr.mapUpdate, Sem.run_bind, run_underlying hr', Result.andThen_ok, hgo, run_checkKey_plain hrk' hk.plain, Instr.findKey, run_underlying hrk', h1, Sem.run_pure, hset]
        rw [h4 rfl v]
        congr 4
        simp only [entsOf]
        rw [List.zip_append hl.symm, List.map_append]
        simp
      · rw [h4 rfl v]; simp [hl]
    | some p =>
      obtain ⟨j, u⟩ := p
      obtain ⟨_, hj, h7⟩ := h3 j u rfl
      obtain ⟨h8, h9⟩ := h7 v
      simp only [Nat.sub_zero] at h8 h9
      have hkey : (((entsOf kv m bs).toArray[j]?).map (·.key)).getD (kv a) = kv a := by
        rw [show (entsOf kv m bs).toArray[j]? = (entsOf kv m bs)[j]? from by simp, h9]; rfl
      refine ⟨_, ?_, bs, ck, ?_, rfl⟩
      · simp only [Instr.mapUpdate, Sem.run_bind, run_underlying hr', Result.andThen_ok, hgo, run_checkKey_plain hrk' hk.plain, Instr.findKey, run_underlying hrk', h1, Sem.run_pure, hkey, Instr.keyThatStays, hk.bits, if_true, hset]
        rw [h8]
        congr 4
        simp
      · have := congrArg List.length h8
        simp only [entsOf, List.length_map, List.length_zip, List.length_modify] at this
        have hlen : (assocSet a v m).length = m.length := by
          have hmin : ∀ (m : List (α × Value)), (assoc a m).isSome → (assocSet a v m).length = m.length := by
            intro m
            induction m with
            | nil => intro h; simp [assoc] at h
            | cons p m ih =>
              obtain ⟨b, x⟩ := p
              intro h
              simp only [assocSet]
              split
              · simp
              · rename_i hab; simp [ih (by simpa [assoc, hab] using h)]
          exact hmin m (by rw [← h2]; rfl)
        rw [hlen, hl]
  obtain ⟨ob, hrun, bs', ck', hl', rfl⟩ := main
  unfold AtOp
  intro b hf
  have e1 := hf.ev hx
  have e2 := hf.ev hy
  have e3 := hf.ev hz
  unfold Oper.wp
  have : (execOp b.eval o).run c.g.P w = .ok .skip { w with heap := w.heap.setIfInBounds q (.map (entsOf kv (assocSet a v m) bs').toArray ck') } := by
    simp only [execOp, ho, e1, e2, e3]
    simp [hrun]
  rw [this]
  refine ⟨S, by rw [hdst]; simpa [Act.put] using hf, k _ ⟨rfl, rfl, rfl, by simp, fun i _ hi => ?_⟩ (by simp) ⟨bs', ck', hl', ?_⟩⟩
  · simp only [Array.getElem?_setIfInBounds]
    rw [if_neg (fun e => hi (by rw [e]))]
  · simp [hlt]
end
end
end Go.Proofs.YtedopgkbajhanaaGreatDoor

namespace Go.Proofs.YtedopgkbajhanaaGreatDoor
section
open Go Go.RowKit

noncomputable def gx : Gx where
  P := Tryz.prog
  tys := [
    ⟨1, .func #[] #[] false, 1, 8, .nilFunc⟩,
    ⟨3, .int .i64, 1, 8, .int .i64 0⟩,
    ⟨4, .bool, 1, 1, .bool false⟩,
    ⟨5, .int .u8, 1, 1, .int .u8 0⟩,
    ⟨9, .string, 1, 16, .string ByteArray.empty⟩,
    ⟨20, .interface #[], 1, 16, .nilIface⟩,
    ⟨21, .int .i32, 1, 4, .int .i32 0⟩,
    ⟨22, .slice 38, 1, 24, .slice none 0 0⟩,
    ⟨24, .slice 9, 1, 24, .slice none 0 0⟩,
    ⟨27, .slice 45, 1, 24, .slice none 0 0⟩,
    ⟨29, .struct #[{ name := "Text", type := 9, offset := 0, embedded := false, tag := "", pkgPath := "", byteOffset := 0 }, { name := "Segments", type := 27, offset := 1, embedded := false, tag := "", pkgPath := "", byteOffset := 16 }], 2, 40, .agg #[.string ByteArray.empty, .slice none 0 0]⟩,
    ⟨30, .int .i64, 1, 8, .int .i64 0⟩,
    ⟨32, .struct #[{ name := "E", type := 30, offset := 0, embedded := false, tag := "", pkgPath := "", byteOffset := 0 }, { name := "File", type := 3, offset := 1, embedded := false, tag := "", pkgPath := "", byteOffset := 8 }, { name := "Line", type := 3, offset := 2, embedded := false, tag := "", pkgPath := "", byteOffset := 16 }], 3, 24, .agg #[.int .i64 0, .int .i64 0, .int .i64 0]⟩,
    ⟨38, .struct #[{ name := "Name", type := 9, offset := 0, embedded := false, tag := "", pkgPath := "", byteOffset := 0 }, { name := "Text", type := 9, offset := 1, embedded := false, tag := "", pkgPath := "", byteOffset := 16 }], 2, 32, .agg #[.string ByteArray.empty, .string ByteArray.empty]⟩,
    ⟨40, .slice 116, 1, 24, .slice none 0 0⟩,
    ⟨42, .struct #[{ name := "Nodes", type := 40, offset := 0, embedded := false, tag := "", pkgPath := "", byteOffset := 0 }, { name := "Root", type := 3, offset := 1, embedded := false, tag := "", pkgPath := "", byteOffset := 24 }], 2, 32, .agg #[.slice none 0 0, .int .i64 0]⟩,
    ⟨43, .array 2 3, 2, 16, .agg #[.int .i64 0, .int .i64 0]⟩,
    ⟨45, .struct #[{ name := "From", type := 3, offset := 0, embedded := false, tag := "", pkgPath := "", byteOffset := 0 }, { name := "To", type := 3, offset := 1, embedded := false, tag := "", pkgPath := "", byteOffset := 8 }, { name := "File", type := 3, offset := 2, embedded := false, tag := "", pkgPath := "", byteOffset := 16 }, { name := "At", type := 3, offset := 3, embedded := false, tag := "", pkgPath := "", byteOffset := 24 }, { name := "If", type := 42, offset := 4, embedded := false, tag := "", pkgPath := "", byteOffset := 32 }], 6, 64, .agg #[.int .i64 0, .int .i64 0, .int .i64 0, .int .i64 0, .slice none 0 0, .int .i64 0]⟩,
    ⟨46, .int .u64, 1, 8, .int .u64 0⟩,
    ⟨47, .int .u64, 1, 8, .int .u64 0⟩,
    ⟨52, .slice 3, 1, 24, .slice none 0 0⟩,
    ⟨58, .slice 166, 1, 24, .slice none 0 0⟩,
    ⟨62, .array 4 5, 4, 4, .agg #[.int .u8 0, .int .u8 0, .int .u8 0, .int .u8 0]⟩,
    ⟨74, .slice 5, 1, 24, .slice none 0 0⟩,
    ⟨77, .slice 205, 1, 24, .slice none 0 0⟩,
    ⟨81, .pointer 88, 1, 8, .pointer none⟩,
    ⟨82, .map 9 3, 1, 8, .map none⟩,
    ⟨83, .map 3 4, 1, 8, .map none⟩,
    ⟨84, .pointer 86, 1, 8, .pointer none⟩,
    ⟨86, .struct #[{ name := "addr", type := 84, offset := 0, embedded := false, tag := "", pkgPath := "strings", byteOffset := 0 }, { name := "buf", type := 74, offset := 1, embedded := false, tag := "", pkgPath := "strings", byteOffset := 8 }], 2, 32, .agg #[.pointer none, .slice none 0 0]⟩,
    ⟨88, .struct #[{ name := "names", type := 24, offset := 0, embedded := false, tag := "", pkgPath := "koine/source", byteOffset := 0 }, { name := "files", type := 22, offset := 1, embedded := false, tag := "", pkgPath := "koine/source", byteOffset := 24 }, { name := "numbers", type := 82, offset := 2, embedded := false, tag := "", pkgPath := "koine/source", byteOffset := 48 }, { name := "reading", type := 83, offset := 3, embedded := false, tag := "", pkgPath := "koine/source", byteOffset := 56 }, { name := "depth", type := 3, offset := 4, embedded := false, tag := "", pkgPath := "koine/source", byteOffset := 64 }, { name := "text", type := 86, offset := 5, embedded := false, tag := "", pkgPath := "koine/source", byteOffset := 72 }, { name := "out", type := 27, offset := 7, embedded := false, tag := "", pkgPath := "koine/source", byteOffset := 104 }, { name := "fresh", type := 4, offset := 8, embedded := false, tag := "", pkgPath := "koine/source", byteOffset := 128 }, { name := "file", type := 3, offset := 9, embedded := false, tag := "", pkgPath := "koine/source", byteOffset := 136 }, { name := "line", type := 3, offset := 10, embedded := false, tag := "", pkgPath := "koine/source", byteOffset := 144 }], 11, 152, .agg #[.slice none 0 0, .slice none 0 0, .map none, .map none, .int .i64 0, .pointer none, .slice none 0 0, .slice none 0 0, .bool false, .int .i64 0, .int .i64 0]⟩,
    ⟨90, .struct #[{ name := "place", type := 32, offset := 0, embedded := false, tag := "", pkgPath := "koine/source", byteOffset := 0 }], 3, 24, .agg #[.int .i64 0, .int .i64 0, .int .i64 0]⟩,
    ⟨95, .pointer 97, 1, 8, .pointer none⟩,
    ⟨97, .struct #[{ name := "names", type := 24, offset := 0, embedded := false, tag := "", pkgPath := "koine/koineref07", byteOffset := 0 }, { name := "files", type := 22, offset := 1, embedded := false, tag := "", pkgPath := "koine/koineref07", byteOffset := 24 }, { name := "depth", type := 3, offset := 2, embedded := false, tag := "", pkgPath := "koine/koineref07", byteOffset := 48 }, { name := "reading", type := 52, offset := 3, embedded := false, tag := "", pkgPath := "koine/koineref07", byteOffset := 56 }, { name := "out", type := 29, offset := 4, embedded := false, tag := "", pkgPath := "koine/koineref07", byteOffset := 80 }, { name := "fresh", type := 4, offset := 6, embedded := false, tag := "", pkgPath := "koine/koineref07", byteOffset := 120 }, { name := "bad", type := 32, offset := 7, embedded := false, tag := "", pkgPath := "koine/koineref07", byteOffset := 128 }], 10, 152, .agg #[.slice none 0 0, .slice none 0 0, .int .i64 0, .slice none 0 0, .string ByteArray.empty, .slice none 0 0, .bool false, .int .i64 0, .int .i64 0, .int .i64 0]⟩,
    ⟨103, .interface #[("Error", 93)], 1, 16, .nilIface⟩,
    ⟨113, .func #[4, 4] #[4] false, 1, 8, .nilFunc⟩,
    ⟨116, .struct #[{ name := "Var", type := 3, offset := 0, embedded := false, tag := "", pkgPath := "", byteOffset := 0 }, { name := "Low", type := 3, offset := 1, embedded := false, tag := "", pkgPath := "", byteOffset := 8 }, { name := "High", type := 3, offset := 2, embedded := false, tag := "", pkgPath := "", byteOffset := 16 }], 3, 24, .agg #[.int .i64 0, .int .i64 0, .int .i64 0]⟩,
    ⟨121, .pointer 123, 1, 8, .pointer none⟩,
    ⟨123, .struct #[{ name := "names", type := 82, offset := 0, embedded := false, tag := "", pkgPath := "koine/formula", byteOffset := 0 }, { name := "rest", type := 9, offset := 1, embedded := false, tag := "", pkgPath := "koine/formula", byteOffset := 8 }, { name := "f", type := 77, offset := 2, embedded := false, tag := "", pkgPath := "koine/formula", byteOffset := 24 }, { name := "unknown", type := 4, offset := 3, embedded := false, tag := "", pkgPath := "koine/formula", byteOffset := 48 }], 4, 56, .agg #[.map none, .string ByteArray.empty, .slice none 0 0, .bool false]⟩,
    ⟨124, .func #[] #[3] false, 1, 8, .nilFunc⟩,
    ⟨126, .map 9 4, 1, 8, .map none⟩,
    ⟨127, .slice 135, 1, 24, .slice none 0 0⟩,
    ⟨135, .struct #[{ name := "outer", type := 42, offset := 0, embedded := false, tag := "", pkgPath := "koine/source", byteOffset := 0 }, { name := "rest", type := 42, offset := 2, embedded := false, tag := "", pkgPath := "koine/source", byteOffset := 32 }, { name := "other", type := 4, offset := 4, embedded := false, tag := "", pkgPath := "koine/source", byteOffset := 64 }, { name := "line", type := 3, offset := 5, embedded := false, tag := "", pkgPath := "koine/source", byteOffset := 72 }], 6, 80, .agg #[.slice none 0 0, .int .i64 0, .slice none 0 0, .int .i64 0, .bool false, .int .i64 0]⟩,
    ⟨137, .pointer 135, 1, 8, .pointer none⟩,
    ⟨140, .pointer 5, 1, 8, .pointer none⟩,
    ⟨142, .slice 148, 1, 24, .slice none 0 0⟩,
    ⟨148, .struct #[{ name := "outer", type := 42, offset := 0, embedded := false, tag := "", pkgPath := "koine/koineref07", byteOffset := 0 }, { name := "rest", type := 42, offset := 2, embedded := false, tag := "", pkgPath := "koine/koineref07", byteOffset := 32 }, { name := "other", type := 4, offset := 4, embedded := false, tag := "", pkgPath := "koine/koineref07", byteOffset := 64 }, { name := "line", type := 3, offset := 5, embedded := false, tag := "", pkgPath := "koine/koineref07", byteOffset := 72 }], 6, 80, .agg #[.slice none 0 0, .int .i64 0, .slice none 0 0, .int .i64 0, .bool false, .int .i64 0]⟩,
    ⟨153, .int .u64, 1, 8, .int .u64 0⟩,
    ⟨154, .map 116 4, 1, 8, .map none⟩,
    ⟨156, .pointer 159, 1, 8, .pointer none⟩,
    ⟨157, .map 116 3, 1, 8, .map none⟩,
    ⟨159, .struct #[{ name := "nodes", type := 40, offset := 0, embedded := false, tag := "", pkgPath := "koine/diagram", byteOffset := 0 }, { name := "known", type := 157, offset := 1, embedded := false, tag := "", pkgPath := "koine/diagram", byteOffset := 24 }], 2, 32, .agg #[.slice none 0 0, .map none]⟩,
    ⟨163, .slice 42, 1, 24, .slice none 0 0⟩,
    ⟨164, .slice 4, 1, 24, .slice none 0 0⟩,
    ⟨166, .struct #[{ name := "Kind", type := 5, offset := 0, embedded := false, tag := "", pkgPath := "", byteOffset := 0 }, { name := "If", type := 5, offset := 1, embedded := false, tag := "", pkgPath := "", byteOffset := 1 }, { name := "Words", type := 74, offset := 2, embedded := false, tag := "", pkgPath := "", byteOffset := 8 }], 3, 32, .agg #[.int .u8 0, .int .u8 0, .slice none 0 0]⟩,
    ⟨169, .map 43 4, 1, 8, .map none⟩,
    ⟨170, .func #[3, 3] #[4] false, 1, 8, .nilFunc⟩,
    ⟨175, .array 3 42, 6, 96, .agg #[.slice none 0 0, .int .i64 0, .slice none 0 0, .int .i64 0, .slice none 0 0, .int .i64 0]⟩,
    ⟨176, .func #[4, 4, 4] #[4] false, 1, 8, .nilFunc⟩,
    ⟨188, .map 3 3, 1, 8, .map none⟩,
    ⟨189, .func #[3] #[3] false, 1, 8, .nilFunc⟩,
    ⟨192, .unsafePointer, 1, 8, .pointer none⟩,
    ⟨197, .map 199 3, 1, 8, .map none⟩,
    ⟨198, .func #[199] #[3] false, 1, 8, .nilFunc⟩,
    ⟨199, .array 3 3, 3, 24, .agg #[.int .i64 0, .int .i64 0, .int .i64 0]⟩,
    ⟨202, .func #[21] #[4] false, 1, 8, .nilFunc⟩,
    ⟨205, .struct #[{ name := "Op", type := 3, offset := 0, embedded := false, tag := "", pkgPath := "", byteOffset := 0 }, { name := "Var", type := 3, offset := 1, embedded := false, tag := "", pkgPath := "", byteOffset := 8 }, { name := "A", type := 3, offset := 2, embedded := false, tag := "", pkgPath := "", byteOffset := 16 }, { name := "B", type := 3, offset := 3, embedded := false, tag := "", pkgPath := "", byteOffset := 24 }], 4, 32, .agg #[.int .i64 0, .int .i64 0, .int .i64 0, .int .i64 0]⟩,
    ⟨208, .array 256 4, 256, 256, .agg #[.bool false, .bool false, .bool false, .bool false, .bool false, .bool false, .bool false, .bool false, .bool false, .bool false, .bool false, .bool false, .bool false, .bool false, .bool false, .bool false, .bool false, .bool false, .bool false, .bool false, .bool false, .bool false, .bool false, .bool false, .bool false, .bool false, .bool false, .bool false, .bool false, .bool false, .bool false, .bool false, .bool false, .bool false, .bool false, .bool false, .bool false, .bool false, .bool false, .bool false, .bool false, .bool false, .bool false, .bool false, .bool false, .bool false, .bool false, .bool false, .bool false, .bool false, .bool false, .bool false, .bool false, .bool false, .bool false, .bool false, .bool false, .bool false, .bool false, .bool false, .bool false, .bool false, .bool false, .bool false, .bool false, .bool false, .bool false, .bool false, .bool false, .bool false, .bool false, .bool false, .bool false, .bool false, .bool false, .bool false, .bool false, .bool false, .bool false, .bool false, .bool false, .bool false, .bool false, .bool false, .bool false, .bool false, .bool false, .bool false, .bool false, .bool false, .bool false, .bool false, .bool false, .bool false, .bool false, .bool false, .bool false, .bool false, .bool false, .bool false, .bool false, .bool false, .bool false, .bool false, .bool false, .bool false, .bool false, .bool false, .bool false, .bool false, .bool false, .bool false, .bool false, .bool false, .bool false, .bool false, .bool false, .bool false, .bool false, .bool false, .bool false, .bool false, .bool false, .bool false, .bool false, .bool false, .bool false, .bool false, .bool false, .bool false, .bool false, .bool false, .bool false, .bool false, .bool false, .bool false, .bool false, .bool false, .bool false, .bool false, .bool false, .bool false, .bool false, .bool false, .bool false, .bool false, .bool false, .bool false, .bool false, .bool false, .bool false, .bool false, .bool false, .bool false, .bool false, .bool false, .bool false, .bool false, .bool false, .bool false, .bool false, .bool false, .bool false, .bool false, .bool false, .bool false, .bool false, .bool false, .bool false, .bool false, .bool false, .bool false, .bool false, .bool false, .bool false, .bool false, .bool false, .bool false, .bool false, .bool false, .bool false, .bool false, .bool false, .bool false, .bool false, .bool false, .bool false, .bool false, .bool false, .bool false, .bool false, .bool false, .bool false, .bool false, .bool false, .bool false, .bool false, .bool false, .bool false, .bool false, .bool false, .bool false, .bool false, .bool false, .bool false, .bool false, .bool false, .bool false, .bool false, .bool false, .bool false, .bool false, .bool false, .bool false, .bool false, .bool false, .bool false, .bool false, .bool false, .bool false, .bool false, .bool false, .bool false, .bool false, .bool false, .bool false, .bool false, .bool false, .bool false, .bool false, .bool false, .bool false, .bool false, .bool false, .bool false, .bool false, .bool false, .bool false, .bool false, .bool false, .bool false, .bool false, .bool false, .bool false, .bool false, .bool false, .bool false, .bool false, .bool false, .bool false, .bool false, .bool false, .bool false, .bool false, .bool false, .bool false]⟩,
    ⟨212, .pointer 208, 1, 8, .pointer none⟩,
    ⟨216, .pointer 218, 1, 8, .pointer none⟩,
    ⟨218, .struct #[{ name := "names", type := 24, offset := 0, embedded := false, tag := "", pkgPath := "koine/koineref03", byteOffset := 0 }, { name := "l", type := 24, offset := 1, embedded := false, tag := "", pkgPath := "koine/koineref03", byteOffset := 24 }, { name := "at", type := 3, offset := 2, embedded := false, tag := "", pkgPath := "koine/koineref03", byteOffset := 48 }, { name := "f", type := 77, offset := 3, embedded := false, tag := "", pkgPath := "koine/koineref03", byteOffset := 56 }, { name := "bad", type := 4, offset := 4, embedded := false, tag := "", pkgPath := "koine/koineref03", byteOffset := 80 }, { name := "unknown", type := 4, offset := 5, embedded := false, tag := "", pkgPath := "koine/koineref03", byteOffset := 81 }], 6, 88, .agg #[.slice none 0 0, .slice none 0 0, .int .i64 0, .slice none 0 0, .bool false, .bool false]⟩,
    ⟨219, .pointer 222, 1, 8, .pointer none⟩,
    ⟨220, .slice 199, 1, 24, .slice none 0 0⟩,
    ⟨222, .struct #[{ name := "a", type := 42, offset := 0, embedded := false, tag := "", pkgPath := "koine/koineref02", byteOffset := 0 }, { name := "b", type := 42, offset := 2, embedded := false, tag := "", pkgPath := "koine/koineref02", byteOffset := 32 }, { name := "op", type := 3, offset := 4, embedded := false, tag := "", pkgPath := "koine/koineref02", byteOffset := 64 }, { name := "nodes", type := 40, offset := 5, embedded := false, tag := "", pkgPath := "koine/koineref02", byteOffset := 72 }, { name := "seen", type := 220, offset := 6, embedded := false, tag := "", pkgPath := "koine/koineref02", byteOffset := 96 }], 7, 120, .agg #[.slice none 0 0, .int .i64 0, .slice none 0 0, .int .i64 0, .int .i64 0, .slice none 0 0, .slice none 0 0]⟩,
    ⟨224, .pointer 226, 1, 8, .pointer none⟩,
    ⟨226, .struct #[{ name := "nodes", type := 40, offset := 0, embedded := false, tag := "", pkgPath := "koine/koineref02", byteOffset := 0 }, { name := "number", type := 52, offset := 1, embedded := false, tag := "", pkgPath := "koine/koineref02", byteOffset := 24 }, { name := "out", type := 40, offset := 2, embedded := false, tag := "", pkgPath := "koine/koineref02", byteOffset := 48 }], 3, 72, .agg #[.slice none 0 0, .slice none 0 0, .slice none 0 0]⟩,
    ⟨232, .array 512 4, 512, 512, .agg #[.bool false, .bool false, .bool false, .bool false, .bool false, .bool false, .bool false, .bool false, .bool false, .bool false, .bool false, .bool false, .bool false, .bool false, .bool false, .bool false, .bool false, .bool false, .bool false, .bool false, .bool false, .bool false, .bool false, .bool false, .bool false, .bool false, .bool false, .bool false, .bool false, .bool false, .bool false, .bool false, .bool false, .bool false, .bool false, .bool false, .bool false, .bool false, .bool false, .bool false, .bool false, .bool false, .bool false, .bool false, .bool false, .bool false, .bool false, .bool false, .bool false, .bool false, .bool false, .bool false, .bool false, .bool false, .bool false, .bool false, .bool false, .bool false, .bool false, .bool false, .bool false, .bool false, .bool false, .bool false, .bool false, .bool false, .bool false, .bool false, .bool false, .bool false, .bool false, .bool false, .bool false, .bool false, .bool false, .bool false, .bool false, .bool false, .bool false, .bool false, .bool false, .bool false, .bool false, .bool false, .bool false, .bool false, .bool false, .bool false, .bool false, .bool false, .bool false, .bool false, .bool false, .bool false, .bool false, .bool false, .bool false, .bool false, .bool false, .bool false, .bool false, .bool false, .bool false, .bool false, .bool false, .bool false, .bool false, .bool false, .bool false, .bool false, .bool false, .bool false, .bool false, .bool false, .bool false, .bool false, .bool false, .bool false, .bool false, .bool false, .bool false, .bool false, .bool false, .bool false, .bool false, .bool false, .bool false, .bool false, .bool false, .bool false, .bool false, .bool false, .bool false, .bool false, .bool false, .bool false, .bool false, .bool false, .bool false, .bool false, .bool false, .bool false, .bool false, .bool false, .bool false, .bool false, .bool false, .bool false, .bool false, .bool false, .bool false, .bool false, .bool false, .bool false, .bool false, .bool false, .bool false, .bool false, .bool false, .bool false, .bool false, .bool false, .bool false, .bool false, .bool false, .bool false, .bool false, .bool false, .bool false, .bool false, .bool false, .bool false, .bool false, .bool false, .bool false, .bool false, .bool false, .bool false, .bool false, .bool false, .bool false, .bool false, .bool false, .bool false, .bool false, .bool false, .bool false, .bool false, .bool false, .bool false, .bool false, .bool false, .bool false, .bool false, .bool false, .bool false, .bool false, .bool false, .bool false, .bool false, .bool false, .bool false, .bool false, .bool false, .bool false, .bool false, .bool false, .bool false, .bool false, .bool false, .bool false, .bool false, .bool false, .bool false, .bool false, .bool false, .bool false, .bool false, .bool false, .bool false, .bool false, .bool false, .bool false, .bool false, .bool false, .bool false, .bool false, .bool false, .bool false, .bool false, .bool false, .bool false, .bool false, .bool false, .bool false, .bool false, .bool false, .bool false, .bool false, .bool false, .bool false, .bool false, .bool false, .bool false, .bool false, .bool false, .bool false, .bool false, .bool false, .bool false, .bool false, .bool false, .bool false, .bool false, .bool false, .bool false, .bool false, .bool false, .bool false, .bool false, .bool false, .bool false, .bool false, .bool false, .bool false, .bool false, .bool false, .bool false, .bool false, .bool false, .bool false, .bool false, .bool false, .bool false, .bool false, .bool false, .bool false, .bool false, .bool false, .bool false, .bool false, .bool false, .bool false, .bool false, .bool false, .bool false, .bool false, .bool false, .bool false, .bool false, .bool false, .bool false, .bool false, .bool false, .bool false, .bool false, .bool false, .bool false, .bool false, .bool false, .bool false, .bool false, .bool false, .bool false, .bool false, .bool false, .bool false, .bool false, .bool false, .bool false, .bool false, .bool false, .bool false, .bool false, .bool false, .bool false, .bool false, .bool false, .bool false, .bool false, .bool false, .bool false, .bool false, .bool false, .bool false, .bool false, .bool false, .bool false, .bool false, .bool false, .bool false, .bool false, .bool false, .bool false, .bool false, .bool false, .bool false, .bool false, .bool false, .bool false, .bool false, .bool false, .bool false, .bool false, .bool false, .bool false, .bool false, .bool false, .bool false, .bool false, .bool false, .bool false, .bool false, .bool false, .bool false, .bool false, .bool false, .bool false, .bool false, .bool false, .bool false, .bool false, .bool false, .bool false, .bool false, .bool false, .bool false, .bool false, .bool false, .bool false, .bool false, .bool false, .bool false, .bool false, .bool false, .bool false, .bool false, .bool false, .bool false, .bool false, .bool false, .bool false, .bool false, .bool false, .bool false, .bool false, .bool false, .bool false, .bool false, .bool false, .bool false, .bool false, .bool false, .bool false, .bool false, .bool false, .bool false, .bool false, .bool false, .bool false, .bool false, .bool false, .bool false, .bool false, .bool false, .bool false, .bool false, .bool false, .bool false, .bool false, .bool false, .bool false, .bool false, .bool false, .bool false, .bool false, .bool false, .bool false, .bool false, .bool false, .bool false, .bool false, .bool false, .bool false, .bool false, .bool false, .bool false, .bool false, .bool false, .bool false, .bool false, .bool false, .bool false, .bool false, .bool false, .bool false, .bool false, .bool false, .bool false, .bool false, .bool false, .bool false, .bool false, .bool false, .bool false, .bool false, .bool false, .bool false, .bool false, .bool false, .bool false, .bool false, .bool false, .bool false, .bool false, .bool false, .bool false, .bool false, .bool false, .bool false, .bool false, .bool false, .bool false, .bool false, .bool false, .bool false, .bool false, .bool false, .bool false, .bool false, .bool false, .bool false, .bool false, .bool false, .bool false, .bool false, .bool false, .bool false, .bool false, .bool false, .bool false, .bool false, .bool false, .bool false, .bool false, .bool false, .bool false, .bool false, .bool false, .bool false, .bool false, .bool false, .bool false, .bool false, .bool false, .bool false, .bool false, .bool false, .bool false, .bool false, .bool false, .bool false, .bool false, .bool false, .bool false, .bool false, .bool false, .bool false, .bool false, .bool false, .bool false, .bool false]⟩,
    ⟨239, .int .u32, 1, 4, .int .u32 0⟩,
    ⟨242, .array 256 5, 256, 256, .agg #[.int .u8 0, .int .u8 0, .int .u8 0, .int .u8 0, .int .u8 0, .int .u8 0, .int .u8 0, .int .u8 0, .int .u8 0, .int .u8 0, .int .u8 0, .int .u8 0, .int .u8 0, .int .u8 0, .int .u8 0, .int .u8 0, .int .u8 0, .int .u8 0, .int .u8 0, .int .u8 0, .int .u8 0, .int .u8 0, .int .u8 0, .int .u8 0, .int .u8 0, .int .u8 0, .int .u8 0, .int .u8 0, .int .u8 0, .int .u8 0, .int .u8 0, .int .u8 0, .int .u8 0, .int .u8 0, .int .u8 0, .int .u8 0, .int .u8 0, .int .u8 0, .int .u8 0, .int .u8 0, .int .u8 0, .int .u8 0, .int .u8 0, .int .u8 0, .int .u8 0, .int .u8 0, .int .u8 0, .int .u8 0, .int .u8 0, .int .u8 0, .int .u8 0, .int .u8 0, .int .u8 0, .int .u8 0, .int .u8 0, .int .u8 0, .int .u8 0, .int .u8 0, .int .u8 0, .int .u8 0, .int .u8 0, .int .u8 0, .int .u8 0, .int .u8 0, .int .u8 0, .int .u8 0, .int .u8 0, .int .u8 0, .int .u8 0, .int .u8 0, .int .u8 0, .int .u8 0, .int .u8 0, .int .u8 0, .int .u8 0, .int .u8 0, .int .u8 0, .int .u8 0, .int .u8 0, .int .u8 0, .int .u8 0, .int .u8 0, .int .u8 0, .int .u8 0, .int .u8 0, .int .u8 0, .int .u8 0, .int .u8 0, .int .u8 0, .int .u8 0, .int .u8 0, .int .u8 0, .int .u8 0, .int .u8 0, .int .u8 0, .int .u8 0, .int .u8 0, .int .u8 0, .int .u8 0, .int .u8 0, .int .u8 0, .int .u8 0, .int .u8 0, .int .u8 0, .int .u8 0, .int .u8 0, .int .u8 0, .int .u8 0, .int .u8 0, .int .u8 0, .int .u8 0, .int .u8 0, .int .u8 0, .int .u8 0, .int .u8 0, .int .u8 0, .int .u8 0, .int .u8 0, .int .u8 0, .int .u8 0, .int .u8 0, .int .u8 0, .int .u8 0, .int .u8 0, .int .u8 0, .int .u8 0, .int .u8 0, .int .u8 0, .int .u8 0, .int .u8 0, .int .u8 0, .int .u8 0, .int .u8 0, .int .u8 0, .int .u8 0, .int .u8 0, .int .u8 0, .int .u8 0, .int .u8 0, .int .u8 0, .int .u8 0, .int .u8 0, .int .u8 0, .int .u8 0, .int .u8 0, .int .u8 0, .int .u8 0, .int .u8 0, .int .u8 0, .int .u8 0, .int .u8 0, .int .u8 0, .int .u8 0, .int .u8 0, .int .u8 0, .int .u8 0, .int .u8 0, .int .u8 0, .int .u8 0, .int .u8 0, .int .u8 0, .int .u8 0, .int .u8 0, .int .u8 0, .int .u8 0, .int .u8 0, .int .u8 0, .int .u8 0, .int .u8 0, .int .u8 0, .int .u8 0, .int .u8 0, .int .u8 0, .int .u8 0, .int .u8 0, .int .u8 0, .int .u8 0, .int .u8 0, .int .u8 0, .int .u8 0, .int .u8 0, .int .u8 0, .int .u8 0, .int .u8 0, .int .u8 0, .int .u8 0, .int .u8 0, .int .u8 0, .int .u8 0, .int .u8 0, .int .u8 0, .int .u8 0, .int .u8 0, .int .u8 0, .int .u8 0, .int .u8 0, .int .u8 0, .int .u8 0, .int .u8 0, .int .u8 0, .int .u8 0, .int .u8 0, .int .u8 0, .int .u8 0, .int .u8 0, .int .u8 0, .int .u8 0, .int .u8 0, .int .u8 0, .int .u8 0, .int .u8 0, .int .u8 0, .int .u8 0, .int .u8 0, .int .u8 0, .int .u8 0, .int .u8 0, .int .u8 0, .int .u8 0, .int .u8 0, .int .u8 0, .int .u8 0, .int .u8 0, .int .u8 0, .int .u8 0, .int .u8 0, .int .u8 0, .int .u8 0, .int .u8 0, .int .u8 0, .int .u8 0, .int .u8 0, .int .u8 0, .int .u8 0, .int .u8 0, .int .u8 0, .int .u8 0, .int .u8 0, .int .u8 0, .int .u8 0, .int .u8 0, .int .u8 0, .int .u8 0, .int .u8 0, .int .u8 0, .int .u8 0, .int .u8 0, .int .u8 0, .int .u8 0, .int .u8 0, .int .u8 0, .int .u8 0, .int .u8 0, .int .u8 0, .int .u8 0, .int .u8 0]⟩,
    ⟨244, .struct #[{ name := "lo", type := 5, offset := 0, embedded := false, tag := "", pkgPath := "unicode/utf8", byteOffset := 0 }, { name := "hi", type := 5, offset := 1, embedded := false, tag := "", pkgPath := "unicode/utf8", byteOffset := 1 }], 2, 2, .agg #[.int .u8 0, .int .u8 0]⟩,
    ⟨245, .array 16 244, 32, 32, .agg #[.int .u8 0, .int .u8 0, .int .u8 0, .int .u8 0, .int .u8 0, .int .u8 0, .int .u8 0, .int .u8 0, .int .u8 0, .int .u8 0, .int .u8 0, .int .u8 0, .int .u8 0, .int .u8 0, .int .u8 0, .int .u8 0, .int .u8 0, .int .u8 0, .int .u8 0, .int .u8 0, .int .u8 0, .int .u8 0, .int .u8 0, .int .u8 0, .int .u8 0, .int .u8 0, .int .u8 0, .int .u8 0, .int .u8 0, .int .u8 0, .int .u8 0, .int .u8 0]⟩]
  fns := [3, 4, 5, 6, 7, 8, 9, 10, 11, 12, 13, 14, 15, 16, 17, 18, 19, 20, 21, 22, 23, 24, 25, 26, 27, 28, 29, 30, 31, 32, 33, 34, 35, 36, 37, 38, 39, 40, 41, 42, 43, 44, 45, 46, 47, 48, 49, 50, 51, 52, 53, 54, 55, 56, 57, 58, 59, 60, 61, 62, 63, 64, 65, 66, 67, 68, 69, 70, 71, 72, 73, 74, 75, 76, 77, 78, 79, 80, 81, 82, 83, 84, 85, 86, 87, 88, 89, 90, 91, 92, 93, 94, 95, 96, 97, 98, 99, 100, 101, 102, 103, 104, 105, 106, 107, 108, 109, 110, 111, 112, 113, 114, 115, 116, 117, 118, 119, 120, 121, 122, 123, 124, 125, 126, 127, 128, 129, 130, 132, 133, 134, 135, 136, 137, 138, 139, 140, 141, 142, 143, 144, 146, 147, 148, 149, 150, 151, 153, 154, 155, 156, 157, 158, 159, 160, 161, 162, 163, 164, 165, 166, 167, 168, 170, 171, 172, 173, 174, 175, 176, 177, 178, 179, 180, 181, 182, 183, 184, 185, 186, 187]
  ms := []
  eqs := [⟨32, [0, 0, 0]⟩, ⟨116, [0, 0, 0]⟩, ⟨205, [0, 0, 0, 0]⟩]

theorem gx_tys : AllTy Tryz.prog gx.tys :=
  ⟨⟨by kernel_rfl, by kernel_rfl⟩,
   ⟨by kernel_rfl, by kernel_rfl⟩,
   ⟨by kernel_rfl, by kernel_rfl⟩,
   ⟨by kernel_rfl, by kernel_rfl⟩,
   ⟨by kernel_rfl, by kernel_rfl⟩,
   ⟨by kernel_rfl, by kernel_rfl⟩,
   ⟨by kernel_rfl, by kernel_rfl⟩,
   ⟨by kernel_rfl, by kernel_rfl⟩,
   ⟨by kernel_rfl, by kernel_rfl⟩,
   ⟨by kernel_rfl, by kernel_rfl⟩,
   ⟨by kernel_rfl, by kernel_rfl⟩,
   ⟨by kernel_rfl, by kernel_rfl⟩,
   ⟨by kernel_rfl, by kernel_rfl⟩,
   ⟨by kernel_rfl, by kernel_rfl⟩,
   ⟨by kernel_rfl, by kernel_rfl⟩,
   ⟨by kernel_rfl, by kernel_rfl⟩,
   ⟨by kernel_rfl, by kernel_rfl⟩,
   ⟨by kernel_rfl, by kernel_rfl⟩,
   ⟨by kernel_rfl, by kernel_rfl⟩,
   ⟨by kernel_rfl, by kernel_rfl⟩,
   ⟨by kernel_rfl, by kernel_rfl⟩,
   ⟨by kernel_rfl, by kernel_rfl⟩,
   ⟨by kernel_rfl, by kernel_rfl⟩,
   ⟨by kernel_rfl, by kernel_rfl⟩,
   ⟨by kernel_rfl, by kernel_rfl⟩,
   ⟨by kernel_rfl, by kernel_rfl⟩,
   ⟨by kernel_rfl, by kernel_rfl⟩,
   ⟨by kernel_rfl, by kernel_rfl⟩,
   ⟨by kernel_rfl, by kernel_rfl⟩,
   ⟨by kernel_rfl, by kernel_rfl⟩,
   ⟨by kernel_rfl, by kernel_rfl⟩,
   ⟨by kernel_rfl, by kernel_rfl⟩,
   ⟨by kernel_rfl, by kernel_rfl⟩,
   ⟨by kernel_rfl, by kernel_rfl⟩,
   ⟨by kernel_rfl, by kernel_rfl⟩,
   ⟨by kernel_rfl, by kernel_rfl⟩,
   ⟨by kernel_rfl, by kernel_rfl⟩,
   ⟨by kernel_rfl, by kernel_rfl⟩,
   ⟨by kernel_rfl, by kernel_rfl⟩,
   ⟨by kernel_rfl, by kernel_rfl⟩,
   ⟨by kernel_rfl, by kernel_rfl⟩,
   ⟨by kernel_rfl, by kernel_rfl⟩,
   ⟨by kernel_rfl, by kernel_rfl⟩,
   ⟨by kernel_rfl, by kernel_rfl⟩,
   ⟨by kernel_rfl, by kernel_rfl⟩,
   ⟨by kernel_rfl, by kernel_rfl⟩,
   ⟨by kernel_rfl, by kernel_rfl⟩,
   ⟨by kernel_rfl, by kernel_rfl⟩,
   ⟨by kernel_rfl, by kernel_rfl⟩,
   ⟨by kernel_rfl, by kernel_rfl⟩,
   ⟨by kernel_rfl, by kernel_rfl⟩,
   ⟨by kernel_rfl, by kernel_rfl⟩,
   ⟨by kernel_rfl, by kernel_rfl⟩,
   ⟨by kernel_rfl, by kernel_rfl⟩,
   ⟨by kernel_rfl, by kernel_rfl⟩,
   ⟨by kernel_rfl, by kernel_rfl⟩,
   ⟨by kernel_rfl, by kernel_rfl⟩,
   ⟨by kernel_rfl, by kernel_rfl⟩,
   ⟨by kernel_rfl, by kernel_rfl⟩,
   ⟨by kernel_rfl, by kernel_rfl⟩,
   ⟨by kernel_rfl, by kernel_rfl⟩,
   ⟨by kernel_rfl, by kernel_rfl⟩,
   ⟨by kernel_rfl, by kernel_rfl⟩,
   ⟨by kernel_rfl, by kernel_rfl⟩,
   ⟨by kernel_rfl, by kernel_rfl⟩,
   ⟨by kernel_rfl, by kernel_rfl⟩,
   ⟨by kernel_rfl, by kernel_rfl⟩,
   ⟨by kernel_rfl, by kernel_rfl⟩,
   ⟨by kernel_rfl, by kernel_rfl⟩,
   ⟨by kernel_rfl, by kernel_rfl⟩,
   ⟨by kernel_rfl, by kernel_rfl⟩,
   ⟨by kernel_rfl, by kernel_rfl⟩,
   ⟨by kernel_rfl, by kernel_rfl⟩,
   ⟨by kernel_rfl, by kernel_rfl⟩,
   ⟨by kernel_rfl, by kernel_rfl⟩,
   ⟨by kernel_rfl, by kernel_rfl⟩,
   ⟨by kernel_rfl, by kernel_rfl⟩,
   ⟨by kernel_rfl, by kernel_rfl⟩,
   ⟨by kernel_rfl, by kernel_rfl⟩,
   ⟨by kernel_rfl, by kernel_rfl⟩,
   ⟨by kernel_rfl, by kernel_rfl⟩, trivial⟩

theorem gx_fns : AllFn Tryz.prog gx.fns :=
  ⟨⟨_, Tryz.func3, by kernel_rfl, by kernel_rfl⟩,
   ⟨_, Tryz.func4, by kernel_rfl, by kernel_rfl⟩,
   ⟨_, Tryz.func5, by kernel_rfl, by kernel_rfl⟩,
   ⟨_, Tryz.func6, by kernel_rfl, by kernel_rfl⟩,
   ⟨_, Tryz.func7, by kernel_rfl, by kernel_rfl⟩,
   ⟨_, Tryz.func8, by kernel_rfl, by kernel_rfl⟩,
   ⟨_, Tryz.func9, by kernel_rfl, by kernel_rfl⟩,
   ⟨_, Tryz.func10, by kernel_rfl, by kernel_rfl⟩,
   ⟨_, Tryz.func11, by kernel_rfl, by kernel_rfl⟩,
   ⟨_, Tryz.func12, by kernel_rfl, by kernel_rfl⟩,
   ⟨_, Tryz.func13, by kernel_rfl, by kernel_rfl⟩,
   ⟨_, Tryz.func14, by kernel_rfl, by kernel_rfl⟩,
   ⟨_, Tryz.func15, by kernel_rfl, by kernel_rfl⟩,
   ⟨_, Tryz.func16, by kernel_rfl, by kernel_rfl⟩,
   ⟨_, Tryz.func17, by kernel_rfl, by kernel_rfl⟩,
   ⟨_, Tryz.func18, by kernel_rfl, by kernel_rfl⟩,
   ⟨_, Tryz.func19, by kernel_rfl, by kernel_rfl⟩,
   ⟨_, Tryz.func20, by kernel_rfl, by kernel_rfl⟩,
   ⟨_, Tryz.func21, by kernel_rfl, by kernel_rfl⟩,
   ⟨_, Tryz.func22, by kernel_rfl, by kernel_rfl⟩,
   ⟨_, Tryz.func23, by kernel_rfl, by kernel_rfl⟩,
   ⟨_, Tryz.func24, by kernel_rfl, by kernel_rfl⟩,
   ⟨_, Tryz.func25, by kernel_rfl, by kernel_rfl⟩,
   ⟨_, Tryz.func26, by kernel_rfl, by kernel_rfl⟩,
   ⟨_, Tryz.func27, by kernel_rfl, by kernel_rfl⟩,
   ⟨_, Tryz.func28, by kernel_rfl, by kernel_rfl⟩,
   ⟨_, Tryz.func29, by kernel_rfl, by kernel_rfl⟩,
   ⟨_, Tryz.func30, by kernel_rfl, by kernel_rfl⟩,
   ⟨_, Tryz.func31, by kernel_rfl, by kernel_rfl⟩,
   ⟨_, Tryz.func32, by kernel_rfl, by kernel_rfl⟩,
   ⟨_, Tryz.func33, by kernel_rfl, by kernel_rfl⟩,
   ⟨_, Tryz.func34, by kernel_rfl, by kernel_rfl⟩,
   ⟨_, Tryz.func35, by kernel_rfl, by kernel_rfl⟩,
   ⟨_, Tryz.func36, by kernel_rfl, by kernel_rfl⟩,
   ⟨_, Tryz.func37, by kernel_rfl, by kernel_rfl⟩,
   ⟨_, Tryz.func38, by kernel_rfl, by kernel_rfl⟩,
   ⟨_, Tryz.func39, by kernel_rfl, by kernel_rfl⟩,
   ⟨_, Tryz.func40, by kernel_rfl, by kernel_rfl⟩,
   ⟨_, Tryz.func41, by kernel_rfl, by kernel_rfl⟩,
   ⟨_, Tryz.func42, by kernel_rfl, by kernel_rfl⟩,
   ⟨_, Tryz.func43, by kernel_rfl, by kernel_rfl⟩,
   ⟨_, Tryz.func44, by kernel_rfl, by kernel_rfl⟩,
   ⟨_, Tryz.func45, by kernel_rfl, by kernel_rfl⟩,
   ⟨_, Tryz.func46, by kernel_rfl, by kernel_rfl⟩,
   ⟨_, Tryz.func47, by kernel_rfl, by kernel_rfl⟩,
   ⟨_, Tryz.func48, by kernel_rfl, by kernel_rfl⟩,
   ⟨_, Tryz.func49, by kernel_rfl, by kernel_rfl⟩,
   ⟨_, Tryz.func50, by kernel_rfl, by kernel_rfl⟩,
   ⟨_, Tryz.func51, by kernel_rfl, by kernel_rfl⟩,
   ⟨_, Tryz.func52, by kernel_rfl, by kernel_rfl⟩,
   ⟨_, Tryz.func53, by kernel_rfl, by kernel_rfl⟩,
   ⟨_, Tryz.func54, by kernel_rfl, by kernel_rfl⟩,
   ⟨_, Tryz.func55, by kernel_rfl, by kernel_rfl⟩,
   ⟨_, Tryz.func56, by kernel_rfl, by kernel_rfl⟩,
   ⟨_, Tryz.func57, by kernel_rfl, by kernel_rfl⟩,
   ⟨_, Tryz.func58, by kernel_rfl, by kernel_rfl⟩,
   ⟨_, Tryz.func59, by kernel_rfl, by kernel_rfl⟩,
   ⟨_, Tryz.func60, by kernel_rfl, by kernel_rfl⟩,
   ⟨_, Tryz.func61, by kernel_rfl, by kernel_rfl⟩,
   ⟨_, Tryz.func62, by kernel_rfl, by kernel_rfl⟩,
   ⟨_, Tryz.func63, by kernel_rfl, by kernel_rfl⟩,
   ⟨_, Tryz.func64, by kernel_rfl, by kernel_rfl⟩,
   ⟨_, Tryz.func65, by kernel_rfl, by kernel_rfl⟩,
   ⟨_, Tryz.func66, by kernel_rfl, by kernel_rfl⟩,
   ⟨_, Tryz.func67, by kernel_rfl, by kernel_rfl⟩,
   ⟨_, Tryz.func68, by kernel_rfl, by kernel_rfl⟩,
   ⟨_, Tryz.func69, by kernel_rfl, by kernel_rfl⟩,
   ⟨_, Tryz.func70, by kernel_rfl, by kernel_rfl⟩,
   ⟨_, Tryz.func71, by kernel_rfl, by kernel_rfl⟩,
   ⟨_, Tryz.func72, by kernel_rfl, by kernel_rfl⟩,
   ⟨_, Tryz.func73, by kernel_rfl, by kernel_rfl⟩,
   ⟨_, Tryz.func74, by kernel_rfl, by kernel_rfl⟩,
   ⟨_, Tryz.func75, by kernel_rfl, by kernel_rfl⟩,
   ⟨_, Tryz.func76, by kernel_rfl, by kernel_rfl⟩,
   ⟨_, Tryz.func77, by kernel_rfl, by kernel_rfl⟩,
   ⟨_, Tryz.func78, by kernel_rfl, by kernel_rfl⟩,
   ⟨_, Tryz.func79, by kernel_rfl, by kernel_rfl⟩,
   ⟨_, Tryz.func80, by kernel_rfl, by kernel_rfl⟩,
   ⟨_, Tryz.func81, by kernel_rfl, by kernel_rfl⟩,
   ⟨_, Tryz.func82, by kernel_rfl, by kernel_rfl⟩,
   ⟨_, Tryz.func83, by kernel_rfl, by kernel_rfl⟩,
   ⟨_, Tryz.func84, by kernel_rfl, by kernel_rfl⟩,
   ⟨_, Tryz.func85, by kernel_rfl, by kernel_rfl⟩,
   ⟨_, Tryz.func86, by kernel_rfl, by kernel_rfl⟩,
   ⟨_, Tryz.func87, by kernel_rfl, by kernel_rfl⟩,
   ⟨_, Tryz.func88, by kernel_rfl, by kernel_rfl⟩,
   ⟨_, Tryz.func89, by kernel_rfl, by kernel_rfl⟩,
   ⟨_, Tryz.func90, by kernel_rfl, by kernel_rfl⟩,
   ⟨_, Tryz.func91, by kernel_rfl, by kernel_rfl⟩,
   ⟨_, Tryz.func92, by kernel_rfl, by kernel_rfl⟩,
   ⟨_, Tryz.func93, by kernel_rfl, by kernel_rfl⟩,
   ⟨_, Tryz.func94, by kernel_rfl, by kernel_rfl⟩,
   ⟨_, Tryz.func95, by kernel_rfl, by kernel_rfl⟩,
   ⟨_, Tryz.func96, by kernel_rfl, by kernel_rfl⟩,
   ⟨_, Tryz.func97, by kernel_rfl, by kernel_rfl⟩,
   ⟨_, Tryz.func98, by kernel_rfl, by kernel_rfl⟩,
   ⟨_, Tryz.func99, by kernel_rfl, by kernel_rfl⟩,
   ⟨_, Tryz.func100, by kernel_rfl, by kernel_rfl⟩,
   ⟨_, Tryz.func101, by kernel_rfl, by kernel_rfl⟩,
   ⟨_, Tryz.func102, by kernel_rfl, by kernel_rfl⟩,
   ⟨_, Tryz.func103, by kernel_rfl, by kernel_rfl⟩,
   ⟨_, Tryz.func104, by kernel_rfl, by kernel_rfl⟩,
   ⟨_, Tryz.func105, by kernel_rfl, by kernel_rfl⟩,
   ⟨_, Tryz.func106, by kernel_rfl, by kernel_rfl⟩,
   ⟨_, Tryz.func107, by kernel_rfl, by kernel_rfl⟩,
   ⟨_, Tryz.func108, by kernel_rfl, by kernel_rfl⟩,
   ⟨_, Tryz.func109, by kernel_rfl, by kernel_rfl⟩,
   ⟨_, Tryz.func110, by kernel_rfl, by kernel_rfl⟩,
   ⟨_, Tryz.func111, by kernel_rfl, by kernel_rfl⟩,
   ⟨_, Tryz.func112, by kernel_rfl, by kernel_rfl⟩,
   ⟨_, Tryz.func113, by kernel_rfl, by kernel_rfl⟩,
   ⟨_, Tryz.func114, by kernel_rfl, by kernel_rfl⟩,
   ⟨_, Tryz.func115, by kernel_rfl, by kernel_rfl⟩,
   ⟨_, Tryz.func116, by kernel_rfl, by kernel_rfl⟩,
   ⟨_, Tryz.func117, by kernel_rfl, by kernel_rfl⟩,
   ⟨_, Tryz.func118, by kernel_rfl, by kernel_rfl⟩,
   ⟨_, Tryz.func119, by kernel_rfl, by kernel_rfl⟩,
   ⟨_, Tryz.func120, by kernel_rfl, by kernel_rfl⟩,
   ⟨_, Tryz.func121, by kernel_rfl, by kernel_rfl⟩,
   ⟨_, Tryz.func122, by kernel_rfl, by kernel_rfl⟩,
   ⟨_, Tryz.func123, by kernel_rfl, by kernel_rfl⟩,
   ⟨_, Tryz.func124, by kernel_rfl, by kernel_rfl⟩,
   ⟨_, Tryz.func125, by kernel_rfl, by kernel_rfl⟩,
   ⟨_, Tryz.func126, by kernel_rfl, by kernel_rfl⟩,
   ⟨_, Tryz.func127, by kernel_rfl, by kernel_rfl⟩,
   ⟨_, Tryz.func128, by kernel_rfl, by kernel_rfl⟩,
   ⟨_, Tryz.func129, by kernel_rfl, by kernel_rfl⟩,
   ⟨_, Tryz.func130, by kernel_rfl, by kernel_rfl⟩,
   ⟨_, Tryz.func132, by kernel_rfl, by kernel_rfl⟩,
   ⟨_, Tryz.func133, by kernel_rfl, by kernel_rfl⟩,
   ⟨_, Tryz.func134, by kernel_rfl, by kernel_rfl⟩,
   ⟨_, Tryz.func135, by kernel_rfl, by kernel_rfl⟩,
   ⟨_, Tryz.func136, by kernel_rfl, by kernel_rfl⟩,
   ⟨_, Tryz.func137, by kernel_rfl, by kernel_rfl⟩,
   ⟨_, Tryz.func138, by kernel_rfl, by kernel_rfl⟩,
   ⟨_, Tryz.func139, by kernel_rfl, by kernel_rfl⟩,
   ⟨_, Tryz.func140, by kernel_rfl, by kernel_rfl⟩,
   ⟨_, Tryz.func141, by kernel_rfl, by kernel_rfl⟩,
   ⟨_, Tryz.func142, by kernel_rfl, by kernel_rfl⟩,
   ⟨_, Tryz.func143, by kernel_rfl, by kernel_rfl⟩,
   ⟨_, Tryz.func144, by kernel_rfl, by kernel_rfl⟩,
   ⟨_, Tryz.func146, by kernel_rfl, by kernel_rfl⟩,
   ⟨_, Tryz.func147, by kernel_rfl, by kernel_rfl⟩,
   ⟨_, Tryz.func148, by kernel_rfl, by kernel_rfl⟩,
   ⟨_, Tryz.func149, by kernel_rfl, by kernel_rfl⟩,
   ⟨_, Tryz.func150, by kernel_rfl, by kernel_rfl⟩,
   ⟨_, Tryz.func151, by kernel_rfl, by kernel_rfl⟩,
   ⟨_, Tryz.func153, by kernel_rfl, by kernel_rfl⟩,
   ⟨_, Tryz.func154, by kernel_rfl, by kernel_rfl⟩,
   ⟨_, Tryz.func155, by kernel_rfl, by kernel_rfl⟩,
   ⟨_, Tryz.func156, by kernel_rfl, by kernel_rfl⟩,
   ⟨_, Tryz.func157, by kernel_rfl, by kernel_rfl⟩,
   ⟨_, Tryz.func158, by kernel_rfl, by kernel_rfl⟩,
   ⟨_, Tryz.func159, by kernel_rfl, by kernel_rfl⟩,
   ⟨_, Tryz.func160, by kernel_rfl, by kernel_rfl⟩,
   ⟨_, Tryz.func161, by kernel_rfl, by kernel_rfl⟩,
   ⟨_, Tryz.func162, by kernel_rfl, by kernel_rfl⟩,
   ⟨_, Tryz.func163, by kernel_rfl, by kernel_rfl⟩,
   ⟨_, Tryz.func164, by kernel_rfl, by kernel_rfl⟩,
   ⟨_, Tryz.func165, by kernel_rfl, by kernel_rfl⟩,
   ⟨_, Tryz.func166, by kernel_rfl, by kernel_rfl⟩,
   ⟨_, Tryz.func167, by kernel_rfl, by kernel_rfl⟩,
   ⟨_, Tryz.func168, by kernel_rfl, by kernel_rfl⟩,
   ⟨_, Tryz.func170, by kernel_rfl, by kernel_rfl⟩,
   ⟨_, Tryz.func171, by kernel_rfl, by kernel_rfl⟩,
   ⟨_, Tryz.func172, by kernel_rfl, by kernel_rfl⟩,
   ⟨_, Tryz.func173, by kernel_rfl, by kernel_rfl⟩,
   ⟨_, Tryz.func174, by kernel_rfl, by kernel_rfl⟩,
   ⟨_, Tryz.func175, by kernel_rfl, by kernel_rfl⟩,
   ⟨_, Tryz.func176, by kernel_rfl, by kernel_rfl⟩,
   ⟨_, Tryz.func177, by kernel_rfl, by kernel_rfl⟩,
   ⟨_, Tryz.func178, by kernel_rfl, by kernel_rfl⟩,
   ⟨_, Tryz.func179, by kernel_rfl, by kernel_rfl⟩,
   ⟨_, Tryz.func180, by kernel_rfl, by kernel_rfl⟩,
   ⟨_, Tryz.func181, by kernel_rfl, by kernel_rfl⟩,
   ⟨_, Tryz.func182, by kernel_rfl, by kernel_rfl⟩,
   ⟨_, Tryz.func183, by kernel_rfl, by kernel_rfl⟩,
   ⟨_, Tryz.func184, by kernel_rfl, by kernel_rfl⟩,
   ⟨_, Tryz.func185, by kernel_rfl, by kernel_rfl⟩,
   ⟨_, Tryz.func186, by kernel_rfl, by kernel_rfl⟩,
   ⟨_, Tryz.func187, by kernel_rfl, by kernel_rfl⟩, trivial⟩

theorem gx_ms : AllM Tryz.prog gx.ms :=
  trivial

theorem gx_eqs : AllE Tryz.prog gx.eqs :=
  ⟨⟨by kernel_rfl, by kernel_rfl, by kernel_rfl⟩,
   ⟨by kernel_rfl, by kernel_rfl, by kernel_rfl⟩,
   ⟨by kernel_rfl, by kernel_rfl, by kernel_rfl⟩, trivial⟩

theorem gx_ok : gx.Ok := ⟨gx_tys, gx_fns, by kernel_rfl, gx_ms, gx_eqs⟩

/-- koinelaw07.SourceMatchesReference -/
noncomputable abbrev c3 : Cx := { g := gx, N := 47, named := 9, keep := [9, 10, 11, 12, 20] }
/-- koinelaw07.SourceNames -/
noncomputable abbrev c4 : Cx := { g := gx, N := 85, named := 11, keep := [11, 12, 13, 14, 23, 29, 37, 50, 58] }
/-- koinelaw07.SourceAnyMatchesReference -/
noncomputable abbrev c5 : Cx := { g := gx, N := 203, named := 3, keep := [3, 4, 5, 6, 7, 8, 9, 10, 11, 12, 13, 14, 15, 16, 17, 18, 19, 20, 21, 22, 23, 24, 25, 26, 27, 28, 29, 30, 47, 53, 64, 134, 138, 149] }
/-- koinelaw07.SourceSelection -/
noncomputable abbrev c6 : Cx := { g := gx, N := 54, named := 10, keep := [10, 11, 12, 35, 40, 52] }
/-- koinelaw07.SourceSections -/
noncomputable abbrev c7 : Cx := { g := gx, N := 118, named := 2, keep := [2, 4, 5, 6, 7, 8, 9, 10, 11, 12, 59, 62, 67, 83] }
/-- koinelaw07.SourceOffsets -/
noncomputable abbrev c8 : Cx := { g := gx, N := 193, named := 10, keep := [10, 11, 12, 13, 14, 15, 16, 17, 18, 19, 20, 21, 22, 24, 26, 49, 83, 112, 114, 152] }
/-- koinelaw07.SourceIncludes -/
noncomputable abbrev c9 : Cx := { g := gx, N := 112, named := 8, keep := [8, 9, 10, 11, 12, 13, 14, 15, 33, 46, 95, 100, 110] }
/-- koinelaw07.SourceErrors -/
noncomputable abbrev c10 : Cx := { g := gx, N := 114, named := 8, keep := [9, 10, 11, 12, 13, 15, 25, 55, 64, 76, 82] }
/-- koinelaw07.sanity -/
noncomputable abbrev c13 : Cx := { g := gx, N := 157, named := 1, keep := [1, 2, 3, 4, 5, 6, 7, 8, 9, 11, 12, 13, 14, 15, 17, 18, 20, 21, 54] }
/-- source.Read -/
noncomputable abbrev c16 : Cx := { g := gx, N := 81, named := 6, keep := [6, 7, 9, 10, 11, 12, 13, 14, 15, 22, 29, 38, 39, 40, 41, 63] }
/-- koineref07.Read -/
noncomputable abbrev c17 : Cx := { g := gx, N := 54, named := 6, keep := [6, 7, 8, 9, 10, 13, 20, 31, 43] }
/-- koineref07.Same -/
noncomputable abbrev c18 : Cx := { g := gx, N := 73, named := 2, keep := [2, 3, 4, 5, 6, 7, 21, 26, 72] }
/-- source.Local -/
noncomputable abbrev c19 : Cx := { g := gx, N := 52, named := 3, keep := [3, 6, 7, 8, 10, 13, 16, 17, 18, 19, 31, 50] }
/-- source.Global -/
noncomputable abbrev c21 : Cx := { g := gx, N := 47, named := 3, keep := [3, 6, 7, 9, 10, 17, 20, 21, 22, 23, 33, 43] }
/-- source.Origin -/
noncomputable abbrev c23 : Cx := { g := gx, N := 44, named := 2, keep := [2, 4, 5, 6, 8, 22, 24, 25, 26, 27, 33] }
/-- source.Dead -/
noncomputable abbrev c25 : Cx := { g := gx, N := 36, named := 2, keep := [2, 3, 4, 5, 6, 7, 8, 9, 13, 17, 19, 20, 21, 22, 29] }
/-- source.Check -/
noncomputable abbrev c27 : Cx := { g := gx, N := 83, named := 1, keep := [1, 2, 3, 5, 15, 17, 18, 19, 20, 55, 74, 82] }
/-- source.Select -/
noncomputable abbrev c29 : Cx := { g := gx, N := 29, named := 2, keep := [2, 4, 5, 7, 10, 13, 14, 15, 16] }
/-- diagram.Constant -/
noncomputable abbrev c34 : Cx := { g := gx, N := 6, named := 2, keep := [2, 3] }
/-- diagram.Disjoint -/
noncomputable abbrev c35 : Cx := { g := gx, N := 16, named := 2, keep := [2, 3, 4] }
/-- diagram.Or -/
noncomputable abbrev c36 : Cx := { g := gx, N := 11, named := 2, keep := [2, 3, 4, 5] }
/-- diagram.Same -/
noncomputable abbrev c37 : Cx := { g := gx, N := 17, named := 2, keep := [2, 3, 4] }
/-- koineref02.Same -/
noncomputable abbrev c38 : Cx := { g := gx, N := 38, named := 2, keep := [2, 3, 4, 5, 19, 24, 37] }
/-- koineref02.Constant -/
noncomputable abbrev c40 : Cx := { g := gx, N := 6, named := 2, keep := [2, 3] }
/-- koineref02.Var -/
noncomputable abbrev c42 : Cx := { g := gx, N := 15, named := 2, keep := [2, 3, 9] }
/-- formula.Parse -/
noncomputable abbrev c43 : Cx := { g := gx, N := 50, named := 4, keep := [4, 5, 6, 7, 8, 15, 25, 32, 38] }
/-- source.checkFiles -/
noncomputable abbrev c44 : Cx := { g := gx, N := 87, named := 2, keep := [2, 3, 4, 5, 6, 7, 10, 13, 14, 15, 16, 46, 47, 48, 73, 79] }
/-- source.Read$1 -/
noncomputable abbrev c45 : Cx := { g := gx, N := 13, named := 2, keep := [2, 3, 9] }
/-- (*source.reader).read -/
noncomputable abbrev c46 : Cx := { g := gx, N := 230, named := 5, keep := [5, 6, 7, 8, 9, 10, 11, 12, 13, 14, 16, 17, 18, 19, 20, 21, 56, 96, 125, 147, 163, 172, 201] }
/-- (*strings.Builder).String -/
noncomputable abbrev c47 : Cx := { g := gx, N := 14, named := 3, keep := [] }
/-- koineref03.Names -/
noncomputable abbrev c48 : Cx := { g := gx, N := 44, named := 4, keep := [7, 40] }
/-- koineref07.Files -/
noncomputable abbrev c49 : Cx := { g := gx, N := 72, named := 2, keep := [2, 3, 4, 5, 6, 9, 14, 46, 64, 68] }
/-- (*koineref07.reader).number -/
noncomputable abbrev c50 : Cx := { g := gx, N := 26, named := 6, keep := [12, 24] }
/-- (*koineref07.reader).file -/
noncomputable abbrev c51 : Cx := { g := gx, N := 159, named := 5, keep := [5, 6, 7, 8, 9, 10, 11, 12, 46, 51, 62, 75, 99, 131] }
/-- source.selected -/
noncomputable abbrev c52 : Cx := { g := gx, N := 25, named := 2, keep := [2, 4, 5, 7, 9, 10, 11, 12, 18] }
/-- diagram.Check -/
noncomputable abbrev c54 : Cx := { g := gx, N := 106, named := 1, keep := [1, 2, 3, 4, 5, 6, 10, 13, 14, 15, 16, 63, 79, 94, 105] }
/-- koineref02.Check -/
noncomputable abbrev c55 : Cx := { g := gx, N := 10, named := 1, keep := [1, 2, 6, 9] }
/-- (*strings.Builder).WriteString -/
noncomputable abbrev c57 : Cx := { g := gx, N := 19, named := 6, keep := [] }
/-- koineref07.begins -/
noncomputable abbrev c59 : Cx := { g := gx, N := 18, named := 5, keep := [] }
/-- diagram.check -/
noncomputable abbrev c62 : Cx := { g := gx, N := 18, named := 4, keep := [4, 5, 6, 7, 8, 9, 15] }
/-- diagram.meets -/
noncomputable abbrev c63 : Cx := { g := gx, N := 17, named := 3, keep := [3, 4, 5, 6, 7, 8] }
/-- diagram.binary -/
noncomputable abbrev c64 : Cx := { g := gx, N := 26, named := 3, keep := [3, 4, 5, 6, 7, 8, 14] }
/-- diagram.Or$1 -/
noncomputable abbrev c65 : Cx := { g := gx, N := 9, named := 5, keep := [] }
/-- slices.Equal[[]api.Branch,api.Branch] -/
noncomputable abbrev c66 : Cx := { g := gx, N := 26, named := 6, keep := [10, 12, 13, 14, 24] }
/-- formula.numbers -/
noncomputable abbrev c68 : Cx := { g := gx, N := 47, named := 7, keep := [8, 9, 10, 11, 31] }
/-- formula.Parse$1 -/
noncomputable abbrev c69 : Cx := { g := gx, N := 17, named := 5, keep := [7, 14] }
/-- (*formula.reader).whole -/
noncomputable abbrev c70 : Cx := { g := gx, N := 6, named := 1, keep := [1, 2] }
/-- (*formula.reader).skip -/
noncomputable abbrev c71 : Cx := { g := gx, N := 29, named := 7, keep := [] }
/-- strings.Cut -/
noncomputable abbrev c73 : Cx := { g := gx, N := 13, named := 7, keep := [] }
/-- (*source.reader).set -/
noncomputable abbrev c74 : Cx := { g := gx, N := 32, named := 4, keep := [4, 5, 6, 16, 17, 25] }
/-- (*source.reader).deeper -/
noncomputable abbrev c75 : Cx := { g := gx, N := 16, named := 2, keep := [6] }
/-- (*source.reader).split -/
noncomputable abbrev c76 : Cx := { g := gx, N := 29, named := 4, keep := [4, 5, 6, 7] }
/-- (*source.reader).number -/
noncomputable abbrev c77 : Cx := { g := gx, N := 56, named := 7, keep := [27, 52] }
/-- (*source.reader).fail -/
noncomputable abbrev c78 : Cx := { g := gx, N := 16, named := 4, keep := [] }
/-- (*source.reader).branch -/
noncomputable abbrev c79 : Cx := { g := gx, N := 42, named := 8, keep := [8, 9, 13, 25] }
/-- (*source.reader).add -/
noncomputable abbrev c80 : Cx := { g := gx, N := 80, named := 7, keep := [7, 8, 31, 37] }
/-- koineref03.Identifier -/
noncomputable abbrev c81 : Cx := { g := gx, N := 34, named := 4, keep := [7, 30] }
/-- koineref03.index -/
noncomputable abbrev c82 : Cx := { g := gx, N := 19, named := 6, keep := [9, 17] }
/-- koineref07.validName -/
noncomputable abbrev c83 : Cx := { g := gx, N := 28, named := 4, keep := [7, 25] }
/-- koineref07.directive -/
noncomputable abbrev c84 : Cx := { g := gx, N := 21, named := 3, keep := [] }
/-- (*koineref07.reader).text -/
noncomputable abbrev c85 : Cx := { g := gx, N := 99, named := 8, keep := [8, 12, 38, 46] }
/-- (*koineref07.reader).set -/
noncomputable abbrev c86 : Cx := { g := gx, N := 42, named := 8, keep := [8, 9, 10, 11, 23, 30] }
/-- (*koineref07.reader).deeper -/
noncomputable abbrev c87 : Cx := { g := gx, N := 22, named := 6, keep := [10] }
/-- koineref02.Minus -/
noncomputable abbrev c88 : Cx := { g := gx, N := 9, named := 2, keep := [2, 3, 4] }
/-- koineref02.Intersection -/
noncomputable abbrev c89 : Cx := { g := gx, N := 8, named := 2, keep := [2, 3, 4] }
/-- (*koineref07.reader).include -/
noncomputable abbrev c90 : Cx := { g := gx, N := 87, named := 7, keep := [7, 10, 11, 12, 28, 41, 47, 61, 75] }
/-- (*koineref07.reader).branch -/
noncomputable abbrev c91 : Cx := { g := gx, N := 90, named := 11, keep := [11, 12, 13, 14, 15, 18, 37, 49, 59] }
/-- (*koineref07.reader).fail -/
noncomputable abbrev c92 : Cx := { g := gx, N := 21, named := 8, keep := [13] }
/-- diagram.Holds -/
noncomputable abbrev c93 : Cx := { g := gx, N := 32, named := 2, keep := [2, 4, 5, 6, 9, 13, 25] }
/-- diagram.level -/
noncomputable abbrev c94 : Cx := { g := gx, N := 14, named := 2, keep := [2, 4, 6] }
/-- (*diagram.builder).diagram -/
noncomputable abbrev c95 : Cx := { g := gx, N := 17, named := 2, keep := [2, 4, 5, 6, 7] }
/-- koineref02.Valid -/
noncomputable abbrev c96 : Cx := { g := gx, N := 34, named := 1, keep := [1, 2, 3, 15, 20, 26] }
/-- koineref02.first -/
noncomputable abbrev c97 : Cx := { g := gx, N := 19, named := 5, keep := [8, 17] }
/-- (*strings.Builder).copyCheck -/
noncomputable abbrev c98 : Cx := { g := gx, N := 20, named := 2, keep := [6, 19] }
/-- diagram.meets$1 -/
noncomputable abbrev c101 : Cx := { g := gx, N := 67, named := 15, keep := [16, 24, 26, 31] }
/-- diagram.sides -/
noncomputable abbrev c102 : Cx := { g := gx, N := 29, named := 3, keep := [3, 6, 7, 12] }
/-- diagram.limited -/
noncomputable abbrev c103 : Cx := { g := gx, N := 10, named := 1, keep := [1, 2, 3, 7] }
/-- diagram.combine -/
noncomputable abbrev c104 : Cx := { g := gx, N := 25, named := 2, keep := [2, 3, 4, 5, 6, 7] }
/-- diagram.binary$1 -/
noncomputable abbrev c105 : Cx := { g := gx, N := 12, named := 8, keep := [] }
/-- koineref02.Union -/
noncomputable abbrev c106 : Cx := { g := gx, N := 8, named := 2, keep := [2, 3, 4] }
/-- formula.identifier -/
noncomputable abbrev c107 : Cx := { g := gx, N := 23, named := 4, keep := [7, 21] }
/-- (*formula.reader).expression -/
noncomputable abbrev c108 : Cx := { g := gx, N := 25, named := 11, keep := [15] }
/-- (*formula.reader).whole$1 -/
noncomputable abbrev c109 : Cx := { g := gx, N := 6, named := 2, keep := [] }
/-- (*formula.reader).factor -/
noncomputable abbrev c110 : Cx := { g := gx, N := 84, named := 9, keep := [10, 18, 23, 32, 49, 50, 55] }
/-- strings.TrimLeft -/
noncomputable abbrev c111 : Cx := { g := gx, N := 37, named := 5, keep := [5, 6, 12, 21, 31] }
/-- strings.CutPrefix -/
noncomputable abbrev c112 : Cx := { g := gx, N := 11, named := 6, keep := [] }
/-- internal/stringslite.Cut -/
noncomputable abbrev c114 : Cx := { g := gx, N := 23, named := 8, keep := [12] }
/-- (*source.reader).want -/
noncomputable abbrev c115 : Cx := { g := gx, N := 13, named := 4, keep := [4, 6, 8] }
/-- formula.Diagram -/
noncomputable abbrev c116 : Cx := { g := gx, N := 108, named := 2, keep := [2, 3, 4, 5, 6, 7, 10, 15, 16, 17, 18, 23, 24, 34, 45, 59, 78, 98] }
/-- diagram.And -/
noncomputable abbrev c117 : Cx := { g := gx, N := 11, named := 2, keep := [2, 3, 4, 5] }
/-- diagram.Not -/
noncomputable abbrev c118 : Cx := { g := gx, N := 9, named := 1, keep := [1, 2, 3] }
/-- (*strings.Builder).Len -/
noncomputable abbrev c120 : Cx := { g := gx, N := 8, named := 3, keep := [] }
/-- source.clone -/
noncomputable abbrev c121 : Cx := { g := gx, N := 9, named := 1, keep := [1, 2] }
/-- koineref03.letter -/
noncomputable abbrev c122 : Cx := { g := gx, N := 21, named := 3, keep := [] }
/-- koineref03.Parse -/
noncomputable abbrev c123 : Cx := { g := gx, N := 58, named := 9, keep := [11, 18, 25, 42, 47] }
/-- koineref03.Diagram -/
noncomputable abbrev c124 : Cx := { g := gx, N := 94, named := 2, keep := [2, 3, 4, 5, 6, 7, 8, 11, 16, 28, 29, 37, 48, 64, 81] }
/-- koineref02.Complement -/
noncomputable abbrev c125 : Cx := { g := gx, N := 6, named := 1, keep := [1, 2] }
/-- koineref02.combine -/
noncomputable abbrev c126 : Cx := { g := gx, N := 26, named := 3, keep := [3, 4, 6, 7, 8] }
/-- (*koineref07.reader).open -/
noncomputable abbrev c127 : Cx := { g := gx, N := 24, named := 6, keep := [12, 23] }
/-- (*diagram.builder).diagram$1 -/
noncomputable abbrev c128 : Cx := { g := gx, N := 55, named := 9, keep := [9, 10, 11, 18] }
/-- koineref02.branch -/
noncomputable abbrev c129 : Cx := { g := gx, N := 79, named := 2, keep := [2, 4, 5, 6, 50, 66, 69, 78] }
/-- koineref02.numbered -/
noncomputable abbrev c130 : Cx := { g := gx, N := 22, named := 4, keep := [4, 5, 6] }
/-- diagram.newBuilder -/
noncomputable abbrev c134 : Cx := { g := gx, N := 4, named := 1, keep := [] }
/-- diagram.combine$1 -/
noncomputable abbrev c135 : Cx := { g := gx, N := 97, named := 6, keep := [6, 7, 8, 9, 10, 11, 12, 13, 14, 15, 28, 39, 46, 64, 65] }
/-- (*diagram.builder).branch -/
noncomputable abbrev c136 : Cx := { g := gx, N := 54, named := 9, keep := [9, 10, 11, 14, 30] }
/-- strings.IndexFunc -/
noncomputable abbrev c137 : Cx := { g := gx, N := 8, named := 5, keep := [] }
/-- formula.identifier$1 -/
noncomputable abbrev c138 : Cx := { g := gx, N := 29, named := 3, keep := [] }
/-- (*formula.reader).put -/
noncomputable abbrev c139 : Cx := { g := gx, N := 21, named := 3, keep := [3, 4] }
/-- strings.makeASCIISet -/
noncomputable abbrev c141 : Cx := { g := gx, N := 21, named := 2, keep := [2, 3, 4, 5, 9, 16] }
/-- strings.trimLeftASCII -/
noncomputable abbrev c142 : Cx := { g := gx, N := 16, named := 5, keep := [7, 12] }
/-- internal/stringslite.CutPrefix -/
noncomputable abbrev c144 : Cx := { g := gx, N := 15, named := 6, keep := [9] }
/-- formula.Check -/
noncomputable abbrev c147 : Cx := { g := gx, N := 63, named := 3, keep := [3, 4, 5, 6, 8, 9, 17, 18, 19, 20, 21, 29, 36, 37, 38, 39, 44, 54, 55, 56, 61] }
/-- diagram.Var -/
noncomputable abbrev c148 : Cx := { g := gx, N := 15, named := 2, keep := [2, 3, 9] }
/-- diagram.And$1 -/
noncomputable abbrev c149 : Cx := { g := gx, N := 9, named := 5, keep := [] }
/-- diagram.Not$1 -/
noncomputable abbrev c150 : Cx := { g := gx, N := 7, named := 5, keep := [] }
/-- koineref03.tokens -/
noncomputable abbrev c154 : Cx := { g := gx, N := 99, named := 7, keep := [10, 11, 24, 41, 63, 83] }
/-- (*koineref03.parser).expression -/
noncomputable abbrev c155 : Cx := { g := gx, N := 24, named := 5, keep := [15] }
/-- koineref03.Check -/
noncomputable abbrev c156 : Cx := { g := gx, N := 79, named := 7, keep := [14, 21, 30, 38, 50, 64, 78] }
/-- koineref02.Not -/
noncomputable abbrev c157 : Cx := { g := gx, N := 16, named := 1, keep := [1, 2, 3, 4, 8] }
/-- koineref02.And -/
noncomputable abbrev c158 : Cx := { g := gx, N := 11, named := 2, keep := [2, 3, 4, 5] }
/-- koineref02.Or -/
noncomputable abbrev c159 : Cx := { g := gx, N := 11, named := 2, keep := [2, 3, 4, 5] }
/-- (*koineref02.apply).at -/
noncomputable abbrev c160 : Cx := { g := gx, N := 137, named := 17, keep := [22, 33, 57] }
/-- koineref02.level -/
noncomputable abbrev c161 : Cx := { g := gx, N := 14, named := 2, keep := [2, 4, 6] }
/-- (*koineref02.walk).visit -/
noncomputable abbrev c162 : Cx := { g := gx, N := 77, named := 5, keep := [5, 6, 7, 9, 19] }
/-- (*strings.asciiSet).contains -/
noncomputable abbrev c165 : Cx := { g := gx, N := 10, named := 5, keep := [] }
/-- internal/stringslite.HasPrefix -/
noncomputable abbrev c168 : Cx := { g := gx, N := 18, named := 5, keep := [] }
/-- formula.arity -/
noncomputable abbrev c172 : Cx := { g := gx, N := 69, named := 2, keep := [2, 4, 5, 6, 11, 12, 15, 27, 28, 33, 67] }
/-- (*koineref03.parser).conjunction -/
noncomputable abbrev c173 : Cx := { g := gx, N := 24, named := 5, keep := [15] }
/-- (*koineref03.parser).next -/
noncomputable abbrev c174 : Cx := { g := gx, N := 36, named := 5, keep := [28] }
/-- (*koineref03.parser).put -/
noncomputable abbrev c175 : Cx := { g := gx, N := 21, named := 3, keep := [3, 4] }
/-- koineref03.node -/
noncomputable abbrev c176 : Cx := { g := gx, N := 75, named := 2, keep := [2, 4, 5, 30, 46, 74] }
/-- koineref03.operands -/
noncomputable abbrev c177 : Cx := { g := gx, N := 13, named := 3, keep := [3, 4, 8, 10] }
/-- koineref02.limited -/
noncomputable abbrev c178 : Cx := { g := gx, N := 10, named := 1, keep := [1, 2, 3, 7] }
/-- koineref02.operation -/
noncomputable abbrev c179 : Cx := { g := gx, N := 24, named := 3, keep := [3, 4, 6, 7, 8, 14] }
/-- (*koineref02.apply).constant -/
noncomputable abbrev c180 : Cx := { g := gx, N := 25, named := 7, keep := [10, 11, 16] }
/-- koineref02.sides -/
noncomputable abbrev c181 : Cx := { g := gx, N := 29, named := 3, keep := [3, 6, 7, 12] }
/-- koineref02.unique -/
noncomputable abbrev c182 : Cx := { g := gx, N := 38, named := 3, keep := [3, 4, 5, 6, 11, 18, 26] }
/-- (*koineref03.parser).factor -/
noncomputable abbrev c186 : Cx := { g := gx, N := 97, named := 7, keep := [15, 21, 27, 34, 39, 86] }
end
end Go.Proofs.YtedopgkbajhanaaGreatDoor

namespace Go.Proofs
section
open Go.Shelf
def Tryz.lays137_ren : Go.Shelf.Ren := ⟨fun | 137 => 72 | 217 => 113 | 266 => 145 | n => n, fun | 9 => 9 | 5 => 5 | 3 => 3 | n => n, fun | n => n⟩
theorem Tryz.lays137 : Go.Proofs.Lays.n137 Tryz.prog Tryz.lays137_ren := {
  mixed := by kernel_rfl
  f137 := Tryz.func72.trans (congrArg some (by kernel_rfl))
  f217 := Tryz.func113.trans (congrArg some (by kernel_rfl))
  f266 := Tryz.func145.trans (congrArg some (by kernel_rfl))
  t3 := Tryz.underlying3
  a3 := Tryz.isAgg3
  z3 := Tryz.sizeOf3
  v3 := Tryz.zeroValue3
  t5 := Tryz.underlying5
  a5 := Tryz.isAgg5
  z5 := Tryz.sizeOf5
  v5 := Tryz.zeroValue5
  t9 := Tryz.underlying9
  a9 := Tryz.isAgg9
  z9 := Tryz.sizeOf9
  v9 := Tryz.zeroValue9 }
open Go.RowKit in
theorem Tryz.strings_IndexByte (s : ByteArray) (c : Int) (w : World) :
    Calls Tryz.prog 72 #[.string s, .int .u8 c] w fun e w' => e = .returned (.int .i64 (Lib.indexByte s.data.toList c.toNat.toUInt8)) ∧ w' = w := Any.strings_IndexByte Tryz.lays137 s c w
def Tryz.lays219_ren : Go.Shelf.Ren := ⟨fun | 219 => 146 | 217 => 113 | 225 => 169 | 224 => 170 | 267 => 171 | 266 => 145 | 314 => 185 | n => n, fun | 9 => 9 | 3 => 3 | 4 => 4 | 5 => 5 | 46 => 153 | 146 => 240 | 51 => 239 | n => n, fun | 1 => 0 | n => n⟩
theorem Tryz.lays219 : Go.Proofs.Lays.n219 Tryz.prog Tryz.lays219_ren := {
  mixed := by kernel_rfl
  f217 := Tryz.func113.trans (congrArg some (by kernel_rfl))
  f219 := Tryz.func146.trans (congrArg some (by kernel_rfl))
  f224 := Tryz.func170.trans (congrArg some (by kernel_rfl))
  f225 := Tryz.func169.trans (congrArg some (by kernel_rfl))
  f266 := Tryz.func145.trans (congrArg some (by kernel_rfl))
  f267 := Tryz.func171.trans (congrArg some (by kernel_rfl))
  f314 := Tryz.func185.trans (congrArg some (by kernel_rfl))
  t3 := Tryz.underlying3
  a3 := Tryz.isAgg3
  z3 := Tryz.sizeOf3
  v3 := Tryz.zeroValue3
  t4 := Tryz.underlying4
  a4 := Tryz.isAgg4
  z4 := Tryz.sizeOf4
  v4 := Tryz.zeroValue4
  t5 := Tryz.underlying5
  a5 := Tryz.isAgg5
  z5 := Tryz.sizeOf5
  v5 := Tryz.zeroValue5
  t9 := Tryz.underlying9
  a9 := Tryz.isAgg9
  z9 := Tryz.sizeOf9
  v9 := Tryz.zeroValue9
  t46 := Tryz.underlying153
  a46 := Tryz.isAgg153
  z46 := Tryz.sizeOf153
  v46 := Tryz.zeroValue153
  t51 := Tryz.underlying239
  a51 := Tryz.isAgg239
  z51 := Tryz.sizeOf239
  v51 := Tryz.zeroValue239
  t146 := Tryz.underlying240
  a146 := Tryz.isAgg240
  z146 := Tryz.sizeOf240
  v146 := Tryz.zeroValue240
  g1 := by kernel_rfl }
open Go.RowKit Go.Lib in
theorem Tryz.stringslite_Index_one (s : ByteArray) (c : UInt8) (w : World) :
    Calls Tryz.prog 146 #[.string s, .string ⟨#[c]⟩] w fun e w' => e = .returned (.int .i64 (Lib.indexByte s.data.toList c)) ∧ w' = w := Any.stringslite_Index_one Tryz.lays219 s c w
def Tryz.lays138_ren : Go.Shelf.Ren := ⟨fun | 138 => 119 | 195 => 151 | 218 => 152 | 143 => 153 | 219 => 146 | 217 => 113 | 225 => 169 | 224 => 170 | 267 => 171 | 266 => 145 | 314 => 185 | n => n, fun | 9 => 9 | 3 => 3 | 4 => 4 | 5 => 5 | 0 => 0 | 46 => 153 | 146 => 240 | 51 => 239 | n => n, fun | 1 => 0 | n => n⟩
theorem Tryz.lays138 : Go.Proofs.Lays.n138 Tryz.prog Tryz.lays138_ren := {
  mixed := by kernel_rfl
  f138 := Tryz.func119.trans (congrArg some (by kernel_rfl))
  f143 := Tryz.func153.trans (congrArg some (by kernel_rfl))
  f195 := Tryz.func151.trans (congrArg some (by kernel_rfl))
  f217 := Tryz.func113.trans (congrArg some (by kernel_rfl))
  f218 := Tryz.func152.trans (congrArg some (by kernel_rfl))
  f219 := Tryz.func146.trans (congrArg some (by kernel_rfl))
  f224 := Tryz.func170.trans (congrArg some (by kernel_rfl))
  f225 := Tryz.func169.trans (congrArg some (by kernel_rfl))
  f266 := Tryz.func145.trans (congrArg some (by kernel_rfl))
  f267 := Tryz.func171.trans (congrArg some (by kernel_rfl))
  f314 := Tryz.func185.trans (congrArg some (by kernel_rfl))
  t0 := Tryz.underlying0
  a0 := Tryz.isAgg0
  z0 := Tryz.sizeOf0
  v0 := Tryz.zeroValue0
  t3 := Tryz.underlying3
  a3 := Tryz.isAgg3
  z3 := Tryz.sizeOf3
  v3 := Tryz.zeroValue3
  t4 := Tryz.underlying4
  a4 := Tryz.isAgg4
  z4 := Tryz.sizeOf4
  v4 := Tryz.zeroValue4
  t5 := Tryz.underlying5
  a5 := Tryz.isAgg5
  z5 := Tryz.sizeOf5
  v5 := Tryz.zeroValue5
  t9 := Tryz.underlying9
  a9 := Tryz.isAgg9
  z9 := Tryz.sizeOf9
  v9 := Tryz.zeroValue9
  t46 := Tryz.underlying153
  a46 := Tryz.isAgg153
  z46 := Tryz.sizeOf153
  v46 := Tryz.zeroValue153
  t51 := Tryz.underlying239
  a51 := Tryz.isAgg239
  z51 := Tryz.sizeOf239
  v51 := Tryz.zeroValue239
  t146 := Tryz.underlying240
  a146 := Tryz.isAgg240
  z146 := Tryz.sizeOf240
  v146 := Tryz.zeroValue240
  g1 := by kernel_rfl }
open Go.RowKit Go.Lib in
theorem Tryz.strings_Count_one (s : ByteArray) (c : UInt8) (w : World) :
    Calls Tryz.prog 119 #[.string s, .string ⟨#[c]⟩] w fun e w' => e = .returned (.int .i64 (Lib.countByte s.data.toList c)) ∧ w' = w := Any.strings_Count_one Tryz.lays138 s c w
def Tryz.lays315_ren : Go.Shelf.Ren := ⟨fun | 315 => 164 | n => n, fun | 9 => 9 | 40 => 202 | 4 => 4 | 3 => 3 | 0 => 0 | 21 => 21 | n => n, fun | n => n⟩
theorem Tryz.lays315 : Go.Proofs.Lays.n315 Tryz.prog Tryz.lays315_ren := {
  mixed := by kernel_rfl
  f315 := Tryz.func164.trans (congrArg some (by kernel_rfl))
  t0 := Tryz.underlying0
  a0 := Tryz.isAgg0
  z0 := Tryz.sizeOf0
  v0 := Tryz.zeroValue0
  t3 := Tryz.underlying3
  a3 := Tryz.isAgg3
  z3 := Tryz.sizeOf3
  v3 := Tryz.zeroValue3
  t4 := Tryz.underlying4
  a4 := Tryz.isAgg4
  z4 := Tryz.sizeOf4
  v4 := Tryz.zeroValue4
  t9 := Tryz.underlying9
  a9 := Tryz.isAgg9
  z9 := Tryz.sizeOf9
  v9 := Tryz.zeroValue9
  t21 := Tryz.underlying21
  a21 := Tryz.isAgg21
  z21 := Tryz.sizeOf21
  v21 := Tryz.zeroValue21
  t40 := Tryz.underlying202
  a40 := Tryz.isAgg202
  z40 := Tryz.sizeOf202
  v40 := Tryz.zeroValue202 }
open Go.RowKit Go.Lib in
theorem Tryz.strings_indexFunc (g : Nat) (lb : Array Value) (eg : ∀ args w, (callFunc g args).run Tryz.prog w = .ok (.enter g args) w) (p : Nat → Bool) (truth : Bool) (s : ByteArray) (w : World) (hp : PredAt Tryz.prog g lb encR p w) :
    Calls Tryz.prog 164 #[.string s, .func (.func g) #[] lb, .bool truth] w fun e w' => e = .returned (.int .i64 (Lib.idxFunc p truth s)) ∧ Below w.heap.size w w' := Any.strings_indexFunc Tryz.lays315 g lb eg p truth s w hp
end
end Go.Proofs

namespace Go.Proofs.YtedopgkbajhanaaGreatDoor
section
open Go Go.RowKit

structure Mod (S : Nat → Prop) (w w' : World) : Prop where
  os : w'.os = w.os
  tape : w'.tape = w.tape
  output : w'.output = w.output
  size : w.heap.size ≤ w'.heap.size
  block : ∀ k, k < w.heap.size → ¬ S k → w'.heap[k]? = w.heap[k]?

theorem Mod.refl (S : Nat → Prop) (w : World) : Mod S w w := ⟨rfl, rfl, rfl, Nat.le_refl _, fun _ _ _ => rfl⟩
theorem Mod.of_ext {w w' : World} (S : Nat → Prop) (h : Ext w w') : Mod S w w' := ⟨h.os, h.tape, h.output, h.size, fun k hk _ => h.block k hk (by simp)⟩
theorem Mod.of_grown {w w' : World} {S : Nat → Prop} {g : Nat} (h : w.grownBy w' (some g)) (hS : S g) : Mod S w w' := ⟨h.os, h.tape, h.output, h.size, fun k hk hn => h.block k hk (fun e => by cases e; exact hn hS)⟩
theorem Mod.trans {S S' : Nat → Prop} {a b c : World} (h : Mod S a b) (k : Mod S' b c) (hs : ∀ i, S' i → S i ∨ a.heap.size ≤ i) : Mod S a c :=
  ⟨k.os.trans h.os, k.tape.trans h.tape, k.output.trans h.output, Nat.le_trans h.size k.size, fun i hi hn => (k.block i (Nat.lt_of_lt_of_le hi h.size) (fun hS => by rcases hs i hS with h | h; exact hn h; omega)).trans (h.block i hi hn)⟩
theorem Mod.mono {S S' : Nat → Prop} {a b : World} (h : Mod S a b) (hs : ∀ i, S i → S' i ∨ a.heap.size ≤ i) : Mod S' a b :=
  ⟨h.os, h.tape, h.output, h.size, fun i hi hn => h.block i hi (fun hS => by rcases hs i hS with h | h; exact hn h; omega)⟩
theorem Mod.ext {S : Nat → Prop} {w0 w w' : World} (h : Mod S w w') (k : Ext w0 w) (hs : ∀ i, S i → w0.heap.size ≤ i) : Ext w0 w' :=
  ⟨h.os.trans k.os, h.tape.trans k.tape, h.output.trans k.output, Nat.le_trans k.size h.size, fun i hi _ => (h.block i (Nat.lt_of_lt_of_le hi k.size) (fun hS => by have := hs i hS; omega)).trans (k.block i hi (by simp))⟩
theorem Blk.mod {S : Nat → Prop} {w w' : World} {g t : Nat} {cs : List Value} (h : Blk w g t cs) (k : Mod S w w') (hn : ¬ S g) : Blk w' g t cs := (k.block g h.lt hn).trans h
theorem Mod.grown {S : Nat → Prop} {w w' : World} (h : Mod S w w') {row : Option Nat} (hs : ∀ i, S i → row = some i) : w.grownBy w' row := ⟨h.os, h.tape, h.output, h.size, fun k hk hn => h.block k hk (fun hS => hn (hs k hS).symm)⟩

/-- The block of a slice's row. -/
def rowS (A : Option Addr) : Nat → Prop := fun k => ∃ ad, A = some ad ∧ ad.block = k
theorem rowS_own {A : Option Addr} {n c k : Nat} (h : (Value.slice A n c).ownBlock = some k) : rowS A k := by
  cases A with
  | none => simp [Value.ownBlock] at h
  | some ad => exact ⟨ad, rfl, by simpa [Value.ownBlock] using h⟩
theorem Mod.of_row {w w' : World} {A : Option Addr} {n c : Nat} (h : w.grownBy w' (Value.slice A n c).ownBlock) : Mod (rowS A) w w' :=
  ⟨h.os, h.tape, h.output, h.size, fun k hk hn => h.block k hk (fun e => hn (rowS_own e.symm))⟩
theorem Own.rows {w : World} {base e sz n c : Nat} {A : Option Addr} {cs : List Value} (h : Own w base e sz A n c cs) : ∀ k, rowS A k → base ≤ k ∧ k < w.heap.size := by
  rintro k ⟨ad, rfl, rfl⟩
  have h := h.row
  rcases h.2 with ⟨hv, _⟩ | ⟨g, cap, cur, hv, hb, hg, _⟩
  · cases hv
  · cases hv; exact ⟨hb, (Array.getElem?_eq_some_iff.1 hg).1⟩
theorem Own.mod {S : Nat → Prop} {w w' : World} {base e sz n c : Nat} {A : Option Addr} {cs : List Value} (h : Own w base e sz A n c cs) (k : Mod S w w') (hn : ∀ i, rowS A i → ¬ S i) : Own w' base e sz A n c cs := by
  have hr := h.row
  refine ⟨⟨hr.1, ?_⟩⟩
  rcases hr.2 with ⟨hv, hx⟩ | ⟨g, cap, cur, hv, hb, hg, hrest⟩
  · exact .inl ⟨hv, hx⟩
  · refine .inr ⟨g, cap, cur, hv, hb, (k.block g (Array.getElem?_eq_some_iff.1 hg).1 (hn g ?_)).trans hg, hrest⟩
    cases hv; exact ⟨_, rfl, rfl⟩
theorem Own.up {w : World} {base base' e sz n c : Nat} {A : Option Addr} {cs : List Value} (h : Own w base e sz A n c cs) (hb : base' ≤ base) : Own w base' e sz A n c cs := by
  have hr := h.row
  refine ⟨⟨hr.1, ?_⟩⟩
  rcases hr.2 with hv | ⟨g, cap, cur, hv, hb', hrest⟩
  · exact .inl hv
  · exact .inr ⟨g, cap, cur, hv, Nat.le_trans hb hb', hrest⟩
/-- Where a row has gone: it stayed, or lies in new memory. -/
def Moved (w : World) (A A' : Option Addr) : Prop := ∀ ad, A' = some ad → A = some ad ∨ w.heap.size ≤ ad.block
theorem Moved.refl (w : World) (A : Option Addr) : Moved w A A := fun _ h => .inl h
theorem Moved.rows {w : World} {A A' : Option Addr} (h : Moved w A A') : ∀ k, rowS A' k → rowS A k ∨ w.heap.size ≤ k := by
  rintro k ⟨ad, rfl, rfl⟩
  rcases h ad rfl with h | h
  · exact .inl ⟨ad, h, rfl⟩
  · exact .inr h
theorem Moved.trans {w w1 : World} {A B C : Option Addr} (h : Moved w A B) (k : Moved w1 B C) (hs : w.heap.size ≤ w1.heap.size) : Moved w A C := fun ad e => by
  rcases k ad e with h1 | h1
  · exact h ad h1
  · exact .inr (by omega)
theorem Moved.back {w w1 : World} {A B : Option Addr} (h : Moved w1 A B) (hs : w.heap.size ≤ w1.heap.size) : Moved w A B := (Moved.refl w A).trans h hs

theorem at_app {c : Cx} (hg : c.g.Ok) {o : Oper} {S : Env} {w : World} {K : Env → World → Prop} {Q : Post} {t t2 e sz : Nat} {x y : Operand} {A B : Option Addr} {n cp : Nat} {m c2 : Nat} {xs ys : List Value} {base : Nat} {r re r2 : TyRow}
    (ho : o.op = .call ⟨.builtin .append, #[x, y], #[t, t2]⟩) (hr : rowOf c.g.tys t = some r) (hd : r.d = .slice e) (hre : rowOf c.g.tys e = some re) (hs : re.sz = sz) (hsz0 : 0 < sz) (hzc : re.z.cells.size = sz) (hr2 : rowOf c.g.tys t2 = some r2) (hd2 : ∃ e2, r2.d = .slice e2)
    (hx : S.ev x = some (.slice A n cp)) (hy : S.ev y = some (.slice B m c2)) (hown : Own w base e sz A n cp xs) (hys : Sl w sz B m c2 ys) (hsc : ∀ u ∈ ys, scalar u = true)
    (h63 : n + m ≤ maxLen) (hby : (n + m) * re.by_ ≤ 140737488355328) (hbase : base ≤ w.heap.size)
    (k : ∀ A' c' w1, Mod (rowS A) w w1 → Own w1 base e sz A' (n + m) c' (xs ++ ys) → Moved w A A' → putK c S o.dst (.v (.slice A' (n + m) c')) (fun S => K S w1)) : AtOp c o S w K Q :=
  at_appendN hg ho hr hd hre hs hsz0 hzc hr2 hd2 hx hy hown hys hsc h63 hby hbase (fun A' c' w1 h1 h2 h3 => k A' c' w1 (Mod.of_row h1) h2 h3)

theorem at_app_str {c : Cx} (hg : c.g.Ok) {o : Oper} {S : Env} {w : World} {K : Env → World → Prop} {Q : Post} {t t2 e : Nat} {x y : Operand} {A : Option Addr} {n cp : Nat} {s : ByteArray} {xs : List Value} {base : Nat} {r re r2 : TyRow}
    (ho : o.op = .call ⟨.builtin .append, #[x, y], #[t, t2]⟩) (hr : rowOf c.g.tys t = some r) (hd : r.d = .slice e) (hre : rowOf c.g.tys e = some re) (hs : re.sz = 1) (hzc : re.z = .int .u8 0) (hbt : re.by_ = 1) (hr2 : rowOf c.g.tys t2 = some r2) (hd2 : r2.d = .string)
    (hx : S.ev x = some (.slice A n cp)) (hy : S.ev y = some (.string s)) (hown : Own w base e 1 A n cp xs)
    (h63 : n + s.size ≤ 140737488355328) (hbase : base ≤ w.heap.size)
    (k : ∀ A' c' w1, Mod (rowS A) w w1 → Own w1 base e 1 A' (n + s.size) c' (xs ++ Lib.strCells s) → Moved w A A' → putK c S o.dst (.v (.slice A' (n + s.size) c')) (fun S => K S w1)) : AtOp c o S w K Q :=
  at_append_str hg ho hr hd hre hs hzc hbt hr2 hd2 hx hy hown h63 hbase (fun A' c' w1 h1 h2 h3 => k A' c' w1 (Mod.of_row h1) h2 h3)

theorem store_mod0 {w : World} {g t : Nat} {cs : List Value} {v : Value} {K : World → Prop} (h : Blk w g t cs) (hj : 0 < cs.length) (k : ∀ w1, Mod (· = g) w w1 → Blk w1 g t (cs.set 0 v) → K w1) : Store w ⟨g, 0, none⟩ v K :=
  store_blk0 h hj (fun w1 h1 h2 => k w1 (Mod.of_grown h1 rfl) h2)
theorem store_mod {w : World} {g t : Nat} {cs : List Value} {j : Nat} {v : Value} {K : World → Prop} (h : Blk w g t cs) (hj : j < cs.length) (k : ∀ w1, Mod (· = g) w w1 → Blk w1 g t (cs.set j v) → K w1) : Store w ((⟨g, 0, none⟩ : Addr).add j) v K :=
  store_blk h hj (fun w1 h1 h2 => k w1 (Mod.of_grown h1 rfl) h2)
theorem sc {vs : List Value} (h : vs.all scalar = true) : ∀ u ∈ vs, scalar u = true := by simpa using h
/-- A new variable that is stored into at once. -/
theorem newBox {w w5 w6 : World} {t : Nat} {cs : List Value} (hE5 : Ext w w5) (_ : Blk w5 w.heap.size t cs) (hg6 : w5.grownBy w6 (some w.heap.size)) : Ext w w6 :=
  (Ext.refl w).own (grown_trans (hE5.grown (some w.heap.size)) hg6) (Nat.le_refl _)
end
end Go.Proofs.YtedopgkbajhanaaGreatDoor
