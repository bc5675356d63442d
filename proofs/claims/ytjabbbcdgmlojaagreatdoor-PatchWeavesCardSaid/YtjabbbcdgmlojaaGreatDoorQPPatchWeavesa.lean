/-
  What PPatchWeaves rests on, part 1 (wip/shake.py).
  Conditions: none.
-/
import Derived.Test.YtjabbbcdgmlojaaGreatDoorProg
import Derived.WalkKit
import Derived.Deep.QuietTactic
import Derived.Laws.CopyOwn
import Derived.StillTail
import Derived.OrdersHeld
import Derived.Laws.StructEq
import Derived.Lib.AppendStr
import Derived.Shelf.Strings.Builder1
import Derived.Shelf.Strings.Builder2
import Derived.Shelf.Strings.OnBuilder
import Derived.Shelf.Small.Utf8
import Derived.Shelf.Small.Strs
import Derived.Shelf.Strings.BuilderF
import Derived.Shelf.Strings.Search1
import Derived.Shelf.Strings.Search2
import Derived.Shelf.Strings.Search3
import Derived.Shelf.Strings.Cut
import Derived.Shelf.Strings.Count
import Derived.Shelf.LaysM
import Derived.Shelf.Strings.Shaped
import Derived.Shelf.Strings.LastIndex
import Derived.Shelf.GgClosure.StringsIndexFunc
import Derived.Shelf.Strings.Prefix
import Derived.Shelf.Strings.Runes
import Derived.Shelf.Strings.AsciiSet
import Derived.Shelf.Unicode.DecodeSlow
import Derived.Lib.Builder
import Derived.Lib.UnsafeStr
import Derived.Maps.RangeRun
import Derived.Recover
import Derived.ChangeKeysEq
import Derived.Deep.Grids
import Derived.Below
import Derived.ProofKit
import Derived.OpenShut
import Derived.ShutString
import Derived.ChangeOld
import Derived.Deep.Slices
import Derived.ChangeSame
import Derived.WideShapes
import Derived.Lay
import Derived.SevenTiedAt
import Derived.Deep.DeepHandedRow
set_option linter.all false
set_option linter.deprecated false
namespace Go.Proofs.YtjabbbcdgmlojaaGreatDoor
section
open Go Go.RowKit
inductive Ent where
 | v (x:Value)
 | t
 | f
def Ent.val:Ent->Value
 | .v x=>x
 | .t=>.bool true
 | .f=>.bool false
abbrev Env:=List (Nat×Ent)
def Env.ent:Env->Nat->Option Ent
 | [],_=>none
 | (t,x)::S,k=>match Nat.beq t k with
  | true=>some x
  | false=>Env.ent S k
def Env.get (S:Env)(k:Nat):Option Value:=
 match S.ent k with
 | some (.v x)=>some x
 | some .t=>some (.bool true)
 | some .f=>some (.bool false)
 | none=>none
def Env.ev (S:Env):Operand->Option Value
 | .tmp t=>S.get t
 | .const v=>some v
 | .global g=>some (.pointer (some ⟨g,0,none⟩))
 | .func f=>some (.func (.func f) #[] #[])
theorem Env.get_eq (S:Env)(k:Nat):S.get k=(S.ent k).map Ent.val:=by
 unfold Env.get;cases S.ent k with
 | none=>rfl
 | some e=>cases e<;>rfl
structure Slots where
 n:Nat
 ds:List Deferred:=[]
instance (k:Nat):OfNat Slots k:=⟨⟨k,[]⟩⟩
structure Fits (N:Slots) (S:Env) (a:Act):Prop where
 size:a.tmps.size=N.n
 defers:a.defers=N.ds
 has:∀k x,S.ent k=some x->a.tmps[k]? =some x.val
theorem Fits.get {N:Slots}{S:Env}{a:Act}(h:Fits N S a){k:Nat}{v:Value}(hk:S.get k=some v):a.tmps[k]? =some v:=by
 rw[Env.get_eq] at hk;cases he:S.ent k with
 | none=>simp[he] at hk
 | some e=>simp[he] at hk;subst hk;exact h.has k e he
theorem Fits.ev {N:Slots}{S:Env}{a:Act}(h:Fits N S a){x:Operand}{v:Value}(hx:S.ev x=some v):a.eval x=v:=by
 cases x with
 | tmp t=>have:=h.get hx;simp[Act.eval,this]
 | const u=>simp[Env.ev] at hx;simp[Act.eval,hx]
 | global g=>simp[Env.ev] at hx;simp[Act.eval,hx]
 | func f=>simp[Env.ev] at hx;simp[Act.eval,hx]
theorem Fits.put {N:Slots}{S:Env}{a:Act}(h:Fits N S a){d:Nat}(hd:d<N.n)(e:Ent):Fits N ((d,e)::S) (a.put (some d) e.val):=by
 refine⟨by simp[Act.put,h.size],by simp[Act.put,h.defers],fun k x hk=>?_⟩;simp only[Env.ent] at hk;cases hb:Nat.beq d k with
 | true=>
  have:d=k:=Nat.eq_of_beq_eq_true hb;subst this;simp only[hb] at hk;cases hk;have:d<a.tmps.size:=by rw[h.size];exact hd
  simp[Act.put,this]
 | false=>
  have hne:d≠k:=fun e=>by subst e;simp at hb
  simp only[hb] at hk;simp[Act.put,hne,h.has k x hk]
structure TyRow where
 t:Nat
 d:TypeDesc
 sz:Nat
 by_:Nat
 z:Value
def xQP (P:Program)(r:TyRow):Prop:=P.underlying r.t=some r.d/\(P.info? r.t).map (fun i=>(i.size,i.bytes,i.zero))=some (r.sz,r.by_,some r.z)
def gQV (P:Program)(f:FuncId):Prop:=∃fn,P.funcs[f]? =some fn/\fn.body.isNone=false/\(fn.name== "runtime.NumGoroutine")=false
structure MRow where
 t:Nat
 name:String
 f:Nat
 ptr:Bool
def xQi:TypeDesc->Bool
 | .pointer _=>true
 | _=>false
def MOk (P:Program)(r:MRow):Prop:=
 (P.info? r.t).bind (fun i=>(i.methods.find? (·.name==r.name)).map (fun m=>(m.path.isEmpty,m.func)))=some (true,some (r.f,r.ptr))/\(P.underlying r.t).map xQi=some r.ptr
structure ERow where
 t:Nat
 ks:List Nat
def fQ1:Option TypeDesc->Nat
 | some (.int _)=>0
 | some .string=>1
 | some .bool=>2
 | _=>1000
def eQ7 (P:Program):Nat->List Field->List Nat->Bool
 | _,[],[]=>true
 | n,f::l,k::ks=>f.name != "_" && Nat.beq f.offset n&&Nat.beq (fQ1 (P.underlying f.type)) k&&Nat.blt k 3&&eQ7 P (n+1) l ks
 | _,_,_=>false
def EOk (P:Program)(r:ERow):Prop:=
 P.stoodInHeld r.t=false/\P.eqGuardType P.depth r.t=false/\(match P.underlying r.t with
  | some (.struct fs)=>eQ7 P 0 fs.toList r.ks
  | _=>false)=true
structure Gx where
 P:Program
 tys:List TyRow
 fns:List Nat
 ms:List MRow:=[]
 eqs:List ERow:=[]
def wQ5 (P:Program):List MRow->Prop
 | []=>True
 | r::l=>MOk P r/\wQ5 P l
def wQ6 (P:Program):List ERow->Prop
 | []=>True
 | r::l=>EOk P r/\wQ6 P l
def kQA:List MRow->Nat->Option MRow
 | [],_=>none
 | r::l,t=>match Nat.beq r.t t with
  | true=>some r
  | false=>kQA l t
def hQe:List ERow->Nat->Option ERow
 | [],_=>none
 | r::l,t=>match Nat.beq r.t t with
  | true=>some r
  | false=>hQe l t
theorem lQ1 {P:Program}{l:List MRow}{t:Nat}{r:MRow}(h:kQA l t=some r)(ha:wQ5 P l):MOk P r/\r.t=t:=by
 induction l with
 | nil=>cases h
 | cons x l ih=>
  simp only[kQA] at h;cases hb:Nat.beq x.t t with
  | true=>simp only[hb] at h;cases h;exact⟨ha.1,Nat.eq_of_beq_eq_true hb⟩
  | false=>simp only[hb] at h;exact ih h ha.2
theorem hQf {P:Program}{l:List ERow}{t:Nat}{r:ERow}(h:hQe l t=some r)(ha:wQ6 P l):EOk P r/\r.t=t:=by
 induction l with
 | nil=>cases h
 | cons x l ih=>
  simp only[hQe] at h;cases hb:Nat.beq x.t t with
  | true=>simp only[hb] at h;cases h;exact⟨ha.1,Nat.eq_of_beq_eq_true hb⟩
  | false=>simp only[hb] at h;exact ih h ha.2
def rQT (P:Program):List TyRow->Prop
 | []=>True
 | r::l=>xQP P r/\rQT P l
def rQU (P:Program):List Nat->Prop
 | []=>True
 | f::l=>gQV P f/\rQU P l
structure Gx.Ok (g:Gx):Prop where
 tys:rQT g.P g.tys
 fns':rQU g.P g.fns
 mixed:g.P.follows .mixedOrders=true
 ms:wQ5 g.P g.ms
 eqs:wQ6 g.P g.eqs
def aQA:List TyRow->Nat->Option TyRow
 | [],_=>none
 | r::l,t=>match Nat.beq r.t t with
  | true=>some r
  | false=>aQA l t
theorem oQk {l:List TyRow}{t:Nat}{r:TyRow}(h:aQA l t=some r):r∈l/\r.t=t:=by
 induction l with
 | nil=>cases h
 | cons x l ih=>
  simp only[aQA] at h;cases hb:Nat.beq x.t t with
  | true=>simp only[hb] at h;cases h;exact⟨by simp,Nat.eq_of_beq_eq_true hb⟩
  | false=>simp only[hb] at h;have:=ih h;exact⟨by simp[this.1],this.2⟩
theorem Gx.Ok.row {g:Gx}(h:g.Ok){t:Nat}{r:TyRow}(hr:aQA g.tys t=some r):g.P.underlying t=some r.d/\∃i,g.P.info? t=some i/\i.size=r.sz/\i.bytes=r.by_/\i.zero=some r.z:=by
 obtain⟨hm,rfl⟩:=oQk hr;have key:∀l,rQT g.P l->r∈l->xQP g.P r:=by
  intro l;induction l with
  | nil=>intro _ h;cases h
  | cons x l ih=>intro h hm;cases hm with
   | head=>exact h.1
   | tail _ hm=>exact ih h.2 hm
 obtain⟨h1,h2⟩:=key _ h.tys hm;refine⟨h1,?_⟩;cases hi:g.P.info? r.t with
 | none=>simp[hi] at h2
 | some i=>simp[hi] at h2;exact⟨i,rfl,h2.1,h2.2.1,h2.2.2⟩
theorem Gx.Ok.fns {g:Gx}(h:g.Ok):∀f∈g.fns,gQV g.P f:=by
 intro f;have key:∀l,rQU g.P l->f∈l->gQV g.P f:=by
  intro l;induction l with
  | nil=>intro _ h;cases h
  | cons x l ih=>intro h hm;cases hm with
   | head=>exact h.1
   | tail _ hm=>exact ih h.2 hm
 exact key _ h.fns'
def pQd (n:Nat):List Nat->Bool
 | []=>false
 | x::l=>match Nat.beq x n with
  | true=>true
  | false=>pQd n l
theorem fQn {n:Nat}{l:List Nat}(h:pQd n l=true):n∈l:=by
 induction l with
 | nil=>cases h
 | cons x l ih=>
  simp only[pQd] at h;cases hb:Nat.beq x n with
  | true=>have:=Nat.eq_of_beq_eq_true hb;simp[this]
  | false=>simp only[hb] at h;simp[ih h]
structure Cx where
 g:Gx
 N:Slots
 named:Nat
 keep:List Nat
 cuts:List Nat:=[]
abbrev cQB:=Exit->Env->World->Prop
def Up (c:Cx)(Q:cQB):Exit->Act->World->Prop:=fun e a w=>∃S,Fits c.N S a/\Q e S w
@[irreducible] def WIf (b:Bool) (p q:Prop):Prop:=(b=true->p)/\(b=false->q)
@[irreducible] def lQX (n:Int) (K:Int->Prop):Prop:=K n
@[irreducible] def eQc (p:Prop) (n:Int) (K:Int->Prop):Prop:=p/\K n
@[irreducible] def rQN (p:Prop) (v:Value) (K:Value->Prop):Prop:=p/\K v
@[irreducible] def pQi (w:World) (p:Addr) (K:Value->Prop):Prop:=∃v,w.cell? p=some v/\K v
@[irreducible] def jQb (w:World) (p:Addr) (n:Nat) (K:List Value->Prop):Prop:=∃vs:List Value,vs.length=n/\(∀j v,vs[j]? =some v->w.cell? (p.add j)=some v)/\K vs
@[irreducible] def hQg (w:World) (p:Addr) (v:Value) (K:World->Prop):Prop:=(∃u,w.cell? p=some u)/\w.frozen? p=false/\K (w.setCell p v)
@[irreducible] def New (w:World) (t:TypeId) (cs:List Value) (K:Addr->World->Prop):Prop:=K ⟨w.heap.size,0,none⟩ (w.alloc (.cells cs.toArray t))
@[irreducible] def fQo (P:Program) (w:World) (p:Addr) (vs:List Value) (K:World->Prop):Prop:=∃w',(storeCells p vs).run P w= .ok () w'/\K w'
@[irreducible] def vQS (a b:String) (K:Prop):Prop:=a=b/\K
@[irreducible] def dQz (b:Option Addr) (n:Nat) (i:Int) (sz:Nat) (K:Addr->Prop):Prop:=∃a,b=some a/\0<=i/\i<n/\K (a.add (i.toNat*sz))
@[irreducible] def dQA (s:ByteArray) (i:Int) (K:Int->Prop):Prop:=∃b,0<=i/\s[i.toNat]? =some b/\K (b.toNat:Int)
@[irreducible] def Fn (P:Program) (f:FuncId) (l:List Value) (w:World) (R:Value->World->Prop):Prop:=Calls P f l.toArray w fun
 | .returned v,w'=>R v w'
 | _,_=>False
@[irreducible] def eQh (P:Program) (f:FuncId) (l:List Value) (w:World) (K:Value->World->Prop) (pan:List PanicEntry->World->Prop):Prop:=Calls P f l.toArray w fun
 | .returned v,w'=>K v w'
 | .panicked ch,w'=>pan ch w'
 | .outgrown,_=>False
@[irreducible] def nQb (c:Cx) (nm:String) (t:Nat) (l:List Value) (w:World) (K:Value->World->Prop) (pan:List PanicEntry->World->Prop):Prop:=
 ∃r,kQA c.g.ms t=some r/\nm=r.name/\pQd r.f c.g.fns=true/\eQh c.g.P r.f l w K pan
@[irreducible] def cQv (c:Cx) (o:Oper) (S:Env) (w:World) (K:Env->World->Prop) (Q:cQB):Prop:=
 ∀a,Fits c.N S a->o.wp c.g.P a w (fun a' w'=>∃S',Fits c.N S' a'/\K S' w') (Up c Q)
@[irreducible] def cQw (c:Cx) (id:Nat) (ops:List Oper) (S:Env) (w:World) (Q:cQB):Prop:=
 ∀a,Fits c.N S a->(Code.region id ops.toArray true).wp c.g.P (Up c Q) a w
@[irreducible] def nQc (c:Cx) (x:Code) (S:Env) (w:World) (Q:cQB):Prop:=
 ∀a,Fits c.N S a->(Code.loop x).wp c.g.P (Up c Q) a w
@[irreducible] def fQp (c:Cx) (x:Code) (S:Env) (w:World) (Q:cQB):Prop:=
 ∀a,Fits c.N S a->x.wp c.g.P (Up c Q) a w
inductive PR where
 | val (v:Value)
 | ent (e:Ent)
 | norm (k:IntKind) (n:Int)
 | normIf (p:Prop) (k:IntKind) (n:Int)
 | need (p:Prop) (v:Value)
 | no
def nth:List Value->Nat->Option Value
 | [],_=>none
 | x::_,0=>some x
 | _::l,n+1=>nth l n
theorem sQ8 (l:List Value)(n:Nat):nth l n=l[n]? :=by
 induction l generalizing n with
 | nil=>simp[nth]
 | cons x l ih=>cases n<;>simp[nth,ih]
def hQh:IntKind->Nat
 | .i8=>0 | .i16=>1 | .i32=>2 | .i64=>3 | .u8=>4 | .u16=>5 | .u32=>6 | .u64=>7
theorem iQs {a b:IntKind}(h:Nat.beq (hQh a) (hQh b)=true):a=b:=by
 have:=Nat.eq_of_beq_eq_true h;cases a<;>cases b<;>first | rfl | (simp[hQh] at this)
def pQj (op:BinOp)(k:IntKind)(x y:Int):PR:=
 match op with
 | .add=>.norm k (k.wrap (x+y))
 | .sub=>.norm k (k.wrap (x-y))
 | .mul=>.norm k (k.wrap (x*y))
 | .quo=>.normIf (y≠0) k (k.wrap (x.tdiv y))
 | .rem=>.normIf (y≠0) k (x.tmod y)
 | .and=>.norm k (k.wrap ((BitVec.ofInt k.bits x &&& BitVec.ofInt k.bits y).toNat))
 | .or=>.norm k (k.wrap ((BitVec.ofInt k.bits x ||| BitVec.ofInt k.bits y).toNat))
 | .xor=>.norm k (k.wrap ((BitVec.ofInt k.bits x^^^BitVec.ofInt k.bits y).toNat))
 | .andNot=>.norm k (k.wrap ((BitVec.ofInt k.bits x &&& ~~~ BitVec.ofInt k.bits y).toNat))
 | .eql=>.val (.bool (x==y))
 | .neq=>.val (.bool (x !=y))
 | .lss=>.val (.bool (decide (x<y)))
 | .leq=>.val (.bool (decide (x<=y)))
 | .gtr=>.val (.bool (decide (x>y)))
 | .geq=>.val (.bool (decide (x≥y)))
 | _=>.no
def tQ1 (op:BinOp)(k:IntKind)(x:Int)(k':IntKind)(y:Int):PR:=
 match op with
 | .shl=>.normIf (0<=y) k (k.wrap (x*2^(min y.toNat k.bits)))
 | .shr=>.normIf (0<=y) k (x.fdiv (2^(min y.toNat k.bits)))
 | op=>match Nat.beq (hQh k) (hQh k')with
  | true=>pQj op k x y
  | false=>.no
def tQ2 (op:BinOp)(x y:ByteArray):PR:=
 match op with
 | .add=>.need (x.size+y.size<=maxLen) (.string (x++y))
 | .eql=>.val (.bool (decide (x=y)))
 | .neq=>.val (.bool (!decide (x=y)))
 | .lss=>.val (.bool (Op.bytesLess x.data.toList y.data.toList))
 | _=>.no
def tQ3:TypeDesc->Value->PR
 | .string,.string s=>.val (.int .i64 s.size)
 | .slice _,.slice _ n _=>.val (.int .i64 n)
 | _,_=>.no
def eqB:TypeDesc->Value->Value->Option Bool
 | .bool,.bool a,.bool b=>some (a==b)
 | .slice _,.slice none _ _,.slice b _ _=>some b.isNone
 | .slice _,.slice (some _) _ _,.slice none _ _=>some false
 | .map _ _,.map none,.map b=>some b.isNone
 | .map _ _,.map (some _),.map none=>some false
 | .pointer _,.pointer none,.pointer b=>some b.isNone
 | .pointer _,.pointer (some _),.pointer none=>some false
 | .interface _,.nilIface,.iface _ _=>some false
 | .interface _,.iface _ _,.nilIface=>some false
 | .func _ _ _,.nilFunc,.nilFunc=>some true
 | .func _ _ _,.nilFunc,.func _ _ _=>some false
 | .func _ _ _,.func _ _ _,.nilFunc=>some false
 | _,_,_=>none
def cQm:List Nat->List Value->List Value->Option Bool
 | [],[],[]=>some true
 | 0::ks,.int k a::xs,.int k' b::ys=>match Nat.beq (hQh k) (hQh k'),cQm ks xs ys with
  | true,some r=>some (a==b&&r)
  | _,_=>none
 | 1::ks,.string a::xs,.string b::ys=>match cQm ks xs ys with
  | some r=>some (decide (a=b)&&r)
  | none=>none
 | 2::ks,.bool a::xs,.bool b::ys=>match cQm ks xs ys with
  | some r=>some (a==b&&r)
  | none=>none
 | _,_,_=>none
def tQ4 (op:BinOp)(r:Option Bool):PR:=
 match op,r with
 | .eql,some b=>.val (.bool b)
 | .neq,some b=>.val (.bool (!b))
 | _,_=>.no
def sQ9 {α:Type}:List α->Nat->Option α
 | [],_=>none
 | x::_,0=>some x
 | _::l,n+1=>sQ9 l n
def hQi:TypeDesc->Bool
 | .struct _=>true
 | .array _ _=>true
 | _=>false
def nQd:TypeDesc->Bool
 | .interface _=>true
 | _=>false
def bQd:Value->List Value
 | .agg cs=>cs.toList
 | v=>[v]
def pQk:List Value->List Value->List Value
 | [],cs=>cs
 | v::vs,_::cs=>v::pQk vs cs
 | _::_,[]=>[]
def fQZ:Nat->List Value->List Value->List Value
 | 0,vs,cs=>pQk vs cs
 | n+1,vs,c::cs=>c::fQZ n vs cs
 | _+1,_,[]=>[]
def kQB (g:Gx):List Field->Option (List (Nat×Nat))
 | []=>some []
 | f::l=>match aQA g.tys f.type,kQB g l with
  | some r,some m=>some ((f.offset,r.sz)::m)
  | _,_=>none
def oQl (ps:Nat->Option (Nat×Nat)):List Value->List (Nat×Value)->Option (List Value)
 | cells,[]=>some cells
 | cells,(i,v)::rest=>match ps i with
  | some (off,sz)=>(match Nat.beq (bQd v).length sz,Nat.ble (off+(bQd v).length) cells.length with
   | true,true=>oQl ps (fQZ off (bQd v) cells) rest
   | _,_=>none)
  | none=>none
def evL (S:Env):List Operand->Option (List Value)
 | []=>some []
 | x::l=>match S.ev x,evL S l with
  | some v,some m=>some (v::m)
  | _,_=>none
def evP (S:Env):List (Nat×Operand)->Option (List (Nat×Value))
 | []=>some []
 | (i,x)::l=>match S.ev x,evP S l with
  | some v,some m=>some ((i,v)::m)
  | _,_=>none
def dQW (S:Env)(d:Int):Option Operand->Option Int
 | none=>some d
 | some x=>match S.ev x with
  | some (.int _ n)=>some n
  | _=>none
def iQt (g:Gx)(S:Env):Op->PR
 | .move (.const (.bool true)) | .assign (.const (.bool true))=>.ent .t
 | .move (.const (.bool false)) | .assign (.const (.bool false))=>.ent .f
 | .move (.tmp t) | .assign (.tmp t)=>match S.ent t with
  | some e=>.ent e
  | none=>.no
 | .move x | .assign x=>match S.ev x with
  | some v=>.val v
  | none=>.no
 | .pick (.tmp t) a b=>match S.ent t with
  | some .t=>(match a with
   | .const (.bool true)=>.ent .t
   | .const (.bool false)=>.ent .f
   | .tmp u=>(match S.ent u with
    | some e=>.ent e
    | none=>.no)
   | a=>match S.ev a with
    | some v=>.val v
    | none=>.no)
  | some .f=>(match b with
   | .const (.bool true)=>.ent .t
   | .const (.bool false)=>.ent .f
   | .tmp u=>(match S.ent u with
    | some e=>.ent e
    | none=>.no)
   | b=>match S.ev b with
    | some v=>.val v
    | none=>.no)
  | _=>.no
 | .binOp op t x y _=>match S.ev x,S.ev y with
  | some (.int k a),some (.int k' b)=>tQ1 op k a k' b
  | some (.string a),some (.string b)=>tQ2 op a b
  | some (.agg a),some (.agg b)=>(match hQe g.eqs t with
   | some r=>tQ4 op (cQm r.ks a.toList b.toList)
   | none=>.no)
  | some a,some b=>(match aQA g.tys t with
   | some r=>tQ4 op (eqB r.d a b)
   | none=>.no)
  | _,_=>.no
 | .unOp .not _ (.tmp t)=>match S.ent t with
  | some .t=>.ent .f
  | some .f=>.ent .t
  | some (.v (.bool b))=>.val (.bool (!b))
  | _=>.no
 | .unOp .neg _ x=>match S.ev x with
  | some (.int k n)=>.norm k (k.wrap (0-n))
  | _=>.no
 | .convert s t x=>match aQA g.tys s,aQA g.tys t,S.ev x with
  | some _,some ⟨_,.int k,_,_,_⟩,some (.int _ n)=>.norm k (k.wrap n)
  | some _,some ⟨_,.string,_,_,_⟩,some (.string s)=>.val (.string s)
  | _,_,_=>.no
 | .extract x i=>match S.ev x with
  | some (.tuple vs)=>(match nth vs.toList i with
   | some v=>.val v
   | none=>.no)
  | _=>.no
 | .call ⟨.builtin .len,xs,ts⟩=>match xs.toList,ts.toList with
  | [x],[t]=>(match aQA g.tys t,S.ev x with
   | some r,some v=>tQ3 r.d v
   | _,_=>.no)
  | _,_=>.no
 | .call ⟨.builtin .min,xs,_⟩=>match xs.toList with
  | [x,y]=>(match S.ev x,S.ev y with
   | some (.int k a),some (.int _ b)=>.norm k (if b<a then b else a)
   | _,_=>.no)
  | [x,y,z]=>(match S.ev x,S.ev y,S.ev z with
   | some (.int k a),some (.int _ b),some (.int _ c)=>.norm k (if c<(if b<a then b else a)then c else(if b<a then b else a))
   | _,_,_=>.no)
  | _=>.no
 | .call ⟨.builtin .max,xs,_⟩=>match xs.toList with
  | [x,y]=>(match S.ev x,S.ev y with
   | some (.int k a),some (.int _ b)=>.norm k (if b>a then b else a)
   | _,_=>.no)
  | _=>.no
 | .nilCheck x=>match S.ev x with
  | some (.pointer (some p))=>.val (.pointer (some p))
  | some (.iface t v)=>.val (.iface t v)
  | some (.func (.func n) a b)=>.val (.func (.func n) a b)
  | _=>.no
 | .fieldAddr t x k=>match aQA g.tys t,S.ev x with
  | some r,some (.pointer (some p))=>(match r.d with
   | .struct fs=>(match sQ9 fs.toList k with
    | some f=>(match aQA g.tys f.type with
     | some rf=>(match Nat.beq rf.sz 0 with
      | false=>.val (.pointer (some (p.add f.offset)))
      | true=>.no)
     | none=>.no)
    | none=>.no)
   | _=>.no)
  | _,_=>.no
 | .field t x k=>match aQA g.tys t,S.ev x with
  | some r,some (.agg cs)=>(match r.d with
   | .struct fs=>(match sQ9 fs.toList k with
    | some f=>(match aQA g.tys f.type with
     | some rf=>(match hQi rf.d with
      | true=>.val (.agg ((cs.toList.drop f.offset).take rf.sz).toArray)
      | false=>(match nth cs.toList f.offset with
       | some v=>.val v
       | none=>.no))
     | none=>.no)
    | none=>.no)
   | _=>.no)
  | _,_=>.no
 | .build t parts=>match aQA g.tys t,evP S parts.toList with
  | some r,some ps=>(match r.d with
   | .struct fs=>(match kQB g fs.toList with
    | some pl=>(match oQl (sQ9 pl) r.z.cells.toList ps with
     | some cs=>.val (.agg cs.toArray)
     | none=>.no)
    | none=>.no)
   | .array _ e=>(match aQA g.tys e with
    | some re=>(match oQl (fun i=>some (i*re.sz,re.sz)) r.z.cells.toList ps with
     | some cs=>.val (.agg cs.toArray)
     | none=>.no)
    | none=>.no)
   | _=>.no)
  | _,_=>.no
 | .makeInterface t x=>match aQA g.tys t,S.ev x with
  | some r,some v=>(match nQd r.d with
   | false=>.val (.iface t v)
   | true=>.no)
  | _,_=>.no
 | .makeFunc f xs ys=>match evL S xs.toList,evL S ys.toList with
  | some a,some b=>.val (.func f a.toArray b.toArray)
  | _,_=>.no
 | .slice t x lo hi none=>match aQA g.tys t,S.ev x with
  | some ⟨_,.string,_,_,_⟩,some (.string s)=>(match dQW S 0 lo,dQW S s.size hi with
   | some l,some h=>.need (0<=l/\l<=h/\h<=s.size) (.string (s.extract l.toNat h.toNat))
   | _,_=>.no)
  | _,_=>.no
 | _=>.no
def PR.Means (w:World)(r:Result Next):PR->Prop
 | .val v=>r= .ok (.value v) w
 | .ent e=>r= .ok (.value e.val) w
 | .norm k n=>r= .ok (.value (.int k n)) w
 | .normIf p k n=>p->r= .ok (.value (.int k n)) w
 | .need p v=>p->r= .ok (.value v) w
 | .no=>True
section
variable {g:Gx} {S:Env} {w:World} {ρ:Operand->Value}
theorem kQC (op:BinOp)(t:TypeId)(k:IntKind)(x y:Int)(h1:op≠ .shl)(h2:op≠ .shr):
  (pQj op k x y).Means w (((binOp op t (.int k x) (.int k y)).run g.P w).andThen fun v w=>.ok (.value v) w):=by
 cases op<;>first | (exact absurd rfl h1) | (exact absurd rfl h2) | skip
 all_goals simp[pQj,PR.Means,binOp,Op.intArith,Op.intBits,Op.intCmp,Op.intDiv]
 all_goals (intro h;simp[h])
theorem lQ2 (op:BinOp)(t:TypeId)(k k':IntKind)(x y:Int):
  (tQ1 op k x k' y).Means w (((binOp op t (.int k x) (.int k' y)).run g.P w).andThen fun v w=>.ok (.value v) w):=by
 unfold tQ1;split
 ·intro h;simp only[binOp,Op.shift];rw[if_neg (by omega)];simp
 ·intro h;simp only[binOp,Op.shift];rw[if_neg (by omega)];simp
 ·rename_i h1 h2;split
  ·rename_i hk;have:=iQs hk;subst this;exact kQC op t k x y h1 h2
  ·trivial
theorem eQi (a b:ByteArray):(a.toList==b.toList)=decide (a=b):=by
 rw[Bool.eq_iff_iff];simp[ByteArray.toList_eq];constructor
 ·intro h;cases a;cases b;simp_all
 ·intro h;rw[h]
theorem lQ3 (op:BinOp)(t:TypeId)(x y:ByteArray):
  (tQ2 op x y).Means w (((binOp op t (.string x) (.string y)).run g.P w).andThen fun v w=>.ok (.value v) w):=by
 unfold tQ2;split<;>simp only[PR.Means]
 ·intro h;have:¬((x.size+y.size:Nat):Int)>IntKind.i64.max:=by
   have h2:IntKind.i64.max=9223372036854775807:=by decide
   rw[h2];unfold maxLen at h;omega
  simp only[binOp,Op.stringOp];rw[if_neg this];simp
 ·simp[binOp,Op.stringOp,eQi]
 ·simp[binOp,Op.stringOp,eQi]
 ·simp[binOp,Op.stringOp,ByteArray.toList_eq]
theorem bQw (hg:g.Ok){t:Nat}{r:TyRow}(hr:aQA g.tys t=some r)(w:World):(underlying t).run g.P w= .ok r.d w:=
 run_underlying (hg.row hr).1 w
theorem lQ4 (hg:g.Ok){t:Nat}{r:TyRow}(hr:aQA g.tys t=some r)(ty:TypeId)(v:Value):
  (tQ3 r.d v).Means w (((Builtin.len_ #[t] ty #[v]).run g.P w).andThen fun v w=>.ok (.value v) w):=by
 have hu:=bQw hg hr w;unfold tQ3;split<;>simp only[PR.Means]
 ·rename_i h;simp[Builtin.len_,hu,h,goInt]
 ·rename_i h;simp[Builtin.len_,hu,h,goInt]
theorem rQV (hg:g.Ok){t:Nat}{r:TyRow}(hr:aQA g.tys t=some r){x y:Value}{b:Bool}(h:eqB r.d x y=some b)(n:Nat):
  (Op.equalIn (n+1) t x y).run g.P w= .ok b w:=by
 have hu:=bQw hg hr w;unfold eqB at h;split at h<;>first | (simp only[Option.some.injEq] at h;subst h;rename_i hd;simp[Op.equalIn,hu,hd];done) | cases h
theorem kQD (hg:g.Ok){t:Nat}{r:TyRow}(hr:aQA g.tys t=some r){x y:Value}{b:Bool}(h:eqB r.d x y=some b):
  (Op.equal t x y).run g.P w= .ok b w:=rQV hg hr h 9999
theorem oQm (op:BinOp)(t:TypeId)(x y:Operand){d:TypeDesc}{a b:Value}{r:Bool}(h:eqB d a b=some r):eqGuard op t x y a b=pure ():=by
 unfold eqB at h;split at h<;>first | (simp only[eqGuard];split<;>rfl) | cases h
theorem oQn (hg:g.Ok)(op:BinOp){t:Nat}{r:TyRow}(hr:aQA g.tys t=some r)(x y:Value):
  (tQ4 op (eqB r.d x y)).Means w (((binOp op t x y).run g.P w).andThen fun v w=>.ok (.value v) w):=by
 unfold tQ4;split
 ·rename_i b hb;have h:=kQD (w:=w) hg hr hb;have e:binOp .eql t x y=(do pure (.bool (<-Op.equal t x y))):=by
   unfold eqB at hb;split at hb<;>first | rfl | cases hb
  simp[PR.Means,e,h]
 ·rename_i b hb;have h:=kQD (w:=w) hg hr hb;have e:binOp .neq t x y=(do pure (.bool (!(<-Op.equal t x y)))):=by
   unfold eqB at hb;split at hb<;>first | rfl | cases hb
  simp[PR.Means,e,h]
 ·trivial
theorem oQo {P:Program}{t:TypeId}(h:fQ1 (P.underlying t)<3)(w:World):(isAgg t).run P w= .ok false w:=by
 cases hu:P.underlying t with
 | none=>rw[hu] at h;simp[fQ1] at h
 | some d=>
  simp only[isAgg,Sem.run_bind,run_underlying hu,Result.andThen_ok];rw[hu] at h;cases d<;>first | rfl | (simp[fQ1] at h)
theorem bQH {P:Program}{t:TypeId}(h:fQ1 (P.underlying t)<3){cs:Array Value}{n:Nat}{v:Value}(hv:cs[n]? =some v)(w:World):(part t cs n).run P w= .ok v w:=by
 simp[part,oQo h,hv]
theorem dQw {P:Program}{xs ys:Array Value}:∀(fs:List Field)(ks:List Nat)(n:Nat)(xl yl:List Value)(b:Bool),eQ7 P n fs ks=true->cQm ks xl yl=some b->
  (∀j,xl[j]? =xs[n+j]?)->(∀j,yl[j]? =ys[n+j]?)->∀(d:Nat) (w:World),(Op.eqFields (d+1) xs ys fs).run P w= .ok b w
 | [],[],n,[],[],b,_,h,_,_,d,w=>by
  simp only[cQm,Option.some.injEq] at h;subst h;simp[Op.eqFields]
 | [],[],_,[],_::_,_,_,h,_,_,_,_=>by simp[cQm] at h
 | [],[],_,_::_,_,_,_,h,_,_,_,_=>by simp[cQm] at h
 | [],_::_,_,_,_,_,hb,_,_,_,_,_=>by simp[eQ7] at hb
 | _::_,[],_,_,_,_,hb,_,_,_,_,_=>by simp[eQ7] at hb
 | f::fs,k::ks,n,xl,yl,b,hb,h,hx,hy,d,w=>by
  simp only[eQ7,Bool.and_eq_true,bne_iff_ne,ne_eq] at hb;obtain⟨⟨⟨⟨hnm,hoff⟩,hk⟩,hk3⟩,hrest⟩:=hb;have hoff:=Nat.eq_of_beq_eq_true hoff;have hk:=Nat.eq_of_beq_eq_true hk;have hk3:k<3:=by rw[Nat.blt_eq] at hk3;exact hk3
  have hlt:fQ1 (P.underlying f.type)<3:=by omega
  have step:∀(u v:Value) (xt yt:List Value) (e r:Bool),xl=u::xt->yl=v::yt->cQm ks xt yt=some r->(Op.equalIn (d+1) f.type u v).run P w= .ok e w->
    (Op.eqFields (d+1) xs ys (f::fs)).run P w= .ok (e&&r) w:=by
   rintro u v xt yt e r rfl rfl hr he;have hu:xs[f.offset]? =some u:=by rw[hoff];simpa using (hx 0).symm
   have hv:ys[f.offset]? =some v:=by rw[hoff];simpa using (hy 0).symm
   have ih:=dQw fs ks (n+1) xt yt r hrest hr (fun j=>by have:=hx (j+1);simpa [Nat.add_assoc,Nat.add_comm 1 j] using this) (fun j=>by have:=hy (j+1);simpa [Nat.add_assoc,Nat.add_comm 1 j] using this) d w;simp only[Op.eqFields,ne_eq,hnm,not_false_eq_true,if_true,Sem.run_bind,bQH hlt hu,bQH hlt hv,Result.andThen_ok,he];cases e with
   | true=>simpa using ih
   | false=>simp
  unfold cQm at h;split at h
  ·simp at*
  ·rename_i ks' k1 a xt k2 b2 yt hkk;simp only[List.cons.injEq] at hkk;obtain⟨rfl,rfl⟩:=hkk;split at h
   ·rename_i r h1 h2;have:=iQs h1;subst this;simp only[Option.some.injEq] at h;subst h;cases hu:P.underlying f.type with
    | none=>rw[hu] at hk;simp[fQ1] at hk
    | some dd=>rw[hu] at hk;cases dd<;>first | (exact step _ _ _ _ _ _ rfl rfl h2 (run_equalIn_int w d f.type _ _ _ _ hu)) | (simp[fQ1] at hk)
   ·cases h
  ·rename_i ks' a xt b2 yt hkk;simp only[List.cons.injEq] at hkk;obtain⟨rfl,rfl⟩:=hkk;split at h
   ·rename_i r h2;simp only[Option.some.injEq] at h;subst h;cases hu:P.underlying f.type with
    | none=>rw[hu] at hk;simp[fQ1] at hk
    | some dd=>rw[hu] at hk;cases dd<;>first | (refine step _ _ _ _ _ _ rfl rfl h2 ?_;rw[run_equalIn_string w d f.type _ _ hu,eQi];done) | (simp[fQ1] at hk)
   ·cases h
  ·rename_i ks' a xt b2 yt hkk;simp only[List.cons.injEq] at hkk;obtain⟨rfl,rfl⟩:=hkk;split at h
   ·rename_i r h2;simp only[Option.some.injEq] at h;subst h;cases hu:P.underlying f.type with
    | none=>rw[hu] at hk;simp[fQ1] at hk
    | some dd=>rw[hu] at hk;cases dd<;>first | (exact step _ _ _ _ _ _ rfl rfl h2 (run_equalIn_bool' w d f.type _ _ hu)) | (simp[fQ1] at hk)
   ·cases h
  ·cases h
theorem hQj (hg:g.Ok){t:Nat}{r:ERow}(hr:hQe g.eqs t=some r){xs ys:Array Value}{b:Bool}(h:cQm r.ks xs.toList ys.toList=some b)(n:Nat):
  (Op.equalIn (n+2) t (.agg xs) (.agg ys)).run g.P w= .ok b w:=by
 obtain⟨⟨h1,_,h3⟩,rfl⟩:=hQf hr hg.eqs;split at h3
 ·rename_i fs hu;have hf:g.P.fieldsOf r.t=fs:=by simp[Program.fieldsOf,hu]
  rw[run_equalIn_struct w (n+1) r.t xs ys (by rw[hf];exact hu) h1,hf];exact dQw fs.toList r.ks 0 _ _ b h3 h (fun j=>by simp) (fun j=>by simp) n w
 ·cases h3
theorem lQ5 (hg:g.Ok)(op:BinOp){t:Nat}{r:ERow}(hr:hQe g.eqs t=some r)(x y:Operand)(xs ys:Array Value):
  (tQ4 op (cQm r.ks xs.toList ys.toList)).Means w (((eqGuard op t x y (.agg xs) (.agg ys)).run g.P w).andThen fun _ w=>((binOp op t (.agg xs) (.agg ys)).run g.P w).andThen fun v w=>.ok (.value v) w):=by
 have hgd:∀op,(eqGuard op t x y (.agg xs) (.agg ys)).run g.P w= .ok () w:=fun op=>by
  obtain⟨⟨_,h2,_⟩,rfl⟩:=hQf hr hg.eqs;exact run_eqGuard_agg w op r.t x y xs ys h2
 unfold tQ4;split
 ·rename_i b hb;have h:=hQj (w:=w) hg hr hb 9998;simp only[PR.Means,hgd,Result.andThen_ok,run_eql_struct];rw[h];rfl
 ·rename_i b hb;have h:=hQj (w:=w) hg hr hb 9998;simp only[PR.Means,hgd,Result.andThen_ok,run_neq_struct];rw[h];rfl
 ·trivial
theorem pQl {α:Type}{xs:Array α}{x:α}(h:xs.toList=[x]):xs= #[x]:=by
 cases xs;simp_all
theorem pQm {α:Type}{xs:Array α}{x y:α}(h:xs.toList=[x,y]):xs= #[x,y]:=by
 cases xs;simp_all
theorem tQ5 {α:Type}{xs:Array α}{x y z:α}(h:xs.toList=[x,y,z]):xs= #[x,y,z]:=by
 cases xs;simp_all
theorem lQ6 {α:Type}(l:List α)(n:Nat):sQ9 l n=l[n]? :=by
 induction l generalizing n with
 | nil=>simp[sQ9]
 | cons x l ih=>cases n<;>simp[sQ9,ih]
theorem bQW (v:Value):v.cells.toList=bQd v:=by cases v<;>rfl
theorem nQe (vs:List Value)(v:Value):∀(n:Nat)(l:List Value),fQZ (n+1) vs (l.set n v)=fQZ n (v::vs) l
 | 0,[]=>rfl
 | 0,_::_=>rfl
 | _+1,[]=>rfl
 | n+1,c::l=>by
  show c::fQZ (n+1) vs (l.set n v)=c::fQZ n (v::vs) l;rw[nQe vs v n l]
theorem nQf:∀(n:Nat)(l:List Value),fQZ n [] l=l
 | 0,_=>rfl
 | _+1,[]=>rfl
 | n+1,c::l=>by
  show c::fQZ n [] l=c::l;rw[nQf n l]
theorem iQu (off:Nat):∀(vs:List Value)(k:Nat)(l:List Value),
  (vs.zipIdx k).foldl (fun cs (p:Value×Nat)=>cs.set (off+p.2) p.1) l=fQZ (off+k) vs l
 | [],_,_=>(nQf _ _).symm
 | v::vs,k,l=>by
  rw[List.zipIdx_cons,List.foldl_cons,iQu off vs (k+1)];exact nQe vs v (off+k) l
theorem hQk (off:Nat)(vs cells:Array Value):
  (vs.zipIdx.foldl (fun cs (c,j)=>cs.setIfInBounds (off+j) c) cells).toList=fQZ off vs.toList cells.toList:=by
 have h:=iQu off vs.toList 0 cells.toList;rw[Nat.add_zero] at h;rw[<-Array.foldl_toList,Array.toList_zipIdx,<-h];clear h;generalize vs.toList.zipIdx 0=l;induction l generalizing cells with
 | nil=>rfl
 | cons p l ih=>simp only[List.foldl_cons];rw[ih];simp
theorem fQ2 (ps:Nat->Option (Nat×Nat)):∀(parts:List (Nat×Value))(cells:Array Value)(out:List Value),oQl ps cells.toList parts=some out->Instr.fill ps cells parts=some out.toArray
 | [],cells,out,h=>by
  simp only[oQl,Option.some.injEq] at h;subst h;simp[Instr.fill]
 | (i,v)::rest,cells,out,h=>by
  simp only[oQl] at h;split at h
  ·rename_i off sz hp;split at h
   ·rename_i h1 h2;have h1:=Nat.eq_of_beq_eq_true h1;have h2:=Nat.le_of_ble_eq_true h2;have e1:v.cells.size=sz:=by rw[<-h1,<-bQW];simp
    have e2:off+v.cells.size<=cells.size:=by rw[e1,<-h1];simpa using h2
    simp only[Instr.fill,hp];rw[if_neg (by simp;omega)];refine fQ2 ps rest _ out ?_;rw[hQk,bQW];exact h
   ·cases h
  ·cases h
theorem hQm (hg:g.Ok):∀(l:List Field)(m:List (Nat×Nat)),kQB g l=some m->
  (l.mapM (m:=Sem) fun f=>Prod.mk f.offset <$> sizeOf f.type).run g.P w= .ok m w
 | [],m,h=>by simp only[kQB,Option.some.injEq] at h;subst h;simp
 | f::l,m,h=>by
  simp only[kQB] at h;split at h
  ·rename_i r m' hr hm;simp only[Option.some.injEq] at h;subst h;obtain⟨_,i,hi,hs,_⟩:=hg.row hr;have ih:=hQm hg l m' hm;have hz:(sizeOf f.type).run g.P w= .ok r.sz w:=by simp[sizeOf,typeInfo,hi,hs]
   rw[List.mapM_cons];simp[hz,ih]
  ·cases h
theorem gQW {ρ:Operand->Value}(hρ:∀x v,S.ev x=some v->ρ x=v):∀(l:List Operand)(m:List Value),evL S l=some m->l.map ρ=m
 | [],m,h=>by simp only[evL,Option.some.injEq] at h;subst h;rfl
 | x::l,m,h=>by
  simp only[evL] at h;split at h
  ·rename_i v m' hv hm;simp only[Option.some.injEq] at h;subst h;rw[List.map_cons,hρ _ _ hv,gQW hρ l m' hm]
  ·cases h
theorem jQc {ρ:Operand->Value}(hρ:∀x v,S.ev x=some v->ρ x=v):∀(l:List (Nat×Operand))(m:List (Nat×Value)),evP S l=some m->l.map (fun(i,x)=>(i,ρ x))=m
 | [],m,h=>by simp only[evP,Option.some.injEq] at h;subst h;rfl
 | (i,x)::l,m,h=>by
  simp only[evP] at h;split at h
  ·rename_i v m' hv hm;simp only[Option.some.injEq] at h;subst h;rw[List.map_cons,jQc hρ l m' hm];show(i,ρ x)::m'=_;rw[hρ _ _ hv]
  ·cases h
theorem kQE {ρ:Operand->Value}(hρ:∀x v,S.ev x=some v->ρ x=v){x:Operand}{n:Int}{d:Int}(h:dQW S d (some x)=some n)(y:Nat)(hn:0<=n/\n<=y)(code:BoundsCode):
  (Instr.sliceBound (ρ x) y code).run g.P w= .ok n.toNat w:=by
 unfold dQW at h;simp only at h;split at h
 ·rename_i k m hv;simp only[Option.some.injEq] at h;subst h;rw[hρ _ _ hv];simp[Instr.sliceBound,asIntOf,hn]
 ·cases h
theorem oQp {ρ:Operand->Value}(hρ:∀x v,S.ev x=some v->ρ x=v){lo hi:Option Operand}{l h:Int}{n:Nat}(h1:dQW S 0 lo=some l)(h2:dQW S n hi=some h)(hp:0<=l/\l<=h/\h<=n):
  (Instr.sliceBounds false n n (lo.map ρ) (hi.map ρ) none).run g.P w= .ok (l.toNat,h.toNat,n) w:=by
 have e1:∀x,lo=some x->∀y:Nat,h=(y:Int)->∀code,(Instr.sliceBound (ρ x) y code).run g.P w= .ok l.toNat w:=fun x hx y hy code=>
  kQE hρ (d:=0) (by rw[<-hx];exact h1) y ⟨hp.1,by omega⟩ code
 have e2:∀x,hi=some x->∀code,(Instr.sliceBound (ρ x) n code).run g.P w= .ok h.toNat w:=fun x hx code=>
  kQE hρ (d:=n) (by rw[<-hx];exact h2) n ⟨by omega,hp.2.2⟩ code
 have hn:h=((h.toNat:Nat):Int):=by omega
 cases lo with
 | none=>
  have:l=0:=by simpa [dQW] using h1.symm
  subst this;cases hi with
  | none=>
   have:h=n:=by simpa [dQW] using h2.symm
   subst this;simp[Instr.sliceBounds]
  | some y=>simp[Instr.sliceBounds,e2 y rfl]
 | some x=>
  cases hi with
  | none=>
   have:h=n:=by simpa [dQW] using h2.symm
   subst this;simp[Instr.sliceBounds,e1 x rfl n rfl]
  | some y=>simp[Instr.sliceBounds,e2 y rfl,e1 x rfl _ hn]
theorem kQF (hg:g.Ok)(hρ:∀x v,S.ev x=some v->ρ x=v)(o:Oper):
  (iQt g S o.op).Means w ((execOp ρ o).run g.P w):=by
 obtain⟨dst,op,ty,pos,aft,gd⟩:=o;simp only;have hent:∀t e,S.ent t=some e->ρ (.tmp t)=e.val:=fun t e h=>hρ _ _ (by
  simp only[Env.ev,Env.get];rw[h];cases e<;>rfl)
 unfold iQt;split
 ·have:=hρ (.const (.bool true)) _ rfl;simp[PR.Means,execOp,this,Ent.val]
 ·have:=hρ (.const (.bool true)) _ rfl;simp[PR.Means,execOp,this,Ent.val]
 ·have:=hρ (.const (.bool false)) _ rfl;simp[PR.Means,execOp,this,Ent.val]
 ·have:=hρ (.const (.bool false)) _ rfl;simp[PR.Means,execOp,this,Ent.val]
 ·split
  ·rename_i e h;simp[PR.Means,execOp,hent _ _ h]
  ·trivial
 ·split
  ·rename_i e h;simp[PR.Means,execOp,hent _ _ h]
  ·trivial
 ·split
  ·rename_i e h;simp[PR.Means,execOp,hρ _ _ h]
  ·trivial
 ·split
  ·rename_i e h;simp[PR.Means,execOp,hρ _ _ h]
  ·trivial
 ·rename_i t a b;split
  ·rename_i h;have h1:=hent _ _ h;split
   ·have:=hρ (.const (.bool true)) _ rfl;simp[PR.Means,execOp,h1,this,Ent.val,asBool]
   ·have:=hρ (.const (.bool false)) _ rfl;simp[PR.Means,execOp,h1,this,Ent.val,asBool]
   ·split
    ·rename_i h2;simp[PR.Means,execOp,h1,hent _ _ h2,Ent.val,asBool]
    ·trivial
   ·split
    ·rename_i h2;simp[PR.Means,execOp,h1,hρ _ _ h2,Ent.val,asBool]
    ·trivial
  ·rename_i h;have h1:=hent _ _ h;split
   ·have:=hρ (.const (.bool true)) _ rfl;simp[PR.Means,execOp,h1,this,Ent.val,asBool]
   ·have:=hρ (.const (.bool false)) _ rfl;simp[PR.Means,execOp,h1,this,Ent.val,asBool]
   ·split
    ·rename_i h2;simp[PR.Means,execOp,h1,hent _ _ h2,Ent.val,asBool]
    ·trivial
   ·split
    ·rename_i h2;simp[PR.Means,execOp,h1,hρ _ _ h2,Ent.val,asBool]
    ·trivial
  ·trivial
 ·split
  ·rename_i hx hy;have:=lQ2 (g:=g) (w:=w);simp only[execOp,hρ _ _ hx,hρ _ _ hy,eqGuard];split<;>simpa using this _ _ _ _ _ _
  ·rename_i hx hy;have:=lQ3 (g:=g) (w:=w);simp only[execOp,hρ _ _ hx,hρ _ _ hy,eqGuard];split<;>simpa using this _ _ _ _
  ·rename_i op t x y _ _ _ a b hx hy;cases hr:hQe g.eqs t with
   | none=>trivial
   | some r=>
    have:=lQ5 (w:=w) hg op hr x y a b;simp only[execOp,hρ _ _ hx,hρ _ _ hy];simpa using this
  ·rename_i op t x y _ _ _ a b _ _ _ hx hy;cases hr:aQA g.tys t with
   | none=>trivial
   | some r=>
    have:=oQn (w:=w) hg op hr a b;generalize ho:eqB r.d a b=o at this;simp only[ho];cases o with
    | none=>unfold tQ4;split<;>first | trivial | (rename_i hn;cases hn)
    | some q=>
     simp only[execOp,hρ _ _ hx,hρ _ _ hy,oQm op t x y ho];simpa using this
  ·trivial
 ·split
  ·rename_i h;simp[PR.Means,execOp,hent _ _ h,Ent.val,Op.unary]
  ·rename_i h;simp[PR.Means,execOp,hent _ _ h,Ent.val,Op.unary]
  ·rename_i h;simp[PR.Means,execOp,hent _ _ h,Ent.val,Op.unary]
  ·trivial
 ·split
  ·rename_i h;simp[PR.Means,execOp,hρ _ _ h,Op.unary,Op.intArith]
  ·trivial
 ·split
  ·rename_i hs ht hx;simp only[PR.Means,execOp,hρ _ _ hx,convert];simp[bQw hg hs,bQw hg ht,Conv.intToInt]
  ·rename_i hs ht hx;simp only[PR.Means,execOp,hρ _ _ hx,convert];simp[bQw hg hs,bQw hg ht]
  ·trivial
 ·split
  ·rename_i vs hx;split
   ·rename_i v hv;rw[sQ8,Array.getElem?_toList] at hv;simp[PR.Means,execOp,hρ _ _ hx,Instr.extract,hv]
   ·trivial
  ·trivial
 ·split
  ·rename_i x t hxs hts;have h1:=pQl hxs;have h2:=pQl hts;subst h1 h2;split
   ·rename_i r v hr hv;have:=lQ4 (w:=w) hg hr ty v;simpa [execOp,resolve,invoke,builtin,hρ _ _ hv] using this
   ·trivial
  ·trivial
 ·split
  ·rename_i x y hxs;have h1:=pQm hxs;subst h1;split
   ·rename_i hx hy;simp[PR.Means,execOp,resolve,invoke,builtin,hρ _ _ hx,hρ _ _ hy,Builtin.min_,Builtin.min2]
   ·trivial
  ·rename_i x y z hxs;have h1:=tQ5 hxs;subst h1;split
   ·rename_i hx hy hz;simp[PR.Means,execOp,resolve,invoke,builtin,hρ _ _ hx,hρ _ _ hy,hρ _ _ hz,Builtin.min_,Builtin.min2]
   ·trivial
  ·trivial
 ·split
  ·rename_i x y hxs;have h1:=pQm hxs;subst h1;split
   ·rename_i hx hy;simp[PR.Means,execOp,resolve,invoke,builtin,hρ _ _ hx,hρ _ _ hy,Builtin.max_,Builtin.max2]
   ·trivial
  ·trivial
 ·split
  ·rename_i h;simp[PR.Means,execOp,hρ _ _ h]
  ·rename_i h;simp[PR.Means,execOp,hρ _ _ h]
  ·rename_i h;simp[PR.Means,execOp,hρ _ _ h]
  ·trivial
 ·rename_i t x k;split
  ·rename_i hr hx;split
   ·rename_i fs hd;split
    ·rename_i f hf;split
     ·rename_i rf hrf;split
      ·rename_i hz;have hu:=bQw hg hr w;rw[hd] at hu;obtain⟨_,i,hi,hs,_⟩:=hg.row hrf;have hz':i.size≠0:=by rw[hs];exact Nat.ne_of_beq_eq_false hz
       rw[lQ6] at hf;have hf':fs[k]? =some f:=by simpa using hf
       simp[PR.Means,execOp,hρ _ _ hx,Instr.fieldAt,hu,hf',Instr.sureAddr,fieldPlace,sizeOf,typeInfo,hi,hz']
      ·trivial
     ·trivial
    ·trivial
   ·trivial
  ·trivial
 ·rename_i t x k;split
  ·rename_i cs hr hx;split
   ·rename_i fs hd;split
    ·rename_i f hf;have hu:=bQw hg hr w;rw[hd] at hu;rw[lQ6] at hf;have hf':fs[k]? =some f:=by simpa using hf
     split
     ·rename_i rf hrf;have hu2:=bQw hg hrf w;obtain⟨_,i,hi,hs,_⟩:=hg.row hrf;have ha:(isAgg f.type).run g.P w= .ok (hQi rf.d) w:=by
       simp only[isAgg,Sem.run_bind,hu2,Result.andThen_ok];cases rf.d<;>rfl
      split
      ·rename_i hag;simp[PR.Means,execOp,hρ _ _ hx,Instr.field,hu,hf',asAgg,part,ha,hag,sizeOf,typeInfo,hi,hs];apply Array.ext';simp[List.take_drop]
      ·rename_i hag;split
       ·rename_i v hv;rw[sQ8] at hv;have hv':cs[f.offset]? =some v:=by simpa using hv
        simp[PR.Means,execOp,hρ _ _ hx,Instr.field,hu,hf',asAgg,part,ha,hag,hv']
       ·trivial
     ·trivial
    ·trivial
   ·trivial
  ·trivial
 ·rename_i t parts;split
  ·rename_i r ps hr hps;have hpm:=jQc hρ _ _ hps;have hu:=bQw hg hr w;obtain⟨_,i,hi,hs,hb,hz⟩:=hg.row hr;have hpm':(parts.map fun(x:Nat×Operand)=>(x.1,ρ x.2)).toList=ps:=by rw[Array.toList_map];exact hpm
   split
   ·rename_i fs hd;rw[hd] at hu;split
    ·rename_i pl hpl;have hsz:=hQm (w:=w) hg _ _ hpl;split
     ·rename_i cs hfl;have hfill:=fQ2 _ _ _ _ hfl;have hmap:(fs.mapM (m:=Sem) fun f=>Prod.mk f.offset <$> sizeOf f.type).run g.P w= .ok pl.toArray w:=by
       rw[Array.mapM_eq_mapM_toList];simp[hsz]
      have hget:(fun i=>pl[i]?)=sQ9 pl:=by funext i;rw[lQ6]
      have hfill':Instr.fill (fun i=>pl[i]?) r.z.cells (parts.toList.map fun(x:Nat×Operand)=>(x.1,ρ x.2))=some cs.toArray:=by
       rw[hget];rw[show(parts.toList.map fun(x:Nat×Operand)=>(x.1,ρ x.2))=ps from hpm];exact hfill
      simp only[PR.Means,execOp,Instr.build,zeroValue,typeInfo];simp[hi,hz,hu,hmap,hfill']
     ·trivial
    ·trivial
   ·rename_i n e hd;rw[hd] at hu;split
    ·rename_i re hre;obtain⟨_,i2,hi2,hs2,_⟩:=hg.row hre;split
     ·rename_i cs hfl;have hfill:=fQ2 _ _ _ _ hfl;have hfill':Instr.fill (fun i=>some (i*re.sz,re.sz)) r.z.cells (parts.toList.map fun(x:Nat×Operand)=>(x.1,ρ x.2))=some cs.toArray:=by
       rw[show(parts.toList.map fun(x:Nat×Operand)=>(x.1,ρ x.2))=ps from hpm];exact hfill
      simp only[PR.Means,execOp,Instr.build,zeroValue,typeInfo,sizeOf];simp[hi,hz,hu,hi2,hs2,hfill']
     ·trivial
    ·trivial
   ·trivial
  ·trivial
 ·split
  ·rename_i r v hr hx;split
   ·rename_i hd;have hu:=bQw hg hr w;simp only[PR.Means,execOp,hρ _ _ hx,Instr.makeInterface];simp only[Sem.run_bind,hu,Result.andThen_ok];cases hk:r.d<;>rw[hk] at hd<;>first | (simp[nQd] at hd;done) | simp
   ·trivial
  ·trivial
 ·rename_i f xs ys;split
  ·rename_i a b ha hb;have e1:=gQW hρ _ _ ha;have e2:=gQW hρ _ _ hb;have e1':xs.map ρ=a.toArray:=by apply Array.ext';simpa using e1
   have e2':ys.map ρ=b.toArray:=by apply Array.ext';simpa using e2
   simp[PR.Means,execOp,Instr.makeFunc,e1',e2']
  ·trivial
 ·split
  ·rename_i hr hx;split
   ·rename_i l h hl hh;intro hp;have hb:=oQp (g:=g) (w:=w) hρ hl hh hp;have hu:=bQw hg hr w;simp only[execOp,hρ _ _ hx,Instr.sliceAt,Instr.slice];simp[hu,hb]
   ·trivial
  ·trivial
 ·trivial
end
def bQq (c:Cx)(S:Env)(dst:Option Tmp)(e:Ent)(K:Env->Prop):Prop:=
 match dst with
 | none=>K S
 | some d=>match Nat.blt d c.N.n with
  | true=>K ((d,e)::S)
  | false=>False
def pQe:List Value->List Value->(List Value->Prop)->Prop
 | [],acc,K=>K acc
 | x::l,acc,K=>pQe l (x::acc) K
def lQ7 (S:Env):List Operand->List Value->(List Value->Prop)->Prop
 | [],acc,K=>K acc
 | x::xs,acc,K=>match S.ev x with
  | some v=>lQ7 S xs (v::acc) K
  | none=>False
def fQq (t:Nat):Env->Bool
 | []=>false
 | (k,_)::S=>match Nat.beq k t with
  | true=>true
  | false=>fQq t S
def rQW (c:Cx)(t:Nat):Bool:=match Nat.blt t c.named with
 | true=>true
 | false=>pQd t c.keep
def dQX (p:Nat->Bool):Env->Env->(Env->Prop)->Prop
 | [],acc,K=>K acc
 | (t,x)::S,acc,K=>match p t with
  | true=>(match fQq t acc with
   | true=>dQX p S acc K
   | false=>dQX p S ((t,x)::acc) K)
  | false=>dQX p S acc K
def aQ8:Value->Bool
 | .agg _=>false
 | .tuple _=>false
 | _=>true
def tQ6 (c:Cx)(o:Oper)(S:Env)(w:World)(K:Env->World->Prop)(Q:cQB):Prop:=
 match o.op with
 | .load t x=>(match aQA c.g.tys t,S.ev x with
  | some r,some (.pointer (some p))=>(match hQi r.d with
   | false=>pQi w p (fun v=>bQq c S o.dst (.v v) (fun S=>K S w))
   | true=>jQb w p r.sz (fun vs=>bQq c S o.dst (.v (.agg vs.toArray)) (fun S=>K S w)))
  | _,_=>cQv c o S w K Q)
 | .store t x y=>(match aQA c.g.tys t,S.ev x,S.ev y with
  | some r,some (.pointer (some p)),some v=>(match aQ8 v,Nat.beq r.sz 1,o.dst with
   | true,true,none=>hQg w p v (fun w=>K S w)
   | false,_,none=>(match v with
    | .agg cs=>(match Nat.beq cs.toList.length r.sz with
     | true=>fQo c.g.P w p cs.toList (fun w=>K S w)
     | false=>cQv c o S w K Q)
    | _=>cQv c o S w K Q)
   | _,_,_=>cQv c o S w K Q)
  | _,_,_=>cQv c o S w K Q)
 | .alloc e=>(match aQA c.g.tys e with
  | some r=>New w e (bQd r.z) (fun p w=>bQq c S o.dst (.v (.pointer (some p))) (fun S=>K S w))
  | none=>cQv c o S w K Q)
 | .box e x=>(match S.ev x with
  | some v=>New w e (bQd v) (fun p w=>bQq c S o.dst (.v (.pointer (some p))) (fun S=>K S w))
  | none=>cQv c o S w K Q)
 | .indexAddr t x i=>(match aQA c.g.tys t,S.ev x,S.ev i with
  | some ⟨_,.slice e,_,_,_⟩,some (.slice b n _),some (.int _ i)=>(match aQA c.g.tys e with
   | some r=>dQz b n i r.sz (fun p=>bQq c S o.dst (.v (.pointer (some p))) (fun S=>K S w))
   | none=>cQv c o S w K Q)
  | some ⟨_,.array n e,_,_,_⟩,some (.pointer (some p)),some (.int _ i)=>(match aQA c.g.tys e with
   | some r=>dQz (some p) n i r.sz (fun p=>bQq c S o.dst (.v (.pointer (some p))) (fun S=>K S w))
   | none=>cQv c o S w K Q)
  | _,_,_=>cQv c o S w K Q)
 | .index t x i=>(match aQA c.g.tys t,S.ev x,S.ev i with
  | some ⟨_,.string,_,_,_⟩,some (.string s),some (.int _ i)=>dQA s i (fun b=>bQq c S o.dst (.v (.int .u8 b)) (fun S=>K S w))
  | _,_,_=>cQv c o S w K Q)
 | .call ⟨.value f,xs,_⟩=>(match S.ev f with
  | some (.func (.func n) first cap)=>(match pQd n c.g.fns with
   | true=>pQe first.toList [] (fun acc=>lQ7 S xs.toList acc (fun acc=>pQe cap.toList acc (fun acc=>pQe acc [] (fun l=>
     eQh c.g.P n l w (fun v w=>bQq c S o.dst (.v v) (fun S=>K S w)) (fun ch w=>Q (.panic ch) S w)))))
   | false=>cQv c o S w K Q)
  | _=>cQv c o S w K Q)
 | .call ⟨.invoke x nm,xs,_⟩=>(match S.ev x with
  | some (.iface t v)=>lQ7 S xs.toList [v] (fun acc=>pQe acc [] (fun l=>
    nQb c nm t l w (fun v w=>bQq c S o.dst (.v v) (fun S=>K S w)) (fun ch w=>Q (.panic ch) S w)))
  | _=>cQv c o S w K Q)
 | _=>cQv c o S w K Q
def fQ3 (c:Cx)(o:Oper)(S:Env)(w:World)(K:Env->World->Prop)(Q:cQB):Prop:=
 match iQt c.g S o.op with
 | .val v=>bQq c S o.dst (.v v) (fun S=>K S w)
 | .ent e=>bQq c S o.dst e (fun S=>K S w)
 | .norm k n=>lQX n (fun m=>bQq c S o.dst (.v (.int k m)) (fun S=>K S w))
 | .normIf p k n=>eQc p n (fun m=>bQq c S o.dst (.v (.int k m)) (fun S=>K S w))
 | .need p v=>rQN p v (fun v=>bQq c S o.dst (.v v) (fun S=>K S w))
 | .no=>tQ6 c o S w K Q
def gQO:List Oper->Nat->Option Oper
 | [],_=>none
 | x::_,0=>some x
 | _::l,n+1=>gQO l n
def dQa (c:Cx)(all:List Oper):List Oper->Env->World->(Env->World->Prop)->cQB->Prop
 | [],S,w,K,_=>dQX (rQW c) S [] (fun S=>K S w)
 | o::rest,S,w,K,Q=>match o.guard with
  | none=>fQ3 c o S w (fun S w=>dQa c all rest S w K Q) Q
  | some (
      j,want)=>match gQO all j with
   | some oj=>(match oj.dst with
    | some d=>(match S.ent d with
     | some .t=>(match want with
      | true=>fQ3 c o S w (fun S w=>dQa c all rest S w K Q) Q
      | false=>bQq c S o.dst (.v undef) (fun S=>dQa c all rest S w K Q))
     | some .f=>(match want with
      | false=>fQ3 c o S w (fun S w=>dQa c all rest S w K Q) Q
      | true=>bQq c S o.dst (.v undef) (fun S=>dQa c all rest S w K Q))
     | some (.v (.bool b))=>(match want with
      | true=>WIf b (fQ3 c o ((d,.t)::S) w (fun S w=>dQa c all rest S w K Q) Q) (bQq c ((d,.f)::S) o.dst (.v undef) (fun S=>dQa c all rest S w K Q))
      | false=>WIf b (bQq c ((d,.t)::S) o.dst (.v undef) (fun S=>dQa c all rest S w K Q)) (fQ3 c o ((d,.f)::S) w (fun S w=>dQa c all rest S w K Q) Q))
     | some (.v (.tuple _))=>bQq c S o.dst (.v undef) (fun S=>dQa c all rest S w K Q)
     | _=>False)
    | none=>False)
   | none=>False
def nQg:Code->Nat
 | .region id _ _=>id
 | .seq x _=>nQg x
 | .block _ x=>nQg x
 | .loop x=>nQg x
 | _=>1000000
def xQj (c:Cx):Code->Bool
 | .region _ _ _=>false
 | x=>pQd (nQg x) c.cuts
def fQ4 (c:Cx):Code->Env->World->cQB->Prop
 | .skip,S,w,Q=>Q .normal S w
 | .label _,S,w,Q=>Q .normal S w
 | .region id ops vQW,S,w,Q=>(match vQW with
  | false=>dQa c ops.toList ops.toList S w (fun S w=>Q .normal S w) Q
  | true=>cQw c id ops.toList S w Q)
 | .seq x y,S,w,Q=>(match xQj c x with
  | true=>fQp c (.seq x y) S w Q
  | false=>fQ4 c x S w (fun e S w=>match e with
   | .normal=>fQ4 c y S w Q
   | e=>Q e S w))
 | .cond b x y,S,w,Q=>(match b with
  | .tmp t=>(match S.ent t with
   | some .t=>fQ4 c x S w Q
   | some .f=>fQ4 c y S w Q
   | some (.v (.bool b))=>WIf b (fQ4 c x ((t,.t)::S) w Q) (fQ4 c y ((t,.f)::S) w Q)
   | _=>False)
  | .const (.bool true)=>fQ4 c x S w Q
  | .const (.bool false)=>fQ4 c y S w Q
  | _=>False)
 | .block id x,S,w,Q=>fQ4 c x S w (fun e S w=>match e with
  | .exit i=>(match Nat.beq i id with
   | true=>Q .normal S w
   | false=>Q (.exit i) S w)
  | e=>Q e S w)
 | .loop x,S,w,Q=>nQc c x S w Q
 | .exit id,S,w,Q=>Q (.exit id) S w
 | .ret,S,w,Q=>Q .ret S w
 | x,S,w,Q=>fQp c x S w Q
section
variable {c:Cx} {a:Act} {S:Env} {w:World} {K:Env->World->Prop} {Q:cQB}
theorem aQo {dst:Option Tmp}{e:Ent}{K:Env->Prop}(h:bQq c S dst e K)(hf:Fits c.N S a):
  ∃S',Fits c.N S' (a.put dst e.val)/\K S':=by
 unfold bQq at h;split at h
 ·exact⟨S,by simpa [Act.put] using hf,h⟩
 ·rename_i d;split at h
  ·rename_i hd;exact⟨_,hf.put (by rw[Nat.blt_eq] at hd;exact hd) e,h⟩
  ·exact h.elim
theorem eQj (l acc:List Value)(K:List Value->Prop):pQe l acc K=K (l.reverse++acc):=by
 induction l generalizing acc with
 | nil=>simp[pQe]
 | cons x l ih=>simp[pQe,ih]
theorem fQ5 {xs:List Operand}{acc:List Value}{K:List Value->Prop}(h:lQ7 S xs acc K)(hf:Fits c.N S a):
  K ((xs.map a.eval).reverse++acc):=by
 induction xs generalizing acc with
 | nil=>simpa [lQ7] using h
 | cons x xs ih=>
  simp only[lQ7] at h;split at h
  ·rename_i v hv;have:=ih h;simp only[List.map_cons,List.reverse_cons,List.append_assoc,List.singleton_append];rw[hf.ev hv];exact this
  ·exact h.elim
theorem gQz {t:Nat}{S:Env}(h:fQq t S=false):S.ent t=none:=by
 induction S with
 | nil=>rfl
 | cons p S ih=>
  obtain⟨k,x⟩:=p;simp only[fQq] at h;split at h
  ·cases h
  ·rename_i hb;simp[Env.ent,hb,ih h]
theorem lQ8 {t:Nat}{S:Env}(h:fQq t S=true):∃x,S.ent t=some x:=by
 induction S with
 | nil=>cases h
 | cons p S ih=>
  obtain⟨k,x⟩:=p;simp only[fQq] at h;split at h
  ·rename_i hb;exact⟨x,by simp[Env.ent,hb]⟩
  ·rename_i hb;simp[Env.ent,hb,ih h]
theorem eQK (S T:Env)(k:Nat):Env.ent (S++T) k=(S.ent k).or (Env.ent T k):=by
 induction S with
 | nil=>simp[Env.ent]
 | cons p S ih=>
  obtain⟨t,x⟩:=p;simp only[List.cons_append,Env.ent];split<;>simp[ih]
theorem cQX {p:Nat->Bool}{N:Slots}{a:Act}(h1:a.tmps.size=N.n)(h2:a.defers=N.ds){K:Env->Prop}:∀(T acc:Env),(∀k x,acc.ent k=some x->p k=true)->
  (∀k x,p k=true->Env.ent (acc++T) k=some x->a.tmps[k]? =some x.val)->dQX p T acc K->∃S',Fits N S' a/\K S'
 | [],acc,hp,hh,h=>⟨acc,⟨h1,h2,fun k x hk=>hh k x (hp k x hk) (by simpa using hk)⟩,h⟩
 | (t,x)::T,acc,hp,hh,h=>by
  simp only[dQX] at h;split at h
  ·rename_i hpt;split at h
   ·rename_i hk;refine cQX h1 h2 T acc hp (fun k y hpk hy=>hh k y hpk ?_) h;rw[eQK] at hy ⊢;cases hb:Nat.beq t k with
    | true=>
     have:=Nat.eq_of_beq_eq_true hb;subst this;obtain⟨z,hz⟩:=lQ8 hk;simp only[hz,Option.some_or] at hy ⊢;exact hy
    | false=>simpa [Env.ent,hb] using hy
   ·rename_i hk;refine cQX h1 h2 T ((t,x)::acc) (fun k y hy=>?_) (fun k y hpk hy=>hh k y hpk ?_) h
    ·simp only[Env.ent] at hy;split at hy
     ·rename_i hb;rw[<-Nat.eq_of_beq_eq_true hb];exact hpt
     ·exact hp k y hy
    ·rw[List.cons_append] at hy;simp only[Env.ent] at hy;rw[eQK];split at hy
     ·rename_i hb;have:=Nat.eq_of_beq_eq_true hb;subst this;rw[gQz hk];simpa [Env.ent] using hy
     ·rename_i hb;rw[eQK] at hy;simpa [Env.ent,hb] using hy
  ·rename_i hpt;refine cQX h1 h2 T acc hp (fun k y hpk hy=>hh k y hpk ?_) h;rw[eQK] at hy ⊢;have hb:Nat.beq t k=false:=by
    cases hb:Nat.beq t k with
    | false=>rfl
    | true=>have:=Nat.eq_of_beq_eq_true hb;subst this;rw[hpk] at hpt;cases hpt
   simpa [Env.ent,hb] using hy
abbrev Nxt (c:Cx)(K:Env->World->Prop):Act->World->Prop:=fun a' w'=>∃S',Fits c.N S' a'/\K S' w'
theorem bQA {o:Oper}{v:Value}{w':World}{N:Act->World->Prop}{Q':Exit->Act->World->Prop}
  (hr:(execOp a.eval o).run c.g.P w= .ok (.value v) w') (h:N (a.put o.dst v) w'):o.wp c.g.P a w N Q':=by
 unfold Oper.wp;rw[hr];exact h
theorem bQb (hg:c.g.Ok){o:Oper}(hf:Fits c.N S a){r:PR}(hr:iQt c.g S o.op=r):r.Means w ((execOp a.eval o).run c.g.P w):=by
 rw[<-hr];exact kQF hg (fun x v h=>hf.ev h) o
theorem jQd {P:Program}(t:TypeId)(i:TypeInfo)(hi:P.info? t=some i)(hs:i.size=1)(p:Addr)(v:Value)(hv:aQ8 v=true)(w:World):
  (storeVar t p v).run P w=(store p v).run P w:=by
 have hc:v.cells= #[v]:=by cases v<;>first | rfl | (simp[aQ8] at hv)
 simp[storeVar,hc,sizeOf,typeInfo,hi,hs,storeCells,Addr.add]
theorem cQF (hg:c.g.Ok){t:Nat}{r:TyRow}(hr:aQA c.g.tys t=some r)(w:World):(isAgg t).run c.g.P w= .ok (hQi r.d) w:=by
 simp only[isAgg,Sem.run_bind,bQw hg hr,Result.andThen_ok];cases r.d<;>rfl
theorem run_sizeOf (hg:c.g.Ok){t:Nat}{r:TyRow}(hr:aQA c.g.tys t=some r)(w:World):(sizeOf t).run c.g.P w= .ok r.sz w:=by
 obtain⟨_,i,hi,hs,_⟩:=hg.row hr;simp[sizeOf,typeInfo,hi,hs]
theorem dQf {P:Program}{n:Nat}(hc:gQV P n)(args:Array Value)(w:World):(callFunc n args).run P w= .ok (.enter n args) w:=by
 obtain⟨fn,h1,h2,h3⟩:=hc;have h2':fn.body≠none:=fun e=>by simp[e] at h2
 have h3':fn.name≠ "runtime.NumGoroutine" :=by simpa using h3
 simp[callFunc,h1,h2',h3']
theorem oQq (hg:c.g.Ok){t:Nat}{r:MRow}(hr:kQA c.g.ms t=some r)(v:Value)(n:Nat)(w:World):(method (n+1) t v r.name).run c.g.P w= .ok (r.f,v) w:=by
 obtain⟨⟨h1,h2⟩,rfl⟩:=lQ1 hr hg.ms;cases hi:c.g.P.info? r.t with
 | none=>simp[hi] at h1
 | some i=>
  cases hm:i.methods.find? (fun m=>m.name==r.name)with
  | none=>simp[hi,hm] at h1
  | some m=>
   simp[hi,hm] at h1;cases hu:c.g.P.underlying r.t with
   | none=>simp[hu] at h2
   | some d=>
    simp[hu] at h2;have hp:m.path.toList=[]:=by rw[h1.1]
    cases hb:r.ptr with
    | false=>
     rw[hb] at h1 h2;have hx:(receiverAt r.t (.val v) false (if m.path.isEmpty=true then some ((r.name.splitOn ".").getLastD r.name)else none)).run c.g.P w= .ok v w:=by
      unfold receiverAt;rw[Sem.run_bind,run_underlying hu];cases d<;>first | (simp[xQi] at h2;done) | simp[Place.get]
     unfold method;simp only[typeInfo,Sem.run_bind,run_program,Result.andThen_ok,hi,Sem.run_pure,hm,hp,follow,h1.2];simp only[hx,Result.andThen_ok]
    | true=>
     rw[hb] at h1 h2;have hx:(receiverAt r.t (.val v) true (if m.path.isEmpty=true then some ((r.name.splitOn ".").getLastD r.name)else none)).run c.g.P w= .ok v w:=by
      unfold receiverAt;rw[Sem.run_bind,run_underlying hu];cases d<;>first | (simp[xQi] at h2;done) | simp[Place.get]
     unfold method;simp only[typeInfo,Sem.run_bind,run_program,Result.andThen_ok,hi,Sem.run_pure,hm,hp,follow,h1.2];simp only[hx,Result.andThen_ok]
theorem lQ9 (hg:c.g.Ok){o:Oper}(h:tQ6 c o S w K Q)(hf:Fits c.N S a):o.wp c.g.P a w (Nxt c K) (Up c Q):=by
 have hAt:cQv c o S w K Q->o.wp c.g.P a w (Nxt c K) (Up c Q):=fun h=>by unfold cQv at h;exact h a hf
 obtain⟨dst,op,ty,pos,aft,gd⟩:=o;unfold tQ6 at h;split at h
 ·rename_i t x hop;simp only at hop;subst hop;split at h
  ·rename_i r p hr hx;split at h
   ·rename_i hd;unfold pQi at h;obtain⟨v,hv,hk⟩:=h;refine bQA (v:=v) (w':=w) ?_ (aQo (e:=.v v) hk hf);have:=hf.ev hx;simp[execOp,this,Instr.loadAt,Instr.sureAddr,loadVar,cQF hg hr,hd,load,Sem.run,hv]
   ·rename_i hd;unfold jQb at h;obtain⟨vs,hl,hv,hk⟩:=h;refine bQA (v:=.agg vs.toArray) (w':=w) ?_ (aQo (e:=.v (.agg vs.toArray)) hk hf);have:=hf.ev hx;have h2:=run_loadCells_list (P:=c.g.P) (w:=w) p vs hv;rw[hl] at h2;simp[execOp,this,Instr.loadAt,Instr.sureAddr,loadVar,cQF hg hr,hd,run_sizeOf hg hr,h2]
  ·exact hAt h
 ·rename_i t x y hop;simp only at hop;subst hop;split at h
  ·rename_i r p v hr hx hy;split at h
   ·rename_i hs h1 hd;unfold hQg at h;obtain⟨⟨u,hu⟩,hfr,hk⟩:=h;obtain⟨_,i,hi,hsz,_⟩:=hg.row hr;have e1:=hf.ev hx;have e2:=hf.ev hy;have h1':i.size=1:=by rw[hsz];exact Nat.eq_of_beq_eq_true h1
    have hst:=jQd t i hi h1' p v hs w;simp only at hd;subst hd;unfold Oper.wp;have:(execOp a.eval {dst:=none,op:=.store t x y,type:=ty,pos:=pos,after:=aft,guard:=gd}).run c.g.P w= .ok .skip (w.setCell p v):=by
     simp[execOp,e1,e2,Instr.storeAt,Instr.sureAddr,hst,store];cases v<;>first | (simp[aQ8] at hs;done) | simp[Sem.run,hu,hfr]
    rw[this];exact⟨S,by simpa [Act.put] using hf,hk⟩
   ·rename_i hs hd;split at h
    ·rename_i cs;split at h
     ·rename_i hn;unfold fQo at h;obtain⟨w',hrun,hk⟩:=h;have hn:=Nat.eq_of_beq_eq_true hn;have e1:=hf.ev hx;have e2:=hf.ev hy;simp only at hd;subst hd;unfold Oper.wp;have:(execOp a.eval {dst:=none,op:=.store t x y,type:=ty,pos:=pos,after:=aft,guard:=gd}).run c.g.P w= .ok .skip w':=by
       simp only[execOp,e1,e2,Instr.storeAt,Instr.sureAddr,storeVar,Value.cells];simp only[Sem.run_bind,Sem.run_pure,run_sizeOf hg hr,Result.andThen_ok];rw[if_neg (by simpa using hn)];simp[hrun]
      rw[this];exact⟨S,by simpa [Act.put] using hf,hk⟩
     ·exact hAt h
    ·exact hAt h
   ·exact hAt h
  ·exact hAt h
 ·rename_i e hop;simp only at hop;subst hop;split at h
  ·rename_i r hr;obtain⟨_,i,hi,_,_,hz⟩:=hg.row hr;unfold New at h;refine bQA (v:=.pointer (some ⟨w.heap.size,0,none⟩)) (w':=w.alloc (.cells (bQd r.z).toArray e)) ?_ (aQo (e:=.v _) h hf);have hc:r.z.cells=(bQd r.z).toArray:=by rw[<-bQW]
   simp[execOp,Instr.alloc,zeroValue,typeInfo,hi,hz,newVar,newRow,hc]
  ·exact hAt h
 ·rename_i e x hop;simp only at hop;subst hop;split at h
  ·rename_i v hx;unfold New at h;have e1:=hf.ev hx;refine bQA (v:=.pointer (some ⟨w.heap.size,0,none⟩)) (w':=w.alloc (.cells (bQd v).toArray e)) ?_ (aQo (e:=.v _) h hf);have hc:v.cells=(bQd v).toArray:=by rw[<-bQW]
   simp[execOp,e1,Instr.box,newVar,newRow,hc]
  ·exact hAt h
 ·rename_i t x ix hop;simp only at hop;subst hop;split at h
  ·rename_i e b n k i hr hx hi;split at h
   ·rename_i r hre;unfold dQz at h;obtain⟨p,rfl,h0,h1,hk⟩:=h;refine bQA (v:=.pointer (some (p.add (i.toNat*r.sz)))) (w':=w) ?_ (aQo (e:=.v _) hk hf);have e1:=hf.ev hx;have e2:=hf.ev hi;simp[execOp,e1,e2,Instr.indexAt,asIntOf,bQw hg hr,run_sizeOf hg hre,h0,h1]
   ·exact hAt h
  ·rename_i n e p k i hr hx hi;split at h
   ·rename_i r hre;unfold dQz at h;obtain⟨p',hp,h0,h1,hk⟩:=h;cases hp;refine bQA (v:=.pointer (some (p.add (i.toNat*r.sz)))) (w':=w) ?_ (aQo (e:=.v _) hk hf);have e1:=hf.ev hx;have e2:=hf.ev hi;simp[execOp,e1,e2,Instr.indexAt,Instr.sureAddr,asIntOf,bQw hg hr,run_sizeOf hg hre,h0,h1]
   ·exact hAt h
  ·exact hAt h
 ·rename_i t x ix hop;simp only at hop;subst hop;split at h
  ·rename_i s k i hr hx hi;unfold dQA at h;obtain⟨b,h0,h1,hk⟩:=h;refine bQA (v:=.int .u8 b.toNat) (w':=w) ?_ (aQo (e:=.v _) hk hf);have e1:=hf.ev hx;have e2:=hf.ev hi;simp[execOp,e1,e2,Instr.index,asIntOf,bQw hg hr,h0,h1]
  ·exact hAt h
 ·rename_i f xs ts hop;simp only at hop;subst hop;split at h
  ·rename_i n first cap hv;split at h
   ·rename_i hm;have hc:=hg.fns n (fQn hm);rw[eQj] at h;have h2:=fQ5 h hf;rw[eQj,eQj] at h2;simp only[List.append_nil,List.reverse_append,List.reverse_reverse,List.append_assoc] at h2;unfold eQh at h2;have e1:=hf.ev hv;unfold Oper.wp;have:(execOp a.eval {dst:=dst,op:=.call ⟨.value f,xs,ts⟩,type:=ty,pos:=pos,after:=aft,guard:=gd}).run c.g.P w=
      .ok (.enter n (first.toList++(List.map a.eval xs.toList++cap.toList)).toArray) w:=by
     simp[execOp,resolve,e1,Deferred.ofValue,invoke,dQf hc]
    rw[this];unfold Oper.upon;refine h2.mono fun e w' he=>?_
    cases e with
    | returned v=>exact aQo (e:=.v v) he hf
    | panicked ch=>exact⟨S,hf,he⟩
    | outgrown=>exact he.elim
   ·exact hAt h
  ·exact hAt h
 ·rename_i x nm xs ts hop;simp only at hop;subst hop;split at h
  ·rename_i t v hv
   ·have h2:=fQ5 h hf;rw[eQj] at h2;simp only[List.append_nil,List.reverse_append,List.reverse_reverse,List.reverse_cons,List.reverse_nil,List.nil_append] at h2;unfold nQb at h2;obtain⟨r,hr,rfl,hm,h2⟩:=h2
    ·have hc:=hg.fns r.f (fQn hm);unfold eQh at h2;have e1:=hf.ev hv;unfold Oper.wp;have hmt:=oQq hg hr v (c.g.P.types.size+99) w;have:(execOp a.eval {dst:=dst,op:=.call ⟨.invoke x r.name,xs,ts⟩,type:=ty,pos:=pos,after:=aft,guard:=gd}).run c.g.P w=
       .ok (.enter r.f ([v]++List.map a.eval xs.toList).toArray) w:=by
      have hex:(#[Value.iface t v]++Array.map a.eval xs).extract 1 (#[Value.iface t v]++Array.map a.eval xs).size=Array.map a.eval xs:=by
       apply Array.ext';simp;exact List.take_of_length_le (by simp)
      have hcm:(callMethod (.iface t v) r.name (Array.map a.eval xs)).run c.g.P w= .ok (.enter r.f ([v]++List.map a.eval xs.toList).toArray) w:=by
       simp only[callMethod,Sem.run_bind,run_program,Result.andThen_ok];rw[show c.g.P.types.size+Made.depth=c.g.P.types.size+99+1 from rfl,hmt];simp[dQf hc]
      simp only[execOp,resolve,e1,Sem.run_bind,Sem.run_pure,Result.andThen_ok,invoke];rw[hex,show(#[Value.iface t v]++Array.map a.eval xs)[0]? =some (Value.iface t v) from (Array.getElem?_append_left (show 0<1 by decide)).trans rfl];exact hcm
     rw[this];unfold Oper.upon;refine h2.mono fun e w' he=>?_
     cases e with
     | returned v=>exact aQo (e:=.v v) he hf
     | panicked ch=>exact⟨S,hf,he⟩
     | outgrown=>exact he.elim
  ·exact hAt h
 ·exact hAt h
theorem cQC (hg:c.g.Ok){o:Oper}(h:fQ3 c o S w K Q)(hf:Fits c.N S a):o.wp c.g.P a w (Nxt c K) (Up c Q):=by
 unfold fQ3 at h;split at h
 ·rename_i v hp;have hm:=bQb (w:=w) hg hf hp;exact bQA hm (aQo (e:=.v v) h hf)
 ·rename_i e hp;have hm:=bQb (w:=w) hg hf hp;exact bQA hm (aQo (e:=e) h hf)
 ·rename_i k n hp;have hm:=bQb (w:=w) hg hf hp;unfold lQX at h;exact bQA hm (aQo (e:=.v (.int k n)) h hf)
 ·rename_i p k n hp;have hm:=bQb (w:=w) hg hf hp;unfold eQc at h;exact bQA (hm h.1) (aQo (e:=.v (.int k n)) h.2 hf)
 ·rename_i p v hp;have hm:=bQb (w:=w) hg hf hp;unfold rQN at h;exact bQA (hm h.1) (aQo (e:=.v v) h.2 hf)
 ·exact lQ9 hg h hf
theorem dQx (l:List Oper)(n:Nat):gQO l n=l[n]? :=by
 induction l generalizing n with
 | nil=>simp[gQO]
 | cons x l ih=>cases n<;>simp[gQO,ih]
theorem bQ0 {all:List Oper}{o oj:Oper}{j d:Nat}{want b:Bool}(hgd:o.guard=some (j,want))(hj:gQO all j=some oj)(hd:oj.dst=some d)(ha:a.tmps[d]? =some (.bool b)):
  Region.wanted o (yielded all.toArray a.tmps)=(b==want):=by
 rw[dQx] at hj;simp[Region.wanted,hgd,yielded,hj,hd,ha]
theorem jQe {all:List Oper}{o oj:Oper}{j d:Nat}{want:Bool}{vs:Array Value}(hgd:o.guard=some (j,want))(hj:gQO all j=some oj)(hd:oj.dst=some d)(ha:a.tmps[d]? =some (.tuple vs)):
  Region.wanted o (yielded all.toArray a.tmps)=false:=by
 rw[dQx] at hj;simp[Region.wanted,hgd,yielded,hj,hd,ha]
theorem bQI (hg:c.g.Ok)(all:List Oper):∀(l:List Oper)(S:Env)(w:World)(a:Act),dQa c all l S w K Q->Fits c.N S a->
  wpList c.g.P all.toArray (fun e a w=>Exit.then (Nxt c K) (Up c Q) e a w) l a w
 | [],S,w,a,h,hf=>by
  simp only[dQa] at h;exact cQX (p:=rQW c) hf.size hf.defers S [] (fun k x hk=>by simp[Env.ent] at hk) (fun k x _ hk=>hf.has k x hk) h
 | o::rest,S,w,a,h,hf=>by
  have go:∀(S:Env),fQ3 c o S w (fun S w=>dQa c all rest S w K Q) Q->Fits c.N S a->o.wp c.g.P a w (wpList c.g.P all.toArray (fun e a w=>Exit.then (Nxt c K) (Up c Q) e a w) rest) (fun e a w=>Exit.then (Nxt c K) (Up c Q) e a w):=fun S h hf=>by
   have h1:=cQC hg h hf;have h2:=Oper.wp_mono (K':=wpList c.g.P all.toArray (fun e a w=>Exit.then (Nxt c K) (Up c Q) e a w) rest) (fun a' w' ⟨S',hf',hk⟩=>bQI hg all rest S' w' a' hk hf') h1;unfold Oper.wp at h2 ⊢;generalize (execOp a.eval o).run c.g.P w=r at*;cases r with
   | ok n w'=>
    cases n<;>simp only[Oper.upon] at h2 ⊢ <;> exact h2
   | halt x w'=>cases x<;>simp only[Oper.upon] at h2 ⊢ <;> exact h2
  have no:∀(S:Env),bQq c S o.dst (.v undef) (fun S=>dQa c all rest S w K Q)->Fits c.N S a->wpList c.g.P all.toArray (fun e a w=>Exit.then (Nxt c K) (Up c Q) e a w) rest (a.put o.dst undef) w:=fun S h hf=>by
   obtain⟨S',hf',hk⟩:=aQo h hf;exact bQI hg all rest S' w _ hk hf'
  have fit:∀(d:Nat) (b:Bool) (e:Ent),S.ent d=some (.v (.bool b))->e.val= .bool b->Fits c.N ((d,e)::S) a:=fun d b e hd he=>by
   refine⟨hf.size,hf.defers,fun k x hk=>?_⟩;simp only[Env.ent] at hk;split at hk
   ·rename_i hb;have:=Nat.eq_of_beq_eq_true hb;subst this;cases hk;rw[he];exact hf.has _ _ hd
   ·exact hf.has _ _ hk
  simp only[dQa] at h;unfold wpList;split at h
  ·rename_i hgd;rw[if_pos (by simp[Region.wanted,hgd])];exact .inl (go S h hf)
  ·rename_i j want hgd;split at h
   ·rename_i oj hj;split at h
    ·rename_i d hd;split at h
     ·rename_i hd';have hw:=bQ0 hgd hj hd (hf.has _ _ hd');split at h
      ·rw[if_pos (by rw[hw];rfl)];exact .inl (go S h hf)
      ·rw[if_neg (by rw[hw];decide)];exact no S h hf
     ·rename_i hd';have hw:=bQ0 hgd hj hd (hf.has _ _ hd');split at h
      ·rw[if_pos (by rw[hw];rfl)];exact .inl (go S h hf)
      ·rw[if_neg (by rw[hw];decide)];exact no S h hf
     ·rename_i b hd';have hw:=bQ0 hgd hj hd (hf.has _ _ hd');split at h
      ·unfold WIf at h;cases b with
       | true=>rw[if_pos (by rw[hw];rfl)];exact .inl (go _ (h.1 rfl) (fit d true .t hd' rfl))
       | false=>rw[if_neg (by rw[hw];decide)];exact no _ (h.2 rfl) (fit d false .f hd' rfl)
      ·unfold WIf at h;cases b with
       | true=>rw[if_neg (by rw[hw];decide)];exact no _ (h.1 rfl) (fit d true .t hd' rfl)
       | false=>rw[if_pos (by rw[hw];rfl)];exact .inl (go _ (h.2 rfl) (fit d false .f hd' rfl))
     ·rename_i hd';rw[if_neg (by rw[jQe hgd hj hd (hf.has _ _ hd')];decide)];exact no S h hf
     ·exact h.elim
    ·exact h.elim
   ·exact h.elim
theorem bQN (hg:c.g.Ok):∀(x:Code)(S:Env)(w:World)(Q:cQB)(a:Act),fQ4 c x S w Q->Fits c.N S a->x.wp c.g.P (Up c Q) a w:=by
 intro x;have hc:∀(x:Code) (S:Env) (w:World) (Q:cQB) (a:Act),fQp c x S w Q->Fits c.N S a->x.wp c.g.P (Up c Q) a w:=fun x S w Q a h hf=>by
  unfold fQp at h;exact h a hf
 induction x with
 | skip=>exact fun S w Q a h hf=>wp_skip ⟨S,hf,h⟩
 | label l=>exact fun S w Q a h hf=>wp_label ⟨S,hf,h⟩
 | region id ops vQW=>
  intro S w Q a h hf;simp only[fQ4] at h;cases vQW with
  | false=>
   have h1:=bQI hg _ _ _ _ _ h hf;refine wp_mono (wp_region_list ?_) (Q:=fun e a w=>Exit.then (Nxt c (fun S w=>Q .normal S w)) (Up c Q) e a w) (fun e a w hq=>?_)
   ·simpa using h1
   ·cases e<;>exact hq
  | true=>
   unfold cQw at h;simpa using h a hf
 | seq x y ihx ihy=>
  intro S w Q a h hf;simp only[fQ4] at h;split at h
  ·exact hc _ _ _ _ _ h hf
  ·refine wp_seq (wp_mono (ihx _ _ _ _ h hf) (fun e a w hq=>?_));obtain⟨S',hf',hq⟩:=hq;cases e<;>first | exact ihy _ _ _ _ hq hf' | exact⟨S',hf',hq⟩
 | cond b x y ihx ihy=>
  intro S w Q a h hf;simp only[fQ4] at h;split at h
  ·rename_i t;split at h
   ·rename_i ht;exact wp_cond_true (by have:=hf.has _ _ ht;simp[Act.eval,this,Ent.val]) (ihx _ _ _ _ h hf)
   ·rename_i ht;exact wp_cond_false (by have:=hf.has _ _ ht;simp[Act.eval,this,Ent.val]) (ihy _ _ _ _ h hf)
   ·rename_i b ht;have hev:a.eval (.tmp t)= .bool b:=by have:=hf.has _ _ ht;simp[Act.eval,this,Ent.val]
    have fit:∀(e:Ent),e.val= .bool b->Fits c.N ((t,e)::S) a:=fun e he=>by
     refine⟨hf.size,hf.defers,fun k x hk=>?_⟩;simp only[Env.ent] at hk;split at hk
     ·rename_i hb;have:=Nat.eq_of_beq_eq_true hb;subst this;cases hk;rw[he];exact hf.has _ _ ht
     ·exact hf.has _ _ hk
    unfold WIf at h;cases b with
    | true=>exact wp_cond_true hev (ihx _ _ _ _ (h.1 rfl) (fit .t rfl))
    | false=>exact wp_cond_false hev (ihy _ _ _ _ (h.2 rfl) (fit .f rfl))
   ·exact h.elim
  ·exact wp_cond_true rfl (ihx _ _ _ _ h hf)
  ·exact wp_cond_false rfl (ihy _ _ _ _ h hf)
  ·exact h.elim
 | block id x ih=>
  intro S w Q a h hf;simp only[fQ4] at h;refine wp_block (wp_mono (ih _ _ _ _ h hf) (fun e a w hq=>?_));obtain⟨S',hf',hq⟩:=hq;cases e with
  | exit i=>
   simp only at hq;simp only[Exit.inBlock];split at hq
   ·rename_i hb;rw[if_pos (Nat.eq_of_beq_eq_true hb)];exact⟨S',hf',hq⟩
   ·rename_i hb;rw[if_neg (fun e=>by subst e;simp at hb)];exact⟨S',hf',hq⟩
  | normal=>exact⟨S',hf',hq⟩
  | goto l=>exact⟨S',hf',hq⟩
  | ret=>exact⟨S',hf',hq⟩
  | panic ch=>exact⟨S',hf',hq⟩
  | outgrown=>exact⟨S',hf',hq⟩
 | loop x ih=>intro S w Q a h hf;simp only[fQ4] at h;unfold nQc at h;exact h a hf
 | exit id=>exact fun S w Q a h hf=>wp_exit ⟨S,hf,h⟩
 | ret=>exact fun S w Q a h hf=>wp_ret ⟨S,hf,h⟩
 | rangeFunc f ps as_ b ih1 ih2=>exact fun S w Q a h hf=>hc _ _ _ _ _ h hf
 | scope x ih=>exact fun S w Q a h hf=>hc _ _ _ _ _ h hf
 | goto l=>exact fun S w Q a h hf=>hc _ _ _ _ _ h hf
 | refuse y=>exact fun S w Q a h hf=>hc _ _ _ _ _ h hf
end
def rQX:List Nat->List Value->Env->(Env->Prop)->Prop
 | _,[],S,K=>K S
 | t::ts,v::vs,S,K=>rQX ts vs ((t,.v v)::S) K
 | [],_::_,_,_=>False
def vQT (w:World)(R:Value->World->Prop):List Value->Prop
 | [v]=>R v w
 | vs=>R (.tuple vs.toArray) w
def nQh (c:Cx)(S:Env)(w:World)(R:Value->World->Prop):List ResultVar->List Value->Prop
 | [],acc=>pQe acc [] (fun l=>vQT w R l)
 | .tmp t::rs,acc=>(match S.get t with
  | some v=>nQh c S w R rs (v::acc)
  | none=>False)
 | .cell t ty::rs,acc=>(match aQA c.g.tys ty,S.get t with
  | some r,some (.pointer (some p))=>(match hQi r.d with
   | false=>pQi w p (fun v=>nQh c S w R rs (v::acc))
   | true=>jQb w p r.sz (fun vs=>nQh c S w R rs (.agg vs.toArray::acc)))
  | _,_=>False)
def Fin (c:Cx)(rs:List ResultVar)(R:Value->World->Prop):cQB:=fun e S w=>match e with
 | .normal=>nQh c S w R rs []
 | .ret=>nQh c S w R rs []
 | _=>False
def wQ7 (tmps:Array Value):ResultVar->Sem Value
 | .tmp t=>pure (tmps.getD t undef)
 | .cell t ty=>do loadVar ty (<-asAddr (tmps.getD t undef))
theorem kQG (fn:Func)(tmps:Array Value):results fn tmps=(do
  let vs<-fn.results.mapM (wQ7 tmps)
  pure (if h:vs.size=1 then vs[0] else .tuple vs)):=by
 unfold results;congr 2
theorem gQX {c:Cx}(hg:c.g.Ok){S:Env}{a:Act}{w:World}(hf:Fits c.N S a)(R:Value->World->Prop):∀(rs:List ResultVar)(acc:List Value),nQh c S w R rs acc->
  ∃vs:List Value,(rs.mapM (wQ7 a.tmps)).run c.g.P w= .ok vs w/\vQT w R (acc.reverse++vs)
 | [],acc,h=>by
  simp only[nQh,eQj,List.append_nil] at h;exact⟨[],by simp,by simpa using h⟩
 | .tmp t::rs,acc,h=>by
  simp only[nQh] at h;split at h
  ·rename_i v hv;obtain⟨vs,h1,h2⟩:=gQX hg hf R rs _ h;have:=hf.get hv;refine⟨v::vs,?_,by simpa using h2⟩;simp only[List.mapM_cons,Sem.run_bind];rw[show(wQ7 a.tmps (.tmp t)).run c.g.P w= .ok v w by simp[wQ7,this]];simp only[Result.andThen_ok];rw[h1];simp
  ·exact h.elim
 | .cell t ty::rs,acc,h=>by
  simp only[nQh] at h;split at h
  ·rename_i r p hr hp;have hp:=hf.get hp;split at h
   ·rename_i hd;unfold pQi at h;obtain⟨v,hv,h⟩:=h;obtain⟨vs,h1,h2⟩:=gQX hg hf R rs _ h;refine⟨v::vs,?_,by simpa using h2⟩;have e1:(do loadVar ty (<-asAddr (a.tmps.getD t undef)):Sem Value).run c.g.P w= .ok v w:=by
     simp[hp,asAddr,loadVar,cQF hg hr,hd,load,Sem.run,hv]
    rw[List.mapM_cons,Sem.run_bind];show Result.andThen ((do loadVar ty (<-asAddr (a.tmps.getD t undef)):Sem Value).run c.g.P w) _=_;rw[e1];simp only[Result.andThen_ok,Sem.run_bind];rw[h1];simp
   ·rename_i hd;unfold jQb at h;obtain⟨cs,hl,hv,h⟩:=h;obtain⟨vs,h1,h2⟩:=gQX hg hf R rs _ h;have h3:=run_loadCells_list (P:=c.g.P) (w:=w) p cs hv;rw[hl] at h3;refine⟨.agg cs.toArray::vs,?_,by simpa using h2⟩;have e1:(do loadVar ty (<-asAddr (a.tmps.getD t undef)):Sem Value).run c.g.P w= .ok (.agg cs.toArray) w:=by
     simp[hp,asAddr,loadVar,cQF hg hr,hd,run_sizeOf hg hr,h3]
    rw[List.mapM_cons,Sem.run_bind];show Result.andThen ((do loadVar ty (<-asAddr (a.tmps.getD t undef)):Sem Value).run c.g.P w) _=_;rw[e1];simp only[Result.andThen_ok,Sem.run_bind];rw[h1];simp
  ·exact h.elim
theorem bQx {c:Cx}(hg:c.g.Ok){S:Env}{a:Act}{w:World}(hf:Fits c.N S a){R:Value->World->Prop}{fn:Func}(h:nQh c S w R fn.results.toList []):
  ∃v,(results fn a.tmps).run c.g.P w= .ok v w/\R v w:=by
 obtain⟨vs,h1,h2⟩:=gQX hg hf R _ _ h;have e:fn.results=fn.results.toList.toArray:=by simp
 rw[kQG,e,List.mapM_toArray];simp only[Sem.run_bind,Sem.run_map];rw[h1];simp only[Result.andThen_ok,Sem.run_pure,List.size_toArray,List.nil_append,List.reverse_nil] at h2 ⊢
 match vs,h2 with
 | [],h2=>exact⟨_,rfl,h2⟩
 | [v],h2=>exact⟨_,rfl,h2⟩
 | v::u::vs,h2=>exact⟨_,rfl,h2⟩
theorem bQK {N:Nat}(args:List Value)(hN:args.length<=N)(S:Env)(hS:∀k x,S.ent k=some x->args[k]? =some x.val):
  Fits ⟨N,[]⟩ S {tmps:=args.toArray++Array.replicate (N-args.toArray.size) undef,defers:=[]}:=by
 refine⟨by simp;omega,rfl,fun k x hk=>?_⟩;have h1:=hS k x hk;have:k<args.length:=(List.getElem?_eq_some_iff.1 h1).1;rw[Array.getElem?_append_left (by simpa using this)];simpa using h1
theorem eQk {K:Env->Prop}:∀(ts:List Nat)(vs:List Value)(S:Env)(m:Nat)(args:List Value),(∀j t,ts[j]? =some t->t=m+j)->args.drop m=vs->(∀k x,S.ent k=some x->args[k]? =some x.val)->
  rQX ts vs S K->∃S',(∀k x,Env.ent S' k=some x->args[k]? =some x.val)/\K S'
 | _,[],S,_,_,_,_,hS,h=>⟨S,hS,by unfold rQX at h;exact h⟩
 | [],_::_,_,_,_,_,_,_,h=>by simp[rQX] at h
 | t::ts,v::vs,S,m,args,ht,hd,hS,h=>by
  simp only[rQX] at h;have ht0:t=m:=by have:=ht 0 t rfl;omega
  subst ht0;have hv:args[t]? =some v:=by
   have:=congrArg (fun l=>l[0]?) hd;simpa using this
  refine eQk ts vs _ (t+1) args (fun j u hu=>by have:=ht (j+1) u hu;omega) ?_ (fun k x hk=>?_) h
  ·rw[<-List.drop_drop,hd];rfl
  ·simp only[Env.ent] at hk;split at hk
   ·rename_i hb;have:=Nat.eq_of_beq_eq_true hb;subst this;cases hk;exact hv
   ·exact hS k x hk
theorem aQf {c:Cx}(hg:c.g.Ok){f:FuncId}{fn:Func}{x:Code}{args:List Value}{w:World}{R:Value->World->Prop}(hf:c.g.P.funcs[f]? =some fn)(hb:fn.body=some x)(hN:⟨fn.ntmps,[]⟩=c.N)
  (hl:Nat.ble args.length c.N.n=true) (h:rQX [0,1,2,3,4,5,6,7,8,9,10,11,12,13,14,15] args [] (fun S=>fQ4 c x S w (Fin c fn.results.toList R))):Fn c.g.P f args w R:=by
 unfold Fn;obtain⟨S,hS,hx⟩:=eQk _ args [] 0 args (fun j t ht=>by
  match j,ht with
  | 0,ht | 1,ht | 2,ht | 3,ht | 4,ht | 5,ht | 6,ht | 7,ht | 8,ht | 9,ht | 10,ht | 11,ht | 12,ht | 13,ht | 14,ht | 15,ht=>simp at ht;omega
  | j+16,ht=>simp at ht) (by simp) (fun k x hk=>by simp[Env.ent] at hk) h
 refine calls_of_wp hf hb ?_;have hn:fn.ntmps=c.N.n:=congrArg Slots.n hN;have hfit:=bQK (N:=c.N.n) args (Nat.le_of_ble_eq_true hl) S hS;rw[<-hn,hN] at hfit;refine wp_mono (bQN hg x S w _ _ hx hfit) (fun e a w' hq=>?_);obtain⟨S',hf',hq⟩:=hq;have hd':a.defers=[]:=by rw[hf'.defers,<-hN]
 cases e with
 | normal=>obtain⟨v,h1,h2⟩:=bQx hg hf' hq;exact⟨hd',v,h1,h2⟩
 | ret=>obtain⟨v,h1,h2⟩:=bQx hg hf' hq;exact⟨hd',v,h1,h2⟩
 | exit i=>exact hq.elim
 | goto l=>exact hq.elim
 | panic ch=>exact hq.elim
 | outgrown=>exact hq.elim
@[irreducible] def FnP (P:Program) (f:FuncId) (l:List Value) (w:World) (R:Value->World->Prop) (pan:List PanicEntry->World->Prop):Prop:=Calls P f l.toArray w fun
 | .returned v,w'=>R v w'
 | .panicked ch,w'=>pan ch w'
 | .outgrown,_=>False
def xQ1 (c:Cx)(rs:List ResultVar)(R:Value->World->Prop)(pan:List PanicEntry->World->Prop):cQB
 | .panic ch,_,w=>pan ch w
 | e,S,w=>Fin c rs R e S w
theorem aQT {c:Cx}(hg:c.g.Ok){f:FuncId}{fn:Func}{x:Code}{args:List Value}{w:World}{R:Value->World->Prop}{pan:List PanicEntry->World->Prop}(hf:c.g.P.funcs[f]? =some fn)(hb:fn.body=some x)(hN:⟨fn.ntmps,[]⟩=c.N)
  (hl:Nat.ble args.length c.N.n=true) (h:rQX [0,1,2,3,4,5,6,7,8,9,10,11,12,13,14,15] args [] (fun S=>fQ4 c x S w (xQ1 c fn.results.toList R pan))):FnP c.g.P f args w R pan:=by
 unfold FnP;obtain⟨S,hS,hx⟩:=eQk _ args [] 0 args (fun j t ht=>by
  match j,ht with
  | 0,ht | 1,ht | 2,ht | 3,ht | 4,ht | 5,ht | 6,ht | 7,ht | 8,ht | 9,ht | 10,ht | 11,ht | 12,ht | 13,ht | 14,ht | 15,ht=>simp at ht;omega
  | j+16,ht=>simp at ht) (by simp) (fun k x hk=>by simp[Env.ent] at hk) h
 refine calls_of_wp hf hb ?_;have hn:fn.ntmps=c.N.n:=congrArg Slots.n hN;have hfit:=bQK (N:=c.N.n) args (Nat.le_of_ble_eq_true hl) S hS;rw[<-hn,hN] at hfit;refine wp_mono (bQN hg x S w _ _ hx hfit) (fun e a w' hq=>?_);obtain⟨S',hf',hq⟩:=hq;have hd':a.defers=[]:=by rw[hf'.defers,<-hN]
 cases e with
 | normal=>obtain⟨v,h1,h2⟩:=bQx hg hf' hq;exact⟨hd',v,h1,h2⟩
 | ret=>obtain⟨v,h1,h2⟩:=bQx hg hf' hq;exact⟨hd',v,h1,h2⟩
 | exit i=>exact hq.elim
 | goto l=>exact hq.elim
 | panic ch=>exact⟨hd',hq⟩
 | outgrown=>exact hq.elim
theorem FnP.mono {P:Program}{f:FuncId}{l:List Value}{w:World}{R R':Value->World->Prop}{p p':List PanicEntry->World->Prop}(h:FnP P f l w R p)(hr:∀v w',R v w'->R' v w')(hp:∀ch w',p ch w'->p' ch w'):FnP P f l w R' p':=by
 unfold FnP at*;exact Calls.mono h fun e w' he=>by cases e<;>first | exact hr _ _ he | exact hp _ _ he | exact he
theorem Fn.toP {P:Program}{f:FuncId}{l:List Value}{w:World}{R:Value->World->Prop}{p:List PanicEntry->World->Prop}(h:Fn P f l w R):FnP P f l w R p:=by
 unfold Fn at h;unfold FnP;exact Calls.mono h fun e w' he=>by cases e<;>first | exact he | exact he.elim
theorem aQX {P:Program}{f:FuncId}{l:List Value}{w:World}{R:Value->World->Prop}{p:List PanicEntry->World->Prop}{K:Value->World->Prop}{pan:List PanicEntry->World->Prop}(h:FnP P f l w R p)(k:∀v w',R v w'->K v w')(kp:∀ch w',p ch w'->pan ch w'):eQh P f l w K pan:=by
 unfold FnP at h;unfold eQh;exact Calls.mono h fun e w' he=>by cases e<;>first | exact k _ _ he | exact kp _ _ he | exact he
theorem Fn.mono {P:Program}{f:FuncId}{l:List Value}{w:World}{R R':Value->World->Prop}(h:Fn P f l w R)(hr:∀v w',R v w'->R' v w'):Fn P f l w R':=by
 unfold Fn at*;exact Calls.mono h fun e w' he=>by cases e<;>first | exact hr _ _ he | exact he
theorem call {P:Program}{f:FuncId}{l:List Value}{w:World}{R:Value->World->Prop}{K:Value->World->Prop}{pan:List PanicEntry->World->Prop}(h:Fn P f l w R)(k:∀v w',R v w'->K v w'):eQh P f l w K pan:=by
 unfold Fn at h;unfold eQh;exact Calls.mono h fun e w' he=>by cases e<;>first | exact k _ _ he | exact he.elim
def tQ7:List Oper->List Nat->List Nat
 | [],acc=>acc
 | o::l,acc=>match o.dst with
  | some d=>tQ7 l (d::acc)
  | none=>tQ7 l acc
def iQk:Code->List Nat->List Nat
 | .region _ ops _,acc=>tQ7 ops.toList acc
 | .seq x y,acc=>iQk y (iQk x acc)
 | .cond _ x y,acc=>iQk y (iQk x acc)
 | .block _ x,acc=>iQk x acc
 | .loop x,acc=>iQk x acc
 | .scope x,acc=>iQk x acc
 | .rangeFunc _ _ x y,acc=>iQk y (iQk x acc)
 | _,acc=>acc
def fQ6 (x:Code)(t:Nat):Bool:=match pQd t (iQk x [])with
 | true=>false
 | false=>true
def nQi:List Nat->List Value->Env->(Env->Prop)->Prop
 | [],[],S,K=>K S
 | t::ts,v::vs,S,K=>nQi ts vs ((t,.v v)::S) K
 | _,_,_,_=>False
def Has (T S:Env):Prop:=T.map (fun p=>S.get p.1)=T.map (fun p=>some p.2.val)
theorem tQ8 {T:Env}{k:Nat}{x:Ent}(h:T.ent k=some x):(k,x)∈T:=by
 induction T with
 | nil=>cases h
 | cons p T ih=>
  obtain⟨t,y⟩:=p;simp only[Env.ent] at h;split at h
  ·rename_i hb;cases h;rw[Nat.eq_of_beq_eq_true hb];simp
  ·simp[ih h]
theorem Has.fits {T S:Env}{N:Slots}{a:Act}(h:Has T S)(hf:Fits N S a):Fits N T a:=by
 refine⟨hf.size,hf.defers,fun k x hk=>?_⟩;have hm:=tQ8 hk;exact hf.get ((List.map_inj_left.1 h) (k,x) hm)
theorem hQn {ts:List Nat}{vs:List Value}{S:Env}{K:Env->Prop}(h:nQi ts vs S K):∃T,T=(ts.zip (vs.map Ent.v)).reverse++S/\K T:=by
 induction ts generalizing vs S with
 | nil=>
  cases vs with
  | nil=>exact⟨S,rfl,h⟩
  | cons v vs=>exact h.elim
 | cons t ts ih=>
  cases vs with
  | nil=>exact h.elim
  | cons v vs=>
   obtain⟨T,rfl,hk⟩:=ih h;exact⟨_,by simp,hk⟩
def gQA (p:Nat->Bool):Env->Env->Env
 | [],acc=>acc
 | (t,x)::S,acc=>match p t with
  | true=>(match fQq t acc with
   | true=>gQA p S acc
   | false=>gQA p S ((t,x)::acc))
  | false=>gQA p S acc
theorem gQY (p:Nat->Bool)(S acc:Env)(K:Env->Prop):dQX p S acc K=K (gQA p S acc):=by
 induction S generalizing acc with
 | nil=>rfl
 | cons q S ih=>
  obtain⟨t,x⟩:=q;simp only[dQX,gQA];split
  ·split<;>exact ih _
  ·exact ih _
section
variable {c:Cx} {S:Env} {w:World} {Q:cQB} {α:Type}
theorem rQY {x:Code}(J:α->Act->World->Prop)(μ:α->World->Nat){a:Act}(s0:α)(h0:J s0 a w)
  (hr:∀s a w,J s a w->x.wp c.g.P (fun e a' w'=>match e with
   | .normal=>∃s2,J s2 a' w'/\μ s2 w'<μ s w
   | e=>Up c Q e a' w') a w):(Code.loop x).wp c.g.P (Up c Q) a w:=by
 intro b k cs;have key:∀n s a w,μ s w=n->J s a w->∃e a' w',Up c Q e a' w'/\Arrives c.g.P (lone (b.at a (.code x:: .inLoop x::k)) cs w) b k cs e a' w':=by
  intro n;induction n using Nat.strongRecOn with
  | _ n ih=>
   intro s a w hn hJ;obtain⟨e,a1,w1,hq,harr⟩:=hr s a w hJ b (.inLoop x::k) cs;cases e with
   | normal=>
    obtain⟨s2,hJ2,hlt⟩:=hq;obtain⟨e2,a2,w2,hq2,harr2⟩:=ih (μ s2 w1) (hn▸hlt) s2 a1 w1 rfl hJ2;exact⟨e2,a2,w2,hq2,.of_steps (Steps.trans harr (.one step_inLoop)) harr2⟩
   | exit id=>exact⟨_,a1,w1,hq,.pass (x:=.inLoop x) rfl (fun _ _=>.inl (by simp)) harr⟩
   | goto l=>exact⟨_,a1,w1,hq,.pass (x:=.inLoop x) rfl (fun _ _=>.inl (by simp)) harr⟩
   | ret=>exact⟨_,a1,w1,hq,.pass (x:=.inLoop x) rfl (fun _ _=>.inl (by simp)) harr⟩
   | panic ch=>exact⟨_,a1,w1,hq,.pass (x:=.inLoop x) rfl (fun _ _=>.inl (by simp)) harr⟩
   | outgrown=>exact⟨_,a1,w1,hq,.pass (x:=.inLoop x) rfl (fun _ _=>.inl (by simp)) harr⟩
 obtain⟨e,a',w',hq,harr⟩:=key _ s0 a w rfl h0;exact⟨e,a',w',hq,.of_steps (.one step_loop) harr⟩
def xQk (sl:List Nat)(val:α->List Value)(S0:Env)(I:α->World->Prop)(μ:α->World->Nat)(m:Nat)(S2:Env)(w2:World):Prop:=
 ∃s2,nQi sl (val s2) S0 (fun T=>Has T S2)/\I s2 w2/\μ s2 w2<m
theorem loop (hg:c.g.Ok){x:Code}(sl:List Nat)(val:α->List Value)(I:α->World->Prop)(μ:α->World->Nat)(s0:α)
  (h0:dQX (fQ6 x) S [] (fun S0=>nQi sl (val s0) S0 (fun T=>Has T S))) (hI:I s0 w)
  (hr:dQX (fQ6 x) S [] (fun S0=>∀s w',I s w'->nQi sl (val s) S0 (fun S1=>fQ4 c x S1 w' (fun e S2 w2=>match e with
   | .normal=>xQk sl val S0 I μ (μ s w') S2 w2
   | e=>Q e S2 w2)))):nQc c x S w Q:=by
 rw[gQY] at h0 hr;unfold nQc;intro a hf;generalize gQA (fQ6 x) S []=S0 at*;have hsplit:∀s (K:Env->Prop),nQi sl (val s) S0 K->K ((sl.zip ((val s).map Ent.v)).reverse++S0):=fun s K h=>by
  obtain⟨T,rfl,hk⟩:=hQn h;exact hk
 refine rQY (c:=c) (x:=x) (Q:=Q) (J:=fun s a' w'=>Fits c.N ((sl.zip ((val s).map Ent.v)).reverse++S0) a'/\I s w') (μ:=μ) s0 ⟨(hsplit s0 _ h0).fits hf,hI⟩ ?_;intro s a' w' ⟨hf',hI'⟩;have h1:=bQN hg x _ w' _ a' (hsplit s _ (hr s w' hI')) hf';refine wp_mono h1 (fun e a2 w2 hq=>?_);obtain⟨S2,hf2,hq⟩:=hq;cases e with
 | normal=>
  obtain⟨s2,hz,hI2,hm⟩:=hq;exact⟨s2,⟨(hsplit s2 _ hz).fits hf2,hI2⟩,hm⟩
 | exit i=>exact⟨S2,hf2,hq⟩
 | goto l=>exact⟨S2,hf2,hq⟩
 | ret=>exact⟨S2,hf2,hq⟩
 | panic ch=>exact⟨S2,hf2,hq⟩
 | outgrown=>exact⟨S2,hf2,hq⟩
theorem iQl (cs:List Nat)(hg:c.g.Ok){x y:Code}(sl:List Nat)(val:α->List Value)(R:α->World->Prop)
  (hx:dQX (fQ6 x) S [] (fun S0=>fQ4 {c with cuts:=cs} x S w (fun e S2 w2=>match e with
   | .normal=>∃s,nQi sl (val s) S0 (fun T=>Has T S2)/\R s w2
   | e=>Q e S2 w2)))
  (hy:dQX (fQ6 x) S [] (fun S0=>∀s w',R s w'->nQi sl (val s) S0 (fun S1=>fQ4 c y S1 w' Q))):fQp c (.seq x y) S w Q:=by
 rw[gQY] at hx hy;unfold fQp;intro a hf;generalize gQA (fQ6 x) S []=S0 at*;have hsplit:∀s (K:Env->Prop),nQi sl (val s) S0 K->K ((sl.zip ((val s).map Ent.v)).reverse++S0):=fun s K h=>by
  obtain⟨T,rfl,hk⟩:=hQn h;exact hk
 refine wp_seq (wp_mono (bQN (c:={c with cuts:=cs}) hg x S w _ a hx hf) (fun e a2 w2 hq=>?_));obtain⟨S2,hf2,hq⟩:=hq;cases e with
 | normal=>
  obtain⟨s,hz,hR⟩:=hq;exact bQN hg y _ w2 Q a2 (hsplit s _ (hy s w2 hR)) ((hsplit s _ hz).fits hf2)
 | exit i=>exact⟨S2,hf2,hq⟩
 | goto l=>exact⟨S2,hf2,hq⟩
 | ret=>exact⟨S2,hf2,hq⟩
 | panic ch=>exact⟨S2,hf2,hq⟩
 | outgrown=>exact⟨S2,hf2,hq⟩
theorem cut (hg:c.g.Ok){x y:Code}(sl:List Nat)(val:α->List Value)(R:α->World->Prop)
  (hx:dQX (fQ6 x) S [] (fun S0=>fQ4 {c with cuts:=[]} x S w (fun e S2 w2=>match e with
   | .normal=>∃s,nQi sl (val s) S0 (fun T=>Has T S2)/\R s w2
   | e=>Q e S2 w2)))
  (hy:dQX (fQ6 x) S [] (fun S0=>∀s w',R s w'->nQi sl (val s) S0 (fun S1=>fQ4 c y S1 w' Q))):fQp c (.seq x y) S w Q:=
 iQl [] hg sl val R hx hy
end
@[irreducible] def oQr (C:World->Prop) (p:Addr) (K:Value->Prop):Prop:=∃v,(∀w,C w->w.cell? p=some v)/\K v
@[irreducible] def iQv (C:World->Prop) (p:Addr) (n:Nat) (K:List Value->Prop):Prop:=∃vs:List Value,vs.length=n/\(∀w,C w->∀j v,vs[j]? =some v->w.cell? (p.add j)=some v)/\K vs
@[irreducible] def vQU (P:Program) (f:FuncId) (l:List Value) (C:World->Prop) (K:Value->Prop):Prop:=∃v,(∀w,C w->Fn P f l w (fun u w'=>u=v/\C w'))/\K v
@[irreducible] def QOp (c:Cx) (o:Oper) (S:Env) (C:World->Prop) (K:Env->Prop):Prop:=∃v,(∀a w,Fits c.N S a->C w->o.quietAt c.g.P a C w v)/\bQq c S o.dst (.v v) K
def xQl (
     c:Cx) (o:Oper) (S:Env) (C:World->Prop) (K:Env->Prop):Prop:=
 match o.op with
 | .load t x=>(match aQA c.g.tys t,S.ev x with
  | some r,some (.pointer (some p))=>(match hQi r.d with
   | false=>oQr C p (fun v=>bQq c S o.dst (.v v) K)
   | true=>iQv C p r.sz (fun vs=>bQq c S o.dst (.v (.agg vs.toArray)) K))
  | _,_=>QOp c o S C K)
 | .indexAddr t x i=>(match aQA c.g.tys t,S.ev x,S.ev i with
  | some ⟨_,.slice e,_,_,_⟩,some (.slice b n _),some (.int _ i)=>(match aQA c.g.tys e with
   | some r=>dQz b n i r.sz (fun p=>bQq c S o.dst (.v (.pointer (some p))) K)
   | none=>QOp c o S C K)
  | _,_,_=>QOp c o S C K)
 | .index t x i=>(match aQA c.g.tys t,S.ev x,S.ev i with
  | some ⟨_,.string,_,_,_⟩,some (.string s),some (.int _ i)=>dQA s i (fun b=>bQq c S o.dst (.v (.int .u8 b)) K)
  | _,_,_=>QOp c o S C K)
 | .call ⟨.value f,xs,_⟩=>(match S.ev f with
  | some (.func (.func n) first cap)=>(match pQd n c.g.fns with
   | true=>pQe first.toList [] (fun acc=>lQ7 S xs.toList acc (fun acc=>pQe cap.toList acc (fun acc=>pQe acc [] (fun l=>
     vQU c.g.P n l C (fun v=>bQq c S o.dst (.v v) K)))))
   | false=>QOp c o S C K)
  | _=>QOp c o S C K)
 | _=>QOp c o S C K
def gQB (c:Cx)(o:Oper)(S:Env)(C:World->Prop)(K:Env->Prop):Prop:=
 match iQt c.g S o.op with
 | .val v=>bQq c S o.dst (.v v) K
 | .ent e=>bQq c S o.dst e K
 | .norm k n=>lQX n (fun m=>bQq c S o.dst (.v (.int k m)) K)
 | .normIf p k n=>eQc p n (fun m=>bQq c S o.dst (.v (.int k m)) K)
 | .need p v=>rQN p v (fun v=>bQq c S o.dst (.v v) K)
 | .no=>xQl c o S C K
def cQx (
      c:Cx) (all:List Oper):List Oper->Env->(World->Prop)->(Env->Prop)->Prop
 | [],S,_,K=>dQX (rQW c) S [] K
 | o::rest,S,C,K=>match o.guard with
  | none=>gQB c o S C (fun S=>cQx c all rest S C K)
  | some (
      j,want)=>match gQO all j with
   | some oj=>(match oj.dst with
    | some d=>(match S.ent d with
     | some .t=>(match want with
      | true=>gQB c o S C (fun S=>cQx c all rest S C K)
      | false=>bQq c S o.dst (.v undef) (fun S=>cQx c all rest S C K))
     | some .f=>(match want with
      | false=>gQB c o S C (fun S=>cQx c all rest S C K)
      | true=>bQq c S o.dst (.v undef) (fun S=>cQx c all rest S C K))
     | some (.v (.bool b))=>(match want with
      | true=>WIf b (gQB c o ((d,.t)::S) C (fun S=>cQx c all rest S C K)) (bQq c ((d,.f)::S) o.dst (.v undef) (fun S=>cQx c all rest S C K))
      | false=>WIf b (bQq c ((d,.t)::S) o.dst (.v undef) (fun S=>cQx c all rest S C K)) (gQB c o ((d,.f)::S) C (fun S=>cQx c all rest S C K)))
     | some (.v (.tuple _))=>bQq c S o.dst (.v undef) (fun S=>cQx c all rest S C K)
     | _=>False)
    | none=>False)
   | none=>False
section
variable {c:Cx} {a:Act} {S:Env} {C:World->Prop} {K:Env->Prop}
abbrev vQI (c:Cx)(K:Env->Prop):Act->Prop:=fun a'=>∃S',Fits c.N S' a'/\K S'
theorem cQg {o:Oper}{v:Value}{N:Act->Prop}(hr:∀w,(execOp a.eval o).run c.g.P w= .ok (.value v) w)(h:N (a.put o.dst v)):o.quiet c.g.P a C N:=
 ⟨v,fun w _=>by unfold Oper.quietAt;rw[hr w];exact⟨rfl,rfl⟩,h⟩
theorem gQC {o:Oper}{v:Value}{N:Act->Prop}(hr:∀w,C w->(execOp a.eval o).run c.g.P w= .ok (.value v) w)(h:N (a.put o.dst v)):o.quiet c.g.P a C N:=
 ⟨v,fun w hw=>by unfold Oper.quietAt;rw[hr w hw];exact⟨rfl,rfl⟩,h⟩
theorem oQs (hg:c.g.Ok){o:Oper}(h:xQl c o S C K)(hf:Fits c.N S a):o.quiet c.g.P a C (vQI c K):=by
 have hAt:QOp c o S C K->o.quiet c.g.P a C (vQI c K):=fun h=>by
  unfold QOp at h;obtain⟨v,h1,h2⟩:=h;exact⟨v,fun w hw=>h1 a w hf hw,aQo (e:=.v v) h2 hf⟩
 obtain⟨dst,op,ty,pos,aft,gd⟩:=o;unfold xQl at h;split at h
 ·rename_i t x hop;simp only at hop;subst hop;split at h
  ·rename_i r p hr hx;have e1:=hf.ev hx;split at h
   ·rename_i hd;unfold oQr at h;obtain⟨v,hv,hk⟩:=h;refine gQC (v:=v) (fun w hw=>?_) (aQo (e:=.v v) hk hf);simp[execOp,e1,Instr.loadAt,Instr.sureAddr,loadVar,cQF hg hr,hd,load,Sem.run,hv w hw]
   ·rename_i hd;unfold iQv at h;obtain⟨vs,hl,hv,hk⟩:=h;refine gQC (v:=.agg vs.toArray) (fun w hw=>?_) (aQo (e:=.v (.agg vs.toArray)) hk hf);have h2:=run_loadCells_list (P:=c.g.P) (w:=w) p vs (hv w hw);rw[hl] at h2;simp[execOp,e1,Instr.loadAt,Instr.sureAddr,loadVar,cQF hg hr,hd,run_sizeOf hg hr,h2]
  ·exact hAt h
 ·rename_i t x ix hop;simp only at hop;subst hop;split at h
  ·rename_i e b n k i hr hx hi;split at h
   ·rename_i r hre;unfold dQz at h;obtain⟨p,rfl,h0,h1,hk⟩:=h;have e1:=hf.ev hx;have e2:=hf.ev hi;refine cQg (v:=.pointer (some (p.add (i.toNat*r.sz)))) (fun w=>?_) (aQo (e:=.v _) hk hf);simp[execOp,e1,e2,Instr.indexAt,asIntOf,bQw hg hr,run_sizeOf hg hre,h0,h1]
   ·exact hAt h
  ·exact hAt h
 ·rename_i t x ix hop;simp only at hop;subst hop;split at h
  ·rename_i s k i hr hx hi;unfold dQA at h;obtain⟨b,h0,h1,hk⟩:=h;have e1:=hf.ev hx;have e2:=hf.ev hi;refine cQg (v:=.int .u8 b.toNat) (fun w=>?_) (aQo (e:=.v _) hk hf);simp[execOp,e1,e2,Instr.index,asIntOf,bQw hg hr,h0,h1]
  ·exact hAt h
 ·rename_i f xs ts hop;simp only at hop;subst hop;split at h
  ·rename_i n first cap hv;split at h
   ·rename_i hm;have hc:=hg.fns n (fQn hm);rw[eQj] at h;have h2:=fQ5 h hf;rw[eQj,eQj] at h2;simp only[List.append_nil,List.reverse_append,List.reverse_reverse,List.append_assoc] at h2;unfold vQU at h2;obtain⟨v,h3,hk⟩:=h2;have e1:=hf.ev hv;refine⟨v,fun w hw=>?_,aQo (e:=.v v) hk hf⟩;unfold Oper.quietAt;have:(execOp a.eval {dst:=dst,op:=.call ⟨.value f,xs,ts⟩,type:=ty,pos:=pos,after:=aft,guard:=gd}).run c.g.P w=
      .ok (.enter n (first.toList++(List.map a.eval xs.toList++cap.toList)).toArray) w:=by
     simp[execOp,resolve,e1,Deferred.ofValue,invoke,dQf hc]
    rw[this];refine⟨rfl,?_⟩;have h4:=h3 w hw;unfold Fn at h4;refine h4.mono fun e w' he=>?_
    cases e with
    | returned u=>exact⟨by rw[he.1],he.2⟩
    | panicked ch=>exact he.elim
    | outgrown=>exact he.elim
   ·exact hAt h
  ·exact hAt h
 ·exact hAt h
theorem kQH (hg:c.g.Ok){o:Oper}(h:gQB c o S C K)(hf:Fits c.N S a):o.quiet c.g.P a C (vQI c K):=by
 unfold gQB at h;split at h
 ·rename_i v hp;exact cQg (fun w=>bQb (w:=w) hg hf hp) (aQo (e:=.v v) h hf)
 ·rename_i e hp;exact cQg (fun w=>bQb (w:=w) hg hf hp) (aQo (e:=e) h hf)
 ·rename_i k n hp;unfold lQX at h;exact cQg (fun w=>bQb (w:=w) hg hf hp) (aQo (e:=.v (.int k n)) h hf)
 ·rename_i p k n hp;unfold eQc at h;exact cQg (fun w=>bQb (w:=w) hg hf hp h.1) (aQo (e:=.v (.int k n)) h.2 hf)
 ·rename_i p v hp;unfold rQN at h;exact cQg (fun w=>bQb (w:=w) hg hf hp h.1) (aQo (e:=.v v) h.2 hf)
 ·exact oQs hg h hf
theorem dQg (hg:c.g.Ok)(all:List Oper):∀(l:List Oper)(S:Env)(a:Act),cQx c all l S C K->Fits c.N S a->wpQuiet c.g.P all.toArray C (vQI c K) l a
 | [],S,a,h,hf=>by
  simp only[cQx] at h;exact cQX (p:=rQW c) hf.size hf.defers S [] (fun k x hk=>by simp[Env.ent] at hk) (fun k x _ hk=>hf.has k x hk) h
 | o::rest,S,a,h,hf=>by
  have go:∀(S:Env),gQB c o S C (fun S=>cQx c all rest S C K)->Fits c.N S a->o.quiet c.g.P a C (wpQuiet c.g.P all.toArray C (vQI c K) rest):=fun S h hf=>
   Oper.quiet_mono (fun a' ⟨S',hf',hk⟩=>dQg hg all rest S' a' hk hf') (kQH hg h hf)
  have no:∀(S:Env),bQq c S o.dst (.v undef) (fun S=>cQx c all rest S C K)->Fits c.N S a->wpQuiet c.g.P all.toArray C (vQI c K) rest (a.put o.dst undef):=fun S h hf=>by
   obtain⟨S',hf',hk⟩:=aQo h hf;exact dQg hg all rest S' _ hk hf'
  have fit:∀(d:Nat) (b:Bool) (e:Ent),S.ent d=some (.v (.bool b))->e.val= .bool b->Fits c.N ((d,e)::S) a:=fun d b e hd he=>by
   refine⟨hf.size,hf.defers,fun k x hk=>?_⟩;simp only[Env.ent] at hk;split at hk
   ·rename_i hb;have:=Nat.eq_of_beq_eq_true hb;subst this;cases hk;rw[he];exact hf.has _ _ hd
   ·exact hf.has _ _ hk
  simp only[cQx] at h;unfold wpQuiet;split at h
  ·rename_i hgd;rw[if_pos (by simp[Region.wanted,hgd])];exact go S h hf
  ·rename_i j want hgd;split at h
   ·rename_i oj hj;split at h
    ·rename_i d hd;split at h
     ·rename_i hd';have hw:=bQ0 hgd hj hd (hf.has _ _ hd');split at h
      ·rw[if_pos (by rw[hw];rfl)];exact go S h hf
      ·rw[if_neg (by rw[hw];decide)];exact no S h hf
     ·rename_i hd';have hw:=bQ0 hgd hj hd (hf.has _ _ hd');split at h
      ·rw[if_pos (by rw[hw];rfl)];exact go S h hf
      ·rw[if_neg (by rw[hw];decide)];exact no S h hf
     ·rename_i b hd';have hw:=bQ0 hgd hj hd (hf.has _ _ hd');split at h
      ·unfold WIf at h;cases b with
       | true=>rw[if_pos (by rw[hw];rfl)];exact go _ (h.1 rfl) (fit d true .t hd' rfl)
       | false=>rw[if_neg (by rw[hw];decide)];exact no _ (h.2 rfl) (fit d false .f hd' rfl)
      ·unfold WIf at h;cases b with
       | true=>rw[if_neg (by rw[hw];decide)];exact no _ (h.1 rfl) (fit d true .t hd' rfl)
       | false=>rw[if_pos (by rw[hw];rfl)];exact go _ (h.2 rfl) (fit d false .f hd' rfl)
     ·rename_i hd';rw[if_neg (by rw[jQe hgd hj hd (hf.has _ _ hd')];decide)];exact no S h hf
     ·exact h.elim
    ·exact h.elim
   ·exact h.elim
end
theorem dQY {P:Program}{ops:Array Oper}{C:World->Prop}{Q Q':Act->Prop}(h:∀a,Q a->Q' a):∀{l:List Oper}{a:Act},wpQuiet P ops C Q l a->wpQuiet P ops C Q' l a
 | [],a,hh=>h a hh
 | o::l,a,hh=>by
  unfold wpQuiet at*;split
  ·rename_i hw;rw[if_pos hw] at hh;exact Oper.quiet_mono (fun a' h'=>dQY h h') hh
  ·rename_i hw;rw[if_neg hw] at hh;exact dQY h hh
theorem tQ9 {c:Cx}(hg:c.g.Ok){id:Nat}{ops:List Oper}{S:Env}{w:World}{Q:cQB}(C:World->Prop)(hC:C w.drew)(hB:Region.lexB .any ops.toArray=true)
  (h:cQx c ops ops S C (fun S=>∀w',C w'->Q .normal S w')):cQw c id ops S w Q:=by
 unfold cQw;intro a hf;refine wp_region_quiet (C:=C) hg.mixed hB hC ?_;have:=dQg hg ops ops S a h hf;refine dQY ?_ this;intro a' ⟨S',hf',hk⟩ w' hw';exact⟨S',hf',hk w' hw'⟩
theorem bQL {P:Program}{ops:Array Oper}{w:World}{Q:Act->Prop}:∀{l:List Oper}{a:Act},wpQuiet P ops (fun w'=>w'=w) Q l a->wpStill P ops w Q l a
 | [],a,h=>h
 | o::l,a,h=>by
  unfold wpQuiet at h;unfold wpStill;split
  ·rename_i hw;rw[if_pos hw] at h;obtain⟨v,h1,h2⟩:=h;have h3:=h1 w rfl;unfold Oper.quietAt at h3;unfold Oper.still;generalize (execOp a.eval o).run P w=r at*;cases r with
   | ok n w'=>
    cases n<;>simp only[Oper.quietUpon] at h3<;>simp only[Oper.stillUpon]
    case value u=>obtain⟨rfl,rfl⟩:=h3;exact⟨rfl,bQL h2⟩
    case skip=>obtain⟨rfl,rfl⟩:=h3;exact⟨rfl,bQL h2⟩
    case enter f args=>exact⟨h3.1,v,h3.2,bQL h2⟩
   | halt x w'=>simp only[Oper.quietUpon] at h3
  ·rename_i hw;rw[if_neg hw] at h;exact bQL h
theorem cQn {P:Program}{ops:Array Oper}{w:World}{Q Q':Act->Prop}(h:∀a,Q a->Q' a):∀{l:List Oper}{a:Act},wpStill P ops w Q l a->wpStill P ops w Q' l a
 | [],a,hh=>h a hh
 | o::l,a,hh=>by
  unfold wpStill at*;split
  ·rename_i hw;rw[if_pos hw] at hh;unfold Oper.still at*;generalize (execOp a.eval o).run P w=r at*;cases r with
   | ok n w'=>
    cases n<;>simp only[Oper.stillUpon] at hh ⊢
    case value u=>exact⟨hh.1,cQn h hh.2⟩
    case skip=>exact⟨hh.1,cQn h hh.2⟩
    case enter f args=>obtain⟨h1,v,h2,h3⟩:=hh;exact⟨h1,v,h2,cQn h h3⟩
   | halt x w'=>simp only[Oper.stillUpon] at hh
  ·rename_i hw;rw[if_neg hw] at hh;exact cQn h hh
theorem bQF {P:Program}{ops:Array Oper}{Q Q':Exit->Act->World->Prop}(h:∀e a w,Q e a w->Q' e a w):∀{l:List Oper}{a:Act}{w:World},wpList P ops Q l a w->wpList P ops Q' l a w
 | [],a,w,hh=>h _ a w hh
 | o::l,a,w,hh=>by
  unfold wpList at*;split
  ·rename_i hw;rw[if_pos hw] at hh;rcases hh with hh | ⟨h1,a0,w0,h2⟩
   ·refine .inl ?_;have h2:=Oper.wp_mono (K':=wpList P ops Q' l) (fun a w=>bQF h) hh;unfold Oper.wp at h2 ⊢;generalize (execOp a.eval o).run P w=r at*;cases r with
    | ok n w'=>
     cases n<;>simp only[Oper.upon] at h2 ⊢ <;> try exact h2
     exact h2.mono fun e w'' he=>by
      cases e with
      | returned v=>exact he
      | panicked ch=>exact h _ _ _ he
      | outgrown=>obtain⟨a0,w0,h0⟩:=he;exact⟨a0,w0,h _ _ _ h0⟩
    | halt x w'=>cases x<;>simp only[Oper.upon] at h2 ⊢ <;> first | exact h2 | exact h _ _ _ h2
   ·exact .inr ⟨h1,a0,w0,h _ _ _ h2⟩
  ·rename_i hw;rw[if_neg hw] at hh;exact bQF h hh
theorem cQY {c:Cx}(hg:c.g.Ok){id:Nat}{ops:List Oper}{S:Env}{w:World}{Q:cQB}(n:Nat)(hB:Region.lexTailB .any ops.toArray n=true)
  (h:cQx {c with named:=1000000} ops (ops.take n) S (fun w'=>w'=w.drew) (fun S=>dQa c ops (ops.drop n) S w.drew (fun S w=>Q .normal S w) Q)):cQw c id ops S w Q:=by
 unfold cQw;intro a hf;refine wp_region_still_tail n hg.mixed hB ?_;have h1:=dQg (c:={c with named:=1000000}) hg ops (ops.take n) S a h hf;refine cQn ?_ (bQL h1);intro a' ⟨S',hf',hk⟩;have h2:=bQI (c:=c) hg ops _ _ _ _ hk hf';refine bQF (fun e a w hq=>?_) h2;cases e<;>exact hq
end
section
open Go Go.RowKit
def Ext (w w':World):Prop:=w.grownBy w' none
theorem Ext.refl (w:World):Ext w w:=⟨rfl,rfl,rfl,Nat.le_refl _,fun _ _ _=>rfl⟩
theorem Ext.trans {a b c:World}(h:Ext a b)(k:Ext b c):Ext a c:=
 ⟨k.os.trans h.os,k.tape.trans h.tape,k.output.trans h.output,Nat.le_trans h.size k.size,fun i hi hn=>(k.block i (Nat.lt_of_lt_of_le hi h.size) hn).trans (h.block i hi hn)⟩
theorem Ext.drew (w:World):Ext w w.drew:=⟨rfl,rfl,rfl,Nat.le_refl _,fun _ _ _=>rfl⟩
theorem Ext.alloc (w:World)(o:Obj):Ext w (w.alloc o):=World.grownBy_alloc w o none
theorem Ext.own {w0 w w1:World}{g:Nat}(h:Ext w0 w)(k:w.grownBy w1 (some g))(hg:w0.heap.size<=g):Ext w0 w1:=
 ⟨k.os.trans h.os,k.tape.trans h.tape,k.output.trans h.output,Nat.le_trans h.size k.size,fun i hi hn=>(k.block i (Nat.lt_of_lt_of_le hi h.size) (fun e=>by cases e;omega)).trans (h.block i hi hn)⟩
theorem Ext.cell {w w':World}(h:Ext w w'){a:Addr}{v:Value}(hc:w.cell? a=some v):w'.cell? a=some v:=World.grownBy.cell h hc (by simp)
theorem Ext.below {w w':World}(h:Ext w w'):Below w.heap.size w w':=⟨h.os,h.tape,h.output,h.size,fun k hk=>h.block k hk (by simp)⟩
theorem Ext.grown {w w':World}(h:Ext w w')(row:Option Nat):w.grownBy w' row:=⟨h.os,h.tape,h.output,h.size,fun k hk _=>h.block k hk (by simp)⟩
theorem mQa {a b c:World}{row:Option Nat}(h:a.grownBy b row)(k:b.grownBy c row):a.grownBy c row:=
 ⟨k.os.trans h.os,k.tape.trans h.tape,k.output.trans h.output,Nat.le_trans h.size k.size,fun i hi hn=>(k.block i (Nat.lt_of_lt_of_le hi h.size) hn).trans (h.block i hi hn)⟩
def Blk (w:World)(g:Nat)(t:TypeId)(cs:List Value):Prop:=w.heap[g]? =some (.cells cs.toArray t (0,0))
theorem Blk.lt {w:World}{g t:Nat}{cs:List Value}(h:Blk w g t cs):g<w.heap.size:=(Array.getElem?_eq_some_iff.1 h).1
theorem Blk.ext {w w':World}{g t:Nat}{cs:List Value}(h:Blk w g t cs)(k:Ext w w'):Blk w' g t cs:=(k.block g h.lt (by simp)).trans h
theorem eQ8 (g j:Nat):(⟨g,0,none⟩:Addr).add j=⟨g,j,none⟩:=by unfold Addr.add;split<;>simp_all
theorem Blk.cell {w:World}{g t:Nat}{cs:List Value}(h:Blk w g t cs)(j:Nat):w.cell? ((⟨g,0,none⟩:Addr).add j)=cs[j]? :=by
 rw[eQ8,cell_of_row w g j _ t _ h];simp
theorem Blk.frozen {w:World}{g t:Nat}{cs:List Value}(h:Blk w g t cs)(j:Nat):w.frozen? ((⟨g,0,none⟩:Addr).add j)=false:=by
 rw[eQ8];exact frozen_of_row w g j _ t h
theorem Blk.new (w:World)(t:TypeId)(cs:List Value):Blk (w.alloc (.cells cs.toArray t)) w.heap.size t cs:=heap_alloc_new w _
theorem jQf (w:World)(a:Addr)(v:Value):w.grownBy (w.setCell a v) (some a.block):=
 ⟨rfl,rfl,rfl,by simp,fun k _ hn=>Below.heap_setCell w a v k (fun e=>hn (by rw[e]))⟩
theorem Blk.set {w:World}{g t:Nat}{cs:List Value}(h:Blk w g t cs)(j:Nat)(v:Value):Blk (w.setCell ((⟨g,0,none⟩:Addr).add j) v) g t (cs.set j v):=by
 rw[eQ8];have:=heap_setCell_same w g j cs.toArray t v h;unfold Blk;rw[this];simp
structure Sl (w:World) (sz:Nat) (A:Option Addr) (n c:Nat) (cs:List Value):Prop where
 len:cs.length=n*sz
 le:n<=c
 cap:c<=maxLen
 at_:0<n->∃ad,A=some ad/\∀j u,cs[j]? =some u->w.cell? (ad.add j)=some u
theorem Sl.ext {w w':World}{sz n c:Nat}{A:Option Addr}{cs:List Value}(h:Sl w sz A n c cs)(k:Ext w w'):Sl w' sz A n c cs:=
 ⟨h.len,h.le,h.cap,fun hn=>let ⟨ad,e,hc⟩:=h.at_ hn;⟨ad,e,fun j u hu=>k.cell (hc j u hu)⟩⟩
theorem Sl.nil (w:World)(sz:Nat):Sl w sz none 0 0 []:=⟨by simp,Nat.le_refl _,by simp[maxLen],fun h=>absurd h (by omega)⟩
theorem Sl.take {w:World}{sz n c:Nat}{A:Option Addr}{cs:List Value}(h:Sl w sz A n c cs){m:Nat}(hm:m<=n):Sl w sz A m c (cs.take (m*sz)):=
 ⟨by rw[List.length_take,h.len];exact Nat.min_eq_left (Nat.mul_le_mul_right _ hm),Nat.le_trans hm h.le,h.cap,fun hn=>let ⟨ad,e,hc⟩:=h.at_ (by omega);⟨ad,e,fun j u hu=>hc j u (by
  rw[List.getElem?_take] at hu;split at hu<;>simp_all)⟩⟩
theorem Sl.own {w:World}{g t sz n c:Nat}{cs:List Value}(h:Blk w g t cs)(hn:n<=c)(hc:c<=maxLen)(hl:n*sz<=cs.length):Sl w sz (some ⟨g,0,none⟩) n c (cs.take (n*sz)):=
 ⟨by rw[List.length_take];exact Nat.min_eq_left hl,hn,hc,fun _=>⟨_,rfl,fun j u hu=>by
  rw[h.cell];rw[List.getElem?_take] at hu;split at hu<;>simp_all⟩⟩
theorem Sl.own' {w:World}{g t n:Nat}{cs:List Value}(h:Blk w g t cs)(hl:cs.length=n)(hn:n<=maxLen):Sl w 1 (some ⟨g,0,none⟩) n n cs:=by
 have:=Sl.own (sz:=1) h (Nat.le_refl n) hn (by omega)
 rwa [List.take_of_length_le (by omega)] at this
def Fresh (w w':World)(A:Option Addr):Prop:=∀ad,A=some ad->w.heap.size<=ad.block/\ad.block<w'.heap.size
theorem Fresh.ext {w w' w2:World}{A:Option Addr}(h:Fresh w w' A)(k:Ext w' w2):Fresh w w2 A:=fun ad e=>⟨(h ad e).1,Nat.lt_of_lt_of_le (h ad e).2 k.size⟩
theorem wif {b:Bool}{p q:Prop}(hp:b=true->p)(hq:b=false->q):WIf b p q:=by unfold WIf;exact⟨hp,hq⟩
theorem aQq {c p q:Prop} [Decidable c](hp:c->p)(hq:¬c->q):WIf (decide c) p q:=wif (fun h=>hp (of_decide_eq_true h)) (fun h=>hq (of_decide_eq_false h))
theorem aQM {b:Bool}{p q:Prop}(hb:b=true)(hp:p):WIf b p q:=wif (fun _=>hp) (fun h=>by rw[hb] at h;cases h)
theorem aQN {b:Bool}{p q:Prop}(hb:b=false)(hq:q):WIf b p q:=wif (fun h=>by rw[hb] at h;cases h) (fun _=>hq)
theorem aQO {c p q:Prop} [Decidable c](hc:c)(hp:p):WIf (decide c) p q:=aQM (decide_eq_true hc) hp
theorem aQB {c p q:Prop} [Decidable c](hc:¬c)(hq:q):WIf (decide c) p q:=aQN (decide_eq_false hc) hq
theorem aQP {x y:Int}{p q:Prop}(hp:x=y->p)(hq:x≠y->q):WIf (x==y) p q:=wif (fun h=>hp (by simpa using h)) (fun h=>hq (by simpa using h))
theorem aQZ {x y:Int}{p q:Prop}(h:x=y)(hp:p):WIf (x==y) p q:=aQM (by simpa using h) hp
theorem aQu {x y:Int}{p q:Prop}(h:x≠y)(hq:q):WIf (x==y) p q:=aQN (by simpa using h) hq
theorem cQj {x y:Int}{p q:Prop}(hp:x≠y->p)(hq:x=y->q):WIf (x !=y) p q:=wif (fun h=>hp (by simpa using h)) (fun h=>hq (by simpa using h))
theorem fQ7 {x y:Int}{p q:Prop}(h:x≠y)(hp:p):WIf (x !=y) p q:=aQM (by simpa using h) hp
theorem bQB {x y:Int}{p q:Prop}(h:x=y)(hq:q):WIf (x !=y) p q:=aQN (by simpa using h) hq
theorem eQl {b:Bool}{p q:Prop}(h:WIf b q p):WIf (!b) p q:=by unfold WIf at*;cases b<;>simp_all
theorem norm {n m:Int}{K:Int->Prop}(h:n=m)(k:K m):lQX n K:=by unfold lQX;rw[h];exact k
theorem rQZ {n:Int}{K:Int->Prop}(h: -9223372036854775808<=n/\n<=9223372036854775807)(k:K n):lQX (IntKind.i64.wrap n) K:=norm (IntWalk.i64_in n h) k
theorem gQZ {n:Int}{K:Int->Prop}(h:0<=n/\n<=18446744073709551615)(k:K n):lQX (IntKind.u64.wrap n) K:=norm (IntWalk.u64_in n h) k
theorem uQa {n:Int}{K:Int->Prop}(h:0<=n/\n<=255)(k:K n):lQX (IntKind.u8.wrap n) K:=norm (IntWalk.u8_in n h) k
theorem aQa {n:Int}{K:Int->Prop}(m:Int)(hm:n=m)(h: -9223372036854775808<=m/\m<=9223372036854775807)(k:K m):lQX (IntKind.i64.wrap n) K:=by subst hm;exact rQZ h k
theorem cQh {n:Int}{K:Int->Prop}(m:Int)(hm:n=m)(h:0<=m/\m<=18446744073709551615)(k:K m):lQX (IntKind.u64.wrap n) K:=by subst hm;exact gQZ h k
theorem iQw {n:Int}{K:Int->Prop}(m:Int)(hm:n=m)(h:0<=m/\m<=255)(k:K m):lQX (IntKind.u8.wrap n) K:=by subst hm;exact uQa h k
theorem normIf {p:Prop}{n m:Int}{K:Int->Prop}(hp:p)(h:n=m)(k:K m):eQc p n K:=by unfold eQc;rw[h];exact⟨hp,k⟩
theorem need {p:Prop}{v:Value}{K:Value->Prop}(hp:p)(k:K v):rQN p v K:=by unfold rQN;exact⟨hp,k⟩
theorem kQI {a b s:Nat}{K:Int->Prop}(hs:a ||| b=s)(ha:a<18446744073709551616)(hb:b<18446744073709551616)(k:K (s:Int)):lQX (IntKind.u64.wrap ((BitVec.ofInt IntKind.u64.bits (a:Int) ||| BitVec.ofInt IntKind.u64.bits (b:Int)).toNat:Int)) K:=by
 have hlt:a ||| b<2^64:=Nat.or_lt_two_pow (by omega) (by omega)
 refine norm ?_ k;rw[BitVec.toNat_or,BitVec.ofInt_natCast,BitVec.ofInt_natCast,BitVec.toNat_ofNat,BitVec.toNat_ofNat];simp only[IntKind.bits];rw[Nat.mod_eq_of_lt (by omega),Nat.mod_eq_of_lt (by omega),hs];rw[hs] at hlt;exact IntWalk.u64_in _ (by omega)
theorem rQ0 (x:Nat)(n:Nat):(x:Int).fdiv (2^n)=((x/2^n:Nat):Int):=by
 rw[Int.fdiv_eq_ediv_of_nonneg _ (Int.le_of_lt (Int.pow_pos (by decide)))]
 norm_cast
theorem kQJ (n:Nat):IntKind.u32.wrap (n:Int)=((n % 4294967296:Nat):Int):=by rw[IntKind.wrap_u32];omega
theorem rQ1 (a b:Nat):(a:Int).tmod (b:Int)=((a % b:Nat):Int):=by rw[Int.tmod_eq_emod_of_nonneg (by omega)];norm_cast
theorem rQ2 (a b:Nat):(a:Int).tdiv (b:Int)=((a/b:Nat):Int):=by rw[Int.tdiv_eq_ediv_of_nonneg (by omega)];norm_cast
theorem fQr {x:Nat}{k:IntKind}{y:Int}{K:Int->Prop}(n d:Nat)(hy:0<=y)(hn:min y.toNat k.bits=n)(hd:2^n=d)(h:K ((x/d:Nat):Int)):eQc (0<=y) ((x:Int).fdiv (2^(min y.toNat k.bits))) K:=by
 subst hd;rw[hn];exact(by unfold eQc;exact⟨hy,by rw[rQ0];exact h⟩)
theorem gQ0 {n:Nat}{K:Int->Prop}(k:K ((n % 4294967296:Nat):Int)):lQX (IntKind.u32.wrap (n:Int)) K:=norm (kQJ n) k
theorem jQg {x:Nat}{d:Nat}{K:Int->Prop}(hd:0<d)(k:K ((x % d:Nat):Int)):eQc ((d:Int)≠0) ((x:Int).tmod d) K:=normIf (by omega) (rQ1 x d) k
theorem load {w:World}{p:Addr}{v:Value}{K:Value->Prop}(h:w.cell? p=some v)(k:K v):pQi w p K:=by unfold pQi;exact⟨v,h,k⟩
theorem aQe {w:World}{g t:Nat}{cs:List Value}{j:Nat}{v:Value}{K:Value->Prop}(h:Blk w g t cs)(hv:cs[j]? =some v)(k:K v):pQi w ((⟨g,0,none⟩:Addr).add j) K:=load (by rw[h.cell];exact hv) k
theorem fQs {w:World}{g t:Nat}{cs:List Value}{j:Nat}{v:Value}{K:World->Prop}(h:Blk w g t cs)(hj:j<cs.length)(k:∀w1,w.grownBy w1 (some g)->Blk w1 g t (cs.set j v)->K w1):hQg w ((⟨g,0,none⟩:Addr).add j) v K:=by
 unfold hQg;refine⟨⟨cs[j],by rw[h.cell];simp[hj]⟩,h.frozen j,k _ ?_ (h.set j v)⟩;have:=jQf w ((⟨g,0,none⟩:Addr).add j) v;rw[eQ8] at this ⊢;exact this
theorem index {a:Addr}{n j:Nat}{K:Addr->Prop}(hj:j<n)(k:K (a.add j)):dQz (some a) n (j:Int) 1 K:=by
 unfold dQz;exact⟨a,rfl,by omega,by omega,by simpa using k⟩
theorem aQU {a:Addr}{n j sz:Nat}{K:Addr->Prop}(hj:j<n)(k:K (a.add (j*sz))):dQz (some a) n (j:Int) sz K:=by
 unfold dQz;exact⟨a,rfl,by omega,by omega,by simpa using k⟩
theorem aQ3 {w:World}{A:Option Addr}{n c j:Nat}{cs:List Value}{K:Addr->Prop}(h:Sl w 1 A n c cs)(hj:j<n)(k:∀ad u,A=some ad->cs[j]? =some u->w.cell? (ad.add j)=some u->K (ad.add j)):dQz A n (j:Int) 1 K:=by
 obtain⟨ad,rfl,hc⟩:=h.at_ (by omega);have hl:j<cs.length:=by have:=h.len;omega
 exact index hj (k ad cs[j] rfl (by simp[hl]) (hc j _ (by simp[hl])))
theorem vQV {s:ByteArray}{j:Nat}{K:Int->Prop}(hj:j<s.size)(k:K (s[j].toNat:Int)):dQA s (j:Int) K:=by
 unfold dQA;exact⟨s[j],by omega,by simp[hj],k⟩
theorem aQy {C:World->Prop}{p:Addr}{v:Value}{K:Value->Prop}(h:∀w,C w->w.cell? p=some v)(k:K v):oQr C p K:=by unfold oQr;exact⟨v,h,k⟩
theorem vQW {c:Cx}(hg:c.g.Ok){id:Nat}{ops:List Oper}{S:Env}{w:World}{Q:cQB}(hB:Region.lexB .any ops.toArray=true)
  (h:cQx c ops ops S (Ext w) (fun S=>∀w',Ext w w'->Q .normal S w')):cQw c id ops S w Q:=tQ9 hg (Ext w) (Ext.drew w) hB h
theorem aQ9 {c:Cx}{o:Oper}{S:Env}{w w':World}{K:Env->World->Prop}{Q:cQB}{v:Value}(h:∀a,Fits c.N S a->(execOp a.eval o).run c.g.P w= .ok (.value v) w')(k:bQq c S o.dst (.v v) (fun S=>K S w')):cQv c o S w K Q:=by
 unfold cQv;intro a hf;exact bQA (h a hf) (aQo (e:=.v v) k hf)
theorem fQt (z:Value)(n:Nat):madeCells #[z] n=Array.replicate n z:=by
 apply Array.ext
 ·simp[madeCells]
 ·intro i h1 h2;simp[madeCells,Nat.mod_one]
theorem jQh {c:Cx}(hg:c.g.Ok){o:Oper}{S:Env}{w:World}{K:Env->World->Prop}{Q:cQB}{t e:Nat}{x y:Operand}{n:Nat}{r re:TyRow}(ho:o.op= .makeSlice t x y)(hr:aQA c.g.tys t=some r)(hd:r.d= .slice e)(hre:aQA c.g.tys e=some re)(hz:re.z.cells= #[re.z])
  (hs:re.sz=1) (hx:S.ev x=some (.int .i64 n)) (hy:S.ev y=some (.int .i64 n)) (hb:re.by_*n<=281474976710656) (hn:n<=maxLen)
  (k:∀w1,Ext w w1->w1.heap.size=w.heap.size+1->Blk w1 w.heap.size e (List.replicate n re.z)->bQq c S o.dst (.v (.slice (some ⟨w.heap.size,0,none⟩) n n)) (fun S=>K S w1)):cQv c o S w K Q:=by
 obtain⟨_,i,hi,hsz,hby,hiz⟩:=hg.row hre;have hr':=(hg.row hr).1;rw[hd] at hr';have hr1:=run_make (P:=c.g.P) w t e i re.z hr' hi hiz .i64 .i64 n n (by omega) (by omega) (by rw[hby];omega) (by unfold maxLen at hn;omega);rw[hz,hsz,hs,fQt] at hr1;refine aQ9 (w':=w.alloc (.cells (Array.replicate n re.z) e)) (v:=.slice (some ⟨w.heap.size,0,none⟩) n n) (fun a hf=>?_) (k _ (Ext.alloc w _) (by simp) ?_)
 ·have e1:=hf.ev hx;have e2:=hf.ev hy;simp only[execOp,ho,e1,e2];simp at hr1 ⊢;rw[hr1];rfl
 ·have:=Blk.new w e (List.replicate n re.z);simpa using this
theorem bQ1 {c:Cx}(hg:c.g.Ok){o:Oper}{S:Env}{w:World}{K:Env->World->Prop}{Q:cQB}{t e:Nat}{x y:Operand}{A:Option Addr}{n cp:Nat}{h:Nat}{r:TyRow}(ho:o.op= .slice t x none (some y) none)(hr:aQA c.g.tys t=some r)(hd:r.d= .slice e){re:TyRow}(hre:aQA c.g.tys e=some re)
  (hx:S.ev x=some (.slice A n cp)) (hy:S.ev y=some (.int .i64 h)) (hh:h<=cp)
  (k:bQq c S o.dst (.v (.slice A h cp)) (fun S=>K S w)):cQv c o S w K Q:=by
 have hr':=(hg.row hr).1;rw[hd] at hr';refine aQ9 (w':=w) (fun a hf=>?_) k;have e1:=hf.ev hx;have e2:=hf.ev hy;simp[execOp,ho,e1,e2,Instr.sliceAt,Instr.slice,run_underlying hr',Instr.sliceBounds,Instr.sliceBound,asIntOf,hh,run_sizeOf hg hre];intro _;cases A<;>simp[Addr.add]
theorem iQx {c:Cx}(hg:c.g.Ok){o:Oper}{S:Env}{w:World}{K:Env->World->Prop}{Q:cQB}{t e:Nat}{x y:Operand}{A:Option Addr}{n cp:Nat}{l:Nat}{r:TyRow}(ho:o.op= .slice t x (some y) none none)(hr:aQA c.g.tys t=some r)(hd:r.d= .slice e){re:TyRow}(hre:aQA c.g.tys e=some re)
  (hx:S.ev x=some (.slice A n cp)) (hy:S.ev y=some (.int .i64 l)) (hl:l<=n)
  (k:bQq c S o.dst (.v (.slice (if cp=l then A else A.map (·.add (l*re.sz))) (n-l) (cp-l))) (fun S=>K S w)):cQv c o S w K Q:=by
 have hr':=(hg.row hr).1;rw[hd] at hr';refine aQ9 (w':=w) (fun a hf=>?_) k;have e1:=hf.ev hx;have e2:=hf.ev hy;simp[execOp,ho,e1,e2,Instr.sliceAt,Instr.slice,run_underlying hr',Instr.sliceBounds,Instr.sliceBound,asIntOf,hl,run_sizeOf hg hre]
structure Own (w:World) (base e sz:Nat) (A:Option Addr) (n c:Nat) (cs:List Value):Prop where
 row:w.ownsRow base e sz (.slice A n c) n cs
theorem Own.form {w:World}{base e sz:Nat}{v:Value}{n:Nat}{cs:List Value}(h:w.ownsRow base e sz v n cs):∃A c,v= .slice A n c/\Own w base e sz A n c cs:=by
 rcases h.2 with⟨rfl,rfl⟩ | ⟨g,cap,cur,rfl,r⟩
 ·exact⟨none,0,rfl,⟨h⟩⟩
 ·exact⟨_,cap,rfl,⟨h⟩⟩
theorem Own.sl {w:World}{base e sz n c:Nat}{A:Option Addr}{cs:List Value}(h:Own w base e sz A n c cs):Sl w sz A n c cs:=by
 have h:=h.row;have h1:=h.1;rcases h.2 with⟨hv,rfl⟩ | ⟨g,cap,cur,hv,hb,hg,hn,hm,hs,ht⟩
 ·cases hv;exact⟨h1,Nat.le_refl _,by simp[maxLen],fun h=>absurd h (by omega)⟩
 ·cases hv;refine⟨h1,hn,hm,fun _=>⟨_,rfl,fun j u hu=>?_⟩⟩;exact World.ownsRow.cells h (g:=g) rfl j u hu
theorem Own.ext {w w':World}{base e sz n c:Nat}{A:Option Addr}{cs:List Value}(h:Own w base e sz A n c cs)(k:Ext w w'):Own w' base e sz A n c cs:=
 ⟨h.row.kept k (by cases hv:(Value.slice A n c).ownBlock<;>simp)⟩
theorem Own.empty {w:World}{g e sz:Nat}{base:Nat}(h:Blk w g e [])(hb:base<=g):Own w base e sz (some ⟨g,0,none⟩) 0 0 []:=
 ⟨⟨by simp,.inr ⟨g,0,_,rfl,hb,h,Nat.le_refl _,by simp[maxLen],by simp,by simp⟩⟩⟩
theorem Own.nil (w:World)(base e sz:Nat):Own w base e sz none 0 0 []:=⟨World.ownsRow_nil w base e sz⟩
theorem Own.blk {w:World}{base e n c:Nat}{A:Option Addr}{cs:List Value}(h:Own w base e 1 A n c cs)(hn:0<n):∃g sp,A=some ⟨g,0,none⟩/\base<=g/\Blk w g e (cs++sp)/\(cs++sp).length=c:=by
 have h:=h.row;rcases h.2 with⟨hv,rfl⟩ | ⟨g,cap,cur,hv,hb,hg,hn',hm,hs,ht⟩
 ·omega
 ·cases hv;refine⟨g,cur.toList.drop n,rfl,hb,?_⟩;rw[Nat.mul_one] at ht;rw[<-ht,List.take_append_drop];exact⟨by simpa [Blk] using hg,by simpa using hs⟩
theorem cQG (a:Addr)(j:Nat):(a.add j).block=a.block:=by unfold Addr.add;split<;>rfl
theorem eQL {u:Value}(h:aQ8 u=true):u.oneCell'=true:=by cases u<;>first | rfl | (simp[aQ8] at h)
theorem xQm (z v:Value)(h:aQ8 v=true):Instr.fill (fun i=>some (i*1,1)) #[z] [(0,v)]=some #[v]:=by
 have hc:v.cells= #[v]:=by cases v<;>first | rfl | (simp[aQ8] at h)
 simp[Instr.fill,hc]
theorem xQn (z v u:Value)(h:aQ8 v=true)(h':aQ8 u=true):Instr.fill (fun i=>some (i*1,1)) #[z,z] [(0,v),(1,u)]=some #[v,u]:=by
 have hc:v.cells= #[v]:=by cases v<;>first | rfl | (simp[aQ8] at h)
 have hc':u.cells= #[u]:=by cases u<;>first | rfl | (simp[aQ8] at h')
 simp[Instr.fill,hc,hc']
section
variable {c:Cx} (hg:c.g.Ok) {o:Oper} {S:Env} {w:World} {K:Env->World->Prop} {Q:cQB} {t e:Nat} {r re:TyRow}
include hg
theorem kQK (hr:aQA c.g.tys t=some r)(hd:r.d= .slice e)(hre:aQA c.g.tys e=some re)(hs:re.sz=1)(hz:re.z.cells= #[re.z])(n:Nat)(hn:n<=1000)(parts:Array (Nat×Value))(cs:List Value)
  (hf:Instr.fill (fun i=>some (i*1,1)) (Array.replicate n re.z) parts.toList=some cs.toArray):
  (Instr.buildSlice t n parts).run c.g.P w= .ok (.slice (some ⟨w.heap.size,0,none⟩) n n) (w.alloc (.cells cs.toArray e)):=by
 obtain⟨_,i,hi,hsz,hbyt,hiz⟩:=hg.row hre;have hr':=(hg.row hr).1;rw[hd] at hr';have e1:(Array.range n).map (fun j=>(#[re.z]:Array Value)[j % (#[re.z]:Array Value).size]!)=Array.replicate n re.z:=fQt re.z n;have h24:¬(16777216<n):=by omega
 by_cases h0:n=0
 ·subst h0;simp[Instr.buildSlice,run_underlying hr',sizeOf,typeInfo,hi,hsz,hs,newRow] at hf ⊢;rw[show Array.map (fun _=>(default:Value)) (Array.range 0)= #[] by simp[Array.range_zero'],hf];simp
 ·simp[Instr.buildSlice,run_underlying hr',sizeOf,typeInfo,hi,hsz,hs,newRow,h24,h0,zeroValue,hiz,hz];simp at e1 hf;rw[e1,hf];simp
theorem kQL {x:Operand}{v:Value}(ho:o.op= .buildSlice t 1 #[(0,x)])(hr:aQA c.g.tys t=some r)(hd:r.d= .slice e)(hre:aQA c.g.tys e=some re)(hs:re.sz=1)(hz:re.z.cells= #[re.z])(hx:S.ev x=some v)(hv:aQ8 v=true)
  (k:∀w1,Ext w w1->w1.heap.size=w.heap.size+1->Blk w1 w.heap.size e [v]->bQq c S o.dst (.v (.slice (some ⟨w.heap.size,0,none⟩) 1 1)) (fun S=>K S w1)):cQv c o S w K Q:=by
 have hrun:=kQK (w:=w) hg hr hd hre hs hz 1 (by omega) #[(0,v)] [v] (xQm re.z v hv);refine aQ9 (w':=w.alloc (.cells #[v] e)) (fun a hf=>?_) (k _ (Ext.alloc w _) (by simp) (Blk.new w e [v]));have e1:=hf.ev hx;simp only[execOp,ho];simp[e1,hrun]
theorem dQB {x y:Operand}{v u:Value}(ho:o.op= .buildSlice t 2 #[(0,x),(1,y)])(hr:aQA c.g.tys t=some r)(hd:r.d= .slice e)(hre:aQA c.g.tys e=some re)(hs:re.sz=1)(hz:re.z.cells= #[re.z])(hx:S.ev x=some v)(hy:S.ev y=some u)(hv:aQ8 v=true)(hu:aQ8 u=true)
  (k:∀w1,Ext w w1->w1.heap.size=w.heap.size+1->Blk w1 w.heap.size e [v,u]->bQq c S o.dst (.v (.slice (some ⟨w.heap.size,0,none⟩) 2 2)) (fun S=>K S w1)):cQv c o S w K Q:=by
 have hrun:=kQK (w:=w) hg hr hd hre hs hz 2 (by omega) #[(0,v),(1,u)] [v,u] (xQn re.z v u hv hu);refine aQ9 (w':=w.alloc (.cells #[v,u] e)) (fun a hf=>?_) (k _ (Ext.alloc w _) (by simp) (Blk.new w e [v,u]));have e1:=hf.ev hx;have e2:=hf.ev hy;simp only[execOp,ho];simp[e1,e2,hrun]
end
theorem uQb {c:Cx}(hg:c.g.Ok){o:Oper}{S:Env}{w:World}{K:Env->World->Prop}{Q:cQB}{t t2 e:Nat}{x y:Operand}{g n cp:Nat}{A:Option Addr}{m c2:Nat}{xs ys:List Value}{r re:TyRow}
  (ho:o.op= .call ⟨.builtin .copy, #[x,y], #[t,t2]⟩) (hr:aQA c.g.tys t=some r) (hd:r.d= .slice e) (hre:aQA c.g.tys e=some re) (hs:re.sz=1)
  (hx:S.ev x=some (.slice (some ⟨g,0,none⟩) n cp)) (hy:S.ev y=some (.slice A m c2)) (hb:Blk w g e xs) (hys:Sl w 1 A m c2 ys) (hmn:m<=n) (hnx:n<=xs.length) (hsc:∀u∈ys,aQ8 u=true)
  (k:∀w1,w.grownBy w1 (some g)->w1.heap.size=w.heap.size->Blk w1 g e (ys++xs.drop m)->bQq c S o.dst (.v (.int .i64 m)) (fun S=>K S w1)):cQv c o S w K Q:=by
 obtain⟨_,i,hi,hsz,hbyt,hiz⟩:=hg.row hre;have hr':=(hg.row hr).1;rw[hd] at hr';have hlen:ys.length=m:=by have:=hys.len;omega
 have hfc:(Builtin.firstCells 1 m (.slice A m c2)).run c.g.P w= .ok ys.toArray w:=by
  by_cases h0:m=0
  ·subst h0;have:ys=[]:=List.eq_nil_of_length_eq_zero hlen;subst this;cases A<;>simp[Builtin.firstCells,loadCells,loadCellsFrom]
  ·obtain⟨ad,rfl,hc⟩:=hys.at_ (by omega);have:=run_loadCells_list (P:=c.g.P) (w:=w) ad ys hc;rw[hlen] at this;simpa [Builtin.firstCells] using this
 have hst:=run_storeCells_at c.g.P g 0 e ys 0 xs.toArray w hb (by simp;omega) (fun u hu=>eQL (hsc u hu));simp only[Nat.zero_add,Nat.add_zero] at hst;have hmin:Nat.min m n=m:=Nat.min_eq_left hmn;refine aQ9 (w':=w.setRow g (ys++xs.drop m).toArray) (v:=.int .i64 m) (fun a hf=>?_) (k _ ?_ (by simp) ?_)
 ·have e1:=hf.ev hx;have e2:=hf.ev hy;have hst':(storeCells (⟨g,0,none⟩:Addr) ys).run c.g.P w= .ok () (w.setRow g (ys++xs.drop m).toArray):=by
   have:=hst;rw[hlen] at this;simpa [eQ8] using this
  simp only[execOp,ho,resolve,invoke];simp[builtin,e1,e2,Builtin.copy_,run_underlying hr',sizeOf,typeInfo,hi,hsz,hs,Builtin.lenOf,hmin,hfc,hst',goInt]
 ·exact⟨rfl,rfl,rfl,by simp,fun j _ hj=>setRow_other w g j _ (fun e=>hj (by rw[e]))⟩
 ·exact setRow_heap w g xs.toArray _ e _ hb
def bQa (l:List Nat):List Value:=l.map fun(x:Nat)=>.int .u8 x
def aQh (l:List Nat):ByteArray:=⟨(l.map UInt8.ofNat).toArray⟩
theorem eQ9 {l:List Nat}{j x:Nat}(h:l[j]? =some x):(bQa l)[j]? =some (.int .u8 (x:Int)):=by simp[bQa,h]
theorem cQS (l m:List Nat):bQa (l++m)=bQa l++bQa m:=by simp[bQa]
theorem cQo (l:List Nat):(bQa l).length=l.length:=by simp[bQa]
theorem bQr (l m:List Nat):aQh l++aQh m=aQh (l++m):=by
 apply ByteArray.ext;simp[aQh,ByteArray.data_append]
theorem aQj (l:List Nat):(aQh l).size=l.length:=by simp[aQh,ByteArray.size]
def bQy (s:ByteArray):List Nat:=s.data.toList.map UInt8.toNat
theorem bQ8 (s:ByteArray):(bQy s).length=s.size:=by simp[bQy]
theorem oQt (s:ByteArray):∀x∈bQy s,x<256:=by
 intro x hx;simp only[bQy,List.mem_map] at hx;obtain⟨b,_,rfl⟩:=hx;exact b.toNat_lt
theorem hQo {s:ByteArray}{j:Nat}(hj:j<s.size):(bQy s)[j]? =some s[j].toNat:=by
 have h':j<s.data.size:=hj;have:s[j]=s.data[j]:=rfl;rw[this];simp only[bQy,List.getElem?_map,Array.getElem?_toList];rw[Array.getElem?_eq_getElem h'];rfl
theorem cQp {s:ByteArray}{j:Nat}{K:Int->Prop}(hj:j<s.size)(k:∀x,(bQy s)[j]? =some x->x<256->K (x:Int)):dQA s (j:Int) K:=
 vQV hj (k _ (hQo hj) (s[j]).toNat_lt)
theorem jQi (s:ByteArray):aQh (bQy s)=s:=by
 apply ByteArray.ext;simp[aQh,bQy,Function.comp_def]
theorem aQG {l:List Nat}(h:∀x∈l,x<256):bQy (aQh l)=l:=by
 simp only[bQy,aQh,List.map_map]
 conv=>rhs;rw[<-List.map_id l]
 apply List.map_congr_left;intro x hx;simp[Nat.mod_eq_of_lt (h x hx)]
theorem aQD {l m:List Nat}(hl:∀x∈l,x<256)(hm:∀x∈m,x<256)(h:aQh l=aQh m):l=m:=by
 rw[<-aQG hl,<-aQG hm,h]
end
section
open Go Go.RowKit
section
variable {P:Program} {ops:Array Oper} {md:Region.Mode} {C:World->Prop} {Q:Exit->Act->World->Prop}
def NoPan (Q:Exit->Act->World->Prop):Exit->Act->World->Prop
 | .panic _,_,_=>False
 | e,a,w=>Q e a w
theorem NoPan.imp {Q:Exit->Act->World->Prop}:∀(e:Exit)(a:Act)(w:World),NoPan Q e a w->Q e a w:=fun e a w h=>by
 cases e<;>first | exact h | exact(h:False).elim
def wpG (P:Program)(md:Region.Mode)(ops:Array Oper)(Q:Exit->Act->World->Prop)(C:World->Prop)(n:Nat)(L:Array Bool->Act->World->Prop):Nat->Array Bool->Act->World->Prop
 | 0,listed,a,w=>L listed a w
 | f+1,listed,a,w=>
  Region.ready md ops listed≠ []/\∀i∈Region.ready md ops listed,i<n/\wpOp P ops Q i (fun a' w'=>C w'/\wpG P md ops Q C n L f (listed.setIfInBounds i true) a' w') a w
theorem dQC {n g:Nat}{L:Array Bool->Act->World->Prop}(hL:∀listed a w,L listed a w->wpAny P md ops Q g listed a w):
  ∀(f:Nat) (listed:Array Bool) (a:Act) (w:World),wpG P md ops Q C n L f listed a w->wpAny P md ops Q (f+g) listed a w
 | 0,listed,a,w,h=>by rw[Nat.zero_add];exact hL _ _ _ h
 | f+1,listed,a,w,h=>by
  rw[show f+1+g=(f+g)+1 by omega];exact⟨fun h0=>absurd h0 h.1,fun i hi=>wpOp_mono (fun a' w' h'=>dQC hL f _ a' w' h'.2) (h.2 i hi).2⟩
def rQ3 (md:Region.Mode)(ops:Array Oper)(n:Nat):Prop:=n=ops.size∨(n<ops.size/\Region.sinkB md ops n=true/\Region.chainB md ops n=true)
theorem fQ8 {n i:Nat}{listed:Array Bool}(hs:rQ3 md ops n)(inv:HeadInv md ops n listed)(hin:i<n)(hun:listed.getD i true=false):∀j∈Region.ready md ops listed,j<n:=by
 intro j hj;rcases hs with hs | ⟨h1,h2,h3⟩
 ·obtain⟨_,oj,hoj,_⟩:=mem_ready.1 hj;rw[hs];exact(Array.getElem?_eq_some_iff.1 hoj).1
 ·rcases Nat.lt_or_ge j n with h | h
  ·exact h
  ·exact absurd hj (tail_waits h2 h3 h1 inv _ i rfl hin hun j h)
theorem kQM {n i:Nat}{oi:Oper}{v:Value}{L:Array Bool->Act->World->Prop}(hi:ops[i]? =some oi)(hsel:∀(j:Nat)(o:Oper) cs b,ops[j]? =some o->o.op≠ .select cs b)
  (hs:rQ3 md ops n) (hin:i<n) (hdone:∀listed a w,L listed a w->∀j∈Region.ready md ops listed,n<=j):
  ∀(f:Nat) (listed:Array Bool) (a:Act) (w:World),HeadInv md ops n listed->
   (∀j oj,ops[j]? =some oj->j≠i->listed.getD j true=false->(∀e∈oj.after,Region.binds md e=true->e.on≠i)->oi.apart ops oj=true)->
   i∈Region.ready md ops listed->YieldsIf P ops C oi v a->C w->
   wpG P md ops (NoPan Q) C n L f (listed.setIfInBounds i true) (a.put oi.dst v) w->wpG P md ops (NoPan Q) C n L (f+1) listed a w:=by
 intro f;induction f with
 | zero=>
  intro listed a w inv _ hr hy hC H;have hun:=(mem_ready.1 hr).1;refine⟨fun h=>(by rw[h] at hr;cases hr),fun j hj=>?_⟩;have hjn:=fQ8 hs inv hin hun j hj;refine⟨hjn,?_⟩;by_cases hji:j=i
  ·subst hji;exact hy.wpOp hi hC ⟨hC,H⟩
  ·have:=hdone _ _ _ H j (ready_mono hj hji);omega
 | succ f ih=>
  intro listed a w inv hfree hr hy hC H;have hun:=(mem_ready.1 hr).1;refine⟨fun h=>(by rw[h] at hr;cases hr),fun j hj=>?_⟩;have hjn:=fQ8 hs inv hin hun j hj;refine⟨hjn,?_⟩;by_cases hji:j=i
  ·subst hji;exact hy.wpOp hi hC ⟨hC,H⟩
  ·have h1:=(H.2 j (ready_mono hj hji)).2;obtain⟨hjun,oj,hoj,hall⟩:=mem_ready.1 hj;have hnot:∀e∈oj.after,Region.binds md e=true->e.on≠i:=fun e he hb heq=>by
    have h1:=hall e he hb;rw[heq,getD_both hun] at h1;cases h1
   have h2:=wpOp_putIf hoj (hfree j oj hoj hji hjun hnot) (fun cs b=>hsel i oi cs b hi) (fun cs b=>hsel j oj cs b hoj) (fun _ _ _ h=>h) hy h1;have hfree':∀k ok,ops[k]? =some ok->k≠i->(listed.setIfInBounds j true).getD k true=false->
     (∀e∈ok.after,Region.binds md e=true->e.on≠i)->oi.apart ops ok=true:=fun k ok hk hki hun hno=>by
    refine hfree k ok hk hki ?_ hno;by_cases hjk:j=k
    ·subst hjk;exact hjun
    ·rw[getD_set_ne true hjk] at hun;exact hun
   refine wpOp_mono (fun a' w' h3=>⟨h3.2.1,ih (listed.setIfInBounds j true) a' w' (inv.set hj hjn) hfree' (ready_mono hr (Ne.symm hji)) h3.1 h3.2.1 ?_⟩) h2;rw[Array.setIfInBounds_comm _ _ hji];exact h3.2.2
def fQu (md:Region.Mode)(ops:Array Oper)(n:Nat):List (Bool×Nat)->Array Bool->Bool
 | [],listed=>Region.seqB md ops (ops.size-n) n listed
 | (true,k)::l,listed=>Nat.blt k n&&(Region.ready md ops listed).contains k&&Region.free md ops listed k&&fQu md ops n l (listed.setIfInBounds k true)
 | (false,k)::l,listed=>Nat.blt k n&&decide (Region.ready md ops listed=[k])&&fQu md ops n l (listed.setIfInBounds k true)
def iQy (md:Region.Mode)(ops:Array Oper)(n:Nat):Bool:=Nat.beq n ops.size||(Nat.blt n ops.size&&Region.sinkB md ops n&&Region.chainB md ops n)
theorem dQZ {n:Nat}(h:iQy md ops n=true):rQ3 md ops n:=by
 simp only[iQy,Bool.or_eq_true,Bool.and_eq_true] at h;rcases h with h | ⟨⟨h1,h2⟩,h3⟩
 ·exact .inl (Nat.eq_of_beq_eq_true h)
 ·exact .inr ⟨by rw[Nat.blt_eq] at h1;exact h1,h2,h3⟩
end
section
variable {c:Cx} {S:Env} {a:Act}
@[irreducible] def TOp (c:Cx) (o:Oper) (S:Env) (C:World->Prop) (K:Env->Prop):Prop:=∃v,(∀a w,Fits c.N S a->C w->(execOp a.eval o).run c.g.P w= .ok (.value v) w)/\bQq c S o.dst (.v v) K
def oQu (c:Cx)(o:Oper)(S:Env)(C:World->Prop)(K:Env->Prop):Prop:=
 match iQt c.g S o.op with
 | .val v=>bQq c S o.dst (.v v) K
 | .ent e=>bQq c S o.dst e K
 | .norm k n=>lQX n (fun m=>bQq c S o.dst (.v (.int k m)) K)
 | .normIf p k n=>eQc p n (fun m=>bQq c S o.dst (.v (.int k m)) K)
 | .need p v=>rQN p v (fun v=>bQq c S o.dst (.v v) K)
 | .no=>match o.op with
  | .load t x=>(match aQA c.g.tys t,S.ev x with
   | some r,some (.pointer (some p))=>(match hQi r.d with
    | false=>oQr C p (fun v=>bQq c S o.dst (.v v) K)
    | true=>iQv C p r.sz (fun vs=>bQq c S o.dst (.v (.agg vs.toArray)) K))
   | _,_=>TOp c o S C K)
  | .indexAddr t x i=>(match aQA c.g.tys t,S.ev x,S.ev i with
   | some ⟨_,.slice e,_,_,_⟩,some (.slice b n _),some (.int _ i)=>(match aQA c.g.tys e with
    | some r=>dQz b n i r.sz (fun p=>bQq c S o.dst (.v (.pointer (some p))) K)
    | none=>TOp c o S C K)
   | some ⟨_,.array n e,_,_,_⟩,some (.pointer (some p)),some (.int _ i)=>(match aQA c.g.tys e with
    | some r=>dQz (some p) n i r.sz (fun p=>bQq c S o.dst (.v (.pointer (some p))) K)
    | none=>TOp c o S C K)
   | _,_,_=>TOp c o S C K)
  | .index t x i=>(match aQA c.g.tys t,S.ev x,S.ev i with
   | some ⟨_,.string,_,_,_⟩,some (.string s),some (.int _ i)=>dQA s i (fun b=>bQq c S o.dst (.v (.int .u8 b)) K)
   | _,_,_=>TOp c o S C K)
  | _=>TOp c o S C K
def eQZ (all:List Oper)(o:Oper)(S:Env)(yes no:Env->Prop):Prop:=match o.guard with
 | none=>yes S
 | some (
     j,want)=>match gQO all j with
  | some oj=>(match oj.dst with
   | some d=>(match S.ent d with
    | some .t=>(match want with
     | true=>yes S
     | false=>no S)
    | some .f=>(match want with
     | false=>yes S
     | true=>no S)
    | some (.v (.bool b))=>(match want with
     | true=>WIf b (yes ((d,.t)::S)) (no ((d,.f)::S))
     | false=>WIf b (no ((d,.t)::S)) (yes ((d,.f)::S)))
    | some (.v (.tuple _))=>no S
    | _=>False)
   | none=>False)
  | none=>False
def jQj (c:Cx)(all:List Oper)(C:World->Prop):List (Bool×Nat)->Env->World->(Env->World->Prop)->Prop
 | [],S,w,K=>K S w
 | (true,k)::l,S,w,K=>match gQO all k with
  | some o=>eQZ all o S (fun S=>oQu c o S C (fun S=>jQj c all C l S w K)) (fun S=>bQq c S o.dst (.v undef) (fun S=>jQj c all C l S w K))
  | none=>False
 | (false,k)::l,S,w,K=>match gQO all k with
  | some o=>eQZ all o S (fun S=>fQ3 c o S w (fun S w=>C w/\jQj c all C l S w K) (fun _ _ _=>False)) (fun S=>bQq c S o.dst (.v undef) (fun S=>jQj c all C l S w K))
  | none=>False
theorem bQX {all:List Oper}{o:Oper}{yes no:Env->Prop}(h:eQZ all o S yes no)(hf:Fits c.N S a):
  (Region.wanted o (yielded all.toArray a.tmps)=true/\∃S',Fits c.N S' a/\yes S')∨(Region.wanted o (yielded all.toArray a.tmps)=false/\∃S',Fits c.N S' a/\no S'):=by
 have fit:∀(d:Nat) (b:Bool) (e:Ent),S.ent d=some (.v (.bool b))->e.val= .bool b->Fits c.N ((d,e)::S) a:=fun d b e hd he=>by
  refine⟨hf.size,hf.defers,fun k x hk=>?_⟩;simp only[Env.ent] at hk;split at hk
  ·rename_i hb;have:=Nat.eq_of_beq_eq_true hb;subst this;cases hk;rw[he];exact hf.has _ _ hd
  ·exact hf.has _ _ hk
 unfold eQZ at h;split at h
 ·rename_i hgd;exact .inl ⟨by simp[Region.wanted,hgd],S,hf,h⟩
 ·rename_i j want hgd;split at h
  ·rename_i oj hj;split at h
   ·rename_i d hd;split at h
    ·rename_i hd';have hw:=bQ0 hgd hj hd (hf.has _ _ hd');split at h
     ·exact .inl ⟨by rw[hw];rfl,S,hf,h⟩
     ·exact .inr ⟨by rw[hw];rfl,S,hf,h⟩
    ·rename_i hd';have hw:=bQ0 hgd hj hd (hf.has _ _ hd');split at h
     ·exact .inl ⟨by rw[hw];rfl,S,hf,h⟩
     ·exact .inr ⟨by rw[hw];rfl,S,hf,h⟩
    ·rename_i b hd';have hw:=bQ0 hgd hj hd (hf.has _ _ hd');split at h
     ·unfold WIf at h;cases b with
      | true=>exact .inl ⟨by rw[hw];rfl,_,fit d true .t hd' rfl,h.1 rfl⟩
      | false=>exact .inr ⟨by rw[hw];rfl,_,fit d false .f hd' rfl,h.2 rfl⟩
     ·unfold WIf at h;cases b with
      | true=>exact .inr ⟨by rw[hw];rfl,_,fit d true .t hd' rfl,h.1 rfl⟩
      | false=>exact .inl ⟨by rw[hw];rfl,_,fit d false .f hd' rfl,h.2 rfl⟩
    ·rename_i hd';exact .inr ⟨jQe hgd hj hd (hf.has _ _ hd'),S,hf,h⟩
    ·exact h.elim
   ·exact h.elim
  ·exact h.elim
theorem dQ0 (hg:c.g.Ok){o:Oper}{C:World->Prop}{K:Env->Prop}(h:oQu c o S C K)(hf:Fits c.N S a):
  ∃v,(∀w,C w->(execOp a.eval o).run c.g.P w= .ok (.value v) w)/\∃S',Fits c.N S' (a.put o.dst v)/\K S':=by
 have hAt:TOp c o S C K->∃v,(∀w,C w->(execOp a.eval o).run c.g.P w= .ok (.value v) w)/\∃S',Fits c.N S' (a.put o.dst v)/\K S':=fun h=>by
  unfold TOp at h;obtain⟨v,h1,h2⟩:=h;exact⟨v,fun w hw=>h1 a w hf hw,aQo (e:=.v v) h2 hf⟩
 unfold oQu at h;split at h
 ·rename_i v hp;exact⟨v,fun w _=>bQb (w:=w) hg hf hp,aQo (e:=.v v) h hf⟩
 ·rename_i e hp;exact⟨e.val,fun w _=>bQb (w:=w) hg hf hp,aQo (e:=e) h hf⟩
 ·rename_i k n hp;unfold lQX at h;exact⟨_,fun w _=>bQb (w:=w) hg hf hp,aQo (e:=.v (.int k n)) h hf⟩
 ·rename_i p k n hp;unfold eQc at h;exact⟨_,fun w _=>bQb (w:=w) hg hf hp h.1,aQo (e:=.v (.int k n)) h.2 hf⟩
 ·rename_i p v hp;unfold rQN at h;exact⟨_,fun w _=>bQb (w:=w) hg hf hp h.1,aQo (e:=.v v) h.2 hf⟩
 ·obtain⟨dst,op,ty,pos,aft,gd⟩:=o;simp only at h hAt ⊢;split at h
  ·rename_i t x;split at h
   ·rename_i r p hr hx;have e1:=hf.ev hx;split at h
    ·rename_i hd;unfold oQr at h;obtain⟨v,hv,hk⟩:=h;refine⟨v,fun w hw=>?_,aQo (e:=.v v) hk hf⟩;simp[execOp,e1,Instr.loadAt,Instr.sureAddr,loadVar,cQF hg hr,hd,hv w hw]
    ·rename_i hd;unfold iQv at h;obtain⟨vs,hl,hv,hk⟩:=h;refine⟨.agg vs.toArray,fun w hw=>?_,aQo (e:=.v (.agg vs.toArray)) hk hf⟩;have h2:=run_loadCells_list (P:=c.g.P) (w:=w) p vs (hv w hw);rw[hl] at h2;simp[execOp,e1,Instr.loadAt,Instr.sureAddr,loadVar,cQF hg hr,hd,run_sizeOf hg hr,h2]
   ·exact hAt h
  ·rename_i t x ix;split at h
   ·rename_i e b n k i hr hx hi;split at h
    ·rename_i r hre;unfold dQz at h;obtain⟨p,rfl,h0,h1,hk⟩:=h;have e1:=hf.ev hx;have e2:=hf.ev hi;refine⟨.pointer (some (p.add (i.toNat*r.sz))),fun w _=>?_,aQo (e:=.v _) hk hf⟩;simp[execOp,e1,e2,Instr.indexAt,asIntOf,bQw hg hr,run_sizeOf hg hre,h0,h1]
    ·exact hAt h
   ·rename_i n e p k i hr hx hi;split at h
    ·rename_i r hre;unfold dQz at h;obtain⟨p',hp,h0,h1,hk⟩:=h;cases hp;have e1:=hf.ev hx;have e2:=hf.ev hi;refine⟨.pointer (some (p.add (i.toNat*r.sz))),fun w _=>?_,aQo (e:=.v _) hk hf⟩;simp[execOp,e1,e2,Instr.indexAt,Instr.sureAddr,asIntOf,bQw hg hr,run_sizeOf hg hre,h0,h1]
    ·exact hAt h
   ·exact hAt h
  ·rename_i t x ix;split at h
   ·rename_i s k i hr hx hi;unfold dQA at h;obtain⟨b,h0,h1,hk⟩:=h;have e1:=hf.ev hx;have e2:=hf.ev hi;refine⟨.int .u8 b.toNat,fun w _=>?_,aQo (e:=.v _) hk hf⟩;simp[execOp,e1,e2,Instr.index,asIntOf,bQw hg hr,h0,h1]
   ·exact hAt h
  ·exact hAt h
theorem dQ1 (hg:c.g.Ok){md:Region.Mode}{ops:List Oper}{C:World->Prop}{Q:Exit->Act->World->Prop}{n:Nat}(hs:Region.noSelect ops.toArray=true)(hk:rQ3 md ops.toArray n){K:Env->World->Prop}:
  ∀(l:List (Bool×Nat)) (listed:Array Bool) (S:Env) (a:Act) (w:World),HeadInv md ops.toArray n listed->fQu md ops.toArray n l listed=true->jQj c ops C l S w K->Fits c.N S a->C w->
  wpG c.g.P md ops.toArray (NoPan Q) C n (fun listed' a' w'=>Region.seqB md ops.toArray (ops.toArray.size-n) n listed'=true/\∃S',Fits c.N S' a'/\K S' w') l.length listed a w
 | [],listed,S,a,w,inv,hB,h,hf,hC=>⟨hB,S,hf,h⟩
 | (true,k)::l,listed,S,a,w,inv,hB,h,hf,hC=>by
  simp only[fQu,Bool.and_eq_true] at hB;obtain⟨⟨⟨hkn,hr⟩,hfr⟩,hB'⟩:=hB;have hkn:k<n:=by rw[Nat.blt_eq] at hkn;exact hkn
  have hr':k∈Region.ready md ops.toArray listed:=by simpa using hr
  obtain⟨_,o,ho,_⟩:=mem_ready.1 hr';have hn:gQO ops k=some o:=by rw[dQx];simpa using ho
  simp only[jQj,hn] at h;have key:∃v,YieldsIf c.g.P ops.toArray C o v a/\∃S',Fits c.N S' (a.put o.dst v)/\jQj c ops C l S' w K:=by
   rcases bQX h hf with⟨hw,S1,hf1,h1⟩ | ⟨hw,S1,hf1,h1⟩
   ·obtain⟨v,h2,h3⟩:=dQ0 hg h1 hf1;exact⟨v,.inl ⟨hw,h2⟩,h3⟩
   ·exact⟨undef,.inr ⟨hw,rfl⟩,aQo (e:=.v undef) h1 hf1⟩
  obtain⟨v,hy,S',hf',h'⟩:=key;exact kQM ho (Region.noSelect_spec hs) hk hkn (fun listed' a' w' hL=>seqB_ready hL.1) l.length listed a w inv (Region.free_spec ho hfr) hr' hy hC
   (dQ1 hg hs hk l _ S' _ w (inv.set hr' hkn) hB' h' hf' hC)
 | (false,k)::l,listed,S,a,w,inv,hB,h,hf,hC=>by
  simp only[fQu,Bool.and_eq_true,decide_eq_true_eq] at hB;obtain⟨⟨hkn,hr⟩,hB'⟩:=hB;have hkn:k<n:=by rw[Nat.blt_eq] at hkn;exact hkn
  have hr':k∈Region.ready md ops.toArray listed:=by rw[hr];simp
  obtain⟨_,o,ho,_⟩:=mem_ready.1 hr';have hn:gQO ops k=some o:=by rw[dQx];simpa using ho
  simp only[jQj,hn] at h;have inv':=inv.set hr' hkn;refine⟨fun h0=>(by rw[hr] at h0;cases h0),fun i hi=>?_⟩;rw[hr] at hi;have hik:i=k:=by simpa using hi
  subst hik;refine⟨hkn,?_⟩;unfold wpOp;simp only[ho];rcases bQX h hf with⟨hw,S1,hf1,h1⟩ | ⟨hw,S1,hf1,h1⟩
  ·rw[if_pos hw];refine .inl ?_;have h2:=cQC hg h1 hf1;have h3:=Oper.wp_mono (K':=fun a' w'=>C w'/\wpG c.g.P md ops.toArray (NoPan Q) C n (fun listed' a' w'=>Region.seqB md ops.toArray (ops.toArray.size-n) n listed'=true/\∃S',Fits c.N S' a'/\K S' w') l.length (listed.setIfInBounds i true) a' w')
    (fun a' w' ⟨S',hf',hc',hk'⟩=>⟨hc',dQ1 hg hs hk l _ S' a' w' inv' hB' hk' hf' hc'⟩) h2
   unfold Oper.wp at h3 ⊢;generalize (execOp a.eval o).run c.g.P w=r at*;cases r with
   | ok nx w'=>
    cases nx<;>simp only[Oper.upon] at h3 ⊢ <;> try exact h3
    exact h3.mono fun e w'' he=>by
     cases e with
     | returned v=>exact he
     | panicked ch=>obtain⟨_,_,he⟩:=he;exact he.elim
     | outgrown=>obtain⟨_,_,_,_,he⟩:=he;exact he.elim
   | halt x w'=>cases x<;>simp only[Oper.upon] at h3 ⊢ <;> first | exact h3 | (obtain⟨_,_,h3⟩:=h3;exact h3.elim)
  ·rw[if_neg (by rw[hw];decide)];obtain⟨S',hf',h'⟩:=aQo (e:=.v undef) h1 hf1;exact⟨hC,dQ1 hg hs hk l _ S' _ w inv' hB' h' hf' hC⟩
theorem vQX {o:Oper}{C:World->Prop}{K:Env->Prop}{v:Value}(h:∀a w,Fits c.N S a->C w->(execOp a.eval o).run c.g.P w= .ok (.value v) w)(k:bQq c S o.dst (.v v) K):TOp c o S C K:=by
 unfold TOp;exact⟨v,h,k⟩
theorem aQm (hg:c.g.Ok){id:Nat}{ops:List Oper}{w:World}{Q:cQB}(C:World->Prop)(n:Nat)(plan:List (Bool×Nat))
  (hB:(Region.noSelect ops.toArray&&Nat.beq plan.length n&&iQy .any ops.toArray n&&fQu .any ops.toArray n plan (Array.replicate ops.toArray.size false))=true) (hC:C w.drew)
  (h:jQj {c with named:=1000000} ops C plan S w.drew (fun S w=>dQa c ops (ops.drop n) S w (fun S w=>Q .normal S w) (fun _ _ _=>False))):cQw c id ops S w Q:=by
 unfold cQw;intro a hf;simp only[Bool.and_eq_true] at hB;obtain⟨⟨⟨hs,hl⟩,hsk⟩,hpl⟩:=hB;have hl:=Nat.eq_of_beq_eq_true hl;have hk:=dQZ hsk;have hnle:n<=ops.length:=by
  rcases hk with hk | hk
  ·rw[hk];simp
  ·have:=hk.1;simp at this;omega
 refine Code.wp_mono NoPan.imp (wp_region_any hg.mixed ?_);have inv0:HeadInv .any ops.toArray n (Array.replicate ops.toArray.size false):=
  ⟨by simp,fun j oj _ hl=>(by rw[getD_replicate_false] at hl;cases hl),fun t _ ht=>getD_in (by simpa using ht) (getD_replicate_false _ _)⟩
 have H:=dQ1 (c:={c with named:=1000000}) hg (Q:=Up c Q) hs hk plan _ S a _ inv0 hpl h hf hC;have hdl:(ops.drop n).length=ops.toArray.size-n:=by simp
 have H2:=dQC (Q:=NoPan (Up c Q)) (g:=ops.toArray.size-n) (fun listed' a' w' hL=>by
  obtain⟨hq,S',hf',hk'⟩:=hL;have h2:=bQI (c:=c) hg ops _ _ _ _ hk' hf';have:=wpAny_of_seq (P:=c.g.P) (md:=.any) (ops:=ops.toArray) (Q':=NoPan (Up c Q)) (ops.drop n) n listed' a' w' (fun j=>by simp) (by rw[hdl];exact hq) (bQF (fun e a w hq=>by
   cases e with
   | normal=>exact hq
   | _=>exact absurd hq (by rintro⟨_,_,h⟩;exact h)) h2)
  rwa [hdl] at this) _ _ _ _ H
 rw[hl,show n+(ops.toArray.size-n)=ops.toArray.size by simp;omega] at H2;exact H2
end
end
section
open Go Go.RowKit
theorem tQa (cs:List Nat){c:Cx}{S:Env}{w:World}{Q:cQB}(hg:c.g.Ok){x y:Code}(R:World->Prop)
  (hx:dQX (fQ6 x) S [] (fun S0=>fQ4 {c with cuts:=cs} x S w (fun e S2 w2=>match e with
   | .normal=>Has S0 S2/\R w2
   | e=>Q e S2 w2)))
  (hy:dQX (fQ6 x) S [] (fun S0=>∀w',R w'->fQ4 c y S0 w' Q)):fQp c (.seq x y) S w Q:=by
 rw[gQY] at hx hy;unfold fQp;intro a hf;refine wp_seq (wp_mono (bQN (c:={c with cuts:=cs}) hg x S w _ a hx hf) (fun e a2 w2 hq=>?_));obtain⟨S2,hf2,hq⟩:=hq;cases e with
 | normal=>exact bQN hg y _ w2 Q a2 (hy w2 hq.2) (hq.1.fits hf2)
 | exit i=>exact⟨S2,hf2,hq⟩
 | goto l=>exact⟨S2,hf2,hq⟩
 | ret=>exact⟨S2,hf2,hq⟩
 | panic ch=>exact⟨S2,hf2,hq⟩
 | outgrown=>exact⟨S2,hf2,hq⟩
theorem jQk {a:Addr}{n j:Nat}{i:Int}{K:Addr->Prop}(hi:i=j)(hj:j<n)(k:K (a.add j)):dQz (some a) n i 1 K:=by subst hi;exact index hj k
theorem named {a b:String}{K:Prop}(h:a=b)(k:K):vQS a b K:=by unfold vQS;exact⟨h,k⟩
theorem new {w:World}{t:TypeId}{cs:List Value}{K:Addr->World->Prop}(k:∀w1,Ext w w1->w1.heap.size=w.heap.size+1->Blk w1 w.heap.size t cs->K ⟨w.heap.size,0,none⟩ w1):New w t cs K:=by
 unfold New;exact k _ (Ext.alloc w _) (by simp) (Blk.new w t cs)
theorem add_add (a:Addr)(n m:Nat):(a.add n).add m=a.add (n+m):=by
 unfold Addr.add;split
 ·rename_i h;subst h;simp
 ·split
  ·rename_i h1 h2;subst h2;simp[h1]
  ·rename_i h1 h2;simp[h1,Nat.add_assoc]
theorem iQz:∀(vs cs:List Value),vs.length<=cs.length->pQk vs cs=vs++cs.drop vs.length
 | [],_,_=>rfl
 | v::vs,[],h=>by simp at h
 | v::vs,c::cs,h=>by
  show v::pQk vs cs=_;rw[iQz vs cs (by simpa using h)];rfl
theorem bQ9:∀(n:Nat)(vs cs:List Value),n+vs.length<=cs.length->fQZ n vs cs=cs.take n++vs++cs.drop (n+vs.length)
 | 0,vs,cs,h=>by
  have e:fQZ 0 vs cs=pQk vs cs:=by cases cs<;>rfl
  rw[e,iQz vs cs (by omega)];simp
 | n+1,vs,[],h=>by simp at h
 | n+1,vs,c::cs,h=>by
  show c::fQZ n vs cs=_;rw[bQ9 n vs cs (by simp at h;omega)];rw[show n+1+vs.length=(n+vs.length)+1 by omega];simp
theorem hQp:∀(n:Nat)(vs cs:List Value),n+vs.length<=cs.length->(fQZ n vs cs).length=cs.length:=fun n vs cs h=>by
 rw[bQ9 n vs cs h];simp;omega
theorem bQ2 {P:Program}{w:World}{g t:Nat}{cs vs:List Value}{j:Nat}{K:World->Prop}(h:Blk w g t cs)(hj:j+vs.length<=cs.length)(hsc:∀u∈vs,aQ8 u=true)
  (k:∀w1,w.grownBy w1 (some g)->w1.heap.size=w.heap.size->Blk w1 g t (fQZ j vs cs)->K w1):fQo P w ((⟨g,0,none⟩:Addr).add j) vs K:=by
 unfold fQo;have hst:=run_storeCells_at P g j t vs 0 cs.toArray w h (by simpa using hj) (fun u hu=>eQL (hsc u hu));rw[eQ8];refine⟨_,hst,?_⟩;refine k _ ⟨rfl,rfl,rfl,by simp,fun i _ hi=>setRow_other w g i _ (fun e=>hi (by rw[e]))⟩ (by simp) ?_;have:=setRow_heap w g cs.toArray (cs.toArray.toList.take (j+0)++vs++cs.toArray.toList.drop (j+0+vs.length)).toArray t _ h;unfold Blk;rw[this,bQ9 j vs cs hj];rfl
theorem aQc {P:Program}{w:World}{g t:Nat}{cs vs:List Value}{K:World->Prop}(h:Blk w g t cs)(hl:vs.length=cs.length)(hsc:∀u∈vs,aQ8 u=true)
  (k:∀w1,w.grownBy w1 (some g)->w1.heap.size=w.heap.size->Blk w1 g t vs->K w1):fQo P w ⟨g,0,none⟩ vs K:=by
 have:=bQ2 (P:=P) (j:=0) (K:=K) h (by omega) hsc (fun w1 h1 h2 h3=>k w1 h1 h2 (by
  rw[bQ9 0 vs cs (by omega),hl] at h3;simpa using h3))
 simpa [Addr.add] using this
theorem bQM {w:World}{g t:Nat}{cs vs:List Value}{j n:Nat}{K:List Value->Prop}(h:Blk w g t cs)(hn:vs.length=n)(hv:∀i v,vs[i]? =some v->cs[j+i]? =some v)(k:K vs):jQb w ((⟨g,0,none⟩:Addr).add j) n K:=by
 unfold jQb;exact⟨vs,hn,fun i v hi=>by rw[add_add,h.cell];exact hv i v hi,k⟩
theorem aQd {w:World}{g t:Nat}{cs:List Value}{n:Nat}{K:List Value->Prop}(h:Blk w g t cs)(hn:cs.length=n)(k:K cs):jQb w ⟨g,0,none⟩ n K:=by
 have:=bQM (j:=0) (vs:=cs) (K:=K) h hn (fun i v hi=>by simpa using hi) k;simpa [Addr.add] using this
theorem aQg {w:World}{g t:Nat}{cs:List Value}{v:Value}{K:Value->Prop}(h:Blk w g t cs)(hv:cs[0]? =some v)(k:K v):pQi w ⟨g,0,none⟩ K:=by
 have:=aQe (j:=0) (K:=K) h hv k;simpa [Addr.add] using this
theorem oQv {w:World}{g t:Nat}{cs:List Value}{v:Value}{K:World->Prop}(h:Blk w g t cs)(hj:0<cs.length)(k:∀w1,w.grownBy w1 (some g)->Blk w1 g t (cs.set 0 v)->K w1):hQg w ⟨g,0,none⟩ v K:=by
 have:=fQs (j:=0) (v:=v) (K:=K) h hj k;simpa [Addr.add] using this
section
variable {α:Type} {f:α->List Value} {sz:Nat}
theorem aQ5 (hf:∀x,(f x).length=sz):∀(l:List α),(l.flatMap f).length=l.length*sz
 | []=>by simp
 | x::l=>by simp[hf,aQ5 hf l,Nat.succ_mul,Nat.add_comm]
theorem cQd (hf:∀x,(f x).length=sz):∀(l:List α)(j:Nat)(x:α)(i:Nat)(v:Value),l[j]? =some x->(f x)[i]? =some v->(l.flatMap f)[j*sz+i]? =some v
 | [],j,x,i,v,h,_=>by simp at h
 | y::l,0,x,i,v,h,hi=>by
  simp at h;subst h;have:i<(f y).length:=(List.getElem?_eq_some_iff.1 hi).1;rw[List.flatMap_cons,List.getElem?_append_left (by simpa using this)];simpa using hi
 | y::l,j+1,x,i,v,h,hi=>by
  rw[List.flatMap_cons,List.getElem?_append_right (by rw[hf];rw[Nat.succ_mul];omega),hf];rw[show(j+1)*sz+i-sz=j*sz+i by rw[Nat.succ_mul];omega];exact cQd hf l j x i v (by simpa using h) hi
def SlS (f:α->List Value)(sz:Nat)(w:World)(A:Option Addr)(n c:Nat)(l:List α):Prop:=Sl w sz A n c (l.flatMap f)/\l.length=n
theorem SlS.len {w:World}{A:Option Addr}{n c:Nat}{l:List α}(h:SlS f sz w A n c l):l.length=n:=h.2
theorem SlS.ext {w w':World}{A:Option Addr}{n c:Nat}{l:List α}(h:SlS f sz w A n c l)(k:Ext w w'):SlS f sz w' A n c l:=⟨h.1.ext k,h.2⟩
theorem SlS.nil (w:World):SlS f sz w none 0 0 []:=⟨Sl.nil w sz,rfl⟩
theorem SlS.cell (hf:∀x,(f x).length=sz){w:World}{A:Option Addr}{n c:Nat}{l:List α}(h:SlS f sz w A n c l){j:Nat}{x:α}(hj:l[j]? =some x):
  ∃ad,A=some ad/\∀i v,(f x)[i]? =some v->w.cell? ((ad.add (j*sz)).add i)=some v:=by
 have hlt:j<l.length:=(List.getElem?_eq_some_iff.1 hj).1;obtain⟨ad,rfl,hc⟩:=h.1.at_ (by have:=h.2;omega);exact⟨ad,rfl,fun i v hi=>by rw[add_add];exact hc _ _ (cQd hf l j x i v hj hi)⟩
theorem aQp (hf:∀x,(f x).length=sz){w:World}{A:Option Addr}{n c:Nat}{l:List α}{i:Int}{j:Nat}{K:Addr->Prop}(h:SlS f sz w A n c l)(hi:i=j)(hj:j<n)
  (k:∀p x,l[j]? =some x->(∀i v,(f x)[i]? =some v->w.cell? (p.add i)=some v)->K p):dQz A n i sz K:=by
 subst hi;have hlt:j<l.length:=by rw[h.2];exact hj
 have hx:l[j]? =some l[j]:=List.getElem?_eq_getElem hlt;obtain⟨ad,rfl,hc⟩:=h.cell hf hx;unfold dQz;exact⟨ad,rfl,by omega,by omega,by simpa using k _ _ hx hc⟩
theorem aQK {w:World}{p:Addr}{vs:List Value}{n:Nat}{K:List Value->Prop}(hn:vs.length=n)(h:∀i v,vs[i]? =some v->w.cell? (p.add i)=some v)(k:K vs):jQb w p n K:=by
 unfold jQb;exact⟨vs,hn,h,k⟩
end
theorem jQl {P:Program}{w w1:World}{t ty e:TypeId}{i:TypeInfo}{z:Value}{bytes base n m cc sz:Nat}{v v':Value}{xs ys:List Value}(ht:P.underlying t=some (.slice e))(hi:P.info? e=some i)(hz:i.zero=some z)(hs:i.size=sz)(hby:i.bytes=bytes)
  (hown:w.ownsRow base e sz v n xs) (b:Addr) (hm:0<m) (hl:ys.length=m*sz) (hcell:∀j u,ys[j]? =some u->w.cell? (b.add j)=some u) (h1:∀u∈ys,u.oneCell'=true) (h63:n+m<=maxLen) (hbytes:(n+m)*bytes<=140737488355328)
  (hrun:(Builtin.append_ #[t,t] ty #[v,.slice (some b) m cc]).run P w= .ok v' w1):∀g',v'.ownBlock=some g'->v.ownBlock=some g'∨w.heap.size<=g':=by
 intro g' hg';subst hby;have hsmall:n+m<=9223372036854775807:=by simp only[maxLen] at h63;omega
 rcases hown.2 with⟨rfl,rfl⟩ | ⟨g,cap,cur,rfl,hbg,hg,hnc,hcm,hcs,htake⟩
 ·have hr:=run_append_nil (P:=P) w t ty e i z ht hi hz b m cc ys (by rw[hl,hs]) hcell (by omega) (by omega) (by have hb:=hbytes;simp only[Nat.zero_add] at hb;omega);rw[hr] at hrun;cases hrun;simp[Value.ownBlock] at hg';exact .inr (by omega)
 ·by_cases hroom:n+m<=cap
  ·have hr:=run_append_room (P:=P) w t ty e i ht hi g n cap cur hg b m cc ys (by rw[hl,hs]) hcell h1 hroom (by rw[hl,hs,hcs,<-Nat.add_mul];exact Nat.mul_le_mul_right _ hroom);rw[hr] at hrun;cases hrun;exact .inl hg'
  ·have holds:∀j u,xs[j]? =some u->w.cell? ((⟨g,0,none⟩:Addr).add j)=some u:=hown.cells (g:=g) rfl
   have hr:=run_append_grow (P:=P) w t ty e i z ht hi hz ⟨g,0,none⟩ n cap xs (by rw[hs];exact hown.1) holds b m cc ys (by rw[hl,hs]) hcell (by omega) (by omega) (growslice_fits (by omega) hbytes);rw[hr] at hrun;cases hrun;simp[Value.ownBlock] at hg';exact .inr (by omega)
theorem oQw {c:Cx}(hg:c.g.Ok){o:Oper}{S:Env}{w:World}{K:Env->World->Prop}{Q:cQB}{t t2 e sz:Nat}{x y:Operand}{A B:Option Addr}{n cp:Nat}{m c2:Nat}{xs ys:List Value}{base:Nat}{r re r2:TyRow}
  (ho:o.op= .call ⟨.builtin .append, #[x,y], #[t,t2]⟩) (hr:aQA c.g.tys t=some r) (hd:r.d= .slice e) (hre:aQA c.g.tys e=some re) (hs:re.sz=sz) (hsz0:0<sz) (hzc:re.z.cells.size=sz) (hr2:aQA c.g.tys t2=some r2) (hd2:∃e2,r2.d= .slice e2)
  (hx:S.ev x=some (.slice A n cp)) (hy:S.ev y=some (.slice B m c2)) (hown:Own w base e sz A n cp xs) (hys:Sl w sz B m c2 ys) (hsc:∀u∈ys,aQ8 u=true)
  (h63:n+m<=maxLen) (hby:(n+m)*re.by_<=140737488355328) (hbase:base<=w.heap.size)
  (k:∀A' c' w1,w.grownBy w1 (Value.slice A n cp).ownBlock->Own w1 base e sz A' (n+m) c' (xs++ys)->(∀ad,A'=some ad->A=some ad∨w.heap.size<=ad.block)->bQq c S o.dst (.v (.slice A' (n+m) c')) (fun S=>K S w1)):cQv c o S w K Q:=by
 obtain⟨_,i,hi,hsz,hbyt,hiz⟩:=hg.row hre;have hr':=(hg.row hr).1;rw[hd] at hr';obtain⟨e2,hd2⟩:=hd2;have hr2':=(hg.row hr2).1;rw[hd2] at hr2';have hlen:ys.length=m*sz:=hys.len;unfold cQv;intro a hf;have e1:=hf.ev hx;have e2':=hf.ev hy;have key:∃v' w1,(Builtin.append_ #[t,t] o.type #[.slice A n cp,.slice B m c2]).run c.g.P w= .ok v' w1/\w1.ownsRow base e sz v' (n+m) (xs++ys)/\w.grownBy w1 (Value.slice A n cp).ownBlock/\(∀g',v'.ownBlock=some g'->(Value.slice A n cp).ownBlock=some g'∨w.heap.size<=g'):=by
  by_cases h0:m=0
  ·subst h0;have hnil:ys=[]:=List.eq_nil_of_length_eq_zero (by omega);subst hnil;have hle:n<=cp:=hown.sl.le;refine⟨.slice A n cp,w,?_,by simpa using hown.row,⟨rfl,rfl,rfl,Nat.le_refl _,fun _ _ _=>rfl⟩,fun _ h=>.inl h⟩;cases A<;>cases B<;>simp[Builtin.append_,run_underlying hr',sizeOf,typeInfo,hi,Builtin.lenOf,hle,Builtin.firstCells,loadCells,loadCellsFrom,storeCells]
  ·obtain⟨b,rfl,hcell⟩:=hys.at_ (by omega);obtain⟨v',w1,hrun,how,hgr,_⟩:=run_append_own (P:=c.g.P) (w:=w) base t o.type e i re.z sz re.by_ hr' hi hiz (by rw[hsz,hs]) hbyt hzc hsz0 _ n xs hown.row b m c2 ys hlen hcell (fun u hu=>eQL (hsc u hu)) h63 hby hbase;exact⟨v',w1,hrun,how,hgr,jQl hr' hi hiz (by rw[hsz,hs]) hbyt hown.row b (by omega) hlen hcell (fun u hu=>eQL (hsc u hu)) h63 hby hrun⟩
 obtain⟨v',w1,hrun,how,hgr,hblk⟩:=key;obtain⟨A',c',rfl,hown'⟩:=Own.form how;have hblk':∀ad,A'=some ad->A=some ad∨w.heap.size<=ad.block:=fun ad e=>by
  subst e;rcases hblk ad.block rfl with h | h
  ·left
   rcases hown.row.2 with⟨hv,_⟩ | ⟨g,cap,cur,hv,_⟩
   ·cases hv;simp[Value.ownBlock] at h
   ·cases hv;rcases how.2 with⟨hv,_⟩ | ⟨g2,cap2,cur2,hv2,_⟩
    ·cases hv
    ·cases hv2;simp[Value.ownBlock] at h;rw[h]
  ·exact .inr h
 refine bQA (v:=.slice A' (n+m) c') (w':=w1) ?_ (aQo (e:=.v _) (k A' c' w1 hgr hown' hblk') hf);have hsame:(Builtin.append_ #[t,t2] o.type #[.slice A n cp,.slice B m c2]).run c.g.P w=(Builtin.append_ #[t,t] o.type #[.slice A n cp,.slice B m c2]).run c.g.P w:=by
  simp[Builtin.append_,run_underlying hr',run_underlying hr2']
 simp only[execOp,ho,resolve,invoke];simp[builtin,e1,e2',hsame,hrun]
theorem gQP {P:Program}{w w1:World}{t u ty e:TypeId}{i:TypeInfo}{base n:Nat}{v v':Value}{xs:List Value}(ht:P.underlying t=some (.slice e))(hu:P.underlying u=some .string)(hi:P.info? e=some i)(hz:i.zero=some (.int .u8 0))(hs:i.size=1)(hby:i.bytes=1)
  (hown:w.ownsRow base e 1 v n xs) (s:ByteArray) (hbytes:n+s.size<=140737488355328)
  (hrun:(Builtin.append_ #[t,u] ty #[v,.string s]).run P w= .ok v' w1):∀g',v'.ownBlock=some g'->v.ownBlock=some g'∨w.heap.size<=g':=by
 intro g' hg';have hxl:xs.length=n:=by simpa using hown.1
 rcases hown.2 with⟨rfl,rfl⟩ | ⟨g,cap,cur,rfl,hbg,hg,hnc,hcm,hcs,htake⟩
 ·by_cases hm:s.size=0
  ·have hf:=Lib.run_firstCells_string (P:=P) w 1 s;rw[hm] at hf;have:(Builtin.append_ #[t,u] ty #[.slice none 0 0,.string s]).run P w= .ok (.slice none 0 0) w:=by
    simp[Builtin.append_,run_underlying ht,run_underlying hu,sizeOf,typeInfo,hi,hs,Builtin.lenOf,hm,hf]
   rw[this] at hrun;cases hrun;simp[Value.ownBlock] at hg'
  ·have hr:=run_append_nil_string (P:=P) w t u ty e i (.int .u8 0) ht hu hi hz s (by omega) (by omega) (by rw[hby];omega);rw[hr] at hrun;cases hrun;simp[Value.ownBlock] at hg';exact .inr (by omega)
 ·by_cases hroom:n+s.size<=cap
  ·have hcs':cur.size=cap:=by simpa using hcs
   have hr:=Lib.run_append_room_string (P:=P) w t u ty e i ht hu hi hs g n cap cur hg s hroom (by omega);rw[hr] at hrun;cases hrun;exact .inl hg'
  ·have holds:∀j u,xs[j]? =some u->w.cell? ((⟨g,0,none⟩:Addr).add j)=some u:=hown.cells (g:=g) rfl
   have hr:=Lib.run_append_grow_string (P:=P) w t u ty e i (.int .u8 0) ht hu hi hz ⟨g,0,none⟩ n cap xs (by rw[hs];simpa using hxl) holds s (by omega) (by omega) (by rw[hby];exact growslice_fits (by omega) (by omega));rw[hr] at hrun;cases hrun;simp[Value.ownBlock] at hg';exact .inr (by omega)
theorem jQm {c:Cx}(hg:c.g.Ok){o:Oper}{S:Env}{w:World}{K:Env->World->Prop}{Q:cQB}{t t2 e:Nat}{x y:Operand}{A:Option Addr}{n cp:Nat}{s:ByteArray}{xs:List Value}{base:Nat}{r re r2:TyRow}
  (ho:o.op= .call ⟨.builtin .append, #[x,y], #[t,t2]⟩) (hr:aQA c.g.tys t=some r) (hd:r.d= .slice e) (hre:aQA c.g.tys e=some re) (hs:re.sz=1) (hzc:re.z= .int .u8 0) (hbt:re.by_=1) (hr2:aQA c.g.tys t2=some r2) (hd2:r2.d= .string)
  (hx:S.ev x=some (.slice A n cp)) (hy:S.ev y=some (.string s)) (hown:Own w base e 1 A n cp xs)
  (h63:n+s.size<=140737488355328) (hbase:base<=w.heap.size)
  (k:∀A' c' w1,w.grownBy w1 (Value.slice A n cp).ownBlock->Own w1 base e 1 A' (n+s.size) c' (xs++Lib.strCells s)->(∀ad,A'=some ad->A=some ad∨w.heap.size<=ad.block)->bQq c S o.dst (.v (.slice A' (n+s.size) c')) (fun S=>K S w1)):cQv c o S w K Q:=by
 obtain⟨_,i,hi,hsz,hbyt,hiz⟩:=hg.row hre;have hr':=(hg.row hr).1;rw[hd] at hr';have hr2':=(hg.row hr2).1;rw[hd2] at hr2';unfold cQv;intro a hf;have e1:=hf.ev hx;have e2':=hf.ev hy;obtain⟨v',w1,hrun,how,hgr,_⟩:=Lib.run_append_own_string (P:=c.g.P) (w:=w) base t t2 o.type e i hr' hr2' hi (by rw[hiz,hzc]) (by rw[hsz,hs]) (by rw[hbyt,hbt]) _ n xs hown.row s (by unfold maxLen;omega) h63 hbase;have hblk:=gQP hr' hr2' hi (by rw[hiz,hzc]) (by rw[hsz,hs]) (by rw[hbyt,hbt]) hown.row s h63 hrun;obtain⟨A',c',rfl,hown'⟩:=Own.form how;have hblk':∀ad,A'=some ad->A=some ad∨w.heap.size<=ad.block:=fun ad e=>by
  subst e;rcases hblk ad.block rfl with h | h
  ·left
   rcases hown.row.2 with⟨hv,_⟩ | ⟨g,cap,cur,hv,_⟩
   ·cases hv;simp[Value.ownBlock] at h
   ·cases hv;rcases how.2 with⟨hv,_⟩ | ⟨g2,cap2,cur2,hv2,_⟩
    ·cases hv
    ·cases hv2;simp[Value.ownBlock] at h;rw[h]
  ·exact .inr h
 refine bQA (v:=.slice A' (n+s.size) c') (w':=w1) ?_ (aQo (e:=.v _) (k A' c' w1 hgr hown' hblk') hf);simp only[execOp,ho,resolve,invoke];simp[builtin,e1,e2',hrun]
def pQn:Nat->List (List Value)->List (Nat×Value)->Prop
 | _,[],[]=>True
 | n,cs::l,(i,v)::r=>i=n/\bQd v=cs/\pQn (n+1) l r
 | _,_,_=>False
theorem iQA {sz:Nat}{z:List Value}(hz:z.length=sz):∀(parts:List (Nat×Value))(n:Nat)(l:List (List Value))(pre:List Value),pQn n l parts->(∀cs∈l,cs.length=sz)->pre.length=n*sz->
  Instr.fill (fun i=>some (i*sz,sz)) (pre++(List.replicate l.length z).flatten).toArray parts=some (pre++l.flatten).toArray
 | [],n,[],pre,_,_,_=>by simp[Instr.fill]
 | [],n,_::_,pre,h,_,_=>h.elim
 | _::_,n,[],pre,h,_,_=>h.elim
 | (i,v)::parts,n,cs::l,pre,h,hl,hp=>by
  obtain⟨rfl,rfl,h'⟩:=h;have hc:(bQd v).length=sz:=hl _ (by simp);have hcs:v.cells.size=sz:=by rw[<-hc,<-bQW];simp
  have hcond:¬((v.cells.size≠sz||i*sz+v.cells.size>(pre++(List.replicate (bQd v::l).length z).flatten).toArray.size)=true):=by
   rw[hcs];simp[hp,List.replicate_succ,hz]
  unfold Instr.fill;simp only;rw[if_neg hcond];have e:(v.cells.zipIdx.foldl (fun cs (c,j)=>cs.setIfInBounds (i*sz+j) c) (pre++(List.replicate (bQd v::l).length z).flatten).toArray)=((pre++bQd v)++(List.replicate l.length z).flatten).toArray:=by
   apply Array.ext';rw[hQk,bQW,bQ9 _ _ _ (by simp[hp,List.replicate_succ,hz,hc])];simp only[List.length_cons,List.replicate_succ,List.flatten_cons];rw[List.take_append,List.drop_append,hp];simp only[Nat.sub_self,List.take_zero,List.append_nil];rw[List.take_of_length_le (by omega),List.drop_of_length_le (by omega),List.nil_append];rw[show i*sz+(bQd v).length-i*sz=sz by omega,List.drop_append,hz,Nat.sub_self,List.drop_zero,List.drop_of_length_le (by omega)];simp
  rw[e];have:=iQA hz parts (i+1) l (pre++bQd v) h' (fun cs hcs=>hl cs (by simp[hcs])) (by rw[List.length_append,hp,hc,Nat.succ_mul]);rw[this];simp
theorem iQB (z:List Value)(hz:0<z.length):∀(n:Nat),(List.range (n*z.length)).map (fun j=>z.toArray[j % z.length]!)=(List.replicate n z).flatten
 | 0=>by simp
 | n+1=>by
  rw[Nat.succ_mul,List.range_add,List.map_append,iQB z hz n,List.replicate_succ',List.flatten_append];congr 1;simp only[List.map_map,List.flatten_cons,List.flatten_nil,List.append_nil];apply List.ext_getElem
  ·simp
  ·intro i h1 h2;simp at h1;simp[Nat.mod_eq_of_lt h1,h1]
theorem aQl {c:Cx}(hg:c.g.Ok){o:Oper}{S:Env}{w:World}{K:Env->World->Prop}{Q:cQB}{t e n:Nat}{r re:TyRow}{ps:Array (Nat×Operand)}{vs:List (Nat×Value)}(l:List (List Value))
  (ho:o.op= .buildSlice t n ps) (hr:aQA c.g.tys t=some r) (hd:r.d= .slice e) (hre:aQA c.g.tys e=some re) (hv:evP S ps.toList=some vs) (hb:pQn 0 l vs) (hn:l.length=n) (hl:∀cs∈l,cs.length=re.sz) (hz:(bQd re.z).length=re.sz) (hsz:0<re.sz) (hbig:n*re.sz<=16777216)
  (k:∀w1,Ext w w1->w1.heap.size=w.heap.size+1->Blk w1 w.heap.size e l.flatten->bQq c S o.dst (.v (.slice (some ⟨w.heap.size,0,none⟩) n n)) (fun S=>K S w1)):cQv c o S w K Q:=by
 obtain⟨_,i,hi,hsi,hbyt,hiz⟩:=hg.row hre;have hr':=(hg.row hr).1;rw[hd] at hr';subst hn;refine aQ9 (w':=w.alloc (.cells l.flatten.toArray e)) (fun a hf=>?_) (k _ (Ext.alloc w _) (by simp) (Blk.new w e l.flatten));have hpm:=jQc (ρ:=a.eval) (fun x v h=>hf.ev h) _ _ hv;have hpm':(ps.map fun(x:Nat×Operand)=>(x.1,a.eval x.2)).toList=vs:=by rw[Array.toList_map];exact hpm
 have hzc:re.z.cells=(bQd re.z).toArray:=by rw[<-bQW]
 have hfill:=iQA hz vs 0 l [] hb hl (by simp);simp only[List.nil_append] at hfill;have hzs:=iQB (bQd re.z) (by rw[hz];exact hsz) l.length;rw[hz] at hzs;simp only[execOp,ho,Instr.buildSlice];rw[show(ps.map fun(x:Nat×Operand)=>(x.1,a.eval x.2)).toList=vs from hpm'];have h24:¬l.length*re.sz>2^24:=by omega
 by_cases h0:l.length=0
 ·have hnil:l=[]:=List.eq_nil_of_length_eq_zero h0;subst hnil;cases vs with
  | cons p vs=>exact hb.elim
  | nil=>simp[run_underlying hr',sizeOf,typeInfo,hi,Instr.fill,newRow,Array.range_zero']
 ·have h1:¬(l.length*re.sz=0):=by
   intro h;rcases Nat.mul_eq_zero.1 h with h | h<;>omega
  have hmap:(Array.range (l.length*re.sz)).map (fun j=>(bQd re.z).toArray[j % (bQd re.z).toArray.size]!)=(List.replicate l.length (bQd re.z)).flatten.toArray:=by
   apply Array.ext';rw[Array.toList_map,Array.toList_range];simpa [hz] using hzs
  simp only[Sem.run_bind,run_underlying hr',Result.andThen_ok,sizeOf,typeInfo,run_program,hi,Sem.run_pure,hsi,if_neg h24,if_neg h1,zeroValue,hiz,hzc];rw[hmap];simp only[hfill];simp[newRow]
def eQM:TypeDesc->Nat
 | .int _=>0
 | .string=>1
 | .bool=>2
 | _=>1000
structure KeyV {α:Type} [DecidableEq α] (d:TypeDesc) (kv:α->Value):Prop where
 same:∀a b,Instr.sameNow d (kv a) (kv b)=some (decide (a=b))
 bits:∀a n,Instr.sameBits n (kv a) (kv a)=true
 plain:eQM d<3
theorem KeyV.int (k:IntKind):KeyV (.int k) (fun n:Int=>.int k n):=⟨fun a b=>by simp[Instr.sameNow];rfl,fun a n=>by cases n<;>simp[Instr.sameBits],by simp[eQM]⟩
theorem zQF:KeyV .string (fun s:ByteArray=>.string s):=⟨fun a b=>by
  simp only[Instr.sameNow,Option.some.injEq];rw[beq_toListBytes,eQi],fun a n=>by cases n<;>(simp only[Instr.sameBits];rw[beq_toListBytes,eQi];simp),by simp[eQM]⟩
theorem KeyV.bool:KeyV .bool (fun b:Bool=>.bool b):=⟨fun a b=>by simp only[Instr.sameNow];cases a<;>cases b<;>rfl,fun a n=>by cases n<;>simp[Instr.sameBits],by simp[eQM]⟩
def aQS {α:Type} [DecidableEq α](a:α):List (α×Value)->Option Value
 | []=>none
 | (b,v)::l=>if a=b then some v else aQS a l
def aQs {α:Type} [DecidableEq α](a:α)(v:Value):List (α×Value)->List (α×Value)
 | []=>[(a,v)]
 | (b,u)::l=>if a=b then(b,v)::l else(b,u)::aQs a v l
theorem bQe {α:Type} [DecidableEq α](a b:α)(v:Value):∀l,aQS b (aQs a v l)=if b=a then some v else aQS b l
 | []=>by simp[aQs,aQS]
 | (d,u)::l=>by
  simp only[aQs];split
  ·rename_i h;subst h;simp only[aQS];split<;>rfl
  ·rename_i h;simp only[aQS,bQe a b v l];by_cases h1:b=d
   ·subst h1;rw[if_pos rfl,if_neg (fun e=>h e.symm)];simp
   ·rw[if_neg h1,if_neg h1]
def aQI {α:Type}(kv:α->Value)(m:List (α×Value))(bs:List Nat):List MapEntry:=(m.zip bs).map fun p=>{key:=kv p.1.1,val:=p.1.2,born:=p.2}
structure MapAt {α:Type} (kv:α->Value) (w:World) (r:Nat) (m:List (α×Value)):Prop where
 ex:∃bs ck,bs.length=m.length/\w.heap[r]? =some (.map (aQI kv m bs).toArray ck)
theorem MapAt.ext {α:Type}{kv:α->Value}{w w':World}{r:Nat}{m:List (α×Value)}(h:MapAt kv w r m)(k:Ext w w'):MapAt kv w' r m:=by
 obtain⟨bs,ck,hl,hb⟩:=h.ex;exact⟨bs,ck,hl,(k.block r (Array.getElem?_eq_some_iff.1 hb).1 (by simp)).trans hb⟩
theorem MapAt.lt {α:Type}{kv:α->Value}{w:World}{r:Nat}{m:List (α×Value)}(h:MapAt kv w r m):r<w.heap.size:=by
 obtain⟨bs,ck,hl,hb⟩:=h.ex;exact(Array.getElem?_eq_some_iff.1 hb).1
section
variable {α:Type} [DecidableEq α] {d:TypeDesc} {kv:α->Value}
theorem dQD {α:Type}{c:Cx}(_:c.g.Ok){o:Oper}{S:Env}{w:World}{K:Env->World->Prop}{Q:cQB}{t:Nat}(kv:α->Value)(ho:o.op= .makeMap t none)
  (k:∀w1,Ext w w1->w1.heap.size=w.heap.size+1->MapAt kv w1 w.heap.size []->bQq c S o.dst (.v (.map (some w.heap.size))) (fun S=>K S w1)):cQv c o S w K Q:=by
 refine aQ9 (w':=w.alloc (.map #[] 0)) (fun a hf=>?_) (k _ (Ext.alloc w _) (by simp) ⟨[],0,rfl,heap_alloc_new w _⟩);simp[execOp,ho,Instr.makeMap]
theorem bQs {P:Program}{t:TypeId}(hu:P.underlying t=some d)(hd:eQM d<3)(b:Bool)(n:Nat)(v:Value)(w:World):(Instr.checkKey b (n+1) t v).run P w= .ok () w:=by
 simp only[Instr.checkKey,Sem.run_bind,run_underlying hu,Result.andThen_ok];cases d<;>first | (simp[eQM] at hd;done) | rfl
theorem eQm (hk:KeyV d kv)(a:α):∀(m:List (α×Value))(bs:List Nat)(i:Nat),bs.length=m.length->
  ∃r,Instr.findNow d (kv a) (aQI kv m bs) i=some r/\r.map (·.2)=aQS a m/\(∀j v,r=some (j,v)->i<=j/\j<i+m.length/\∀v',aQI kv (aQs a v' m) bs=(aQI kv m bs).modify (j-i) (fun e=>{e with key:=kv a,val:=v'})/\((aQI kv m bs)[j-i]?).map (·.key)=some (kv a))/\(r=none->∀v',aQs a v' m=m++ [(a,v')])
 | [],bs,i,h=>⟨none,rfl,rfl,(fun j v h=>by cases h),fun _ v'=>rfl⟩
 | (b,u)::m,[],i,h=>by simp at h
 | (b,u)::m,s::bs,i,h=>by
  have e:aQI kv ((b,u)::m) (s::bs)={key:=kv b,val:=u,born:=s}::aQI kv m bs:=rfl;rw[e];unfold Instr.findNow;simp only[hk.same];by_cases hab:a=b
  ·subst hab;simp only[decide_true];refine⟨some (i,u),rfl,by simp[aQS],fun j v hj=>?_,fun h=>by cases h⟩;cases hj;refine⟨Nat.le_refl _,by simp,fun v'=>?_⟩;simp[aQs,aQI]
  ·simp only[hab,decide_false];obtain⟨r,h1,h2,h3,h4⟩:=eQm hk a m bs (i+1) (by simpa using h);refine⟨r,h1,by simp[aQS,hab,h2],fun j v hj=>?_,fun hn v'=>by simp[aQs,hab,h4 hn v']⟩;obtain⟨h5,h6,h7⟩:=h3 j v hj;refine⟨by omega,by simp;omega,fun v'=>?_⟩;obtain⟨h8,h9⟩:=h7 v';rw[show j-i=(j-(i+1))+1 by omega];refine⟨?_,by simpa using h9⟩;simp only[aQs,hab,if_false];rw[show aQI kv ((b,u)::aQs a v' m) (s::bs)={key:=kv b,val:=u,born:=s}::aQI kv (aQs a v' m) bs from rfl,h8];simp
variable {c:Cx} (hg:c.g.Ok) {o:Oper} {S:Env} {w:World} {K:Env->World->Prop} {Q:cQB} {t ke e:Nat} {r rk re:TyRow} {x y:Operand} {q:Nat} {m:List (α×Value)} {a:α}
include hg
theorem fQ9 (hr:aQA c.g.tys t=some r)(hd:r.d= .map ke e)(hrk:aQA c.g.tys ke=some rk)(hre:aQA c.g.tys e=some re)(hk:KeyV rk.d kv)(hm:MapAt kv w q m)(ok:Bool):
  (Instr.lookup t (.map (some q)) (kv a) ok).run c.g.P w= .ok (match aQS a m with
   | some v=>if ok then .tuple #[v,.bool true] else v
   | none=>if ok then .tuple #[re.z,.bool false] else re.z) w:=by
 have hr':=(hg.row hr).1;rw[hd] at hr';have hrk':=(hg.row hrk).1;obtain⟨_,i,hi,_,_,hz⟩:=hg.row hre;obtain⟨bs,ck,hl,hb⟩:=hm.ex;obtain⟨res,h1,h2,_,_⟩:=eQm hk a m bs 0 hl;have hgo:(getObj q).run c.g.P w= .ok (.map (aQI kv m bs).toArray ck) w:=by simp[getObj,Sem.run,hb]
 simp only[Instr.lookup,Sem.run_bind,run_underlying hr',Result.andThen_ok,hgo];simp only[Sem.run_pure,Result.andThen_ok,bQs hrk' hk.plain,Instr.findKey,Sem.run_bind,run_underlying hrk',h1];cases res with
 | none=>
  have:aQS a m=none:=by simpa using h2.symm
  rw[this];cases ok<;>simp[zeroValue,typeInfo,hi,hz]
 | some p=>
  have:aQS a m=some p.2:=by simpa using h2.symm
  rw[this];cases ok<;>simp
theorem pQo (ho:o.op= .lookup t x y false)(hr:aQA c.g.tys t=some r)(hd:r.d= .map ke e)(hrk:aQA c.g.tys ke=some rk)(hre:aQA c.g.tys e=some re)(hk:KeyV rk.d kv)
  (hx:S.ev x=some (.map (some q))) (hy:S.ev y=some (kv a)) (hm:MapAt kv w q m) (k:bQq c S o.dst (.v ((aQS a m).getD re.z)) (fun S=>K S w)):cQv c o S w K Q:=by
 refine aQ9 (w':=w) (v:=(aQS a m).getD re.z) (fun b hf=>?_) k;have e1:=hf.ev hx;have e2:=hf.ev hy;have:=fQ9 (w:=w) (a:=a) hg hr hd hrk hre hk hm false;simp only[execOp,ho,e1,e2];simp only[Sem.run_bind,this,Result.andThen_ok];cases aQS a m<;>simp
theorem kQN (ho:o.op= .lookup t x y true)(hr:aQA c.g.tys t=some r)(hd:r.d= .map ke e)(hrk:aQA c.g.tys ke=some rk)(hre:aQA c.g.tys e=some re)(hk:KeyV rk.d kv)
  (hx:S.ev x=some (.map (some q))) (hy:S.ev y=some (kv a)) (hm:MapAt kv w q m) (k:bQq c S o.dst (.v (.tuple #[(aQS a m).getD re.z,.bool (aQS a m).isSome])) (fun S=>K S w)):cQv c o S w K Q:=by
 refine aQ9 (w':=w) (v:=.tuple #[(aQS a m).getD re.z,.bool (aQS a m).isSome]) (fun b hf=>?_) k;have e1:=hf.ev hx;have e2:=hf.ev hy;have:=fQ9 (w:=w) (a:=a) hg hr hd hrk hre hk hm true;simp only[execOp,ho,e1,e2];simp only[Sem.run_bind,this,Result.andThen_ok];cases aQS a m<;>simp
theorem bQt {v:Value}{z:Operand}(ho:o.op= .mapUpdate t x y z)(hdst:o.dst=none)(hr:aQA c.g.tys t=some r)(hd:r.d= .map ke e)(hrk:aQA c.g.tys ke=some rk)(hk:KeyV rk.d kv)
  (hx:S.ev x=some (.map (some q))) (hy:S.ev y=some (kv a)) (hz:S.ev z=some v) (hm:MapAt kv w q m)
  (k:∀w1,w.grownBy w1 (some q)->w1.heap.size=w.heap.size->MapAt kv w1 q (aQs a v m)->K S w1):cQv c o S w K Q:=by
 have hr':=(hg.row hr).1;rw[hd] at hr';have hrk':=(hg.row hrk).1;obtain⟨bs,ck,hl,hb⟩:=hm.ex;have hlt:q<w.heap.size:=(Array.getElem?_eq_some_iff.1 hb).1;obtain⟨res,h1,h2,h3,h4⟩:=eQm hk a m bs 0 hl;have hgo:(getObj q).run c.g.P w= .ok (.map (aQI kv m bs).toArray ck) w:=by simp[getObj,Sem.run,hb]
 have hset:∀ob,(setObj q ob).run c.g.P w= .ok () {w with heap:=w.heap.setIfInBounds q ob}:=fun ob=>by simp[setObj,Sem.run,hb]
 have main:∃ob,(Instr.mapUpdate t (.map (some q)) (kv a) v).run c.g.P w= .ok () {w with heap:=w.heap.setIfInBounds q ob}/\∃bs' ck',bs'.length=(aQs a v m).length/\ob= .map (aQI kv (aQs a v m) bs').toArray ck':=by
  cases res with
  | none=>
   refine⟨_,?_,bs++ [ck],ck+1,?_,rfl⟩
   ·simp only[Instr.mapUpdate,Sem.run_bind,run_underlying hr',Result.andThen_ok,hgo,bQs hrk' hk.plain,Instr.findKey,run_underlying hrk',h1,Sem.run_pure,hset];rw[h4 rfl v];congr 4;simp only[aQI];rw[List.zip_append hl.symm,List.map_append];simp
   ·rw[h4 rfl v];simp[hl]
  | some p=>
   obtain⟨j,u⟩:=p;obtain⟨_,hj,h7⟩:=h3 j u rfl;obtain⟨h8,h9⟩:=h7 v;simp only[Nat.sub_zero] at h8 h9;have hkey:(((aQI kv m bs).toArray[j]?).map (·.key)).getD (kv a)=kv a:=by
    rw[show(aQI kv m bs).toArray[j]? =(aQI kv m bs)[j]? from by simp,h9];rfl
   refine⟨_,?_,bs,ck,?_,rfl⟩
   ·simp only[Instr.mapUpdate,Sem.run_bind,run_underlying hr',Result.andThen_ok,hgo,bQs hrk' hk.plain,Instr.findKey,run_underlying hrk',h1,Sem.run_pure,hkey,Instr.keyThatStays,hk.bits,if_true,hset];rw[h8];congr 4;simp
   ·have:=congrArg List.length h8;simp only[aQI,List.length_map,List.length_zip,List.length_modify] at this;have hlen:(aQs a v m).length=m.length:=by
     have hmin:∀(m:List (α×Value)),(aQS a m).isSome->(aQs a v m).length=m.length:=by
      intro m;induction m with
      | nil=>intro h;simp[aQS] at h
      | cons p m ih=>
       obtain⟨b,x⟩:=p;intro h;simp only[aQs];split
       ·simp
       ·rename_i hab;simp[ih (by simpa [aQS,hab] using h)]
     exact hmin m (by rw[<-h2];rfl)
    rw[hlen,hl]
 obtain⟨ob,hrun,bs',ck',hl',rfl⟩:=main;unfold cQv;intro b hf;have e1:=hf.ev hx;have e2:=hf.ev hy;have e3:=hf.ev hz;unfold Oper.wp;have:(execOp b.eval o).run c.g.P w= .ok .skip {w with heap:=w.heap.setIfInBounds q (.map (aQI kv (aQs a v m) bs').toArray ck')}:=by
  simp only[execOp,ho,e1,e2,e3];simp[hrun]
 rw[this];refine⟨S,by rw[hdst];simpa [Act.put] using hf,k _ ⟨rfl,rfl,rfl,by simp,fun i _ hi=>?_⟩ (by simp) ⟨bs',ck',hl',?_⟩⟩
 ·simp only[Array.getElem?_setIfInBounds];rw[if_neg (fun e=>hi (by rw[e]))]
 ·simp[hlt]
end
end
section
open Go Go.RowKit
noncomputable def gx:Gx where
 P:=Tryz.prog
 tys:=[
  ⟨1,.func #[] #[] false,1,8,.nilFunc⟩,
  ⟨3,.int .i64,1,8,.int .i64 0⟩,
  ⟨4,.bool,1,1,.bool false⟩,
  ⟨5,.int .u8,1,1,.int .u8 0⟩,
  ⟨9,.string,1,16,.string ByteArray.empty⟩,
  ⟨20,.interface #[],1,16,.nilIface⟩,
  ⟨21,.int .i32,1,4,.int .i32 0⟩,
  ⟨22,.slice 83,1,24,.slice none 0 0⟩,
  ⟨23,.slice 89,1,24,.slice none 0 0⟩,
  ⟨25,.struct #[⟨ "Family",5,0,false,"","",0⟩,⟨ "Lines",22,1,false,"","",8⟩,⟨ "Edits",23,2,false,"","",32⟩],3,56,.agg #[.int .u8 0,.slice none 0 0,.slice none 0 0]⟩,
  ⟨28,.slice 58,1,24,.slice none 0 0⟩,
  ⟨30,.slice 105,1,24,.slice none 0 0⟩,
  ⟨32,.struct #[⟨ "Nodes",30,0,false,"","",0⟩,⟨ "Root",3,1,false,"","",24⟩],2,32,.agg #[.slice none 0 0,.int .i64 0]⟩,
  ⟨34,.int .i64,1,8,.int .i64 0⟩,
  ⟨37,.slice 9,1,24,.slice none 0 0⟩,
  ⟨39,.slice 48,1,24,.slice none 0 0⟩,
  ⟨41,.struct #[⟨ "Text",9,0,false,"","",0⟩,⟨ "Segments",39,1,false,"","",16⟩],2,40,.agg #[.string ByteArray.empty,.slice none 0 0]⟩,
  ⟨44,.int .u64,1,8,.int .u64 0⟩,
  ⟨45,.int .u64,1,8,.int .u64 0⟩,
  ⟨48,.struct #[⟨ "From",3,0,false,"","",0⟩,⟨ "To",3,1,false,"","",8⟩,⟨ "File",3,2,false,"","",16⟩,⟨ "At",3,3,false,"","",24⟩,⟨ "If",32,4,false,"","",32⟩],6,64,.agg #[.int .i64 0,.int .i64 0,.int .i64 0,.int .i64 0,.slice none 0 0,.int .i64 0]⟩,
  ⟨54,.slice 56,1,24,.slice none 0 0⟩,
  ⟨56,.struct #[⟨ "If",32,0,false,"","",0⟩,⟨ "Text",9,2,false,"","",32⟩],3,48,.agg #[.slice none 0 0,.int .i64 0,.string ByteArray.empty]⟩,
  ⟨58,.struct #[⟨ "From",3,0,false,"","",0⟩,⟨ "To",3,1,false,"","",8⟩,⟨ "Text",9,2,false,"","",16⟩,⟨ "If",32,3,false,"","",32⟩],5,64,.agg #[.int .i64 0,.int .i64 0,.string ByteArray.empty,.slice none 0 0,.int .i64 0]⟩,
  ⟨62,.slice 5,1,24,.slice none 0 0⟩,
  ⟨63,.slice 62,1,24,.slice none 0 0⟩,
  ⟨65,.struct #[⟨ "Family",5,0,false,"","",0⟩,⟨ "Class",62,1,false,"","",8⟩,⟨ "Texts",63,2,false,"","",32⟩],3,56,.agg #[.int .u8 0,.slice none 0 0,.slice none 0 0]⟩,
  ⟨74,.func #[9] #[4] false,1,8,.nilFunc⟩,
  ⟨83,.struct #[⟨ "Kind",5,0,false,"","",0⟩,⟨ "If",5,1,false,"","",1⟩,⟨ "Words",62,2,false,"","",8⟩],3,32,.agg #[.int .u8 0,.int .u8 0,.slice none 0 0]⟩,
  ⟨85,.struct #[⟨ "Name",9,0,false,"","",0⟩,⟨ "Text",9,1,false,"","",16⟩],2,32,.agg #[.string ByteArray.empty,.string ByteArray.empty]⟩,
  ⟨86,.slice 85,1,24,.slice none 0 0⟩,
  ⟨89,.struct #[⟨ "Line",5,0,false,"","",0⟩,⟨ "From",5,1,false,"","",1⟩,⟨ "To",5,2,false,"","",2⟩,⟨ "Text",5,3,false,"","",3⟩,⟨ "If",5,4,false,"","",4⟩],5,5,.agg #[.int .u8 0,.int .u8 0,.int .u8 0,.int .u8 0,.int .u8 0]⟩,
  ⟨93,.struct #[⟨ "E",34,0,false,"","",0⟩,⟨ "File",3,1,false,"","",8⟩,⟨ "Line",3,2,false,"","",16⟩],3,24,.agg #[.int .i64 0,.int .i64 0,.int .i64 0]⟩,
  ⟨97,.pointer 99,1,8,.pointer none⟩,
  ⟨99,.struct #[⟨ "names",37,0,false,"","koine/patch",0⟩,⟨ "family",32,1,false,"","koine/patch",24⟩,⟨ "text",9,3,false,"","koine/patch",56⟩,⟨ "edits",28,4,false,"","koine/patch",72⟩],5,96,.agg #[.slice none 0 0,.slice none 0 0,.int .i64 0,.string ByteArray.empty,.slice none 0 0]⟩,
  ⟨105,.struct #[⟨ "Var",3,0,false,"","",0⟩,⟨ "Low",3,1,false,"","",8⟩,⟨ "High",3,2,false,"","",16⟩],3,24,.agg #[.int .i64 0,.int .i64 0,.int .i64 0]⟩,
  ⟨107,.pointer 109,1,8,.pointer none⟩,
  ⟨109,.struct #[⟨ "addr",107,0,false,"","strings",0⟩,⟨ "buf",62,1,false,"","strings",8⟩],2,32,.agg #[.pointer none,.slice none 0 0]⟩,
  ⟨112,.interface #[("Error",115)],1,16,.nilIface⟩,
  ⟨121,.int .u64,1,8,.int .u64 0⟩,
  ⟨122,.slice 45,1,24,.slice none 0 0⟩,
  ⟨127,.slice 3,1,24,.slice none 0 0⟩,
  ⟨129,.slice 132,1,24,.slice none 0 0⟩,
  ⟨132,.struct #[⟨ "from",3,0,false,"","koine/koineref29",0⟩,⟨ "to",3,1,false,"","koine/koineref29",8⟩,⟨ "in",32,2,false,"","koine/koineref29",16⟩],4,48,.agg #[.int .i64 0,.int .i64 0,.slice none 0 0,.int .i64 0]⟩,
  ⟨139,.func #[4,4] #[4] false,1,8,.nilFunc⟩,
  ⟨143,.slice 219,1,24,.slice none 0 0⟩,
  ⟨149,.slice 280,1,24,.slice none 0 0⟩,
  ⟨153,.pointer 157,1,8,.pointer none⟩,
  ⟨154,.map 9 3,1,8,.map none⟩,
  ⟨155,.map 3 4,1,8,.map none⟩,
  ⟨157,.struct #[⟨ "names",37,0,false,"","koine/source",0⟩,⟨ "files",86,1,false,"","koine/source",24⟩,⟨ "numbers",154,2,false,"","koine/source",48⟩,⟨ "reading",155,3,false,"","koine/source",56⟩,⟨ "depth",3,4,false,"","koine/source",64⟩,⟨ "text",109,5,false,"","koine/source",72⟩,⟨ "out",39,7,false,"","koine/source",104⟩,⟨ "fresh",4,8,false,"","koine/source",128⟩,⟨ "file",3,9,false,"","koine/source",136⟩,⟨ "line",3,10,false,"","koine/source",144⟩],11,152,.agg #[.slice none 0 0,.slice none 0 0,.map none,.map none,.int .i64 0,.pointer none,.slice none 0 0,.slice none 0 0,.bool false,.int .i64 0,.int .i64 0]⟩,
  ⟨160,.struct #[⟨ "place",93,0,false,"","koine/source",0⟩],3,24,.agg #[.int .i64 0,.int .i64 0,.int .i64 0]⟩,
  ⟨166,.struct #[⟨ "in",32,0,false,"","koine/patch",0⟩,⟨ "done",9,2,false,"","koine/patch",32⟩,⟨ "at",3,3,false,"","koine/patch",48⟩],4,56,.agg #[.slice none 0 0,.int .i64 0,.string ByteArray.empty,.int .i64 0]⟩,
  ⟨167,.slice 166,1,24,.slice none 0 0⟩,
  ⟨169,.func #[56] #[4] false,1,8,.nilFunc⟩,
  ⟨172,.map 105 4,1,8,.map none⟩,
  ⟨174,.pointer 177,1,8,.pointer none⟩,
  ⟨175,.map 105 3,1,8,.map none⟩,
  ⟨177,.struct #[⟨ "nodes",30,0,false,"","koine/diagram",0⟩,⟨ "known",175,1,false,"","koine/diagram",24⟩],2,32,.agg #[.slice none 0 0,.map none]⟩,
  ⟨179,.pointer 5,1,8,.pointer none⟩,
  ⟨180,.pointer 183,1,8,.pointer none⟩,
  ⟨181,.slice 242,1,24,.slice none 0 0⟩,
  ⟨183,.struct #[⟨ "a",32,0,false,"","koine/koineref02",0⟩,⟨ "b",32,2,false,"","koine/koineref02",32⟩,⟨ "op",3,4,false,"","koine/koineref02",64⟩,⟨ "nodes",30,5,false,"","koine/koineref02",72⟩,⟨ "seen",181,6,false,"","koine/koineref02",96⟩],7,120,.agg #[.slice none 0 0,.int .i64 0,.slice none 0 0,.int .i64 0,.int .i64 0,.slice none 0 0,.slice none 0 0]⟩,
  ⟨187,.func #[105] #[4] false,1,8,.nilFunc⟩,
  ⟨192,.func #[32,3] #[37] false,1,8,.nilFunc⟩,
  ⟨197,.slice 32,1,24,.slice none 0 0⟩,
  ⟨199,.pointer 201,1,8,.pointer none⟩,
  ⟨201,.struct #[⟨ "names",37,0,false,"","koine/koineref07",0⟩,⟨ "files",86,1,false,"","koine/koineref07",24⟩,⟨ "depth",3,2,false,"","koine/koineref07",48⟩,⟨ "reading",127,3,false,"","koine/koineref07",56⟩,⟨ "out",41,4,false,"","koine/koineref07",80⟩,⟨ "fresh",4,6,false,"","koine/koineref07",120⟩,⟨ "bad",93,7,false,"","koine/koineref07",128⟩],10,152,.agg #[.slice none 0 0,.slice none 0 0,.int .i64 0,.slice none 0 0,.string ByteArray.empty,.slice none 0 0,.bool false,.int .i64 0,.int .i64 0,.int .i64 0]⟩,
  ⟨204,.array 3 32,6,96,.agg #[.slice none 0 0,.int .i64 0,.slice none 0 0,.int .i64 0,.slice none 0 0,.int .i64 0]⟩,
  ⟨205,.func #[4,4,4] #[4] false,1,8,.nilFunc⟩,
  ⟨206,.slice 4,1,24,.slice none 0 0⟩,
  ⟨213,.slice 143,1,24,.slice none 0 0⟩,
  ⟨215,.func #[3] #[3] false,1,8,.nilFunc⟩,
  ⟨217,.func #[3,3] #[143,34] false,1,8,.nilFunc⟩,
  ⟨219,.int .u32,1,4,.int .u32 0⟩,
  ⟨220,.pointer 222,1,8,.pointer none⟩,
  ⟨222,.struct #[⟨ "names",154,0,false,"","koine/formula",0⟩,⟨ "rest",9,1,false,"","koine/formula",8⟩,⟨ "f",149,2,false,"","koine/formula",24⟩,⟨ "unknown",4,3,false,"","koine/formula",48⟩],4,56,.agg #[.map none,.string ByteArray.empty,.slice none 0 0,.bool false]⟩,
  ⟨223,.func #[] #[3] false,1,8,.nilFunc⟩,
  ⟨224,.map 9 4,1,8,.map none⟩,
  ⟨225,.slice 232,1,24,.slice none 0 0⟩,
  ⟨232,.struct #[⟨ "outer",32,0,false,"","koine/source",0⟩,⟨ "rest",32,2,false,"","koine/source",32⟩,⟨ "other",4,4,false,"","koine/source",64⟩,⟨ "line",3,5,false,"","koine/source",72⟩],6,80,.agg #[.slice none 0 0,.int .i64 0,.slice none 0 0,.int .i64 0,.bool false,.int .i64 0]⟩,
  ⟨233,.pointer 232,1,8,.pointer none⟩,
  ⟨238,.map 3 3,1,8,.map none⟩,
  ⟨240,.unsafePointer,1,8,.pointer none⟩,
  ⟨242,.array 3 3,3,24,.agg #[.int .i64 0,.int .i64 0,.int .i64 0]⟩,
  ⟨247,.pointer 249,1,8,.pointer none⟩,
  ⟨249,.struct #[⟨ "nodes",30,0,false,"","koine/koineref02",0⟩,⟨ "number",127,1,false,"","koine/koineref02",24⟩,⟨ "out",30,2,false,"","koine/koineref02",48⟩],3,72,.agg #[.slice none 0 0,.slice none 0 0,.slice none 0 0]⟩,
  ⟨251,.map 253 4,1,8,.map none⟩,
  ⟨252,.func #[3,3] #[4] false,1,8,.nilFunc⟩,
  ⟨253,.array 2 3,2,16,.agg #[.int .i64 0,.int .i64 0]⟩,
  ⟨259,.array 2 122,2,48,.agg #[.slice none 0 0,.slice none 0 0]⟩,
  ⟨260,.array 2 37,2,48,.agg #[.slice none 0 0,.slice none 0 0]⟩,
  ⟨261,.slice 266,1,24,.slice none 0 0⟩,
  ⟨266,.struct #[⟨ "outer",32,0,false,"","koine/koineref07",0⟩,⟨ "rest",32,2,false,"","koine/koineref07",32⟩,⟨ "other",4,4,false,"","koine/koineref07",64⟩,⟨ "line",3,5,false,"","koine/koineref07",72⟩],6,80,.agg #[.slice none 0 0,.int .i64 0,.slice none 0 0,.int .i64 0,.bool false,.int .i64 0]⟩,
  ⟨272,.map 242 3,1,8,.map none⟩,
  ⟨273,.func #[242] #[3] false,1,8,.nilFunc⟩,
  ⟨275,.pointer 277,1,8,.pointer none⟩,
  ⟨277,.struct #[⟨ "d",32,0,false,"","koine/formula",0⟩,⟨ "f",149,2,false,"","koine/formula",32⟩],3,56,.agg #[.slice none 0 0,.int .i64 0,.slice none 0 0]⟩,
  ⟨280,.struct #[⟨ "Op",3,0,false,"","",0⟩,⟨ "Var",3,1,false,"","",8⟩,⟨ "A",3,2,false,"","",16⟩,⟨ "B",3,3,false,"","",24⟩],4,32,.agg #[.int .i64 0,.int .i64 0,.int .i64 0,.int .i64 0]⟩,
  ⟨294,.func #[21] #[4] false,1,8,.nilFunc⟩,
  ⟨297,.array 512 4,512,512,.agg #[.bool false,.bool false,.bool false,.bool false,.bool false,.bool false,.bool false,.bool false,.bool false,.bool false,.bool false,.bool false,.bool false,.bool false,.bool false,.bool false,.bool false,.bool false,.bool false,.bool false,.bool false,.bool false,.bool false,.bool false,.bool false,.bool false,.bool false,.bool false,.bool false,.bool false,.bool false,.bool false,.bool false,.bool false,.bool false,.bool false,.bool false,.bool false,.bool false,.bool false,.bool false,.bool false,.bool false,.bool false,.bool false,.bool false,.bool false,.bool false,.bool false,.bool false,.bool false,.bool false,.bool false,.bool false,.bool false,.bool false,.bool false,.bool false,.bool false,.bool false,.bool false,.bool false,.bool false,.bool false,.bool false,.bool false,.bool false,.bool false,.bool false,.bool false,.bool false,.bool false,.bool false,.bool false,.bool false,.bool false,.bool false,.bool false,.bool false,.bool false,.bool false,.bool false,.bool false,.bool false,.bool false,.bool false,.bool false,.bool false,.bool false,.bool false,.bool false,.bool false,.bool false,.bool false,.bool false,.bool false,.bool false,.bool false,.bool false,.bool false,.bool false,.bool false,.bool false,.bool false,.bool false,.bool false,.bool false,.bool false,.bool false,.bool false,.bool false,.bool false,.bool false,.bool false,.bool false,.bool false,.bool false,.bool false,.bool false,.bool false,.bool false,.bool false,.bool false,.bool false,.bool false,.bool false,.bool false,.bool false,.bool false,.bool false,.bool false,.bool false,.bool false,.bool false,.bool false,.bool false,.bool false,.bool false,.bool false,.bool false,.bool false,.bool false,.bool false,.bool false,.bool false,.bool false,.bool false,.bool false,.bool false,.bool false,.bool false,.bool false,.bool false,.bool false,.bool false,.bool false,.bool false,.bool false,.bool false,.bool false,.bool false,.bool false,.bool false,.bool false,.bool false,.bool false,.bool false,.bool false,.bool false,.bool false,.bool false,.bool false,.bool false,.bool false,.bool false,.bool false,.bool false,.bool false,.bool false,.bool false,.bool false,.bool false,.bool false,.bool false,.bool false,.bool false,.bool false,.bool false,.bool false,.bool false,.bool false,.bool false,.bool false,.bool false,.bool false,.bool false,.bool false,.bool false,.bool false,.bool false,.bool false,.bool false,.bool false,.bool false,.bool false,.bool false,.bool false,.bool false,.bool false,.bool false,.bool false,.bool false,.bool false,.bool false,.bool false,.bool false,.bool false,.bool false,.bool false,.bool false,.bool false,.bool false,.bool false,.bool false,.bool false,.bool false,.bool false,.bool false,.bool false,.bool false,.bool false,.bool false,.bool false,.bool false,.bool false,.bool false,.bool false,.bool false,.bool false,.bool false,.bool false,.bool false,.bool false,.bool false,.bool false,.bool false,.bool false,.bool false,.bool false,.bool false,.bool false,.bool false,.bool false,.bool false,.bool false,.bool false,.bool false,.bool false,.bool false,.bool false,.bool false,.bool false,.bool false,.bool false,.bool false,.bool false,.bool false,.bool false,.bool false,.bool false,.bool false,.bool false,.bool false,.bool false,.bool false,.bool false,.bool false,.bool false,.bool false,.bool false,.bool false,.bool false,.bool false,.bool false,.bool false,.bool false,.bool false,.bool false,.bool false,.bool false,.bool false,.bool false,.bool false,.bool false,.bool false,.bool false,.bool false,.bool false,.bool false,.bool false,.bool false,.bool false,.bool false,.bool false,.bool false,.bool false,.bool false,.bool false,.bool false,.bool false,.bool false,.bool false,.bool false,.bool false,.bool false,.bool false,.bool false,.bool false,.bool false,.bool false,.bool false,.bool false,.bool false,.bool false,.bool false,.bool false,.bool false,.bool false,.bool false,.bool false,.bool false,.bool false,.bool false,.bool false,.bool false,.bool false,.bool false,.bool false,.bool false,.bool false,.bool false,.bool false,.bool false,.bool false,.bool false,.bool false,.bool false,.bool false,.bool false,.bool false,.bool false,.bool false,.bool false,.bool false,.bool false,.bool false,.bool false,.bool false,.bool false,.bool false,.bool false,.bool false,.bool false,.bool false,.bool false,.bool false,.bool false,.bool false,.bool false,.bool false,.bool false,.bool false,.bool false,.bool false,.bool false,.bool false,.bool false,.bool false,.bool false,.bool false,.bool false,.bool false,.bool false,.bool false,.bool false,.bool false,.bool false,.bool false,.bool false,.bool false,.bool false,.bool false,.bool false,.bool false,.bool false,.bool false,.bool false,.bool false,.bool false,.bool false,.bool false,.bool false,.bool false,.bool false,.bool false,.bool false,.bool false,.bool false,.bool false,.bool false,.bool false,.bool false,.bool false,.bool false,.bool false,.bool false,.bool false,.bool false,.bool false,.bool false,.bool false,.bool false,.bool false,.bool false,.bool false,.bool false,.bool false,.bool false,.bool false,.bool false,.bool false,.bool false,.bool false,.bool false,.bool false,.bool false,.bool false,.bool false,.bool false,.bool false,.bool false,.bool false,.bool false,.bool false,.bool false,.bool false,.bool false,.bool false,.bool false,.bool false,.bool false,.bool false,.bool false,.bool false,.bool false,.bool false,.bool false,.bool false,.bool false,.bool false,.bool false,.bool false,.bool false,.bool false,.bool false,.bool false,.bool false,.bool false,.bool false,.bool false,.bool false,.bool false,.bool false,.bool false,.bool false,.bool false,.bool false,.bool false,.bool false,.bool false,.bool false,.bool false,.bool false,.bool false,.bool false,.bool false,.bool false,.bool false,.bool false,.bool false,.bool false,.bool false,.bool false,.bool false,.bool false,.bool false,.bool false,.bool false,.bool false,.bool false,.bool false,.bool false,.bool false,.bool false,.bool false,.bool false,.bool false,.bool false,.bool false,.bool false,.bool false,.bool false]⟩,
  ⟨302,.array 256 4,256,256,.agg #[.bool false,.bool false,.bool false,.bool false,.bool false,.bool false,.bool false,.bool false,.bool false,.bool false,.bool false,.bool false,.bool false,.bool false,.bool false,.bool false,.bool false,.bool false,.bool false,.bool false,.bool false,.bool false,.bool false,.bool false,.bool false,.bool false,.bool false,.bool false,.bool false,.bool false,.bool false,.bool false,.bool false,.bool false,.bool false,.bool false,.bool false,.bool false,.bool false,.bool false,.bool false,.bool false,.bool false,.bool false,.bool false,.bool false,.bool false,.bool false,.bool false,.bool false,.bool false,.bool false,.bool false,.bool false,.bool false,.bool false,.bool false,.bool false,.bool false,.bool false,.bool false,.bool false,.bool false,.bool false,.bool false,.bool false,.bool false,.bool false,.bool false,.bool false,.bool false,.bool false,.bool false,.bool false,.bool false,.bool false,.bool false,.bool false,.bool false,.bool false,.bool false,.bool false,.bool false,.bool false,.bool false,.bool false,.bool false,.bool false,.bool false,.bool false,.bool false,.bool false,.bool false,.bool false,.bool false,.bool false,.bool false,.bool false,.bool false,.bool false,.bool false,.bool false,.bool false,.bool false,.bool false,.bool false,.bool false,.bool false,.bool false,.bool false,.bool false,.bool false,.bool false,.bool false,.bool false,.bool false,.bool false,.bool false,.bool false,.bool false,.bool false,.bool false,.bool false,.bool false,.bool false,.bool false,.bool false,.bool false,.bool false,.bool false,.bool false,.bool false,.bool false,.bool false,.bool false,.bool false,.bool false,.bool false,.bool false,.bool false,.bool false,.bool false,.bool false,.bool false,.bool false,.bool false,.bool false,.bool false,.bool false,.bool false,.bool false,.bool false,.bool false,.bool false,.bool false,.bool false,.bool false,.bool false,.bool false,.bool false,.bool false,.bool false,.bool false,.bool false,.bool false,.bool false,.bool false,.bool false,.bool false,.bool false,.bool false,.bool false,.bool false,.bool false,.bool false,.bool false,.bool false,.bool false,.bool false,.bool false,.bool false,.bool false,.bool false,.bool false,.bool false,.bool false,.bool false,.bool false,.bool false,.bool false,.bool false,.bool false,.bool false,.bool false,.bool false,.bool false,.bool false,.bool false,.bool false,.bool false,.bool false,.bool false,.bool false,.bool false,.bool false,.bool false,.bool false,.bool false,.bool false,.bool false,.bool false,.bool false,.bool false,.bool false,.bool false,.bool false,.bool false,.bool false,.bool false,.bool false,.bool false,.bool false,.bool false,.bool false,.bool false,.bool false,.bool false,.bool false,.bool false,.bool false,.bool false,.bool false,.bool false,.bool false,.bool false,.bool false,.bool false,.bool false,.bool false,.bool false,.bool false,.bool false,.bool false,.bool false,.bool false,.bool false,.bool false,.bool false,.bool false,.bool false,.bool false,.bool false,.bool false,.bool false,.bool false,.bool false]⟩,
  ⟨306,.pointer 302,1,8,.pointer none⟩,
  ⟨312,.pointer 314,1,8,.pointer none⟩,
  ⟨314,.struct #[⟨ "names",37,0,false,"","koine/koineref03",0⟩,⟨ "l",37,1,false,"","koine/koineref03",24⟩,⟨ "at",3,2,false,"","koine/koineref03",48⟩,⟨ "f",149,3,false,"","koine/koineref03",56⟩,⟨ "bad",4,4,false,"","koine/koineref03",80⟩,⟨ "unknown",4,5,false,"","koine/koineref03",81⟩],6,88,.agg #[.slice none 0 0,.slice none 0 0,.int .i64 0,.slice none 0 0,.bool false,.bool false]⟩,
  ⟨322,.array 256 5,256,256,.agg #[.int .u8 0,.int .u8 0,.int .u8 0,.int .u8 0,.int .u8 0,.int .u8 0,.int .u8 0,.int .u8 0,.int .u8 0,.int .u8 0,.int .u8 0,.int .u8 0,.int .u8 0,.int .u8 0,.int .u8 0,.int .u8 0,.int .u8 0,.int .u8 0,.int .u8 0,.int .u8 0,.int .u8 0,.int .u8 0,.int .u8 0,.int .u8 0,.int .u8 0,.int .u8 0,.int .u8 0,.int .u8 0,.int .u8 0,.int .u8 0,.int .u8 0,.int .u8 0,.int .u8 0,.int .u8 0,.int .u8 0,.int .u8 0,.int .u8 0,.int .u8 0,.int .u8 0,.int .u8 0,.int .u8 0,.int .u8 0,.int .u8 0,.int .u8 0,.int .u8 0,.int .u8 0,.int .u8 0,.int .u8 0,.int .u8 0,.int .u8 0,.int .u8 0,.int .u8 0,.int .u8 0,.int .u8 0,.int .u8 0,.int .u8 0,.int .u8 0,.int .u8 0,.int .u8 0,.int .u8 0,.int .u8 0,.int .u8 0,.int .u8 0,.int .u8 0,.int .u8 0,.int .u8 0,.int .u8 0,.int .u8 0,.int .u8 0,.int .u8 0,.int .u8 0,.int .u8 0,.int .u8 0,.int .u8 0,.int .u8 0,.int .u8 0,.int .u8 0,.int .u8 0,.int .u8 0,.int .u8 0,.int .u8 0,.int .u8 0,.int .u8 0,.int .u8 0,.int .u8 0,.int .u8 0,.int .u8 0,.int .u8 0,.int .u8 0,.int .u8 0,.int .u8 0,.int .u8 0,.int .u8 0,.int .u8 0,.int .u8 0,.int .u8 0,.int .u8 0,.int .u8 0,.int .u8 0,.int .u8 0,.int .u8 0,.int .u8 0,.int .u8 0,.int .u8 0,.int .u8 0,.int .u8 0,.int .u8 0,.int .u8 0,.int .u8 0,.int .u8 0,.int .u8 0,.int .u8 0,.int .u8 0,.int .u8 0,.int .u8 0,.int .u8 0,.int .u8 0,.int .u8 0,.int .u8 0,.int .u8 0,.int .u8 0,.int .u8 0,.int .u8 0,.int .u8 0,.int .u8 0,.int .u8 0,.int .u8 0,.int .u8 0,.int .u8 0,.int .u8 0,.int .u8 0,.int .u8 0,.int .u8 0,.int .u8 0,.int .u8 0,.int .u8 0,.int .u8 0,.int .u8 0,.int .u8 0,.int .u8 0,.int .u8 0,.int .u8 0,.int .u8 0,.int .u8 0,.int .u8 0,.int .u8 0,.int .u8 0,.int .u8 0,.int .u8 0,.int .u8 0,.int .u8 0,.int .u8 0,.int .u8 0,.int .u8 0,.int .u8 0,.int .u8 0,.int .u8 0,.int .u8 0,.int .u8 0,.int .u8 0,.int .u8 0,.int .u8 0,.int .u8 0,.int .u8 0,.int .u8 0,.int .u8 0,.int .u8 0,.int .u8 0,.int .u8 0,.int .u8 0,.int .u8 0,.int .u8 0,.int .u8 0,.int .u8 0,.int .u8 0,.int .u8 0,.int .u8 0,.int .u8 0,.int .u8 0,.int .u8 0,.int .u8 0,.int .u8 0,.int .u8 0,.int .u8 0,.int .u8 0,.int .u8 0,.int .u8 0,.int .u8 0,.int .u8 0,.int .u8 0,.int .u8 0,.int .u8 0,.int .u8 0,.int .u8 0,.int .u8 0,.int .u8 0,.int .u8 0,.int .u8 0,.int .u8 0,.int .u8 0,.int .u8 0,.int .u8 0,.int .u8 0,.int .u8 0,.int .u8 0,.int .u8 0,.int .u8 0,.int .u8 0,.int .u8 0,.int .u8 0,.int .u8 0,.int .u8 0,.int .u8 0,.int .u8 0,.int .u8 0,.int .u8 0,.int .u8 0,.int .u8 0,.int .u8 0,.int .u8 0,.int .u8 0,.int .u8 0,.int .u8 0,.int .u8 0,.int .u8 0,.int .u8 0,.int .u8 0,.int .u8 0,.int .u8 0,.int .u8 0,.int .u8 0,.int .u8 0,.int .u8 0,.int .u8 0,.int .u8 0,.int .u8 0,.int .u8 0,.int .u8 0,.int .u8 0,.int .u8 0,.int .u8 0,.int .u8 0,.int .u8 0,.int .u8 0,.int .u8 0,.int .u8 0,.int .u8 0,.int .u8 0,.int .u8 0,.int .u8 0,.int .u8 0,.int .u8 0,.int .u8 0,.int .u8 0,.int .u8 0,.int .u8 0]⟩,
  ⟨324,.struct #[⟨ "lo",5,0,false,"","unicode/utf8",0⟩,⟨ "hi",5,1,false,"","unicode/utf8",1⟩],2,2,.agg #[.int .u8 0,.int .u8 0]⟩,
  ⟨325,.array 16 324,32,32,.agg #[.int .u8 0,.int .u8 0,.int .u8 0,.int .u8 0,.int .u8 0,.int .u8 0,.int .u8 0,.int .u8 0,.int .u8 0,.int .u8 0,.int .u8 0,.int .u8 0,.int .u8 0,.int .u8 0,.int .u8 0,.int .u8 0,.int .u8 0,.int .u8 0,.int .u8 0,.int .u8 0,.int .u8 0,.int .u8 0,.int .u8 0,.int .u8 0,.int .u8 0,.int .u8 0,.int .u8 0,.int .u8 0,.int .u8 0,.int .u8 0,.int .u8 0,.int .u8 0]⟩]
 fns:=[3,4,5,6,7,8,9,10,11,12,13,14,15,16,17,18,19,20,21,22,23,24,25,26,27,28,29,30,31,32,33,34,35,36,37,38,39,40,41,42,43,44,45,46,47,48,49,50,51,52,53,54,55,56,57,58,59,60,61,62,63,64,65,66,67,68,69,70,71,72,73,74,75,76,77,78,79,80,81,82,83,84,85,86,87,88,89,90,91,92,93,94,95,96,97,98,99,100,101,102,103,104,105,106,107,108,109,110,111,112,113,114,115,116,117,118,119,120,121,122,123,124,125,126,127,128,129,130,131,132,133,134,135,136,137,138,139,140,141,142,143,144,145,146,147,148,149,150,151,152,153,154,155,156,157,158,160,161,162,163,164,165,166,167,168,169,170,171,172,173,174,175,176,177,178,179,180,181,182,183,184,185,186,187,188,189,190,191,192,193,194,195,196,197,198,199,200,201,202,203,204,205,206,208,209,210,211,212,213,214,215,216,217,218,219,220,221,222,223,224,225,226,227,228,229,230,231,232,233,235,237,238,239,240,241,242,243,244,245,246,248,249,250,251,252,253,254,255,256,257,258,259,260,261]
 ms:=[]
 eqs:=[⟨105,[0,0,0]⟩,⟨280,[0,0,0,0]⟩]
theorem vQY:rQT Tryz.prog gx.tys:=by
 refine⟨⟨?_,?_⟩,⟨?_,?_⟩,⟨?_,?_⟩,⟨?_,?_⟩,⟨?_,?_⟩,⟨?_,?_⟩,⟨?_,?_⟩,⟨?_,?_⟩,⟨?_,?_⟩,⟨?_,?_⟩,⟨?_,?_⟩,⟨?_,?_⟩,⟨?_,?_⟩,⟨?_,?_⟩,⟨?_,?_⟩,⟨?_,?_⟩,⟨?_,?_⟩,⟨?_,?_⟩,⟨?_,?_⟩,⟨?_,?_⟩,⟨?_,?_⟩,⟨?_,?_⟩,⟨?_,?_⟩,⟨?_,?_⟩,⟨?_,?_⟩,⟨?_,?_⟩,⟨?_,?_⟩,⟨?_,?_⟩,⟨?_,?_⟩,⟨?_,?_⟩,⟨?_,?_⟩,⟨?_,?_⟩,⟨?_,?_⟩,⟨?_,?_⟩,⟨?_,?_⟩,⟨?_,?_⟩,⟨?_,?_⟩,⟨?_,?_⟩,⟨?_,?_⟩,⟨?_,?_⟩,⟨?_,?_⟩,⟨?_,?_⟩,⟨?_,?_⟩,⟨?_,?_⟩,⟨?_,?_⟩,⟨?_,?_⟩,⟨?_,?_⟩,⟨?_,?_⟩,⟨?_,?_⟩,⟨?_,?_⟩,⟨?_,?_⟩,⟨?_,?_⟩,⟨?_,?_⟩,⟨?_,?_⟩,⟨?_,?_⟩,⟨?_,?_⟩,⟨?_,?_⟩,⟨?_,?_⟩,⟨?_,?_⟩,⟨?_,?_⟩,⟨?_,?_⟩,⟨?_,?_⟩,⟨?_,?_⟩,⟨?_,?_⟩,⟨?_,?_⟩,⟨?_,?_⟩,⟨?_,?_⟩,⟨?_,?_⟩,⟨?_,?_⟩,⟨?_,?_⟩,⟨?_,?_⟩,⟨?_,?_⟩,⟨?_,?_⟩,⟨?_,?_⟩,⟨?_,?_⟩,⟨?_,?_⟩,⟨?_,?_⟩,⟨?_,?_⟩,⟨?_,?_⟩,⟨?_,?_⟩,⟨?_,?_⟩,⟨?_,?_⟩,⟨?_,?_⟩,⟨?_,?_⟩,⟨?_,?_⟩,⟨?_,?_⟩,⟨?_,?_⟩,⟨?_,?_⟩,⟨?_,?_⟩,⟨?_,?_⟩,⟨?_,?_⟩,⟨?_,?_⟩,⟨?_,?_⟩,⟨?_,?_⟩,⟨?_,?_⟩,⟨?_,?_⟩,⟨?_,?_⟩,⟨?_,?_⟩,⟨?_,?_⟩,⟨?_,?_⟩,⟨?_,?_⟩,⟨?_,?_⟩,⟨?_,?_⟩,⟨?_,?_⟩,⟨?_,?_⟩,⟨?_,?_⟩,⟨?_,?_⟩,trivial⟩<;>kernel_rfl
set_option maxRecDepth 100000 in
theorem vQZ:rQU Tryz.prog gx.fns:=by
 refine⟨⟨_,Tryz.func3,?_,?_⟩,⟨_,Tryz.func4,?_,?_⟩,⟨_,Tryz.func5,?_,?_⟩,⟨_,Tryz.func6,?_,?_⟩,⟨_,Tryz.func7,?_,?_⟩,⟨_,Tryz.func8,?_,?_⟩,⟨_,Tryz.func9,?_,?_⟩,⟨_,Tryz.func10,?_,?_⟩,⟨_,Tryz.func11,?_,?_⟩,⟨_,Tryz.func12,?_,?_⟩,⟨_,Tryz.func13,?_,?_⟩,⟨_,Tryz.func14,?_,?_⟩,⟨_,Tryz.func15,?_,?_⟩,⟨_,Tryz.func16,?_,?_⟩,⟨_,Tryz.func17,?_,?_⟩,⟨_,Tryz.func18,?_,?_⟩,⟨_,Tryz.func19,?_,?_⟩,⟨_,Tryz.func20,?_,?_⟩,⟨_,Tryz.func21,?_,?_⟩,⟨_,Tryz.func22,?_,?_⟩,⟨_,Tryz.func23,?_,?_⟩,⟨_,Tryz.func24,?_,?_⟩,⟨_,Tryz.func25,?_,?_⟩,⟨_,Tryz.func26,?_,?_⟩,⟨_,Tryz.func27,?_,?_⟩,⟨_,Tryz.func28,?_,?_⟩,⟨_,Tryz.func29,?_,?_⟩,⟨_,Tryz.func30,?_,?_⟩,⟨_,Tryz.func31,?_,?_⟩,⟨_,Tryz.func32,?_,?_⟩,⟨_,Tryz.func33,?_,?_⟩,⟨_,Tryz.func34,?_,?_⟩,⟨_,Tryz.func35,?_,?_⟩,⟨_,Tryz.func36,?_,?_⟩,⟨_,Tryz.func37,?_,?_⟩,⟨_,Tryz.func38,?_,?_⟩,⟨_,Tryz.func39,?_,?_⟩,⟨_,Tryz.func40,?_,?_⟩,⟨_,Tryz.func41,?_,?_⟩,⟨_,Tryz.func42,?_,?_⟩,⟨_,Tryz.func43,?_,?_⟩,⟨_,Tryz.func44,?_,?_⟩,⟨_,Tryz.func45,?_,?_⟩,⟨_,Tryz.func46,?_,?_⟩,⟨_,Tryz.func47,?_,?_⟩,⟨_,Tryz.func48,?_,?_⟩,⟨_,Tryz.func49,?_,?_⟩,⟨_,Tryz.func50,?_,?_⟩,⟨_,Tryz.func51,?_,?_⟩,⟨_,Tryz.func52,?_,?_⟩,⟨_,Tryz.func53,?_,?_⟩,⟨_,Tryz.func54,?_,?_⟩,⟨_,Tryz.func55,?_,?_⟩,⟨_,Tryz.func56,?_,?_⟩,⟨_,Tryz.func57,?_,?_⟩,⟨_,Tryz.func58,?_,?_⟩,⟨_,Tryz.func59,?_,?_⟩,⟨_,Tryz.func60,?_,?_⟩,⟨_,Tryz.func61,?_,?_⟩,⟨_,Tryz.func62,?_,?_⟩,⟨_,Tryz.func63,?_,?_⟩,⟨_,Tryz.func64,?_,?_⟩,⟨_,Tryz.func65,?_,?_⟩,⟨_,Tryz.func66,?_,?_⟩,⟨_,Tryz.func67,?_,?_⟩,⟨_,Tryz.func68,?_,?_⟩,⟨_,Tryz.func69,?_,?_⟩,⟨_,Tryz.func70,?_,?_⟩,⟨_,Tryz.func71,?_,?_⟩,⟨_,Tryz.func72,?_,?_⟩,⟨_,Tryz.func73,?_,?_⟩,⟨_,Tryz.func74,?_,?_⟩,⟨_,Tryz.func75,?_,?_⟩,⟨_,Tryz.func76,?_,?_⟩,⟨_,Tryz.func77,?_,?_⟩,⟨_,Tryz.func78,?_,?_⟩,⟨_,Tryz.func79,?_,?_⟩,⟨_,Tryz.func80,?_,?_⟩,⟨_,Tryz.func81,?_,?_⟩,⟨_,Tryz.func82,?_,?_⟩,⟨_,Tryz.func83,?_,?_⟩,⟨_,Tryz.func84,?_,?_⟩,⟨_,Tryz.func85,?_,?_⟩,⟨_,Tryz.func86,?_,?_⟩,⟨_,Tryz.func87,?_,?_⟩,⟨_,Tryz.func88,?_,?_⟩,⟨_,Tryz.func89,?_,?_⟩,⟨_,Tryz.func90,?_,?_⟩,⟨_,Tryz.func91,?_,?_⟩,⟨_,Tryz.func92,?_,?_⟩,⟨_,Tryz.func93,?_,?_⟩,⟨_,Tryz.func94,?_,?_⟩,⟨_,Tryz.func95,?_,?_⟩,⟨_,Tryz.func96,?_,?_⟩,⟨_,Tryz.func97,?_,?_⟩,⟨_,Tryz.func98,?_,?_⟩,⟨_,Tryz.func99,?_,?_⟩,⟨_,Tryz.func100,?_,?_⟩,⟨_,Tryz.func101,?_,?_⟩,⟨_,Tryz.func102,?_,?_⟩,⟨_,Tryz.func103,?_,?_⟩,⟨_,Tryz.func104,?_,?_⟩,⟨_,Tryz.func105,?_,?_⟩,⟨_,Tryz.func106,?_,?_⟩,⟨_,Tryz.func107,?_,?_⟩,⟨_,Tryz.func108,?_,?_⟩,⟨_,Tryz.func109,?_,?_⟩,⟨_,Tryz.func110,?_,?_⟩,⟨_,Tryz.func111,?_,?_⟩,⟨_,Tryz.func112,?_,?_⟩,⟨_,Tryz.func113,?_,?_⟩,⟨_,Tryz.func114,?_,?_⟩,⟨_,Tryz.func115,?_,?_⟩,⟨_,Tryz.func116,?_,?_⟩,⟨_,Tryz.func117,?_,?_⟩,⟨_,Tryz.func118,?_,?_⟩,⟨_,Tryz.func119,?_,?_⟩,⟨_,Tryz.func120,?_,?_⟩,⟨_,Tryz.func121,?_,?_⟩,⟨_,Tryz.func122,?_,?_⟩,⟨_,Tryz.func123,?_,?_⟩,⟨_,Tryz.func124,?_,?_⟩,⟨_,Tryz.func125,?_,?_⟩,⟨_,Tryz.func126,?_,?_⟩,⟨_,Tryz.func127,?_,?_⟩,⟨_,Tryz.func128,?_,?_⟩,⟨_,Tryz.func129,?_,?_⟩,⟨_,Tryz.func130,?_,?_⟩,⟨_,Tryz.func131,?_,?_⟩,⟨_,Tryz.func132,?_,?_⟩,⟨_,Tryz.func133,?_,?_⟩,⟨_,Tryz.func134,?_,?_⟩,⟨_,Tryz.func135,?_,?_⟩,⟨_,Tryz.func136,?_,?_⟩,⟨_,Tryz.func137,?_,?_⟩,⟨_,Tryz.func138,?_,?_⟩,⟨_,Tryz.func139,?_,?_⟩,⟨_,Tryz.func140,?_,?_⟩,⟨_,Tryz.func141,?_,?_⟩,⟨_,Tryz.func142,?_,?_⟩,⟨_,Tryz.func143,?_,?_⟩,⟨_,Tryz.func144,?_,?_⟩,⟨_,Tryz.func145,?_,?_⟩,⟨_,Tryz.func146,?_,?_⟩,⟨_,Tryz.func147,?_,?_⟩,⟨_,Tryz.func148,?_,?_⟩,⟨_,Tryz.func149,?_,?_⟩,⟨_,Tryz.func150,?_,?_⟩,⟨_,Tryz.func151,?_,?_⟩,⟨_,Tryz.func152,?_,?_⟩,⟨_,Tryz.func153,?_,?_⟩,⟨_,Tryz.func154,?_,?_⟩,⟨_,Tryz.func155,?_,?_⟩,⟨_,Tryz.func156,?_,?_⟩,⟨_,Tryz.func157,?_,?_⟩,⟨_,Tryz.func158,?_,?_⟩,⟨_,Tryz.func160,?_,?_⟩,⟨_,Tryz.func161,?_,?_⟩,⟨_,Tryz.func162,?_,?_⟩,⟨_,Tryz.func163,?_,?_⟩,⟨_,Tryz.func164,?_,?_⟩,⟨_,Tryz.func165,?_,?_⟩,⟨_,Tryz.func166,?_,?_⟩,⟨_,Tryz.func167,?_,?_⟩,⟨_,Tryz.func168,?_,?_⟩,⟨_,Tryz.func169,?_,?_⟩,⟨_,Tryz.func170,?_,?_⟩,⟨_,Tryz.func171,?_,?_⟩,⟨_,Tryz.func172,?_,?_⟩,⟨_,Tryz.func173,?_,?_⟩,⟨_,Tryz.func174,?_,?_⟩,⟨_,Tryz.func175,?_,?_⟩,⟨_,Tryz.func176,?_,?_⟩,⟨_,Tryz.func177,?_,?_⟩,⟨_,Tryz.func178,?_,?_⟩,⟨_,Tryz.func179,?_,?_⟩,⟨_,Tryz.func180,?_,?_⟩,⟨_,Tryz.func181,?_,?_⟩,⟨_,Tryz.func182,?_,?_⟩,⟨_,Tryz.func183,?_,?_⟩,⟨_,Tryz.func184,?_,?_⟩,⟨_,Tryz.func185,?_,?_⟩,⟨_,Tryz.func186,?_,?_⟩,⟨_,Tryz.func187,?_,?_⟩,⟨_,Tryz.func188,?_,?_⟩,⟨_,Tryz.func189,?_,?_⟩,⟨_,Tryz.func190,?_,?_⟩,⟨_,Tryz.func191,?_,?_⟩,⟨_,Tryz.func192,?_,?_⟩,⟨_,Tryz.func193,?_,?_⟩,⟨_,Tryz.func194,?_,?_⟩,⟨_,Tryz.func195,?_,?_⟩,⟨_,Tryz.func196,?_,?_⟩,⟨_,Tryz.func197,?_,?_⟩,⟨_,Tryz.func198,?_,?_⟩,⟨_,Tryz.func199,?_,?_⟩,⟨_,Tryz.func200,?_,?_⟩,⟨_,Tryz.func201,?_,?_⟩,⟨_,Tryz.func202,?_,?_⟩,⟨_,Tryz.func203,?_,?_⟩,⟨_,Tryz.func204,?_,?_⟩,⟨_,Tryz.func205,?_,?_⟩,⟨_,Tryz.func206,?_,?_⟩,⟨_,Tryz.func208,?_,?_⟩,⟨_,Tryz.func209,?_,?_⟩,⟨_,Tryz.func210,?_,?_⟩,⟨_,Tryz.func211,?_,?_⟩,⟨_,Tryz.func212,?_,?_⟩,⟨_,Tryz.func213,?_,?_⟩,⟨_,Tryz.func214,?_,?_⟩,⟨_,Tryz.func215,?_,?_⟩,⟨_,Tryz.func216,?_,?_⟩,⟨_,Tryz.func217,?_,?_⟩,⟨_,Tryz.func218,?_,?_⟩,⟨_,Tryz.func219,?_,?_⟩,⟨_,Tryz.func220,?_,?_⟩,⟨_,Tryz.func221,?_,?_⟩,⟨_,Tryz.func222,?_,?_⟩,⟨_,Tryz.func223,?_,?_⟩,⟨_,Tryz.func224,?_,?_⟩,⟨_,Tryz.func225,?_,?_⟩,⟨_,Tryz.func226,?_,?_⟩,⟨_,Tryz.func227,?_,?_⟩,⟨_,Tryz.func228,?_,?_⟩,⟨_,Tryz.func229,?_,?_⟩,⟨_,Tryz.func230,?_,?_⟩,⟨_,Tryz.func231,?_,?_⟩,⟨_,Tryz.func232,?_,?_⟩,⟨_,Tryz.func233,?_,?_⟩,⟨_,Tryz.func235,?_,?_⟩,⟨_,Tryz.func237,?_,?_⟩,⟨_,Tryz.func238,?_,?_⟩,⟨_,Tryz.func239,?_,?_⟩,⟨_,Tryz.func240,?_,?_⟩,⟨_,Tryz.func241,?_,?_⟩,⟨_,Tryz.func242,?_,?_⟩,⟨_,Tryz.func243,?_,?_⟩,⟨_,Tryz.func244,?_,?_⟩,⟨_,Tryz.func245,?_,?_⟩,⟨_,Tryz.func246,?_,?_⟩,⟨_,Tryz.func248,?_,?_⟩,⟨_,Tryz.func249,?_,?_⟩,⟨_,Tryz.func250,?_,?_⟩,⟨_,Tryz.func251,?_,?_⟩,⟨_,Tryz.func252,?_,?_⟩,⟨_,Tryz.func253,?_,?_⟩,⟨_,Tryz.func254,?_,?_⟩,⟨_,Tryz.func255,?_,?_⟩,⟨_,Tryz.func256,?_,?_⟩,⟨_,Tryz.func257,?_,?_⟩,⟨_,Tryz.func258,?_,?_⟩,⟨_,Tryz.func259,?_,?_⟩,⟨_,Tryz.func260,?_,?_⟩,⟨_,Tryz.func261,?_,?_⟩,trivial⟩<;>kernel_rfl
theorem xQo:wQ5 Tryz.prog gx.ms:=
 trivial
theorem vQ0:wQ6 Tryz.prog gx.eqs:=
 ⟨⟨by kernel_rfl,by kernel_rfl,by kernel_rfl⟩,
  ⟨by kernel_rfl,by kernel_rfl,by kernel_rfl⟩,trivial⟩
theorem aQb:gx.Ok:=⟨vQY,vQZ,by kernel_rfl,xQo,vQ0⟩
noncomputable abbrev c3:Cx:={g:=gx,N:=128,named:=1,keep:=[1,2,3,4,5,6,7,8,9,10,11,12,13,14,15,16,17,18,19,37,58,60,66,71,83,97,126]}
noncomputable abbrev c4:Cx:={g:=gx,N:=146,named:=2,keep:=[2,4,5,6,7,8,9,10,11,12,13,14,15,16,17,18,19,20,21,22,37,45,83,92,97,128,130,144]}
noncomputable abbrev c5:Cx:={g:=gx,N:=181,named:=3,keep:=[3,6,7,8,9,10,11,12,13,14,15,16,19,21,25,60,72,80,87,96,101,110,115,122]}
noncomputable abbrev c6:Cx:={g:=gx,N:=137,named:=3,keep:=[3,5,6,7,8,9,10,11,12,13,14,15,16,66]}
noncomputable abbrev c7:Cx:={g:=gx,N:=100,named:=2,keep:=[2,4,5,6,7,8,9,10,11,12,13,14,15,23]}
noncomputable abbrev c8:Cx:={g:=gx,N:=179,named:=1,keep:=[1,2,3,4,5,6,7,8,9,10,11,12,13,26,32,48,58,61,78,89,100,131,133,177]}
noncomputable abbrev c9:Cx:={g:=gx,N:=80,named:=1,keep:=[1,2,3,4,5,6,7,8,9,10,19]}
noncomputable abbrev c10:Cx:={g:=gx,N:=53,named:=2,keep:=[2,4,5,6,7,8,9,10,33,35,51]}
noncomputable abbrev c11:Cx:={g:=gx,N:=179,named:=1,keep:=[1,3,5,7,9,11,13,14,15,16,17,18,19,21,23,25,26,27,28,30]}
noncomputable abbrev c14:Cx:={g:=gx,N:=12,named:=2,keep:=[2,3,9]}
noncomputable abbrev c15:Cx:={g:=gx,N:=118,named:=5,keep:=[5,8,9,10,11,12,13,14,15,17,19,44,45,46,47,51,81,115]}
noncomputable abbrev c16:Cx:={g:=gx,N:=2,named:=1,keep:=[]}
noncomputable abbrev c17:Cx:={g:=gx,N:=18,named:=2,keep:=[2,3,4,5]}
noncomputable abbrev c18:Cx:={g:=gx,N:=32,named:=2,keep:=[2,4,5,6,9,13,25]}
noncomputable abbrev c19:Cx:={g:=gx,N:=38,named:=6,keep:=[10,16,30]}
noncomputable abbrev c21:Cx:={g:=gx,N:=29,named:=2,keep:=[2,4,5,7,10,13,14,15,16]}
noncomputable abbrev c22:Cx:={g:=gx,N:=8,named:=2,keep:=[2,3,4]}
noncomputable abbrev c23:Cx:={g:=gx,N:=9,named:=2,keep:=[2,3,4]}
noncomputable abbrev c24:Cx:={g:=gx,N:=65,named:=4,keep:=[4,6,7,8,10,16,17,18,19,46,55,59]}
noncomputable abbrev c25:Cx:={g:=gx,N:=7,named:=2,keep:=[2]}
noncomputable abbrev c26:Cx:={g:=gx,N:=69,named:=2,keep:=[2,4,5,6,7,8,11,19,39,48]}
noncomputable abbrev c28:Cx:={g:=gx,N:=11,named:=4,keep:=[4]}
noncomputable abbrev c29:Cx:={g:=gx,N:=6,named:=2,keep:=[2,3]}
noncomputable abbrev c30:Cx:={g:=gx,N:=15,named:=2,keep:=[2,3,9]}
noncomputable abbrev c33:Cx:={g:=gx,N:=33,named:=2,keep:=[2,4,5,11,23]}
noncomputable abbrev c34:Cx:={g:=gx,N:=15,named:=2,keep:=[2,3,9]}
noncomputable abbrev c35:Cx:={g:=gx,N:=9,named:=1,keep:=[1,2,3]}
noncomputable abbrev c36:Cx:={g:=gx,N:=11,named:=2,keep:=[2,3,4,5]}
noncomputable abbrev c37:Cx:={g:=gx,N:=6,named:=2,keep:=[2,3]}
noncomputable abbrev c38:Cx:={g:=gx,N:=42,named:=7,keep:=[7,9,11,12]}
noncomputable abbrev c39:Cx:={g:=gx,N:=25,named:=4,keep:=[4,6,7,8]}
noncomputable abbrev c41:Cx:={g:=gx,N:=11,named:=4,keep:=[9]}
noncomputable abbrev c42:Cx:={g:=gx,N:=47,named:=3,keep:=[3,5,6,7,8,9,24,45]}
noncomputable abbrev c43:Cx:={g:=gx,N:=81,named:=6,keep:=[6,7,9,10,11,12,13,14,15,22,29,38,39,40,41,63]}
noncomputable abbrev c44:Cx:={g:=gx,N:=6,named:=2,keep:=[3]}
noncomputable abbrev c45:Cx:={g:=gx,N:=107,named:=3,keep:=[3,4,5,9,10,11,12,70,104]}
noncomputable abbrev c46:Cx:={g:=gx,N:=19,named:=4,keep:=[12]}
noncomputable abbrev c47:Cx:={g:=gx,N:=21,named:=5,keep:=[5,6,7,8,13]}
noncomputable abbrev c48:Cx:={g:=gx,N:=222,named:=7,keep:=[7,8,9,11,12,13,15,16,18,19,21,22,23,25,26,27,31,32,33,34,56,64,67,68,69,70,77,78,79,80,97,105,106,107,108,111,112,113,114,124,155,163,164,165,166,185,191]}
noncomputable abbrev c49:Cx:={g:=gx,N:=11,named:=2,keep:=[2,3,4]}
noncomputable abbrev c50:Cx:={g:=gx,N:=22,named:=6,keep:=[6,7,8,9,17]}
noncomputable abbrev c51:Cx:={g:=gx,N:=6,named:=3,keep:=[]}
noncomputable abbrev c52:Cx:={g:=gx,N:=106,named:=1,keep:=[1,2,3,4,5,6,10,13,14,15,16,63,79,94,105]}
noncomputable abbrev c53:Cx:={g:=gx,N:=30,named:=2,keep:=[2,4,5,6,10,23]}
noncomputable abbrev c54:Cx:={g:=gx,N:=83,named:=1,keep:=[1,2,3,5,15,17,18,19,20,55,74,82]}
noncomputable abbrev c55:Cx:={g:=gx,N:=25,named:=2,keep:=[2,4,5,7,9,10,11,12,18]}
noncomputable abbrev c56:Cx:={g:=gx,N:=19,named:=6,keep:=[]}
noncomputable abbrev c57:Cx:={g:=gx,N:=14,named:=3,keep:=[]}
noncomputable abbrev c58:Cx:={g:=gx,N:=26,named:=3,keep:=[3,4,6,7,8]}
noncomputable abbrev c59:Cx:={g:=gx,N:=6,named:=1,keep:=[1,2]}
noncomputable abbrev c60:Cx:={g:=gx,N:=11,named:=4,keep:=[9]}
noncomputable abbrev c61:Cx:={g:=gx,N:=15,named:=2,keep:=[2,3,4]}
noncomputable abbrev c62:Cx:={g:=gx,N:=16,named:=2,keep:=[2,3,4]}
noncomputable abbrev c63:Cx:={g:=gx,N:=15,named:=3,keep:=[]}
noncomputable abbrev c64:Cx:={g:=gx,N:=12,named:=2,keep:=[2,3,4]}
noncomputable abbrev c65:Cx:={g:=gx,N:=12,named:=3,keep:=[3,4,5,6,7]}
noncomputable abbrev c66:Cx:={g:=gx,N:=8,named:=2,keep:=[2,3,4]}
noncomputable abbrev c72:Cx:={g:=gx,N:=59,named:=8,keep:=[8,9,13]}
noncomputable abbrev c80:Cx:={g:=gx,N:=23,named:=5,keep:=[12]}
noncomputable abbrev c81:Cx:={g:=gx,N:=9,named:=3,keep:=[]}
noncomputable abbrev c82:Cx:={g:=gx,N:=26,named:=3,keep:=[3,4,5,6,7,8,14]}
noncomputable abbrev c83:Cx:={g:=gx,N:=7,named:=5,keep:=[]}
noncomputable abbrev c84:Cx:={g:=gx,N:=9,named:=5,keep:=[]}
noncomputable abbrev c86:Cx:={g:=gx,N:=30,named:=3,keep:=[3,4,5,7,8,9,16,23]}
noncomputable abbrev c87:Cx:={g:=gx,N:=107,named:=2,keep:=[2,3,4,5,6,8,9,10,11,12,13,14,15,16,17,18,19,20,24,31,33,34,35,36,42,55,56,57,58,93]}
noncomputable abbrev c88:Cx:={g:=gx,N:=31,named:=6,keep:=[13,15,16,17]}
noncomputable abbrev c89:Cx:={g:=gx,N:=50,named:=4,keep:=[4,5,6,7,8,15,25,32,38]}
noncomputable abbrev c90:Cx:={g:=gx,N:=87,named:=2,keep:=[2,3,4,5,6,7,10,13,14,15,16,46,47,48,73,79]}
noncomputable abbrev c91:Cx:={g:=gx,N:=13,named:=2,keep:=[2,3,9]}
noncomputable abbrev c92:Cx:={g:=gx,N:=230,named:=5,keep:=[5,6,7,8,9,10,11,12,13,14,16,17,18,19,20,21,56,96,125,147,163,172,201]}
noncomputable abbrev c95:Cx:={g:=gx,N:=10,named:=5,keep:=[]}
noncomputable abbrev c96:Cx:={g:=gx,N:=8,named:=5,keep:=[]}
noncomputable abbrev c97:Cx:={g:=gx,N:=16,named:=2,keep:=[2,3,4]}
noncomputable abbrev c98:Cx:={g:=gx,N:=19,named:=6,keep:=[7,8,9,16]}
noncomputable abbrev c99:Cx:={g:=gx,N:=8,named:=2,keep:=[2,3]}
noncomputable abbrev xQ2:Cx:={g:=gx,N:=8,named:=2,keep:=[2,4]}
noncomputable abbrev xQ3:Cx:={g:=gx,N:=11,named:=2,keep:=[2,3,4,5]}
noncomputable abbrev xQ4:Cx:={g:=gx,N:=75,named:=8,keep:=[8,10,12,13,15,22,29,39,40,41,42,49,63,64,65,66]}
noncomputable abbrev xQ5:Cx:={g:=gx,N:=14,named:=2,keep:=[2,4,6]}
noncomputable abbrev xQ6:Cx:={g:=gx,N:=17,named:=2,keep:=[2,4,5,6,7]}
noncomputable abbrev xQ7:Cx:={g:=gx,N:=17,named:=2,keep:=[2,3,4]}
noncomputable abbrev xQQ:Cx:={g:=gx,N:=20,named:=2,keep:=[6,19]}
noncomputable abbrev xQ8:Cx:={g:=gx,N:=137,named:=17,keep:=[22,33,57]}
noncomputable abbrev xQ9:Cx:={g:=gx,N:=22,named:=4,keep:=[4,5,6]}
noncomputable abbrev yQa:Cx:={g:=gx,N:=9,named:=5,keep:=[]}
noncomputable abbrev yQb:Cx:={g:=gx,N:=8,named:=2,keep:=[2,3]}
noncomputable abbrev yQc:Cx:={g:=gx,N:=18,named:=4,keep:=[4,5,6,7,8,9,15]}
noncomputable abbrev xQR:Cx:={g:=gx,N:=17,named:=3,keep:=[3,4,5,6,7,8]}
noncomputable abbrev yQd:Cx:={g:=gx,N:=8,named:=5,keep:=[]}
noncomputable abbrev yQe:Cx:={g:=gx,N:=9,named:=5,keep:=[]}
noncomputable abbrev yQf:Cx:={g:=gx,N:=26,named:=3,keep:=[3,4,5,6,7,8,15]}
noncomputable abbrev yQg:Cx:={g:=gx,N:=77,named:=5,keep:=[5,7,9,10,11,12,13,14,15,16,17,18,24,42,50,68]}
noncomputable abbrev yQh:Cx:={g:=gx,N:=26,named:=6,keep:=[10,12,13,14,24]}
noncomputable abbrev yQi:Cx:={g:=gx,N:=77,named:=11,keep:=[47,66]}
noncomputable abbrev yQj:Cx:={g:=gx,N:=10,named:=1,keep:=[1,2,3,7]}
noncomputable abbrev xQS:Cx:={g:=gx,N:=25,named:=2,keep:=[2,3,4,5,6,7]}
noncomputable abbrev xQp:Cx:={g:=gx,N:=12,named:=8,keep:=[]}
noncomputable abbrev yQk:Cx:={g:=gx,N:=47,named:=7,keep:=[8,9,10,11,31]}
noncomputable abbrev yQl:Cx:={g:=gx,N:=28,named:=1,keep:=[1,2,3,4,5,9,23]}
noncomputable abbrev yQm:Cx:={g:=gx,N:=45,named:=9,keep:=[9,10,17,20,21,22,23,24,36]}
noncomputable abbrev yQn:Cx:={g:=gx,N:=16,named:=5,keep:=[]}
noncomputable abbrev yQo:Cx:={g:=gx,N:=10,named:=5,keep:=[]}
noncomputable abbrev yQp:Cx:={g:=gx,N:=34,named:=11,keep:=[19,20,21,29]}
noncomputable abbrev yQq:Cx:={g:=gx,N:=72,named:=9,keep:=[16,21,32,33,34,46]}
noncomputable abbrev yQr:Cx:={g:=gx,N:=20,named:=3,keep:=[]}
noncomputable abbrev wQ8:Cx:={g:=gx,N:=17,named:=5,keep:=[7,14]}
noncomputable abbrev yQs:Cx:={g:=gx,N:=6,named:=1,keep:=[1,2]}
noncomputable abbrev yQt:Cx:={g:=gx,N:=29,named:=7,keep:=[]}
noncomputable abbrev yQu:Cx:={g:=gx,N:=13,named:=7,keep:=[]}
noncomputable abbrev yQv:Cx:={g:=gx,N:=32,named:=4,keep:=[4,5,6,16,17,25]}
noncomputable abbrev yQw:Cx:={g:=gx,N:=16,named:=2,keep:=[6]}
noncomputable abbrev yQx:Cx:={g:=gx,N:=29,named:=4,keep:=[4,5,6,7]}
noncomputable abbrev yQy:Cx:={g:=gx,N:=56,named:=7,keep:=[27,52]}
noncomputable abbrev yQz:Cx:={g:=gx,N:=16,named:=4,keep:=[]}
noncomputable abbrev yQA:Cx:={g:=gx,N:=42,named:=8,keep:=[8,9,13,25]}
noncomputable abbrev yQB:Cx:={g:=gx,N:=80,named:=7,keep:=[7,8,31,37]}
noncomputable abbrev yQC:Cx:={g:=gx,N:=66,named:=12,keep:=[13,15,20,36,41]}
noncomputable abbrev yQD:Cx:={g:=gx,N:=18,named:=5,keep:=[]}
noncomputable abbrev yQE:Cx:={g:=gx,N:=9,named:=5,keep:=[]}
noncomputable abbrev yQF:Cx:={g:=gx,N:=55,named:=9,keep:=[9,10,11,18]}
noncomputable abbrev yQG:Cx:={g:=gx,N:=26,named:=6,keep:=[10,12,13,14,24]}
noncomputable abbrev yQH:Cx:={g:=gx,N:=25,named:=7,keep:=[10,11,16]}
noncomputable abbrev yQI:Cx:={g:=gx,N:=14,named:=2,keep:=[2,4,6]}
noncomputable abbrev yQJ:Cx:={g:=gx,N:=29,named:=3,keep:=[3,6,7,12]}
noncomputable abbrev yQK:Cx:={g:=gx,N:=38,named:=3,keep:=[3,4,5,6,11,18,26]}
noncomputable abbrev yQL:Cx:={g:=gx,N:=77,named:=5,keep:=[5,6,7,9,19]}
noncomputable abbrev yQM:Cx:={g:=gx,N:=19,named:=6,keep:=[7,8,9,16]}
noncomputable abbrev xQT:Cx:={g:=gx,N:=67,named:=15,keep:=[16,24,26,31]}
noncomputable abbrev yQN:Cx:={g:=gx,N:=29,named:=3,keep:=[3,6,7,12]}
noncomputable abbrev yQO:Cx:={g:=gx,N:=21,named:=5,keep:=[]}
noncomputable abbrev yQP:Cx:={g:=gx,N:=19,named:=6,keep:=[7,8,9,16]}
noncomputable abbrev yQQ:Cx:={g:=gx,N:=18,named:=7,keep:=[]}
noncomputable abbrev yQR:Cx:={g:=gx,N:=64,named:=12,keep:=[16,17,18,28,47,48,53,59]}
noncomputable abbrev yQS:Cx:={g:=gx,N:=8,named:=3,keep:=[4]}
noncomputable abbrev yQT:Cx:={g:=gx,N:=4,named:=1,keep:=[]}
noncomputable abbrev xQU:Cx:={g:=gx,N:=97,named:=6,keep:=[6,7,8,9,10,11,12,13,14,15,28,39,46,64,65]}
noncomputable abbrev yQU:Cx:={g:=gx,N:=54,named:=9,keep:=[9,10,11,14,30]}
noncomputable abbrev yQV:Cx:={g:=gx,N:=23,named:=4,keep:=[7,21]}
noncomputable abbrev yQW:Cx:={g:=gx,N:=89,named:=5,keep:=[5,6,7,17,32,42,52,62]}
noncomputable abbrev yQX:Cx:={g:=gx,N:=63,named:=3,keep:=[3,4,5,6,8,9,17,18,19,20,21,29,36,37,38,39,44,54,55,56,61]}
noncomputable abbrev yQY:Cx:={g:=gx,N:=75,named:=10,keep:=[10,11,21,26,48,52,56,65]}
noncomputable abbrev yQZ:Cx:={g:=gx,N:=24,named:=5,keep:=[16,20]}
noncomputable abbrev xQV:Cx:={g:=gx,N:=25,named:=11,keep:=[15]}
noncomputable abbrev yQ0:Cx:={g:=gx,N:=6,named:=2,keep:=[]}
noncomputable abbrev yQ1:Cx:={g:=gx,N:=84,named:=9,keep:=[10,18,23,32,49,50,55]}
noncomputable abbrev yQ2:Cx:={g:=gx,N:=37,named:=5,keep:=[5,6,12,21,31]}
noncomputable abbrev yQ3:Cx:={g:=gx,N:=11,named:=6,keep:=[]}
noncomputable abbrev yQ4:Cx:={g:=gx,N:=23,named:=8,keep:=[12]}
noncomputable abbrev yQ5:Cx:={g:=gx,N:=13,named:=4,keep:=[4,6,8]}
noncomputable abbrev yQ6:Cx:={g:=gx,N:=108,named:=2,keep:=[2,3,4,5,6,7,10,15,16,17,18,23,24,34,45,59,78,98]}
noncomputable abbrev yQ7:Cx:={g:=gx,N:=8,named:=3,keep:=[]}
noncomputable abbrev yQ8:Cx:={g:=gx,N:=9,named:=1,keep:=[1,2]}
noncomputable abbrev yQ9:Cx:={g:=gx,N:=8,named:=5,keep:=[]}
noncomputable abbrev zQa:Cx:={g:=gx,N:=79,named:=2,keep:=[2,4,5,6,50,66,69,78]}
noncomputable abbrev zQb:Cx:={g:=gx,N:=8,named:=5,keep:=[]}
noncomputable abbrev zQc:Cx:={g:=gx,N:=29,named:=3,keep:=[]}
noncomputable abbrev zQd:Cx:={g:=gx,N:=27,named:=3,keep:=[3,4,10]}
noncomputable abbrev zQe:Cx:={g:=gx,N:=39,named:=13,keep:=[18,28]}
noncomputable abbrev zQf:Cx:={g:=gx,N:=69,named:=2,keep:=[2,4,5,6,11,12,15,27,28,33,67]}
noncomputable abbrev zQg:Cx:={g:=gx,N:=8,named:=3,keep:=[3,4,6]}
noncomputable abbrev xQW:Cx:={g:=gx,N:=17,named:=5,keep:=[]}
noncomputable abbrev zQh:Cx:={g:=gx,N:=21,named:=3,keep:=[3,4]}
noncomputable abbrev zQi:Cx:={g:=gx,N:=21,named:=2,keep:=[2,3,4,5,9,16]}
noncomputable abbrev zQj:Cx:={g:=gx,N:=16,named:=5,keep:=[7,12]}
noncomputable abbrev zQk:Cx:={g:=gx,N:=15,named:=6,keep:=[9]}
noncomputable abbrev zQl:Cx:={g:=gx,N:=10,named:=5,keep:=[]}
end
end Go.Proofs.YtjabbbcdgmlojaaGreatDoor
namespace Go.Proofs
section
open Go.Shelf
def Tryz.lays156_ren:Go.Shelf.Ren:=⟨fun | 156=>102 | 165=>156 | 166=>56 | 169=>57 | 240=>106 | 241=>210 | 276=>159 | 277=>236 | n=>n,fun | 31=>37 | 9=>9 | 3=>3 | 4=>4 | 0=>0 | 20=>20 | 72=>109 | 76=>113 | 70=>107 | 37=>62 | 75=>112 | 127=>179 | 164=>240 | 5=>5 | 80=>115 | n=>n,fun | n=>n⟩
theorem Tryz.lays156:Go.Proofs.Lays.n156 Tryz.prog Tryz.lays156_ren:={
 mixed:=by kernel_rfl
 f156:=Tryz.func102.trans (congrArg some (by kernel_rfl))
 f165:=Tryz.func156.trans (congrArg some (by kernel_rfl))
 f166:=Tryz.func56.trans (congrArg some (by kernel_rfl))
 f169:=Tryz.func57.trans (congrArg some (by kernel_rfl))
 f240:=Tryz.func106.trans (congrArg some (by kernel_rfl))
 f241:=Tryz.func210.trans (congrArg some (by kernel_rfl))
 f276:=Tryz.func159.trans (congrArg some (by kernel_rfl))
 f277:=Tryz.func236.trans (congrArg some (by kernel_rfl))
 t0:=Tryz.underlying0
 a0:=Tryz.isAgg0
 z0:=Tryz.sizeOf0
 v0:=Tryz.zeroValue0
 t3:=Tryz.underlying3
 a3:=Tryz.isAgg3
 z3:=Tryz.sizeOf3
 v3:=Tryz.zeroValue3
 t4:=Tryz.underlying4
 a4:=Tryz.isAgg4
 z4:=Tryz.sizeOf4
 v4:=Tryz.zeroValue4
 t9:=Tryz.underlying9
 a9:=Tryz.isAgg9
 z9:=Tryz.sizeOf9
 v9:=Tryz.zeroValue9
 t20:=Tryz.underlying20
 a20:=Tryz.isAgg20
 z20:=Tryz.sizeOf20
 v20:=Tryz.zeroValue20
 t31:=Tryz.underlying37
 a31:=Tryz.isAgg37
 z31:=Tryz.sizeOf37
 v31:=Tryz.zeroValue37
 t37:=Tryz.underlying62
 a37:=Tryz.isAgg62
 z37:=Tryz.sizeOf62
 v37:=Tryz.zeroValue62
 t70:=Tryz.underlying107
 a70:=Tryz.isAgg107
 z70:=Tryz.sizeOf107
 v70:=Tryz.zeroValue107
 t72:=Tryz.underlying109
 a72:=Tryz.isAgg109
 z72:=Tryz.sizeOf109
 v72:=Tryz.zeroValue109
 t75:=Tryz.underlying112
 a75:=Tryz.isAgg112
 z75:=Tryz.sizeOf112
 v75:=Tryz.zeroValue112
 t76:=Tryz.underlying113
 a76:=Tryz.isAgg113
 z76:=Tryz.sizeOf113
 v76:=Tryz.zeroValue113
 t127:=Tryz.underlying179
 a127:=Tryz.isAgg179
 z127:=Tryz.sizeOf179
 v127:=Tryz.zeroValue179
 t164:=Tryz.underlying240
 a164:=Tryz.isAgg240
 z164:=Tryz.sizeOf240
 v164:=Tryz.zeroValue240}
theorem zQG:Builder.Extra Tryz.prog Tryz.lays156_ren:={
 sizeBuilder:=by kernel_rfl
 liesBuilder:=by kernel_rfl
 t5:=Tryz.underlying5
 a5:=Tryz.isAgg5
 z5:=Tryz.sizeOf5
 v5:=Tryz.zeroValue5
 infoByte:=by kernel_rfl
 cellsByte:=by kernel_rfl
 sizeByte:=by kernel_rfl
 neB5:=by decide}
open Go.RowKit in
theorem Tryz.strings_Join (bk o c:Nat)(xs:List ByteArray)(sep:ByteArray)(w:World)(hcells:∀(j:Nat) x,xs[j]? =some x->w.cell? ⟨bk,o+j,none⟩=some (.string x))(hbk:bk<w.heap.size)(hN:xs.length<=140737488355328)(hcap:xs.length<=c)(hlen:(Lib.join (xs.map (·.data.toList)) sep.data.toList).length<=140737488355328):
  Calls Tryz.prog 102 #[.slice (some ⟨bk,o,none⟩) xs.length c,.string sep] w fun e w'=>e= .returned (.string ⟨(Lib.join (xs.map (·.data.toList)) sep.data.toList).toArray⟩)/\Below w.heap.size w w':=Any.strings_Join Tryz.lays156 zQG bk o c xs sep w hcells hbk hN hcap hlen
def Tryz.lays137_ren:Go.Shelf.Ren:=⟨fun | 137=>94 | 217=>152 | 266=>207 | n=>n,fun | 9=>9 | 5=>5 | 3=>3 | n=>n,fun | n=>n⟩
theorem Tryz.lays137:Go.Proofs.Lays.n137 Tryz.prog Tryz.lays137_ren:={
 mixed:=by kernel_rfl
 f137:=Tryz.func94.trans (congrArg some (by kernel_rfl))
 f217:=Tryz.func152.trans (congrArg some (by kernel_rfl))
 f266:=Tryz.func207.trans (congrArg some (by kernel_rfl))
 t3:=Tryz.underlying3
 a3:=Tryz.isAgg3
 z3:=Tryz.sizeOf3
 v3:=Tryz.zeroValue3
 t5:=Tryz.underlying5
 a5:=Tryz.isAgg5
 z5:=Tryz.sizeOf5
 v5:=Tryz.zeroValue5
 t9:=Tryz.underlying9
 a9:=Tryz.isAgg9
 z9:=Tryz.sizeOf9
 v9:=Tryz.zeroValue9}
open Go.RowKit in
theorem Tryz.strings_IndexByte (s:ByteArray)(c:Int)(w:World):
  Calls Tryz.prog 94 #[.string s,.int .u8 c] w fun e w'=>e= .returned (.int .i64 (Lib.indexByte s.data.toList c.toNat.toUInt8))/\w'=w:=Any.strings_IndexByte Tryz.lays137 s c w
def Tryz.lays219_ren:Go.Shelf.Ren:=⟨fun | 219=>232 | 217=>152 | 225=>247 | 224=>248 | 267=>249 | 266=>207 | 314=>259 | n=>n,fun | 9=>9 | 3=>3 | 4=>4 | 5=>5 | 46=>121 | 146=>320 | 51=>219 | n=>n,fun | 1=>0 | n=>n⟩
theorem Tryz.lays219:Go.Proofs.Lays.n219 Tryz.prog Tryz.lays219_ren:={
 mixed:=by kernel_rfl
 f217:=Tryz.func152.trans (congrArg some (by kernel_rfl))
 f219:=Tryz.func232.trans (congrArg some (by kernel_rfl))
 f224:=Tryz.func248.trans (congrArg some (by kernel_rfl))
 f225:=Tryz.func247.trans (congrArg some (by kernel_rfl))
 f266:=Tryz.func207.trans (congrArg some (by kernel_rfl))
 f267:=Tryz.func249.trans (congrArg some (by kernel_rfl))
 f314:=Tryz.func259.trans (congrArg some (by kernel_rfl))
 t3:=Tryz.underlying3
 a3:=Tryz.isAgg3
 z3:=Tryz.sizeOf3
 v3:=Tryz.zeroValue3
 t4:=Tryz.underlying4
 a4:=Tryz.isAgg4
 z4:=Tryz.sizeOf4
 v4:=Tryz.zeroValue4
 t5:=Tryz.underlying5
 a5:=Tryz.isAgg5
 z5:=Tryz.sizeOf5
 v5:=Tryz.zeroValue5
 t9:=Tryz.underlying9
 a9:=Tryz.isAgg9
 z9:=Tryz.sizeOf9
 v9:=Tryz.zeroValue9
 t46:=Tryz.underlying121
 a46:=Tryz.isAgg121
 z46:=Tryz.sizeOf121
 v46:=Tryz.zeroValue121
 t51:=Tryz.underlying219
 a51:=Tryz.isAgg219
 z51:=Tryz.sizeOf219
 v51:=Tryz.zeroValue219
 t146:=Tryz.underlying320
 a146:=Tryz.isAgg320
 z146:=Tryz.sizeOf320
 v146:=Tryz.zeroValue320
 g1:=by kernel_rfl}
open Go.RowKit Go.Lib in
theorem Tryz.stringslite_Index_one (s:ByteArray)(c:UInt8)(w:World):
  Calls Tryz.prog 232 #[.string s,.string ⟨#[c]⟩] w fun e w'=>e= .returned (.int .i64 (Lib.indexByte s.data.toList c))/\w'=w:=Any.stringslite_Index_one Tryz.lays219 s c w
def Tryz.lays138_ren:Go.Shelf.Ren:=⟨fun | 138=>204 | 195=>233 | 218=>234 | 143=>209 | 219=>232 | 217=>152 | 225=>247 | 224=>248 | 267=>249 | 266=>207 | 314=>259 | n=>n,fun | 9=>9 | 3=>3 | 4=>4 | 5=>5 | 0=>0 | 46=>121 | 146=>320 | 51=>219 | n=>n,fun | 1=>0 | n=>n⟩
theorem Tryz.lays138:Go.Proofs.Lays.n138 Tryz.prog Tryz.lays138_ren:={
 mixed:=by kernel_rfl
 f138:=Tryz.func204.trans (congrArg some (by kernel_rfl))
 f143:=Tryz.func209.trans (congrArg some (by kernel_rfl))
 f195:=Tryz.func233.trans (congrArg some (by kernel_rfl))
 f217:=Tryz.func152.trans (congrArg some (by kernel_rfl))
 f218:=Tryz.func234.trans (congrArg some (by kernel_rfl))
 f219:=Tryz.func232.trans (congrArg some (by kernel_rfl))
 f224:=Tryz.func248.trans (congrArg some (by kernel_rfl))
 f225:=Tryz.func247.trans (congrArg some (by kernel_rfl))
 f266:=Tryz.func207.trans (congrArg some (by kernel_rfl))
 f267:=Tryz.func249.trans (congrArg some (by kernel_rfl))
 f314:=Tryz.func259.trans (congrArg some (by kernel_rfl))
 t0:=Tryz.underlying0
 a0:=Tryz.isAgg0
 z0:=Tryz.sizeOf0
 v0:=Tryz.zeroValue0
 t3:=Tryz.underlying3
 a3:=Tryz.isAgg3
 z3:=Tryz.sizeOf3
 v3:=Tryz.zeroValue3
 t4:=Tryz.underlying4
 a4:=Tryz.isAgg4
 z4:=Tryz.sizeOf4
 v4:=Tryz.zeroValue4
 t5:=Tryz.underlying5
 a5:=Tryz.isAgg5
 z5:=Tryz.sizeOf5
 v5:=Tryz.zeroValue5
 t9:=Tryz.underlying9
 a9:=Tryz.isAgg9
 z9:=Tryz.sizeOf9
 v9:=Tryz.zeroValue9
 t46:=Tryz.underlying121
 a46:=Tryz.isAgg121
 z46:=Tryz.sizeOf121
 v46:=Tryz.zeroValue121
 t51:=Tryz.underlying219
 a51:=Tryz.isAgg219
 z51:=Tryz.sizeOf219
 v51:=Tryz.zeroValue219
 t146:=Tryz.underlying320
 a146:=Tryz.isAgg320
 z146:=Tryz.sizeOf320
 v146:=Tryz.zeroValue320
 g1:=by kernel_rfl}
open Go.RowKit Go.Lib in
theorem Tryz.strings_Count_one (s:ByteArray)(c:UInt8)(w:World):
  Calls Tryz.prog 204 #[.string s,.string ⟨#[c]⟩] w fun e w'=>e= .returned (.int .i64 (Lib.countByte s.data.toList c))/\w'=w:=Any.strings_Count_one Tryz.lays138 s c w
def Tryz.lays149_ren:Go.Shelf.Ren:=⟨fun | 149=>93 | 222=>151 | n=>n,fun | 9=>9 | 5=>5 | 3=>3 | 4=>4 | n=>n,fun | n=>n⟩
theorem Tryz.lays149:Go.Proofs.Lays.n149 Tryz.prog Tryz.lays149_ren:={
 mixed:=by kernel_rfl
 f149:=Tryz.func93.trans (congrArg some (by kernel_rfl))
 f222:=Tryz.func151.trans (congrArg some (by kernel_rfl))
 t3:=Tryz.underlying3
 a3:=Tryz.isAgg3
 z3:=Tryz.sizeOf3
 v3:=Tryz.zeroValue3
 t4:=Tryz.underlying4
 a4:=Tryz.isAgg4
 z4:=Tryz.sizeOf4
 v4:=Tryz.zeroValue4
 t5:=Tryz.underlying5
 a5:=Tryz.isAgg5
 z5:=Tryz.sizeOf5
 v5:=Tryz.zeroValue5
 t9:=Tryz.underlying9
 a9:=Tryz.isAgg9
 z9:=Tryz.sizeOf9
 v9:=Tryz.zeroValue9}
open Go.RowKit Go.Lib in
theorem Tryz.strings_LastIndexByte (s:ByteArray)(c:Int)(hs:s.size<4611686018427387904)(w:World):
  Calls Tryz.prog 93 #[.string s,.int .u8 c] w fun e w'=>e= .returned (.int .i64 (Lib.lastIndexByte s c))/\w'=w:=Any.strings_LastIndexByte Tryz.lays149 s c hs w
def Tryz.lays315_ren:Go.Shelf.Ren:=⟨fun | 315=>244 | n=>n,fun | 9=>9 | 40=>294 | 4=>4 | 3=>3 | 0=>0 | 21=>21 | n=>n,fun | n=>n⟩
theorem Tryz.lays315:Go.Proofs.Lays.n315 Tryz.prog Tryz.lays315_ren:={
 mixed:=by kernel_rfl
 f315:=Tryz.func244.trans (congrArg some (by kernel_rfl))
 t0:=Tryz.underlying0
 a0:=Tryz.isAgg0
 z0:=Tryz.sizeOf0
 v0:=Tryz.zeroValue0
 t3:=Tryz.underlying3
 a3:=Tryz.isAgg3
 z3:=Tryz.sizeOf3
 v3:=Tryz.zeroValue3
 t4:=Tryz.underlying4
 a4:=Tryz.isAgg4
 z4:=Tryz.sizeOf4
 v4:=Tryz.zeroValue4
 t9:=Tryz.underlying9
 a9:=Tryz.isAgg9
 z9:=Tryz.sizeOf9
 v9:=Tryz.zeroValue9
 t21:=Tryz.underlying21
 a21:=Tryz.isAgg21
 z21:=Tryz.sizeOf21
 v21:=Tryz.zeroValue21
 t40:=Tryz.underlying294
 a40:=Tryz.isAgg294
 z40:=Tryz.sizeOf294
 v40:=Tryz.zeroValue294}
open Go.RowKit Go.Lib in
theorem Tryz.strings_indexFunc (g:Nat)(lb:Array Value)(eg:∀args w,(callFunc g args).run Tryz.prog w= .ok (.enter g args) w)(p:Nat->Bool)(truth:Bool)(s:ByteArray)(w:World)(hp:PredAt Tryz.prog g lb encR p w):
  Calls Tryz.prog 244 #[.string s,.func (.func g) #[] lb,.bool truth] w fun e w'=>e= .returned (.int .i64 (Lib.idxFunc p truth s))/\Below w.heap.size w w':=Any.strings_indexFunc Tryz.lays315 g lb eg p truth s w hp
end
end Go.Proofs
namespace Go.Proofs.YtjabbbcdgmlojaaGreatDoor
section
open Go Go.RowKit
structure Mod (S:Nat->Prop) (w w':World):Prop where
 os:w'.os=w.os
 tape:w'.tape=w.tape
 output:w'.output=w.output
 size:w.heap.size<=w'.heap.size
 block:∀k,k<w.heap.size->¬S k->w'.heap[k]? =w.heap[k]?
theorem Mod.refl (S:Nat->Prop)(w:World):Mod S w w:=⟨rfl,rfl,rfl,Nat.le_refl _,fun _ _ _=>rfl⟩
theorem Mod.of_ext {w w':World}(S:Nat->Prop)(h:Ext w w'):Mod S w w':=⟨h.os,h.tape,h.output,h.size,fun k hk _=>h.block k hk (by simp)⟩
theorem zQE {w w':World}{S:Nat->Prop}{g:Nat}(h:w.grownBy w' (some g))(hS:S g):Mod S w w':=⟨h.os,h.tape,h.output,h.size,fun k hk hn=>h.block k hk (fun e=>by cases e;exact hn hS)⟩
theorem Mod.trans {S S':Nat->Prop}{a b c:World}(h:Mod S a b)(k:Mod S' b c)(hs:∀i,S' i->S i∨a.heap.size<=i):Mod S a c:=
 ⟨k.os.trans h.os,k.tape.trans h.tape,k.output.trans h.output,Nat.le_trans h.size k.size,fun i hi hn=>(k.block i (Nat.lt_of_lt_of_le hi h.size) (fun hS=>by rcases hs i hS with h | h;exact hn h;omega)).trans (h.block i hi hn)⟩
theorem Mod.mono {S S':Nat->Prop}{a b:World}(h:Mod S a b)(hs:∀i,S i->S' i∨a.heap.size<=i):Mod S' a b:=
 ⟨h.os,h.tape,h.output,h.size,fun i hi hn=>h.block i hi (fun hS=>by rcases hs i hS with h | h;exact hn h;omega)⟩
theorem Mod.ext {S:Nat->Prop}{w0 w w':World}(h:Mod S w w')(k:Ext w0 w)(hs:∀i,S i->w0.heap.size<=i):Ext w0 w':=
 ⟨h.os.trans k.os,h.tape.trans k.tape,h.output.trans k.output,Nat.le_trans k.size h.size,fun i hi _=>(h.block i (Nat.lt_of_lt_of_le hi k.size) (fun hS=>by have:=hs i hS;omega)).trans (k.block i hi (by simp))⟩
theorem Blk.mod {S:Nat->Prop}{w w':World}{g t:Nat}{cs:List Value}(h:Blk w g t cs)(k:Mod S w w')(hn:¬S g):Blk w' g t cs:=(k.block g h.lt hn).trans h
theorem Mod.grown {S:Nat->Prop}{w w':World}(h:Mod S w w'){row:Option Nat}(hs:∀i,S i->row=some i):w.grownBy w' row:=⟨h.os,h.tape,h.output,h.size,fun k hk hn=>h.block k hk (fun hS=>hn (hs k hS).symm)⟩
def aQx (A:Option Addr):Nat->Prop:=fun k=>∃ad,A=some ad/\ad.block=k
theorem rQ4 {A:Option Addr}{n c k:Nat}(h:(Value.slice A n c).ownBlock=some k):aQx A k:=by
 cases A with
 | none=>simp[Value.ownBlock] at h
 | some ad=>exact⟨ad,rfl,by simpa [Value.ownBlock] using h⟩
theorem Mod.of_row {w w':World}{A:Option Addr}{n c:Nat}(h:w.grownBy w' (Value.slice A n c).ownBlock):Mod (aQx A) w w':=
 ⟨h.os,h.tape,h.output,h.size,fun k hk hn=>h.block k hk (fun e=>hn (rQ4 e.symm))⟩
theorem Own.rows {w:World}{base e sz n c:Nat}{A:Option Addr}{cs:List Value}(h:Own w base e sz A n c cs):∀k,aQx A k->base<=k/\k<w.heap.size:=by
 rintro k ⟨ad,rfl,rfl⟩;have h:=h.row;rcases h.2 with⟨hv,_⟩ | ⟨g,cap,cur,hv,hb,hg,_⟩
 ·cases hv
 ·cases hv;exact⟨hb,(Array.getElem?_eq_some_iff.1 hg).1⟩
theorem Own.mod {S:Nat->Prop}{w w':World}{base e sz n c:Nat}{A:Option Addr}{cs:List Value}(h:Own w base e sz A n c cs)(k:Mod S w w')(hn:∀i,aQx A i->¬S i):Own w' base e sz A n c cs:=by
 have hr:=h.row;refine⟨⟨hr.1,?_⟩⟩;rcases hr.2 with⟨hv,hx⟩ | ⟨g,cap,cur,hv,hb,hg,hrest⟩
 ·exact .inl ⟨hv,hx⟩
 ·refine .inr ⟨g,cap,cur,hv,hb,(k.block g (Array.getElem?_eq_some_iff.1 hg).1 (hn g ?_)).trans hg,hrest⟩;cases hv;exact⟨_,rfl,rfl⟩
theorem Own.up {w:World}{base base' e sz n c:Nat}{A:Option Addr}{cs:List Value}(h:Own w base e sz A n c cs)(hb:base'<=base):Own w base' e sz A n c cs:=by
 have hr:=h.row;refine⟨⟨hr.1,?_⟩⟩;rcases hr.2 with hv | ⟨g,cap,cur,hv,hb',hrest⟩
 ·exact .inl hv
 ·exact .inr ⟨g,cap,cur,hv,Nat.le_trans hb hb',hrest⟩
def Moved (w:World)(A A':Option Addr):Prop:=∀ad,A'=some ad->A=some ad∨w.heap.size<=ad.block
theorem Moved.refl (w:World)(A:Option Addr):Moved w A A:=fun _ h=>.inl h
theorem Moved.rows {w:World}{A A':Option Addr}(h:Moved w A A'):∀k,aQx A' k->aQx A k∨w.heap.size<=k:=by
 rintro k ⟨ad,rfl,rfl⟩;rcases h ad rfl with h | h
 ·exact .inl ⟨ad,h,rfl⟩
 ·exact .inr h
theorem Moved.trans {w w1:World}{A B C:Option Addr}(h:Moved w A B)(k:Moved w1 B C)(hs:w.heap.size<=w1.heap.size):Moved w A C:=fun ad e=>by
 rcases k ad e with h1 | h1
 ·exact h ad h1
 ·exact .inr (by omega)
theorem Moved.back {w w1:World}{A B:Option Addr}(h:Moved w1 A B)(hs:w.heap.size<=w1.heap.size):Moved w A B:=(Moved.refl w A).trans h hs
theorem bQf {c:Cx}(hg:c.g.Ok){o:Oper}{S:Env}{w:World}{K:Env->World->Prop}{Q:cQB}{t t2 e sz:Nat}{x y:Operand}{A B:Option Addr}{n cp:Nat}{m c2:Nat}{xs ys:List Value}{base:Nat}{r re r2:TyRow}
  (ho:o.op= .call ⟨.builtin .append, #[x,y], #[t,t2]⟩) (hr:aQA c.g.tys t=some r) (hd:r.d= .slice e) (hre:aQA c.g.tys e=some re) (hs:re.sz=sz) (hsz0:0<sz) (hzc:re.z.cells.size=sz) (hr2:aQA c.g.tys t2=some r2) (hd2:∃e2,r2.d= .slice e2)
  (hx:S.ev x=some (.slice A n cp)) (hy:S.ev y=some (.slice B m c2)) (hown:Own w base e sz A n cp xs) (hys:Sl w sz B m c2 ys) (hsc:∀u∈ys,aQ8 u=true)
  (h63:n+m<=maxLen) (hby:(n+m)*re.by_<=140737488355328) (hbase:base<=w.heap.size)
  (k:∀A' c' w1,Mod (aQx A) w w1->Own w1 base e sz A' (n+m) c' (xs++ys)->Moved w A A'->bQq c S o.dst (.v (.slice A' (n+m) c')) (fun S=>K S w1)):cQv c o S w K Q:=
 oQw hg ho hr hd hre hs hsz0 hzc hr2 hd2 hx hy hown hys hsc h63 hby hbase (fun A' c' w1 h1 h2 h3=>k A' c' w1 (Mod.of_row h1) h2 h3)
theorem iQC {c:Cx}(hg:c.g.Ok){o:Oper}{S:Env}{w:World}{K:Env->World->Prop}{Q:cQB}{t t2 e:Nat}{x y:Operand}{A:Option Addr}{n cp:Nat}{s:ByteArray}{xs:List Value}{base:Nat}{r re r2:TyRow}
  (ho:o.op= .call ⟨.builtin .append, #[x,y], #[t,t2]⟩) (hr:aQA c.g.tys t=some r) (hd:r.d= .slice e) (hre:aQA c.g.tys e=some re) (hs:re.sz=1) (hzc:re.z= .int .u8 0) (hbt:re.by_=1) (hr2:aQA c.g.tys t2=some r2) (hd2:r2.d= .string)
  (hx:S.ev x=some (.slice A n cp)) (hy:S.ev y=some (.string s)) (hown:Own w base e 1 A n cp xs)
  (h63:n+s.size<=140737488355328) (hbase:base<=w.heap.size)
  (k:∀A' c' w1,Mod (aQx A) w w1->Own w1 base e 1 A' (n+s.size) c' (xs++Lib.strCells s)->Moved w A A'->bQq c S o.dst (.v (.slice A' (n+s.size) c')) (fun S=>K S w1)):cQv c o S w K Q:=
 jQm hg ho hr hd hre hs hzc hbt hr2 hd2 hx hy hown h63 hbase (fun A' c' w1 h1 h2 h3=>k A' c' w1 (Mod.of_row h1) h2 h3)
theorem aQC {w:World}{g t:Nat}{cs:List Value}{v:Value}{K:World->Prop}(h:Blk w g t cs)(hj:0<cs.length)(k:∀w1,Mod (·=g) w w1->Blk w1 g t (cs.set 0 v)->K w1):hQg w ⟨g,0,none⟩ v K:=
 oQv h hj (fun w1 h1 h2=>k w1 (zQE h1 rfl) h2)
theorem aQn {w:World}{g t:Nat}{cs:List Value}{j:Nat}{v:Value}{K:World->Prop}(h:Blk w g t cs)(hj:j<cs.length)(k:∀w1,Mod (·=g) w w1->Blk w1 g t (cs.set j v)->K w1):hQg w ((⟨g,0,none⟩:Addr).add j) v K:=
 fQs h hj (fun w1 h1 h2=>k w1 (zQE h1 rfl) h2)
theorem sc {vs:List Value}(h:vs.all aQ8=true):∀u∈vs,aQ8 u=true:=by simpa using h
theorem aQJ {w w5 w6:World}{t:Nat}{cs:List Value}(hE5:Ext w w5)(_:Blk w5 w.heap.size t cs)(hg6:w5.grownBy w6 (some w.heap.size)):Ext w w6:=
 (Ext.refl w).own (mQa (hE5.grown (some w.heap.size)) hg6) (Nat.le_refl _)
theorem eQn (s:ByteArray):Lib.strCells s=bQa (bQy s):=by
 simp only[Lib.strCells,bQa,bQy,List.map_map];rfl
structure Bld (w:World) (base g t:Nat) (rest:List Value) (A:Option Addr) (c:Nat) (out:List Nat):Prop where
 g1:g<base
 top:base<=w.heap.size
 blk:∃pa,(pa= .pointer none∨pa= .pointer (some ⟨g,0,none⟩))/\Blk w g t (pa:: .slice A out.length c::rest)
 own:Own w base 5 1 A out.length c (bQa out)
theorem Bld.grow {w w':World}{base g t:Nat}{rest:List Value}{A:Option Addr}{c:Nat}{out:List Nat}(h:Bld w base g t rest A c out)(k:Ext w w'):Bld w' base g t rest A c out:=
 ⟨h.g1,Nat.le_trans h.top k.size,let ⟨pa,h1,h2⟩:=h.blk;⟨pa,h1,h2.ext k⟩,h.own.ext k⟩
def BldS (g:Nat)(A:Option Addr):Nat->Prop:=fun k=>k=g∨aQx A k
theorem BldS.moved {w:World}{g:Nat}{A A':Option Addr}(h:Moved w A A'):∀k,BldS g A' k->BldS g A k∨w.heap.size<=k:=by
 rintro k (rfl | hk)
 ·exact .inl (.inl rfl)
 ·rcases h.rows k hk with h | h
  ·exact .inl (.inr h)
  ·exact .inr h
def mQb (t m:Nat):Prop:=liesAt Tryz.prog Tryz.prog.depth t (m/Tryz.prog.cellsOf t) 0 109 1=true
theorem Blk.shape {w:World}{g t:Nat}{cs:List Value}(h:Blk w g t cs):w.shape? g=some (t,cs.length):=by
 unfold World.shape?;rw[h];simp
theorem gxP:gx.P=Tryz.prog:=rfl
theorem gQD:∃j,Tryz.prog.info? 109=some j/\j.size≠0:=by
 obtain⟨_,i,hi,hs,_⟩:=aQb.row (t:=109) rfl;exact⟨i,hi,by rw[hs];decide⟩
theorem eQo (g t:Nat)(pa sl:Value)(rest:List Value)(w:World)(hl:mQb t (rest.length+2))(hp:pa= .pointer none∨pa= .pointer (some ⟨g,0,none⟩))(hB:Blk w g t (pa::sl::rest)):
  Fn Tryz.prog 106 [.pointer (some ⟨g,0,none⟩)] w (fun _ w'=>Mod (·=g) w w'/\Blk w' g t (.pointer (some ⟨g,0,none⟩)::sl::rest)):=by
 obtain⟨j,hj,hj0⟩:=gQD;refine aQf (c:=xQQ) aQb Tryz.func106 rfl rfl rfl ?_;have hsh:=hB.shape;have ucs:=Tryz.underlying107;have uus:=Tryz.underlying240;rcases hp with rfl | rfl
 ·refine aQe hB rfl ?_;refine aQM rfl ?_;refine aQ9 (w':=w) (v:=.pointer (some ⟨g,0,none⟩)) (fun a hf=>?_) ?_
  ·have e1:=hf.ev (show Env.ev _ (.tmp 8)=some (.pointer (some ⟨g,0,none⟩)) from rfl);have:=Lib.run_to_unsafe (P:=Tryz.prog) (src:=107) (dst:=240) w ⟨g,0,none⟩ ucs uus hj hj0 hsh (by simp);simp only[execOp,e1];simp[gxP,this]
  refine aQ9 (w':=w) (v:=.pointer (some ⟨g,0,none⟩)) (fun a hf=>?_) ?_
  ·have e1:=hf.ev (show Env.ev _ (.tmp 9)=some (.pointer (some ⟨g,0,none⟩)) from rfl);have:=run_callFunc_extern (P:=Tryz.prog) (e:=Extern.AbiNoEscape.same) Tryz.func159 (by kernel_rfl) (by kernel_rfl) (by kernel_rfl) (by kernel_rfl) #[.pointer (some ⟨g,0,none⟩)] w;rw[Lib.run_noEscape] at this;simp only[execOp,resolve,invoke];simp[Deferred.ofValue,Act.eval] at e1 ⊢;simp[e1,gxP,this]
  refine aQ9 (w':=w) (v:=.pointer (some ⟨g,0,none⟩)) (fun a hf=>?_) ?_
  ·have e1:=hf.ev (show Env.ev _ (.tmp 10)=some (.pointer (some ⟨g,0,none⟩)) from rfl);have:=Lib.run_from_unsafe (P:=Tryz.prog) (src:=240) (dst:=107) (u:=109) w ⟨g,0,none⟩ uus ucs hj hsh (by simpa [mQb] using hl);simp only[execOp,e1];simp[gxP,this]
  refine aQn hB (by simp) (fun w1 hm hB1=>?_);exact⟨hm,hB1⟩
 ·refine aQe hB rfl ?_;refine aQN rfl ?_;refine aQe hB rfl ?_;refine aQ9 (w':=w) (v:=.bool false) (fun a hf=>?_) ?_
  ·have e1:=hf.ev (show Env.ev _ (.tmp 17)=some (.pointer (some ⟨g,0,none⟩)) from rfl);have e2:=hf.ev (show Env.ev _ (.tmp 18)=some (.pointer (some ⟨g,0,none⟩)) from rfl);have:=Lib.run_neq_ptr_same (P:=Tryz.prog) (tp:=107) w ⟨g,0,none⟩ ucs hj;simp only[execOp,e1,e2,eqGuard];simp[gxP,this]
  refine aQN rfl ?_;exact⟨Mod.refl _ _,hB⟩
theorem aQ0 (base g t:Nat)(rest:List Value)(A:Option Addr)(c:Nat)(out:List Nat)(s:ByteArray)(w:World)(hl:mQb t (rest.length+2))(hb:Bld w base g t rest A c out)(hs:out.length+s.size<=140737488355328):
  Fn Tryz.prog 56 [.pointer (some ⟨g,0,none⟩),.string s] w (fun _ w'=>∃A' c',Bld w' base g t rest A' c' (out++bQy s)/\Mod (BldS g A) w w'/\Moved w A A'):=by
 refine aQf (c:=c56) aQb Tryz.func56 rfl rfl rfl ?_;obtain⟨pa,hpa,hB⟩:=hb.blk;refine call (eQo g t pa _ rest w hl hpa hB) ?_;rintro v w1 ⟨hm1,hB1⟩;have hrows:=hb.own.rows;have hg1:=hb.g1;have hn:¬aQx A g:=fun h=>by have:=(hrows g h).1;omega
 have hown1:=hb.own.mod hm1 (fun k hk e=>hn (e▸hk));refine aQe hB1 rfl ?_;refine iQC aQb rfl rfl rfl rfl rfl rfl rfl rfl rfl rfl rfl hown1 hs (by have:=hm1.size;have:=hb.top;omega) ?_;intro A' c' w2 hm2 hown2 hmv2;refine aQn (hB1.mod hm2 hn) (by simp) (fun w3 hm3 hB3=>?_);have hlen:(out++bQy s).length=out.length+s.size:=by rw[List.length_append,bQ8]
 have hrows2:=hown2.rows;refine⟨A',c',⟨hg1,by have:=hm1.size;have:=hm2.size;have:=hm3.size;have:=hb.top;omega,⟨_,.inr rfl,by rw[hlen];exact hB3⟩,?_⟩,?_,hmv2.back hm1.size⟩
 ·rw[hlen,cQS,<-eQn];exact hown2.mod hm3 (fun k hk e=>by have:=(hrows2 k hk).1;omega)
 ·exact((hm1.mono (S':=BldS g A) (fun i hi=>.inl (.inl hi))).trans hm2 (fun i hi=>.inl (.inr hi))).trans hm3 (fun i hi=>.inl (.inl hi))
theorem eQp (base g t:Nat)(rest:List Value)(A:Option Addr)(c:Nat)(out:List Nat)(b:Nat)(w:World)(hl:mQb t (rest.length+2))(hb:Bld w base g t rest A c out)(hs:out.length+1<=140737488355328):
  Fn Tryz.prog 225 [.pointer (some ⟨g,0,none⟩),.int .u8 b] w (fun _ w'=>∃A' c',Bld w' base g t rest A' c' (out++ [b])/\Mod (BldS g A) w w'/\Moved w A A'):=by
 refine aQf (c:=xQW) aQb Tryz.func225 rfl rfl rfl ?_;obtain⟨pa,hpa,hB⟩:=hb.blk;refine call (eQo g t pa _ rest w hl hpa hB) ?_;rintro v w1 ⟨hm1,hB1⟩;have hrows:=hb.own.rows;have hg1:=hb.g1;have htop:=hb.top;have hn:¬aQx A g:=fun h=>by have:=(hrows g h).1;omega
 have hown1:=hb.own.mod hm1 (fun k hk e=>hn (e▸hk));refine aQe hB1 rfl ?_;refine kQL aQb rfl rfl rfl rfl rfl rfl rfl rfl ?_;intro w7 hE7 hsz7 hB7;have hs7:Sl w7 1 (some ⟨w1.heap.size,0,none⟩) 1 1 [.int .u8 (b:Int)]:=Sl.own' hB7 rfl (by simp[maxLen]);have hsz1:=hm1.size;have hsz7':=hE7.size;refine bQf aQb rfl rfl rfl rfl rfl (by decide) rfl rfl ⟨_,rfl⟩ rfl rfl (hown1.ext hE7) hs7 (by simp[aQ8]) (by unfold maxLen;omega) (by show _*1<=_;omega) (by omega) ?_;intro A' c' w2 hm2 hown2 hmv2;refine aQn ((hB1.ext hE7).mod hm2 hn) (by simp) (fun w3 hm3 hB3=>?_);have hrows2:=hown2.rows;refine⟨A',c',⟨hg1,by have:=hm2.size;have:=hm3.size;omega,⟨_,.inr rfl,by rw[List.length_append];exact hB3⟩,?_⟩,?_,hmv2.back (by omega)⟩
 ·rw[List.length_append,cQS];exact hown2.mod hm3 (fun k hk e=>by have:=(hrows2 k hk).1;omega)
 ·exact(((hm1.mono (S':=BldS g A) (fun i hi=>.inl (.inl hi))).trans (Mod.of_ext (fun _=>False) hE7) (fun i hi=>hi.elim)).trans hm2 (fun i hi=>.inl (.inr hi))).trans hm3 (fun i hi=>.inl (.inl hi))
theorem iQD (w:World)(g n:Nat){S:Nat->Prop}(h:S g):Mod S w (w.freeze ⟨g,0,none⟩ n):=by
 unfold World.freeze;split
 ·exact Mod.refl _ _
 ·refine⟨rfl,rfl,rfl,by simp,fun k hk hn=>?_⟩;simp only[Array.getElem?_modify];rw[if_neg (fun(e:g=k)=>hn (e▸h))]
theorem kQO (base g t:Nat)(rest:List Value)(A:Option Addr)(c:Nat)(out:List Nat)(w:World)(hb:Bld w base g t rest A c out)(h8:∀x∈out,x<256)(hs:out.length<=140737488355328):
  Fn Tryz.prog 57 [.pointer (some ⟨g,0,none⟩)] w (fun v w'=>v= .string (aQh out)/\Mod (aQx A) w w'):=by
 obtain⟨pa,hpa,hB⟩:=hb.blk;refine aQf (c:=c57) aQb Tryz.func57 rfl rfl rfl ?_;have hlen:(bQa out).length=out.length:=cQo out;refine aQm aQb (Ext w) 10 [(true,0),(true,1),(true,2),(true,3),(true,5),(true,6),(true,7),(true,8),(true,9),(false,4)] (by kernel_rfl) (Ext.drew w) ?_;refine aQy (v:=.slice A out.length c) (fun w' hw'=>by rw[(hB.ext hw').cell];rfl) ?_;refine aQy (v:=.slice A out.length c) (fun w' hw'=>by rw[(hB.ext hw').cell];rfl) ?_;have fin0:out.length=0->Value.string ByteArray.empty=Value.string (aQh out):=fun h0=>by
  have:out=[]:=List.eq_nil_of_length_eq_zero h0;subst this;rfl
 by_cases h0:out.length=0
 ·have key:∃p w1,(Builtin.unsafeSliceData_ #[62] 179 #[.slice A out.length c]).run Tryz.prog w.drew= .ok (.pointer p) w1/\Ext w w1:=by
   rcases hb.own.row.2 with⟨hv,_⟩ | ⟨g',cap,cur,hv,hb',hg',_⟩
   ·simp only[Value.slice.injEq] at hv;obtain⟨rfl,_,rfl⟩:=hv;exact⟨none,w.drew,Lib.run_unsafeSliceData_nil _ _ _ _ _,Ext.drew w⟩
   ·simp only[Value.slice.injEq] at hv;obtain⟨rfl,_,rfl⟩:=hv;by_cases hc0:c=0
    ·subst hc0;have hsh:w.drew.shape? g'=some (5,cur.size):=by
      unfold World.shape?;rw[show w.drew.heap[g']? =_ from hg']
     exact⟨_,_,Lib.run_unsafeSliceData_zero (P:=Tryz.prog) w.drew _ _ 5 Tryz.underlying179 ⟨g',0,none⟩ _ _ hsh,(Ext.drew w).trans (Ext.alloc _ _)⟩
    ·exact⟨_,w.drew,Lib.run_unsafeSliceData_row (P:=Tryz.prog) w.drew _ _ ⟨g',0,none⟩ _ _ hc0,Ext.drew w⟩
  obtain⟨p,w1,hrun,hE1⟩:=key;refine aQ9 (w':=w1) (v:=.pointer p) (fun a hf=>?_) ⟨hE1,?_⟩
  ·have e1:=hf.ev (show Env.ev _ (.tmp 6)=some (.slice A out.length c) from rfl);simp only[execOp,resolve,invoke,builtin];simp[gxP,e1,hrun]
  refine aQ9 (w':=w1) (v:=.string ByteArray.empty) (fun a hf=>?_) ?_
  ·have e1:=hf.ev (show Env.ev _ (.tmp 7)=some (.pointer p) from rfl);have e2:=hf.ev (show Env.ev _ (.tmp 12)=some (.int .i64 out.length) from rfl);have:=Lib.run_unsafeString_none (P:=Tryz.prog) w1 179 3 9 p;rw[h0] at e2;simp only[execOp,resolve,invoke,builtin];simp[gxP,e1,e2];rw[this]<;>rfl
  exact⟨fin0 h0,Mod.of_ext _ hE1⟩
 ·obtain⟨g',sp,rfl,hb',hB',hl'⟩:=hb.own.blk (by omega);have hle:=hb.own.sl.le;refine aQ9 (w':=w.drew) (v:=.pointer (some ⟨g',0,none⟩)) (fun a hf=>?_) ⟨Ext.drew w,?_⟩
  ·have e1:=hf.ev (show Env.ev _ (.tmp 6)=some (.slice (some ⟨g',0,none⟩) out.length c) from rfl);have:=Lib.run_unsafeSliceData_row (P:=Tryz.prog) w.drew #[62] 179 ⟨g',0,none⟩ out.length c (by omega);simp only[execOp,resolve,invoke,builtin];simp[gxP,e1,this]
  refine aQ9 (w':=w.drew.freeze ⟨g',0,none⟩ out.length) (v:=.string (aQh out)) (fun a hf=>?_) ?_
  ·have e1:=hf.ev (show Env.ev _ (.tmp 7)=some (.pointer (some ⟨g',0,none⟩)) from rfl);have e2:=hf.ev (show Env.ev _ (.tmp 12)=some (.int .i64 out.length) from rfl);have hsh:w.drew.shape? g'=some (5,(bQa out++sp).length):=(hB'.ext (Ext.drew w)).shape;have hl2:(out.map UInt8.ofNat).length=out.length:=by simp
   have:=Lib.run_unsafeString_row (P:=Tryz.prog) w.drew 179 3 9 5 Tryz.underlying179 (by kernel_rfl) g' _ hsh (out.map UInt8.ofNat) (by intro e;apply h0;rw[<-hl2,e];rfl) (by simp[cQo]) (by rw[hl2];omega) (fun j x hj=>by
    rw[(hB'.ext (Ext.drew w)).cell];simp only[List.getElem?_map,Option.map_eq_some_iff] at hj;obtain⟨y,hy,rfl⟩:=hj;have hjl:j<out.length:=(List.getElem?_eq_some_iff.1 hy).1;rw[List.getElem?_append_left (by rw[hlen];exact hjl),eQ9 hy];have:=h8 y (List.mem_of_getElem? hy);simp[Nat.mod_eq_of_lt this])
   rw[hl2] at this;simp only[execOp,resolve,invoke,builtin];simp[gxP,e1,e2];rw[this]<;>rfl
  exact⟨rfl,(Mod.of_ext (aQx _) (Ext.drew w)).trans (iQD w.drew g' out.length (S:=aQx (some ⟨g',0,none⟩)) ⟨_,rfl,rfl⟩) (fun i hi=>.inl hi)⟩
end
section
section
open Go Go.RowKit
structure Fz where
 o:Int
 v:Int
 a:Int
 b:Int
deriving DecidableEq
def Fz.cells (x:Fz):List Value:=[.int .i64 x.o,.int .i64 x.v,.int .i64 x.a,.int .i64 x.b]
theorem nQj (x:Fz):x.cells.length=4:=rfl
def iQm (b:Nat):Bool:=decide (48<=b)&&decide (b<=57)
def eQq (b:Nat):Bool:=b==95||(decide (97<=b)&&decide (b<=122))||(decide (65<=b)&&decide (b<=90))
def cQq (b:Nat):Bool:=eQq b||iQm b
def cQH:List Nat->Nat
 | []=>0
 | b::l=>if iQm b then 0 else((b::l).takeWhile cQq).length
def bQj (l:List Nat):List Nat:=l.dropWhile fun b=>b==32||b==9
structure Ps where
 r:List Nat
 f:List Fz
 u:Bool
def bQ7 (sym:List Nat)(p:Ps):Bool×Ps:=if sym.isPrefixOf (bQj p.r)then(true,{p with r:=(bQj p.r).drop sym.length})else(false,{p with r:=bQj p.r})
def gQ1 (x:Fz)(p:Ps):Nat×Ps:=(p.f.length,{p with f:=p.f++ [x]})
def gQQ (sym:List Nat)(op:Int)(opd:Ps->Option (Nat×Ps)):Nat->Nat->Ps->Option (Nat×Ps)
 | 0,_,_=>none
 | m+1,a,p=>match bQ7 sym p with
  | (true,p1)=>match opd p1 with
   | none=>none
   | some (b,p2)=>gQQ sym op opd m p2.f.length {p2 with f:=p2.f++ [⟨op,0,a,b⟩]}
  | (false,p1)=>some (a,p1)
def bQG (sym:List Nat)(op:Int)(opd:Ps->Option (Nat×Ps))(p:Ps):Option (Nat×Ps):=match opd p with
 | none=>none
 | some (a,p1)=>gQQ sym op opd (p1.r.length+1) a p1
def mQc (
     ix:List Nat->Option Nat):Nat->Ps->Option (Nat×Ps)
 | 0,_=>none
 | n+1,p=>match bQ7 [33] p with
  | (true,p1)=>match mQc ix n p1 with
   | none=>none
   | some (a,p2)=>some (gQ1 ⟨3,0,a,0⟩ p2)
  | (false,p1)=>match bQ7 [40] p1 with
   | (true,p2)=>match bQG [124,124] 5 (bQG [38,38] 4 (mQc ix n)) p2 with
    | none=>none
    | some (a,p3)=>match bQ7 [41] p3 with
     | (true,p4)=>some (a,p4)
     | (false,_)=>none
   | (false,p2)=>if cQH p2.r=0 then none else
     let word:=p2.r.take (cQH p2.r)
     let p3:Ps:={p2 with r:=p2.r.drop (cQH p2.r)}
     if word=[116,114,117,101] then some (gQ1 ⟨1,0,0,0⟩ p3)else if word=[102,97,108,115,101] then some (gQ1 ⟨0,0,0,0⟩ p3)else
      some (gQ1 ⟨2,((ix word).getD 0:Nat),0,0⟩ {p3 with u:=p3.u||(ix word).isNone})
def eQr (ix:List Nat->Option Nat)(n:Nat)(p:Ps):Option (Nat×Ps):=bQG [124,124] 5 (bQG [38,38] 4 (mQc ix n)) p
end
section
open Go Go.RowKit
theorem aQt (l:List Nat)(a b:Nat):(aQh l).extract a b=aQh ((l.take b).drop a):=by
 apply ByteArray.ext;apply Array.ext';simp[aQh,List.drop_take]
theorem B8.drop {l:List Nat}(h:∀x∈l,x<256)(k:Nat):∀x∈l.drop k,x<256:=fun x hx=>h x (List.mem_of_mem_drop hx)
theorem B8.take {l:List Nat}(h:∀x∈l,x<256)(k:Nat):∀x∈l.take k,x<256:=fun x hx=>h x (List.mem_of_mem_take hx)
theorem jQn (p l:List Nat):p.isPrefixOf l=decide (p.length<=l.length/\l.take p.length=p):=by
 rw[Bool.eq_iff_iff,List.isPrefixOf_iff_prefix,decide_eq_true_eq];constructor
 ·rintro⟨t,rfl⟩;exact⟨by simp,by simp⟩
 ·rintro⟨h1,h2⟩;refine⟨l.drop p.length,?_⟩;have:=List.take_append_drop p.length l;rw[h2] at this;exact this
theorem gQE (l p:List Nat)(w:World)(hl:∀x∈l,x<256)(hp:∀x∈p,x<256):
  Fn Tryz.prog 154 [.string (aQh l),.string (aQh p)] w (fun v w'=>v= .bool (p.isPrefixOf l)/\w=w'):=by
 refine aQf (c:=yQD) aQb Tryz.func154 rfl rfl rfl ?_;refine aQq (fun h1=>?_) (fun h1=>?_)
 ·rw[aQj,aQj] at h1;refine need ⟨by omega,by omega,by rw[aQj,aQj];omega⟩ ?_;refine⟨?_,rfl⟩;rw[jQn];congr 1;refine decide_eq_decide.2 ?_;simp only[Int.toNat_natCast,Int.toNat_zero];rw[aQt,List.drop_zero,aQj];exact⟨fun h=>⟨by omega,aQD (B8.take hl _) hp h⟩,fun h=>by rw[h.2]⟩
 ·rw[aQj,aQj] at h1;exact⟨by rw[jQn,decide_eq_false (fun h=>h1 (by omega))],rfl⟩
def vQ1 (l p:List Nat):Value:=if p.isPrefixOf l then .tuple #[.string (aQh (l.drop p.length)),.bool true] else .tuple #[.string (aQh l),.bool false]
theorem jQo (l p:List Nat)(w:World)(hl:∀x∈l,x<256)(hp:∀x∈p,x<256):
  Fn Tryz.prog 231 [.string (aQh l),.string (aQh p)] w (fun v w'=>v=vQ1 l p/\w=w'):=by
 refine aQf (c:=zQk) aQb Tryz.func231 rfl rfl rfl ?_;refine call (gQE l p w hl hp) ?_;rintro v w1 ⟨rfl,rfl⟩;unfold vQ1;cases hpre:p.isPrefixOf l with
 | false=>
  refine aQM rfl ?_;exact⟨rfl,rfl⟩
 | true=>
  refine aQN rfl ?_;have hle:p.length<=l.length:=by rw[jQn] at hpre;exact(of_decide_eq_true hpre).1
  refine need ⟨by omega,by rw[aQj,aQj];omega,by omega⟩ ?_;refine⟨?_,rfl⟩;simp only[Int.toNat_natCast,aQj];rw[aQt,List.take_of_length_le (Nat.le_refl _)];rfl
theorem kQP (l p:List Nat)(w:World)(hl:∀x∈l,x<256)(hp:∀x∈p,x<256):
  Fn Tryz.prog 200 [.string (aQh l),.string (aQh p)] w (fun v w'=>v=vQ1 l p/\w=w'):=by
 refine aQf (c:=yQ3) aQb Tryz.func200 rfl rfl rfl ?_;refine call (jQo l p w hl hp) ?_;rintro v w1 ⟨rfl,rfl⟩;unfold vQ1;split
 ·exact⟨rfl,rfl⟩
 ·exact⟨rfl,rfl⟩
def asV (k:Nat):List Value:=(List.range 256).map fun j=>.bool (decide (0<k/\j=32)||decide (1<k/\j=9))
theorem fQa (k:Nat):(asV k).length=256:=by simp[asV]
theorem mQd {k j:Nat}(h:j<256):(asV k)[j]? =some (.bool (decide (0<k/\j=32)||decide (1<k/\j=9))):=by
 unfold asV;rw[List.getElem?_map,List.getElem?_range h];rfl
theorem iQE (k:Nat):∀u∈asV k,aQ8 u=true:=fun u hu=>by
 unfold asV at hu;simp only[List.mem_map] at hu;obtain⟨j,_,rfl⟩:=hu;rfl
theorem rQ5 {k x:Nat}(hk:k<2)(hx: [32,9][k]? =some x):(asV k).set x (.bool true)=asV (k+1):=by
 apply List.ext_getElem?;intro j;by_cases hj:j<256
 ·rw[List.getElem?_set,mQd hj,mQd hj,fQa];have hk2:k=0∨k=1:=by omega
  rcases hk2 with rfl | rfl
  ·simp at hx;subst hx;split
   ·rename_i e;subst e;simp
   ·rename_i e;have:¬j=32:=fun h=>e h.symm
    simp[this]
  ·simp at hx;subst hx;split
   ·rename_i e;subst e;simp
   ·rename_i e;have:¬j=9:=fun h=>e h.symm
    simp[this]
 ·rw[List.getElem?_eq_none (by rw[List.length_set,fQa];omega),List.getElem?_eq_none (by rw[fQa];omega)]
set_option maxRecDepth 20000 in
theorem mQe (w:World):Fn Tryz.prog 228 [.string (aQh [32,9])] w (fun v w'=>v= .tuple #[.agg (asV 2).toArray,.bool true]/\Ext w w'):=by
 refine aQf (c:=zQi) aQb Tryz.func228 rfl rfl rfl ?_;refine new (fun w1 hE1 hz1 hB1=>?_);have hB1':Blk w1 w.heap.size 302 (asV 0):=hB1;clear hB1;refine loop aQb [4] (fun k:Nat=>[.int .i64 k]) (fun k w'=>k<=2/\Ext w w'/\Blk w' w.heap.size 302 (asV k)) (fun k _=>2-k) 0 rfl ⟨by omega,hE1,hB1'⟩ ?_;rintro k w2 ⟨hk,hE2,hB2⟩;refine aQq (fun h1=>?_) (fun h1=>?_)
 ·have hk2:k<2:=by
   have:((aQh [32,9]).size:Int)=2:=rfl;omega
  refine cQp (s:=aQh [32,9]) (by show k<2;exact hk2) (fun x hx hx8=>?_);have hx': [32,9][k]? =some x:=by rw[aQG (by decide)] at hx;exact hx
  have hxl:x<128:=by
   have:k=0∨k=1:=by omega
   rcases this with rfl | rfl
   ·simp at hx';omega
   ·simp at hx';omega
  refine aQB (by omega) ?_;refine jQk (j:=x) rfl (by omega) ?_;refine aQn hB2 (by rw[fQa];omega) (fun w3 hm3 hB3=>?_);rw[rQ5 hk2 hx'] at hB3;refine aQa ((k+1:Nat):Int) (by omega) (by omega) ?_;exact⟨k+1,rfl,⟨by omega,hm3.ext hE2 (fun i hi=>by omega),hB3⟩,by show 2-(k+1)<2-k;omega⟩
 ·have hk2:k=2:=by
   have:((aQh [32,9]).size:Int)=2:=rfl;omega
  subst hk2;refine aQd hB2 (fQa 2) ?_;refine aQc hB2 rfl (iQE 2) (fun w3 hg3 _ hB3=>?_);refine aQd hB3 (fQa 2) ?_;exact⟨rfl,hE2.own hg3 (Nat.le_refl _)⟩
theorem jQp (g x:Nat)(w:World)(hB:Blk w g 302 (asV 2))(hx:x<256):
  Fn Tryz.prog 245 [.pointer (some ⟨g,0,none⟩),.int .u8 x] w (fun v w'=>v= .bool (x==32||x==9)/\w=w'):=by
 refine aQf (c:=zQl) aQb Tryz.func245 rfl rfl rfl ?_;refine jQk (j:=x) rfl (by omega) ?_;refine aQe hB (mQd hx) ?_;refine⟨?_,rfl⟩;have e:∀y:Nat,(x==y)=decide (x=y):=fun y=>rfl
 simp[e]
theorem kQQ (g:Nat)(l:List Nat)(w:World)(hB:Blk w g 302 (asV 2))(hl:∀x∈l,x<256)(_:l.length<=9223372036854775807):
  Fn Tryz.prog 229 [.string (aQh l),.pointer (some ⟨g,0,none⟩)] w (fun v w'=>v= .string (aQh (bQj l))/\Ext w w'):=by
 refine aQf (c:=zQj) aQb Tryz.func229 rfl rfl rfl ?_;refine loop aQb [0] (fun m:List Nat=>[.string (aQh m)]) (fun m w'=>Ext w w'/\bQj m=bQj l/\(∀x∈m,x<256)) (fun m _=>m.length) l rfl ⟨Ext.refl _,rfl,hl⟩ ?_;rintro m w1 ⟨hE1,hm,hm8⟩;refine aQq (fun h1=>?_) (fun h1=>?_)
 ·cases m with
  | nil=>simp[aQj] at h1
  | cons x m=>
   refine cQp (s:=aQh (x::m)) (by rw[aQj];simp) (fun y hy hy8=>?_);have hyx:y=x:=by rw[aQG hm8] at hy;simpa using hy.symm
   subst hyx;refine call (jQp g y w1 (hB.ext hE1) hy8) ?_;rintro v w2 ⟨rfl,rfl⟩;cases hb:(y==32||y==9)with
   | false=>
    refine aQM rfl ?_;refine⟨?_,hE1⟩;rw[<-hm];unfold bQj;rw[List.dropWhile_cons,hb];rfl
   | true=>
    refine aQN rfl ?_;refine need ⟨by omega,by omega,by omega⟩ ?_;refine⟨m,?_,⟨hE1,?_,fun z hz=>hm8 z (by simp[hz])⟩,by simp⟩
    ·have e:(aQh (y::m)).extract (Int.toNat 1) (((aQh (y::m)).size:Int)).toNat=aQh m:=by
      rw[aQt,aQj,Int.toNat_natCast,List.take_of_length_le (Nat.le_refl _)];rfl
     rw[e];rfl
    ·rw[<-hm];unfold bQj;rw[List.dropWhile_cons,hb];rfl
 ·cases m with
  | nil=>exact⟨by rw[<-hm];rfl,hE1⟩
  | cons x m=>rw[aQj] at h1;simp at h1
set_option maxRecDepth 20000 in
theorem mQf (l:List Nat)(w:World)(hl:∀x∈l,x<256)(hlen:l.length<=9223372036854775807):
  Fn Tryz.prog 199 [.string (aQh l),.string (aQh [32,9])] w (fun v w'=>v= .string (aQh (bQj l))/\Ext w w'):=by
 refine aQf (c:=yQ2) aQb Tryz.func199 rfl rfl rfl ?_;refine aQq (fun h1=>?_) (fun h1=>?_)
 ·have:l=[]:=aQD hl (by simp) (h1.trans rfl);subst this;exact⟨rfl,Ext.refl _⟩
 refine aQB (by decide) ?_;refine aQu (by decide) ?_;refine call (mQe w) ?_;rintro v w1 ⟨rfl,hE1⟩;refine new (fun w2 hE2 hz2 hB2=>?_);refine aQc hB2 (fQa 2) (iQE 2) (fun w3 hg3 _ hB3=>?_);have hE13:=aQJ hE2 hB2 hg3;refine aQM rfl ?_;refine call (kQQ w1.heap.size l w3 hB3 hl hlen) ?_;rintro v w4 ⟨rfl,hE4⟩;exact⟨rfl,hE1.trans (hE13.trans hE4)⟩
end
section
open Go Go.RowKit
theorem mQg {P:Program}{f:FuncId}{l:List Value}{w:World}{v:Value}{R:World->Prop}(h:Calls P f l.toArray w fun e w'=>e= .returned v/\R w'):Fn P f l w (fun u w'=>u=v/\R w'):=by
 unfold Fn;exact h.mono fun e w' he=>by obtain⟨rfl,h⟩:=he;exact⟨rfl,h⟩
theorem Ext.of_below {w w':World}(h:Below w.heap.size w w'):Ext w w':=⟨h.os,h.tape,h.output,h.size,fun k hk _=>h.block k hk⟩
theorem jQq (r:Nat):cQq r=true↔(r=95∨(97<=r/\r<=122)∨(65<=r/\r<=90)∨(48<=r/\r<=57)):=by
 unfold cQq eQq iQm;simp;omega
theorem uQc (r:Nat)(w:World):Fn Tryz.prog 220 [.int .i32 r] w (fun v w'=>v= .bool (!cQq r)/\w=w'):=by
 have hb:cQq r=decide (r=95∨(97<=r/\r<=122)∨(65<=r/\r<=90)∨(48<=r/\r<=57)):=by rw[Bool.eq_iff_iff,jQq,decide_eq_true_eq]
 rw[hb];refine aQf (c:=zQc) aQb Tryz.func220 rfl rfl rfl ?_;have hcase:r=95∨(97<=r/\r<=122)∨(65<=r/\r<=90)∨(48<=r/\r<=57)∨r<48∨(57<r/\r<65)∨(90<r/\r<95)∨r=96∨122<r:=by omega
 rcases hcase with h | h | h | h | h | h | h | h | h <;>
  repeat (first | refine fQ7 (by omega) ?_ | refine bQB (by omega) ?_ | refine aQO (by omega) ?_ | refine aQB (by omega) ?_ | refine aQM rfl ?_ | refine aQN rfl ?_)
 all_goals refine⟨?_,rfl⟩
 all_goals congr 1
 all_goals first
  | (
    have hP:(r=95∨(97<=r/\r<=122)∨(65<=r/\r<=90)∨(48<=r/\r<=57)):=by omega
    rw[decide_eq_true hP];first | rfl | exact decide_eq_false (by omega) | exact decide_eq_true (by omega))
  | (
    have hP:¬(r=95∨(97<=r/\r<=122)∨(65<=r/\r<=90)∨(48<=r/\r<=57)):=by omega
    rw[decide_eq_false hP];first | rfl | exact decide_eq_true (by omega) | exact decide_eq_false (by omega))
theorem nQk {s:ByteArray}{pos:Nat}(h:pos<s.size):s.get! pos=s[pos]:=by
 simp[ByteArray.get!,ByteArray.getElem_eq_getElem_data,getElem!_pos s.data pos h]
theorem pQp {s:ByteArray}{pos:Nat}(h:pos<s.size)(ha:s[pos].toNat<128):Utf8.decode s pos=(s[pos].toNat,1):=by
 unfold Utf8.decode;simp only[Nat.add_zero,nQk h];rw[if_pos ha]
theorem pQq {s:ByteArray}{pos:Nat}(h:pos<s.size)(ha:¬s[pos].toNat<128):128<=(Utf8.decode s pos).1:=by
 unfold Utf8.decode;simp only[Nat.add_zero,nQk h];rw[if_neg ha];have he:128<=Utf8.runeError:=by decide
 split
 ·split
  ·assumption
  ·exact he
 split
 ·split
  ·rename_i h1;simp at h1;exact Nat.le_trans (by decide) h1.1
  ·exact he
 split
 ·split
  ·rename_i h1;simp at h1;exact Nat.le_trans (by decide) h1.1
  ·exact he
 ·exact he
theorem tQb (s:ByteArray):∀(f pos:Nat),s.size<=pos+f->pos<=s.size->
  Lib.idxFuncFrom (fun r=> !cQq r) true s f pos=if((bQy s).drop pos).all cQq then -1 else((pos+(((bQy s).drop pos).takeWhile cQq).length:Nat):Int)
 | 0,pos,h,hp=>by
  rw[List.drop_of_length_le (by rw[bQ8];omega)];rfl
 | f+1,pos,h,hp=>by
  unfold Lib.idxFuncFrom;by_cases hps:pos<s.size
  ·rw[if_pos hps];have hg:(bQy s).drop pos=s[pos].toNat::(bQy s).drop (pos+1):=by
    rw[List.drop_eq_getElem_cons (by rw[bQ8];exact hps)];congr 1;have:=hQo hps;exact(List.getElem?_eq_some_iff.1 this).2
   rw[hg];by_cases ha:s[pos].toNat<128
   ·have hd:=pQp hps ha;rw[hd]
    dsimp only
    cases hi:cQq s[pos].toNat with
    | true=>
     rw[if_neg (by simp),tQb s f (pos+1) (by omega) (by omega)];simp only[List.all_cons,hi,Bool.true_and,List.takeWhile_cons,if_true,List.length_cons];split
     ·rfl
     ·congr 1;omega
    | false=>
     rw[if_pos (by simp)];simp[hi]
   ·have hi:cQq s[pos].toNat=false:=by
     cases e:cQq s[pos].toNat with
     | false=>rfl
     | true=>have:=(jQq _).1 e;omega
    have hd:cQq (Utf8.decode s pos).1=false:=by
     have h128:=pQq hps ha;cases e:cQq (Utf8.decode s pos).1 with
     | false=>rfl
     | true=>have:=(jQq _).1 e;omega
    rw[if_pos (by rw[hd];rfl)];simp[hi]
  ·rw[if_neg hps,List.drop_of_length_le (by rw[bQ8];omega)];rfl
theorem pQr (l:List Nat)(w:World)(hl:∀x∈l,x<256):Fn Tryz.prog 219 [.string (aQh l),.func (.func 220) #[] #[]] w (fun v w'=>v= .int .i64 (if l.all cQq then -1 else((l.takeWhile cQq).length:Nat))/\Ext w w'):=by
 refine aQf (c:=zQb) aQb Tryz.func219 rfl rfl rfl ?_;have hp:Go.Proofs.PredAt Tryz.prog 220 #[] Go.Proofs.encR (fun r=> !cQq r) w:=fun W r _=>by
  have h:=uQc r W;unfold Fn at h;exact h.mono fun e w' he=>by
   cases e with
   | returned v=>obtain⟨rfl,rfl⟩:=he;exact⟨rfl,0,rfl⟩
   | panicked ch=>exact he.elim
   | outgrown=>exact he.elim
 have hc:=Tryz.strings_indexFunc 220 #[] (Go.Proofs.enters_of Tryz.func220 rfl rfl) (fun r=> !cQq r) true (aQh l) w hp;refine call (mQg hc) ?_;rintro v w1 ⟨rfl,hb⟩;refine⟨?_,Ext.of_below hb⟩;unfold Lib.idxFunc;rw[tQb (aQh l) _ 0 (by omega) (Nat.zero_le _),aQG hl,List.drop_zero,Nat.zero_add]
end
end
section
open Go Go.RowKit
structure KeyQ {α:Type} [DecidableEq α] (P:Program) (ke:Nat) (kv:α->Value):Prop where
 find:∀(a:α) (m:List (α×Value)) (bs:List Nat) (w:World),bs.length=m.length->
  ∃r,(Instr.findKey ke (kv a) (aQI kv m bs)).run P w= .ok r w/\r.map (·.2)=aQS a m/\(∀j v,r=some (j,v)->∀v',aQI kv (aQs a v' m) bs=(aQI kv m bs).modify j (fun e=>{e with key:=kv a,val:=v'})/\((aQI kv m bs)[j]?).map (·.key)=some (kv a))/\(r=none->∀v',aQs a v' m=m++ [(a,v')])
 check:∀b a w,(Instr.checkKey b 10000 ke (kv a)).run P w= .ok () w
 bits:∀a,Instr.sameBits 10000 (kv a) (kv a)=true
theorem cQZ {α:Type} [DecidableEq α]{P:Program}{ke:Nat}{kv:α->Value}(a:α)(w:World)(heq:∀b:α,(Op.equal ke (kv a) (kv b)).run P w= .ok (decide (a=b)) w):∀(m:List (α×Value))(bs:List Nat)(i:Nat),bs.length=m.length->
  ∃r,(Instr.findAsking ke (kv a) (aQI kv m bs) i).run P w= .ok r w/\r.map (·.2)=aQS a m/\(∀j v,r=some (j,v)->i<=j/\∀v',aQI kv (aQs a v' m) bs=(aQI kv m bs).modify (j-i) (fun e=>{e with key:=kv a,val:=v'})/\((aQI kv m bs)[j-i]?).map (·.key)=some (kv a))/\(r=none->∀v',aQs a v' m=m++ [(a,v')])
 | [],bs,i,h=>⟨none,by simp[aQI,Instr.findAsking],rfl,(fun j v h=>by cases h),fun _ v'=>rfl⟩
 | (b,u)::m,[],i,h=>by simp at h
 | (b,u)::m,s::bs,i,h=>by
  have e:aQI kv ((b,u)::m) (s::bs)={key:=kv b,val:=u,born:=s}::aQI kv m bs:=rfl;rw[e];unfold Instr.findAsking;simp only[Sem.run_bind,heq,Result.andThen_ok];by_cases hab:a=b
  ·subst hab;simp only[decide_true,if_true];refine⟨some (i,u),by simp,by simp[aQS],fun j v hj=>?_,fun h=>by cases h⟩;cases hj;refine⟨Nat.le_refl _,fun v'=>?_⟩;simp[aQs,aQI]
  ·simp only[hab,decide_false,Bool.false_eq_true,if_false];obtain⟨r,h1,h2,h3,h4⟩:=cQZ a w heq m bs (i+1) (by simpa using h);refine⟨r,h1,by simp[aQS,hab,h2],fun j v hj=>?_,fun hn v'=>by simp[aQs,hab,h4 hn v']⟩;obtain⟨h5,h7⟩:=h3 j v hj;refine⟨by omega,fun v'=>?_⟩;obtain⟨h8,h9⟩:=h7 v';rw[show j-i=(j-(i+1))+1 by omega];refine⟨?_,by simpa using h9⟩;simp only[aQs,hab,if_false];rw[show aQI kv ((b,u)::aQs a v' m) (s::bs)={key:=kv b,val:=u,born:=s}::aQI kv (aQs a v' m) bs from rfl,h8];simp
theorem KeyQ.asking {α:Type} [DecidableEq α]{P:Program}{ke:Nat}{kv:α->Value}{fs:Array Field}(hu:P.underlying ke=some (.struct fs))
  (heq:∀(a b:α) (w:World),(Op.equal ke (kv a) (kv b)).run P w= .ok (decide (a=b)) w) (hc:∀b a w,(Instr.checkKey b 10000 ke (kv a)).run P w= .ok () w) (hb:∀a,Instr.sameBits 10000 (kv a) (kv a)=true):KeyQ P ke kv:=by
 refine⟨fun a m bs w hl=>?_,hc,hb⟩;have key:=cQZ (P:=P) (ke:=ke) (kv:=kv) a w (fun b=>heq a b w) m bs 0 hl;obtain⟨r,h1,h2,h3,h4⟩:=key;refine⟨r,?_,h2,fun j v hj v'=>by simpa using (h3 j v hj).2 v',h4⟩;unfold Instr.findKey;simp only[Sem.run_bind,run_underlying hu,Result.andThen_ok];cases m with
 | nil=>
  simp only[aQI,List.zip_nil_left,List.map_nil,Instr.findNow,Sem.run_pure];simp[aQI,Instr.findAsking] at h1;rw[h1]
 | cons p m=>
  cases bs with
  | nil=>simp at hl
  | cons s bs=>
   have e:aQI kv (p::m) (s::bs)={key:=kv p.1,val:=p.2,born:=s}::aQI kv m bs:=rfl;rw[e] at h1 ⊢;have hn:Instr.findNow (.struct fs) (kv a) ({key:=kv p.1,val:=p.2,born:=s}::aQI kv m bs) 0=none:=by
    simp[Instr.findNow,Instr.sameNow]
   rw[hn];exact h1
structure MapQ {α:Type} (kv:α->Value) (w:World) (r:Nat) (m:List (α×Value)):Prop where
 ex:∃bs ck,bs.length=m.length/\bs.Nodup/\(∀b∈bs,b<ck)/\w.heap[r]? =some (.map (aQI kv m bs).toArray ck)
theorem MapQ.ext {α:Type}{kv:α->Value}{w w':World}{r:Nat}{m:List (α×Value)}(h:MapQ kv w r m)(k:Ext w w'):MapQ kv w' r m:=by
 obtain⟨bs,ck,hl,h1,h2,hb⟩:=h.ex;exact⟨bs,ck,hl,h1,h2,(k.block r (Array.getElem?_eq_some_iff.1 hb).1 (by simp)).trans hb⟩
theorem MapQ.mod {α:Type}{kv:α->Value}{S:Nat->Prop}{w w':World}{r:Nat}{m:List (α×Value)}(h:MapQ kv w r m)(k:Mod S w w')(hn:¬S r):MapQ kv w' r m:=by
 obtain⟨bs,ck,hl,h1,h2,hb⟩:=h.ex;exact⟨bs,ck,hl,h1,h2,(k.block r (Array.getElem?_eq_some_iff.1 hb).1 hn).trans hb⟩
theorem cQD {α:Type}{c:Cx}(_:c.g.Ok){o:Oper}{S:Env}{w:World}{K:Env->World->Prop}{Q:cQB}{t:Nat}(kv:α->Value)(ho:o.op= .makeMap t none)
  (k:∀w1,Ext w w1->w1.heap.size=w.heap.size+1->MapQ kv w1 w.heap.size []->bQq c S o.dst (.v (.map (some w.heap.size))) (fun S=>K S w1)):cQv c o S w K Q:=by
 refine aQ9 (w':=w.alloc (.map #[] 0)) (fun a hf=>?_) (k _ (Ext.alloc w _) (by simp) ⟨[],0,rfl,List.nodup_nil,by simp,heap_alloc_new w _⟩);simp[execOp,ho,Instr.makeMap]
section
variable {α:Type} [DecidableEq α] {kv:α->Value} {c:Cx} {o:Oper} {S:Env} {w:World} {K:Env->World->Prop} {Q:cQB} {t ke e:Nat} {r re:TyRow} {x y:Operand} {q:Nat} {m:List (α×Value)} {a:α}
theorem hQq (hg:c.g.Ok)(hr:aQA c.g.tys t=some r)(hd:r.d= .map ke e)(hre:aQA c.g.tys e=some re)(hk:KeyQ c.g.P ke kv)(hm:MapQ kv w q m)(ok:Bool):
  (Instr.lookup t (.map (some q)) (kv a) ok).run c.g.P w= .ok (if ok then .tuple #[(aQS a m).getD re.z,.bool (aQS a m).isSome] else(aQS a m).getD re.z) w:=by
 have hr':=(hg.row hr).1;rw[hd] at hr';obtain⟨_,i,hi,_,_,hiz⟩:=hg.row hre;obtain⟨bs,ck,hl,_,_,hb⟩:=hm.ex;obtain⟨res,h1,h2,_,_⟩:=hk.find a m bs w hl;have hgo:(getObj q).run c.g.P w= .ok (.map (aQI kv m bs).toArray ck) w:=by simp[getObj,Sem.run,hb]
 have hz:(zeroValue e).run c.g.P w= .ok re.z w:=by simp[zeroValue,typeInfo,hi,hiz]
 simp only[Instr.lookup,Sem.run_bind,run_underlying hr',Result.andThen_ok,hgo,Sem.run_pure,hk.check,h1];rw[<-h2];cases res with
 | none=>cases ok<;>simp[hz]
 | some p=>cases ok<;>simp
theorem dQ2 (hg:c.g.Ok)(ho:o.op= .lookup t x y true)(hr:aQA c.g.tys t=some r)(hd:r.d= .map ke e)(hre:aQA c.g.tys e=some re)(hk:KeyQ c.g.P ke kv)
  (hx:S.ev x=some (.map (some q))) (hy:S.ev y=some (kv a)) (hm:MapQ kv w q m)
  (k:bQq c S o.dst (.v (.tuple #[(aQS a m).getD re.z,.bool (aQS a m).isSome])) (fun S=>K S w)):cQv c o S w K Q:=by
 refine aQ9 (w':=w) (fun b hf=>?_) k;have e1:=hf.ev hx;have e2:=hf.ev hy;have:=hQq (w:=w) (a:=a) hg hr hd hre hk hm true;simp only[execOp,ho,e1,e2];simp only[Sem.run_bind,this,Result.andThen_ok];simp
theorem gQF {α:Type} [DecidableEq α](a:α)(v:Value):∀(m:List (α×Value)),(aQS a m).isSome->(aQs a v m).length=m.length
 | [],h=>by simp[aQS] at h
 | (b,x)::m,h=>by
  simp only[aQs];split
  ·simp
  ·rename_i hab;simp[gQF a v m (by simpa [aQS,hab] using h)]
theorem bQ3 {v:Value}{z:Operand}(hg:c.g.Ok)(ho:o.op= .mapUpdate t x y z)(hdst:o.dst=none)(hr:aQA c.g.tys t=some r)(hd:r.d= .map ke e)(hk:KeyQ c.g.P ke kv)
  (hx:S.ev x=some (.map (some q))) (hy:S.ev y=some (kv a)) (hz:S.ev z=some v) (hm:MapQ kv w q m)
  (k:∀w1,Mod (·=q) w w1->w1.heap.size=w.heap.size->MapQ kv w1 q (aQs a v m)->K S w1):cQv c o S w K Q:=by
 have hr':=(hg.row hr).1;rw[hd] at hr';obtain⟨bs,ck,hl,hnd,hck,hb⟩:=hm.ex;have hlt:q<w.heap.size:=(Array.getElem?_eq_some_iff.1 hb).1;obtain⟨res,h1,h2,h3,h4⟩:=hk.find a m bs w hl;have hgo:(getObj q).run c.g.P w= .ok (.map (aQI kv m bs).toArray ck) w:=by simp[getObj,Sem.run,hb]
 have hset:∀ob,(setObj q ob).run c.g.P w= .ok () {w with heap:=w.heap.setIfInBounds q ob}:=fun ob=>by simp[setObj,Sem.run,hb]
 have main:∃ob,(Instr.mapUpdate t (.map (some q)) (kv a) v).run c.g.P w= .ok () {w with heap:=w.heap.setIfInBounds q ob}/\∃bs' ck',bs'.length=(aQs a v m).length/\bs'.Nodup/\(∀b∈bs',b<ck')/\ob= .map (aQI kv (aQs a v m) bs').toArray ck':=by
  cases res with
  | none=>
   refine⟨_,?_,bs++ [ck],ck+1,?_,?_,?_,rfl⟩
   ·simp only[Instr.mapUpdate,Sem.run_bind,run_underlying hr',Result.andThen_ok,hgo,hk.check,h1,hset];rw[h4 rfl v];congr 4;simp only[aQI];rw[List.zip_append hl.symm,List.map_append];simp
   ·rw[h4 rfl v];simp[hl]
   ·rw[List.nodup_append];refine⟨hnd,by simp,fun x hx y hy=>?_⟩;simp at hy;have:=hck x hx;omega
   ·intro b hb';simp only[List.mem_append,List.mem_singleton] at hb';rcases hb' with hb' | rfl
    ·have:=hck b hb';omega
    ·omega
  | some p=>
   obtain⟨j,u⟩:=p;obtain⟨h8,h9⟩:=h3 j u rfl v;have hkey:(((aQI kv m bs).toArray[j]?).map (·.key)).getD (kv a)=kv a:=by
    rw[show(aQI kv m bs).toArray[j]? =(aQI kv m bs)[j]? from by simp,h9];rfl
   refine⟨_,?_,bs,ck,?_,hnd,hck,rfl⟩
   ·simp only[Instr.mapUpdate,Sem.run_bind,run_underlying hr',Result.andThen_ok,hgo,hk.check,h1,hkey,Instr.keyThatStays,hk.bits,if_true,Sem.run_pure,hset];rw[h8];congr 4;simp
   ·rw[gQF a v m (by rw[<-h2];rfl),hl]
 obtain⟨ob,hrun,bs',ck',hl',hnd',hck',rfl⟩:=main;unfold cQv;intro b hf;have e1:=hf.ev hx;have e2:=hf.ev hy;have e3:=hf.ev hz;unfold Oper.wp;have:(execOp b.eval o).run c.g.P w= .ok .skip {w with heap:=w.heap.setIfInBounds q (.map (aQI kv (aQs a v m) bs').toArray ck')}:=by
  simp only[execOp,ho,e1,e2,e3];simp[hrun]
 rw[this];refine⟨S,by rw[hdst];simpa [Act.put] using hf,k _ ⟨rfl,rfl,rfl,by simp,fun i _ hi=>?_⟩ (by simp) ⟨bs',ck',hl',hnd',hck',?_⟩⟩
 ·simp only[Array.getElem?_setIfInBounds];rw[if_neg (fun e=>hi e.symm)]
 ·simp[hlt]
structure RangeQ {α:Type} (kv:α->Value) (w:World) (r q:Nat) (m L:List (α×Value)) (cur:Option (α×Value)):Prop where
 ex:∃bs ck seen since,bs.length=m.length/\bs.Nodup/\(∀b∈bs,b<since)/\since<=ck/\w.heap[q]? =some (.map (aQI kv m bs).toArray ck)/\w.heap[r]? =some (.mapIter (some q) since seen ck)/\
  L=((m.zip bs).filter fun p=> !seen.contains p.2).map (·.1)/\(∀p,cur=some p->∃(b:Nat) (s:Array Nat),seen=s.push b/\(p,b)∈m.zip bs)
theorem RangeQ.mod {α:Type}{kv:α->Value}{S:Nat->Prop}{w w':World}{r q:Nat}{m L:List (α×Value)}{cur:Option (α×Value)}(h:RangeQ kv w r q m L cur)(k:Mod S w w')(hr:¬S r)(hq:¬S q):RangeQ kv w' r q m L cur:=by
 obtain⟨bs,ck,seen,since,h1,h2,h3,h4,h5,h6,h7⟩:=h.ex;exact⟨bs,ck,seen,since,h1,h2,h3,h4,(k.block q (Array.getElem?_eq_some_iff.1 h5).1 hq).trans h5,(k.block r (Array.getElem?_eq_some_iff.1 h6).1 hr).trans h6,h7⟩
theorem RangeQ.ext {α:Type}{kv:α->Value}{w w':World}{r q:Nat}{m L:List (α×Value)}{cur:Option (α×Value)}(h:RangeQ kv w r q m L cur)(k:Ext w w'):RangeQ kv w' r q m L cur:=
 h.mod (Mod.of_ext (fun _=>False) k) (fun h=>h) (fun h=>h)
end
section
variable {α:Type} {kv:α->Value} {c:Cx} {o:Oper} {S:Env} {w:World} {K:Env->World->Prop} {Q:cQB} {t ke e:Nat} {r:TyRow} {x:Operand} {q it:Nat} {m L:List (α×Value)} {cur:Option (α×Value)}
end
end
section
section
open Go Go.RowKit
theorem jQr {p:Nat->Bool}{l:List Nat}(h:l.all p=true):l.takeWhile p=l:=by
 induction l with
 | nil=>rfl
 | cons x l ih=>
  simp only[List.all_cons,Bool.and_eq_true] at h;rw[List.takeWhile_cons,if_pos h.1,ih h.2]
theorem gQa (b:Nat)(l:List Nat):cQH (b::l)=if iQm b then 0 else((b::l).takeWhile cQq).length:=rfl
theorem nQl (l:List Nat):cQH l<=l.length:=by
 cases l with
 | nil=>exact Nat.le_refl _
 | cons b l=>
  rw[gQa];split
  ·exact Nat.zero_le _
  ·exact(List.takeWhile_sublist _).length_le
theorem fQv (l:List Nat)(w:World)(hl:∀x∈l,x<256)(hlen:l.length<=9223372036854775807):
  Fn Tryz.prog 191 [.string (aQh l)] w (fun v w'=>v= .int .i64 (cQH l:Nat)/\Ext w w'):=by
 refine aQf (c:={yQV with cuts:=[2]}) aQb Tryz.func191 rfl rfl rfl ?_;refine call (pQr l w hl) ?_;rintro v w1 ⟨rfl,hE1⟩;have hT:(l.takeWhile cQq).length<=l.length:=(List.takeWhile_sublist _).length_le;refine iQl [] aQb [3] (fun n:Nat=>[.int .i64 n]) (fun n w'=>w1=w'/\n=(l.takeWhile cQq).length) ?_ ?_
 ·cases ha:l.all cQq with
  | true=>
   rw[if_pos rfl];refine aQO (by omega) ?_;exact⟨(aQh l).size,rfl,rfl,by rw[aQj,jQr ha]⟩
  | false=>
   rw[if_neg (by simp)];refine aQB (by omega) ?_;exact⟨(l.takeWhile cQq).length,rfl,rfl,rfl⟩
 rintro n _ ⟨rfl,hn⟩;cases l with
 | nil=>
  have:n=0:=by simpa using hn
  subst this;refine aQB (by omega) ?_;exact⟨rfl,hE1⟩
 | cons b l=>
  have hb8:=hl b (by simp);have hS:(aQh (b::l)).size=l.length+1:=by rw[aQj];rfl
  by_cases hd:iQm b=true
  ·have hid:cQq b=true:=by unfold cQq;rw[hd,Bool.or_true]
   have hdb:48<=b/\b<=57:=by unfold iQm at hd;simpa using hd
   have hn0:0<n:=by rw[hn,List.takeWhile_cons,if_pos hid];simp
   refine aQO (by omega) ?_;refine cQp (s:=aQh (b::l)) (j:=0) (by rw[hS];omega) (fun x hx hx8=>?_);have hxb:x=b:=by rw[aQG hl] at hx;simpa using hx.symm
   subst hxb;refine aQO (by omega) ?_;refine cQp (s:=aQh (x::l)) (j:=0) (by rw[hS];omega) (fun y hy hy8=>?_);have hyb:y=x:=by rw[aQG hl] at hy;simpa using hy.symm
   subst hyb;refine aQO (by omega) ?_;exact⟨by rw[gQa,if_pos hd];rfl,hE1⟩
  ·have hid:cQH (b::l)=n:=by rw[gQa,if_neg hd,hn]
   rw[hid];by_cases hn0:0<n
   ·have hdb:¬(48<=b/\b<=57):=fun h=>hd (by unfold iQm;simpa using h)
    refine aQO (by omega) ?_;refine cQp (s:=aQh (b::l)) (j:=0) (by rw[hS];omega) (fun x hx hx8=>?_);have hxb:x=b:=by rw[aQG hl] at hx;simpa using hx.symm
    subst hxb;refine aQq (fun h1=>?_) (fun h1=>?_)
    ·refine cQp (s:=aQh (x::l)) (j:=0) (by rw[hS];omega) (fun y hy hy8=>?_);have hyb:y=x:=by rw[aQG hl] at hy;simpa using hy.symm
     subst hyb;refine aQB (by omega) ?_;exact⟨rfl,hE1⟩
    ·exact⟨rfl,hE1⟩
   ·refine aQB (by omega) ?_;exact⟨rfl,hE1⟩
def aQ6 (l:List (List Nat)):List Value:=l.map fun s=>.string (aQh s)
theorem cQI {l:List (List Nat)}{j:Nat}{s:List Nat}(h:l[j]? =some s):(aQ6 l)[j]? =some (.string (aQh s)):=by simp[aQ6,h]
theorem aQQ (l:List (List Nat)):(aQ6 l).length=l.length:=by simp[aQ6]
def dQE:List Nat:=[116,114,117,101]
def cQ0:List Nat:=[102,97,108,115,101]
def cQy (s:List Nat):Bool:=decide (s≠ []/\cQH s=s.length/\s≠dQE/\s≠cQ0)
def dQb:List (List Nat)->Nat->List (ByteArray×Value)->List (ByteArray×Value)
 | [],_,m=>m
 | s::l,i,m=>dQb l (i+1) (aQs (aQh s) (.int .i64 (i:Nat)) m)
theorem kQR:∀(l:List (List Nat))(s:List Nat)(i:Nat)(m:List (ByteArray×Value)),dQb (l++ [s]) i m=aQs (aQh s) (.int .i64 ((i+l.length:Nat):Int)) (dQb l i m)
 | [],s,i,m=>rfl
 | t::l,s,i,m=>by
  simp only[List.cons_append,dQb];rw[kQR l s (i+1)];congr 3;simp only[List.length_cons];omega
end
section
open Go Go.RowKit
theorem pQs {α:Type}{kv:α->Value}{c:Cx}(hg:c.g.Ok){o:Oper}{S:Env}{w:World}{K:Env->World->Prop}{Q:cQB}{t q ke e:Nat}{x:Operand}{m:List (α×Value)}{r:TyRow}
  (ho:o.op= .call ⟨.builtin .len, #[x], #[t]⟩) (hr:aQA c.g.tys t=some r) (hd:r.d= .map ke e) (hx:S.ev x=some (.map (some q))) (hm:MapAt kv w q m)
  (k:bQq c S o.dst (.v (.int .i64 m.length)) (fun S=>K S w)):cQv c o S w K Q:=by
 have hr':=(hg.row hr).1;rw[hd] at hr';obtain⟨bs,ck,hl,hb⟩:=hm.ex;refine aQ9 (w':=w) (v:=.int .i64 m.length) (fun a hf=>?_) k;have e1:=hf.ev hx;have hgo:(getObj q).run c.g.P w= .ok (.map (aQI kv m bs).toArray ck) w:=by simp[getObj,Sem.run,hb]
 have hle:(aQI kv m bs).length=m.length:=by simp[aQI,hl]
 simp only[execOp,ho,resolve,invoke];simp[builtin,e1,Builtin.len_,run_underlying hr',hgo,goInt,hle]
abbrev gQ2:ByteArray->Value:=fun s=>.string s
def aQV (names:List (List Nat)):Bool:=decide (names.all cQy=true/\(dQb names 0 []).length=names.length/\names.length<=64)
theorem rQ6 {names:List (List Nat)}{j:Nat}{s:List Nat}(h:(names.take j).all cQy=true)(hj:names[j]? =some s)(hs:cQy s=true):(names.take (j+1)).all cQy=true:=by
 rw[List.take_add_one,hj];simp[List.all_append,h,hs]
theorem pQt {names:List (List Nat)}{j:Nat}{s:List Nat}(hj:names[j]? =some s)(hs:cQy s≠true):aQV names=false:=by
 unfold aQV;refine decide_eq_false (fun h=>hs ?_);exact List.all_eq_true.1 h.1 s (List.mem_of_getElem? hj)
theorem iQF {names:List (List Nat)}{j:Nat}{s:List Nat}(hj:names[j]? =some s):dQb (names.take (j+1)) 0 []=aQs (aQh s) (.int .i64 (j:Nat)) (dQb (names.take j) 0 []):=by
 have hlt:j<names.length:=(List.getElem?_eq_some_iff.1 hj).1;rw[List.take_add_one,hj];show dQb (names.take j++ [s]) 0 []=_;rw[kQR,List.length_take,Nat.min_eq_left (by omega),Nat.zero_add]
def aQ2 (names:List (List Nat)):Prop:=∀s∈names,(∀x∈s,x<256)/\s.length<=9223372036854775807
theorem gQb (names:List (List Nat))(A:Option Addr)(n c:Nat)(w:World)(h:Sl w 1 A n c (aQ6 names))(hb:aQ2 names):
  Fn Tryz.prog 132 [.slice A n c] w (fun v w'=>∃v1,v= .tuple #[v1,.bool (aQV names)]/\Ext w w'/\(aQV names=true->∃r,v1= .map (some r)/\w.heap.size<=r/\MapAt gQ2 w' r (dQb names 0 []))):=by
 have hn:names.length=n:=by have:=h.len;rw[aQQ] at this;omega
 have hn9:n<=9223372036854775807:=by have:=h.le;have:=h.cap;simp only[maxLen] at this;omega
 refine aQf (c:={yQk with cuts:=[]}) aQb Tryz.func132 rfl rfl rfl ?_;refine dQD aQb gQ2 rfl ?_;intro w1 hE1 hz1 hm1;refine loop aQb [10] (fun s:Nat=>[.int .i64 s]) (fun s w'=>Ext w w'/\s<=n/\(names.take s).all cQy=true/\MapAt gQ2 w' w.heap.size (dQb (names.take s) 0 [])) (fun s _=>n-s) 0 rfl ⟨hE1,Nat.zero_le _,rfl,hm1⟩ ?_;rintro s w3 ⟨hE3,hsn,hall,hm3⟩;refine aQq (fun h3=>?_) (fun h3=>?_)
 ·have hgs:names[s]? =some names[s]:=List.getElem?_eq_getElem (by omega);generalize names[s]=t at hgs;obtain⟨ht8,htl⟩:=hb t (List.mem_of_getElem? hgs);refine aQ3 (h.ext hE3) (by omega) (fun ad u hA hu hcell=>?_);rw[cQI hgs] at hu;cases hu;refine load hcell ?_;have hE3':=hE3;have bad:cQy t≠true->∀w',Ext w w'->∃v1,(.tuple #[.map none,.bool false]:Value)= .tuple #[v1,.bool (aQV names)]/\Ext w w'/\(aQV names=true->∃r,v1= .map (some r)/\w.heap.size<=r/\MapAt gQ2 w' r (dQb names 0 [])):=fun hb w' hE=>by
   refine⟨.map none,?_,hE,fun h=>?_⟩
   ·rw[pQt hgs hb]
   ·rw[pQt hgs hb] at h;cases h
  have e0:((aQh t=(⟨#[]⟩:ByteArray))↔t=[]):=⟨fun h=>aQD ht8 (by simp) h,fun h=>by rw[h];rfl⟩
  have e1:((aQh t=(⟨#[116,114,117,101]⟩:ByteArray))↔t=dQE):=⟨fun h=>aQD ht8 (by decide) h,fun h=>by rw[h];rfl⟩
  have e2:((aQh t=(⟨#[102,97,108,115,101]⟩:ByteArray))↔t=cQ0):=⟨fun h=>aQD ht8 (by decide) h,fun h=>by rw[h];rfl⟩
  by_cases h4:t=[]
  ·refine aQO (e0.2 h4) ?_;exact bad (by unfold cQy;simp[h4]) _ hE3
  refine aQB (fun h=>h4 (e0.1 h)) ?_;refine call (fQv t w3 ht8 htl) ?_;rintro v w4 ⟨rfl,hE4⟩;have hs4:((aQh t).size:Int)=(t.length:Nat):=by rw[aQj]
  by_cases h5:¬cQH t=t.length
  ·refine fQ7 (fun h=>h5 (by omega)) ?_;exact bad (by unfold cQy;simp[h5]) _ (hE3.trans hE4)
  replace h5:=Decidable.not_not.1 h5;refine bQB (by omega) ?_;by_cases h6:t=dQE
  ·refine aQO (e1.2 h6) ?_;exact bad (by unfold cQy;simp[h6]) _ (hE3.trans hE4)
  refine aQB (fun h=>h6 (e1.1 h)) ?_;by_cases h7:t=cQ0
  ·refine aQO (e2.2 h7) ?_;exact bad (by unfold cQy;simp[h7]) _ (hE3.trans hE4)
  refine aQB (fun h=>h7 (e2.1 h)) ?_;have hok:cQy t=true:=by unfold cQy;simp[h4,h5,h6,h7]
  refine bQt (kv:=gQ2) (a:=aQh t) aQb rfl rfl rfl rfl rfl zQF rfl rfl rfl (hm3.ext hE4) (fun w5 hg5 _ hm5=>?_);refine aQa ((s+1:Nat):Int) (by omega) (by omega) ?_;refine⟨s+1,rfl,⟨(hE3.trans hE4).own hg5 (Nat.le_refl _),by omega,rQ6 hall hgs hok,by rw[iQF hgs];exact hm5⟩,by show n-(s+1)<n-s;omega⟩
 ·have:s=n:=by omega
  subst this;have ht:names.take s=names:=List.take_of_length_le (by omega);rw[ht] at hall hm3;refine pQs (kv:=gQ2) aQb rfl rfl rfl rfl hm3 ?_;refine aQP (fun h4=>?_) (fun h4=>?_)
  ·refine⟨.map (some w.heap.size),?_,hE3,fun _=>⟨_,rfl,Nat.le_refl _,hm3⟩⟩;have:decide ((names.length:Int)<=64)=aQV names:=by unfold aQV;exact decide_eq_decide.2 ⟨fun h=>⟨hall,by omega,by omega⟩,fun h=>by omega⟩
   rw[<-this,hn]
  ·refine⟨.map (some w.heap.size),?_,hE3,fun _=>⟨_,rfl,Nat.le_refl _,hm3⟩⟩;have:aQV names=false:=by unfold aQV;exact decide_eq_false (fun h=>by omega)
   rw[this]
end
end
end Go.Proofs.YtjabbbcdgmlojaaGreatDoor
