/-
  What PPatchOrder rests on, part 1 (wip/shake.py).
  Conditions: none.
-/
import Derived.Test.YtjabbbcdgmlojaaGreatDoorProg
import Derived.WalkKit
import Derived.Deep.QuietTactic
import Derived.Laws.CopyOwn
import Derived.StillTail
import Derived.OrdersHeld
import Derived.Laws.StructEq
import Derived.Lib.AppendStr
import Derived.Shelf.Strings.Builder1
import Derived.Shelf.Strings.Builder2
import Derived.Shelf.Strings.OnBuilder
import Derived.Shelf.Small.Utf8
import Derived.Shelf.Small.Strs
import Derived.Shelf.Strings.BuilderF
import Derived.Shelf.Strings.Search1
import Derived.Shelf.Strings.Search2
import Derived.Shelf.Strings.Search3
import Derived.Shelf.Strings.Cut
import Derived.Shelf.Strings.Count
import Derived.Shelf.LaysM
import Derived.Shelf.Strings.Shaped
import Derived.Shelf.Strings.LastIndex
import Derived.Shelf.GgClosure.StringsIndexFunc
import Derived.Shelf.Strings.Prefix
import Derived.Shelf.Strings.Runes
import Derived.Shelf.Strings.AsciiSet
import Derived.Shelf.Unicode.DecodeSlow
import Derived.Lib.Builder
import Derived.Lib.UnsafeStr
import Derived.Maps.RangeRun
import Derived.Recover
import Derived.ChangeKeysEq
import Derived.Deep.Grids
import Derived.Below
import Derived.ProofKit
import Derived.OpenShut
import Derived.ShutString
import Derived.ChangeOld
import Derived.Deep.Slices
import Derived.ChangeSame
import Derived.WideShapes
import Derived.Lay
import Derived.SevenTiedAt
import Derived.Deep.DeepHandedRow
set_option linter.all false
set_option linter.deprecated false
set_option maxHeartbeats 12800000
namespace Go.Proofs.YtjabbbcdgmlojaaGreatDoor
open Go Go.RowKit
section
abbrev Qe:=@if_pos
abbrev Qy:=@List.length_append
abbrev QE:=@Nat.le_refl
abbrev QJ:=@List.mem_singleton
abbrev QN:=@congrArg
abbrev QX:=@List.mem_cons
abbrev Xe:=@List.mem_of_getElem?
abbrev Xk:=@List.length_cons
abbrev Xm:=@absurd
abbrev Xs:=@List.getElem?_eq_getElem
abbrev XB:=@List.mem_append
abbrev XM:=@Nat.zero_le
abbrev XX:=@decide_eq_true
abbrev Ze:=@Nat.le_trans
abbrev Zf:=@decide_eq_false
abbrev Zt:=@List.getElem?_eq_some_iff
abbrev ZI:=@run_underlying
abbrev ZR:=@Int.min_def
abbrev ZY:=@List.mem_map
abbrev Z3:=@List.not_mem_nil
abbrev Z8:=@List.length_nil
abbrev Z9:=@or_false
abbrev Jg:=@List.length_map
abbrev Jz:=@List.take_of_length_le
abbrev JR:=@Bool.and_eq_true
abbrev KO:=@List.append_assoc
abbrev KP:=@List.mem_filter
abbrev K2:=@List.getElem?_map
abbrev Vk:=@Nat.eq_of_beq_eq_true
abbrev Vl:=@decide_eq_true_eq
abbrev Vy:=@Nat.lt_of_lt_of_le
abbrev VX:=@List.take_add_one
abbrev Yd:=@List.cons_append
abbrev Ye:=@List.length_take
abbrev YK:=@List.map_cons
abbrev YL:=@List.append_nil
abbrev Y0:=@List.eq_nil_of_length_eq_zero
abbrev Y1:=@List.length_drop
abbrev Wq:=@Nat.mul_le_mul_right
abbrev Ws:=@List.getElem?_append_right
abbrev Wt:=@List.takeWhile_cons
abbrev Wu:=@Nat.pow_le_pow_right
abbrev W5:=@List.all_eq_true
abbrev aw:=@Nat.mod_eq_of_lt
abbrev ay:=@List.mem_of_mem_drop
abbrev a8:=@Nat.zero_add
abbrev be:=@List.mem_iff_getElem?
abbrev bX:=@List.flatMap_cons
abbrev bY:=@List.getElem?_append_left
abbrev bZ:=@List.length_set
abbrev cd:=@List.drop_eq_getElem_cons
abbrev ce:=@List.flatMap_append
abbrev df:=@Bool.true_and
abbrev dh:=@Nat.lt_succ_self
abbrev ep:=@List.nil_append
abbrev er:=@Array.getElem?_eq_some_iff
abbrev et:=@List.map_append
abbrev eu:=@List.mem_of_mem_take
abbrev ew:=@List.getElem?_set_ne
abbrev ez:=@Bool.eq_false_iff
abbrev fx:=@Nat.le_of_ble_eq_true
abbrev fy:=@Int.toNat_natCast
abbrev fz:=@List.mem_flatMap
abbrev fA:=@Nat.mod_lt
abbrev fB:=@of_decide_eq_true
abbrev gR:=@Nat.mul_one
abbrev gS:=@List.drop_take
abbrev gT:=@Option.getD_some
abbrev gU:=@List.getElem?_set_self
abbrev gV:=@List.exists_mem_of_ne_nil
abbrev iZ:=@Nat.blt_eq
abbrev i5:=@Nat.succ_mul
abbrev kW:=@List.getElem?_eq_none
abbrev kX:=@Int.le_refl
abbrev kY:=@Nat.pow_succ
abbrev kZ:=@List.mem_range
abbrev nA:=@Bool.eq_iff_iff
abbrev nC:=@Nat.add_assoc
abbrev nD:=@Nat.min_eq_left
abbrev nE:=@List.dropWhile_cons
abbrev nF:=@List.length_singleton
abbrev qj:=@List.take_append_drop
abbrev qk:=@List.drop_of_length_le
abbrev qm:=@List.take_length
abbrev qp:=@List.getLast?_eq_getElem?
abbrev qq:=@decide_eq_decide
abbrev tv:=@List.foldl_cons
abbrev tw:=@List.drop_drop
abbrev tz:=@Nat.add_mul
abbrev tC:=@List.getElem?_take_of_lt
abbrev tD:=@List.find?_eq_none
abbrev tE:=@Nat.mul_comm
abbrev tF:=@List.eq_nil_or_concat
abbrev tG:=@List.length_filter_le
abbrev tH:=@List.mem_cons_of_mem
abbrev tI:=@List.any_eq_true
abbrev xx:=@List.map_map
abbrev xy:=@Nat.sub_self
abbrev xz:=@List.drop_zero
abbrev xA:=@List.all_cons
abbrev xB:=@Option.map_some
abbrev xC:=@List.count_cons
abbrev xD:=@Nat.le_succ
abbrev xE:=@List.length_tail
abbrev xF:=@List.nodup_cons
abbrev xG:=@List.length_pos_iff
abbrev xH:=@List.take_take
abbrev xI:=@List.drop_left
abbrev xJ:=@List.drop_eq_nil_of_le
abbrev xK:=@List.filter_cons
abbrev xL:=@List.flatMap_nil
abbrev CD:=@List.getElem?_take
abbrev CE:=@Array.getElem?_setIfInBounds
abbrev CF:=@Option.map_eq_some_iff
abbrev CG:=@List.ext_getElem?
abbrev CH:=@List.nodup_append
abbrev CI:=@List.takeWhile_sublist
abbrev CJ:=@List.mem_iff_getElem
abbrev CL:=@Int.toNat_of_nonneg
abbrev CM:=@List.eq_of_mem_replicate
abbrev CN:=@List.find?_cons_of_neg
abbrev CO:=@List.head?_cons
abbrev CQ:=@Bool.or_assoc
abbrev CR:=@List.take_succ_cons
abbrev CT:=@List.count_append
abbrev CU:=@Nat.testBit_lt_two_pow
abbrev CV:=@List.mem_append_left
abbrev CW:=@List.append_cancel_right
abbrev CX:=@List.mem_or_eq_of_mem_set
abbrev CY:=@Int.eq_ofNat_of_zero_le
abbrev CZ:=@List.getElem?_eq_none_iff
abbrev C0:=@List.filter_append
abbrev Lj:=@Array.toList_map
abbrev Lk:=@List.replicate_succ
abbrev Ll:=@List.flatten_cons
abbrev Lm:=@List.take_append
abbrev Lp:=@List.getElem?_set
abbrev Lq:=@Bool.false_eq_true
abbrev Lt:=@List.getElem?_toArray
abbrev Lu:=@List.take_append_of_le_length
abbrev Lv:=@List.drop_succ_cons
abbrev Lw:=@List.getElem_mem
abbrev Ly:=@Option.isSome_iff_exists
abbrev Lz:=@List.cons_ne_nil
abbrev LB:=@List.filter_eq_nil_iff
abbrev LC:=@List.foldl_append
abbrev LD:=@List.mem_cons_self
abbrev aQE:=@Array.setIfInBounds_comm
abbrev aQF:=@List.isPrefixOf_iff_prefix
abbrev aQG:=@List.find?_cons_of_pos
abbrev aQH:=@List.mem_of_find?_eq_some
end
section
inductive Ent where
 | v (x:Value)
 | t
 | f
def Ent.val:Ent->Value
 | .v x=>x
 | .t=>.bool true
 | .f=>.bool false
abbrev Env:=List (Nat×Ent)
def Env.ent:Env->Nat->Option Ent
 | [],_=>none
 | (t,x)::S,k=>match Nat.beq t k with
  | true=>some x
  | false=>Env.ent S k
def Env.get (S:Env)(k:Nat):Option Value:=
 match S.ent k with
 | some (.v x)=>some x
 | some .t=>some (.bool true)
 | some .f=>some (.bool false)
 | none=>none
def Env.ev (S:Env):Operand->Option Value
 | .tmp t=>S.get t
 | .const v=>some v
 | .global g=>some (.pointer (some ⟨g,0,none⟩))
 | .func f=>some (.func (.func f) #[] #[])
theorem mQA (S:Env)(k:Nat):S.get k=(S.ent k).map Ent.val:=by
 unfold Env.get;cases S.ent k with
 | none=>rfl
 | some e=>cases e<;>rfl
structure Slots where
 n:Nat
 ds:List Deferred:=[]
instance (k:Nat):OfNat Slots k:=⟨⟨k,[]⟩⟩
structure Fits (N:Slots) (S:Env) (a:Act):Prop where
 size:a.tmps.size=N.n
 defers:a.defers=N.ds
 has:∀k x,S.ent k=some x->a.tmps[k]? =some x.val
theorem Fits.get {N:Slots}{S:Env}{a:Act}(h:Fits N S a){k:Nat}{v:Value}(hk:S.get k=some v):a.tmps[k]? =some v:=by
 rw[mQA] at hk;cases he:S.ent k with
 | none=>simp[he] at hk
 | some e=>simp[he] at hk;subst hk;exact h.has k e he
theorem Fits.ev {N:Slots}{S:Env}{a:Act}(h:Fits N S a){x:Operand}{v:Value}(hx:S.ev x=some v):a.eval x=v:=by
 cases x with
 | tmp t=>have:=h.get hx;simp[Act.eval,this]
 | const u=>simp[Env.ev] at hx;simp[Act.eval,hx]
 | global g=>simp[Env.ev] at hx;simp[Act.eval,hx]
 | func f=>simp[Env.ev] at hx;simp[Act.eval,hx]
theorem Fits.put {N:Slots}{S:Env}{a:Act}(h:Fits N S a){d:Nat}(hd:d<N.n)(e:Ent):Fits N ((d,e)::S) (a.put (some d) e.val):=by
 refine⟨by simp[Act.put,h.size],by simp[Act.put,h.defers],λk x hk=>?_⟩;simp only[Env.ent] at hk;cases hb:Nat.beq d k with
 | true=>
  have:d=k:=Vk hb;subst this;simp only[hb] at hk;cases hk;have:d<a.tmps.size:=by rw[h.size];exact hd
  simp[Act.put,this]
 | false=>
  have QK:d≠k:=λe=>by subst e;simp at hb
  simp only[hb] at hk;simp[Act.put,QK,h.has k x hk]
structure TyRow where
 t:Nat
 d:TypeDesc
 sz:Nat
 by_:Nat
 z:Value
def LE (P:Program)(r:TyRow):Prop:=P.underlying r.t=some r.d/\(P.info? r.t).map (λi=>(i.size,i.bytes,i.zero))=some (r.sz,r.by_,some r.z)
def xM (P:Program)(f:FuncId):Prop:=∃fn,P.funcs[f]? =some fn/\fn.body.isNone=false/\(fn.name== "runtime.NumGoroutine")=false
structure MRow where
 t:Nat
 name:String
 f:Nat
 ptr:Bool
def C1:TypeDesc->Bool
 | .pointer _=>true
 | _=>false
def LF (P:Program)(r:MRow):Prop:=
 (P.info? r.t).bind (λi=>(i.methods.find? (·.name==r.name)).map (λm=>(m.path.isEmpty,m.func)))=some (true,some (r.f,r.ptr))/\(P.underlying r.t).map C1=some r.ptr
structure ERow where
 t:Nat
 ks:List Nat
def di:Option TypeDesc->Nat
 | some (.int _)=>0
 | some .string=>1
 | some .bool=>2
 | _=>1000
def nG (P:Program):Nat->List Field->List Nat->Bool
 | _,[],[]=>true
 | n,f::l,k::ks=>f.name != "_" && Nat.beq f.offset n&&Nat.beq (di (P.underlying f.type)) k&&Nat.blt k 3&&nG P (n+1) l ks
 | _,_,_=>false
def LG (P:Program)(r:ERow):Prop:=
 P.stoodInHeld r.t=false/\P.eqGuardType P.depth r.t=false/\(match P.underlying r.t with
  | some (.struct fs)=>nG P 0 fs.toList r.ks
  | _=>false)=true
structure Gx where
 P:Program
 tys:List TyRow
 fns:List Nat
 ms:List MRow:=[]
 eqs:List ERow:=[]
def xN (P:Program):List MRow->Prop
 | []=>True
 | r::l=>LF P r/\xN P l
def xO (P:Program):List ERow->Prop
 | []=>True
 | r::l=>LG P r/\xO P l
def tJ:List MRow->Nat->Option MRow
 | [],_=>none
 | r::l,t=>match Nat.beq r.t t with
  | true=>some r
  | false=>tJ l t
def nH:List ERow->Nat->Option ERow
 | [],_=>none
 | r::l,t=>match Nat.beq r.t t with
  | true=>some r
  | false=>nH l t
theorem aQI {P:Program}{l:List MRow}{t:Nat}{r:MRow}(h:tJ l t=some r)(ha:xN P l):LF P r/\r.t=t:=by
 induction l with
 | nil=>cases h
 | cons x l ih=>
  simp only[tJ] at h;cases hb:Nat.beq x.t t with
  | true=>simp only[hb] at h;cases h;exact⟨ha.1,Vk hb⟩
  | false=>simp only[hb] at h;exact ih h ha.2
theorem LH {P:Program}{l:List ERow}{t:Nat}{r:ERow}(h:nH l t=some r)(ha:xO P l):LG P r/\r.t=t:=by
 induction l with
 | nil=>cases h
 | cons x l ih=>
  simp only[nH] at h;cases hb:Nat.beq x.t t with
  | true=>simp only[hb] at h;cases h;exact⟨ha.1,Vk hb⟩
  | false=>simp only[hb] at h;exact ih h ha.2
def xP (P:Program):List TyRow->Prop
 | []=>True
 | r::l=>LE P r/\xP P l
def xQ (P:Program):List Nat->Prop
 | []=>True
 | f::l=>xM P f/\xQ P l
structure Gx.Ok (g:Gx):Prop where
 tys:xP g.P g.tys
 fns':xQ g.P g.fns
 mixed:g.P.follows .mixedOrders=true
 ms:xN g.P g.ms
 eqs:xO g.P g.eqs
def QR:List TyRow->Nat->Option TyRow
 | [],_=>none
 | r::l,t=>match Nat.beq r.t t with
  | true=>some r
  | false=>QR l t
theorem aQJ {l:List TyRow}{t:Nat}{r:TyRow}(h:QR l t=some r):r∈l/\r.t=t:=by
 induction l with
 | nil=>cases h
 | cons x l ih=>
  simp only[QR] at h;cases hb:Nat.beq x.t t with
  | true=>simp only[hb] at h;cases h;exact⟨by simp,Vk hb⟩
  | false=>simp only[hb] at h;have:=ih h;exact⟨by simp[this.1],this.2⟩
theorem Gx.Ok.row {g:Gx}(h:g.Ok){t:Nat}{r:TyRow}(hr:QR g.tys t=some r):g.P.underlying t=some r.d/\∃i,g.P.info? t=some i/\i.size=r.sz/\i.bytes=r.by_/\i.zero=some r.z:=by
 obtain⟨hm,rfl⟩:=aQJ hr;have key:∀l,xP g.P l->r∈l->LE g.P r:=by
  intro l;induction l with
  | nil=>intro _ h;cases h
  | cons x l ih=>intro h hm;cases hm with
   | head=>exact h.1
   | tail _ hm=>exact ih h.2 hm
 obtain⟨h1,h2⟩:=key _ h.tys hm;refine⟨h1,?_⟩;cases hi:g.P.info? r.t with
 | none=>simp[hi] at h2
 | some i=>simp[hi] at h2;exact⟨i,rfl,h2.1,h2.2.1,h2.2.2⟩
theorem Gx.Ok.fns {g:Gx}(h:g.Ok):∀f∈g.fns,xM g.P f:=by
 intro f;have key:∀l,xQ g.P l->f∈l->xM g.P f:=by
  intro l;induction l with
  | nil=>intro _ h;cases h
  | cons x l ih=>intro h hm;cases hm with
   | head=>exact h.1
   | tail _ hm=>exact ih h.2 hm
 exact key _ h.fns'
def eA (n:Nat):List Nat->Bool
 | []=>false
 | x::l=>match Nat.beq x n with
  | true=>true
  | false=>eA n l
theorem xR {n:Nat}{l:List Nat}(h:eA n l=true):n∈l:=by
 induction l with
 | nil=>cases h
 | cons x l ih=>
  simp only[eA] at h;cases hb:Nat.beq x n with
  | true=>have:=Vk hb;simp[this]
  | false=>simp only[hb] at h;simp[ih h]
structure Cx where
 g:Gx
 N:Slots
 named:Nat
 keep:List Nat
 cuts:List Nat:=[]
abbrev Zd:=Exit->Env->World->Prop
def Up (c:Cx)(Q:Zd):Exit->Act->World->Prop:=λe a w=>∃S,Fits c.N S a/\Q e S w
@[irreducible] def Kp (b:Bool) (p q:Prop):Prop:=(b=true->p)/\(b=false->q)
@[irreducible] def az (n:Int) (K:Int->Prop):Prop:=K n
@[irreducible] def eB (p:Prop) (n:Int) (K:Int->Prop):Prop:=p/\K n
@[irreducible] def gW (p:Prop) (v:Value) (K:Value->Prop):Prop:=p/\K v
@[irreducible] def fC (w:World) (p:Addr) (K:Value->Prop):Prop:=∃v,w.cell? p=some v/\K v
@[irreducible] def i6 (w:World) (p:Addr) (n:Nat) (K:List Value->Prop):Prop:=∃vs:List Value,vs.length=n/\(∀j v,vs[j]? =some v->w.cell? (p.add j)=some v)/\K vs
@[irreducible] def fD (w:World) (p:Addr) (v:Value) (K:World->Prop):Prop:=(∃u,w.cell? p=some u)/\w.frozen? p=false/\K (w.setCell p v)
@[irreducible] def nI (w:World) (t:TypeId) (cs:List Value) (K:Addr->World->Prop):Prop:=K ⟨w.heap.size,0,none⟩ (w.alloc (.cells cs.toArray t))
@[irreducible] def i7 (P:Program) (w:World) (p:Addr) (vs:List Value) (K:World->Prop):Prop:=∃w',(storeCells p vs).run P w= .ok () w'/\K w'
@[irreducible] def LI (a b:String) (K:Prop):Prop:=a=b/\K
@[irreducible] def YM (b:Option Addr) (n:Nat) (i:Int) (sz:Nat) (K:Addr->Prop):Prop:=∃a,b=some a/\0<=i/\i<n/\K (a.add (i.toNat*sz))
@[irreducible] def dk (s:ByteArray) (i:Int) (K:Int->Prop):Prop:=∃b,0<=i/\s[i.toNat]? =some b/\K (b.toNat:Int)
@[irreducible] def Fn (P:Program) (f:FuncId) (l:List Value) (w:World) (R:Value->World->Prop):Prop:=Calls P f l.toArray w fun
 | .returned v,w'=>R v w'
 | _,_=>False
@[irreducible] def fE (P:Program) (f:FuncId) (l:List Value) (w:World) (K:Value->World->Prop) (Xd:List PanicEntry->World->Prop):Prop:=Calls P f l.toArray w fun
 | .returned v,w'=>K v w'
 | .panicked ch,w'=>Xd ch w'
 | .outgrown,_=>False
@[irreducible] def LJ (c:Cx) (nm:String) (t:Nat) (l:List Value) (w:World) (K:Value->World->Prop) (Xd:List PanicEntry->World->Prop):Prop:=
 ∃r,tJ c.g.ms t=some r/\nm=r.name/\eA r.f c.g.fns=true/\fE c.g.P r.f l w K Xd
@[irreducible] def X3 (c:Cx) (o:Oper) (S:Env) (w:World) (K:Env->World->Prop) (Q:Zd):Prop:=
 ∀a,Fits c.N S a->o.wp c.g.P a w (λa' w'=>∃S',Fits c.N S' a'/\K S' w') (Up c Q)
@[irreducible] def Wv (c:Cx) (id:Nat) (ops:List Oper) (S:Env) (w:World) (Q:Zd):Prop:=
 ∀a,Fits c.N S a->(Code.region id ops.toArray true).wp c.g.P (Up c Q) a w
@[irreducible] def xS (c:Cx) (x:Code) (S:Env) (w:World) (Q:Zd):Prop:=
 ∀a,Fits c.N S a->(Code.loop x).wp c.g.P (Up c Q) a w
@[irreducible] def i9 (c:Cx) (x:Code) (S:Env) (w:World) (Q:Zd):Prop:=
 ∀a,Fits c.N S a->x.wp c.g.P (Up c Q) a w
inductive PR where
 | val (v:Value)
 | ent (e:Ent)
 | norm (k:IntKind) (n:Int)
 | normIf (p:Prop) (k:IntKind) (n:Int)
 | need (p:Prop) (v:Value)
 | no
def qr:List Value->Nat->Option Value
 | [],_=>none
 | x::_,0=>some x
 | _::l,n+1=>qr l n
theorem LK (l:List Value)(n:Nat):qr l n=l[n]? :=by
 induction l generalizing n with
 | nil=>simp[qr]
 | cons x l ih=>cases n<;>simp[qr,ih]
def nJ:IntKind->Nat
 | .i8=>0 | .i16=>1 | .i32=>2 | .i64=>3 | .u8=>4 | .u16=>5 | .u32=>6 | .u64=>7
theorem LL {a b:IntKind}(h:Nat.beq (nJ a) (nJ b)=true):a=b:=by
 have:=Vk h;cases a<;>cases b<;>first | rfl | (simp[nJ] at this)
def C2 (op:BinOp)(k:IntKind)(x y:Int):PR:=
 match op with
 | .add=>.norm k (k.wrap (x+y))
 | .sub=>.norm k (k.wrap (x-y))
 | .mul=>.norm k (k.wrap (x*y))
 | .quo=>.normIf (y≠0) k (k.wrap (x.tdiv y))
 | .rem=>.normIf (y≠0) k (x.tmod y)
 | .and=>.norm k (k.wrap ((BitVec.ofInt k.bits x &&& BitVec.ofInt k.bits y).toNat))
 | .or=>.norm k (k.wrap ((BitVec.ofInt k.bits x ||| BitVec.ofInt k.bits y).toNat))
 | .xor=>.norm k (k.wrap ((BitVec.ofInt k.bits x^^^BitVec.ofInt k.bits y).toNat))
 | .andNot=>.norm k (k.wrap ((BitVec.ofInt k.bits x &&& ~~~ BitVec.ofInt k.bits y).toNat))
 | .eql=>.val (.bool (x==y))
 | .neq=>.val (.bool (x !=y))
 | .lss=>.val (.bool (decide (x<y)))
 | .leq=>.val (.bool (decide (x<=y)))
 | .gtr=>.val (.bool (decide (x>y)))
 | .geq=>.val (.bool (decide (x≥y)))
 | _=>.no
def C3 (op:BinOp)(k:IntKind)(x:Int)(k':IntKind)(y:Int):PR:=
 match op with
 | .shl=>.normIf (0<=y) k (k.wrap (x*2^(min y.toNat k.bits)))
 | .shr=>.normIf (0<=y) k (x.fdiv (2^(min y.toNat k.bits)))
 | op=>match Nat.beq (nJ k) (nJ k')with
  | true=>C2 op k x y
  | false=>.no
def C4 (op:BinOp)(x y:ByteArray):PR:=
 match op with
 | .add=>.need (x.size+y.size<=maxLen) (.string (x++y))
 | .eql=>.val (.bool (decide (x=y)))
 | .neq=>.val (.bool (!decide (x=y)))
 | .lss=>.val (.bool (Op.bytesLess x.data.toList y.data.toList))
 | _=>.no
def C5:TypeDesc->Value->PR
 | .string,.string s=>.val (.int .i64 s.size)
 | .slice _,.slice _ n _=>.val (.int .i64 n)
 | _,_=>.no
def gX:TypeDesc->Value->Value->Option Bool
 | .bool,.bool a,.bool b=>some (a==b)
 | .slice _,.slice none _ _,.slice b _ _=>some b.isNone
 | .slice _,.slice (some _) _ _,.slice none _ _=>some false
 | .map _ _,.map none,.map b=>some b.isNone
 | .map _ _,.map (some _),.map none=>some false
 | .pointer _,.pointer none,.pointer b=>some b.isNone
 | .pointer _,.pointer (some _),.pointer none=>some false
 | .interface _,.nilIface,.iface _ _=>some false
 | .interface _,.iface _ _,.nilIface=>some false
 | .func _ _ _,.nilFunc,.nilFunc=>some true
 | .func _ _ _,.nilFunc,.func _ _ _=>some false
 | .func _ _ _,.func _ _ _,.nilFunc=>some false
 | _,_,_=>none
def cg:List Nat->List Value->List Value->Option Bool
 | [],[],[]=>some true
 | 0::ks,.int k a::xs,.int k' b::ys=>match Nat.beq (nJ k) (nJ k'),cg ks xs ys with
  | true,some r=>some (a==b&&r)
  | _,_=>none
 | 1::ks,.string a::xs,.string b::ys=>match cg ks xs ys with
  | some r=>some (decide (a=b)&&r)
  | none=>none
 | 2::ks,.bool a::xs,.bool b::ys=>match cg ks xs ys with
  | some r=>some (a==b&&r)
  | none=>none
 | _,_,_=>none
def nK (op:BinOp)(r:Option Bool):PR:=
 match op,r with
 | .eql,some b=>.val (.bool b)
 | .neq,some b=>.val (.bool (!b))
 | _,_=>.no
def la {α:Type}:List α->Nat->Option α
 | [],_=>none
 | x::_,0=>some x
 | _::l,n+1=>la l n
def nL:TypeDesc->Bool
 | .struct _=>true
 | .array _ _=>true
 | _=>false
def LM:TypeDesc->Bool
 | .interface _=>true
 | _=>false
def JB:Value->List Value
 | .agg cs=>cs.toList
 | v=>[v]
def tK:List Value->List Value->List Value
 | [],cs=>cs
 | v::vs,_::cs=>v::tK vs cs
 | _::_,[]=>[]
def KH:Nat->List Value->List Value->List Value
 | 0,vs,cs=>tK vs cs
 | n+1,vs,c::cs=>c::KH n vs cs
 | _+1,_,[]=>[]
def tL (g:Gx):List Field->Option (List (Nat×Nat))
 | []=>some []
 | f::l=>match QR g.tys f.type,tL g l with
  | some r,some m=>some ((f.offset,r.sz)::m)
  | _,_=>none
def qt (ps:Nat->Option (Nat×Nat)):List Value->List (Nat×Value)->Option (List Value)
 | cells,[]=>some cells
 | cells,(i,v)::rest=>match ps i with
  | some (off,sz)=>(match Nat.beq (JB v).length sz,Nat.ble (off+(JB v).length) cells.length with
   | true,true=>qt ps (KH off (JB v) cells) rest
   | _,_=>none)
  | none=>none
def nM (S:Env):List Operand->Option (List Value)
 | []=>some []
 | x::l=>match S.ev x,nM S l with
  | some v,some m=>some (v::m)
  | _,_=>none
def qu (S:Env):List (Nat×Operand)->Option (List (Nat×Value))
 | []=>some []
 | (i,x)::l=>match S.ev x,qu S l with
  | some v,some m=>some ((i,v)::m)
  | _,_=>none
def ja (S:Env)(d:Int):Option Operand->Option Int
 | none=>some d
 | some x=>match S.ev x with
  | some (.int _ n)=>some n
  | _=>none
def qv (g:Gx)(S:Env):Op->PR
 | .move (.const (.bool true)) | .assign (.const (.bool true))=>.ent .t
 | .move (.const (.bool false)) | .assign (.const (.bool false))=>.ent .f
 | .move (.tmp t) | .assign (.tmp t)=>match S.ent t with
  | some e=>.ent e
  | none=>.no
 | .move x | .assign x=>match S.ev x with
  | some v=>.val v
  | none=>.no
 | .pick (.tmp t) a b=>match S.ent t with
  | some .t=>(match a with
   | .const (.bool true)=>.ent .t
   | .const (.bool false)=>.ent .f
   | .tmp u=>(match S.ent u with
    | some e=>.ent e
    | none=>.no)
   | a=>match S.ev a with
    | some v=>.val v
    | none=>.no)
  | some .f=>(match b with
   | .const (.bool true)=>.ent .t
   | .const (.bool false)=>.ent .f
   | .tmp u=>(match S.ent u with
    | some e=>.ent e
    | none=>.no)
   | b=>match S.ev b with
    | some v=>.val v
    | none=>.no)
  | _=>.no
 | .binOp op t x y _=>match S.ev x,S.ev y with
  | some (.int k a),some (.int k' b)=>C3 op k a k' b
  | some (.string a),some (.string b)=>C4 op a b
  | some (.agg a),some (.agg b)=>(match nH g.eqs t with
   | some r=>nK op (cg r.ks a.toList b.toList)
   | none=>.no)
  | some a,some b=>(match QR g.tys t with
   | some r=>nK op (gX r.d a b)
   | none=>.no)
  | _,_=>.no
 | .unOp .not _ (.tmp t)=>match S.ent t with
  | some .t=>.ent .f
  | some .f=>.ent .t
  | some (.v (.bool b))=>.val (.bool (!b))
  | _=>.no
 | .unOp .neg _ x=>match S.ev x with
  | some (.int k n)=>.norm k (k.wrap (0-n))
  | _=>.no
 | .convert s t x=>match QR g.tys s,QR g.tys t,S.ev x with
  | some _,some ⟨_,.int k,_,_,_⟩,some (.int _ n)=>.norm k (k.wrap n)
  | some _,some ⟨_,.string,_,_,_⟩,some (.string s)=>.val (.string s)
  | _,_,_=>.no
 | .extract x i=>match S.ev x with
  | some (.tuple vs)=>(match qr vs.toList i with
   | some v=>.val v
   | none=>.no)
  | _=>.no
 | .call ⟨.builtin .len,xs,ts⟩=>match xs.toList,ts.toList with
  | [x],[t]=>(match QR g.tys t,S.ev x with
   | some r,some v=>C5 r.d v
   | _,_=>.no)
  | _,_=>.no
 | .call ⟨.builtin .min,xs,_⟩=>match xs.toList with
  | [x,y]=>(match S.ev x,S.ev y with
   | some (.int k a),some (.int _ b)=>.norm k (if b<a then b else a)
   | _,_=>.no)
  | [x,y,z]=>(match S.ev x,S.ev y,S.ev z with
   | some (.int k a),some (.int _ b),some (.int _ c)=>.norm k (if c<(if b<a then b else a)then c else(if b<a then b else a))
   | _,_,_=>.no)
  | _=>.no
 | .call ⟨.builtin .max,xs,_⟩=>match xs.toList with
  | [x,y]=>(match S.ev x,S.ev y with
   | some (.int k a),some (.int _ b)=>.norm k (if b>a then b else a)
   | _,_=>.no)
  | _=>.no
 | .nilCheck x=>match S.ev x with
  | some (.pointer (some p))=>.val (.pointer (some p))
  | some (.iface t v)=>.val (.iface t v)
  | some (.func (.func n) a b)=>.val (.func (.func n) a b)
  | _=>.no
 | .fieldAddr t x k=>match QR g.tys t,S.ev x with
  | some r,some (.pointer (some p))=>(match r.d with
   | .struct fs=>(match la fs.toList k with
    | some f=>(match QR g.tys f.type with
     | some rf=>(match Nat.beq rf.sz 0 with
      | false=>.val (.pointer (some (p.add f.offset)))
      | true=>.no)
     | none=>.no)
    | none=>.no)
   | _=>.no)
  | _,_=>.no
 | .field t x k=>match QR g.tys t,S.ev x with
  | some r,some (.agg cs)=>(match r.d with
   | .struct fs=>(match la fs.toList k with
    | some f=>(match QR g.tys f.type with
     | some rf=>(match nL rf.d with
      | true=>.val (.agg ((cs.toList.drop f.offset).take rf.sz).toArray)
      | false=>(match qr cs.toList f.offset with
       | some v=>.val v
       | none=>.no))
     | none=>.no)
    | none=>.no)
   | _=>.no)
  | _,_=>.no
 | .build t parts=>match QR g.tys t,qu S parts.toList with
  | some r,some ps=>(match r.d with
   | .struct fs=>(match tL g fs.toList with
    | some pl=>(match qt (la pl) r.z.cells.toList ps with
     | some cs=>.val (.agg cs.toArray)
     | none=>.no)
    | none=>.no)
   | .array _ e=>(match QR g.tys e with
    | some re=>(match qt (λi=>some (i*re.sz,re.sz)) r.z.cells.toList ps with
     | some cs=>.val (.agg cs.toArray)
     | none=>.no)
    | none=>.no)
   | _=>.no)
  | _,_=>.no
 | .makeInterface t x=>match QR g.tys t,S.ev x with
  | some r,some v=>(match LM r.d with
   | false=>.val (.iface t v)
   | true=>.no)
  | _,_=>.no
 | .makeFunc f xs ys=>match nM S xs.toList,nM S ys.toList with
  | some a,some b=>.val (.func f a.toArray b.toArray)
  | _,_=>.no
 | .slice t x lo hi none=>match QR g.tys t,S.ev x with
  | some ⟨_,.string,_,_,_⟩,some (.string s)=>(match ja S 0 lo,ja S s.size hi with
   | some l,some h=>.need (0<=l/\l<=h/\h<=s.size) (.string (s.extract l.toNat h.toNat))
   | _,_=>.no)
  | _,_=>.no
 | _=>.no
def PR.Means (w:World)(r:Result Next):PR->Prop
 | .val v=>r= .ok (.value v) w
 | .ent e=>r= .ok (.value e.val) w
 | .norm k n=>r= .ok (.value (.int k n)) w
 | .normIf p k n=>p->r= .ok (.value (.int k n)) w
 | .need p v=>p->r= .ok (.value v) w
 | .no=>True
section
variable {g:Gx} {S:Env} {w:World} {ρ:Operand->Value}
theorem aQK (op:BinOp)(t:TypeId)(k:IntKind)(x y:Int)(h1:op≠ .shl)(h2:op≠ .shr):
  (C2 op k x y).Means w (((binOp op t (.int k x) (.int k y)).run g.P w).andThen λv w=>.ok (.value v) w):=by
 cases op<;>first | (exact Xm rfl h1) | (exact Xm rfl h2) | skip
 all_goals simp[C2,PR.Means,binOp,Op.intArith,Op.intBits,Op.intCmp,Op.intDiv]
 all_goals (intro h;simp[h])
theorem aQL (op:BinOp)(t:TypeId)(k k':IntKind)(x y:Int):
  (C3 op k x k' y).Means w (((binOp op t (.int k x) (.int k' y)).run g.P w).andThen λv w=>.ok (.value v) w):=by
 unfold C3;split
 ·intro h;simp only[binOp,Op.shift];rw[if_neg (by omega)];simp
 ·intro h;simp only[binOp,Op.shift];rw[if_neg (by omega)];simp
 ·rename_i h1 h2;split
  ·rename_i hk;have:=LL hk;subst this;exact aQK op t k x y h1 h2
  ·trivial
theorem tM (a b:ByteArray):(a.toList==b.toList)=decide (a=b):=by
 rw[nA];simp[ByteArray.toList_eq];constructor
 ·intro h;cases a;cases b;simp_all
 ·intro h;rw[h]
theorem aQM (op:BinOp)(t:TypeId)(x y:ByteArray):
  (C4 op x y).Means w (((binOp op t (.string x) (.string y)).run g.P w).andThen λv w=>.ok (.value v) w):=by
 unfold C4;split<;>simp only[PR.Means]
 ·intro h;have:¬((x.size+y.size:Nat):Int)>IntKind.i64.max:=by
   have h2:IntKind.i64.max=9223372036854775807:=by decide
   rw[h2];unfold maxLen at h;omega
  simp only[binOp,Op.stringOp];rw[if_neg this];simp
 ·simp[binOp,Op.stringOp,tM]
 ·simp[binOp,Op.stringOp,tM]
 ·simp[binOp,Op.stringOp,ByteArray.toList_eq]
theorem Yu (hg:g.Ok){t:Nat}{r:TyRow}(hr:QR g.tys t=some r)(w:World):(underlying t).run g.P w= .ok r.d w:=
 ZI (hg.row hr).1 w
theorem aQN (hg:g.Ok){t:Nat}{r:TyRow}(hr:QR g.tys t=some r)(ty:TypeId)(v:Value):
  (C5 r.d v).Means w (((Builtin.len_ #[t] ty #[v]).run g.P w).andThen λv w=>.ok (.value v) w):=by
 have hu:=Yu hg hr w;unfold C5;split<;>simp only[PR.Means]
 ·rename_i h;simp[Builtin.len_,hu,h,goInt]
 ·rename_i h;simp[Builtin.len_,hu,h,goInt]
theorem aQO (hg:g.Ok){t:Nat}{r:TyRow}(hr:QR g.tys t=some r){x y:Value}{b:Bool}(h:gX r.d x y=some b)(n:Nat):
  (Op.equalIn (n+1) t x y).run g.P w= .ok b w:=by
 have hu:=Yu hg hr w;unfold gX at h;split at h<;>first | (simp only[Option.some.injEq] at h;subst h;rename_i hd;simp[Op.equalIn,hu,hd];done) | cases h
theorem LN (hg:g.Ok){t:Nat}{r:TyRow}(hr:QR g.tys t=some r){x y:Value}{b:Bool}(h:gX r.d x y=some b):
  (Op.equal t x y).run g.P w= .ok b w:=aQO hg hr h 9999
theorem aQP (op:BinOp)(t:TypeId)(x y:Operand){d:TypeDesc}{a b:Value}{r:Bool}(h:gX d a b=some r):eqGuard op t x y a b=pure ():=by
 unfold gX at h;split at h<;>first | (simp only[eqGuard];split<;>rfl) | cases h
theorem aQQ (hg:g.Ok)(op:BinOp){t:Nat}{r:TyRow}(hr:QR g.tys t=some r)(x y:Value):
  (nK op (gX r.d x y)).Means w (((binOp op t x y).run g.P w).andThen λv w=>.ok (.value v) w):=by
 unfold nK;split
 ·rename_i b hb;have h:=LN (w:=w) hg hr hb;have e:binOp .eql t x y=(do pure (.bool (<-Op.equal t x y))):=by
   unfold gX at hb;split at hb<;>first | rfl | cases hb
  simp[PR.Means,e,h]
 ·rename_i b hb;have h:=LN (w:=w) hg hr hb;have e:binOp .neq t x y=(do pure (.bool (!(<-Op.equal t x y)))):=by
   unfold gX at hb;split at hb<;>first | rfl | cases hb
  simp[PR.Means,e,h]
 ·trivial
theorem aQR {P:Program}{t:TypeId}(h:di (P.underlying t)<3)(w:World):(isAgg t).run P w= .ok false w:=by
 cases hu:P.underlying t with
 | none=>rw[hu] at h;simp[di] at h
 | some d=>
  simp only[isAgg,Sem.run_bind,ZI hu,Result.andThen_ok];rw[hu] at h;cases d<;>first | rfl | (simp[di] at h)
theorem bf {P:Program}{t:TypeId}(h:di (P.underlying t)<3){cs:Array Value}{n:Nat}{v:Value}(hv:cs[n]? =some v)(w:World):(part t cs n).run P w= .ok v w:=by
 simp[part,aQR h,hv]
theorem C6 {P:Program}{xs ys:Array Value}:∀(fs:List Field)(ks:List Nat)(n:Nat)(xl yl:List Value)(b:Bool),nG P n fs ks=true->cg ks xl yl=some b->
  (∀j,xl[j]? =xs[n+j]?)->(∀j,yl[j]? =ys[n+j]?)->∀(d:Nat) (w:World),(Op.eqFields (d+1) xs ys fs).run P w= .ok b w
 | [],[],n,[],[],b,_,h,_,_,d,w=>by
  simp only[cg,Option.some.injEq] at h;subst h;simp[Op.eqFields]
 | [],[],_,[],_::_,_,_,h,_,_,_,_=>by simp[cg] at h
 | [],[],_,_::_,_,_,_,h,_,_,_,_=>by simp[cg] at h
 | [],_::_,_,_,_,_,hb,_,_,_,_,_=>by simp[nG] at hb
 | _::_,[],_,_,_,_,hb,_,_,_,_,_=>by simp[nG] at hb
 | f::fs,k::ks,n,xl,yl,b,hb,h,hx,hy,d,w=>by
  simp only[nG,JR,bne_iff_ne,ne_eq] at hb;obtain⟨⟨⟨⟨wy,WZ⟩,hk⟩,iy⟩,H3⟩:=hb;have WZ:=Vk WZ;have hk:=Vk hk;have iy:k<3:=by rw[iZ] at iy;exact iy
  have Xa:di (P.underlying f.type)<3:=by omega
  have step:∀(u v:Value) (xt yt:List Value) (e r:Bool),xl=u::xt->yl=v::yt->cg ks xt yt=some r->(Op.equalIn (d+1) f.type u v).run P w= .ok e w->
    (Op.eqFields (d+1) xs ys (f::fs)).run P w= .ok (e&&r) w:=by
   rintro u v xt yt e r rfl rfl hr he;have hu:xs[f.offset]? =some u:=by rw[WZ];simpa using (hx 0).symm
   have hv:ys[f.offset]? =some v:=by rw[WZ];simpa using (hy 0).symm
   have ih:=C6 fs ks (n+1) xt yt r H3 hr (λj=>by have:=hx (j+1);simpa [nC,Nat.add_comm 1 j] using this) (λj=>by have:=hy (j+1);simpa [nC,Nat.add_comm 1 j] using this) d w;simp only[Op.eqFields,ne_eq,wy,not_false_eq_true,if_true,Sem.run_bind,bf Xa hu,bf Xa hv,Result.andThen_ok,he];cases e with
   | true=>simpa using ih
   | false=>simp
  unfold cg at h;split at h
  ·simp at*
  ·rename_i ks' k1 a xt k2 b2 yt gD;simp only[List.cons.injEq] at gD;obtain⟨rfl,rfl⟩:=gD;split at h
   ·rename_i r h1 h2;have:=LL h1;subst this;simp only[Option.some.injEq] at h;subst h;cases hu:P.underlying f.type with
    | none=>rw[hu] at hk;simp[di] at hk
    | some dd=>rw[hu] at hk;cases dd<;>first | (exact step _ _ _ _ _ _ rfl rfl h2 (run_equalIn_int w d f.type _ _ _ _ hu)) | (simp[di] at hk)
   ·cases h
  ·rename_i ks' a xt b2 yt gD;simp only[List.cons.injEq] at gD;obtain⟨rfl,rfl⟩:=gD;split at h
   ·rename_i r h2;simp only[Option.some.injEq] at h;subst h;cases hu:P.underlying f.type with
    | none=>rw[hu] at hk;simp[di] at hk
    | some dd=>rw[hu] at hk;cases dd<;>first | (refine step _ _ _ _ _ _ rfl rfl h2 ?_;rw[run_equalIn_string w d f.type _ _ hu,tM];done) | (simp[di] at hk)
   ·cases h
  ·rename_i ks' a xt b2 yt gD;simp only[List.cons.injEq] at gD;obtain⟨rfl,rfl⟩:=gD;split at h
   ·rename_i r h2;simp only[Option.some.injEq] at h;subst h;cases hu:P.underlying f.type with
    | none=>rw[hu] at hk;simp[di] at hk
    | some dd=>rw[hu] at hk;cases dd<;>first | (exact step _ _ _ _ _ _ rfl rfl h2 (run_equalIn_bool' w d f.type _ _ hu)) | (simp[di] at hk)
   ·cases h
  ·cases h
theorem LO (hg:g.Ok){t:Nat}{r:ERow}(hr:nH g.eqs t=some r){xs ys:Array Value}{b:Bool}(h:cg r.ks xs.toList ys.toList=some b)(n:Nat):
  (Op.equalIn (n+2) t (.agg xs) (.agg ys)).run g.P w= .ok b w:=by
 obtain⟨⟨h1,_,h3⟩,rfl⟩:=LH hr hg.eqs;split at h3
 ·rename_i fs hu;have hf:g.P.fieldsOf r.t=fs:=by simp[Program.fieldsOf,hu]
  rw[run_equalIn_struct w (n+1) r.t xs ys (by rw[hf];exact hu) h1,hf];exact C6 fs.toList r.ks 0 _ _ b h3 h (λj=>by simp) (λj=>by simp) n w
 ·cases h3
theorem aQS (hg:g.Ok)(op:BinOp){t:Nat}{r:ERow}(hr:nH g.eqs t=some r)(x y:Operand)(xs ys:Array Value):
  (nK op (cg r.ks xs.toList ys.toList)).Means w (((eqGuard op t x y (.agg xs) (.agg ys)).run g.P w).andThen λ_ w=>((binOp op t (.agg xs) (.agg ys)).run g.P w).andThen λv w=>.ok (.value v) w):=by
 have Kj:∀op,(eqGuard op t x y (.agg xs) (.agg ys)).run g.P w= .ok () w:=λop=>by
  obtain⟨⟨_,h2,_⟩,rfl⟩:=LH hr hg.eqs;exact run_eqGuard_agg w op r.t x y xs ys h2
 unfold nK;split
 ·rename_i b hb;have h:=LO (w:=w) hg hr hb 9998;simp only[PR.Means,Kj,Result.andThen_ok,run_eql_struct];rw[h]<;>rfl
 ·rename_i b hb;have h:=LO (w:=w) hg hr hb 9998;simp only[PR.Means,Kj,Result.andThen_ok,run_neq_struct];rw[h]<;>rfl
 ·trivial
theorem LP {α:Type}{xs:Array α}{x:α}(h:xs.toList=[x]):xs= #[x]:=by
 cases xs;simp_all
theorem LQ {α:Type}{xs:Array α}{x y:α}(h:xs.toList=[x,y]):xs= #[x,y]:=by
 cases xs;simp_all
theorem aQT {α:Type}{xs:Array α}{x y z:α}(h:xs.toList=[x,y,z]):xs= #[x,y,z]:=by
 cases xs;simp_all
theorem C7 {α:Type}(l:List α)(n:Nat):la l n=l[n]? :=by
 induction l generalizing n with
 | nil=>simp[la]
 | cons x l ih=>cases n<;>simp[la,ih]
theorem nN (v:Value):v.cells.toList=JB v:=by cases v<;>rfl
theorem LT (vs:List Value)(v:Value):∀(n:Nat)(l:List Value),KH (n+1) vs (l.set n v)=KH n (v::vs) l
 | 0,[]=>rfl
 | 0,_::_=>rfl
 | _+1,[]=>rfl
 | n+1,c::l=>by
  show c::KH (n+1) vs (l.set n v)=c::KH n (v::vs) l;rw[LT vs v n l]
theorem LU:∀(n:Nat)(l:List Value),KH n [] l=l
 | 0,_=>rfl
 | _+1,[]=>rfl
 | n+1,c::l=>by
  show c::KH n [] l=c::l;rw[LU n l]
theorem LV (off:Nat):∀(vs:List Value)(k:Nat)(l:List Value),
  (vs.zipIdx k).foldl (λcs (p:Value×Nat)=>cs.set (off+p.2) p.1) l=KH (off+k) vs l
 | [],_,_=>(LU _ _).symm
 | v::vs,k,l=>by
  rw[List.zipIdx_cons,tv,LV off vs (k+1)];exact LT vs v (off+k) l
theorem LW (off:Nat)(vs cells:Array Value):
  (vs.zipIdx.foldl (λcs (c,j)=>cs.setIfInBounds (off+j) c) cells).toList=KH off vs.toList cells.toList:=by
 have h:=LV off vs.toList 0 cells.toList;rw[Nat.add_zero] at h;rw[<-Array.foldl_toList,Array.toList_zipIdx,<-h];clear h;generalize vs.toList.zipIdx 0=l;induction l generalizing cells with
 | nil=>rfl
 | cons p l ih=>simp only[tv];rw[ih];simp
theorem C8 (ps:Nat->Option (Nat×Nat)):∀(parts:List (Nat×Value))(cells:Array Value)(out:List Value),qt ps cells.toList parts=some out->Instr.fill ps cells parts=some out.toArray
 | [],cells,out,h=>by
  simp only[qt,Option.some.injEq] at h;subst h;simp[Instr.fill]
 | (i,v)::rest,cells,out,h=>by
  simp only[qt] at h;split at h
  ·rename_i off sz hp;split at h
   ·rename_i h1 h2;have h1:=Vk h1;have h2:=fx h2;have e1:v.cells.size=sz:=by rw[<-h1,<-nN];simp
    have e2:off+v.cells.size<=cells.size:=by rw[e1,<-h1];simpa using h2
    simp only[Instr.fill,hp];rw[if_neg (by simp;omega)];refine C8 ps rest _ out ?_;rw[LW,nN];exact h
   ·cases h
  ·cases h
theorem LX (hg:g.Ok):∀(l:List Field)(m:List (Nat×Nat)),tL g l=some m->
  (l.mapM (m:=Sem) λf=>Prod.mk f.offset <$> sizeOf f.type).run g.P w= .ok m w
 | [],m,h=>by simp only[tL,Option.some.injEq] at h;subst h;simp
 | f::l,m,h=>by
  simp only[tL] at h;split at h
  ·rename_i r m' hr hm;simp only[Option.some.injEq] at h;subst h;obtain⟨_,i,hi,hs,_⟩:=hg.row hr;have ih:=LX hg l m' hm;have hz:(sizeOf f.type).run g.P w= .ok r.sz w:=by simp[sizeOf,typeInfo,hi,hs]
   rw[List.mapM_cons];simp[hz,ih]
  ·cases h
theorem xT {ρ:Operand->Value}(hρ:∀x v,S.ev x=some v->ρ x=v):∀(l:List Operand)(m:List Value),nM S l=some m->l.map ρ=m
 | [],m,h=>by simp only[nM,Option.some.injEq] at h;subst h;rfl
 | x::l,m,h=>by
  simp only[nM] at h;split at h
  ·rename_i v m' hv hm;simp only[Option.some.injEq] at h;subst h;rw[YK,hρ _ _ hv,xT hρ l m' hm]
  ·cases h
theorem C9 {ρ:Operand->Value}(hρ:∀x v,S.ev x=some v->ρ x=v):∀(l:List (Nat×Operand))(m:List (Nat×Value)),qu S l=some m->l.map (λ(i,x)=>(i,ρ x))=m
 | [],m,h=>by simp only[qu,Option.some.injEq] at h;subst h;rfl
 | (i,x)::l,m,h=>by
  simp only[qu] at h;split at h
  ·rename_i v m' hv hm;simp only[Option.some.injEq] at h;subst h;rw[YK,C9 hρ l m' hm];show(i,ρ x)::m'=_;rw[hρ _ _ hv]
  ·cases h
theorem LY {ρ:Operand->Value}(hρ:∀x v,S.ev x=some v->ρ x=v){x:Operand}{n:Int}{d:Int}(h:ja S d (some x)=some n)(y:Nat)(hn:0<=n/\n<=y)(code:BoundsCode):
  (Instr.sliceBound (ρ x) y code).run g.P w= .ok n.toNat w:=by
 unfold ja at h;simp only at h;split at h
 ·rename_i k m hv;simp only[Option.some.injEq] at h;subst h;rw[hρ _ _ hv];simp[Instr.sliceBound,asIntOf,hn]
 ·cases h
theorem aQU {ρ:Operand->Value}(hρ:∀x v,S.ev x=some v->ρ x=v){lo hi:Option Operand}{l h:Int}{n:Nat}(h1:ja S 0 lo=some l)(h2:ja S n hi=some h)(hp:0<=l/\l<=h/\h<=n):
  (Instr.sliceBounds false n n (lo.map ρ) (hi.map ρ) none).run g.P w= .ok (l.toNat,h.toNat,n) w:=by
 have e1:∀x,lo=some x->∀y:Nat,h=(y:Int)->∀code,(Instr.sliceBound (ρ x) y code).run g.P w= .ok l.toNat w:=λx hx y hy code=>
  LY hρ (d:=0) (by rw[<-hx];exact h1) y ⟨hp.1,by omega⟩ code
 have e2:∀x,hi=some x->∀code,(Instr.sliceBound (ρ x) n code).run g.P w= .ok h.toNat w:=λx hx code=>
  LY hρ (d:=n) (by rw[<-hx];exact h2) n ⟨by omega,hp.2.2⟩ code
 have hn:h=((h.toNat:Nat):Int):=by omega
 cases lo with
 | none=>
  have:l=0:=by simpa [ja] using h1.symm
  subst this;cases hi with
  | none=>
   have:h=n:=by simpa [ja] using h2.symm
   subst this;simp[Instr.sliceBounds]
  | some y=>simp[Instr.sliceBounds,e2 y rfl]
 | some x=>
  cases hi with
  | none=>
   have:h=n:=by simpa [ja] using h2.symm
   subst this;simp[Instr.sliceBounds,e1 x rfl n rfl]
  | some y=>simp[Instr.sliceBounds,e2 y rfl,e1 x rfl _ hn]
theorem aQV (hg:g.Ok)(hρ:∀x v,S.ev x=some v->ρ x=v)(o:Oper):
  (qv g S o.op).Means w ((execOp ρ o).run g.P w):=by
 obtain⟨dst,op,ty,pos,aft,gd⟩:=o;simp only;have kC:∀t e,S.ent t=some e->ρ (.tmp t)=e.val:=λt e h=>hρ _ _ (by
  simp only[Env.ev,Env.get];rw[h];cases e<;>rfl)
 unfold qv;split
 ·have:=hρ (.const (.bool true)) _ rfl;simp[PR.Means,execOp,this,Ent.val]
 ·have:=hρ (.const (.bool true)) _ rfl;simp[PR.Means,execOp,this,Ent.val]
 ·have:=hρ (.const (.bool false)) _ rfl;simp[PR.Means,execOp,this,Ent.val]
 ·have:=hρ (.const (.bool false)) _ rfl;simp[PR.Means,execOp,this,Ent.val]
 ·split
  ·rename_i e h;simp[PR.Means,execOp,kC _ _ h]
  ·trivial
 ·split
  ·rename_i e h;simp[PR.Means,execOp,kC _ _ h]
  ·trivial
 ·split
  ·rename_i e h;simp[PR.Means,execOp,hρ _ _ h]
  ·trivial
 ·split
  ·rename_i e h;simp[PR.Means,execOp,hρ _ _ h]
  ·trivial
 ·rename_i t a b;split
  ·rename_i h;have h1:=kC _ _ h;split
   ·have:=hρ (.const (.bool true)) _ rfl;simp[PR.Means,execOp,h1,this,Ent.val,asBool]
   ·have:=hρ (.const (.bool false)) _ rfl;simp[PR.Means,execOp,h1,this,Ent.val,asBool]
   ·split
    ·rename_i h2;simp[PR.Means,execOp,h1,kC _ _ h2,Ent.val,asBool]
    ·trivial
   ·split
    ·rename_i h2;simp[PR.Means,execOp,h1,hρ _ _ h2,Ent.val,asBool]
    ·trivial
  ·rename_i h;have h1:=kC _ _ h;split
   ·have:=hρ (.const (.bool true)) _ rfl;simp[PR.Means,execOp,h1,this,Ent.val,asBool]
   ·have:=hρ (.const (.bool false)) _ rfl;simp[PR.Means,execOp,h1,this,Ent.val,asBool]
   ·split
    ·rename_i h2;simp[PR.Means,execOp,h1,kC _ _ h2,Ent.val,asBool]
    ·trivial
   ·split
    ·rename_i h2;simp[PR.Means,execOp,h1,hρ _ _ h2,Ent.val,asBool]
    ·trivial
  ·trivial
 ·split
  ·rename_i hx hy;have:=aQL (g:=g) (w:=w);simp only[execOp,hρ _ _ hx,hρ _ _ hy,eqGuard];split<;>simpa using this _ _ _ _ _ _
  ·rename_i hx hy;have:=aQM (g:=g) (w:=w);simp only[execOp,hρ _ _ hx,hρ _ _ hy,eqGuard];split<;>simpa using this _ _ _ _
  ·rename_i op t x y _ _ _ a b hx hy;cases hr:nH g.eqs t with
   | none=>trivial
   | some r=>
    have:=aQS (w:=w) hg op hr x y a b;simp only[execOp,hρ _ _ hx,hρ _ _ hy];simpa using this
  ·rename_i op t x y _ _ _ a b _ _ _ hx hy;cases hr:QR g.tys t with
   | none=>trivial
   | some r=>
    have:=aQQ (w:=w) hg op hr a b;generalize ho:gX r.d a b=o at this;simp only[ho];cases o with
    | none=>unfold nK;split<;>first | trivial | (rename_i hn;cases hn)
    | some q=>
     simp only[execOp,hρ _ _ hx,hρ _ _ hy,aQP op t x y ho];simpa using this
  ·trivial
 ·split
  ·rename_i h;simp[PR.Means,execOp,kC _ _ h,Ent.val,Op.unary]
  ·rename_i h;simp[PR.Means,execOp,kC _ _ h,Ent.val,Op.unary]
  ·rename_i h;simp[PR.Means,execOp,kC _ _ h,Ent.val,Op.unary]
  ·trivial
 ·split
  ·rename_i h;simp[PR.Means,execOp,hρ _ _ h,Op.unary,Op.intArith]
  ·trivial
 ·split
  ·rename_i hs ht hx;simp only[PR.Means,execOp,hρ _ _ hx,convert];simp[Yu hg hs,Yu hg ht,Conv.intToInt]
  ·rename_i hs ht hx;simp only[PR.Means,execOp,hρ _ _ hx,convert];simp[Yu hg hs,Yu hg ht]
  ·trivial
 ·split
  ·rename_i vs hx;split
   ·rename_i v hv;rw[LK,Array.getElem?_toList] at hv;simp[PR.Means,execOp,hρ _ _ hx,Instr.extract,hv]
   ·trivial
  ·trivial
 ·split
  ·rename_i x t hxs fd;have h1:=LP hxs;have h2:=LP fd;subst h1 h2;split
   ·rename_i r v hr hv;have:=aQN (w:=w) hg hr ty v;simpa [execOp,resolve,invoke,builtin,hρ _ _ hv] using this
   ·trivial
  ·trivial
 ·split
  ·rename_i x y hxs;have h1:=LQ hxs;subst h1;split
   ·rename_i hx hy;simp[PR.Means,execOp,resolve,invoke,builtin,hρ _ _ hx,hρ _ _ hy,Builtin.min_,Builtin.min2]
   ·trivial
  ·rename_i x y z hxs;have h1:=aQT hxs;subst h1;split
   ·rename_i hx hy hz;simp[PR.Means,execOp,resolve,invoke,builtin,hρ _ _ hx,hρ _ _ hy,hρ _ _ hz,Builtin.min_,Builtin.min2]
   ·trivial
  ·trivial
 ·split
  ·rename_i x y hxs;have h1:=LQ hxs;subst h1;split
   ·rename_i hx hy;simp[PR.Means,execOp,resolve,invoke,builtin,hρ _ _ hx,hρ _ _ hy,Builtin.max_,Builtin.max2]
   ·trivial
  ·trivial
 ·split
  ·rename_i h;simp[PR.Means,execOp,hρ _ _ h]
  ·rename_i h;simp[PR.Means,execOp,hρ _ _ h]
  ·rename_i h;simp[PR.Means,execOp,hρ _ _ h]
  ·trivial
 ·rename_i t x k;split
  ·rename_i hr hx;split
   ·rename_i fs hd;split
    ·rename_i f hf;split
     ·rename_i rf BR;split
      ·rename_i hz;have hu:=Yu hg hr w;rw[hd] at hu;obtain⟨_,i,hi,hs,_⟩:=hg.row BR;have Wl:i.size≠0:=by rw[hs];exact Nat.ne_of_beq_eq_false hz
       rw[C7] at hf;have QW:fs[k]? =some f:=by simpa using hf
       simp[PR.Means,execOp,hρ _ _ hx,Instr.fieldAt,hu,QW,Instr.sureAddr,fieldPlace,sizeOf,typeInfo,hi,Wl]
      ·trivial
     ·trivial
    ·trivial
   ·trivial
  ·trivial
 ·rename_i t x k;split
  ·rename_i cs hr hx;split
   ·rename_i fs hd;split
    ·rename_i f hf;have hu:=Yu hg hr w;rw[hd] at hu;rw[C7] at hf;have QW:fs[k]? =some f:=by simpa using hf
     split
     ·rename_i rf BR;have zM:=Yu hg BR w;obtain⟨_,i,hi,hs,_⟩:=hg.row BR;have ha:(isAgg f.type).run g.P w= .ok (nL rf.d) w:=by
       simp only[isAgg,Sem.run_bind,zM,Result.andThen_ok];cases rf.d<;>rfl
      split
      ·rename_i H4;simp[PR.Means,execOp,hρ _ _ hx,Instr.field,hu,QW,asAgg,part,ha,H4,sizeOf,typeInfo,hi,hs];apply Array.ext';simp[List.take_drop]
      ·rename_i H4;split
       ·rename_i v hv;rw[LK] at hv;have hv':cs[f.offset]? =some v:=by simpa using hv
        simp[PR.Means,execOp,hρ _ _ hx,Instr.field,hu,QW,asAgg,part,ha,H4,hv']
       ·trivial
     ·trivial
    ·trivial
   ·trivial
  ·trivial
 ·rename_i t parts;split
  ·rename_i r ps hr aV;have bO:=C9 hρ _ _ aV;have hu:=Yu hg hr w;obtain⟨_,i,hi,hs,hb,hz⟩:=hg.row hr;have aQg:(parts.map λ(x:Nat×Operand)=>(x.1,ρ x.2)).toList=ps:=by rw[Lj];exact bO
   split
   ·rename_i fs hd;rw[hd] at hu;split
    ·rename_i pl Je;have XW:=LX (w:=w) hg _ _ Je;split
     ·rename_i cs Kk;have sW:=C8 _ _ _ _ Kk;have wz:(fs.mapM (m:=Sem) λf=>Prod.mk f.offset <$> sizeOf f.type).run g.P w= .ok pl.toArray w:=by
       rw[Array.mapM_eq_mapM_toList];simp[XW]
      have BT:(λi=>pl[i]?)=la pl:=by funext i;rw[C7]
      have H5:Instr.fill (λi=>pl[i]?) r.z.cells (parts.toList.map λ(x:Nat×Operand)=>(x.1,ρ x.2))=some cs.toArray:=by
       rw[BT];rw[show(parts.toList.map λ(x:Nat×Operand)=>(x.1,ρ x.2))=ps from bO];exact sW
      simp only[PR.Means,execOp,Instr.build,zeroValue,typeInfo];simp[hi,hz,hu,wz,H5]
     ·trivial
    ·trivial
   ·rename_i n e hd;rw[hd] at hu;split
    ·rename_i re X2;obtain⟨_,i2,hi2,jW,_⟩:=hg.row X2;split
     ·rename_i cs Kk;have sW:=C8 _ _ _ _ Kk;have H5:Instr.fill (λi=>some (i*re.sz,re.sz)) r.z.cells (parts.toList.map λ(x:Nat×Operand)=>(x.1,ρ x.2))=some cs.toArray:=by
       rw[show(parts.toList.map λ(x:Nat×Operand)=>(x.1,ρ x.2))=ps from bO];exact sW
      simp only[PR.Means,execOp,Instr.build,zeroValue,typeInfo,sizeOf];simp[hi,hz,hu,hi2,jW,H5]
     ·trivial
    ·trivial
   ·trivial
  ·trivial
 ·split
  ·rename_i r v hr hx;split
   ·rename_i hd;have hu:=Yu hg hr w;simp only[PR.Means,execOp,hρ _ _ hx,Instr.makeInterface];simp only[Sem.run_bind,hu,Result.andThen_ok];cases hk:r.d<;>rw[hk] at hd<;>first | (simp[LM] at hd;done) | simp
   ·trivial
  ·trivial
 ·rename_i f xs ys;split
  ·rename_i a b ha hb;have e1:=xT hρ _ _ ha;have e2:=xT hρ _ _ hb;have e1':xs.map ρ=a.toArray:=by apply Array.ext';simpa using e1
   have uV:ys.map ρ=b.toArray:=by apply Array.ext';simpa using e2
   simp[PR.Means,execOp,Instr.makeFunc,e1',uV]
  ·trivial
 ·split
  ·rename_i hr hx;split
   ·rename_i l h hl hh;intro hp;have hb:=aQU (g:=g) (w:=w) hρ hl hh hp;have hu:=Yu hg hr w;simp only[execOp,hρ _ _ hx,Instr.sliceAt,Instr.slice];simp[hu,hb]
   ·trivial
  ·trivial
 ·trivial
end
def Xf (c:Cx)(S:Env)(dst:Option Tmp)(e:Ent)(K:Env->Prop):Prop:=
 match dst with
 | none=>K S
 | some d=>match Nat.blt d c.N.n with
  | true=>K ((d,e)::S)
  | false=>False
def eC:List Value->List Value->(List Value->Prop)->Prop
 | [],QO,K=>K QO
 | x::l,QO,K=>eC l (x::QO) K
def nP (S:Env):List Operand->List Value->(List Value->Prop)->Prop
 | [],QO,K=>K QO
 | x::xs,QO,K=>match S.ev x with
  | some v=>nP S xs (v::QO) K
  | none=>False
def jb (t:Nat):Env->Bool
 | []=>false
 | (k,_)::S=>match Nat.beq k t with
  | true=>true
  | false=>jb t S
def xU (c:Cx)(t:Nat):Bool:=match Nat.blt t c.named with
 | true=>true
 | false=>eA t c.keep
def Y2 (p:Nat->Bool):Env->Env->(Env->Prop)->Prop
 | [],QO,K=>K QO
 | (t,x)::S,QO,K=>match p t with
  | true=>(match jb t QO with
   | true=>Y2 p S QO K
   | false=>Y2 p S ((t,x)::QO) K)
  | false=>Y2 p S QO K
def Jo:Value->Bool
 | .agg _=>false
 | .tuple _=>false
 | _=>true
def Da (c:Cx)(o:Oper)(S:Env)(w:World)(K:Env->World->Prop)(Q:Zd):Prop:=
 match o.op with
 | .load t x=>(match QR c.g.tys t,S.ev x with
  | some r,some (.pointer (some p))=>(match nL r.d with
   | false=>fC w p (λv=>Xf c S o.dst (.v v) (λS=>K S w))
   | true=>i6 w p r.sz (λvs=>Xf c S o.dst (.v (.agg vs.toArray)) (λS=>K S w)))
  | _,_=>X3 c o S w K Q)
 | .store t x y=>(match QR c.g.tys t,S.ev x,S.ev y with
  | some r,some (.pointer (some p)),some v=>(match Jo v,Nat.beq r.sz 1,o.dst with
   | true,true,none=>fD w p v (λw=>K S w)
   | false,_,none=>(match v with
    | .agg cs=>(match Nat.beq cs.toList.length r.sz with
     | true=>i7 c.g.P w p cs.toList (λw=>K S w)
     | false=>X3 c o S w K Q)
    | _=>X3 c o S w K Q)
   | _,_,_=>X3 c o S w K Q)
  | _,_,_=>X3 c o S w K Q)
 | .alloc e=>(match QR c.g.tys e with
  | some r=>nI w e (JB r.z) (λp w=>Xf c S o.dst (.v (.pointer (some p))) (λS=>K S w))
  | none=>X3 c o S w K Q)
 | .box e x=>(match S.ev x with
  | some v=>nI w e (JB v) (λp w=>Xf c S o.dst (.v (.pointer (some p))) (λS=>K S w))
  | none=>X3 c o S w K Q)
 | .indexAddr t x i=>(match QR c.g.tys t,S.ev x,S.ev i with
  | some ⟨_,.slice e,_,_,_⟩,some (.slice b n _),some (.int _ i)=>(match QR c.g.tys e with
   | some r=>YM b n i r.sz (λp=>Xf c S o.dst (.v (.pointer (some p))) (λS=>K S w))
   | none=>X3 c o S w K Q)
  | some ⟨_,.array n e,_,_,_⟩,some (.pointer (some p)),some (.int _ i)=>(match QR c.g.tys e with
   | some r=>YM (some p) n i r.sz (λp=>Xf c S o.dst (.v (.pointer (some p))) (λS=>K S w))
   | none=>X3 c o S w K Q)
  | _,_,_=>X3 c o S w K Q)
 | .index t x i=>(match QR c.g.tys t,S.ev x,S.ev i with
  | some ⟨_,.string,_,_,_⟩,some (.string s),some (.int _ i)=>dk s i (λb=>Xf c S o.dst (.v (.int .u8 b)) (λS=>K S w))
  | _,_,_=>X3 c o S w K Q)
 | .call ⟨.value f,xs,_⟩=>(match S.ev f with
  | some (.func (.func n) first cap)=>(match eA n c.g.fns with
   | true=>eC first.toList [] (λQO=>nP S xs.toList QO (λQO=>eC cap.toList QO (λQO=>eC QO [] (λl=>
     fE c.g.P n l w (λv w=>Xf c S o.dst (.v v) (λS=>K S w)) (λch w=>Q (.panic ch) S w)))))
   | false=>X3 c o S w K Q)
  | _=>X3 c o S w K Q)
 | .call ⟨.invoke x nm,xs,_⟩=>(match S.ev x with
  | some (.iface t v)=>nP S xs.toList [v] (λQO=>eC QO [] (λl=>
    LJ c nm t l w (λv w=>Xf c S o.dst (.v v) (λS=>K S w)) (λch w=>Q (.panic ch) S w)))
  | _=>X3 c o S w K Q)
 | _=>X3 c o S w K Q
def dm (c:Cx)(o:Oper)(S:Env)(w:World)(K:Env->World->Prop)(Q:Zd):Prop:=
 match qv c.g S o.op with
 | .val v=>Xf c S o.dst (.v v) (λS=>K S w)
 | .ent e=>Xf c S o.dst e (λS=>K S w)
 | .norm k n=>az n (λm=>Xf c S o.dst (.v (.int k m)) (λS=>K S w))
 | .normIf p k n=>eB p n (λm=>Xf c S o.dst (.v (.int k m)) (λS=>K S w))
 | .need p v=>gW p v (λv=>Xf c S o.dst (.v v) (λS=>K S w))
 | .no=>Da c o S w K Q
def Vm:List Oper->Nat->Option Oper
 | [],_=>none
 | x::_,0=>some x
 | _::l,n+1=>Vm l n
def Yf (c:Cx)(all:List Oper):List Oper->Env->World->(Env->World->Prop)->Zd->Prop
 | [],S,w,K,_=>Y2 (xU c) S [] (λS=>K S w)
 | o::rest,S,w,K,Q=>match o.guard with
  | none=>dm c o S w (λS w=>Yf c all rest S w K Q) Q
  | some (
      j,want)=>match Vm all j with
   | some oj=>(match oj.dst with
    | some d=>(match S.ent d with
     | some .t=>(match want with
      | true=>dm c o S w (λS w=>Yf c all rest S w K Q) Q
      | false=>Xf c S o.dst (.v undef) (λS=>Yf c all rest S w K Q))
     | some .f=>(match want with
      | false=>dm c o S w (λS w=>Yf c all rest S w K Q) Q
      | true=>Xf c S o.dst (.v undef) (λS=>Yf c all rest S w K Q))
     | some (.v (.bool b))=>(match want with
      | true=>Kp b (dm c o ((d,.t)::S) w (λS w=>Yf c all rest S w K Q) Q) (Xf c ((d,.f)::S) o.dst (.v undef) (λS=>Yf c all rest S w K Q))
      | false=>Kp b (Xf c ((d,.t)::S) o.dst (.v undef) (λS=>Yf c all rest S w K Q)) (dm c o ((d,.f)::S) w (λS w=>Yf c all rest S w K Q) Q))
     | some (.v (.tuple _))=>Xf c S o.dst (.v undef) (λS=>Yf c all rest S w K Q)
     | _=>False)
    | none=>False)
   | none=>False
def xV:Code->Nat
 | .region id _ _=>id
 | .seq x _=>xV x
 | .block _ x=>xV x
 | .loop x=>xV x
 | _=>1000000
def aQW (c:Cx):Code->Bool
 | .region _ _ _=>false
 | x=>eA (xV x) c.cuts
def KQ (c:Cx):Code->Env->World->Zd->Prop
 | .skip,S,w,Q=>Q .normal S w
 | .label _,S,w,Q=>Q .normal S w
 | .region id ops tR,S,w,Q=>(match tR with
  | false=>Yf c ops.toList ops.toList S w (λS w=>Q .normal S w) Q
  | true=>Wv c id ops.toList S w Q)
 | .seq x y,S,w,Q=>(match aQW c x with
  | true=>i9 c (.seq x y) S w Q
  | false=>KQ c x S w (λe S w=>match e with
   | .normal=>KQ c y S w Q
   | e=>Q e S w))
 | .cond b x y,S,w,Q=>(match b with
  | .tmp t=>(match S.ent t with
   | some .t=>KQ c x S w Q
   | some .f=>KQ c y S w Q
   | some (.v (.bool b))=>Kp b (KQ c x ((t,.t)::S) w Q) (KQ c y ((t,.f)::S) w Q)
   | _=>False)
  | .const (.bool true)=>KQ c x S w Q
  | .const (.bool false)=>KQ c y S w Q
  | _=>False)
 | .block id x,S,w,Q=>KQ c x S w (λe S w=>match e with
  | .exit i=>(match Nat.beq i id with
   | true=>Q .normal S w
   | false=>Q (.exit i) S w)
  | e=>Q e S w)
 | .loop x,S,w,Q=>xS c x S w Q
 | .exit id,S,w,Q=>Q (.exit id) S w
 | .ret,S,w,Q=>Q .ret S w
 | x,S,w,Q=>i9 c x S w Q
section
variable {c:Cx} {a:Act} {S:Env} {w:World} {K:Env->World->Prop} {Q:Zd}
theorem Zp {dst:Option Tmp}{e:Ent}{K:Env->Prop}(h:Xf c S dst e K)(hf:Fits c.N S a):
  ∃S',Fits c.N S' (a.put dst e.val)/\K S':=by
 unfold Xf at h;split at h
 ·exact⟨S,by simpa [Act.put] using hf,h⟩
 ·rename_i d;split at h
  ·rename_i hd;exact⟨_,hf.put (by rw[iZ] at hd;exact hd) e,h⟩
  ·exact h.elim
theorem ld (l QO:List Value)(K:List Value->Prop):eC l QO K=K (l.reverse++QO):=by
 induction l generalizing QO with
 | nil=>simp[eC]
 | cons x l ih=>simp[eC,ih]
theorem Db {xs:List Operand}{QO:List Value}{K:List Value->Prop}(h:nP S xs QO K)(hf:Fits c.N S a):
  K ((xs.map a.eval).reverse++QO):=by
 induction xs generalizing QO with
 | nil=>simpa [nP] using h
 | cons x xs ih=>
  simp only[nP] at h;split at h
  ·rename_i v hv;have:=ih h;simp only[YK,List.reverse_cons,KO,List.singleton_append];rw[hf.ev hv];exact this
  ·exact h.elim
theorem LZ {t:Nat}{S:Env}(h:jb t S=false):S.ent t=none:=by
 induction S with
 | nil=>rfl
 | cons p S ih=>
  obtain⟨k,x⟩:=p;simp only[jb] at h;split at h
  ·cases h
  ·rename_i hb;simp[Env.ent,hb,ih h]
theorem aQX {t:Nat}{S:Env}(h:jb t S=true):∃x,S.ent t=some x:=by
 induction S with
 | nil=>cases h
 | cons p S ih=>
  obtain⟨k,x⟩:=p;simp only[jb] at h;split at h
  ·rename_i hb;exact⟨x,by simp[Env.ent,hb]⟩
  ·rename_i hb;simp[Env.ent,hb,ih h]
theorem xW (S T:Env)(k:Nat):Env.ent (S++T) k=(S.ent k).or (Env.ent T k):=by
 induction S with
 | nil=>simp[Env.ent]
 | cons p S ih=>
  obtain⟨t,x⟩:=p;simp only[Yd,Env.ent];split<;>simp[ih]
theorem tN {p:Nat->Bool}{N:Slots}{a:Act}(h1:a.tmps.size=N.n)(h2:a.defers=N.ds){K:Env->Prop}:∀(T QO:Env),(∀k x,QO.ent k=some x->p k=true)->
  (∀k x,p k=true->Env.ent (QO++T) k=some x->a.tmps[k]? =some x.val)->Y2 p T QO K->∃S',Fits N S' a/\K S'
 | [],QO,hp,hh,h=>⟨QO,⟨h1,h2,λk x hk=>hh k x (hp k x hk) (by simpa using hk)⟩,h⟩
 | (t,x)::T,QO,hp,hh,h=>by
  simp only[Y2] at h;split at h
  ·rename_i Wm;split at h
   ·rename_i hk;refine tN h1 h2 T QO hp (λk y iL hy=>hh k y iL ?_) h;rw[xW] at hy ⊢;cases hb:Nat.beq t k with
    | true=>
     have:=Vk hb;subst this;obtain⟨z,hz⟩:=aQX hk;simp only[hz,Option.some_or] at hy ⊢;exact hy
    | false=>simpa [Env.ent,hb] using hy
   ·rename_i hk;refine tN h1 h2 T ((t,x)::QO) (λk y hy=>?_) (λk y iL hy=>hh k y iL ?_) h
    ·simp only[Env.ent] at hy;split at hy
     ·rename_i hb;rw[<-Vk hb];exact Wm
     ·exact hp k y hy
    ·rw[Yd] at hy;simp only[Env.ent] at hy;rw[xW];split at hy
     ·rename_i hb;have:=Vk hb;subst this;rw[LZ hk];simpa [Env.ent] using hy
     ·rename_i hb;rw[xW] at hy;simpa [Env.ent,hb] using hy
  ·rename_i Wm;refine tN h1 h2 T QO hp (λk y iL hy=>hh k y iL ?_) h;rw[xW] at hy ⊢;have hb:Nat.beq t k=false:=by
    cases hb:Nat.beq t k with
    | false=>rfl
    | true=>have:=Vk hb;subst this;rw[iL] at Wm;cases Wm
   simpa [Env.ent,hb] using hy
abbrev jd (c:Cx)(K:Env->World->Prop):Act->World->Prop:=λa' w'=>∃S',Fits c.N S' a'/\K S' w'
theorem aA {o:Oper}{v:Value}{w':World}{N:Act->World->Prop}{Q':Exit->Act->World->Prop}
  (hr:(execOp a.eval o).run c.g.P w= .ok (.value v) w') (h:N (a.put o.dst v) w'):o.wp c.g.P a w N Q':=by
 unfold Oper.wp;rw[hr];exact h
theorem bg (hg:c.g.Ok){o:Oper}(hf:Fits c.N S a){r:PR}(hr:qv c.g S o.op=r):r.Means w ((execOp a.eval o).run c.g.P w):=by
 rw[<-hr];exact aQV hg (λx v h=>hf.ev h) o
theorem aQY {P:Program}(t:TypeId)(i:TypeInfo)(hi:P.info? t=some i)(hs:i.size=1)(p:Addr)(v:Value)(hv:Jo v=true)(w:World):
  (storeVar t p v).run P w=(store p v).run P w:=by
 have hc:v.cells= #[v]:=by cases v<;>first | rfl | (simp[Jo] at hv)
 simp[storeVar,hc,sizeOf,typeInfo,hi,hs,storeCells,Addr.add]
theorem lf (hg:c.g.Ok){t:Nat}{r:TyRow}(hr:QR c.g.tys t=some r)(w:World):(isAgg t).run c.g.P w= .ok (nL r.d) w:=by
 simp only[isAgg,Sem.run_bind,Yu hg hr,Result.andThen_ok];cases r.d<;>rfl
theorem run_sizeOf (hg:c.g.Ok){t:Nat}{r:TyRow}(hr:QR c.g.tys t=some r)(w:World):(sizeOf t).run c.g.P w= .ok r.sz w:=by
 obtain⟨_,i,hi,hs,_⟩:=hg.row hr;simp[sizeOf,typeInfo,hi,hs]
theorem xX {P:Program}{n:Nat}(hc:xM P n)(args:Array Value)(w:World):(callFunc n args).run P w= .ok (.enter n args) w:=by
 obtain⟨fn,h1,h2,h3⟩:=hc;have Z6:fn.body≠none:=λe=>by simp[e] at h2
 have lV:fn.name≠ "runtime.NumGoroutine" :=by simpa using h3
 simp[callFunc,h1,Z6,lV]
theorem aQZ (hg:c.g.Ok){t:Nat}{r:MRow}(hr:tJ c.g.ms t=some r)(v:Value)(n:Nat)(w:World):(method (n+1) t v r.name).run c.g.P w= .ok (r.f,v) w:=by
 obtain⟨⟨h1,h2⟩,rfl⟩:=aQI hr hg.ms;cases hi:c.g.P.info? r.t with
 | none=>simp[hi] at h1
 | some i=>
  cases hm:i.methods.find? (λm=>m.name==r.name)with
  | none=>simp[hi,hm] at h1
  | some m=>
   simp[hi,hm] at h1;cases hu:c.g.P.underlying r.t with
   | none=>simp[hu] at h2
   | some d=>
    simp[hu] at h2;have hp:m.path.toList=[]:=by rw[h1.1]
    cases hb:r.ptr with
    | false=>
     rw[hb] at h1 h2;have hx:(receiverAt r.t (.val v) false (if m.path.isEmpty=true then some ((r.name.splitOn ".").getLastD r.name)else none)).run c.g.P w= .ok v w:=by
      unfold receiverAt;rw[Sem.run_bind,ZI hu];cases d<;>first | (simp[C1] at h2;done) | simp[Place.get]
     unfold method;simp only[typeInfo,Sem.run_bind,run_program,Result.andThen_ok,hi,Sem.run_pure,hm,hp,follow,h1.2];simp only[hx,Result.andThen_ok]
    | true=>
     rw[hb] at h1 h2;have hx:(receiverAt r.t (.val v) true (if m.path.isEmpty=true then some ((r.name.splitOn ".").getLastD r.name)else none)).run c.g.P w= .ok v w:=by
      unfold receiverAt;rw[Sem.run_bind,ZI hu];cases d<;>first | (simp[C1] at h2;done) | simp[Place.get]
     unfold method;simp only[typeInfo,Sem.run_bind,run_program,Result.andThen_ok,hi,Sem.run_pure,hm,hp,follow,h1.2];simp only[hx,Result.andThen_ok]
theorem aQ0 (hg:c.g.Ok){o:Oper}(h:Da c o S w K Q)(hf:Fits c.N S a):o.wp c.g.P a w (jd c K) (Up c Q):=by
 have Kl:X3 c o S w K Q->o.wp c.g.P a w (jd c K) (Up c Q):=λh=>by unfold X3 at h;exact h a hf
 obtain⟨dst,op,ty,pos,aft,gd⟩:=o;unfold Da at h;split at h
 ·rename_i t x Jf;simp only at Jf;subst Jf;split at h
  ·rename_i r p hr hx;split at h
   ·rename_i hd;unfold fC at h;obtain⟨v,hv,hk⟩:=h;refine aA (v:=v) (w':=w) ?_ (Zp (e:=.v v) hk hf);have:=hf.ev hx;simp[execOp,this,Instr.loadAt,Instr.sureAddr,loadVar,lf hg hr,hd,load,Sem.run,hv]
   ·rename_i hd;unfold i6 at h;obtain⟨vs,hl,hv,hk⟩:=h;refine aA (v:=.agg vs.toArray) (w':=w) ?_ (Zp (e:=.v (.agg vs.toArray)) hk hf);have:=hf.ev hx;have h2:=run_loadCells_list (P:=c.g.P) (w:=w) p vs hv;rw[hl] at h2;simp[execOp,this,Instr.loadAt,Instr.sureAddr,loadVar,lf hg hr,hd,run_sizeOf hg hr,h2]
  ·exact Kl h
 ·rename_i t x y Jf;simp only at Jf;subst Jf;split at h
  ·rename_i r p v hr hx hy;split at h
   ·rename_i hs h1 hd;unfold fD at h;obtain⟨⟨u,hu⟩,kD,hk⟩:=h;obtain⟨_,i,hi,XW,_⟩:=hg.row hr;have e1:=hf.ev hx;have e2:=hf.ev hy;have rU:i.size=1:=by rw[XW];exact Vk h1
    have mN:=aQY t i hi rU p v hs w;simp only at hd;subst hd;unfold Oper.wp;have:(execOp a.eval {dst:=none,op:=.store t x y,type:=ty,pos:=pos,after:=aft,guard:=gd}).run c.g.P w= .ok .skip (w.setCell p v):=by
     simp[execOp,e1,e2,Instr.storeAt,Instr.sureAddr,mN,store];cases v<;>first | (simp[Jo] at hs;done) | simp[Sem.run,hu,kD]
    rw[this];exact⟨S,by simpa [Act.put] using hf,hk⟩
   ·rename_i hs hd;split at h
    ·rename_i cs;split at h
     ·rename_i hn;unfold i7 at h;obtain⟨w',Z1,hk⟩:=h;have hn:=Vk hn;have e1:=hf.ev hx;have e2:=hf.ev hy;simp only at hd;subst hd;unfold Oper.wp;have:(execOp a.eval {dst:=none,op:=.store t x y,type:=ty,pos:=pos,after:=aft,guard:=gd}).run c.g.P w= .ok .skip w':=by
       simp only[execOp,e1,e2,Instr.storeAt,Instr.sureAddr,storeVar,Value.cells];simp only[Sem.run_bind,Sem.run_pure,run_sizeOf hg hr,Result.andThen_ok];rw[if_neg (by simpa using hn)];simp[Z1]
      rw[this];exact⟨S,by simpa [Act.put] using hf,hk⟩
     ·exact Kl h
    ·exact Kl h
   ·exact Kl h
  ·exact Kl h
 ·rename_i e Jf;simp only at Jf;subst Jf;split at h
  ·rename_i r hr;obtain⟨_,i,hi,_,_,hz⟩:=hg.row hr;unfold nI at h;refine aA (v:=.pointer (some ⟨w.heap.size,0,none⟩)) (w':=w.alloc (.cells (JB r.z).toArray e)) ?_ (Zp (e:=.v _) h hf);have hc:r.z.cells=(JB r.z).toArray:=by rw[<-nN]
   simp[execOp,Instr.alloc,zeroValue,typeInfo,hi,hz,newVar,newRow,hc]
  ·exact Kl h
 ·rename_i e x Jf;simp only at Jf;subst Jf;split at h
  ·rename_i v hx;unfold nI at h;have e1:=hf.ev hx;refine aA (v:=.pointer (some ⟨w.heap.size,0,none⟩)) (w':=w.alloc (.cells (JB v).toArray e)) ?_ (Zp (e:=.v _) h hf);have hc:v.cells=(JB v).toArray:=by rw[<-nN]
   simp[execOp,e1,Instr.box,newVar,newRow,hc]
  ·exact Kl h
 ·rename_i t x ix Jf;simp only at Jf;subst Jf;split at h
  ·rename_i e b n k i hr hx hi;split at h
   ·rename_i r X2;unfold YM at h;obtain⟨p,rfl,h0,h1,hk⟩:=h;refine aA (v:=.pointer (some (p.add (i.toNat*r.sz)))) (w':=w) ?_ (Zp (e:=.v _) hk hf);have e1:=hf.ev hx;have e2:=hf.ev hi;simp[execOp,e1,e2,Instr.indexAt,asIntOf,Yu hg hr,run_sizeOf hg X2,h0,h1]
   ·exact Kl h
  ·rename_i n e p k i hr hx hi;split at h
   ·rename_i r X2;unfold YM at h;obtain⟨p',hp,h0,h1,hk⟩:=h;cases hp;refine aA (v:=.pointer (some (p.add (i.toNat*r.sz)))) (w':=w) ?_ (Zp (e:=.v _) hk hf);have e1:=hf.ev hx;have e2:=hf.ev hi;simp[execOp,e1,e2,Instr.indexAt,Instr.sureAddr,asIntOf,Yu hg hr,run_sizeOf hg X2,h0,h1]
   ·exact Kl h
  ·exact Kl h
 ·rename_i t x ix Jf;simp only at Jf;subst Jf;split at h
  ·rename_i s k i hr hx hi;unfold dk at h;obtain⟨b,h0,h1,hk⟩:=h;refine aA (v:=.int .u8 b.toNat) (w':=w) ?_ (Zp (e:=.v _) hk hf);have e1:=hf.ev hx;have e2:=hf.ev hi;simp[execOp,e1,e2,Instr.index,asIntOf,Yu hg hr,h0,h1]
  ·exact Kl h
 ·rename_i f xs ts Jf;simp only at Jf;subst Jf;split at h
  ·rename_i n first cap hv;split at h
   ·rename_i hm;have hc:=hg.fns n (xR hm);rw[ld] at h;have h2:=Db h hf;rw[ld,ld] at h2;simp only[YL,List.reverse_append,List.reverse_reverse,KO] at h2;unfold fE at h2;have e1:=hf.ev hv;unfold Oper.wp;have:(execOp a.eval {dst:=dst,op:=.call ⟨.value f,xs,ts⟩,type:=ty,pos:=pos,after:=aft,guard:=gd}).run c.g.P w=
      .ok (.enter n (first.toList++(List.map a.eval xs.toList++cap.toList)).toArray) w:=by
     simp[execOp,resolve,e1,Deferred.ofValue,invoke,xX hc]
    rw[this];unfold Oper.upon;refine h2.mono λe w' he=>?_
    cases e with
    | returned v=>exact Zp (e:=.v v) he hf
    | panicked ch=>exact⟨S,hf,he⟩
    | outgrown=>exact he.elim
   ·exact Kl h
  ·exact Kl h
 ·rename_i x nm xs ts Jf;simp only at Jf;subst Jf;split at h
  ·rename_i t v hv
   ·have h2:=Db h hf;rw[ld] at h2;simp only[YL,List.reverse_append,List.reverse_reverse,List.reverse_cons,List.reverse_nil,ep] at h2;unfold LJ at h2;obtain⟨r,hr,rfl,hm,h2⟩:=h2
    ·have hc:=hg.fns r.f (xR hm);unfold fE at h2;have e1:=hf.ev hv;unfold Oper.wp;have pK:=aQZ hg hr v (c.g.P.types.size+99) w;have:(execOp a.eval {dst:=dst,op:=.call ⟨.invoke x r.name,xs,ts⟩,type:=ty,pos:=pos,after:=aft,guard:=gd}).run c.g.P w=
       .ok (.enter r.f ([v]++List.map a.eval xs.toList).toArray) w:=by
      have fe:(#[Value.iface t v]++Array.map a.eval xs).extract 1 (#[Value.iface t v]++Array.map a.eval xs).size=Array.map a.eval xs:=by
       apply Array.ext';simp;exact Jz (by simp)
      have bP:(callMethod (.iface t v) r.name (Array.map a.eval xs)).run c.g.P w= .ok (.enter r.f ([v]++List.map a.eval xs.toList).toArray) w:=by
       simp only[callMethod,Sem.run_bind,run_program,Result.andThen_ok];rw[show c.g.P.types.size+Made.depth=c.g.P.types.size+99+1 from rfl,pK];simp[xX hc]
      simp only[execOp,resolve,e1,Sem.run_bind,Sem.run_pure,Result.andThen_ok,invoke];rw[fe,show(#[Value.iface t v]++Array.map a.eval xs)[0]? =some (Value.iface t v) from (Array.getElem?_append_left (show 0<1 by decide)).trans rfl];exact bP
     rw[this];unfold Oper.upon;refine h2.mono λe w' he=>?_
     cases e with
     | returned v=>exact Zp (e:=.v v) he hf
     | panicked ch=>exact⟨S,hf,he⟩
     | outgrown=>exact he.elim
  ·exact Kl h
 ·exact Kl h
theorem qw (hg:c.g.Ok){o:Oper}(h:dm c o S w K Q)(hf:Fits c.N S a):o.wp c.g.P a w (jd c K) (Up c Q):=by
 unfold dm at h;split at h
 ·rename_i v hp;have hm:=bg (w:=w) hg hf hp;exact aA hm (Zp (e:=.v v) h hf)
 ·rename_i e hp;have hm:=bg (w:=w) hg hf hp;exact aA hm (Zp (e:=e) h hf)
 ·rename_i k n hp;have hm:=bg (w:=w) hg hf hp;unfold az at h;exact aA hm (Zp (e:=.v (.int k n)) h hf)
 ·rename_i p k n hp;have hm:=bg (w:=w) hg hf hp;unfold eB at h;exact aA (hm h.1) (Zp (e:=.v (.int k n)) h.2 hf)
 ·rename_i p v hp;have hm:=bg (w:=w) hg hf hp;unfold gW at h;exact aA (hm h.1) (Zp (e:=.v v) h.2 hf)
 ·exact aQ0 hg h hf
theorem gY (l:List Oper)(n:Nat):Vm l n=l[n]? :=by
 induction l generalizing n with
 | nil=>simp[Vm]
 | cons x l ih=>cases n<;>simp[Vm,ih]
theorem je {all:List Oper}{o oj:Oper}{j d:Nat}{want b:Bool}(Kj:o.guard=some (j,want))(hj:Vm all j=some oj)(hd:oj.dst=some d)(ha:a.tmps[d]? =some (.bool b)):
  Region.wanted o (yielded all.toArray a.tmps)=(b==want):=by
 rw[gY] at hj;simp[Region.wanted,Kj,yielded,hj,hd,ha]
theorem Dc {all:List Oper}{o oj:Oper}{j d:Nat}{want:Bool}{vs:Array Value}(Kj:o.guard=some (j,want))(hj:Vm all j=some oj)(hd:oj.dst=some d)(ha:a.tmps[d]? =some (.tuple vs)):
  Region.wanted o (yielded all.toArray a.tmps)=false:=by
 rw[gY] at hj;simp[Region.wanted,Kj,yielded,hj,hd,ha]
theorem jf (hg:c.g.Ok)(all:List Oper):∀(l:List Oper)(S:Env)(w:World)(a:Act),Yf c all l S w K Q->Fits c.N S a->
  wpList c.g.P all.toArray (λe a w=>Exit.then (jd c K) (Up c Q) e a w) l a w
 | [],S,w,a,h,hf=>by
  simp only[Yf] at h;exact tN (p:=xU c) hf.size hf.defers S [] (λk x hk=>by simp[Env.ent] at hk) (λk x _ hk=>hf.has k x hk) h
 | o::rest,S,w,a,h,hf=>by
  have go:∀(S:Env),dm c o S w (λS w=>Yf c all rest S w K Q) Q->Fits c.N S a->o.wp c.g.P a w (wpList c.g.P all.toArray (λe a w=>Exit.then (jd c K) (Up c Q) e a w) rest) (λe a w=>Exit.then (jd c K) (Up c Q) e a w):=λS h hf=>by
   have h1:=qw hg h hf;have h2:=Oper.wp_mono (K':=wpList c.g.P all.toArray (λe a w=>Exit.then (jd c K) (Up c Q) e a w) rest) (λa' w' ⟨S',QW,hk⟩=>jf hg all rest S' w' a' hk QW) h1;unfold Oper.wp at h2 ⊢;generalize (execOp a.eval o).run c.g.P w=r at*;cases r with
   | ok n w'=>
    cases n<;>simp only[Oper.upon] at h2 ⊢ <;> exact h2
   | halt x w'=>cases x<;>simp only[Oper.upon] at h2 ⊢ <;> exact h2
  have no:∀(S:Env),Xf c S o.dst (.v undef) (λS=>Yf c all rest S w K Q)->Fits c.N S a->wpList c.g.P all.toArray (λe a w=>Exit.then (jd c K) (Up c Q) e a w) rest (a.put o.dst undef) w:=λS h hf=>by
   obtain⟨S',QW,hk⟩:=Zp h hf;exact jf hg all rest S' w _ hk QW
  have fit:∀(d:Nat) (b:Bool) (e:Ent),S.ent d=some (.v (.bool b))->e.val= .bool b->Fits c.N ((d,e)::S) a:=λd b e hd he=>by
   refine⟨hf.size,hf.defers,λk x hk=>?_⟩;simp only[Env.ent] at hk;split at hk
   ·rename_i hb;have:=Vk hb;subst this;cases hk;rw[he];exact hf.has _ _ hd
   ·exact hf.has _ _ hk
  simp only[Yf] at h;unfold wpList;split at h
  ·rename_i Kj;rw[Qe (by simp[Region.wanted,Kj])];exact .inl (go S h hf)
  ·rename_i j want Kj;split at h
   ·rename_i oj hj;split at h
    ·rename_i d hd;split at h
     ·rename_i Zx;have hw:=je Kj hj hd (hf.has _ _ Zx);split at h
      ·rw[Qe (by rw[hw];rfl)];exact .inl (go S h hf)
      ·rw[if_neg (by rw[hw];decide)];exact no S h hf
     ·rename_i Zx;have hw:=je Kj hj hd (hf.has _ _ Zx);split at h
      ·rw[Qe (by rw[hw];rfl)];exact .inl (go S h hf)
      ·rw[if_neg (by rw[hw];decide)];exact no S h hf
     ·rename_i b Zx;have hw:=je Kj hj hd (hf.has _ _ Zx);split at h
      ·unfold Kp at h;cases b with
       | true=>rw[Qe (by rw[hw];rfl)];exact .inl (go _ (h.1 rfl) (fit d true .t Zx rfl))
       | false=>rw[if_neg (by rw[hw];decide)];exact no _ (h.2 rfl) (fit d false .f Zx rfl)
      ·unfold Kp at h;cases b with
       | true=>rw[if_neg (by rw[hw];decide)];exact no _ (h.1 rfl) (fit d true .t Zx rfl)
       | false=>rw[Qe (by rw[hw];rfl)];exact .inl (go _ (h.2 rfl) (fit d false .f Zx rfl))
     ·rename_i Zx;rw[if_neg (by rw[Dc Kj hj hd (hf.has _ _ Zx)];decide)];exact no S h hf
     ·exact h.elim
    ·exact h.elim
   ·exact h.elim
theorem gZ (hg:c.g.Ok):∀(x:Code)(S:Env)(w:World)(Q:Zd)(a:Act),KQ c x S w Q->Fits c.N S a->x.wp c.g.P (Up c Q) a w:=by
 intro x;have hc:∀(x:Code) (S:Env) (w:World) (Q:Zd) (a:Act),i9 c x S w Q->Fits c.N S a->x.wp c.g.P (Up c Q) a w:=λx S w Q a h hf=>by
  unfold i9 at h;exact h a hf
 induction x with
 | skip=>exactλS w Q a h hf=>wp_skip ⟨S,hf,h⟩
 | label l=>exactλS w Q a h hf=>wp_label ⟨S,hf,h⟩
 | region id ops tR=>
  intro S w Q a h hf;simp only[KQ] at h;cases tR with
  | false=>
   have h1:=jf hg _ _ _ _ _ h hf;refine wp_mono (wp_region_list ?_) (Q:=λe a w=>Exit.then (jd c (λS w=>Q .normal S w)) (Up c Q) e a w) (λe a w hq=>?_)
   ·simpa using h1
   ·cases e<;>exact hq
  | true=>
   unfold Wv at h;simpa using h a hf
 | seq x y ihx ihy=>
  intro S w Q a h hf;simp only[KQ] at h;split at h
  ·exact hc _ _ _ _ _ h hf
  ·refine wp_seq (wp_mono (ihx _ _ _ _ h hf) (λe a w hq=>?_));obtain⟨S',QW,hq⟩:=hq;cases e<;>first | exact ihy _ _ _ _ hq QW | exact⟨S',QW,hq⟩
 | cond b x y ihx ihy=>
  intro S w Q a h hf;simp only[KQ] at h;split at h
  ·rename_i t;split at h
   ·rename_i ht;exact wp_cond_true (by have:=hf.has _ _ ht;simp[Act.eval,this,Ent.val]) (ihx _ _ _ _ h hf)
   ·rename_i ht;exact wp_cond_false (by have:=hf.has _ _ ht;simp[Act.eval,this,Ent.val]) (ihy _ _ _ _ h hf)
   ·rename_i b ht;have kE:a.eval (.tmp t)= .bool b:=by have:=hf.has _ _ ht;simp[Act.eval,this,Ent.val]
    have fit:∀(e:Ent),e.val= .bool b->Fits c.N ((t,e)::S) a:=λe he=>by
     refine⟨hf.size,hf.defers,λk x hk=>?_⟩;simp only[Env.ent] at hk;split at hk
     ·rename_i hb;have:=Vk hb;subst this;cases hk;rw[he];exact hf.has _ _ ht
     ·exact hf.has _ _ hk
    unfold Kp at h;cases b with
    | true=>exact wp_cond_true kE (ihx _ _ _ _ (h.1 rfl) (fit .t rfl))
    | false=>exact wp_cond_false kE (ihy _ _ _ _ (h.2 rfl) (fit .f rfl))
   ·exact h.elim
  ·exact wp_cond_true rfl (ihx _ _ _ _ h hf)
  ·exact wp_cond_false rfl (ihy _ _ _ _ h hf)
  ·exact h.elim
 | block id x ih=>
  intro S w Q a h hf;simp only[KQ] at h;refine wp_block (wp_mono (ih _ _ _ _ h hf) (λe a w hq=>?_));obtain⟨S',QW,hq⟩:=hq;cases e with
  | exit i=>
   simp only at hq;simp only[Exit.inBlock];split at hq
   ·rename_i hb;rw[Qe (Vk hb)];exact⟨S',QW,hq⟩
   ·rename_i hb;rw[if_neg (λe=>by subst e;simp at hb)];exact⟨S',QW,hq⟩
  | normal=>exact⟨S',QW,hq⟩
  | goto l=>exact⟨S',QW,hq⟩
  | ret=>exact⟨S',QW,hq⟩
  | panic ch=>exact⟨S',QW,hq⟩
  | outgrown=>exact⟨S',QW,hq⟩
 | loop x ih=>intro S w Q a h hf;simp only[KQ] at h;unfold xS at h;exact h a hf
 | exit id=>exactλS w Q a h hf=>wp_exit ⟨S,hf,h⟩
 | ret=>exactλS w Q a h hf=>wp_ret ⟨S,hf,h⟩
 | rangeFunc f ps as_ b ih1 R6=>exactλS w Q a h hf=>hc _ _ _ _ _ h hf
 | scope x ih=>exactλS w Q a h hf=>hc _ _ _ _ _ h hf
 | goto l=>exactλS w Q a h hf=>hc _ _ _ _ _ h hf
 | refuse y=>exactλS w Q a h hf=>hc _ _ _ _ _ h hf
end
def jg:List Nat->List Value->Env->(Env->Prop)->Prop
 | _,[],S,K=>K S
 | t::ts,v::vs,S,K=>jg ts vs ((t,.v v)::S) K
 | [],_::_,_,_=>False
def L0 (w:World)(R:Value->World->Prop):List Value->Prop
 | [v]=>R v w
 | vs=>R (.tuple vs.toArray) w
def ci (c:Cx)(S:Env)(w:World)(R:Value->World->Prop):List ResultVar->List Value->Prop
 | [],QO=>eC QO [] (λl=>L0 w R l)
 | .tmp t::rs,QO=>(match S.get t with
  | some v=>ci c S w R rs (v::QO)
  | none=>False)
 | .cell t ty::rs,QO=>(match QR c.g.tys ty,S.get t with
  | some r,some (.pointer (some p))=>(match nL r.d with
   | false=>fC w p (λv=>ci c S w R rs (v::QO))
   | true=>i6 w p r.sz (λvs=>ci c S w R rs (.agg vs.toArray::QO)))
  | _,_=>False)
def xY (c:Cx)(rs:List ResultVar)(R:Value->World->Prop):Zd:=λe S w=>match e with
 | .normal=>ci c S w R rs []
 | .ret=>ci c S w R rs []
 | _=>False
def xZ (tmps:Array Value):ResultVar->Sem Value
 | .tmp t=>pure (tmps.getD t undef)
 | .cell t ty=>do loadVar ty (<-asAddr (tmps.getD t undef))
theorem aQ1 (fn:Func)(tmps:Array Value):results fn tmps=(do
  let vs<-fn.results.mapM (xZ tmps)
  pure (if h:vs.size=1 then vs[0] else .tuple vs)):=by
 unfold results;congr 2
theorem x8 {c:Cx}(hg:c.g.Ok){S:Env}{a:Act}{w:World}(hf:Fits c.N S a)(R:Value->World->Prop):∀(rs:List ResultVar)(QO:List Value),ci c S w R rs QO->
  ∃vs:List Value,(rs.mapM (xZ a.tmps)).run c.g.P w= .ok vs w/\L0 w R (QO.reverse++vs)
 | [],QO,h=>by
  simp only[ci,ld,YL] at h;exact⟨[],by simp,by simpa using h⟩
 | .tmp t::rs,QO,h=>by
  simp only[ci] at h;split at h
  ·rename_i v hv;obtain⟨vs,h1,h2⟩:=x8 hg hf R rs _ h;have:=hf.get hv;refine⟨v::vs,?_,by simpa using h2⟩;simp only[List.mapM_cons,Sem.run_bind];rw[show(xZ a.tmps (.tmp t)).run c.g.P w= .ok v w by simp[xZ,this]];simp only[Result.andThen_ok];rw[h1];simp
  ·exact h.elim
 | .cell t ty::rs,QO,h=>by
  simp only[ci] at h;split at h
  ·rename_i r p hr hp;have hp:=hf.get hp;split at h
   ·rename_i hd;unfold fC at h;obtain⟨v,hv,h⟩:=h;obtain⟨vs,h1,h2⟩:=x8 hg hf R rs _ h;refine⟨v::vs,?_,by simpa using h2⟩;have e1:(do loadVar ty (<-asAddr (a.tmps.getD t undef)):Sem Value).run c.g.P w= .ok v w:=by
     simp[hp,asAddr,loadVar,lf hg hr,hd,load,Sem.run,hv]
    rw[List.mapM_cons,Sem.run_bind];show Result.andThen ((do loadVar ty (<-asAddr (a.tmps.getD t undef)):Sem Value).run c.g.P w) _=_;rw[e1];simp only[Result.andThen_ok,Sem.run_bind];rw[h1];simp
   ·rename_i hd;unfold i6 at h;obtain⟨cs,hl,hv,h⟩:=h;obtain⟨vs,h1,h2⟩:=x8 hg hf R rs _ h;have h3:=run_loadCells_list (P:=c.g.P) (w:=w) p cs hv;rw[hl] at h3;refine⟨.agg cs.toArray::vs,?_,by simpa using h2⟩;have e1:(do loadVar ty (<-asAddr (a.tmps.getD t undef)):Sem Value).run c.g.P w= .ok (.agg cs.toArray) w:=by
     simp[hp,asAddr,loadVar,lf hg hr,hd,run_sizeOf hg hr,h3]
    rw[List.mapM_cons,Sem.run_bind];show Result.andThen ((do loadVar ty (<-asAddr (a.tmps.getD t undef)):Sem Value).run c.g.P w) _=_;rw[e1];simp only[Result.andThen_ok,Sem.run_bind];rw[h1];simp
  ·exact h.elim
theorem g9 {c:Cx}(hg:c.g.Ok){S:Env}{a:Act}{w:World}(hf:Fits c.N S a){R:Value->World->Prop}{fn:Func}(h:ci c S w R fn.results.toList []):
  ∃v,(results fn a.tmps).run c.g.P w= .ok v w/\R v w:=by
 obtain⟨vs,h1,h2⟩:=x8 hg hf R _ _ h;have e:fn.results=fn.results.toList.toArray:=by simp
 rw[aQ1,e,List.mapM_toArray];simp only[Sem.run_bind,Sem.run_map];rw[h1];simp only[Result.andThen_ok,Sem.run_pure,List.size_toArray,ep,List.reverse_nil] at h2 ⊢
 match vs,h2 with
 | [],h2=>exact⟨_,rfl,h2⟩
 | [v],h2=>exact⟨_,rfl,h2⟩
 | v::u::vs,h2=>exact⟨_,rfl,h2⟩
theorem eD {N:Nat}(args:List Value)(hN:args.length<=N)(S:Env)(hS:∀k x,S.ent k=some x->args[k]? =some x.val):
  Fits ⟨N,[]⟩ S {tmps:=args.toArray++Array.replicate (N-args.toArray.size) undef,defers:=[]}:=by
 refine⟨by simp;omega,rfl,λk x hk=>?_⟩;have h1:=hS k x hk;have:k<args.length:=(Zt.1 h1).1;rw[Array.getElem?_append_left (by simpa using this)];simpa using h1
theorem tO {K:Env->Prop}:∀(ts:List Nat)(vs:List Value)(S:Env)(m:Nat)(args:List Value),(∀j t,ts[j]? =some t->t=m+j)->args.drop m=vs->(∀k x,S.ent k=some x->args[k]? =some x.val)->
  jg ts vs S K->∃S',(∀k x,Env.ent S' k=some x->args[k]? =some x.val)/\K S'
 | _,[],S,_,_,_,_,hS,h=>⟨S,hS,by unfold jg at h;exact h⟩
 | [],_::_,_,_,_,_,_,_,h=>by simp[jg] at h
 | t::ts,v::vs,S,m,args,ht,hd,hS,h=>by
  simp only[jg] at h;have uW:t=m:=by have:=ht 0 t rfl;omega
  subst uW;have hv:args[t]? =some v:=by
   have:=QN (λl=>l[0]?) hd;simpa using this
  refine tO ts vs _ (t+1) args (λj u hu=>by have:=ht (j+1) u hu;omega) ?_ (λk x hk=>?_) h
  ·rw[<-tw,hd]<;>rfl
  ·simp only[Env.ent] at hk;split at hk
   ·rename_i hb;have:=Vk hb;subst this;cases hk;exact hv
   ·exact hS k x hk
theorem QF {c:Cx}(hg:c.g.Ok){f:FuncId}{fn:Func}{x:Code}{args:List Value}{w:World}{R:Value->World->Prop}(hf:c.g.P.funcs[f]? =some fn)(hb:fn.body=some x)(hN:⟨fn.ntmps,[]⟩=c.N)
  (hl:Nat.ble args.length c.N.n=true) (h:jg [0,1,2,3,4,5,6,7,8,9,10,11,12,13,14,15] args [] (λS=>KQ c x S w (xY c fn.results.toList R))):Fn c.g.P f args w R:=by
 unfold Fn;obtain⟨S,hS,hx⟩:=tO _ args [] 0 args (λj t ht=>by
  match j,ht with
  | 0,ht | 1,ht | 2,ht | 3,ht | 4,ht | 5,ht | 6,ht | 7,ht | 8,ht | 9,ht | 10,ht | 11,ht | 12,ht | 13,ht | 14,ht | 15,ht=>simp at ht;omega
  | j+16,ht=>simp at ht) (by simp) (λk x hk=>by simp[Env.ent] at hk) h
 refine calls_of_wp hf hb ?_;have hn:fn.ntmps=c.N.n:=QN Slots.n hN;have JQ:=eD (N:=c.N.n) args (fx hl) S hS;rw[<-hn,hN] at JQ;refine wp_mono (gZ hg x S w _ _ hx JQ) (λe a w' hq=>?_);obtain⟨S',QW,hq⟩:=hq;have Zx:a.defers=[]:=by rw[QW.defers,<-hN]
 cases e with
 | normal=>obtain⟨v,h1,h2⟩:=g9 hg QW hq;exact⟨Zx,v,h1,h2⟩
 | ret=>obtain⟨v,h1,h2⟩:=g9 hg QW hq;exact⟨Zx,v,h1,h2⟩
 | exit i=>exact hq.elim
 | goto l=>exact hq.elim
 | panic ch=>exact hq.elim
 | outgrown=>exact hq.elim
@[irreducible] def FnP (P:Program) (f:FuncId) (l:List Value) (w:World) (R:Value->World->Prop) (Xd:List PanicEntry->World->Prop):Prop:=Calls P f l.toArray w fun
 | .returned v,w'=>R v w'
 | .panicked ch,w'=>Xd ch w'
 | .outgrown,_=>False
def aQ2 (c:Cx)(rs:List ResultVar)(R:Value->World->Prop)(Xd:List PanicEntry->World->Prop):Zd
 | .panic ch,_,w=>Xd ch w
 | e,S,w=>xY c rs R e S w
theorem W6 {c:Cx}(hg:c.g.Ok){f:FuncId}{fn:Func}{x:Code}{args:List Value}{w:World}{R:Value->World->Prop}{Xd:List PanicEntry->World->Prop}(hf:c.g.P.funcs[f]? =some fn)(hb:fn.body=some x)(hN:⟨fn.ntmps,[]⟩=c.N)
  (hl:Nat.ble args.length c.N.n=true) (h:jg [0,1,2,3,4,5,6,7,8,9,10,11,12,13,14,15] args [] (λS=>KQ c x S w (aQ2 c fn.results.toList R Xd))):FnP c.g.P f args w R Xd:=by
 unfold FnP;obtain⟨S,hS,hx⟩:=tO _ args [] 0 args (λj t ht=>by
  match j,ht with
  | 0,ht | 1,ht | 2,ht | 3,ht | 4,ht | 5,ht | 6,ht | 7,ht | 8,ht | 9,ht | 10,ht | 11,ht | 12,ht | 13,ht | 14,ht | 15,ht=>simp at ht;omega
  | j+16,ht=>simp at ht) (by simp) (λk x hk=>by simp[Env.ent] at hk) h
 refine calls_of_wp hf hb ?_;have hn:fn.ntmps=c.N.n:=QN Slots.n hN;have JQ:=eD (N:=c.N.n) args (fx hl) S hS;rw[<-hn,hN] at JQ;refine wp_mono (gZ hg x S w _ _ hx JQ) (λe a w' hq=>?_);obtain⟨S',QW,hq⟩:=hq;have Zx:a.defers=[]:=by rw[QW.defers,<-hN]
 cases e with
 | normal=>obtain⟨v,h1,h2⟩:=g9 hg QW hq;exact⟨Zx,v,h1,h2⟩
 | ret=>obtain⟨v,h1,h2⟩:=g9 hg QW hq;exact⟨Zx,v,h1,h2⟩
 | exit i=>exact hq.elim
 | goto l=>exact hq.elim
 | panic ch=>exact⟨Zx,hq⟩
 | outgrown=>exact hq.elim
theorem FnP.mono {P:Program}{f:FuncId}{l:List Value}{w:World}{R R':Value->World->Prop}{p p':List PanicEntry->World->Prop}(h:FnP P f l w R p)(hr:∀v w',R v w'->R' v w')(hp:∀ch w',p ch w'->p' ch w'):FnP P f l w R' p':=by
 unfold FnP at*;exact Calls.mono h λe w' he=>by cases e<;>first | exact hr _ _ he | exact hp _ _ he | exact he
theorem Fn.toP {P:Program}{f:FuncId}{l:List Value}{w:World}{R:Value->World->Prop}{p:List PanicEntry->World->Prop}(h:Fn P f l w R):FnP P f l w R p:=by
 unfold Fn at h;unfold FnP;exact Calls.mono h λe w' he=>by cases e<;>first | exact he | exact he.elim
theorem XI {P:Program}{f:FuncId}{l:List Value}{w:World}{R:Value->World->Prop}{p:List PanicEntry->World->Prop}{K:Value->World->Prop}{Xd:List PanicEntry->World->Prop}(h:FnP P f l w R p)(k:∀v w',R v w'->K v w')(kp:∀ch w',p ch w'->Xd ch w'):fE P f l w K Xd:=by
 unfold FnP at h;unfold fE;exact Calls.mono h λe w' he=>by cases e<;>first | exact k _ _ he | exact kp _ _ he | exact he
theorem Fn.mono {P:Program}{f:FuncId}{l:List Value}{w:World}{R R':Value->World->Prop}(h:Fn P f l w R)(hr:∀v w',R v w'->R' v w'):Fn P f l w R':=by
 unfold Fn at*;exact Calls.mono h λe w' he=>by cases e<;>first | exact hr _ _ he | exact he
theorem call {P:Program}{f:FuncId}{l:List Value}{w:World}{R:Value->World->Prop}{K:Value->World->Prop}{Xd:List PanicEntry->World->Prop}(h:Fn P f l w R)(k:∀v w',R v w'->K v w'):fE P f l w K Xd:=by
 unfold Fn at h;unfold fE;exact Calls.mono h λe w' he=>by cases e<;>first | exact k _ _ he | exact he.elim
def Dd:List Oper->List Nat->List Nat
 | [],QO=>QO
 | o::l,QO=>match o.dst with
  | some d=>Dd l (d::QO)
  | none=>Dd l QO
def hZ:Code->List Nat->List Nat
 | .region _ ops _,QO=>Dd ops.toList QO
 | .seq x y,QO=>hZ y (hZ x QO)
 | .cond _ x y,QO=>hZ y (hZ x QO)
 | .block _ x,QO=>hZ x QO
 | .loop x,QO=>hZ x QO
 | .scope x,QO=>hZ x QO
 | .rangeFunc _ _ x y,QO=>hZ y (hZ x QO)
 | _,QO=>QO
def dq (x:Code)(t:Nat):Bool:=match eA t (hZ x [])with
 | true=>false
 | false=>true
def cj:List Nat->List Value->Env->(Env->Prop)->Prop
 | [],[],S,K=>K S
 | t::ts,v::vs,S,K=>cj ts vs ((t,.v v)::S) K
 | _,_,_,_=>False
def Has (T S:Env):Prop:=T.map (λp=>S.get p.1)=T.map (λp=>some p.2.val)
theorem aQ3 {T:Env}{k:Nat}{x:Ent}(h:T.ent k=some x):(k,x)∈T:=by
 induction T with
 | nil=>cases h
 | cons p T ih=>
  obtain⟨t,y⟩:=p;simp only[Env.ent] at h;split at h
  ·rename_i hb;cases h;rw[Vk hb];simp
  ·simp[ih h]
theorem Has.fits {T S:Env}{N:Slots}{a:Act}(h:Has T S)(hf:Fits N S a):Fits N T a:=by
 refine⟨hf.size,hf.defers,λk x hk=>?_⟩;have hm:=aQ3 hk;exact hf.get ((List.map_inj_left.1 h) (k,x) hm)
theorem De {ts:List Nat}{vs:List Value}{S:Env}{K:Env->Prop}(h:cj ts vs S K):∃T,T=(ts.zip (vs.map Ent.v)).reverse++S/\K T:=by
 induction ts generalizing vs S with
 | nil=>
  cases vs with
  | nil=>exact⟨S,rfl,h⟩
  | cons v vs=>exact h.elim
 | cons t ts ih=>
  cases vs with
  | nil=>exact h.elim
  | cons v vs=>
   obtain⟨T,rfl,hk⟩:=ih h;exact⟨_,by simp,hk⟩
def lg (p:Nat->Bool):Env->Env->Env
 | [],QO=>QO
 | (t,x)::S,QO=>match p t with
  | true=>(match jb t QO with
   | true=>lg p S QO
   | false=>lg p S ((t,x)::QO))
  | false=>lg p S QO
theorem x9 (p:Nat->Bool)(S QO:Env)(K:Env->Prop):Y2 p S QO K=K (lg p S QO):=by
 induction S generalizing QO with
 | nil=>rfl
 | cons q S ih=>
  obtain⟨t,x⟩:=q;simp only[Y2,lg];split
  ·split<;>exact ih _
  ·exact ih _
section
variable {c:Cx} {S:Env} {w:World} {Q:Zd} {α:Type}
theorem aQ4 {x:Code}(J:α->Act->World->Prop)(μ:α->World->Nat){a:Act}(s0:α)(h0:J s0 a w)
  (hr:∀s a w,J s a w->x.wp c.g.P (λe a' w'=>match e with
   | .normal=>∃s2,J s2 a' w'/\μ s2 w'<μ s w
   | e=>Up c Q e a' w') a w):(Code.loop x).wp c.g.P (Up c Q) a w:=by
 intro b k cs;have key:∀n s a w,μ s w=n->J s a w->∃e a' w',Up c Q e a' w'/\Arrives c.g.P (lone (b.at a (.code x:: .inLoop x::k)) cs w) b k cs e a' w':=by
  intro n;induction n using Nat.strongRecOn with
  | _ n ih=>
   intro s a w hn hJ;obtain⟨e,a1,w1,hq,mO⟩:=hr s a w hJ b (.inLoop x::k) cs;cases e with
   | normal=>
    obtain⟨s2,hJ2,Xa⟩:=hq;obtain⟨e2,a2,w2,uX,iQw⟩:=ih (μ s2 w1) (hn▸Xa) s2 a1 w1 rfl hJ2;exact⟨e2,a2,w2,uX,.of_steps (Steps.trans mO (.one step_inLoop)) iQw⟩
   | exit id=>exact⟨_,a1,w1,hq,.pass (x:=.inLoop x) rfl (λ_ _=>.inl (by simp)) mO⟩
   | goto l=>exact⟨_,a1,w1,hq,.pass (x:=.inLoop x) rfl (λ_ _=>.inl (by simp)) mO⟩
   | ret=>exact⟨_,a1,w1,hq,.pass (x:=.inLoop x) rfl (λ_ _=>.inl (by simp)) mO⟩
   | panic ch=>exact⟨_,a1,w1,hq,.pass (x:=.inLoop x) rfl (λ_ _=>.inl (by simp)) mO⟩
   | outgrown=>exact⟨_,a1,w1,hq,.pass (x:=.inLoop x) rfl (λ_ _=>.inl (by simp)) mO⟩
 obtain⟨e,a',w',hq,mO⟩:=key _ s0 a w rfl h0;exact⟨e,a',w',hq,.of_steps (.one step_loop) mO⟩
def aQ5 (sl:List Nat)(val:α->List Value)(S0:Env)(I:α->World->Prop)(μ:α->World->Nat)(m:Nat)(S2:Env)(w2:World):Prop:=
 ∃s2,cj sl (val s2) S0 (λT=>Has T S2)/\I s2 w2/\μ s2 w2<m
theorem loop (hg:c.g.Ok){x:Code}(sl:List Nat)(val:α->List Value)(I:α->World->Prop)(μ:α->World->Nat)(s0:α)
  (h0:Y2 (dq x) S [] (λS0=>cj sl (val s0) S0 (λT=>Has T S))) (hI:I s0 w)
  (hr:Y2 (dq x) S [] (λS0=>∀s w',I s w'->cj sl (val s) S0 (λS1=>KQ c x S1 w' (λe S2 w2=>match e with
   | .normal=>aQ5 sl val S0 I μ (μ s w') S2 w2
   | e=>Q e S2 w2)))):xS c x S w Q:=by
 rw[x9] at h0 hr;unfold xS;intro a hf;generalize lg (dq x) S []=S0 at*;have kF:∀s (K:Env->Prop),cj sl (val s) S0 K->K ((sl.zip ((val s).map Ent.v)).reverse++S0):=λs K h=>by
  obtain⟨T,rfl,hk⟩:=De h;exact hk
 refine aQ4 (c:=c) (x:=x) (Q:=Q) (J:=λs a' w'=>Fits c.N ((sl.zip ((val s).map Ent.v)).reverse++S0) a'/\I s w') (μ:=μ) s0 ⟨(kF s0 _ h0).fits hf,hI⟩ ?_;intro s a' w' ⟨QW,hI'⟩;have h1:=gZ hg x _ w' _ a' (kF s _ (hr s w' hI')) QW;refine wp_mono h1 (λe a2 w2 hq=>?_);obtain⟨S2,ZG,hq⟩:=hq;cases e with
 | normal=>
  obtain⟨s2,hz,hI2,hm⟩:=hq;exact⟨s2,⟨(kF s2 _ hz).fits ZG,hI2⟩,hm⟩
 | exit i=>exact⟨S2,ZG,hq⟩
 | goto l=>exact⟨S2,ZG,hq⟩
 | ret=>exact⟨S2,ZG,hq⟩
 | panic ch=>exact⟨S2,ZG,hq⟩
 | outgrown=>exact⟨S2,ZG,hq⟩
theorem ia (cs:List Nat)(hg:c.g.Ok){x y:Code}(sl:List Nat)(val:α->List Value)(R:α->World->Prop)
  (hx:Y2 (dq x) S [] (λS0=>KQ {c with cuts:=cs} x S w (λe S2 w2=>match e with
   | .normal=>∃s,cj sl (val s) S0 (λT=>Has T S2)/\R s w2
   | e=>Q e S2 w2)))
  (hy:Y2 (dq x) S [] (λS0=>∀s w',R s w'->cj sl (val s) S0 (λS1=>KQ c y S1 w' Q))):i9 c (.seq x y) S w Q:=by
 rw[x9] at hx hy;unfold i9;intro a hf;generalize lg (dq x) S []=S0 at*;have kF:∀s (K:Env->Prop),cj sl (val s) S0 K->K ((sl.zip ((val s).map Ent.v)).reverse++S0):=λs K h=>by
  obtain⟨T,rfl,hk⟩:=De h;exact hk
 refine wp_seq (wp_mono (gZ (c:={c with cuts:=cs}) hg x S w _ a hx hf) (λe a2 w2 hq=>?_));obtain⟨S2,ZG,hq⟩:=hq;cases e with
 | normal=>
  obtain⟨s,hz,hR⟩:=hq;exact gZ hg y _ w2 Q a2 (kF s _ (hy s w2 hR)) ((kF s _ hz).fits ZG)
 | exit i=>exact⟨S2,ZG,hq⟩
 | goto l=>exact⟨S2,ZG,hq⟩
 | ret=>exact⟨S2,ZG,hq⟩
 | panic ch=>exact⟨S2,ZG,hq⟩
 | outgrown=>exact⟨S2,ZG,hq⟩
theorem L1 (hg:c.g.Ok){x y:Code}(sl:List Nat)(val:α->List Value)(R:α->World->Prop)
  (hx:Y2 (dq x) S [] (λS0=>KQ {c with cuts:=[]} x S w (λe S2 w2=>match e with
   | .normal=>∃s,cj sl (val s) S0 (λT=>Has T S2)/\R s w2
   | e=>Q e S2 w2)))
  (hy:Y2 (dq x) S [] (λS0=>∀s w',R s w'->cj sl (val s) S0 (λS1=>KQ c y S1 w' Q))):i9 c (.seq x y) S w Q:=
 ia [] hg sl val R hx hy
end
@[irreducible] def qx (C:World->Prop) (p:Addr) (K:Value->Prop):Prop:=∃v,(∀w,C w->w.cell? p=some v)/\K v
@[irreducible] def qy (C:World->Prop) (p:Addr) (n:Nat) (K:List Value->Prop):Prop:=∃vs:List Value,vs.length=n/\(∀w,C w->∀j v,vs[j]? =some v->w.cell? (p.add j)=some v)/\K vs
@[irreducible] def L3 (P:Program) (f:FuncId) (l:List Value) (C:World->Prop) (K:Value->Prop):Prop:=∃v,(∀w,C w->Fn P f l w (λu w'=>u=v/\C w'))/\K v
@[irreducible] def jh (c:Cx) (o:Oper) (S:Env) (C:World->Prop) (K:Env->Prop):Prop:=∃v,(∀a w,Fits c.N S a->C w->o.quietAt c.g.P a C w v)/\Xf c S o.dst (.v v) K
def Df (
     c:Cx) (o:Oper) (S:Env) (C:World->Prop) (K:Env->Prop):Prop:=
 match o.op with
 | .load t x=>(match QR c.g.tys t,S.ev x with
  | some r,some (.pointer (some p))=>(match nL r.d with
   | false=>qx C p (λv=>Xf c S o.dst (.v v) K)
   | true=>qy C p r.sz (λvs=>Xf c S o.dst (.v (.agg vs.toArray)) K))
  | _,_=>jh c o S C K)
 | .indexAddr t x i=>(match QR c.g.tys t,S.ev x,S.ev i with
  | some ⟨_,.slice e,_,_,_⟩,some (.slice b n _),some (.int _ i)=>(match QR c.g.tys e with
   | some r=>YM b n i r.sz (λp=>Xf c S o.dst (.v (.pointer (some p))) K)
   | none=>jh c o S C K)
  | _,_,_=>jh c o S C K)
 | .index t x i=>(match QR c.g.tys t,S.ev x,S.ev i with
  | some ⟨_,.string,_,_,_⟩,some (.string s),some (.int _ i)=>dk s i (λb=>Xf c S o.dst (.v (.int .u8 b)) K)
  | _,_,_=>jh c o S C K)
 | .call ⟨.value f,xs,_⟩=>(match S.ev f with
  | some (.func (.func n) first cap)=>(match eA n c.g.fns with
   | true=>eC first.toList [] (λQO=>nP S xs.toList QO (λQO=>eC cap.toList QO (λQO=>eC QO [] (λl=>
     L3 c.g.P n l C (λv=>Xf c S o.dst (.v v) K)))))
   | false=>jh c o S C K)
  | _=>jh c o S C K)
 | _=>jh c o S C K
def lh (c:Cx)(o:Oper)(S:Env)(C:World->Prop)(K:Env->Prop):Prop:=
 match qv c.g S o.op with
 | .val v=>Xf c S o.dst (.v v) K
 | .ent e=>Xf c S o.dst e K
 | .norm k n=>az n (λm=>Xf c S o.dst (.v (.int k m)) K)
 | .normIf p k n=>eB p n (λm=>Xf c S o.dst (.v (.int k m)) K)
 | .need p v=>gW p v (λv=>Xf c S o.dst (.v v) K)
 | .no=>Df c o S C K
def Ww (
      c:Cx) (all:List Oper):List Oper->Env->(World->Prop)->(Env->Prop)->Prop
 | [],S,_,K=>Y2 (xU c) S [] K
 | o::rest,S,C,K=>match o.guard with
  | none=>lh c o S C (λS=>Ww c all rest S C K)
  | some (
      j,want)=>match Vm all j with
   | some oj=>(match oj.dst with
    | some d=>(match S.ent d with
     | some .t=>(match want with
      | true=>lh c o S C (λS=>Ww c all rest S C K)
      | false=>Xf c S o.dst (.v undef) (λS=>Ww c all rest S C K))
     | some .f=>(match want with
      | false=>lh c o S C (λS=>Ww c all rest S C K)
      | true=>Xf c S o.dst (.v undef) (λS=>Ww c all rest S C K))
     | some (.v (.bool b))=>(match want with
      | true=>Kp b (lh c o ((d,.t)::S) C (λS=>Ww c all rest S C K)) (Xf c ((d,.f)::S) o.dst (.v undef) (λS=>Ww c all rest S C K))
      | false=>Kp b (Xf c ((d,.t)::S) o.dst (.v undef) (λS=>Ww c all rest S C K)) (lh c o ((d,.f)::S) C (λS=>Ww c all rest S C K)))
     | some (.v (.tuple _))=>Xf c S o.dst (.v undef) (λS=>Ww c all rest S C K)
     | _=>False)
    | none=>False)
   | none=>False
section
variable {c:Cx} {a:Act} {S:Env} {C:World->Prop} {K:Env->Prop}
abbrev qz (c:Cx)(K:Env->Prop):Act->Prop:=λa'=>∃S',Fits c.N S' a'/\K S'
theorem nQ {o:Oper}{v:Value}{N:Act->Prop}(hr:∀w,(execOp a.eval o).run c.g.P w= .ok (.value v) w)(h:N (a.put o.dst v)):o.quiet c.g.P a C N:=
 ⟨v,λw _=>by unfold Oper.quietAt;rw[hr w];exact⟨rfl,rfl⟩,h⟩
theorem L4 {o:Oper}{v:Value}{N:Act->Prop}(hr:∀w,C w->(execOp a.eval o).run c.g.P w= .ok (.value v) w)(h:N (a.put o.dst v)):o.quiet c.g.P a C N:=
 ⟨v,λw hw=>by unfold Oper.quietAt;rw[hr w hw];exact⟨rfl,rfl⟩,h⟩
theorem aQ6 (hg:c.g.Ok){o:Oper}(h:Df c o S C K)(hf:Fits c.N S a):o.quiet c.g.P a C (qz c K):=by
 have Kl:jh c o S C K->o.quiet c.g.P a C (qz c K):=λh=>by
  unfold jh at h;obtain⟨v,h1,h2⟩:=h;exact⟨v,λw hw=>h1 a w hf hw,Zp (e:=.v v) h2 hf⟩
 obtain⟨dst,op,ty,pos,aft,gd⟩:=o;unfold Df at h;split at h
 ·rename_i t x Jf;simp only at Jf;subst Jf;split at h
  ·rename_i r p hr hx;have e1:=hf.ev hx;split at h
   ·rename_i hd;unfold qx at h;obtain⟨v,hv,hk⟩:=h;refine L4 (v:=v) (λw hw=>?_) (Zp (e:=.v v) hk hf);simp[execOp,e1,Instr.loadAt,Instr.sureAddr,loadVar,lf hg hr,hd,load,Sem.run,hv w hw]
   ·rename_i hd;unfold qy at h;obtain⟨vs,hl,hv,hk⟩:=h;refine L4 (v:=.agg vs.toArray) (λw hw=>?_) (Zp (e:=.v (.agg vs.toArray)) hk hf);have h2:=run_loadCells_list (P:=c.g.P) (w:=w) p vs (hv w hw);rw[hl] at h2;simp[execOp,e1,Instr.loadAt,Instr.sureAddr,loadVar,lf hg hr,hd,run_sizeOf hg hr,h2]
  ·exact Kl h
 ·rename_i t x ix Jf;simp only at Jf;subst Jf;split at h
  ·rename_i e b n k i hr hx hi;split at h
   ·rename_i r X2;unfold YM at h;obtain⟨p,rfl,h0,h1,hk⟩:=h;have e1:=hf.ev hx;have e2:=hf.ev hi;refine nQ (v:=.pointer (some (p.add (i.toNat*r.sz)))) (λw=>?_) (Zp (e:=.v _) hk hf);simp[execOp,e1,e2,Instr.indexAt,asIntOf,Yu hg hr,run_sizeOf hg X2,h0,h1]
   ·exact Kl h
  ·exact Kl h
 ·rename_i t x ix Jf;simp only at Jf;subst Jf;split at h
  ·rename_i s k i hr hx hi;unfold dk at h;obtain⟨b,h0,h1,hk⟩:=h;have e1:=hf.ev hx;have e2:=hf.ev hi;refine nQ (v:=.int .u8 b.toNat) (λw=>?_) (Zp (e:=.v _) hk hf);simp[execOp,e1,e2,Instr.index,asIntOf,Yu hg hr,h0,h1]
  ·exact Kl h
 ·rename_i f xs ts Jf;simp only at Jf;subst Jf;split at h
  ·rename_i n first cap hv;split at h
   ·rename_i hm;have hc:=hg.fns n (xR hm);rw[ld] at h;have h2:=Db h hf;rw[ld,ld] at h2;simp only[YL,List.reverse_append,List.reverse_reverse,KO] at h2;unfold L3 at h2;obtain⟨v,h3,hk⟩:=h2;have e1:=hf.ev hv;refine⟨v,λw hw=>?_,Zp (e:=.v v) hk hf⟩;unfold Oper.quietAt;have:(execOp a.eval {dst:=dst,op:=.call ⟨.value f,xs,ts⟩,type:=ty,pos:=pos,after:=aft,guard:=gd}).run c.g.P w=
      .ok (.enter n (first.toList++(List.map a.eval xs.toList++cap.toList)).toArray) w:=by
     simp[execOp,resolve,e1,Deferred.ofValue,invoke,xX hc]
    rw[this];refine⟨rfl,?_⟩;have h4:=h3 w hw;unfold Fn at h4;refine h4.mono λe w' he=>?_
    cases e with
    | returned u=>exact⟨by rw[he.1],he.2⟩
    | panicked ch=>exact he.elim
    | outgrown=>exact he.elim
   ·exact Kl h
  ·exact Kl h
 ·exact Kl h
theorem aQ7 (hg:c.g.Ok){o:Oper}(h:lh c o S C K)(hf:Fits c.N S a):o.quiet c.g.P a C (qz c K):=by
 unfold lh at h;split at h
 ·rename_i v hp;exact nQ (λw=>bg (w:=w) hg hf hp) (Zp (e:=.v v) h hf)
 ·rename_i e hp;exact nQ (λw=>bg (w:=w) hg hf hp) (Zp (e:=e) h hf)
 ·rename_i k n hp;unfold az at h;exact nQ (λw=>bg (w:=w) hg hf hp) (Zp (e:=.v (.int k n)) h hf)
 ·rename_i p k n hp;unfold eB at h;exact nQ (λw=>bg (w:=w) hg hf hp h.1) (Zp (e:=.v (.int k n)) h.2 hf)
 ·rename_i p v hp;unfold gW at h;exact nQ (λw=>bg (w:=w) hg hf hp h.1) (Zp (e:=.v v) h.2 hf)
 ·exact aQ6 hg h hf
theorem ya (hg:c.g.Ok)(all:List Oper):∀(l:List Oper)(S:Env)(a:Act),Ww c all l S C K->Fits c.N S a->wpQuiet c.g.P all.toArray C (qz c K) l a
 | [],S,a,h,hf=>by
  simp only[Ww] at h;exact tN (p:=xU c) hf.size hf.defers S [] (λk x hk=>by simp[Env.ent] at hk) (λk x _ hk=>hf.has k x hk) h
 | o::rest,S,a,h,hf=>by
  have go:∀(S:Env),lh c o S C (λS=>Ww c all rest S C K)->Fits c.N S a->o.quiet c.g.P a C (wpQuiet c.g.P all.toArray C (qz c K) rest):=λS h hf=>
   Oper.quiet_mono (λa' ⟨S',QW,hk⟩=>ya hg all rest S' a' hk QW) (aQ7 hg h hf)
  have no:∀(S:Env),Xf c S o.dst (.v undef) (λS=>Ww c all rest S C K)->Fits c.N S a->wpQuiet c.g.P all.toArray C (qz c K) rest (a.put o.dst undef):=λS h hf=>by
   obtain⟨S',QW,hk⟩:=Zp h hf;exact ya hg all rest S' _ hk QW
  have fit:∀(d:Nat) (b:Bool) (e:Ent),S.ent d=some (.v (.bool b))->e.val= .bool b->Fits c.N ((d,e)::S) a:=λd b e hd he=>by
   refine⟨hf.size,hf.defers,λk x hk=>?_⟩;simp only[Env.ent] at hk;split at hk
   ·rename_i hb;have:=Vk hb;subst this;cases hk;rw[he];exact hf.has _ _ hd
   ·exact hf.has _ _ hk
  simp only[Ww] at h;unfold wpQuiet;split at h
  ·rename_i Kj;rw[Qe (by simp[Region.wanted,Kj])];exact go S h hf
  ·rename_i j want Kj;split at h
   ·rename_i oj hj;split at h
    ·rename_i d hd;split at h
     ·rename_i Zx;have hw:=je Kj hj hd (hf.has _ _ Zx);split at h
      ·rw[Qe (by rw[hw];rfl)];exact go S h hf
      ·rw[if_neg (by rw[hw];decide)];exact no S h hf
     ·rename_i Zx;have hw:=je Kj hj hd (hf.has _ _ Zx);split at h
      ·rw[Qe (by rw[hw];rfl)];exact go S h hf
      ·rw[if_neg (by rw[hw];decide)];exact no S h hf
     ·rename_i b Zx;have hw:=je Kj hj hd (hf.has _ _ Zx);split at h
      ·unfold Kp at h;cases b with
       | true=>rw[Qe (by rw[hw];rfl)];exact go _ (h.1 rfl) (fit d true .t Zx rfl)
       | false=>rw[if_neg (by rw[hw];decide)];exact no _ (h.2 rfl) (fit d false .f Zx rfl)
      ·unfold Kp at h;cases b with
       | true=>rw[if_neg (by rw[hw];decide)];exact no _ (h.1 rfl) (fit d true .t Zx rfl)
       | false=>rw[Qe (by rw[hw];rfl)];exact go _ (h.2 rfl) (fit d false .f Zx rfl)
     ·rename_i Zx;rw[if_neg (by rw[Dc Kj hj hd (hf.has _ _ Zx)];decide)];exact no S h hf
     ·exact h.elim
    ·exact h.elim
   ·exact h.elim
end
theorem Dg {P:Program}{ops:Array Oper}{C:World->Prop}{Q Q':Act->Prop}(h:∀a,Q a->Q' a):∀{l:List Oper}{a:Act},wpQuiet P ops C Q l a->wpQuiet P ops C Q' l a
 | [],a,hh=>h a hh
 | o::l,a,hh=>by
  unfold wpQuiet at*;split
  ·rename_i hw;rw[Qe hw] at hh;exact Oper.quiet_mono (λa' h'=>Dg h h') hh
  ·rename_i hw;rw[if_neg hw] at hh;exact Dg h hh
theorem aQ8 {c:Cx}(hg:c.g.Ok){id:Nat}{ops:List Oper}{S:Env}{w:World}{Q:Zd}(C:World->Prop)(hC:C w.drew)(hB:Region.lexB .any ops.toArray=true)
  (h:Ww c ops ops S C (λS=>∀w',C w'->Q .normal S w')):Wv c id ops S w Q:=by
 unfold Wv;intro a hf;refine wp_region_quiet (C:=C) hg.mixed hB hC ?_;have:=ya hg ops ops S a h hf;refine Dg ?_ this;intro a' ⟨S',QW,hk⟩ w' Qb;exact⟨S',QW,hk w' Qb⟩
theorem tP {P:Program}{ops:Array Oper}{w:World}{Q:Act->Prop}:∀{l:List Oper}{a:Act},wpQuiet P ops (λw'=>w'=w) Q l a->wpStill P ops w Q l a
 | [],a,h=>h
 | o::l,a,h=>by
  unfold wpQuiet at h;unfold wpStill;split
  ·rename_i hw;rw[Qe hw] at h;obtain⟨v,h1,h2⟩:=h;have h3:=h1 w rfl;unfold Oper.quietAt at h3;unfold Oper.still;generalize (execOp a.eval o).run P w=r at*;cases r with
   | ok n w'=>
    cases n<;>simp only[Oper.quietUpon] at h3<;>simp only[Oper.stillUpon]
    case value u=>obtain⟨rfl,rfl⟩:=h3;exact⟨rfl,tP h2⟩
    case skip=>obtain⟨rfl,rfl⟩:=h3;exact⟨rfl,tP h2⟩
    case enter f args=>exact⟨h3.1,v,h3.2,tP h2⟩
   | halt x w'=>simp only[Oper.quietUpon] at h3
  ·rename_i hw;rw[if_neg hw] at h;exact tP h
theorem tQ {P:Program}{ops:Array Oper}{w:World}{Q Q':Act->Prop}(h:∀a,Q a->Q' a):∀{l:List Oper}{a:Act},wpStill P ops w Q l a->wpStill P ops w Q' l a
 | [],a,hh=>h a hh
 | o::l,a,hh=>by
  unfold wpStill at*;split
  ·rename_i hw;rw[Qe hw] at hh;unfold Oper.still at*;generalize (execOp a.eval o).run P w=r at*;cases r with
   | ok n w'=>
    cases n<;>simp only[Oper.stillUpon] at hh ⊢
    case value u=>exact⟨hh.1,tQ h hh.2⟩
    case skip=>exact⟨hh.1,tQ h hh.2⟩
    case enter f args=>obtain⟨h1,v,h2,h3⟩:=hh;exact⟨h1,v,h2,tQ h h3⟩
   | halt x w'=>simp only[Oper.stillUpon] at hh
  ·rename_i hw;rw[if_neg hw] at hh;exact tQ h hh
theorem lj {P:Program}{ops:Array Oper}{Q Q':Exit->Act->World->Prop}(h:∀e a w,Q e a w->Q' e a w):∀{l:List Oper}{a:Act}{w:World},wpList P ops Q l a w->wpList P ops Q' l a w
 | [],a,w,hh=>h _ a w hh
 | o::l,a,w,hh=>by
  unfold wpList at*;split
  ·rename_i hw;rw[Qe hw] at hh;rcases hh with hh | ⟨h1,a0,w0,h2⟩
   ·refine .inl ?_;have h2:=Oper.wp_mono (K':=wpList P ops Q' l) (λa w=>lj h) hh;unfold Oper.wp at h2 ⊢;generalize (execOp a.eval o).run P w=r at*;cases r with
    | ok n w'=>
     cases n<;>simp only[Oper.upon] at h2 ⊢ <;> try exact h2
     exact h2.mono λe KL he=>by
      cases e with
      | returned v=>exact he
      | panicked ch=>exact h _ _ _ he
      | outgrown=>obtain⟨a0,w0,h0⟩:=he;exact⟨a0,w0,h _ _ _ h0⟩
    | halt x w'=>cases x<;>simp only[Oper.upon] at h2 ⊢ <;> first | exact h2 | exact h _ _ _ h2
   ·exact .inr ⟨h1,a0,w0,h _ _ _ h2⟩
  ·rename_i hw;rw[if_neg hw] at hh;exact lj h hh
theorem nR {c:Cx}(hg:c.g.Ok){id:Nat}{ops:List Oper}{S:Env}{w:World}{Q:Zd}(n:Nat)(hB:Region.lexTailB .any ops.toArray n=true)
  (h:Ww {c with named:=1000000} ops (ops.take n) S (λw'=>w'=w.drew) (λS=>Yf c ops (ops.drop n) S w.drew (λS w=>Q .normal S w) Q)):Wv c id ops S w Q:=by
 unfold Wv;intro a hf;refine wp_region_still_tail n hg.mixed hB ?_;have h1:=ya (c:={c with named:=1000000}) hg ops (ops.take n) S a h hf;refine tQ ?_ (tP h1);intro a' ⟨S',QW,hk⟩;have h2:=jf (c:=c) hg ops _ _ _ _ hk QW;refine lj (λe a w hq=>?_) h2;cases e<;>exact hq
end
section
def Ext (w w':World):Prop:=w.grownBy w' none
theorem Ext.refl (w:World):Ext w w:=⟨rfl,rfl,rfl,QE _,λ_ _ _=>rfl⟩
theorem Ext.trans {a b c:World}(h:Ext a b)(k:Ext b c):Ext a c:=
 ⟨k.os.trans h.os,k.tape.trans h.tape,k.output.trans h.output,Ze h.size k.size,λi hi hn=>(k.block i (Vy hi h.size) hn).trans (h.block i hi hn)⟩
theorem Ext.drew (w:World):Ext w w.drew:=⟨rfl,rfl,rfl,QE _,λ_ _ _=>rfl⟩
theorem Ext.alloc (w:World)(o:Obj):Ext w (w.alloc o):=World.grownBy_alloc w o none
theorem Ext.own {w0 w w1:World}{g:Nat}(h:Ext w0 w)(k:w.grownBy w1 (some g))(hg:w0.heap.size<=g):Ext w0 w1:=
 ⟨k.os.trans h.os,k.tape.trans h.tape,k.output.trans h.output,Ze h.size k.size,λi hi hn=>(k.block i (Vy hi h.size) (λe=>by cases e;omega)).trans (h.block i hi hn)⟩
theorem Ext.cell {w w':World}(h:Ext w w'){a:Addr}{v:Value}(hc:w.cell? a=some v):w'.cell? a=some v:=World.grownBy.cell h hc (by simp)
theorem Ext.below {w w':World}(h:Ext w w'):Below w.heap.size w w':=⟨h.os,h.tape,h.output,h.size,λk hk=>h.block k hk (by simp)⟩
theorem Ext.grown {w w':World}(h:Ext w w')(row:Option Nat):w.grownBy w' row:=⟨h.os,h.tape,h.output,h.size,λk hk _=>h.block k hk (by simp)⟩
theorem aQ9 {a b c:World}{row:Option Nat}(h:a.grownBy b row)(k:b.grownBy c row):a.grownBy c row:=
 ⟨k.os.trans h.os,k.tape.trans h.tape,k.output.trans h.output,Ze h.size k.size,λi hi hn=>(k.block i (Vy hi h.size) hn).trans (h.block i hi hn)⟩
def Blk (w:World)(g:Nat)(t:TypeId)(cs:List Value):Prop:=w.heap[g]? =some (.cells cs.toArray t (0,0))
theorem Blk.lt {w:World}{g t:Nat}{cs:List Value}(h:Blk w g t cs):g<w.heap.size:=(er.1 h).1
theorem Blk.ext {w w':World}{g t:Nat}{cs:List Value}(h:Blk w g t cs)(k:Ext w w'):Blk w' g t cs:=(k.block g h.lt (by simp)).trans h
theorem nT (g j:Nat):(⟨g,0,none⟩:Addr).add j=⟨g,j,none⟩:=by unfold Addr.add;split<;>simp_all
theorem Blk.cell {w:World}{g t:Nat}{cs:List Value}(h:Blk w g t cs)(j:Nat):w.cell? ((⟨g,0,none⟩:Addr).add j)=cs[j]? :=by
 rw[nT,cell_of_row w g j _ t _ h];simp
theorem Blk.frozen {w:World}{g t:Nat}{cs:List Value}(h:Blk w g t cs)(j:Nat):w.frozen? ((⟨g,0,none⟩:Addr).add j)=false:=by
 rw[nT];exact frozen_of_row w g j _ t h
theorem Blk.new (w:World)(t:TypeId)(cs:List Value):Blk (w.alloc (.cells cs.toArray t)) w.heap.size t cs:=heap_alloc_new w _
theorem bQa (w:World)(a:Addr)(v:Value):w.grownBy (w.setCell a v) (some a.block):=
 ⟨rfl,rfl,rfl,by simp,λk _ hn=>Below.heap_setCell w a v k (λe=>hn (by rw[e]))⟩
theorem Blk.set {w:World}{g t:Nat}{cs:List Value}(h:Blk w g t cs)(j:Nat)(v:Value):Blk (w.setCell ((⟨g,0,none⟩:Addr).add j) v) g t (cs.set j v):=by
 rw[nT];have:=heap_setCell_same w g j cs.toArray t v h;unfold Blk;rw[this];simp
structure Sl (w:World) (sz:Nat) (A:Option Addr) (n c:Nat) (cs:List Value):Prop where
 len:cs.length=n*sz
 le:n<=c
 cap:c<=maxLen
 at_:0<n->∃ad,A=some ad/\∀j u,cs[j]? =some u->w.cell? (ad.add j)=some u
theorem Sl.ext {w w':World}{sz n c:Nat}{A:Option Addr}{cs:List Value}(h:Sl w sz A n c cs)(k:Ext w w'):Sl w' sz A n c cs:=
 ⟨h.len,h.le,h.cap,λhn=>let ⟨ad,e,hc⟩:=h.at_ hn;⟨ad,e,λj u hu=>k.cell (hc j u hu)⟩⟩
theorem Sl.nil (w:World)(sz:Nat):Sl w sz none 0 0 []:=⟨by simp,QE _,by simp[maxLen],λh=>Xm h (by omega)⟩
theorem Sl.take {w:World}{sz n c:Nat}{A:Option Addr}{cs:List Value}(h:Sl w sz A n c cs){m:Nat}(hm:m<=n):Sl w sz A m c (cs.take (m*sz)):=
 ⟨by rw[Ye,h.len];exact nD (Wq _ hm),Ze hm h.le,h.cap,λhn=>let ⟨ad,e,hc⟩:=h.at_ (by omega);⟨ad,e,λj u hu=>hc j u (by
  rw[CD] at hu;split at hu<;>simp_all)⟩⟩
theorem Sl.own {w:World}{g t sz n c:Nat}{cs:List Value}(h:Blk w g t cs)(hn:n<=c)(hc:c<=maxLen)(hl:n*sz<=cs.length):Sl w sz (some ⟨g,0,none⟩) n c (cs.take (n*sz)):=
 ⟨by rw[Ye];exact nD hl,hn,hc,λ_=>⟨_,rfl,λj u hu=>by
  rw[h.cell];rw[CD] at hu;split at hu<;>simp_all⟩⟩
theorem Sl.own' {w:World}{g t n:Nat}{cs:List Value}(h:Blk w g t cs)(hl:cs.length=n)(hn:n<=maxLen):Sl w 1 (some ⟨g,0,none⟩) n n cs:=by
 have:=Sl.own (sz:=1) h (QE n) hn (by omega)
 rwa [Jz (by omega)] at this
def Fresh (w w':World)(A:Option Addr):Prop:=∀ad,A=some ad->w.heap.size<=ad.block/\ad.block<w'.heap.size
theorem Fresh.ext {w w' w2:World}{A:Option Addr}(h:Fresh w w' A)(k:Ext w' w2):Fresh w w2 A:=λad e=>⟨(h ad e).1,Vy (h ad e).2 k.size⟩
theorem Y3 {b:Bool}{p q:Prop}(hp:b=true->p)(hq:b=false->q):Kp b p q:=by unfold Kp;exact⟨hp,hq⟩
theorem QB {c p q:Prop} [Decidable c](hp:c->p)(hq:¬c->q):Kp (decide c) p q:=Y3 (λh=>hp (fB h)) (λh=>hq (of_decide_eq_false h))
theorem Xc {b:Bool}{p q:Prop}(hb:b=true)(hp:p):Kp b p q:=Y3 (λ_=>hp) (λh=>by rw[hb] at h;cases h)
theorem Xt {b:Bool}{p q:Prop}(hb:b=false)(hq:q):Kp b p q:=Y3 (λh=>by rw[hb] at h;cases h) (λ_=>hq)
theorem X7 {c p q:Prop} [Decidable c](hc:c)(hp:p):Kp (decide c) p q:=Xc (XX hc) hp
theorem Xy {c p q:Prop} [Decidable c](hc:¬c)(hq:q):Kp (decide c) p q:=Xt (Zf hc) hq
theorem Zn {x y:Int}{p q:Prop}(hp:x=y->p)(hq:x≠y->q):Kp (x==y) p q:=Y3 (λh=>hp (by simpa using h)) (λh=>hq (by simpa using h))
theorem Jp {x y:Int}{p q:Prop}(h:x=y)(hp:p):Kp (x==y) p q:=Xc (by simpa using h) hp
theorem XP {x y:Int}{p q:Prop}(h:x≠y)(hq:q):Kp (x==y) p q:=Xt (by simpa using h) hq
theorem aB {x y:Int}{p q:Prop}(hp:x≠y->p)(hq:x=y->q):Kp (x !=y) p q:=Y3 (λh=>hp (by simpa using h)) (λh=>hq (by simpa using h))
theorem qA {x y:Int}{p q:Prop}(h:x≠y)(hp:p):Kp (x !=y) p q:=Xc (by simpa using h) hp
theorem Wx {x y:Int}{p q:Prop}(h:x=y)(hq:q):Kp (x !=y) p q:=Xt (by simpa using h) hq
theorem lk {b:Bool}{p q:Prop}(h:Kp b q p):Kp (!b) p q:=by unfold Kp at*;cases b<;>simp_all
theorem norm {n m:Int}{K:Int->Prop}(h:n=m)(k:K m):az n K:=by unfold az;rw[h];exact k
theorem bQb {n:Int}{K:Int->Prop}(h: -9223372036854775808<=n/\n<=9223372036854775807)(k:K n):az (IntKind.i64.wrap n) K:=norm (IntWalk.i64_in n h) k
theorem yb {n:Int}{K:Int->Prop}(h:0<=n/\n<=18446744073709551615)(k:K n):az (IntKind.u64.wrap n) K:=norm (IntWalk.u64_in n h) k
theorem bQc {n:Int}{K:Int->Prop}(h:0<=n/\n<=255)(k:K n):az (IntKind.u8.wrap n) K:=norm (IntWalk.u8_in n h) k
theorem Qm {n:Int}{K:Int->Prop}(m:Int)(hm:n=m)(h: -9223372036854775808<=m/\m<=9223372036854775807)(k:K m):az (IntKind.i64.wrap n) K:=by subst hm;exact bQb h k
theorem nU {n:Int}{K:Int->Prop}(m:Int)(hm:n=m)(h:0<=m/\m<=18446744073709551615)(k:K m):az (IntKind.u64.wrap n) K:=by subst hm;exact yb h k
theorem L5 {n:Int}{K:Int->Prop}(m:Int)(hm:n=m)(h:0<=m/\m<=255)(k:K m):az (IntKind.u8.wrap n) K:=by subst hm;exact bQc h k
theorem normIf {p:Prop}{n m:Int}{K:Int->Prop}(hp:p)(h:n=m)(k:K m):eB p n K:=by unfold eB;rw[h];exact⟨hp,k⟩
theorem need {p:Prop}{v:Value}{K:Value->Prop}(hp:p)(k:K v):gW p v K:=by unfold gW;exact⟨hp,k⟩
theorem L6 {a b s:Nat}{K:Int->Prop}(hs:a ||| b=s)(ha:a<18446744073709551616)(hb:b<18446744073709551616)(k:K (s:Int)):az (IntKind.u64.wrap ((BitVec.ofInt IntKind.u64.bits (a:Int) ||| BitVec.ofInt IntKind.u64.bits (b:Int)).toNat:Int)) K:=by
 have Xa:a ||| b<2^64:=Nat.or_lt_two_pow (by omega) (by omega)
 refine norm ?_ k;rw[BitVec.toNat_or,BitVec.ofInt_natCast,BitVec.ofInt_natCast,BitVec.toNat_ofNat,BitVec.toNat_ofNat];simp only[IntKind.bits];rw[aw (by omega),aw (by omega),hs];rw[hs] at Xa;exact IntWalk.u64_in _ (by omega)
theorem bQd (x:Nat)(n:Nat):(x:Int).fdiv (2^n)=((x/2^n:Nat):Int):=by
 rw[Int.fdiv_eq_ediv_of_nonneg _ (Int.le_of_lt (Int.pow_pos (by decide)))]
 norm_cast
theorem bQe (n:Nat):IntKind.u32.wrap (n:Int)=((n % 4294967296:Nat):Int):=by rw[IntKind.wrap_u32];omega
theorem bQf (a b:Nat):(a:Int).tmod (b:Int)=((a % b:Nat):Int):=by rw[Int.tmod_eq_emod_of_nonneg (by omega)];norm_cast
theorem bQg (a b:Nat):(a:Int).tdiv (b:Int)=((a/b:Nat):Int):=by rw[Int.tdiv_eq_ediv_of_nonneg (by omega)];norm_cast
theorem yd {x:Nat}{k:IntKind}{y:Int}{K:Int->Prop}(n d:Nat)(hy:0<=y)(hn:min y.toNat k.bits=n)(hd:2^n=d)(h:K ((x/d:Nat):Int)):eB (0<=y) ((x:Int).fdiv (2^(min y.toNat k.bits))) K:=by
 subst hd;rw[hn];exact(by unfold eB;exact⟨hy,by rw[bQd];exact h⟩)
theorem ye {n:Nat}{K:Int->Prop}(k:K ((n % 4294967296:Nat):Int)):az (IntKind.u32.wrap (n:Int)) K:=norm (bQe n) k
theorem yf {x:Nat}{d:Nat}{K:Int->Prop}(hd:0<d)(k:K ((x % d:Nat):Int)):eB ((d:Int)≠0) ((x:Int).tmod d) K:=normIf (by omega) (bQf x d) k
theorem load {w:World}{p:Addr}{v:Value}{K:Value->Prop}(h:w.cell? p=some v)(k:K v):fC w p K:=by unfold fC;exact⟨v,h,k⟩
theorem Qp {w:World}{g t:Nat}{cs:List Value}{j:Nat}{v:Value}{K:Value->Prop}(h:Blk w g t cs)(hv:cs[j]? =some v)(k:K v):fC w ((⟨g,0,none⟩:Addr).add j) K:=load (by rw[h.cell];exact hv) k
theorem yg {w:World}{g t:Nat}{cs:List Value}{j:Nat}{v:Value}{K:World->Prop}(h:Blk w g t cs)(hj:j<cs.length)(k:∀w1,w.grownBy w1 (some g)->Blk w1 g t (cs.set j v)->K w1):fD w ((⟨g,0,none⟩:Addr).add j) v K:=by
 unfold fD;refine⟨⟨cs[j],by rw[h.cell];simp[hj]⟩,h.frozen j,k _ ?_ (h.set j v)⟩;have:=bQa w ((⟨g,0,none⟩:Addr).add j) v;rw[nT] at this ⊢;exact this
theorem index {a:Addr}{n j:Nat}{K:Addr->Prop}(hj:j<n)(k:K (a.add j)):YM (some a) n (j:Int) 1 K:=by
 unfold YM;exact⟨a,rfl,by omega,by omega,by simpa using k⟩
theorem JC {a:Addr}{n j sz:Nat}{K:Addr->Prop}(hj:j<n)(k:K (a.add (j*sz))):YM (some a) n (j:Int) sz K:=by
 unfold YM;exact⟨a,rfl,by omega,by omega,by simpa using k⟩
theorem Vz {w:World}{A:Option Addr}{n c j:Nat}{cs:List Value}{K:Addr->Prop}(h:Sl w 1 A n c cs)(hj:j<n)(k:∀ad u,A=some ad->cs[j]? =some u->w.cell? (ad.add j)=some u->K (ad.add j)):YM A n (j:Int) 1 K:=by
 obtain⟨ad,rfl,hc⟩:=h.at_ (by omega);have hl:j<cs.length:=by have:=h.len;omega
 exact index hj (k ad cs[j] rfl (by simp[hl]) (hc j _ (by simp[hl])))
theorem bQh {s:ByteArray}{j:Nat}{K:Int->Prop}(hj:j<s.size)(k:K (s[j].toNat:Int)):dk s (j:Int) K:=by
 unfold dk;exact⟨s[j],by omega,by simp[hj],k⟩
theorem QL {C:World->Prop}{p:Addr}{v:Value}{K:Value->Prop}(h:∀w,C w->w.cell? p=some v)(k:K v):qx C p K:=by unfold qx;exact⟨v,h,k⟩
theorem tR {c:Cx}(hg:c.g.Ok){id:Nat}{ops:List Oper}{S:Env}{w:World}{Q:Zd}(hB:Region.lexB .any ops.toArray=true)
  (h:Ww c ops ops S (Ext w) (λS=>∀w',Ext w w'->Q .normal S w')):Wv c id ops S w Q:=aQ8 hg (Ext w) (Ext.drew w) hB h
theorem Jh {c:Cx}{o:Oper}{S:Env}{w w':World}{K:Env->World->Prop}{Q:Zd}{v:Value}(h:∀a,Fits c.N S a->(execOp a.eval o).run c.g.P w= .ok (.value v) w')(k:Xf c S o.dst (.v v) (λS=>K S w')):X3 c o S w K Q:=by
 unfold X3;intro a hf;exact aA (h a hf) (Zp (e:=.v v) k hf)
theorem L7 (z:Value)(n:Nat):madeCells #[z] n=Array.replicate n z:=by
 apply Array.ext
 ·simp[madeCells]
 ·intro i h1 h2;simp[madeCells,Nat.mod_one]
theorem yh {c:Cx}(hg:c.g.Ok){o:Oper}{S:Env}{w:World}{K:Env->World->Prop}{Q:Zd}{t e:Nat}{x y:Operand}{n:Nat}{r re:TyRow}(ho:o.op= .makeSlice t x y)(hr:QR c.g.tys t=some r)(hd:r.d= .slice e)(X2:QR c.g.tys e=some re)(hz:re.z.cells= #[re.z])
  (hs:re.sz=1) (hx:S.ev x=some (.int .i64 n)) (hy:S.ev y=some (.int .i64 n)) (hb:re.by_*n<=281474976710656) (hn:n<=maxLen)
  (k:∀w1,Ext w w1->w1.heap.size=w.heap.size+1->Blk w1 w.heap.size e (List.replicate n re.z)->Xf c S o.dst (.v (.slice (some ⟨w.heap.size,0,none⟩) n n)) (λS=>K S w1)):X3 c o S w K Q:=by
 obtain⟨_,i,hi,XW,aW,aX⟩:=hg.row X2;have Q0:=(hg.row hr).1;rw[hd] at Q0;have aN:=run_make (P:=c.g.P) w t e i re.z Q0 hi aX .i64 .i64 n n (by omega) (by omega) (by rw[aW];omega) (by unfold maxLen at hn;omega);rw[hz,XW,hs,L7] at aN;refine Jh (w':=w.alloc (.cells (Array.replicate n re.z) e)) (v:=.slice (some ⟨w.heap.size,0,none⟩) n n) (λa hf=>?_) (k _ (Ext.alloc w _) (by simp) ?_)
 ·have e1:=hf.ev hx;have e2:=hf.ev hy;simp only[execOp,ho,e1,e2];simp at aN ⊢;rw[aN]<;>rfl
 ·have:=Blk.new w e (List.replicate n re.z);simpa using this
theorem ji {c:Cx}(hg:c.g.Ok){o:Oper}{S:Env}{w:World}{K:Env->World->Prop}{Q:Zd}{t e:Nat}{x y:Operand}{A:Option Addr}{n cp:Nat}{h:Nat}{r:TyRow}(ho:o.op= .slice t x none (some y) none)(hr:QR c.g.tys t=some r)(hd:r.d= .slice e){re:TyRow}(X2:QR c.g.tys e=some re)
  (hx:S.ev x=some (.slice A n cp)) (hy:S.ev y=some (.int .i64 h)) (hh:h<=cp)
  (k:Xf c S o.dst (.v (.slice A h cp)) (λS=>K S w)):X3 c o S w K Q:=by
 have Q0:=(hg.row hr).1;rw[hd] at Q0;refine Jh (w':=w) (λa hf=>?_) k;have e1:=hf.ev hx;have e2:=hf.ev hy;simp[execOp,ho,e1,e2,Instr.sliceAt,Instr.slice,ZI Q0,Instr.sliceBounds,Instr.sliceBound,asIntOf,hh,run_sizeOf hg X2];intro _;cases A<;>simp[Addr.add]
theorem L8 {c:Cx}(hg:c.g.Ok){o:Oper}{S:Env}{w:World}{K:Env->World->Prop}{Q:Zd}{t e:Nat}{x y:Operand}{A:Option Addr}{n cp:Nat}{l:Nat}{r:TyRow}(ho:o.op= .slice t x (some y) none none)(hr:QR c.g.tys t=some r)(hd:r.d= .slice e){re:TyRow}(X2:QR c.g.tys e=some re)
  (hx:S.ev x=some (.slice A n cp)) (hy:S.ev y=some (.int .i64 l)) (hl:l<=n)
  (k:Xf c S o.dst (.v (.slice (if cp=l then A else A.map (·.add (l*re.sz))) (n-l) (cp-l))) (λS=>K S w)):X3 c o S w K Q:=by
 have Q0:=(hg.row hr).1;rw[hd] at Q0;refine Jh (w':=w) (λa hf=>?_) k;have e1:=hf.ev hx;have e2:=hf.ev hy;simp[execOp,ho,e1,e2,Instr.sliceAt,Instr.slice,ZI Q0,Instr.sliceBounds,Instr.sliceBound,asIntOf,hl,run_sizeOf hg X2]
structure Own (w:World) (base e sz:Nat) (A:Option Addr) (n c:Nat) (cs:List Value):Prop where
 row:w.ownsRow base e sz (.slice A n c) n cs
theorem mQy {w:World}{base e sz:Nat}{v:Value}{n:Nat}{cs:List Value}(h:w.ownsRow base e sz v n cs):∃A c,v= .slice A n c/\Own w base e sz A n c cs:=by
 rcases h.2 with⟨rfl,rfl⟩ | ⟨g,cap,ZB,rfl,r⟩
 ·exact⟨none,0,rfl,⟨h⟩⟩
 ·exact⟨_,cap,rfl,⟨h⟩⟩
theorem Own.sl {w:World}{base e sz n c:Nat}{A:Option Addr}{cs:List Value}(h:Own w base e sz A n c cs):Sl w sz A n c cs:=by
 have h:=h.row;have h1:=h.1;rcases h.2 with⟨hv,rfl⟩ | ⟨g,cap,ZB,hv,hb,hg,hn,hm,hs,ht⟩
 ·cases hv;exact⟨h1,QE _,by simp[maxLen],λh=>Xm h (by omega)⟩
 ·cases hv;refine⟨h1,hn,hm,λ_=>⟨_,rfl,λj u hu=>?_⟩⟩;exact World.ownsRow.cells h (g:=g) rfl j u hu
theorem Own.ext {w w':World}{base e sz n c:Nat}{A:Option Addr}{cs:List Value}(h:Own w base e sz A n c cs)(k:Ext w w'):Own w' base e sz A n c cs:=
 ⟨h.row.kept k (by cases hv:(Value.slice A n c).ownBlock<;>simp)⟩
theorem Own.empty {w:World}{g e sz:Nat}{base:Nat}(h:Blk w g e [])(hb:base<=g):Own w base e sz (some ⟨g,0,none⟩) 0 0 []:=
 ⟨⟨by simp,.inr ⟨g,0,_,rfl,hb,h,QE _,by simp[maxLen],by simp,by simp⟩⟩⟩
theorem Own.nil (w:World)(base e sz:Nat):Own w base e sz none 0 0 []:=⟨World.ownsRow_nil w base e sz⟩
theorem Own.blk {w:World}{base e n c:Nat}{A:Option Addr}{cs:List Value}(h:Own w base e 1 A n c cs)(hn:0<n):∃g sp,A=some ⟨g,0,none⟩/\base<=g/\Blk w g e (cs++sp)/\(cs++sp).length=c:=by
 have h:=h.row;rcases h.2 with⟨hv,rfl⟩ | ⟨g,cap,ZB,hv,hb,hg,Kb,hm,hs,ht⟩
 ·omega
 ·cases hv;refine⟨g,ZB.toList.drop n,rfl,hb,?_⟩;rw[gR] at ht;rw[<-ht,qj];exact⟨by simpa [Blk] using hg,by simpa using hs⟩
theorem nV (a:Addr)(j:Nat):(a.add j).block=a.block:=by unfold Addr.add;split<;>rfl
theorem yi {u:Value}(h:Jo u=true):u.oneCell'=true:=by cases u<;>first | rfl | (simp[Jo] at h)
theorem bQi (z v:Value)(h:Jo v=true):Instr.fill (λi=>some (i*1,1)) #[z] [(0,v)]=some #[v]:=by
 have hc:v.cells= #[v]:=by cases v<;>first | rfl | (simp[Jo] at h)
 simp[Instr.fill,hc]
theorem bQj (z v u:Value)(h:Jo v=true)(h':Jo u=true):Instr.fill (λi=>some (i*1,1)) #[z,z] [(0,v),(1,u)]=some #[v,u]:=by
 have hc:v.cells= #[v]:=by cases v<;>first | rfl | (simp[Jo] at h)
 have Kc:u.cells= #[u]:=by cases u<;>first | rfl | (simp[Jo] at h')
 simp[Instr.fill,hc,Kc]
section
variable {c:Cx} (hg:c.g.Ok) {o:Oper} {S:Env} {w:World} {K:Env->World->Prop} {Q:Zd} {t e:Nat} {r re:TyRow}
include hg
theorem L9 (hr:QR c.g.tys t=some r)(hd:r.d= .slice e)(X2:QR c.g.tys e=some re)(hs:re.sz=1)(hz:re.z.cells= #[re.z])(n:Nat)(hn:n<=1000)(parts:Array (Nat×Value))(cs:List Value)
  (hf:Instr.fill (λi=>some (i*1,1)) (Array.replicate n re.z) parts.toList=some cs.toArray):
  (Instr.buildSlice t n parts).run c.g.P w= .ok (.slice (some ⟨w.heap.size,0,none⟩) n n) (w.alloc (.cells cs.toArray e)):=by
 obtain⟨_,i,hi,XW,mP,aX⟩:=hg.row X2;have Q0:=(hg.row hr).1;rw[hd] at Q0;have e1:(Array.range n).map (λj=>(#[re.z]:Array Value)[j % (#[re.z]:Array Value).size]!)=Array.replicate n re.z:=L7 re.z n;have fZ:¬(16777216<n):=by omega
 by_cases h0:n=0
 ·subst h0;simp[Instr.buildSlice,ZI Q0,sizeOf,typeInfo,hi,XW,hs,newRow] at hf ⊢;rw[show Array.map (λ_=>(default:Value)) (Array.range 0)= #[] by simp[Array.range_zero'],hf];simp
 ·simp[Instr.buildSlice,ZI Q0,sizeOf,typeInfo,hi,XW,hs,newRow,fZ,h0,zeroValue,aX,hz];simp at e1 hf;rw[e1,hf];simp
theorem Ma {x:Operand}{v:Value}(ho:o.op= .buildSlice t 1 #[(0,x)])(hr:QR c.g.tys t=some r)(hd:r.d= .slice e)(X2:QR c.g.tys e=some re)(hs:re.sz=1)(hz:re.z.cells= #[re.z])(hx:S.ev x=some v)(hv:Jo v=true)
  (k:∀w1,Ext w w1->w1.heap.size=w.heap.size+1->Blk w1 w.heap.size e [v]->Xf c S o.dst (.v (.slice (some ⟨w.heap.size,0,none⟩) 1 1)) (λS=>K S w1)):X3 c o S w K Q:=by
 have Z1:=L9 (w:=w) hg hr hd X2 hs hz 1 (by omega) #[(0,v)] [v] (bQi re.z v hv);refine Jh (w':=w.alloc (.cells #[v] e)) (λa hf=>?_) (k _ (Ext.alloc w _) (by simp) (Blk.new w e [v]));have e1:=hf.ev hx;simp only[execOp,ho];simp[e1,Z1]
theorem qC {x y:Operand}{v u:Value}(ho:o.op= .buildSlice t 2 #[(0,x),(1,y)])(hr:QR c.g.tys t=some r)(hd:r.d= .slice e)(X2:QR c.g.tys e=some re)(hs:re.sz=1)(hz:re.z.cells= #[re.z])(hx:S.ev x=some v)(hy:S.ev y=some u)(hv:Jo v=true)(hu:Jo u=true)
  (k:∀w1,Ext w w1->w1.heap.size=w.heap.size+1->Blk w1 w.heap.size e [v,u]->Xf c S o.dst (.v (.slice (some ⟨w.heap.size,0,none⟩) 2 2)) (λS=>K S w1)):X3 c o S w K Q:=by
 have Z1:=L9 (w:=w) hg hr hd X2 hs hz 2 (by omega) #[(0,v),(1,u)] [v,u] (bQj re.z v u hv hu);refine Jh (w':=w.alloc (.cells #[v,u] e)) (λa hf=>?_) (k _ (Ext.alloc w _) (by simp) (Blk.new w e [v,u]));have e1:=hf.ev hx;have e2:=hf.ev hy;simp only[execOp,ho];simp[e1,e2,Z1]
end
theorem bQk {c:Cx}(hg:c.g.Ok){o:Oper}{S:Env}{w:World}{K:Env->World->Prop}{Q:Zd}{t t2 e:Nat}{x y:Operand}{g n cp:Nat}{A:Option Addr}{m c2:Nat}{xs ys:List Value}{r re:TyRow}
  (ho:o.op= .call ⟨.builtin .copy, #[x,y], #[t,t2]⟩) (hr:QR c.g.tys t=some r) (hd:r.d= .slice e) (X2:QR c.g.tys e=some re) (hs:re.sz=1)
  (hx:S.ev x=some (.slice (some ⟨g,0,none⟩) n cp)) (hy:S.ev y=some (.slice A m c2)) (hb:Blk w g e xs) (ff:Sl w 1 A m c2 ys) (BU:m<=n) (bQ:n<=xs.length) (fg:∀u∈ys,Jo u=true)
  (k:∀w1,w.grownBy w1 (some g)->w1.heap.size=w.heap.size->Blk w1 g e (ys++xs.drop m)->Xf c S o.dst (.v (.int .i64 m)) (λS=>K S w1)):X3 c o S w K Q:=by
 obtain⟨_,i,hi,XW,mP,aX⟩:=hg.row X2;have Q0:=(hg.row hr).1;rw[hd] at Q0;have Xb:ys.length=m:=by have:=ff.len;omega
 have hfc:(Builtin.firstCells 1 m (.slice A m c2)).run c.g.P w= .ok ys.toArray w:=by
  by_cases h0:m=0
  ·subst h0;have:ys=[]:=Y0 Xb;subst this;cases A<;>simp[Builtin.firstCells,loadCells,loadCellsFrom]
  ·obtain⟨ad,rfl,hc⟩:=ff.at_ (by omega);have:=run_loadCells_list (P:=c.g.P) (w:=w) ad ys hc;rw[Xb] at this;simpa [Builtin.firstCells] using this
 have mN:=run_storeCells_at c.g.P g 0 e ys 0 xs.toArray w hb (by simp;omega) (λu hu=>yi (fg u hu));simp only[a8,Nat.add_zero] at mN;have mQ:Nat.min m n=m:=nD BU;refine Jh (w':=w.setRow g (ys++xs.drop m).toArray) (v:=.int .i64 m) (λa hf=>?_) (k _ ?_ (by simp) ?_)
 ·have e1:=hf.ev hx;have e2:=hf.ev hy;have kQr:(storeCells (⟨g,0,none⟩:Addr) ys).run c.g.P w= .ok () (w.setRow g (ys++xs.drop m).toArray):=by
   have:=mN;rw[Xb] at this;simpa [nT] using this
  simp only[execOp,ho,resolve,invoke];simp[builtin,e1,e2,Builtin.copy_,ZI Q0,sizeOf,typeInfo,hi,XW,hs,Builtin.lenOf,mQ,hfc,kQr,goInt]
 ·exact⟨rfl,rfl,rfl,by simp,λj _ hj=>setRow_other w g j _ (λe=>hj (by rw[e]))⟩
 ·exact setRow_heap w g xs.toArray _ e _ hb
def Ji (l:List Nat):List Value:=l.map λ(x:Nat)=>.int .u8 x
def Qf (l:List Nat):ByteArray:=⟨(l.map UInt8.ofNat).toArray⟩
theorem Dh {l:List Nat}{j x:Nat}(h:l[j]? =some x):(Ji l)[j]? =some (.int .u8 (x:Int)):=by simp[Ji,h]
theorem yj (l m:List Nat):Ji (l++m)=Ji l++Ji m:=by simp[Ji]
theorem tS (l:List Nat):(Ji l).length=l.length:=by simp[Ji]
theorem jj (l m:List Nat):Qf l++Qf m=Qf (l++m):=by
 apply ByteArray.ext;simp[Qf,ByteArray.data_append]
theorem XU (l:List Nat):(Qf l).size=l.length:=by simp[Qf,ByteArray.size]
def Yv (s:ByteArray):List Nat:=s.data.toList.map UInt8.toNat
theorem tT (s:ByteArray):(Yv s).length=s.size:=by simp[Yv]
theorem bQl (s:ByteArray):∀x∈Yv s,x<256:=by
 intro x hx;simp only[Yv,ZY] at hx;obtain⟨b,_,rfl⟩:=hx;exact b.toNat_lt
theorem Mb {s:ByteArray}{j:Nat}(hj:j<s.size):(Yv s)[j]? =some s[j].toNat:=by
 have h':j<s.data.size:=hj;have:s[j]=s.data[j]:=rfl;rw[this];simp only[Yv,K2,Array.getElem?_toList];rw[Array.getElem?_eq_getElem h']<;>rfl
theorem dt {s:ByteArray}{j:Nat}{K:Int->Prop}(hj:j<s.size)(k:∀x,(Yv s)[j]? =some x->x<256->K (x:Int)):dk s (j:Int) K:=
 bQh hj (k _ (Mb hj) (s[j]).toNat_lt)
theorem bQm (s:ByteArray):Qf (Yv s)=s:=by
 apply ByteArray.ext;simp[Qf,Yv,Function.comp_def]
theorem Wy {l:List Nat}(h:∀x∈l,x<256):Yv (Qf l)=l:=by
 simp only[Yv,Qf,xx]
 conv=>rhs;rw[<-List.map_id l]
 apply List.map_congr_left;intro x hx;simp[aw (h x hx)]
theorem JD {l m:List Nat}(hl:∀x∈l,x<256)(hm:∀x∈m,x<256)(h:Qf l=Qf m):l=m:=by
 rw[<-Wy hl,<-Wy hm,h]
end
section
section
variable {P:Program} {ops:Array Oper} {md:Region.Mode} {C:World->Prop} {Q:Exit->Act->World->Prop}
def NoPan (Q:Exit->Act->World->Prop):Exit->Act->World->Prop
 | .panic _,_,_=>False
 | e,a,w=>Q e a w
theorem NoPan.imp {Q:Exit->Act->World->Prop}:∀(e:Exit)(a:Act)(w:World),NoPan Q e a w->Q e a w:=λe a w h=>by
 cases e<;>first | exact h | exact(h:False).elim
def Wz (P:Program)(md:Region.Mode)(ops:Array Oper)(Q:Exit->Act->World->Prop)(C:World->Prop)(n:Nat)(L:Array Bool->Act->World->Prop):Nat->Array Bool->Act->World->Prop
 | 0,listed,a,w=>L listed a w
 | f+1,listed,a,w=>
  Region.ready md ops listed≠ []/\∀i∈Region.ready md ops listed,i<n/\wpOp P ops Q i (λa' w'=>C w'/\Wz P md ops Q C n L f (listed.setIfInBounds i true) a' w') a w
theorem tU {n g:Nat}{L:Array Bool->Act->World->Prop}(hL:∀listed a w,L listed a w->wpAny P md ops Q g listed a w):
  ∀(f:Nat) (listed:Array Bool) (a:Act) (w:World),Wz P md ops Q C n L f listed a w->wpAny P md ops Q (f+g) listed a w
 | 0,listed,a,w,h=>by rw[a8];exact hL _ _ _ h
 | f+1,listed,a,w,h=>by
  rw[show f+1+g=(f+g)+1 by omega];exact⟨λh0=>Xm h0 h.1,λi hi=>wpOp_mono (λa' w' h'=>tU hL f _ a' w' h'.2) (h.2 i hi).2⟩
def jk (md:Region.Mode)(ops:Array Oper)(n:Nat):Prop:=n=ops.size∨(n<ops.size/\Region.sinkB md ops n=true/\Region.chainB md ops n=true)
theorem qD {n i:Nat}{listed:Array Bool}(hs:jk md ops n)(inv:HeadInv md ops n listed)(Q7:i<n)(Jy:listed.getD i true=false):∀j∈Region.ready md ops listed,j<n:=by
 intro j hj;rcases hs with hs | ⟨h1,h2,h3⟩
 ·obtain⟨_,oj,dZ,_⟩:=mem_ready.1 hj;rw[hs];exact(er.1 dZ).1
 ·rcases Nat.lt_or_ge j n with h | h
  ·exact h
  ·exact Xm hj (tail_waits h2 h3 h1 inv _ i rfl Q7 Jy j h)
theorem Mc {n i:Nat}{oi:Oper}{v:Value}{L:Array Bool->Act->World->Prop}(hi:ops[i]? =some oi)(mR:∀(j:Nat)(o:Oper) cs b,ops[j]? =some o->o.op≠ .select cs b)
  (hs:jk md ops n) (Q7:i<n) (wA:∀listed a w,L listed a w->∀j∈Region.ready md ops listed,n<=j):
  ∀(f:Nat) (listed:Array Bool) (a:Act) (w:World),HeadInv md ops n listed->
   (∀j oj,ops[j]? =some oj->j≠i->listed.getD j true=false->(∀e∈oj.after,Region.binds md e=true->e.on≠i)->oi.apart ops oj=true)->
   i∈Region.ready md ops listed->YieldsIf P ops C oi v a->C w->
   Wz P md ops (NoPan Q) C n L f (listed.setIfInBounds i true) (a.put oi.dst v) w->Wz P md ops (NoPan Q) C n L (f+1) listed a w:=by
 intro f;induction f with
 | zero=>
  intro listed a w inv _ hr hy hC H;have Jy:=(mem_ready.1 hr).1;refine⟨λh=>(by rw[h] at hr;cases hr),λj hj=>?_⟩;have J3:=qD hs inv Q7 Jy j hj;refine⟨J3,?_⟩;by_cases KE:j=i
  ·subst KE;exact hy.wpOp hi hC ⟨hC,H⟩
  ·have:=wA _ _ _ H j (ready_mono hj KE);omega
 | succ f ih=>
  intro listed a w inv mS hr hy hC H;have Jy:=(mem_ready.1 hr).1;refine⟨λh=>(by rw[h] at hr;cases hr),λj hj=>?_⟩;have J3:=qD hs inv Q7 Jy j hj;refine⟨J3,?_⟩;by_cases KE:j=i
  ·subst KE;exact hy.wpOp hi hC ⟨hC,H⟩
  ·have h1:=(H.2 j (ready_mono hj KE)).2;obtain⟨mT,oj,dZ,hall⟩:=mem_ready.1 hj;have kG:∀e∈oj.after,Region.binds md e=true->e.on≠i:=λe he hb heq=>by
    have h1:=hall e he hb;rw[heq,getD_both Jy] at h1;cases h1
   have h2:=wpOp_putIf dZ (mS j oj dZ KE mT kG) (λcs b=>mR i oi cs b hi) (λcs b=>mR j oj cs b dZ) (λ_ _ _ h=>h) hy h1;have wB:∀k ok,ops[k]? =some ok->k≠i->(listed.setIfInBounds j true).getD k true=false->
     (∀e∈ok.after,Region.binds md e=true->e.on≠i)->oi.apart ops ok=true:=λk ok hk wC Jy Xi=>by
    refine mS k ok hk wC ?_ Xi;by_cases mU:j=k
    ·subst mU;exact mT
    ·rw[getD_set_ne true mU] at Jy;exact Jy
   refine wpOp_mono (λa' w' h3=>⟨h3.2.1,ih (listed.setIfInBounds j true) a' w' (inv.set hj J3) wB (ready_mono hr (Ne.symm KE)) h3.1 h3.2.1 ?_⟩) h2;rw[aQE _ _ KE];exact h3.2.2
def cm (md:Region.Mode)(ops:Array Oper)(n:Nat):List (Bool×Nat)->Array Bool->Bool
 | [],listed=>Region.seqB md ops (ops.size-n) n listed
 | (true,k)::l,listed=>Nat.blt k n&&(Region.ready md ops listed).contains k&&Region.free md ops listed k&&cm md ops n l (listed.setIfInBounds k true)
 | (false,k)::l,listed=>Nat.blt k n&&decide (Region.ready md ops listed=[k])&&cm md ops n l (listed.setIfInBounds k true)
def qE (md:Region.Mode)(ops:Array Oper)(n:Nat):Bool:=Nat.beq n ops.size||(Nat.blt n ops.size&&Region.sinkB md ops n&&Region.chainB md ops n)
theorem yk {n:Nat}(h:qE md ops n=true):jk md ops n:=by
 simp only[qE,Bool.or_eq_true,JR] at h;rcases h with h | ⟨⟨h1,h2⟩,h3⟩
 ·exact .inl (Vk h)
 ·exact .inr ⟨by rw[iZ] at h1;exact h1,h2,h3⟩
end
section
variable {c:Cx} {S:Env} {a:Act}
@[irreducible] def bi (c:Cx) (o:Oper) (S:Env) (C:World->Prop) (K:Env->Prop):Prop:=∃v,(∀a w,Fits c.N S a->C w->(execOp a.eval o).run c.g.P w= .ok (.value v) w)/\Xf c S o.dst (.v v) K
def qF (c:Cx)(o:Oper)(S:Env)(C:World->Prop)(K:Env->Prop):Prop:=
 match qv c.g S o.op with
 | .val v=>Xf c S o.dst (.v v) K
 | .ent e=>Xf c S o.dst e K
 | .norm k n=>az n (λm=>Xf c S o.dst (.v (.int k m)) K)
 | .normIf p k n=>eB p n (λm=>Xf c S o.dst (.v (.int k m)) K)
 | .need p v=>gW p v (λv=>Xf c S o.dst (.v v) K)
 | .no=>match o.op with
  | .load t x=>(match QR c.g.tys t,S.ev x with
   | some r,some (.pointer (some p))=>(match nL r.d with
    | false=>qx C p (λv=>Xf c S o.dst (.v v) K)
    | true=>qy C p r.sz (λvs=>Xf c S o.dst (.v (.agg vs.toArray)) K))
   | _,_=>bi c o S C K)
  | .indexAddr t x i=>(match QR c.g.tys t,S.ev x,S.ev i with
   | some ⟨_,.slice e,_,_,_⟩,some (.slice b n _),some (.int _ i)=>(match QR c.g.tys e with
    | some r=>YM b n i r.sz (λp=>Xf c S o.dst (.v (.pointer (some p))) K)
    | none=>bi c o S C K)
   | some ⟨_,.array n e,_,_,_⟩,some (.pointer (some p)),some (.int _ i)=>(match QR c.g.tys e with
    | some r=>YM (some p) n i r.sz (λp=>Xf c S o.dst (.v (.pointer (some p))) K)
    | none=>bi c o S C K)
   | _,_,_=>bi c o S C K)
  | .index t x i=>(match QR c.g.tys t,S.ev x,S.ev i with
   | some ⟨_,.string,_,_,_⟩,some (.string s),some (.int _ i)=>dk s i (λb=>Xf c S o.dst (.v (.int .u8 b)) K)
   | _,_,_=>bi c o S C K)
  | _=>bi c o S C K
def ib (all:List Oper)(o:Oper)(S:Env)(yes no:Env->Prop):Prop:=match o.guard with
 | none=>yes S
 | some (
     j,want)=>match Vm all j with
  | some oj=>(match oj.dst with
   | some d=>(match S.ent d with
    | some .t=>(match want with
     | true=>yes S
     | false=>no S)
    | some .f=>(match want with
     | false=>yes S
     | true=>no S)
    | some (.v (.bool b))=>(match want with
     | true=>Kp b (yes ((d,.t)::S)) (no ((d,.f)::S))
     | false=>Kp b (no ((d,.t)::S)) (yes ((d,.f)::S)))
    | some (.v (.tuple _))=>no S
    | _=>False)
   | none=>False)
  | none=>False
def jm (c:Cx)(all:List Oper)(C:World->Prop):List (Bool×Nat)->Env->World->(Env->World->Prop)->Prop
 | [],S,w,K=>K S w
 | (true,k)::l,S,w,K=>match Vm all k with
  | some o=>ib all o S (λS=>qF c o S C (λS=>jm c all C l S w K)) (λS=>Xf c S o.dst (.v undef) (λS=>jm c all C l S w K))
  | none=>False
 | (false,k)::l,S,w,K=>match Vm all k with
  | some o=>ib all o S (λS=>dm c o S w (λS w=>C w/\jm c all C l S w K) (λ_ _ _=>False)) (λS=>Xf c S o.dst (.v undef) (λS=>jm c all C l S w K))
  | none=>False
theorem ll {all:List Oper}{o:Oper}{yes no:Env->Prop}(h:ib all o S yes no)(hf:Fits c.N S a):
  (Region.wanted o (yielded all.toArray a.tmps)=true/\∃S',Fits c.N S' a/\yes S')∨(Region.wanted o (yielded all.toArray a.tmps)=false/\∃S',Fits c.N S' a/\no S'):=by
 have fit:∀(d:Nat) (b:Bool) (e:Ent),S.ent d=some (.v (.bool b))->e.val= .bool b->Fits c.N ((d,e)::S) a:=λd b e hd he=>by
  refine⟨hf.size,hf.defers,λk x hk=>?_⟩;simp only[Env.ent] at hk;split at hk
  ·rename_i hb;have:=Vk hb;subst this;cases hk;rw[he];exact hf.has _ _ hd
  ·exact hf.has _ _ hk
 unfold ib at h;split at h
 ·rename_i Kj;exact .inl ⟨by simp[Region.wanted,Kj],S,hf,h⟩
 ·rename_i j want Kj;split at h
  ·rename_i oj hj;split at h
   ·rename_i d hd;split at h
    ·rename_i Zx;have hw:=je Kj hj hd (hf.has _ _ Zx);split at h
     ·exact .inl ⟨by rw[hw];rfl,S,hf,h⟩
     ·exact .inr ⟨by rw[hw];rfl,S,hf,h⟩
    ·rename_i Zx;have hw:=je Kj hj hd (hf.has _ _ Zx);split at h
     ·exact .inl ⟨by rw[hw];rfl,S,hf,h⟩
     ·exact .inr ⟨by rw[hw];rfl,S,hf,h⟩
    ·rename_i b Zx;have hw:=je Kj hj hd (hf.has _ _ Zx);split at h
     ·unfold Kp at h;cases b with
      | true=>exact .inl ⟨by rw[hw];rfl,_,fit d true .t Zx rfl,h.1 rfl⟩
      | false=>exact .inr ⟨by rw[hw];rfl,_,fit d false .f Zx rfl,h.2 rfl⟩
     ·unfold Kp at h;cases b with
      | true=>exact .inr ⟨by rw[hw];rfl,_,fit d true .t Zx rfl,h.1 rfl⟩
      | false=>exact .inl ⟨by rw[hw];rfl,_,fit d false .f Zx rfl,h.2 rfl⟩
    ·rename_i Zx;exact .inr ⟨Dc Kj hj hd (hf.has _ _ Zx),S,hf,h⟩
    ·exact h.elim
   ·exact h.elim
  ·exact h.elim
theorem ym (hg:c.g.Ok){o:Oper}{C:World->Prop}{K:Env->Prop}(h:qF c o S C K)(hf:Fits c.N S a):
  ∃v,(∀w,C w->(execOp a.eval o).run c.g.P w= .ok (.value v) w)/\∃S',Fits c.N S' (a.put o.dst v)/\K S':=by
 have Kl:bi c o S C K->∃v,(∀w,C w->(execOp a.eval o).run c.g.P w= .ok (.value v) w)/\∃S',Fits c.N S' (a.put o.dst v)/\K S':=λh=>by
  unfold bi at h;obtain⟨v,h1,h2⟩:=h;exact⟨v,λw hw=>h1 a w hf hw,Zp (e:=.v v) h2 hf⟩
 unfold qF at h;split at h
 ·rename_i v hp;exact⟨v,λw _=>bg (w:=w) hg hf hp,Zp (e:=.v v) h hf⟩
 ·rename_i e hp;exact⟨e.val,λw _=>bg (w:=w) hg hf hp,Zp (e:=e) h hf⟩
 ·rename_i k n hp;unfold az at h;exact⟨_,λw _=>bg (w:=w) hg hf hp,Zp (e:=.v (.int k n)) h hf⟩
 ·rename_i p k n hp;unfold eB at h;exact⟨_,λw _=>bg (w:=w) hg hf hp h.1,Zp (e:=.v (.int k n)) h.2 hf⟩
 ·rename_i p v hp;unfold gW at h;exact⟨_,λw _=>bg (w:=w) hg hf hp h.1,Zp (e:=.v v) h.2 hf⟩
 ·obtain⟨dst,op,ty,pos,aft,gd⟩:=o;simp only at h Kl ⊢;split at h
  ·rename_i t x;split at h
   ·rename_i r p hr hx;have e1:=hf.ev hx;split at h
    ·rename_i hd;unfold qx at h;obtain⟨v,hv,hk⟩:=h;refine⟨v,λw hw=>?_,Zp (e:=.v v) hk hf⟩;simp[execOp,e1,Instr.loadAt,Instr.sureAddr,loadVar,lf hg hr,hd,hv w hw]
    ·rename_i hd;unfold qy at h;obtain⟨vs,hl,hv,hk⟩:=h;refine⟨.agg vs.toArray,λw hw=>?_,Zp (e:=.v (.agg vs.toArray)) hk hf⟩;have h2:=run_loadCells_list (P:=c.g.P) (w:=w) p vs (hv w hw);rw[hl] at h2;simp[execOp,e1,Instr.loadAt,Instr.sureAddr,loadVar,lf hg hr,hd,run_sizeOf hg hr,h2]
   ·exact Kl h
  ·rename_i t x ix;split at h
   ·rename_i e b n k i hr hx hi;split at h
    ·rename_i r X2;unfold YM at h;obtain⟨p,rfl,h0,h1,hk⟩:=h;have e1:=hf.ev hx;have e2:=hf.ev hi;refine⟨.pointer (some (p.add (i.toNat*r.sz))),λw _=>?_,Zp (e:=.v _) hk hf⟩;simp[execOp,e1,e2,Instr.indexAt,asIntOf,Yu hg hr,run_sizeOf hg X2,h0,h1]
    ·exact Kl h
   ·rename_i n e p k i hr hx hi;split at h
    ·rename_i r X2;unfold YM at h;obtain⟨p',hp,h0,h1,hk⟩:=h;cases hp;have e1:=hf.ev hx;have e2:=hf.ev hi;refine⟨.pointer (some (p.add (i.toNat*r.sz))),λw _=>?_,Zp (e:=.v _) hk hf⟩;simp[execOp,e1,e2,Instr.indexAt,Instr.sureAddr,asIntOf,Yu hg hr,run_sizeOf hg X2,h0,h1]
    ·exact Kl h
   ·exact Kl h
  ·rename_i t x ix;split at h
   ·rename_i s k i hr hx hi;unfold dk at h;obtain⟨b,h0,h1,hk⟩:=h;have e1:=hf.ev hx;have e2:=hf.ev hi;refine⟨.int .u8 b.toNat,λw _=>?_,Zp (e:=.v _) hk hf⟩;simp[execOp,e1,e2,Instr.index,asIntOf,Yu hg hr,h0,h1]
   ·exact Kl h
  ·exact Kl h
theorem yo (hg:c.g.Ok){md:Region.Mode}{ops:List Oper}{C:World->Prop}{Q:Exit->Act->World->Prop}{n:Nat}(hs:Region.noSelect ops.toArray=true)(hk:jk md ops.toArray n){K:Env->World->Prop}:
  ∀(l:List (Bool×Nat)) (listed:Array Bool) (S:Env) (a:Act) (w:World),HeadInv md ops.toArray n listed->cm md ops.toArray n l listed=true->jm c ops C l S w K->Fits c.N S a->C w->
  Wz c.g.P md ops.toArray (NoPan Q) C n (λKm a' w'=>Region.seqB md ops.toArray (ops.toArray.size-n) n Km=true/\∃S',Fits c.N S' a'/\K S' w') l.length listed a w
 | [],listed,S,a,w,inv,hB,h,hf,hC=>⟨hB,S,hf,h⟩
 | (true,k)::l,listed,S,a,w,inv,hB,h,hf,hC=>by
  simp only[cm,JR] at hB;obtain⟨⟨⟨Xj,hr⟩,kD⟩,Vu⟩:=hB;have Xj:k<n:=by rw[iZ] at Xj;exact Xj
  have Q0:k∈Region.ready md ops.toArray listed:=by simpa using hr
  obtain⟨_,o,ho,_⟩:=mem_ready.1 Q0;have hn:Vm ops k=some o:=by rw[gY];simpa using ho
  simp only[jm,hn] at h;have key:∃v,YieldsIf c.g.P ops.toArray C o v a/\∃S',Fits c.N S' (a.put o.dst v)/\jm c ops C l S' w K:=by
   rcases ll h hf with⟨hw,S1,Zz,h1⟩ | ⟨hw,S1,Zz,h1⟩
   ·obtain⟨v,h2,h3⟩:=ym hg h1 Zz;exact⟨v,.inl ⟨hw,h2⟩,h3⟩
   ·exact⟨undef,.inr ⟨hw,rfl⟩,Zp (e:=.v undef) h1 Zz⟩
  obtain⟨v,hy,S',QW,h'⟩:=key;exact Mc ho (Region.noSelect_spec hs) hk Xj (λKm a' w' hL=>seqB_ready hL.1) l.length listed a w inv (Region.free_spec ho kD) Q0 hy hC
   (yo hg hs hk l _ S' _ w (inv.set Q0 Xj) Vu h' QW hC)
 | (false,k)::l,listed,S,a,w,inv,hB,h,hf,hC=>by
  simp only[cm,JR,Vl] at hB;obtain⟨⟨Xj,hr⟩,Vu⟩:=hB;have Xj:k<n:=by rw[iZ] at Xj;exact Xj
  have Q0:k∈Region.ready md ops.toArray listed:=by rw[hr];simp
  obtain⟨_,o,ho,_⟩:=mem_ready.1 Q0;have hn:Vm ops k=some o:=by rw[gY];simpa using ho
  simp only[jm,hn] at h;have gE:=inv.set Q0 Xj;refine⟨λh0=>(by rw[hr] at h0;cases h0),λi hi=>?_⟩;rw[hr] at hi;have pL:i=k:=by simpa using hi
  subst pL;refine⟨Xj,?_⟩;unfold wpOp;simp only[ho];rcases ll h hf with⟨hw,S1,Zz,h1⟩ | ⟨hw,S1,Zz,h1⟩
  ·rw[Qe hw];refine .inl ?_;have h2:=qw hg h1 Zz;have h3:=Oper.wp_mono (K':=λa' w'=>C w'/\Wz c.g.P md ops.toArray (NoPan Q) C n (λKm a' w'=>Region.seqB md ops.toArray (ops.toArray.size-n) n Km=true/\∃S',Fits c.N S' a'/\K S' w') l.length (listed.setIfInBounds i true) a' w')
    (λa' w' ⟨S',QW,Kc,Yq⟩=>⟨Kc,yo hg hs hk l _ S' a' w' gE Vu Yq QW Kc⟩) h2
   unfold Oper.wp at h3 ⊢;generalize (execOp a.eval o).run c.g.P w=r at*;cases r with
   | ok nx w'=>
    cases nx<;>simp only[Oper.upon] at h3 ⊢ <;> try exact h3
    exact h3.mono λe KL he=>by
     cases e with
     | returned v=>exact he
     | panicked ch=>obtain⟨_,_,he⟩:=he;exact he.elim
     | outgrown=>obtain⟨_,_,_,_,he⟩:=he;exact he.elim
   | halt x w'=>cases x<;>simp only[Oper.upon] at h3 ⊢ <;> first | exact h3 | (obtain⟨_,_,h3⟩:=h3;exact h3.elim)
  ·rw[if_neg (by rw[hw];decide)];obtain⟨S',QW,h'⟩:=Zp (e:=.v undef) h1 Zz;exact⟨hC,yo hg hs hk l _ S' _ w gE Vu h' QW hC⟩
theorem bQn {o:Oper}{C:World->Prop}{K:Env->Prop}{v:Value}(h:∀a w,Fits c.N S a->C w->(execOp a.eval o).run c.g.P w= .ok (.value v) w)(k:Xf c S o.dst (.v v) K):bi c o S C K:=by
 unfold bi;exact⟨v,h,k⟩
theorem XJ (hg:c.g.Ok){id:Nat}{ops:List Oper}{w:World}{Q:Zd}(C:World->Prop)(n:Nat)(plan:List (Bool×Nat))
  (hB:(Region.noSelect ops.toArray&&Nat.beq plan.length n&&qE .any ops.toArray n&&cm .any ops.toArray n plan (Array.replicate ops.toArray.size false))=true) (hC:C w.drew)
  (h:jm {c with named:=1000000} ops C plan S w.drew (λS w=>Yf c ops (ops.drop n) S w (λS w=>Q .normal S w) (λ_ _ _=>False))):Wv c id ops S w Q:=by
 unfold Wv;intro a hf;simp only[JR] at hB;obtain⟨⟨⟨hs,hl⟩,aY⟩,Je⟩:=hB;have hl:=Vk hl;have hk:=yk aY;have H6:n<=ops.length:=by
  rcases hk with hk | hk
  ·rw[hk];simp
  ·have:=hk.1;simp at this;omega
 refine Code.wp_mono NoPan.imp (wp_region_any hg.mixed ?_);have oU:HeadInv .any ops.toArray n (Array.replicate ops.toArray.size false):=
  ⟨by simp,λj oj _ hl=>(by rw[getD_replicate_false] at hl;cases hl),λt _ ht=>getD_in (by simpa using ht) (getD_replicate_false _ _)⟩
 have H:=yo (c:={c with named:=1000000}) hg (Q:=Up c Q) hs hk plan _ S a _ oU Je h hf hC;have YF:(ops.drop n).length=ops.toArray.size-n:=by simp
 have H2:=tU (Q:=NoPan (Up c Q)) (g:=ops.toArray.size-n) (λKm a' w' hL=>by
  obtain⟨hq,S',QW,Yq⟩:=hL;have h2:=jf (c:=c) hg ops _ _ _ _ Yq QW;have:=wpAny_of_seq (P:=c.g.P) (md:=.any) (ops:=ops.toArray) (Q':=NoPan (Up c Q)) (ops.drop n) n Km a' w' (λj=>by simp) (by rw[YF];exact hq) (lj (λe a w hq=>by
   cases e with
   | normal=>exact hq
   | _=>exact Xm hq (by rintro⟨_,_,h⟩;exact h)) h2)
  rwa [YF] at this) _ _ _ _ H
 rw[hl,show n+(ops.toArray.size-n)=ops.toArray.size by simp;omega] at H2;exact H2
end
end
section
theorem Md (cs:List Nat){c:Cx}{S:Env}{w:World}{Q:Zd}(hg:c.g.Ok){x y:Code}(R:World->Prop)
  (hx:Y2 (dq x) S [] (λS0=>KQ {c with cuts:=cs} x S w (λe S2 w2=>match e with
   | .normal=>Has S0 S2/\R w2
   | e=>Q e S2 w2)))
  (hy:Y2 (dq x) S [] (λS0=>∀w',R w'->KQ c y S0 w' Q)):i9 c (.seq x y) S w Q:=by
 rw[x9] at hx hy;unfold i9;intro a hf;refine wp_seq (wp_mono (gZ (c:={c with cuts:=cs}) hg x S w _ a hx hf) (λe a2 w2 hq=>?_));obtain⟨S2,ZG,hq⟩:=hq;cases e with
 | normal=>exact gZ hg y _ w2 Q a2 (hy w2 hq.2) (hq.1.fits ZG)
 | exit i=>exact⟨S2,ZG,hq⟩
 | goto l=>exact⟨S2,ZG,hq⟩
 | ret=>exact⟨S2,ZG,hq⟩
 | panic ch=>exact⟨S2,ZG,hq⟩
 | outgrown=>exact⟨S2,ZG,hq⟩
theorem yp {a:Addr}{n j:Nat}{i:Int}{K:Addr->Prop}(hi:i=j)(hj:j<n)(k:K (a.add j)):YM (some a) n i 1 K:=by subst hi;exact index hj k
theorem named {a b:String}{K:Prop}(h:a=b)(k:K):LI a b K:=by unfold LI;exact⟨h,k⟩
theorem new {w:World}{t:TypeId}{cs:List Value}{K:Addr->World->Prop}(k:∀w1,Ext w w1->w1.heap.size=w.heap.size+1->Blk w1 w.heap.size t cs->K ⟨w.heap.size,0,none⟩ w1):nI w t cs K:=by
 unfold nI;exact k _ (Ext.alloc w _) (by simp) (Blk.new w t cs)
theorem add_add (a:Addr)(n m:Nat):(a.add n).add m=a.add (n+m):=by
 unfold Addr.add;split
 ·rename_i h;subst h;simp
 ·split
  ·rename_i h1 h2;subst h2;simp[h1]
  ·rename_i h1 h2;simp[h1,nC]
theorem Me:∀(vs cs:List Value),vs.length<=cs.length->tK vs cs=vs++cs.drop vs.length
 | [],_,_=>rfl
 | v::vs,[],h=>by simp at h
 | v::vs,c::cs,h=>by
  show v::tK vs cs=_;rw[Me vs cs (by simpa using h)]<;>rfl
theorem ic:∀(n:Nat)(vs cs:List Value),n+vs.length<=cs.length->KH n vs cs=cs.take n++vs++cs.drop (n+vs.length)
 | 0,vs,cs,h=>by
  have e:KH 0 vs cs=tK vs cs:=by cases cs<;>rfl
  rw[e,Me vs cs (by omega)];simp
 | n+1,vs,[],h=>by simp at h
 | n+1,vs,c::cs,h=>by
  show c::KH n vs cs=_;rw[ic n vs cs (by simp at h;omega)];rw[show n+1+vs.length=(n+vs.length)+1 by omega];simp
theorem Mf:∀(n:Nat)(vs cs:List Value),n+vs.length<=cs.length->(KH n vs cs).length=cs.length:=λn vs cs h=>by
 rw[ic n vs cs h];simp;omega
theorem jn {P:Program}{w:World}{g t:Nat}{cs vs:List Value}{j:Nat}{K:World->Prop}(h:Blk w g t cs)(hj:j+vs.length<=cs.length)(fg:∀u∈vs,Jo u=true)
  (k:∀w1,w.grownBy w1 (some g)->w1.heap.size=w.heap.size->Blk w1 g t (KH j vs cs)->K w1):i7 P w ((⟨g,0,none⟩:Addr).add j) vs K:=by
 unfold i7;have mN:=run_storeCells_at P g j t vs 0 cs.toArray w h (by simpa using hj) (λu hu=>yi (fg u hu));rw[nT];refine⟨_,mN,?_⟩;refine k _ ⟨rfl,rfl,rfl,by simp,λi _ hi=>setRow_other w g i _ (λe=>hi (by rw[e]))⟩ (by simp) ?_;have:=setRow_heap w g cs.toArray (cs.toArray.toList.take (j+0)++vs++cs.toArray.toList.drop (j+0+vs.length)).toArray t _ h;unfold Blk;rw[this,ic j vs cs hj]<;>rfl
theorem Qx {P:Program}{w:World}{g t:Nat}{cs vs:List Value}{K:World->Prop}(h:Blk w g t cs)(hl:vs.length=cs.length)(fg:∀u∈vs,Jo u=true)
  (k:∀w1,w.grownBy w1 (some g)->w1.heap.size=w.heap.size->Blk w1 g t vs->K w1):i7 P w ⟨g,0,none⟩ vs K:=by
 have:=jn (P:=P) (j:=0) (K:=K) h (by omega) fg (λw1 h1 h2 h3=>k w1 h1 h2 (by
  rw[ic 0 vs cs (by omega),hl] at h3;simpa using h3))
 simpa [Addr.add] using this
theorem eE {w:World}{g t:Nat}{cs vs:List Value}{j n:Nat}{K:List Value->Prop}(h:Blk w g t cs)(hn:vs.length=n)(hv:∀i v,vs[i]? =some v->cs[j+i]? =some v)(k:K vs):i6 w ((⟨g,0,none⟩:Addr).add j) n K:=by
 unfold i6;exact⟨vs,hn,λi v hi=>by rw[add_add,h.cell];exact hv i v hi,k⟩
theorem Qs {w:World}{g t:Nat}{cs:List Value}{n:Nat}{K:List Value->Prop}(h:Blk w g t cs)(hn:cs.length=n)(k:K cs):i6 w ⟨g,0,none⟩ n K:=by
 have:=eE (j:=0) (vs:=cs) (K:=K) h hn (λi v hi=>by simpa using hi) k;simpa [Addr.add] using this
theorem Qv {w:World}{g t:Nat}{cs:List Value}{v:Value}{K:Value->Prop}(h:Blk w g t cs)(hv:cs[0]? =some v)(k:K v):fC w ⟨g,0,none⟩ K:=by
 have:=Qp (j:=0) (K:=K) h hv k;simpa [Addr.add] using this
theorem bQo {w:World}{g t:Nat}{cs:List Value}{v:Value}{K:World->Prop}(h:Blk w g t cs)(hj:0<cs.length)(k:∀w1,w.grownBy w1 (some g)->Blk w1 g t (cs.set 0 v)->K w1):fD w ⟨g,0,none⟩ v K:=by
 have:=yg (j:=0) (v:=v) (K:=K) h hj k;simpa [Addr.add] using this
section
variable {α:Type} {f:α->List Value} {sz:Nat}
theorem co (hf:∀x,(f x).length=sz):∀(l:List α),(l.flatMap f).length=l.length*sz
 | []=>by simp
 | x::l=>by simp[hf,co hf l,i5,Nat.add_comm]
theorem eF (hf:∀x,(f x).length=sz):∀(l:List α)(j:Nat)(x:α)(i:Nat)(v:Value),l[j]? =some x->(f x)[i]? =some v->(l.flatMap f)[j*sz+i]? =some v
 | [],j,x,i,v,h,_=>by simp at h
 | y::l,0,x,i,v,h,hi=>by
  simp at h;subst h;have:i<(f y).length:=(Zt.1 hi).1;rw[bX,bY (by simpa using this)];simpa using hi
 | y::l,j+1,x,i,v,h,hi=>by
  rw[bX,Ws (by rw[hf];rw[i5];omega),hf];rw[show(j+1)*sz+i-sz=j*sz+i by rw[i5];omega];exact eF hf l j x i v (by simpa using h) hi
def SlS (f:α->List Value)(sz:Nat)(w:World)(A:Option Addr)(n c:Nat)(l:List α):Prop:=Sl w sz A n c (l.flatMap f)/\l.length=n
theorem SlS.len {w:World}{A:Option Addr}{n c:Nat}{l:List α}(h:SlS f sz w A n c l):l.length=n:=h.2
theorem SlS.ext {w w':World}{A:Option Addr}{n c:Nat}{l:List α}(h:SlS f sz w A n c l)(k:Ext w w'):SlS f sz w' A n c l:=⟨h.1.ext k,h.2⟩
theorem SlS.nil (w:World):SlS f sz w none 0 0 []:=⟨Sl.nil w sz,rfl⟩
theorem SlS.cell (hf:∀x,(f x).length=sz){w:World}{A:Option Addr}{n c:Nat}{l:List α}(h:SlS f sz w A n c l){j:Nat}{x:α}(hj:l[j]? =some x):
  ∃ad,A=some ad/\∀i v,(f x)[i]? =some v->w.cell? ((ad.add (j*sz)).add i)=some v:=by
 have Xa:j<l.length:=(Zt.1 hj).1;obtain⟨ad,rfl,hc⟩:=h.1.at_ (by have:=h.2;omega);exact⟨ad,rfl,λi v hi=>by rw[add_add];exact hc _ _ (eF hf l j x i v hj hi)⟩
theorem Zo (hf:∀x,(f x).length=sz){w:World}{A:Option Addr}{n c:Nat}{l:List α}{i:Int}{j:Nat}{K:Addr->Prop}(h:SlS f sz w A n c l)(hi:i=j)(hj:j<n)
  (k:∀p x,l[j]? =some x->(∀i v,(f x)[i]? =some v->w.cell? (p.add i)=some v)->K p):YM A n i sz K:=by
 subst hi;have Xa:j<l.length:=by rw[h.2];exact hj
 have hx:l[j]? =some l[j]:=Xs Xa;obtain⟨ad,rfl,hc⟩:=h.cell hf hx;unfold YM;exact⟨ad,rfl,by omega,by omega,by simpa using k _ _ hx hc⟩
theorem J4 {w:World}{p:Addr}{vs:List Value}{n:Nat}{K:List Value->Prop}(hn:vs.length=n)(h:∀i v,vs[i]? =some v->w.cell? (p.add i)=some v)(k:K vs):i6 w p n K:=by
 unfold i6;exact⟨vs,hn,h,k⟩
end
theorem bQp {P:Program}{w w1:World}{t ty e:TypeId}{i:TypeInfo}{z:Value}{bytes base n m cc sz:Nat}{v v':Value}{xs ys:List Value}(ht:P.underlying t=some (.slice e))(hi:P.info? e=some i)(hz:i.zero=some z)(hs:i.size=sz)(aW:i.bytes=bytes)
  (YG:w.ownsRow base e sz v n xs) (b:Addr) (hm:0<m) (hl:ys.length=m*sz) (Xz:∀j u,ys[j]? =some u->w.cell? (b.add j)=some u) (h1:∀u∈ys,u.oneCell'=true) (f0:n+m<=maxLen) (H7:(n+m)*bytes<=140737488355328)
  (Z1:(Builtin.append_ #[t,t] ty #[v,.slice (some b) m cc]).run P w= .ok v' w1):∀g',v'.ownBlock=some g'->v.ownBlock=some g'∨w.heap.size<=g':=by
 intro g' Vh;subst aW;have lQV:n+m<=9223372036854775807:=by simp only[maxLen] at f0;omega
 rcases YG.2 with⟨rfl,rfl⟩ | ⟨g,cap,ZB,rfl,hbg,hg,kH,bP,X6,pM⟩
 ·have hr:=run_append_nil (P:=P) w t ty e i z ht hi hz b m cc ys (by rw[hl,hs]) Xz (by omega) (by omega) (by have hb:=H7;simp only[a8] at hb;omega);rw[hr] at Z1;cases Z1;simp[Value.ownBlock] at Vh;exact .inr (by omega)
 ·by_cases BV:n+m<=cap
  ·have hr:=run_append_room (P:=P) w t ty e i ht hi g n cap ZB hg b m cc ys (by rw[hl,hs]) Xz h1 BV (by rw[hl,hs,X6,<-tz];exact Wq _ BV);rw[hr] at Z1;cases Z1;exact .inl Vh
  ·have holds:∀j u,xs[j]? =some u->w.cell? ((⟨g,0,none⟩:Addr).add j)=some u:=YG.cells (g:=g) rfl
   have hr:=run_append_grow (P:=P) w t ty e i z ht hi hz ⟨g,0,none⟩ n cap xs (by rw[hs];exact YG.1) holds b m cc ys (by rw[hl,hs]) Xz (by omega) (by omega) (growslice_fits (by omega) H7);rw[hr] at Z1;cases Z1;simp[Value.ownBlock] at Vh;exact .inr (by omega)
theorem bQq {c:Cx}(hg:c.g.Ok){o:Oper}{S:Env}{w:World}{K:Env->World->Prop}{Q:Zd}{t t2 e sz:Nat}{x y:Operand}{A B:Option Addr}{n cp:Nat}{m c2:Nat}{xs ys:List Value}{base:Nat}{r re r2:TyRow}
  (ho:o.op= .call ⟨.builtin .append, #[x,y], #[t,t2]⟩) (hr:QR c.g.tys t=some r) (hd:r.d= .slice e) (X2:QR c.g.tys e=some re) (hs:re.sz=sz) (Fo:0<sz) (iM:re.z.cells.size=sz) (WR:QR c.g.tys t2=some r2) (bG:∃e2,r2.d= .slice e2)
  (hx:S.ev x=some (.slice A n cp)) (hy:S.ev y=some (.slice B m c2)) (YG:Own w base e sz A n cp xs) (ff:Sl w sz B m c2 ys) (fg:∀u∈ys,Jo u=true)
  (f0:n+m<=maxLen) (aW:(n+m)*re.by_<=140737488355328) (pN:base<=w.heap.size)
  (k:∀A' c' w1,w.grownBy w1 (Value.slice A n cp).ownBlock->Own w1 base e sz A' (n+m) c' (xs++ys)->(∀ad,A'=some ad->A=some ad∨w.heap.size<=ad.block)->Xf c S o.dst (.v (.slice A' (n+m) c')) (λS=>K S w1)):X3 c o S w K Q:=by
 obtain⟨_,i,hi,XW,mP,aX⟩:=hg.row X2;have Q0:=(hg.row hr).1;rw[hd] at Q0;obtain⟨e2,bG⟩:=bG;have rV:=(hg.row WR).1;rw[bG] at rV;have Xb:ys.length=m*sz:=ff.len;unfold X3;intro a hf;have e1:=hf.ev hx;have uV:=hf.ev hy;have key:∃v' w1,(Builtin.append_ #[t,t] o.type #[.slice A n cp,.slice B m c2]).run c.g.P w= .ok v' w1/\w1.ownsRow base e sz v' (n+m) (xs++ys)/\w.grownBy w1 (Value.slice A n cp).ownBlock/\(∀g',v'.ownBlock=some g'->(Value.slice A n cp).ownBlock=some g'∨w.heap.size<=g'):=by
  by_cases h0:m=0
  ·subst h0;have H8:ys=[]:=Y0 (by omega);subst H8;have ZK:n<=cp:=YG.sl.le;refine⟨.slice A n cp,w,?_,by simpa using YG.row,⟨rfl,rfl,rfl,QE _,λ_ _ _=>rfl⟩,λ_ h=>.inl h⟩;cases A<;>cases B<;>simp[Builtin.append_,ZI Q0,sizeOf,typeInfo,hi,Builtin.lenOf,ZK,Builtin.firstCells,loadCells,loadCellsFrom,storeCells]
  ·obtain⟨b,rfl,Xz⟩:=ff.at_ (by omega);obtain⟨v',w1,Z1,cU,wD,_⟩:=run_append_own (P:=c.g.P) (w:=w) base t o.type e i re.z sz re.by_ Q0 hi aX (by rw[XW,hs]) mP iM Fo _ n xs YG.row b m c2 ys Xb Xz (λu hu=>yi (fg u hu)) f0 aW pN;exact⟨v',w1,Z1,cU,wD,bQp Q0 hi aX (by rw[XW,hs]) mP YG.row b (by omega) Xb Xz (λu hu=>yi (fg u hu)) f0 aW Z1⟩
 obtain⟨v',w1,Z1,cU,wD,H9⟩:=key;obtain⟨A',c',rfl,Ia⟩:=mQy cU;have Ib:∀ad,A'=some ad->A=some ad∨w.heap.size<=ad.block:=λad e=>by
  subst e;rcases H9 ad.block rfl with h | h
  ·left
   rcases YG.row.2 with⟨hv,_⟩ | ⟨g,cap,ZB,hv,_⟩
   ·cases hv;simp[Value.ownBlock] at h
   ·cases hv;rcases cU.2 with⟨hv,_⟩ | ⟨g2,iQx,iQy,JT,_⟩
    ·cases hv
    ·cases JT;simp[Value.ownBlock] at h;rw[h]
  ·exact .inr h
 refine aA (v:=.slice A' (n+m) c') (w':=w1) ?_ (Zp (e:=.v _) (k A' c' w1 wD Ia Ib) hf);have kQs:(Builtin.append_ #[t,t2] o.type #[.slice A n cp,.slice B m c2]).run c.g.P w=(Builtin.append_ #[t,t] o.type #[.slice A n cp,.slice B m c2]).run c.g.P w:=by
  simp[Builtin.append_,ZI Q0,ZI rV]
 simp only[execOp,ho,resolve,invoke];simp[builtin,e1,uV,kQs,Z1]
theorem bQr {P:Program}{w w1:World}{t u ty e:TypeId}{i:TypeInfo}{base n:Nat}{v v':Value}{xs:List Value}(ht:P.underlying t=some (.slice e))(hu:P.underlying u=some .string)(hi:P.info? e=some i)(hz:i.zero=some (.int .u8 0))(hs:i.size=1)(aW:i.bytes=1)
  (YG:w.ownsRow base e 1 v n xs) (s:ByteArray) (H7:n+s.size<=140737488355328)
  (Z1:(Builtin.append_ #[t,u] ty #[v,.string s]).run P w= .ok v' w1):∀g',v'.ownBlock=some g'->v.ownBlock=some g'∨w.heap.size<=g':=by
 intro g' Vh;have mV:xs.length=n:=by simpa using YG.1
 rcases YG.2 with⟨rfl,rfl⟩ | ⟨g,cap,ZB,rfl,hbg,hg,kH,bP,X6,pM⟩
 ·by_cases hm:s.size=0
  ·have hf:=Lib.run_firstCells_string (P:=P) w 1 s;rw[hm] at hf;have:(Builtin.append_ #[t,u] ty #[.slice none 0 0,.string s]).run P w= .ok (.slice none 0 0) w:=by
    simp[Builtin.append_,ZI ht,ZI hu,sizeOf,typeInfo,hi,hs,Builtin.lenOf,hm,hf]
   rw[this] at Z1;cases Z1;simp[Value.ownBlock] at Vh
  ·have hr:=run_append_nil_string (P:=P) w t u ty e i (.int .u8 0) ht hu hi hz s (by omega) (by omega) (by rw[aW];omega);rw[hr] at Z1;cases Z1;simp[Value.ownBlock] at Vh;exact .inr (by omega)
 ·by_cases BV:n+s.size<=cap
  ·have lQW:ZB.size=cap:=by simpa using X6
   have hr:=Lib.run_append_room_string (P:=P) w t u ty e i ht hu hi hs g n cap ZB hg s BV (by omega);rw[hr] at Z1;cases Z1;exact .inl Vh
  ·have holds:∀j u,xs[j]? =some u->w.cell? ((⟨g,0,none⟩:Addr).add j)=some u:=YG.cells (g:=g) rfl
   have hr:=Lib.run_append_grow_string (P:=P) w t u ty e i (.int .u8 0) ht hu hi hz ⟨g,0,none⟩ n cap xs (by rw[hs];simpa using mV) holds s (by omega) (by omega) (by rw[aW];exact growslice_fits (by omega) (by omega));rw[hr] at Z1;cases Z1;simp[Value.ownBlock] at Vh;exact .inr (by omega)
theorem bQs {c:Cx}(hg:c.g.Ok){o:Oper}{S:Env}{w:World}{K:Env->World->Prop}{Q:Zd}{t t2 e:Nat}{x y:Operand}{A:Option Addr}{n cp:Nat}{s:ByteArray}{xs:List Value}{base:Nat}{r re r2:TyRow}
  (ho:o.op= .call ⟨.builtin .append, #[x,y], #[t,t2]⟩) (hr:QR c.g.tys t=some r) (hd:r.d= .slice e) (X2:QR c.g.tys e=some re) (hs:re.sz=1) (iM:re.z= .int .u8 0) (BW:re.by_=1) (WR:QR c.g.tys t2=some r2) (bG:r2.d= .string)
  (hx:S.ev x=some (.slice A n cp)) (hy:S.ev y=some (.string s)) (YG:Own w base e 1 A n cp xs)
  (f0:n+s.size<=140737488355328) (pN:base<=w.heap.size)
  (k:∀A' c' w1,w.grownBy w1 (Value.slice A n cp).ownBlock->Own w1 base e 1 A' (n+s.size) c' (xs++Lib.strCells s)->(∀ad,A'=some ad->A=some ad∨w.heap.size<=ad.block)->Xf c S o.dst (.v (.slice A' (n+s.size) c')) (λS=>K S w1)):X3 c o S w K Q:=by
 obtain⟨_,i,hi,XW,mP,aX⟩:=hg.row X2;have Q0:=(hg.row hr).1;rw[hd] at Q0;have rV:=(hg.row WR).1;rw[bG] at rV;unfold X3;intro a hf;have e1:=hf.ev hx;have uV:=hf.ev hy;obtain⟨v',w1,Z1,cU,wD,_⟩:=Lib.run_append_own_string (P:=c.g.P) (w:=w) base t t2 o.type e i Q0 rV hi (by rw[aX,iM]) (by rw[XW,hs]) (by rw[mP,BW]) _ n xs YG.row s (by unfold maxLen;omega) f0 pN;have H9:=bQr Q0 rV hi (by rw[aX,iM]) (by rw[XW,hs]) (by rw[mP,BW]) YG.row s f0 Z1;obtain⟨A',c',rfl,Ia⟩:=mQy cU;have Ib:∀ad,A'=some ad->A=some ad∨w.heap.size<=ad.block:=λad e=>by
  subst e;rcases H9 ad.block rfl with h | h
  ·left
   rcases YG.row.2 with⟨hv,_⟩ | ⟨g,cap,ZB,hv,_⟩
   ·cases hv;simp[Value.ownBlock] at h
   ·cases hv;rcases cU.2 with⟨hv,_⟩ | ⟨g2,iQx,iQy,JT,_⟩
    ·cases hv
    ·cases JT;simp[Value.ownBlock] at h;rw[h]
  ·exact .inr h
 refine aA (v:=.slice A' (n+s.size) c') (w':=w1) ?_ (Zp (e:=.v _) (k A' c' w1 wD Ia Ib) hf);simp only[execOp,ho,resolve,invoke];simp[builtin,e1,uV,Z1]
def Di:Nat->List (List Value)->List (Nat×Value)->Prop
 | _,[],[]=>True
 | n,cs::l,(i,v)::r=>i=n/\JB v=cs/\Di (n+1) l r
 | _,_,_=>False
theorem Mg {sz:Nat}{z:List Value}(hz:z.length=sz):∀(parts:List (Nat×Value))(n:Nat)(l:List (List Value))(pre:List Value),Di n l parts->(∀cs∈l,cs.length=sz)->pre.length=n*sz->
  Instr.fill (λi=>some (i*sz,sz)) (pre++(List.replicate l.length z).flatten).toArray parts=some (pre++l.flatten).toArray
 | [],n,[],pre,_,_,_=>by simp[Instr.fill]
 | [],n,_::_,pre,h,_,_=>h.elim
 | _::_,n,[],pre,h,_,_=>h.elim
 | (i,v)::parts,n,cs::l,pre,h,hl,hp=>by
  obtain⟨rfl,rfl,h'⟩:=h;have hc:(JB v).length=sz:=hl _ (by simp);have X6:v.cells.size=sz:=by rw[<-hc,<-nN];simp
  have Ic:¬((v.cells.size≠sz||i*sz+v.cells.size>(pre++(List.replicate (JB v::l).length z).flatten).toArray.size)=true):=by
   rw[X6];simp[hp,Lk,hz]
  unfold Instr.fill;simp only;rw[if_neg Ic];have e:(v.cells.zipIdx.foldl (λcs (c,j)=>cs.setIfInBounds (i*sz+j) c) (pre++(List.replicate (JB v::l).length z).flatten).toArray)=((pre++JB v)++(List.replicate l.length z).flatten).toArray:=by
   apply Array.ext';rw[LW,nN,ic _ _ _ (by simp[hp,Lk,hz,hc])];simp only[Xk,Lk,Ll];rw[Lm,List.drop_append,hp];simp only[xy,List.take_zero,YL];rw[Jz (by omega),qk (by omega),ep];rw[show i*sz+(JB v).length-i*sz=sz by omega,List.drop_append,hz,xy,xz,qk (by omega)];simp
  rw[e];have:=Mg hz parts (i+1) l (pre++JB v) h' (λcs X6=>hl cs (by simp[X6])) (by rw[Qy,hp,hc,i5]);rw[this];simp
theorem Mh (z:List Value)(hz:0<z.length):∀(n:Nat),(List.range (n*z.length)).map (λj=>z.toArray[j % z.length]!)=(List.replicate n z).flatten
 | 0=>by simp
 | n+1=>by
  rw[i5,List.range_add,et,Mh z hz n,List.replicate_succ',List.flatten_append];congr 1;simp only[xx,Ll,List.flatten_nil,YL];apply List.ext_getElem
  ·simp
  ·intro i h1 h2;simp at h1;simp[aw h1,h1]
theorem XE {c:Cx}(hg:c.g.Ok){o:Oper}{S:Env}{w:World}{K:Env->World->Prop}{Q:Zd}{t e n:Nat}{r re:TyRow}{ps:Array (Nat×Operand)}{vs:List (Nat×Value)}(l:List (List Value))
  (ho:o.op= .buildSlice t n ps) (hr:QR c.g.tys t=some r) (hd:r.d= .slice e) (X2:QR c.g.tys e=some re) (hv:qu S ps.toList=some vs) (hb:Di 0 l vs) (hn:l.length=n) (hl:∀cs∈l,cs.length=re.sz) (hz:(JB re.z).length=re.sz) (XW:0<re.sz) (pO:n*re.sz<=16777216)
  (k:∀w1,Ext w w1->w1.heap.size=w.heap.size+1->Blk w1 w.heap.size e l.flatten->Xf c S o.dst (.v (.slice (some ⟨w.heap.size,0,none⟩) n n)) (λS=>K S w1)):X3 c o S w K Q:=by
 obtain⟨_,i,hi,hsi,mP,aX⟩:=hg.row X2;have Q0:=(hg.row hr).1;rw[hd] at Q0;subst hn;refine Jh (w':=w.alloc (.cells l.flatten.toArray e)) (λa hf=>?_) (k _ (Ext.alloc w _) (by simp) (Blk.new w e l.flatten));have bO:=C9 (ρ:=a.eval) (λx v h=>hf.ev h) _ _ hv;have aQg:(ps.map λ(x:Nat×Operand)=>(x.1,a.eval x.2)).toList=vs:=by rw[Lj];exact bO
 have iM:re.z.cells=(JB re.z).toArray:=by rw[<-nN]
 have sW:=Mg hz vs 0 l [] hb hl (by simp);simp only[ep] at sW;have BX:=Mh (JB re.z) (by rw[hz];exact XW) l.length;rw[hz] at BX;simp only[execOp,ho,Instr.buildSlice];rw[show(ps.map λ(x:Nat×Operand)=>(x.1,a.eval x.2)).toList=vs from aQg];have fZ:¬l.length*re.sz>2^24:=by omega
 by_cases h0:l.length=0
 ·have H8:l=[]:=Y0 h0;subst H8;cases vs with
  | cons p vs=>exact hb.elim
  | nil=>simp[ZI Q0,sizeOf,typeInfo,hi,Instr.fill,newRow,Array.range_zero']
 ·have h1:¬(l.length*re.sz=0):=by
   intro h;rcases Nat.mul_eq_zero.1 h with h | h<;>omega
  have wz:(Array.range (l.length*re.sz)).map (λj=>(JB re.z).toArray[j % (JB re.z).toArray.size]!)=(List.replicate l.length (JB re.z)).flatten.toArray:=by
   apply Array.ext';rw[Lj,Array.toList_range];simpa [hz] using BX
  simp only[Sem.run_bind,ZI Q0,Result.andThen_ok,sizeOf,typeInfo,run_program,hi,Sem.run_pure,hsi,if_neg fZ,if_neg h1,zeroValue,aX,iM];rw[wz];simp only[sW];simp[newRow]
def qG:TypeDesc->Nat
 | .int _=>0
 | .string=>1
 | .bool=>2
 | _=>1000
structure KeyV {α:Type} [DecidableEq α] (d:TypeDesc) (kv:α->Value):Prop where
 same:∀a b,Instr.sameNow d (kv a) (kv b)=some (decide (a=b))
 bits:∀a n,Instr.sameBits n (kv a) (kv a)=true
 plain:qG d<3
theorem KeyV.int (k:IntKind):KeyV (.int k) (λn:Int=>.int k n):=⟨λa b=>by simp[Instr.sameNow];rfl,λa n=>by cases n<;>simp[Instr.sameBits],by simp[qG]⟩
theorem mQk:KeyV .string (λs:ByteArray=>.string s):=⟨λa b=>by
  simp only[Instr.sameNow,Option.some.injEq];rw[beq_toListBytes,tM],λa n=>by cases n<;>(simp only[Instr.sameBits];rw[beq_toListBytes,tM];simp),by simp[qG]⟩
theorem KeyV.bool:KeyV .bool (λb:Bool=>.bool b):=⟨λa b=>by simp only[Instr.sameNow];cases a<;>cases b<;>rfl,λa n=>by cases n<;>simp[Instr.sameBits],by simp[qG]⟩
def Xv {α:Type} [DecidableEq α](a:α):List (α×Value)->Option Value
 | []=>none
 | (b,v)::l=>if a=b then some v else Xv a l
def X8 {α:Type} [DecidableEq α](a:α)(v:Value):List (α×Value)->List (α×Value)
 | []=>[(a,v)]
 | (b,u)::l=>if a=b then(b,v)::l else(b,u)::X8 a v l
theorem W7 {α:Type} [DecidableEq α](a b:α)(v:Value):∀l,Xv b (X8 a v l)=if b=a then some v else Xv b l
 | []=>by simp[X8,Xv]
 | (d,u)::l=>by
  simp only[X8];split
  ·rename_i h;subst h;simp only[Xv];split<;>rfl
  ·rename_i h;simp only[Xv,W7 a b v l];by_cases h1:b=d
   ·subst h1;rw[Qe rfl,if_neg (λe=>h e.symm)];simp
   ·rw[if_neg h1,if_neg h1]
def XN {α:Type}(kv:α->Value)(m:List (α×Value))(bs:List Nat):List MapEntry:=(m.zip bs).map λp=>{key:=kv p.1.1,val:=p.1.2,born:=p.2}
structure MapAt {α:Type} (kv:α->Value) (w:World) (r:Nat) (m:List (α×Value)):Prop where
 ex:∃bs ck,bs.length=m.length/\w.heap[r]? =some (.map (XN kv m bs).toArray ck)
theorem MapAt.ext {α:Type}{kv:α->Value}{w w':World}{r:Nat}{m:List (α×Value)}(h:MapAt kv w r m)(k:Ext w w'):MapAt kv w' r m:=by
 obtain⟨bs,ck,hl,hb⟩:=h.ex;exact⟨bs,ck,hl,(k.block r (er.1 hb).1 (by simp)).trans hb⟩
theorem MapAt.lt {α:Type}{kv:α->Value}{w:World}{r:Nat}{m:List (α×Value)}(h:MapAt kv w r m):r<w.heap.size:=by
 obtain⟨bs,ck,hl,hb⟩:=h.ex;exact(er.1 hb).1
section
variable {α:Type} [DecidableEq α] {d:TypeDesc} {kv:α->Value}
theorem tV {α:Type}{c:Cx}(_:c.g.Ok){o:Oper}{S:Env}{w:World}{K:Env->World->Prop}{Q:Zd}{t:Nat}(kv:α->Value)(ho:o.op= .makeMap t none)
  (k:∀w1,Ext w w1->w1.heap.size=w.heap.size+1->MapAt kv w1 w.heap.size []->Xf c S o.dst (.v (.map (some w.heap.size))) (λS=>K S w1)):X3 c o S w K Q:=by
 refine Jh (w':=w.alloc (.map #[] 0)) (λa hf=>?_) (k _ (Ext.alloc w _) (by simp) ⟨[],0,rfl,heap_alloc_new w _⟩);simp[execOp,ho,Instr.makeMap]
theorem tW {P:Program}{t:TypeId}(hu:P.underlying t=some d)(hd:qG d<3)(b:Bool)(n:Nat)(v:Value)(w:World):(Instr.checkKey b (n+1) t v).run P w= .ok () w:=by
 simp only[Instr.checkKey,Sem.run_bind,ZI hu,Result.andThen_ok];cases d<;>first | (simp[qG] at hd;done) | rfl
theorem Dj (hk:KeyV d kv)(a:α):∀(m:List (α×Value))(bs:List Nat)(i:Nat),bs.length=m.length->
  ∃r,Instr.findNow d (kv a) (XN kv m bs) i=some r/\r.map (·.2)=Xv a m/\(∀j v,r=some (j,v)->i<=j/\j<i+m.length/\∀v',XN kv (X8 a v' m) bs=(XN kv m bs).modify (j-i) (λe=>{e with key:=kv a,val:=v'})/\((XN kv m bs)[j-i]?).map (·.key)=some (kv a))/\(r=none->∀v',X8 a v' m=m++ [(a,v')])
 | [],bs,i,h=>⟨none,rfl,rfl,(λj v h=>by cases h),λ_ v'=>rfl⟩
 | (b,u)::m,[],i,h=>by simp at h
 | (b,u)::m,s::bs,i,h=>by
  have e:XN kv ((b,u)::m) (s::bs)={key:=kv b,val:=u,born:=s}::XN kv m bs:=rfl;rw[e];unfold Instr.findNow;simp only[hk.same];by_cases VT:a=b
  ·subst VT;simp only[decide_true];refine⟨some (i,u),rfl,by simp[Xv],λj v hj=>?_,λh=>by cases h⟩;cases hj;refine⟨QE _,by simp,λv'=>?_⟩;simp[X8,XN]
  ·simp only[VT,decide_false];obtain⟨r,h1,h2,h3,h4⟩:=Dj hk a m bs (i+1) (by simpa using h);refine⟨r,h1,by simp[Xv,VT,h2],λj v hj=>?_,λhn v'=>by simp[X8,VT,h4 hn v']⟩;obtain⟨h5,h6,h7⟩:=h3 j v hj;refine⟨by omega,by simp;omega,λv'=>?_⟩;obtain⟨h8,h9⟩:=h7 v';rw[show j-i=(j-(i+1))+1 by omega];refine⟨?_,by simpa using h9⟩;simp only[X8,VT,if_false];rw[show XN kv ((b,u)::X8 a v' m) (s::bs)={key:=kv b,val:=u,born:=s}::XN kv (X8 a v' m) bs from rfl,h8];simp
variable {c:Cx} (hg:c.g.Ok) {o:Oper} {S:Env} {w:World} {K:Env->World->Prop} {Q:Zd} {t ke e:Nat} {r rk re:TyRow} {x y:Operand} {q:Nat} {m:List (α×Value)} {a:α}
include hg
theorem Dk (hr:QR c.g.tys t=some r)(hd:r.d= .map ke e)(ap:QR c.g.tys ke=some rk)(X2:QR c.g.tys e=some re)(hk:KeyV rk.d kv)(hm:MapAt kv w q m)(ok:Bool):
  (Instr.lookup t (.map (some q)) (kv a) ok).run c.g.P w= .ok (match Xv a m with
   | some v=>if ok then .tuple #[v,.bool true] else v
   | none=>if ok then .tuple #[re.z,.bool false] else re.z) w:=by
 have Q0:=(hg.row hr).1;rw[hd] at Q0;have fh:=(hg.row ap).1;obtain⟨_,i,hi,_,_,hz⟩:=hg.row X2;obtain⟨bs,ck,hl,hb⟩:=hm.ex;obtain⟨res,h1,h2,_,_⟩:=Dj hk a m bs 0 hl;have cV:(getObj q).run c.g.P w= .ok (.map (XN kv m bs).toArray ck) w:=by simp[getObj,Sem.run,hb]
 simp only[Instr.lookup,Sem.run_bind,ZI Q0,Result.andThen_ok,cV];simp only[Sem.run_pure,Result.andThen_ok,tW fh hk.plain,Instr.findKey,Sem.run_bind,ZI fh,h1];cases res with
 | none=>
  have:Xv a m=none:=by simpa using h2.symm
  rw[this];cases ok<;>simp[zeroValue,typeInfo,hi,hz]
 | some p=>
  have:Xv a m=some p.2:=by simpa using h2.symm
  rw[this];cases ok<;>simp
theorem bQt (ho:o.op= .lookup t x y false)(hr:QR c.g.tys t=some r)(hd:r.d= .map ke e)(ap:QR c.g.tys ke=some rk)(X2:QR c.g.tys e=some re)(hk:KeyV rk.d kv)
  (hx:S.ev x=some (.map (some q))) (hy:S.ev y=some (kv a)) (hm:MapAt kv w q m) (k:Xf c S o.dst (.v ((Xv a m).getD re.z)) (λS=>K S w)):X3 c o S w K Q:=by
 refine Jh (w':=w) (v:=(Xv a m).getD re.z) (λb hf=>?_) k;have e1:=hf.ev hx;have e2:=hf.ev hy;have:=Dk (w:=w) (a:=a) hg hr hd ap X2 hk hm false;simp only[execOp,ho,e1,e2];simp only[Sem.run_bind,this,Result.andThen_ok];cases Xv a m<;>simp
theorem bQu (ho:o.op= .lookup t x y true)(hr:QR c.g.tys t=some r)(hd:r.d= .map ke e)(ap:QR c.g.tys ke=some rk)(X2:QR c.g.tys e=some re)(hk:KeyV rk.d kv)
  (hx:S.ev x=some (.map (some q))) (hy:S.ev y=some (kv a)) (hm:MapAt kv w q m) (k:Xf c S o.dst (.v (.tuple #[(Xv a m).getD re.z,.bool (Xv a m).isSome])) (λS=>K S w)):X3 c o S w K Q:=by
 refine Jh (w':=w) (v:=.tuple #[(Xv a m).getD re.z,.bool (Xv a m).isSome]) (λb hf=>?_) k;have e1:=hf.ev hx;have e2:=hf.ev hy;have:=Dk (w:=w) (a:=a) hg hr hd ap X2 hk hm true;simp only[execOp,ho,e1,e2];simp only[Sem.run_bind,this,Result.andThen_ok];cases Xv a m<;>simp
theorem jo {v:Value}{z:Operand}(ho:o.op= .mapUpdate t x y z)(gF:o.dst=none)(hr:QR c.g.tys t=some r)(hd:r.d= .map ke e)(ap:QR c.g.tys ke=some rk)(hk:KeyV rk.d kv)
  (hx:S.ev x=some (.map (some q))) (hy:S.ev y=some (kv a)) (hz:S.ev z=some v) (hm:MapAt kv w q m)
  (k:∀w1,w.grownBy w1 (some q)->w1.heap.size=w.heap.size->MapAt kv w1 q (X8 a v m)->K S w1):X3 c o S w K Q:=by
 have Q0:=(hg.row hr).1;rw[hd] at Q0;have fh:=(hg.row ap).1;obtain⟨bs,ck,hl,hb⟩:=hm.ex;have Xa:q<w.heap.size:=(er.1 hb).1;obtain⟨res,h1,h2,h3,h4⟩:=Dj hk a m bs 0 hl;have cV:(getObj q).run c.g.P w= .ok (.map (XN kv m bs).toArray ck) w:=by simp[getObj,Sem.run,hb]
 have d4:∀ob,(setObj q ob).run c.g.P w= .ok () {w with heap:=w.heap.setIfInBounds q ob}:=λob=>by simp[setObj,Sem.run,hb]
 have main:∃ob,(Instr.mapUpdate t (.map (some q)) (kv a) v).run c.g.P w= .ok () {w with heap:=w.heap.setIfInBounds q ob}/\∃Wn ck',Wn.length=(X8 a v m).length/\ob= .map (XN kv (X8 a v m) Wn).toArray ck':=by
  cases res with
  | none=>
   refine⟨_,?_,bs++ [ck],ck+1,?_,rfl⟩
   ·simp only[Instr.mapUpdate,Sem.run_bind,ZI Q0,Result.andThen_ok,cV,tW fh hk.plain,Instr.findKey,ZI fh,h1,Sem.run_pure,d4];rw[h4 rfl v];congr 4;simp only[XN];rw[List.zip_append hl.symm,et];simp
   ·rw[h4 rfl v];simp[hl]
  | some p=>
   obtain⟨j,u⟩:=p;obtain⟨_,hj,h7⟩:=h3 j u rfl;obtain⟨h8,h9⟩:=h7 v;simp only[Nat.sub_zero] at h8 h9;have Id:(((XN kv m bs).toArray[j]?).map (·.key)).getD (kv a)=kv a:=by
    rw[show(XN kv m bs).toArray[j]? =(XN kv m bs)[j]? from by simp,h9]<;>rfl
   refine⟨_,?_,bs,ck,?_,rfl⟩
   ·simp only[Instr.mapUpdate,Sem.run_bind,ZI Q0,Result.andThen_ok,cV,tW fh hk.plain,Instr.findKey,ZI fh,h1,Sem.run_pure,Id,Instr.keyThatStays,hk.bits,if_true,d4];rw[h8];congr 4;simp
   ·have:=QN List.length h8;simp only[XN,Jg,List.length_zip,List.length_modify] at this;have Xb:(X8 a v m).length=m.length:=by
     have mQ:∀(m:List (α×Value)),(Xv a m).isSome->(X8 a v m).length=m.length:=by
      intro m;induction m with
      | nil=>intro h;simp[Xv] at h
      | cons p m ih=>
       obtain⟨b,x⟩:=p;intro h;simp only[X8];split
       ·simp
       ·rename_i VT;simp[ih (by simpa [Xv,VT] using h)]
     exact mQ m (by rw[<-h2];rfl)
    rw[Xb,hl]
 obtain⟨ob,Z1,Wn,ck',bR,rfl⟩:=main;unfold X3;intro b hf;have e1:=hf.ev hx;have e2:=hf.ev hy;have e3:=hf.ev hz;unfold Oper.wp;have:(execOp b.eval o).run c.g.P w= .ok .skip {w with heap:=w.heap.setIfInBounds q (.map (XN kv (X8 a v m) Wn).toArray ck')}:=by
  simp only[execOp,ho,e1,e2,e3];simp[Z1]
 rw[this];refine⟨S,by rw[gF];simpa [Act.put] using hf,k _ ⟨rfl,rfl,rfl,by simp,λi _ hi=>?_⟩ (by simp) ⟨Wn,ck',bR,?_⟩⟩
 ·simp only[CE];rw[if_neg (λe=>hi (by rw[e]))]
 ·simp[Xa]
end
end
noncomputable section
def gx:Gx where
 P:=Tryz.prog
 tys:=[
  ⟨1,.func #[] #[] false,1,8,.nilFunc⟩,
  ⟨3,.int .i64,1,8,.int .i64 0⟩,
  ⟨4,.bool,1,1,.bool false⟩,
  ⟨5,.int .u8,1,1,.int .u8 0⟩,
  ⟨9,.string,1,16,.string ByteArray.empty⟩,
  ⟨20,.interface #[],1,16,.nilIface⟩,
  ⟨21,.int .i32,1,4,.int .i32 0⟩,
  ⟨22,.slice 83,1,24,.slice none 0 0⟩,
  ⟨23,.slice 89,1,24,.slice none 0 0⟩,
  ⟨25,.struct #[⟨ "Family",5,0,false,"","",0⟩,⟨ "Lines",22,1,false,"","",8⟩,⟨ "Edits",23,2,false,"","",32⟩],3,56,.agg #[.int .u8 0,.slice none 0 0,.slice none 0 0]⟩,
  ⟨28,.slice 58,1,24,.slice none 0 0⟩,
  ⟨30,.slice 105,1,24,.slice none 0 0⟩,
  ⟨32,.struct #[⟨ "Nodes",30,0,false,"","",0⟩,⟨ "Root",3,1,false,"","",24⟩],2,32,.agg #[.slice none 0 0,.int .i64 0]⟩,
  ⟨34,.int .i64,1,8,.int .i64 0⟩,
  ⟨37,.slice 9,1,24,.slice none 0 0⟩,
  ⟨39,.slice 48,1,24,.slice none 0 0⟩,
  ⟨41,.struct #[⟨ "Text",9,0,false,"","",0⟩,⟨ "Segments",39,1,false,"","",16⟩],2,40,.agg #[.string ByteArray.empty,.slice none 0 0]⟩,
  ⟨44,.int .u64,1,8,.int .u64 0⟩,
  ⟨45,.int .u64,1,8,.int .u64 0⟩,
  ⟨48,.struct #[⟨ "From",3,0,false,"","",0⟩,⟨ "To",3,1,false,"","",8⟩,⟨ "File",3,2,false,"","",16⟩,⟨ "At",3,3,false,"","",24⟩,⟨ "If",32,4,false,"","",32⟩],6,64,.agg #[.int .i64 0,.int .i64 0,.int .i64 0,.int .i64 0,.slice none 0 0,.int .i64 0]⟩,
  ⟨54,.slice 56,1,24,.slice none 0 0⟩,
  ⟨56,.struct #[⟨ "If",32,0,false,"","",0⟩,⟨ "Text",9,2,false,"","",32⟩],3,48,.agg #[.slice none 0 0,.int .i64 0,.string ByteArray.empty]⟩,
  ⟨58,.struct #[⟨ "From",3,0,false,"","",0⟩,⟨ "To",3,1,false,"","",8⟩,⟨ "Text",9,2,false,"","",16⟩,⟨ "If",32,3,false,"","",32⟩],5,64,.agg #[.int .i64 0,.int .i64 0,.string ByteArray.empty,.slice none 0 0,.int .i64 0]⟩,
  ⟨62,.slice 5,1,24,.slice none 0 0⟩,
  ⟨63,.slice 62,1,24,.slice none 0 0⟩,
  ⟨65,.struct #[⟨ "Family",5,0,false,"","",0⟩,⟨ "Class",62,1,false,"","",8⟩,⟨ "Texts",63,2,false,"","",32⟩],3,56,.agg #[.int .u8 0,.slice none 0 0,.slice none 0 0]⟩,
  ⟨74,.func #[9] #[4] false,1,8,.nilFunc⟩,
  ⟨83,.struct #[⟨ "Kind",5,0,false,"","",0⟩,⟨ "If",5,1,false,"","",1⟩,⟨ "Words",62,2,false,"","",8⟩],3,32,.agg #[.int .u8 0,.int .u8 0,.slice none 0 0]⟩,
  ⟨85,.struct #[⟨ "Name",9,0,false,"","",0⟩,⟨ "Text",9,1,false,"","",16⟩],2,32,.agg #[.string ByteArray.empty,.string ByteArray.empty]⟩,
  ⟨86,.slice 85,1,24,.slice none 0 0⟩,
  ⟨89,.struct #[⟨ "Line",5,0,false,"","",0⟩,⟨ "From",5,1,false,"","",1⟩,⟨ "To",5,2,false,"","",2⟩,⟨ "Text",5,3,false,"","",3⟩,⟨ "If",5,4,false,"","",4⟩],5,5,.agg #[.int .u8 0,.int .u8 0,.int .u8 0,.int .u8 0,.int .u8 0]⟩,
  ⟨93,.struct #[⟨ "E",34,0,false,"","",0⟩,⟨ "File",3,1,false,"","",8⟩,⟨ "Line",3,2,false,"","",16⟩],3,24,.agg #[.int .i64 0,.int .i64 0,.int .i64 0]⟩,
  ⟨97,.pointer 99,1,8,.pointer none⟩,
  ⟨99,.struct #[⟨ "names",37,0,false,"","koine/patch",0⟩,⟨ "family",32,1,false,"","koine/patch",24⟩,⟨ "text",9,3,false,"","koine/patch",56⟩,⟨ "edits",28,4,false,"","koine/patch",72⟩],5,96,.agg #[.slice none 0 0,.slice none 0 0,.int .i64 0,.string ByteArray.empty,.slice none 0 0]⟩,
  ⟨105,.struct #[⟨ "Var",3,0,false,"","",0⟩,⟨ "Low",3,1,false,"","",8⟩,⟨ "High",3,2,false,"","",16⟩],3,24,.agg #[.int .i64 0,.int .i64 0,.int .i64 0]⟩,
  ⟨107,.pointer 109,1,8,.pointer none⟩,
  ⟨109,.struct #[⟨ "addr",107,0,false,"","strings",0⟩,⟨ "buf",62,1,false,"","strings",8⟩],2,32,.agg #[.pointer none,.slice none 0 0]⟩,
  ⟨112,.interface #[("Error",115)],1,16,.nilIface⟩,
  ⟨121,.int .u64,1,8,.int .u64 0⟩,
  ⟨122,.slice 45,1,24,.slice none 0 0⟩,
  ⟨127,.slice 3,1,24,.slice none 0 0⟩,
  ⟨129,.slice 132,1,24,.slice none 0 0⟩,
  ⟨132,.struct #[⟨ "from",3,0,false,"","koine/koineref29",0⟩,⟨ "to",3,1,false,"","koine/koineref29",8⟩,⟨ "in",32,2,false,"","koine/koineref29",16⟩],4,48,.agg #[.int .i64 0,.int .i64 0,.slice none 0 0,.int .i64 0]⟩,
  ⟨139,.func #[4,4] #[4] false,1,8,.nilFunc⟩,
  ⟨143,.slice 219,1,24,.slice none 0 0⟩,
  ⟨149,.slice 280,1,24,.slice none 0 0⟩,
  ⟨153,.pointer 157,1,8,.pointer none⟩,
  ⟨154,.map 9 3,1,8,.map none⟩,
  ⟨155,.map 3 4,1,8,.map none⟩,
  ⟨157,.struct #[⟨ "names",37,0,false,"","koine/source",0⟩,⟨ "files",86,1,false,"","koine/source",24⟩,⟨ "numbers",154,2,false,"","koine/source",48⟩,⟨ "reading",155,3,false,"","koine/source",56⟩,⟨ "depth",3,4,false,"","koine/source",64⟩,⟨ "text",109,5,false,"","koine/source",72⟩,⟨ "out",39,7,false,"","koine/source",104⟩,⟨ "fresh",4,8,false,"","koine/source",128⟩,⟨ "file",3,9,false,"","koine/source",136⟩,⟨ "line",3,10,false,"","koine/source",144⟩],11,152,.agg #[.slice none 0 0,.slice none 0 0,.map none,.map none,.int .i64 0,.pointer none,.slice none 0 0,.slice none 0 0,.bool false,.int .i64 0,.int .i64 0]⟩,
  ⟨160,.struct #[⟨ "place",93,0,false,"","koine/source",0⟩],3,24,.agg #[.int .i64 0,.int .i64 0,.int .i64 0]⟩,
  ⟨166,.struct #[⟨ "in",32,0,false,"","koine/patch",0⟩,⟨ "done",9,2,false,"","koine/patch",32⟩,⟨ "at",3,3,false,"","koine/patch",48⟩],4,56,.agg #[.slice none 0 0,.int .i64 0,.string ByteArray.empty,.int .i64 0]⟩,
  ⟨167,.slice 166,1,24,.slice none 0 0⟩,
  ⟨169,.func #[56] #[4] false,1,8,.nilFunc⟩,
  ⟨172,.map 105 4,1,8,.map none⟩,
  ⟨174,.pointer 177,1,8,.pointer none⟩,
  ⟨175,.map 105 3,1,8,.map none⟩,
  ⟨177,.struct #[⟨ "nodes",30,0,false,"","koine/diagram",0⟩,⟨ "known",175,1,false,"","koine/diagram",24⟩],2,32,.agg #[.slice none 0 0,.map none]⟩,
  ⟨179,.pointer 5,1,8,.pointer none⟩,
  ⟨180,.pointer 183,1,8,.pointer none⟩,
  ⟨181,.slice 242,1,24,.slice none 0 0⟩,
  ⟨183,.struct #[⟨ "a",32,0,false,"","koine/koineref02",0⟩,⟨ "b",32,2,false,"","koine/koineref02",32⟩,⟨ "op",3,4,false,"","koine/koineref02",64⟩,⟨ "nodes",30,5,false,"","koine/koineref02",72⟩,⟨ "seen",181,6,false,"","koine/koineref02",96⟩],7,120,.agg #[.slice none 0 0,.int .i64 0,.slice none 0 0,.int .i64 0,.int .i64 0,.slice none 0 0,.slice none 0 0]⟩,
  ⟨187,.func #[105] #[4] false,1,8,.nilFunc⟩,
  ⟨192,.func #[32,3] #[37] false,1,8,.nilFunc⟩,
  ⟨197,.slice 32,1,24,.slice none 0 0⟩,
  ⟨199,.pointer 201,1,8,.pointer none⟩,
  ⟨201,.struct #[⟨ "names",37,0,false,"","koine/koineref07",0⟩,⟨ "files",86,1,false,"","koine/koineref07",24⟩,⟨ "depth",3,2,false,"","koine/koineref07",48⟩,⟨ "reading",127,3,false,"","koine/koineref07",56⟩,⟨ "out",41,4,false,"","koine/koineref07",80⟩,⟨ "fresh",4,6,false,"","koine/koineref07",120⟩,⟨ "bad",93,7,false,"","koine/koineref07",128⟩],10,152,.agg #[.slice none 0 0,.slice none 0 0,.int .i64 0,.slice none 0 0,.string ByteArray.empty,.slice none 0 0,.bool false,.int .i64 0,.int .i64 0,.int .i64 0]⟩,
  ⟨204,.array 3 32,6,96,.agg #[.slice none 0 0,.int .i64 0,.slice none 0 0,.int .i64 0,.slice none 0 0,.int .i64 0]⟩,
  ⟨205,.func #[4,4,4] #[4] false,1,8,.nilFunc⟩,
  ⟨206,.slice 4,1,24,.slice none 0 0⟩,
  ⟨213,.slice 143,1,24,.slice none 0 0⟩,
  ⟨215,.func #[3] #[3] false,1,8,.nilFunc⟩,
  ⟨217,.func #[3,3] #[143,34] false,1,8,.nilFunc⟩,
  ⟨219,.int .u32,1,4,.int .u32 0⟩,
  ⟨220,.pointer 222,1,8,.pointer none⟩,
  ⟨222,.struct #[⟨ "names",154,0,false,"","koine/formula",0⟩,⟨ "rest",9,1,false,"","koine/formula",8⟩,⟨ "f",149,2,false,"","koine/formula",24⟩,⟨ "unknown",4,3,false,"","koine/formula",48⟩],4,56,.agg #[.map none,.string ByteArray.empty,.slice none 0 0,.bool false]⟩,
  ⟨223,.func #[] #[3] false,1,8,.nilFunc⟩,
  ⟨224,.map 9 4,1,8,.map none⟩,
  ⟨225,.slice 232,1,24,.slice none 0 0⟩,
  ⟨232,.struct #[⟨ "outer",32,0,false,"","koine/source",0⟩,⟨ "rest",32,2,false,"","koine/source",32⟩,⟨ "other",4,4,false,"","koine/source",64⟩,⟨ "line",3,5,false,"","koine/source",72⟩],6,80,.agg #[.slice none 0 0,.int .i64 0,.slice none 0 0,.int .i64 0,.bool false,.int .i64 0]⟩,
  ⟨233,.pointer 232,1,8,.pointer none⟩,
  ⟨238,.map 3 3,1,8,.map none⟩,
  ⟨240,.unsafePointer,1,8,.pointer none⟩,
  ⟨242,.array 3 3,3,24,.agg #[.int .i64 0,.int .i64 0,.int .i64 0]⟩,
  ⟨247,.pointer 249,1,8,.pointer none⟩,
  ⟨249,.struct #[⟨ "nodes",30,0,false,"","koine/koineref02",0⟩,⟨ "number",127,1,false,"","koine/koineref02",24⟩,⟨ "out",30,2,false,"","koine/koineref02",48⟩],3,72,.agg #[.slice none 0 0,.slice none 0 0,.slice none 0 0]⟩,
  ⟨251,.map 253 4,1,8,.map none⟩,
  ⟨252,.func #[3,3] #[4] false,1,8,.nilFunc⟩,
  ⟨253,.array 2 3,2,16,.agg #[.int .i64 0,.int .i64 0]⟩,
  ⟨259,.array 2 122,2,48,.agg #[.slice none 0 0,.slice none 0 0]⟩,
  ⟨260,.array 2 37,2,48,.agg #[.slice none 0 0,.slice none 0 0]⟩,
  ⟨261,.slice 266,1,24,.slice none 0 0⟩,
  ⟨266,.struct #[⟨ "outer",32,0,false,"","koine/koineref07",0⟩,⟨ "rest",32,2,false,"","koine/koineref07",32⟩,⟨ "other",4,4,false,"","koine/koineref07",64⟩,⟨ "line",3,5,false,"","koine/koineref07",72⟩],6,80,.agg #[.slice none 0 0,.int .i64 0,.slice none 0 0,.int .i64 0,.bool false,.int .i64 0]⟩,
  ⟨272,.map 242 3,1,8,.map none⟩,
  ⟨273,.func #[242] #[3] false,1,8,.nilFunc⟩,
  ⟨275,.pointer 277,1,8,.pointer none⟩,
  ⟨277,.struct #[⟨ "d",32,0,false,"","koine/formula",0⟩,⟨ "f",149,2,false,"","koine/formula",32⟩],3,56,.agg #[.slice none 0 0,.int .i64 0,.slice none 0 0]⟩,
  ⟨280,.struct #[⟨ "Op",3,0,false,"","",0⟩,⟨ "Var",3,1,false,"","",8⟩,⟨ "A",3,2,false,"","",16⟩,⟨ "B",3,3,false,"","",24⟩],4,32,.agg #[.int .i64 0,.int .i64 0,.int .i64 0,.int .i64 0]⟩,
  ⟨294,.func #[21] #[4] false,1,8,.nilFunc⟩,
  ⟨297,.array 512 4,512,512,.agg (Array.replicate 512 (.bool false))⟩,
  ⟨302,.array 256 4,256,256,.agg (Array.replicate 256 (.bool false))⟩,
  ⟨306,.pointer 302,1,8,.pointer none⟩,
  ⟨312,.pointer 314,1,8,.pointer none⟩,
  ⟨314,.struct #[⟨ "names",37,0,false,"","koine/koineref03",0⟩,⟨ "l",37,1,false,"","koine/koineref03",24⟩,⟨ "at",3,2,false,"","koine/koineref03",48⟩,⟨ "f",149,3,false,"","koine/koineref03",56⟩,⟨ "bad",4,4,false,"","koine/koineref03",80⟩,⟨ "unknown",4,5,false,"","koine/koineref03",81⟩],6,88,.agg #[.slice none 0 0,.slice none 0 0,.int .i64 0,.slice none 0 0,.bool false,.bool false]⟩,
  ⟨322,.array 256 5,256,256,.agg (Array.replicate 256 (.int .u8 0))⟩,
  ⟨324,.struct #[⟨ "lo",5,0,false,"","unicode/utf8",0⟩,⟨ "hi",5,1,false,"","unicode/utf8",1⟩],2,2,.agg #[.int .u8 0,.int .u8 0]⟩,
  ⟨325,.array 16 324,32,32,.agg (Array.replicate 32 (.int .u8 0))⟩]
 fns:=[3,4,5,6,7,8,9,10,11,12,13,14,15,16,17,18,19,20,21,22,23,24,25,26,27,28,29,30,31,32,33,34,35,36,37,38,39,40,41,42,43,44,45,46,47,48,49,50,51,52,53,54,55,56,57,58,59,60,61,62,63,64,65,66,67,68,69,70,71,72,73,74,75,76,77,78,79,80,81,82,83,84,85,86,87,88,89,90,91,92,93,94,95,96,97,98,99,100,101,102,103,104,105,106,107,108,109,110,111,112,113,114,115,116,117,118,119,120,121,122,123,124,125,126,127,128,129,130,131,132,133,134,135,136,137,138,139,140,141,142,143,144,145,146,147,148,149,150,151,152,153,154,155,156,157,158,160,161,162,163,164,165,166,167,168,169,170,171,172,173,174,175,176,177,178,179,180,181,182,183,184,185,186,187,188,189,190,191,192,193,194,195,196,197,198,199,200,201,202,203,204,205,206,208,209,210,211,212,213,214,215,216,217,218,219,220,221,222,223,224,225,226,227,228,229,230,231,232,233,235,237,238,239,240,241,242,243,244,245,246,248,249,250,251,252,253,254,255,256,257,258,259,260,261]
 ms:=[]
 eqs:=[⟨105,[0,0,0]⟩,⟨280,[0,0,0,0]⟩]
theorem bQv:xP Tryz.prog gx.tys:=by
 refine⟨⟨?_,?_⟩,⟨?_,?_⟩,⟨?_,?_⟩,⟨?_,?_⟩,⟨?_,?_⟩,⟨?_,?_⟩,⟨?_,?_⟩,⟨?_,?_⟩,⟨?_,?_⟩,⟨?_,?_⟩,⟨?_,?_⟩,⟨?_,?_⟩,⟨?_,?_⟩,⟨?_,?_⟩,⟨?_,?_⟩,⟨?_,?_⟩,⟨?_,?_⟩,⟨?_,?_⟩,⟨?_,?_⟩,⟨?_,?_⟩,⟨?_,?_⟩,⟨?_,?_⟩,⟨?_,?_⟩,⟨?_,?_⟩,⟨?_,?_⟩,⟨?_,?_⟩,⟨?_,?_⟩,⟨?_,?_⟩,⟨?_,?_⟩,⟨?_,?_⟩,⟨?_,?_⟩,⟨?_,?_⟩,⟨?_,?_⟩,⟨?_,?_⟩,⟨?_,?_⟩,⟨?_,?_⟩,⟨?_,?_⟩,⟨?_,?_⟩,⟨?_,?_⟩,⟨?_,?_⟩,⟨?_,?_⟩,⟨?_,?_⟩,⟨?_,?_⟩,⟨?_,?_⟩,⟨?_,?_⟩,⟨?_,?_⟩,⟨?_,?_⟩,⟨?_,?_⟩,⟨?_,?_⟩,⟨?_,?_⟩,⟨?_,?_⟩,⟨?_,?_⟩,⟨?_,?_⟩,⟨?_,?_⟩,⟨?_,?_⟩,⟨?_,?_⟩,⟨?_,?_⟩,⟨?_,?_⟩,⟨?_,?_⟩,⟨?_,?_⟩,⟨?_,?_⟩,⟨?_,?_⟩,⟨?_,?_⟩,⟨?_,?_⟩,⟨?_,?_⟩,⟨?_,?_⟩,⟨?_,?_⟩,⟨?_,?_⟩,⟨?_,?_⟩,⟨?_,?_⟩,⟨?_,?_⟩,⟨?_,?_⟩,⟨?_,?_⟩,⟨?_,?_⟩,⟨?_,?_⟩,⟨?_,?_⟩,⟨?_,?_⟩,⟨?_,?_⟩,⟨?_,?_⟩,⟨?_,?_⟩,⟨?_,?_⟩,⟨?_,?_⟩,⟨?_,?_⟩,⟨?_,?_⟩,⟨?_,?_⟩,⟨?_,?_⟩,⟨?_,?_⟩,⟨?_,?_⟩,⟨?_,?_⟩,⟨?_,?_⟩,⟨?_,?_⟩,⟨?_,?_⟩,⟨?_,?_⟩,⟨?_,?_⟩,⟨?_,?_⟩,⟨?_,?_⟩,⟨?_,?_⟩,⟨?_,?_⟩,⟨?_,?_⟩,⟨?_,?_⟩,⟨?_,?_⟩,⟨?_,?_⟩,⟨?_,?_⟩,⟨?_,?_⟩,⟨?_,?_⟩,⟨?_,?_⟩,⟨?_,?_⟩,trivial⟩<;>kernel_rfl
set_option maxRecDepth 100000 in
theorem bQw:xQ Tryz.prog gx.fns:=by
 refine⟨⟨_,Tryz.func3,?_,?_⟩,⟨_,Tryz.func4,?_,?_⟩,⟨_,Tryz.func5,?_,?_⟩,⟨_,Tryz.func6,?_,?_⟩,⟨_,Tryz.func7,?_,?_⟩,⟨_,Tryz.func8,?_,?_⟩,⟨_,Tryz.func9,?_,?_⟩,⟨_,Tryz.func10,?_,?_⟩,⟨_,Tryz.func11,?_,?_⟩,⟨_,Tryz.func12,?_,?_⟩,⟨_,Tryz.func13,?_,?_⟩,⟨_,Tryz.func14,?_,?_⟩,⟨_,Tryz.func15,?_,?_⟩,⟨_,Tryz.func16,?_,?_⟩,⟨_,Tryz.func17,?_,?_⟩,⟨_,Tryz.func18,?_,?_⟩,⟨_,Tryz.func19,?_,?_⟩,⟨_,Tryz.func20,?_,?_⟩,⟨_,Tryz.func21,?_,?_⟩,⟨_,Tryz.func22,?_,?_⟩,⟨_,Tryz.func23,?_,?_⟩,⟨_,Tryz.func24,?_,?_⟩,⟨_,Tryz.func25,?_,?_⟩,⟨_,Tryz.func26,?_,?_⟩,⟨_,Tryz.func27,?_,?_⟩,⟨_,Tryz.func28,?_,?_⟩,⟨_,Tryz.func29,?_,?_⟩,⟨_,Tryz.func30,?_,?_⟩,⟨_,Tryz.func31,?_,?_⟩,⟨_,Tryz.func32,?_,?_⟩,⟨_,Tryz.func33,?_,?_⟩,⟨_,Tryz.func34,?_,?_⟩,⟨_,Tryz.func35,?_,?_⟩,⟨_,Tryz.func36,?_,?_⟩,⟨_,Tryz.func37,?_,?_⟩,⟨_,Tryz.func38,?_,?_⟩,⟨_,Tryz.func39,?_,?_⟩,⟨_,Tryz.func40,?_,?_⟩,⟨_,Tryz.func41,?_,?_⟩,⟨_,Tryz.func42,?_,?_⟩,⟨_,Tryz.func43,?_,?_⟩,⟨_,Tryz.func44,?_,?_⟩,⟨_,Tryz.func45,?_,?_⟩,⟨_,Tryz.func46,?_,?_⟩,⟨_,Tryz.func47,?_,?_⟩,⟨_,Tryz.func48,?_,?_⟩,⟨_,Tryz.func49,?_,?_⟩,⟨_,Tryz.func50,?_,?_⟩,⟨_,Tryz.func51,?_,?_⟩,⟨_,Tryz.func52,?_,?_⟩,⟨_,Tryz.func53,?_,?_⟩,⟨_,Tryz.func54,?_,?_⟩,⟨_,Tryz.func55,?_,?_⟩,⟨_,Tryz.func56,?_,?_⟩,⟨_,Tryz.func57,?_,?_⟩,⟨_,Tryz.func58,?_,?_⟩,⟨_,Tryz.func59,?_,?_⟩,⟨_,Tryz.func60,?_,?_⟩,⟨_,Tryz.func61,?_,?_⟩,⟨_,Tryz.func62,?_,?_⟩,⟨_,Tryz.func63,?_,?_⟩,⟨_,Tryz.func64,?_,?_⟩,⟨_,Tryz.func65,?_,?_⟩,⟨_,Tryz.func66,?_,?_⟩,⟨_,Tryz.func67,?_,?_⟩,⟨_,Tryz.func68,?_,?_⟩,⟨_,Tryz.func69,?_,?_⟩,⟨_,Tryz.func70,?_,?_⟩,⟨_,Tryz.func71,?_,?_⟩,⟨_,Tryz.func72,?_,?_⟩,⟨_,Tryz.func73,?_,?_⟩,⟨_,Tryz.func74,?_,?_⟩,⟨_,Tryz.func75,?_,?_⟩,⟨_,Tryz.func76,?_,?_⟩,⟨_,Tryz.func77,?_,?_⟩,⟨_,Tryz.func78,?_,?_⟩,⟨_,Tryz.func79,?_,?_⟩,⟨_,Tryz.func80,?_,?_⟩,⟨_,Tryz.func81,?_,?_⟩,⟨_,Tryz.func82,?_,?_⟩,⟨_,Tryz.func83,?_,?_⟩,⟨_,Tryz.func84,?_,?_⟩,⟨_,Tryz.func85,?_,?_⟩,⟨_,Tryz.func86,?_,?_⟩,⟨_,Tryz.func87,?_,?_⟩,⟨_,Tryz.func88,?_,?_⟩,⟨_,Tryz.func89,?_,?_⟩,⟨_,Tryz.func90,?_,?_⟩,⟨_,Tryz.func91,?_,?_⟩,⟨_,Tryz.func92,?_,?_⟩,⟨_,Tryz.func93,?_,?_⟩,⟨_,Tryz.func94,?_,?_⟩,⟨_,Tryz.func95,?_,?_⟩,⟨_,Tryz.func96,?_,?_⟩,⟨_,Tryz.func97,?_,?_⟩,⟨_,Tryz.func98,?_,?_⟩,⟨_,Tryz.func99,?_,?_⟩,⟨_,Tryz.func100,?_,?_⟩,⟨_,Tryz.func101,?_,?_⟩,⟨_,Tryz.func102,?_,?_⟩,⟨_,Tryz.func103,?_,?_⟩,⟨_,Tryz.func104,?_,?_⟩,⟨_,Tryz.func105,?_,?_⟩,⟨_,Tryz.func106,?_,?_⟩,⟨_,Tryz.func107,?_,?_⟩,⟨_,Tryz.func108,?_,?_⟩,⟨_,Tryz.func109,?_,?_⟩,⟨_,Tryz.func110,?_,?_⟩,⟨_,Tryz.func111,?_,?_⟩,⟨_,Tryz.func112,?_,?_⟩,⟨_,Tryz.func113,?_,?_⟩,⟨_,Tryz.func114,?_,?_⟩,⟨_,Tryz.func115,?_,?_⟩,⟨_,Tryz.func116,?_,?_⟩,⟨_,Tryz.func117,?_,?_⟩,⟨_,Tryz.func118,?_,?_⟩,⟨_,Tryz.func119,?_,?_⟩,⟨_,Tryz.func120,?_,?_⟩,⟨_,Tryz.func121,?_,?_⟩,⟨_,Tryz.func122,?_,?_⟩,⟨_,Tryz.func123,?_,?_⟩,⟨_,Tryz.func124,?_,?_⟩,⟨_,Tryz.func125,?_,?_⟩,⟨_,Tryz.func126,?_,?_⟩,⟨_,Tryz.func127,?_,?_⟩,⟨_,Tryz.func128,?_,?_⟩,⟨_,Tryz.func129,?_,?_⟩,⟨_,Tryz.func130,?_,?_⟩,⟨_,Tryz.func131,?_,?_⟩,⟨_,Tryz.func132,?_,?_⟩,⟨_,Tryz.func133,?_,?_⟩,⟨_,Tryz.func134,?_,?_⟩,⟨_,Tryz.func135,?_,?_⟩,⟨_,Tryz.func136,?_,?_⟩,⟨_,Tryz.func137,?_,?_⟩,⟨_,Tryz.func138,?_,?_⟩,⟨_,Tryz.func139,?_,?_⟩,⟨_,Tryz.func140,?_,?_⟩,⟨_,Tryz.func141,?_,?_⟩,⟨_,Tryz.func142,?_,?_⟩,⟨_,Tryz.func143,?_,?_⟩,⟨_,Tryz.func144,?_,?_⟩,⟨_,Tryz.func145,?_,?_⟩,⟨_,Tryz.func146,?_,?_⟩,⟨_,Tryz.func147,?_,?_⟩,⟨_,Tryz.func148,?_,?_⟩,⟨_,Tryz.func149,?_,?_⟩,⟨_,Tryz.func150,?_,?_⟩,⟨_,Tryz.func151,?_,?_⟩,⟨_,Tryz.func152,?_,?_⟩,⟨_,Tryz.func153,?_,?_⟩,⟨_,Tryz.func154,?_,?_⟩,⟨_,Tryz.func155,?_,?_⟩,⟨_,Tryz.func156,?_,?_⟩,⟨_,Tryz.func157,?_,?_⟩,⟨_,Tryz.func158,?_,?_⟩,⟨_,Tryz.func160,?_,?_⟩,⟨_,Tryz.func161,?_,?_⟩,⟨_,Tryz.func162,?_,?_⟩,⟨_,Tryz.func163,?_,?_⟩,⟨_,Tryz.func164,?_,?_⟩,⟨_,Tryz.func165,?_,?_⟩,⟨_,Tryz.func166,?_,?_⟩,⟨_,Tryz.func167,?_,?_⟩,⟨_,Tryz.func168,?_,?_⟩,⟨_,Tryz.func169,?_,?_⟩,⟨_,Tryz.func170,?_,?_⟩,⟨_,Tryz.func171,?_,?_⟩,⟨_,Tryz.func172,?_,?_⟩,⟨_,Tryz.func173,?_,?_⟩,⟨_,Tryz.func174,?_,?_⟩,⟨_,Tryz.func175,?_,?_⟩,⟨_,Tryz.func176,?_,?_⟩,⟨_,Tryz.func177,?_,?_⟩,⟨_,Tryz.func178,?_,?_⟩,⟨_,Tryz.func179,?_,?_⟩,⟨_,Tryz.func180,?_,?_⟩,⟨_,Tryz.func181,?_,?_⟩,⟨_,Tryz.func182,?_,?_⟩,⟨_,Tryz.func183,?_,?_⟩,⟨_,Tryz.func184,?_,?_⟩,⟨_,Tryz.func185,?_,?_⟩,⟨_,Tryz.func186,?_,?_⟩,⟨_,Tryz.func187,?_,?_⟩,⟨_,Tryz.func188,?_,?_⟩,⟨_,Tryz.func189,?_,?_⟩,⟨_,Tryz.func190,?_,?_⟩,⟨_,Tryz.func191,?_,?_⟩,⟨_,Tryz.func192,?_,?_⟩,⟨_,Tryz.func193,?_,?_⟩,⟨_,Tryz.func194,?_,?_⟩,⟨_,Tryz.func195,?_,?_⟩,⟨_,Tryz.func196,?_,?_⟩,⟨_,Tryz.func197,?_,?_⟩,⟨_,Tryz.func198,?_,?_⟩,⟨_,Tryz.func199,?_,?_⟩,⟨_,Tryz.func200,?_,?_⟩,⟨_,Tryz.func201,?_,?_⟩,⟨_,Tryz.func202,?_,?_⟩,⟨_,Tryz.func203,?_,?_⟩,⟨_,Tryz.func204,?_,?_⟩,⟨_,Tryz.func205,?_,?_⟩,⟨_,Tryz.func206,?_,?_⟩,⟨_,Tryz.func208,?_,?_⟩,⟨_,Tryz.func209,?_,?_⟩,⟨_,Tryz.func210,?_,?_⟩,⟨_,Tryz.func211,?_,?_⟩,⟨_,Tryz.func212,?_,?_⟩,⟨_,Tryz.func213,?_,?_⟩,⟨_,Tryz.func214,?_,?_⟩,⟨_,Tryz.func215,?_,?_⟩,⟨_,Tryz.func216,?_,?_⟩,⟨_,Tryz.func217,?_,?_⟩,⟨_,Tryz.func218,?_,?_⟩,⟨_,Tryz.func219,?_,?_⟩,⟨_,Tryz.func220,?_,?_⟩,⟨_,Tryz.func221,?_,?_⟩,⟨_,Tryz.func222,?_,?_⟩,⟨_,Tryz.func223,?_,?_⟩,⟨_,Tryz.func224,?_,?_⟩,⟨_,Tryz.func225,?_,?_⟩,⟨_,Tryz.func226,?_,?_⟩,⟨_,Tryz.func227,?_,?_⟩,⟨_,Tryz.func228,?_,?_⟩,⟨_,Tryz.func229,?_,?_⟩,⟨_,Tryz.func230,?_,?_⟩,⟨_,Tryz.func231,?_,?_⟩,⟨_,Tryz.func232,?_,?_⟩,⟨_,Tryz.func233,?_,?_⟩,⟨_,Tryz.func235,?_,?_⟩,⟨_,Tryz.func237,?_,?_⟩,⟨_,Tryz.func238,?_,?_⟩,⟨_,Tryz.func239,?_,?_⟩,⟨_,Tryz.func240,?_,?_⟩,⟨_,Tryz.func241,?_,?_⟩,⟨_,Tryz.func242,?_,?_⟩,⟨_,Tryz.func243,?_,?_⟩,⟨_,Tryz.func244,?_,?_⟩,⟨_,Tryz.func245,?_,?_⟩,⟨_,Tryz.func246,?_,?_⟩,⟨_,Tryz.func248,?_,?_⟩,⟨_,Tryz.func249,?_,?_⟩,⟨_,Tryz.func250,?_,?_⟩,⟨_,Tryz.func251,?_,?_⟩,⟨_,Tryz.func252,?_,?_⟩,⟨_,Tryz.func253,?_,?_⟩,⟨_,Tryz.func254,?_,?_⟩,⟨_,Tryz.func255,?_,?_⟩,⟨_,Tryz.func256,?_,?_⟩,⟨_,Tryz.func257,?_,?_⟩,⟨_,Tryz.func258,?_,?_⟩,⟨_,Tryz.func259,?_,?_⟩,⟨_,Tryz.func260,?_,?_⟩,⟨_,Tryz.func261,?_,?_⟩,trivial⟩<;>kernel_rfl
theorem bQx:xN Tryz.prog gx.ms:=
 trivial
theorem bQy:xO Tryz.prog gx.eqs:=
 ⟨⟨by kernel_rfl,by kernel_rfl,by kernel_rfl⟩,
  ⟨by kernel_rfl,by kernel_rfl,by kernel_rfl⟩,trivial⟩
theorem Qa:gx.Ok:=⟨bQv,bQw,by kernel_rfl,bQx,bQy⟩
abbrev c3:Cx:=⟨gx,128,1,[1,2,3,4,5,6,7,8,9,10,11,12,13,14,15,16,17,18,19,37,58,60,66,71,83,97,126],[]⟩
abbrev c4:Cx:=⟨gx,146,2,[2,4,5,6,7,8,9,10,11,12,13,14,15,16,17,18,19,20,21,22,37,45,83,92,97,128,130,144],[]⟩
abbrev c5:Cx:=⟨gx,181,3,[3,6,7,8,9,10,11,12,13,14,15,16,19,21,25,60,72,80,87,96,101,110,115,122],[]⟩
abbrev c6:Cx:=⟨gx,137,3,[3,5,6,7,8,9,10,11,12,13,14,15,16,66],[]⟩
abbrev c7:Cx:=⟨gx,100,2,[2,4,5,6,7,8,9,10,11,12,13,14,15,23],[]⟩
abbrev c8:Cx:=⟨gx,179,1,[1,2,3,4,5,6,7,8,9,10,11,12,13,26,32,48,58,61,78,89,100,131,133,177],[]⟩
abbrev c9:Cx:=⟨gx,80,1,[1,2,3,4,5,6,7,8,9,10,19],[]⟩
abbrev qH:Cx:=⟨gx,53,2,[2,4,5,6,7,8,9,10,33,35,51],[]⟩
abbrev tY:Cx:=⟨gx,179,1,[1,3,5,7,9,11,13,14,15,16,17,18,19,21,23,25,26,27,28,30],[]⟩
abbrev c14:Cx:=⟨gx,12,2,[2,3,9],[]⟩
abbrev c15:Cx:=⟨gx,118,5,[5,8,9,10,11,12,13,14,15,17,19,44,45,46,47,51,81,115],[]⟩
abbrev c16:Cx:=⟨gx,2,1,[],[]⟩
abbrev c19:Cx:=⟨gx,38,6,[10,16,30],[]⟩
abbrev c22:Cx:=⟨gx,8,2,[2,3,4],[]⟩
abbrev c23:Cx:=⟨gx,9,2,[2,3,4],[]⟩
abbrev c24:Cx:=⟨gx,65,4,[4,6,7,8,10,16,17,18,19,46,55,59],[]⟩
abbrev c25:Cx:=⟨gx,7,2,[2],[]⟩
abbrev c26:Cx:=⟨gx,69,2,[2,4,5,6,7,8,11,19,39,48],[]⟩
abbrev c28:Cx:=⟨gx,11,4,[4],[]⟩
abbrev c29:Cx:=⟨gx,6,2,[2,3],[]⟩
abbrev c30:Cx:=⟨gx,15,2,[2,3,9],[]⟩
abbrev c33:Cx:=⟨gx,33,2,[2,4,5,11,23],[]⟩
abbrev c34:Cx:=⟨gx,15,2,[2,3,9],[]⟩
abbrev c35:Cx:=⟨gx,9,1,[1,2,3],[]⟩
abbrev c36:Cx:=⟨gx,11,2,[2,3,4,5],[]⟩
abbrev c37:Cx:=⟨gx,6,2,[2,3],[]⟩
abbrev c38:Cx:=⟨gx,42,7,[7,9,11,12],[]⟩
abbrev c39:Cx:=⟨gx,25,4,[4,6,7,8],[]⟩
abbrev aC:Cx:=⟨gx,11,4,[9],[]⟩
abbrev c42:Cx:=⟨gx,47,3,[3,5,6,7,8,9,24,45],[]⟩
abbrev c43:Cx:=⟨gx,81,6,[6,7,9,10,11,12,13,14,15,22,29,38,39,40,41,63],[]⟩
abbrev Mi:Cx:=⟨gx,6,2,[3],[]⟩
abbrev c45:Cx:=⟨gx,107,3,[3,4,5,9,10,11,12,70,104],[]⟩
abbrev c46:Cx:=⟨gx,19,4,[12],[]⟩
abbrev c47:Cx:=⟨gx,21,5,[5,6,7,8,13],[]⟩
abbrev c48:Cx:=⟨gx,222,7,[7,8,9,11,12,13,15,16,18,19,21,22,23,25,26,27,31,32,33,34,56,64,67,68,69,70,77,78,79,80,97,105,106,107,108,111,112,113,114,124,155,163,164,165,166,185,191],[]⟩
abbrev c49:Cx:=⟨gx,11,2,[2,3,4],[]⟩
abbrev Mj:Cx:=⟨gx,22,6,[6,7,8,9,17],[]⟩
abbrev c51:Cx:=⟨gx,6,3,[],[]⟩
abbrev c52:Cx:=⟨gx,106,1,[1,2,3,4,5,6,10,13,14,15,16,63,79,94,105],[]⟩
abbrev c53:Cx:=⟨gx,30,2,[2,4,5,6,10,23],[]⟩
abbrev Mk:Cx:=⟨gx,19,6,[],[]⟩
abbrev Ml:Cx:=⟨gx,14,3,[],[]⟩
abbrev c58:Cx:=⟨gx,26,3,[3,4,6,7,8],[]⟩
abbrev c59:Cx:=⟨gx,6,1,[1,2],[]⟩
abbrev aD:Cx:=⟨gx,11,4,[9],[]⟩
abbrev c61:Cx:=⟨gx,15,2,[2,3,4],[]⟩
abbrev c62:Cx:=⟨gx,16,2,[2,3,4],[]⟩
abbrev c63:Cx:=⟨gx,15,3,[],[]⟩
abbrev c64:Cx:=⟨gx,12,2,[2,3,4],[]⟩
abbrev c65:Cx:=⟨gx,12,3,[3,4,5,6,7],[]⟩
abbrev c66:Cx:=⟨gx,8,2,[2,3,4],[]⟩
abbrev Mm:Cx:=⟨gx,59,8,[8,9,13],[]⟩
abbrev c80:Cx:=⟨gx,23,5,[12],[]⟩
abbrev c81:Cx:=⟨gx,9,3,[],[]⟩
abbrev c82:Cx:=⟨gx,26,3,[3,4,5,6,7,8,14],[]⟩
abbrev c83:Cx:=⟨gx,7,5,[],[]⟩
abbrev c84:Cx:=⟨gx,9,5,[],[]⟩
abbrev c86:Cx:=⟨gx,30,3,[3,4,5,7,8,9,16,23],[]⟩
abbrev c87:Cx:=⟨gx,107,2,[2,3,4,5,6,8,9,10,11,12,13,14,15,16,17,18,19,20,24,31,33,34,35,36,42,55,56,57,58,93],[]⟩
abbrev c88:Cx:=⟨gx,31,6,[13,15,16,17],[]⟩
abbrev c89:Cx:=⟨gx,50,4,[4,5,6,7,8,15,25,32,38],[]⟩
abbrev c90:Cx:=⟨gx,87,2,[2,3,4,5,6,7,10,13,14,15,16,46,47,48,73,79],[]⟩
abbrev WA:Cx:=⟨gx,13,2,[2,3,9],[]⟩
abbrev c92:Cx:=⟨gx,230,5,[5,6,7,8,9,10,11,12,13,14,16,17,18,19,20,21,56,96,125,147,163,172,201],[]⟩
abbrev c95:Cx:=⟨gx,10,5,[],[]⟩
abbrev c96:Cx:=⟨gx,8,5,[],[]⟩
abbrev c97:Cx:=⟨gx,16,2,[2,3,4],[]⟩
abbrev c98:Cx:=⟨gx,19,6,[7,8,9,16],[]⟩
abbrev c99:Cx:=⟨gx,8,2,[2,3],[]⟩
abbrev bQz:Cx:=⟨gx,8,2,[2,4],[]⟩
abbrev bQA:Cx:=⟨gx,11,2,[2,3,4,5],[]⟩
abbrev bQB:Cx:=⟨gx,75,8,[8,10,12,13,15,22,29,39,40,41,42,49,63,64,65,66],[]⟩
abbrev bQC:Cx:=⟨gx,14,2,[2,4,6],[]⟩
abbrev bQD:Cx:=⟨gx,17,2,[2,4,5,6,7],[]⟩
abbrev bQE:Cx:=⟨gx,17,2,[2,3,4],[]⟩
abbrev Mn:Cx:=⟨gx,20,2,[6,19],[]⟩
abbrev bQF:Cx:=⟨gx,137,17,[22,33,57],[]⟩
abbrev bQG:Cx:=⟨gx,22,4,[4,5,6],[]⟩
abbrev bQH:Cx:=⟨gx,9,5,[],[]⟩
abbrev bQI:Cx:=⟨gx,8,2,[2,3],[]⟩
abbrev bQJ:Cx:=⟨gx,18,4,[4,5,6,7,8,9,15],[]⟩
abbrev Mo:Cx:=⟨gx,17,3,[3,4,5,6,7,8],[]⟩
abbrev bQK:Cx:=⟨gx,8,5,[],[]⟩
abbrev bQL:Cx:=⟨gx,9,5,[],[]⟩
abbrev bQM:Cx:=⟨gx,26,3,[3,4,5,6,7,8,15],[]⟩
abbrev bQN:Cx:=⟨gx,77,5,[5,7,9,10,11,12,13,14,15,16,17,18,24,42,50,68],[]⟩
abbrev bQO:Cx:=⟨gx,26,6,[10,12,13,14,24],[]⟩
abbrev bQP:Cx:=⟨gx,77,11,[47,66],[]⟩
abbrev bQQ:Cx:=⟨gx,10,1,[1,2,3,7],[]⟩
abbrev Mp:Cx:=⟨gx,25,2,[2,3,4,5,6,7],[]⟩
abbrev Dl:Cx:=⟨gx,12,8,[],[]⟩
abbrev bQR:Cx:=⟨gx,47,7,[8,9,10,11,31],[]⟩
abbrev bQS:Cx:=⟨gx,28,1,[1,2,3,4,5,9,23],[]⟩
abbrev bQT:Cx:=⟨gx,45,9,[9,10,17,20,21,22,23,24,36],[]⟩
abbrev bQU:Cx:=⟨gx,16,5,[],[]⟩
abbrev bQV:Cx:=⟨gx,10,5,[],[]⟩
abbrev bQW:Cx:=⟨gx,34,11,[19,20,21,29],[]⟩
abbrev bQX:Cx:=⟨gx,72,9,[16,21,32,33,34,46],[]⟩
abbrev bQY:Cx:=⟨gx,20,3,[],[]⟩
abbrev yq:Cx:=⟨gx,17,5,[7,14],[]⟩
abbrev bQZ:Cx:=⟨gx,6,1,[1,2],[]⟩
abbrev bQ0:Cx:=⟨gx,29,7,[],[]⟩
abbrev bQ1:Cx:=⟨gx,13,7,[],[]⟩
abbrev bQ2:Cx:=⟨gx,32,4,[4,5,6,16,17,25],[]⟩
abbrev bQ3:Cx:=⟨gx,16,2,[6],[]⟩
abbrev bQ4:Cx:=⟨gx,29,4,[4,5,6,7],[]⟩
abbrev bQ5:Cx:=⟨gx,56,7,[27,52],[]⟩
abbrev bQ6:Cx:=⟨gx,16,4,[],[]⟩
abbrev bQ7:Cx:=⟨gx,42,8,[8,9,13,25],[]⟩
abbrev bQ8:Cx:=⟨gx,80,7,[7,8,31,37],[]⟩
abbrev bQ9:Cx:=⟨gx,66,12,[13,15,20,36,41],[]⟩
abbrev cQa:Cx:=⟨gx,18,5,[],[]⟩
abbrev cQb:Cx:=⟨gx,9,5,[],[]⟩
abbrev cQc:Cx:=⟨gx,55,9,[9,10,11,18],[]⟩
abbrev cQd:Cx:=⟨gx,26,6,[10,12,13,14,24],[]⟩
abbrev cQe:Cx:=⟨gx,25,7,[10,11,16],[]⟩
abbrev cQf:Cx:=⟨gx,14,2,[2,4,6],[]⟩
abbrev cQg:Cx:=⟨gx,29,3,[3,6,7,12],[]⟩
abbrev cQh:Cx:=⟨gx,38,3,[3,4,5,6,11,18,26],[]⟩
abbrev cQi:Cx:=⟨gx,77,5,[5,6,7,9,19],[]⟩
abbrev cQj:Cx:=⟨gx,19,6,[7,8,9,16],[]⟩
abbrev Mq:Cx:=⟨gx,67,15,[16,24,26,31],[]⟩
abbrev cQk:Cx:=⟨gx,29,3,[3,6,7,12],[]⟩
abbrev cQl:Cx:=⟨gx,21,5,[],[]⟩
abbrev cQm:Cx:=⟨gx,19,6,[7,8,9,16],[]⟩
abbrev cQn:Cx:=⟨gx,18,7,[],[]⟩
abbrev cQo:Cx:=⟨gx,64,12,[16,17,18,28,47,48,53,59],[]⟩
abbrev cQp:Cx:=⟨gx,8,3,[4],[]⟩
abbrev cQq:Cx:=⟨gx,4,1,[],[]⟩
abbrev Mr:Cx:=⟨gx,97,6,[6,7,8,9,10,11,12,13,14,15,28,39,46,64,65],[]⟩
abbrev cQr:Cx:=⟨gx,54,9,[9,10,11,14,30],[]⟩
abbrev cQs:Cx:=⟨gx,23,4,[7,21],[]⟩
abbrev cQt:Cx:=⟨gx,89,5,[5,6,7,17,32,42,52,62],[]⟩
abbrev cQu:Cx:=⟨gx,63,3,[3,4,5,6,8,9,17,18,19,20,21,29,36,37,38,39,44,54,55,56,61],[]⟩
abbrev cQv:Cx:=⟨gx,75,10,[10,11,21,26,48,52,56,65],[]⟩
abbrev cQw:Cx:=⟨gx,24,5,[16,20],[]⟩
abbrev Ms:Cx:=⟨gx,25,11,[15],[]⟩
abbrev cQx:Cx:=⟨gx,6,2,[],[]⟩
abbrev cQy:Cx:=⟨gx,84,9,[10,18,23,32,49,50,55],[]⟩
abbrev cQz:Cx:=⟨gx,37,5,[5,6,12,21,31],[]⟩
abbrev cQA:Cx:=⟨gx,11,6,[],[]⟩
abbrev cQB:Cx:=⟨gx,23,8,[12],[]⟩
abbrev cQC:Cx:=⟨gx,13,4,[4,6,8],[]⟩
abbrev cQD:Cx:=⟨gx,108,2,[2,3,4,5,6,7,10,15,16,17,18,23,24,34,45,59,78,98],[]⟩
abbrev cQE:Cx:=⟨gx,8,3,[],[]⟩
abbrev cQF:Cx:=⟨gx,9,1,[1,2],[]⟩
abbrev cQG:Cx:=⟨gx,8,5,[],[]⟩
abbrev cQH:Cx:=⟨gx,79,2,[2,4,5,6,50,66,69,78],[]⟩
abbrev cQI:Cx:=⟨gx,8,5,[],[]⟩
abbrev cQJ:Cx:=⟨gx,29,3,[],[]⟩
abbrev cQK:Cx:=⟨gx,27,3,[3,4,10],[]⟩
abbrev cQL:Cx:=⟨gx,39,13,[18,28],[]⟩
abbrev cQM:Cx:=⟨gx,69,2,[2,4,5,6,11,12,15,27,28,33,67],[]⟩
abbrev cQN:Cx:=⟨gx,8,3,[3,4,6],[]⟩
abbrev Mt:Cx:=⟨gx,17,5,[],[]⟩
abbrev cQO:Cx:=⟨gx,21,3,[3,4],[]⟩
abbrev cQP:Cx:=⟨gx,21,2,[2,3,4,5,9,16],[]⟩
abbrev cQQ:Cx:=⟨gx,16,5,[7,12],[]⟩
abbrev cQR:Cx:=⟨gx,15,6,[9],[]⟩
abbrev cQS:Cx:=⟨gx,10,5,[],[]⟩
end
end Go.Proofs.YtjabbbcdgmlojaaGreatDoor
namespace Go.Proofs
open Go Go.RowKit
section
open Go.Shelf
def Tryz.lays156_ren:Go.Shelf.Ren:=⟨fun | 156=>102 | 165=>156 | 166=>56 | 169=>57 | 240=>106 | 241=>210 | 276=>159 | 277=>236 | n=>n,fun | 31=>37 | 9=>9 | 3=>3 | 4=>4 | 0=>0 | 20=>20 | 72=>109 | 76=>113 | 70=>107 | 37=>62 | 75=>112 | 127=>179 | 164=>240 | 5=>5 | 80=>115 | n=>n,fun | n=>n⟩
theorem mQs:Go.Proofs.Lays.n156 Tryz.prog Tryz.lays156_ren:={
 mixed:=by kernel_rfl
 f156:=Tryz.func102.trans (congrArg some (by kernel_rfl))
 f165:=Tryz.func156.trans (congrArg some (by kernel_rfl))
 f166:=Tryz.func56.trans (congrArg some (by kernel_rfl))
 f169:=Tryz.func57.trans (congrArg some (by kernel_rfl))
 f240:=Tryz.func106.trans (congrArg some (by kernel_rfl))
 f241:=Tryz.func210.trans (congrArg some (by kernel_rfl))
 f276:=Tryz.func159.trans (congrArg some (by kernel_rfl))
 f277:=Tryz.func236.trans (congrArg some (by kernel_rfl))
 t0:=Tryz.underlying0
 a0:=Tryz.isAgg0
 z0:=Tryz.sizeOf0
 v0:=Tryz.zeroValue0
 t3:=Tryz.underlying3
 a3:=Tryz.isAgg3
 z3:=Tryz.sizeOf3
 v3:=Tryz.zeroValue3
 t4:=Tryz.underlying4
 a4:=Tryz.isAgg4
 z4:=Tryz.sizeOf4
 v4:=Tryz.zeroValue4
 t9:=Tryz.underlying9
 a9:=Tryz.isAgg9
 z9:=Tryz.sizeOf9
 v9:=Tryz.zeroValue9
 t20:=Tryz.underlying20
 a20:=Tryz.isAgg20
 z20:=Tryz.sizeOf20
 v20:=Tryz.zeroValue20
 t31:=Tryz.underlying37
 a31:=Tryz.isAgg37
 z31:=Tryz.sizeOf37
 v31:=Tryz.zeroValue37
 t37:=Tryz.underlying62
 a37:=Tryz.isAgg62
 z37:=Tryz.sizeOf62
 v37:=Tryz.zeroValue62
 t70:=Tryz.underlying107
 a70:=Tryz.isAgg107
 z70:=Tryz.sizeOf107
 v70:=Tryz.zeroValue107
 t72:=Tryz.underlying109
 a72:=Tryz.isAgg109
 z72:=Tryz.sizeOf109
 v72:=Tryz.zeroValue109
 t75:=Tryz.underlying112
 a75:=Tryz.isAgg112
 z75:=Tryz.sizeOf112
 v75:=Tryz.zeroValue112
 t76:=Tryz.underlying113
 a76:=Tryz.isAgg113
 z76:=Tryz.sizeOf113
 v76:=Tryz.zeroValue113
 t127:=Tryz.underlying179
 a127:=Tryz.isAgg179
 z127:=Tryz.sizeOf179
 v127:=Tryz.zeroValue179
 t164:=Tryz.underlying240
 a164:=Tryz.isAgg240
 z164:=Tryz.sizeOf240
 v164:=Tryz.zeroValue240}
theorem mQm:Builder.Extra Tryz.prog Tryz.lays156_ren:={
 sizeBuilder:=by kernel_rfl
 liesBuilder:=by kernel_rfl
 t5:=Tryz.underlying5
 a5:=Tryz.isAgg5
 z5:=Tryz.sizeOf5
 v5:=Tryz.zeroValue5
 infoByte:=by kernel_rfl
 cellsByte:=by kernel_rfl
 sizeByte:=by kernel_rfl
 neB5:=by decide}
open Go.RowKit in
theorem Tryz.strings_Join (bk o c:Nat)(xs:List ByteArray)(sep:ByteArray)(w:World)(kQt:∀(j:Nat) x,xs[j]? =some x->w.cell? ⟨bk,o+j,none⟩=some (.string x))(iN:bk<w.heap.size)(hN:xs.length<=140737488355328)(aZ:xs.length<=c)(Xb:(Lib.join (xs.map (·.data.toList)) sep.data.toList).length<=140737488355328):
  Calls Tryz.prog 102 #[.slice (some ⟨bk,o,none⟩) xs.length c,.string sep] w λe w'=>e= .returned (.string ⟨(Lib.join (xs.map (·.data.toList)) sep.data.toList).toArray⟩)/\Below w.heap.size w w':=Any.strings_Join mQs mQm bk o c xs sep w kQt iN hN aZ Xb
def Tryz.lays137_ren:Go.Shelf.Ren:=⟨fun | 137=>94 | 217=>152 | 266=>207 | n=>n,fun | 9=>9 | 5=>5 | 3=>3 | n=>n,fun | n=>n⟩
theorem mQv:Go.Proofs.Lays.n137 Tryz.prog Tryz.lays137_ren:={
 mixed:=by kernel_rfl
 f137:=Tryz.func94.trans (congrArg some (by kernel_rfl))
 f217:=Tryz.func152.trans (congrArg some (by kernel_rfl))
 f266:=Tryz.func207.trans (congrArg some (by kernel_rfl))
 t3:=Tryz.underlying3
 a3:=Tryz.isAgg3
 z3:=Tryz.sizeOf3
 v3:=Tryz.zeroValue3
 t5:=Tryz.underlying5
 a5:=Tryz.isAgg5
 z5:=Tryz.sizeOf5
 v5:=Tryz.zeroValue5
 t9:=Tryz.underlying9
 a9:=Tryz.isAgg9
 z9:=Tryz.sizeOf9
 v9:=Tryz.zeroValue9}
open Go.RowKit in
theorem Tryz.strings_IndexByte (s:ByteArray)(c:Int)(w:World):
  Calls Tryz.prog 94 #[.string s,.int .u8 c] w λe w'=>e= .returned (.int .i64 (Lib.indexByte s.data.toList c.toNat.toUInt8))/\w'=w:=Any.strings_IndexByte mQv s c w
def Tryz.lays219_ren:Go.Shelf.Ren:=⟨fun | 219=>232 | 217=>152 | 225=>247 | 224=>248 | 267=>249 | 266=>207 | 314=>259 | n=>n,fun | 9=>9 | 3=>3 | 4=>4 | 5=>5 | 46=>121 | 146=>320 | 51=>219 | n=>n,fun | 1=>0 | n=>n⟩
theorem mQu:Go.Proofs.Lays.n219 Tryz.prog Tryz.lays219_ren:={
 mixed:=by kernel_rfl
 f217:=Tryz.func152.trans (congrArg some (by kernel_rfl))
 f219:=Tryz.func232.trans (congrArg some (by kernel_rfl))
 f224:=Tryz.func248.trans (congrArg some (by kernel_rfl))
 f225:=Tryz.func247.trans (congrArg some (by kernel_rfl))
 f266:=Tryz.func207.trans (congrArg some (by kernel_rfl))
 f267:=Tryz.func249.trans (congrArg some (by kernel_rfl))
 f314:=Tryz.func259.trans (congrArg some (by kernel_rfl))
 t3:=Tryz.underlying3
 a3:=Tryz.isAgg3
 z3:=Tryz.sizeOf3
 v3:=Tryz.zeroValue3
 t4:=Tryz.underlying4
 a4:=Tryz.isAgg4
 z4:=Tryz.sizeOf4
 v4:=Tryz.zeroValue4
 t5:=Tryz.underlying5
 a5:=Tryz.isAgg5
 z5:=Tryz.sizeOf5
 v5:=Tryz.zeroValue5
 t9:=Tryz.underlying9
 a9:=Tryz.isAgg9
 z9:=Tryz.sizeOf9
 v9:=Tryz.zeroValue9
 t46:=Tryz.underlying121
 a46:=Tryz.isAgg121
 z46:=Tryz.sizeOf121
 v46:=Tryz.zeroValue121
 t51:=Tryz.underlying219
 a51:=Tryz.isAgg219
 z51:=Tryz.sizeOf219
 v51:=Tryz.zeroValue219
 t146:=Tryz.underlying320
 a146:=Tryz.isAgg320
 z146:=Tryz.sizeOf320
 v146:=Tryz.zeroValue320
 g1:=by kernel_rfl}
open Go.RowKit Go.Lib in
theorem Tryz.stringslite_Index_one (s:ByteArray)(c:UInt8)(w:World):
  Calls Tryz.prog 232 #[.string s,.string ⟨#[c]⟩] w λe w'=>e= .returned (.int .i64 (Lib.indexByte s.data.toList c))/\w'=w:=Any.stringslite_Index_one mQu s c w
def Tryz.lays138_ren:Go.Shelf.Ren:=⟨fun | 138=>204 | 195=>233 | 218=>234 | 143=>209 | 219=>232 | 217=>152 | 225=>247 | 224=>248 | 267=>249 | 266=>207 | 314=>259 | n=>n,fun | 9=>9 | 3=>3 | 4=>4 | 5=>5 | 0=>0 | 46=>121 | 146=>320 | 51=>219 | n=>n,fun | 1=>0 | n=>n⟩
theorem mQt:Go.Proofs.Lays.n138 Tryz.prog Tryz.lays138_ren:={
 mixed:=by kernel_rfl
 f138:=Tryz.func204.trans (congrArg some (by kernel_rfl))
 f143:=Tryz.func209.trans (congrArg some (by kernel_rfl))
 f195:=Tryz.func233.trans (congrArg some (by kernel_rfl))
 f217:=Tryz.func152.trans (congrArg some (by kernel_rfl))
 f218:=Tryz.func234.trans (congrArg some (by kernel_rfl))
 f219:=Tryz.func232.trans (congrArg some (by kernel_rfl))
 f224:=Tryz.func248.trans (congrArg some (by kernel_rfl))
 f225:=Tryz.func247.trans (congrArg some (by kernel_rfl))
 f266:=Tryz.func207.trans (congrArg some (by kernel_rfl))
 f267:=Tryz.func249.trans (congrArg some (by kernel_rfl))
 f314:=Tryz.func259.trans (congrArg some (by kernel_rfl))
 t0:=Tryz.underlying0
 a0:=Tryz.isAgg0
 z0:=Tryz.sizeOf0
 v0:=Tryz.zeroValue0
 t3:=Tryz.underlying3
 a3:=Tryz.isAgg3
 z3:=Tryz.sizeOf3
 v3:=Tryz.zeroValue3
 t4:=Tryz.underlying4
 a4:=Tryz.isAgg4
 z4:=Tryz.sizeOf4
 v4:=Tryz.zeroValue4
 t5:=Tryz.underlying5
 a5:=Tryz.isAgg5
 z5:=Tryz.sizeOf5
 v5:=Tryz.zeroValue5
 t9:=Tryz.underlying9
 a9:=Tryz.isAgg9
 z9:=Tryz.sizeOf9
 v9:=Tryz.zeroValue9
 t46:=Tryz.underlying121
 a46:=Tryz.isAgg121
 z46:=Tryz.sizeOf121
 v46:=Tryz.zeroValue121
 t51:=Tryz.underlying219
 a51:=Tryz.isAgg219
 z51:=Tryz.sizeOf219
 v51:=Tryz.zeroValue219
 t146:=Tryz.underlying320
 a146:=Tryz.isAgg320
 z146:=Tryz.sizeOf320
 v146:=Tryz.zeroValue320
 g1:=by kernel_rfl}
open Go.RowKit Go.Lib in
theorem Tryz.strings_Count_one (s:ByteArray)(c:UInt8)(w:World):
  Calls Tryz.prog 204 #[.string s,.string ⟨#[c]⟩] w λe w'=>e= .returned (.int .i64 (Lib.countByte s.data.toList c))/\w'=w:=Any.strings_Count_one mQt s c w
def Tryz.lays149_ren:Go.Shelf.Ren:=⟨fun | 149=>93 | 222=>151 | n=>n,fun | 9=>9 | 5=>5 | 3=>3 | 4=>4 | n=>n,fun | n=>n⟩
theorem mQw:Go.Proofs.Lays.n149 Tryz.prog Tryz.lays149_ren:={
 mixed:=by kernel_rfl
 f149:=Tryz.func93.trans (congrArg some (by kernel_rfl))
 f222:=Tryz.func151.trans (congrArg some (by kernel_rfl))
 t3:=Tryz.underlying3
 a3:=Tryz.isAgg3
 z3:=Tryz.sizeOf3
 v3:=Tryz.zeroValue3
 t4:=Tryz.underlying4
 a4:=Tryz.isAgg4
 z4:=Tryz.sizeOf4
 v4:=Tryz.zeroValue4
 t5:=Tryz.underlying5
 a5:=Tryz.isAgg5
 z5:=Tryz.sizeOf5
 v5:=Tryz.zeroValue5
 t9:=Tryz.underlying9
 a9:=Tryz.isAgg9
 z9:=Tryz.sizeOf9
 v9:=Tryz.zeroValue9}
open Go.RowKit Go.Lib in
theorem Tryz.strings_LastIndexByte (s:ByteArray)(c:Int)(hs:s.size<4611686018427387904)(w:World):
  Calls Tryz.prog 93 #[.string s,.int .u8 c] w λe w'=>e= .returned (.int .i64 (Lib.lastIndexByte s c))/\w'=w:=Any.strings_LastIndexByte mQw s c hs w
def Tryz.lays315_ren:Go.Shelf.Ren:=⟨fun | 315=>244 | n=>n,fun | 9=>9 | 40=>294 | 4=>4 | 3=>3 | 0=>0 | 21=>21 | n=>n,fun | n=>n⟩
theorem mQr:Go.Proofs.Lays.n315 Tryz.prog Tryz.lays315_ren:={
 mixed:=by kernel_rfl
 f315:=Tryz.func244.trans (congrArg some (by kernel_rfl))
 t0:=Tryz.underlying0
 a0:=Tryz.isAgg0
 z0:=Tryz.sizeOf0
 v0:=Tryz.zeroValue0
 t3:=Tryz.underlying3
 a3:=Tryz.isAgg3
 z3:=Tryz.sizeOf3
 v3:=Tryz.zeroValue3
 t4:=Tryz.underlying4
 a4:=Tryz.isAgg4
 z4:=Tryz.sizeOf4
 v4:=Tryz.zeroValue4
 t9:=Tryz.underlying9
 a9:=Tryz.isAgg9
 z9:=Tryz.sizeOf9
 v9:=Tryz.zeroValue9
 t21:=Tryz.underlying21
 a21:=Tryz.isAgg21
 z21:=Tryz.sizeOf21
 v21:=Tryz.zeroValue21
 t40:=Tryz.underlying294
 a40:=Tryz.isAgg294
 z40:=Tryz.sizeOf294
 v40:=Tryz.zeroValue294}
open Go.RowKit Go.Lib in
theorem Tryz.strings_indexFunc (g:Nat)(lb:Array Value)(eg:∀args w,(callFunc g args).run Tryz.prog w= .ok (.enter g args) w)(p:Nat->Bool)(truth:Bool)(s:ByteArray)(w:World)(hp:PredAt Tryz.prog g lb encR p w):
  Calls Tryz.prog 244 #[.string s,.func (.func g) #[] lb,.bool truth] w λe w'=>e= .returned (.int .i64 (Lib.idxFunc p truth s))/\Below w.heap.size w w':=Any.strings_indexFunc mQr g lb eg p truth s w hp
end
end Go.Proofs
namespace Go.Proofs.YtjabbbcdgmlojaaGreatDoor
open Go Go.RowKit
section
structure Mod (S:Nat->Prop) (w w':World):Prop where
 os:w'.os=w.os
 tape:w'.tape=w.tape
 output:w'.output=w.output
 size:w.heap.size<=w'.heap.size
 block:∀k,k<w.heap.size->¬S k->w'.heap[k]? =w.heap[k]?
theorem Mod.refl (S:Nat->Prop)(w:World):Mod S w w:=⟨rfl,rfl,rfl,QE _,λ_ _ _=>rfl⟩
theorem Mod.of_ext {w w':World}(S:Nat->Prop)(h:Ext w w'):Mod S w w':=⟨h.os,h.tape,h.output,h.size,λk hk _=>h.block k hk (by simp)⟩
theorem mQj {w w':World}{S:Nat->Prop}{g:Nat}(h:w.grownBy w' (some g))(hS:S g):Mod S w w':=⟨h.os,h.tape,h.output,h.size,λk hk hn=>h.block k hk (λe=>by cases e;exact hn hS)⟩
theorem Mod.trans {S S':Nat->Prop}{a b c:World}(h:Mod S a b)(k:Mod S' b c)(hs:∀i,S' i->S i∨a.heap.size<=i):Mod S a c:=
 ⟨k.os.trans h.os,k.tape.trans h.tape,k.output.trans h.output,Ze h.size k.size,λi hi hn=>(k.block i (Vy hi h.size) (λhS=>by rcases hs i hS with h | h;exact hn h;omega)).trans (h.block i hi hn)⟩
theorem Mod.mono {S S':Nat->Prop}{a b:World}(h:Mod S a b)(hs:∀i,S i->S' i∨a.heap.size<=i):Mod S' a b:=
 ⟨h.os,h.tape,h.output,h.size,λi hi hn=>h.block i hi (λhS=>by rcases hs i hS with h | h;exact hn h;omega)⟩
theorem Mod.ext {S:Nat->Prop}{w0 w w':World}(h:Mod S w w')(k:Ext w0 w)(hs:∀i,S i->w0.heap.size<=i):Ext w0 w':=
 ⟨h.os.trans k.os,h.tape.trans k.tape,h.output.trans k.output,Ze k.size h.size,λi hi _=>(h.block i (Vy hi k.size) (λhS=>by have:=hs i hS;omega)).trans (k.block i hi (by simp))⟩
theorem Blk.mod {S:Nat->Prop}{w w':World}{g t:Nat}{cs:List Value}(h:Blk w g t cs)(k:Mod S w w')(hn:¬S g):Blk w' g t cs:=(k.block g h.lt hn).trans h
theorem Mod.grown {S:Nat->Prop}{w w':World}(h:Mod S w w'){row:Option Nat}(hs:∀i,S i->row=some i):w.grownBy w' row:=⟨h.os,h.tape,h.output,h.size,λk hk hn=>h.block k hk (λhS=>hn (hs k hS).symm)⟩
def Qi (A:Option Addr):Nat->Prop:=λk=>∃ad,A=some ad/\ad.block=k
theorem cQT {A:Option Addr}{n c k:Nat}(h:(Value.slice A n c).ownBlock=some k):Qi A k:=by
 cases A with
 | none=>simp[Value.ownBlock] at h
 | some ad=>exact⟨ad,rfl,by simpa [Value.ownBlock] using h⟩
theorem mQp {w w':World}{A:Option Addr}{n c:Nat}(h:w.grownBy w' (Value.slice A n c).ownBlock):Mod (Qi A) w w':=
 ⟨h.os,h.tape,h.output,h.size,λk hk hn=>h.block k hk (λe=>hn (cQT e.symm))⟩
theorem Own.rows {w:World}{base e sz n c:Nat}{A:Option Addr}{cs:List Value}(h:Own w base e sz A n c cs):∀k,Qi A k->base<=k/\k<w.heap.size:=by
 rintro k ⟨ad,rfl,rfl⟩;have h:=h.row;rcases h.2 with⟨hv,_⟩ | ⟨g,cap,ZB,hv,hb,hg,_⟩
 ·cases hv
 ·cases hv;exact⟨hb,(er.1 hg).1⟩
theorem Own.mod {S:Nat->Prop}{w w':World}{base e sz n c:Nat}{A:Option Addr}{cs:List Value}(h:Own w base e sz A n c cs)(k:Mod S w w')(hn:∀i,Qi A i->¬S i):Own w' base e sz A n c cs:=by
 have hr:=h.row;refine⟨⟨hr.1,?_⟩⟩;rcases hr.2 with⟨hv,hx⟩ | ⟨g,cap,ZB,hv,hb,hg,H3⟩
 ·exact .inl ⟨hv,hx⟩
 ·refine .inr ⟨g,cap,ZB,hv,hb,(k.block g (er.1 hg).1 (hn g ?_)).trans hg,H3⟩;cases hv;exact⟨_,rfl,rfl⟩
def Moved (w:World)(A A':Option Addr):Prop:=∀ad,A'=some ad->A=some ad∨w.heap.size<=ad.block
theorem Moved.refl (w:World)(A:Option Addr):Moved w A A:=λ_ h=>.inl h
theorem Moved.rows {w:World}{A A':Option Addr}(h:Moved w A A'):∀k,Qi A' k->Qi A k∨w.heap.size<=k:=by
 rintro k ⟨ad,rfl,rfl⟩;rcases h ad rfl with h | h
 ·exact .inl ⟨ad,h,rfl⟩
 ·exact .inr h
theorem Moved.trans {w w1:World}{A B C:Option Addr}(h:Moved w A B)(k:Moved w1 B C)(hs:w.heap.size<=w1.heap.size):Moved w A C:=λad e=>by
 rcases k ad e with h1 | h1
 ·exact h ad h1
 ·exact .inr (by omega)
theorem Moved.back {w w1:World}{A B:Option Addr}(h:Moved w1 A B)(hs:w.heap.size<=w1.heap.size):Moved w A B:=(Moved.refl w A).trans h hs
theorem JE {c:Cx}(hg:c.g.Ok){o:Oper}{S:Env}{w:World}{K:Env->World->Prop}{Q:Zd}{t t2 e sz:Nat}{x y:Operand}{A B:Option Addr}{n cp:Nat}{m c2:Nat}{xs ys:List Value}{base:Nat}{r re r2:TyRow}
  (ho:o.op= .call ⟨.builtin .append, #[x,y], #[t,t2]⟩) (hr:QR c.g.tys t=some r) (hd:r.d= .slice e) (X2:QR c.g.tys e=some re) (hs:re.sz=sz) (Fo:0<sz) (iM:re.z.cells.size=sz) (WR:QR c.g.tys t2=some r2) (bG:∃e2,r2.d= .slice e2)
  (hx:S.ev x=some (.slice A n cp)) (hy:S.ev y=some (.slice B m c2)) (YG:Own w base e sz A n cp xs) (ff:Sl w sz B m c2 ys) (fg:∀u∈ys,Jo u=true)
  (f0:n+m<=maxLen) (aW:(n+m)*re.by_<=140737488355328) (pN:base<=w.heap.size)
  (k:∀A' c' w1,Mod (Qi A) w w1->Own w1 base e sz A' (n+m) c' (xs++ys)->Moved w A A'->Xf c S o.dst (.v (.slice A' (n+m) c')) (λS=>K S w1)):X3 c o S w K Q:=
 bQq hg ho hr hd X2 hs Fo iM WR bG hx hy YG ff fg f0 aW pN (λA' c' w1 h1 h2 h3=>k A' c' w1 (mQp h1) h2 h3)
theorem Mu {c:Cx}(hg:c.g.Ok){o:Oper}{S:Env}{w:World}{K:Env->World->Prop}{Q:Zd}{t t2 e:Nat}{x y:Operand}{A:Option Addr}{n cp:Nat}{s:ByteArray}{xs:List Value}{base:Nat}{r re r2:TyRow}
  (ho:o.op= .call ⟨.builtin .append, #[x,y], #[t,t2]⟩) (hr:QR c.g.tys t=some r) (hd:r.d= .slice e) (X2:QR c.g.tys e=some re) (hs:re.sz=1) (iM:re.z= .int .u8 0) (BW:re.by_=1) (WR:QR c.g.tys t2=some r2) (bG:r2.d= .string)
  (hx:S.ev x=some (.slice A n cp)) (hy:S.ev y=some (.string s)) (YG:Own w base e 1 A n cp xs)
  (f0:n+s.size<=140737488355328) (pN:base<=w.heap.size)
  (k:∀A' c' w1,Mod (Qi A) w w1->Own w1 base e 1 A' (n+s.size) c' (xs++Lib.strCells s)->Moved w A A'->Xf c S o.dst (.v (.slice A' (n+s.size) c')) (λS=>K S w1)):X3 c o S w K Q:=
 bQs hg ho hr hd X2 hs iM BW WR bG hx hy YG f0 pN (λA' c' w1 h1 h2 h3=>k A' c' w1 (mQp h1) h2 h3)
theorem Kq {w:World}{g t:Nat}{cs:List Value}{v:Value}{K:World->Prop}(h:Blk w g t cs)(hj:0<cs.length)(k:∀w1,Mod (·=g) w w1->Blk w1 g t (cs.set 0 v)->K w1):fD w ⟨g,0,none⟩ v K:=
 bQo h hj (λw1 h1 h2=>k w1 (mQj h1 rfl) h2)
theorem XK {w:World}{g t:Nat}{cs:List Value}{j:Nat}{v:Value}{K:World->Prop}(h:Blk w g t cs)(hj:j<cs.length)(k:∀w1,Mod (·=g) w w1->Blk w1 g t (cs.set j v)->K w1):fD w ((⟨g,0,none⟩:Addr).add j) v K:=
 yg h hj (λw1 h1 h2=>k w1 (mQj h1 rfl) h2)
theorem sc {vs:List Value}(h:vs.all Jo=true):∀u∈vs,Jo u=true:=by simpa using h
theorem X0 {w w5 w6:World}{t:Nat}{cs:List Value}(Qt:Ext w w5)(_:Blk w5 w.heap.size t cs)(Wd:w5.grownBy w6 (some w.heap.size)):Ext w w6:=
 (Ext.refl w).own (aQ9 (Qt.grown (some w.heap.size)) Wd) (QE _)
theorem Mv (s:ByteArray):Lib.strCells s=Ji (Yv s):=by
 simp only[Lib.strCells,Ji,Yv,xx];rfl
structure Bld (w:World) (base g t:Nat) (rest:List Value) (A:Option Addr) (c:Nat) (out:List Nat):Prop where
 g1:g<base
 top:base<=w.heap.size
 blk:∃pa,(pa= .pointer none∨pa= .pointer (some ⟨g,0,none⟩))/\Blk w g t (pa:: .slice A out.length c::rest)
 own:Own w base 5 1 A out.length c (Ji out)
theorem Bld.grow {w w':World}{base g t:Nat}{rest:List Value}{A:Option Addr}{c:Nat}{out:List Nat}(h:Bld w base g t rest A c out)(k:Ext w w'):Bld w' base g t rest A c out:=
 ⟨h.g1,Ze h.top k.size,let ⟨pa,h1,h2⟩:=h.blk;⟨pa,h1,h2.ext k⟩,h.own.ext k⟩
def BldS (g:Nat)(A:Option Addr):Nat->Prop:=λk=>k=g∨Qi A k
theorem BldS.moved {w:World}{g:Nat}{A A':Option Addr}(h:Moved w A A'):∀k,BldS g A' k->BldS g A k∨w.heap.size<=k:=by
 rintro k (rfl | hk)
 ·exact .inl (.inl rfl)
 ·rcases h.rows k hk with h | h
  ·exact .inl (.inr h)
  ·exact .inr h
def nW (t m:Nat):Prop:=liesAt Tryz.prog Tryz.prog.depth t (m/Tryz.prog.cellsOf t) 0 109 1=true
theorem Blk.shape {w:World}{g t:Nat}{cs:List Value}(h:Blk w g t cs):w.shape? g=some (t,cs.length):=by
 unfold World.shape?;rw[h];simp
theorem aE:gx.P=Tryz.prog:=rfl
theorem Mw:∃j,Tryz.prog.info? 109=some j/\j.size≠0:=by
 obtain⟨_,i,hi,hs,_⟩:=Qa.row (t:=109) rfl;exact⟨i,hi,by rw[hs];decide⟩
theorem Dm (g t:Nat)(pa sl:Value)(rest:List Value)(w:World)(hl:nW t (rest.length+2))(hp:pa= .pointer none∨pa= .pointer (some ⟨g,0,none⟩))(hB:Blk w g t (pa::sl::rest)):
  Fn Tryz.prog 106 [.pointer (some ⟨g,0,none⟩)] w (λ_ w'=>Mod (·=g) w w'/\Blk w' g t (.pointer (some ⟨g,0,none⟩)::sl::rest)):=by
 obtain⟨j,hj,lW⟩:=Mw;refine QF (c:=Mn) Qa Tryz.func106 rfl rfl rfl ?_;have d5:=hB.shape;have ucs:=Tryz.underlying107;have uus:=Tryz.underlying240;rcases hp with rfl | rfl
 ·refine Qp hB rfl ?_;refine Xc rfl ?_;refine Jh (w':=w) (v:=.pointer (some ⟨g,0,none⟩)) (λa hf=>?_) ?_
  ·have e1:=hf.ev (show Env.ev _ (.tmp 8)=some (.pointer (some ⟨g,0,none⟩)) from rfl);have:=Lib.run_to_unsafe (P:=Tryz.prog) (src:=107) (dst:=240) w ⟨g,0,none⟩ ucs uus hj lW d5 (by simp);simp only[execOp,e1];simp[aE,this]
  refine Jh (w':=w) (v:=.pointer (some ⟨g,0,none⟩)) (λa hf=>?_) ?_
  ·have e1:=hf.ev (show Env.ev _ (.tmp 9)=some (.pointer (some ⟨g,0,none⟩)) from rfl);have:=run_callFunc_extern (P:=Tryz.prog) (e:=Extern.AbiNoEscape.same) Tryz.func159 (by kernel_rfl) (by kernel_rfl) (by kernel_rfl) (by kernel_rfl) #[.pointer (some ⟨g,0,none⟩)] w;rw[Lib.run_noEscape] at this;simp only[execOp,resolve,invoke];simp[Deferred.ofValue,Act.eval] at e1 ⊢;simp[e1,aE,this]
  refine Jh (w':=w) (v:=.pointer (some ⟨g,0,none⟩)) (λa hf=>?_) ?_
  ·have e1:=hf.ev (show Env.ev _ (.tmp 10)=some (.pointer (some ⟨g,0,none⟩)) from rfl);have:=Lib.run_from_unsafe (P:=Tryz.prog) (src:=240) (dst:=107) (u:=109) w ⟨g,0,none⟩ uus ucs hj d5 (by simpa [nW] using hl);simp only[execOp,e1];simp[aE,this]
  refine XK hB (by simp) (λw1 hm Qh=>?_);exact⟨hm,Qh⟩
 ·refine Qp hB rfl ?_;refine Xt rfl ?_;refine Qp hB rfl ?_;refine Jh (w':=w) (v:=.bool false) (λa hf=>?_) ?_
  ·have e1:=hf.ev (show Env.ev _ (.tmp 17)=some (.pointer (some ⟨g,0,none⟩)) from rfl);have e2:=hf.ev (show Env.ev _ (.tmp 18)=some (.pointer (some ⟨g,0,none⟩)) from rfl);have:=Lib.run_neq_ptr_same (P:=Tryz.prog) (tp:=107) w ⟨g,0,none⟩ ucs hj;simp only[execOp,e1,e2,eqGuard];simp[aE,this]
  refine Xt rfl ?_;exact⟨Mod.refl _ _,hB⟩
theorem ie (base g t:Nat)(rest:List Value)(A:Option Addr)(c:Nat)(out:List Nat)(s:ByteArray)(w:World)(hl:nW t (rest.length+2))(hb:Bld w base g t rest A c out)(hs:out.length+s.size<=140737488355328):
  Fn Tryz.prog 56 [.pointer (some ⟨g,0,none⟩),.string s] w (λ_ w'=>∃A' c',Bld w' base g t rest A' c' (out++Yv s)/\Mod (BldS g A) w w'/\Moved w A A'):=by
 refine QF (c:=Mk) Qa Tryz.func56 rfl rfl rfl ?_;obtain⟨pa,ZL,hB⟩:=hb.blk;refine call (Dm g t pa _ rest w hl ZL hB) ?_;rintro v w1 ⟨Zj,Qh⟩;have Vv:=hb.own.rows;have jX:=hb.g1;have hn:¬Qi A g:=λh=>by have:=(Vv g h).1;omega
 have oV:=hb.own.mod Zj (λk hk e=>hn (e▸hk));refine Qp Qh rfl ?_;refine Mu Qa rfl rfl rfl rfl rfl rfl rfl rfl rfl rfl rfl oV hs (by have:=Zj.size;have:=hb.top;omega) ?_;intro A' c' w2 XL cI lX;refine XK (Qh.mod XL hn) (by simp) (λw3 Xo Qu=>?_);have Xb:(out++Yv s).length=out.length+s.size:=by rw[Qy,tT]
 have oW:=cI.rows;refine⟨A',c',⟨jX,by have:=Zj.size;have:=XL.size;have:=Xo.size;have:=hb.top;omega,⟨_,.inr rfl,by rw[Xb];exact Qu⟩,?_⟩,?_,lX.back Zj.size⟩
 ·rw[Xb,yj,<-Mv];exact cI.mod Xo (λk hk e=>by have:=(oW k hk).1;omega)
 ·exact((Zj.mono (S':=BldS g A) (λi hi=>.inl (.inl hi))).trans XL (λi hi=>.inl (.inr hi))).trans Xo (λi hi=>.inl (.inl hi))
theorem Dn (base g t:Nat)(rest:List Value)(A:Option Addr)(c:Nat)(out:List Nat)(b:Nat)(w:World)(hl:nW t (rest.length+2))(hb:Bld w base g t rest A c out)(hs:out.length+1<=140737488355328):
  Fn Tryz.prog 225 [.pointer (some ⟨g,0,none⟩),.int .u8 b] w (λ_ w'=>∃A' c',Bld w' base g t rest A' c' (out++ [b])/\Mod (BldS g A) w w'/\Moved w A A'):=by
 refine QF (c:=Mt) Qa Tryz.func225 rfl rfl rfl ?_;obtain⟨pa,ZL,hB⟩:=hb.blk;refine call (Dm g t pa _ rest w hl ZL hB) ?_;rintro v w1 ⟨Zj,Qh⟩;have Vv:=hb.own.rows;have jX:=hb.g1;have kI:=hb.top;have hn:¬Qi A g:=λh=>by have:=(Vv g h).1;omega
 have oV:=hb.own.mod Zj (λk hk e=>hn (e▸hk));refine Qp Qh rfl ?_;refine Ma Qa rfl rfl rfl rfl rfl rfl rfl rfl ?_;intro w7 Q1 iQz QY;have jY:Sl w7 1 (some ⟨w1.heap.size,0,none⟩) 1 1 [.int .u8 (b:Int)]:=Sl.own' QY rfl (by simp[maxLen]);have iQA:=Zj.size;have iQB:=Q1.size;refine JE Qa rfl rfl rfl rfl rfl (by decide) rfl rfl ⟨_,rfl⟩ rfl rfl (oV.ext Q1) jY (by simp[Jo]) (by unfold maxLen;omega) (by show _*1<=_;omega) (by omega) ?_;intro A' c' w2 XL cI lX;refine XK ((Qh.ext Q1).mod XL hn) (by simp) (λw3 Xo Qu=>?_);have oW:=cI.rows;refine⟨A',c',⟨jX,by have:=XL.size;have:=Xo.size;omega,⟨_,.inr rfl,by rw[Qy];exact Qu⟩,?_⟩,?_,lX.back (by omega)⟩
 ·rw[Qy,yj];exact cI.mod Xo (λk hk e=>by have:=(oW k hk).1;omega)
 ·exact(((Zj.mono (S':=BldS g A) (λi hi=>.inl (.inl hi))).trans (Mod.of_ext (λ_=>False) Q1) (λi hi=>hi.elim)).trans XL (λi hi=>.inl (.inr hi))).trans Xo (λi hi=>.inl (.inl hi))
theorem Mx (w:World)(g n:Nat){S:Nat->Prop}(h:S g):Mod S w (w.freeze ⟨g,0,none⟩ n):=by
 unfold World.freeze;split
 ·exact Mod.refl _ _
 ·refine⟨rfl,rfl,rfl,by simp,λk hk hn=>?_⟩;simp only[Array.getElem?_modify];rw[if_neg (λ(e:g=k)=>hn (e▸h))]
theorem cQU (base g t:Nat)(rest:List Value)(A:Option Addr)(c:Nat)(out:List Nat)(w:World)(hb:Bld w base g t rest A c out)(h8:∀x∈out,x<256)(hs:out.length<=140737488355328):
  Fn Tryz.prog 57 [.pointer (some ⟨g,0,none⟩)] w (λv w'=>v= .string (Qf out)/\Mod (Qi A) w w'):=by
 obtain⟨pa,ZL,hB⟩:=hb.blk;refine QF (c:=Ml) Qa Tryz.func57 rfl rfl rfl ?_;have Xb:(Ji out).length=out.length:=tS out;refine XJ Qa (Ext w) 10 [(true,0),(true,1),(true,2),(true,3),(true,5),(true,6),(true,7),(true,8),(true,9),(false,4)] (by kernel_rfl) (Ext.drew w) ?_;refine QL (v:=.slice A out.length c) (λw' Qb=>by rw[(hB.ext Qb).cell];rfl) ?_;refine QL (v:=.slice A out.length c) (λw' Qb=>by rw[(hB.ext Qb).cell];rfl) ?_;have Fp:out.length=0->Value.string ByteArray.empty=Value.string (Qf out):=λh0=>by
  have:out=[]:=Y0 h0;subst this;rfl
 by_cases h0:out.length=0
 ·have key:∃p w1,(Builtin.unsafeSliceData_ #[62] 179 #[.slice A out.length c]).run Tryz.prog w.drew= .ok (.pointer p) w1/\Ext w w1:=by
   rcases hb.own.row.2 with⟨hv,_⟩ | ⟨g',cap,ZB,hv,hb',Vh,_⟩
   ·simp only[Value.slice.injEq] at hv;obtain⟨rfl,_,rfl⟩:=hv;exact⟨none,w.drew,Lib.run_unsafeSliceData_nil _ _ _ _ _,Ext.drew w⟩
   ·simp only[Value.slice.injEq] at hv;obtain⟨rfl,_,rfl⟩:=hv;by_cases uY:c=0
    ·subst uY;have d5:w.drew.shape? g'=some (5,ZB.size):=by
      unfold World.shape?;rw[show w.drew.heap[g']? =_ from Vh]
     exact⟨_,_,Lib.run_unsafeSliceData_zero (P:=Tryz.prog) w.drew _ _ 5 Tryz.underlying179 ⟨g',0,none⟩ _ _ d5,(Ext.drew w).trans (Ext.alloc _ _)⟩
    ·exact⟨_,w.drew,Lib.run_unsafeSliceData_row (P:=Tryz.prog) w.drew _ _ ⟨g',0,none⟩ _ _ uY,Ext.drew w⟩
  obtain⟨p,w1,Z1,Qd⟩:=key;refine Jh (w':=w1) (v:=.pointer p) (λa hf=>?_) ⟨Qd,?_⟩
  ·have e1:=hf.ev (show Env.ev _ (.tmp 6)=some (.slice A out.length c) from rfl);simp only[execOp,resolve,invoke,builtin];simp[aE,e1,Z1]
  refine Jh (w':=w1) (v:=.string ByteArray.empty) (λa hf=>?_) ?_
  ·have e1:=hf.ev (show Env.ev _ (.tmp 7)=some (.pointer p) from rfl);have e2:=hf.ev (show Env.ev _ (.tmp 12)=some (.int .i64 out.length) from rfl);have:=Lib.run_unsafeString_none (P:=Tryz.prog) w1 179 3 9 p;rw[h0] at e2;simp only[execOp,resolve,invoke,builtin];simp[aE,e1,e2];rw[this]<;>rfl
  exact⟨Fp h0,Mod.of_ext _ Qd⟩
 ·obtain⟨g',sp,rfl,hb',Vu,bR⟩:=hb.own.blk (by omega);have ZK:=hb.own.sl.le;refine Jh (w':=w.drew) (v:=.pointer (some ⟨g',0,none⟩)) (λa hf=>?_) ⟨Ext.drew w,?_⟩
  ·have e1:=hf.ev (show Env.ev _ (.tmp 6)=some (.slice (some ⟨g',0,none⟩) out.length c) from rfl);have:=Lib.run_unsafeSliceData_row (P:=Tryz.prog) w.drew #[62] 179 ⟨g',0,none⟩ out.length c (by omega);simp only[execOp,resolve,invoke,builtin];simp[aE,e1,this]
  refine Jh (w':=w.drew.freeze ⟨g',0,none⟩ out.length) (v:=.string (Qf out)) (λa hf=>?_) ?_
  ·have e1:=hf.ev (show Env.ev _ (.tmp 7)=some (.pointer (some ⟨g',0,none⟩)) from rfl);have e2:=hf.ev (show Env.ev _ (.tmp 12)=some (.int .i64 out.length) from rfl);have d5:w.drew.shape? g'=some (5,(Ji out++sp).length):=(Vu.ext (Ext.drew w)).shape;have JU:(out.map UInt8.ofNat).length=out.length:=by simp
   have:=Lib.run_unsafeString_row (P:=Tryz.prog) w.drew 179 3 9 5 Tryz.underlying179 (by kernel_rfl) g' _ d5 (out.map UInt8.ofNat) (by intro e;apply h0;rw[<-JU,e];rfl) (by simp[tS]) (by rw[JU];omega) (λj x hj=>by
    rw[(Vu.ext (Ext.drew w)).cell];simp only[K2,CF] at hj;obtain⟨y,hy,rfl⟩:=hj;have kJ:j<out.length:=(Zt.1 hy).1;rw[bY (by rw[Xb];exact kJ),Dh hy];have:=h8 y (Xe hy);simp[aw this])
   rw[JU] at this;simp only[execOp,resolve,invoke,builtin];simp[aE,e1,e2];rw[this]<;>rfl
  exact⟨rfl,(Mod.of_ext (Qi _) (Ext.drew w)).trans (Mx w.drew g' out.length (S:=Qi (some ⟨g',0,none⟩)) ⟨_,rfl,rfl⟩) (λi hi=>.inl hi)⟩
section
structure Fz where
 o:Int
 v:Int
 a:Int
 b:Int
deriving DecidableEq
def Fz.cells (x:Fz):List Value:=[.int .i64 x.o,.int .i64 x.v,.int .i64 x.a,.int .i64 x.b]
theorem yr (x:Fz):x.cells.length=4:=rfl
def isDig (b:Nat):Bool:=decide (48<=b)&&decide (b<=57)
def W8 (b:Nat):Bool:=b==95||(decide (97<=b)&&decide (b<=122))||(decide (65<=b)&&decide (b<=90))
def X1 (b:Nat):Bool:=W8 b||isDig b
def K4:List Nat->Nat
 | []=>0
 | b::l=>if isDig b then 0 else((b::l).takeWhile X1).length
def Zu (l:List Nat):List Nat:=l.dropWhile λb=>b==32||b==9
structure Ps where
 r:List Nat
 f:List Fz
 u:Bool
def JZ (sym:List Nat)(p:Ps):Bool×Ps:=if sym.isPrefixOf (Zu p.r)then(true,{p with r:=(Zu p.r).drop sym.length})else(false,{p with r:=Zu p.r})
def VC (x:Fz)(p:Ps):Nat×Ps:=(p.f.length,{p with f:=p.f++ [x]})
def eG (sym:List Nat)(op:Int)(opd:Ps->Option (Nat×Ps)):Nat->Nat->Ps->Option (Nat×Ps)
 | 0,_,_=>none
 | m+1,a,p=>match JZ sym p with
  | (true,p1)=>match opd p1 with
   | none=>none
   | some (b,p2)=>eG sym op opd m p2.f.length {p2 with f:=p2.f++ [⟨op,0,a,b⟩]}
  | (false,p1)=>some (a,p1)
def K5 (sym:List Nat)(op:Int)(opd:Ps->Option (Nat×Ps))(p:Ps):Option (Nat×Ps):=match opd p with
 | none=>none
 | some (a,p1)=>eG sym op opd (p1.r.length+1) a p1
def bj (
     ix:List Nat->Option Nat):Nat->Ps->Option (Nat×Ps)
 | 0,_=>none
 | n+1,p=>match JZ [33] p with
  | (true,p1)=>match bj ix n p1 with
   | none=>none
   | some (a,p2)=>some (VC ⟨3,0,a,0⟩ p2)
  | (false,p1)=>match JZ [40] p1 with
   | (true,p2)=>match K5 [124,124] 5 (K5 [38,38] 4 (bj ix n)) p2 with
    | none=>none
    | some (a,p3)=>match JZ [41] p3 with
     | (true,p4)=>some (a,p4)
     | (false,_)=>none
   | (false,p2)=>if K4 p2.r=0 then none else
     let word:=p2.r.take (K4 p2.r)
     let p3:Ps:={p2 with r:=p2.r.drop (K4 p2.r)}
     if word=[116,114,117,101] then some (VC ⟨1,0,0,0⟩ p3)else if word=[102,97,108,115,101] then some (VC ⟨0,0,0,0⟩ p3)else
      some (VC ⟨2,((ix word).getD 0:Nat),0,0⟩ {p3 with u:=p3.u||(ix word).isNone})
def fG (ix:List Nat->Option Nat)(n:Nat)(p:Ps):Option (Nat×Ps):=K5 [124,124] 5 (K5 [38,38] 4 (bj ix n)) p
end
section
theorem Vn (l:List Nat)(a b:Nat):(Qf l).extract a b=Qf ((l.take b).drop a):=by
 apply ByteArray.ext;apply Array.ext';simp[Qf,gS]
theorem B8.drop {l:List Nat}(h:∀x∈l,x<256)(k:Nat):∀x∈l.drop k,x<256:=λx hx=>h x (ay hx)
theorem B8.take {l:List Nat}(h:∀x∈l,x<256)(k:Nat):∀x∈l.take k,x<256:=λx hx=>h x (eu hx)
theorem Do (p l:List Nat):p.isPrefixOf l=decide (p.length<=l.length/\l.take p.length=p):=by
 rw[nA,aQF,Vl];constructor
 ·rintro⟨t,rfl⟩;exact⟨by simp,by simp⟩
 ·rintro⟨h1,h2⟩;refine⟨l.drop p.length,?_⟩;have:=qj p.length l;rw[h2] at this;exact this
theorem My (l p:List Nat)(w:World)(hl:∀x∈l,x<256)(hp:∀x∈p,x<256):
  Fn Tryz.prog 154 [.string (Qf l),.string (Qf p)] w (λv w'=>v= .bool (p.isPrefixOf l)/\w=w'):=by
 refine QF (c:=cQa) Qa Tryz.func154 rfl rfl rfl ?_;refine QB (λh1=>?_) (λh1=>?_)
 ·rw[XU,XU] at h1;refine need ⟨by omega,by omega,by rw[XU,XU];omega⟩ ?_;refine⟨?_,rfl⟩;rw[Do];congr 1;refine qq.2 ?_;simp only[fy,Int.toNat_zero];rw[Vn,xz,XU];exact⟨λh=>⟨by omega,JD (B8.take hl _) hp h⟩,λh=>by rw[h.2]⟩
 ·rw[XU,XU] at h1;exact⟨by rw[Do,Zf (λh=>h1 (by omega))],rfl⟩
def tZ (l p:List Nat):Value:=if p.isPrefixOf l then .tuple #[.string (Qf (l.drop p.length)),.bool true] else .tuple #[.string (Qf l),.bool false]
theorem cQV (l p:List Nat)(w:World)(hl:∀x∈l,x<256)(hp:∀x∈p,x<256):
  Fn Tryz.prog 231 [.string (Qf l),.string (Qf p)] w (λv w'=>v=tZ l p/\w=w'):=by
 refine QF (c:=cQR) Qa Tryz.func231 rfl rfl rfl ?_;refine call (My l p w hl hp) ?_;rintro v w1 ⟨rfl,rfl⟩;unfold tZ;cases sX:p.isPrefixOf l with
 | false=>
  refine Xc rfl ?_;exact⟨rfl,rfl⟩
 | true=>
  refine Xt rfl ?_;have ZK:p.length<=l.length:=by rw[Do] at sX;exact(fB sX).1
  refine need ⟨by omega,by rw[XU,XU];omega,by omega⟩ ?_;refine⟨?_,rfl⟩;simp only[fy,XU];rw[Vn,Jz (QE _)]<;>rfl
theorem cQW (l p:List Nat)(w:World)(hl:∀x∈l,x<256)(hp:∀x∈p,x<256):
  Fn Tryz.prog 200 [.string (Qf l),.string (Qf p)] w (λv w'=>v=tZ l p/\w=w'):=by
 refine QF (c:=cQA) Qa Tryz.func200 rfl rfl rfl ?_;refine call (cQV l p w hl hp) ?_;rintro v w1 ⟨rfl,rfl⟩;unfold tZ;split
 ·exact⟨rfl,rfl⟩
 ·exact⟨rfl,rfl⟩
def du (k:Nat):List Value:=(List.range 256).map λj=>.bool (decide (0<k/\j=32)||decide (1<k/\j=9))
theorem nX (k:Nat):(du k).length=256:=by simp[du]
theorem Dp {k j:Nat}(h:j<256):(du k)[j]? =some (.bool (decide (0<k/\j=32)||decide (1<k/\j=9))):=by
 unfold du;rw[K2,List.getElem?_range h]<;>rfl
theorem Mz (k:Nat):∀u∈du k,Jo u=true:=λu hu=>by
 unfold du at hu;simp only[ZY] at hu;obtain⟨j,_,rfl⟩:=hu;rfl
theorem cQX {k x:Nat}(hk:k<2)(hx: [32,9][k]? =some x):(du k).set x (.bool true)=du (k+1):=by
 apply CG;intro j;by_cases hj:j<256
 ·rw[Lp,Dp hj,Dp hj,nX];have Vr:k=0∨k=1:=by omega
  rcases Vr with rfl | rfl
  ·simp at hx;subst hx;split
   ·rename_i e;subst e;simp
   ·rename_i e;have:¬j=32:=λh=>e h.symm
    simp[this]
  ·simp at hx;subst hx;split
   ·rename_i e;subst e;simp
   ·rename_i e;have:¬j=9:=λh=>e h.symm
    simp[this]
 ·rw[kW (by rw[bZ,nX];omega),kW (by rw[nX];omega)]
set_option maxRecDepth 20000 in
theorem cQY (w:World):Fn Tryz.prog 228 [.string (Qf [32,9])] w (λv w'=>v= .tuple #[.agg (du 2).toArray,.bool true]/\Ext w w'):=by
 refine QF (c:=cQP) Qa Tryz.func228 rfl rfl rfl ?_;refine new (λw1 Qd Q2 Qh=>?_);have Fq:Blk w1 w.heap.size 302 (du 0):=Qh;clear Qh;refine loop Qa [4] (λk:Nat=>[.int .i64 k]) (λk w'=>k<=2/\Ext w w'/\Blk w' w.heap.size 302 (du k)) (λk _=>2-k) 0 rfl ⟨by omega,Qd,Fq⟩ ?_;rintro k w2 ⟨hk,Qg,Qw⟩;refine QB (λh1=>?_) (λh1=>?_)
 ·have Vr:k<2:=by
   have:((Qf [32,9]).size:Int)=2:=rfl;omega
  refine dt (s:=Qf [32,9]) (by show k<2;exact Vr) (λx hx Fr=>?_);have Vi: [32,9][k]? =some x:=by rw[Wy (by decide)] at hx;exact hx
  have mV:x<128:=by
   have:k=0∨k=1:=by omega
   rcases this with rfl | rfl
   ·simp at Vi;omega
   ·simp at Vi;omega
  refine Xy (by omega) ?_;refine yp (j:=x) rfl (by omega) ?_;refine XK Qw (by rw[nX];omega) (λw3 Xo Qu=>?_);rw[cQX Vr Vi] at Qu;refine Qm ((k+1:Nat):Int) (by omega) (by omega) ?_;exact⟨k+1,rfl,⟨by omega,Xo.ext Qg (λi hi=>by omega),Qu⟩,by show 2-(k+1)<2-k;omega⟩
 ·have Vr:k=2:=by
   have:((Qf [32,9]).size:Int)=2:=rfl;omega
  subst Vr;refine Qs Qw (nX 2) ?_;refine Qx Qw rfl (Mz 2) (λw3 ZT _ Qu=>?_);refine Qs Qu (nX 2) ?_;exact⟨rfl,Qg.own ZT (QE _)⟩
theorem cQZ (g x:Nat)(w:World)(hB:Blk w g 302 (du 2))(hx:x<256):
  Fn Tryz.prog 245 [.pointer (some ⟨g,0,none⟩),.int .u8 x] w (λv w'=>v= .bool (x==32||x==9)/\w=w'):=by
 refine QF (c:=cQS) Qa Tryz.func245 rfl rfl rfl ?_;refine yp (j:=x) rfl (by omega) ?_;refine Qp hB (Dp hx) ?_;refine⟨?_,rfl⟩;have e:∀y:Nat,(x==y)=decide (x=y):=λy=>rfl
 simp[e]
theorem cQ0 (g:Nat)(l:List Nat)(w:World)(hB:Blk w g 302 (du 2))(hl:∀x∈l,x<256)(_:l.length<=9223372036854775807):
  Fn Tryz.prog 229 [.string (Qf l),.pointer (some ⟨g,0,none⟩)] w (λv w'=>v= .string (Qf (Zu l))/\Ext w w'):=by
 refine QF (c:=cQQ) Qa Tryz.func229 rfl rfl rfl ?_;refine loop Qa [0] (λm:List Nat=>[.string (Qf m)]) (λm w'=>Ext w w'/\Zu m=Zu l/\(∀x∈m,x<256)) (λm _=>m.length) l rfl ⟨Ext.refl _,rfl,hl⟩ ?_;rintro m w1 ⟨Qd,hm,Ju⟩;refine QB (λh1=>?_) (λh1=>?_)
 ·cases m with
  | nil=>simp[XU] at h1
  | cons x m=>
   refine dt (s:=Qf (x::m)) (by rw[XU];simp) (λy hy Fs=>?_);have gG:y=x:=by rw[Wy Ju] at hy;simpa using hy.symm
   subst gG;refine call (cQZ g y w1 (hB.ext Qd) Fs) ?_;rintro v w2 ⟨rfl,rfl⟩;cases hb:(y==32||y==9)with
   | false=>
    refine Xc rfl ?_;refine⟨?_,Qd⟩;rw[<-hm];unfold Zu;rw[nE,hb]<;>rfl
   | true=>
    refine Xt rfl ?_;refine need ⟨by omega,by omega,by omega⟩ ?_;refine⟨m,?_,⟨Qd,?_,λz hz=>Ju z (by simp[hz])⟩,by simp⟩
    ·have e:(Qf (y::m)).extract (Int.toNat 1) (((Qf (y::m)).size:Int)).toNat=Qf m:=by
      rw[Vn,XU,fy,Jz (QE _)]<;>rfl
     rw[e]<;>rfl
    ·rw[<-hm];unfold Zu;rw[nE,hb]<;>rfl
 ·cases m with
  | nil=>exact⟨by rw[<-hm];rfl,Qd⟩
  | cons x m=>rw[XU] at h1;simp at h1
set_option maxRecDepth 20000 in
theorem cQ1 (l:List Nat)(w:World)(hl:∀x∈l,x<256)(Xb:l.length<=9223372036854775807):
  Fn Tryz.prog 199 [.string (Qf l),.string (Qf [32,9])] w (λv w'=>v= .string (Qf (Zu l))/\Ext w w'):=by
 refine QF (c:=cQz) Qa Tryz.func199 rfl rfl rfl ?_;refine QB (λh1=>?_) (λh1=>?_)
 ·have:l=[]:=JD hl (by simp) (h1.trans rfl);subst this;exact⟨rfl,Ext.refl _⟩
 refine Xy (by decide) ?_;refine XP (by decide) ?_;refine call (cQY w) ?_;rintro v w1 ⟨rfl,Qd⟩;refine new (λw2 Qg X9 Qw=>?_);refine Qx Qw (nX 2) (Mz 2) (λw3 ZT _ Qu=>?_);have XD:=X0 Qg Qw ZT;refine Xc rfl ?_;refine call (cQ0 w1.heap.size l w3 Qu hl Xb) ?_;rintro v w4 ⟨rfl,Qq⟩;exact⟨rfl,Qd.trans (XD.trans Qq)⟩
end
section
theorem cQ2 {P:Program}{f:FuncId}{l:List Value}{w:World}{v:Value}{R:World->Prop}(h:Calls P f l.toArray w λe w'=>e= .returned v/\R w'):Fn P f l w (λu w'=>u=v/\R w'):=by
 unfold Fn;exact h.mono λe w' he=>by obtain⟨rfl,h⟩:=he;exact⟨rfl,h⟩
theorem mQo {w w':World}(h:Below w.heap.size w w'):Ext w w':=⟨h.os,h.tape,h.output,h.size,λk hk _=>h.block k hk⟩
theorem Dq (r:Nat):X1 r=true↔(r=95∨(97<=r/\r<=122)∨(65<=r/\r<=90)∨(48<=r/\r<=57)):=by
 unfold X1 W8 isDig;simp;omega
theorem cQ3 (r:Nat)(w:World):Fn Tryz.prog 220 [.int .i32 r] w (λv w'=>v= .bool (!X1 r)/\w=w'):=by
 have hb:X1 r=decide (r=95∨(97<=r/\r<=122)∨(65<=r/\r<=90)∨(48<=r/\r<=57)):=by rw[nA,Dq,Vl]
 rw[hb];refine QF (c:=cQJ) Qa Tryz.func220 rfl rfl rfl ?_;have kQu:r=95∨(97<=r/\r<=122)∨(65<=r/\r<=90)∨(48<=r/\r<=57)∨r<48∨(57<r/\r<65)∨(90<r/\r<95)∨r=96∨122<r:=by omega
 rcases kQu with h | h | h | h | h | h | h | h | h <;>
  repeat (first | refine qA (by omega) ?_ | refine Wx (by omega) ?_ | refine X7 (by omega) ?_ | refine Xy (by omega) ?_ | refine Xc rfl ?_ | refine Xt rfl ?_)
 all_goals refine⟨?_,rfl⟩
 all_goals congr 1
 all_goals first
  | (
    have hP:(r=95∨(97<=r/\r<=122)∨(65<=r/\r<=90)∨(48<=r/\r<=57)):=by omega
    rw[XX hP];first | rfl | exact Zf (by omega) | exact XX (by omega))
  | (
    have hP:¬(r=95∨(97<=r/\r<=122)∨(65<=r/\r<=90)∨(48<=r/\r<=57)):=by omega
    rw[Zf hP];first | rfl | exact XX (by omega) | exact Zf (by omega))
theorem MB {s:ByteArray}{pos:Nat}(h:pos<s.size):s.get! pos=s[pos]:=by
 simp[ByteArray.get!,ByteArray.getElem_eq_getElem_data,getElem!_pos s.data pos h]
theorem cQ4 {s:ByteArray}{pos:Nat}(h:pos<s.size)(ha:s[pos].toNat<128):Utf8.decode s pos=(s[pos].toNat,1):=by
 unfold Utf8.decode;simp only[Nat.add_zero,MB h];rw[Qe ha]
theorem cQ5 {s:ByteArray}{pos:Nat}(h:pos<s.size)(ha:¬s[pos].toNat<128):128<=(Utf8.decode s pos).1:=by
 unfold Utf8.decode;simp only[Nat.add_zero,MB h];rw[if_neg ha];have he:128<=Utf8.runeError:=by decide
 split
 ·split
  ·assumption
  ·exact he
 split
 ·split
  ·rename_i h1;simp at h1;exact Ze (by decide) h1.1
  ·exact he
 split
 ·split
  ·rename_i h1;simp at h1;exact Ze (by decide) h1.1
  ·exact he
 ·exact he
theorem MC (s:ByteArray):∀(f pos:Nat),s.size<=pos+f->pos<=s.size->
  Lib.idxFuncFrom (λr=> !X1 r) true s f pos=if((Yv s).drop pos).all X1 then -1 else((pos+(((Yv s).drop pos).takeWhile X1).length:Nat):Int)
 | 0,pos,h,hp=>by
  rw[qk (by rw[tT];omega)];rfl
 | f+1,pos,h,hp=>by
  unfold Lib.idxFuncFrom;by_cases aV:pos<s.size
  ·rw[Qe aV];have hg:(Yv s).drop pos=s[pos].toNat::(Yv s).drop (pos+1):=by
    rw[cd (by rw[tT];exact aV)];congr 1;have:=Mb aV;exact(Zt.1 this).2
   rw[hg];by_cases ha:s[pos].toNat<128
   ·have hd:=cQ4 aV ha;rw[hd]
    dsimp only
    cases hi:X1 s[pos].toNat with
    | true=>
     rw[if_neg (by simp),MC s f (pos+1) (by omega) (by omega)];simp only[xA,hi,df,Wt,if_true,Xk];split
     ·rfl
     ·congr 1;omega
    | false=>
     rw[Qe (by simp)];simp[hi]
   ·have hi:X1 s[pos].toNat=false:=by
     cases e:X1 s[pos].toNat with
     | false=>rfl
     | true=>have:=(Dq _).1 e;omega
    have hd:X1 (Utf8.decode s pos).1=false:=by
     have kQ8:=cQ5 aV ha;cases e:X1 (Utf8.decode s pos).1 with
     | false=>rfl
     | true=>have:=(Dq _).1 e;omega
    rw[Qe (by rw[hd];rfl)];simp[hi]
  ·rw[if_neg aV,qk (by rw[tT];omega)];rfl
theorem cQ6 (l:List Nat)(w:World)(hl:∀x∈l,x<256):Fn Tryz.prog 219 [.string (Qf l),.func (.func 220) #[] #[]] w (λv w'=>v= .int .i64 (if l.all X1 then -1 else((l.takeWhile X1).length:Nat))/\Ext w w'):=by
 refine QF (c:=cQI) Qa Tryz.func219 rfl rfl rfl ?_;have hp:Go.Proofs.PredAt Tryz.prog 220 #[] Go.Proofs.encR (λr=> !X1 r) w:=λW r _=>by
  have h:=cQ3 r W;unfold Fn at h;exact h.mono λe w' he=>by
   cases e with
   | returned v=>obtain⟨rfl,rfl⟩:=he;exact⟨rfl,0,rfl⟩
   | panicked ch=>exact he.elim
   | outgrown=>exact he.elim
 have hc:=Tryz.strings_indexFunc 220 #[] (Go.Proofs.enters_of Tryz.func220 rfl rfl) (λr=> !X1 r) true (Qf l) w hp;refine call (cQ2 hc) ?_;rintro v w1 ⟨rfl,hb⟩;refine⟨?_,mQo hb⟩;unfold Lib.idxFunc;rw[MC (Qf l) _ 0 (by omega) (XM _),Wy hl,xz,a8]
end
end
section
structure KeyQ {α:Type} [DecidableEq α] (P:Program) (ke:Nat) (kv:α->Value):Prop where
 find:∀(a:α) (m:List (α×Value)) (bs:List Nat) (w:World),bs.length=m.length->
  ∃r,(Instr.findKey ke (kv a) (XN kv m bs)).run P w= .ok r w/\r.map (·.2)=Xv a m/\(∀j v,r=some (j,v)->∀v',XN kv (X8 a v' m) bs=(XN kv m bs).modify j (λe=>{e with key:=kv a,val:=v'})/\((XN kv m bs)[j]?).map (·.key)=some (kv a))/\(r=none->∀v',X8 a v' m=m++ [(a,v')])
 check:∀b a w,(Instr.checkKey b 10000 ke (kv a)).run P w= .ok () w
 bits:∀a,Instr.sameBits 10000 (kv a) (kv a)=true
theorem Dr {α:Type} [DecidableEq α]{P:Program}{ke:Nat}{kv:α->Value}(a:α)(w:World)(heq:∀b:α,(Op.equal ke (kv a) (kv b)).run P w= .ok (decide (a=b)) w):∀(m:List (α×Value))(bs:List Nat)(i:Nat),bs.length=m.length->
  ∃r,(Instr.findAsking ke (kv a) (XN kv m bs) i).run P w= .ok r w/\r.map (·.2)=Xv a m/\(∀j v,r=some (j,v)->i<=j/\∀v',XN kv (X8 a v' m) bs=(XN kv m bs).modify (j-i) (λe=>{e with key:=kv a,val:=v'})/\((XN kv m bs)[j-i]?).map (·.key)=some (kv a))/\(r=none->∀v',X8 a v' m=m++ [(a,v')])
 | [],bs,i,h=>⟨none,by simp[XN,Instr.findAsking],rfl,(λj v h=>by cases h),λ_ v'=>rfl⟩
 | (b,u)::m,[],i,h=>by simp at h
 | (b,u)::m,s::bs,i,h=>by
  have e:XN kv ((b,u)::m) (s::bs)={key:=kv b,val:=u,born:=s}::XN kv m bs:=rfl;rw[e];unfold Instr.findAsking;simp only[Sem.run_bind,heq,Result.andThen_ok];by_cases VT:a=b
  ·subst VT;simp only[decide_true,if_true];refine⟨some (i,u),by simp,by simp[Xv],λj v hj=>?_,λh=>by cases h⟩;cases hj;refine⟨QE _,λv'=>?_⟩;simp[X8,XN]
  ·simp only[VT,decide_false,Lq,if_false];obtain⟨r,h1,h2,h3,h4⟩:=Dr a w heq m bs (i+1) (by simpa using h);refine⟨r,h1,by simp[Xv,VT,h2],λj v hj=>?_,λhn v'=>by simp[X8,VT,h4 hn v']⟩;obtain⟨h5,h7⟩:=h3 j v hj;refine⟨by omega,λv'=>?_⟩;obtain⟨h8,h9⟩:=h7 v';rw[show j-i=(j-(i+1))+1 by omega];refine⟨?_,by simpa using h9⟩;simp only[X8,VT,if_false];rw[show XN kv ((b,u)::X8 a v' m) (s::bs)={key:=kv b,val:=u,born:=s}::XN kv (X8 a v' m) bs from rfl,h8];simp
theorem mQx {α:Type} [DecidableEq α]{P:Program}{ke:Nat}{kv:α->Value}{fs:Array Field}(hu:P.underlying ke=some (.struct fs))
  (heq:∀(a b:α) (w:World),(Op.equal ke (kv a) (kv b)).run P w= .ok (decide (a=b)) w) (hc:∀b a w,(Instr.checkKey b 10000 ke (kv a)).run P w= .ok () w) (hb:∀a,Instr.sameBits 10000 (kv a) (kv a)=true):KeyQ P ke kv:=by
 refine⟨λa m bs w hl=>?_,hc,hb⟩;have key:=Dr (P:=P) (ke:=ke) (kv:=kv) a w (λb=>heq a b w) m bs 0 hl;obtain⟨r,h1,h2,h3,h4⟩:=key;refine⟨r,?_,h2,λj v hj v'=>by simpa using (h3 j v hj).2 v',h4⟩;unfold Instr.findKey;simp only[Sem.run_bind,ZI hu,Result.andThen_ok];cases m with
 | nil=>
  simp only[XN,List.zip_nil_left,List.map_nil,Instr.findNow,Sem.run_pure];simp[XN,Instr.findAsking] at h1;rw[h1]
 | cons p m=>
  cases bs with
  | nil=>simp at hl
  | cons s bs=>
   have e:XN kv (p::m) (s::bs)={key:=kv p.1,val:=p.2,born:=s}::XN kv m bs:=rfl;rw[e] at h1 ⊢;have hn:Instr.findNow (.struct fs) (kv a) ({key:=kv p.1,val:=p.2,born:=s}::XN kv m bs) 0=none:=by
    simp[Instr.findNow,Instr.sameNow]
   rw[hn];exact h1
structure MapQ {α:Type} (kv:α->Value) (w:World) (r:Nat) (m:List (α×Value)):Prop where
 ex:∃bs ck,bs.length=m.length/\bs.Nodup/\(∀b∈bs,b<ck)/\w.heap[r]? =some (.map (XN kv m bs).toArray ck)
theorem MapQ.ext {α:Type}{kv:α->Value}{w w':World}{r:Nat}{m:List (α×Value)}(h:MapQ kv w r m)(k:Ext w w'):MapQ kv w' r m:=by
 obtain⟨bs,ck,hl,h1,h2,hb⟩:=h.ex;exact⟨bs,ck,hl,h1,h2,(k.block r (er.1 hb).1 (by simp)).trans hb⟩
theorem MapQ.mod {α:Type}{kv:α->Value}{S:Nat->Prop}{w w':World}{r:Nat}{m:List (α×Value)}(h:MapQ kv w r m)(k:Mod S w w')(hn:¬S r):MapQ kv w' r m:=by
 obtain⟨bs,ck,hl,h1,h2,hb⟩:=h.ex;exact⟨bs,ck,hl,h1,h2,(k.block r (er.1 hb).1 hn).trans hb⟩
theorem qI {α:Type}{c:Cx}(_:c.g.Ok){o:Oper}{S:Env}{w:World}{K:Env->World->Prop}{Q:Zd}{t:Nat}(kv:α->Value)(ho:o.op= .makeMap t none)
  (k:∀w1,Ext w w1->w1.heap.size=w.heap.size+1->MapQ kv w1 w.heap.size []->Xf c S o.dst (.v (.map (some w.heap.size))) (λS=>K S w1)):X3 c o S w K Q:=by
 refine Jh (w':=w.alloc (.map #[] 0)) (λa hf=>?_) (k _ (Ext.alloc w _) (by simp) ⟨[],0,rfl,List.nodup_nil,by simp,heap_alloc_new w _⟩);simp[execOp,ho,Instr.makeMap]
section
variable {α:Type} [DecidableEq α] {kv:α->Value} {c:Cx} {o:Oper} {S:Env} {w:World} {K:Env->World->Prop} {Q:Zd} {t ke e:Nat} {r re:TyRow} {x y:Operand} {q:Nat} {m:List (α×Value)} {a:α}
theorem MD (hg:c.g.Ok)(hr:QR c.g.tys t=some r)(hd:r.d= .map ke e)(X2:QR c.g.tys e=some re)(hk:KeyQ c.g.P ke kv)(hm:MapQ kv w q m)(ok:Bool):
  (Instr.lookup t (.map (some q)) (kv a) ok).run c.g.P w= .ok (if ok then .tuple #[(Xv a m).getD re.z,.bool (Xv a m).isSome] else(Xv a m).getD re.z) w:=by
 have Q0:=(hg.row hr).1;rw[hd] at Q0;obtain⟨_,i,hi,_,_,aX⟩:=hg.row X2;obtain⟨bs,ck,hl,_,_,hb⟩:=hm.ex;obtain⟨res,h1,h2,_,_⟩:=hk.find a m bs w hl;have cV:(getObj q).run c.g.P w= .ok (.map (XN kv m bs).toArray ck) w:=by simp[getObj,Sem.run,hb]
 have hz:(zeroValue e).run c.g.P w= .ok re.z w:=by simp[zeroValue,typeInfo,hi,aX]
 simp only[Instr.lookup,Sem.run_bind,ZI Q0,Result.andThen_ok,cV,Sem.run_pure,hk.check,h1];rw[<-h2];cases res with
 | none=>cases ok<;>simp[hz]
 | some p=>cases ok<;>simp
theorem Ds (hg:c.g.Ok)(ho:o.op= .lookup t x y true)(hr:QR c.g.tys t=some r)(hd:r.d= .map ke e)(X2:QR c.g.tys e=some re)(hk:KeyQ c.g.P ke kv)
  (hx:S.ev x=some (.map (some q))) (hy:S.ev y=some (kv a)) (hm:MapQ kv w q m)
  (k:Xf c S o.dst (.v (.tuple #[(Xv a m).getD re.z,.bool (Xv a m).isSome])) (λS=>K S w)):X3 c o S w K Q:=by
 refine Jh (w':=w) (λb hf=>?_) k;have e1:=hf.ev hx;have e2:=hf.ev hy;have:=MD (w:=w) (a:=a) hg hr hd X2 hk hm true;simp only[execOp,ho,e1,e2];simp only[Sem.run_bind,this,Result.andThen_ok];simp
theorem ME {α:Type} [DecidableEq α](a:α)(v:Value):∀(m:List (α×Value)),(Xv a m).isSome->(X8 a v m).length=m.length
 | [],h=>by simp[Xv] at h
 | (b,x)::m,h=>by
  simp only[X8];split
  ·simp
  ·rename_i VT;simp[ME a v m (by simpa [Xv,VT] using h)]
theorem qJ {v:Value}{z:Operand}(hg:c.g.Ok)(ho:o.op= .mapUpdate t x y z)(gF:o.dst=none)(hr:QR c.g.tys t=some r)(hd:r.d= .map ke e)(hk:KeyQ c.g.P ke kv)
  (hx:S.ev x=some (.map (some q))) (hy:S.ev y=some (kv a)) (hz:S.ev z=some v) (hm:MapQ kv w q m)
  (k:∀w1,Mod (·=q) w w1->w1.heap.size=w.heap.size->MapQ kv w1 q (X8 a v m)->K S w1):X3 c o S w K Q:=by
 have Q0:=(hg.row hr).1;rw[hd] at Q0;obtain⟨bs,ck,hl,hnd,Ie,hb⟩:=hm.ex;have Xa:q<w.heap.size:=(er.1 hb).1;obtain⟨res,h1,h2,h3,h4⟩:=hk.find a m bs w hl;have cV:(getObj q).run c.g.P w= .ok (.map (XN kv m bs).toArray ck) w:=by simp[getObj,Sem.run,hb]
 have d4:∀ob,(setObj q ob).run c.g.P w= .ok () {w with heap:=w.heap.setIfInBounds q ob}:=λob=>by simp[setObj,Sem.run,hb]
 have main:∃ob,(Instr.mapUpdate t (.map (some q)) (kv a) v).run c.g.P w= .ok () {w with heap:=w.heap.setIfInBounds q ob}/\∃Wn ck',Wn.length=(X8 a v m).length/\Wn.Nodup/\(∀b∈Wn,b<ck')/\ob= .map (XN kv (X8 a v m) Wn).toArray ck':=by
  cases res with
  | none=>
   refine⟨_,?_,bs++ [ck],ck+1,?_,?_,?_,rfl⟩
   ·simp only[Instr.mapUpdate,Sem.run_bind,ZI Q0,Result.andThen_ok,cV,hk.check,h1,d4];rw[h4 rfl v];congr 4;simp only[XN];rw[List.zip_append hl.symm,et];simp
   ·rw[h4 rfl v];simp[hl]
   ·rw[CH];refine⟨hnd,by simp,λx hx y hy=>?_⟩;simp at hy;have:=Ie x hx;omega
   ·intro b hb';simp only[XB,QJ] at hb';rcases hb' with hb' | rfl
    ·have:=Ie b hb';omega
    ·omega
  | some p=>
   obtain⟨j,u⟩:=p;obtain⟨h8,h9⟩:=h3 j u rfl v;have Id:(((XN kv m bs).toArray[j]?).map (·.key)).getD (kv a)=kv a:=by
    rw[show(XN kv m bs).toArray[j]? =(XN kv m bs)[j]? from by simp,h9]<;>rfl
   refine⟨_,?_,bs,ck,?_,hnd,Ie,rfl⟩
   ·simp only[Instr.mapUpdate,Sem.run_bind,ZI Q0,Result.andThen_ok,cV,hk.check,h1,Id,Instr.keyThatStays,hk.bits,if_true,Sem.run_pure,d4];rw[h8];congr 4;simp
   ·rw[ME a v m (by rw[<-h2];rfl),hl]
 obtain⟨ob,Z1,Wn,ck',bR,kQv,kQw,rfl⟩:=main;unfold X3;intro b hf;have e1:=hf.ev hx;have e2:=hf.ev hy;have e3:=hf.ev hz;unfold Oper.wp;have:(execOp b.eval o).run c.g.P w= .ok .skip {w with heap:=w.heap.setIfInBounds q (.map (XN kv (X8 a v m) Wn).toArray ck')}:=by
  simp only[execOp,ho,e1,e2,e3];simp[Z1]
 rw[this];refine⟨S,by rw[gF];simpa [Act.put] using hf,k _ ⟨rfl,rfl,rfl,by simp,λi _ hi=>?_⟩ (by simp) ⟨Wn,ck',bR,kQv,kQw,?_⟩⟩
 ·simp only[CE];rw[if_neg (λe=>hi e.symm)]
 ·simp[Xa]
structure RangeQ {α:Type} (kv:α->Value) (w:World) (r q:Nat) (m L:List (α×Value)) (ZB:Option (α×Value)):Prop where
 ex:∃bs ck seen since,bs.length=m.length/\bs.Nodup/\(∀b∈bs,b<since)/\since<=ck/\w.heap[q]? =some (.map (XN kv m bs).toArray ck)/\w.heap[r]? =some (.mapIter (some q) since seen ck)/\
  L=((m.zip bs).filter λp=> !seen.contains p.2).map (·.1)/\(∀p,ZB=some p->∃(b:Nat) (s:Array Nat),seen=s.push b/\(p,b)∈m.zip bs)
theorem RangeQ.mod {α:Type}{kv:α->Value}{S:Nat->Prop}{w w':World}{r q:Nat}{m L:List (α×Value)}{ZB:Option (α×Value)}(h:RangeQ kv w r q m L ZB)(k:Mod S w w')(hr:¬S r)(hq:¬S q):RangeQ kv w' r q m L ZB:=by
 obtain⟨bs,ck,seen,since,h1,h2,h3,h4,h5,h6,h7⟩:=h.ex;exact⟨bs,ck,seen,since,h1,h2,h3,h4,(k.block q (er.1 h5).1 hq).trans h5,(k.block r (er.1 h6).1 hr).trans h6,h7⟩
theorem RangeQ.ext {α:Type}{kv:α->Value}{w w':World}{r q:Nat}{m L:List (α×Value)}{ZB:Option (α×Value)}(h:RangeQ kv w r q m L ZB)(k:Ext w w'):RangeQ kv w' r q m L ZB:=
 h.mod (Mod.of_ext (λ_=>False) k) (λh=>h) (λh=>h)
end
section
variable {α:Type} {kv:α->Value} {c:Cx} {o:Oper} {S:Env} {w:World} {K:Env->World->Prop} {Q:Zd} {t ke e:Nat} {r:TyRow} {x:Operand} {q it:Nat} {m L:List (α×Value)} {ZB:Option (α×Value)}
end
end
section
section
theorem cQ7 {p:Nat->Bool}{l:List Nat}(h:l.all p=true):l.takeWhile p=l:=by
 induction l with
 | nil=>rfl
 | cons x l ih=>
  simp only[xA,JR] at h;rw[Wt,Qe h.1,ih h.2]
theorem Dt (b:Nat)(l:List Nat):K4 (b::l)=if isDig b then 0 else((b::l).takeWhile X1).length:=rfl
theorem MF (l:List Nat):K4 l<=l.length:=by
 cases l with
 | nil=>exact QE _
 | cons b l=>
  rw[Dt];split
  ·exact XM _
  ·exact(CI _).length_le
theorem MG (l:List Nat)(w:World)(hl:∀x∈l,x<256)(Xb:l.length<=9223372036854775807):
  Fn Tryz.prog 191 [.string (Qf l)] w (λv w'=>v= .int .i64 (K4 l:Nat)/\Ext w w'):=by
 refine QF (c:={cQs with cuts:=[2]}) Qa Tryz.func191 rfl rfl rfl ?_;refine call (cQ6 l w hl) ?_;rintro v w1 ⟨rfl,Qd⟩;have hT:(l.takeWhile X1).length<=l.length:=(CI _).length_le;refine ia [] Qa [3] (λn:Nat=>[.int .i64 n]) (λn w'=>w1=w'/\n=(l.takeWhile X1).length) ?_ ?_
 ·cases ha:l.all X1 with
  | true=>
   rw[Qe rfl];refine X7 (by omega) ?_;exact⟨(Qf l).size,rfl,rfl,by rw[XU,cQ7 ha]⟩
  | false=>
   rw[if_neg (by simp)];refine Xy (by omega) ?_;exact⟨(l.takeWhile X1).length,rfl,rfl,rfl⟩
 rintro n _ ⟨rfl,hn⟩;cases l with
 | nil=>
  have:n=0:=by simpa using hn
  subst this;refine Xy (by omega) ?_;exact⟨rfl,Qd⟩
 | cons b l=>
  have hb8:=hl b (by simp);have hS:(Qf (b::l)).size=l.length+1:=by rw[XU]<;>rfl
  by_cases hd:isDig b=true
  ·have iO:X1 b=true:=by unfold X1;rw[hd,Bool.or_true]
   have BY:48<=b/\b<=57:=by unfold isDig at hd;simpa using hd
   have iz:0<n:=by rw[hn,Wt,Qe iO];simp
   refine X7 (by omega) ?_;refine dt (s:=Qf (b::l)) (j:=0) (by rw[hS];omega) (λx hx Fr=>?_);have Z2:x=b:=by rw[Wy hl] at hx;simpa using hx.symm
   subst Z2;refine X7 (by omega) ?_;refine dt (s:=Qf (x::l)) (j:=0) (by rw[hS];omega) (λy hy Fs=>?_);have iP:y=x:=by rw[Wy hl] at hy;simpa using hy.symm
   subst iP;refine X7 (by omega) ?_;exact⟨by rw[Dt,Qe hd];rfl,Qd⟩
  ·have iO:K4 (b::l)=n:=by rw[Dt,if_neg hd,hn]
   rw[iO];by_cases iz:0<n
   ·have BY:¬(48<=b/\b<=57):=λh=>hd (by unfold isDig;simpa using h)
    refine X7 (by omega) ?_;refine dt (s:=Qf (b::l)) (j:=0) (by rw[hS];omega) (λx hx Fr=>?_);have Z2:x=b:=by rw[Wy hl] at hx;simpa using hx.symm
    subst Z2;refine QB (λh1=>?_) (λh1=>?_)
    ·refine dt (s:=Qf (x::l)) (j:=0) (by rw[hS];omega) (λy hy Fs=>?_);have iP:y=x:=by rw[Wy hl] at hy;simpa using hy.symm
     subst iP;refine Xy (by omega) ?_;exact⟨rfl,Qd⟩
    ·exact⟨rfl,Qd⟩
   ·refine Xy (by omega) ?_;exact⟨rfl,Qd⟩
def X4 (l:List (List Nat)):List Value:=l.map λs=>.string (Qf s)
theorem lm {l:List (List Nat)}{j:Nat}{s:List Nat}(h:l[j]? =some s):(X4 l)[j]? =some (.string (Qf s)):=by simp[X4,h]
theorem aF (l:List (List Nat)):(X4 l).length=l.length:=by simp[X4]
def YN:List Nat:=[116,114,117,101]
def bm:List Nat:=[102,97,108,115,101]
def WB (s:List Nat):Bool:=decide (s≠ []/\K4 s=s.length/\s≠YN/\s≠bm)
def Yg:List (List Nat)->Nat->List (ByteArray×Value)->List (ByteArray×Value)
 | [],_,m=>m
 | s::l,i,m=>Yg l (i+1) (X8 (Qf s) (.int .i64 (i:Nat)) m)
theorem MH:∀(l:List (List Nat))(s:List Nat)(i:Nat)(m:List (ByteArray×Value)),Yg (l++ [s]) i m=X8 (Qf s) (.int .i64 ((i+l.length:Nat):Int)) (Yg l i m)
 | [],s,i,m=>rfl
 | t::l,s,i,m=>by
  simp only[Yd,Yg];rw[MH l s (i+1)];congr 3;simp only[Xk];omega
end
section
theorem cQ8 {α:Type}{kv:α->Value}{c:Cx}(hg:c.g.Ok){o:Oper}{S:Env}{w:World}{K:Env->World->Prop}{Q:Zd}{t q ke e:Nat}{x:Operand}{m:List (α×Value)}{r:TyRow}
  (ho:o.op= .call ⟨.builtin .len, #[x], #[t]⟩) (hr:QR c.g.tys t=some r) (hd:r.d= .map ke e) (hx:S.ev x=some (.map (some q))) (hm:MapAt kv w q m)
  (k:Xf c S o.dst (.v (.int .i64 m.length)) (λS=>K S w)):X3 c o S w K Q:=by
 have Q0:=(hg.row hr).1;rw[hd] at Q0;obtain⟨bs,ck,hl,hb⟩:=hm.ex;refine Jh (w':=w) (v:=.int .i64 m.length) (λa hf=>?_) k;have e1:=hf.ev hx;have cV:(getObj q).run c.g.P w= .ok (.map (XN kv m bs).toArray ck) w:=by simp[getObj,Sem.run,hb]
 have ZK:(XN kv m bs).length=m.length:=by simp[XN,hl]
 simp only[execOp,ho,resolve,invoke];simp[builtin,e1,Builtin.len_,ZI Q0,cV,goInt,ZK]
abbrev VE:ByteArray->Value:=λs=>.string s
def ZJ (names:List (List Nat)):Bool:=decide (names.all WB=true/\(Yg names 0 []).length=names.length/\names.length<=64)
theorem cQ9 {names:List (List Nat)}{j:Nat}{s:List Nat}(h:(names.take j).all WB=true)(hj:names[j]? =some s)(hs:WB s=true):(names.take (j+1)).all WB=true:=by
 rw[VX,hj];simp[List.all_append,h,hs]
theorem MI {names:List (List Nat)}{j:Nat}{s:List Nat}(hj:names[j]? =some s)(hs:WB s≠true):ZJ names=false:=by
 unfold ZJ;refine Zf (λh=>hs ?_);exact W5.1 h.1 s (Xe hj)
theorem MJ {names:List (List Nat)}{j:Nat}{s:List Nat}(hj:names[j]? =some s):Yg (names.take (j+1)) 0 []=X8 (Qf s) (.int .i64 (j:Nat)) (Yg (names.take j) 0 []):=by
 have Xa:j<names.length:=(Zt.1 hj).1;rw[VX,hj];show Yg (names.take j++ [s]) 0 []=_;rw[MH,Ye,nD (by omega),a8]
def Ke (names:List (List Nat)):Prop:=∀s∈names,(∀x∈s,x<256)/\s.length<=9223372036854775807
theorem Du (names:List (List Nat))(A:Option Addr)(n c:Nat)(w:World)(h:Sl w 1 A n c (X4 names))(hb:Ke names):
  Fn Tryz.prog 132 [.slice A n c] w (λv w'=>∃v1,v= .tuple #[v1,.bool (ZJ names)]/\Ext w w'/\(ZJ names=true->∃r,v1= .map (some r)/\w.heap.size<=r/\MapAt VE w' r (Yg names 0 []))):=by
 have hn:names.length=n:=by have:=h.len;rw[aF] at this;omega
 have Ft:n<=9223372036854775807:=by have:=h.le;have:=h.cap;simp only[maxLen] at this;omega
 refine QF (c:={bQR with cuts:=[]}) Qa Tryz.func132 rfl rfl rfl ?_;refine tV Qa VE rfl ?_;intro w1 Qd Q2 Zj;refine loop Qa [10] (λs:Nat=>[.int .i64 s]) (λs w'=>Ext w w'/\s<=n/\(names.take s).all WB=true/\MapAt VE w' w.heap.size (Yg (names.take s) 0 [])) (λs _=>n-s) 0 rfl ⟨Qd,XM _,rfl,Zj⟩ ?_;rintro s w3 ⟨Qj,W0,hall,Xo⟩;refine QB (λh3=>?_) (λh3=>?_)
 ·have pP:names[s]? =some names[s]:=Xs (by omega);generalize names[s]=t at pP;obtain⟨cJ,Yr⟩:=hb t (Xe pP);refine Vz (h.ext Qj) (by omega) (λad u hA hu Xz=>?_);rw[lm pP] at hu;cases hu;refine load Xz ?_;have kQ9:=Qj;have bad:WB t≠true->∀w',Ext w w'->∃v1,(.tuple #[.map none,.bool false]:Value)= .tuple #[v1,.bool (ZJ names)]/\Ext w w'/\(ZJ names=true->∃r,v1= .map (some r)/\w.heap.size<=r/\MapAt VE w' r (Yg names 0 [])):=λhb w' hE=>by
   refine⟨.map none,?_,hE,λh=>?_⟩
   ·rw[MI pP hb]
   ·rw[MI pP hb] at h;cases h
  have e0:((Qf t=(⟨#[]⟩:ByteArray))↔t=[]):=⟨λh=>JD cJ (by simp) h,λh=>by rw[h];rfl⟩
  have e1:((Qf t=(⟨#[116,114,117,101]⟩:ByteArray))↔t=YN):=⟨λh=>JD cJ (by decide) h,λh=>by rw[h];rfl⟩
  have e2:((Qf t=(⟨#[102,97,108,115,101]⟩:ByteArray))↔t=bm):=⟨λh=>JD cJ (by decide) h,λh=>by rw[h];rfl⟩
  by_cases h4:t=[]
  ·refine X7 (e0.2 h4) ?_;exact bad (by unfold WB;simp[h4]) _ Qj
  refine Xy (λh=>h4 (e0.1 h)) ?_;refine call (MG t w3 cJ Yr) ?_;rintro v w4 ⟨rfl,Qq⟩;have R7:((Qf t).size:Int)=(t.length:Nat):=by rw[XU]
  by_cases h5:¬K4 t=t.length
  ·refine qA (λh=>h5 (by omega)) ?_;exact bad (by unfold WB;simp[h5]) _ (Qj.trans Qq)
  replace h5:=Decidable.not_not.1 h5;refine Wx (by omega) ?_;by_cases h6:t=YN
  ·refine X7 (e1.2 h6) ?_;exact bad (by unfold WB;simp[h6]) _ (Qj.trans Qq)
  refine Xy (λh=>h6 (e1.1 h)) ?_;by_cases h7:t=bm
  ·refine X7 (e2.2 h7) ?_;exact bad (by unfold WB;simp[h7]) _ (Qj.trans Qq)
  refine Xy (λh=>h7 (e2.1 h)) ?_;have Zl:WB t=true:=by unfold WB;simp[h4,h5,h6,h7]
  refine jo (kv:=VE) (a:=Qf t) Qa rfl rfl rfl rfl rfl mQk rfl rfl rfl (Xo.ext Qq) (λw5 Jk _ XO=>?_);refine Qm ((s+1:Nat):Int) (by omega) (by omega) ?_;refine⟨s+1,rfl,⟨(Qj.trans Qq).own Jk (QE _),by omega,cQ9 hall pP Zl,by rw[MJ pP];exact XO⟩,by show n-(s+1)<n-s;omega⟩
 ·have:s=n:=by omega
  subst this;have ht:names.take s=names:=Jz (by omega);rw[ht] at hall Xo;refine cQ8 (kv:=VE) Qa rfl rfl rfl rfl Xo ?_;refine Zn (λh4=>?_) (λh4=>?_)
  ·refine⟨.map (some w.heap.size),?_,Qj,λ_=>⟨_,rfl,QE _,Xo⟩⟩;have:decide ((names.length:Int)<=64)=ZJ names:=by unfold ZJ;exact qq.2 ⟨λh=>⟨hall,by omega,by omega⟩,λh=>by omega⟩
   rw[<-this,hn]
  ·refine⟨.map (some w.heap.size),?_,Qj,λ_=>⟨_,rfl,QE _,Xo⟩⟩;have:ZJ names=false:=by unfold ZJ;exact Zf (λh=>by omega)
   rw[this]
end
end
section
section
theorem Xl {C:World->Prop}{p:Addr}{n:Nat}{vs:List Value}{K:List Value->Prop}(hl:vs.length=n)(h:∀w,C w->∀j v,vs[j]? =some v->w.cell? (p.add j)=some v)(k:K vs):qy C p n K:=by unfold qy;exact⟨vs,hl,h,k⟩
def lq (f:List Fz):List Value:=f.flatMap Fz.cells
theorem ML (f:List Fz)(x:Fz):lq (f++ [x])=lq f++x.cells:=by simp[lq]
structure Rd (w:World) (base r:Nat) (A:Option Addr) (c:Nat) (mp:Value) (p:Ps):Prop where
 blk:Blk w r 222 [mp,.string (Qf p.r),.slice A p.f.length c,.bool p.u]
 own:Own w base 280 4 A p.f.length c (lq p.f)
 lt:r<base
 top:base<=w.heap.size
 b8:∀x∈p.r,x<256
 lim:p.f.length+p.r.length<=1000000000000
theorem Rd.ext {w w':World}{base r:Nat}{A:Option Addr}{c:Nat}{mp:Value}{p:Ps}(h:Rd w base r A c mp p)(k:Ext w w'):Rd w' base r A c mp p:=
 ⟨h.blk.ext k,h.own.ext k,h.lt,Ze h.top k.size,h.b8,h.lim⟩
def RdS (r:Nat)(A:Option Addr):Nat->Prop:=λk=>k=r∨Qi A k
def RdTo (w:World)(base r:Nat)(A:Option Addr)(mp:Value)(p:Ps)(w':World):Prop:=∃A' c',Rd w' base r A' c' mp p/\Mod (RdS r A) w w'/\Moved w A A'
theorem RdTo.step {w w1 w2:World}{base r:Nat}{A A1:Option Addr}{mp:Value}{p:Ps}(h:RdTo w1 base r A1 mp p w2)(hm:Mod (RdS r A) w w1)(hv:Moved w A A1):RdTo w base r A mp p w2:=by
 obtain⟨A2,c2,h2,XL,JT⟩:=h;refine⟨A2,c2,h2,hm.trans XL (λi hi=>?_),hv.trans JT hm.size⟩;rcases hi with rfl | hi
 ·exact .inl (.inl rfl)
 ·rcases hv.rows i hi with h | h
  ·exact .inl (.inr h)
  ·exact .inr h
theorem Rd.nrow {w:World}{base r:Nat}{A:Option Addr}{c:Nat}{mp:Value}{p:Ps}(h:Rd w base r A c mp p):¬Qi A r:=λhr=>by
 have:=(h.own.rows r hr).1;have:=h.lt;omega
theorem qK (l:List Nat):(Zu l).length<=l.length:=(List.dropWhile_suffix _).sublist.length_le
theorem dQa {l:List Nat}(h:∀x∈l,x<256):∀x∈Zu l,x<256:=λx hx=>h x ((List.dropWhile_suffix _).subset hx)
theorem t6 (sym:List Nat)(p:Ps):JZ sym p=(sym.isPrefixOf (Zu p.r),{p with r:=if sym.isPrefixOf (Zu p.r)then(Zu p.r).drop sym.length else Zu p.r}):=by
 unfold JZ;cases sym.isPrefixOf (Zu p.r)<;>rfl
theorem qM (base r:Nat)(A:Option Addr)(c:Nat)(mp:Value)(p:Ps)(sym:List Nat)(w:World)(h:Rd w base r A c mp p)(hs:∀x∈sym,x<256):
  Fn Tryz.prog 142 [.pointer (some ⟨r,0,none⟩),.string (Qf sym)] w (λv w'=>v= .bool (JZ sym p).1/\Rd w' base r A c mp (JZ sym p).2/\Mod (·=r) w w'):=by
 have hl:=h.lim;have Yr:=qK p.r;have cJ:=dQa h.b8;refine QF (c:=bQ0) Qa Tryz.func142 rfl rfl rfl ?_;refine Qp h.blk rfl ?_;refine call (cQ1 p.r w h.b8 (by omega)) ?_;rintro v w1 ⟨rfl,Qd⟩;refine XK (h.blk.ext Qd) (by simp) (λw2 XL Qw=>?_);refine Qp Qw rfl ?_;refine call (cQW (Zu p.r) sym w2 cJ hs) ?_;rintro v w3 ⟨rfl,rfl⟩;have hM:∀w3,Mod (·=r) w2 w3->Mod (·=r) w w3:=λw3 Xo=>((Mod.of_ext (·=r) Qd).trans XL (λi hi=>.inl hi)).trans Xo (λi hi=>.inl hi)
 rw[t6];unfold tZ;cases hp:sym.isPrefixOf (Zu p.r)with
 | true=>
  refine XK Qw (by simp) (λw3 Xo Qu=>?_);have ZM:=hM w3 Xo;have Xb:((Zu p.r).drop sym.length).length<=p.r.length:=by rw[Y1];omega
  exact⟨rfl,⟨Qu,h.own.mod ZM (λi hi e=>by subst e;exact h.nrow hi),h.lt,Ze h.top ZM.size,λx hx=>cJ x (ay hx),by show p.f.length+((Zu p.r).drop sym.length).length<=_;omega⟩,ZM⟩
 | false=>
  refine XK Qw (by simp) (λw3 Xo Qu=>?_);have ZM:=hM w3 Xo;exact⟨rfl,⟨Qu,h.own.mod ZM (λi hi e=>by subst e;exact h.nrow hi),h.lt,Ze h.top ZM.size,cJ,by show p.f.length+(Zu p.r).length<=_;omega⟩,ZM⟩
theorem nY (base r:Nat)(A:Option Addr)(c:Nat)(mp:Value)(p:Ps)(x:Fz)(w:World)(h:Rd w base r A c mp p)(hl:p.f.length+p.r.length+1<=1000000000000):
  Fn Tryz.prog 226 [.pointer (some ⟨r,0,none⟩),.agg x.cells.toArray] w (λv w'=>v= .int .i64 (p.f.length:Nat)/\RdTo w base r A mp (VC x p).2 w'):=by
 refine QF (c:=cQO) Qa Tryz.func226 rfl rfl rfl ?_;refine new (λw1 Qd Q2 Qh=>?_);have h1:=h.ext Qd;have Vv:=h.own.rows;have hC0:Mod (Qi A) w1 w1.drew:=Mod.of_ext _ (Ext.drew w1);refine XJ Qa (Mod (Qi A) w1) 8 [(true,0),(true,1),(true,2),(true,3),(true,4),(true,5),(false,6),(false,7)] (by kernel_rfl) hC0 ?_;refine QL (v:=.slice A p.f.length c) (λw' Qb=>by rw[(h1.blk.mod Qb h.nrow).cell];rfl) ?_;have Fu:¬Qi A w.heap.size:=λhr=>by have:=(Vv _ hr).2;omega
 refine Xl (vs:=x.cells) rfl (λw' Qb j v hj=>by rw[(Qh.mod Qb Fu).cell];exact hj) ?_;refine XE Qa [x.cells] rfl rfl rfl rfl rfl ⟨rfl,rfl,⟨⟩⟩ rfl (λcs h=>by simp only[QJ] at h;subst h;rfl) rfl (by decide) (by decide) ?_;intro w2 Qg X9 Qw;have Xq:=(Ext.drew w1).trans Qg;have h2:=h1.ext Xq;refine⟨Mod.of_ext _ Xq,?_⟩;have jW:Sl w2 4 (some ⟨w1.drew.heap.size,0,none⟩) 1 1 x.cells:=Sl.own (sz:=4) (n:=1) Qw (QE _) (by decide) (by simp[Fz.cells]);refine JE Qa rfl rfl rfl rfl rfl (by decide) rfl rfl ⟨_,rfl⟩ rfl rfl h2.own jW (by intro u hu;simp[Fz.cells] at hu;rcases hu with rfl | rfl | rfl | rfl<;>rfl) (by unfold maxLen;omega) (by show _*32<=_;omega) h2.top ?_;intro A' c' w3 Xo lY zN;have J1:Mod (Qi A) w1 w3:=(Mod.of_ext (Qi A) Xq).trans Xo (λi hi=>.inl hi);refine⟨J1,?_⟩;have Qu:=h1.blk.mod J1 h.nrow;refine XK Qu (by simp) (λw4 Zb QZ=>?_);refine Qp QZ rfl ?_;have hz:=Xq.size;have Fv:∀k,Qi A' k->base<=k:=λk hk=>(lY.rows k hk).1
 have Kt:Mod (RdS r A) w w4:=((Mod.of_ext (RdS r A) Qd).trans J1 (λi hi=>.inl (.inr hi))).trans Zb (λi hi=>.inl (.inl hi));refine Qm ((p.f.length:Nat):Int) (by omega) (by omega) ?_;refine⟨rfl,A',c',⟨?_,?_,h.lt,Ze h.top Kt.size,h.b8,?_⟩,Kt,zN.back (Ze Qd.size hz)⟩
 ·have e:(VC x p).2.f.length=p.f.length+1:=by simp[VC]
  rw[e];exact QZ
 ·have e:(VC x p).2.f.length=p.f.length+1:=by simp[VC]
  rw[e,show lq (VC x p).2.f=lq p.f++x.cells from ML _ _];exact lY.mod Zb (λk hk e=>by have:=Fv k hk;have:=h.lt;omega)
 ·have e:(VC x p).2.f.length=p.f.length+1:=by simp[VC]
  rw[e];show p.f.length+1+p.r.length<=_;omega
end
section
theorem nZ {c:Cx}{o:Oper}{S:Env}{w:World}{K:Env->World->Prop}{Q:Zd}{t:Nat}{v:Value}{x:Operand}(ho:o.op= .panic x)(hx:S.ev x=some (.iface t v))
  (k:Q (.panic [{v:=.iface t v,recovered:=false}]) S w):X3 c o S w K Q:=by
 unfold X3;intro a hf;have e1:=hf.ev hx;unfold Oper.wp;have:(execOp a.eval o).run c.g.P w= .halt (.panic (.iface t v)) w:=by
  simp only[execOp,ho,e1];simp[Instr.panic,goPanic]
 rw[this];exact⟨S,hf,k⟩
def dQb:List PanicEntry:=[{v:=.iface 34 (.int .i64 31),recovered:=false}]
def PanTo (w:World)(r:Nat)(A:Option Addr)(ch:List PanicEntry)(w':World):Prop:=ch=dQb/\Mod (RdS r A) w w'
theorem RdS.trans {w w1 w2:World}{r:Nat}{A A1:Option Addr}(hm:Mod (RdS r A) w w1)(hv:Moved w A A1)(h:Mod (RdS r A1) w1 w2):Mod (RdS r A) w w2:=
 hm.trans h (λi hi=>by
  rcases hi with rfl | hi
  ·exact .inl (.inl rfl)
  ·rcases hv.rows i hi with h | h
   ·exact .inl (.inr h)
   ·exact .inr h)
theorem PanTo.step {w w1 w2:World}{r:Nat}{A A1:Option Addr}{ch:List PanicEntry}(h:PanTo w1 r A1 ch w2)(hm:Mod (RdS r A) w w1)(hv:Moved w A A1):PanTo w r A ch w2:=⟨h.1,RdS.trans hm hv h.2⟩
def qO (opd:Ps->Option (Nat×Ps)):Prop:=∀p a p',opd p=some (a,p')->p'.f.length+p'.r.length<=p.f.length+p.r.length/\p'.r.length<p.r.length
theorem lr (sym:List Nat)(p p1:Ps)(b:Bool)(h:JZ sym p=(b,p1)):p1.f=p.f/\p1.u=p.u/\p1.r.length<=p.r.length/\(b=true->p1.r.length+sym.length<=p.r.length):=by
 rw[t6] at h;have ht:=qK p.r;cases h;refine⟨rfl,rfl,?_,λhb=>?_⟩
 ·show List.length (if _ then _ else _)<=_;split
  ·rw[Y1];omega
  ·exact ht
 ·show List.length (if _ then _ else _)+_<=_;rw[Qe hb,Y1];have:=(aQF.1 hb).length_le;omega
theorem MM {sym:List Nat}{op:Int}{opd:Ps->Option (Nat×Ps)}(hs:0<sym.length)(hl:qO opd):∀(m a:Nat)(p:Ps)(b:Nat)(p':Ps),eG sym op opd m a p=some (b,p')->p'.f.length+p'.r.length<=p.f.length+p.r.length/\p'.r.length<=p.r.length
 | 0,a,p,b,p',h=>by cases h
 | m+1,a,p,b,p',h=>by
  unfold eG at h;cases hk:JZ sym p with
  | mk t p1=>
   obtain⟨h1,h2,h3,h4⟩:=lr sym p p1 t hk;rw[hk] at h;cases t with
   | false=>cases h;rw[h1];omega
   | true=>
    simp only at h;cases ho:opd p1 with
    | none=>rw[ho] at h;cases h
    | some q=>
     obtain⟨d,p2⟩:=q;rw[ho] at h;simp only at h;obtain⟨h5,h6⟩:=hl p1 d p2 ho;have:=MM hs hl m _ _ b p' h;simp only[Qy,Xk,Z8] at this;have:=h4 rfl;rw[h1] at h5;omega
theorem Dv {sym:List Nat}{op:Int}{opd:Ps->Option (Nat×Ps)}(hs:0<sym.length)(hl:qO opd):qO (K5 sym op opd):=by
 intro p b p' h;unfold K5 at h;cases ho:opd p with
 | none=>rw[ho] at h;cases h
 | some q=>
  obtain⟨a,p1⟩:=q;rw[ho] at h;simp only at h;have h1:=hl p a p1 ho;have h2:=MM hs hl _ _ _ b p' h;omega
structure OpdC (L base r:Nat) (mp:Value) (fid:Nat) (args:List Value) (G:World->Option Addr->Prop) (opd:Ps->Option (Nat×Ps)):Prop where
 run:∀w A c p,Rd w base r A c mp p->G w A->p.r.length<L->FnP Tryz.prog fid args w (λv w'=>∃(a:Nat) (p':Ps),opd p=some (a,p')/\v= .int .i64 (a:Nat)/\RdTo w base r A mp p' w') (λch w'=>opd p=none/\PanTo w r A ch w')
 stay:∀w w' A A',G w A->Mod (RdS r A) w w'->Moved w A A'->G w' A'
 lim:qO opd
structure Est where
 a:Nat
 p:Ps
 A:Option Addr
 c:Nat
theorem dQc (L base r:Nat)(A:Option Addr)(c:Nat)(mp:Value)(p:Ps)(sym:List Nat)(op:Int)(G:World->Option Addr->Prop)(opd:Ps->Option (Nat×Ps))(w:World)
  (h:Rd w base r A c mp p) (hG:G w A) (hs:∀x∈sym,x<256) (zO:0<sym.length) (hL:p.r.length<L) (H:OpdC L base r mp 198 [.pointer (some ⟨r,0,none⟩)] G opd):
  FnP Tryz.prog 196 [.pointer (some ⟨r,0,none⟩),.string (Qf sym),.int .i64 op,.func (.func 198) #[.pointer (some ⟨r,0,none⟩)] #[]] w
   (λv w'=>∃(a:Nat) (p':Ps),K5 sym op opd p=some (a,p')/\v= .int .i64 (a:Nat)/\RdTo w base r A mp p' w') (λch w'=>K5 sym op opd p=none/\PanTo w r A ch w'):=by
 refine W6 (c:={Ms with cuts:=[]}) Qa Tryz.func196 rfl rfl rfl ?_;refine XI (H.run w A c p h hG hL) ?_ ?_
 rotate_left
 ·rintro ch w1 ⟨ho,hp⟩;refine⟨?_,hp⟩;unfold K5;rw[ho]
 rintro v w1 ⟨a,p1,ho,rfl,A1,c1,h1,Zj,jZ⟩;obtain⟨Xu,JU⟩:=H.lim p a p1 ho;have Jn:K5 sym op opd p=eG sym op opd (p1.r.length+1) a p1:=by unfold K5;rw[ho]
 refine loop Qa [9] (λs:Est=>[.int .i64 s.a]) (λs w'=>Rd w' base r s.A s.c mp s.p/\G w' s.A/\s.p.r.length<L/\Mod (RdS r A) w w'/\Moved w A s.A/\∃m,s.p.r.length<m/\eG sym op opd m s.a s.p=K5 sym op opd p) (λs _=>s.p.r.length) ⟨a,p1,A1,c1⟩ rfl ⟨h1,H.stay w w1 A A1 hG Zj jZ,by show p1.r.length<L;omega,Zj,jZ,_,dh _,Jn.symm⟩ ?_;rintro⟨d,q,A2,c2⟩ w2 ⟨h2,lZ,Fw,XL,JT,m,If,ZM⟩;simp only at h2 lZ Fw XL JT If ZM;refine call (qM base r A2 c2 mp q sym w2 h2 hs) ?_;rintro v w3 ⟨rfl,h3,Xo⟩;cases m with
 | zero=>omega
 | succ m=>
 unfold eG at ZM;have uZ:Mod (RdS r A2) w2 w3:=Xo.mono (λi hi=>.inl (.inl hi));have cK:=RdS.trans XL JT uZ;cases hk:JZ sym q with
 | mk t q1=>
  obtain⟨k1,k2,k3,k4⟩:=lr sym q q1 t hk;rw[hk] at h3 ZM;simp only at h3;cases t with
  | false=>
   refine Xt rfl ?_;exact⟨d,q1,ZM.symm,rfl,A2,c2,h3,cK,JT⟩
  | true=>
   refine Xc rfl ?_;simp only at ZM;have k5:=k4 rfl;have oX:=H.stay w2 w3 A2 A2 lZ uZ (Moved.refl _ _);refine XI (H.run w3 A2 c2 q1 h3 oX (by omega)) ?_ ?_
   rotate_left
   ·rintro ch w4 ⟨eW,hp⟩;rw[eW] at ZM;exact⟨ZM.symm,hp.step cK JT⟩
   rintro v w4 ⟨b,q2,eW,rfl,A4,c4,h4,Zb,l6⟩;obtain⟨l1,l2⟩:=H.lim q1 b q2 eW;rw[eW] at ZM;simp only at ZM;have hlq:=h2.lim;rw[k1] at l1;have u7:=H.stay w3 w4 A2 A4 oX Zb l6;have ag:=RdS.trans cK JT Zb;have u9:=JT.trans l6 cK.size;refine call (nY base r A4 c4 mp q2 ⟨op,0,d,b⟩ w4 h4 (by omega)) ?_;rintro v w5 ⟨rfl,A5,c5,h5,XO,VN⟩;refine⟨⟨q2.f.length,(VC ⟨op,0,d,b⟩ q2).2,A5,c5⟩,rfl,⟨h5,H.stay w4 w5 A4 A5 u7 XO VN,?_,RdS.trans ag u9 XO,u9.trans VN ag.size,m,?_,ZM⟩,?_⟩
   ·show q2.r.length<L;omega
   ·show q2.r.length<m;omega
   ·show q2.r.length<q.r.length;omega
theorem dQd (L base r:Nat)(A:Option Addr)(c:Nat)(mp:Value)(p:Ps)(sym:List Nat)(op:Int)(x:Nat)(G:World->Option Addr->Prop)(opd:Ps->Option (Nat×Ps))(w:World)
  (h:Rd w base r A c mp p) (hG:G w A) (hs:∀x∈sym,x<256) (zO:0<sym.length) (hL:p.r.length<L) (H:OpdC L base r mp 197 [.pointer (some ⟨x,0,none⟩)] G opd):
  FnP Tryz.prog 196 [.pointer (some ⟨r,0,none⟩),.string (Qf sym),.int .i64 op,.func (.func 197) #[] #[.pointer (some ⟨x,0,none⟩)]] w
   (λv w'=>∃(a:Nat) (p':Ps),K5 sym op opd p=some (a,p')/\v= .int .i64 (a:Nat)/\RdTo w base r A mp p' w') (λch w'=>K5 sym op opd p=none/\PanTo w r A ch w'):=by
 refine W6 (c:={Ms with cuts:=[]}) Qa Tryz.func196 rfl rfl rfl ?_;refine XI (H.run w A c p h hG hL) ?_ ?_
 rotate_left
 ·rintro ch w1 ⟨ho,hp⟩;refine⟨?_,hp⟩;unfold K5;rw[ho]
 rintro v w1 ⟨a,p1,ho,rfl,A1,c1,h1,Zj,jZ⟩;obtain⟨Xu,JU⟩:=H.lim p a p1 ho;have Jn:K5 sym op opd p=eG sym op opd (p1.r.length+1) a p1:=by unfold K5;rw[ho]
 refine loop Qa [9] (λs:Est=>[.int .i64 s.a]) (λs w'=>Rd w' base r s.A s.c mp s.p/\G w' s.A/\s.p.r.length<L/\Mod (RdS r A) w w'/\Moved w A s.A/\∃m,s.p.r.length<m/\eG sym op opd m s.a s.p=K5 sym op opd p) (λs _=>s.p.r.length) ⟨a,p1,A1,c1⟩ rfl ⟨h1,H.stay w w1 A A1 hG Zj jZ,by show p1.r.length<L;omega,Zj,jZ,_,dh _,Jn.symm⟩ ?_;rintro⟨d,q,A2,c2⟩ w2 ⟨h2,lZ,Fw,XL,JT,m,If,ZM⟩;simp only at h2 lZ Fw XL JT If ZM;refine call (qM base r A2 c2 mp q sym w2 h2 hs) ?_;rintro v w3 ⟨rfl,h3,Xo⟩;cases m with
 | zero=>omega
 | succ m=>
 unfold eG at ZM;have uZ:Mod (RdS r A2) w2 w3:=Xo.mono (λi hi=>.inl (.inl hi));have cK:=RdS.trans XL JT uZ;cases hk:JZ sym q with
 | mk t q1=>
  obtain⟨k1,k2,k3,k4⟩:=lr sym q q1 t hk;rw[hk] at h3 ZM;simp only at h3;cases t with
  | false=>
   refine Xt rfl ?_;exact⟨d,q1,ZM.symm,rfl,A2,c2,h3,cK,JT⟩
  | true=>
   refine Xc rfl ?_;simp only at ZM;have k5:=k4 rfl;have oX:=H.stay w2 w3 A2 A2 lZ uZ (Moved.refl _ _);refine XI (H.run w3 A2 c2 q1 h3 oX (by omega)) ?_ ?_
   rotate_left
   ·rintro ch w4 ⟨eW,hp⟩;rw[eW] at ZM;exact⟨ZM.symm,hp.step cK JT⟩
   rintro v w4 ⟨b,q2,eW,rfl,A4,c4,h4,Zb,l6⟩;obtain⟨l1,l2⟩:=H.lim q1 b q2 eW;rw[eW] at ZM;simp only at ZM;have hlq:=h2.lim;rw[k1] at l1;have u7:=H.stay w3 w4 A2 A4 oX Zb l6;have ag:=RdS.trans cK JT Zb;have u9:=JT.trans l6 cK.size;refine call (nY base r A4 c4 mp q2 ⟨op,0,d,b⟩ w4 h4 (by omega)) ?_;rintro v w5 ⟨rfl,A5,c5,h5,XO,VN⟩;refine⟨⟨q2.f.length,(VC ⟨op,0,d,b⟩ q2).2,A5,c5⟩,rfl,⟨h5,H.stay w4 w5 A4 A5 u7 XO VN,?_,RdS.trans ag u9 XO,u9.trans VN ag.size,m,?_,ZM⟩,?_⟩
   ·show q2.r.length<L;omega
   ·show q2.r.length<m;omega
   ·show q2.r.length<q.r.length;omega
end
section
theorem Kf {p:Prop}{v v':Value}{K:Value->Prop}(hp:p)(h:v=v')(k:K v'):gW p v K:=by unfold gW;exact⟨hp,by rw[h];exact k⟩
theorem MapAt.mod {α:Type}{kv:α->Value}{S:Nat->Prop}{w w':World}{r:Nat}{m:List (α×Value)}(h:MapAt kv w r m)(k:Mod S w w')(hn:¬S r):MapAt kv w' r m:=by
 obtain⟨bs,ck,hl,hb⟩:=h.ex;exact⟨bs,ck,hl,(k.block r (er.1 hb).1 hn).trans hb⟩
theorem t7 {α:Type} [DecidableEq α]{kv:α->Value}{c:Cx}{o:Oper}{S:Env}{w:World}{K:Env->World->Prop}{Q:Zd}{t ke e:Nat}{r rk re:TyRow}{x y:Operand}{q:Nat}{m:List (α×Value)}{a:α}{v:Value}{b:Bool}(hg:c.g.Ok)
  (ho:o.op= .lookup t x y true) (hr:QR c.g.tys t=some r) (hd:r.d= .map ke e) (ap:QR c.g.tys ke=some rk) (X2:QR c.g.tys e=some re) (hk:KeyV rk.d kv)
  (hx:S.ev x=some (.map (some q))) (hy:S.ev y=some (kv a)) (hm:MapAt kv w q m) (hv:(Xv a m).getD re.z=v) (hb:(Xv a m).isSome=b) (k:Xf c S o.dst (.v (.tuple #[v,.bool b])) (λS=>K S w)):X3 c o S w K Q:=by
 subst hv;subst hb;exact bQu hg ho hr hd ap X2 hk hx hy hm k
section
variable (ix:List Nat->Option Nat) (n:Nat)
theorem Dw {p p1:Ps}(h:JZ [33] p=(true,p1)):bj ix (n+1) p=match bj ix n p1 with
  | none=>none
  | some (a,p2)=>some (VC ⟨3,0,a,0⟩ p2):=by rw[bj,h]<;>rfl
theorem Dx {p p1 p2:Ps}(h:JZ [33] p=(false,p1))(h2:JZ [40] p1=(true,p2)):bj ix (n+1) p=match fG ix n p2 with
  | none=>none
  | some (a,p3)=>match JZ [41] p3 with
   | (true,p4)=>some (a,p4)
   | (false,_)=>none:=by rw[bj,h];simp only;rw[h2]<;>rfl
theorem Dy {p p1 p2:Ps}(h:JZ [33] p=(false,p1))(h2:JZ [40] p1=(false,p2)):bj ix (n+1) p=if K4 p2.r=0 then none else
   if p2.r.take (K4 p2.r)=YN then some (VC ⟨1,0,0,0⟩ {p2 with r:=p2.r.drop (K4 p2.r)})else if p2.r.take (K4 p2.r)=bm then some (VC ⟨0,0,0,0⟩ {p2 with r:=p2.r.drop (K4 p2.r)})else
    some (VC ⟨2,((ix (p2.r.take (K4 p2.r))).getD 0:Nat),0,0⟩ {p2 with r:=p2.r.drop (K4 p2.r),u:=p2.u||(ix (p2.r.take (K4 p2.r))).isNone}):=by
 rw[bj,h];simp only;rw[h2]<;>rfl
end
theorem Dz (ix:List Nat->Option Nat):∀n,qO (bj ix n)
 | 0=>λp a p' h=>by cases h
 | n+1=>λp a p' h=>by
  have ih:=Dz ix n;cases hk:JZ [33] p with
  | mk t p1=>
   obtain⟨k1,_,k3,k4⟩:=lr _ p p1 t hk;cases t with
   | true=>
    rw[Dw ix n hk] at h;cases ho:bj ix n p1 with
    | none=>rw[ho] at h;cases h
    | some q=>
     obtain⟨d,p2⟩:=q;rw[ho] at h;cases h;have:=ih p1 d p2 ho;have:=k4 rfl;rw[k1] at*;simp only[Qy,Xk,Z8] at*;omega
   | false=>
    cases Vr:JZ [40] p1 with
    | mk t2 p2=>
     obtain⟨j1,_,j3,j4⟩:=lr _ p1 p2 t2 Vr;cases t2 with
     | true=>
      rw[Dx ix n hk Vr] at h;cases ho:fG ix n p2 with
      | none=>rw[ho] at h;cases h
      | some q=>
       obtain⟨d,p3⟩:=q;rw[ho] at h;simp only at h;have hw:qO (fG ix n):=Dv (by decide) (Dv (by decide) ih);have:=hw p2 d p3 ho;cases iy:JZ [41] p3 with
       | mk t3 p4=>
        obtain⟨i1,_,i3,i4⟩:=lr _ p3 p4 t3 iy;rw[iy] at h;cases t3 with
        | false=>cases h
        | true=>
         cases h;have:=j4 rfl;have:=i4 rfl;rw[i1];rw[j1,k1] at*;omega
     | false=>
      rw[Dy ix n hk Vr] at h;split at h
      ·cases h
      rename_i hn;have ZK:=MF p2.r;have key:(p2.r.drop (K4 p2.r)).length+1<=p2.r.length:=by rw[Y1];omega
      rw[j1,k1] at*;split at h
      ·cases h;simp only[Qy,Xk,Z8];rw[j1,k1];omega
      split at h
      ·cases h;simp only[Qy,Xk,Z8];rw[j1,k1];omega
      ·cases h;simp only[Qy,Xk,Z8];rw[j1,k1];omega
def GM (r q:Nat)(m:List (ByteArray×Value))(w:World)(A:Option Addr):Prop:=MapAt VE w q m/\q≠r/\¬Qi A q
theorem GM.stay {r q:Nat}{m:List (ByteArray×Value)}{w w':World}{A A':Option Addr}(h:GM r q m w A)(hm:Mod (RdS r A) w w')(hv:Moved w A A'):GM r q m w' A':=
 ⟨h.1.mod hm (λe=>e.elim h.2.1 h.2.2),h.2.1,λhr=>(hv.rows q hr).elim h.2.2 (λZK=>by have:=h.1.lt;omega)⟩
def GB (r q x:Nat)(m:List (ByteArray×Value))(w:World)(A:Option Addr):Prop:=GM r q m w A/\Blk w x 220 [.pointer (some ⟨r,0,none⟩)]/\x≠r/\¬Qi A x
theorem GB.stay {r q x:Nat}{m:List (ByteArray×Value)}{w w':World}{A A':Option Addr}(h:GB r q x m w A)(hm:Mod (RdS r A) w w')(hv:Moved w A A'):GB r q x m w' A':=
 ⟨h.1.stay hm hv,h.2.1.mod hm (λe=>e.elim h.2.2.1 h.2.2.2),h.2.2.1,λhr=>(hv.rows x hr).elim h.2.2.2 (λZK=>by have:=h.2.1.lt;omega)⟩
theorem dQe {L base r q x:Nat}{m:List (ByteArray×Value)}{mp:Value}{opd:Ps->Option (Nat×Ps)}(H:OpdC L base r mp 198 [.pointer (some ⟨r,0,none⟩)] (GM r q m) opd):
  OpdC L base r mp 197 [.pointer (some ⟨x,0,none⟩)] (GB r q x m) (K5 [38,38] 4 opd):=by
 refine⟨λw A c p h hG hL=>?_,λw w' A A' h hm hv=>h.stay hm hv,Dv (by decide) H.lim⟩;refine W6 (c:={cQx with cuts:=[]}) Qa Tryz.func197 rfl rfl rfl ?_;refine Qv hG.2.1 rfl ?_;refine Qv hG.2.1 rfl ?_;refine XI (dQc L base r A c mp p [38,38] 4 (GM r q m) opd w h hG.1 (by decide) (by decide) hL H) ?_ ?_
 ·rintro v w1 ⟨a,p',h1,rfl,h2⟩;exact⟨a,p',h1,rfl,h2⟩
 ·rintro ch w1 h1;exact h1
theorem MN (L base r:Nat)(A:Option Addr)(c:Nat)(p:Ps)(q:Nat)(m:List (ByteArray×Value))(mp:Value)(opd:Ps->Option (Nat×Ps))(w:World)(h:Rd w base r A c mp p)(hG:GM r q m w A)(hL:p.r.length<L)
  (H:OpdC L base r mp 198 [.pointer (some ⟨r,0,none⟩)] (GM r q m) opd):
  FnP Tryz.prog 141 [.pointer (some ⟨r,0,none⟩)] w (λv w'=>∃(a:Nat) (p':Ps),K5 [124,124] 5 (K5 [38,38] 4 opd) p=some (a,p')/\v= .int .i64 (a:Nat)/\RdTo w base r A mp p' w') (λch w'=>K5 [124,124] 5 (K5 [38,38] 4 opd) p=none/\PanTo w r A ch w'):=by
 refine W6 (c:={bQZ with cuts:=[]}) Qa Tryz.func141 rfl rfl rfl ?_;refine new (λw1 Qd Q2 Qh=>?_);refine Qv Qh rfl ?_;have Xa:=h.lt;have kI:=h.top;have dH:Mod (RdS r A) w w1:=Mod.of_ext _ Qd;have hn:¬Qi A w.heap.size:=λhr=>by have:=(h.own.rows _ hr).2;omega
 refine XI (dQd L base r A c mp p [124,124] 5 w.heap.size (GB r q w.heap.size m) (K5 [38,38] 4 opd) w1 (h.ext Qd) ⟨hG.stay dH (Moved.refl _ _),Qh,by omega,hn⟩ (by decide) (by decide) hL (dQe H)) ?_ ?_
 ·rintro v w2 ⟨a,p',h1,rfl,h2⟩;exact⟨a,p',h1,rfl,h2.step dH (Moved.refl _ _)⟩
 ·rintro ch w2 ⟨h1,h2⟩;exact⟨h1,h2.step dH (Moved.refl _ _)⟩
end
section
def MO (ix:List Nat->Option Nat)(m:List (ByteArray×Value)):Prop:=∀l:List Nat,(∀x∈l,x<256)->Xv (Qf l) m=(ix l).map (λv:Nat=>Value.int .i64 v)
theorem MQ (ix:List Nat->Option Nat)(base r q:Nat)(m:List (ByteArray×Value))(JY:MO ix m):∀n,OpdC n base r (.map (some q)) 198 [.pointer (some ⟨r,0,none⟩)] (GM r q m) (bj ix n)
 | 0=>⟨λw A c p _ _ h=>Xm h (by omega),λw w' A A' h hm hv=>h.stay hm hv,Dz ix 0⟩
 | n+1=>by
  have ih:=MQ ix base r q m JY n;refine⟨λw A c p h hG hL=>?_,λw w' A A' h hm hv=>h.stay hm hv,Dz ix (n+1)⟩;refine W6 (c:={cQy with cuts:=[]}) Qa Tryz.func198 rfl rfl rfl ?_;refine call (qM base r A c _ p [33] w h (by decide)) ?_;rintro v w1 ⟨rfl,h1,Zj⟩;have rW:Mod (RdS r A) w w1:=Zj.mono (λi hi=>.inl (.inl hi));have R8:=hG.stay rW (Moved.refl _ _);cases hk:JZ [33] p with
  | mk t p1=>
   obtain⟨k1,_,k3,k4⟩:=lr _ p p1 t hk;rw[hk] at h1;simp only at h1;cases t with
   | true=>
    refine Xc rfl ?_;have hl:=k4 rfl;simp only[Xk,Z8] at hl;have VU:=Dw ix n hk;refine XI (ih.run w1 A c p1 h1 R8 (by omega)) ?_ ?_
    rotate_left
    ·rintro ch w2 ⟨ho,hp⟩;rw[ho] at VU;exact⟨VU,hp.step rW (Moved.refl _ _)⟩
    rintro v w2 ⟨a,p2,ho,rfl,A2,c2,h2,XL,JT⟩;rw[ho] at VU;have JU:=(ih.lim p1 a p2 ho).1;have zP:=h.lim;rw[k1] at JU;refine call (nY base r A2 c2 _ p2 ⟨3,0,a,0⟩ w2 h2 (by omega)) ?_;rintro v w3 ⟨rfl,h3⟩;exact⟨p2.f.length,_,VU,rfl,(h3.step XL JT).step rW (Moved.refl _ _)⟩
   | false=>
    refine Xt rfl ?_;refine call (qM base r A c _ p1 [40] w1 h1 (by decide)) ?_;rintro v w2 ⟨rfl,h2,XL⟩;have R9:Mod (RdS r A) w1 w2:=XL.mono (λi hi=>.inl (.inl hi));have zQ:=RdS.trans rW (Moved.refl _ _) R9;have lZ:=R8.stay R9 (Moved.refl _ _);cases Vr:JZ [40] p1 with
    | mk t2 p2=>
     obtain⟨j1,_,j3,j4⟩:=lr _ p1 p2 t2 Vr;rw[Vr] at h2;simp only at h2;cases t2 with
     | true=>
      refine Xc rfl ?_;have hl:=j4 rfl;simp only[Xk,Z8] at hl;have VU:=Dx ix n hk Vr;refine XI (MN n base r A c p2 q m _ (bj ix n) w2 h2 lZ (by omega) ih) ?_ ?_
      rotate_left
      ·rintro ch w3 ⟨ho,hp⟩;rw[show fG ix n p2=none from ho] at VU;exact⟨VU,hp.step zQ (Moved.refl _ _)⟩
      rintro v w3 ⟨a,p3,ho,rfl,A3,c3,h3,Xo,WT⟩;rw[show fG ix n p2=some (a,p3) from ho] at VU;have cK:=RdS.trans zQ (Moved.refl _ _) Xo;have Sa:=WT.back zQ.size;simp only at VU;refine call (qM base r A3 c3 _ p3 [41] w3 h3 (by decide)) ?_;rintro v w4 ⟨rfl,h4,Zb⟩;have zR:Mod (RdS r A3) w3 w4:=Zb.mono (λi hi=>.inl (.inl hi));have ag:=RdS.trans cK Sa zR;cases iy:JZ [41] p3 with
      | mk t3 p4=>
       rw[iy] at h4 VU;simp only at h4;cases t3 with
       | true=>
        refine Xt rfl ?_;exact⟨a,p4,VU,rfl,A3,c3,h4,ag,Sa⟩
       | false=>
        refine Xc rfl ?_;exact nZ rfl rfl ⟨VU,rfl,ag⟩
     | false=>
      refine Xt rfl ?_;have VU:=Dy ix n hk Vr;have hlp:=h2.lim;have h8:=h2.b8;have hM:∀w',Ext w2 w'->Mod (RdS r A) w w':=λw' hE=>RdS.trans zQ (Moved.refl _ _) (Mod.of_ext _ hE)
      refine Qp h2.blk rfl ?_;refine call (MG p2.r w2 h8 (by omega)) ?_;rintro v w3 ⟨rfl,Qj⟩;have h3:=h2.ext Qj;have oX:=lZ.stay (Mod.of_ext _ Qj) (Moved.refl _ _);have cK:=hM w3 Qj;have ZK:=MF p2.r;by_cases hn:K4 p2.r=0
      ·refine Jp (by omega) ?_;rw[Qe hn] at VU;exact nZ rfl rfl ⟨VU,rfl,cK⟩
      refine XP (by omega) ?_;rw[if_neg hn] at VU;generalize hd:K4 p2.r=d at*;refine Qp h3.blk rfl ?_;refine Kf (v':=.string (Qf (p2.r.take d))) ⟨by omega,by omega,by rw[XU];omega⟩ ?_ ?_
      ·simp only[fy,Int.toNat_zero,Vn,xz]
      refine Qp h3.blk rfl ?_;refine Kf (v':=.string (Qf (p2.r.drop d))) ⟨by omega,by rw[XU];omega,by omega⟩ ?_ ?_
      ·simp only[fy,Vn,XU,qm]
      refine XK h3.blk (by simp) (λw4 Zb QZ=>?_);have zR:Mod (RdS r A) w3 w4:=Zb.mono (λi hi=>.inl (.inl hi));have ag:=RdS.trans cK (Moved.refl _ _) zR;have u7:=oX.stay zR (Moved.refl _ _);have YF:(p2.r.drop d).length+d=p2.r.length:=by rw[Y1];omega
      have h4:Rd w4 base r A c (.map (some q)) {p2 with r:=p2.r.drop d}:=⟨QZ,h3.own.mod Zb (λi hi e=>by subst e;exact h3.nrow hi),h3.lt,Ze h3.top Zb.size,B8.drop h8 d,by show p2.f.length+(p2.r.drop d).length<=_;omega⟩
      have Fx:=B8.take h8 d;generalize hwd:p2.r.take d=word at*;have e1:((Qf word=(⟨#[116,114,117,101]⟩:ByteArray))↔word=YN):=⟨λh=>JD Fx (by decide) h,λh=>by rw[h];rfl⟩
      have e2:((Qf word=(⟨#[102,97,108,115,101]⟩:ByteArray))↔word=bm):=⟨λh=>JD Fx (by decide) h,λh=>by rw[h];rfl⟩
      by_cases h6:word=YN
      ·rw[Qe h6] at VU;refine X7 (e1.2 h6) ?_;refine call (nY base r A c _ _ ⟨1,0,0,0⟩ w4 h4 (by show p2.f.length+(p2.r.drop d).length+1<=_;omega)) ?_;rintro v w5 ⟨rfl,h5⟩;exact⟨_,_,VU,rfl,h5.step ag (Moved.refl _ _)⟩
      rw[if_neg h6] at VU;refine Xy (λh=>h6 (e1.1 h)) ?_;by_cases h7:word=bm
      ·rw[Qe h7] at VU;refine X7 (e2.2 h7) ?_;refine call (nY base r A c _ _ ⟨0,0,0,0⟩ w4 h4 (by show p2.f.length+(p2.r.drop d).length+1<=_;omega)) ?_;rintro v w5 ⟨rfl,h5⟩;exact⟨_,_,VU,rfl,h5.step ag (Moved.refl _ _)⟩
      rw[if_neg h7] at VU;refine Xy (λh=>h7 (e2.1 h)) ?_;refine Qv h4.blk rfl ?_;have Wo:=JY word Fx;refine t7 (kv:=VE) (a:=Qf word) (v:=.int .i64 ((ix word).getD 0:Nat)) (b:=(ix word).isSome) Qa rfl rfl rfl rfl rfl mQk rfl rfl u7.1 (by rw[Wo];cases ix word<;>rfl) (by rw[Wo];cases ix word<;>rfl) ?_;refine Qp h4.blk rfl ?_;have fin:∀w5 u,Mod (·=r) w4 w5->Blk w5 r 222 [.map (some q),.string (Qf (p2.r.drop d)),.slice A p2.f.length c,.bool u]->u=(p2.u||(ix word).isNone)->Rd w5 base r A c (.map (some q)) {p2 with r:=p2.r.drop d,u:=p2.u||(ix word).isNone}/\Mod (RdS r A) w w5:=λw5 u XO QH hu=>by
       subst hu;exact⟨⟨QH,h4.own.mod XO (λi hi e=>by subst e;exact h4.nrow hi),h4.lt,Ze h4.top XO.size,h4.b8,h4.lim⟩,RdS.trans ag (Moved.refl _ _) (XO.mono (λi hi=>.inl (.inl hi)))⟩
      refine Y3 (λhu=>?_) (λhu=>?_)
      ·refine XK h4.blk (by simp) (λw5 XO QH=>?_);obtain⟨h5,Fy⟩:=fin w5 true XO QH (by rw[show p2.u=true from hu];rfl);refine call (nY base r A c _ _ ⟨2,((ix word).getD 0:Nat),0,0⟩ w5 h5 (by show p2.f.length+(p2.r.drop d).length+1<=_;omega)) ?_;rintro v w6 ⟨rfl,h6⟩;exact⟨_,_,VU,rfl,h6.step Fy (Moved.refl _ _)⟩
      ·refine XK h4.blk (by simp) (λw5 XO QH=>?_);obtain⟨h5,Fy⟩:=fin w5 (!(ix word).isSome) XO QH (by rw[show p2.u=false from hu];cases ix word<;>rfl);refine call (nY base r A c _ _ ⟨2,((ix word).getD 0:Nat),0,0⟩ w5 h5 (by show p2.f.length+(p2.r.drop d).length+1<=_;omega)) ?_;rintro v w6 ⟨rfl,h6⟩;exact⟨_,_,VU,rfl,h6.step Fy (Moved.refl _ _)⟩
end
section
abbrev ua:=Exit->Act->World->Prop
def fH (P:Program):List Code->ua->Act->World->Prop
 | [],G,a,w=>G .normal a w
 | y::ys,G,a,w=>y.wp P (λe a w=>match e with
  | .normal=>fH P ys G a w
  | e=>G e a w) a w
@[irreducible] def Yw (c:Cx) (l:List Code) (S:Env) (w:World) (G:ua):Prop:=∀a,Fits c.N S a->fH c.g.P l G a w
@[irreducible] def YO (c:Cx) (S:Env) (w:World) (e:Exit) (G:ua):Prop:=∀a,Fits c.N S a->G e a w
section
variable {c:Cx} {S:Env} {w:World} {G:ua}
theorem eH (h:YO c S w .normal G):Yw c [] S w G:=by unfold Yw;unfold YO at h;exact h
theorem ZC {x y:Code}{l:List Code}(h:Yw c (x::y::l) S w G):Yw c (.seq x y::l) S w G:=by
 unfold Yw at*;intro a hf;have h1:=h a hf;unfold fH at h1;unfold fH;refine wp_seq (wp_mono h1 (λe a w hq=>?_));cases e<;>first | exact hq | (unfold fH at hq;exact hq)
theorem Zq (hg:c.g.Ok){x:Code}{l:List Code}(h:KQ c x S w (λe S w=>match e with
  | .normal=>Yw c l S w G
  | e=>YO c S w e G)):Yw c (x::l) S w G:=by
 unfold Yw;intro a hf;unfold fH;refine wp_mono (gZ hg x S w _ a h hf) (λe a w ⟨S',QW,hq⟩=>?_);cases e with
 | normal=>simp only at hq;unfold Yw at hq;exact hq a QW
 | exit i=>simp only at hq;unfold YO at hq;exact hq a QW
 | goto i=>simp only at hq;unfold YO at hq;exact hq a QW
 | ret=>simp only at hq;unfold YO at hq;exact hq a QW
 | panic i=>simp only at hq;unfold YO at hq;exact hq a QW
 | outgrown=>simp only at hq;unfold YO at hq;exact hq a QW
theorem dQf {t:Nat}{x y:Code}{l:List Code}{b:Bool}(ht:S.get t=some (.bool b))(hb:b=true)(h:Yw c (x::l) S w G):Yw c (.cond (.tmp t) x y::l) S w G:=by
 subst hb;unfold Yw at*;intro a hf;have h1:=h a hf;unfold fH at*;have:=hf.get ht;exact wp_cond_true (by simp[Act.eval,this]) h1
theorem dQg {t:Nat}{x y:Code}{l:List Code}{b:Bool}(ht:S.get t=some (.bool b))(hb:b=false)(h:Yw c (y::l) S w G):Yw c (.cond (.tmp t) x y::l) S w G:=by
 subst hb;unfold Yw at*;intro a hf;have h1:=h a hf;unfold fH at*;have:=hf.get ht;exact wp_cond_false (by simp[Act.eval,this]) h1
theorem ub (hg:c.g.Ok){id:Nat}{ops:Array Oper}{l:List Code}{o:Oper}{f:Operand}{xs:Array Operand}{ts:Array TypeId}(Zm:ops.toList=ops.toList.dropLast++ [o])(ho:o.op= .defer ⟨.value f,xs,ts⟩)(Kj:o.guard=none)(gF:o.dst=none)
  (h:Yf {c with named:=1000000} ops.toList ops.toList.dropLast S w (λS w=>∃fv cap first asx,S.ev f=some (.func fv first cap)/\nM S xs.toList=some asx/\Yw {c with N:=⟨c.N.n,⟨.fn fv cap,first++asx.toArray⟩::c.N.ds⟩} l S w G) (λe S w=>YO c S w e G)):Yw c (.region id ops false::l) S w G:=by
 unfold Yw;intro a hf;unfold fH;refine wp_region_list ?_;have h1:=jf (c:={c with named:=1000000}) hg ops.toList ops.toList.dropLast S w a h hf;have key:∀(Q:ua) (m1 m2:List Oper) (a:Act) (w:World),wpList c.g.P ops (λe a w=>match e with
   | .normal=>wpList c.g.P ops Q m2 a w
   | e=>Q e a w) m1 a w->wpList c.g.P ops Q (m1++m2) a w:=by
  intro Q m1;induction m1 with
  | nil=>intro m2 a w h;exact h
  | cons o1 m1 ih=>
   intro m2 a w h;rw[Yd];unfold wpList at h ⊢;split
   ·rename_i hw;rw[Qe hw] at h;rcases h with h | ⟨h1,a0,w0,h2⟩
    ·refine .inl ?_;have h2:=Oper.wp_mono (K':=wpList c.g.P ops Q (m1++m2)) (λa w=>ih m2 a w) h;unfold Oper.wp at h2 ⊢;generalize (execOp a.eval o1).run c.g.P w=r at*;cases r with
     | ok n w'=>cases n<;>simp only[Oper.upon] at h2 ⊢ <;> exact h2
     | halt x w'=>cases x<;>simp only[Oper.upon] at h2 ⊢ <;> exact h2
    ·exact .inr ⟨h1,a0,w0,h2⟩
   ·rename_i hw;rw[if_neg hw] at h;exact ih m2 _ _ h
 rw[Zm];refine key _ ops.toList.dropLast [o] a w ?_;have e0:ops.toList.toArray=ops:=by simp
 rw[e0] at h1;refine lj (λe a w hq=>?_) h1;cases e with
 | normal=>
  obtain⟨S',QW,fv,cap,first,asx,hfv,has,hq⟩:=hq;show wpList _ _ _ [o] _ _;unfold wpList;rw[Qe (by simp[Region.wanted,Kj])];refine .inl ?_;have kE:=QW.ev hfv;have hxs:(xs.map a.eval)=asx.toArray:=by
   apply Array.ext';rw[Lj];exact xT (ρ:=a.eval) (λx v h=>QW.ev h) _ _ has
  unfold Oper.wp;have Z1:(execOp a.eval o).run c.g.P w= .ok (.defer ⟨.fn fv cap,first++asx.toArray⟩) w:=by
   simp only[execOp,ho,resolve,kE,hxs];simp[Deferred.ofValue]
  rw[Z1,Oper.upon_defer];unfold wpList;unfold Yw at hq;refine hq _ ⟨?_,?_,?_⟩
  ·rw[gF];exact QW.size
  ·rw[gF];show _::a.defers=_;rw[QW.defers]
  ·rw[gF];exact QW.has
 | exit i=>obtain⟨S',QW,hq⟩:=hq;unfold YO at hq;exact hq a QW
 | goto i=>obtain⟨S',QW,hq⟩:=hq;unfold YO at hq;exact hq a QW
 | ret=>obtain⟨S',QW,hq⟩:=hq;unfold YO at hq;exact hq a QW
 | panic i=>obtain⟨S',QW,hq⟩:=hq;unfold YO at hq;exact hq a QW
 | outgrown=>obtain⟨S',QW,hq⟩:=hq;unfold YO at hq;exact hq a QW
end
def qP (R:Value->World->Prop):Ending->World->Prop
 | .returned v,w=>R v w
 | _,_=>False
theorem ud {c:Cx}(hg:c.g.Ok){f:FuncId}{fn:Func}{x:Code}{args:List Value}{w:World}{R:Value->World->Prop}(hf:c.g.P.funcs[f]? =some fn)(hb:fn.body=some x)(hN:⟨fn.ntmps,[]⟩=c.N)
  (hl:Nat.ble args.length c.N.n=true) (h:jg [0,1,2,3,4,5,6,7,8,9,10,11,12,13,14,15] args [] (λS=>Yw c [x] S w (bodyPostD c.g.P fn (qP R)))):Fn c.g.P f args w R:=by
 unfold Fn;have _:=hg;obtain⟨S,hS,hx⟩:=tO _ args [] 0 args (λj t ht=>by
  match j,ht with
  | 0,ht | 1,ht | 2,ht | 3,ht | 4,ht | 5,ht | 6,ht | 7,ht | 8,ht | 9,ht | 10,ht | 11,ht | 12,ht | 13,ht | 14,ht | 15,ht=>simp at ht;omega
  | j+16,ht=>simp at ht) (by simp) (λk x hk=>by simp[Env.ent] at hk) h
 have hn:fn.ntmps=c.N.n:=QN Slots.n hN;have JQ:=eD (N:=c.N.n) args (fx hl) S hS;rw[<-hn,hN] at JQ;unfold Yw at hx;have h1:=hx _ JQ;refine(calls_of_wp_defers hf hb (R:=qP R) ?_).mono (λe w' he=>by cases e<;>exact he);unfold fH at h1;refine wp_mono h1 (λe a w hq=>?_);cases e<;>first | exact hq | (unfold fH at hq;exact hq)
section
variable {c:Cx} {S:Env} {w:World}
theorem ig (hg:c.g.Ok){fn:Func}{R:Value->World->Prop}{e:Exit}(hN:c.N.ds=[])(he:e= .ret∨e= .normal)(h:ci c S w R fn.results.toList []):YO c S w e (bodyPostD c.g.P fn (qP R)):=by
 unfold YO;intro a hf;obtain⟨v,h1,h2⟩:=g9 hg hf h;have hd:a.defers=[]:=by rw[hf.defers,hN]
 rcases he with rfl | rfl <;>
 ·unfold bodyPostD;simp only;rw[hd];exact⟨v,h1,h2⟩
theorem MR (hg:c.g.Ok){fn:Func}{R:Value->World->Prop}{u:FrameMode}{a:Act}{F:FuncId}{asx cap:Array Value}(hN:c.N.ds=[⟨.fn (.func F) cap,asx⟩])(hF:eA F c.g.fns=true)(hu:u≠ .run)(hf:Fits c.N S a){args:Array Value}(hA:asx++cap=args)
  (h:CallsD c.g.P F args u w (λe u' w'=>∃v,e= .returned v/\settle u'= .returning/\ci c S w' R fn.results.toList [])):Leaves c.g.P fn a.tmps (qP R) a.defers u w:=by
 subst hA;rw[hf.defers,hN];refine leaves_cons (f:=F) (args:=asx++cap) hu ?_ ?_
 ·have hc:=hg.fns F (xR hF);simp only[invoke];rw[xX hc]
 ·refine h.mono (λe u' w' he=>?_);obtain⟨v,rfl,hs,hk⟩:=he;simp only;rw[hs];obtain⟨v,h1,h2⟩:=g9 hg hf hk;exact⟨v,h1,h2⟩
theorem eI (hg:c.g.Ok){fn:Func}{R:Value->World->Prop}{e:Exit}{F:FuncId}{asx cap:Array Value}(hN:c.N.ds=[⟨.fn (.func F) cap,asx⟩])(hF:eA F c.g.fns=true)(he:e= .ret∨e= .normal){args:Array Value}(hA:asx++cap=args)
  (h:CallsD c.g.P F args .returning w (λe u' w'=>∃v,e= .returned v/\settle u'= .returning/\ci c S w' R fn.results.toList [])):YO c S w e (bodyPostD c.g.P fn (qP R)):=by
 unfold YO;intro a hf;have:=MR hg hN hF (by simp) hf hA h;rcases he with rfl | rfl<;>exact this
theorem WC (hg:c.g.Ok){fn:Func}{R:Value->World->Prop}{ch:List PanicEntry}{F:FuncId}{asx cap:Array Value}(hN:c.N.ds=[⟨.fn (.func F) cap,asx⟩])(hF:eA F c.g.fns=true){args:Array Value}(hA:asx++cap=args)
  (h:CallsD c.g.P F args (.panicking ch) w (λe u' w'=>∃v,e= .returned v/\settle u'= .returning/\ci c S w' R fn.results.toList [])):YO c S w (.panic ch) (bodyPostD c.g.P fn (qP R)):=by
 unfold YO;intro a hf;exact MR hg hN hF (by simp) hf hA h
end
theorem dQh {c:Cx}(hg:c.g.Ok){f:FuncId}{fn:Func}{x:Code}{args:List Value}{w:World}{R:Value->World->Prop}(u:FrameMode)(hf:c.g.P.funcs[f]? =some fn)(hb:fn.body=some x)(hN:⟨fn.ntmps,[]⟩=c.N)
  (hl:Nat.ble args.length c.N.n=true) (h:jg [0,1,2,3,4,5,6,7,8,9,10,11,12,13,14,15] args [] (λS=>KQ c x S w (xY c fn.results.toList R))):CallsD c.g.P f args.toArray u w (λe u' w'=>u'=u/\∃v,e= .returned v/\R v w'):=by
 obtain⟨S,hS,hx⟩:=tO _ args [] 0 args (λj t ht=>by
  match j,ht with
  | 0,ht | 1,ht | 2,ht | 3,ht | 4,ht | 5,ht | 6,ht | 7,ht | 8,ht | 9,ht | 10,ht | 11,ht | 12,ht | 13,ht | 14,ht | 15,ht=>simp at ht;omega
  | j+16,ht=>simp at ht) (by simp) (λk x hk=>by simp[Env.ent] at hk) h
 refine callsD_of_wp hf hb ?_;have hn:fn.ntmps=c.N.n:=QN Slots.n hN;have JQ:=eD (N:=c.N.n) args (fx hl) S hS;rw[<-hn,hN] at JQ;refine wp_mono (gZ hg x S w _ _ hx JQ) (λe a w' hq=>?_);obtain⟨S',QW,hq⟩:=hq;have Zx:a.defers=[]:=by rw[QW.defers,<-hN]
 cases e with
 | normal=>obtain⟨v,h1,h2⟩:=g9 hg QW hq;exact⟨Zx,v,h1,v,rfl,h2⟩
 | ret=>obtain⟨v,h1,h2⟩:=g9 hg QW hq;exact⟨Zx,v,h1,v,rfl,h2⟩
 | exit i=>exact hq.elim
 | goto l=>exact hq.elim
 | panic ch=>exact hq.elim
 | outgrown=>exact hq.elim
end
section
theorem DB {c:Cx}(hg:c.g.Ok){o:Oper}{S:Env}{w:World}{K:Env->World->Prop}{Q:Zd}{x:Operand}{tx t:Nat}{k:IntKind}{v:Value}{r:TyRow}(ho:o.op= .typeAssert x tx t true)(hr:QR c.g.tys t=some r)(hd:r.d= .int k)(hx:S.ev x=some (.iface t v))
  (kk:Xf c S o.dst (.v (.tuple #[v,.bool true])) (λS=>K S w)):X3 c o S w K Q:=by
 have Q0:=(hg.row hr).1;rw[hd] at Q0;refine Jh (w':=w) (v:=.tuple #[v,.bool true]) (λa hf=>?_) kk;have e1:=hf.ev hx;simp only[execOp,ho,e1];simp[Instr.typeAssert,ZI Q0]
theorem dQi {P:Program}{t:TypeId}{ms:Array (String×TypeId)}{w:World}(hu:P.underlying t=some (.interface ms))(n:Nat):(Op.equalIn (n+1) t .nilIface .nilIface).run P w= .ok true w:=by simp[Op.equalIn,ZI hu]
theorem MS {P:Program}{o1 o2:Oper}{Q:Exit->Act->List Frame->World->Prop}{a:Act}{cs cs':List Frame}{w:World}{d1 d2:Nat}{v:Value}(h1:o1.op= .call ⟨.builtin .recover, #[], #[]⟩)(h1d:o1.dst=some d1)(h1g:o1.guard=none)(h2:o2.op= .assign (.tmp d1))(h2d:o2.dst=some d2)(h2g:o2.guard=none)
  (XW:d1<a.tmps.size) (Ig:recoverD cs=some (v,cs')∨(recoverD cs=none/\v= .nilIface/\cs'=cs)) (h:Q .normal ((a.put (some d1) v).put (some d2) v) cs' w):wpOpsS P #[o1,o2] Q (List.range 2) a cs w:=by
 have e1:∀ρ,(execOp ρ o1).run P w= .ok .recover w:=λρ=>by
  simp only[execOp,h1,resolve,invoke,builtin];simp
 have e2:(execOp (a.put (some d1) v).eval o2).run P w= .ok (.value v) w:=by
  simp only[execOp,h2];simp[Act.eval,Act.put,XW]
 show wpOpsS P #[o1,o2] Q [0,1] a cs w;have key:wpOpsS P #[o1,o2] Q [1] (a.put (some d1) v) cs' w:=by
  unfold wpOpsS;simp only[Lt,List.getElem?_cons_succ,List.getElem?_cons_zero];rw[Qe (by simp[Region.wanted,h2g]),e2];simp only[Oper.upon,h2d];unfold wpOpsS;exact h
 unfold wpOpsS;simp only[Lt,List.getElem?_cons_zero];rw[Qe (by simp[Region.wanted,h1g]),e1];rcases Ig with hr | ⟨hr,rfl,rfl⟩
 ·simp only[hr,h1d];exact key
 ·simp only[hr,h1d];exact key
theorem lu {c:Cx}(hg:c.g.Ok){x:Code}{fn:Func}{c₀:Frame}{cs:List Frame}{R:Ending->FrameMode->World->Prop}{S:Env}{a:Act}{w:World}{u':FrameMode}(hN:c.N.ds=[])(hf:Fits c.N S a)
  (h:KQ c x S w (xY c fn.results.toList (λv w'=>R (.returned v) u' w'))):x.wpS c.g.P (bodyPostS c.g.P fn c₀ cs R) a ({c₀ with mode:=u'}::cs) w:=by
 refine wpS_of_wp (wp_mono (gZ hg x S w _ a h hf) (λe a' w' hq=>?_));obtain⟨S',QW,hq⟩:=hq;have Zx:a'.defers=[]:=by rw[QW.defers,hN]
 cases e with
 | normal=>obtain⟨v,h1,h2⟩:=g9 hg QW hq;exact⟨Zx,u',rfl,v,h1,h2⟩
 | ret=>obtain⟨v,h1,h2⟩:=g9 hg QW hq;exact⟨Zx,u',rfl,v,h1,h2⟩
 | exit i=>exact hq.elim
 | goto l=>exact hq.elim
 | panic ch=>exact hq.elim
 | outgrown=>exact hq.elim
def MT (f e:Nat)(k:Int)(w w':World):Prop:=Blk w' f 149 [.slice none 0 0]/\Blk w' e 34 [.int .i64 k]/\Mod (λi=>i=f∨i=e) w w'
theorem yu (f e:Nat)(k:Int)(w:World)(v1 v2:Value)(QK:f≠e)(hf:Blk w f 149 [v1])(he:Blk w e 34 [v2]):
  CallsD Tryz.prog 140 #[.pointer (some ⟨f,0,none⟩),.pointer (some ⟨e,0,none⟩)] (.panicking [{v:=.iface 34 (.int .i64 k),recovered:=false}]) w
   (λen u' w'=>∃v,en= .returned v/\settle u'= .returning/\MT f e k w w'):=by
 refine callsD_of_wpS Tryz.func140 rfl λc₀ cs hu=>?_
 have JQ:=eD (N:=yq.N.n) [.pointer (some ⟨f,0,none⟩),.pointer (some ⟨e,0,none⟩)] (fx rfl) [(0,.v (.pointer (some ⟨f,0,none⟩))),(1,.v (.pointer (some ⟨e,0,none⟩)))] (by
  intro k x hk
  match k,hk with
  | 0,hk=>cases hk;rfl
  | 1,hk=>cases hk;rfl
  | k+2,hk=>exact nomatch (show(none:Option Ent)=some x from hk))
 have JK:=JQ.put (d:=5) (by decide) (.v (.iface 34 (.int .i64 k)));have ZG:=JK.put (d:=2) (by decide) (.v (.iface 34 (.int .i64 k)));refine wpS_seq (wpS_region ?_);refine MS (cs':={c₀ with mode:=.panicking [{v:=.iface 34 (.int .i64 k),recovered:=true}]}::cs) (v:=.iface 34 (.int .i64 k)) rfl rfl rfl rfl rfl rfl (by simp) (.inl (by simp[recoverD,hu])) ?_;refine lu (c:=yq) Qa rfl ZG ?_;refine Xc rfl ?_;refine DB Qa rfl rfl rfl rfl ?_;refine Xt rfl ?_;refine Kq hf (by simp) (λw1 Zj Qh=>?_);refine Kq (he.mod Zj (λh=>QK h.symm)) (by simp) (λw2 XL Qw=>?_);exact⟨_,rfl,rfl,Qh.mod XL QK,Qw,(Zj.mono (λi hi=>.inl (.inl hi))).trans XL (λi hi=>.inl (.inr hi))⟩
theorem dQj (f e:Nat)(w:World):
  CallsD Tryz.prog 140 #[.pointer (some ⟨f,0,none⟩),.pointer (some ⟨e,0,none⟩)] .returning w
   (λen u' w'=>∃v,en= .returned v/\settle u'= .returning/\w=w'):=by
 refine callsD_of_wpS Tryz.func140 rfl λc₀ cs hu=>?_
 have JQ:=eD (N:=yq.N.n) [.pointer (some ⟨f,0,none⟩),.pointer (some ⟨e,0,none⟩)] (fx rfl) [(0,.v (.pointer (some ⟨f,0,none⟩))),(1,.v (.pointer (some ⟨e,0,none⟩)))] (by
  intro k x hk
  match k,hk with
  | 0,hk=>cases hk;rfl
  | 1,hk=>cases hk;rfl
  | k+2,hk=>exact nomatch (show(none:Option Ent)=some x from hk))
 have JK:=JQ.put (d:=5) (by decide) (.v .nilIface);have ZG:=JK.put (d:=2) (by decide) (.v .nilIface);refine wpS_seq (wpS_region ?_);refine MS (cs':={c₀ with mode:=.returning}::cs) (v:=.nilIface) rfl rfl rfl rfl rfl rfl (by simp) (.inr ⟨by simp[recoverD,hu],rfl,by rw[<-hu]⟩) ?_;refine lu (c:=yq) Qa rfl ZG ?_;refine Jh (w':=w) (v:=.bool false) (λa hf=>?_) ?_
 ·have e1:=hf.ev (show Env.ev _ (.tmp 6)=some .nilIface from rfl);have hu:=Tryz.underlying20;have e2:(Op.equal 20 .nilIface .nilIface).run Tryz.prog w= .ok true w:=dQi hu 9999;have e3:binOp .neq 20 .nilIface .nilIface=(do pure (.bool (!(<-Op.equal 20 .nilIface .nilIface)))):=rfl;simp only[execOp,e1,eqGuard];simp[Act.eval,e3,show gx.P=Tryz.prog from rfl,e2]
 refine Xt rfl ?_;exact⟨_,rfl,rfl,rfl⟩
end
section
def fI (l:List Nat):List (List Nat)->Nat->Option Nat->Option Nat
 | [],_,QO=>QO
 | s::names,i,QO=>fI l names (i+1) (if s=l then some i else QO)
def Ja (names:List (List Nat))(l:List Nat):Option Nat:=fI l names 0 none
theorem MU (l:List Nat)(hl:∀x∈l,x<256):∀(names:List (List Nat))(i:Nat)(QO:Option Nat)(m:List (ByteArray×Value)),Ke names->Xv (Qf l) m=QO.map (λv:Nat=>Value.int .i64 v)->
  Xv (Qf l) (Yg names i m)=(fI l names i QO).map (λv:Nat=>Value.int .i64 v)
 | [],i,QO,m,_,h=>h
 | s::names,i,QO,m,hn,h=>by
  simp only[Yg,fI];refine MU l hl names (i+1) _ _ (λt ht=>hn t (by simp[ht])) ?_;rw[W7];by_cases hs:s=l
  ·subst hs;simp
  ·rw[if_neg (λe=>hs (JD hl (hn s (by simp)).1 e).symm),if_neg hs];exact h
theorem DC {names:List (List Nat)}(hn:Ke names):MO (Ja names) (Yg names 0 []):=λl hl=>MU l hl names 0 none [] hn rfl
def cq (names:List (List Nat))(s:List Nat):List Fz×Int:=if ZJ names then
  match fG (Ja names) (s.length+1) ⟨s,[],false⟩with
  | none=>([],31)
  | some (_,p)=>if Zu p.r≠ [] then([],31)else if p.u then([],3)else if 512<p.f.length then([],2)else(p.f,0)
 else([],1)
def DD (w:World)(r:List Fz×Int)(v:Value)(w':World):Prop:=∃F m cF,v= .tuple #[.slice F m cF,.int .i64 r.2]/\Ext w w'/\SlS Fz.cells 4 w' F m cF r.1
theorem dQk (p:Ps):JZ [] p=(true,{p with r:=Zu p.r}):=by rw[t6]<;>rfl
theorem MV (names:List (List Nat))(A:Option Addr)(n c:Nat)(s:List Nat)(w:World)(h:Sl w 1 A n c (X4 names))(hb:Ke names)(hs:∀x∈s,x<256)(hl:s.length<=1000000000000):
  Fn Tryz.prog 89 [.slice A n c,.string (Qf s)] w (DD w (cq names s)):=by
 refine ud (c:={c89 with cuts:=[]}) Qa Tryz.func89 rfl rfl rfl ?_;refine ZC (Zq Qa ?_);refine new (λw1 Qd Q2 Qh=>?_);refine new (λw2 Qg X9 Qw=>?_);have Q4:=Qd.trans Qg;refine ZC (Zq Qa ?_);refine call (Du names A n c w2 (h.ext Q4) hb) ?_;rintro v w3 ⟨v1,rfl,Qj,wz⟩;have QQ:=Q4.trans Qj;have hBf:=(Qh.ext Qg).ext Qj;have d6:=Qw.ext Qj;refine ZC (Zq Qa ?_);cases Zl:ZJ names with
 | false=>
  refine Xc rfl ?_;refine Kq hBf (by simp[JB]) (λw4 Zb QZ=>?_);have QK:w1.heap.size≠w.heap.size:=by omega
  refine Kq (d6.mod Zb QK) (by simp[JB]) (λw5 XO QH=>?_);refine ig Qa rfl (.inl rfl) ?_;refine Qv (QZ.mod XO QK.symm) rfl ?_;refine Qv QH rfl ?_;have Qt:=XO.ext (Zb.ext QQ (λi hi=>by omega)) (λi hi=>by omega);refine⟨none,0,0,?_,Qt,?_⟩
  ·unfold cq;rw[Zl]<;>rfl
  ·unfold cq;rw[Zl];exact SlS.nil _
 | true=>
  refine Xt rfl ?_;obtain⟨q,rfl,hq,cW⟩:=wz Zl;refine ZC (ub Qa rfl rfl rfl rfl ⟨_,_,_,_,rfl,rfl,?_⟩);refine ZC (Zq Qa ?_);refine new (λw4 Qq Kz QZ=>?_);have XF:=QQ.trans Qq;have JV:=Qj.size;have hR:Rd w4 w4.heap.size w3.heap.size none 0 (.map (some q)) ⟨s,[],false⟩:=⟨QZ,Own.nil _ _ _ _,by omega,QE _,hs,by simpa using hl⟩
  have hG:GM w3.heap.size q (Yg names 0 []) w4 none:=⟨cW.ext Qq,by have:=cW.lt;omega,λ⟨_,e,_⟩=>by cases e⟩
  have QK:w.heap.size≠w1.heap.size:=by omega
  have sY:∀i,i<w3.heap.size->¬RdS w3.heap.size none i:=λi hi e=>by
   rcases e with rfl | ⟨_,e,_⟩
   ·omega
   ·cases e
  have keep:∀w',Mod (RdS w3.heap.size none) w4 w'->Ext w w'/\Blk w' w.heap.size 149 [.slice none 0 0]/\Blk w' w1.heap.size 34 [.int .i64 0]:=λw' hm=>by
   refine⟨hm.ext XF (λi hi=>?_),(hBf.ext Qq).mod hm (sY _ (by omega)),(d6.ext Qq).mod hm (sY _ (by omega))⟩;rcases hi with rfl | ⟨_,e,_⟩
   ·omega
   ·cases e
  have Xd:∀k w' KL,Ext w w'->MT w.heap.size w1.heap.size k w' KL->cq names s=([],k)->DD w (cq names s) (.tuple #[.slice none 0 0,.int .i64 k]) KL:=λk w' KL hE hR hp=>by
   rw[hp];refine⟨none,0,0,rfl,hR.2.2.ext hE (λi hi=>by rcases hi with rfl | rfl<;>omega),SlS.nil _⟩
  have hpp:cq names s=match fG (Ja names) (s.length+1) ⟨s,[],false⟩with
   | none=>([],31)
   | some (_,p)=>if Zu p.r≠ [] then([],31)else if p.u then([],3)else if 512<p.f.length then([],2)else(p.f,0):=by unfold cq;rw[Qe Zl]
  refine ZC (Zq Qa ?_);refine XI (MN (s.length+1) _ _ none 0 _ q _ _ _ w4 hR hG (dh _) (MQ (Ja names) _ _ q _ (DC hb) (s.length+1))) ?_ ?_
  rotate_left
  ·rintro ch w5 ⟨ho,rfl,XO⟩;obtain⟨Qt,JK,he5⟩:=keep w5 XO;refine WC Qa rfl rfl (args:= #[.pointer (some ⟨w.heap.size,0,none⟩),.pointer (some ⟨w1.heap.size,0,none⟩)]) (by simp) ((yu _ _ 31 w5 _ _ QK JK he5).mono ?_);rintro e u' w6 ⟨v,rfl,ve,f9⟩;refine⟨v,rfl,ve,?_⟩;refine Qv f9.1 rfl ?_;refine Qv f9.2.1 rfl ?_;exact Xd 31 w5 w6 Qt f9 (by rw[hpp];unfold fG;rw[ho])
  rintro v w5 ⟨a,p,ho,rfl,A5,c5,h5,XO,VN⟩;refine ZC (Zq Qa ?_);refine call (qM _ _ A5 c5 _ p [] w5 h5 (by simp)) ?_;rintro v w6 ⟨rfl,h6,V7⟩;rw[dQk] at h6;simp only at h6;have iQC:Mod (RdS w3.heap.size none) w4 w6:=XO.trans V7 (λi hi=>.inl (.inl hi));obtain⟨Q6,aO,zS⟩:=keep w6 iQC;have gH:cq names s=if Zu p.r≠ [] then([],31)else if p.u then([],3)else if 512<p.f.length then([],2)else(p.f,0):=by rw[hpp];unfold fG;rw[ho]
  have e0:((Qf (Zu p.r)=(⟨#[]⟩:ByteArray))↔Zu p.r=[]):=⟨λh=>JD h6.b8 (by simp) h,λh=>by rw[h];rfl⟩
  refine ZC (Zq Qa ?_);refine Qp h6.blk rfl ?_;by_cases ht:¬Zu p.r=[]
  ·refine Xc (by rw[Zf (λh=>ht (e0.1 h))];rfl) ?_;refine nZ rfl rfl ?_;refine WC Qa rfl rfl (args:= #[.pointer (some ⟨w.heap.size,0,none⟩),.pointer (some ⟨w1.heap.size,0,none⟩)]) (by simp) ((yu _ _ 31 w6 _ _ QK aO zS).mono ?_);rintro e u' w7 ⟨v,rfl,jY,Kg⟩;refine⟨v,rfl,jY,?_⟩;refine Qv Kg.1 rfl ?_;refine Qv Kg.2.1 rfl ?_;exact Xd 31 w6 w7 Q6 Kg (by rw[gH,Qe ht])
  replace ht:=Decidable.not_not.1 ht;refine Xt (by rw[XX (e0.2 ht)];rfl) ?_;rw[if_neg (λh=>h ht)] at gH;refine Qp h6.blk rfl ?_;refine Y3 (λhu=>?_) (λhu=>?_)
  ·refine nZ rfl rfl ?_;refine WC Qa rfl rfl (args:= #[.pointer (some ⟨w.heap.size,0,none⟩),.pointer (some ⟨w1.heap.size,0,none⟩)]) (by simp) ((yu _ _ 3 w6 _ _ QK aO zS).mono ?_);rintro e u' w7 ⟨v,rfl,jY,Kg⟩;refine⟨v,rfl,jY,?_⟩;refine Qv Kg.1 rfl ?_;refine Qv Kg.2.1 rfl ?_;exact Xd 3 w6 w7 Q6 Kg (by rw[gH,Qe hu])
  rw[if_neg (by rw[show p.u=false from hu];decide)] at gH;refine Qp h6.blk rfl ?_;refine QB (λhl=>?_) (λhl=>?_)
  ·refine nZ rfl rfl ?_;refine WC Qa rfl rfl (args:= #[.pointer (some ⟨w.heap.size,0,none⟩),.pointer (some ⟨w1.heap.size,0,none⟩)]) (by simp) ((yu _ _ 2 w6 _ _ QK aO zS).mono ?_);rintro e u' w7 ⟨v,rfl,jY,Kg⟩;refine⟨v,rfl,jY,?_⟩;refine Qv Kg.1 rfl ?_;refine Qv Kg.2.1 rfl ?_;exact Xd 2 w6 w7 Q6 Kg (by rw[gH,Qe (show 512<p.f.length by simp only at hl;omega)])
  have bR:¬512<p.f.length:=λh=>hl (by simp only;omega)
  rw[if_neg bR] at gH;refine ZC (Zq Qa ?_);refine Qp h6.blk rfl ?_;refine Kq aO (by simp) (λw7 Jv QY=>?_);refine Kq (zS.mod Jv QK.symm) (by simp) (λw8 Ju Xp=>?_);refine Zq Qa ?_;refine eI Qa rfl rfl (.inl rfl) (args:= #[.pointer (some ⟨w.heap.size,0,none⟩),.pointer (some ⟨w1.heap.size,0,none⟩)]) (by simp) ((dQj _ _ w8).mono ?_);rintro e u' _ ⟨v,rfl,FB,rfl⟩;refine⟨v,rfl,FB,?_⟩;refine Qv (QY.mod Ju QK) rfl ?_;refine Qv Xp rfl ?_;rw[gH];have hM:Mod (λi=>i=w.heap.size∨i=w1.heap.size) w6 w8:=(Jv.mono (λi hi=>.inl (.inl hi))).trans Ju (λi hi=>.inl (.inr hi));refine⟨A5,p.f.length,c5,rfl,hM.ext Q6 (λi hi=>by rcases hi with rfl | rfl<;>omega),?_,rfl⟩;have mW:∀i,Qi A5 i->w4.heap.size<=i:=λi hi=>(h6.own.rows i hi).1
  exact(h6.own.mod hM (λi hi e=>by have:=mW i hi;rcases e with rfl | rfl<;>omega)).sl
end
end
end Go.Proofs.YtjabbbcdgmlojaaGreatDoor
