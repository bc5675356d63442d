/-
  What PPatchWeavesLikeReference rests on, part 1 (wip/shake.py).
  Conditions: none.
-/
import Derived.Test.YtjabbbcdgmlojaaGreatDoorProg
import Derived.WalkKit
import Derived.Deep.QuietTactic
import Derived.Laws.CopyOwn
import Derived.StillTail
import Derived.OrdersHeld
import Derived.Laws.StructEq
import Derived.Lib.AppendStr
import Derived.Shelf.Strings.Builder1
import Derived.Shelf.Strings.Builder2
import Derived.Shelf.Strings.OnBuilder
import Derived.Shelf.Small.Utf8
import Derived.Shelf.Small.Strs
import Derived.Shelf.Strings.BuilderF
import Derived.Shelf.Strings.Search1
import Derived.Shelf.Strings.Search2
import Derived.Shelf.Strings.Search3
import Derived.Shelf.Strings.Cut
import Derived.Shelf.Strings.Count
import Derived.Shelf.LaysM
import Derived.Shelf.Strings.Shaped
import Derived.Shelf.Strings.LastIndex
import Derived.Shelf.GgClosure.StringsIndexFunc
import Derived.Shelf.Strings.Prefix
import Derived.Shelf.Strings.Runes
import Derived.Shelf.Strings.AsciiSet
import Derived.Shelf.Unicode.DecodeSlow
import Derived.Lib.Builder
import Derived.Lib.UnsafeStr
import Derived.Maps.RangeRun
import Derived.Recover
import Derived.ChangeKeysEq
import Derived.Deep.Grids
import Derived.Below
import Derived.ProofKit
import Derived.OpenShut
import Derived.ShutString
import Derived.ChangeOld
import Derived.Deep.Slices
import Derived.ChangeSame
import Derived.WideShapes
import Derived.Lay
import Derived.SevenTiedAt
import Derived.Deep.DeepHandedRow
set_option linter.all false
set_option linter.deprecated false
set_option maxHeartbeats 12800000
namespace Go.Proofs.YtjabbbcdgmlojaaGreatDoor
open Go Go.RowKit
section
abbrev Qf:=@if_pos
abbrev Qy:=@List.length_append
abbrev QD:=@Nat.le_refl
abbrev QF:=@List.mem_singleton
abbrev QO:=@congrArg
abbrev Q0:=@List.mem_cons
abbrev Q2:=@List.mem_of_getElem?
abbrev Xb:=@List.getElem?_eq_getElem
abbrev Xd:=@absurd
abbrev Xs:=@List.length_cons
abbrev Xt:=@Nat.zero_le
abbrev XH:=@List.mem_append
abbrev XS:=@decide_eq_false
abbrev XT:=@decide_eq_true
abbrev X2:=@Nat.le_trans
abbrev Zw:=@List.getElem?_eq_some_iff
abbrev Zz:=@List.take_of_length_le
abbrev ZM:=@List.mem_map
abbrev ZW:=@List.length_map
abbrev ZX:=@run_underlying
abbrev Z5:=@Int.min_def
abbrev Jk:=@List.not_mem_nil
abbrev Jm:=@or_false
abbrev Jv:=@Bool.and_eq_true
abbrev JI:=@List.length_nil
abbrev KC:=@List.take_add_one
abbrev KZ:=@List.length_take
abbrev K9:=@List.append_assoc
abbrev Va:=@List.mem_filter
abbrev Vb:=@decide_eq_true_eq
abbrev Vi:=@List.getElem?_map
abbrev VR:=@Nat.eq_of_beq_eq_true
abbrev VT:=@List.all_eq_true
abbrev Yr:=@List.append_nil
abbrev Ys:=@List.eq_nil_of_length_eq_zero
abbrev YK:=@List.cons_append
abbrev YL:=@Nat.lt_of_lt_of_le
abbrev YM:=@Bool.eq_false_iff
abbrev Y4:=@Nat.mul_le_mul_right
abbrev Y5:=@List.length_drop
abbrev Y6:=@Nat.pow_le_pow_right
abbrev WA:=@List.map_cons
abbrev WV:=@Nat.mul_one
abbrev WW:=@List.takeWhile_cons
abbrev aq:=@Nat.zero_add
abbrev au:=@List.flatMap_cons
abbrev av:=@List.mem_of_mem_drop
abbrev aU:=@List.getElem?_append_right
abbrev aV:=@Bool.true_and
abbrev bF:=@List.mem_of_mem_take
abbrev bG:=@List.drop_eq_getElem_cons
abbrev bH:=@List.flatMap_append
abbrev cj:=@List.length_set
abbrev cm:=@List.mem_iff_getElem?
abbrev dw:=@List.nil_append
abbrev dx:=@List.map_append
abbrev ew:=@List.getElem?_append_left
abbrev ez:=@Nat.lt_succ_self
abbrev eA:=@List.mem_flatMap
abbrev eB:=@of_decide_eq_true
abbrev fS:=@Nat.succ_mul
abbrev fT:=@Int.toNat_natCast
abbrev fU:=@List.getElem?_set_ne
abbrev gK:=@Nat.le_of_ble_eq_true
abbrev gL:=@List.drop_take
abbrev iW:=@Array.getElem?_eq_some_iff
abbrev iX:=@Nat.mod_eq_of_lt
abbrev iY:=@Option.getD_some
abbrev iZ:=@List.getElem?_set_self
abbrev i5:=@List.exists_mem_of_ne_nil
abbrev jZ:=@Bool.eq_iff_iff
abbrev j0:=@Nat.blt_eq
abbrev j5:=@Nat.mod_lt
abbrev j6:=@List.length_filter_le
abbrev mi:=@Nat.min_eq_left
abbrev mj:=@List.take_append_drop
abbrev mo:=@List.getElem?_eq_none
abbrev mt:=@List.getElem?_take_of_lt
abbrev mv:=@Int.le_refl
abbrev my:=@Nat.pow_succ
abbrev mz:=@List.mem_range
abbrev mA:=@List.length_singleton
abbrev mB:=@decide_eq_decide
abbrev pi:=@Nat.add_assoc
abbrev pj:=@List.drop_of_length_le
abbrev pk:=@List.dropWhile_cons
abbrev pm:=@List.getLast?_eq_getElem?
abbrev po:=@List.filter_cons
abbrev pq:=@List.getLast?_cons_cons
abbrev pr:=@List.filter_append
abbrev sj:=@List.drop_drop
abbrev sk:=@List.take_length
abbrev sm:=@List.take_take
abbrev vh:=@List.foldl_cons
abbrev vi:=@List.take_succ_cons
abbrev vj:=@Nat.add_mul
abbrev vk:=@List.drop_zero
abbrev vl:=@List.all_cons
abbrev vm:=@List.mem_iff_getElem
abbrev vo:=@List.find?_eq_none
abbrev vp:=@Nat.mul_comm
abbrev vq:=@List.eq_nil_or_concat
abbrev vt:=@List.filter_eq_nil_iff
abbrev vu:=@List.mem_cons_of_mem
abbrev vv:=@List.any_eq_true
abbrev vw:=@List.drop_eq_nil_of_le
abbrev vx:=@List.mem_or_eq_of_mem_set
abbrev vy:=@List.filter_nil
abbrev zL:=@Nat.add_comm
abbrev zM:=@List.map_map
abbrev zN:=@Nat.sub_self
abbrev zO:=@List.nodup_append
abbrev zP:=@Option.map_some
abbrev zQ:=@List.count_cons
abbrev zR:=@Option.toList_some
abbrev zS:=@Nat.le_succ
abbrev zT:=@List.length_tail
abbrev zU:=@List.nodup_cons
abbrev zV:=@List.length_pos_iff
abbrev zW:=@List.drop_left
abbrev zX:=@List.getElem?_drop
abbrev zY:=@List.append_cancel_right
abbrev zZ:=@List.flatMap_nil
abbrev EI:=@List.getElem?_take
abbrev EJ:=@List.take_append
abbrev EL:=@Array.getElem?_setIfInBounds
abbrev EM:=@Option.map_eq_some_iff
abbrev EN:=@List.ext_getElem?
abbrev EO:=@List.takeWhile_sublist
abbrev EQ:=@Int.toNat_of_nonneg
abbrev ER:=@List.eq_of_mem_replicate
abbrev ES:=@List.find?_cons_of_neg
abbrev ET:=@List.head?_cons
abbrev EU:=@Bool.or_assoc
abbrev EV:=@List.getElem_mem
abbrev EW:=@List.count_append
abbrev EX:=@Nat.testBit_lt_two_pow
abbrev EY:=@List.mem_append_left
abbrev EZ:=@Int.eq_ofNat_of_zero_le
abbrev E0:=@Bool.and_true
abbrev E1:=@List.getElem?_eq_none_iff
abbrev NJ:=@Array.toList_map
abbrev NK:=@List.replicate_succ
abbrev NL:=@List.flatten_cons
abbrev NM:=@List.getElem?_set
abbrev NN:=@Bool.false_eq_true
abbrev NO:=@List.getElem?_toArray
abbrev NP:=@List.take_append_of_le_length
abbrev NQ:=@List.count_le_length
abbrev NR:=@Bool.not_eq_true
abbrev NS:=@List.drop_succ_cons
abbrev NT:=@Option.isSome_iff_exists
abbrev NU:=@List.length_reverse
abbrev NV:=@List.set_append_right
abbrev NW:=@List.cons_ne_nil
abbrev NY:=@List.foldl_append
abbrev NZ:=@List.mem_cons_self
abbrev N0:=@List.filter_congr
abbrev bQM:=@Array.setIfInBounds_comm
abbrev bQN:=@List.isPrefixOf_iff_prefix
abbrev bQO:=@List.find?_cons_of_pos
abbrev bQP:=@List.mem_of_find?_eq_some
abbrev bQQ:=@Nat.testBit_eq_decide_div_mod_eq
end
section
inductive Ent where
 | v (x:Value)
 | t
 | f
def Ent.val:Ent->Value
 | .v x=>x
 | .t=>.bool true
 | .f=>.bool false
abbrev Env:=List (Nat×Ent)
def Env.ent:Env->Nat->Option Ent
 | [],_=>none
 | (t,x)::S,k=>match Nat.beq t k with
  | true=>some x
  | false=>Env.ent S k
def Env.get (S:Env)(k:Nat):Option Value:=
 match S.ent k with
 | some (.v x)=>some x
 | some .t=>some (.bool true)
 | some .f=>some (.bool false)
 | none=>none
def Env.ev (S:Env):Operand->Option Value
 | .tmp t=>S.get t
 | .const v=>some v
 | .global g=>some (.pointer (some ⟨g,0,none⟩))
 | .func f=>some (.func (.func f) #[] #[])
theorem oQx (S:Env)(k:Nat):S.get k=(S.ent k).map Ent.val:=by
 unfold Env.get;cases S.ent k with
 | none=>rfl
 | some e=>cases e<;>rfl
structure Slots where
 n:Nat
 ds:List Deferred:=[]
instance (k:Nat):OfNat Slots k:=⟨⟨k,[]⟩⟩
structure Fits (N:Slots) (S:Env) (a:Act):Prop where
 size:a.tmps.size=N.n
 defers:a.defers=N.ds
 has:∀k x,S.ent k=some x->a.tmps[k]? =some x.val
theorem Fits.get {N:Slots}{S:Env}{a:Act}(h:Fits N S a){k:Nat}{v:Value}(hk:S.get k=some v):a.tmps[k]? =some v:=by
 rw[oQx] at hk;cases he:S.ent k with
 | none=>simp[he] at hk
 | some e=>simp[he] at hk;subst hk;exact h.has k e he
theorem Fits.ev {N:Slots}{S:Env}{a:Act}(h:Fits N S a){x:Operand}{v:Value}(hx:S.ev x=some v):a.eval x=v:=by
 cases x with
 | tmp t=>have:=h.get hx;simp[Act.eval,this]
 | const u=>simp[Env.ev] at hx;simp[Act.eval,hx]
 | global g=>simp[Env.ev] at hx;simp[Act.eval,hx]
 | func f=>simp[Env.ev] at hx;simp[Act.eval,hx]
theorem Fits.put {N:Slots}{S:Env}{a:Act}(h:Fits N S a){d:Nat}(hd:d<N.n)(e:Ent):Fits N ((d,e)::S) (a.put (some d) e.val):=by
 refine⟨by simp[Act.put,h.size],by simp[Act.put,h.defers],λk x hk=>?_⟩;simp only[Env.ent] at hk;cases hb:Nat.beq d k with
 | true=>
  have:d=k:=VR hb;subst this;simp only[hb] at hk;cases hk;have:d<a.tmps.size:=by rw[h.size];exact hd
  simp[Act.put,this]
 | false=>
  have QK:d≠k:=λe=>by subst e;simp at hb
  simp only[hb] at hk;simp[Act.put,QK,h.has k x hk]
structure TyRow where
 t:Nat
 d:TypeDesc
 sz:Nat
 by_:Nat
 z:Value
def N4 (P:Program)(r:TyRow):Prop:=P.underlying r.t=some r.d/\(P.info? r.t).map (λi=>(i.size,i.bytes,i.zero))=some (r.sz,r.by_,some r.z)
def Ac (P:Program)(f:FuncId):Prop:=∃fn,P.funcs[f]? =some fn/\fn.body.isNone=false/\(fn.name== "runtime.NumGoroutine")=false
structure MRow where
 t:Nat
 name:String
 f:Nat
 ptr:Bool
def E2:TypeDesc->Bool
 | .pointer _=>true
 | _=>false
def N5 (P:Program)(r:MRow):Prop:=
 (P.info? r.t).bind (λi=>(i.methods.find? (·.name==r.name)).map (λm=>(m.path.isEmpty,m.func)))=some (true,some (r.f,r.ptr))/\(P.underlying r.t).map E2=some r.ptr
structure ERow where
 t:Nat
 ks:List Nat
def eC:Option TypeDesc->Nat
 | some (.int _)=>0
 | some .string=>1
 | some .bool=>2
 | _=>1000
def pu (P:Program):Nat->List Field->List Nat->Bool
 | _,[],[]=>true
 | n,f::l,k::ks=>f.name != "_" && Nat.beq f.offset n&&Nat.beq (eC (P.underlying f.type)) k&&Nat.blt k 3&&pu P (n+1) l ks
 | _,_,_=>false
def N6 (P:Program)(r:ERow):Prop:=
 P.stoodInHeld r.t=false/\P.eqGuardType P.depth r.t=false/\(match P.underlying r.t with
  | some (.struct fs)=>pu P 0 fs.toList r.ks
  | _=>false)=true
structure Gx where
 P:Program
 tys:List TyRow
 fns:List Nat
 ms:List MRow:=[]
 eqs:List ERow:=[]
def Ad (P:Program):List MRow->Prop
 | []=>True
 | r::l=>N5 P r/\Ad P l
def Ae (P:Program):List ERow->Prop
 | []=>True
 | r::l=>N6 P r/\Ae P l
def vz:List MRow->Nat->Option MRow
 | [],_=>none
 | r::l,t=>match Nat.beq r.t t with
  | true=>some r
  | false=>vz l t
def pv:List ERow->Nat->Option ERow
 | [],_=>none
 | r::l,t=>match Nat.beq r.t t with
  | true=>some r
  | false=>pv l t
theorem bQR {P:Program}{l:List MRow}{t:Nat}{r:MRow}(h:vz l t=some r)(ha:Ad P l):N5 P r/\r.t=t:=by
 induction l with
 | nil=>cases h
 | cons x l ih=>
  simp only[vz] at h;cases hb:Nat.beq x.t t with
  | true=>simp only[hb] at h;cases h;exact⟨ha.1,VR hb⟩
  | false=>simp only[hb] at h;exact ih h ha.2
theorem N7 {P:Program}{l:List ERow}{t:Nat}{r:ERow}(h:pv l t=some r)(ha:Ae P l):N6 P r/\r.t=t:=by
 induction l with
 | nil=>cases h
 | cons x l ih=>
  simp only[pv] at h;cases hb:Nat.beq x.t t with
  | true=>simp only[hb] at h;cases h;exact⟨ha.1,VR hb⟩
  | false=>simp only[hb] at h;exact ih h ha.2
def Af (P:Program):List TyRow->Prop
 | []=>True
 | r::l=>N4 P r/\Af P l
def Ag (P:Program):List Nat->Prop
 | []=>True
 | f::l=>Ac P f/\Ag P l
structure Gx.Ok (g:Gx):Prop where
 tys:Af g.P g.tys
 fns':Ag g.P g.fns
 mixed:g.P.follows .mixedOrders=true
 ms:Ad g.P g.ms
 eqs:Ae g.P g.eqs
def QX:List TyRow->Nat->Option TyRow
 | [],_=>none
 | r::l,t=>match Nat.beq r.t t with
  | true=>some r
  | false=>QX l t
theorem bQS {l:List TyRow}{t:Nat}{r:TyRow}(h:QX l t=some r):r∈l/\r.t=t:=by
 induction l with
 | nil=>cases h
 | cons x l ih=>
  simp only[QX] at h;cases hb:Nat.beq x.t t with
  | true=>simp only[hb] at h;cases h;exact⟨by simp,VR hb⟩
  | false=>simp only[hb] at h;have:=ih h;exact⟨by simp[this.1],this.2⟩
theorem Gx.Ok.row {g:Gx}(h:g.Ok){t:Nat}{r:TyRow}(hr:QX g.tys t=some r):g.P.underlying t=some r.d/\∃i,g.P.info? t=some i/\i.size=r.sz/\i.bytes=r.by_/\i.zero=some r.z:=by
 obtain⟨hm,rfl⟩:=bQS hr;have key:∀l,Af g.P l->r∈l->N4 g.P r:=by
  intro l;induction l with
  | nil=>intro _ h;cases h
  | cons x l ih=>intro h hm;cases hm with
   | head=>exact h.1
   | tail _ hm=>exact ih h.2 hm
 obtain⟨h1,h2⟩:=key _ h.tys hm;refine⟨h1,?_⟩;cases hi:g.P.info? r.t with
 | none=>simp[hi] at h2
 | some i=>simp[hi] at h2;exact⟨i,rfl,h2.1,h2.2.1,h2.2.2⟩
theorem Gx.Ok.fns {g:Gx}(h:g.Ok):∀f∈g.fns,Ac g.P f:=by
 intro f;have key:∀l,Ag g.P l->f∈l->Ac g.P f:=by
  intro l;induction l with
  | nil=>intro _ h;cases h
  | cons x l ih=>intro h hm;cases hm with
   | head=>exact h.1
   | tail _ hm=>exact ih h.2 hm
 exact key _ h.fns'
def fV (n:Nat):List Nat->Bool
 | []=>false
 | x::l=>match Nat.beq x n with
  | true=>true
  | false=>fV n l
theorem Ai {n:Nat}{l:List Nat}(h:fV n l=true):n∈l:=by
 induction l with
 | nil=>cases h
 | cons x l ih=>
  simp only[fV] at h;cases hb:Nat.beq x n with
  | true=>have:=VR hb;simp[this]
  | false=>simp only[hb] at h;simp[ih h]
structure Cx where
 g:Gx
 N:Slots
 named:Nat
 keep:List Nat
 cuts:List Nat:=[]
abbrev Zj:=Exit->Env->World->Prop
def Up (c:Cx)(Q:Zj):Exit->Act->World->Prop:=λe a w=>∃S,Fits c.N S a/\Q e S w
@[irreducible] def KL (b:Bool) (p q:Prop):Prop:=(b=true->p)/\(b=false->q)
@[irreducible] def aW (n:Int) (K:Int->Prop):Prop:=K n
@[irreducible] def fW (p:Prop) (n:Int) (K:Int->Prop):Prop:=p/\K n
@[irreducible] def i6 (p:Prop) (v:Value) (K:Value->Prop):Prop:=p/\K v
@[irreducible] def gM (w:World) (p:Addr) (K:Value->Prop):Prop:=∃v,w.cell? p=some v/\K v
@[irreducible] def j7 (w:World) (p:Addr) (n:Nat) (K:List Value->Prop):Prop:=∃vs:List Value,vs.length=n/\(∀j v,vs[j]? =some v->w.cell? (p.add j)=some v)/\K vs
@[irreducible] def eD (w:World) (p:Addr) (v:Value) (K:World->Prop):Prop:=(∃u,w.cell? p=some u)/\w.frozen? p=false/\K (w.setCell p v)
@[irreducible] def pw (w:World) (t:TypeId) (cs:List Value) (K:Addr->World->Prop):Prop:=K ⟨w.heap.size,0,none⟩ (w.alloc (.cells cs.toArray t))
@[irreducible] def fX (P:Program) (w:World) (p:Addr) (vs:List Value) (K:World->Prop):Prop:=∃w',(storeCells p vs).run P w= .ok () w'/\K w'
@[irreducible] def N8 (a b:String) (K:Prop):Prop:=a=b/\K
@[irreducible] def Y7 (b:Option Addr) (n:Nat) (i:Int) (sz:Nat) (K:Addr->Prop):Prop:=∃a,b=some a/\0<=i/\i<n/\K (a.add (i.toNat*sz))
@[irreducible] def eE (s:ByteArray) (i:Int) (K:Int->Prop):Prop:=∃b,0<=i/\s[i.toNat]? =some b/\K (b.toNat:Int)
@[irreducible] def Fn (P:Program) (f:FuncId) (l:List Value) (w:World) (R:Value->World->Prop):Prop:=Calls P f l.toArray w fun
 | .returned v,w'=>R v w'
 | _,_=>False
@[irreducible] def gN (P:Program) (f:FuncId) (l:List Value) (w:World) (K:Value->World->Prop) (Xk:List PanicEntry->World->Prop):Prop:=Calls P f l.toArray w fun
 | .returned v,w'=>K v w'
 | .panicked ch,w'=>Xk ch w'
 | .outgrown,_=>False
@[irreducible] def N9 (c:Cx) (nm:String) (t:Nat) (l:List Value) (w:World) (K:Value->World->Prop) (Xk:List PanicEntry->World->Prop):Prop:=
 ∃r,vz c.g.ms t=some r/\nm=r.name/\fV r.f c.g.fns=true/\gN c.g.P r.f l w K Xk
@[irreducible] def Zc (c:Cx) (o:Oper) (S:Env) (w:World) (K:Env->World->Prop) (Q:Zj):Prop:=
 ∀a,Fits c.N S a->o.wp c.g.P a w (λa' w'=>∃S',Fits c.N S' a'/\K S' w') (Up c Q)
@[irreducible] def aw (c:Cx) (id:Nat) (ops:List Oper) (S:Env) (w:World) (Q:Zj):Prop:=
 ∀a,Fits c.N S a->(Code.region id ops.toArray true).wp c.g.P (Up c Q) a w
@[irreducible] def Aj (c:Cx) (x:Code) (S:Env) (w:World) (Q:Zj):Prop:=
 ∀a,Fits c.N S a->(Code.loop x).wp c.g.P (Up c Q) a w
@[irreducible] def j8 (c:Cx) (x:Code) (S:Env) (w:World) (Q:Zj):Prop:=
 ∀a,Fits c.N S a->x.wp c.g.P (Up c Q) a w
inductive PR where
 | val (v:Value)
 | ent (e:Ent)
 | norm (k:IntKind) (n:Int)
 | normIf (p:Prop) (k:IntKind) (n:Int)
 | need (p:Prop) (v:Value)
 | no
def sn:List Value->Nat->Option Value
 | [],_=>none
 | x::_,0=>some x
 | _::l,n+1=>sn l n
theorem Og (l:List Value)(n:Nat):sn l n=l[n]? :=by
 induction l generalizing n with
 | nil=>simp[sn]
 | cons x l ih=>cases n<;>simp[sn,ih]
def px:IntKind->Nat
 | .i8=>0 | .i16=>1 | .i32=>2 | .i64=>3 | .u8=>4 | .u16=>5 | .u32=>6 | .u64=>7
theorem Oh {a b:IntKind}(h:Nat.beq (px a) (px b)=true):a=b:=by
 have:=VR h;cases a<;>cases b<;>first | rfl | (simp[px] at this)
def E3 (op:BinOp)(k:IntKind)(x y:Int):PR:=
 match op with
 | .add=>.norm k (k.wrap (x+y))
 | .sub=>.norm k (k.wrap (x-y))
 | .mul=>.norm k (k.wrap (x*y))
 | .quo=>.normIf (y≠0) k (k.wrap (x.tdiv y))
 | .rem=>.normIf (y≠0) k (x.tmod y)
 | .and=>.norm k (k.wrap ((BitVec.ofInt k.bits x &&& BitVec.ofInt k.bits y).toNat))
 | .or=>.norm k (k.wrap ((BitVec.ofInt k.bits x ||| BitVec.ofInt k.bits y).toNat))
 | .xor=>.norm k (k.wrap ((BitVec.ofInt k.bits x^^^BitVec.ofInt k.bits y).toNat))
 | .andNot=>.norm k (k.wrap ((BitVec.ofInt k.bits x &&& ~~~ BitVec.ofInt k.bits y).toNat))
 | .eql=>.val (.bool (x==y))
 | .neq=>.val (.bool (x !=y))
 | .lss=>.val (.bool (decide (x<y)))
 | .leq=>.val (.bool (decide (x<=y)))
 | .gtr=>.val (.bool (decide (x>y)))
 | .geq=>.val (.bool (decide (x≥y)))
 | _=>.no
def E4 (op:BinOp)(k:IntKind)(x:Int)(k':IntKind)(y:Int):PR:=
 match op with
 | .shl=>.normIf (0<=y) k (k.wrap (x*2^(min y.toNat k.bits)))
 | .shr=>.normIf (0<=y) k (x.fdiv (2^(min y.toNat k.bits)))
 | op=>match Nat.beq (px k) (px k')with
  | true=>E3 op k x y
  | false=>.no
def E5 (op:BinOp)(x y:ByteArray):PR:=
 match op with
 | .add=>.need (x.size+y.size<=maxLen) (.string (x++y))
 | .eql=>.val (.bool (decide (x=y)))
 | .neq=>.val (.bool (!decide (x=y)))
 | .lss=>.val (.bool (Op.bytesLess x.data.toList y.data.toList))
 | _=>.no
def E6:TypeDesc->Value->PR
 | .string,.string s=>.val (.int .i64 s.size)
 | .slice _,.slice _ n _=>.val (.int .i64 n)
 | _,_=>.no
def i7:TypeDesc->Value->Value->Option Bool
 | .bool,.bool a,.bool b=>some (a==b)
 | .slice _,.slice none _ _,.slice b _ _=>some b.isNone
 | .slice _,.slice (some _) _ _,.slice none _ _=>some false
 | .map _ _,.map none,.map b=>some b.isNone
 | .map _ _,.map (some _),.map none=>some false
 | .pointer _,.pointer none,.pointer b=>some b.isNone
 | .pointer _,.pointer (some _),.pointer none=>some false
 | .interface _,.nilIface,.iface _ _=>some false
 | .interface _,.iface _ _,.nilIface=>some false
 | .func _ _ _,.nilFunc,.nilFunc=>some true
 | .func _ _ _,.nilFunc,.func _ _ _=>some false
 | .func _ _ _,.func _ _ _,.nilFunc=>some false
 | _,_,_=>none
def dy:List Nat->List Value->List Value->Option Bool
 | [],[],[]=>some true
 | 0::ks,.int k a::xs,.int k' b::ys=>match Nat.beq (px k) (px k'),dy ks xs ys with
  | true,some r=>some (a==b&&r)
  | _,_=>none
 | 1::ks,.string a::xs,.string b::ys=>match dy ks xs ys with
  | some r=>some (decide (a=b)&&r)
  | none=>none
 | 2::ks,.bool a::xs,.bool b::ys=>match dy ks xs ys with
  | some r=>some (a==b&&r)
  | none=>none
 | _,_,_=>none
def py (op:BinOp)(r:Option Bool):PR:=
 match op,r with
 | .eql,some b=>.val (.bool b)
 | .neq,some b=>.val (.bool (!b))
 | _,_=>.no
def mC {α:Type}:List α->Nat->Option α
 | [],_=>none
 | x::_,0=>some x
 | _::l,n+1=>mC l n
def pz:TypeDesc->Bool
 | .struct _=>true
 | .array _ _=>true
 | _=>false
def Oi:TypeDesc->Bool
 | .interface _=>true
 | _=>false
def JY:Value->List Value
 | .agg cs=>cs.toList
 | v=>[v]
def vC:List Value->List Value->List Value
 | [],cs=>cs
 | v::vs,_::cs=>v::vC vs cs
 | _::_,[]=>[]
def K2:Nat->List Value->List Value->List Value
 | 0,vs,cs=>vC vs cs
 | n+1,vs,c::cs=>c::K2 n vs cs
 | _+1,_,[]=>[]
def vD (g:Gx):List Field->Option (List (Nat×Nat))
 | []=>some []
 | f::l=>match QX g.tys f.type,vD g l with
  | some r,some m=>some ((f.offset,r.sz)::m)
  | _,_=>none
def sr (ps:Nat->Option (Nat×Nat)):List Value->List (Nat×Value)->Option (List Value)
 | cells,[]=>some cells
 | cells,(i,v)::rest=>match ps i with
  | some (off,sz)=>(match Nat.beq (JY v).length sz,Nat.ble (off+(JY v).length) cells.length with
   | true,true=>sr ps (K2 off (JY v) cells) rest
   | _,_=>none)
  | none=>none
def pA (S:Env):List Operand->Option (List Value)
 | []=>some []
 | x::l=>match S.ev x,pA S l with
  | some v,some m=>some (v::m)
  | _,_=>none
def ss (S:Env):List (Nat×Operand)->Option (List (Nat×Value))
 | []=>some []
 | (i,x)::l=>match S.ev x,ss S l with
  | some v,some m=>some ((i,v)::m)
  | _,_=>none
def j9 (S:Env)(d:Int):Option Operand->Option Int
 | none=>some d
 | some x=>match S.ev x with
  | some (.int _ n)=>some n
  | _=>none
def su (g:Gx)(S:Env):Op->PR
 | .move (.const (.bool true)) | .assign (.const (.bool true))=>.ent .t
 | .move (.const (.bool false)) | .assign (.const (.bool false))=>.ent .f
 | .move (.tmp t) | .assign (.tmp t)=>match S.ent t with
  | some e=>.ent e
  | none=>.no
 | .move x | .assign x=>match S.ev x with
  | some v=>.val v
  | none=>.no
 | .pick (.tmp t) a b=>match S.ent t with
  | some .t=>(match a with
   | .const (.bool true)=>.ent .t
   | .const (.bool false)=>.ent .f
   | .tmp u=>(match S.ent u with
    | some e=>.ent e
    | none=>.no)
   | a=>match S.ev a with
    | some v=>.val v
    | none=>.no)
  | some .f=>(match b with
   | .const (.bool true)=>.ent .t
   | .const (.bool false)=>.ent .f
   | .tmp u=>(match S.ent u with
    | some e=>.ent e
    | none=>.no)
   | b=>match S.ev b with
    | some v=>.val v
    | none=>.no)
  | _=>.no
 | .binOp op t x y _=>match S.ev x,S.ev y with
  | some (.int k a),some (.int k' b)=>E4 op k a k' b
  | some (.string a),some (.string b)=>E5 op a b
  | some (.agg a),some (.agg b)=>(match pv g.eqs t with
   | some r=>py op (dy r.ks a.toList b.toList)
   | none=>.no)
  | some a,some b=>(match QX g.tys t with
   | some r=>py op (i7 r.d a b)
   | none=>.no)
  | _,_=>.no
 | .unOp .not _ (.tmp t)=>match S.ent t with
  | some .t=>.ent .f
  | some .f=>.ent .t
  | some (.v (.bool b))=>.val (.bool (!b))
  | _=>.no
 | .unOp .neg _ x=>match S.ev x with
  | some (.int k n)=>.norm k (k.wrap (0-n))
  | _=>.no
 | .convert s t x=>match QX g.tys s,QX g.tys t,S.ev x with
  | some _,some ⟨_,.int k,_,_,_⟩,some (.int _ n)=>.norm k (k.wrap n)
  | some _,some ⟨_,.string,_,_,_⟩,some (.string s)=>.val (.string s)
  | _,_,_=>.no
 | .extract x i=>match S.ev x with
  | some (.tuple vs)=>(match sn vs.toList i with
   | some v=>.val v
   | none=>.no)
  | _=>.no
 | .call ⟨.builtin .len,xs,ts⟩=>match xs.toList,ts.toList with
  | [x],[t]=>(match QX g.tys t,S.ev x with
   | some r,some v=>E6 r.d v
   | _,_=>.no)
  | _,_=>.no
 | .call ⟨.builtin .min,xs,_⟩=>match xs.toList with
  | [x,y]=>(match S.ev x,S.ev y with
   | some (.int k a),some (.int _ b)=>.norm k (if b<a then b else a)
   | _,_=>.no)
  | [x,y,z]=>(match S.ev x,S.ev y,S.ev z with
   | some (.int k a),some (.int _ b),some (.int _ c)=>.norm k (if c<(if b<a then b else a)then c else(if b<a then b else a))
   | _,_,_=>.no)
  | _=>.no
 | .call ⟨.builtin .max,xs,_⟩=>match xs.toList with
  | [x,y]=>(match S.ev x,S.ev y with
   | some (.int k a),some (.int _ b)=>.norm k (if b>a then b else a)
   | _,_=>.no)
  | _=>.no
 | .nilCheck x=>match S.ev x with
  | some (.pointer (some p))=>.val (.pointer (some p))
  | some (.iface t v)=>.val (.iface t v)
  | some (.func (.func n) a b)=>.val (.func (.func n) a b)
  | _=>.no
 | .fieldAddr t x k=>match QX g.tys t,S.ev x with
  | some r,some (.pointer (some p))=>(match r.d with
   | .struct fs=>(match mC fs.toList k with
    | some f=>(match QX g.tys f.type with
     | some rf=>(match Nat.beq rf.sz 0 with
      | false=>.val (.pointer (some (p.add f.offset)))
      | true=>.no)
     | none=>.no)
    | none=>.no)
   | _=>.no)
  | _,_=>.no
 | .field t x k=>match QX g.tys t,S.ev x with
  | some r,some (.agg cs)=>(match r.d with
   | .struct fs=>(match mC fs.toList k with
    | some f=>(match QX g.tys f.type with
     | some rf=>(match pz rf.d with
      | true=>.val (.agg ((cs.toList.drop f.offset).take rf.sz).toArray)
      | false=>(match sn cs.toList f.offset with
       | some v=>.val v
       | none=>.no))
     | none=>.no)
    | none=>.no)
   | _=>.no)
  | _,_=>.no
 | .build t parts=>match QX g.tys t,ss S parts.toList with
  | some r,some ps=>(match r.d with
   | .struct fs=>(match vD g fs.toList with
    | some pl=>(match sr (mC pl) r.z.cells.toList ps with
     | some cs=>.val (.agg cs.toArray)
     | none=>.no)
    | none=>.no)
   | .array _ e=>(match QX g.tys e with
    | some re=>(match sr (λi=>some (i*re.sz,re.sz)) r.z.cells.toList ps with
     | some cs=>.val (.agg cs.toArray)
     | none=>.no)
    | none=>.no)
   | _=>.no)
  | _,_=>.no
 | .makeInterface t x=>match QX g.tys t,S.ev x with
  | some r,some v=>(match Oi r.d with
   | false=>.val (.iface t v)
   | true=>.no)
  | _,_=>.no
 | .makeFunc f xs ys=>match pA S xs.toList,pA S ys.toList with
  | some a,some b=>.val (.func f a.toArray b.toArray)
  | _,_=>.no
 | .slice t x lo hi none=>match QX g.tys t,S.ev x with
  | some ⟨_,.string,_,_,_⟩,some (.string s)=>(match j9 S 0 lo,j9 S s.size hi with
   | some l,some h=>.need (0<=l/\l<=h/\h<=s.size) (.string (s.extract l.toNat h.toNat))
   | _,_=>.no)
  | _,_=>.no
 | _=>.no
def PR.Means (w:World)(r:Result Next):PR->Prop
 | .val v=>r= .ok (.value v) w
 | .ent e=>r= .ok (.value e.val) w
 | .norm k n=>r= .ok (.value (.int k n)) w
 | .normIf p k n=>p->r= .ok (.value (.int k n)) w
 | .need p v=>p->r= .ok (.value v) w
 | .no=>True
section
variable {g:Gx} {S:Env} {w:World} {ρ:Operand->Value}
theorem bQT (op:BinOp)(t:TypeId)(k:IntKind)(x y:Int)(h1:op≠ .shl)(h2:op≠ .shr):
  (E3 op k x y).Means w (((binOp op t (.int k x) (.int k y)).run g.P w).andThen λv w=>.ok (.value v) w):=by
 cases op<;>first | (exact Xd rfl h1) | (exact Xd rfl h2) | skip
 all_goals simp[E3,PR.Means,binOp,Op.intArith,Op.intBits,Op.intCmp,Op.intDiv]
 all_goals (intro h;simp[h])
theorem bQU (op:BinOp)(t:TypeId)(k k':IntKind)(x y:Int):
  (E4 op k x k' y).Means w (((binOp op t (.int k x) (.int k' y)).run g.P w).andThen λv w=>.ok (.value v) w):=by
 unfold E4;split
 ·intro h;simp only[binOp,Op.shift];rw[if_neg (by omega)];simp
 ·intro h;simp only[binOp,Op.shift];rw[if_neg (by omega)];simp
 ·rename_i h1 h2;split
  ·rename_i hk;have:=Oh hk;subst this;exact bQT op t k x y h1 h2
  ·trivial
theorem vE (a b:ByteArray):(a.toList==b.toList)=decide (a=b):=by
 rw[jZ];simp[ByteArray.toList_eq];constructor
 ·intro h;cases a;cases b;simp_all
 ·intro h;rw[h]
theorem bQV (op:BinOp)(t:TypeId)(x y:ByteArray):
  (E5 op x y).Means w (((binOp op t (.string x) (.string y)).run g.P w).andThen λv w=>.ok (.value v) w):=by
 unfold E5;split<;>simp only[PR.Means]
 ·intro h;have:¬((x.size+y.size:Nat):Int)>IntKind.i64.max:=by
   have h2:IntKind.i64.max=9223372036854775807:=by decide
   rw[h2];unfold maxLen at h;omega
  simp only[binOp,Op.stringOp];rw[if_neg this];simp
 ·simp[binOp,Op.stringOp,vE]
 ·simp[binOp,Op.stringOp,vE]
 ·simp[binOp,Op.stringOp,ByteArray.toList_eq]
theorem Y8 (hg:g.Ok){t:Nat}{r:TyRow}(hr:QX g.tys t=some r)(w:World):(underlying t).run g.P w= .ok r.d w:=
 ZX (hg.row hr).1 w
theorem bQW (hg:g.Ok){t:Nat}{r:TyRow}(hr:QX g.tys t=some r)(ty:TypeId)(v:Value):
  (E6 r.d v).Means w (((Builtin.len_ #[t] ty #[v]).run g.P w).andThen λv w=>.ok (.value v) w):=by
 have hu:=Y8 hg hr w;unfold E6;split<;>simp only[PR.Means]
 ·rename_i h;simp[Builtin.len_,hu,h,goInt]
 ·rename_i h;simp[Builtin.len_,hu,h,goInt]
theorem bQX (hg:g.Ok){t:Nat}{r:TyRow}(hr:QX g.tys t=some r){x y:Value}{b:Bool}(h:i7 r.d x y=some b)(n:Nat):
  (Op.equalIn (n+1) t x y).run g.P w= .ok b w:=by
 have hu:=Y8 hg hr w;unfold i7 at h;split at h<;>first | (simp only[Option.some.injEq] at h;subst h;rename_i hd;simp[Op.equalIn,hu,hd];done) | cases h
theorem Oj (hg:g.Ok){t:Nat}{r:TyRow}(hr:QX g.tys t=some r){x y:Value}{b:Bool}(h:i7 r.d x y=some b):
  (Op.equal t x y).run g.P w= .ok b w:=bQX hg hr h 9999
theorem bQY (op:BinOp)(t:TypeId)(x y:Operand){d:TypeDesc}{a b:Value}{r:Bool}(h:i7 d a b=some r):eqGuard op t x y a b=pure ():=by
 unfold i7 at h;split at h<;>first | (simp only[eqGuard];split<;>rfl) | cases h
theorem bQZ (hg:g.Ok)(op:BinOp){t:Nat}{r:TyRow}(hr:QX g.tys t=some r)(x y:Value):
  (py op (i7 r.d x y)).Means w (((binOp op t x y).run g.P w).andThen λv w=>.ok (.value v) w):=by
 unfold py;split
 ·rename_i b hb;have h:=Oj (w:=w) hg hr hb;have e:binOp .eql t x y=(do pure (.bool (<-Op.equal t x y))):=by
   unfold i7 at hb;split at hb<;>first | rfl | cases hb
  simp[PR.Means,e,h]
 ·rename_i b hb;have h:=Oj (w:=w) hg hr hb;have e:binOp .neq t x y=(do pure (.bool (!(<-Op.equal t x y)))):=by
   unfold i7 at hb;split at hb<;>first | rfl | cases hb
  simp[PR.Means,e,h]
 ·trivial
theorem bQ0 {P:Program}{t:TypeId}(h:eC (P.underlying t)<3)(w:World):(isAgg t).run P w= .ok false w:=by
 cases hu:P.underlying t with
 | none=>rw[hu] at h;simp[eC] at h
 | some d=>
  simp only[isAgg,Sem.run_bind,ZX hu,Result.andThen_ok];rw[hu] at h;cases d<;>first | rfl | (simp[eC] at h)
theorem co {P:Program}{t:TypeId}(h:eC (P.underlying t)<3){cs:Array Value}{n:Nat}{v:Value}(hv:cs[n]? =some v)(w:World):(part t cs n).run P w= .ok v w:=by
 simp[part,bQ0 h,hv]
theorem E7 {P:Program}{xs ys:Array Value}:∀(fs:List Field)(ks:List Nat)(n:Nat)(xl yl:List Value)(b:Bool),pu P n fs ks=true->dy ks xl yl=some b->
  (∀j,xl[j]? =xs[n+j]?)->(∀j,yl[j]? =ys[n+j]?)->∀(d:Nat) (w:World),(Op.eqFields (d+1) xs ys fs).run P w= .ok b w
 | [],[],n,[],[],b,_,h,_,_,d,w=>by
  simp only[dy,Option.some.injEq] at h;subst h;simp[Op.eqFields]
 | [],[],_,[],_::_,_,_,h,_,_,_,_=>by simp[dy] at h
 | [],[],_,_::_,_,_,_,h,_,_,_,_=>by simp[dy] at h
 | [],_::_,_,_,_,_,hb,_,_,_,_,_=>by simp[pu] at hb
 | _::_,[],_,_,_,_,hb,_,_,_,_,_=>by simp[pu] at hb
 | f::fs,k::ks,n,xl,yl,b,hb,h,hx,hy,d,w=>by
  simp only[pu,Jv,bne_iff_ne,ne_eq] at hb;obtain⟨⟨⟨⟨iB,aQ⟩,hk⟩,jw⟩,Mj⟩:=hb;have aQ:=VR aQ;have hk:=VR hk;have jw:k<3:=by rw[j0] at jw;exact jw
  have Q5:eC (P.underlying f.type)<3:=by omega
  have step:∀(u v:Value) (xt yt:List Value) (e r:Bool),xl=u::xt->yl=v::yt->dy ks xt yt=some r->(Op.equalIn (d+1) f.type u v).run P w= .ok e w->
    (Op.eqFields (d+1) xs ys (f::fs)).run P w= .ok (e&&r) w:=by
   rintro u v xt yt e r rfl rfl hr he;have hu:xs[f.offset]? =some u:=by rw[aQ];simpa using (hx 0).symm
   have hv:ys[f.offset]? =some v:=by rw[aQ];simpa using (hy 0).symm
   have ih:=E7 fs ks (n+1) xt yt r Mj hr (λj=>by have:=hx (j+1);simpa [pi,zL 1 j] using this) (λj=>by have:=hy (j+1);simpa [pi,zL 1 j] using this) d w;simp only[Op.eqFields,ne_eq,iB,not_false_eq_true,if_true,Sem.run_bind,co Q5 hu,co Q5 hv,Result.andThen_ok,he];cases e with
   | true=>simpa using ih
   | false=>simp
  unfold dy at h;split at h
  ·simp at*
  ·rename_i ks' k1 a xt k2 b2 yt iC;simp only[List.cons.injEq] at iC;obtain⟨rfl,rfl⟩:=iC;split at h
   ·rename_i r h1 h2;have:=Oh h1;subst this;simp only[Option.some.injEq] at h;subst h;cases hu:P.underlying f.type with
    | none=>rw[hu] at hk;simp[eC] at hk
    | some dd=>rw[hu] at hk;cases dd<;>first | (exact step _ _ _ _ _ _ rfl rfl h2 (run_equalIn_int w d f.type _ _ _ _ hu)) | (simp[eC] at hk)
   ·cases h
  ·rename_i ks' a xt b2 yt iC;simp only[List.cons.injEq] at iC;obtain⟨rfl,rfl⟩:=iC;split at h
   ·rename_i r h2;simp only[Option.some.injEq] at h;subst h;cases hu:P.underlying f.type with
    | none=>rw[hu] at hk;simp[eC] at hk
    | some dd=>rw[hu] at hk;cases dd<;>first | (refine step _ _ _ _ _ _ rfl rfl h2 ?_;rw[run_equalIn_string w d f.type _ _ hu,vE];done) | (simp[eC] at hk)
   ·cases h
  ·rename_i ks' a xt b2 yt iC;simp only[List.cons.injEq] at iC;obtain⟨rfl,rfl⟩:=iC;split at h
   ·rename_i r h2;simp only[Option.some.injEq] at h;subst h;cases hu:P.underlying f.type with
    | none=>rw[hu] at hk;simp[eC] at hk
    | some dd=>rw[hu] at hk;cases dd<;>first | (exact step _ _ _ _ _ _ rfl rfl h2 (run_equalIn_bool' w d f.type _ _ hu)) | (simp[eC] at hk)
   ·cases h
  ·cases h
theorem Ol (hg:g.Ok){t:Nat}{r:ERow}(hr:pv g.eqs t=some r){xs ys:Array Value}{b:Bool}(h:dy r.ks xs.toList ys.toList=some b)(n:Nat):
  (Op.equalIn (n+2) t (.agg xs) (.agg ys)).run g.P w= .ok b w:=by
 obtain⟨⟨h1,_,h3⟩,rfl⟩:=N7 hr hg.eqs;split at h3
 ·rename_i fs hu;have hf:g.P.fieldsOf r.t=fs:=by simp[Program.fieldsOf,hu]
  rw[run_equalIn_struct w (n+1) r.t xs ys (by rw[hf];exact hu) h1,hf];exact E7 fs.toList r.ks 0 _ _ b h3 h (λj=>by simp) (λj=>by simp) n w
 ·cases h3
theorem bQ1 (hg:g.Ok)(op:BinOp){t:Nat}{r:ERow}(hr:pv g.eqs t=some r)(x y:Operand)(xs ys:Array Value):
  (py op (dy r.ks xs.toList ys.toList)).Means w (((eqGuard op t x y (.agg xs) (.agg ys)).run g.P w).andThen λ_ w=>((binOp op t (.agg xs) (.agg ys)).run g.P w).andThen λv w=>.ok (.value v) w):=by
 have KG:∀op,(eqGuard op t x y (.agg xs) (.agg ys)).run g.P w= .ok () w:=λop=>by
  obtain⟨⟨_,h2,_⟩,rfl⟩:=N7 hr hg.eqs;exact run_eqGuard_agg w op r.t x y xs ys h2
 unfold py;split
 ·rename_i b hb;have h:=Ol (w:=w) hg hr hb 9998;simp only[PR.Means,KG,Result.andThen_ok,run_eql_struct];rw[h]<;>rfl
 ·rename_i b hb;have h:=Ol (w:=w) hg hr hb 9998;simp only[PR.Means,KG,Result.andThen_ok,run_neq_struct];rw[h]<;>rfl
 ·trivial
theorem Om {α:Type}{xs:Array α}{x:α}(h:xs.toList=[x]):xs= #[x]:=by
 cases xs;simp_all
theorem Oo {α:Type}{xs:Array α}{x y:α}(h:xs.toList=[x,y]):xs= #[x,y]:=by
 cases xs;simp_all
theorem bQ2 {α:Type}{xs:Array α}{x y z:α}(h:xs.toList=[x,y,z]):xs= #[x,y,z]:=by
 cases xs;simp_all
theorem E8 {α:Type}(l:List α)(n:Nat):mC l n=l[n]? :=by
 induction l generalizing n with
 | nil=>simp[mC]
 | cons x l ih=>cases n<;>simp[mC,ih]
theorem pB (v:Value):v.cells.toList=JY v:=by cases v<;>rfl
theorem Oq (vs:List Value)(v:Value):∀(n:Nat)(l:List Value),K2 (n+1) vs (l.set n v)=K2 n (v::vs) l
 | 0,[]=>rfl
 | 0,_::_=>rfl
 | _+1,[]=>rfl
 | n+1,c::l=>by
  show c::K2 (n+1) vs (l.set n v)=c::K2 n (v::vs) l;rw[Oq vs v n l]
theorem Ot:∀(n:Nat)(l:List Value),K2 n [] l=l
 | 0,_=>rfl
 | _+1,[]=>rfl
 | n+1,c::l=>by
  show c::K2 n [] l=c::l;rw[Ot n l]
theorem Ou (off:Nat):∀(vs:List Value)(k:Nat)(l:List Value),
  (vs.zipIdx k).foldl (λcs (p:Value×Nat)=>cs.set (off+p.2) p.1) l=K2 (off+k) vs l
 | [],_,_=>(Ot _ _).symm
 | v::vs,k,l=>by
  rw[List.zipIdx_cons,vh,Ou off vs (k+1)];exact Oq vs v (off+k) l
theorem Ov (off:Nat)(vs cells:Array Value):
  (vs.zipIdx.foldl (λcs (c,j)=>cs.setIfInBounds (off+j) c) cells).toList=K2 off vs.toList cells.toList:=by
 have h:=Ou off vs.toList 0 cells.toList;rw[Nat.add_zero] at h;rw[<-Array.foldl_toList,Array.toList_zipIdx,<-h];clear h;generalize vs.toList.zipIdx 0=l;induction l generalizing cells with
 | nil=>rfl
 | cons p l ih=>simp only[vh];rw[ih];simp
theorem E9 (ps:Nat->Option (Nat×Nat)):∀(parts:List (Nat×Value))(cells:Array Value)(out:List Value),sr ps cells.toList parts=some out->Instr.fill ps cells parts=some out.toArray
 | [],cells,out,h=>by
  simp only[sr,Option.some.injEq] at h;subst h;simp[Instr.fill]
 | (i,v)::rest,cells,out,h=>by
  simp only[sr] at h;split at h
  ·rename_i off sz hp;split at h
   ·rename_i h1 h2;have h1:=VR h1;have h2:=gK h2;have e1:v.cells.size=sz:=by rw[<-h1,<-pB];simp
    have e2:off+v.cells.size<=cells.size:=by rw[e1,<-h1];simpa using h2
    simp only[Instr.fill,hp];rw[if_neg (by simp;omega)];refine E9 ps rest _ out ?_;rw[Ov,pB];exact h
   ·cases h
  ·cases h
theorem Ow (hg:g.Ok):∀(l:List Field)(m:List (Nat×Nat)),vD g l=some m->
  (l.mapM (m:=Sem) λf=>Prod.mk f.offset <$> sizeOf f.type).run g.P w= .ok m w
 | [],m,h=>by simp only[vD,Option.some.injEq] at h;subst h;simp
 | f::l,m,h=>by
  simp only[vD] at h;split at h
  ·rename_i r m' hr hm;simp only[Option.some.injEq] at h;subst h;obtain⟨_,i,hi,hs,_⟩:=hg.row hr;have ih:=Ow hg l m' hm;have hz:(sizeOf f.type).run g.P w= .ok r.sz w:=by simp[sizeOf,typeInfo,hi,hs]
   rw[List.mapM_cons];simp[hz,ih]
  ·cases h
theorem Ak {ρ:Operand->Value}(hρ:∀x v,S.ev x=some v->ρ x=v):∀(l:List Operand)(m:List Value),pA S l=some m->l.map ρ=m
 | [],m,h=>by simp only[pA,Option.some.injEq] at h;subst h;rfl
 | x::l,m,h=>by
  simp only[pA] at h;split at h
  ·rename_i v m' hv hm;simp only[Option.some.injEq] at h;subst h;rw[WA,hρ _ _ hv,Ak hρ l m' hm]
  ·cases h
theorem Fa {ρ:Operand->Value}(hρ:∀x v,S.ev x=some v->ρ x=v):∀(l:List (Nat×Operand))(m:List (Nat×Value)),ss S l=some m->l.map (λ(i,x)=>(i,ρ x))=m
 | [],m,h=>by simp only[ss,Option.some.injEq] at h;subst h;rfl
 | (i,x)::l,m,h=>by
  simp only[ss] at h;split at h
  ·rename_i v m' hv hm;simp only[Option.some.injEq] at h;subst h;rw[WA,Fa hρ l m' hm];show(i,ρ x)::m'=_;rw[hρ _ _ hv]
  ·cases h
theorem Ox {ρ:Operand->Value}(hρ:∀x v,S.ev x=some v->ρ x=v){x:Operand}{n:Int}{d:Int}(h:j9 S d (some x)=some n)(y:Nat)(hn:0<=n/\n<=y)(code:BoundsCode):
  (Instr.sliceBound (ρ x) y code).run g.P w= .ok n.toNat w:=by
 unfold j9 at h;simp only at h;split at h
 ·rename_i k m hv;simp only[Option.some.injEq] at h;subst h;rw[hρ _ _ hv];simp[Instr.sliceBound,asIntOf,hn]
 ·cases h
theorem bQ3 {ρ:Operand->Value}(hρ:∀x v,S.ev x=some v->ρ x=v){lo hi:Option Operand}{l h:Int}{n:Nat}(h1:j9 S 0 lo=some l)(h2:j9 S n hi=some h)(hp:0<=l/\l<=h/\h<=n):
  (Instr.sliceBounds false n n (lo.map ρ) (hi.map ρ) none).run g.P w= .ok (l.toNat,h.toNat,n) w:=by
 have e1:∀x,lo=some x->∀y:Nat,h=(y:Int)->∀code,(Instr.sliceBound (ρ x) y code).run g.P w= .ok l.toNat w:=λx hx y hy code=>
  Ox hρ (d:=0) (by rw[<-hx];exact h1) y ⟨hp.1,by omega⟩ code
 have e2:∀x,hi=some x->∀code,(Instr.sliceBound (ρ x) n code).run g.P w= .ok h.toNat w:=λx hx code=>
  Ox hρ (d:=n) (by rw[<-hx];exact h2) n ⟨by omega,hp.2.2⟩ code
 have hn:h=((h.toNat:Nat):Int):=by omega
 cases lo with
 | none=>
  have:l=0:=by simpa [j9] using h1.symm
  subst this;cases hi with
  | none=>
   have:h=n:=by simpa [j9] using h2.symm
   subst this;simp[Instr.sliceBounds]
  | some y=>simp[Instr.sliceBounds,e2 y rfl]
 | some x=>
  cases hi with
  | none=>
   have:h=n:=by simpa [j9] using h2.symm
   subst this;simp[Instr.sliceBounds,e1 x rfl n rfl]
  | some y=>simp[Instr.sliceBounds,e2 y rfl,e1 x rfl _ hn]
theorem bQ4 (hg:g.Ok)(hρ:∀x v,S.ev x=some v->ρ x=v)(o:Oper):
  (su g S o.op).Means w ((execOp ρ o).run g.P w):=by
 obtain⟨dst,op,ty,pos,aft,gd⟩:=o;simp only;have lL:∀t e,S.ent t=some e->ρ (.tmp t)=e.val:=λt e h=>hρ _ _ (by
  simp only[Env.ev,Env.get];rw[h];cases e<;>rfl)
 unfold su;split
 ·have:=hρ (.const (.bool true)) _ rfl;simp[PR.Means,execOp,this,Ent.val]
 ·have:=hρ (.const (.bool true)) _ rfl;simp[PR.Means,execOp,this,Ent.val]
 ·have:=hρ (.const (.bool false)) _ rfl;simp[PR.Means,execOp,this,Ent.val]
 ·have:=hρ (.const (.bool false)) _ rfl;simp[PR.Means,execOp,this,Ent.val]
 ·split
  ·rename_i e h;simp[PR.Means,execOp,lL _ _ h]
  ·trivial
 ·split
  ·rename_i e h;simp[PR.Means,execOp,lL _ _ h]
  ·trivial
 ·split
  ·rename_i e h;simp[PR.Means,execOp,hρ _ _ h]
  ·trivial
 ·split
  ·rename_i e h;simp[PR.Means,execOp,hρ _ _ h]
  ·trivial
 ·rename_i t a b;split
  ·rename_i h;have h1:=lL _ _ h;split
   ·have:=hρ (.const (.bool true)) _ rfl;simp[PR.Means,execOp,h1,this,Ent.val,asBool]
   ·have:=hρ (.const (.bool false)) _ rfl;simp[PR.Means,execOp,h1,this,Ent.val,asBool]
   ·split
    ·rename_i h2;simp[PR.Means,execOp,h1,lL _ _ h2,Ent.val,asBool]
    ·trivial
   ·split
    ·rename_i h2;simp[PR.Means,execOp,h1,hρ _ _ h2,Ent.val,asBool]
    ·trivial
  ·rename_i h;have h1:=lL _ _ h;split
   ·have:=hρ (.const (.bool true)) _ rfl;simp[PR.Means,execOp,h1,this,Ent.val,asBool]
   ·have:=hρ (.const (.bool false)) _ rfl;simp[PR.Means,execOp,h1,this,Ent.val,asBool]
   ·split
    ·rename_i h2;simp[PR.Means,execOp,h1,lL _ _ h2,Ent.val,asBool]
    ·trivial
   ·split
    ·rename_i h2;simp[PR.Means,execOp,h1,hρ _ _ h2,Ent.val,asBool]
    ·trivial
  ·trivial
 ·split
  ·rename_i hx hy;have:=bQU (g:=g) (w:=w);simp only[execOp,hρ _ _ hx,hρ _ _ hy,eqGuard];split<;>simpa using this _ _ _ _ _ _
  ·rename_i hx hy;have:=bQV (g:=g) (w:=w);simp only[execOp,hρ _ _ hx,hρ _ _ hy,eqGuard];split<;>simpa using this _ _ _ _
  ·rename_i op t x y _ _ _ a b hx hy;cases hr:pv g.eqs t with
   | none=>trivial
   | some r=>
    have:=bQ1 (w:=w) hg op hr x y a b;simp only[execOp,hρ _ _ hx,hρ _ _ hy];simpa using this
  ·rename_i op t x y _ _ _ a b _ _ _ hx hy;cases hr:QX g.tys t with
   | none=>trivial
   | some r=>
    have:=bQZ (w:=w) hg op hr a b;generalize ho:i7 r.d a b=o at this;simp only[ho];cases o with
    | none=>unfold py;split<;>first | trivial | (rename_i hn;cases hn)
    | some q=>
     simp only[execOp,hρ _ _ hx,hρ _ _ hy,bQY op t x y ho];simpa using this
  ·trivial
 ·split
  ·rename_i h;simp[PR.Means,execOp,lL _ _ h,Ent.val,Op.unary]
  ·rename_i h;simp[PR.Means,execOp,lL _ _ h,Ent.val,Op.unary]
  ·rename_i h;simp[PR.Means,execOp,lL _ _ h,Ent.val,Op.unary]
  ·trivial
 ·split
  ·rename_i h;simp[PR.Means,execOp,hρ _ _ h,Op.unary,Op.intArith]
  ·trivial
 ·split
  ·rename_i hs ht hx;simp only[PR.Means,execOp,hρ _ _ hx,convert];simp[Y8 hg hs,Y8 hg ht,Conv.intToInt]
  ·rename_i hs ht hx;simp only[PR.Means,execOp,hρ _ _ hx,convert];simp[Y8 hg hs,Y8 hg ht]
  ·trivial
 ·split
  ·rename_i vs hx;split
   ·rename_i v hv;rw[Og,Array.getElem?_toList] at hv;simp[PR.Means,execOp,hρ _ _ hx,Instr.extract,hv]
   ·trivial
  ·trivial
 ·split
  ·rename_i x t hxs gy;have h1:=Om hxs;have h2:=Om gy;subst h1 h2;split
   ·rename_i r v hr hv;have:=bQW (w:=w) hg hr ty v;simpa [execOp,resolve,invoke,builtin,hρ _ _ hv] using this
   ·trivial
  ·trivial
 ·split
  ·rename_i x y hxs;have h1:=Oo hxs;subst h1;split
   ·rename_i hx hy;simp[PR.Means,execOp,resolve,invoke,builtin,hρ _ _ hx,hρ _ _ hy,Builtin.min_,Builtin.min2]
   ·trivial
  ·rename_i x y z hxs;have h1:=bQ2 hxs;subst h1;split
   ·rename_i hx hy hz;simp[PR.Means,execOp,resolve,invoke,builtin,hρ _ _ hx,hρ _ _ hy,hρ _ _ hz,Builtin.min_,Builtin.min2]
   ·trivial
  ·trivial
 ·split
  ·rename_i x y hxs;have h1:=Oo hxs;subst h1;split
   ·rename_i hx hy;simp[PR.Means,execOp,resolve,invoke,builtin,hρ _ _ hx,hρ _ _ hy,Builtin.max_,Builtin.max2]
   ·trivial
  ·trivial
 ·split
  ·rename_i h;simp[PR.Means,execOp,hρ _ _ h]
  ·rename_i h;simp[PR.Means,execOp,hρ _ _ h]
  ·rename_i h;simp[PR.Means,execOp,hρ _ _ h]
  ·trivial
 ·rename_i t x k;split
  ·rename_i hr hx;split
   ·rename_i fs hd;split
    ·rename_i f hf;split
     ·rename_i rf Ec;split
      ·rename_i hz;have hu:=Y8 hg hr w;rw[hd] at hu;obtain⟨_,i,hi,hs,_⟩:=hg.row Ec;have YZ:i.size≠0:=by rw[hs];exact Nat.ne_of_beq_eq_false hz
       rw[E8] at hf;have Q8:fs[k]? =some f:=by simpa using hf
       simp[PR.Means,execOp,hρ _ _ hx,Instr.fieldAt,hu,Q8,Instr.sureAddr,fieldPlace,sizeOf,typeInfo,hi,YZ]
      ·trivial
     ·trivial
    ·trivial
   ·trivial
  ·trivial
 ·rename_i t x k;split
  ·rename_i cs hr hx;split
   ·rename_i fs hd;split
    ·rename_i f hf;have hu:=Y8 hg hr w;rw[hd] at hu;rw[E8] at hf;have Q8:fs[k]? =some f:=by simpa using hf
     split
     ·rename_i rf Ec;have Cr:=Y8 hg Ec w;obtain⟨_,i,hi,hs,_⟩:=hg.row Ec;have ha:(isAgg f.type).run g.P w= .ok (pz rf.d) w:=by
       simp only[isAgg,Sem.run_bind,Cr,Result.andThen_ok];cases rf.d<;>rfl
      split
      ·rename_i Mk;simp[PR.Means,execOp,hρ _ _ hx,Instr.field,hu,Q8,asAgg,part,ha,Mk,sizeOf,typeInfo,hi,hs];apply Array.ext';simp[List.take_drop]
      ·rename_i Mk;split
       ·rename_i v hv;rw[Og] at hv;have hv':cs[f.offset]? =some v:=by simpa using hv
        simp[PR.Means,execOp,hρ _ _ hx,Instr.field,hu,Q8,asAgg,part,ha,Mk,hv']
       ·trivial
     ·trivial
    ·trivial
   ·trivial
  ·trivial
 ·rename_i t parts;split
  ·rename_i r ps hr WN;have dh:=Fa hρ _ _ WN;have hu:=Y8 hg hr w;obtain⟨_,i,hi,hs,hb,hz⟩:=hg.row hr;have bQn:(parts.map λ(x:Nat×Operand)=>(x.1,ρ x.2)).toList=ps:=by rw[NJ];exact dh
   split
   ·rename_i fs hd;rw[hd] at hu;split
    ·rename_i pl Jt;have XG:=Ow (w:=w) hg _ _ Jt;split
     ·rename_i cs Kk;have uK:=E9 _ _ _ _ Kk;have yL:(fs.mapM (m:=Sem) λf=>Prod.mk f.offset <$> sizeOf f.type).run g.P w= .ok pl.toArray w:=by
       rw[Array.mapM_eq_mapM_toList];simp[XG]
      have Ee:(λi=>pl[i]?)=mC pl:=by funext i;rw[E8]
      have Ml:Instr.fill (λi=>pl[i]?) r.z.cells (parts.toList.map λ(x:Nat×Operand)=>(x.1,ρ x.2))=some cs.toArray:=by
       rw[Ee];rw[show(parts.toList.map λ(x:Nat×Operand)=>(x.1,ρ x.2))=ps from dh];exact uK
      simp only[PR.Means,execOp,Instr.build,zeroValue,typeInfo];simp[hi,hz,hu,yL,Ml]
     ·trivial
    ·trivial
   ·rename_i n e hd;rw[hd] at hu;split
    ·rename_i re Zb;obtain⟨_,i2,hi2,lj,_⟩:=hg.row Zb;split
     ·rename_i cs Kk;have uK:=E9 _ _ _ _ Kk;have Ml:Instr.fill (λi=>some (i*re.sz,re.sz)) r.z.cells (parts.toList.map λ(x:Nat×Operand)=>(x.1,ρ x.2))=some cs.toArray:=by
       rw[show(parts.toList.map λ(x:Nat×Operand)=>(x.1,ρ x.2))=ps from dh];exact uK
      simp only[PR.Means,execOp,Instr.build,zeroValue,typeInfo,sizeOf];simp[hi,hz,hu,hi2,lj,Ml]
     ·trivial
    ·trivial
   ·trivial
  ·trivial
 ·split
  ·rename_i r v hr hx;split
   ·rename_i hd;have hu:=Y8 hg hr w;simp only[PR.Means,execOp,hρ _ _ hx,Instr.makeInterface];simp only[Sem.run_bind,hu,Result.andThen_ok];cases hk:r.d<;>rw[hk] at hd<;>first | (simp[Oi] at hd;done) | simp
   ·trivial
  ·trivial
 ·rename_i f xs ys;split
  ·rename_i a b ha hb;have e1:=Ak hρ _ _ ha;have e2:=Ak hρ _ _ hb;have e1':xs.map ρ=a.toArray:=by apply Array.ext';simpa using e1
   have xd:ys.map ρ=b.toArray:=by apply Array.ext';simpa using e2
   simp[PR.Means,execOp,Instr.makeFunc,e1',xd]
  ·trivial
 ·split
  ·rename_i hr hx;split
   ·rename_i l h hl hh;intro hp;have hb:=bQ3 (g:=g) (w:=w) hρ hl hh hp;have hu:=Y8 hg hr w;simp only[execOp,hρ _ _ hx,Instr.sliceAt,Instr.slice];simp[hu,hb]
   ·trivial
  ·trivial
 ·trivial
end
def Xn (c:Cx)(S:Env)(dst:Option Tmp)(e:Ent)(K:Env->Prop):Prop:=
 match dst with
 | none=>K S
 | some d=>match Nat.blt d c.N.n with
  | true=>K ((d,e)::S)
  | false=>False
def fY:List Value->List Value->(List Value->Prop)->Prop
 | [],QU,K=>K QU
 | x::l,QU,K=>fY l (x::QU) K
def pC (S:Env):List Operand->List Value->(List Value->Prop)->Prop
 | [],QU,K=>K QU
 | x::xs,QU,K=>match S.ev x with
  | some v=>pC S xs (v::QU) K
  | none=>False
def kc (t:Nat):Env->Bool
 | []=>false
 | (k,_)::S=>match Nat.beq k t with
  | true=>true
  | false=>kc t S
def Am (c:Cx)(t:Nat):Bool:=match Nat.blt t c.named with
 | true=>true
 | false=>fV t c.keep
def WX (p:Nat->Bool):Env->Env->(Env->Prop)->Prop
 | [],QU,K=>K QU
 | (t,x)::S,QU,K=>match p t with
  | true=>(match kc t QU with
   | true=>WX p S QU K
   | false=>WX p S ((t,x)::QU) K)
  | false=>WX p S QU K
def Jw:Value->Bool
 | .agg _=>false
 | .tuple _=>false
 | _=>true
def Fb (c:Cx)(o:Oper)(S:Env)(w:World)(K:Env->World->Prop)(Q:Zj):Prop:=
 match o.op with
 | .load t x=>(match QX c.g.tys t,S.ev x with
  | some r,some (.pointer (some p))=>(match pz r.d with
   | false=>gM w p (λv=>Xn c S o.dst (.v v) (λS=>K S w))
   | true=>j7 w p r.sz (λvs=>Xn c S o.dst (.v (.agg vs.toArray)) (λS=>K S w)))
  | _,_=>Zc c o S w K Q)
 | .store t x y=>(match QX c.g.tys t,S.ev x,S.ev y with
  | some r,some (.pointer (some p)),some v=>(match Jw v,Nat.beq r.sz 1,o.dst with
   | true,true,none=>eD w p v (λw=>K S w)
   | false,_,none=>(match v with
    | .agg cs=>(match Nat.beq cs.toList.length r.sz with
     | true=>fX c.g.P w p cs.toList (λw=>K S w)
     | false=>Zc c o S w K Q)
    | _=>Zc c o S w K Q)
   | _,_,_=>Zc c o S w K Q)
  | _,_,_=>Zc c o S w K Q)
 | .alloc e=>(match QX c.g.tys e with
  | some r=>pw w e (JY r.z) (λp w=>Xn c S o.dst (.v (.pointer (some p))) (λS=>K S w))
  | none=>Zc c o S w K Q)
 | .box e x=>(match S.ev x with
  | some v=>pw w e (JY v) (λp w=>Xn c S o.dst (.v (.pointer (some p))) (λS=>K S w))
  | none=>Zc c o S w K Q)
 | .indexAddr t x i=>(match QX c.g.tys t,S.ev x,S.ev i with
  | some ⟨_,.slice e,_,_,_⟩,some (.slice b n _),some (.int _ i)=>(match QX c.g.tys e with
   | some r=>Y7 b n i r.sz (λp=>Xn c S o.dst (.v (.pointer (some p))) (λS=>K S w))
   | none=>Zc c o S w K Q)
  | some ⟨_,.array n e,_,_,_⟩,some (.pointer (some p)),some (.int _ i)=>(match QX c.g.tys e with
   | some r=>Y7 (some p) n i r.sz (λp=>Xn c S o.dst (.v (.pointer (some p))) (λS=>K S w))
   | none=>Zc c o S w K Q)
  | _,_,_=>Zc c o S w K Q)
 | .index t x i=>(match QX c.g.tys t,S.ev x,S.ev i with
  | some ⟨_,.string,_,_,_⟩,some (.string s),some (.int _ i)=>eE s i (λb=>Xn c S o.dst (.v (.int .u8 b)) (λS=>K S w))
  | _,_,_=>Zc c o S w K Q)
 | .call ⟨.value f,xs,_⟩=>(match S.ev f with
  | some (.func (.func n) first cap)=>(match fV n c.g.fns with
   | true=>fY first.toList [] (λQU=>pC S xs.toList QU (λQU=>fY cap.toList QU (λQU=>fY QU [] (λl=>
     gN c.g.P n l w (λv w=>Xn c S o.dst (.v v) (λS=>K S w)) (λch w=>Q (.panic ch) S w)))))
   | false=>Zc c o S w K Q)
  | _=>Zc c o S w K Q)
 | .call ⟨.invoke x nm,xs,_⟩=>(match S.ev x with
  | some (.iface t v)=>pC S xs.toList [v] (λQU=>fY QU [] (λl=>
    N9 c nm t l w (λv w=>Xn c S o.dst (.v v) (λS=>K S w)) (λch w=>Q (.panic ch) S w)))
  | _=>Zc c o S w K Q)
 | _=>Zc c o S w K Q
def eF (c:Cx)(o:Oper)(S:Env)(w:World)(K:Env->World->Prop)(Q:Zj):Prop:=
 match su c.g S o.op with
 | .val v=>Xn c S o.dst (.v v) (λS=>K S w)
 | .ent e=>Xn c S o.dst e (λS=>K S w)
 | .norm k n=>aW n (λm=>Xn c S o.dst (.v (.int k m)) (λS=>K S w))
 | .normIf p k n=>fW p n (λm=>Xn c S o.dst (.v (.int k m)) (λS=>K S w))
 | .need p v=>i6 p v (λv=>Xn c S o.dst (.v v) (λS=>K S w))
 | .no=>Fb c o S w K Q
def VU:List Oper->Nat->Option Oper
 | [],_=>none
 | x::_,0=>some x
 | _::l,n+1=>VU l n
def YN (c:Cx)(all:List Oper):List Oper->Env->World->(Env->World->Prop)->Zj->Prop
 | [],S,w,K,_=>WX (Am c) S [] (λS=>K S w)
 | o::rest,S,w,K,Q=>match o.guard with
  | none=>eF c o S w (λS w=>YN c all rest S w K Q) Q
  | some (
      j,want)=>match VU all j with
   | some oj=>(match oj.dst with
    | some d=>(match S.ent d with
     | some .t=>(match want with
      | true=>eF c o S w (λS w=>YN c all rest S w K Q) Q
      | false=>Xn c S o.dst (.v undef) (λS=>YN c all rest S w K Q))
     | some .f=>(match want with
      | false=>eF c o S w (λS w=>YN c all rest S w K Q) Q
      | true=>Xn c S o.dst (.v undef) (λS=>YN c all rest S w K Q))
     | some (.v (.bool b))=>(match want with
      | true=>KL b (eF c o ((d,.t)::S) w (λS w=>YN c all rest S w K Q) Q) (Xn c ((d,.f)::S) o.dst (.v undef) (λS=>YN c all rest S w K Q))
      | false=>KL b (Xn c ((d,.t)::S) o.dst (.v undef) (λS=>YN c all rest S w K Q)) (eF c o ((d,.f)::S) w (λS w=>YN c all rest S w K Q) Q))
     | some (.v (.tuple _))=>Xn c S o.dst (.v undef) (λS=>YN c all rest S w K Q)
     | _=>False)
    | none=>False)
   | none=>False
def An:Code->Nat
 | .region id _ _=>id
 | .seq x _=>An x
 | .block _ x=>An x
 | .loop x=>An x
 | _=>1000000
def bQ5 (c:Cx):Code->Bool
 | .region _ _ _=>false
 | x=>fV (An x) c.cuts
def Vj (c:Cx):Code->Env->World->Zj->Prop
 | .skip,S,w,Q=>Q .normal S w
 | .label _,S,w,Q=>Q .normal S w
 | .region id ops vK,S,w,Q=>(match vK with
  | false=>YN c ops.toList ops.toList S w (λS w=>Q .normal S w) Q
  | true=>aw c id ops.toList S w Q)
 | .seq x y,S,w,Q=>(match bQ5 c x with
  | true=>j8 c (.seq x y) S w Q
  | false=>Vj c x S w (λe S w=>match e with
   | .normal=>Vj c y S w Q
   | e=>Q e S w))
 | .cond b x y,S,w,Q=>(match b with
  | .tmp t=>(match S.ent t with
   | some .t=>Vj c x S w Q
   | some .f=>Vj c y S w Q
   | some (.v (.bool b))=>KL b (Vj c x ((t,.t)::S) w Q) (Vj c y ((t,.f)::S) w Q)
   | _=>False)
  | .const (.bool true)=>Vj c x S w Q
  | .const (.bool false)=>Vj c y S w Q
  | _=>False)
 | .block id x,S,w,Q=>Vj c x S w (λe S w=>match e with
  | .exit i=>(match Nat.beq i id with
   | true=>Q .normal S w
   | false=>Q (.exit i) S w)
  | e=>Q e S w)
 | .loop x,S,w,Q=>Aj c x S w Q
 | .exit id,S,w,Q=>Q (.exit id) S w
 | .ret,S,w,Q=>Q .ret S w
 | x,S,w,Q=>j8 c x S w Q
section
variable {c:Cx} {a:Act} {S:Env} {w:World} {K:Env->World->Prop} {Q:Zj}
theorem ZA {dst:Option Tmp}{e:Ent}{K:Env->Prop}(h:Xn c S dst e K)(hf:Fits c.N S a):
  ∃S',Fits c.N S' (a.put dst e.val)/\K S':=by
 unfold Xn at h;split at h
 ·exact⟨S,by simpa [Act.put] using hf,h⟩
 ·rename_i d;split at h
  ·rename_i hd;exact⟨_,hf.put (by rw[j0] at hd;exact hd) e,h⟩
  ·exact h.elim
theorem mD (l QU:List Value)(K:List Value->Prop):fY l QU K=K (l.reverse++QU):=by
 induction l generalizing QU with
 | nil=>simp[fY]
 | cons x l ih=>simp[fY,ih]
theorem Fc {xs:List Operand}{QU:List Value}{K:List Value->Prop}(h:pC S xs QU K)(hf:Fits c.N S a):
  K ((xs.map a.eval).reverse++QU):=by
 induction xs generalizing QU with
 | nil=>simpa [pC] using h
 | cons x xs ih=>
  simp only[pC] at h;split at h
  ·rename_i v hv;have:=ih h;simp only[WA,List.reverse_cons,K9,List.singleton_append];rw[hf.ev hv];exact this
  ·exact h.elim
theorem Oy {t:Nat}{S:Env}(h:kc t S=false):S.ent t=none:=by
 induction S with
 | nil=>rfl
 | cons p S ih=>
  obtain⟨k,x⟩:=p;simp only[kc] at h;split at h
  ·cases h
  ·rename_i hb;simp[Env.ent,hb,ih h]
theorem bQ6 {t:Nat}{S:Env}(h:kc t S=true):∃x,S.ent t=some x:=by
 induction S with
 | nil=>cases h
 | cons p S ih=>
  obtain⟨k,x⟩:=p;simp only[kc] at h;split at h
  ·rename_i hb;exact⟨x,by simp[Env.ent,hb]⟩
  ·rename_i hb;simp[Env.ent,hb,ih h]
theorem Ao (S T:Env)(k:Nat):Env.ent (S++T) k=(S.ent k).or (Env.ent T k):=by
 induction S with
 | nil=>simp[Env.ent]
 | cons p S ih=>
  obtain⟨t,x⟩:=p;simp only[YK,Env.ent];split<;>simp[ih]
theorem vF {p:Nat->Bool}{N:Slots}{a:Act}(h1:a.tmps.size=N.n)(h2:a.defers=N.ds){K:Env->Prop}:∀(T QU:Env),(∀k x,QU.ent k=some x->p k=true)->
  (∀k x,p k=true->Env.ent (QU++T) k=some x->a.tmps[k]? =some x.val)->WX p T QU K->∃S',Fits N S' a/\K S'
 | [],QU,hp,hh,h=>⟨QU,⟨h1,h2,λk x hk=>hh k x (hp k x hk) (by simpa using hk)⟩,h⟩
 | (t,x)::T,QU,hp,hh,h=>by
  simp only[WX] at h;split at h
  ·rename_i bA;split at h
   ·rename_i hk;refine vF h1 h2 T QU hp (λk y jK hy=>hh k y jK ?_) h;rw[Ao] at hy ⊢;cases hb:Nat.beq t k with
    | true=>
     have:=VR hb;subst this;obtain⟨z,hz⟩:=bQ6 hk;simp only[hz,Option.some_or] at hy ⊢;exact hy
    | false=>simpa [Env.ent,hb] using hy
   ·rename_i hk;refine vF h1 h2 T ((t,x)::QU) (λk y hy=>?_) (λk y jK hy=>hh k y jK ?_) h
    ·simp only[Env.ent] at hy;split at hy
     ·rename_i hb;rw[<-VR hb];exact bA
     ·exact hp k y hy
    ·rw[YK] at hy;simp only[Env.ent] at hy;rw[Ao];split at hy
     ·rename_i hb;have:=VR hb;subst this;rw[Oy hk];simpa [Env.ent] using hy
     ·rename_i hb;rw[Ao] at hy;simpa [Env.ent,hb] using hy
  ·rename_i bA;refine vF h1 h2 T QU hp (λk y jK hy=>hh k y jK ?_) h;rw[Ao] at hy ⊢;have hb:Nat.beq t k=false:=by
    cases hb:Nat.beq t k with
    | false=>rfl
    | true=>have:=VR hb;subst this;rw[jK] at bA;cases bA
   simpa [Env.ent,hb] using hy
abbrev kf (c:Cx)(K:Env->World->Prop):Act->World->Prop:=λa' w'=>∃S',Fits c.N S' a'/\K S' w'
theorem bI {o:Oper}{v:Value}{w':World}{N:Act->World->Prop}{Q':Exit->Act->World->Prop}
  (hr:(execOp a.eval o).run c.g.P w= .ok (.value v) w') (h:N (a.put o.dst v) w'):o.wp c.g.P a w N Q':=by
 unfold Oper.wp;rw[hr];exact h
theorem cq (hg:c.g.Ok){o:Oper}(hf:Fits c.N S a){r:PR}(hr:su c.g S o.op=r):r.Means w ((execOp a.eval o).run c.g.P w):=by
 rw[<-hr];exact bQ4 hg (λx v h=>hf.ev h) o
theorem bQ7 {P:Program}(t:TypeId)(i:TypeInfo)(hi:P.info? t=some i)(hs:i.size=1)(p:Addr)(v:Value)(hv:Jw v=true)(w:World):
  (storeVar t p v).run P w=(store p v).run P w:=by
 have hc:v.cells= #[v]:=by cases v<;>first | rfl | (simp[Jw] at hv)
 simp[storeVar,hc,sizeOf,typeInfo,hi,hs,storeCells,Addr.add]
theorem mE (hg:c.g.Ok){t:Nat}{r:TyRow}(hr:QX c.g.tys t=some r)(w:World):(isAgg t).run c.g.P w= .ok (pz r.d) w:=by
 simp only[isAgg,Sem.run_bind,Y8 hg hr,Result.andThen_ok];cases r.d<;>rfl
theorem run_sizeOf (hg:c.g.Ok){t:Nat}{r:TyRow}(hr:QX c.g.tys t=some r)(w:World):(sizeOf t).run c.g.P w= .ok r.sz w:=by
 obtain⟨_,i,hi,hs,_⟩:=hg.row hr;simp[sizeOf,typeInfo,hi,hs]
theorem Aq {P:Program}{n:Nat}(hc:Ac P n)(args:Array Value)(w:World):(callFunc n args).run P w= .ok (.enter n args) w:=by
 obtain⟨fn,h1,h2,h3⟩:=hc;have Jp:fn.body≠none:=λe=>by simp[e] at h2
 have ny:fn.name≠ "runtime.NumGoroutine" :=by simpa using h3
 simp[callFunc,h1,Jp,ny]
theorem bQ8 (hg:c.g.Ok){t:Nat}{r:MRow}(hr:vz c.g.ms t=some r)(v:Value)(n:Nat)(w:World):(method (n+1) t v r.name).run c.g.P w= .ok (r.f,v) w:=by
 obtain⟨⟨h1,h2⟩,rfl⟩:=bQR hr hg.ms;cases hi:c.g.P.info? r.t with
 | none=>simp[hi] at h1
 | some i=>
  cases hm:i.methods.find? (λm=>m.name==r.name)with
  | none=>simp[hi,hm] at h1
  | some m=>
   simp[hi,hm] at h1;cases hu:c.g.P.underlying r.t with
   | none=>simp[hu] at h2
   | some d=>
    simp[hu] at h2;have hp:m.path.toList=[]:=by rw[h1.1]
    cases hb:r.ptr with
    | false=>
     rw[hb] at h1 h2;have hx:(receiverAt r.t (.val v) false (if m.path.isEmpty=true then some ((r.name.splitOn ".").getLastD r.name)else none)).run c.g.P w= .ok v w:=by
      unfold receiverAt;rw[Sem.run_bind,ZX hu];cases d<;>first | (simp[E2] at h2;done) | simp[Place.get]
     unfold method;simp only[typeInfo,Sem.run_bind,run_program,Result.andThen_ok,hi,Sem.run_pure,hm,hp,follow,h1.2];simp only[hx,Result.andThen_ok]
    | true=>
     rw[hb] at h1 h2;have hx:(receiverAt r.t (.val v) true (if m.path.isEmpty=true then some ((r.name.splitOn ".").getLastD r.name)else none)).run c.g.P w= .ok v w:=by
      unfold receiverAt;rw[Sem.run_bind,ZX hu];cases d<;>first | (simp[E2] at h2;done) | simp[Place.get]
     unfold method;simp only[typeInfo,Sem.run_bind,run_program,Result.andThen_ok,hi,Sem.run_pure,hm,hp,follow,h1.2];simp only[hx,Result.andThen_ok]
theorem bQ9 (hg:c.g.Ok){o:Oper}(h:Fb c o S w K Q)(hf:Fits c.N S a):o.wp c.g.P a w (kf c K) (Up c Q):=by
 have KH:Zc c o S w K Q->o.wp c.g.P a w (kf c K) (Up c Q):=λh=>by unfold Zc at h;exact h a hf
 obtain⟨dst,op,ty,pos,aft,gd⟩:=o;unfold Fb at h;split at h
 ·rename_i t x JH;simp only at JH;subst JH;split at h
  ·rename_i r p hr hx;split at h
   ·rename_i hd;unfold gM at h;obtain⟨v,hv,hk⟩:=h;refine bI (v:=v) (w':=w) ?_ (ZA (e:=.v v) hk hf);have:=hf.ev hx;simp[execOp,this,Instr.loadAt,Instr.sureAddr,loadVar,mE hg hr,hd,load,Sem.run,hv]
   ·rename_i hd;unfold j7 at h;obtain⟨vs,hl,hv,hk⟩:=h;refine bI (v:=.agg vs.toArray) (w':=w) ?_ (ZA (e:=.v (.agg vs.toArray)) hk hf);have:=hf.ev hx;have h2:=run_loadCells_list (P:=c.g.P) (w:=w) p vs hv;rw[hl] at h2;simp[execOp,this,Instr.loadAt,Instr.sureAddr,loadVar,mE hg hr,hd,run_sizeOf hg hr,h2]
  ·exact KH h
 ·rename_i t x y JH;simp only at JH;subst JH;split at h
  ·rename_i r p v hr hx hy;split at h
   ·rename_i hs h1 hd;unfold eD at h;obtain⟨⟨u,hu⟩,lM,hk⟩:=h;obtain⟨_,i,hi,XG,_⟩:=hg.row hr;have e1:=hf.ev hx;have e2:=hf.ev hy;have t6:i.size=1:=by rw[XG];exact VR h1
    have am:=bQ7 t i hi t6 p v hs w;simp only at hd;subst hd;unfold Oper.wp;have:(execOp a.eval {dst:=none,op:=.store t x y,type:=ty,pos:=pos,after:=aft,guard:=gd}).run c.g.P w= .ok .skip (w.setCell p v):=by
     simp[execOp,e1,e2,Instr.storeAt,Instr.sureAddr,am,store];cases v<;>first | (simp[Jw] at hs;done) | simp[Sem.run,hu,lM]
    rw[this];exact⟨S,by simpa [Act.put] using hf,hk⟩
   ·rename_i hs hd;split at h
    ·rename_i cs;split at h
     ·rename_i hn;unfold fX at h;obtain⟨w',Jj,hk⟩:=h;have hn:=VR hn;have e1:=hf.ev hx;have e2:=hf.ev hy;simp only at hd;subst hd;unfold Oper.wp;have:(execOp a.eval {dst:=none,op:=.store t x y,type:=ty,pos:=pos,after:=aft,guard:=gd}).run c.g.P w= .ok .skip w':=by
       simp only[execOp,e1,e2,Instr.storeAt,Instr.sureAddr,storeVar,Value.cells];simp only[Sem.run_bind,Sem.run_pure,run_sizeOf hg hr,Result.andThen_ok];rw[if_neg (by simpa using hn)];simp[Jj]
      rw[this];exact⟨S,by simpa [Act.put] using hf,hk⟩
     ·exact KH h
    ·exact KH h
   ·exact KH h
  ·exact KH h
 ·rename_i e JH;simp only at JH;subst JH;split at h
  ·rename_i r hr;obtain⟨_,i,hi,_,_,hz⟩:=hg.row hr;unfold pw at h;refine bI (v:=.pointer (some ⟨w.heap.size,0,none⟩)) (w':=w.alloc (.cells (JY r.z).toArray e)) ?_ (ZA (e:=.v _) h hf);have hc:r.z.cells=(JY r.z).toArray:=by rw[<-pB]
   simp[execOp,Instr.alloc,zeroValue,typeInfo,hi,hz,newVar,newRow,hc]
  ·exact KH h
 ·rename_i e x JH;simp only at JH;subst JH;split at h
  ·rename_i v hx;unfold pw at h;have e1:=hf.ev hx;refine bI (v:=.pointer (some ⟨w.heap.size,0,none⟩)) (w':=w.alloc (.cells (JY v).toArray e)) ?_ (ZA (e:=.v _) h hf);have hc:v.cells=(JY v).toArray:=by rw[<-pB]
   simp[execOp,e1,Instr.box,newVar,newRow,hc]
  ·exact KH h
 ·rename_i t x ix JH;simp only at JH;subst JH;split at h
  ·rename_i e b n k i hr hx hi;split at h
   ·rename_i r Zb;unfold Y7 at h;obtain⟨p,rfl,h0,h1,hk⟩:=h;refine bI (v:=.pointer (some (p.add (i.toNat*r.sz)))) (w':=w) ?_ (ZA (e:=.v _) hk hf);have e1:=hf.ev hx;have e2:=hf.ev hi;simp[execOp,e1,e2,Instr.indexAt,asIntOf,Y8 hg hr,run_sizeOf hg Zb,h0,h1]
   ·exact KH h
  ·rename_i n e p k i hr hx hi;split at h
   ·rename_i r Zb;unfold Y7 at h;obtain⟨p',hp,h0,h1,hk⟩:=h;cases hp;refine bI (v:=.pointer (some (p.add (i.toNat*r.sz)))) (w':=w) ?_ (ZA (e:=.v _) hk hf);have e1:=hf.ev hx;have e2:=hf.ev hi;simp[execOp,e1,e2,Instr.indexAt,Instr.sureAddr,asIntOf,Y8 hg hr,run_sizeOf hg Zb,h0,h1]
   ·exact KH h
  ·exact KH h
 ·rename_i t x ix JH;simp only at JH;subst JH;split at h
  ·rename_i s k i hr hx hi;unfold eE at h;obtain⟨b,h0,h1,hk⟩:=h;refine bI (v:=.int .u8 b.toNat) (w':=w) ?_ (ZA (e:=.v _) hk hf);have e1:=hf.ev hx;have e2:=hf.ev hi;simp[execOp,e1,e2,Instr.index,asIntOf,Y8 hg hr,h0,h1]
  ·exact KH h
 ·rename_i f xs ts JH;simp only at JH;subst JH;split at h
  ·rename_i n first cap hv;split at h
   ·rename_i hm;have hc:=hg.fns n (Ai hm);rw[mD] at h;have h2:=Fc h hf;rw[mD,mD] at h2;simp only[Yr,List.reverse_append,List.reverse_reverse,K9] at h2;unfold gN at h2;have e1:=hf.ev hv;unfold Oper.wp;have:(execOp a.eval {dst:=dst,op:=.call ⟨.value f,xs,ts⟩,type:=ty,pos:=pos,after:=aft,guard:=gd}).run c.g.P w=
      .ok (.enter n (first.toList++(List.map a.eval xs.toList++cap.toList)).toArray) w:=by
     simp[execOp,resolve,e1,Deferred.ofValue,invoke,Aq hc]
    rw[this];unfold Oper.upon;refine h2.mono λe w' he=>?_
    cases e with
    | returned v=>exact ZA (e:=.v v) he hf
    | panicked ch=>exact⟨S,hf,he⟩
    | outgrown=>exact he.elim
   ·exact KH h
  ·exact KH h
 ·rename_i x nm xs ts JH;simp only at JH;subst JH;split at h
  ·rename_i t v hv
   ·have h2:=Fc h hf;rw[mD] at h2;simp only[Yr,List.reverse_append,List.reverse_reverse,List.reverse_cons,List.reverse_nil,dw] at h2;unfold N9 at h2;obtain⟨r,hr,rfl,hm,h2⟩:=h2
    ·have hc:=hg.fns r.f (Ai hm);unfold gN at h2;have e1:=hf.ev hv;unfold Oper.wp;have rA:=bQ8 hg hr v (c.g.P.types.size+99) w;have:(execOp a.eval {dst:=dst,op:=.call ⟨.invoke x r.name,xs,ts⟩,type:=ty,pos:=pos,after:=aft,guard:=gd}).run c.g.P w=
       .ok (.enter r.f ([v]++List.map a.eval xs.toList).toArray) w:=by
      have gz:(#[Value.iface t v]++Array.map a.eval xs).extract 1 (#[Value.iface t v]++Array.map a.eval xs).size=Array.map a.eval xs:=by
       apply Array.ext';simp;exact Zz (by simp)
      have WO:(callMethod (.iface t v) r.name (Array.map a.eval xs)).run c.g.P w= .ok (.enter r.f ([v]++List.map a.eval xs.toList).toArray) w:=by
       simp only[callMethod,Sem.run_bind,run_program,Result.andThen_ok];rw[show c.g.P.types.size+Made.depth=c.g.P.types.size+99+1 from rfl,rA];simp[Aq hc]
      simp only[execOp,resolve,e1,Sem.run_bind,Sem.run_pure,Result.andThen_ok,invoke];rw[gz,show(#[Value.iface t v]++Array.map a.eval xs)[0]? =some (Value.iface t v) from (Array.getElem?_append_left (show 0<1 by decide)).trans rfl];exact WO
     rw[this];unfold Oper.upon;refine h2.mono λe w' he=>?_
     cases e with
     | returned v=>exact ZA (e:=.v v) he hf
     | panicked ch=>exact⟨S,hf,he⟩
     | outgrown=>exact he.elim
  ·exact KH h
 ·exact KH h
theorem sw (hg:c.g.Ok){o:Oper}(h:eF c o S w K Q)(hf:Fits c.N S a):o.wp c.g.P a w (kf c K) (Up c Q):=by
 unfold eF at h;split at h
 ·rename_i v hp;have hm:=cq (w:=w) hg hf hp;exact bI hm (ZA (e:=.v v) h hf)
 ·rename_i e hp;have hm:=cq (w:=w) hg hf hp;exact bI hm (ZA (e:=e) h hf)
 ·rename_i k n hp;have hm:=cq (w:=w) hg hf hp;unfold aW at h;exact bI hm (ZA (e:=.v (.int k n)) h hf)
 ·rename_i p k n hp;have hm:=cq (w:=w) hg hf hp;unfold fW at h;exact bI (hm h.1) (ZA (e:=.v (.int k n)) h.2 hf)
 ·rename_i p v hp;have hm:=cq (w:=w) hg hf hp;unfold i6 at h;exact bI (hm h.1) (ZA (e:=.v v) h.2 hf)
 ·exact bQ9 hg h hf
theorem i9 (l:List Oper)(n:Nat):VU l n=l[n]? :=by
 induction l generalizing n with
 | nil=>simp[VU]
 | cons x l ih=>cases n<;>simp[VU,ih]
theorem kg {all:List Oper}{o oj:Oper}{j d:Nat}{want b:Bool}(KG:o.guard=some (j,want))(hj:VU all j=some oj)(hd:oj.dst=some d)(ha:a.tmps[d]? =some (.bool b)):
  Region.wanted o (yielded all.toArray a.tmps)=(b==want):=by
 rw[i9] at hj;simp[Region.wanted,KG,yielded,hj,hd,ha]
theorem Fd {all:List Oper}{o oj:Oper}{j d:Nat}{want:Bool}{vs:Array Value}(KG:o.guard=some (j,want))(hj:VU all j=some oj)(hd:oj.dst=some d)(ha:a.tmps[d]? =some (.tuple vs)):
  Region.wanted o (yielded all.toArray a.tmps)=false:=by
 rw[i9] at hj;simp[Region.wanted,KG,yielded,hj,hd,ha]
theorem kh (hg:c.g.Ok)(all:List Oper):∀(l:List Oper)(S:Env)(w:World)(a:Act),YN c all l S w K Q->Fits c.N S a->
  wpList c.g.P all.toArray (λe a w=>Exit.then (kf c K) (Up c Q) e a w) l a w
 | [],S,w,a,h,hf=>by
  simp only[YN] at h;exact vF (p:=Am c) hf.size hf.defers S [] (λk x hk=>by simp[Env.ent] at hk) (λk x _ hk=>hf.has k x hk) h
 | o::rest,S,w,a,h,hf=>by
  have go:∀(S:Env),eF c o S w (λS w=>YN c all rest S w K Q) Q->Fits c.N S a->o.wp c.g.P a w (wpList c.g.P all.toArray (λe a w=>Exit.then (kf c K) (Up c Q) e a w) rest) (λe a w=>Exit.then (kf c K) (Up c Q) e a w):=λS h hf=>by
   have h1:=sw hg h hf;have h2:=Oper.wp_mono (K':=wpList c.g.P all.toArray (λe a w=>Exit.then (kf c K) (Up c Q) e a w) rest) (λa' w' ⟨S',Q8,hk⟩=>kh hg all rest S' w' a' hk Q8) h1;unfold Oper.wp at h2 ⊢;generalize (execOp a.eval o).run c.g.P w=r at*;cases r with
   | ok n w'=>
    cases n<;>simp only[Oper.upon] at h2 ⊢ <;> exact h2
   | halt x w'=>cases x<;>simp only[Oper.upon] at h2 ⊢ <;> exact h2
  have no:∀(S:Env),Xn c S o.dst (.v undef) (λS=>YN c all rest S w K Q)->Fits c.N S a->wpList c.g.P all.toArray (λe a w=>Exit.then (kf c K) (Up c Q) e a w) rest (a.put o.dst undef) w:=λS h hf=>by
   obtain⟨S',Q8,hk⟩:=ZA h hf;exact kh hg all rest S' w _ hk Q8
  have fit:∀(d:Nat) (b:Bool) (e:Ent),S.ent d=some (.v (.bool b))->e.val= .bool b->Fits c.N ((d,e)::S) a:=λd b e hd he=>by
   refine⟨hf.size,hf.defers,λk x hk=>?_⟩;simp only[Env.ent] at hk;split at hk
   ·rename_i hb;have:=VR hb;subst this;cases hk;rw[he];exact hf.has _ _ hd
   ·exact hf.has _ _ hk
  simp only[YN] at h;unfold wpList;split at h
  ·rename_i KG;rw[Qf (by simp[Region.wanted,KG])];exact .inl (go S h hf)
  ·rename_i j want KG;split at h
   ·rename_i oj hj;split at h
    ·rename_i d hd;split at h
     ·rename_i ZK;have hw:=kg KG hj hd (hf.has _ _ ZK);split at h
      ·rw[Qf (by rw[hw];rfl)];exact .inl (go S h hf)
      ·rw[if_neg (by rw[hw];decide)];exact no S h hf
     ·rename_i ZK;have hw:=kg KG hj hd (hf.has _ _ ZK);split at h
      ·rw[Qf (by rw[hw];rfl)];exact .inl (go S h hf)
      ·rw[if_neg (by rw[hw];decide)];exact no S h hf
     ·rename_i b ZK;have hw:=kg KG hj hd (hf.has _ _ ZK);split at h
      ·unfold KL at h;cases b with
       | true=>rw[Qf (by rw[hw];rfl)];exact .inl (go _ (h.1 rfl) (fit d true .t ZK rfl))
       | false=>rw[if_neg (by rw[hw];decide)];exact no _ (h.2 rfl) (fit d false .f ZK rfl)
      ·unfold KL at h;cases b with
       | true=>rw[if_neg (by rw[hw];decide)];exact no _ (h.1 rfl) (fit d true .t ZK rfl)
       | false=>rw[Qf (by rw[hw];rfl)];exact .inl (go _ (h.2 rfl) (fit d false .f ZK rfl))
     ·rename_i ZK;rw[if_neg (by rw[Fd KG hj hd (hf.has _ _ ZK)];decide)];exact no S h hf
     ·exact h.elim
    ·exact h.elim
   ·exact h.elim
theorem ja (hg:c.g.Ok):∀(x:Code)(S:Env)(w:World)(Q:Zj)(a:Act),Vj c x S w Q->Fits c.N S a->x.wp c.g.P (Up c Q) a w:=by
 intro x;have hc:∀(x:Code) (S:Env) (w:World) (Q:Zj) (a:Act),j8 c x S w Q->Fits c.N S a->x.wp c.g.P (Up c Q) a w:=λx S w Q a h hf=>by
  unfold j8 at h;exact h a hf
 induction x with
 | skip=>exactλS w Q a h hf=>wp_skip ⟨S,hf,h⟩
 | label l=>exactλS w Q a h hf=>wp_label ⟨S,hf,h⟩
 | region id ops vK=>
  intro S w Q a h hf;simp only[Vj] at h;cases vK with
  | false=>
   have h1:=kh hg _ _ _ _ _ h hf;refine wp_mono (wp_region_list ?_) (Q:=λe a w=>Exit.then (kf c (λS w=>Q .normal S w)) (Up c Q) e a w) (λe a w hq=>?_)
   ·simpa using h1
   ·cases e<;>exact hq
  | true=>
   unfold aw at h;simpa using h a hf
 | seq x y ihx ihy=>
  intro S w Q a h hf;simp only[Vj] at h;split at h
  ·exact hc _ _ _ _ _ h hf
  ·refine wp_seq (wp_mono (ihx _ _ _ _ h hf) (λe a w hq=>?_));obtain⟨S',Q8,hq⟩:=hq;cases e<;>first | exact ihy _ _ _ _ hq Q8 | exact⟨S',Q8,hq⟩
 | cond b x y ihx ihy=>
  intro S w Q a h hf;simp only[Vj] at h;split at h
  ·rename_i t;split at h
   ·rename_i ht;exact wp_cond_true (by have:=hf.has _ _ ht;simp[Act.eval,this,Ent.val]) (ihx _ _ _ _ h hf)
   ·rename_i ht;exact wp_cond_false (by have:=hf.has _ _ ht;simp[Act.eval,this,Ent.val]) (ihy _ _ _ _ h hf)
   ·rename_i b ht;have fB:a.eval (.tmp t)= .bool b:=by have:=hf.has _ _ ht;simp[Act.eval,this,Ent.val]
    have fit:∀(e:Ent),e.val= .bool b->Fits c.N ((t,e)::S) a:=λe he=>by
     refine⟨hf.size,hf.defers,λk x hk=>?_⟩;simp only[Env.ent] at hk;split at hk
     ·rename_i hb;have:=VR hb;subst this;cases hk;rw[he];exact hf.has _ _ ht
     ·exact hf.has _ _ hk
    unfold KL at h;cases b with
    | true=>exact wp_cond_true fB (ihx _ _ _ _ (h.1 rfl) (fit .t rfl))
    | false=>exact wp_cond_false fB (ihy _ _ _ _ (h.2 rfl) (fit .f rfl))
   ·exact h.elim
  ·exact wp_cond_true rfl (ihx _ _ _ _ h hf)
  ·exact wp_cond_false rfl (ihy _ _ _ _ h hf)
  ·exact h.elim
 | block id x ih=>
  intro S w Q a h hf;simp only[Vj] at h;refine wp_block (wp_mono (ih _ _ _ _ h hf) (λe a w hq=>?_));obtain⟨S',Q8,hq⟩:=hq;cases e with
  | exit i=>
   simp only at hq;simp only[Exit.inBlock];split at hq
   ·rename_i hb;rw[Qf (VR hb)];exact⟨S',Q8,hq⟩
   ·rename_i hb;rw[if_neg (λe=>by subst e;simp at hb)];exact⟨S',Q8,hq⟩
  | normal=>exact⟨S',Q8,hq⟩
  | goto l=>exact⟨S',Q8,hq⟩
  | ret=>exact⟨S',Q8,hq⟩
  | panic ch=>exact⟨S',Q8,hq⟩
  | outgrown=>exact⟨S',Q8,hq⟩
 | loop x ih=>intro S w Q a h hf;simp only[Vj] at h;unfold Aj at h;exact h a hf
 | exit id=>exactλS w Q a h hf=>wp_exit ⟨S,hf,h⟩
 | ret=>exactλS w Q a h hf=>wp_ret ⟨S,hf,h⟩
 | rangeFunc f ps as_ b ih1 UW=>exactλS w Q a h hf=>hc _ _ _ _ _ h hf
 | scope x ih=>exactλS w Q a h hf=>hc _ _ _ _ _ h hf
 | goto l=>exactλS w Q a h hf=>hc _ _ _ _ _ h hf
 | refuse y=>exactλS w Q a h hf=>hc _ _ _ _ _ h hf
end
def ki:List Nat->List Value->Env->(Env->Prop)->Prop
 | _,[],S,K=>K S
 | t::ts,v::vs,S,K=>ki ts vs ((t,.v v)::S) K
 | [],_::_,_,_=>False
def Oz (w:World)(R:Value->World->Prop):List Value->Prop
 | [v]=>R v w
 | vs=>R (.tuple vs.toArray) w
def dz (c:Cx)(S:Env)(w:World)(R:Value->World->Prop):List ResultVar->List Value->Prop
 | [],QU=>fY QU [] (λl=>Oz w R l)
 | .tmp t::rs,QU=>(match S.get t with
  | some v=>dz c S w R rs (v::QU)
  | none=>False)
 | .cell t ty::rs,QU=>(match QX c.g.tys ty,S.get t with
  | some r,some (.pointer (some p))=>(match pz r.d with
   | false=>gM w p (λv=>dz c S w R rs (v::QU))
   | true=>j7 w p r.sz (λvs=>dz c S w R rs (.agg vs.toArray::QU)))
  | _,_=>False)
def Ar (c:Cx)(rs:List ResultVar)(R:Value->World->Prop):Zj:=λe S w=>match e with
 | .normal=>dz c S w R rs []
 | .ret=>dz c S w R rs []
 | _=>False
def As (tmps:Array Value):ResultVar->Sem Value
 | .tmp t=>pure (tmps.getD t undef)
 | .cell t ty=>do loadVar ty (<-asAddr (tmps.getD t undef))
theorem cQa (fn:Func)(tmps:Array Value):results fn tmps=(do
  let vs<-fn.results.mapM (As tmps)
  pure (if h:vs.size=1 then vs[0] else .tuple vs)):=by
 unfold results;congr 2
theorem At {c:Cx}(hg:c.g.Ok){S:Env}{a:Act}{w:World}(hf:Fits c.N S a)(R:Value->World->Prop):∀(rs:List ResultVar)(QU:List Value),dz c S w R rs QU->
  ∃vs:List Value,(rs.mapM (As a.tmps)).run c.g.P w= .ok vs w/\Oz w R (QU.reverse++vs)
 | [],QU,h=>by
  simp only[dz,mD,Yr] at h;exact⟨[],by simp,by simpa using h⟩
 | .tmp t::rs,QU,h=>by
  simp only[dz] at h;split at h
  ·rename_i v hv;obtain⟨vs,h1,h2⟩:=At hg hf R rs _ h;have:=hf.get hv;refine⟨v::vs,?_,by simpa using h2⟩;simp only[List.mapM_cons,Sem.run_bind];rw[show(As a.tmps (.tmp t)).run c.g.P w= .ok v w by simp[As,this]];simp only[Result.andThen_ok];rw[h1];simp
  ·exact h.elim
 | .cell t ty::rs,QU,h=>by
  simp only[dz] at h;split at h
  ·rename_i r p hr hp;have hp:=hf.get hp;split at h
   ·rename_i hd;unfold gM at h;obtain⟨v,hv,h⟩:=h;obtain⟨vs,h1,h2⟩:=At hg hf R rs _ h;refine⟨v::vs,?_,by simpa using h2⟩;have e1:(do loadVar ty (<-asAddr (a.tmps.getD t undef)):Sem Value).run c.g.P w= .ok v w:=by
     simp[hp,asAddr,loadVar,mE hg hr,hd,load,Sem.run,hv]
    rw[List.mapM_cons,Sem.run_bind];show Result.andThen ((do loadVar ty (<-asAddr (a.tmps.getD t undef)):Sem Value).run c.g.P w) _=_;rw[e1];simp only[Result.andThen_ok,Sem.run_bind];rw[h1];simp
   ·rename_i hd;unfold j7 at h;obtain⟨cs,hl,hv,h⟩:=h;obtain⟨vs,h1,h2⟩:=At hg hf R rs _ h;have h3:=run_loadCells_list (P:=c.g.P) (w:=w) p cs hv;rw[hl] at h3;refine⟨.agg cs.toArray::vs,?_,by simpa using h2⟩;have e1:(do loadVar ty (<-asAddr (a.tmps.getD t undef)):Sem Value).run c.g.P w= .ok (.agg cs.toArray) w:=by
     simp[hp,asAddr,loadVar,mE hg hr,hd,run_sizeOf hg hr,h3]
    rw[List.mapM_cons,Sem.run_bind];show Result.andThen ((do loadVar ty (<-asAddr (a.tmps.getD t undef)):Sem Value).run c.g.P w) _=_;rw[e1];simp only[Result.andThen_ok,Sem.run_bind];rw[h1];simp
  ·exact h.elim
theorem jb {c:Cx}(hg:c.g.Ok){S:Env}{a:Act}{w:World}(hf:Fits c.N S a){R:Value->World->Prop}{fn:Func}(h:dz c S w R fn.results.toList []):
  ∃v,(results fn a.tmps).run c.g.P w= .ok v w/\R v w:=by
 obtain⟨vs,h1,h2⟩:=At hg hf R _ _ h;have e:fn.results=fn.results.toList.toArray:=by simp
 rw[cQa,e,List.mapM_toArray];simp only[Sem.run_bind,Sem.run_map];rw[h1];simp only[Result.andThen_ok,Sem.run_pure,List.size_toArray,dw,List.reverse_nil] at h2 ⊢
 match vs,h2 with
 | [],h2=>exact⟨_,rfl,h2⟩
 | [v],h2=>exact⟨_,rfl,h2⟩
 | v::u::vs,h2=>exact⟨_,rfl,h2⟩
theorem fZ {N:Nat}(args:List Value)(hN:args.length<=N)(S:Env)(hS:∀k x,S.ent k=some x->args[k]? =some x.val):
  Fits ⟨N,[]⟩ S {tmps:=args.toArray++Array.replicate (N-args.toArray.size) undef,defers:=[]}:=by
 refine⟨by simp;omega,rfl,λk x hk=>?_⟩;have h1:=hS k x hk;have:k<args.length:=(Zw.1 h1).1;rw[Array.getElem?_append_left (by simpa using this)];simpa using h1
theorem vG {K:Env->Prop}:∀(ts:List Nat)(vs:List Value)(S:Env)(m:Nat)(args:List Value),(∀j t,ts[j]? =some t->t=m+j)->args.drop m=vs->(∀k x,S.ent k=some x->args[k]? =some x.val)->
  ki ts vs S K->∃S',(∀k x,Env.ent S' k=some x->args[k]? =some x.val)/\K S'
 | _,[],S,_,_,_,_,hS,h=>⟨S,hS,by unfold ki at h;exact h⟩
 | [],_::_,_,_,_,_,_,_,h=>by simp[ki] at h
 | t::ts,v::vs,S,m,args,ht,hd,hS,h=>by
  simp only[ki] at h;have xe:t=m:=by have:=ht 0 t rfl;omega
  subst xe;have hv:args[t]? =some v:=by
   have:=QO (λl=>l[0]?) hd;simpa using this
  refine vG ts vs _ (t+1) args (λj u hu=>by have:=ht (j+1) u hu;omega) ?_ (λk x hk=>?_) h
  ·rw[<-sj,hd]<;>rfl
  ·simp only[Env.ent] at hk;split at hk
   ·rename_i hb;have:=VR hb;subst this;cases hk;exact hv
   ·exact hS k x hk
theorem Qx {c:Cx}(hg:c.g.Ok){f:FuncId}{fn:Func}{x:Code}{args:List Value}{w:World}{R:Value->World->Prop}(hf:c.g.P.funcs[f]? =some fn)(hb:fn.body=some x)(hN:⟨fn.ntmps,[]⟩=c.N)
  (hl:Nat.ble args.length c.N.n=true) (h:ki [0,1,2,3,4,5,6,7,8,9,10,11,12,13,14,15] args [] (λS=>Vj c x S w (Ar c fn.results.toList R))):Fn c.g.P f args w R:=by
 unfold Fn;obtain⟨S,hS,hx⟩:=vG _ args [] 0 args (λj t ht=>by
  match j,ht with
  | 0,ht | 1,ht | 2,ht | 3,ht | 4,ht | 5,ht | 6,ht | 7,ht | 8,ht | 9,ht | 10,ht | 11,ht | 12,ht | 13,ht | 14,ht | 15,ht=>simp at ht;omega
  | j+16,ht=>simp at ht) (by simp) (λk x hk=>by simp[Env.ent] at hk) h
 refine calls_of_wp hf hb ?_;have hn:fn.ntmps=c.N.n:=QO Slots.n hN;have J9:=fZ (N:=c.N.n) args (gK hl) S hS;rw[<-hn,hN] at J9;refine wp_mono (ja hg x S w _ _ hx J9) (λe a w' hq=>?_);obtain⟨S',Q8,hq⟩:=hq;have ZK:a.defers=[]:=by rw[Q8.defers,<-hN]
 cases e with
 | normal=>obtain⟨v,h1,h2⟩:=jb hg Q8 hq;exact⟨ZK,v,h1,h2⟩
 | ret=>obtain⟨v,h1,h2⟩:=jb hg Q8 hq;exact⟨ZK,v,h1,h2⟩
 | exit i=>exact hq.elim
 | goto l=>exact hq.elim
 | panic ch=>exact hq.elim
 | outgrown=>exact hq.elim
@[irreducible] def FnP (P:Program) (f:FuncId) (l:List Value) (w:World) (R:Value->World->Prop) (Xk:List PanicEntry->World->Prop):Prop:=Calls P f l.toArray w fun
 | .returned v,w'=>R v w'
 | .panicked ch,w'=>Xk ch w'
 | .outgrown,_=>False
def cQb (c:Cx)(rs:List ResultVar)(R:Value->World->Prop)(Xk:List PanicEntry->World->Prop):Zj
 | .panic ch,_,w=>Xk ch w
 | e,S,w=>Ar c rs R e S w
theorem aX {c:Cx}(hg:c.g.Ok){f:FuncId}{fn:Func}{x:Code}{args:List Value}{w:World}{R:Value->World->Prop}{Xk:List PanicEntry->World->Prop}(hf:c.g.P.funcs[f]? =some fn)(hb:fn.body=some x)(hN:⟨fn.ntmps,[]⟩=c.N)
  (hl:Nat.ble args.length c.N.n=true) (h:ki [0,1,2,3,4,5,6,7,8,9,10,11,12,13,14,15] args [] (λS=>Vj c x S w (cQb c fn.results.toList R Xk))):FnP c.g.P f args w R Xk:=by
 unfold FnP;obtain⟨S,hS,hx⟩:=vG _ args [] 0 args (λj t ht=>by
  match j,ht with
  | 0,ht | 1,ht | 2,ht | 3,ht | 4,ht | 5,ht | 6,ht | 7,ht | 8,ht | 9,ht | 10,ht | 11,ht | 12,ht | 13,ht | 14,ht | 15,ht=>simp at ht;omega
  | j+16,ht=>simp at ht) (by simp) (λk x hk=>by simp[Env.ent] at hk) h
 refine calls_of_wp hf hb ?_;have hn:fn.ntmps=c.N.n:=QO Slots.n hN;have J9:=fZ (N:=c.N.n) args (gK hl) S hS;rw[<-hn,hN] at J9;refine wp_mono (ja hg x S w _ _ hx J9) (λe a w' hq=>?_);obtain⟨S',Q8,hq⟩:=hq;have ZK:a.defers=[]:=by rw[Q8.defers,<-hN]
 cases e with
 | normal=>obtain⟨v,h1,h2⟩:=jb hg Q8 hq;exact⟨ZK,v,h1,h2⟩
 | ret=>obtain⟨v,h1,h2⟩:=jb hg Q8 hq;exact⟨ZK,v,h1,h2⟩
 | exit i=>exact hq.elim
 | goto l=>exact hq.elim
 | panic ch=>exact⟨ZK,hq⟩
 | outgrown=>exact hq.elim
theorem FnP.mono {P:Program}{f:FuncId}{l:List Value}{w:World}{R R':Value->World->Prop}{p p':List PanicEntry->World->Prop}(h:FnP P f l w R p)(hr:∀v w',R v w'->R' v w')(hp:∀ch w',p ch w'->p' ch w'):FnP P f l w R' p':=by
 unfold FnP at*;exact Calls.mono h λe w' he=>by cases e<;>first | exact hr _ _ he | exact hp _ _ he | exact he
theorem Fn.toP {P:Program}{f:FuncId}{l:List Value}{w:World}{R:Value->World->Prop}{p:List PanicEntry->World->Prop}(h:Fn P f l w R):FnP P f l w R p:=by
 unfold Fn at h;unfold FnP;exact Calls.mono h λe w' he=>by cases e<;>first | exact he | exact he.elim
theorem XP {P:Program}{f:FuncId}{l:List Value}{w:World}{R:Value->World->Prop}{p:List PanicEntry->World->Prop}{K:Value->World->Prop}{Xk:List PanicEntry->World->Prop}(h:FnP P f l w R p)(k:∀v w',R v w'->K v w')(kp:∀ch w',p ch w'->Xk ch w'):gN P f l w K Xk:=by
 unfold FnP at h;unfold gN;exact Calls.mono h λe w' he=>by cases e<;>first | exact k _ _ he | exact kp _ _ he | exact he
theorem Fn.mono {P:Program}{f:FuncId}{l:List Value}{w:World}{R R':Value->World->Prop}(h:Fn P f l w R)(hr:∀v w',R v w'->R' v w'):Fn P f l w R':=by
 unfold Fn at*;exact Calls.mono h λe w' he=>by cases e<;>first | exact hr _ _ he | exact he
theorem call {P:Program}{f:FuncId}{l:List Value}{w:World}{R:Value->World->Prop}{K:Value->World->Prop}{Xk:List PanicEntry->World->Prop}(h:Fn P f l w R)(k:∀v w',R v w'->K v w'):gN P f l w K Xk:=by
 unfold Fn at h;unfold gN;exact Calls.mono h λe w' he=>by cases e<;>first | exact k _ _ he | exact he.elim
def Fe:List Oper->List Nat->List Nat
 | [],QU=>QU
 | o::l,QU=>match o.dst with
  | some d=>Fe l (d::QU)
  | none=>Fe l QU
def jd:Code->List Nat->List Nat
 | .region _ ops _,QU=>Fe ops.toList QU
 | .seq x y,QU=>jd y (jd x QU)
 | .cond _ x y,QU=>jd y (jd x QU)
 | .block _ x,QU=>jd x QU
 | .loop x,QU=>jd x QU
 | .scope x,QU=>jd x QU
 | .rangeFunc _ _ x y,QU=>jd y (jd x QU)
 | _,QU=>QU
def eG (x:Code)(t:Nat):Bool:=match fV t (jd x [])with
 | true=>false
 | false=>true
def dA:List Nat->List Value->Env->(Env->Prop)->Prop
 | [],[],S,K=>K S
 | t::ts,v::vs,S,K=>dA ts vs ((t,.v v)::S) K
 | _,_,_,_=>False
def Has (T S:Env):Prop:=T.map (λp=>S.get p.1)=T.map (λp=>some p.2.val)
theorem cQc {T:Env}{k:Nat}{x:Ent}(h:T.ent k=some x):(k,x)∈T:=by
 induction T with
 | nil=>cases h
 | cons p T ih=>
  obtain⟨t,y⟩:=p;simp only[Env.ent] at h;split at h
  ·rename_i hb;cases h;rw[VR hb];simp
  ·simp[ih h]
theorem Has.fits {T S:Env}{N:Slots}{a:Act}(h:Has T S)(hf:Fits N S a):Fits N T a:=by
 refine⟨hf.size,hf.defers,λk x hk=>?_⟩;have hm:=cQc hk;exact hf.get ((List.map_inj_left.1 h) (k,x) hm)
theorem Ff {ts:List Nat}{vs:List Value}{S:Env}{K:Env->Prop}(h:dA ts vs S K):∃T,T=(ts.zip (vs.map Ent.v)).reverse++S/\K T:=by
 induction ts generalizing vs S with
 | nil=>
  cases vs with
  | nil=>exact⟨S,rfl,h⟩
  | cons v vs=>exact h.elim
 | cons t ts ih=>
  cases vs with
  | nil=>exact h.elim
  | cons v vs=>
   obtain⟨T,rfl,hk⟩:=ih h;exact⟨_,by simp,hk⟩
def mF (p:Nat->Bool):Env->Env->Env
 | [],QU=>QU
 | (t,x)::S,QU=>match p t with
  | true=>(match kc t QU with
   | true=>mF p S QU
   | false=>mF p S ((t,x)::QU))
  | false=>mF p S QU
theorem Av (p:Nat->Bool)(S QU:Env)(K:Env->Prop):WX p S QU K=K (mF p S QU):=by
 induction S generalizing QU with
 | nil=>rfl
 | cons q S ih=>
  obtain⟨t,x⟩:=q;simp only[WX,mF];split
  ·split<;>exact ih _
  ·exact ih _
section
variable {c:Cx} {S:Env} {w:World} {Q:Zj} {α:Type}
theorem cQd {x:Code}(J:α->Act->World->Prop)(μ:α->World->Nat){a:Act}(s0:α)(h0:J s0 a w)
  (hr:∀s a w,J s a w->x.wp c.g.P (λe a' w'=>match e with
   | .normal=>∃s2,J s2 a' w'/\μ s2 w'<μ s w
   | e=>Up c Q e a' w') a w):(Code.loop x).wp c.g.P (Up c Q) a w:=by
 intro b k cs;have key:∀n s a w,μ s w=n->J s a w->∃e a' w',Up c Q e a' w'/\Arrives c.g.P (lone (b.at a (.code x:: .inLoop x::k)) cs w) b k cs e a' w':=by
  intro n;induction n using Nat.strongRecOn with
  | _ n ih=>
   intro s a w hn hJ;obtain⟨e,a1,w1,hq,oH⟩:=hr s a w hJ b (.inLoop x::k) cs;cases e with
   | normal=>
    obtain⟨s2,hJ2,Q5⟩:=hq;obtain⟨e2,a2,w2,xf,jQ5⟩:=ih (μ s2 w1) (hn▸Q5) s2 a1 w1 rfl hJ2;exact⟨e2,a2,w2,xf,.of_steps (Steps.trans oH (.one step_inLoop)) jQ5⟩
   | exit id=>exact⟨_,a1,w1,hq,.pass (x:=.inLoop x) rfl (λ_ _=>.inl (by simp)) oH⟩
   | goto l=>exact⟨_,a1,w1,hq,.pass (x:=.inLoop x) rfl (λ_ _=>.inl (by simp)) oH⟩
   | ret=>exact⟨_,a1,w1,hq,.pass (x:=.inLoop x) rfl (λ_ _=>.inl (by simp)) oH⟩
   | panic ch=>exact⟨_,a1,w1,hq,.pass (x:=.inLoop x) rfl (λ_ _=>.inl (by simp)) oH⟩
   | outgrown=>exact⟨_,a1,w1,hq,.pass (x:=.inLoop x) rfl (λ_ _=>.inl (by simp)) oH⟩
 obtain⟨e,a',w',hq,oH⟩:=key _ s0 a w rfl h0;exact⟨e,a',w',hq,.of_steps (.one step_loop) oH⟩
def cQe (sl:List Nat)(val:α->List Value)(S0:Env)(I:α->World->Prop)(μ:α->World->Nat)(m:Nat)(S2:Env)(w2:World):Prop:=
 ∃s2,dA sl (val s2) S0 (λT=>Has T S2)/\I s2 w2/\μ s2 w2<m
theorem loop (hg:c.g.Ok){x:Code}(sl:List Nat)(val:α->List Value)(I:α->World->Prop)(μ:α->World->Nat)(s0:α)
  (h0:WX (eG x) S [] (λS0=>dA sl (val s0) S0 (λT=>Has T S))) (hI:I s0 w)
  (hr:WX (eG x) S [] (λS0=>∀s w',I s w'->dA sl (val s) S0 (λS1=>Vj c x S1 w' (λe S2 w2=>match e with
   | .normal=>cQe sl val S0 I μ (μ s w') S2 w2
   | e=>Q e S2 w2)))):Aj c x S w Q:=by
 rw[Av] at h0 hr;unfold Aj;intro a hf;generalize mF (eG x) S []=S0 at*;have lN:∀s (K:Env->Prop),dA sl (val s) S0 K->K ((sl.zip ((val s).map Ent.v)).reverse++S0):=λs K h=>by
  obtain⟨T,rfl,hk⟩:=Ff h;exact hk
 refine cQd (c:=c) (x:=x) (Q:=Q) (J:=λs a' w'=>Fits c.N ((sl.zip ((val s).map Ent.v)).reverse++S0) a'/\I s w') (μ:=μ) s0 ⟨(lN s0 _ h0).fits hf,hI⟩ ?_;intro s a' w' ⟨Q8,hI'⟩;have h1:=ja hg x _ w' _ a' (lN s _ (hr s w' hI')) Q8;refine wp_mono h1 (λe a2 w2 hq=>?_);obtain⟨S2,ZT,hq⟩:=hq;cases e with
 | normal=>
  obtain⟨s2,hz,hI2,hm⟩:=hq;exact⟨s2,⟨(lN s2 _ hz).fits ZT,hI2⟩,hm⟩
 | exit i=>exact⟨S2,ZT,hq⟩
 | goto l=>exact⟨S2,ZT,hq⟩
 | ret=>exact⟨S2,ZT,hq⟩
 | panic ch=>exact⟨S2,ZT,hq⟩
 | outgrown=>exact⟨S2,ZT,hq⟩
theorem gO (cs:List Nat)(hg:c.g.Ok){x y:Code}(sl:List Nat)(val:α->List Value)(R:α->World->Prop)
  (hx:WX (eG x) S [] (λS0=>Vj {c with cuts:=cs} x S w (λe S2 w2=>match e with
   | .normal=>∃s,dA sl (val s) S0 (λT=>Has T S2)/\R s w2
   | e=>Q e S2 w2)))
  (hy:WX (eG x) S [] (λS0=>∀s w',R s w'->dA sl (val s) S0 (λS1=>Vj c y S1 w' Q))):j8 c (.seq x y) S w Q:=by
 rw[Av] at hx hy;unfold j8;intro a hf;generalize mF (eG x) S []=S0 at*;have lN:∀s (K:Env->Prop),dA sl (val s) S0 K->K ((sl.zip ((val s).map Ent.v)).reverse++S0):=λs K h=>by
  obtain⟨T,rfl,hk⟩:=Ff h;exact hk
 refine wp_seq (wp_mono (ja (c:={c with cuts:=cs}) hg x S w _ a hx hf) (λe a2 w2 hq=>?_));obtain⟨S2,ZT,hq⟩:=hq;cases e with
 | normal=>
  obtain⟨s,hz,hR⟩:=hq;exact ja hg y _ w2 Q a2 (lN s _ (hy s w2 hR)) ((lN s _ hz).fits ZT)
 | exit i=>exact⟨S2,ZT,hq⟩
 | goto l=>exact⟨S2,ZT,hq⟩
 | ret=>exact⟨S2,ZT,hq⟩
 | panic ch=>exact⟨S2,ZT,hq⟩
 | outgrown=>exact⟨S2,ZT,hq⟩
theorem OB (hg:c.g.Ok){x y:Code}(sl:List Nat)(val:α->List Value)(R:α->World->Prop)
  (hx:WX (eG x) S [] (λS0=>Vj {c with cuts:=[]} x S w (λe S2 w2=>match e with
   | .normal=>∃s,dA sl (val s) S0 (λT=>Has T S2)/\R s w2
   | e=>Q e S2 w2)))
  (hy:WX (eG x) S [] (λS0=>∀s w',R s w'->dA sl (val s) S0 (λS1=>Vj c y S1 w' Q))):j8 c (.seq x y) S w Q:=
 gO [] hg sl val R hx hy
end
@[irreducible] def sA (C:World->Prop) (p:Addr) (K:Value->Prop):Prop:=∃v,(∀w,C w->w.cell? p=some v)/\K v
@[irreducible] def sB (C:World->Prop) (p:Addr) (n:Nat) (K:List Value->Prop):Prop:=∃vs:List Value,vs.length=n/\(∀w,C w->∀j v,vs[j]? =some v->w.cell? (p.add j)=some v)/\K vs
@[irreducible] def OC (P:Program) (f:FuncId) (l:List Value) (C:World->Prop) (K:Value->Prop):Prop:=∃v,(∀w,C w->Fn P f l w (λu w'=>u=v/\C w'))/\K v
@[irreducible] def kj (c:Cx) (o:Oper) (S:Env) (C:World->Prop) (K:Env->Prop):Prop:=∃v,(∀a w,Fits c.N S a->C w->o.quietAt c.g.P a C w v)/\Xn c S o.dst (.v v) K
def Fg (
     c:Cx) (o:Oper) (S:Env) (C:World->Prop) (K:Env->Prop):Prop:=
 match o.op with
 | .load t x=>(match QX c.g.tys t,S.ev x with
  | some r,some (.pointer (some p))=>(match pz r.d with
   | false=>sA C p (λv=>Xn c S o.dst (.v v) K)
   | true=>sB C p r.sz (λvs=>Xn c S o.dst (.v (.agg vs.toArray)) K))
  | _,_=>kj c o S C K)
 | .indexAddr t x i=>(match QX c.g.tys t,S.ev x,S.ev i with
  | some ⟨_,.slice e,_,_,_⟩,some (.slice b n _),some (.int _ i)=>(match QX c.g.tys e with
   | some r=>Y7 b n i r.sz (λp=>Xn c S o.dst (.v (.pointer (some p))) K)
   | none=>kj c o S C K)
  | _,_,_=>kj c o S C K)
 | .index t x i=>(match QX c.g.tys t,S.ev x,S.ev i with
  | some ⟨_,.string,_,_,_⟩,some (.string s),some (.int _ i)=>eE s i (λb=>Xn c S o.dst (.v (.int .u8 b)) K)
  | _,_,_=>kj c o S C K)
 | .call ⟨.value f,xs,_⟩=>(match S.ev f with
  | some (.func (.func n) first cap)=>(match fV n c.g.fns with
   | true=>fY first.toList [] (λQU=>pC S xs.toList QU (λQU=>fY cap.toList QU (λQU=>fY QU [] (λl=>
     OC c.g.P n l C (λv=>Xn c S o.dst (.v v) K)))))
   | false=>kj c o S C K)
  | _=>kj c o S C K)
 | _=>kj c o S C K
def mG (c:Cx)(o:Oper)(S:Env)(C:World->Prop)(K:Env->Prop):Prop:=
 match su c.g S o.op with
 | .val v=>Xn c S o.dst (.v v) K
 | .ent e=>Xn c S o.dst e K
 | .norm k n=>aW n (λm=>Xn c S o.dst (.v (.int k m)) K)
 | .normIf p k n=>fW p n (λm=>Xn c S o.dst (.v (.int k m)) K)
 | .need p v=>i6 p v (λv=>Xn c S o.dst (.v v) K)
 | .no=>Fg c o S C K
def ay (
      c:Cx) (all:List Oper):List Oper->Env->(World->Prop)->(Env->Prop)->Prop
 | [],S,_,K=>WX (Am c) S [] K
 | o::rest,S,C,K=>match o.guard with
  | none=>mG c o S C (λS=>ay c all rest S C K)
  | some (
      j,want)=>match VU all j with
   | some oj=>(match oj.dst with
    | some d=>(match S.ent d with
     | some .t=>(match want with
      | true=>mG c o S C (λS=>ay c all rest S C K)
      | false=>Xn c S o.dst (.v undef) (λS=>ay c all rest S C K))
     | some .f=>(match want with
      | false=>mG c o S C (λS=>ay c all rest S C K)
      | true=>Xn c S o.dst (.v undef) (λS=>ay c all rest S C K))
     | some (.v (.bool b))=>(match want with
      | true=>KL b (mG c o ((d,.t)::S) C (λS=>ay c all rest S C K)) (Xn c ((d,.f)::S) o.dst (.v undef) (λS=>ay c all rest S C K))
      | false=>KL b (Xn c ((d,.t)::S) o.dst (.v undef) (λS=>ay c all rest S C K)) (mG c o ((d,.f)::S) C (λS=>ay c all rest S C K)))
     | some (.v (.tuple _))=>Xn c S o.dst (.v undef) (λS=>ay c all rest S C K)
     | _=>False)
    | none=>False)
   | none=>False
section
variable {c:Cx} {a:Act} {S:Env} {C:World->Prop} {K:Env->Prop}
abbrev sC (c:Cx)(K:Env->Prop):Act->Prop:=λa'=>∃S',Fits c.N S' a'/\K S'
theorem pD {o:Oper}{v:Value}{N:Act->Prop}(hr:∀w,(execOp a.eval o).run c.g.P w= .ok (.value v) w)(h:N (a.put o.dst v)):o.quiet c.g.P a C N:=
 ⟨v,λw _=>by unfold Oper.quietAt;rw[hr w];exact⟨rfl,rfl⟩,h⟩
theorem OD {o:Oper}{v:Value}{N:Act->Prop}(hr:∀w,C w->(execOp a.eval o).run c.g.P w= .ok (.value v) w)(h:N (a.put o.dst v)):o.quiet c.g.P a C N:=
 ⟨v,λw hw=>by unfold Oper.quietAt;rw[hr w hw];exact⟨rfl,rfl⟩,h⟩
theorem cQf (hg:c.g.Ok){o:Oper}(h:Fg c o S C K)(hf:Fits c.N S a):o.quiet c.g.P a C (sC c K):=by
 have KH:kj c o S C K->o.quiet c.g.P a C (sC c K):=λh=>by
  unfold kj at h;obtain⟨v,h1,h2⟩:=h;exact⟨v,λw hw=>h1 a w hf hw,ZA (e:=.v v) h2 hf⟩
 obtain⟨dst,op,ty,pos,aft,gd⟩:=o;unfold Fg at h;split at h
 ·rename_i t x JH;simp only at JH;subst JH;split at h
  ·rename_i r p hr hx;have e1:=hf.ev hx;split at h
   ·rename_i hd;unfold sA at h;obtain⟨v,hv,hk⟩:=h;refine OD (v:=v) (λw hw=>?_) (ZA (e:=.v v) hk hf);simp[execOp,e1,Instr.loadAt,Instr.sureAddr,loadVar,mE hg hr,hd,load,Sem.run,hv w hw]
   ·rename_i hd;unfold sB at h;obtain⟨vs,hl,hv,hk⟩:=h;refine OD (v:=.agg vs.toArray) (λw hw=>?_) (ZA (e:=.v (.agg vs.toArray)) hk hf);have h2:=run_loadCells_list (P:=c.g.P) (w:=w) p vs (hv w hw);rw[hl] at h2;simp[execOp,e1,Instr.loadAt,Instr.sureAddr,loadVar,mE hg hr,hd,run_sizeOf hg hr,h2]
  ·exact KH h
 ·rename_i t x ix JH;simp only at JH;subst JH;split at h
  ·rename_i e b n k i hr hx hi;split at h
   ·rename_i r Zb;unfold Y7 at h;obtain⟨p,rfl,h0,h1,hk⟩:=h;have e1:=hf.ev hx;have e2:=hf.ev hi;refine pD (v:=.pointer (some (p.add (i.toNat*r.sz)))) (λw=>?_) (ZA (e:=.v _) hk hf);simp[execOp,e1,e2,Instr.indexAt,asIntOf,Y8 hg hr,run_sizeOf hg Zb,h0,h1]
   ·exact KH h
  ·exact KH h
 ·rename_i t x ix JH;simp only at JH;subst JH;split at h
  ·rename_i s k i hr hx hi;unfold eE at h;obtain⟨b,h0,h1,hk⟩:=h;have e1:=hf.ev hx;have e2:=hf.ev hi;refine pD (v:=.int .u8 b.toNat) (λw=>?_) (ZA (e:=.v _) hk hf);simp[execOp,e1,e2,Instr.index,asIntOf,Y8 hg hr,h0,h1]
  ·exact KH h
 ·rename_i f xs ts JH;simp only at JH;subst JH;split at h
  ·rename_i n first cap hv;split at h
   ·rename_i hm;have hc:=hg.fns n (Ai hm);rw[mD] at h;have h2:=Fc h hf;rw[mD,mD] at h2;simp only[Yr,List.reverse_append,List.reverse_reverse,K9] at h2;unfold OC at h2;obtain⟨v,h3,hk⟩:=h2;have e1:=hf.ev hv;refine⟨v,λw hw=>?_,ZA (e:=.v v) hk hf⟩;unfold Oper.quietAt;have:(execOp a.eval {dst:=dst,op:=.call ⟨.value f,xs,ts⟩,type:=ty,pos:=pos,after:=aft,guard:=gd}).run c.g.P w=
      .ok (.enter n (first.toList++(List.map a.eval xs.toList++cap.toList)).toArray) w:=by
     simp[execOp,resolve,e1,Deferred.ofValue,invoke,Aq hc]
    rw[this];refine⟨rfl,?_⟩;have h4:=h3 w hw;unfold Fn at h4;refine h4.mono λe w' he=>?_
    cases e with
    | returned u=>exact⟨by rw[he.1],he.2⟩
    | panicked ch=>exact he.elim
    | outgrown=>exact he.elim
   ·exact KH h
  ·exact KH h
 ·exact KH h
theorem cQg (hg:c.g.Ok){o:Oper}(h:mG c o S C K)(hf:Fits c.N S a):o.quiet c.g.P a C (sC c K):=by
 unfold mG at h;split at h
 ·rename_i v hp;exact pD (λw=>cq (w:=w) hg hf hp) (ZA (e:=.v v) h hf)
 ·rename_i e hp;exact pD (λw=>cq (w:=w) hg hf hp) (ZA (e:=e) h hf)
 ·rename_i k n hp;unfold aW at h;exact pD (λw=>cq (w:=w) hg hf hp) (ZA (e:=.v (.int k n)) h hf)
 ·rename_i p k n hp;unfold fW at h;exact pD (λw=>cq (w:=w) hg hf hp h.1) (ZA (e:=.v (.int k n)) h.2 hf)
 ·rename_i p v hp;unfold i6 at h;exact pD (λw=>cq (w:=w) hg hf hp h.1) (ZA (e:=.v v) h.2 hf)
 ·exact cQf hg h hf
theorem Aw (hg:c.g.Ok)(all:List Oper):∀(l:List Oper)(S:Env)(a:Act),ay c all l S C K->Fits c.N S a->wpQuiet c.g.P all.toArray C (sC c K) l a
 | [],S,a,h,hf=>by
  simp only[ay] at h;exact vF (p:=Am c) hf.size hf.defers S [] (λk x hk=>by simp[Env.ent] at hk) (λk x _ hk=>hf.has k x hk) h
 | o::rest,S,a,h,hf=>by
  have go:∀(S:Env),mG c o S C (λS=>ay c all rest S C K)->Fits c.N S a->o.quiet c.g.P a C (wpQuiet c.g.P all.toArray C (sC c K) rest):=λS h hf=>
   Oper.quiet_mono (λa' ⟨S',Q8,hk⟩=>Aw hg all rest S' a' hk Q8) (cQg hg h hf)
  have no:∀(S:Env),Xn c S o.dst (.v undef) (λS=>ay c all rest S C K)->Fits c.N S a->wpQuiet c.g.P all.toArray C (sC c K) rest (a.put o.dst undef):=λS h hf=>by
   obtain⟨S',Q8,hk⟩:=ZA h hf;exact Aw hg all rest S' _ hk Q8
  have fit:∀(d:Nat) (b:Bool) (e:Ent),S.ent d=some (.v (.bool b))->e.val= .bool b->Fits c.N ((d,e)::S) a:=λd b e hd he=>by
   refine⟨hf.size,hf.defers,λk x hk=>?_⟩;simp only[Env.ent] at hk;split at hk
   ·rename_i hb;have:=VR hb;subst this;cases hk;rw[he];exact hf.has _ _ hd
   ·exact hf.has _ _ hk
  simp only[ay] at h;unfold wpQuiet;split at h
  ·rename_i KG;rw[Qf (by simp[Region.wanted,KG])];exact go S h hf
  ·rename_i j want KG;split at h
   ·rename_i oj hj;split at h
    ·rename_i d hd;split at h
     ·rename_i ZK;have hw:=kg KG hj hd (hf.has _ _ ZK);split at h
      ·rw[Qf (by rw[hw];rfl)];exact go S h hf
      ·rw[if_neg (by rw[hw];decide)];exact no S h hf
     ·rename_i ZK;have hw:=kg KG hj hd (hf.has _ _ ZK);split at h
      ·rw[Qf (by rw[hw];rfl)];exact go S h hf
      ·rw[if_neg (by rw[hw];decide)];exact no S h hf
     ·rename_i b ZK;have hw:=kg KG hj hd (hf.has _ _ ZK);split at h
      ·unfold KL at h;cases b with
       | true=>rw[Qf (by rw[hw];rfl)];exact go _ (h.1 rfl) (fit d true .t ZK rfl)
       | false=>rw[if_neg (by rw[hw];decide)];exact no _ (h.2 rfl) (fit d false .f ZK rfl)
      ·unfold KL at h;cases b with
       | true=>rw[if_neg (by rw[hw];decide)];exact no _ (h.1 rfl) (fit d true .t ZK rfl)
       | false=>rw[Qf (by rw[hw];rfl)];exact go _ (h.2 rfl) (fit d false .f ZK rfl)
     ·rename_i ZK;rw[if_neg (by rw[Fd KG hj hd (hf.has _ _ ZK)];decide)];exact no S h hf
     ·exact h.elim
    ·exact h.elim
   ·exact h.elim
end
theorem Fh {P:Program}{ops:Array Oper}{C:World->Prop}{Q Q':Act->Prop}(h:∀a,Q a->Q' a):∀{l:List Oper}{a:Act},wpQuiet P ops C Q l a->wpQuiet P ops C Q' l a
 | [],a,hh=>h a hh
 | o::l,a,hh=>by
  unfold wpQuiet at*;split
  ·rename_i hw;rw[Qf hw] at hh;exact Oper.quiet_mono (λa' h'=>Fh h h') hh
  ·rename_i hw;rw[if_neg hw] at hh;exact Fh h hh
theorem cQh {c:Cx}(hg:c.g.Ok){id:Nat}{ops:List Oper}{S:Env}{w:World}{Q:Zj}(C:World->Prop)(hC:C w.drew)(hB:Region.lexB .any ops.toArray=true)
  (h:ay c ops ops S C (λS=>∀w',C w'->Q .normal S w')):aw c id ops S w Q:=by
 unfold aw;intro a hf;refine wp_region_quiet (C:=C) hg.mixed hB hC ?_;have:=Aw hg ops ops S a h hf;refine Fh ?_ this;intro a' ⟨S',Q8,hk⟩ w' Qb;exact⟨S',Q8,hk w' Qb⟩
theorem vH {P:Program}{ops:Array Oper}{w:World}{Q:Act->Prop}:∀{l:List Oper}{a:Act},wpQuiet P ops (λw'=>w'=w) Q l a->wpStill P ops w Q l a
 | [],a,h=>h
 | o::l,a,h=>by
  unfold wpQuiet at h;unfold wpStill;split
  ·rename_i hw;rw[Qf hw] at h;obtain⟨v,h1,h2⟩:=h;have h3:=h1 w rfl;unfold Oper.quietAt at h3;unfold Oper.still;generalize (execOp a.eval o).run P w=r at*;cases r with
   | ok n w'=>
    cases n<;>simp only[Oper.quietUpon] at h3<;>simp only[Oper.stillUpon]
    case value u=>obtain⟨rfl,rfl⟩:=h3;exact⟨rfl,vH h2⟩
    case skip=>obtain⟨rfl,rfl⟩:=h3;exact⟨rfl,vH h2⟩
    case enter f args=>exact⟨h3.1,v,h3.2,vH h2⟩
   | halt x w'=>simp only[Oper.quietUpon] at h3
  ·rename_i hw;rw[if_neg hw] at h;exact vH h
theorem vI {P:Program}{ops:Array Oper}{w:World}{Q Q':Act->Prop}(h:∀a,Q a->Q' a):∀{l:List Oper}{a:Act},wpStill P ops w Q l a->wpStill P ops w Q' l a
 | [],a,hh=>h a hh
 | o::l,a,hh=>by
  unfold wpStill at*;split
  ·rename_i hw;rw[Qf hw] at hh;unfold Oper.still at*;generalize (execOp a.eval o).run P w=r at*;cases r with
   | ok n w'=>
    cases n<;>simp only[Oper.stillUpon] at hh ⊢
    case value u=>exact⟨hh.1,vI h hh.2⟩
    case skip=>exact⟨hh.1,vI h hh.2⟩
    case enter f args=>obtain⟨h1,v,h2,h3⟩:=hh;exact⟨h1,v,h2,vI h h3⟩
   | halt x w'=>simp only[Oper.stillUpon] at hh
  ·rename_i hw;rw[if_neg hw] at hh;exact vI h hh
theorem mH {P:Program}{ops:Array Oper}{Q Q':Exit->Act->World->Prop}(h:∀e a w,Q e a w->Q' e a w):∀{l:List Oper}{a:Act}{w:World},wpList P ops Q l a w->wpList P ops Q' l a w
 | [],a,w,hh=>h _ a w hh
 | o::l,a,w,hh=>by
  unfold wpList at*;split
  ·rename_i hw;rw[Qf hw] at hh;rcases hh with hh | ⟨h1,a0,w0,h2⟩
   ·refine .inl ?_;have h2:=Oper.wp_mono (K':=wpList P ops Q' l) (λa w=>mH h) hh;unfold Oper.wp at h2 ⊢;generalize (execOp a.eval o).run P w=r at*;cases r with
    | ok n w'=>
     cases n<;>simp only[Oper.upon] at h2 ⊢ <;> try exact h2
     exact h2.mono λe KI he=>by
      cases e with
      | returned v=>exact he
      | panicked ch=>exact h _ _ _ he
      | outgrown=>obtain⟨a0,w0,h0⟩:=he;exact⟨a0,w0,h _ _ _ h0⟩
    | halt x w'=>cases x<;>simp only[Oper.upon] at h2 ⊢ <;> first | exact h2 | exact h _ _ _ h2
   ·exact .inr ⟨h1,a0,w0,h _ _ _ h2⟩
  ·rename_i hw;rw[if_neg hw] at hh;exact mH h hh
theorem pE {c:Cx}(hg:c.g.Ok){id:Nat}{ops:List Oper}{S:Env}{w:World}{Q:Zj}(n:Nat)(hB:Region.lexTailB .any ops.toArray n=true)
  (h:ay {c with named:=1000000} ops (ops.take n) S (λw'=>w'=w.drew) (λS=>YN c ops (ops.drop n) S w.drew (λS w=>Q .normal S w) Q)):aw c id ops S w Q:=by
 unfold aw;intro a hf;refine wp_region_still_tail n hg.mixed hB ?_;have h1:=Aw (c:={c with named:=1000000}) hg ops (ops.take n) S a h hf;refine vI ?_ (vH h1);intro a' ⟨S',Q8,hk⟩;have h2:=kh (c:=c) hg ops _ _ _ _ hk Q8;refine mH (λe a w hq=>?_) h2;cases e<;>exact hq
end
section
def Ext (w w':World):Prop:=w.grownBy w' none
theorem Ext.refl (w:World):Ext w w:=⟨rfl,rfl,rfl,QD _,λ_ _ _=>rfl⟩
theorem Ext.trans {a b c:World}(h:Ext a b)(k:Ext b c):Ext a c:=
 ⟨k.os.trans h.os,k.tape.trans h.tape,k.output.trans h.output,X2 h.size k.size,λi hi hn=>(k.block i (YL hi h.size) hn).trans (h.block i hi hn)⟩
theorem Ext.drew (w:World):Ext w w.drew:=⟨rfl,rfl,rfl,QD _,λ_ _ _=>rfl⟩
theorem Ext.alloc (w:World)(o:Obj):Ext w (w.alloc o):=World.grownBy_alloc w o none
theorem Ext.own {w0 w w1:World}{g:Nat}(h:Ext w0 w)(k:w.grownBy w1 (some g))(hg:w0.heap.size<=g):Ext w0 w1:=
 ⟨k.os.trans h.os,k.tape.trans h.tape,k.output.trans h.output,X2 h.size k.size,λi hi hn=>(k.block i (YL hi h.size) (λe=>by cases e;omega)).trans (h.block i hi hn)⟩
theorem Ext.cell {w w':World}(h:Ext w w'){a:Addr}{v:Value}(hc:w.cell? a=some v):w'.cell? a=some v:=World.grownBy.cell h hc (by simp)
theorem Ext.below {w w':World}(h:Ext w w'):Below w.heap.size w w':=⟨h.os,h.tape,h.output,h.size,λk hk=>h.block k hk (by simp)⟩
theorem Ext.grown {w w':World}(h:Ext w w')(row:Option Nat):w.grownBy w' row:=⟨h.os,h.tape,h.output,h.size,λk hk _=>h.block k hk (by simp)⟩
theorem cQi {a b c:World}{row:Option Nat}(h:a.grownBy b row)(k:b.grownBy c row):a.grownBy c row:=
 ⟨k.os.trans h.os,k.tape.trans h.tape,k.output.trans h.output,X2 h.size k.size,λi hi hn=>(k.block i (YL hi h.size) hn).trans (h.block i hi hn)⟩
def Blk (w:World)(g:Nat)(t:TypeId)(cs:List Value):Prop:=w.heap[g]? =some (.cells cs.toArray t (0,0))
theorem Blk.lt {w:World}{g t:Nat}{cs:List Value}(h:Blk w g t cs):g<w.heap.size:=(iW.1 h).1
theorem Blk.ext {w w':World}{g t:Nat}{cs:List Value}(h:Blk w g t cs)(k:Ext w w'):Blk w' g t cs:=(k.block g h.lt (by simp)).trans h
theorem pF (g j:Nat):(⟨g,0,none⟩:Addr).add j=⟨g,j,none⟩:=by unfold Addr.add;split<;>simp_all
theorem Blk.cell {w:World}{g t:Nat}{cs:List Value}(h:Blk w g t cs)(j:Nat):w.cell? ((⟨g,0,none⟩:Addr).add j)=cs[j]? :=by
 rw[pF,cell_of_row w g j _ t _ h];simp
theorem Blk.frozen {w:World}{g t:Nat}{cs:List Value}(h:Blk w g t cs)(j:Nat):w.frozen? ((⟨g,0,none⟩:Addr).add j)=false:=by
 rw[pF];exact frozen_of_row w g j _ t h
theorem Blk.new (w:World)(t:TypeId)(cs:List Value):Blk (w.alloc (.cells cs.toArray t)) w.heap.size t cs:=heap_alloc_new w _
theorem cQj (w:World)(a:Addr)(v:Value):w.grownBy (w.setCell a v) (some a.block):=
 ⟨rfl,rfl,rfl,by simp,λk _ hn=>Below.heap_setCell w a v k (λe=>hn (by rw[e]))⟩
theorem Blk.set {w:World}{g t:Nat}{cs:List Value}(h:Blk w g t cs)(j:Nat)(v:Value):Blk (w.setCell ((⟨g,0,none⟩:Addr).add j) v) g t (cs.set j v):=by
 rw[pF];have:=heap_setCell_same w g j cs.toArray t v h;unfold Blk;rw[this];simp
structure Sl (w:World) (sz:Nat) (A:Option Addr) (n c:Nat) (cs:List Value):Prop where
 len:cs.length=n*sz
 le:n<=c
 cap:c<=maxLen
 at_:0<n->∃ad,A=some ad/\∀j u,cs[j]? =some u->w.cell? (ad.add j)=some u
theorem Sl.ext {w w':World}{sz n c:Nat}{A:Option Addr}{cs:List Value}(h:Sl w sz A n c cs)(k:Ext w w'):Sl w' sz A n c cs:=
 ⟨h.len,h.le,h.cap,λhn=>let ⟨ad,e,hc⟩:=h.at_ hn;⟨ad,e,λj u hu=>k.cell (hc j u hu)⟩⟩
theorem Sl.nil (w:World)(sz:Nat):Sl w sz none 0 0 []:=⟨by simp,QD _,by simp[maxLen],λh=>Xd h (by omega)⟩
theorem Sl.take {w:World}{sz n c:Nat}{A:Option Addr}{cs:List Value}(h:Sl w sz A n c cs){m:Nat}(hm:m<=n):Sl w sz A m c (cs.take (m*sz)):=
 ⟨by rw[KZ,h.len];exact mi (Y4 _ hm),X2 hm h.le,h.cap,λhn=>let ⟨ad,e,hc⟩:=h.at_ (by omega);⟨ad,e,λj u hu=>hc j u (by
  rw[EI] at hu;split at hu<;>simp_all)⟩⟩
theorem Sl.own {w:World}{g t sz n c:Nat}{cs:List Value}(h:Blk w g t cs)(hn:n<=c)(hc:c<=maxLen)(hl:n*sz<=cs.length):Sl w sz (some ⟨g,0,none⟩) n c (cs.take (n*sz)):=
 ⟨by rw[KZ];exact mi hl,hn,hc,λ_=>⟨_,rfl,λj u hu=>by
  rw[h.cell];rw[EI] at hu;split at hu<;>simp_all⟩⟩
theorem Sl.own' {w:World}{g t n:Nat}{cs:List Value}(h:Blk w g t cs)(hl:cs.length=n)(hn:n<=maxLen):Sl w 1 (some ⟨g,0,none⟩) n n cs:=by
 have:=Sl.own (sz:=1) h (QD n) hn (by omega)
 rwa [Zz (by omega)] at this
theorem Kq {b:Bool}{p q:Prop}(hp:b=true->p)(hq:b=false->q):KL b p q:=by unfold KL;exact⟨hp,hq⟩
theorem Qt {c p q:Prop} [Decidable c](hp:c->p)(hq:¬c->q):KL (decide c) p q:=Kq (λh=>hp (eB h)) (λh=>hq (of_decide_eq_false h))
theorem Xe {b:Bool}{p q:Prop}(hb:b=true)(hp:p):KL b p q:=Kq (λ_=>hp) (λh=>by rw[hb] at h;cases h)
theorem Xv {b:Bool}{p q:Prop}(hb:b=false)(hq:q):KL b p q:=Kq (λh=>by rw[hb] at h;cases h) (λ_=>hq)
theorem Zd {c p q:Prop} [Decidable c](hc:c)(hp:p):KL (decide c) p q:=Xe (XT hc) hp
theorem Xx {c p q:Prop} [Decidable c](hc:¬c)(hq:q):KL (decide c) p q:=Xv (XS hc) hq
theorem XU {x y:Int}{p q:Prop}(hp:x=y->p)(hq:x≠y->q):KL (x==y) p q:=Kq (λh=>hp (by simpa using h)) (λh=>hq (by simpa using h))
theorem JN {x y:Int}{p q:Prop}(h:x=y)(hp:p):KL (x==y) p q:=Xe (by simpa using h) hp
theorem XW {x y:Int}{p q:Prop}(h:x≠y)(hq:q):KL (x==y) p q:=Xv (by simpa using h) hq
theorem Yt {x y:Int}{p q:Prop}(hp:x≠y->p)(hq:x=y->q):KL (x !=y) p q:=Kq (λh=>hp (by simpa using h)) (λh=>hq (by simpa using h))
theorem pG {x y:Int}{p q:Prop}(h:x≠y)(hp:p):KL (x !=y) p q:=Xe (by simpa using h) hp
theorem Y9 {x y:Int}{p q:Prop}(h:x=y)(hq:q):KL (x !=y) p q:=Xv (by simpa using h) hq
theorem cr {b:Bool}{p q:Prop}(h:KL b q p):KL (!b) p q:=by unfold KL at*;cases b<;>simp_all
theorem norm {n m:Int}{K:Int->Prop}(h:n=m)(k:K m):aW n K:=by unfold aW;rw[h];exact k
theorem cQk {n:Int}{K:Int->Prop}(h: -9223372036854775808<=n/\n<=9223372036854775807)(k:K n):aW (IntKind.i64.wrap n) K:=norm (IntWalk.i64_in n h) k
theorem Ax {n:Int}{K:Int->Prop}(h:0<=n/\n<=18446744073709551615)(k:K n):aW (IntKind.u64.wrap n) K:=norm (IntWalk.u64_in n h) k
theorem cQl {n:Int}{K:Int->Prop}(h:0<=n/\n<=255)(k:K n):aW (IntKind.u8.wrap n) K:=norm (IntWalk.u8_in n h) k
theorem Qj {n:Int}{K:Int->Prop}(m:Int)(hm:n=m)(h: -9223372036854775808<=m/\m<=9223372036854775807)(k:K m):aW (IntKind.i64.wrap n) K:=by subst hm;exact cQk h k
theorem gP {n:Int}{K:Int->Prop}(m:Int)(hm:n=m)(h:0<=m/\m<=18446744073709551615)(k:K m):aW (IntKind.u64.wrap n) K:=by subst hm;exact Ax h k
theorem OE {n:Int}{K:Int->Prop}(m:Int)(hm:n=m)(h:0<=m/\m<=255)(k:K m):aW (IntKind.u8.wrap n) K:=by subst hm;exact cQl h k
theorem normIf {p:Prop}{n m:Int}{K:Int->Prop}(hp:p)(h:n=m)(k:K m):fW p n K:=by unfold fW;rw[h];exact⟨hp,k⟩
theorem need {p:Prop}{v:Value}{K:Value->Prop}(hp:p)(k:K v):i6 p v K:=by unfold i6;exact⟨hp,k⟩
theorem OF {a b s:Nat}{K:Int->Prop}(hs:a ||| b=s)(ha:a<18446744073709551616)(hb:b<18446744073709551616)(k:K (s:Int)):aW (IntKind.u64.wrap ((BitVec.ofInt IntKind.u64.bits (a:Int) ||| BitVec.ofInt IntKind.u64.bits (b:Int)).toNat:Int)) K:=by
 have Q5:a ||| b<2^64:=Nat.or_lt_two_pow (by omega) (by omega)
 refine norm ?_ k;rw[BitVec.toNat_or,BitVec.ofInt_natCast,BitVec.ofInt_natCast,BitVec.toNat_ofNat,BitVec.toNat_ofNat];simp only[IntKind.bits];rw[iX (by omega),iX (by omega),hs];rw[hs] at Q5;exact IntWalk.u64_in _ (by omega)
theorem cQm (x:Nat)(n:Nat):(x:Int).fdiv (2^n)=((x/2^n:Nat):Int):=by
 rw[Int.fdiv_eq_ediv_of_nonneg _ (Int.le_of_lt (Int.pow_pos (by decide)))]
 norm_cast
theorem cQn (n:Nat):IntKind.u32.wrap (n:Int)=((n % 4294967296:Nat):Int):=by rw[IntKind.wrap_u32];omega
theorem Fi (a b:Nat):(a:Int).tmod (b:Int)=((a % b:Nat):Int):=by rw[Int.tmod_eq_emod_of_nonneg (by omega)];norm_cast
theorem Ay (a b:Nat):(a:Int).tdiv (b:Int)=((a/b:Nat):Int):=by rw[Int.tdiv_eq_ediv_of_nonneg (by omega)];norm_cast
theorem vJ {x:Nat}{k:IntKind}{y:Int}{K:Int->Prop}(n d:Nat)(hy:0<=y)(hn:min y.toNat k.bits=n)(hd:2^n=d)(h:K ((x/d:Nat):Int)):fW (0<=y) ((x:Int).fdiv (2^(min y.toNat k.bits))) K:=by
 subst hd;rw[hn];exact(by unfold fW;exact⟨hy,by rw[cQm];exact h⟩)
theorem Az {n:Nat}{K:Int->Prop}(k:K ((n % 4294967296:Nat):Int)):aW (IntKind.u32.wrap (n:Int)) K:=norm (cQn n) k
theorem AA {x:Nat}{d:Nat}{K:Int->Prop}(hd:0<d)(k:K ((x % d:Nat):Int)):fW ((d:Int)≠0) ((x:Int).tmod d) K:=normIf (by omega) (Fi x d) k
theorem load {w:World}{p:Addr}{v:Value}{K:Value->Prop}(h:w.cell? p=some v)(k:K v):gM w p K:=by unfold gM;exact⟨v,h,k⟩
theorem Qp {w:World}{g t:Nat}{cs:List Value}{j:Nat}{v:Value}{K:Value->Prop}(h:Blk w g t cs)(hv:cs[j]? =some v)(k:K v):gM w ((⟨g,0,none⟩:Addr).add j) K:=load (by rw[h.cell];exact hv) k
theorem sE {w:World}{g t:Nat}{cs:List Value}{j:Nat}{v:Value}{K:World->Prop}(h:Blk w g t cs)(hj:j<cs.length)(k:∀w1,w.grownBy w1 (some g)->Blk w1 g t (cs.set j v)->K w1):eD w ((⟨g,0,none⟩:Addr).add j) v K:=by
 unfold eD;refine⟨⟨cs[j],by rw[h.cell];simp[hj]⟩,h.frozen j,k _ ?_ (h.set j v)⟩;have:=cQj w ((⟨g,0,none⟩:Addr).add j) v;rw[pF] at this ⊢;exact this
theorem index {a:Addr}{n j:Nat}{K:Addr->Prop}(hj:j<n)(k:K (a.add j)):Y7 (some a) n (j:Int) 1 K:=by
 unfold Y7;exact⟨a,rfl,by omega,by omega,by simpa using k⟩
theorem JZ {a:Addr}{n j sz:Nat}{K:Addr->Prop}(hj:j<n)(k:K (a.add (j*sz))):Y7 (some a) n (j:Int) sz K:=by
 unfold Y7;exact⟨a,rfl,by omega,by omega,by simpa using k⟩
theorem ZF {w:World}{A:Option Addr}{n c j:Nat}{cs:List Value}{K:Addr->Prop}(h:Sl w 1 A n c cs)(hj:j<n)(k:∀ad u,A=some ad->cs[j]? =some u->w.cell? (ad.add j)=some u->K (ad.add j)):Y7 A n (j:Int) 1 K:=by
 obtain⟨ad,rfl,hc⟩:=h.at_ (by omega);have hl:j<cs.length:=by have:=h.len;omega
 exact index hj (k ad cs[j] rfl (by simp[hl]) (hc j _ (by simp[hl])))
theorem cQo {s:ByteArray}{j:Nat}{K:Int->Prop}(hj:j<s.size)(k:K (s[j].toNat:Int)):eE s (j:Int) K:=by
 unfold eE;exact⟨s[j],by omega,by simp[hj],k⟩
theorem QJ {C:World->Prop}{p:Addr}{v:Value}{K:Value->Prop}(h:∀w,C w->w.cell? p=some v)(k:K v):sA C p K:=by unfold sA;exact⟨v,h,k⟩
theorem vK {c:Cx}(hg:c.g.Ok){id:Nat}{ops:List Oper}{S:Env}{w:World}{Q:Zj}(hB:Region.lexB .any ops.toArray=true)
  (h:ay c ops ops S (Ext w) (λS=>∀w',Ext w w'->Q .normal S w')):aw c id ops S w Q:=cQh hg (Ext w) (Ext.drew w) hB h
theorem JJ {c:Cx}{o:Oper}{S:Env}{w w':World}{K:Env->World->Prop}{Q:Zj}{v:Value}(h:∀a,Fits c.N S a->(execOp a.eval o).run c.g.P w= .ok (.value v) w')(k:Xn c S o.dst (.v v) (λS=>K S w')):Zc c o S w K Q:=by
 unfold Zc;intro a hf;exact bI (h a hf) (ZA (e:=.v v) k hf)
theorem OG (z:Value)(n:Nat):madeCells #[z] n=Array.replicate n z:=by
 apply Array.ext
 ·simp[madeCells]
 ·intro i h1 h2;simp[madeCells,Nat.mod_one]
theorem AB {c:Cx}(hg:c.g.Ok){o:Oper}{S:Env}{w:World}{K:Env->World->Prop}{Q:Zj}{t e:Nat}{x y:Operand}{n:Nat}{r re:TyRow}(ho:o.op= .makeSlice t x y)(hr:QX c.g.tys t=some r)(hd:r.d= .slice e)(Zb:QX c.g.tys e=some re)(hz:re.z.cells= #[re.z])
  (hs:re.sz=1) (hx:S.ev x=some (.int .i64 n)) (hy:S.ev y=some (.int .i64 n)) (hb:re.by_*n<=281474976710656) (hn:n<=maxLen)
  (k:∀w1,Ext w w1->w1.heap.size=w.heap.size+1->Blk w1 w.heap.size e (List.replicate n re.z)->Xn c S o.dst (.v (.slice (some ⟨w.heap.size,0,none⟩) n n)) (λS=>K S w1)):Zc c o S w K Q:=by
 obtain⟨_,i,hi,XG,Wu,cd⟩:=hg.row Zb;have Xc:=(hg.row hr).1;rw[hd] at Xc;have bT:=run_make (P:=c.g.P) w t e i re.z Xc hi cd .i64 .i64 n n (by omega) (by omega) (by rw[Wu];omega) (by unfold maxLen at hn;omega);rw[hz,XG,hs,OG] at bT;refine JJ (w':=w.alloc (.cells (Array.replicate n re.z) e)) (v:=.slice (some ⟨w.heap.size,0,none⟩) n n) (λa hf=>?_) (k _ (Ext.alloc w _) (by simp) ?_)
 ·have e1:=hf.ev hx;have e2:=hf.ev hy;simp only[execOp,ho,e1,e2];simp at bT ⊢;rw[bT]<;>rfl
 ·have:=Blk.new w e (List.replicate n re.z);simpa using this
theorem ct {c:Cx}(hg:c.g.Ok){o:Oper}{S:Env}{w:World}{K:Env->World->Prop}{Q:Zj}{t e:Nat}{x y:Operand}{A:Option Addr}{n cp:Nat}{h:Nat}{r:TyRow}(ho:o.op= .slice t x none (some y) none)(hr:QX c.g.tys t=some r)(hd:r.d= .slice e){re:TyRow}(Zb:QX c.g.tys e=some re)
  (hx:S.ev x=some (.slice A n cp)) (hy:S.ev y=some (.int .i64 h)) (hh:h<=cp)
  (k:Xn c S o.dst (.v (.slice A h cp)) (λS=>K S w)):Zc c o S w K Q:=by
 have Xc:=(hg.row hr).1;rw[hd] at Xc;refine JJ (w':=w) (λa hf=>?_) k;have e1:=hf.ev hx;have e2:=hf.ev hy;simp[execOp,ho,e1,e2,Instr.sliceAt,Instr.slice,ZX Xc,Instr.sliceBounds,Instr.sliceBound,asIntOf,hh,run_sizeOf hg Zb];intro _;cases A<;>simp[Addr.add]
theorem sF {c:Cx}(hg:c.g.Ok){o:Oper}{S:Env}{w:World}{K:Env->World->Prop}{Q:Zj}{t e:Nat}{x y:Operand}{A:Option Addr}{n cp:Nat}{l:Nat}{r:TyRow}(ho:o.op= .slice t x (some y) none none)(hr:QX c.g.tys t=some r)(hd:r.d= .slice e){re:TyRow}(Zb:QX c.g.tys e=some re)
  (hx:S.ev x=some (.slice A n cp)) (hy:S.ev y=some (.int .i64 l)) (hl:l<=n)
  (k:Xn c S o.dst (.v (.slice (if cp=l then A else A.map (·.add (l*re.sz))) (n-l) (cp-l))) (λS=>K S w)):Zc c o S w K Q:=by
 have Xc:=(hg.row hr).1;rw[hd] at Xc;refine JJ (w':=w) (λa hf=>?_) k;have e1:=hf.ev hx;have e2:=hf.ev hy;simp[execOp,ho,e1,e2,Instr.sliceAt,Instr.slice,ZX Xc,Instr.sliceBounds,Instr.sliceBound,asIntOf,hl,run_sizeOf hg Zb]
structure Own (w:World) (base e sz:Nat) (A:Option Addr) (n c:Nat) (cs:List Value):Prop where
 row:w.ownsRow base e sz (.slice A n c) n cs
theorem oQv {w:World}{base e sz:Nat}{v:Value}{n:Nat}{cs:List Value}(h:w.ownsRow base e sz v n cs):∃A c,v= .slice A n c/\Own w base e sz A n c cs:=by
 rcases h.2 with⟨rfl,rfl⟩ | ⟨g,cap,Ju,rfl,r⟩
 ·exact⟨none,0,rfl,⟨h⟩⟩
 ·exact⟨_,cap,rfl,⟨h⟩⟩
theorem Own.sl {w:World}{base e sz n c:Nat}{A:Option Addr}{cs:List Value}(h:Own w base e sz A n c cs):Sl w sz A n c cs:=by
 have h:=h.row;have h1:=h.1;rcases h.2 with⟨hv,rfl⟩ | ⟨g,cap,Ju,hv,hb,hg,hn,hm,hs,ht⟩
 ·cases hv;exact⟨h1,QD _,by simp[maxLen],λh=>Xd h (by omega)⟩
 ·cases hv;refine⟨h1,hn,hm,λ_=>⟨_,rfl,λj u hu=>?_⟩⟩;exact World.ownsRow.cells h (g:=g) rfl j u hu
theorem Own.ext {w w':World}{base e sz n c:Nat}{A:Option Addr}{cs:List Value}(h:Own w base e sz A n c cs)(k:Ext w w'):Own w' base e sz A n c cs:=
 ⟨h.row.kept k (by cases hv:(Value.slice A n c).ownBlock<;>simp)⟩
theorem Own.empty {w:World}{g e sz:Nat}{base:Nat}(h:Blk w g e [])(hb:base<=g):Own w base e sz (some ⟨g,0,none⟩) 0 0 []:=
 ⟨⟨by simp,.inr ⟨g,0,_,rfl,hb,h,QD _,by simp[maxLen],by simp,by simp⟩⟩⟩
theorem Own.nil (w:World)(base e sz:Nat):Own w base e sz none 0 0 []:=⟨World.ownsRow_nil w base e sz⟩
theorem Own.blk {w:World}{base e n c:Nat}{A:Option Addr}{cs:List Value}(h:Own w base e 1 A n c cs)(hn:0<n):∃g sp,A=some ⟨g,0,none⟩/\base<=g/\Blk w g e (cs++sp)/\(cs++sp).length=c:=by
 have h:=h.row;rcases h.2 with⟨hv,rfl⟩ | ⟨g,cap,Ju,hv,hb,hg,Kz,hm,hs,ht⟩
 ·omega
 ·cases hv;refine⟨g,Ju.toList.drop n,rfl,hb,?_⟩;rw[WV] at ht;rw[<-ht,mj];exact⟨by simpa [Blk] using hg,by simpa using hs⟩
theorem pH (a:Addr)(j:Nat):(a.add j).block=a.block:=by unfold Addr.add;split<;>rfl
theorem AC {u:Value}(h:Jw u=true):u.oneCell'=true:=by cases u<;>first | rfl | (simp[Jw] at h)
theorem cQp (z v:Value)(h:Jw v=true):Instr.fill (λi=>some (i*1,1)) #[z] [(0,v)]=some #[v]:=by
 have hc:v.cells= #[v]:=by cases v<;>first | rfl | (simp[Jw] at h)
 simp[Instr.fill,hc]
theorem cQq (z v u:Value)(h:Jw v=true)(h':Jw u=true):Instr.fill (λi=>some (i*1,1)) #[z,z] [(0,v),(1,u)]=some #[v,u]:=by
 have hc:v.cells= #[v]:=by cases v<;>first | rfl | (simp[Jw] at h)
 have Kl:u.cells= #[u]:=by cases u<;>first | rfl | (simp[Jw] at h')
 simp[Instr.fill,hc,Kl]
section
variable {c:Cx} (hg:c.g.Ok) {o:Oper} {S:Env} {w:World} {K:Env->World->Prop} {Q:Zj} {t e:Nat} {r re:TyRow}
include hg
theorem OH (hr:QX c.g.tys t=some r)(hd:r.d= .slice e)(Zb:QX c.g.tys e=some re)(hs:re.sz=1)(hz:re.z.cells= #[re.z])(n:Nat)(hn:n<=1000)(parts:Array (Nat×Value))(cs:List Value)
  (hf:Instr.fill (λi=>some (i*1,1)) (Array.replicate n re.z) parts.toList=some cs.toArray):
  (Instr.buildSlice t n parts).run c.g.P w= .ok (.slice (some ⟨w.heap.size,0,none⟩) n n) (w.alloc (.cells cs.toArray e)):=by
 obtain⟨_,i,hi,XG,oI,cd⟩:=hg.row Zb;have Xc:=(hg.row hr).1;rw[hd] at Xc;have e1:(Array.range n).map (λj=>(#[re.z]:Array Value)[j % (#[re.z]:Array Value).size]!)=Array.replicate n re.z:=OG re.z n;have ib:¬(16777216<n):=by omega
 by_cases h0:n=0
 ·subst h0;simp[Instr.buildSlice,ZX Xc,sizeOf,typeInfo,hi,XG,hs,newRow] at hf ⊢;rw[show Array.map (λ_=>(default:Value)) (Array.range 0)= #[] by simp[Array.range_zero'],hf];simp
 ·simp[Instr.buildSlice,ZX Xc,sizeOf,typeInfo,hi,XG,hs,newRow,ib,h0,zeroValue,cd,hz];simp at e1 hf;rw[e1,hf];simp
theorem OI {x:Operand}{v:Value}(ho:o.op= .buildSlice t 1 #[(0,x)])(hr:QX c.g.tys t=some r)(hd:r.d= .slice e)(Zb:QX c.g.tys e=some re)(hs:re.sz=1)(hz:re.z.cells= #[re.z])(hx:S.ev x=some v)(hv:Jw v=true)
  (k:∀w1,Ext w w1->w1.heap.size=w.heap.size+1->Blk w1 w.heap.size e [v]->Xn c S o.dst (.v (.slice (some ⟨w.heap.size,0,none⟩) 1 1)) (λS=>K S w1)):Zc c o S w K Q:=by
 have Jj:=OH (w:=w) hg hr hd Zb hs hz 1 (by omega) #[(0,v)] [v] (cQp re.z v hv);refine JJ (w':=w.alloc (.cells #[v] e)) (λa hf=>?_) (k _ (Ext.alloc w _) (by simp) (Blk.new w e [v]));have e1:=hf.ev hx;simp only[execOp,ho];simp[e1,Jj]
theorem sG {x y:Operand}{v u:Value}(ho:o.op= .buildSlice t 2 #[(0,x),(1,y)])(hr:QX c.g.tys t=some r)(hd:r.d= .slice e)(Zb:QX c.g.tys e=some re)(hs:re.sz=1)(hz:re.z.cells= #[re.z])(hx:S.ev x=some v)(hy:S.ev y=some u)(hv:Jw v=true)(hu:Jw u=true)
  (k:∀w1,Ext w w1->w1.heap.size=w.heap.size+1->Blk w1 w.heap.size e [v,u]->Xn c S o.dst (.v (.slice (some ⟨w.heap.size,0,none⟩) 2 2)) (λS=>K S w1)):Zc c o S w K Q:=by
 have Jj:=OH (w:=w) hg hr hd Zb hs hz 2 (by omega) #[(0,v),(1,u)] [v,u] (cQq re.z v u hv hu);refine JJ (w':=w.alloc (.cells #[v,u] e)) (λa hf=>?_) (k _ (Ext.alloc w _) (by simp) (Blk.new w e [v,u]));have e1:=hf.ev hx;have e2:=hf.ev hy;simp only[execOp,ho];simp[e1,e2,Jj]
end
theorem cQr {c:Cx}(hg:c.g.Ok){o:Oper}{S:Env}{w:World}{K:Env->World->Prop}{Q:Zj}{t t2 e:Nat}{x y:Operand}{g n cp:Nat}{A:Option Addr}{m c2:Nat}{xs ys:List Value}{r re:TyRow}
  (ho:o.op= .call ⟨.builtin .copy, #[x,y], #[t,t2]⟩) (hr:QX c.g.tys t=some r) (hd:r.d= .slice e) (Zb:QX c.g.tys e=some re) (hs:re.sz=1)
  (hx:S.ev x=some (.slice (some ⟨g,0,none⟩) n cp)) (hy:S.ev y=some (.slice A m c2)) (hb:Blk w g e xs) (gA:Sl w 1 A m c2 ys) (Ef:m<=n) (di:n<=xs.length) (gB:∀u∈ys,Jw u=true)
  (k:∀w1,w.grownBy w1 (some g)->w1.heap.size=w.heap.size->Blk w1 g e (ys++xs.drop m)->Xn c S o.dst (.v (.int .i64 m)) (λS=>K S w1)):Zc c o S w K Q:=by
 obtain⟨_,i,hi,XG,oI,cd⟩:=hg.row Zb;have Xc:=(hg.row hr).1;rw[hd] at Xc;have Xf:ys.length=m:=by have:=gA.len;omega
 have Mm:(Builtin.firstCells 1 m (.slice A m c2)).run c.g.P w= .ok ys.toArray w:=by
  by_cases h0:m=0
  ·subst h0;have:ys=[]:=Ys Xf;subst this;cases A<;>simp[Builtin.firstCells,loadCells,loadCellsFrom]
  ·obtain⟨ad,rfl,hc⟩:=gA.at_ (by omega);have:=run_loadCells_list (P:=c.g.P) (w:=w) ad ys hc;rw[Xf] at this;simpa [Builtin.firstCells] using this
 have am:=run_storeCells_at c.g.P g 0 e ys 0 xs.toArray w hb (by simp;omega) (λu hu=>AC (gB u hu));simp only[aq,Nat.add_zero] at am;have oJ:Nat.min m n=m:=mi Ef;refine JJ (w':=w.setRow g (ys++xs.drop m).toArray) (v:=.int .i64 m) (λa hf=>?_) (k _ ?_ (by simp) ?_)
 ·have e1:=hf.ev hx;have e2:=hf.ev hy;have mQe:(storeCells (⟨g,0,none⟩:Addr) ys).run c.g.P w= .ok () (w.setRow g (ys++xs.drop m).toArray):=by
   have:=am;rw[Xf] at this;simpa [pF] using this
  simp only[execOp,ho,resolve,invoke];simp[builtin,e1,e2,Builtin.copy_,ZX Xc,sizeOf,typeInfo,hi,XG,hs,Builtin.lenOf,oJ,Mm,mQe,goInt]
 ·exact⟨rfl,rfl,rfl,by simp,λj _ hj=>setRow_other w g j _ (λe=>hj (by rw[e]))⟩
 ·exact setRow_heap w g xs.toArray _ e _ hb
def Jx (l:List Nat):List Value:=l.map λ(x:Nat)=>.int .u8 x
def Qe (l:List Nat):ByteArray:=⟨(l.map UInt8.ofNat).toArray⟩
theorem Fj {l:List Nat}{j x:Nat}(h:l[j]? =some x):(Jx l)[j]? =some (.int .u8 (x:Int)):=by simp[Jx,h]
theorem AE (l m:List Nat):Jx (l++m)=Jx l++Jx m:=by simp[Jx]
theorem vL (l:List Nat):(Jx l).length=l.length:=by simp[Jx]
theorem mQS (l:List Nat):∀u∈Jx l,Jw u=true:=by
 intro u hu;simp only[Jx,ZM] at hu;obtain⟨x,_,rfl⟩:=hu;rfl
theorem dB (l m:List Nat):Qe l++Qe m=Qe (l++m):=by
 apply ByteArray.ext;simp[Qe,ByteArray.data_append]
theorem XC (l:List Nat):(Qe l).size=l.length:=by simp[Qe,ByteArray.size]
def Yu (s:ByteArray):List Nat:=s.data.toList.map UInt8.toNat
theorem sH (s:ByteArray):(Yu s).length=s.size:=by simp[Yu]
theorem OJ (s:ByteArray):∀x∈Yu s,x<256:=by
 intro x hx;simp only[Yu,ZM] at hx;obtain⟨b,_,rfl⟩:=hx;exact b.toNat_lt
theorem OK {s:ByteArray}{j:Nat}(hj:j<s.size):(Yu s)[j]? =some s[j].toNat:=by
 have h':j<s.data.size:=hj;have:s[j]=s.data[j]:=rfl;rw[this];simp only[Yu,Vi,Array.getElem?_toList];rw[Array.getElem?_eq_getElem h']<;>rfl
theorem az {s:ByteArray}{j:Nat}{K:Int->Prop}(hj:j<s.size)(k:∀x,(Yu s)[j]? =some x->x<256->K (x:Int)):eE s (j:Int) K:=
 cQo hj (k _ (OK hj) (s[j]).toNat_lt)
theorem OL (s:ByteArray):Qe (Yu s)=s:=by
 apply ByteArray.ext;simp[Qe,Yu,Function.comp_def]
theorem Wa {l:List Nat}(h:∀x∈l,x<256):Yu (Qe l)=l:=by
 simp only[Yu,Qe,zM]
 conv=>rhs;rw[<-List.map_id l]
 apply List.map_congr_left;intro x hx;simp[iX (h x hx)]
theorem Z6 {l m:List Nat}(hl:∀x∈l,x<256)(hm:∀x∈m,x<256)(h:Qe l=Qe m):l=m:=by
 rw[<-Wa hl,<-Wa hm,h]
end
section
section
variable {P:Program} {ops:Array Oper} {md:Region.Mode} {C:World->Prop} {Q:Exit->Act->World->Prop}
def NoPan (Q:Exit->Act->World->Prop):Exit->Act->World->Prop
 | .panic _,_,_=>False
 | e,a,w=>Q e a w
theorem NoPan.imp {Q:Exit->Act->World->Prop}:∀(e:Exit)(a:Act)(w:World),NoPan Q e a w->Q e a w:=λe a w h=>by
 cases e<;>first | exact h | exact(h:False).elim
def aA (P:Program)(md:Region.Mode)(ops:Array Oper)(Q:Exit->Act->World->Prop)(C:World->Prop)(n:Nat)(L:Array Bool->Act->World->Prop):Nat->Array Bool->Act->World->Prop
 | 0,listed,a,w=>L listed a w
 | f+1,listed,a,w=>
  Region.ready md ops listed≠ []/\∀i∈Region.ready md ops listed,i<n/\wpOp P ops Q i (λa' w'=>C w'/\aA P md ops Q C n L f (listed.setIfInBounds i true) a' w') a w
theorem vM {n g:Nat}{L:Array Bool->Act->World->Prop}(hL:∀listed a w,L listed a w->wpAny P md ops Q g listed a w):
  ∀(f:Nat) (listed:Array Bool) (a:Act) (w:World),aA P md ops Q C n L f listed a w->wpAny P md ops Q (f+g) listed a w
 | 0,listed,a,w,h=>by rw[aq];exact hL _ _ _ h
 | f+1,listed,a,w,h=>by
  rw[show f+1+g=(f+g)+1 by omega];exact⟨λh0=>Xd h0 h.1,λi hi=>wpOp_mono (λa' w' h'=>vM hL f _ a' w' h'.2) (h.2 i hi).2⟩
def kl (md:Region.Mode)(ops:Array Oper)(n:Nat):Prop:=n=ops.size∨(n<ops.size/\Region.sinkB md ops n=true/\Region.chainB md ops n=true)
theorem sI {n i:Nat}{listed:Array Bool}(hs:kl md ops n)(inv:HeadInv md ops n listed)(QN:i<n)(JV:listed.getD i true=false):∀j∈Region.ready md ops listed,j<n:=by
 intro j hj;rcases hs with hs | ⟨h1,h2,h3⟩
 ·obtain⟨_,oj,fC,_⟩:=mem_ready.1 hj;rw[hs];exact(iW.1 fC).1
 ·rcases Nat.lt_or_ge j n with h | h
  ·exact h
  ·exact Xd hj (tail_waits h2 h3 h1 inv _ i rfl QN JV j h)
theorem OM {n i:Nat}{oi:Oper}{v:Value}{L:Array Bool->Act->World->Prop}(hi:ops[i]? =some oi)(oK:∀(j:Nat)(o:Oper) cs b,ops[j]? =some o->o.op≠ .select cs b)
  (hs:kl md ops n) (QN:i<n) (yM:∀listed a w,L listed a w->∀j∈Region.ready md ops listed,n<=j):
  ∀(f:Nat) (listed:Array Bool) (a:Act) (w:World),HeadInv md ops n listed->
   (∀j oj,ops[j]? =some oj->j≠i->listed.getD j true=false->(∀e∈oj.after,Region.binds md e=true->e.on≠i)->oi.apart ops oj=true)->
   i∈Region.ready md ops listed->YieldsIf P ops C oi v a->C w->
   aA P md ops (NoPan Q) C n L f (listed.setIfInBounds i true) (a.put oi.dst v) w->aA P md ops (NoPan Q) C n L (f+1) listed a w:=by
 intro f;induction f with
 | zero=>
  intro listed a w inv _ hr hy hC H;have JV:=(mem_ready.1 hr).1;refine⟨λh=>(by rw[h] at hr;cases hr),λj hj=>?_⟩;have JW:=sI hs inv QN JV j hj;refine⟨JW,?_⟩;by_cases Kp:j=i
  ·subst Kp;exact hy.wpOp hi hC ⟨hC,H⟩
  ·have:=yM _ _ _ H j (ready_mono hj Kp);omega
 | succ f ih=>
  intro listed a w inv oL hr hy hC H;have JV:=(mem_ready.1 hr).1;refine⟨λh=>(by rw[h] at hr;cases hr),λj hj=>?_⟩;have JW:=sI hs inv QN JV j hj;refine⟨JW,?_⟩;by_cases Kp:j=i
  ·subst Kp;exact hy.wpOp hi hC ⟨hC,H⟩
  ·have h1:=(H.2 j (ready_mono hj Kp)).2;obtain⟨oM,oj,fC,hall⟩:=mem_ready.1 hj;have lO:∀e∈oj.after,Region.binds md e=true->e.on≠i:=λe he hb heq=>by
    have h1:=hall e he hb;rw[heq,getD_both JV] at h1;cases h1
   have h2:=wpOp_putIf fC (oL j oj fC Kp oM lO) (λcs b=>oK i oi cs b hi) (λcs b=>oK j oj cs b fC) (λ_ _ _ h=>h) hy h1;have yN:∀k ok,ops[k]? =some ok->k≠i->(listed.setIfInBounds j true).getD k true=false->
     (∀e∈ok.after,Region.binds md e=true->e.on≠i)->oi.apart ops ok=true:=λk ok hk yO JV Xa=>by
    refine oL k ok hk yO ?_ Xa;by_cases oN:j=k
    ·subst oN;exact oM
    ·rw[getD_set_ne true oN] at JV;exact JV
   refine wpOp_mono (λa' w' h3=>⟨h3.2.1,ih (listed.setIfInBounds j true) a' w' (inv.set hj JW) yN (ready_mono hr (Ne.symm Kp)) h3.1 h3.2.1 ?_⟩) h2;rw[bQM _ _ Kp];exact h3.2.2
def dC (md:Region.Mode)(ops:Array Oper)(n:Nat):List (Bool×Nat)->Array Bool->Bool
 | [],listed=>Region.seqB md ops (ops.size-n) n listed
 | (true,k)::l,listed=>Nat.blt k n&&(Region.ready md ops listed).contains k&&Region.free md ops listed k&&dC md ops n l (listed.setIfInBounds k true)
 | (false,k)::l,listed=>Nat.blt k n&&decide (Region.ready md ops listed=[k])&&dC md ops n l (listed.setIfInBounds k true)
def sJ (md:Region.Mode)(ops:Array Oper)(n:Nat):Bool:=Nat.beq n ops.size||(Nat.blt n ops.size&&Region.sinkB md ops n&&Region.chainB md ops n)
theorem AF {n:Nat}(h:sJ md ops n=true):kl md ops n:=by
 simp only[sJ,Bool.or_eq_true,Jv] at h;rcases h with h | ⟨⟨h1,h2⟩,h3⟩
 ·exact .inl (VR h)
 ·exact .inr ⟨by rw[j0] at h1;exact h1,h2,h3⟩
end
section
variable {c:Cx} {S:Env} {a:Act}
@[irreducible] def cv (c:Cx) (o:Oper) (S:Env) (C:World->Prop) (K:Env->Prop):Prop:=∃v,(∀a w,Fits c.N S a->C w->(execOp a.eval o).run c.g.P w= .ok (.value v) w)/\Xn c S o.dst (.v v) K
def sK (c:Cx)(o:Oper)(S:Env)(C:World->Prop)(K:Env->Prop):Prop:=
 match su c.g S o.op with
 | .val v=>Xn c S o.dst (.v v) K
 | .ent e=>Xn c S o.dst e K
 | .norm k n=>aW n (λm=>Xn c S o.dst (.v (.int k m)) K)
 | .normIf p k n=>fW p n (λm=>Xn c S o.dst (.v (.int k m)) K)
 | .need p v=>i6 p v (λv=>Xn c S o.dst (.v v) K)
 | .no=>match o.op with
  | .load t x=>(match QX c.g.tys t,S.ev x with
   | some r,some (.pointer (some p))=>(match pz r.d with
    | false=>sA C p (λv=>Xn c S o.dst (.v v) K)
    | true=>sB C p r.sz (λvs=>Xn c S o.dst (.v (.agg vs.toArray)) K))
   | _,_=>cv c o S C K)
  | .indexAddr t x i=>(match QX c.g.tys t,S.ev x,S.ev i with
   | some ⟨_,.slice e,_,_,_⟩,some (.slice b n _),some (.int _ i)=>(match QX c.g.tys e with
    | some r=>Y7 b n i r.sz (λp=>Xn c S o.dst (.v (.pointer (some p))) K)
    | none=>cv c o S C K)
   | some ⟨_,.array n e,_,_,_⟩,some (.pointer (some p)),some (.int _ i)=>(match QX c.g.tys e with
    | some r=>Y7 (some p) n i r.sz (λp=>Xn c S o.dst (.v (.pointer (some p))) K)
    | none=>cv c o S C K)
   | _,_,_=>cv c o S C K)
  | .index t x i=>(match QX c.g.tys t,S.ev x,S.ev i with
   | some ⟨_,.string,_,_,_⟩,some (.string s),some (.int _ i)=>eE s i (λb=>Xn c S o.dst (.v (.int .u8 b)) K)
   | _,_,_=>cv c o S C K)
  | _=>cv c o S C K
def je (all:List Oper)(o:Oper)(S:Env)(yes no:Env->Prop):Prop:=match o.guard with
 | none=>yes S
 | some (
     j,want)=>match VU all j with
  | some oj=>(match oj.dst with
   | some d=>(match S.ent d with
    | some .t=>(match want with
     | true=>yes S
     | false=>no S)
    | some .f=>(match want with
     | false=>yes S
     | true=>no S)
    | some (.v (.bool b))=>(match want with
     | true=>KL b (yes ((d,.t)::S)) (no ((d,.f)::S))
     | false=>KL b (no ((d,.t)::S)) (yes ((d,.f)::S)))
    | some (.v (.tuple _))=>no S
    | _=>False)
   | none=>False)
  | none=>False
def kn (c:Cx)(all:List Oper)(C:World->Prop):List (Bool×Nat)->Env->World->(Env->World->Prop)->Prop
 | [],S,w,K=>K S w
 | (true,k)::l,S,w,K=>match VU all k with
  | some o=>je all o S (λS=>sK c o S C (λS=>kn c all C l S w K)) (λS=>Xn c S o.dst (.v undef) (λS=>kn c all C l S w K))
  | none=>False
 | (false,k)::l,S,w,K=>match VU all k with
  | some o=>je all o S (λS=>eF c o S w (λS w=>C w/\kn c all C l S w K) (λ_ _ _=>False)) (λS=>Xn c S o.dst (.v undef) (λS=>kn c all C l S w K))
  | none=>False
theorem mI {all:List Oper}{o:Oper}{yes no:Env->Prop}(h:je all o S yes no)(hf:Fits c.N S a):
  (Region.wanted o (yielded all.toArray a.tmps)=true/\∃S',Fits c.N S' a/\yes S')∨(Region.wanted o (yielded all.toArray a.tmps)=false/\∃S',Fits c.N S' a/\no S'):=by
 have fit:∀(d:Nat) (b:Bool) (e:Ent),S.ent d=some (.v (.bool b))->e.val= .bool b->Fits c.N ((d,e)::S) a:=λd b e hd he=>by
  refine⟨hf.size,hf.defers,λk x hk=>?_⟩;simp only[Env.ent] at hk;split at hk
  ·rename_i hb;have:=VR hb;subst this;cases hk;rw[he];exact hf.has _ _ hd
  ·exact hf.has _ _ hk
 unfold je at h;split at h
 ·rename_i KG;exact .inl ⟨by simp[Region.wanted,KG],S,hf,h⟩
 ·rename_i j want KG;split at h
  ·rename_i oj hj;split at h
   ·rename_i d hd;split at h
    ·rename_i ZK;have hw:=kg KG hj hd (hf.has _ _ ZK);split at h
     ·exact .inl ⟨by rw[hw];rfl,S,hf,h⟩
     ·exact .inr ⟨by rw[hw];rfl,S,hf,h⟩
    ·rename_i ZK;have hw:=kg KG hj hd (hf.has _ _ ZK);split at h
     ·exact .inl ⟨by rw[hw];rfl,S,hf,h⟩
     ·exact .inr ⟨by rw[hw];rfl,S,hf,h⟩
    ·rename_i b ZK;have hw:=kg KG hj hd (hf.has _ _ ZK);split at h
     ·unfold KL at h;cases b with
      | true=>exact .inl ⟨by rw[hw];rfl,_,fit d true .t ZK rfl,h.1 rfl⟩
      | false=>exact .inr ⟨by rw[hw];rfl,_,fit d false .f ZK rfl,h.2 rfl⟩
     ·unfold KL at h;cases b with
      | true=>exact .inr ⟨by rw[hw];rfl,_,fit d true .t ZK rfl,h.1 rfl⟩
      | false=>exact .inl ⟨by rw[hw];rfl,_,fit d false .f ZK rfl,h.2 rfl⟩
    ·rename_i ZK;exact .inr ⟨Fd KG hj hd (hf.has _ _ ZK),S,hf,h⟩
    ·exact h.elim
   ·exact h.elim
  ·exact h.elim
theorem AG (hg:c.g.Ok){o:Oper}{C:World->Prop}{K:Env->Prop}(h:sK c o S C K)(hf:Fits c.N S a):
  ∃v,(∀w,C w->(execOp a.eval o).run c.g.P w= .ok (.value v) w)/\∃S',Fits c.N S' (a.put o.dst v)/\K S':=by
 have KH:cv c o S C K->∃v,(∀w,C w->(execOp a.eval o).run c.g.P w= .ok (.value v) w)/\∃S',Fits c.N S' (a.put o.dst v)/\K S':=λh=>by
  unfold cv at h;obtain⟨v,h1,h2⟩:=h;exact⟨v,λw hw=>h1 a w hf hw,ZA (e:=.v v) h2 hf⟩
 unfold sK at h;split at h
 ·rename_i v hp;exact⟨v,λw _=>cq (w:=w) hg hf hp,ZA (e:=.v v) h hf⟩
 ·rename_i e hp;exact⟨e.val,λw _=>cq (w:=w) hg hf hp,ZA (e:=e) h hf⟩
 ·rename_i k n hp;unfold aW at h;exact⟨_,λw _=>cq (w:=w) hg hf hp,ZA (e:=.v (.int k n)) h hf⟩
 ·rename_i p k n hp;unfold fW at h;exact⟨_,λw _=>cq (w:=w) hg hf hp h.1,ZA (e:=.v (.int k n)) h.2 hf⟩
 ·rename_i p v hp;unfold i6 at h;exact⟨_,λw _=>cq (w:=w) hg hf hp h.1,ZA (e:=.v v) h.2 hf⟩
 ·obtain⟨dst,op,ty,pos,aft,gd⟩:=o;simp only at h KH ⊢;split at h
  ·rename_i t x;split at h
   ·rename_i r p hr hx;have e1:=hf.ev hx;split at h
    ·rename_i hd;unfold sA at h;obtain⟨v,hv,hk⟩:=h;refine⟨v,λw hw=>?_,ZA (e:=.v v) hk hf⟩;simp[execOp,e1,Instr.loadAt,Instr.sureAddr,loadVar,mE hg hr,hd,hv w hw]
    ·rename_i hd;unfold sB at h;obtain⟨vs,hl,hv,hk⟩:=h;refine⟨.agg vs.toArray,λw hw=>?_,ZA (e:=.v (.agg vs.toArray)) hk hf⟩;have h2:=run_loadCells_list (P:=c.g.P) (w:=w) p vs (hv w hw);rw[hl] at h2;simp[execOp,e1,Instr.loadAt,Instr.sureAddr,loadVar,mE hg hr,hd,run_sizeOf hg hr,h2]
   ·exact KH h
  ·rename_i t x ix;split at h
   ·rename_i e b n k i hr hx hi;split at h
    ·rename_i r Zb;unfold Y7 at h;obtain⟨p,rfl,h0,h1,hk⟩:=h;have e1:=hf.ev hx;have e2:=hf.ev hi;refine⟨.pointer (some (p.add (i.toNat*r.sz))),λw _=>?_,ZA (e:=.v _) hk hf⟩;simp[execOp,e1,e2,Instr.indexAt,asIntOf,Y8 hg hr,run_sizeOf hg Zb,h0,h1]
    ·exact KH h
   ·rename_i n e p k i hr hx hi;split at h
    ·rename_i r Zb;unfold Y7 at h;obtain⟨p',hp,h0,h1,hk⟩:=h;cases hp;have e1:=hf.ev hx;have e2:=hf.ev hi;refine⟨.pointer (some (p.add (i.toNat*r.sz))),λw _=>?_,ZA (e:=.v _) hk hf⟩;simp[execOp,e1,e2,Instr.indexAt,Instr.sureAddr,asIntOf,Y8 hg hr,run_sizeOf hg Zb,h0,h1]
    ·exact KH h
   ·exact KH h
  ·rename_i t x ix;split at h
   ·rename_i s k i hr hx hi;unfold eE at h;obtain⟨b,h0,h1,hk⟩:=h;have e1:=hf.ev hx;have e2:=hf.ev hi;refine⟨.int .u8 b.toNat,λw _=>?_,ZA (e:=.v _) hk hf⟩;simp[execOp,e1,e2,Instr.index,asIntOf,Y8 hg hr,h0,h1]
   ·exact KH h
  ·exact KH h
theorem AH (hg:c.g.Ok){md:Region.Mode}{ops:List Oper}{C:World->Prop}{Q:Exit->Act->World->Prop}{n:Nat}(hs:Region.noSelect ops.toArray=true)(hk:kl md ops.toArray n){K:Env->World->Prop}:
  ∀(l:List (Bool×Nat)) (listed:Array Bool) (S:Env) (a:Act) (w:World),HeadInv md ops.toArray n listed->dC md ops.toArray n l listed=true->kn c ops C l S w K->Fits c.N S a->C w->
  aA c.g.P md ops.toArray (NoPan Q) C n (λKJ a' w'=>Region.seqB md ops.toArray (ops.toArray.size-n) n KJ=true/\∃S',Fits c.N S' a'/\K S' w') l.length listed a w
 | [],listed,S,a,w,inv,hB,h,hf,hC=>⟨hB,S,hf,h⟩
 | (true,k)::l,listed,S,a,w,inv,hB,h,hf,hC=>by
  simp only[dC,Jv] at hB;obtain⟨⟨⟨Xp,hr⟩,lM⟩,V3⟩:=hB;have Xp:k<n:=by rw[j0] at Xp;exact Xp
  have Xc:k∈Region.ready md ops.toArray listed:=by simpa using hr
  obtain⟨_,o,ho,_⟩:=mem_ready.1 Xc;have hn:VU ops k=some o:=by rw[i9];simpa using ho
  simp only[kn,hn] at h;have key:∃v,YieldsIf c.g.P ops.toArray C o v a/\∃S',Fits c.N S' (a.put o.dst v)/\kn c ops C l S' w K:=by
   rcases mI h hf with⟨hw,S1,ZN,h1⟩ | ⟨hw,S1,ZN,h1⟩
   ·obtain⟨v,h2,h3⟩:=AG hg h1 ZN;exact⟨v,.inl ⟨hw,h2⟩,h3⟩
   ·exact⟨undef,.inr ⟨hw,rfl⟩,ZA (e:=.v undef) h1 ZN⟩
  obtain⟨v,hy,S',Q8,h'⟩:=key;exact OM ho (Region.noSelect_spec hs) hk Xp (λKJ a' w' hL=>seqB_ready hL.1) l.length listed a w inv (Region.free_spec ho lM) Xc hy hC
   (AH hg hs hk l _ S' _ w (inv.set Xc Xp) V3 h' Q8 hC)
 | (false,k)::l,listed,S,a,w,inv,hB,h,hf,hC=>by
  simp only[dC,Jv,Vb] at hB;obtain⟨⟨Xp,hr⟩,V3⟩:=hB;have Xp:k<n:=by rw[j0] at Xp;exact Xp
  have Xc:k∈Region.ready md ops.toArray listed:=by rw[hr];simp
  obtain⟨_,o,ho,_⟩:=mem_ready.1 Xc;have hn:VU ops k=some o:=by rw[i9];simpa using ho
  simp only[kn,hn] at h;have iD:=inv.set Xc Xp;refine⟨λh0=>(by rw[hr] at h0;cases h0),λi hi=>?_⟩;rw[hr] at hi;have yP:i=k:=by simpa using hi
  subst yP;refine⟨Xp,?_⟩;unfold wpOp;simp only[ho];rcases mI h hf with⟨hw,S1,ZN,h1⟩ | ⟨hw,S1,ZN,h1⟩
  ·rw[Qf hw];refine .inl ?_;have h2:=sw hg h1 ZN;have h3:=Oper.wp_mono (K':=λa' w'=>C w'/\aA c.g.P md ops.toArray (NoPan Q) C n (λKJ a' w'=>Region.seqB md ops.toArray (ops.toArray.size-n) n KJ=true/\∃S',Fits c.N S' a'/\K S' w') l.length (listed.setIfInBounds i true) a' w')
    (λa' w' ⟨S',Q8,Kl,Yn⟩=>⟨Kl,AH hg hs hk l _ S' a' w' iD V3 Yn Q8 Kl⟩) h2
   unfold Oper.wp at h3 ⊢;generalize (execOp a.eval o).run c.g.P w=r at*;cases r with
   | ok nx w'=>
    cases nx<;>simp only[Oper.upon] at h3 ⊢ <;> try exact h3
    exact h3.mono λe KI he=>by
     cases e with
     | returned v=>exact he
     | panicked ch=>obtain⟨_,_,he⟩:=he;exact he.elim
     | outgrown=>obtain⟨_,_,_,_,he⟩:=he;exact he.elim
   | halt x w'=>cases x<;>simp only[Oper.upon] at h3 ⊢ <;> first | exact h3 | (obtain⟨_,_,h3⟩:=h3;exact h3.elim)
  ·rw[if_neg (by rw[hw];decide)];obtain⟨S',Q8,h'⟩:=ZA (e:=.v undef) h1 ZN;exact⟨hC,AH hg hs hk l _ S' _ w iD V3 h' Q8 hC⟩
theorem cQs {o:Oper}{C:World->Prop}{K:Env->Prop}{v:Value}(h:∀a w,Fits c.N S a->C w->(execOp a.eval o).run c.g.P w= .ok (.value v) w)(k:Xn c S o.dst (.v v) K):cv c o S C K:=by
 unfold cv;exact⟨v,h,k⟩
theorem Xy (hg:c.g.Ok){id:Nat}{ops:List Oper}{w:World}{Q:Zj}(C:World->Prop)(n:Nat)(plan:List (Bool×Nat))
  (hB:(Region.noSelect ops.toArray&&Nat.beq plan.length n&&sJ .any ops.toArray n&&dC .any ops.toArray n plan (Array.replicate ops.toArray.size false))=true) (hC:C w.drew)
  (h:kn {c with named:=1000000} ops C plan S w.drew (λS w=>YN c ops (ops.drop n) S w (λS w=>Q .normal S w) (λ_ _ _=>False))):aw c id ops S w Q:=by
 unfold aw;intro a hf;simp only[Jv] at hB;obtain⟨⟨⟨hs,hl⟩,ce⟩,Jt⟩:=hB;have hl:=VR hl;have hk:=AF ce;have Mn:n<=ops.length:=by
  rcases hk with hk | hk
  ·rw[hk];simp
  ·have:=hk.1;simp at this;omega
 refine Code.wp_mono NoPan.imp (wp_region_any hg.mixed ?_);have qp:HeadInv .any ops.toArray n (Array.replicate ops.toArray.size false):=
  ⟨by simp,λj oj _ hl=>(by rw[getD_replicate_false] at hl;cases hl),λt _ ht=>getD_in (by simpa using ht) (getD_replicate_false _ _)⟩
 have H:=AH (c:={c with named:=1000000}) hg (Q:=Up c Q) hs hk plan _ S a _ qp Jt h hf hC;have YI:(ops.drop n).length=ops.toArray.size-n:=by simp
 have H2:=vM (Q:=NoPan (Up c Q)) (g:=ops.toArray.size-n) (λKJ a' w' hL=>by
  obtain⟨hq,S',Q8,Yn⟩:=hL;have h2:=kh (c:=c) hg ops _ _ _ _ Yn Q8;have:=wpAny_of_seq (P:=c.g.P) (md:=.any) (ops:=ops.toArray) (Q':=NoPan (Up c Q)) (ops.drop n) n KJ a' w' (λj=>by simp) (by rw[YI];exact hq) (mH (λe a w hq=>by
   cases e with
   | normal=>exact hq
   | _=>exact Xd hq (by rintro⟨_,_,h⟩;exact h)) h2)
  rwa [YI] at this) _ _ _ _ H
 rw[hl,show n+(ops.toArray.size-n)=ops.toArray.size by simp;omega] at H2;exact H2
end
end
section
theorem ON (cs:List Nat){c:Cx}{S:Env}{w:World}{Q:Zj}(hg:c.g.Ok){x y:Code}(R:World->Prop)
  (hx:WX (eG x) S [] (λS0=>Vj {c with cuts:=cs} x S w (λe S2 w2=>match e with
   | .normal=>Has S0 S2/\R w2
   | e=>Q e S2 w2)))
  (hy:WX (eG x) S [] (λS0=>∀w',R w'->Vj c y S0 w' Q)):j8 c (.seq x y) S w Q:=by
 rw[Av] at hx hy;unfold j8;intro a hf;refine wp_seq (wp_mono (ja (c:={c with cuts:=cs}) hg x S w _ a hx hf) (λe a2 w2 hq=>?_));obtain⟨S2,ZT,hq⟩:=hq;cases e with
 | normal=>exact ja hg y _ w2 Q a2 (hy w2 hq.2) (hq.1.fits ZT)
 | exit i=>exact⟨S2,ZT,hq⟩
 | goto l=>exact⟨S2,ZT,hq⟩
 | ret=>exact⟨S2,ZT,hq⟩
 | panic ch=>exact⟨S2,ZT,hq⟩
 | outgrown=>exact⟨S2,ZT,hq⟩
theorem AI {a:Addr}{n j:Nat}{i:Int}{K:Addr->Prop}(hi:i=j)(hj:j<n)(k:K (a.add j)):Y7 (some a) n i 1 K:=by subst hi;exact index hj k
theorem named {a b:String}{K:Prop}(h:a=b)(k:K):N8 a b K:=by unfold N8;exact⟨h,k⟩
theorem new {w:World}{t:TypeId}{cs:List Value}{K:Addr->World->Prop}(k:∀w1,Ext w w1->w1.heap.size=w.heap.size+1->Blk w1 w.heap.size t cs->K ⟨w.heap.size,0,none⟩ w1):pw w t cs K:=by
 unfold pw;exact k _ (Ext.alloc w _) (by simp) (Blk.new w t cs)
theorem add_add (a:Addr)(n m:Nat):(a.add n).add m=a.add (n+m):=by
 unfold Addr.add;split
 ·rename_i h;subst h;simp
 ·split
  ·rename_i h1 h2;subst h2;simp[h1]
  ·rename_i h1 h2;simp[h1,pi]
theorem OO:∀(vs cs:List Value),vs.length<=cs.length->vC vs cs=vs++cs.drop vs.length
 | [],_,_=>rfl
 | v::vs,[],h=>by simp at h
 | v::vs,c::cs,h=>by
  show v::vC vs cs=_;rw[OO vs cs (by simpa using h)]<;>rfl
theorem jf:∀(n:Nat)(vs cs:List Value),n+vs.length<=cs.length->K2 n vs cs=cs.take n++vs++cs.drop (n+vs.length)
 | 0,vs,cs,h=>by
  have e:K2 0 vs cs=vC vs cs:=by cases cs<;>rfl
  rw[e,OO vs cs (by omega)];simp
 | n+1,vs,[],h=>by simp at h
 | n+1,vs,c::cs,h=>by
  show c::K2 n vs cs=_;rw[jf n vs cs (by simp at h;omega)];rw[show n+1+vs.length=(n+vs.length)+1 by omega];simp
theorem OP:∀(n:Nat)(vs cs:List Value),n+vs.length<=cs.length->(K2 n vs cs).length=cs.length:=λn vs cs h=>by
 rw[jf n vs cs h];simp;omega
theorem ko {P:Program}{w:World}{g t:Nat}{cs vs:List Value}{j:Nat}{K:World->Prop}(h:Blk w g t cs)(hj:j+vs.length<=cs.length)(gB:∀u∈vs,Jw u=true)
  (k:∀w1,w.grownBy w1 (some g)->w1.heap.size=w.heap.size->Blk w1 g t (K2 j vs cs)->K w1):fX P w ((⟨g,0,none⟩:Addr).add j) vs K:=by
 unfold fX;have am:=run_storeCells_at P g j t vs 0 cs.toArray w h (by simpa using hj) (λu hu=>AC (gB u hu));rw[pF];refine⟨_,am,?_⟩;refine k _ ⟨rfl,rfl,rfl,by simp,λi _ hi=>setRow_other w g i _ (λe=>hi (by rw[e]))⟩ (by simp) ?_;have:=setRow_heap w g cs.toArray (cs.toArray.toList.take (j+0)++vs++cs.toArray.toList.drop (j+0+vs.length)).toArray t _ h;unfold Blk;rw[this,jf j vs cs hj]<;>rfl
theorem QB {P:Program}{w:World}{g t:Nat}{cs vs:List Value}{K:World->Prop}(h:Blk w g t cs)(hl:vs.length=cs.length)(gB:∀u∈vs,Jw u=true)
  (k:∀w1,w.grownBy w1 (some g)->w1.heap.size=w.heap.size->Blk w1 g t vs->K w1):fX P w ⟨g,0,none⟩ vs K:=by
 have:=ko (P:=P) (j:=0) (K:=K) h (by omega) gB (λw1 h1 h2 h3=>k w1 h1 h2 (by
  rw[jf 0 vs cs (by omega),hl] at h3;simpa using h3))
 simpa [Addr.add] using this
theorem cw {w:World}{g t:Nat}{cs vs:List Value}{j n:Nat}{K:List Value->Prop}(h:Blk w g t cs)(hn:vs.length=n)(hv:∀i v,vs[i]? =some v->cs[j+i]? =some v)(k:K vs):j7 w ((⟨g,0,none⟩:Addr).add j) n K:=by
 unfold j7;exact⟨vs,hn,λi v hi=>by rw[add_add,h.cell];exact hv i v hi,k⟩
theorem Qs {w:World}{g t:Nat}{cs:List Value}{n:Nat}{K:List Value->Prop}(h:Blk w g t cs)(hn:cs.length=n)(k:K cs):j7 w ⟨g,0,none⟩ n K:=by
 have:=cw (j:=0) (vs:=cs) (K:=K) h hn (λi v hi=>by simpa using hi) k;simpa [Addr.add] using this
theorem QC {w:World}{g t:Nat}{cs:List Value}{v:Value}{K:Value->Prop}(h:Blk w g t cs)(hv:cs[0]? =some v)(k:K v):gM w ⟨g,0,none⟩ K:=by
 have:=Qp (j:=0) (K:=K) h hv k;simpa [Addr.add] using this
theorem cQt {w:World}{g t:Nat}{cs:List Value}{v:Value}{K:World->Prop}(h:Blk w g t cs)(hj:0<cs.length)(k:∀w1,w.grownBy w1 (some g)->Blk w1 g t (cs.set 0 v)->K w1):eD w ⟨g,0,none⟩ v K:=by
 have:=sE (j:=0) (v:=v) (K:=K) h hj k;simpa [Addr.add] using this
section
variable {α:Type} {f:α->List Value} {sz:Nat}
theorem dD (hf:∀x,(f x).length=sz):∀(l:List α),(l.flatMap f).length=l.length*sz
 | []=>by simp
 | x::l=>by simp[hf,dD hf l,fS,zL]
theorem eH (hf:∀x,(f x).length=sz):∀(l:List α)(j:Nat)(x:α)(i:Nat)(v:Value),l[j]? =some x->(f x)[i]? =some v->(l.flatMap f)[j*sz+i]? =some v
 | [],j,x,i,v,h,_=>by simp at h
 | y::l,0,x,i,v,h,hi=>by
  simp at h;subst h;have:i<(f y).length:=(Zw.1 hi).1;rw[au,ew (by simpa using this)];simpa using hi
 | y::l,j+1,x,i,v,h,hi=>by
  rw[au,aU (by rw[hf];rw[fS];omega),hf];rw[show(j+1)*sz+i-sz=j*sz+i by rw[fS];omega];exact eH hf l j x i v (by simpa using h) hi
theorem OQ (hf:∀x,(f x).length=sz):∀(l:List α)(n:Nat),(l.take n).flatMap f=(l.flatMap f).take (n*sz)
 | [],n=>by simp
 | y::l,0=>by simp
 | y::l,n+1=>by
  rw[vi,au,au,OQ hf l n,fS,zL,EJ,hf];rw[Zz (show(f y).length<=sz+n*sz by rw[hf];omega)];rw[show sz+n*sz-sz=n*sz by omega]
def SlS (f:α->List Value)(sz:Nat)(w:World)(A:Option Addr)(n c:Nat)(l:List α):Prop:=Sl w sz A n c (l.flatMap f)/\l.length=n
theorem SlS.ext {w w':World}{A:Option Addr}{n c:Nat}{l:List α}(h:SlS f sz w A n c l)(k:Ext w w'):SlS f sz w' A n c l:=⟨h.1.ext k,h.2⟩
theorem SlS.nil (w:World):SlS f sz w none 0 0 []:=⟨Sl.nil w sz,rfl⟩
theorem SlS.cell (hf:∀x,(f x).length=sz){w:World}{A:Option Addr}{n c:Nat}{l:List α}(h:SlS f sz w A n c l){j:Nat}{x:α}(hj:l[j]? =some x):
  ∃ad,A=some ad/\∀i v,(f x)[i]? =some v->w.cell? ((ad.add (j*sz)).add i)=some v:=by
 have Q5:j<l.length:=(Zw.1 hj).1;obtain⟨ad,rfl,hc⟩:=h.1.at_ (by have:=h.2;omega);exact⟨ad,rfl,λi v hi=>by rw[add_add];exact hc _ _ (eH hf l j x i v hj hi)⟩
theorem Zh (hf:∀x,(f x).length=sz){w:World}{A:Option Addr}{n c:Nat}{l:List α}{i:Int}{j:Nat}{K:Addr->Prop}(h:SlS f sz w A n c l)(hi:i=j)(hj:j<n)
  (k:∀p x,l[j]? =some x->(∀i v,(f x)[i]? =some v->w.cell? (p.add i)=some v)->K p):Y7 A n i sz K:=by
 subst hi;have Q5:j<l.length:=by rw[h.2];exact hj
 have hx:l[j]? =some l[j]:=Xb Q5;obtain⟨ad,rfl,hc⟩:=h.cell hf hx;unfold Y7;exact⟨ad,rfl,by omega,by omega,by simpa using k _ _ hx hc⟩
theorem Kb {w:World}{p:Addr}{vs:List Value}{n:Nat}{K:List Value->Prop}(hn:vs.length=n)(h:∀i v,vs[i]? =some v->w.cell? (p.add i)=some v)(k:K vs):j7 w p n K:=by
 unfold j7;exact⟨vs,hn,h,k⟩
end
theorem cQu {P:Program}{w w1:World}{t ty e:TypeId}{i:TypeInfo}{z:Value}{bytes base n m cc sz:Nat}{v v':Value}{xs ys:List Value}(ht:P.underlying t=some (.slice e))(hi:P.info? e=some i)(hz:i.zero=some z)(hs:i.size=sz)(Wu:i.bytes=bytes)
  (Wv:w.ownsRow base e sz v n xs) (b:Addr) (hm:0<m) (hl:ys.length=m*sz) (QR:∀j u,ys[j]? =some u->w.cell? (b.add j)=some u) (h1:∀u∈ys,u.oneCell'=true) (ic:n+m<=maxLen) (Mo:(n+m)*bytes<=140737488355328)
  (Jj:(Builtin.append_ #[t,t] ty #[v,.slice (some b) m cc]).run P w= .ok v' w1):∀g',v'.ownBlock=some g'->v.ownBlock=some g'∨w.heap.size<=g':=by
 intro g' VM;subst Wu;have nQV:n+m<=9223372036854775807:=by simp only[maxLen] at ic;omega
 rcases Wv.2 with⟨rfl,rfl⟩ | ⟨g,cap,Ju,rfl,hbg,hg,iE,WO,Zf,rB⟩
 ·have hr:=run_append_nil (P:=P) w t ty e i z ht hi hz b m cc ys (by rw[hl,hs]) QR (by omega) (by omega) (by have hb:=Mo;simp only[aq] at hb;omega);rw[hr] at Jj;cases Jj;simp[Value.ownBlock] at VM;exact .inr (by omega)
 ·by_cases Eg:n+m<=cap
  ·have hr:=run_append_room (P:=P) w t ty e i ht hi g n cap Ju hg b m cc ys (by rw[hl,hs]) QR h1 Eg (by rw[hl,hs,Zf,<-vj];exact Y4 _ Eg);rw[hr] at Jj;cases Jj;exact .inl VM
  ·have holds:∀j u,xs[j]? =some u->w.cell? ((⟨g,0,none⟩:Addr).add j)=some u:=Wv.cells (g:=g) rfl
   have hr:=run_append_grow (P:=P) w t ty e i z ht hi hz ⟨g,0,none⟩ n cap xs (by rw[hs];exact Wv.1) holds b m cc ys (by rw[hl,hs]) QR (by omega) (by omega) (growslice_fits (by omega) Mo);rw[hr] at Jj;cases Jj;simp[Value.ownBlock] at VM;exact .inr (by omega)
theorem cQv {c:Cx}(hg:c.g.Ok){o:Oper}{S:Env}{w:World}{K:Env->World->Prop}{Q:Zj}{t t2 e sz:Nat}{x y:Operand}{A B:Option Addr}{n cp:Nat}{m c2:Nat}{xs ys:List Value}{base:Nat}{r re r2:TyRow}
  (ho:o.op= .call ⟨.builtin .append, #[x,y], #[t,t2]⟩) (hr:QX c.g.tys t=some r) (hd:r.d= .slice e) (Zb:QX c.g.tys e=some re) (hs:re.sz=sz) (HJ:0<sz) (jL:re.z.cells.size=sz) (aM:QX c.g.tys t2=some r2) (YW:∃e2,r2.d= .slice e2)
  (hx:S.ev x=some (.slice A n cp)) (hy:S.ev y=some (.slice B m c2)) (Wv:Own w base e sz A n cp xs) (gA:Sl w sz B m c2 ys) (gB:∀u∈ys,Jw u=true)
  (ic:n+m<=maxLen) (Wu:(n+m)*re.by_<=140737488355328) (oO:base<=w.heap.size)
  (k:∀A' c' w1,w.grownBy w1 (Value.slice A n cp).ownBlock->Own w1 base e sz A' (n+m) c' (xs++ys)->(∀ad,A'=some ad->A=some ad∨w.heap.size<=ad.block)->Xn c S o.dst (.v (.slice A' (n+m) c')) (λS=>K S w1)):Zc c o S w K Q:=by
 obtain⟨_,i,hi,XG,oI,cd⟩:=hg.row Zb;have Xc:=(hg.row hr).1;rw[hd] at Xc;obtain⟨e2,YW⟩:=YW;have t7:=(hg.row aM).1;rw[YW] at t7;have Xf:ys.length=m*sz:=gA.len;unfold Zc;intro a hf;have e1:=hf.ev hx;have xd:=hf.ev hy;have key:∃v' w1,(Builtin.append_ #[t,t] o.type #[.slice A n cp,.slice B m c2]).run c.g.P w= .ok v' w1/\w1.ownsRow base e sz v' (n+m) (xs++ys)/\w.grownBy w1 (Value.slice A n cp).ownBlock/\(∀g',v'.ownBlock=some g'->(Value.slice A n cp).ownBlock=some g'∨w.heap.size<=g'):=by
  by_cases h0:m=0
  ·subst h0;have Mp:ys=[]:=Ys (by omega);subst Mp;have ZO:n<=cp:=Wv.sl.le;refine⟨.slice A n cp,w,?_,by simpa using Wv.row,⟨rfl,rfl,rfl,QD _,λ_ _ _=>rfl⟩,λ_ h=>.inl h⟩;cases A<;>cases B<;>simp[Builtin.append_,ZX Xc,sizeOf,typeInfo,hi,Builtin.lenOf,ZO,Builtin.firstCells,loadCells,loadCellsFrom,storeCells]
  ·obtain⟨b,rfl,QR⟩:=gA.at_ (by omega);obtain⟨v',w1,Jj,Jl,yQ,_⟩:=run_append_own (P:=c.g.P) (w:=w) base t o.type e i re.z sz re.by_ Xc hi cd (by rw[XG,hs]) oI jL HJ _ n xs Wv.row b m c2 ys Xf QR (λu hu=>AC (gB u hu)) ic Wu oO;exact⟨v',w1,Jj,Jl,yQ,cQu Xc hi cd (by rw[XG,hs]) oI Wv.row b (by omega) Xf QR (λu hu=>AC (gB u hu)) ic Wu Jj⟩
 obtain⟨v',w1,Jj,Jl,yQ,Mq⟩:=key;obtain⟨A',c',rfl,Mr⟩:=oQv Jl;have Ms:∀ad,A'=some ad->A=some ad∨w.heap.size<=ad.block:=λad e=>by
  subst e;rcases Mq ad.block rfl with h | h
  ·left
   rcases Wv.row.2 with⟨hv,_⟩ | ⟨g,cap,Ju,hv,_⟩
   ·cases hv;simp[Value.ownBlock] at h
   ·cases hv;rcases Jl.2 with⟨hv,_⟩ | ⟨g2,jQ6,jQ7,Kd,_⟩
    ·cases hv
    ·cases Kd;simp[Value.ownBlock] at h;rw[h]
  ·exact .inr h
 refine bI (v:=.slice A' (n+m) c') (w':=w1) ?_ (ZA (e:=.v _) (k A' c' w1 yQ Mr Ms) hf);have mQf:(Builtin.append_ #[t,t2] o.type #[.slice A n cp,.slice B m c2]).run c.g.P w=(Builtin.append_ #[t,t] o.type #[.slice A n cp,.slice B m c2]).run c.g.P w:=by
  simp[Builtin.append_,ZX Xc,ZX t7]
 simp only[execOp,ho,resolve,invoke];simp[builtin,e1,xd,mQf,Jj]
theorem cQw {P:Program}{w w1:World}{t u ty e:TypeId}{i:TypeInfo}{base n:Nat}{v v':Value}{xs:List Value}(ht:P.underlying t=some (.slice e))(hu:P.underlying u=some .string)(hi:P.info? e=some i)(hz:i.zero=some (.int .u8 0))(hs:i.size=1)(Wu:i.bytes=1)
  (Wv:w.ownsRow base e 1 v n xs) (s:ByteArray) (Mo:n+s.size<=140737488355328)
  (Jj:(Builtin.append_ #[t,u] ty #[v,.string s]).run P w= .ok v' w1):∀g',v'.ownBlock=some g'->v.ownBlock=some g'∨w.heap.size<=g':=by
 intro g' VM;have oP:xs.length=n:=by simpa using Wv.1
 rcases Wv.2 with⟨rfl,rfl⟩ | ⟨g,cap,Ju,rfl,hbg,hg,iE,WO,Zf,rB⟩
 ·by_cases hm:s.size=0
  ·have hf:=Lib.run_firstCells_string (P:=P) w 1 s;rw[hm] at hf;have:(Builtin.append_ #[t,u] ty #[.slice none 0 0,.string s]).run P w= .ok (.slice none 0 0) w:=by
    simp[Builtin.append_,ZX ht,ZX hu,sizeOf,typeInfo,hi,hs,Builtin.lenOf,hm,hf]
   rw[this] at Jj;cases Jj;simp[Value.ownBlock] at VM
  ·have hr:=run_append_nil_string (P:=P) w t u ty e i (.int .u8 0) ht hu hi hz s (by omega) (by omega) (by rw[Wu];omega);rw[hr] at Jj;cases Jj;simp[Value.ownBlock] at VM;exact .inr (by omega)
 ·by_cases Eg:n+s.size<=cap
  ·have nQW:Ju.size=cap:=by simpa using Zf
   have hr:=Lib.run_append_room_string (P:=P) w t u ty e i ht hu hi hs g n cap Ju hg s Eg (by omega);rw[hr] at Jj;cases Jj;exact .inl VM
  ·have holds:∀j u,xs[j]? =some u->w.cell? ((⟨g,0,none⟩:Addr).add j)=some u:=Wv.cells (g:=g) rfl
   have hr:=Lib.run_append_grow_string (P:=P) w t u ty e i (.int .u8 0) ht hu hi hz ⟨g,0,none⟩ n cap xs (by rw[hs];simpa using oP) holds s (by omega) (by omega) (by rw[Wu];exact growslice_fits (by omega) (by omega));rw[hr] at Jj;cases Jj;simp[Value.ownBlock] at VM;exact .inr (by omega)
theorem cQx {c:Cx}(hg:c.g.Ok){o:Oper}{S:Env}{w:World}{K:Env->World->Prop}{Q:Zj}{t t2 e:Nat}{x y:Operand}{A:Option Addr}{n cp:Nat}{s:ByteArray}{xs:List Value}{base:Nat}{r re r2:TyRow}
  (ho:o.op= .call ⟨.builtin .append, #[x,y], #[t,t2]⟩) (hr:QX c.g.tys t=some r) (hd:r.d= .slice e) (Zb:QX c.g.tys e=some re) (hs:re.sz=1) (jL:re.z= .int .u8 0) (Ww:re.by_=1) (aM:QX c.g.tys t2=some r2) (YW:r2.d= .string)
  (hx:S.ev x=some (.slice A n cp)) (hy:S.ev y=some (.string s)) (Wv:Own w base e 1 A n cp xs)
  (ic:n+s.size<=140737488355328) (oO:base<=w.heap.size)
  (k:∀A' c' w1,w.grownBy w1 (Value.slice A n cp).ownBlock->Own w1 base e 1 A' (n+s.size) c' (xs++Lib.strCells s)->(∀ad,A'=some ad->A=some ad∨w.heap.size<=ad.block)->Xn c S o.dst (.v (.slice A' (n+s.size) c')) (λS=>K S w1)):Zc c o S w K Q:=by
 obtain⟨_,i,hi,XG,oI,cd⟩:=hg.row Zb;have Xc:=(hg.row hr).1;rw[hd] at Xc;have t7:=(hg.row aM).1;rw[YW] at t7;unfold Zc;intro a hf;have e1:=hf.ev hx;have xd:=hf.ev hy;obtain⟨v',w1,Jj,Jl,yQ,_⟩:=Lib.run_append_own_string (P:=c.g.P) (w:=w) base t t2 o.type e i Xc t7 hi (by rw[cd,jL]) (by rw[XG,hs]) (by rw[oI,Ww]) _ n xs Wv.row s (by unfold maxLen;omega) ic oO;have Mq:=cQw Xc t7 hi (by rw[cd,jL]) (by rw[XG,hs]) (by rw[oI,Ww]) Wv.row s ic Jj;obtain⟨A',c',rfl,Mr⟩:=oQv Jl;have Ms:∀ad,A'=some ad->A=some ad∨w.heap.size<=ad.block:=λad e=>by
  subst e;rcases Mq ad.block rfl with h | h
  ·left
   rcases Wv.row.2 with⟨hv,_⟩ | ⟨g,cap,Ju,hv,_⟩
   ·cases hv;simp[Value.ownBlock] at h
   ·cases hv;rcases Jl.2 with⟨hv,_⟩ | ⟨g2,jQ6,jQ7,Kd,_⟩
    ·cases hv
    ·cases Kd;simp[Value.ownBlock] at h;rw[h]
  ·exact .inr h
 refine bI (v:=.slice A' (n+s.size) c') (w':=w1) ?_ (ZA (e:=.v _) (k A' c' w1 yQ Mr Ms) hf);simp only[execOp,ho,resolve,invoke];simp[builtin,e1,xd,Jj]
def Fk:Nat->List (List Value)->List (Nat×Value)->Prop
 | _,[],[]=>True
 | n,cs::l,(i,v)::r=>i=n/\JY v=cs/\Fk (n+1) l r
 | _,_,_=>False
theorem OR {sz:Nat}{z:List Value}(hz:z.length=sz):∀(parts:List (Nat×Value))(n:Nat)(l:List (List Value))(pre:List Value),Fk n l parts->(∀cs∈l,cs.length=sz)->pre.length=n*sz->
  Instr.fill (λi=>some (i*sz,sz)) (pre++(List.replicate l.length z).flatten).toArray parts=some (pre++l.flatten).toArray
 | [],n,[],pre,_,_,_=>by simp[Instr.fill]
 | [],n,_::_,pre,h,_,_=>h.elim
 | _::_,n,[],pre,h,_,_=>h.elim
 | (i,v)::parts,n,cs::l,pre,h,hl,hp=>by
  obtain⟨rfl,rfl,h'⟩:=h;have hc:(JY v).length=sz:=hl _ (by simp);have Zf:v.cells.size=sz:=by rw[<-hc,<-pB];simp
  have Mt:¬((v.cells.size≠sz||i*sz+v.cells.size>(pre++(List.replicate (JY v::l).length z).flatten).toArray.size)=true):=by
   rw[Zf];simp[hp,NK,hz]
  unfold Instr.fill;simp only;rw[if_neg Mt];have e:(v.cells.zipIdx.foldl (λcs (c,j)=>cs.setIfInBounds (i*sz+j) c) (pre++(List.replicate (JY v::l).length z).flatten).toArray)=((pre++JY v)++(List.replicate l.length z).flatten).toArray:=by
   apply Array.ext';rw[Ov,pB,jf _ _ _ (by simp[hp,NK,hz,hc])];simp only[Xs,NK,NL];rw[EJ,List.drop_append,hp];simp only[zN,List.take_zero,Yr];rw[Zz (by omega),pj (by omega),dw];rw[show i*sz+(JY v).length-i*sz=sz by omega,List.drop_append,hz,zN,vk,pj (by omega)];simp
  rw[e];have:=OR hz parts (i+1) l (pre++JY v) h' (λcs Zf=>hl cs (by simp[Zf])) (by rw[Qy,hp,hc,fS]);rw[this];simp
theorem OS (z:List Value)(hz:0<z.length):∀(n:Nat),(List.range (n*z.length)).map (λj=>z.toArray[j % z.length]!)=(List.replicate n z).flatten
 | 0=>by simp
 | n+1=>by
  rw[fS,List.range_add,dx,OS z hz n,List.replicate_succ',List.flatten_append];congr 1;simp only[zM,NL,List.flatten_nil,Yr];apply List.ext_getElem
  ·simp
  ·intro i h1 h2;simp at h1;simp[iX h1,h1]
theorem Xm {c:Cx}(hg:c.g.Ok){o:Oper}{S:Env}{w:World}{K:Env->World->Prop}{Q:Zj}{t e n:Nat}{r re:TyRow}{ps:Array (Nat×Operand)}{vs:List (Nat×Value)}(l:List (List Value))
  (ho:o.op= .buildSlice t n ps) (hr:QX c.g.tys t=some r) (hd:r.d= .slice e) (Zb:QX c.g.tys e=some re) (hv:ss S ps.toList=some vs) (hb:Fk 0 l vs) (hn:l.length=n) (hl:∀cs∈l,cs.length=re.sz) (hz:(JY re.z).length=re.sz) (XG:0<re.sz) (rC:n*re.sz<=16777216)
  (k:∀w1,Ext w w1->w1.heap.size=w.heap.size+1->Blk w1 w.heap.size e l.flatten->Xn c S o.dst (.v (.slice (some ⟨w.heap.size,0,none⟩) n n)) (λS=>K S w1)):Zc c o S w K Q:=by
 obtain⟨_,i,hi,hsi,oI,cd⟩:=hg.row Zb;have Xc:=(hg.row hr).1;rw[hd] at Xc;subst hn;refine JJ (w':=w.alloc (.cells l.flatten.toArray e)) (λa hf=>?_) (k _ (Ext.alloc w _) (by simp) (Blk.new w e l.flatten));have dh:=Fa (ρ:=a.eval) (λx v h=>hf.ev h) _ _ hv;have bQn:(ps.map λ(x:Nat×Operand)=>(x.1,a.eval x.2)).toList=vs:=by rw[NJ];exact dh
 have jL:re.z.cells=(JY re.z).toArray:=by rw[<-pB]
 have uK:=OR hz vs 0 l [] hb hl (by simp);simp only[dw] at uK;have Eh:=OS (JY re.z) (by rw[hz];exact XG) l.length;rw[hz] at Eh;simp only[execOp,ho,Instr.buildSlice];rw[show(ps.map λ(x:Nat×Operand)=>(x.1,a.eval x.2)).toList=vs from bQn];have ib:¬l.length*re.sz>2^24:=by omega
 by_cases h0:l.length=0
 ·have Mp:l=[]:=Ys h0;subst Mp;cases vs with
  | cons p vs=>exact hb.elim
  | nil=>simp[ZX Xc,sizeOf,typeInfo,hi,Instr.fill,newRow,Array.range_zero']
 ·have h1:¬(l.length*re.sz=0):=by
   intro h;rcases Nat.mul_eq_zero.1 h with h | h<;>omega
  have yL:(Array.range (l.length*re.sz)).map (λj=>(JY re.z).toArray[j % (JY re.z).toArray.size]!)=(List.replicate l.length (JY re.z)).flatten.toArray:=by
   apply Array.ext';rw[NJ,Array.toList_range];simpa [hz] using Eh
  simp only[Sem.run_bind,ZX Xc,Result.andThen_ok,sizeOf,typeInfo,run_program,hi,Sem.run_pure,hsi,if_neg ib,if_neg h1,zeroValue,cd,jL];rw[yL];simp only[uK];simp[newRow]
def vN:TypeDesc->Nat
 | .int _=>0
 | .string=>1
 | .bool=>2
 | _=>1000
structure KeyV {α:Type} [DecidableEq α] (d:TypeDesc) (kv:α->Value):Prop where
 same:∀a b,Instr.sameNow d (kv a) (kv b)=some (decide (a=b))
 bits:∀a n,Instr.sameBits n (kv a) (kv a)=true
 plain:vN d<3
theorem KeyV.int (k:IntKind):KeyV (.int k) (λn:Int=>.int k n):=⟨λa b=>by simp[Instr.sameNow];rfl,λa n=>by cases n<;>simp[Instr.sameBits],by simp[vN]⟩
theorem oQi:KeyV .string (λs:ByteArray=>.string s):=⟨λa b=>by
  simp only[Instr.sameNow,Option.some.injEq];rw[beq_toListBytes,vE],λa n=>by cases n<;>(simp only[Instr.sameBits];rw[beq_toListBytes,vE];simp),by simp[vN]⟩
def XJ {α:Type} [DecidableEq α](a:α):List (α×Value)->Option Value
 | []=>none
 | (b,v)::l=>if a=b then some v else XJ a l
def Zg {α:Type} [DecidableEq α](a:α)(v:Value):List (α×Value)->List (α×Value)
 | []=>[(a,v)]
 | (b,u)::l=>if a=b then(b,v)::l else(b,u)::Zg a v l
theorem aY {α:Type} [DecidableEq α](a b:α)(v:Value):∀l,XJ b (Zg a v l)=if b=a then some v else XJ b l
 | []=>by simp[Zg,XJ]
 | (d,u)::l=>by
  simp only[Zg];split
  ·rename_i h;subst h;simp only[XJ];split<;>rfl
  ·rename_i h;simp only[XJ,aY a b v l];by_cases h1:b=d
   ·subst h1;rw[Qf rfl,if_neg (λe=>h e.symm)];simp
   ·rw[if_neg h1,if_neg h1]
def XX {α:Type}(kv:α->Value)(m:List (α×Value))(bs:List Nat):List MapEntry:=(m.zip bs).map λp=>{key:=kv p.1.1,val:=p.1.2,born:=p.2}
structure MapAt {α:Type} (kv:α->Value) (w:World) (r:Nat) (m:List (α×Value)):Prop where
 ex:∃bs ck,bs.length=m.length/\w.heap[r]? =some (.map (XX kv m bs).toArray ck)
theorem MapAt.ext {α:Type}{kv:α->Value}{w w':World}{r:Nat}{m:List (α×Value)}(h:MapAt kv w r m)(k:Ext w w'):MapAt kv w' r m:=by
 obtain⟨bs,ck,hl,hb⟩:=h.ex;exact⟨bs,ck,hl,(k.block r (iW.1 hb).1 (by simp)).trans hb⟩
theorem MapAt.lt {α:Type}{kv:α->Value}{w:World}{r:Nat}{m:List (α×Value)}(h:MapAt kv w r m):r<w.heap.size:=by
 obtain⟨bs,ck,hl,hb⟩:=h.ex;exact(iW.1 hb).1
section
variable {α:Type} [DecidableEq α] {d:TypeDesc} {kv:α->Value}
theorem vO {α:Type}{c:Cx}(_:c.g.Ok){o:Oper}{S:Env}{w:World}{K:Env->World->Prop}{Q:Zj}{t:Nat}(kv:α->Value)(ho:o.op= .makeMap t none)
  (k:∀w1,Ext w w1->w1.heap.size=w.heap.size+1->MapAt kv w1 w.heap.size []->Xn c S o.dst (.v (.map (some w.heap.size))) (λS=>K S w1)):Zc c o S w K Q:=by
 refine JJ (w':=w.alloc (.map #[] 0)) (λa hf=>?_) (k _ (Ext.alloc w _) (by simp) ⟨[],0,rfl,heap_alloc_new w _⟩);simp[execOp,ho,Instr.makeMap]
theorem vP {P:Program}{t:TypeId}(hu:P.underlying t=some d)(hd:vN d<3)(b:Bool)(n:Nat)(v:Value)(w:World):(Instr.checkKey b (n+1) t v).run P w= .ok () w:=by
 simp only[Instr.checkKey,Sem.run_bind,ZX hu,Result.andThen_ok];cases d<;>first | (simp[vN] at hd;done) | rfl
theorem Fl (hk:KeyV d kv)(a:α):∀(m:List (α×Value))(bs:List Nat)(i:Nat),bs.length=m.length->
  ∃r,Instr.findNow d (kv a) (XX kv m bs) i=some r/\r.map (·.2)=XJ a m/\(∀j v,r=some (j,v)->i<=j/\j<i+m.length/\∀v',XX kv (Zg a v' m) bs=(XX kv m bs).modify (j-i) (λe=>{e with key:=kv a,val:=v'})/\((XX kv m bs)[j-i]?).map (·.key)=some (kv a))/\(r=none->∀v',Zg a v' m=m++ [(a,v')])
 | [],bs,i,h=>⟨none,rfl,rfl,(λj v h=>by cases h),λ_ v'=>rfl⟩
 | (b,u)::m,[],i,h=>by simp at h
 | (b,u)::m,s::bs,i,h=>by
  have e:XX kv ((b,u)::m) (s::bs)={key:=kv b,val:=u,born:=s}::XX kv m bs:=rfl;rw[e];unfold Instr.findNow;simp only[hk.same];by_cases Yo:a=b
  ·subst Yo;simp only[decide_true];refine⟨some (i,u),rfl,by simp[XJ],λj v hj=>?_,λh=>by cases h⟩;cases hj;refine⟨QD _,by simp,λv'=>?_⟩;simp[Zg,XX]
  ·simp only[Yo,decide_false];obtain⟨r,h1,h2,h3,h4⟩:=Fl hk a m bs (i+1) (by simpa using h);refine⟨r,h1,by simp[XJ,Yo,h2],λj v hj=>?_,λhn v'=>by simp[Zg,Yo,h4 hn v']⟩;obtain⟨h5,h6,h7⟩:=h3 j v hj;refine⟨by omega,by simp;omega,λv'=>?_⟩;obtain⟨h8,h9⟩:=h7 v';rw[show j-i=(j-(i+1))+1 by omega];refine⟨?_,by simpa using h9⟩;simp only[Zg,Yo,if_false];rw[show XX kv ((b,u)::Zg a v' m) (s::bs)={key:=kv b,val:=u,born:=s}::XX kv (Zg a v' m) bs from rfl,h8];simp
variable {c:Cx} (hg:c.g.Ok) {o:Oper} {S:Env} {w:World} {K:Env->World->Prop} {Q:Zj} {t ke e:Nat} {r rk re:TyRow} {x y:Operand} {q:Nat} {m:List (α×Value)} {a:α}
include hg
theorem Fo (hr:QX c.g.tys t=some r)(hd:r.d= .map ke e)(bB:QX c.g.tys ke=some rk)(Zb:QX c.g.tys e=some re)(hk:KeyV rk.d kv)(hm:MapAt kv w q m)(ok:Bool):
  (Instr.lookup t (.map (some q)) (kv a) ok).run c.g.P w= .ok (match XJ a m with
   | some v=>if ok then .tuple #[v,.bool true] else v
   | none=>if ok then .tuple #[re.z,.bool false] else re.z) w:=by
 have Xc:=(hg.row hr).1;rw[hd] at Xc;have gC:=(hg.row bB).1;obtain⟨_,i,hi,_,_,hz⟩:=hg.row Zb;obtain⟨bs,ck,hl,hb⟩:=hm.ex;obtain⟨res,h1,h2,_,_⟩:=Fl hk a m bs 0 hl;have d8:(getObj q).run c.g.P w= .ok (.map (XX kv m bs).toArray ck) w:=by simp[getObj,Sem.run,hb]
 simp only[Instr.lookup,Sem.run_bind,ZX Xc,Result.andThen_ok,d8];simp only[Sem.run_pure,Result.andThen_ok,vP gC hk.plain,Instr.findKey,Sem.run_bind,ZX gC,h1];cases res with
 | none=>
  have:XJ a m=none:=by simpa using h2.symm
  rw[this];cases ok<;>simp[zeroValue,typeInfo,hi,hz]
 | some p=>
  have:XJ a m=some p.2:=by simpa using h2.symm
  rw[this];cases ok<;>simp
theorem cQy (ho:o.op= .lookup t x y false)(hr:QX c.g.tys t=some r)(hd:r.d= .map ke e)(bB:QX c.g.tys ke=some rk)(Zb:QX c.g.tys e=some re)(hk:KeyV rk.d kv)
  (hx:S.ev x=some (.map (some q))) (hy:S.ev y=some (kv a)) (hm:MapAt kv w q m) (k:Xn c S o.dst (.v ((XJ a m).getD re.z)) (λS=>K S w)):Zc c o S w K Q:=by
 refine JJ (w':=w) (v:=(XJ a m).getD re.z) (λb hf=>?_) k;have e1:=hf.ev hx;have e2:=hf.ev hy;have:=Fo (w:=w) (a:=a) hg hr hd bB Zb hk hm false;simp only[execOp,ho,e1,e2];simp only[Sem.run_bind,this,Result.andThen_ok];cases XJ a m<;>simp
theorem cQz (ho:o.op= .lookup t x y true)(hr:QX c.g.tys t=some r)(hd:r.d= .map ke e)(bB:QX c.g.tys ke=some rk)(Zb:QX c.g.tys e=some re)(hk:KeyV rk.d kv)
  (hx:S.ev x=some (.map (some q))) (hy:S.ev y=some (kv a)) (hm:MapAt kv w q m) (k:Xn c S o.dst (.v (.tuple #[(XJ a m).getD re.z,.bool (XJ a m).isSome])) (λS=>K S w)):Zc c o S w K Q:=by
 refine JJ (w':=w) (v:=.tuple #[(XJ a m).getD re.z,.bool (XJ a m).isSome]) (λb hf=>?_) k;have e1:=hf.ev hx;have e2:=hf.ev hy;have:=Fo (w:=w) (a:=a) hg hr hd bB Zb hk hm true;simp only[execOp,ho,e1,e2];simp only[Sem.run_bind,this,Result.andThen_ok];cases XJ a m<;>simp
theorem kr {v:Value}{z:Operand}(ho:o.op= .mapUpdate t x y z)(iF:o.dst=none)(hr:QX c.g.tys t=some r)(hd:r.d= .map ke e)(bB:QX c.g.tys ke=some rk)(hk:KeyV rk.d kv)
  (hx:S.ev x=some (.map (some q))) (hy:S.ev y=some (kv a)) (hz:S.ev z=some v) (hm:MapAt kv w q m)
  (k:∀w1,w.grownBy w1 (some q)->w1.heap.size=w.heap.size->MapAt kv w1 q (Zg a v m)->K S w1):Zc c o S w K Q:=by
 have Xc:=(hg.row hr).1;rw[hd] at Xc;have gC:=(hg.row bB).1;obtain⟨bs,ck,hl,hb⟩:=hm.ex;have Q5:q<w.heap.size:=(iW.1 hb).1;obtain⟨res,h1,h2,h3,h4⟩:=Fl hk a m bs 0 hl;have d8:(getObj q).run c.g.P w= .ok (.map (XX kv m bs).toArray ck) w:=by simp[getObj,Sem.run,hb]
 have fD:∀ob,(setObj q ob).run c.g.P w= .ok () {w with heap:=w.heap.setIfInBounds q ob}:=λob=>by simp[setObj,Sem.run,hb]
 have main:∃ob,(Instr.mapUpdate t (.map (some q)) (kv a) v).run c.g.P w= .ok () {w with heap:=w.heap.setIfInBounds q ob}/\∃an ck',an.length=(Zg a v m).length/\ob= .map (XX kv (Zg a v m) an).toArray ck':=by
  cases res with
  | none=>
   refine⟨_,?_,bs++ [ck],ck+1,?_,rfl⟩
   ·simp only[Instr.mapUpdate,Sem.run_bind,ZX Xc,Result.andThen_ok,d8,vP gC hk.plain,Instr.findKey,ZX gC,h1,Sem.run_pure,fD];rw[h4 rfl v];congr 4;simp only[XX];rw[List.zip_append hl.symm,dx];simp
   ·rw[h4 rfl v];simp[hl]
  | some p=>
   obtain⟨j,u⟩:=p;obtain⟨_,hj,h7⟩:=h3 j u rfl;obtain⟨h8,h9⟩:=h7 v;simp only[Nat.sub_zero] at h8 h9;have Mu:(((XX kv m bs).toArray[j]?).map (·.key)).getD (kv a)=kv a:=by
    rw[show(XX kv m bs).toArray[j]? =(XX kv m bs)[j]? from by simp,h9]<;>rfl
   refine⟨_,?_,bs,ck,?_,rfl⟩
   ·simp only[Instr.mapUpdate,Sem.run_bind,ZX Xc,Result.andThen_ok,d8,vP gC hk.plain,Instr.findKey,ZX gC,h1,Sem.run_pure,Mu,Instr.keyThatStays,hk.bits,if_true,fD];rw[h8];congr 4;simp
   ·have:=QO List.length h8;simp only[XX,ZW,List.length_zip,List.length_modify] at this;have Xf:(Zg a v m).length=m.length:=by
     have oJ:∀(m:List (α×Value)),(XJ a m).isSome->(Zg a v m).length=m.length:=by
      intro m;induction m with
      | nil=>intro h;simp[XJ] at h
      | cons p m ih=>
       obtain⟨b,x⟩:=p;intro h;simp only[Zg];split
       ·simp
       ·rename_i Yo;simp[ih (by simpa [XJ,Yo] using h)]
     exact oJ m (by rw[<-h2];rfl)
    rw[Xf,hl]
 obtain⟨ob,Jj,an,ck',cg,rfl⟩:=main;unfold Zc;intro b hf;have e1:=hf.ev hx;have e2:=hf.ev hy;have e3:=hf.ev hz;unfold Oper.wp;have:(execOp b.eval o).run c.g.P w= .ok .skip {w with heap:=w.heap.setIfInBounds q (.map (XX kv (Zg a v m) an).toArray ck')}:=by
  simp only[execOp,ho,e1,e2,e3];simp[Jj]
 rw[this];refine⟨S,by rw[iF];simpa [Act.put] using hf,k _ ⟨rfl,rfl,rfl,by simp,λi _ hi=>?_⟩ (by simp) ⟨an,ck',cg,?_⟩⟩
 ·simp only[EL];rw[if_neg (λe=>hi (by rw[e]))]
 ·simp[Q5]
end
end
noncomputable section
def gx:Gx where
 P:=Tryz.prog
 tys:=[
  ⟨1,.func #[] #[] false,1,8,.nilFunc⟩,
  ⟨3,.int .i64,1,8,.int .i64 0⟩,
  ⟨4,.bool,1,1,.bool false⟩,
  ⟨5,.int .u8,1,1,.int .u8 0⟩,
  ⟨9,.string,1,16,.string ByteArray.empty⟩,
  ⟨20,.interface #[],1,16,.nilIface⟩,
  ⟨21,.int .i32,1,4,.int .i32 0⟩,
  ⟨22,.slice 83,1,24,.slice none 0 0⟩,
  ⟨23,.slice 89,1,24,.slice none 0 0⟩,
  ⟨25,.struct #[⟨ "Family",5,0,false,"","",0⟩,⟨ "Lines",22,1,false,"","",8⟩,⟨ "Edits",23,2,false,"","",32⟩],3,56,.agg #[.int .u8 0,.slice none 0 0,.slice none 0 0]⟩,
  ⟨28,.slice 58,1,24,.slice none 0 0⟩,
  ⟨30,.slice 105,1,24,.slice none 0 0⟩,
  ⟨32,.struct #[⟨ "Nodes",30,0,false,"","",0⟩,⟨ "Root",3,1,false,"","",24⟩],2,32,.agg #[.slice none 0 0,.int .i64 0]⟩,
  ⟨34,.int .i64,1,8,.int .i64 0⟩,
  ⟨37,.slice 9,1,24,.slice none 0 0⟩,
  ⟨39,.slice 48,1,24,.slice none 0 0⟩,
  ⟨41,.struct #[⟨ "Text",9,0,false,"","",0⟩,⟨ "Segments",39,1,false,"","",16⟩],2,40,.agg #[.string ByteArray.empty,.slice none 0 0]⟩,
  ⟨44,.int .u64,1,8,.int .u64 0⟩,
  ⟨45,.int .u64,1,8,.int .u64 0⟩,
  ⟨48,.struct #[⟨ "From",3,0,false,"","",0⟩,⟨ "To",3,1,false,"","",8⟩,⟨ "File",3,2,false,"","",16⟩,⟨ "At",3,3,false,"","",24⟩,⟨ "If",32,4,false,"","",32⟩],6,64,.agg #[.int .i64 0,.int .i64 0,.int .i64 0,.int .i64 0,.slice none 0 0,.int .i64 0]⟩,
  ⟨54,.slice 56,1,24,.slice none 0 0⟩,
  ⟨56,.struct #[⟨ "If",32,0,false,"","",0⟩,⟨ "Text",9,2,false,"","",32⟩],3,48,.agg #[.slice none 0 0,.int .i64 0,.string ByteArray.empty]⟩,
  ⟨58,.struct #[⟨ "From",3,0,false,"","",0⟩,⟨ "To",3,1,false,"","",8⟩,⟨ "Text",9,2,false,"","",16⟩,⟨ "If",32,3,false,"","",32⟩],5,64,.agg #[.int .i64 0,.int .i64 0,.string ByteArray.empty,.slice none 0 0,.int .i64 0]⟩,
  ⟨62,.slice 5,1,24,.slice none 0 0⟩,
  ⟨63,.slice 62,1,24,.slice none 0 0⟩,
  ⟨65,.struct #[⟨ "Family",5,0,false,"","",0⟩,⟨ "Class",62,1,false,"","",8⟩,⟨ "Texts",63,2,false,"","",32⟩],3,56,.agg #[.int .u8 0,.slice none 0 0,.slice none 0 0]⟩,
  ⟨74,.func #[9] #[4] false,1,8,.nilFunc⟩,
  ⟨83,.struct #[⟨ "Kind",5,0,false,"","",0⟩,⟨ "If",5,1,false,"","",1⟩,⟨ "Words",62,2,false,"","",8⟩],3,32,.agg #[.int .u8 0,.int .u8 0,.slice none 0 0]⟩,
  ⟨85,.struct #[⟨ "Name",9,0,false,"","",0⟩,⟨ "Text",9,1,false,"","",16⟩],2,32,.agg #[.string ByteArray.empty,.string ByteArray.empty]⟩,
  ⟨86,.slice 85,1,24,.slice none 0 0⟩,
  ⟨89,.struct #[⟨ "Line",5,0,false,"","",0⟩,⟨ "From",5,1,false,"","",1⟩,⟨ "To",5,2,false,"","",2⟩,⟨ "Text",5,3,false,"","",3⟩,⟨ "If",5,4,false,"","",4⟩],5,5,.agg #[.int .u8 0,.int .u8 0,.int .u8 0,.int .u8 0,.int .u8 0]⟩,
  ⟨93,.struct #[⟨ "E",34,0,false,"","",0⟩,⟨ "File",3,1,false,"","",8⟩,⟨ "Line",3,2,false,"","",16⟩],3,24,.agg #[.int .i64 0,.int .i64 0,.int .i64 0]⟩,
  ⟨97,.pointer 99,1,8,.pointer none⟩,
  ⟨99,.struct #[⟨ "names",37,0,false,"","koine/patch",0⟩,⟨ "family",32,1,false,"","koine/patch",24⟩,⟨ "text",9,3,false,"","koine/patch",56⟩,⟨ "edits",28,4,false,"","koine/patch",72⟩],5,96,.agg #[.slice none 0 0,.slice none 0 0,.int .i64 0,.string ByteArray.empty,.slice none 0 0]⟩,
  ⟨105,.struct #[⟨ "Var",3,0,false,"","",0⟩,⟨ "Low",3,1,false,"","",8⟩,⟨ "High",3,2,false,"","",16⟩],3,24,.agg #[.int .i64 0,.int .i64 0,.int .i64 0]⟩,
  ⟨107,.pointer 109,1,8,.pointer none⟩,
  ⟨109,.struct #[⟨ "addr",107,0,false,"","strings",0⟩,⟨ "buf",62,1,false,"","strings",8⟩],2,32,.agg #[.pointer none,.slice none 0 0]⟩,
  ⟨112,.interface #[("Error",115)],1,16,.nilIface⟩,
  ⟨121,.int .u64,1,8,.int .u64 0⟩,
  ⟨122,.slice 45,1,24,.slice none 0 0⟩,
  ⟨127,.slice 3,1,24,.slice none 0 0⟩,
  ⟨129,.slice 132,1,24,.slice none 0 0⟩,
  ⟨132,.struct #[⟨ "from",3,0,false,"","koine/koineref29",0⟩,⟨ "to",3,1,false,"","koine/koineref29",8⟩,⟨ "in",32,2,false,"","koine/koineref29",16⟩],4,48,.agg #[.int .i64 0,.int .i64 0,.slice none 0 0,.int .i64 0]⟩,
  ⟨139,.func #[4,4] #[4] false,1,8,.nilFunc⟩,
  ⟨143,.slice 219,1,24,.slice none 0 0⟩,
  ⟨149,.slice 280,1,24,.slice none 0 0⟩,
  ⟨153,.pointer 157,1,8,.pointer none⟩,
  ⟨154,.map 9 3,1,8,.map none⟩,
  ⟨155,.map 3 4,1,8,.map none⟩,
  ⟨157,.struct #[⟨ "names",37,0,false,"","koine/source",0⟩,⟨ "files",86,1,false,"","koine/source",24⟩,⟨ "numbers",154,2,false,"","koine/source",48⟩,⟨ "reading",155,3,false,"","koine/source",56⟩,⟨ "depth",3,4,false,"","koine/source",64⟩,⟨ "text",109,5,false,"","koine/source",72⟩,⟨ "out",39,7,false,"","koine/source",104⟩,⟨ "fresh",4,8,false,"","koine/source",128⟩,⟨ "file",3,9,false,"","koine/source",136⟩,⟨ "line",3,10,false,"","koine/source",144⟩],11,152,.agg #[.slice none 0 0,.slice none 0 0,.map none,.map none,.int .i64 0,.pointer none,.slice none 0 0,.slice none 0 0,.bool false,.int .i64 0,.int .i64 0]⟩,
  ⟨160,.struct #[⟨ "place",93,0,false,"","koine/source",0⟩],3,24,.agg #[.int .i64 0,.int .i64 0,.int .i64 0]⟩,
  ⟨166,.struct #[⟨ "in",32,0,false,"","koine/patch",0⟩,⟨ "done",9,2,false,"","koine/patch",32⟩,⟨ "at",3,3,false,"","koine/patch",48⟩],4,56,.agg #[.slice none 0 0,.int .i64 0,.string ByteArray.empty,.int .i64 0]⟩,
  ⟨167,.slice 166,1,24,.slice none 0 0⟩,
  ⟨169,.func #[56] #[4] false,1,8,.nilFunc⟩,
  ⟨172,.map 105 4,1,8,.map none⟩,
  ⟨174,.pointer 177,1,8,.pointer none⟩,
  ⟨175,.map 105 3,1,8,.map none⟩,
  ⟨177,.struct #[⟨ "nodes",30,0,false,"","koine/diagram",0⟩,⟨ "known",175,1,false,"","koine/diagram",24⟩],2,32,.agg #[.slice none 0 0,.map none]⟩,
  ⟨179,.pointer 5,1,8,.pointer none⟩,
  ⟨180,.pointer 183,1,8,.pointer none⟩,
  ⟨181,.slice 242,1,24,.slice none 0 0⟩,
  ⟨183,.struct #[⟨ "a",32,0,false,"","koine/koineref02",0⟩,⟨ "b",32,2,false,"","koine/koineref02",32⟩,⟨ "op",3,4,false,"","koine/koineref02",64⟩,⟨ "nodes",30,5,false,"","koine/koineref02",72⟩,⟨ "seen",181,6,false,"","koine/koineref02",96⟩],7,120,.agg #[.slice none 0 0,.int .i64 0,.slice none 0 0,.int .i64 0,.int .i64 0,.slice none 0 0,.slice none 0 0]⟩,
  ⟨187,.func #[105] #[4] false,1,8,.nilFunc⟩,
  ⟨192,.func #[32,3] #[37] false,1,8,.nilFunc⟩,
  ⟨197,.slice 32,1,24,.slice none 0 0⟩,
  ⟨199,.pointer 201,1,8,.pointer none⟩,
  ⟨201,.struct #[⟨ "names",37,0,false,"","koine/koineref07",0⟩,⟨ "files",86,1,false,"","koine/koineref07",24⟩,⟨ "depth",3,2,false,"","koine/koineref07",48⟩,⟨ "reading",127,3,false,"","koine/koineref07",56⟩,⟨ "out",41,4,false,"","koine/koineref07",80⟩,⟨ "fresh",4,6,false,"","koine/koineref07",120⟩,⟨ "bad",93,7,false,"","koine/koineref07",128⟩],10,152,.agg #[.slice none 0 0,.slice none 0 0,.int .i64 0,.slice none 0 0,.string ByteArray.empty,.slice none 0 0,.bool false,.int .i64 0,.int .i64 0,.int .i64 0]⟩,
  ⟨204,.array 3 32,6,96,.agg #[.slice none 0 0,.int .i64 0,.slice none 0 0,.int .i64 0,.slice none 0 0,.int .i64 0]⟩,
  ⟨205,.func #[4,4,4] #[4] false,1,8,.nilFunc⟩,
  ⟨206,.slice 4,1,24,.slice none 0 0⟩,
  ⟨213,.slice 143,1,24,.slice none 0 0⟩,
  ⟨215,.func #[3] #[3] false,1,8,.nilFunc⟩,
  ⟨217,.func #[3,3] #[143,34] false,1,8,.nilFunc⟩,
  ⟨219,.int .u32,1,4,.int .u32 0⟩,
  ⟨220,.pointer 222,1,8,.pointer none⟩,
  ⟨222,.struct #[⟨ "names",154,0,false,"","koine/formula",0⟩,⟨ "rest",9,1,false,"","koine/formula",8⟩,⟨ "f",149,2,false,"","koine/formula",24⟩,⟨ "unknown",4,3,false,"","koine/formula",48⟩],4,56,.agg #[.map none,.string ByteArray.empty,.slice none 0 0,.bool false]⟩,
  ⟨223,.func #[] #[3] false,1,8,.nilFunc⟩,
  ⟨224,.map 9 4,1,8,.map none⟩,
  ⟨225,.slice 232,1,24,.slice none 0 0⟩,
  ⟨232,.struct #[⟨ "outer",32,0,false,"","koine/source",0⟩,⟨ "rest",32,2,false,"","koine/source",32⟩,⟨ "other",4,4,false,"","koine/source",64⟩,⟨ "line",3,5,false,"","koine/source",72⟩],6,80,.agg #[.slice none 0 0,.int .i64 0,.slice none 0 0,.int .i64 0,.bool false,.int .i64 0]⟩,
  ⟨233,.pointer 232,1,8,.pointer none⟩,
  ⟨238,.map 3 3,1,8,.map none⟩,
  ⟨240,.unsafePointer,1,8,.pointer none⟩,
  ⟨242,.array 3 3,3,24,.agg #[.int .i64 0,.int .i64 0,.int .i64 0]⟩,
  ⟨247,.pointer 249,1,8,.pointer none⟩,
  ⟨249,.struct #[⟨ "nodes",30,0,false,"","koine/koineref02",0⟩,⟨ "number",127,1,false,"","koine/koineref02",24⟩,⟨ "out",30,2,false,"","koine/koineref02",48⟩],3,72,.agg #[.slice none 0 0,.slice none 0 0,.slice none 0 0]⟩,
  ⟨251,.map 253 4,1,8,.map none⟩,
  ⟨252,.func #[3,3] #[4] false,1,8,.nilFunc⟩,
  ⟨253,.array 2 3,2,16,.agg #[.int .i64 0,.int .i64 0]⟩,
  ⟨259,.array 2 122,2,48,.agg #[.slice none 0 0,.slice none 0 0]⟩,
  ⟨260,.array 2 37,2,48,.agg #[.slice none 0 0,.slice none 0 0]⟩,
  ⟨261,.slice 266,1,24,.slice none 0 0⟩,
  ⟨266,.struct #[⟨ "outer",32,0,false,"","koine/koineref07",0⟩,⟨ "rest",32,2,false,"","koine/koineref07",32⟩,⟨ "other",4,4,false,"","koine/koineref07",64⟩,⟨ "line",3,5,false,"","koine/koineref07",72⟩],6,80,.agg #[.slice none 0 0,.int .i64 0,.slice none 0 0,.int .i64 0,.bool false,.int .i64 0]⟩,
  ⟨272,.map 242 3,1,8,.map none⟩,
  ⟨273,.func #[242] #[3] false,1,8,.nilFunc⟩,
  ⟨275,.pointer 277,1,8,.pointer none⟩,
  ⟨277,.struct #[⟨ "d",32,0,false,"","koine/formula",0⟩,⟨ "f",149,2,false,"","koine/formula",32⟩],3,56,.agg #[.slice none 0 0,.int .i64 0,.slice none 0 0]⟩,
  ⟨280,.struct #[⟨ "Op",3,0,false,"","",0⟩,⟨ "Var",3,1,false,"","",8⟩,⟨ "A",3,2,false,"","",16⟩,⟨ "B",3,3,false,"","",24⟩],4,32,.agg #[.int .i64 0,.int .i64 0,.int .i64 0,.int .i64 0]⟩,
  ⟨294,.func #[21] #[4] false,1,8,.nilFunc⟩,
  ⟨297,.array 512 4,512,512,.agg (Array.replicate 512 (.bool false))⟩,
  ⟨302,.array 256 4,256,256,.agg (Array.replicate 256 (.bool false))⟩,
  ⟨306,.pointer 302,1,8,.pointer none⟩,
  ⟨312,.pointer 314,1,8,.pointer none⟩,
  ⟨314,.struct #[⟨ "names",37,0,false,"","koine/koineref03",0⟩,⟨ "l",37,1,false,"","koine/koineref03",24⟩,⟨ "at",3,2,false,"","koine/koineref03",48⟩,⟨ "f",149,3,false,"","koine/koineref03",56⟩,⟨ "bad",4,4,false,"","koine/koineref03",80⟩,⟨ "unknown",4,5,false,"","koine/koineref03",81⟩],6,88,.agg #[.slice none 0 0,.slice none 0 0,.int .i64 0,.slice none 0 0,.bool false,.bool false]⟩,
  ⟨322,.array 256 5,256,256,.agg (Array.replicate 256 (.int .u8 0))⟩,
  ⟨324,.struct #[⟨ "lo",5,0,false,"","unicode/utf8",0⟩,⟨ "hi",5,1,false,"","unicode/utf8",1⟩],2,2,.agg #[.int .u8 0,.int .u8 0]⟩,
  ⟨325,.array 16 324,32,32,.agg (Array.replicate 32 (.int .u8 0))⟩]
 fns:=[3,4,5,6,7,8,9,10,11,12,13,14,15,16,17,18,19,20,21,22,23,24,25,26,27,28,29,30,31,32,33,34,35,36,37,38,39,40,41,42,43,44,45,46,47,48,49,50,51,52,53,54,55,56,57,58,59,60,61,62,63,64,65,66,67,68,69,70,71,72,73,74,75,76,77,78,79,80,81,82,83,84,85,86,87,88,89,90,91,92,93,94,95,96,97,98,99,100,101,102,103,104,105,106,107,108,109,110,111,112,113,114,115,116,117,118,119,120,121,122,123,124,125,126,127,128,129,130,131,132,133,134,135,136,137,138,139,140,141,142,143,144,145,146,147,148,149,150,151,152,153,154,155,156,157,158,160,161,162,163,164,165,166,167,168,169,170,171,172,173,174,175,176,177,178,179,180,181,182,183,184,185,186,187,188,189,190,191,192,193,194,195,196,197,198,199,200,201,202,203,204,205,206,208,209,210,211,212,213,214,215,216,217,218,219,220,221,222,223,224,225,226,227,228,229,230,231,232,233,235,237,238,239,240,241,242,243,244,245,246,248,249,250,251,252,253,254,255,256,257,258,259,260,261]
 ms:=[]
 eqs:=[⟨105,[0,0,0]⟩,⟨280,[0,0,0,0]⟩]
theorem cQA:Af Tryz.prog gx.tys:=by
 refine⟨⟨?_,?_⟩,⟨?_,?_⟩,⟨?_,?_⟩,⟨?_,?_⟩,⟨?_,?_⟩,⟨?_,?_⟩,⟨?_,?_⟩,⟨?_,?_⟩,⟨?_,?_⟩,⟨?_,?_⟩,⟨?_,?_⟩,⟨?_,?_⟩,⟨?_,?_⟩,⟨?_,?_⟩,⟨?_,?_⟩,⟨?_,?_⟩,⟨?_,?_⟩,⟨?_,?_⟩,⟨?_,?_⟩,⟨?_,?_⟩,⟨?_,?_⟩,⟨?_,?_⟩,⟨?_,?_⟩,⟨?_,?_⟩,⟨?_,?_⟩,⟨?_,?_⟩,⟨?_,?_⟩,⟨?_,?_⟩,⟨?_,?_⟩,⟨?_,?_⟩,⟨?_,?_⟩,⟨?_,?_⟩,⟨?_,?_⟩,⟨?_,?_⟩,⟨?_,?_⟩,⟨?_,?_⟩,⟨?_,?_⟩,⟨?_,?_⟩,⟨?_,?_⟩,⟨?_,?_⟩,⟨?_,?_⟩,⟨?_,?_⟩,⟨?_,?_⟩,⟨?_,?_⟩,⟨?_,?_⟩,⟨?_,?_⟩,⟨?_,?_⟩,⟨?_,?_⟩,⟨?_,?_⟩,⟨?_,?_⟩,⟨?_,?_⟩,⟨?_,?_⟩,⟨?_,?_⟩,⟨?_,?_⟩,⟨?_,?_⟩,⟨?_,?_⟩,⟨?_,?_⟩,⟨?_,?_⟩,⟨?_,?_⟩,⟨?_,?_⟩,⟨?_,?_⟩,⟨?_,?_⟩,⟨?_,?_⟩,⟨?_,?_⟩,⟨?_,?_⟩,⟨?_,?_⟩,⟨?_,?_⟩,⟨?_,?_⟩,⟨?_,?_⟩,⟨?_,?_⟩,⟨?_,?_⟩,⟨?_,?_⟩,⟨?_,?_⟩,⟨?_,?_⟩,⟨?_,?_⟩,⟨?_,?_⟩,⟨?_,?_⟩,⟨?_,?_⟩,⟨?_,?_⟩,⟨?_,?_⟩,⟨?_,?_⟩,⟨?_,?_⟩,⟨?_,?_⟩,⟨?_,?_⟩,⟨?_,?_⟩,⟨?_,?_⟩,⟨?_,?_⟩,⟨?_,?_⟩,⟨?_,?_⟩,⟨?_,?_⟩,⟨?_,?_⟩,⟨?_,?_⟩,⟨?_,?_⟩,⟨?_,?_⟩,⟨?_,?_⟩,⟨?_,?_⟩,⟨?_,?_⟩,⟨?_,?_⟩,⟨?_,?_⟩,⟨?_,?_⟩,⟨?_,?_⟩,⟨?_,?_⟩,⟨?_,?_⟩,⟨?_,?_⟩,⟨?_,?_⟩,⟨?_,?_⟩,⟨?_,?_⟩,trivial⟩<;>kernel_rfl
set_option maxRecDepth 100000 in
theorem cQB:Ag Tryz.prog gx.fns:=by
 refine⟨⟨_,Tryz.func3,?_,?_⟩,⟨_,Tryz.func4,?_,?_⟩,⟨_,Tryz.func5,?_,?_⟩,⟨_,Tryz.func6,?_,?_⟩,⟨_,Tryz.func7,?_,?_⟩,⟨_,Tryz.func8,?_,?_⟩,⟨_,Tryz.func9,?_,?_⟩,⟨_,Tryz.func10,?_,?_⟩,⟨_,Tryz.func11,?_,?_⟩,⟨_,Tryz.func12,?_,?_⟩,⟨_,Tryz.func13,?_,?_⟩,⟨_,Tryz.func14,?_,?_⟩,⟨_,Tryz.func15,?_,?_⟩,⟨_,Tryz.func16,?_,?_⟩,⟨_,Tryz.func17,?_,?_⟩,⟨_,Tryz.func18,?_,?_⟩,⟨_,Tryz.func19,?_,?_⟩,⟨_,Tryz.func20,?_,?_⟩,⟨_,Tryz.func21,?_,?_⟩,⟨_,Tryz.func22,?_,?_⟩,⟨_,Tryz.func23,?_,?_⟩,⟨_,Tryz.func24,?_,?_⟩,⟨_,Tryz.func25,?_,?_⟩,⟨_,Tryz.func26,?_,?_⟩,⟨_,Tryz.func27,?_,?_⟩,⟨_,Tryz.func28,?_,?_⟩,⟨_,Tryz.func29,?_,?_⟩,⟨_,Tryz.func30,?_,?_⟩,⟨_,Tryz.func31,?_,?_⟩,⟨_,Tryz.func32,?_,?_⟩,⟨_,Tryz.func33,?_,?_⟩,⟨_,Tryz.func34,?_,?_⟩,⟨_,Tryz.func35,?_,?_⟩,⟨_,Tryz.func36,?_,?_⟩,⟨_,Tryz.func37,?_,?_⟩,⟨_,Tryz.func38,?_,?_⟩,⟨_,Tryz.func39,?_,?_⟩,⟨_,Tryz.func40,?_,?_⟩,⟨_,Tryz.func41,?_,?_⟩,⟨_,Tryz.func42,?_,?_⟩,⟨_,Tryz.func43,?_,?_⟩,⟨_,Tryz.func44,?_,?_⟩,⟨_,Tryz.func45,?_,?_⟩,⟨_,Tryz.func46,?_,?_⟩,⟨_,Tryz.func47,?_,?_⟩,⟨_,Tryz.func48,?_,?_⟩,⟨_,Tryz.func49,?_,?_⟩,⟨_,Tryz.func50,?_,?_⟩,⟨_,Tryz.func51,?_,?_⟩,⟨_,Tryz.func52,?_,?_⟩,⟨_,Tryz.func53,?_,?_⟩,⟨_,Tryz.func54,?_,?_⟩,⟨_,Tryz.func55,?_,?_⟩,⟨_,Tryz.func56,?_,?_⟩,⟨_,Tryz.func57,?_,?_⟩,⟨_,Tryz.func58,?_,?_⟩,⟨_,Tryz.func59,?_,?_⟩,⟨_,Tryz.func60,?_,?_⟩,⟨_,Tryz.func61,?_,?_⟩,⟨_,Tryz.func62,?_,?_⟩,⟨_,Tryz.func63,?_,?_⟩,⟨_,Tryz.func64,?_,?_⟩,⟨_,Tryz.func65,?_,?_⟩,⟨_,Tryz.func66,?_,?_⟩,⟨_,Tryz.func67,?_,?_⟩,⟨_,Tryz.func68,?_,?_⟩,⟨_,Tryz.func69,?_,?_⟩,⟨_,Tryz.func70,?_,?_⟩,⟨_,Tryz.func71,?_,?_⟩,⟨_,Tryz.func72,?_,?_⟩,⟨_,Tryz.func73,?_,?_⟩,⟨_,Tryz.func74,?_,?_⟩,⟨_,Tryz.func75,?_,?_⟩,⟨_,Tryz.func76,?_,?_⟩,⟨_,Tryz.func77,?_,?_⟩,⟨_,Tryz.func78,?_,?_⟩,⟨_,Tryz.func79,?_,?_⟩,⟨_,Tryz.func80,?_,?_⟩,⟨_,Tryz.func81,?_,?_⟩,⟨_,Tryz.func82,?_,?_⟩,⟨_,Tryz.func83,?_,?_⟩,⟨_,Tryz.func84,?_,?_⟩,⟨_,Tryz.func85,?_,?_⟩,⟨_,Tryz.func86,?_,?_⟩,⟨_,Tryz.func87,?_,?_⟩,⟨_,Tryz.func88,?_,?_⟩,⟨_,Tryz.func89,?_,?_⟩,⟨_,Tryz.func90,?_,?_⟩,⟨_,Tryz.func91,?_,?_⟩,⟨_,Tryz.func92,?_,?_⟩,⟨_,Tryz.func93,?_,?_⟩,⟨_,Tryz.func94,?_,?_⟩,⟨_,Tryz.func95,?_,?_⟩,⟨_,Tryz.func96,?_,?_⟩,⟨_,Tryz.func97,?_,?_⟩,⟨_,Tryz.func98,?_,?_⟩,⟨_,Tryz.func99,?_,?_⟩,⟨_,Tryz.func100,?_,?_⟩,⟨_,Tryz.func101,?_,?_⟩,⟨_,Tryz.func102,?_,?_⟩,⟨_,Tryz.func103,?_,?_⟩,⟨_,Tryz.func104,?_,?_⟩,⟨_,Tryz.func105,?_,?_⟩,⟨_,Tryz.func106,?_,?_⟩,⟨_,Tryz.func107,?_,?_⟩,⟨_,Tryz.func108,?_,?_⟩,⟨_,Tryz.func109,?_,?_⟩,⟨_,Tryz.func110,?_,?_⟩,⟨_,Tryz.func111,?_,?_⟩,⟨_,Tryz.func112,?_,?_⟩,⟨_,Tryz.func113,?_,?_⟩,⟨_,Tryz.func114,?_,?_⟩,⟨_,Tryz.func115,?_,?_⟩,⟨_,Tryz.func116,?_,?_⟩,⟨_,Tryz.func117,?_,?_⟩,⟨_,Tryz.func118,?_,?_⟩,⟨_,Tryz.func119,?_,?_⟩,⟨_,Tryz.func120,?_,?_⟩,⟨_,Tryz.func121,?_,?_⟩,⟨_,Tryz.func122,?_,?_⟩,⟨_,Tryz.func123,?_,?_⟩,⟨_,Tryz.func124,?_,?_⟩,⟨_,Tryz.func125,?_,?_⟩,⟨_,Tryz.func126,?_,?_⟩,⟨_,Tryz.func127,?_,?_⟩,⟨_,Tryz.func128,?_,?_⟩,⟨_,Tryz.func129,?_,?_⟩,⟨_,Tryz.func130,?_,?_⟩,⟨_,Tryz.func131,?_,?_⟩,⟨_,Tryz.func132,?_,?_⟩,⟨_,Tryz.func133,?_,?_⟩,⟨_,Tryz.func134,?_,?_⟩,⟨_,Tryz.func135,?_,?_⟩,⟨_,Tryz.func136,?_,?_⟩,⟨_,Tryz.func137,?_,?_⟩,⟨_,Tryz.func138,?_,?_⟩,⟨_,Tryz.func139,?_,?_⟩,⟨_,Tryz.func140,?_,?_⟩,⟨_,Tryz.func141,?_,?_⟩,⟨_,Tryz.func142,?_,?_⟩,⟨_,Tryz.func143,?_,?_⟩,⟨_,Tryz.func144,?_,?_⟩,⟨_,Tryz.func145,?_,?_⟩,⟨_,Tryz.func146,?_,?_⟩,⟨_,Tryz.func147,?_,?_⟩,⟨_,Tryz.func148,?_,?_⟩,⟨_,Tryz.func149,?_,?_⟩,⟨_,Tryz.func150,?_,?_⟩,⟨_,Tryz.func151,?_,?_⟩,⟨_,Tryz.func152,?_,?_⟩,⟨_,Tryz.func153,?_,?_⟩,⟨_,Tryz.func154,?_,?_⟩,⟨_,Tryz.func155,?_,?_⟩,⟨_,Tryz.func156,?_,?_⟩,⟨_,Tryz.func157,?_,?_⟩,⟨_,Tryz.func158,?_,?_⟩,⟨_,Tryz.func160,?_,?_⟩,⟨_,Tryz.func161,?_,?_⟩,⟨_,Tryz.func162,?_,?_⟩,⟨_,Tryz.func163,?_,?_⟩,⟨_,Tryz.func164,?_,?_⟩,⟨_,Tryz.func165,?_,?_⟩,⟨_,Tryz.func166,?_,?_⟩,⟨_,Tryz.func167,?_,?_⟩,⟨_,Tryz.func168,?_,?_⟩,⟨_,Tryz.func169,?_,?_⟩,⟨_,Tryz.func170,?_,?_⟩,⟨_,Tryz.func171,?_,?_⟩,⟨_,Tryz.func172,?_,?_⟩,⟨_,Tryz.func173,?_,?_⟩,⟨_,Tryz.func174,?_,?_⟩,⟨_,Tryz.func175,?_,?_⟩,⟨_,Tryz.func176,?_,?_⟩,⟨_,Tryz.func177,?_,?_⟩,⟨_,Tryz.func178,?_,?_⟩,⟨_,Tryz.func179,?_,?_⟩,⟨_,Tryz.func180,?_,?_⟩,⟨_,Tryz.func181,?_,?_⟩,⟨_,Tryz.func182,?_,?_⟩,⟨_,Tryz.func183,?_,?_⟩,⟨_,Tryz.func184,?_,?_⟩,⟨_,Tryz.func185,?_,?_⟩,⟨_,Tryz.func186,?_,?_⟩,⟨_,Tryz.func187,?_,?_⟩,⟨_,Tryz.func188,?_,?_⟩,⟨_,Tryz.func189,?_,?_⟩,⟨_,Tryz.func190,?_,?_⟩,⟨_,Tryz.func191,?_,?_⟩,⟨_,Tryz.func192,?_,?_⟩,⟨_,Tryz.func193,?_,?_⟩,⟨_,Tryz.func194,?_,?_⟩,⟨_,Tryz.func195,?_,?_⟩,⟨_,Tryz.func196,?_,?_⟩,⟨_,Tryz.func197,?_,?_⟩,⟨_,Tryz.func198,?_,?_⟩,⟨_,Tryz.func199,?_,?_⟩,⟨_,Tryz.func200,?_,?_⟩,⟨_,Tryz.func201,?_,?_⟩,⟨_,Tryz.func202,?_,?_⟩,⟨_,Tryz.func203,?_,?_⟩,⟨_,Tryz.func204,?_,?_⟩,⟨_,Tryz.func205,?_,?_⟩,⟨_,Tryz.func206,?_,?_⟩,⟨_,Tryz.func208,?_,?_⟩,⟨_,Tryz.func209,?_,?_⟩,⟨_,Tryz.func210,?_,?_⟩,⟨_,Tryz.func211,?_,?_⟩,⟨_,Tryz.func212,?_,?_⟩,⟨_,Tryz.func213,?_,?_⟩,⟨_,Tryz.func214,?_,?_⟩,⟨_,Tryz.func215,?_,?_⟩,⟨_,Tryz.func216,?_,?_⟩,⟨_,Tryz.func217,?_,?_⟩,⟨_,Tryz.func218,?_,?_⟩,⟨_,Tryz.func219,?_,?_⟩,⟨_,Tryz.func220,?_,?_⟩,⟨_,Tryz.func221,?_,?_⟩,⟨_,Tryz.func222,?_,?_⟩,⟨_,Tryz.func223,?_,?_⟩,⟨_,Tryz.func224,?_,?_⟩,⟨_,Tryz.func225,?_,?_⟩,⟨_,Tryz.func226,?_,?_⟩,⟨_,Tryz.func227,?_,?_⟩,⟨_,Tryz.func228,?_,?_⟩,⟨_,Tryz.func229,?_,?_⟩,⟨_,Tryz.func230,?_,?_⟩,⟨_,Tryz.func231,?_,?_⟩,⟨_,Tryz.func232,?_,?_⟩,⟨_,Tryz.func233,?_,?_⟩,⟨_,Tryz.func235,?_,?_⟩,⟨_,Tryz.func237,?_,?_⟩,⟨_,Tryz.func238,?_,?_⟩,⟨_,Tryz.func239,?_,?_⟩,⟨_,Tryz.func240,?_,?_⟩,⟨_,Tryz.func241,?_,?_⟩,⟨_,Tryz.func242,?_,?_⟩,⟨_,Tryz.func243,?_,?_⟩,⟨_,Tryz.func244,?_,?_⟩,⟨_,Tryz.func245,?_,?_⟩,⟨_,Tryz.func246,?_,?_⟩,⟨_,Tryz.func248,?_,?_⟩,⟨_,Tryz.func249,?_,?_⟩,⟨_,Tryz.func250,?_,?_⟩,⟨_,Tryz.func251,?_,?_⟩,⟨_,Tryz.func252,?_,?_⟩,⟨_,Tryz.func253,?_,?_⟩,⟨_,Tryz.func254,?_,?_⟩,⟨_,Tryz.func255,?_,?_⟩,⟨_,Tryz.func256,?_,?_⟩,⟨_,Tryz.func257,?_,?_⟩,⟨_,Tryz.func258,?_,?_⟩,⟨_,Tryz.func259,?_,?_⟩,⟨_,Tryz.func260,?_,?_⟩,⟨_,Tryz.func261,?_,?_⟩,trivial⟩<;>kernel_rfl
theorem cQC:Ad Tryz.prog gx.ms:=
 trivial
theorem cQD:Ae Tryz.prog gx.eqs:=
 ⟨⟨by kernel_rfl,by kernel_rfl,by kernel_rfl⟩,
  ⟨by kernel_rfl,by kernel_rfl,by kernel_rfl⟩,trivial⟩
theorem Qa:gx.Ok:=⟨cQA,cQB,by kernel_rfl,cQC,cQD⟩
abbrev c3:Cx:=⟨gx,128,1,[1,2,3,4,5,6,7,8,9,10,11,12,13,14,15,16,17,18,19,37,58,60,66,71,83,97,126],[]⟩
abbrev c4:Cx:=⟨gx,146,2,[2,4,5,6,7,8,9,10,11,12,13,14,15,16,17,18,19,20,21,22,37,45,83,92,97,128,130,144],[]⟩
abbrev c5:Cx:=⟨gx,181,3,[3,6,7,8,9,10,11,12,13,14,15,16,19,21,25,60,72,80,87,96,101,110,115,122],[]⟩
abbrev c6:Cx:=⟨gx,137,3,[3,5,6,7,8,9,10,11,12,13,14,15,16,66],[]⟩
abbrev c7:Cx:=⟨gx,100,2,[2,4,5,6,7,8,9,10,11,12,13,14,15,23],[]⟩
abbrev c8:Cx:=⟨gx,179,1,[1,2,3,4,5,6,7,8,9,10,11,12,13,26,32,48,58,61,78,89,100,131,133,177],[]⟩
abbrev c9:Cx:=⟨gx,80,1,[1,2,3,4,5,6,7,8,9,10,19],[]⟩
abbrev sL:Cx:=⟨gx,53,2,[2,4,5,6,7,8,9,10,33,35,51],[]⟩
abbrev vQ:Cx:=⟨gx,179,1,[1,3,5,7,9,11,13,14,15,16,17,18,19,21,23,25,26,27,28,30],[]⟩
abbrev c14:Cx:=⟨gx,12,2,[2,3,9],[]⟩
abbrev c15:Cx:=⟨gx,118,5,[5,8,9,10,11,12,13,14,15,17,19,44,45,46,47,51,81,115],[]⟩
abbrev c16:Cx:=⟨gx,2,1,[],[]⟩
abbrev OT:Cx:=⟨gx,38,6,[10,16,30],[]⟩
abbrev c22:Cx:=⟨gx,8,2,[2,3,4],[]⟩
abbrev c23:Cx:=⟨gx,9,2,[2,3,4],[]⟩
abbrev c24:Cx:=⟨gx,65,4,[4,6,7,8,10,16,17,18,19,46,55,59],[]⟩
abbrev c25:Cx:=⟨gx,7,2,[2],[]⟩
abbrev c26:Cx:=⟨gx,69,2,[2,4,5,6,7,8,11,19,39,48],[]⟩
abbrev c27:Cx:=⟨gx,108,4,[4,6,7,8,9,10,11,12,13,14,15,16,24,30,61,68,73,79,91,106],[]⟩
abbrev c28:Cx:=⟨gx,11,4,[4],[]⟩
abbrev c29:Cx:=⟨gx,6,2,[2,3],[]⟩
abbrev c30:Cx:=⟨gx,15,2,[2,3,9],[]⟩
abbrev c32:Cx:=⟨gx,21,3,[],[]⟩
abbrev c33:Cx:=⟨gx,33,2,[2,4,5,11,23],[]⟩
abbrev c34:Cx:=⟨gx,15,2,[2,3,9],[]⟩
abbrev c35:Cx:=⟨gx,9,1,[1,2,3],[]⟩
abbrev c36:Cx:=⟨gx,11,2,[2,3,4,5],[]⟩
abbrev c37:Cx:=⟨gx,6,2,[2,3],[]⟩
abbrev c38:Cx:=⟨gx,42,7,[7,9,11,12],[]⟩
abbrev c39:Cx:=⟨gx,25,4,[4,6,7,8],[]⟩
abbrev bJ:Cx:=⟨gx,11,4,[9],[]⟩
abbrev c42:Cx:=⟨gx,47,3,[3,5,6,7,8,9,24,45],[]⟩
abbrev c43:Cx:=⟨gx,81,6,[6,7,9,10,11,12,13,14,15,22,29,38,39,40,41,63],[]⟩
abbrev OU:Cx:=⟨gx,6,2,[3],[]⟩
abbrev c45:Cx:=⟨gx,107,3,[3,4,5,9,10,11,12,70,104],[]⟩
abbrev c46:Cx:=⟨gx,19,4,[12],[]⟩
abbrev c47:Cx:=⟨gx,21,5,[5,6,7,8,13],[]⟩
abbrev c48:Cx:=⟨gx,222,7,[7,8,9,11,12,13,15,16,18,19,21,22,23,25,26,27,31,32,33,34,56,64,67,68,69,70,77,78,79,80,97,105,106,107,108,111,112,113,114,124,155,163,164,165,166,185,191],[]⟩
abbrev c49:Cx:=⟨gx,11,2,[2,3,4],[]⟩
abbrev OV:Cx:=⟨gx,22,6,[6,7,8,9,17],[]⟩
abbrev c51:Cx:=⟨gx,6,3,[],[]⟩
abbrev c52:Cx:=⟨gx,106,1,[1,2,3,4,5,6,10,13,14,15,16,63,79,94,105],[]⟩
abbrev c53:Cx:=⟨gx,30,2,[2,4,5,6,10,23],[]⟩
abbrev OW:Cx:=⟨gx,19,6,[],[]⟩
abbrev OX:Cx:=⟨gx,14,3,[],[]⟩
abbrev c58:Cx:=⟨gx,26,3,[3,4,6,7,8],[]⟩
abbrev c59:Cx:=⟨gx,6,1,[1,2],[]⟩
abbrev bK:Cx:=⟨gx,11,4,[9],[]⟩
abbrev c61:Cx:=⟨gx,15,2,[2,3,4],[]⟩
abbrev c62:Cx:=⟨gx,16,2,[2,3,4],[]⟩
abbrev c63:Cx:=⟨gx,15,3,[],[]⟩
abbrev c64:Cx:=⟨gx,12,2,[2,3,4],[]⟩
abbrev c65:Cx:=⟨gx,12,3,[3,4,5,6,7],[]⟩
abbrev c66:Cx:=⟨gx,8,2,[2,3,4],[]⟩
abbrev c67:Cx:=⟨gx,25,3,[3,4,5,6,16,23],[]⟩
abbrev c68:Cx:=⟨gx,24,2,[2,4,5,8,13,23],[]⟩
abbrev c69:Cx:=⟨gx,17,2,[2,3,4],[]⟩
abbrev c70:Cx:=⟨gx,32,5,[10,31],[]⟩
abbrev c71:Cx:=⟨gx,15,7,[9],[]⟩
abbrev OY:Cx:=⟨gx,59,8,[8,9,13],[]⟩
abbrev c78:Cx:=⟨gx,23,2,[2,4,5,6,12,17],[]⟩
abbrev c79:Cx:=⟨gx,18,5,[],[]⟩
abbrev c80:Cx:=⟨gx,23,5,[12],[]⟩
abbrev c81:Cx:=⟨gx,9,3,[],[]⟩
abbrev c82:Cx:=⟨gx,26,3,[3,4,5,6,7,8,14],[]⟩
abbrev c83:Cx:=⟨gx,7,5,[],[]⟩
abbrev c84:Cx:=⟨gx,9,5,[],[]⟩
abbrev c86:Cx:=⟨gx,30,3,[3,4,5,7,8,9,16,23],[]⟩
abbrev c87:Cx:=⟨gx,107,2,[2,3,4,5,6,8,9,10,11,12,13,14,15,16,17,18,19,20,24,31,33,34,35,36,42,55,56,57,58,93],[]⟩
abbrev c88:Cx:=⟨gx,31,6,[13,15,16,17],[]⟩
abbrev c89:Cx:=⟨gx,50,4,[4,5,6,7,8,15,25,32,38],[]⟩
abbrev c90:Cx:=⟨gx,87,2,[2,3,4,5,6,7,10,13,14,15,16,46,47,48,73,79],[]⟩
abbrev aB:Cx:=⟨gx,13,2,[2,3,9],[]⟩
abbrev c92:Cx:=⟨gx,230,5,[5,6,7,8,9,10,11,12,13,14,16,17,18,19,20,21,56,96,125,147,163,172,201],[]⟩
abbrev c95:Cx:=⟨gx,10,5,[],[]⟩
abbrev c96:Cx:=⟨gx,8,5,[],[]⟩
abbrev c97:Cx:=⟨gx,16,2,[2,3,4],[]⟩
abbrev c98:Cx:=⟨gx,19,6,[7,8,9,16],[]⟩
abbrev c99:Cx:=⟨gx,8,2,[2,3],[]⟩
abbrev cQE:Cx:=⟨gx,8,2,[2,4],[]⟩
abbrev cQF:Cx:=⟨gx,11,2,[2,3,4,5],[]⟩
abbrev cQG:Cx:=⟨gx,75,8,[8,10,12,13,15,22,29,39,40,41,42,49,63,64,65,66],[]⟩
abbrev cQH:Cx:=⟨gx,14,2,[2,4,6],[]⟩
abbrev cQI:Cx:=⟨gx,17,2,[2,4,5,6,7],[]⟩
abbrev cQJ:Cx:=⟨gx,17,2,[2,3,4],[]⟩
abbrev OZ:Cx:=⟨gx,20,2,[6,19],[]⟩
abbrev cQK:Cx:=⟨gx,137,17,[22,33,57],[]⟩
abbrev cQL:Cx:=⟨gx,22,4,[4,5,6],[]⟩
abbrev cQM:Cx:=⟨gx,9,5,[],[]⟩
abbrev cQN:Cx:=⟨gx,8,2,[2,3],[]⟩
abbrev cQO:Cx:=⟨gx,18,4,[4,5,6,7,8,9,15],[]⟩
abbrev O0:Cx:=⟨gx,17,3,[3,4,5,6,7,8],[]⟩
abbrev cQP:Cx:=⟨gx,8,5,[],[]⟩
abbrev cQQ:Cx:=⟨gx,9,5,[],[]⟩
abbrev cQR:Cx:=⟨gx,26,3,[3,4,5,6,7,8,15],[]⟩
abbrev cQS:Cx:=⟨gx,77,5,[5,7,9,10,11,12,13,14,15,16,17,18,24,42,50,68],[]⟩
abbrev cQT:Cx:=⟨gx,26,6,[10,12,13,14,24],[]⟩
abbrev cQU:Cx:=⟨gx,77,11,[47,66],[]⟩
abbrev cQV:Cx:=⟨gx,44,4,[7,40],[]⟩
abbrev cQW:Cx:=⟨gx,10,1,[1,2,6,9],[]⟩
abbrev cQX:Cx:=⟨gx,19,5,[8,17],[]⟩
abbrev cQY:Cx:=⟨gx,18,5,[8],[]⟩
abbrev cQZ:Cx:=⟨gx,127,11,[11,12,13,14,15,16,20,40,50,93,118],[]⟩
abbrev cQ0:Cx:=⟨gx,10,1,[1,2,3,7],[]⟩
abbrev O1:Cx:=⟨gx,25,2,[2,3,4,5,6,7],[]⟩
abbrev Fp:Cx:=⟨gx,12,8,[],[]⟩
abbrev cQ1:Cx:=⟨gx,47,7,[8,9,10,11,31],[]⟩
abbrev cQ2:Cx:=⟨gx,28,1,[1,2,3,4,5,9,23],[]⟩
abbrev cQ3:Cx:=⟨gx,45,9,[9,10,17,20,21,22,23,24,36],[]⟩
abbrev cQ4:Cx:=⟨gx,16,5,[],[]⟩
abbrev cQ5:Cx:=⟨gx,10,5,[],[]⟩
abbrev cQ6:Cx:=⟨gx,34,11,[19,20,21,29],[]⟩
abbrev cQ7:Cx:=⟨gx,72,9,[16,21,32,33,34,46],[]⟩
abbrev cQ8:Cx:=⟨gx,20,3,[],[]⟩
abbrev AJ:Cx:=⟨gx,17,5,[7,14],[]⟩
abbrev cQ9:Cx:=⟨gx,6,1,[1,2],[]⟩
abbrev dQa:Cx:=⟨gx,29,7,[],[]⟩
abbrev dQb:Cx:=⟨gx,13,7,[],[]⟩
abbrev dQc:Cx:=⟨gx,32,4,[4,5,6,16,17,25],[]⟩
abbrev dQd:Cx:=⟨gx,16,2,[6],[]⟩
abbrev dQe:Cx:=⟨gx,29,4,[4,5,6,7],[]⟩
abbrev dQf:Cx:=⟨gx,56,7,[27,52],[]⟩
abbrev dQg:Cx:=⟨gx,16,4,[],[]⟩
abbrev dQh:Cx:=⟨gx,42,8,[8,9,13,25],[]⟩
abbrev dQi:Cx:=⟨gx,80,7,[7,8,31,37],[]⟩
abbrev dQj:Cx:=⟨gx,66,12,[13,15,20,36,41],[]⟩
abbrev dQk:Cx:=⟨gx,18,5,[],[]⟩
abbrev dQl:Cx:=⟨gx,9,5,[],[]⟩
abbrev dQm:Cx:=⟨gx,55,9,[9,10,11,18],[]⟩
abbrev dQn:Cx:=⟨gx,26,6,[10,12,13,14,24],[]⟩
abbrev dQo:Cx:=⟨gx,25,7,[10,11,16],[]⟩
abbrev dQp:Cx:=⟨gx,14,2,[2,4,6],[]⟩
abbrev dQq:Cx:=⟨gx,29,3,[3,6,7,12],[]⟩
abbrev dQr:Cx:=⟨gx,38,3,[3,4,5,6,11,18,26],[]⟩
abbrev dQs:Cx:=⟨gx,77,5,[5,6,7,9,19],[]⟩
abbrev dQt:Cx:=⟨gx,19,6,[7,8,9,16],[]⟩
abbrev O3:Cx:=⟨gx,67,15,[16,24,26,31],[]⟩
abbrev dQu:Cx:=⟨gx,29,3,[3,6,7,12],[]⟩
abbrev dQv:Cx:=⟨gx,21,5,[],[]⟩
abbrev dQw:Cx:=⟨gx,19,6,[7,8,9,16],[]⟩
abbrev dQx:Cx:=⟨gx,18,7,[],[]⟩
abbrev dQy:Cx:=⟨gx,64,12,[16,17,18,28,47,48,53,59],[]⟩
abbrev dQz:Cx:=⟨gx,8,3,[4],[]⟩
abbrev dQA:Cx:=⟨gx,34,4,[7,30],[]⟩
abbrev dQB:Cx:=⟨gx,19,6,[9,17],[]⟩
abbrev dQC:Cx:=⟨gx,34,1,[1,2,3,15,20,26],[]⟩
abbrev dQD:Cx:=⟨gx,26,6,[10,14,25],[]⟩
abbrev dQE:Cx:=⟨gx,78,11,[48,67],[]⟩
abbrev dQF:Cx:=⟨gx,4,1,[],[]⟩
abbrev O4:Cx:=⟨gx,97,6,[6,7,8,9,10,11,12,13,14,15,28,39,46,64,65],[]⟩
abbrev dQG:Cx:=⟨gx,54,9,[9,10,11,14,30],[]⟩
abbrev dQH:Cx:=⟨gx,23,4,[7,21],[]⟩
abbrev dQI:Cx:=⟨gx,89,5,[5,6,7,17,32,42,52,62],[]⟩
abbrev dQJ:Cx:=⟨gx,63,3,[3,4,5,6,8,9,17,18,19,20,21,29,36,37,38,39,44,54,55,56,61],[]⟩
abbrev dQK:Cx:=⟨gx,75,10,[10,11,21,26,48,52,56,65],[]⟩
abbrev dQL:Cx:=⟨gx,24,5,[16,20],[]⟩
abbrev O5:Cx:=⟨gx,25,11,[15],[]⟩
abbrev dQM:Cx:=⟨gx,6,2,[],[]⟩
abbrev dQN:Cx:=⟨gx,84,9,[10,18,23,32,49,50,55],[]⟩
abbrev dQO:Cx:=⟨gx,37,5,[5,6,12,21,31],[]⟩
abbrev dQP:Cx:=⟨gx,11,6,[],[]⟩
abbrev dQQ:Cx:=⟨gx,23,8,[12],[]⟩
abbrev dQR:Cx:=⟨gx,13,4,[4,6,8],[]⟩
abbrev dQS:Cx:=⟨gx,108,2,[2,3,4,5,6,7,10,15,16,17,18,23,24,34,45,59,78,98],[]⟩
abbrev dQT:Cx:=⟨gx,8,3,[],[]⟩
abbrev dQU:Cx:=⟨gx,9,1,[1,2],[]⟩
abbrev dQV:Cx:=⟨gx,8,5,[],[]⟩
abbrev dQW:Cx:=⟨gx,21,3,[],[]⟩
abbrev dQX:Cx:=⟨gx,79,2,[2,4,5,6,50,66,69,78],[]⟩
abbrev dQY:Cx:=⟨gx,38,2,[2,3,4,5,19,24,37],[]⟩
abbrev dQZ:Cx:=⟨gx,38,7,[29,35],[]⟩
abbrev dQ0:Cx:=⟨gx,45,7,[33,42],[]⟩
abbrev dQ1:Cx:=⟨gx,8,5,[],[]⟩
abbrev dQ2:Cx:=⟨gx,29,3,[],[]⟩
abbrev dQ3:Cx:=⟨gx,27,3,[3,4,10],[]⟩
abbrev dQ4:Cx:=⟨gx,39,13,[18,28],[]⟩
abbrev dQ5:Cx:=⟨gx,69,2,[2,4,5,6,11,12,15,27,28,33,67],[]⟩
abbrev dQ6:Cx:=⟨gx,8,3,[3,4,6],[]⟩
abbrev O6:Cx:=⟨gx,17,5,[],[]⟩
abbrev dQ7:Cx:=⟨gx,21,3,[3,4],[]⟩
abbrev dQ8:Cx:=⟨gx,21,2,[2,3,4,5,9,16],[]⟩
abbrev dQ9:Cx:=⟨gx,16,5,[7,12],[]⟩
abbrev eQa:Cx:=⟨gx,15,6,[9],[]⟩
abbrev eQb:Cx:=⟨gx,27,5,[8,15,22],[]⟩
abbrev eQc:Cx:=⟨gx,10,5,[],[]⟩
end
end Go.Proofs.YtjabbbcdgmlojaaGreatDoor
namespace Go.Proofs
open Go Go.RowKit
section
open Go.Shelf
def Tryz.lays156_ren:Go.Shelf.Ren:=⟨fun | 156=>102 | 165=>156 | 166=>56 | 169=>57 | 240=>106 | 241=>210 | 276=>159 | 277=>236 | n=>n,fun | 31=>37 | 9=>9 | 3=>3 | 4=>4 | 0=>0 | 20=>20 | 72=>109 | 76=>113 | 70=>107 | 37=>62 | 75=>112 | 127=>179 | 164=>240 | 5=>5 | 80=>115 | n=>n,fun | n=>n⟩
theorem oQs:Go.Proofs.Lays.n156 Tryz.prog Tryz.lays156_ren:={
 mixed:=by kernel_rfl
 f156:=Tryz.func102.trans (congrArg some (by kernel_rfl))
 f165:=Tryz.func156.trans (congrArg some (by kernel_rfl))
 f166:=Tryz.func56.trans (congrArg some (by kernel_rfl))
 f169:=Tryz.func57.trans (congrArg some (by kernel_rfl))
 f240:=Tryz.func106.trans (congrArg some (by kernel_rfl))
 f241:=Tryz.func210.trans (congrArg some (by kernel_rfl))
 f276:=Tryz.func159.trans (congrArg some (by kernel_rfl))
 f277:=Tryz.func236.trans (congrArg some (by kernel_rfl))
 t0:=Tryz.underlying0
 a0:=Tryz.isAgg0
 z0:=Tryz.sizeOf0
 v0:=Tryz.zeroValue0
 t3:=Tryz.underlying3
 a3:=Tryz.isAgg3
 z3:=Tryz.sizeOf3
 v3:=Tryz.zeroValue3
 t4:=Tryz.underlying4
 a4:=Tryz.isAgg4
 z4:=Tryz.sizeOf4
 v4:=Tryz.zeroValue4
 t9:=Tryz.underlying9
 a9:=Tryz.isAgg9
 z9:=Tryz.sizeOf9
 v9:=Tryz.zeroValue9
 t20:=Tryz.underlying20
 a20:=Tryz.isAgg20
 z20:=Tryz.sizeOf20
 v20:=Tryz.zeroValue20
 t31:=Tryz.underlying37
 a31:=Tryz.isAgg37
 z31:=Tryz.sizeOf37
 v31:=Tryz.zeroValue37
 t37:=Tryz.underlying62
 a37:=Tryz.isAgg62
 z37:=Tryz.sizeOf62
 v37:=Tryz.zeroValue62
 t70:=Tryz.underlying107
 a70:=Tryz.isAgg107
 z70:=Tryz.sizeOf107
 v70:=Tryz.zeroValue107
 t72:=Tryz.underlying109
 a72:=Tryz.isAgg109
 z72:=Tryz.sizeOf109
 v72:=Tryz.zeroValue109
 t75:=Tryz.underlying112
 a75:=Tryz.isAgg112
 z75:=Tryz.sizeOf112
 v75:=Tryz.zeroValue112
 t76:=Tryz.underlying113
 a76:=Tryz.isAgg113
 z76:=Tryz.sizeOf113
 v76:=Tryz.zeroValue113
 t127:=Tryz.underlying179
 a127:=Tryz.isAgg179
 z127:=Tryz.sizeOf179
 v127:=Tryz.zeroValue179
 t164:=Tryz.underlying240
 a164:=Tryz.isAgg240
 z164:=Tryz.sizeOf240
 v164:=Tryz.zeroValue240}
theorem oQj:Builder.Extra Tryz.prog Tryz.lays156_ren:={
 sizeBuilder:=by kernel_rfl
 liesBuilder:=by kernel_rfl
 t5:=Tryz.underlying5
 a5:=Tryz.isAgg5
 z5:=Tryz.sizeOf5
 v5:=Tryz.zeroValue5
 infoByte:=by kernel_rfl
 cellsByte:=by kernel_rfl
 sizeByte:=by kernel_rfl
 neB5:=by decide}
open Go.RowKit in
theorem Tryz.strings_Join (bk o c:Nat)(xs:List ByteArray)(sep:ByteArray)(w:World)(mQg:∀(j:Nat) x,xs[j]? =some x->w.cell? ⟨bk,o+j,none⟩=some (.string x))(jM:bk<w.heap.size)(hN:xs.length<=140737488355328)(WQ:xs.length<=c)(Xf:(Lib.join (xs.map (·.data.toList)) sep.data.toList).length<=140737488355328):
  Calls Tryz.prog 102 #[.slice (some ⟨bk,o,none⟩) xs.length c,.string sep] w λe w'=>e= .returned (.string ⟨(Lib.join (xs.map (·.data.toList)) sep.data.toList).toArray⟩)/\Below w.heap.size w w':=Any.strings_Join oQs oQj bk o c xs sep w mQg jM hN WQ Xf
def Tryz.lays137_ren:Go.Shelf.Ren:=⟨fun | 137=>94 | 217=>152 | 266=>207 | n=>n,fun | 9=>9 | 5=>5 | 3=>3 | n=>n,fun | n=>n⟩
theorem oQt:Go.Proofs.Lays.n137 Tryz.prog Tryz.lays137_ren:={
 mixed:=by kernel_rfl
 f137:=Tryz.func94.trans (congrArg some (by kernel_rfl))
 f217:=Tryz.func152.trans (congrArg some (by kernel_rfl))
 f266:=Tryz.func207.trans (congrArg some (by kernel_rfl))
 t3:=Tryz.underlying3
 a3:=Tryz.isAgg3
 z3:=Tryz.sizeOf3
 v3:=Tryz.zeroValue3
 t5:=Tryz.underlying5
 a5:=Tryz.isAgg5
 z5:=Tryz.sizeOf5
 v5:=Tryz.zeroValue5
 t9:=Tryz.underlying9
 a9:=Tryz.isAgg9
 z9:=Tryz.sizeOf9
 v9:=Tryz.zeroValue9}
open Go.RowKit in
theorem Tryz.strings_IndexByte (s:ByteArray)(c:Int)(w:World):
  Calls Tryz.prog 94 #[.string s,.int .u8 c] w λe w'=>e= .returned (.int .i64 (Lib.indexByte s.data.toList c.toNat.toUInt8))/\w'=w:=Any.strings_IndexByte oQt s c w
def Tryz.lays219_ren:Go.Shelf.Ren:=⟨fun | 219=>232 | 217=>152 | 225=>247 | 224=>248 | 267=>249 | 266=>207 | 314=>259 | n=>n,fun | 9=>9 | 3=>3 | 4=>4 | 5=>5 | 46=>121 | 146=>320 | 51=>219 | n=>n,fun | 1=>0 | n=>n⟩
theorem oQr:Go.Proofs.Lays.n219 Tryz.prog Tryz.lays219_ren:={
 mixed:=by kernel_rfl
 f217:=Tryz.func152.trans (congrArg some (by kernel_rfl))
 f219:=Tryz.func232.trans (congrArg some (by kernel_rfl))
 f224:=Tryz.func248.trans (congrArg some (by kernel_rfl))
 f225:=Tryz.func247.trans (congrArg some (by kernel_rfl))
 f266:=Tryz.func207.trans (congrArg some (by kernel_rfl))
 f267:=Tryz.func249.trans (congrArg some (by kernel_rfl))
 f314:=Tryz.func259.trans (congrArg some (by kernel_rfl))
 t3:=Tryz.underlying3
 a3:=Tryz.isAgg3
 z3:=Tryz.sizeOf3
 v3:=Tryz.zeroValue3
 t4:=Tryz.underlying4
 a4:=Tryz.isAgg4
 z4:=Tryz.sizeOf4
 v4:=Tryz.zeroValue4
 t5:=Tryz.underlying5
 a5:=Tryz.isAgg5
 z5:=Tryz.sizeOf5
 v5:=Tryz.zeroValue5
 t9:=Tryz.underlying9
 a9:=Tryz.isAgg9
 z9:=Tryz.sizeOf9
 v9:=Tryz.zeroValue9
 t46:=Tryz.underlying121
 a46:=Tryz.isAgg121
 z46:=Tryz.sizeOf121
 v46:=Tryz.zeroValue121
 t51:=Tryz.underlying219
 a51:=Tryz.isAgg219
 z51:=Tryz.sizeOf219
 v51:=Tryz.zeroValue219
 t146:=Tryz.underlying320
 a146:=Tryz.isAgg320
 z146:=Tryz.sizeOf320
 v146:=Tryz.zeroValue320
 g1:=by kernel_rfl}
open Go.RowKit Go.Lib in
theorem Tryz.stringslite_Index_one (s:ByteArray)(c:UInt8)(w:World):
  Calls Tryz.prog 232 #[.string s,.string ⟨#[c]⟩] w λe w'=>e= .returned (.int .i64 (Lib.indexByte s.data.toList c))/\w'=w:=Any.stringslite_Index_one oQr s c w
def Tryz.lays138_ren:Go.Shelf.Ren:=⟨fun | 138=>204 | 195=>233 | 218=>234 | 143=>209 | 219=>232 | 217=>152 | 225=>247 | 224=>248 | 267=>249 | 266=>207 | 314=>259 | n=>n,fun | 9=>9 | 3=>3 | 4=>4 | 5=>5 | 0=>0 | 46=>121 | 146=>320 | 51=>219 | n=>n,fun | 1=>0 | n=>n⟩
theorem oQp:Go.Proofs.Lays.n138 Tryz.prog Tryz.lays138_ren:={
 mixed:=by kernel_rfl
 f138:=Tryz.func204.trans (congrArg some (by kernel_rfl))
 f143:=Tryz.func209.trans (congrArg some (by kernel_rfl))
 f195:=Tryz.func233.trans (congrArg some (by kernel_rfl))
 f217:=Tryz.func152.trans (congrArg some (by kernel_rfl))
 f218:=Tryz.func234.trans (congrArg some (by kernel_rfl))
 f219:=Tryz.func232.trans (congrArg some (by kernel_rfl))
 f224:=Tryz.func248.trans (congrArg some (by kernel_rfl))
 f225:=Tryz.func247.trans (congrArg some (by kernel_rfl))
 f266:=Tryz.func207.trans (congrArg some (by kernel_rfl))
 f267:=Tryz.func249.trans (congrArg some (by kernel_rfl))
 f314:=Tryz.func259.trans (congrArg some (by kernel_rfl))
 t0:=Tryz.underlying0
 a0:=Tryz.isAgg0
 z0:=Tryz.sizeOf0
 v0:=Tryz.zeroValue0
 t3:=Tryz.underlying3
 a3:=Tryz.isAgg3
 z3:=Tryz.sizeOf3
 v3:=Tryz.zeroValue3
 t4:=Tryz.underlying4
 a4:=Tryz.isAgg4
 z4:=Tryz.sizeOf4
 v4:=Tryz.zeroValue4
 t5:=Tryz.underlying5
 a5:=Tryz.isAgg5
 z5:=Tryz.sizeOf5
 v5:=Tryz.zeroValue5
 t9:=Tryz.underlying9
 a9:=Tryz.isAgg9
 z9:=Tryz.sizeOf9
 v9:=Tryz.zeroValue9
 t46:=Tryz.underlying121
 a46:=Tryz.isAgg121
 z46:=Tryz.sizeOf121
 v46:=Tryz.zeroValue121
 t51:=Tryz.underlying219
 a51:=Tryz.isAgg219
 z51:=Tryz.sizeOf219
 v51:=Tryz.zeroValue219
 t146:=Tryz.underlying320
 a146:=Tryz.isAgg320
 z146:=Tryz.sizeOf320
 v146:=Tryz.zeroValue320
 g1:=by kernel_rfl}
open Go.RowKit Go.Lib in
theorem Tryz.strings_Count_one (s:ByteArray)(c:UInt8)(w:World):
  Calls Tryz.prog 204 #[.string s,.string ⟨#[c]⟩] w λe w'=>e= .returned (.int .i64 (Lib.countByte s.data.toList c))/\w'=w:=Any.strings_Count_one oQp s c w
def Tryz.lays149_ren:Go.Shelf.Ren:=⟨fun | 149=>93 | 222=>151 | n=>n,fun | 9=>9 | 5=>5 | 3=>3 | 4=>4 | n=>n,fun | n=>n⟩
theorem oQo:Go.Proofs.Lays.n149 Tryz.prog Tryz.lays149_ren:={
 mixed:=by kernel_rfl
 f149:=Tryz.func93.trans (congrArg some (by kernel_rfl))
 f222:=Tryz.func151.trans (congrArg some (by kernel_rfl))
 t3:=Tryz.underlying3
 a3:=Tryz.isAgg3
 z3:=Tryz.sizeOf3
 v3:=Tryz.zeroValue3
 t4:=Tryz.underlying4
 a4:=Tryz.isAgg4
 z4:=Tryz.sizeOf4
 v4:=Tryz.zeroValue4
 t5:=Tryz.underlying5
 a5:=Tryz.isAgg5
 z5:=Tryz.sizeOf5
 v5:=Tryz.zeroValue5
 t9:=Tryz.underlying9
 a9:=Tryz.isAgg9
 z9:=Tryz.sizeOf9
 v9:=Tryz.zeroValue9}
open Go.RowKit Go.Lib in
theorem Tryz.strings_LastIndexByte (s:ByteArray)(c:Int)(hs:s.size<4611686018427387904)(w:World):
  Calls Tryz.prog 93 #[.string s,.int .u8 c] w λe w'=>e= .returned (.int .i64 (Lib.lastIndexByte s c))/\w'=w:=Any.strings_LastIndexByte oQo s c hs w
def Tryz.lays315_ren:Go.Shelf.Ren:=⟨fun | 315=>244 | n=>n,fun | 9=>9 | 40=>294 | 4=>4 | 3=>3 | 0=>0 | 21=>21 | n=>n,fun | n=>n⟩
theorem oQq:Go.Proofs.Lays.n315 Tryz.prog Tryz.lays315_ren:={
 mixed:=by kernel_rfl
 f315:=Tryz.func244.trans (congrArg some (by kernel_rfl))
 t0:=Tryz.underlying0
 a0:=Tryz.isAgg0
 z0:=Tryz.sizeOf0
 v0:=Tryz.zeroValue0
 t3:=Tryz.underlying3
 a3:=Tryz.isAgg3
 z3:=Tryz.sizeOf3
 v3:=Tryz.zeroValue3
 t4:=Tryz.underlying4
 a4:=Tryz.isAgg4
 z4:=Tryz.sizeOf4
 v4:=Tryz.zeroValue4
 t9:=Tryz.underlying9
 a9:=Tryz.isAgg9
 z9:=Tryz.sizeOf9
 v9:=Tryz.zeroValue9
 t21:=Tryz.underlying21
 a21:=Tryz.isAgg21
 z21:=Tryz.sizeOf21
 v21:=Tryz.zeroValue21
 t40:=Tryz.underlying294
 a40:=Tryz.isAgg294
 z40:=Tryz.sizeOf294
 v40:=Tryz.zeroValue294}
open Go.RowKit Go.Lib in
theorem Tryz.strings_indexFunc (g:Nat)(lb:Array Value)(eg:∀args w,(callFunc g args).run Tryz.prog w= .ok (.enter g args) w)(p:Nat->Bool)(truth:Bool)(s:ByteArray)(w:World)(hp:PredAt Tryz.prog g lb encR p w):
  Calls Tryz.prog 244 #[.string s,.func (.func g) #[] lb,.bool truth] w λe w'=>e= .returned (.int .i64 (Lib.idxFunc p truth s))/\Below w.heap.size w w':=Any.strings_indexFunc oQq g lb eg p truth s w hp
end
end Go.Proofs
namespace Go.Proofs.YtjabbbcdgmlojaaGreatDoor
open Go Go.RowKit
section
structure Mod (S:Nat->Prop) (w w':World):Prop where
 os:w'.os=w.os
 tape:w'.tape=w.tape
 output:w'.output=w.output
 size:w.heap.size<=w'.heap.size
 block:∀k,k<w.heap.size->¬S k->w'.heap[k]? =w.heap[k]?
theorem Mod.refl (S:Nat->Prop)(w:World):Mod S w w:=⟨rfl,rfl,rfl,QD _,λ_ _ _=>rfl⟩
theorem Mod.of_ext {w w':World}(S:Nat->Prop)(h:Ext w w'):Mod S w w':=⟨h.os,h.tape,h.output,h.size,λk hk _=>h.block k hk (by simp)⟩
theorem oQh {w w':World}{S:Nat->Prop}{g:Nat}(h:w.grownBy w' (some g))(hS:S g):Mod S w w':=⟨h.os,h.tape,h.output,h.size,λk hk hn=>h.block k hk (λe=>by cases e;exact hn hS)⟩
theorem Mod.trans {S S':Nat->Prop}{a b c:World}(h:Mod S a b)(k:Mod S' b c)(hs:∀i,S' i->S i∨a.heap.size<=i):Mod S a c:=
 ⟨k.os.trans h.os,k.tape.trans h.tape,k.output.trans h.output,X2 h.size k.size,λi hi hn=>(k.block i (YL hi h.size) (λhS=>by rcases hs i hS with h | h;exact hn h;omega)).trans (h.block i hi hn)⟩
theorem Mod.mono {S S':Nat->Prop}{a b:World}(h:Mod S a b)(hs:∀i,S i->S' i∨a.heap.size<=i):Mod S' a b:=
 ⟨h.os,h.tape,h.output,h.size,λi hi hn=>h.block i hi (λhS=>by rcases hs i hS with h | h;exact hn h;omega)⟩
theorem Mod.ext {S:Nat->Prop}{w0 w w':World}(h:Mod S w w')(k:Ext w0 w)(hs:∀i,S i->w0.heap.size<=i):Ext w0 w':=
 ⟨h.os.trans k.os,h.tape.trans k.tape,h.output.trans k.output,X2 k.size h.size,λi hi _=>(h.block i (YL hi k.size) (λhS=>by have:=hs i hS;omega)).trans (k.block i hi (by simp))⟩
theorem Blk.mod {S:Nat->Prop}{w w':World}{g t:Nat}{cs:List Value}(h:Blk w g t cs)(k:Mod S w w')(hn:¬S g):Blk w' g t cs:=(k.block g h.lt hn).trans h
theorem Mod.grown {S:Nat->Prop}{w w':World}(h:Mod S w w'){row:Option Nat}(hs:∀i,S i->row=some i):w.grownBy w' row:=⟨h.os,h.tape,h.output,h.size,λk hk hn=>h.block k hk (λhS=>hn (hs k hS).symm)⟩
def Qk (A:Option Addr):Nat->Prop:=λk=>∃ad,A=some ad/\ad.block=k
theorem eQd {A:Option Addr}{n c k:Nat}(h:(Value.slice A n c).ownBlock=some k):Qk A k:=by
 cases A with
 | none=>simp[Value.ownBlock] at h
 | some ad=>exact⟨ad,rfl,by simpa [Value.ownBlock] using h⟩
theorem oQn {w w':World}{A:Option Addr}{n c:Nat}(h:w.grownBy w' (Value.slice A n c).ownBlock):Mod (Qk A) w w':=
 ⟨h.os,h.tape,h.output,h.size,λk hk hn=>h.block k hk (λe=>hn (eQd e.symm))⟩
theorem Own.rows {w:World}{base e sz n c:Nat}{A:Option Addr}{cs:List Value}(h:Own w base e sz A n c cs):∀k,Qk A k->base<=k/\k<w.heap.size:=by
 rintro k ⟨ad,rfl,rfl⟩;have h:=h.row;rcases h.2 with⟨hv,_⟩ | ⟨g,cap,Ju,hv,hb,hg,_⟩
 ·cases hv
 ·cases hv;exact⟨hb,(iW.1 hg).1⟩
theorem Own.mod {S:Nat->Prop}{w w':World}{base e sz n c:Nat}{A:Option Addr}{cs:List Value}(h:Own w base e sz A n c cs)(k:Mod S w w')(hn:∀i,Qk A i->¬S i):Own w' base e sz A n c cs:=by
 have hr:=h.row;refine⟨⟨hr.1,?_⟩⟩;rcases hr.2 with⟨hv,hx⟩ | ⟨g,cap,Ju,hv,hb,hg,Mj⟩
 ·exact .inl ⟨hv,hx⟩
 ·refine .inr ⟨g,cap,Ju,hv,hb,(k.block g (iW.1 hg).1 (hn g ?_)).trans hg,Mj⟩;cases hv;exact⟨_,rfl,rfl⟩
def Moved (w:World)(A A':Option Addr):Prop:=∀ad,A'=some ad->A=some ad∨w.heap.size<=ad.block
theorem Moved.refl (w:World)(A:Option Addr):Moved w A A:=λ_ h=>.inl h
theorem Moved.rows {w:World}{A A':Option Addr}(h:Moved w A A'):∀k,Qk A' k->Qk A k∨w.heap.size<=k:=by
 rintro k ⟨ad,rfl,rfl⟩;rcases h ad rfl with h | h
 ·exact .inl ⟨ad,h,rfl⟩
 ·exact .inr h
theorem Moved.trans {w w1:World}{A B C:Option Addr}(h:Moved w A B)(k:Moved w1 B C)(hs:w.heap.size<=w1.heap.size):Moved w A C:=λad e=>by
 rcases k ad e with h1 | h1
 ·exact h ad h1
 ·exact .inr (by omega)
theorem Moved.back {w w1:World}{A B:Option Addr}(h:Moved w1 A B)(hs:w.heap.size<=w1.heap.size):Moved w A B:=(Moved.refl w A).trans h hs
theorem Zk {c:Cx}(hg:c.g.Ok){o:Oper}{S:Env}{w:World}{K:Env->World->Prop}{Q:Zj}{t t2 e sz:Nat}{x y:Operand}{A B:Option Addr}{n cp:Nat}{m c2:Nat}{xs ys:List Value}{base:Nat}{r re r2:TyRow}
  (ho:o.op= .call ⟨.builtin .append, #[x,y], #[t,t2]⟩) (hr:QX c.g.tys t=some r) (hd:r.d= .slice e) (Zb:QX c.g.tys e=some re) (hs:re.sz=sz) (HJ:0<sz) (jL:re.z.cells.size=sz) (aM:QX c.g.tys t2=some r2) (YW:∃e2,r2.d= .slice e2)
  (hx:S.ev x=some (.slice A n cp)) (hy:S.ev y=some (.slice B m c2)) (Wv:Own w base e sz A n cp xs) (gA:Sl w sz B m c2 ys) (gB:∀u∈ys,Jw u=true)
  (ic:n+m<=maxLen) (Wu:(n+m)*re.by_<=140737488355328) (oO:base<=w.heap.size)
  (k:∀A' c' w1,Mod (Qk A) w w1->Own w1 base e sz A' (n+m) c' (xs++ys)->Moved w A A'->Xn c S o.dst (.v (.slice A' (n+m) c')) (λS=>K S w1)):Zc c o S w K Q:=
 cQv hg ho hr hd Zb hs HJ jL aM YW hx hy Wv gA gB ic Wu oO (λA' c' w1 h1 h2 h3=>k A' c' w1 (oQn h1) h2 h3)
theorem O7 {c:Cx}(hg:c.g.Ok){o:Oper}{S:Env}{w:World}{K:Env->World->Prop}{Q:Zj}{t t2 e:Nat}{x y:Operand}{A:Option Addr}{n cp:Nat}{s:ByteArray}{xs:List Value}{base:Nat}{r re r2:TyRow}
  (ho:o.op= .call ⟨.builtin .append, #[x,y], #[t,t2]⟩) (hr:QX c.g.tys t=some r) (hd:r.d= .slice e) (Zb:QX c.g.tys e=some re) (hs:re.sz=1) (jL:re.z= .int .u8 0) (Ww:re.by_=1) (aM:QX c.g.tys t2=some r2) (YW:r2.d= .string)
  (hx:S.ev x=some (.slice A n cp)) (hy:S.ev y=some (.string s)) (Wv:Own w base e 1 A n cp xs)
  (ic:n+s.size<=140737488355328) (oO:base<=w.heap.size)
  (k:∀A' c' w1,Mod (Qk A) w w1->Own w1 base e 1 A' (n+s.size) c' (xs++Lib.strCells s)->Moved w A A'->Xn c S o.dst (.v (.slice A' (n+s.size) c')) (λS=>K S w1)):Zc c o S w K Q:=
 cQx hg ho hr hd Zb hs jL Ww aM YW hx hy Wv ic oO (λA' c' w1 h1 h2 h3=>k A' c' w1 (oQn h1) h2 h3)
theorem KM {w:World}{g t:Nat}{cs:List Value}{v:Value}{K:World->Prop}(h:Blk w g t cs)(hj:0<cs.length)(k:∀w1,Mod (·=g) w w1->Blk w1 g t (cs.set 0 v)->K w1):eD w ⟨g,0,none⟩ v K:=
 cQt h hj (λw1 h1 h2=>k w1 (oQh h1 rfl) h2)
theorem XQ {w:World}{g t:Nat}{cs:List Value}{j:Nat}{v:Value}{K:World->Prop}(h:Blk w g t cs)(hj:j<cs.length)(k:∀w1,Mod (·=g) w w1->Blk w1 g t (cs.set j v)->K w1):eD w ((⟨g,0,none⟩:Addr).add j) v K:=
 sE h hj (λw1 h1 h2=>k w1 (oQh h1 rfl) h2)
theorem sc {vs:List Value}(h:vs.all Jw=true):∀u∈vs,Jw u=true:=by simpa using h
theorem XY {w w5 w6:World}{t:Nat}{cs:List Value}(Qz:Ext w w5)(_:Blk w5 w.heap.size t cs)(Wg:w5.grownBy w6 (some w.heap.size)):Ext w w6:=
 (Ext.refl w).own (cQi (Qz.grown (some w.heap.size)) Wg) (QD _)
theorem O8 (s:ByteArray):Lib.strCells s=Jx (Yu s):=by
 simp only[Lib.strCells,Jx,Yu,zM];rfl
structure Bld (w:World) (base g t:Nat) (rest:List Value) (A:Option Addr) (c:Nat) (out:List Nat):Prop where
 g1:g<base
 top:base<=w.heap.size
 blk:∃pa,(pa= .pointer none∨pa= .pointer (some ⟨g,0,none⟩))/\Blk w g t (pa:: .slice A out.length c::rest)
 own:Own w base 5 1 A out.length c (Jx out)
theorem Bld.grow {w w':World}{base g t:Nat}{rest:List Value}{A:Option Addr}{c:Nat}{out:List Nat}(h:Bld w base g t rest A c out)(k:Ext w w'):Bld w' base g t rest A c out:=
 ⟨h.g1,X2 h.top k.size,let ⟨pa,h1,h2⟩:=h.blk;⟨pa,h1,h2.ext k⟩,h.own.ext k⟩
def BldS (g:Nat)(A:Option Addr):Nat->Prop:=λk=>k=g∨Qk A k
theorem BldS.moved {w:World}{g:Nat}{A A':Option Addr}(h:Moved w A A'):∀k,BldS g A' k->BldS g A k∨w.heap.size<=k:=by
 rintro k (rfl | hk)
 ·exact .inl (.inl rfl)
 ·rcases h.rows k hk with h | h
  ·exact .inl (.inr h)
  ·exact .inr h
def pI (t m:Nat):Prop:=liesAt Tryz.prog Tryz.prog.depth t (m/Tryz.prog.cellsOf t) 0 109 1=true
theorem Blk.shape {w:World}{g t:Nat}{cs:List Value}(h:Blk w g t cs):w.shape? g=some (t,cs.length):=by
 unfold World.shape?;rw[h];simp
theorem bL:gx.P=Tryz.prog:=rfl
theorem O9:∃j,Tryz.prog.info? 109=some j/\j.size≠0:=by
 obtain⟨_,i,hi,hs,_⟩:=Qa.row (t:=109) rfl;exact⟨i,hi,by rw[hs];decide⟩
theorem Fq (g t:Nat)(pa sl:Value)(rest:List Value)(w:World)(hl:pI t (rest.length+2))(hp:pa= .pointer none∨pa= .pointer (some ⟨g,0,none⟩))(hB:Blk w g t (pa::sl::rest)):
  Fn Tryz.prog 106 [.pointer (some ⟨g,0,none⟩)] w (λ_ w'=>Mod (·=g) w w'/\Blk w' g t (.pointer (some ⟨g,0,none⟩)::sl::rest)):=by
 obtain⟨j,hj,nz⟩:=O9;refine Qx (c:=OZ) Qa Tryz.func106 rfl rfl rfl ?_;have fE:=hB.shape;have ucs:=Tryz.underlying107;have uus:=Tryz.underlying240;rcases hp with rfl | rfl
 ·refine Qp hB rfl ?_;refine Xe rfl ?_;refine JJ (w':=w) (v:=.pointer (some ⟨g,0,none⟩)) (λa hf=>?_) ?_
  ·have e1:=hf.ev (show Env.ev _ (.tmp 8)=some (.pointer (some ⟨g,0,none⟩)) from rfl);have:=Lib.run_to_unsafe (P:=Tryz.prog) (src:=107) (dst:=240) w ⟨g,0,none⟩ ucs uus hj nz fE (by simp);simp only[execOp,e1];simp[bL,this]
  refine JJ (w':=w) (v:=.pointer (some ⟨g,0,none⟩)) (λa hf=>?_) ?_
  ·have e1:=hf.ev (show Env.ev _ (.tmp 9)=some (.pointer (some ⟨g,0,none⟩)) from rfl);have:=run_callFunc_extern (P:=Tryz.prog) (e:=Extern.AbiNoEscape.same) Tryz.func159 (by kernel_rfl) (by kernel_rfl) (by kernel_rfl) (by kernel_rfl) #[.pointer (some ⟨g,0,none⟩)] w;rw[Lib.run_noEscape] at this;simp only[execOp,resolve,invoke];simp[Deferred.ofValue,Act.eval] at e1 ⊢;simp[e1,bL,this]
  refine JJ (w':=w) (v:=.pointer (some ⟨g,0,none⟩)) (λa hf=>?_) ?_
  ·have e1:=hf.ev (show Env.ev _ (.tmp 10)=some (.pointer (some ⟨g,0,none⟩)) from rfl);have:=Lib.run_from_unsafe (P:=Tryz.prog) (src:=240) (dst:=107) (u:=109) w ⟨g,0,none⟩ uus ucs hj fE (by simpa [pI] using hl);simp only[execOp,e1];simp[bL,this]
  refine XQ hB (by simp) (λw1 hm Qh=>?_);exact⟨hm,Qh⟩
 ·refine Qp hB rfl ?_;refine Xv rfl ?_;refine Qp hB rfl ?_;refine JJ (w':=w) (v:=.bool false) (λa hf=>?_) ?_
  ·have e1:=hf.ev (show Env.ev _ (.tmp 17)=some (.pointer (some ⟨g,0,none⟩)) from rfl);have e2:=hf.ev (show Env.ev _ (.tmp 18)=some (.pointer (some ⟨g,0,none⟩)) from rfl);have:=Lib.run_neq_ptr_same (P:=Tryz.prog) (tp:=107) w ⟨g,0,none⟩ ucs hj;simp only[execOp,e1,e2,eqGuard];simp[bL,this]
  refine Xv rfl ?_;exact⟨Mod.refl _ _,hB⟩
theorem jg (base g t:Nat)(rest:List Value)(A:Option Addr)(c:Nat)(out:List Nat)(s:ByteArray)(w:World)(hl:pI t (rest.length+2))(hb:Bld w base g t rest A c out)(hs:out.length+s.size<=140737488355328):
  Fn Tryz.prog 56 [.pointer (some ⟨g,0,none⟩),.string s] w (λ_ w'=>∃A' c',Bld w' base g t rest A' c' (out++Yu s)/\Mod (BldS g A) w w'/\Moved w A A'):=by
 refine Qx (c:=OW) Qa Tryz.func56 rfl rfl rfl ?_;obtain⟨pa,ZE,hB⟩:=hb.blk;refine call (Fq g t pa _ rest w hl ZE hB) ?_;rintro v w1 ⟨Zr,Qh⟩;have V4:=hb.own.rows;have lk:=hb.g1;have hn:¬Qk A g:=λh=>by have:=(V4 g h).1;omega
 have qq:=hb.own.mod Zr (λk hk e=>hn (e▸hk));refine Qp Qh rfl ?_;refine O7 Qa rfl rfl rfl rfl rfl rfl rfl rfl rfl rfl rfl qq hs (by have:=Zr.size;have:=hb.top;omega) ?_;intro A' c' w2 XR dP nA;refine XQ (Qh.mod XR hn) (by simp) (λw3 XE Qw=>?_);have Xf:(out++Yu s).length=out.length+s.size:=by rw[Qy,sH]
 have qr:=dP.rows;refine⟨A',c',⟨lk,by have:=Zr.size;have:=XR.size;have:=XE.size;have:=hb.top;omega,⟨_,.inr rfl,by rw[Xf];exact Qw⟩,?_⟩,?_,nA.back Zr.size⟩
 ·rw[Xf,AE,<-O8];exact dP.mod XE (λk hk e=>by have:=(qr k hk).1;omega)
 ·exact((Zr.mono (S':=BldS g A) (λi hi=>.inl (.inl hi))).trans XR (λi hi=>.inl (.inr hi))).trans XE (λi hi=>.inl (.inl hi))
theorem Fr (base g t:Nat)(rest:List Value)(A:Option Addr)(c:Nat)(out:List Nat)(b:Nat)(w:World)(hl:pI t (rest.length+2))(hb:Bld w base g t rest A c out)(hs:out.length+1<=140737488355328):
  Fn Tryz.prog 225 [.pointer (some ⟨g,0,none⟩),.int .u8 b] w (λ_ w'=>∃A' c',Bld w' base g t rest A' c' (out++ [b])/\Mod (BldS g A) w w'/\Moved w A A'):=by
 refine Qx (c:=O6) Qa Tryz.func225 rfl rfl rfl ?_;obtain⟨pa,ZE,hB⟩:=hb.blk;refine call (Fq g t pa _ rest w hl ZE hB) ?_;rintro v w1 ⟨Zr,Qh⟩;have V4:=hb.own.rows;have lk:=hb.g1;have lP:=hb.top;have hn:¬Qk A g:=λh=>by have:=(V4 g h).1;omega
 have qq:=hb.own.mod Zr (λk hk e=>hn (e▸hk));refine Qp Qh rfl ?_;refine OI Qa rfl rfl rfl rfl rfl rfl rfl rfl ?_;intro w7 QY jQ8 Q4;have jx:Sl w7 1 (some ⟨w1.heap.size,0,none⟩) 1 1 [.int .u8 (b:Int)]:=Sl.own' Q4 rfl (by simp[maxLen]);have jQ9:=Zr.size;have kQa:=QY.size;refine Zk Qa rfl rfl rfl rfl rfl (by decide) rfl rfl ⟨_,rfl⟩ rfl rfl (qq.ext QY) jx (by simp[Jw]) (by unfold maxLen;omega) (by show _*1<=_;omega) (by omega) ?_;intro A' c' w2 XR dP nA;refine XQ ((Qh.ext QY).mod XR hn) (by simp) (λw3 XE Qw=>?_);have qr:=dP.rows;refine⟨A',c',⟨lk,by have:=XR.size;have:=XE.size;omega,⟨_,.inr rfl,by rw[Qy];exact Qw⟩,?_⟩,?_,nA.back (by omega)⟩
 ·rw[Qy,AE];exact dP.mod XE (λk hk e=>by have:=(qr k hk).1;omega)
 ·exact(((Zr.mono (S':=BldS g A) (λi hi=>.inl (.inl hi))).trans (Mod.of_ext (λ_=>False) QY) (λi hi=>hi.elim)).trans XR (λi hi=>.inl (.inr hi))).trans XE (λi hi=>.inl (.inl hi))
theorem Pa (w:World)(g n:Nat){S:Nat->Prop}(h:S g):Mod S w (w.freeze ⟨g,0,none⟩ n):=by
 unfold World.freeze;split
 ·exact Mod.refl _ _
 ·refine⟨rfl,rfl,rfl,by simp,λk hk hn=>?_⟩;simp only[Array.getElem?_modify];rw[if_neg (λ(e:g=k)=>hn (e▸h))]
theorem eQe (base g t:Nat)(rest:List Value)(A:Option Addr)(c:Nat)(out:List Nat)(w:World)(hb:Bld w base g t rest A c out)(h8:∀x∈out,x<256)(hs:out.length<=140737488355328):
  Fn Tryz.prog 57 [.pointer (some ⟨g,0,none⟩)] w (λv w'=>v= .string (Qe out)/\Mod (Qk A) w w'):=by
 obtain⟨pa,ZE,hB⟩:=hb.blk;refine Qx (c:=OX) Qa Tryz.func57 rfl rfl rfl ?_;have Xf:(Jx out).length=out.length:=vL out;refine Xy Qa (Ext w) 10 [(true,0),(true,1),(true,2),(true,3),(true,5),(true,6),(true,7),(true,8),(true,9),(false,4)] (by kernel_rfl) (Ext.drew w) ?_;refine QJ (v:=.slice A out.length c) (λw' Qb=>by rw[(hB.ext Qb).cell];rfl) ?_;refine QJ (v:=.slice A out.length c) (λw' Qb=>by rw[(hB.ext Qb).cell];rfl) ?_;have HK:out.length=0->Value.string ByteArray.empty=Value.string (Qe out):=λh0=>by
  have:out=[]:=Ys h0;subst this;rfl
 by_cases h0:out.length=0
 ·have key:∃p w1,(Builtin.unsafeSliceData_ #[62] 179 #[.slice A out.length c]).run Tryz.prog w.drew= .ok (.pointer p) w1/\Ext w w1:=by
   rcases hb.own.row.2 with⟨hv,_⟩ | ⟨g',cap,Ju,hv,hb',VM,_⟩
   ·simp only[Value.slice.injEq] at hv;obtain⟨rfl,_,rfl⟩:=hv;exact⟨none,w.drew,Lib.run_unsafeSliceData_nil _ _ _ _ _,Ext.drew w⟩
   ·simp only[Value.slice.injEq] at hv;obtain⟨rfl,_,rfl⟩:=hv;by_cases qt:c=0
    ·subst qt;have fE:w.drew.shape? g'=some (5,Ju.size):=by
      unfold World.shape?;rw[show w.drew.heap[g']? =_ from VM]
     exact⟨_,_,Lib.run_unsafeSliceData_zero (P:=Tryz.prog) w.drew _ _ 5 Tryz.underlying179 ⟨g',0,none⟩ _ _ fE,(Ext.drew w).trans (Ext.alloc _ _)⟩
    ·exact⟨_,w.drew,Lib.run_unsafeSliceData_row (P:=Tryz.prog) w.drew _ _ ⟨g',0,none⟩ _ _ qt,Ext.drew w⟩
  obtain⟨p,w1,Jj,Qd⟩:=key;refine JJ (w':=w1) (v:=.pointer p) (λa hf=>?_) ⟨Qd,?_⟩
  ·have e1:=hf.ev (show Env.ev _ (.tmp 6)=some (.slice A out.length c) from rfl);simp only[execOp,resolve,invoke,builtin];simp[bL,e1,Jj]
  refine JJ (w':=w1) (v:=.string ByteArray.empty) (λa hf=>?_) ?_
  ·have e1:=hf.ev (show Env.ev _ (.tmp 7)=some (.pointer p) from rfl);have e2:=hf.ev (show Env.ev _ (.tmp 12)=some (.int .i64 out.length) from rfl);have:=Lib.run_unsafeString_none (P:=Tryz.prog) w1 179 3 9 p;rw[h0] at e2;simp only[execOp,resolve,invoke,builtin];simp[bL,e1,e2];rw[this]<;>rfl
  exact⟨HK h0,Mod.of_ext _ Qd⟩
 ·obtain⟨g',sp,rfl,hb',V3,cg⟩:=hb.own.blk (by omega);have ZO:=hb.own.sl.le;refine JJ (w':=w.drew) (v:=.pointer (some ⟨g',0,none⟩)) (λa hf=>?_) ⟨Ext.drew w,?_⟩
  ·have e1:=hf.ev (show Env.ev _ (.tmp 6)=some (.slice (some ⟨g',0,none⟩) out.length c) from rfl);have:=Lib.run_unsafeSliceData_row (P:=Tryz.prog) w.drew #[62] 179 ⟨g',0,none⟩ out.length c (by omega);simp only[execOp,resolve,invoke,builtin];simp[bL,e1,this]
  refine JJ (w':=w.drew.freeze ⟨g',0,none⟩ out.length) (v:=.string (Qe out)) (λa hf=>?_) ?_
  ·have e1:=hf.ev (show Env.ev _ (.tmp 7)=some (.pointer (some ⟨g',0,none⟩)) from rfl);have e2:=hf.ev (show Env.ev _ (.tmp 12)=some (.int .i64 out.length) from rfl);have fE:w.drew.shape? g'=some (5,(Jx out++sp).length):=(V3.ext (Ext.drew w)).shape;have Ke:(out.map UInt8.ofNat).length=out.length:=by simp
   have:=Lib.run_unsafeString_row (P:=Tryz.prog) w.drew 179 3 9 5 Tryz.underlying179 (by kernel_rfl) g' _ fE (out.map UInt8.ofNat) (by intro e;apply h0;rw[<-Ke,e];rfl) (by simp[vL]) (by rw[Ke];omega) (λj x hj=>by
    rw[(V3.ext (Ext.drew w)).cell];simp only[Vi,EM] at hj;obtain⟨y,hy,rfl⟩:=hj;have d9:j<out.length:=(Zw.1 hy).1;rw[ew (by rw[Xf];exact d9),Fj hy];have:=h8 y (Q2 hy);simp[iX this])
   rw[Ke] at this;simp only[execOp,resolve,invoke,builtin];simp[bL,e1,e2];rw[this]<;>rfl
  exact⟨rfl,(Mod.of_ext (Qk _) (Ext.drew w)).trans (Pa w.drew g' out.length (S:=Qk (some ⟨g',0,none⟩)) ⟨_,rfl,rfl⟩) (λi hi=>.inl hi)⟩
section
structure Fz where
 o:Int
 v:Int
 a:Int
 b:Int
deriving DecidableEq
def Fz.cells (x:Fz):List Value:=[.int .i64 x.o,.int .i64 x.v,.int .i64 x.a,.int .i64 x.b]
theorem AK (x:Fz):x.cells.length=4:=rfl
def isDig (b:Nat):Bool:=decide (48<=b)&&decide (b<=57)
def V6 (b:Nat):Bool:=b==95||(decide (97<=b)&&decide (b<=122))||(decide (65<=b)&&decide (b<=90))
def X3 (b:Nat):Bool:=V6 b||isDig b
def Vt:List Nat->Nat
 | []=>0
 | b::l=>if isDig b then 0 else((b::l).takeWhile X3).length
def ZG (l:List Nat):List Nat:=l.dropWhile λb=>b==32||b==9
structure Ps where
 r:List Nat
 f:List Fz
 u:Bool
def Kn (sym:List Nat)(p:Ps):Bool×Ps:=if sym.isPrefixOf (ZG p.r)then(true,{p with r:=(ZG p.r).drop sym.length})else(false,{p with r:=ZG p.r})
def V7 (x:Fz)(p:Ps):Nat×Ps:=(p.f.length,{p with f:=p.f++ [x]})
def f0 (sym:List Nat)(op:Int)(opd:Ps->Option (Nat×Ps)):Nat->Nat->Ps->Option (Nat×Ps)
 | 0,_,_=>none
 | m+1,a,p=>match Kn sym p with
  | (true,p1)=>match opd p1 with
   | none=>none
   | some (b,p2)=>f0 sym op opd m p2.f.length {p2 with f:=p2.f++ [⟨op,0,a,b⟩]}
  | (false,p1)=>some (a,p1)
def Vu (sym:List Nat)(op:Int)(opd:Ps->Option (Nat×Ps))(p:Ps):Option (Nat×Ps):=match opd p with
 | none=>none
 | some (a,p1)=>f0 sym op opd (p1.r.length+1) a p1
def cy (
     ix:List Nat->Option Nat):Nat->Ps->Option (Nat×Ps)
 | 0,_=>none
 | n+1,p=>match Kn [33] p with
  | (true,p1)=>match cy ix n p1 with
   | none=>none
   | some (a,p2)=>some (V7 ⟨3,0,a,0⟩ p2)
  | (false,p1)=>match Kn [40] p1 with
   | (true,p2)=>match Vu [124,124] 5 (Vu [38,38] 4 (cy ix n)) p2 with
    | none=>none
    | some (a,p3)=>match Kn [41] p3 with
     | (true,p4)=>some (a,p4)
     | (false,_)=>none
   | (false,p2)=>if Vt p2.r=0 then none else
     let word:=p2.r.take (Vt p2.r)
     let p3:Ps:={p2 with r:=p2.r.drop (Vt p2.r)}
     if word=[116,114,117,101] then some (V7 ⟨1,0,0,0⟩ p3)else if word=[102,97,108,115,101] then some (V7 ⟨0,0,0,0⟩ p3)else
      some (V7 ⟨2,((ix word).getD 0:Nat),0,0⟩ {p3 with u:=p3.u||(ix word).isNone})
def gQ (ix:List Nat->Option Nat)(n:Nat)(p:Ps):Option (Nat×Ps):=Vu [124,124] 5 (Vu [38,38] 4 (cy ix n)) p
end
section
theorem Vc (l:List Nat)(a b:Nat):(Qe l).extract a b=Qe ((l.take b).drop a):=by
 apply ByteArray.ext;apply Array.ext';simp[Qe,gL]
theorem B8.drop {l:List Nat}(h:∀x∈l,x<256)(k:Nat):∀x∈l.drop k,x<256:=λx hx=>h x (av hx)
theorem B8.take {l:List Nat}(h:∀x∈l,x<256)(k:Nat):∀x∈l.take k,x<256:=λx hx=>h x (bF hx)
theorem vR (p l:List Nat):p.isPrefixOf l=decide (p.length<=l.length/\l.take p.length=p):=by
 rw[jZ,bQN,Vb];constructor
 ·rintro⟨t,rfl⟩;exact⟨by simp,by simp⟩
 ·rintro⟨h1,h2⟩;refine⟨l.drop p.length,?_⟩;have:=mj p.length l;rw[h2] at this;exact this
theorem Pb (l p:List Nat)(w:World)(hl:∀x∈l,x<256)(hp:∀x∈p,x<256):
  Fn Tryz.prog 154 [.string (Qe l),.string (Qe p)] w (λv w'=>v= .bool (p.isPrefixOf l)/\w=w'):=by
 refine Qx (c:=dQk) Qa Tryz.func154 rfl rfl rfl ?_;refine Qt (λh1=>?_) (λh1=>?_)
 ·rw[XC,XC] at h1;refine need ⟨by omega,by omega,by rw[XC,XC];omega⟩ ?_;refine⟨?_,rfl⟩;rw[vR];congr 1;refine mB.2 ?_;simp only[fT,Int.toNat_zero];rw[Vc,vk,XC];exact⟨λh=>⟨by omega,Z6 (B8.take hl _) hp h⟩,λh=>by rw[h.2]⟩
 ·rw[XC,XC] at h1;exact⟨by rw[vR,XS (λh=>h1 (by omega))],rfl⟩
def vS (l p:List Nat):Value:=if p.isPrefixOf l then .tuple #[.string (Qe (l.drop p.length)),.bool true] else .tuple #[.string (Qe l),.bool false]
theorem eQf (l p:List Nat)(w:World)(hl:∀x∈l,x<256)(hp:∀x∈p,x<256):
  Fn Tryz.prog 231 [.string (Qe l),.string (Qe p)] w (λv w'=>v=vS l p/\w=w'):=by
 refine Qx (c:=eQa) Qa Tryz.func231 rfl rfl rfl ?_;refine call (Pb l p w hl hp) ?_;rintro v w1 ⟨rfl,rfl⟩;unfold vS;cases uL:p.isPrefixOf l with
 | false=>
  refine Xe rfl ?_;exact⟨rfl,rfl⟩
 | true=>
  refine Xv rfl ?_;have ZO:p.length<=l.length:=by rw[vR] at uL;exact(eB uL).1
  refine need ⟨by omega,by rw[XC,XC];omega,by omega⟩ ?_;refine⟨?_,rfl⟩;simp only[fT,XC];rw[Vc,Zz (QD _)]<;>rfl
theorem eQg (l p:List Nat)(w:World)(hl:∀x∈l,x<256)(hp:∀x∈p,x<256):
  Fn Tryz.prog 200 [.string (Qe l),.string (Qe p)] w (λv w'=>v=vS l p/\w=w'):=by
 refine Qx (c:=dQP) Qa Tryz.func200 rfl rfl rfl ?_;refine call (eQf l p w hl hp) ?_;rintro v w1 ⟨rfl,rfl⟩;unfold vS;split
 ·exact⟨rfl,rfl⟩
 ·exact⟨rfl,rfl⟩
def eI (k:Nat):List Value:=(List.range 256).map λj=>.bool (decide (0<k/\j=32)||decide (1<k/\j=9))
theorem pJ (k:Nat):(eI k).length=256:=by simp[eI]
theorem Fs {k j:Nat}(h:j<256):(eI k)[j]? =some (.bool (decide (0<k/\j=32)||decide (1<k/\j=9))):=by
 unfold eI;rw[Vi,List.getElem?_range h]<;>rfl
theorem Pd (k:Nat):∀u∈eI k,Jw u=true:=λu hu=>by
 unfold eI at hu;simp only[ZM] at hu;obtain⟨j,_,rfl⟩:=hu;rfl
theorem eQh {k x:Nat}(hk:k<2)(hx: [32,9][k]? =some x):(eI k).set x (.bool true)=eI (k+1):=by
 apply EN;intro j;by_cases hj:j<256
 ·rw[NM,Fs hj,Fs hj,pJ];have VX:k=0∨k=1:=by omega
  rcases VX with rfl | rfl
  ·simp at hx;subst hx;split
   ·rename_i e;subst e;simp
   ·rename_i e;have:¬j=32:=λh=>e h.symm
    simp[this]
  ·simp at hx;subst hx;split
   ·rename_i e;subst e;simp
   ·rename_i e;have:¬j=9:=λh=>e h.symm
    simp[this]
 ·rw[mo (by rw[cj,pJ];omega),mo (by rw[pJ];omega)]
set_option maxRecDepth 20000 in
theorem eQi (w:World):Fn Tryz.prog 228 [.string (Qe [32,9])] w (λv w'=>v= .tuple #[.agg (eI 2).toArray,.bool true]/\Ext w w'):=by
 refine Qx (c:=dQ8) Qa Tryz.func228 rfl rfl rfl ?_;refine new (λw1 Qd Q3 Qh=>?_);have ua:Blk w1 w.heap.size 302 (eI 0):=Qh;clear Qh;refine loop Qa [4] (λk:Nat=>[.int .i64 k]) (λk w'=>k<=2/\Ext w w'/\Blk w' w.heap.size 302 (eI k)) (λk _=>2-k) 0 rfl ⟨by omega,Qd,ua⟩ ?_;rintro k w2 ⟨hk,Qg,Qv⟩;refine Qt (λh1=>?_) (λh1=>?_)
 ·have VX:k<2:=by
   have:((Qe [32,9]).size:Int)=2:=rfl;omega
  refine az (s:=Qe [32,9]) (by show k<2;exact VX) (λx hx Cs=>?_);have VN: [32,9][k]? =some x:=by rw[Wa (by decide)] at hx;exact hx
  have oP:x<128:=by
   have:k=0∨k=1:=by omega
   rcases this with rfl | rfl
   ·simp at VN;omega
   ·simp at VN;omega
  refine Xx (by omega) ?_;refine AI (j:=x) rfl (by omega) ?_;refine XQ Qv (by rw[pJ];omega) (λw3 XE Qw=>?_);rw[eQh VX VN] at Qw;refine Qj ((k+1:Nat):Int) (by omega) (by omega) ?_;exact⟨k+1,rfl,⟨by omega,XE.ext Qg (λi hi=>by omega),Qw⟩,by show 2-(k+1)<2-k;omega⟩
 ·have VX:k=2:=by
   have:((Qe [32,9]).size:Int)=2:=rfl;omega
  subst VX;refine Qs Qv (pJ 2) ?_;refine QB Qv rfl (Pd 2) (λw3 ZZ _ Qw=>?_);refine Qs Qw (pJ 2) ?_;exact⟨rfl,Qg.own ZZ (QD _)⟩
theorem eQj (g x:Nat)(w:World)(hB:Blk w g 302 (eI 2))(hx:x<256):
  Fn Tryz.prog 245 [.pointer (some ⟨g,0,none⟩),.int .u8 x] w (λv w'=>v= .bool (x==32||x==9)/\w=w'):=by
 refine Qx (c:=eQc) Qa Tryz.func245 rfl rfl rfl ?_;refine AI (j:=x) rfl (by omega) ?_;refine Qp hB (Fs hx) ?_;refine⟨?_,rfl⟩;have e:∀y:Nat,(x==y)=decide (x=y):=λy=>rfl
 simp[e]
theorem eQk (g:Nat)(l:List Nat)(w:World)(hB:Blk w g 302 (eI 2))(hl:∀x∈l,x<256)(_:l.length<=9223372036854775807):
  Fn Tryz.prog 229 [.string (Qe l),.pointer (some ⟨g,0,none⟩)] w (λv w'=>v= .string (Qe (ZG l))/\Ext w w'):=by
 refine Qx (c:=dQ9) Qa Tryz.func229 rfl rfl rfl ?_;refine loop Qa [0] (λm:List Nat=>[.string (Qe m)]) (λm w'=>Ext w w'/\ZG m=ZG l/\(∀x∈m,x<256)) (λm _=>m.length) l rfl ⟨Ext.refl _,rfl,hl⟩ ?_;rintro m w1 ⟨Qd,hm,Jq⟩;refine Qt (λh1=>?_) (λh1=>?_)
 ·cases m with
  | nil=>simp[XC] at h1
  | cons x m=>
   refine az (s:=Qe (x::m)) (by rw[XC];simp) (λy hy Ct=>?_);have iG:y=x:=by rw[Wa Jq] at hy;simpa using hy.symm
   subst iG;refine call (eQj g y w1 (hB.ext Qd) Ct) ?_;rintro v w2 ⟨rfl,rfl⟩;cases hb:(y==32||y==9)with
   | false=>
    refine Xe rfl ?_;refine⟨?_,Qd⟩;rw[<-hm];unfold ZG;rw[pk,hb]<;>rfl
   | true=>
    refine Xv rfl ?_;refine need ⟨by omega,by omega,by omega⟩ ?_;refine⟨m,?_,⟨Qd,?_,λz hz=>Jq z (by simp[hz])⟩,by simp⟩
    ·have e:(Qe (y::m)).extract (Int.toNat 1) (((Qe (y::m)).size:Int)).toNat=Qe m:=by
      rw[Vc,XC,fT,Zz (QD _)]<;>rfl
     rw[e]<;>rfl
    ·rw[<-hm];unfold ZG;rw[pk,hb]<;>rfl
 ·cases m with
  | nil=>exact⟨by rw[<-hm];rfl,Qd⟩
  | cons x m=>rw[XC] at h1;simp at h1
set_option maxRecDepth 20000 in
theorem eQl (l:List Nat)(w:World)(hl:∀x∈l,x<256)(Xf:l.length<=9223372036854775807):
  Fn Tryz.prog 199 [.string (Qe l),.string (Qe [32,9])] w (λv w'=>v= .string (Qe (ZG l))/\Ext w w'):=by
 refine Qx (c:=dQO) Qa Tryz.func199 rfl rfl rfl ?_;refine Qt (λh1=>?_) (λh1=>?_)
 ·have:l=[]:=Z6 hl (by simp) (h1.trans rfl);subst this;exact⟨rfl,Ext.refl _⟩
 refine Xx (by decide) ?_;refine XW (by decide) ?_;refine call (eQi w) ?_;rintro v w1 ⟨rfl,Qd⟩;refine new (λw2 Qg X0 Qv=>?_);refine QB Qv (pJ 2) (Pd 2) (λw3 ZZ _ Qw=>?_);have Xq:=XY Qg Qv ZZ;refine Xe rfl ?_;refine call (eQk w1.heap.size l w3 Qw hl Xf) ?_;rintro v w4 ⟨rfl,Qq⟩;exact⟨rfl,Qd.trans (Xq.trans Qq)⟩
end
section
theorem eQm {P:Program}{f:FuncId}{l:List Value}{w:World}{v:Value}{R:World->Prop}(h:Calls P f l.toArray w λe w'=>e= .returned v/\R w'):Fn P f l w (λu w'=>u=v/\R w'):=by
 unfold Fn;exact h.mono λe w' he=>by obtain⟨rfl,h⟩:=he;exact⟨rfl,h⟩
theorem oQm {w w':World}(h:Below w.heap.size w w'):Ext w w':=⟨h.os,h.tape,h.output,h.size,λk hk _=>h.block k hk⟩
theorem Ft (r:Nat):X3 r=true↔(r=95∨(97<=r/\r<=122)∨(65<=r/\r<=90)∨(48<=r/\r<=57)):=by
 unfold X3 V6 isDig;simp;omega
theorem eQn (r:Nat)(w:World):Fn Tryz.prog 220 [.int .i32 r] w (λv w'=>v= .bool (!X3 r)/\w=w'):=by
 have hb:X3 r=decide (r=95∨(97<=r/\r<=122)∨(65<=r/\r<=90)∨(48<=r/\r<=57)):=by rw[jZ,Ft,Vb]
 rw[hb];refine Qx (c:=dQ2) Qa Tryz.func220 rfl rfl rfl ?_;have mQh:r=95∨(97<=r/\r<=122)∨(65<=r/\r<=90)∨(48<=r/\r<=57)∨r<48∨(57<r/\r<65)∨(90<r/\r<95)∨r=96∨122<r:=by omega
 rcases mQh with h | h | h | h | h | h | h | h | h <;>
  repeat (first | refine pG (by omega) ?_ | refine Y9 (by omega) ?_ | refine Zd (by omega) ?_ | refine Xx (by omega) ?_ | refine Xe rfl ?_ | refine Xv rfl ?_)
 all_goals refine⟨?_,rfl⟩
 all_goals congr 1
 all_goals first
  | (
    have hP:(r=95∨(97<=r/\r<=122)∨(65<=r/\r<=90)∨(48<=r/\r<=57)):=by omega
    rw[XT hP];first | rfl | exact XS (by omega) | exact XT (by omega))
  | (
    have hP:¬(r=95∨(97<=r/\r<=122)∨(65<=r/\r<=90)∨(48<=r/\r<=57)):=by omega
    rw[XS hP];first | rfl | exact XT (by omega) | exact XS (by omega))
theorem Pe {s:ByteArray}{pos:Nat}(h:pos<s.size):s.get! pos=s[pos]:=by
 simp[ByteArray.get!,ByteArray.getElem_eq_getElem_data,getElem!_pos s.data pos h]
theorem eQo {s:ByteArray}{pos:Nat}(h:pos<s.size)(ha:s[pos].toNat<128):Utf8.decode s pos=(s[pos].toNat,1):=by
 unfold Utf8.decode;simp only[Nat.add_zero,Pe h];rw[Qf ha]
theorem eQp {s:ByteArray}{pos:Nat}(h:pos<s.size)(ha:¬s[pos].toNat<128):128<=(Utf8.decode s pos).1:=by
 unfold Utf8.decode;simp only[Nat.add_zero,Pe h];rw[if_neg ha];have he:128<=Utf8.runeError:=by decide
 split
 ·split
  ·assumption
  ·exact he
 split
 ·split
  ·rename_i h1;simp at h1;exact X2 (by decide) h1.1
  ·exact he
 split
 ·split
  ·rename_i h1;simp at h1;exact X2 (by decide) h1.1
  ·exact he
 ·exact he
theorem Pf (s:ByteArray):∀(f pos:Nat),s.size<=pos+f->pos<=s.size->
  Lib.idxFuncFrom (λr=> !X3 r) true s f pos=if((Yu s).drop pos).all X3 then -1 else((pos+(((Yu s).drop pos).takeWhile X3).length:Nat):Int)
 | 0,pos,h,hp=>by
  rw[pj (by rw[sH];omega)];rfl
 | f+1,pos,h,hp=>by
  unfold Lib.idxFuncFrom;by_cases WN:pos<s.size
  ·rw[Qf WN];have hg:(Yu s).drop pos=s[pos].toNat::(Yu s).drop (pos+1):=by
    rw[bG (by rw[sH];exact WN)];congr 1;have:=OK WN;exact(Zw.1 this).2
   rw[hg];by_cases ha:s[pos].toNat<128
   ·have hd:=eQo WN ha;rw[hd]
    dsimp only
    cases hi:X3 s[pos].toNat with
    | true=>
     rw[if_neg (by simp),Pf s f (pos+1) (by omega) (by omega)];simp only[vl,hi,aV,WW,if_true,Xs];split
     ·rfl
     ·congr 1;omega
    | false=>
     rw[Qf (by simp)];simp[hi]
   ·have hi:X3 s[pos].toNat=false:=by
     cases e:X3 s[pos].toNat with
     | false=>rfl
     | true=>have:=(Ft _).1 e;omega
    have hd:X3 (Utf8.decode s pos).1=false:=by
     have mQV:=eQp WN ha;cases e:X3 (Utf8.decode s pos).1 with
     | false=>rfl
     | true=>have:=(Ft _).1 e;omega
    rw[Qf (by rw[hd];rfl)];simp[hi]
  ·rw[if_neg WN,pj (by rw[sH];omega)];rfl
theorem eQq (l:List Nat)(w:World)(hl:∀x∈l,x<256):Fn Tryz.prog 219 [.string (Qe l),.func (.func 220) #[] #[]] w (λv w'=>v= .int .i64 (if l.all X3 then -1 else((l.takeWhile X3).length:Nat))/\Ext w w'):=by
 refine Qx (c:=dQ1) Qa Tryz.func219 rfl rfl rfl ?_;have hp:Go.Proofs.PredAt Tryz.prog 220 #[] Go.Proofs.encR (λr=> !X3 r) w:=λW r _=>by
  have h:=eQn r W;unfold Fn at h;exact h.mono λe w' he=>by
   cases e with
   | returned v=>obtain⟨rfl,rfl⟩:=he;exact⟨rfl,0,rfl⟩
   | panicked ch=>exact he.elim
   | outgrown=>exact he.elim
 have hc:=Tryz.strings_indexFunc 220 #[] (Go.Proofs.enters_of Tryz.func220 rfl rfl) (λr=> !X3 r) true (Qe l) w hp;refine call (eQm hc) ?_;rintro v w1 ⟨rfl,hb⟩;refine⟨?_,oQm hb⟩;unfold Lib.idxFunc;rw[Pf (Qe l) _ 0 (by omega) (Xt _),Wa hl,vk,aq]
end
end
section
structure KeyQ {α:Type} [DecidableEq α] (P:Program) (ke:Nat) (kv:α->Value):Prop where
 find:∀(a:α) (m:List (α×Value)) (bs:List Nat) (w:World),bs.length=m.length->
  ∃r,(Instr.findKey ke (kv a) (XX kv m bs)).run P w= .ok r w/\r.map (·.2)=XJ a m/\(∀j v,r=some (j,v)->∀v',XX kv (Zg a v' m) bs=(XX kv m bs).modify j (λe=>{e with key:=kv a,val:=v'})/\((XX kv m bs)[j]?).map (·.key)=some (kv a))/\(r=none->∀v',Zg a v' m=m++ [(a,v')])
 check:∀b a w,(Instr.checkKey b 10000 ke (kv a)).run P w= .ok () w
 bits:∀a,Instr.sameBits 10000 (kv a) (kv a)=true
theorem Fu {α:Type} [DecidableEq α]{P:Program}{ke:Nat}{kv:α->Value}(a:α)(w:World)(heq:∀b:α,(Op.equal ke (kv a) (kv b)).run P w= .ok (decide (a=b)) w):∀(m:List (α×Value))(bs:List Nat)(i:Nat),bs.length=m.length->
  ∃r,(Instr.findAsking ke (kv a) (XX kv m bs) i).run P w= .ok r w/\r.map (·.2)=XJ a m/\(∀j v,r=some (j,v)->i<=j/\∀v',XX kv (Zg a v' m) bs=(XX kv m bs).modify (j-i) (λe=>{e with key:=kv a,val:=v'})/\((XX kv m bs)[j-i]?).map (·.key)=some (kv a))/\(r=none->∀v',Zg a v' m=m++ [(a,v')])
 | [],bs,i,h=>⟨none,by simp[XX,Instr.findAsking],rfl,(λj v h=>by cases h),λ_ v'=>rfl⟩
 | (b,u)::m,[],i,h=>by simp at h
 | (b,u)::m,s::bs,i,h=>by
  have e:XX kv ((b,u)::m) (s::bs)={key:=kv b,val:=u,born:=s}::XX kv m bs:=rfl;rw[e];unfold Instr.findAsking;simp only[Sem.run_bind,heq,Result.andThen_ok];by_cases Yo:a=b
  ·subst Yo;simp only[decide_true,if_true];refine⟨some (i,u),by simp,by simp[XJ],λj v hj=>?_,λh=>by cases h⟩;cases hj;refine⟨QD _,λv'=>?_⟩;simp[Zg,XX]
  ·simp only[Yo,decide_false,NN,if_false];obtain⟨r,h1,h2,h3,h4⟩:=Fu a w heq m bs (i+1) (by simpa using h);refine⟨r,h1,by simp[XJ,Yo,h2],λj v hj=>?_,λhn v'=>by simp[Zg,Yo,h4 hn v']⟩;obtain⟨h5,h7⟩:=h3 j v hj;refine⟨by omega,λv'=>?_⟩;obtain⟨h8,h9⟩:=h7 v';rw[show j-i=(j-(i+1))+1 by omega];refine⟨?_,by simpa using h9⟩;simp only[Zg,Yo,if_false];rw[show XX kv ((b,u)::Zg a v' m) (s::bs)={key:=kv b,val:=u,born:=s}::XX kv (Zg a v' m) bs from rfl,h8];simp
theorem oQu {α:Type} [DecidableEq α]{P:Program}{ke:Nat}{kv:α->Value}{fs:Array Field}(hu:P.underlying ke=some (.struct fs))
  (heq:∀(a b:α) (w:World),(Op.equal ke (kv a) (kv b)).run P w= .ok (decide (a=b)) w) (hc:∀b a w,(Instr.checkKey b 10000 ke (kv a)).run P w= .ok () w) (hb:∀a,Instr.sameBits 10000 (kv a) (kv a)=true):KeyQ P ke kv:=by
 refine⟨λa m bs w hl=>?_,hc,hb⟩;have key:=Fu (P:=P) (ke:=ke) (kv:=kv) a w (λb=>heq a b w) m bs 0 hl;obtain⟨r,h1,h2,h3,h4⟩:=key;refine⟨r,?_,h2,λj v hj v'=>by simpa using (h3 j v hj).2 v',h4⟩;unfold Instr.findKey;simp only[Sem.run_bind,ZX hu,Result.andThen_ok];cases m with
 | nil=>
  simp only[XX,List.zip_nil_left,List.map_nil,Instr.findNow,Sem.run_pure];simp[XX,Instr.findAsking] at h1;rw[h1]
 | cons p m=>
  cases bs with
  | nil=>simp at hl
  | cons s bs=>
   have e:XX kv (p::m) (s::bs)={key:=kv p.1,val:=p.2,born:=s}::XX kv m bs:=rfl;rw[e] at h1 ⊢;have hn:Instr.findNow (.struct fs) (kv a) ({key:=kv p.1,val:=p.2,born:=s}::XX kv m bs) 0=none:=by
    simp[Instr.findNow,Instr.sameNow]
   rw[hn];exact h1
structure MapQ {α:Type} (kv:α->Value) (w:World) (r:Nat) (m:List (α×Value)):Prop where
 ex:∃bs ck,bs.length=m.length/\bs.Nodup/\(∀b∈bs,b<ck)/\w.heap[r]? =some (.map (XX kv m bs).toArray ck)
theorem MapQ.ext {α:Type}{kv:α->Value}{w w':World}{r:Nat}{m:List (α×Value)}(h:MapQ kv w r m)(k:Ext w w'):MapQ kv w' r m:=by
 obtain⟨bs,ck,hl,h1,h2,hb⟩:=h.ex;exact⟨bs,ck,hl,h1,h2,(k.block r (iW.1 hb).1 (by simp)).trans hb⟩
theorem MapQ.mod {α:Type}{kv:α->Value}{S:Nat->Prop}{w w':World}{r:Nat}{m:List (α×Value)}(h:MapQ kv w r m)(k:Mod S w w')(hn:¬S r):MapQ kv w' r m:=by
 obtain⟨bs,ck,hl,h1,h2,hb⟩:=h.ex;exact⟨bs,ck,hl,h1,h2,(k.block r (iW.1 hb).1 hn).trans hb⟩
theorem sN {α:Type}{c:Cx}(_:c.g.Ok){o:Oper}{S:Env}{w:World}{K:Env->World->Prop}{Q:Zj}{t:Nat}(kv:α->Value)(ho:o.op= .makeMap t none)
  (k:∀w1,Ext w w1->w1.heap.size=w.heap.size+1->MapQ kv w1 w.heap.size []->Xn c S o.dst (.v (.map (some w.heap.size))) (λS=>K S w1)):Zc c o S w K Q:=by
 refine JJ (w':=w.alloc (.map #[] 0)) (λa hf=>?_) (k _ (Ext.alloc w _) (by simp) ⟨[],0,rfl,List.nodup_nil,by simp,heap_alloc_new w _⟩);simp[execOp,ho,Instr.makeMap]
section
variable {α:Type} [DecidableEq α] {kv:α->Value} {c:Cx} {o:Oper} {S:Env} {w:World} {K:Env->World->Prop} {Q:Zj} {t ke e:Nat} {r re:TyRow} {x y:Operand} {q:Nat} {m:List (α×Value)} {a:α}
theorem Pg (hg:c.g.Ok)(hr:QX c.g.tys t=some r)(hd:r.d= .map ke e)(Zb:QX c.g.tys e=some re)(hk:KeyQ c.g.P ke kv)(hm:MapQ kv w q m)(ok:Bool):
  (Instr.lookup t (.map (some q)) (kv a) ok).run c.g.P w= .ok (if ok then .tuple #[(XJ a m).getD re.z,.bool (XJ a m).isSome] else(XJ a m).getD re.z) w:=by
 have Xc:=(hg.row hr).1;rw[hd] at Xc;obtain⟨_,i,hi,_,_,cd⟩:=hg.row Zb;obtain⟨bs,ck,hl,_,_,hb⟩:=hm.ex;obtain⟨res,h1,h2,_,_⟩:=hk.find a m bs w hl;have d8:(getObj q).run c.g.P w= .ok (.map (XX kv m bs).toArray ck) w:=by simp[getObj,Sem.run,hb]
 have hz:(zeroValue e).run c.g.P w= .ok re.z w:=by simp[zeroValue,typeInfo,hi,cd]
 simp only[Instr.lookup,Sem.run_bind,ZX Xc,Result.andThen_ok,d8,Sem.run_pure,hk.check,h1];rw[<-h2];cases res with
 | none=>cases ok<;>simp[hz]
 | some p=>cases ok<;>simp
theorem Fv (hg:c.g.Ok)(ho:o.op= .lookup t x y true)(hr:QX c.g.tys t=some r)(hd:r.d= .map ke e)(Zb:QX c.g.tys e=some re)(hk:KeyQ c.g.P ke kv)
  (hx:S.ev x=some (.map (some q))) (hy:S.ev y=some (kv a)) (hm:MapQ kv w q m)
  (k:Xn c S o.dst (.v (.tuple #[(XJ a m).getD re.z,.bool (XJ a m).isSome])) (λS=>K S w)):Zc c o S w K Q:=by
 refine JJ (w':=w) (λb hf=>?_) k;have e1:=hf.ev hx;have e2:=hf.ev hy;have:=Pg (w:=w) (a:=a) hg hr hd Zb hk hm true;simp only[execOp,ho,e1,e2];simp only[Sem.run_bind,this,Result.andThen_ok];simp
theorem Ph {α:Type} [DecidableEq α](a:α)(v:Value):∀(m:List (α×Value)),(XJ a m).isSome->(Zg a v m).length=m.length
 | [],h=>by simp[XJ] at h
 | (b,x)::m,h=>by
  simp only[Zg];split
  ·simp
  ·rename_i Yo;simp[Ph a v m (by simpa [XJ,Yo] using h)]
theorem sS {v:Value}{z:Operand}(hg:c.g.Ok)(ho:o.op= .mapUpdate t x y z)(iF:o.dst=none)(hr:QX c.g.tys t=some r)(hd:r.d= .map ke e)(hk:KeyQ c.g.P ke kv)
  (hx:S.ev x=some (.map (some q))) (hy:S.ev y=some (kv a)) (hz:S.ev z=some v) (hm:MapQ kv w q m)
  (k:∀w1,Mod (·=q) w w1->w1.heap.size=w.heap.size->MapQ kv w1 q (Zg a v m)->K S w1):Zc c o S w K Q:=by
 have Xc:=(hg.row hr).1;rw[hd] at Xc;obtain⟨bs,ck,hl,hnd,Mv,hb⟩:=hm.ex;have Q5:q<w.heap.size:=(iW.1 hb).1;obtain⟨res,h1,h2,h3,h4⟩:=hk.find a m bs w hl;have d8:(getObj q).run c.g.P w= .ok (.map (XX kv m bs).toArray ck) w:=by simp[getObj,Sem.run,hb]
 have fD:∀ob,(setObj q ob).run c.g.P w= .ok () {w with heap:=w.heap.setIfInBounds q ob}:=λob=>by simp[setObj,Sem.run,hb]
 have main:∃ob,(Instr.mapUpdate t (.map (some q)) (kv a) v).run c.g.P w= .ok () {w with heap:=w.heap.setIfInBounds q ob}/\∃an ck',an.length=(Zg a v m).length/\an.Nodup/\(∀b∈an,b<ck')/\ob= .map (XX kv (Zg a v m) an).toArray ck':=by
  cases res with
  | none=>
   refine⟨_,?_,bs++ [ck],ck+1,?_,?_,?_,rfl⟩
   ·simp only[Instr.mapUpdate,Sem.run_bind,ZX Xc,Result.andThen_ok,d8,hk.check,h1,fD];rw[h4 rfl v];congr 4;simp only[XX];rw[List.zip_append hl.symm,dx];simp
   ·rw[h4 rfl v];simp[hl]
   ·rw[zO];refine⟨hnd,by simp,λx hx y hy=>?_⟩;simp at hy;have:=Mv x hx;omega
   ·intro b hb';simp only[XH,QF] at hb';rcases hb' with hb' | rfl
    ·have:=Mv b hb';omega
    ·omega
  | some p=>
   obtain⟨j,u⟩:=p;obtain⟨h8,h9⟩:=h3 j u rfl v;have Mu:(((XX kv m bs).toArray[j]?).map (·.key)).getD (kv a)=kv a:=by
    rw[show(XX kv m bs).toArray[j]? =(XX kv m bs)[j]? from by simp,h9]<;>rfl
   refine⟨_,?_,bs,ck,?_,hnd,Mv,rfl⟩
   ·simp only[Instr.mapUpdate,Sem.run_bind,ZX Xc,Result.andThen_ok,d8,hk.check,h1,Mu,Instr.keyThatStays,hk.bits,if_true,Sem.run_pure,fD];rw[h8];congr 4;simp
   ·rw[Ph a v m (by rw[<-h2];rfl),hl]
 obtain⟨ob,Jj,an,ck',cg,mQi,mQj,rfl⟩:=main;unfold Zc;intro b hf;have e1:=hf.ev hx;have e2:=hf.ev hy;have e3:=hf.ev hz;unfold Oper.wp;have:(execOp b.eval o).run c.g.P w= .ok .skip {w with heap:=w.heap.setIfInBounds q (.map (XX kv (Zg a v m) an).toArray ck')}:=by
  simp only[execOp,ho,e1,e2,e3];simp[Jj]
 rw[this];refine⟨S,by rw[iF];simpa [Act.put] using hf,k _ ⟨rfl,rfl,rfl,by simp,λi _ hi=>?_⟩ (by simp) ⟨an,ck',cg,mQi,mQj,?_⟩⟩
 ·simp only[EL];rw[if_neg (λe=>hi e.symm)]
 ·simp[Q5]
end
section
variable {α:Type} {kv:α->Value} {c:Cx} {o:Oper} {S:Env} {w:World} {K:Env->World->Prop} {Q:Zj} {t ke e:Nat} {r:TyRow} {x:Operand} {q it:Nat} {m L:List (α×Value)} {Ju:Option (α×Value)}
end
end
section
section
theorem Pi {p:Nat->Bool}{l:List Nat}(h:l.all p=true):l.takeWhile p=l:=by
 induction l with
 | nil=>rfl
 | cons x l ih=>
  simp only[vl,Jv] at h;rw[WW,Qf h.1,ih h.2]
theorem Fw (b:Nat)(l:List Nat):Vt (b::l)=if isDig b then 0 else((b::l).takeWhile X3).length:=rfl
theorem Pj (l:List Nat):Vt l<=l.length:=by
 cases l with
 | nil=>exact QD _
 | cons b l=>
  rw[Fw];split
  ·exact Xt _
  ·exact(EO _).length_le
theorem Pk (l:List Nat)(w:World)(hl:∀x∈l,x<256)(Xf:l.length<=9223372036854775807):
  Fn Tryz.prog 191 [.string (Qe l)] w (λv w'=>v= .int .i64 (Vt l:Nat)/\Ext w w'):=by
 refine Qx (c:={dQH with cuts:=[2]}) Qa Tryz.func191 rfl rfl rfl ?_;refine call (eQq l w hl) ?_;rintro v w1 ⟨rfl,Qd⟩;have hT:(l.takeWhile X3).length<=l.length:=(EO _).length_le;refine gO [] Qa [3] (λn:Nat=>[.int .i64 n]) (λn w'=>w1=w'/\n=(l.takeWhile X3).length) ?_ ?_
 ·cases ha:l.all X3 with
  | true=>
   rw[Qf rfl];refine Zd (by omega) ?_;exact⟨(Qe l).size,rfl,rfl,by rw[XC,Pi ha]⟩
  | false=>
   rw[if_neg (by simp)];refine Xx (by omega) ?_;exact⟨(l.takeWhile X3).length,rfl,rfl,rfl⟩
 rintro n _ ⟨rfl,hn⟩;cases l with
 | nil=>
  have:n=0:=by simpa using hn
  subst this;refine Xx (by omega) ?_;exact⟨rfl,Qd⟩
 | cons b l=>
  have hb8:=hl b (by simp);have hS:(Qe (b::l)).size=l.length+1:=by rw[XC]<;>rfl
  by_cases hd:isDig b=true
  ·have ee:X3 b=true:=by unfold X3;rw[hd,Bool.or_true]
   have Ei:48<=b/\b<=57:=by unfold isDig at hd;simpa using hd
   have jy:0<n:=by rw[hn,WW,Qf ee];simp
   refine Zd (by omega) ?_;refine az (s:=Qe (b::l)) (j:=0) (by rw[hS];omega) (λx hx Cs=>?_);have ZP:x=b:=by rw[Wa hl] at hx;simpa using hx.symm
   subst ZP;refine Zd (by omega) ?_;refine az (s:=Qe (x::l)) (j:=0) (by rw[hS];omega) (λy hy Ct=>?_);have ci:y=x:=by rw[Wa hl] at hy;simpa using hy.symm
   subst ci;refine Zd (by omega) ?_;exact⟨by rw[Fw,Qf hd];rfl,Qd⟩
  ·have ee:Vt (b::l)=n:=by rw[Fw,if_neg hd,hn]
   rw[ee];by_cases jy:0<n
   ·have Ei:¬(48<=b/\b<=57):=λh=>hd (by unfold isDig;simpa using h)
    refine Zd (by omega) ?_;refine az (s:=Qe (b::l)) (j:=0) (by rw[hS];omega) (λx hx Cs=>?_);have ZP:x=b:=by rw[Wa hl] at hx;simpa using hx.symm
    subst ZP;refine Qt (λh1=>?_) (λh1=>?_)
    ·refine az (s:=Qe (x::l)) (j:=0) (by rw[hS];omega) (λy hy Ct=>?_);have ci:y=x:=by rw[Wa hl] at hy;simpa using hy.symm
     subst ci;refine Xx (by omega) ?_;exact⟨rfl,Qd⟩
    ·exact⟨rfl,Qd⟩
   ·refine Xx (by omega) ?_;exact⟨rfl,Qd⟩
def Q9 (l:List (List Nat)):List Value:=l.map λs=>.string (Qe s)
theorem cz {l:List (List Nat)}{j:Nat}{s:List Nat}(h:l[j]? =some s):(Q9 l)[j]? =some (.string (Qe s)):=by simp[Q9,h]
theorem YO (l:List (List Nat)):(Q9 l).length=l.length:=by simp[Q9]
def Yv:List Nat:=[116,114,117,101]
def aC:List Nat:=[102,97,108,115,101]
def Vv (s:List Nat):Bool:=decide (s≠ []/\Vt s=s.length/\s≠Yv/\s≠aC)
def YP:List (List Nat)->Nat->List (ByteArray×Value)->List (ByteArray×Value)
 | [],_,m=>m
 | s::l,i,m=>YP l (i+1) (Zg (Qe s) (.int .i64 (i:Nat)) m)
theorem Pm:∀(l:List (List Nat))(s:List Nat)(i:Nat)(m:List (ByteArray×Value)),YP (l++ [s]) i m=Zg (Qe s) (.int .i64 ((i+l.length:Nat):Int)) (YP l i m)
 | [],s,i,m=>rfl
 | t::l,s,i,m=>by
  simp only[YK,YP];rw[Pm l s (i+1)];congr 3;simp only[Xs];omega
end
section
theorem eQr {α:Type}{kv:α->Value}{c:Cx}(hg:c.g.Ok){o:Oper}{S:Env}{w:World}{K:Env->World->Prop}{Q:Zj}{t q ke e:Nat}{x:Operand}{m:List (α×Value)}{r:TyRow}
  (ho:o.op= .call ⟨.builtin .len, #[x], #[t]⟩) (hr:QX c.g.tys t=some r) (hd:r.d= .map ke e) (hx:S.ev x=some (.map (some q))) (hm:MapAt kv w q m)
  (k:Xn c S o.dst (.v (.int .i64 m.length)) (λS=>K S w)):Zc c o S w K Q:=by
 have Xc:=(hg.row hr).1;rw[hd] at Xc;obtain⟨bs,ck,hl,hb⟩:=hm.ex;refine JJ (w':=w) (v:=.int .i64 m.length) (λa hf=>?_) k;have e1:=hf.ev hx;have d8:(getObj q).run c.g.P w= .ok (.map (XX kv m bs).toArray ck) w:=by simp[getObj,Sem.run,hb]
 have ZO:(XX kv m bs).length=m.length:=by simp[XX,hl]
 simp only[execOp,ho,resolve,invoke];simp[builtin,e1,Builtin.len_,ZX Xc,d8,goInt,ZO]
abbrev V8:ByteArray->Value:=λs=>.string s
def Zx (names:List (List Nat)):Bool:=decide (names.all Vv=true/\(YP names 0 []).length=names.length/\names.length<=64)
theorem Po {names:List (List Nat)}{j:Nat}{s:List Nat}(h:(names.take j).all Vv=true)(hj:names[j]? =some s)(hs:Vv s=true):(names.take (j+1)).all Vv=true:=by
 rw[KC,hj];simp[List.all_append,h,hs]
theorem Fx {names:List (List Nat)}{j:Nat}{s:List Nat}(hj:names[j]? =some s)(hs:Vv s≠true):Zx names=false:=by
 unfold Zx;refine XS (λh=>hs ?_);exact VT.1 h.1 s (Q2 hj)
theorem Pp {names:List (List Nat)}{j:Nat}{s:List Nat}(hj:names[j]? =some s):YP (names.take (j+1)) 0 []=Zg (Qe s) (.int .i64 (j:Nat)) (YP (names.take j) 0 []):=by
 have Q5:j<names.length:=(Zw.1 hj).1;rw[KC,hj];show YP (names.take j++ [s]) 0 []=_;rw[Pm,KZ,mi (by omega),aq]
def Jy (names:List (List Nat)):Prop:=∀s∈names,(∀x∈s,x<256)/\s.length<=9223372036854775807
theorem Fy (names:List (List Nat))(A:Option Addr)(n c:Nat)(w:World)(h:Sl w 1 A n c (Q9 names))(hb:Jy names):
  Fn Tryz.prog 132 [.slice A n c] w (λv w'=>∃v1,v= .tuple #[v1,.bool (Zx names)]/\Ext w w'/\(Zx names=true->∃r,v1= .map (some r)/\w.heap.size<=r/\MapAt V8 w' r (YP names 0 []))):=by
 have hn:names.length=n:=by have:=h.len;rw[YO] at this;omega
 have xg:n<=9223372036854775807:=by have:=h.le;have:=h.cap;simp only[maxLen] at this;omega
 refine Qx (c:={cQ1 with cuts:=[]}) Qa Tryz.func132 rfl rfl rfl ?_;refine vO Qa V8 rfl ?_;intro w1 Qd Q3 Zr;refine loop Qa [10] (λs:Nat=>[.int .i64 s]) (λs w'=>Ext w w'/\s<=n/\(names.take s).all Vv=true/\MapAt V8 w' w.heap.size (YP (names.take s) 0 [])) (λs _=>n-s) 0 rfl ⟨Qd,Xt _,rfl,Zr⟩ ?_;rintro s w3 ⟨Qi,KK,hall,XE⟩;refine Qt (λh3=>?_) (λh3=>?_)
 ·have Y0:names[s]? =some names[s]:=Xb (by omega);generalize names[s]=t at Y0;obtain⟨Yf,V5⟩:=hb t (Q2 Y0);refine ZF (h.ext Qi) (by omega) (λad u hA hu QR=>?_);rw[cz Y0] at hu;cases hu;refine load QR ?_;have mQW:=Qi;have bad:Vv t≠true->∀w',Ext w w'->∃v1,(.tuple #[.map none,.bool false]:Value)= .tuple #[v1,.bool (Zx names)]/\Ext w w'/\(Zx names=true->∃r,v1= .map (some r)/\w.heap.size<=r/\MapAt V8 w' r (YP names 0 [])):=λhb w' hE=>by
   refine⟨.map none,?_,hE,λh=>?_⟩
   ·rw[Fx Y0 hb]
   ·rw[Fx Y0 hb] at h;cases h
  have e0:((Qe t=(⟨#[]⟩:ByteArray))↔t=[]):=⟨λh=>Z6 Yf (by simp) h,λh=>by rw[h];rfl⟩
  have e1:((Qe t=(⟨#[116,114,117,101]⟩:ByteArray))↔t=Yv):=⟨λh=>Z6 Yf (by decide) h,λh=>by rw[h];rfl⟩
  have e2:((Qe t=(⟨#[102,97,108,115,101]⟩:ByteArray))↔t=aC):=⟨λh=>Z6 Yf (by decide) h,λh=>by rw[h];rfl⟩
  by_cases h4:t=[]
  ·refine Zd (e0.2 h4) ?_;exact bad (by unfold Vv;simp[h4]) _ Qi
  refine Xx (λh=>h4 (e0.1 h)) ?_;refine call (Pk t w3 Yf V5) ?_;rintro v w4 ⟨rfl,Qq⟩;have UX:((Qe t).size:Int)=(t.length:Nat):=by rw[XC]
  by_cases h5:¬Vt t=t.length
  ·refine pG (λh=>h5 (by omega)) ?_;exact bad (by unfold Vv;simp[h5]) _ (Qi.trans Qq)
  replace h5:=Decidable.not_not.1 h5;refine Y9 (by omega) ?_;by_cases h6:t=Yv
  ·refine Zd (e1.2 h6) ?_;exact bad (by unfold Vv;simp[h6]) _ (Qi.trans Qq)
  refine Xx (λh=>h6 (e1.1 h)) ?_;by_cases h7:t=aC
  ·refine Zd (e2.2 h7) ?_;exact bad (by unfold Vv;simp[h7]) _ (Qi.trans Qq)
  refine Xx (λh=>h7 (e2.1 h)) ?_;have Zm:Vv t=true:=by unfold Vv;simp[h4,h5,h6,h7]
  refine kr (kv:=V8) (a:=Qe t) Qa rfl rfl rfl rfl rfl oQi rfl rfl rfl (XE.ext Qq) (λw5 Jr _ XV=>?_);refine Qj ((s+1:Nat):Int) (by omega) (by omega) ?_;refine⟨s+1,rfl,⟨(Qi.trans Qq).own Jr (QD _),by omega,Po hall Y0 Zm,by rw[Pp Y0];exact XV⟩,by show n-(s+1)<n-s;omega⟩
 ·have:s=n:=by omega
  subst this;have ht:names.take s=names:=Zz (by omega);rw[ht] at hall XE;refine eQr (kv:=V8) Qa rfl rfl rfl rfl XE ?_;refine XU (λh4=>?_) (λh4=>?_)
  ·refine⟨.map (some w.heap.size),?_,Qi,λ_=>⟨_,rfl,QD _,XE⟩⟩;have:decide ((names.length:Int)<=64)=Zx names:=by unfold Zx;exact mB.2 ⟨λh=>⟨hall,by omega,by omega⟩,λh=>by omega⟩
   rw[<-this,hn]
  ·refine⟨.map (some w.heap.size),?_,Qi,λ_=>⟨_,rfl,QD _,XE⟩⟩;have:Zx names=false:=by unfold Zx;exact XS (λh=>by omega)
   rw[this]
end
end
section
section
theorem Xr {C:World->Prop}{p:Addr}{n:Nat}{vs:List Value}{K:List Value->Prop}(hl:vs.length=n)(h:∀w,C w->∀j v,vs[j]? =some v->w.cell? (p.add j)=some v)(k:K vs):sB C p n K:=by unfold sB;exact⟨vs,hl,h,k⟩
def mJ (f:List Fz):List Value:=f.flatMap Fz.cells
theorem Pq (f:List Fz)(x:Fz):mJ (f++ [x])=mJ f++x.cells:=by simp[mJ]
structure Rd (w:World) (base r:Nat) (A:Option Addr) (c:Nat) (mp:Value) (p:Ps):Prop where
 blk:Blk w r 222 [mp,.string (Qe p.r),.slice A p.f.length c,.bool p.u]
 own:Own w base 280 4 A p.f.length c (mJ p.f)
 lt:r<base
 top:base<=w.heap.size
 b8:∀x∈p.r,x<256
 lim:p.f.length+p.r.length<=1000000000000
theorem Rd.ext {w w':World}{base r:Nat}{A:Option Addr}{c:Nat}{mp:Value}{p:Ps}(h:Rd w base r A c mp p)(k:Ext w w'):Rd w' base r A c mp p:=
 ⟨h.blk.ext k,h.own.ext k,h.lt,X2 h.top k.size,h.b8,h.lim⟩
def RdS (r:Nat)(A:Option Addr):Nat->Prop:=λk=>k=r∨Qk A k
def RdTo (w:World)(base r:Nat)(A:Option Addr)(mp:Value)(p:Ps)(w':World):Prop:=∃A' c',Rd w' base r A' c' mp p/\Mod (RdS r A) w w'/\Moved w A A'
theorem RdTo.step {w w1 w2:World}{base r:Nat}{A A1:Option Addr}{mp:Value}{p:Ps}(h:RdTo w1 base r A1 mp p w2)(hm:Mod (RdS r A) w w1)(hv:Moved w A A1):RdTo w base r A mp p w2:=by
 obtain⟨A2,c2,h2,XR,Kd⟩:=h;refine⟨A2,c2,h2,hm.trans XR (λi hi=>?_),hv.trans Kd hm.size⟩;rcases hi with rfl | hi
 ·exact .inl (.inl rfl)
 ·rcases hv.rows i hi with h | h
  ·exact .inl (.inr h)
  ·exact .inr h
theorem Rd.nrow {w:World}{base r:Nat}{A:Option Addr}{c:Nat}{mp:Value}{p:Ps}(h:Rd w base r A c mp p):¬Qk A r:=λhr=>by
 have:=(h.own.rows r hr).1;have:=h.lt;omega
theorem sT (l:List Nat):(ZG l).length<=l.length:=(List.dropWhile_suffix _).sublist.length_le
theorem eQs {l:List Nat}(h:∀x∈l,x<256):∀x∈ZG l,x<256:=λx hx=>h x ((List.dropWhile_suffix _).subset hx)
theorem vT (sym:List Nat)(p:Ps):Kn sym p=(sym.isPrefixOf (ZG p.r),{p with r:=if sym.isPrefixOf (ZG p.r)then(ZG p.r).drop sym.length else ZG p.r}):=by
 unfold Kn;cases sym.isPrefixOf (ZG p.r)<;>rfl
theorem sU (base r:Nat)(A:Option Addr)(c:Nat)(mp:Value)(p:Ps)(sym:List Nat)(w:World)(h:Rd w base r A c mp p)(hs:∀x∈sym,x<256):
  Fn Tryz.prog 142 [.pointer (some ⟨r,0,none⟩),.string (Qe sym)] w (λv w'=>v= .bool (Kn sym p).1/\Rd w' base r A c mp (Kn sym p).2/\Mod (·=r) w w'):=by
 have hl:=h.lim;have V5:=sT p.r;have Yf:=eQs h.b8;refine Qx (c:=dQa) Qa Tryz.func142 rfl rfl rfl ?_;refine Qp h.blk rfl ?_;refine call (eQl p.r w h.b8 (by omega)) ?_;rintro v w1 ⟨rfl,Qd⟩;refine XQ (h.blk.ext Qd) (by simp) (λw2 XR Qv=>?_);refine Qp Qv rfl ?_;refine call (eQg (ZG p.r) sym w2 Yf hs) ?_;rintro v w3 ⟨rfl,rfl⟩;have hM:∀w3,Mod (·=r) w2 w3->Mod (·=r) w w3:=λw3 XE=>((Mod.of_ext (·=r) Qd).trans XR (λi hi=>.inl hi)).trans XE (λi hi=>.inl hi)
 rw[vT];unfold vS;cases hp:sym.isPrefixOf (ZG p.r)with
 | true=>
  refine XQ Qv (by simp) (λw3 XE Qw=>?_);have Z0:=hM w3 XE;have Xf:((ZG p.r).drop sym.length).length<=p.r.length:=by rw[Y5];omega
  exact⟨rfl,⟨Qw,h.own.mod Z0 (λi hi e=>by subst e;exact h.nrow hi),h.lt,X2 h.top Z0.size,λx hx=>Yf x (av hx),by show p.f.length+((ZG p.r).drop sym.length).length<=_;omega⟩,Z0⟩
 | false=>
  refine XQ Qv (by simp) (λw3 XE Qw=>?_);have Z0:=hM w3 XE;exact⟨rfl,⟨Qw,h.own.mod Z0 (λi hi e=>by subst e;exact h.nrow hi),h.lt,X2 h.top Z0.size,Yf,by show p.f.length+(ZG p.r).length<=_;omega⟩,Z0⟩
theorem pK (base r:Nat)(A:Option Addr)(c:Nat)(mp:Value)(p:Ps)(x:Fz)(w:World)(h:Rd w base r A c mp p)(hl:p.f.length+p.r.length+1<=1000000000000):
  Fn Tryz.prog 226 [.pointer (some ⟨r,0,none⟩),.agg x.cells.toArray] w (λv w'=>v= .int .i64 (p.f.length:Nat)/\RdTo w base r A mp (V7 x p).2 w'):=by
 refine Qx (c:=dQ7) Qa Tryz.func226 rfl rfl rfl ?_;refine new (λw1 Qd Q3 Qh=>?_);have h1:=h.ext Qd;have V4:=h.own.rows;have hC0:Mod (Qk A) w1 w1.drew:=Mod.of_ext _ (Ext.drew w1);refine Xy Qa (Mod (Qk A) w1) 8 [(true,0),(true,1),(true,2),(true,3),(true,4),(true,5),(false,6),(false,7)] (by kernel_rfl) hC0 ?_;refine QJ (v:=.slice A p.f.length c) (λw' Qb=>by rw[(h1.blk.mod Qb h.nrow).cell];rfl) ?_;have HL:¬Qk A w.heap.size:=λhr=>by have:=(V4 _ hr).2;omega
 refine Xr (vs:=x.cells) rfl (λw' Qb j v hj=>by rw[(Qh.mod Qb HL).cell];exact hj) ?_;refine Xm Qa [x.cells] rfl rfl rfl rfl rfl ⟨rfl,rfl,⟨⟩⟩ rfl (λcs h=>by simp only[QF] at h;subst h;rfl) rfl (by decide) (by decide) ?_;intro w2 Qg X0 Qv;have Xu:=(Ext.drew w1).trans Qg;have h2:=h1.ext Xu;refine⟨Mod.of_ext _ Xu,?_⟩;have lj:Sl w2 4 (some ⟨w1.drew.heap.size,0,none⟩) 1 1 x.cells:=Sl.own (sz:=4) (n:=1) Qv (QD _) (by decide) (by simp[Fz.cells]);refine Zk Qa rfl rfl rfl rfl rfl (by decide) rfl rfl ⟨_,rfl⟩ rfl rfl h2.own lj (by intro u hu;simp[Fz.cells] at hu;rcases hu with rfl | rfl | rfl | rfl<;>rfl) (by unfold maxLen;omega) (by show _*32<=_;omega) h2.top ?_;intro A' c' w3 XE nC Cu;have J3:Mod (Qk A) w1 w3:=(Mod.of_ext (Qk A) Xu).trans XE (λi hi=>.inl hi);refine⟨J3,?_⟩;have Qw:=h1.blk.mod J3 h.nrow;refine XQ Qw (by simp) (λw4 X9 Q6=>?_);refine Qp Q6 rfl ?_;have hz:=Xu.size;have HM:∀k,Qk A' k->base<=k:=λk hk=>(nC.rows k hk).1
 have KR:Mod (RdS r A) w w4:=((Mod.of_ext (RdS r A) Qd).trans J3 (λi hi=>.inl (.inr hi))).trans X9 (λi hi=>.inl (.inl hi));refine Qj ((p.f.length:Nat):Int) (by omega) (by omega) ?_;refine⟨rfl,A',c',⟨?_,?_,h.lt,X2 h.top KR.size,h.b8,?_⟩,KR,Cu.back (X2 Qd.size hz)⟩
 ·have e:(V7 x p).2.f.length=p.f.length+1:=by simp[V7]
  rw[e];exact Q6
 ·have e:(V7 x p).2.f.length=p.f.length+1:=by simp[V7]
  rw[e,show mJ (V7 x p).2.f=mJ p.f++x.cells from Pq _ _];exact nC.mod X9 (λk hk e=>by have:=HM k hk;have:=h.lt;omega)
 ·have e:(V7 x p).2.f.length=p.f.length+1:=by simp[V7]
  rw[e];show p.f.length+1+p.r.length<=_;omega
end
section
theorem pL {c:Cx}{o:Oper}{S:Env}{w:World}{K:Env->World->Prop}{Q:Zj}{t:Nat}{v:Value}{x:Operand}(ho:o.op= .panic x)(hx:S.ev x=some (.iface t v))
  (k:Q (.panic [{v:=.iface t v,recovered:=false}]) S w):Zc c o S w K Q:=by
 unfold Zc;intro a hf;have e1:=hf.ev hx;unfold Oper.wp;have:(execOp a.eval o).run c.g.P w= .halt (.panic (.iface t v)) w:=by
  simp only[execOp,ho,e1];simp[Instr.panic,goPanic]
 rw[this];exact⟨S,hf,k⟩
def eQt:List PanicEntry:=[{v:=.iface 34 (.int .i64 31),recovered:=false}]
def PanTo (w:World)(r:Nat)(A:Option Addr)(ch:List PanicEntry)(w':World):Prop:=ch=eQt/\Mod (RdS r A) w w'
theorem RdS.trans {w w1 w2:World}{r:Nat}{A A1:Option Addr}(hm:Mod (RdS r A) w w1)(hv:Moved w A A1)(h:Mod (RdS r A1) w1 w2):Mod (RdS r A) w w2:=
 hm.trans h (λi hi=>by
  rcases hi with rfl | hi
  ·exact .inl (.inl rfl)
  ·rcases hv.rows i hi with h | h
   ·exact .inl (.inr h)
   ·exact .inr h)
theorem PanTo.step {w w1 w2:World}{r:Nat}{A A1:Option Addr}{ch:List PanicEntry}(h:PanTo w1 r A1 ch w2)(hm:Mod (RdS r A) w w1)(hv:Moved w A A1):PanTo w r A ch w2:=⟨h.1,RdS.trans hm hv h.2⟩
def sW (opd:Ps->Option (Nat×Ps)):Prop:=∀p a p',opd p=some (a,p')->p'.f.length+p'.r.length<=p.f.length+p.r.length/\p'.r.length<p.r.length
theorem mK (sym:List Nat)(p p1:Ps)(b:Bool)(h:Kn sym p=(b,p1)):p1.f=p.f/\p1.u=p.u/\p1.r.length<=p.r.length/\(b=true->p1.r.length+sym.length<=p.r.length):=by
 rw[vT] at h;have ht:=sT p.r;cases h;refine⟨rfl,rfl,?_,λhb=>?_⟩
 ·show List.length (if _ then _ else _)<=_;split
  ·rw[Y5];omega
  ·exact ht
 ·show List.length (if _ then _ else _)+_<=_;rw[Qf hb,Y5];have:=(bQN.1 hb).length_le;omega
theorem Pu {sym:List Nat}{op:Int}{opd:Ps->Option (Nat×Ps)}(hs:0<sym.length)(hl:sW opd):∀(m a:Nat)(p:Ps)(b:Nat)(p':Ps),f0 sym op opd m a p=some (b,p')->p'.f.length+p'.r.length<=p.f.length+p.r.length/\p'.r.length<=p.r.length
 | 0,a,p,b,p',h=>by cases h
 | m+1,a,p,b,p',h=>by
  unfold f0 at h;cases hk:Kn sym p with
  | mk t p1=>
   obtain⟨h1,h2,h3,h4⟩:=mK sym p p1 t hk;rw[hk] at h;cases t with
   | false=>cases h;rw[h1];omega
   | true=>
    simp only at h;cases ho:opd p1 with
    | none=>rw[ho] at h;cases h
    | some q=>
     obtain⟨d,p2⟩:=q;rw[ho] at h;simp only at h;obtain⟨h5,h6⟩:=hl p1 d p2 ho;have:=Pu hs hl m _ _ b p' h;simp only[Qy,Xs,JI] at this;have:=h4 rfl;rw[h1] at h5;omega
theorem FB {sym:List Nat}{op:Int}{opd:Ps->Option (Nat×Ps)}(hs:0<sym.length)(hl:sW opd):sW (Vu sym op opd):=by
 intro p b p' h;unfold Vu at h;cases ho:opd p with
 | none=>rw[ho] at h;cases h
 | some q=>
  obtain⟨a,p1⟩:=q;rw[ho] at h;simp only at h;have h1:=hl p a p1 ho;have h2:=Pu hs hl _ _ _ b p' h;omega
structure OpdC (L base r:Nat) (mp:Value) (fid:Nat) (args:List Value) (G:World->Option Addr->Prop) (opd:Ps->Option (Nat×Ps)):Prop where
 run:∀w A c p,Rd w base r A c mp p->G w A->p.r.length<L->FnP Tryz.prog fid args w (λv w'=>∃(a:Nat) (p':Ps),opd p=some (a,p')/\v= .int .i64 (a:Nat)/\RdTo w base r A mp p' w') (λch w'=>opd p=none/\PanTo w r A ch w')
 stay:∀w w' A A',G w A->Mod (RdS r A) w w'->Moved w A A'->G w' A'
 lim:sW opd
structure Est where
 a:Nat
 p:Ps
 A:Option Addr
 c:Nat
theorem eQu (L base r:Nat)(A:Option Addr)(c:Nat)(mp:Value)(p:Ps)(sym:List Nat)(op:Int)(G:World->Option Addr->Prop)(opd:Ps->Option (Nat×Ps))(w:World)
  (h:Rd w base r A c mp p) (hG:G w A) (hs:∀x∈sym,x<256) (Cv:0<sym.length) (hL:p.r.length<L) (H:OpdC L base r mp 198 [.pointer (some ⟨r,0,none⟩)] G opd):
  FnP Tryz.prog 196 [.pointer (some ⟨r,0,none⟩),.string (Qe sym),.int .i64 op,.func (.func 198) #[.pointer (some ⟨r,0,none⟩)] #[]] w
   (λv w'=>∃(a:Nat) (p':Ps),Vu sym op opd p=some (a,p')/\v= .int .i64 (a:Nat)/\RdTo w base r A mp p' w') (λch w'=>Vu sym op opd p=none/\PanTo w r A ch w'):=by
 refine aX (c:={O5 with cuts:=[]}) Qa Tryz.func196 rfl rfl rfl ?_;refine XP (H.run w A c p h hG hL) ?_ ?_
 rotate_left
 ·rintro ch w1 ⟨ho,hp⟩;refine⟨?_,hp⟩;unfold Vu;rw[ho]
 rintro v w1 ⟨a,p1,ho,rfl,A1,c1,h1,Zr,ll⟩;obtain⟨XL,Ke⟩:=H.lim p a p1 ho;have ZV:Vu sym op opd p=f0 sym op opd (p1.r.length+1) a p1:=by unfold Vu;rw[ho]
 refine loop Qa [9] (λs:Est=>[.int .i64 s.a]) (λs w'=>Rd w' base r s.A s.c mp s.p/\G w' s.A/\s.p.r.length<L/\Mod (RdS r A) w w'/\Moved w A s.A/\∃m,s.p.r.length<m/\f0 sym op opd m s.a s.p=Vu sym op opd p) (λs _=>s.p.r.length) ⟨a,p1,A1,c1⟩ rfl ⟨h1,H.stay w w1 A A1 hG Zr ll,by show p1.r.length<L;omega,Zr,ll,_,ez _,ZV.symm⟩ ?_;rintro⟨d,q,A2,c2⟩ w2 ⟨h2,nD,HN,XR,Kd,m,Mw,Z0⟩;simp only at h2 nD HN XR Kd Mw Z0;refine call (sU base r A2 c2 mp q sym w2 h2 hs) ?_;rintro v w3 ⟨rfl,h3,XE⟩;cases m with
 | zero=>omega
 | succ m=>
 unfold f0 at Z0;have xi:Mod (RdS r A2) w2 w3:=XE.mono (λi hi=>.inl (.inl hi));have dQ:=RdS.trans XR Kd xi;cases hk:Kn sym q with
 | mk t q1=>
  obtain⟨k1,k2,k3,k4⟩:=mK sym q q1 t hk;rw[hk] at h3 Z0;simp only at h3;cases t with
  | false=>
   refine Xv rfl ?_;exact⟨d,q1,Z0.symm,rfl,A2,c2,h3,dQ,Kd⟩
  | true=>
   refine Xe rfl ?_;simp only at Z0;have k5:=k4 rfl;have qu:=H.stay w2 w3 A2 A2 nD xi (Moved.refl _ _);refine XP (H.run w3 A2 c2 q1 h3 qu (by omega)) ?_ ?_
   rotate_left
   ·rintro ch w4 ⟨gp,hp⟩;rw[gp] at Z0;exact⟨Z0.symm,hp.step dQ Kd⟩
   rintro v w4 ⟨b,q2,gp,rfl,A4,c4,h4,X9,nE⟩;obtain⟨l1,l2⟩:=H.lim q1 b q2 gp;rw[gp] at Z0;simp only at Z0;have hlq:=h2.lim;rw[k1] at l1;have xj:=H.stay w3 w4 A2 A4 qu X9 nE;have bm:=RdS.trans dQ Kd X9;have xk:=Kd.trans nE dQ.size;refine call (pK base r A4 c4 mp q2 ⟨op,0,d,b⟩ w4 h4 (by omega)) ?_;rintro v w5 ⟨rfl,A5,c5,h5,XV,Yg⟩;refine⟨⟨q2.f.length,(V7 ⟨op,0,d,b⟩ q2).2,A5,c5⟩,rfl,⟨h5,H.stay w4 w5 A4 A5 xj XV Yg,?_,RdS.trans bm xk XV,xk.trans Yg bm.size,m,?_,Z0⟩,?_⟩
   ·show q2.r.length<L;omega
   ·show q2.r.length<m;omega
   ·show q2.r.length<q.r.length;omega
theorem eQv (L base r:Nat)(A:Option Addr)(c:Nat)(mp:Value)(p:Ps)(sym:List Nat)(op:Int)(x:Nat)(G:World->Option Addr->Prop)(opd:Ps->Option (Nat×Ps))(w:World)
  (h:Rd w base r A c mp p) (hG:G w A) (hs:∀x∈sym,x<256) (Cv:0<sym.length) (hL:p.r.length<L) (H:OpdC L base r mp 197 [.pointer (some ⟨x,0,none⟩)] G opd):
  FnP Tryz.prog 196 [.pointer (some ⟨r,0,none⟩),.string (Qe sym),.int .i64 op,.func (.func 197) #[] #[.pointer (some ⟨x,0,none⟩)]] w
   (λv w'=>∃(a:Nat) (p':Ps),Vu sym op opd p=some (a,p')/\v= .int .i64 (a:Nat)/\RdTo w base r A mp p' w') (λch w'=>Vu sym op opd p=none/\PanTo w r A ch w'):=by
 refine aX (c:={O5 with cuts:=[]}) Qa Tryz.func196 rfl rfl rfl ?_;refine XP (H.run w A c p h hG hL) ?_ ?_
 rotate_left
 ·rintro ch w1 ⟨ho,hp⟩;refine⟨?_,hp⟩;unfold Vu;rw[ho]
 rintro v w1 ⟨a,p1,ho,rfl,A1,c1,h1,Zr,ll⟩;obtain⟨XL,Ke⟩:=H.lim p a p1 ho;have ZV:Vu sym op opd p=f0 sym op opd (p1.r.length+1) a p1:=by unfold Vu;rw[ho]
 refine loop Qa [9] (λs:Est=>[.int .i64 s.a]) (λs w'=>Rd w' base r s.A s.c mp s.p/\G w' s.A/\s.p.r.length<L/\Mod (RdS r A) w w'/\Moved w A s.A/\∃m,s.p.r.length<m/\f0 sym op opd m s.a s.p=Vu sym op opd p) (λs _=>s.p.r.length) ⟨a,p1,A1,c1⟩ rfl ⟨h1,H.stay w w1 A A1 hG Zr ll,by show p1.r.length<L;omega,Zr,ll,_,ez _,ZV.symm⟩ ?_;rintro⟨d,q,A2,c2⟩ w2 ⟨h2,nD,HN,XR,Kd,m,Mw,Z0⟩;simp only at h2 nD HN XR Kd Mw Z0;refine call (sU base r A2 c2 mp q sym w2 h2 hs) ?_;rintro v w3 ⟨rfl,h3,XE⟩;cases m with
 | zero=>omega
 | succ m=>
 unfold f0 at Z0;have xi:Mod (RdS r A2) w2 w3:=XE.mono (λi hi=>.inl (.inl hi));have dQ:=RdS.trans XR Kd xi;cases hk:Kn sym q with
 | mk t q1=>
  obtain⟨k1,k2,k3,k4⟩:=mK sym q q1 t hk;rw[hk] at h3 Z0;simp only at h3;cases t with
  | false=>
   refine Xv rfl ?_;exact⟨d,q1,Z0.symm,rfl,A2,c2,h3,dQ,Kd⟩
  | true=>
   refine Xe rfl ?_;simp only at Z0;have k5:=k4 rfl;have qu:=H.stay w2 w3 A2 A2 nD xi (Moved.refl _ _);refine XP (H.run w3 A2 c2 q1 h3 qu (by omega)) ?_ ?_
   rotate_left
   ·rintro ch w4 ⟨gp,hp⟩;rw[gp] at Z0;exact⟨Z0.symm,hp.step dQ Kd⟩
   rintro v w4 ⟨b,q2,gp,rfl,A4,c4,h4,X9,nE⟩;obtain⟨l1,l2⟩:=H.lim q1 b q2 gp;rw[gp] at Z0;simp only at Z0;have hlq:=h2.lim;rw[k1] at l1;have xj:=H.stay w3 w4 A2 A4 qu X9 nE;have bm:=RdS.trans dQ Kd X9;have xk:=Kd.trans nE dQ.size;refine call (pK base r A4 c4 mp q2 ⟨op,0,d,b⟩ w4 h4 (by omega)) ?_;rintro v w5 ⟨rfl,A5,c5,h5,XV,Yg⟩;refine⟨⟨q2.f.length,(V7 ⟨op,0,d,b⟩ q2).2,A5,c5⟩,rfl,⟨h5,H.stay w4 w5 A4 A5 xj XV Yg,?_,RdS.trans bm xk XV,xk.trans Yg bm.size,m,?_,Z0⟩,?_⟩
   ·show q2.r.length<L;omega
   ·show q2.r.length<m;omega
   ·show q2.r.length<q.r.length;omega
end
section
theorem Jz {p:Prop}{v v':Value}{K:Value->Prop}(hp:p)(h:v=v')(k:K v'):i6 p v K:=by unfold i6;exact⟨hp,by rw[h];exact k⟩
theorem MapAt.mod {α:Type}{kv:α->Value}{S:Nat->Prop}{w w':World}{r:Nat}{m:List (α×Value)}(h:MapAt kv w r m)(k:Mod S w w')(hn:¬S r):MapAt kv w' r m:=by
 obtain⟨bs,ck,hl,hb⟩:=h.ex;exact⟨bs,ck,hl,(k.block r (iW.1 hb).1 hn).trans hb⟩
theorem vU {α:Type} [DecidableEq α]{kv:α->Value}{c:Cx}{o:Oper}{S:Env}{w:World}{K:Env->World->Prop}{Q:Zj}{t ke e:Nat}{r rk re:TyRow}{x y:Operand}{q:Nat}{m:List (α×Value)}{a:α}{v:Value}{b:Bool}(hg:c.g.Ok)
  (ho:o.op= .lookup t x y true) (hr:QX c.g.tys t=some r) (hd:r.d= .map ke e) (bB:QX c.g.tys ke=some rk) (Zb:QX c.g.tys e=some re) (hk:KeyV rk.d kv)
  (hx:S.ev x=some (.map (some q))) (hy:S.ev y=some (kv a)) (hm:MapAt kv w q m) (hv:(XJ a m).getD re.z=v) (hb:(XJ a m).isSome=b) (k:Xn c S o.dst (.v (.tuple #[v,.bool b])) (λS=>K S w)):Zc c o S w K Q:=by
 subst hv;subst hb;exact cQz hg ho hr hd bB Zb hk hx hy hm k
section
variable (ix:List Nat->Option Nat) (n:Nat)
theorem FC {p p1:Ps}(h:Kn [33] p=(true,p1)):cy ix (n+1) p=match cy ix n p1 with
  | none=>none
  | some (a,p2)=>some (V7 ⟨3,0,a,0⟩ p2):=by rw[cy,h]<;>rfl
theorem FD {p p1 p2:Ps}(h:Kn [33] p=(false,p1))(h2:Kn [40] p1=(true,p2)):cy ix (n+1) p=match gQ ix n p2 with
  | none=>none
  | some (a,p3)=>match Kn [41] p3 with
   | (true,p4)=>some (a,p4)
   | (false,_)=>none:=by rw[cy,h];simp only;rw[h2]<;>rfl
theorem FE {p p1 p2:Ps}(h:Kn [33] p=(false,p1))(h2:Kn [40] p1=(false,p2)):cy ix (n+1) p=if Vt p2.r=0 then none else
   if p2.r.take (Vt p2.r)=Yv then some (V7 ⟨1,0,0,0⟩ {p2 with r:=p2.r.drop (Vt p2.r)})else if p2.r.take (Vt p2.r)=aC then some (V7 ⟨0,0,0,0⟩ {p2 with r:=p2.r.drop (Vt p2.r)})else
    some (V7 ⟨2,((ix (p2.r.take (Vt p2.r))).getD 0:Nat),0,0⟩ {p2 with r:=p2.r.drop (Vt p2.r),u:=p2.u||(ix (p2.r.take (Vt p2.r))).isNone}):=by
 rw[cy,h];simp only;rw[h2]<;>rfl
end
theorem FF (ix:List Nat->Option Nat):∀n,sW (cy ix n)
 | 0=>λp a p' h=>by cases h
 | n+1=>λp a p' h=>by
  have ih:=FF ix n;cases hk:Kn [33] p with
  | mk t p1=>
   obtain⟨k1,_,k3,k4⟩:=mK _ p p1 t hk;cases t with
   | true=>
    rw[FC ix n hk] at h;cases ho:cy ix n p1 with
    | none=>rw[ho] at h;cases h
    | some q=>
     obtain⟨d,p2⟩:=q;rw[ho] at h;cases h;have:=ih p1 d p2 ho;have:=k4 rfl;rw[k1] at*;simp only[Qy,Xs,JI] at*;omega
   | false=>
    cases VX:Kn [40] p1 with
    | mk t2 p2=>
     obtain⟨j1,_,j3,j4⟩:=mK _ p1 p2 t2 VX;cases t2 with
     | true=>
      rw[FD ix n hk VX] at h;cases ho:gQ ix n p2 with
      | none=>rw[ho] at h;cases h
      | some q=>
       obtain⟨d,p3⟩:=q;rw[ho] at h;simp only at h;have hw:sW (gQ ix n):=FB (by decide) (FB (by decide) ih);have:=hw p2 d p3 ho;cases jw:Kn [41] p3 with
       | mk t3 p4=>
        obtain⟨i1,_,i3,i4⟩:=mK _ p3 p4 t3 jw;rw[jw] at h;cases t3 with
        | false=>cases h
        | true=>
         cases h;have:=j4 rfl;have:=i4 rfl;rw[i1];rw[j1,k1] at*;omega
     | false=>
      rw[FE ix n hk VX] at h;split at h
      ·cases h
      rename_i hn;have ZO:=Pj p2.r;have key:(p2.r.drop (Vt p2.r)).length+1<=p2.r.length:=by rw[Y5];omega
      rw[j1,k1] at*;split at h
      ·cases h;simp only[Qy,Xs,JI];rw[j1,k1];omega
      split at h
      ·cases h;simp only[Qy,Xs,JI];rw[j1,k1];omega
      ·cases h;simp only[Qy,Xs,JI];rw[j1,k1];omega
def GM (r q:Nat)(m:List (ByteArray×Value))(w:World)(A:Option Addr):Prop:=MapAt V8 w q m/\q≠r/\¬Qk A q
theorem GM.stay {r q:Nat}{m:List (ByteArray×Value)}{w w':World}{A A':Option Addr}(h:GM r q m w A)(hm:Mod (RdS r A) w w')(hv:Moved w A A'):GM r q m w' A':=
 ⟨h.1.mod hm (λe=>e.elim h.2.1 h.2.2),h.2.1,λhr=>(hv.rows q hr).elim h.2.2 (λZO=>by have:=h.1.lt;omega)⟩
def GB (r q x:Nat)(m:List (ByteArray×Value))(w:World)(A:Option Addr):Prop:=GM r q m w A/\Blk w x 220 [.pointer (some ⟨r,0,none⟩)]/\x≠r/\¬Qk A x
theorem GB.stay {r q x:Nat}{m:List (ByteArray×Value)}{w w':World}{A A':Option Addr}(h:GB r q x m w A)(hm:Mod (RdS r A) w w')(hv:Moved w A A'):GB r q x m w' A':=
 ⟨h.1.stay hm hv,h.2.1.mod hm (λe=>e.elim h.2.2.1 h.2.2.2),h.2.2.1,λhr=>(hv.rows x hr).elim h.2.2.2 (λZO=>by have:=h.2.1.lt;omega)⟩
theorem eQw {L base r q x:Nat}{m:List (ByteArray×Value)}{mp:Value}{opd:Ps->Option (Nat×Ps)}(H:OpdC L base r mp 198 [.pointer (some ⟨r,0,none⟩)] (GM r q m) opd):
  OpdC L base r mp 197 [.pointer (some ⟨x,0,none⟩)] (GB r q x m) (Vu [38,38] 4 opd):=by
 refine⟨λw A c p h hG hL=>?_,λw w' A A' h hm hv=>h.stay hm hv,FB (by decide) H.lim⟩;refine aX (c:={dQM with cuts:=[]}) Qa Tryz.func197 rfl rfl rfl ?_;refine QC hG.2.1 rfl ?_;refine QC hG.2.1 rfl ?_;refine XP (eQu L base r A c mp p [38,38] 4 (GM r q m) opd w h hG.1 (by decide) (by decide) hL H) ?_ ?_
 ·rintro v w1 ⟨a,p',h1,rfl,h2⟩;exact⟨a,p',h1,rfl,h2⟩
 ·rintro ch w1 h1;exact h1
theorem Pv (L base r:Nat)(A:Option Addr)(c:Nat)(p:Ps)(q:Nat)(m:List (ByteArray×Value))(mp:Value)(opd:Ps->Option (Nat×Ps))(w:World)(h:Rd w base r A c mp p)(hG:GM r q m w A)(hL:p.r.length<L)
  (H:OpdC L base r mp 198 [.pointer (some ⟨r,0,none⟩)] (GM r q m) opd):
  FnP Tryz.prog 141 [.pointer (some ⟨r,0,none⟩)] w (λv w'=>∃(a:Nat) (p':Ps),Vu [124,124] 5 (Vu [38,38] 4 opd) p=some (a,p')/\v= .int .i64 (a:Nat)/\RdTo w base r A mp p' w') (λch w'=>Vu [124,124] 5 (Vu [38,38] 4 opd) p=none/\PanTo w r A ch w'):=by
 refine aX (c:={cQ9 with cuts:=[]}) Qa Tryz.func141 rfl rfl rfl ?_;refine new (λw1 Qd Q3 Qh=>?_);refine QC Qh rfl ?_;have Q5:=h.lt;have lP:=h.top;have eX:Mod (RdS r A) w w1:=Mod.of_ext _ Qd;have hn:¬Qk A w.heap.size:=λhr=>by have:=(h.own.rows _ hr).2;omega
 refine XP (eQv L base r A c mp p [124,124] 5 w.heap.size (GB r q w.heap.size m) (Vu [38,38] 4 opd) w1 (h.ext Qd) ⟨hG.stay eX (Moved.refl _ _),Qh,by omega,hn⟩ (by decide) (by decide) hL (eQw H)) ?_ ?_
 ·rintro v w2 ⟨a,p',h1,rfl,h2⟩;exact⟨a,p',h1,rfl,h2.step eX (Moved.refl _ _)⟩
 ·rintro ch w2 ⟨h1,h2⟩;exact⟨h1,h2.step eX (Moved.refl _ _)⟩
end
section
def Pw (ix:List Nat->Option Nat)(m:List (ByteArray×Value)):Prop:=∀l:List Nat,(∀x∈l,x<256)->XJ (Qe l) m=(ix l).map (λv:Nat=>Value.int .i64 v)
theorem Px (ix:List Nat->Option Nat)(base r q:Nat)(m:List (ByteArray×Value))(Km:Pw ix m):∀n,OpdC n base r (.map (some q)) 198 [.pointer (some ⟨r,0,none⟩)] (GM r q m) (cy ix n)
 | 0=>⟨λw A c p _ _ h=>Xd h (by omega),λw w' A A' h hm hv=>h.stay hm hv,FF ix 0⟩
 | n+1=>by
  have ih:=Px ix base r q m Km n;refine⟨λw A c p h hG hL=>?_,λw w' A A' h hm hv=>h.stay hm hv,FF ix (n+1)⟩;refine aX (c:={dQN with cuts:=[]}) Qa Tryz.func198 rfl rfl rfl ?_;refine call (sU base r A c _ p [33] w h (by decide)) ?_;rintro v w1 ⟨rfl,h1,Zr⟩;have ub:Mod (RdS r A) w w1:=Zr.mono (λi hi=>.inl (.inl hi));have UY:=hG.stay ub (Moved.refl _ _);cases hk:Kn [33] p with
  | mk t p1=>
   obtain⟨k1,_,k3,k4⟩:=mK _ p p1 t hk;rw[hk] at h1;simp only at h1;cases t with
   | true=>
    refine Xe rfl ?_;have hl:=k4 rfl;simp only[Xs,JI] at hl;have Yp:=FC ix n hk;refine XP (ih.run w1 A c p1 h1 UY (by omega)) ?_ ?_
    rotate_left
    ·rintro ch w2 ⟨ho,hp⟩;rw[ho] at Yp;exact⟨Yp,hp.step ub (Moved.refl _ _)⟩
    rintro v w2 ⟨a,p2,ho,rfl,A2,c2,h2,XR,Kd⟩;rw[ho] at Yp;have Ke:=(ih.lim p1 a p2 ho).1;have lm:=h.lim;rw[k1] at Ke;refine call (pK base r A2 c2 _ p2 ⟨3,0,a,0⟩ w2 h2 (by omega)) ?_;rintro v w3 ⟨rfl,h3⟩;exact⟨p2.f.length,_,Yp,rfl,(h3.step XR Kd).step ub (Moved.refl _ _)⟩
   | false=>
    refine Xv rfl ?_;refine call (sU base r A c _ p1 [40] w1 h1 (by decide)) ?_;rintro v w2 ⟨rfl,h2,XR⟩;have UZ:Mod (RdS r A) w1 w2:=XR.mono (λi hi=>.inl (.inl hi));have Cw:=RdS.trans ub (Moved.refl _ _) UZ;have nD:=UY.stay UZ (Moved.refl _ _);cases VX:Kn [40] p1 with
    | mk t2 p2=>
     obtain⟨j1,_,j3,j4⟩:=mK _ p1 p2 t2 VX;rw[VX] at h2;simp only at h2;cases t2 with
     | true=>
      refine Xe rfl ?_;have hl:=j4 rfl;simp only[Xs,JI] at hl;have Yp:=FD ix n hk VX;refine XP (Pv n base r A c p2 q m _ (cy ix n) w2 h2 nD (by omega) ih) ?_ ?_
      rotate_left
      ·rintro ch w3 ⟨ho,hp⟩;rw[show gQ ix n p2=none from ho] at Yp;exact⟨Yp,hp.step Cw (Moved.refl _ _)⟩
      rintro v w3 ⟨a,p3,ho,rfl,A3,c3,h3,XE,aN⟩;rw[show gQ ix n p2=some (a,p3) from ho] at Yp;have dQ:=RdS.trans Cw (Moved.refl _ _) XE;have U0:=aN.back Cw.size;simp only at Yp;refine call (sU base r A3 c3 _ p3 [41] w3 h3 (by decide)) ?_;rintro v w4 ⟨rfl,h4,X9⟩;have Cy:Mod (RdS r A3) w3 w4:=X9.mono (λi hi=>.inl (.inl hi));have bm:=RdS.trans dQ U0 Cy;cases jw:Kn [41] p3 with
      | mk t3 p4=>
       rw[jw] at h4 Yp;simp only at h4;cases t3 with
       | true=>
        refine Xv rfl ?_;exact⟨a,p4,Yp,rfl,A3,c3,h4,bm,U0⟩
       | false=>
        refine Xe rfl ?_;exact pL rfl rfl ⟨Yp,rfl,bm⟩
     | false=>
      refine Xv rfl ?_;have Yp:=FE ix n hk VX;have hlp:=h2.lim;have h8:=h2.b8;have hM:∀w',Ext w2 w'->Mod (RdS r A) w w':=λw' hE=>RdS.trans Cw (Moved.refl _ _) (Mod.of_ext _ hE)
      refine Qp h2.blk rfl ?_;refine call (Pk p2.r w2 h8 (by omega)) ?_;rintro v w3 ⟨rfl,Qi⟩;have h3:=h2.ext Qi;have qu:=nD.stay (Mod.of_ext _ Qi) (Moved.refl _ _);have dQ:=hM w3 Qi;have ZO:=Pj p2.r;by_cases hn:Vt p2.r=0
      ·refine JN (by omega) ?_;rw[Qf hn] at Yp;exact pL rfl rfl ⟨Yp,rfl,dQ⟩
      refine XW (by omega) ?_;rw[if_neg hn] at Yp;generalize hd:Vt p2.r=d at*;refine Qp h3.blk rfl ?_;refine Jz (v':=.string (Qe (p2.r.take d))) ⟨by omega,by omega,by rw[XC];omega⟩ ?_ ?_
      ·simp only[fT,Int.toNat_zero,Vc,vk]
      refine Qp h3.blk rfl ?_;refine Jz (v':=.string (Qe (p2.r.drop d))) ⟨by omega,by rw[XC];omega,by omega⟩ ?_ ?_
      ·simp only[fT,Vc,XC,sk]
      refine XQ h3.blk (by simp) (λw4 X9 Q6=>?_);have Cy:Mod (RdS r A) w3 w4:=X9.mono (λi hi=>.inl (.inl hi));have bm:=RdS.trans dQ (Moved.refl _ _) Cy;have xj:=qu.stay Cy (Moved.refl _ _);have YI:(p2.r.drop d).length+d=p2.r.length:=by rw[Y5];omega
      have h4:Rd w4 base r A c (.map (some q)) {p2 with r:=p2.r.drop d}:=⟨Q6,h3.own.mod X9 (λi hi e=>by subst e;exact h3.nrow hi),h3.lt,X2 h3.top X9.size,B8.drop h8 d,by show p2.f.length+(p2.r.drop d).length<=_;omega⟩
      have HO:=B8.take h8 d;generalize hwd:p2.r.take d=word at*;have e1:((Qe word=(⟨#[116,114,117,101]⟩:ByteArray))↔word=Yv):=⟨λh=>Z6 HO (by decide) h,λh=>by rw[h];rfl⟩
      have e2:((Qe word=(⟨#[102,97,108,115,101]⟩:ByteArray))↔word=aC):=⟨λh=>Z6 HO (by decide) h,λh=>by rw[h];rfl⟩
      by_cases h6:word=Yv
      ·rw[Qf h6] at Yp;refine Zd (e1.2 h6) ?_;refine call (pK base r A c _ _ ⟨1,0,0,0⟩ w4 h4 (by show p2.f.length+(p2.r.drop d).length+1<=_;omega)) ?_;rintro v w5 ⟨rfl,h5⟩;exact⟨_,_,Yp,rfl,h5.step bm (Moved.refl _ _)⟩
      rw[if_neg h6] at Yp;refine Xx (λh=>h6 (e1.1 h)) ?_;by_cases h7:word=aC
      ·rw[Qf h7] at Yp;refine Zd (e2.2 h7) ?_;refine call (pK base r A c _ _ ⟨0,0,0,0⟩ w4 h4 (by show p2.f.length+(p2.r.drop d).length+1<=_;omega)) ?_;rintro v w5 ⟨rfl,h5⟩;exact⟨_,_,Yp,rfl,h5.step bm (Moved.refl _ _)⟩
      rw[if_neg h7] at Yp;refine Xx (λh=>h7 (e2.1 h)) ?_;refine QC h4.blk rfl ?_;have ao:=Km word HO;refine vU (kv:=V8) (a:=Qe word) (v:=.int .i64 ((ix word).getD 0:Nat)) (b:=(ix word).isSome) Qa rfl rfl rfl rfl rfl oQi rfl rfl xj.1 (by rw[ao];cases ix word<;>rfl) (by rw[ao];cases ix word<;>rfl) ?_;refine Qp h4.blk rfl ?_;have fin:∀w5 u,Mod (·=r) w4 w5->Blk w5 r 222 [.map (some q),.string (Qe (p2.r.drop d)),.slice A p2.f.length c,.bool u]->u=(p2.u||(ix word).isNone)->Rd w5 base r A c (.map (some q)) {p2 with r:=p2.r.drop d,u:=p2.u||(ix word).isNone}/\Mod (RdS r A) w w5:=λw5 u XV QL hu=>by
       subst hu;exact⟨⟨QL,h4.own.mod XV (λi hi e=>by subst e;exact h4.nrow hi),h4.lt,X2 h4.top XV.size,h4.b8,h4.lim⟩,RdS.trans bm (Moved.refl _ _) (XV.mono (λi hi=>.inl (.inl hi)))⟩
      refine Kq (λhu=>?_) (λhu=>?_)
      ·refine XQ h4.blk (by simp) (λw5 XV QL=>?_);obtain⟨h5,HP⟩:=fin w5 true XV QL (by rw[show p2.u=true from hu];rfl);refine call (pK base r A c _ _ ⟨2,((ix word).getD 0:Nat),0,0⟩ w5 h5 (by show p2.f.length+(p2.r.drop d).length+1<=_;omega)) ?_;rintro v w6 ⟨rfl,h6⟩;exact⟨_,_,Yp,rfl,h6.step HP (Moved.refl _ _)⟩
      ·refine XQ h4.blk (by simp) (λw5 XV QL=>?_);obtain⟨h5,HP⟩:=fin w5 (!(ix word).isSome) XV QL (by rw[show p2.u=false from hu];cases ix word<;>rfl);refine call (pK base r A c _ _ ⟨2,((ix word).getD 0:Nat),0,0⟩ w5 h5 (by show p2.f.length+(p2.r.drop d).length+1<=_;omega)) ?_;rintro v w6 ⟨rfl,h6⟩;exact⟨_,_,Yp,rfl,h6.step HP (Moved.refl _ _)⟩
end
section
abbrev vV:=Exit->Act->World->Prop
def gR (P:Program):List Code->vV->Act->World->Prop
 | [],G,a,w=>G .normal a w
 | y::ys,G,a,w=>y.wp P (λe a w=>match e with
  | .normal=>gR P ys G a w
  | e=>G e a w) a w
@[irreducible] def Wb (c:Cx) (l:List Code) (S:Env) (w:World) (G:vV):Prop:=∀a,Fits c.N S a->gR c.g.P l G a w
@[irreducible] def WB (c:Cx) (S:Env) (w:World) (e:Exit) (G:vV):Prop:=∀a,Fits c.N S a->G e a w
section
variable {c:Cx} {S:Env} {w:World} {G:vV}
theorem f9 (h:WB c S w .normal G):Wb c [] S w G:=by unfold Wb;unfold WB at h;exact h
theorem ZQ {x y:Code}{l:List Code}(h:Wb c (x::y::l) S w G):Wb c (.seq x y::l) S w G:=by
 unfold Wb at*;intro a hf;have h1:=h a hf;unfold gR at h1;unfold gR;refine wp_seq (wp_mono h1 (λe a w hq=>?_));cases e<;>first | exact hq | (unfold gR at hq;exact hq)
theorem ZB (hg:c.g.Ok){x:Code}{l:List Code}(h:Vj c x S w (λe S w=>match e with
  | .normal=>Wb c l S w G
  | e=>WB c S w e G)):Wb c (x::l) S w G:=by
 unfold Wb;intro a hf;unfold gR;refine wp_mono (ja hg x S w _ a h hf) (λe a w ⟨S',Q8,hq⟩=>?_);cases e with
 | normal=>simp only at hq;unfold Wb at hq;exact hq a Q8
 | exit i=>simp only at hq;unfold WB at hq;exact hq a Q8
 | goto i=>simp only at hq;unfold WB at hq;exact hq a Q8
 | ret=>simp only at hq;unfold WB at hq;exact hq a Q8
 | panic i=>simp only at hq;unfold WB at hq;exact hq a Q8
 | outgrown=>simp only at hq;unfold WB at hq;exact hq a Q8
theorem eQx {t:Nat}{x y:Code}{l:List Code}{b:Bool}(ht:S.get t=some (.bool b))(hb:b=true)(h:Wb c (x::l) S w G):Wb c (.cond (.tmp t) x y::l) S w G:=by
 subst hb;unfold Wb at*;intro a hf;have h1:=h a hf;unfold gR at*;have:=hf.get ht;exact wp_cond_true (by simp[Act.eval,this]) h1
theorem eQy {t:Nat}{x y:Code}{l:List Code}{b:Bool}(ht:S.get t=some (.bool b))(hb:b=false)(h:Wb c (y::l) S w G):Wb c (.cond (.tmp t) x y::l) S w G:=by
 subst hb;unfold Wb at*;intro a hf;have h1:=h a hf;unfold gR at*;have:=hf.get ht;exact wp_cond_false (by simp[Act.eval,this]) h1
theorem vW (hg:c.g.Ok){id:Nat}{ops:Array Oper}{l:List Code}{o:Oper}{f:Operand}{xs:Array Operand}{ts:Array TypeId}(Zv:ops.toList=ops.toList.dropLast++ [o])(ho:o.op= .defer ⟨.value f,xs,ts⟩)(KG:o.guard=none)(iF:o.dst=none)
  (h:YN {c with named:=1000000} ops.toList ops.toList.dropLast S w (λS w=>∃fv cap first asx,S.ev f=some (.func fv first cap)/\pA S xs.toList=some asx/\Wb {c with N:=⟨c.N.n,⟨.fn fv cap,first++asx.toArray⟩::c.N.ds⟩} l S w G) (λe S w=>WB c S w e G)):Wb c (.region id ops false::l) S w G:=by
 unfold Wb;intro a hf;unfold gR;refine wp_region_list ?_;have h1:=kh (c:={c with named:=1000000}) hg ops.toList ops.toList.dropLast S w a h hf;have key:∀(Q:vV) (m1 m2:List Oper) (a:Act) (w:World),wpList c.g.P ops (λe a w=>match e with
   | .normal=>wpList c.g.P ops Q m2 a w
   | e=>Q e a w) m1 a w->wpList c.g.P ops Q (m1++m2) a w:=by
  intro Q m1;induction m1 with
  | nil=>intro m2 a w h;exact h
  | cons o1 m1 ih=>
   intro m2 a w h;rw[YK];unfold wpList at h ⊢;split
   ·rename_i hw;rw[Qf hw] at h;rcases h with h | ⟨h1,a0,w0,h2⟩
    ·refine .inl ?_;have h2:=Oper.wp_mono (K':=wpList c.g.P ops Q (m1++m2)) (λa w=>ih m2 a w) h;unfold Oper.wp at h2 ⊢;generalize (execOp a.eval o1).run c.g.P w=r at*;cases r with
     | ok n w'=>cases n<;>simp only[Oper.upon] at h2 ⊢ <;> exact h2
     | halt x w'=>cases x<;>simp only[Oper.upon] at h2 ⊢ <;> exact h2
    ·exact .inr ⟨h1,a0,w0,h2⟩
   ·rename_i hw;rw[if_neg hw] at h;exact ih m2 _ _ h
 rw[Zv];refine key _ ops.toList.dropLast [o] a w ?_;have e0:ops.toList.toArray=ops:=by simp
 rw[e0] at h1;refine mH (λe a w hq=>?_) h1;cases e with
 | normal=>
  obtain⟨S',Q8,fv,cap,first,asx,hfv,has,hq⟩:=hq;show wpList _ _ _ [o] _ _;unfold wpList;rw[Qf (by simp[Region.wanted,KG])];refine .inl ?_;have fB:=Q8.ev hfv;have hxs:(xs.map a.eval)=asx.toArray:=by
   apply Array.ext';rw[NJ];exact Ak (ρ:=a.eval) (λx v h=>Q8.ev h) _ _ has
  unfold Oper.wp;have Jj:(execOp a.eval o).run c.g.P w= .ok (.defer ⟨.fn fv cap,first++asx.toArray⟩) w:=by
   simp only[execOp,ho,resolve,fB,hxs];simp[Deferred.ofValue]
  rw[Jj,Oper.upon_defer];unfold wpList;unfold Wb at hq;refine hq _ ⟨?_,?_,?_⟩
  ·rw[iF];exact Q8.size
  ·rw[iF];show _::a.defers=_;rw[Q8.defers]
  ·rw[iF];exact Q8.has
 | exit i=>obtain⟨S',Q8,hq⟩:=hq;unfold WB at hq;exact hq a Q8
 | goto i=>obtain⟨S',Q8,hq⟩:=hq;unfold WB at hq;exact hq a Q8
 | ret=>obtain⟨S',Q8,hq⟩:=hq;unfold WB at hq;exact hq a Q8
 | panic i=>obtain⟨S',Q8,hq⟩:=hq;unfold WB at hq;exact hq a Q8
 | outgrown=>obtain⟨S',Q8,hq⟩:=hq;unfold WB at hq;exact hq a Q8
end
def sX (R:Value->World->Prop):Ending->World->Prop
 | .returned v,w=>R v w
 | _,_=>False
theorem vX {c:Cx}(hg:c.g.Ok){f:FuncId}{fn:Func}{x:Code}{args:List Value}{w:World}{R:Value->World->Prop}(hf:c.g.P.funcs[f]? =some fn)(hb:fn.body=some x)(hN:⟨fn.ntmps,[]⟩=c.N)
  (hl:Nat.ble args.length c.N.n=true) (h:ki [0,1,2,3,4,5,6,7,8,9,10,11,12,13,14,15] args [] (λS=>Wb c [x] S w (bodyPostD c.g.P fn (sX R)))):Fn c.g.P f args w R:=by
 unfold Fn;have _:=hg;obtain⟨S,hS,hx⟩:=vG _ args [] 0 args (λj t ht=>by
  match j,ht with
  | 0,ht | 1,ht | 2,ht | 3,ht | 4,ht | 5,ht | 6,ht | 7,ht | 8,ht | 9,ht | 10,ht | 11,ht | 12,ht | 13,ht | 14,ht | 15,ht=>simp at ht;omega
  | j+16,ht=>simp at ht) (by simp) (λk x hk=>by simp[Env.ent] at hk) h
 have hn:fn.ntmps=c.N.n:=QO Slots.n hN;have J9:=fZ (N:=c.N.n) args (gK hl) S hS;rw[<-hn,hN] at J9;unfold Wb at hx;have h1:=hx _ J9;refine(calls_of_wp_defers hf hb (R:=sX R) ?_).mono (λe w' he=>by cases e<;>exact he);unfold gR at h1;refine wp_mono h1 (λe a w hq=>?_);cases e<;>first | exact hq | (unfold gR at hq;exact hq)
section
variable {c:Cx} {S:Env} {w:World}
theorem jh (hg:c.g.Ok){fn:Func}{R:Value->World->Prop}{e:Exit}(hN:c.N.ds=[])(he:e= .ret∨e= .normal)(h:dz c S w R fn.results.toList []):WB c S w e (bodyPostD c.g.P fn (sX R)):=by
 unfold WB;intro a hf;obtain⟨v,h1,h2⟩:=jb hg hf h;have hd:a.defers=[]:=by rw[hf.defers,hN]
 rcases he with rfl | rfl <;>
 ·unfold bodyPostD;simp only;rw[hd];exact⟨v,h1,h2⟩
theorem Py (hg:c.g.Ok){fn:Func}{R:Value->World->Prop}{u:FrameMode}{a:Act}{F:FuncId}{asx cap:Array Value}(hN:c.N.ds=[⟨.fn (.func F) cap,asx⟩])(hF:fV F c.g.fns=true)(hu:u≠ .run)(hf:Fits c.N S a){args:Array Value}(hA:asx++cap=args)
  (h:CallsD c.g.P F args u w (λe u' w'=>∃v,e= .returned v/\settle u'= .returning/\dz c S w' R fn.results.toList [])):Leaves c.g.P fn a.tmps (sX R) a.defers u w:=by
 subst hA;rw[hf.defers,hN];refine leaves_cons (f:=F) (args:=asx++cap) hu ?_ ?_
 ·have hc:=hg.fns F (Ai hF);simp only[invoke];rw[Aq hc]
 ·refine h.mono (λe u' w' he=>?_);obtain⟨v,rfl,hs,hk⟩:=he;simp only;rw[hs];obtain⟨v,h1,h2⟩:=jb hg hf hk;exact⟨v,h1,h2⟩
theorem ga (hg:c.g.Ok){fn:Func}{R:Value->World->Prop}{e:Exit}{F:FuncId}{asx cap:Array Value}(hN:c.N.ds=[⟨.fn (.func F) cap,asx⟩])(hF:fV F c.g.fns=true)(he:e= .ret∨e= .normal){args:Array Value}(hA:asx++cap=args)
  (h:CallsD c.g.P F args .returning w (λe u' w'=>∃v,e= .returned v/\settle u'= .returning/\dz c S w' R fn.results.toList [])):WB c S w e (bodyPostD c.g.P fn (sX R)):=by
 unfold WB;intro a hf;have:=Py hg hN hF (by simp) hf hA h;rcases he with rfl | rfl<;>exact this
theorem aD (hg:c.g.Ok){fn:Func}{R:Value->World->Prop}{ch:List PanicEntry}{F:FuncId}{asx cap:Array Value}(hN:c.N.ds=[⟨.fn (.func F) cap,asx⟩])(hF:fV F c.g.fns=true){args:Array Value}(hA:asx++cap=args)
  (h:CallsD c.g.P F args (.panicking ch) w (λe u' w'=>∃v,e= .returned v/\settle u'= .returning/\dz c S w' R fn.results.toList [])):WB c S w (.panic ch) (bodyPostD c.g.P fn (sX R)):=by
 unfold WB;intro a hf;exact Py hg hN hF (by simp) hf hA h
end
theorem eQz {c:Cx}(hg:c.g.Ok){f:FuncId}{fn:Func}{x:Code}{args:List Value}{w:World}{R:Value->World->Prop}(u:FrameMode)(hf:c.g.P.funcs[f]? =some fn)(hb:fn.body=some x)(hN:⟨fn.ntmps,[]⟩=c.N)
  (hl:Nat.ble args.length c.N.n=true) (h:ki [0,1,2,3,4,5,6,7,8,9,10,11,12,13,14,15] args [] (λS=>Vj c x S w (Ar c fn.results.toList R))):CallsD c.g.P f args.toArray u w (λe u' w'=>u'=u/\∃v,e= .returned v/\R v w'):=by
 obtain⟨S,hS,hx⟩:=vG _ args [] 0 args (λj t ht=>by
  match j,ht with
  | 0,ht | 1,ht | 2,ht | 3,ht | 4,ht | 5,ht | 6,ht | 7,ht | 8,ht | 9,ht | 10,ht | 11,ht | 12,ht | 13,ht | 14,ht | 15,ht=>simp at ht;omega
  | j+16,ht=>simp at ht) (by simp) (λk x hk=>by simp[Env.ent] at hk) h
 refine callsD_of_wp hf hb ?_;have hn:fn.ntmps=c.N.n:=QO Slots.n hN;have J9:=fZ (N:=c.N.n) args (gK hl) S hS;rw[<-hn,hN] at J9;refine wp_mono (ja hg x S w _ _ hx J9) (λe a w' hq=>?_);obtain⟨S',Q8,hq⟩:=hq;have ZK:a.defers=[]:=by rw[Q8.defers,<-hN]
 cases e with
 | normal=>obtain⟨v,h1,h2⟩:=jb hg Q8 hq;exact⟨ZK,v,h1,v,rfl,h2⟩
 | ret=>obtain⟨v,h1,h2⟩:=jb hg Q8 hq;exact⟨ZK,v,h1,v,rfl,h2⟩
 | exit i=>exact hq.elim
 | goto l=>exact hq.elim
 | panic ch=>exact hq.elim
 | outgrown=>exact hq.elim
end
section
theorem FG {c:Cx}(hg:c.g.Ok){o:Oper}{S:Env}{w:World}{K:Env->World->Prop}{Q:Zj}{x:Operand}{tx t:Nat}{k:IntKind}{v:Value}{r:TyRow}(ho:o.op= .typeAssert x tx t true)(hr:QX c.g.tys t=some r)(hd:r.d= .int k)(hx:S.ev x=some (.iface t v))
  (kk:Xn c S o.dst (.v (.tuple #[v,.bool true])) (λS=>K S w)):Zc c o S w K Q:=by
 have Xc:=(hg.row hr).1;rw[hd] at Xc;refine JJ (w':=w) (v:=.tuple #[v,.bool true]) (λa hf=>?_) kk;have e1:=hf.ev hx;simp only[execOp,ho,e1];simp[Instr.typeAssert,ZX Xc]
theorem eQA {P:Program}{t:TypeId}{ms:Array (String×TypeId)}{w:World}(hu:P.underlying t=some (.interface ms))(n:Nat):(Op.equalIn (n+1) t .nilIface .nilIface).run P w= .ok true w:=by simp[Op.equalIn,ZX hu]
theorem Pz {P:Program}{o1 o2:Oper}{Q:Exit->Act->List Frame->World->Prop}{a:Act}{cs cs':List Frame}{w:World}{d1 d2:Nat}{v:Value}(h1:o1.op= .call ⟨.builtin .recover, #[], #[]⟩)(h1d:o1.dst=some d1)(h1g:o1.guard=none)(h2:o2.op= .assign (.tmp d1))(h2d:o2.dst=some d2)(h2g:o2.guard=none)
  (XG:d1<a.tmps.size) (Mx:recoverD cs=some (v,cs')∨(recoverD cs=none/\v= .nilIface/\cs'=cs)) (h:Q .normal ((a.put (some d1) v).put (some d2) v) cs' w):wpOpsS P #[o1,o2] Q (List.range 2) a cs w:=by
 have e1:∀ρ,(execOp ρ o1).run P w= .ok .recover w:=λρ=>by
  simp only[execOp,h1,resolve,invoke,builtin];simp
 have e2:(execOp (a.put (some d1) v).eval o2).run P w= .ok (.value v) w:=by
  simp only[execOp,h2];simp[Act.eval,Act.put,XG]
 show wpOpsS P #[o1,o2] Q [0,1] a cs w;have key:wpOpsS P #[o1,o2] Q [1] (a.put (some d1) v) cs' w:=by
  unfold wpOpsS;simp only[NO,List.getElem?_cons_succ,List.getElem?_cons_zero];rw[Qf (by simp[Region.wanted,h2g]),e2];simp only[Oper.upon,h2d];unfold wpOpsS;exact h
 unfold wpOpsS;simp only[NO,List.getElem?_cons_zero];rw[Qf (by simp[Region.wanted,h1g]),e1];rcases Mx with hr | ⟨hr,rfl,rfl⟩
 ·simp only[hr,h1d];exact key
 ·simp only[hr,h1d];exact key
theorem mL {c:Cx}(hg:c.g.Ok){x:Code}{fn:Func}{c₀:Frame}{cs:List Frame}{R:Ending->FrameMode->World->Prop}{S:Env}{a:Act}{w:World}{u':FrameMode}(hN:c.N.ds=[])(hf:Fits c.N S a)
  (h:Vj c x S w (Ar c fn.results.toList (λv w'=>R (.returned v) u' w'))):x.wpS c.g.P (bodyPostS c.g.P fn c₀ cs R) a ({c₀ with mode:=u'}::cs) w:=by
 refine wpS_of_wp (wp_mono (ja hg x S w _ a h hf) (λe a' w' hq=>?_));obtain⟨S',Q8,hq⟩:=hq;have ZK:a'.defers=[]:=by rw[Q8.defers,hN]
 cases e with
 | normal=>obtain⟨v,h1,h2⟩:=jb hg Q8 hq;exact⟨ZK,u',rfl,v,h1,h2⟩
 | ret=>obtain⟨v,h1,h2⟩:=jb hg Q8 hq;exact⟨ZK,u',rfl,v,h1,h2⟩
 | exit i=>exact hq.elim
 | goto l=>exact hq.elim
 | panic ch=>exact hq.elim
 | outgrown=>exact hq.elim
def PB (f e:Nat)(k:Int)(w w':World):Prop:=Blk w' f 149 [.slice none 0 0]/\Blk w' e 34 [.int .i64 k]/\Mod (λi=>i=f∨i=e) w w'
theorem AL (f e:Nat)(k:Int)(w:World)(v1 v2:Value)(QK:f≠e)(hf:Blk w f 149 [v1])(he:Blk w e 34 [v2]):
  CallsD Tryz.prog 140 #[.pointer (some ⟨f,0,none⟩),.pointer (some ⟨e,0,none⟩)] (.panicking [{v:=.iface 34 (.int .i64 k),recovered:=false}]) w
   (λen u' w'=>∃v,en= .returned v/\settle u'= .returning/\PB f e k w w'):=by
 refine callsD_of_wpS Tryz.func140 rfl λc₀ cs hu=>?_
 have J9:=fZ (N:=AJ.N.n) [.pointer (some ⟨f,0,none⟩),.pointer (some ⟨e,0,none⟩)] (gK rfl) [(0,.v (.pointer (some ⟨f,0,none⟩))),(1,.v (.pointer (some ⟨e,0,none⟩)))] (by
  intro k x hk
  match k,hk with
  | 0,hk=>cases hk;rfl
  | 1,hk=>cases hk;rfl
  | k+2,hk=>exact nomatch (show(none:Option Ent)=some x from hk))
 have J4:=J9.put (d:=5) (by decide) (.v (.iface 34 (.int .i64 k)));have ZT:=J4.put (d:=2) (by decide) (.v (.iface 34 (.int .i64 k)));refine wpS_seq (wpS_region ?_);refine Pz (cs':={c₀ with mode:=.panicking [{v:=.iface 34 (.int .i64 k),recovered:=true}]}::cs) (v:=.iface 34 (.int .i64 k)) rfl rfl rfl rfl rfl rfl (by simp) (.inl (by simp[recoverD,hu])) ?_;refine mL (c:=AJ) Qa rfl ZT ?_;refine Xe rfl ?_;refine FG Qa rfl rfl rfl rfl ?_;refine Xv rfl ?_;refine KM hf (by simp) (λw1 Zr Qh=>?_);refine KM (he.mod Zr (λh=>QK h.symm)) (by simp) (λw2 XR Qv=>?_);exact⟨_,rfl,rfl,Qh.mod XR QK,Qv,(Zr.mono (λi hi=>.inl (.inl hi))).trans XR (λi hi=>.inl (.inr hi))⟩
theorem eQB (f e:Nat)(w:World):
  CallsD Tryz.prog 140 #[.pointer (some ⟨f,0,none⟩),.pointer (some ⟨e,0,none⟩)] .returning w
   (λen u' w'=>∃v,en= .returned v/\settle u'= .returning/\w=w'):=by
 refine callsD_of_wpS Tryz.func140 rfl λc₀ cs hu=>?_
 have J9:=fZ (N:=AJ.N.n) [.pointer (some ⟨f,0,none⟩),.pointer (some ⟨e,0,none⟩)] (gK rfl) [(0,.v (.pointer (some ⟨f,0,none⟩))),(1,.v (.pointer (some ⟨e,0,none⟩)))] (by
  intro k x hk
  match k,hk with
  | 0,hk=>cases hk;rfl
  | 1,hk=>cases hk;rfl
  | k+2,hk=>exact nomatch (show(none:Option Ent)=some x from hk))
 have J4:=J9.put (d:=5) (by decide) (.v .nilIface);have ZT:=J4.put (d:=2) (by decide) (.v .nilIface);refine wpS_seq (wpS_region ?_);refine Pz (cs':={c₀ with mode:=.returning}::cs) (v:=.nilIface) rfl rfl rfl rfl rfl rfl (by simp) (.inr ⟨by simp[recoverD,hu],rfl,by rw[<-hu]⟩) ?_;refine mL (c:=AJ) Qa rfl ZT ?_;refine JJ (w':=w) (v:=.bool false) (λa hf=>?_) ?_
 ·have e1:=hf.ev (show Env.ev _ (.tmp 6)=some .nilIface from rfl);have hu:=Tryz.underlying20;have e2:(Op.equal 20 .nilIface .nilIface).run Tryz.prog w= .ok true w:=eQA hu 9999;have e3:binOp .neq 20 .nilIface .nilIface=(do pure (.bool (!(<-Op.equal 20 .nilIface .nilIface)))):=rfl;simp only[execOp,e1,eqGuard];simp[Act.eval,e3,show gx.P=Tryz.prog from rfl,e2]
 refine Xv rfl ?_;exact⟨_,rfl,rfl,rfl⟩
end
section
def gS (l:List Nat):List (List Nat)->Nat->Option Nat->Option Nat
 | [],_,QU=>QU
 | s::names,i,QU=>gS l names (i+1) (if s=l then some i else QU)
def JB (names:List (List Nat))(l:List Nat):Option Nat:=gS l names 0 none
theorem PC (l:List Nat)(hl:∀x∈l,x<256):∀(names:List (List Nat))(i:Nat)(QU:Option Nat)(m:List (ByteArray×Value)),Jy names->XJ (Qe l) m=QU.map (λv:Nat=>Value.int .i64 v)->
  XJ (Qe l) (YP names i m)=(gS l names i QU).map (λv:Nat=>Value.int .i64 v)
 | [],i,QU,m,_,h=>h
 | s::names,i,QU,m,hn,h=>by
  simp only[YP,gS];refine PC l hl names (i+1) _ _ (λt ht=>hn t (by simp[ht])) ?_;rw[aY];by_cases hs:s=l
  ·subst hs;simp
  ·rw[if_neg (λe=>hs (Z6 hl (hn s (by simp)).1 e).symm),if_neg hs];exact h
theorem FH {names:List (List Nat)}(hn:Jy names):Pw (JB names) (YP names 0 []):=λl hl=>PC l hl names 0 none [] hn rfl
def dE (names:List (List Nat))(s:List Nat):List Fz×Int:=if Zx names then
  match gQ (JB names) (s.length+1) ⟨s,[],false⟩with
  | none=>([],31)
  | some (_,p)=>if ZG p.r≠ [] then([],31)else if p.u then([],3)else if 512<p.f.length then([],2)else(p.f,0)
 else([],1)
def FI (w:World)(r:List Fz×Int)(v:Value)(w':World):Prop:=∃F m cF,v= .tuple #[.slice F m cF,.int .i64 r.2]/\Ext w w'/\SlS Fz.cells 4 w' F m cF r.1
theorem eQC (p:Ps):Kn [] p=(true,{p with r:=ZG p.r}):=by rw[vT]<;>rfl
theorem PD (names:List (List Nat))(A:Option Addr)(n c:Nat)(s:List Nat)(w:World)(h:Sl w 1 A n c (Q9 names))(hb:Jy names)(hs:∀x∈s,x<256)(hl:s.length<=1000000000000):
  Fn Tryz.prog 89 [.slice A n c,.string (Qe s)] w (FI w (dE names s)):=by
 refine vX (c:={c89 with cuts:=[]}) Qa Tryz.func89 rfl rfl rfl ?_;refine ZQ (ZB Qa ?_);refine new (λw1 Qd Q3 Qh=>?_);refine new (λw2 Qg X0 Qv=>?_);have QT:=Qd.trans Qg;refine ZQ (ZB Qa ?_);refine call (Fy names A n c w2 (h.ext QT) hb) ?_;rintro v w3 ⟨v1,rfl,Qi,yL⟩;have QQ:=QT.trans Qi;have hBf:=(Qh.ext Qg).ext Qi;have fG:=Qv.ext Qi;refine ZQ (ZB Qa ?_);cases Zm:Zx names with
 | false=>
  refine Xe rfl ?_;refine KM hBf (by simp[JY]) (λw4 X9 Q6=>?_);have QK:w1.heap.size≠w.heap.size:=by omega
  refine KM (fG.mod X9 QK) (by simp[JY]) (λw5 XV QL=>?_);refine jh Qa rfl (.inl rfl) ?_;refine QC (Q6.mod XV QK.symm) rfl ?_;refine QC QL rfl ?_;have Qz:=XV.ext (X9.ext QQ (λi hi=>by omega)) (λi hi=>by omega);refine⟨none,0,0,?_,Qz,?_⟩
  ·unfold dE;rw[Zm]<;>rfl
  ·unfold dE;rw[Zm];exact SlS.nil _
 | true=>
  refine Xv rfl ?_;obtain⟨q,rfl,hq,ei⟩:=yL Zm;refine ZQ (vW Qa rfl rfl rfl rfl ⟨_,_,_,_,rfl,rfl,?_⟩);refine ZQ (ZB Qa ?_);refine new (λw4 Qq K5 Q6=>?_);have XI:=QQ.trans Qq;have JF:=Qi.size;have hR:Rd w4 w4.heap.size w3.heap.size none 0 (.map (some q)) ⟨s,[],false⟩:=⟨Q6,Own.nil _ _ _ _,by omega,QD _,hs,by simpa using hl⟩
  have hG:GM w3.heap.size q (YP names 0 []) w4 none:=⟨ei.ext Qq,by have:=ei.lt;omega,λ⟨_,e,_⟩=>by cases e⟩
  have QK:w.heap.size≠w1.heap.size:=by omega
  have uM:∀i,i<w3.heap.size->¬RdS w3.heap.size none i:=λi hi e=>by
   rcases e with rfl | ⟨_,e,_⟩
   ·omega
   ·cases e
  have keep:∀w',Mod (RdS w3.heap.size none) w4 w'->Ext w w'/\Blk w' w.heap.size 149 [.slice none 0 0]/\Blk w' w1.heap.size 34 [.int .i64 0]:=λw' hm=>by
   refine⟨hm.ext XI (λi hi=>?_),(hBf.ext Qq).mod hm (uM _ (by omega)),(fG.ext Qq).mod hm (uM _ (by omega))⟩;rcases hi with rfl | ⟨_,e,_⟩
   ·omega
   ·cases e
  have Xk:∀k w' KI,Ext w w'->PB w.heap.size w1.heap.size k w' KI->dE names s=([],k)->FI w (dE names s) (.tuple #[.slice none 0 0,.int .i64 k]) KI:=λk w' KI hE hR hp=>by
   rw[hp];refine⟨none,0,0,rfl,hR.2.2.ext hE (λi hi=>by rcases hi with rfl | rfl<;>omega),SlS.nil _⟩
  have hpp:dE names s=match gQ (JB names) (s.length+1) ⟨s,[],false⟩with
   | none=>([],31)
   | some (_,p)=>if ZG p.r≠ [] then([],31)else if p.u then([],3)else if 512<p.f.length then([],2)else(p.f,0):=by unfold dE;rw[Qf Zm]
  refine ZQ (ZB Qa ?_);refine XP (Pv (s.length+1) _ _ none 0 _ q _ _ _ w4 hR hG (ez _) (Px (JB names) _ _ q _ (FH hb) (s.length+1))) ?_ ?_
  rotate_left
  ·rintro ch w5 ⟨ho,rfl,XV⟩;obtain⟨Qz,J4,he5⟩:=keep w5 XV;refine aD Qa rfl rfl (args:= #[.pointer (some ⟨w.heap.size,0,none⟩),.pointer (some ⟨w1.heap.size,0,none⟩)]) (by simp) ((AL _ _ 31 w5 _ _ QK J4 he5).mono ?_);rintro e u' w6 ⟨v,rfl,Cz,ie⟩;refine⟨v,rfl,Cz,?_⟩;refine QC ie.1 rfl ?_;refine QC ie.2.1 rfl ?_;exact Xk 31 w5 w6 Qz ie (by rw[hpp];unfold gQ;rw[ho])
  rintro v w5 ⟨a,p,ho,rfl,A5,c5,h5,XV,Yg⟩;refine ZQ (ZB Qa ?_);refine call (sU _ _ A5 c5 _ p [] w5 h5 (by simp)) ?_;rintro v w6 ⟨rfl,h6,VY⟩;rw[eQC] at h6;simp only at h6;have kQb:Mod (RdS w3.heap.size none) w4 w6:=XV.trans VY (λi hi=>.inl (.inl hi));obtain⟨Xh,bU,CB⟩:=keep w6 kQb;have iH:dE names s=if ZG p.r≠ [] then([],31)else if p.u then([],3)else if 512<p.f.length then([],2)else(p.f,0):=by rw[hpp];unfold gQ;rw[ho]
  have e0:((Qe (ZG p.r)=(⟨#[]⟩:ByteArray))↔ZG p.r=[]):=⟨λh=>Z6 h6.b8 (by simp) h,λh=>by rw[h];rfl⟩
  refine ZQ (ZB Qa ?_);refine Qp h6.blk rfl ?_;by_cases ht:¬ZG p.r=[]
  ·refine Xe (by rw[XS (λh=>ht (e0.1 h))];rfl) ?_;refine pL rfl rfl ?_;refine aD Qa rfl rfl (args:= #[.pointer (some ⟨w.heap.size,0,none⟩),.pointer (some ⟨w1.heap.size,0,none⟩)]) (by simp) ((AL _ _ 31 w6 _ _ QK bU CB).mono ?_);rintro e u' w7 ⟨v,rfl,jx,Kf⟩;refine⟨v,rfl,jx,?_⟩;refine QC Kf.1 rfl ?_;refine QC Kf.2.1 rfl ?_;exact Xk 31 w6 w7 Xh Kf (by rw[iH,Qf ht])
  replace ht:=Decidable.not_not.1 ht;refine Xv (by rw[XT (e0.2 ht)];rfl) ?_;rw[if_neg (λh=>h ht)] at iH;refine Qp h6.blk rfl ?_;refine Kq (λhu=>?_) (λhu=>?_)
  ·refine pL rfl rfl ?_;refine aD Qa rfl rfl (args:= #[.pointer (some ⟨w.heap.size,0,none⟩),.pointer (some ⟨w1.heap.size,0,none⟩)]) (by simp) ((AL _ _ 3 w6 _ _ QK bU CB).mono ?_);rintro e u' w7 ⟨v,rfl,jx,Kf⟩;refine⟨v,rfl,jx,?_⟩;refine QC Kf.1 rfl ?_;refine QC Kf.2.1 rfl ?_;exact Xk 3 w6 w7 Xh Kf (by rw[iH,Qf hu])
  rw[if_neg (by rw[show p.u=false from hu];decide)] at iH;refine Qp h6.blk rfl ?_;refine Qt (λhl=>?_) (λhl=>?_)
  ·refine pL rfl rfl ?_;refine aD Qa rfl rfl (args:= #[.pointer (some ⟨w.heap.size,0,none⟩),.pointer (some ⟨w1.heap.size,0,none⟩)]) (by simp) ((AL _ _ 2 w6 _ _ QK bU CB).mono ?_);rintro e u' w7 ⟨v,rfl,jx,Kf⟩;refine⟨v,rfl,jx,?_⟩;refine QC Kf.1 rfl ?_;refine QC Kf.2.1 rfl ?_;exact Xk 2 w6 w7 Xh Kf (by rw[iH,Qf (show 512<p.f.length by simp only at hl;omega)])
  have cg:¬512<p.f.length:=λh=>hl (by simp only;omega)
  rw[if_neg cg] at iH;refine ZQ (ZB Qa ?_);refine Qp h6.blk rfl ?_;refine KM bU (by simp) (λw7 Kg Q4=>?_);refine KM (CB.mod Kg QK.symm) (by simp) (λw8 Jq XB=>?_);refine ZB Qa ?_;refine ga Qa rfl rfl (.inl rfl) (args:= #[.pointer (some ⟨w.heap.size,0,none⟩),.pointer (some ⟨w1.heap.size,0,none⟩)]) (by simp) ((eQB _ _ w8).mono ?_);rintro e u' _ ⟨v,rfl,CC,rfl⟩;refine⟨v,rfl,CC,?_⟩;refine QC (Q4.mod Jq QK) rfl ?_;refine QC XB rfl ?_;rw[iH];have hM:Mod (λi=>i=w.heap.size∨i=w1.heap.size) w6 w8:=(Kg.mono (λi hi=>.inl (.inl hi))).trans Jq (λi hi=>.inl (.inr hi));refine⟨A5,p.f.length,c5,rfl,hM.ext Xh (λi hi=>by rcases hi with rfl | rfl<;>omega),?_,rfl⟩;have oQ:∀i,Qk A5 i->w4.heap.size<=i:=λi hi=>(h6.own.rows i hi).1
  exact(h6.own.mod hM (λi hi e=>by have:=oQ i hi;rcases e with rfl | rfl<;>omega)).sl
end
end
end Go.Proofs.YtjabbbcdgmlojaaGreatDoor
