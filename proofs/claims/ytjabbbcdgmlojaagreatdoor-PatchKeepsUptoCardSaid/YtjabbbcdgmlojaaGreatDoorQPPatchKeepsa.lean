/-
  What PPatchKeeps rests on, part 1 (wip/shake.py).
  Conditions: none.
-/
import Derived.Test.YtjabbbcdgmlojaaGreatDoorProg
import Derived.Test.YtjabbbcdgmlojaaGreatDoorRows
import Derived.WalkKit
import Derived.Deep.QuietTactic
import Derived.Laws.CopyOwn
import Derived.StillTail
import Derived.OrdersHeld
import Derived.Laws.StructEq
import Derived.Lib.AppendStr
import Derived.Shelf.Strings.Builder1
import Derived.Shelf.Strings.Builder2
import Derived.Shelf.Strings.OnBuilder
import Derived.Shelf.Small.Utf8
import Derived.Shelf.Small.Strs
import Derived.Shelf.Strings.BuilderF
import Derived.Shelf.Strings.Search1
import Derived.Shelf.Strings.Search2
import Derived.Shelf.Strings.Search3
import Derived.Shelf.Strings.Cut
import Derived.Shelf.Strings.Count
import Derived.Shelf.LaysM
import Derived.Shelf.Strings.Shaped
import Derived.Shelf.Strings.LastIndex
import Derived.Shelf.GgClosure.StringsIndexFunc
import Derived.Shelf.Strings.Prefix
import Derived.Shelf.Strings.Runes
import Derived.Shelf.Strings.AsciiSet
import Derived.Shelf.Unicode.DecodeSlow
import Derived.Lib.Builder
import Derived.Lib.UnsafeStr
import Derived.Maps.RangeRun
import Derived.Recover
import Derived.ChangeKeysEq
import Derived.Deep.Grids
import Derived.Below
import Derived.ProofKit
import Derived.OpenShut
import Derived.ShutString
import Derived.ChangeOld
import Derived.Deep.Slices
import Derived.ChangeSame
import Derived.WideShapes
import Derived.Deep.DeepHandedRow
import Derived.LaidLaws
import Derived.Lay
import Derived.SevenTiedAt
set_option linter.all false
set_option linter.deprecated false
set_option maxHeartbeats 12800000
namespace Go.Proofs.YtjabbbcdgmlojaaGreatDoor
open Go Go.RowKit
section
abbrev Qf:=@if_pos
abbrev Qq:=@List.length_append
abbrev QB:=@Nat.le_refl
abbrev QC:=@congrArg
abbrev QN:=@List.mem_singleton
abbrev Q1:=@List.mem_cons
abbrev Q6:=@List.length_cons
abbrev Xm:=@List.mem_of_getElem?
abbrev Xn:=@absurd
abbrev Xp:=@List.getElem?_eq_getElem
abbrev Xr:=@Nat.zero_le
abbrev XM:=@List.mem_append
abbrev X7:=@List.mem_map
abbrev Zc:=@Nat.le_trans
abbrev Zq:=@decide_eq_false
abbrev Zy:=@decide_eq_true
abbrev ZU:=@run_underlying
abbrev ZY:=@List.getElem?_eq_some_iff
abbrev Z3:=@Int.min_def
abbrev Jc:=@List.take_of_length_le
abbrev Jl:=@Bool.and_eq_true
abbrev Jn:=@List.length_nil
abbrev Jo:=@List.not_mem_nil
abbrev Jw:=@or_false
abbrev JF:=@List.length_map
abbrev J7:=@List.append_assoc
abbrev KW:=@List.append_nil
abbrev K8:=@List.length_take
abbrev K9:=@List.take_add_one
abbrev Vk:=@Nat.eq_of_beq_eq_true
abbrev Vl:=@List.map_cons
abbrev Vm:=@decide_eq_true_eq
abbrev VT:=@Nat.lt_of_lt_of_le
abbrev VU:=@List.mem_filter
abbrev Yl:=@List.flatMap_cons
abbrev Ym:=@List.all_eq_true
abbrev YF:=@List.cons_append
abbrev YT:=@Nat.mul_one
abbrev Wg:=@List.eq_nil_of_length_eq_zero
abbrev Wh:=@Nat.zero_add
abbrev Wj:=@List.length_drop
abbrev WC:=@List.getElem?_append_right
abbrev WD:=@List.takeWhile_cons
abbrev WE:=@List.mem_flatMap
abbrev WF:=@List.flatMap_append
abbrev W9:=@List.drop_eq_getElem_cons
abbrev aL:=@List.getElem?_map
abbrev aM:=@List.mem_of_mem_drop
abbrev aN:=@List.mem_of_mem_take
abbrev aO:=@Nat.pow_le_pow_right
abbrev aP:=@Nat.mod_lt
abbrev aQ:=@of_decide_eq_true
abbrev bF:=@List.nil_append
abbrev bG:=@Nat.mul_le_mul_right
abbrev cw:=@Bool.true_and
abbrev ep:=@List.map_append
abbrev er:=@Nat.lt_succ_self
abbrev fA:=@Array.getElem?_eq_some_iff
abbrev fB:=@List.length_set
abbrev fC:=@Nat.succ_mul
abbrev fD:=@List.getElem?_append_left
abbrev fE:=@List.drop_take
abbrev fG:=@Option.getD_some
abbrev fH:=@List.getElem?_set_ne
abbrev fI:=@Bool.eq_false_iff
abbrev gC:=@Nat.blt_eq
abbrev gD:=@Nat.le_of_ble_eq_true
abbrev gE:=@Int.toNat_natCast
abbrev iQ:=@List.getElem?_set_self
abbrev jP:=@Nat.add_assoc
abbrev jQ:=@Nat.min_eq_left
abbrev jR:=@Nat.mod_eq_of_lt
abbrev jS:=@List.mem_range
abbrev lP:=@List.drop_drop
abbrev lQ:=@List.take_append_drop
abbrev lR:=@List.take_length
abbrev lS:=@Int.le_refl
abbrev lT:=@Nat.pow_succ
abbrev oT:=@Bool.eq_iff_iff
abbrev oU:=@List.foldl_cons
abbrev oV:=@List.map_map
abbrev oW:=@Nat.add_mul
abbrev oX:=@List.getElem?_eq_none
abbrev oY:=@List.dropWhile_cons
abbrev oZ:=@List.getElem?_take_of_lt
abbrev o0:=@List.drop_left
abbrev o6:=@List.length_singleton
abbrev o7:=@List.drop_eq_nil_of_le
abbrev rI:=@List.reverse_cons
abbrev rJ:=@List.drop_of_length_le
abbrev rK:=@List.drop_zero
abbrev rL:=@List.getLast?_eq_getElem?
abbrev rM:=@List.flatMap_nil
abbrev rN:=@List.mem_cons_of_mem
abbrev uI:=@List.take_succ_cons
abbrev uJ:=@List.takeWhile_sublist
abbrev uK:=@Option.map_some
abbrev uL:=@List.find?_eq_none
abbrev uM:=@Nat.mul_comm
abbrev uN:=@List.set_append_right
abbrev uO:=@List.eq_nil_or_concat
abbrev uP:=@List.length_pos_iff
abbrev uQ:=@List.mem_iff_getElem?
abbrev uR:=@List.any_eq_true
abbrev uS:=@decide_eq_decide
abbrev yP:=@Nat.add_comm
abbrev yQ:=@Nat.sub_self
abbrev yR:=@List.ext_getElem?
abbrev yS:=@List.all_cons
abbrev yT:=@List.count_cons
abbrev yU:=@List.eq_of_mem_replicate
abbrev yV:=@Nat.le_succ
abbrev yW:=@List.length_tail
abbrev yX:=@List.nodup_cons
abbrev yY:=@Nat.one_mul
abbrev yZ:=@List.length_filter_le
abbrev y8:=@List.exists_mem_of_ne_nil
abbrev DO:=@List.getElem?_take
abbrev DP:=@List.take_append
abbrev DQ:=@Array.getElem?_setIfInBounds
abbrev DR:=@Option.map_eq_some_iff
abbrev DS:=@List.mem_iff_getElem
abbrev DT:=@Int.toNat_of_nonneg
abbrev DU:=@List.set_cons_zero
abbrev DW:=@Option.toList_some
abbrev DX:=@List.take_append_of_le_length
abbrev DY:=@List.head?_cons
abbrev DZ:=@Bool.or_assoc
abbrev D0:=@List.count_append
abbrev D3:=@List.drop_length
abbrev D4:=@Nat.testBit_lt_two_pow
abbrev D5:=@List.getElem?_drop
abbrev D6:=@List.append_cancel_right
abbrev D7:=@List.filter_cons
abbrev D8:=@Int.eq_ofNat_of_zero_le
abbrev D9:=@List.foldl_append
abbrev MS:=@Array.toList_map
abbrev MT:=@List.replicate_succ
abbrev MU:=@List.flatten_cons
abbrev MV:=@Bool.false_eq_true
abbrev MW:=@List.nodup_append
abbrev MY:=@List.getElem?_toArray
abbrev MZ:=@List.find?_cons_of_neg
abbrev M0:=@List.drop_succ_cons
abbrev M1:=@List.getElem_mem
abbrev M2:=@Option.isSome_iff_exists
abbrev M3:=@List.cons_ne_nil
abbrev M4:=@List.drop_append_of_le_length
abbrev M5:=@List.filter_eq_nil_iff
abbrev M6:=@List.mem_cons_self
abbrev M7:=@List.mem_or_eq_of_mem_set
abbrev M8:=@List.filter_append
abbrev aQ5:=@Array.setIfInBounds_comm
abbrev aQ6:=@List.isPrefixOf_iff_prefix
abbrev aQ7:=@List.mem_of_find?_eq_some
abbrev aQ8:=@List.takeWhile_append_dropWhile
end
section
inductive Ent where
 | v (x:Value)
 | t
 | f
def Ent.val:Ent->Value
 | .v x=>x
 | .t=>.bool true
 | .f=>.bool false
abbrev Env:=List (Nat×Ent)
def Env.ent:Env->Nat->Option Ent
 | [],_=>none
 | (t,x)::S,k=>match Nat.beq t k with
  | true=>some x
  | false=>Env.ent S k
def Env.get (S:Env)(k:Nat):Option Value:=
 match S.ent k with
 | some (.v x)=>some x
 | some .t=>some (.bool true)
 | some .f=>some (.bool false)
 | none=>none
def Env.ev (S:Env):Operand->Option Value
 | .tmp t=>S.get t
 | .const v=>some v
 | .global g=>some (.pointer (some ⟨g,0,none⟩))
 | .func f=>some (.func (.func f) #[] #[])
theorem nQ8 (S:Env)(k:Nat):S.get k=(S.ent k).map Ent.val:=by
 unfold Env.get;cases S.ent k with
 | none=>rfl
 | some e=>cases e<;>rfl
structure Slots where
 n:Nat
 ds:List Deferred:=[]
instance (k:Nat):OfNat Slots k:=⟨⟨k,[]⟩⟩
structure Fits (N:Slots) (S:Env) (a:Act):Prop where
 size:a.tmps.size=N.n
 defers:a.defers=N.ds
 has:∀k x,S.ent k=some x->a.tmps[k]? =some x.val
theorem Fits.get {N:Slots}{S:Env}{a:Act}(h:Fits N S a){k:Nat}{v:Value}(hk:S.get k=some v):a.tmps[k]? =some v:=by
 rw[nQ8] at hk;cases he:S.ent k with
 | none=>simp[he] at hk
 | some e=>simp[he] at hk;subst hk;exact h.has k e he
theorem Fits.ev {N:Slots}{S:Env}{a:Act}(h:Fits N S a){x:Operand}{v:Value}(hx:S.ev x=some v):a.eval x=v:=by
 cases x with
 | tmp t=>have:=h.get hx;simp[Act.eval,this]
 | const u=>simp[Env.ev] at hx;simp[Act.eval,hx]
 | global g=>simp[Env.ev] at hx;simp[Act.eval,hx]
 | func f=>simp[Env.ev] at hx;simp[Act.eval,hx]
theorem Fits.put {N:Slots}{S:Env}{a:Act}(h:Fits N S a){d:Nat}(hd:d<N.n)(e:Ent):Fits N ((d,e)::S) (a.put (some d) e.val):=by
 refine⟨by simp[Act.put,h.size],by simp[Act.put,h.defers],λk x hk=>?_⟩;simp only[Env.ent] at hk;cases hb:Nat.beq d k with
 | true=>
  have:d=k:=Vk hb;subst this;simp only[hb] at hk;cases hk;have:d<a.tmps.size:=by rw[h.size];exact hd
  simp[Act.put,this]
 | false=>
  have QU:d≠k:=λe=>by subst e;simp at hb
  simp only[hb] at hk;simp[Act.put,QU,h.has k x hk]
structure TyRow where
 t:Nat
 d:TypeDesc
 sz:Nat
 by_:Nat
 z:Value
def M9 (P:Program)(r:TyRow):Prop:=P.underlying r.t=some r.d/\(P.info? r.t).map (λi=>(i.size,i.bytes,i.zero))=some (r.sz,r.by_,some r.z)
def y9 (P:Program)(f:FuncId):Prop:=∃fn,P.funcs[f]? =some fn/\fn.body.isNone=false/\(fn.name== "runtime.NumGoroutine")=false
structure MRow where
 t:Nat
 name:String
 f:Nat
 ptr:Bool
def Ea:TypeDesc->Bool
 | .pointer _=>true
 | _=>false
def Na (P:Program)(r:MRow):Prop:=
 (P.info? r.t).bind (λi=>(i.methods.find? (·.name==r.name)).map (λm=>(m.path.isEmpty,m.func)))=some (true,some (r.f,r.ptr))/\(P.underlying r.t).map Ea=some r.ptr
structure ERow where
 t:Nat
 ks:List Nat
def et:Option TypeDesc->Nat
 | some (.int _)=>0
 | some .string=>1
 | some .bool=>2
 | _=>1000
def o8 (P:Program):Nat->List Field->List Nat->Bool
 | _,[],[]=>true
 | n,f::l,k::ks=>f.name != "_" && Nat.beq f.offset n&&Nat.beq (et (P.underlying f.type)) k&&Nat.blt k 3&&o8 P (n+1) l ks
 | _,_,_=>false
def Nb (P:Program)(r:ERow):Prop:=
 P.stoodInHeld r.t=false/\P.eqGuardType P.depth r.t=false/\(match P.underlying r.t with
  | some (.struct fs)=>o8 P 0 fs.toList r.ks
  | _=>false)=true
structure Gx where
 P:Program
 tys:List TyRow
 fns:List Nat
 ms:List MRow:=[]
 eqs:List ERow:=[]
def za (P:Program):List MRow->Prop
 | []=>True
 | r::l=>Na P r/\za P l
def zb (P:Program):List ERow->Prop
 | []=>True
 | r::l=>Nb P r/\zb P l
def uT:List MRow->Nat->Option MRow
 | [],_=>none
 | r::l,t=>match Nat.beq r.t t with
  | true=>some r
  | false=>uT l t
def o9:List ERow->Nat->Option ERow
 | [],_=>none
 | r::l,t=>match Nat.beq r.t t with
  | true=>some r
  | false=>o9 l t
theorem aQ9 {P:Program}{l:List MRow}{t:Nat}{r:MRow}(h:uT l t=some r)(ha:za P l):Na P r/\r.t=t:=by
 induction l with
 | nil=>cases h
 | cons x l ih=>
  simp only[uT] at h;cases hb:Nat.beq x.t t with
  | true=>simp only[hb] at h;cases h;exact⟨ha.1,Vk hb⟩
  | false=>simp only[hb] at h;exact ih h ha.2
theorem Nc {P:Program}{l:List ERow}{t:Nat}{r:ERow}(h:o9 l t=some r)(ha:zb P l):Nb P r/\r.t=t:=by
 induction l with
 | nil=>cases h
 | cons x l ih=>
  simp only[o9] at h;cases hb:Nat.beq x.t t with
  | true=>simp only[hb] at h;cases h;exact⟨ha.1,Vk hb⟩
  | false=>simp only[hb] at h;exact ih h ha.2
def zd (P:Program):List TyRow->Prop
 | []=>True
 | r::l=>M9 P r/\zd P l
def ze (P:Program):List Nat->Prop
 | []=>True
 | f::l=>y9 P f/\ze P l
structure Gx.Ok (g:Gx):Prop where
 tys:zd g.P g.tys
 fns':ze g.P g.fns
 mixed:g.P.follows .mixedOrders=true
 ms:za g.P g.ms
 eqs:zb g.P g.eqs
def QT:List TyRow->Nat->Option TyRow
 | [],_=>none
 | r::l,t=>match Nat.beq r.t t with
  | true=>some r
  | false=>QT l t
theorem bQa {l:List TyRow}{t:Nat}{r:TyRow}(h:QT l t=some r):r∈l/\r.t=t:=by
 induction l with
 | nil=>cases h
 | cons x l ih=>
  simp only[QT] at h;cases hb:Nat.beq x.t t with
  | true=>simp only[hb] at h;cases h;exact⟨by simp,Vk hb⟩
  | false=>simp only[hb] at h;have:=ih h;exact⟨by simp[this.1],this.2⟩
theorem Gx.Ok.row {g:Gx}(h:g.Ok){t:Nat}{r:TyRow}(hr:QT g.tys t=some r):g.P.underlying t=some r.d/\∃i,g.P.info? t=some i/\i.size=r.sz/\i.bytes=r.by_/\i.zero=some r.z:=by
 obtain⟨hm,rfl⟩:=bQa hr;have key:∀l,zd g.P l->r∈l->M9 g.P r:=by
  intro l;induction l with
  | nil=>intro _ h;cases h
  | cons x l ih=>intro h hm;cases hm with
   | head=>exact h.1
   | tail _ hm=>exact ih h.2 hm
 obtain⟨h1,h2⟩:=key _ h.tys hm;refine⟨h1,?_⟩;cases hi:g.P.info? r.t with
 | none=>simp[hi] at h2
 | some i=>simp[hi] at h2;exact⟨i,rfl,h2.1,h2.2.1,h2.2.2⟩
theorem Gx.Ok.fns {g:Gx}(h:g.Ok):∀f∈g.fns,y9 g.P f:=by
 intro f;have key:∀l,ze g.P l->f∈l->y9 g.P f:=by
  intro l;induction l with
  | nil=>intro _ h;cases h
  | cons x l ih=>intro h hm;cases hm with
   | head=>exact h.1
   | tail _ hm=>exact ih h.2 hm
 exact key _ h.fns'
def fJ (n:Nat):List Nat->Bool
 | []=>false
 | x::l=>match Nat.beq x n with
  | true=>true
  | false=>fJ n l
theorem zf {n:Nat}{l:List Nat}(h:fJ n l=true):n∈l:=by
 induction l with
 | nil=>cases h
 | cons x l ih=>
  simp only[fJ] at h;cases hb:Nat.beq x n with
  | true=>have:=Vk hb;simp[this]
  | false=>simp only[hb] at h;simp[ih h]
structure Cx where
 g:Gx
 N:Slots
 named:Nat
 keep:List Nat
 cuts:List Nat:=[]
abbrev Zg:=Exit->Env->World->Prop
def Up (c:Cx)(Q:Zg):Exit->Act->World->Prop:=λe a w=>∃S,Fits c.N S a/\Q e S w
@[irreducible] def KB (b:Bool) (p q:Prop):Prop:=(b=true->p)/\(b=false->q)
@[irreducible] def dw (n:Int) (K:Int->Prop):Prop:=K n
@[irreducible] def fK (p:Prop) (n:Int) (K:Int->Prop):Prop:=p/\K n
@[irreducible] def iR (p:Prop) (v:Value) (K:Value->Prop):Prop:=p/\K v
@[irreducible] def gF (w:World) (p:Addr) (K:Value->Prop):Prop:=∃v,w.cell? p=some v/\K v
@[irreducible] def jT (w:World) (p:Addr) (n:Nat) (K:List Value->Prop):Prop:=∃vs:List Value,vs.length=n/\(∀j v,vs[j]? =some v->w.cell? (p.add j)=some v)/\K vs
@[irreducible] def dx (w:World) (p:Addr) (v:Value) (K:World->Prop):Prop:=(∃u,w.cell? p=some u)/\w.frozen? p=false/\K (w.setCell p v)
@[irreducible] def pf (w:World) (t:TypeId) (cs:List Value) (K:Addr->World->Prop):Prop:=K ⟨w.heap.size,0,none⟩ (w.alloc (.cells cs.toArray t))
@[irreducible] def lU (P:Program) (w:World) (p:Addr) (vs:List Value) (K:World->Prop):Prop:=∃w',(storeCells p vs).run P w= .ok () w'/\K w'
@[irreducible] def Nd (a b:String) (K:Prop):Prop:=a=b/\K
@[irreducible] def Wl (b:Option Addr) (n:Nat) (i:Int) (sz:Nat) (K:Addr->Prop):Prop:=∃a,b=some a/\0<=i/\i<n/\K (a.add (i.toNat*sz))
@[irreducible] def eu (s:ByteArray) (i:Int) (K:Int->Prop):Prop:=∃b,0<=i/\s[i.toNat]? =some b/\K (b.toNat:Int)
@[irreducible] def Fn (P:Program) (f:FuncId) (l:List Value) (w:World) (R:Value->World->Prop):Prop:=Calls P f l.toArray w fun
 | .returned v,w'=>R v w'
 | _,_=>False
@[irreducible] def gG (P:Program) (f:FuncId) (l:List Value) (w:World) (K:Value->World->Prop) (Xg:List PanicEntry->World->Prop):Prop:=Calls P f l.toArray w fun
 | .returned v,w'=>K v w'
 | .panicked ch,w'=>Xg ch w'
 | .outgrown,_=>False
@[irreducible] def Nf (c:Cx) (nm:String) (t:Nat) (l:List Value) (w:World) (K:Value->World->Prop) (Xg:List PanicEntry->World->Prop):Prop:=
 ∃r,uT c.g.ms t=some r/\nm=r.name/\fJ r.f c.g.fns=true/\gG c.g.P r.f l w K Xg
@[irreducible] def X8 (c:Cx) (o:Oper) (S:Env) (w:World) (K:Env->World->Prop) (Q:Zg):Prop:=
 ∀a,Fits c.N S a->o.wp c.g.P a w (λa' w'=>∃S',Fits c.N S' a'/\K S' w') (Up c Q)
@[irreducible] def Wm (c:Cx) (id:Nat) (ops:List Oper) (S:Env) (w:World) (Q:Zg):Prop:=
 ∀a,Fits c.N S a->(Code.region id ops.toArray true).wp c.g.P (Up c Q) a w
@[irreducible] def zg (c:Cx) (x:Code) (S:Env) (w:World) (Q:Zg):Prop:=
 ∀a,Fits c.N S a->(Code.loop x).wp c.g.P (Up c Q) a w
@[irreducible] def jU (c:Cx) (x:Code) (S:Env) (w:World) (Q:Zg):Prop:=
 ∀a,Fits c.N S a->x.wp c.g.P (Up c Q) a w
inductive PR where
 | val (v:Value)
 | ent (e:Ent)
 | norm (k:IntKind) (n:Int)
 | normIf (p:Prop) (k:IntKind) (n:Int)
 | need (p:Prop) (v:Value)
 | no
def rO:List Value->Nat->Option Value
 | [],_=>none
 | x::_,0=>some x
 | _::l,n+1=>rO l n
theorem Ng (l:List Value)(n:Nat):rO l n=l[n]? :=by
 induction l generalizing n with
 | nil=>simp[rO]
 | cons x l ih=>cases n<;>simp[rO,ih]
def ph:IntKind->Nat
 | .i8=>0 | .i16=>1 | .i32=>2 | .i64=>3 | .u8=>4 | .u16=>5 | .u32=>6 | .u64=>7
theorem Ni {a b:IntKind}(h:Nat.beq (ph a) (ph b)=true):a=b:=by
 have:=Vk h;cases a<;>cases b<;>first | rfl | (simp[ph] at this)
def Eb (op:BinOp)(k:IntKind)(x y:Int):PR:=
 match op with
 | .add=>.norm k (k.wrap (x+y))
 | .sub=>.norm k (k.wrap (x-y))
 | .mul=>.norm k (k.wrap (x*y))
 | .quo=>.normIf (y≠0) k (k.wrap (x.tdiv y))
 | .rem=>.normIf (y≠0) k (x.tmod y)
 | .and=>.norm k (k.wrap ((BitVec.ofInt k.bits x &&& BitVec.ofInt k.bits y).toNat))
 | .or=>.norm k (k.wrap ((BitVec.ofInt k.bits x ||| BitVec.ofInt k.bits y).toNat))
 | .xor=>.norm k (k.wrap ((BitVec.ofInt k.bits x^^^BitVec.ofInt k.bits y).toNat))
 | .andNot=>.norm k (k.wrap ((BitVec.ofInt k.bits x &&& ~~~ BitVec.ofInt k.bits y).toNat))
 | .eql=>.val (.bool (x==y))
 | .neq=>.val (.bool (x !=y))
 | .lss=>.val (.bool (decide (x<y)))
 | .leq=>.val (.bool (decide (x<=y)))
 | .gtr=>.val (.bool (decide (x>y)))
 | .geq=>.val (.bool (decide (x≥y)))
 | _=>.no
def Ec (op:BinOp)(k:IntKind)(x:Int)(k':IntKind)(y:Int):PR:=
 match op with
 | .shl=>.normIf (0<=y) k (k.wrap (x*2^(min y.toNat k.bits)))
 | .shr=>.normIf (0<=y) k (x.fdiv (2^(min y.toNat k.bits)))
 | op=>match Nat.beq (ph k) (ph k')with
  | true=>Eb op k x y
  | false=>.no
def Ee (op:BinOp)(x y:ByteArray):PR:=
 match op with
 | .add=>.need (x.size+y.size<=maxLen) (.string (x++y))
 | .eql=>.val (.bool (decide (x=y)))
 | .neq=>.val (.bool (!decide (x=y)))
 | .lss=>.val (.bool (Op.bytesLess x.data.toList y.data.toList))
 | _=>.no
def Ef:TypeDesc->Value->PR
 | .string,.string s=>.val (.int .i64 s.size)
 | .slice _,.slice _ n _=>.val (.int .i64 n)
 | _,_=>.no
def iS:TypeDesc->Value->Value->Option Bool
 | .bool,.bool a,.bool b=>some (a==b)
 | .slice _,.slice none _ _,.slice b _ _=>some b.isNone
 | .slice _,.slice (some _) _ _,.slice none _ _=>some false
 | .map _ _,.map none,.map b=>some b.isNone
 | .map _ _,.map (some _),.map none=>some false
 | .pointer _,.pointer none,.pointer b=>some b.isNone
 | .pointer _,.pointer (some _),.pointer none=>some false
 | .interface _,.nilIface,.iface _ _=>some false
 | .interface _,.iface _ _,.nilIface=>some false
 | .func _ _ _,.nilFunc,.nilFunc=>some true
 | .func _ _ _,.nilFunc,.func _ _ _=>some false
 | .func _ _ _,.func _ _ _,.nilFunc=>some false
 | _,_,_=>none
def dy:List Nat->List Value->List Value->Option Bool
 | [],[],[]=>some true
 | 0::ks,.int k a::xs,.int k' b::ys=>match Nat.beq (ph k) (ph k'),dy ks xs ys with
  | true,some r=>some (a==b&&r)
  | _,_=>none
 | 1::ks,.string a::xs,.string b::ys=>match dy ks xs ys with
  | some r=>some (decide (a=b)&&r)
  | none=>none
 | 2::ks,.bool a::xs,.bool b::ys=>match dy ks xs ys with
  | some r=>some (a==b&&r)
  | none=>none
 | _,_,_=>none
def pi (op:BinOp)(r:Option Bool):PR:=
 match op,r with
 | .eql,some b=>.val (.bool b)
 | .neq,some b=>.val (.bool (!b))
 | _,_=>.no
def lV {α:Type}:List α->Nat->Option α
 | [],_=>none
 | x::_,0=>some x
 | _::l,n+1=>lV l n
def pj:TypeDesc->Bool
 | .struct _=>true
 | .array _ _=>true
 | _=>false
def Nj:TypeDesc->Bool
 | .interface _=>true
 | _=>false
def JR:Value->List Value
 | .agg cs=>cs.toList
 | v=>[v]
def uU:List Value->List Value->List Value
 | [],cs=>cs
 | v::vs,_::cs=>v::uU vs cs
 | _::_,[]=>[]
def KX:Nat->List Value->List Value->List Value
 | 0,vs,cs=>uU vs cs
 | n+1,vs,c::cs=>c::KX n vs cs
 | _+1,_,[]=>[]
def uV (g:Gx):List Field->Option (List (Nat×Nat))
 | []=>some []
 | f::l=>match QT g.tys f.type,uV g l with
  | some r,some m=>some ((f.offset,r.sz)::m)
  | _,_=>none
def rP (ps:Nat->Option (Nat×Nat)):List Value->List (Nat×Value)->Option (List Value)
 | cells,[]=>some cells
 | cells,(i,v)::rest=>match ps i with
  | some (off,sz)=>(match Nat.beq (JR v).length sz,Nat.ble (off+(JR v).length) cells.length with
   | true,true=>rP ps (KX off (JR v) cells) rest
   | _,_=>none)
  | none=>none
def pk (S:Env):List Operand->Option (List Value)
 | []=>some []
 | x::l=>match S.ev x,pk S l with
  | some v,some m=>some (v::m)
  | _,_=>none
def rQ (S:Env):List (Nat×Operand)->Option (List (Nat×Value))
 | []=>some []
 | (i,x)::l=>match S.ev x,rQ S l with
  | some v,some m=>some ((i,v)::m)
  | _,_=>none
def jV (S:Env)(d:Int):Option Operand->Option Int
 | none=>some d
 | some x=>match S.ev x with
  | some (.int _ n)=>some n
  | _=>none
def rR (g:Gx)(S:Env):Op->PR
 | .move (.const (.bool true)) | .assign (.const (.bool true))=>.ent .t
 | .move (.const (.bool false)) | .assign (.const (.bool false))=>.ent .f
 | .move (.tmp t) | .assign (.tmp t)=>match S.ent t with
  | some e=>.ent e
  | none=>.no
 | .move x | .assign x=>match S.ev x with
  | some v=>.val v
  | none=>.no
 | .pick (.tmp t) a b=>match S.ent t with
  | some .t=>(match a with
   | .const (.bool true)=>.ent .t
   | .const (.bool false)=>.ent .f
   | .tmp u=>(match S.ent u with
    | some e=>.ent e
    | none=>.no)
   | a=>match S.ev a with
    | some v=>.val v
    | none=>.no)
  | some .f=>(match b with
   | .const (.bool true)=>.ent .t
   | .const (.bool false)=>.ent .f
   | .tmp u=>(match S.ent u with
    | some e=>.ent e
    | none=>.no)
   | b=>match S.ev b with
    | some v=>.val v
    | none=>.no)
  | _=>.no
 | .binOp op t x y _=>match S.ev x,S.ev y with
  | some (.int k a),some (.int k' b)=>Ec op k a k' b
  | some (.string a),some (.string b)=>Ee op a b
  | some (.agg a),some (.agg b)=>(match o9 g.eqs t with
   | some r=>pi op (dy r.ks a.toList b.toList)
   | none=>.no)
  | some a,some b=>(match QT g.tys t with
   | some r=>pi op (iS r.d a b)
   | none=>.no)
  | _,_=>.no
 | .unOp .not _ (.tmp t)=>match S.ent t with
  | some .t=>.ent .f
  | some .f=>.ent .t
  | some (.v (.bool b))=>.val (.bool (!b))
  | _=>.no
 | .unOp .neg _ x=>match S.ev x with
  | some (.int k n)=>.norm k (k.wrap (0-n))
  | _=>.no
 | .convert s t x=>match QT g.tys s,QT g.tys t,S.ev x with
  | some _,some ⟨_,.int k,_,_,_⟩,some (.int _ n)=>.norm k (k.wrap n)
  | some _,some ⟨_,.string,_,_,_⟩,some (.string s)=>.val (.string s)
  | _,_,_=>.no
 | .extract x i=>match S.ev x with
  | some (.tuple vs)=>(match rO vs.toList i with
   | some v=>.val v
   | none=>.no)
  | _=>.no
 | .call ⟨.builtin .len,xs,ts⟩=>match xs.toList,ts.toList with
  | [x],[t]=>(match QT g.tys t,S.ev x with
   | some r,some v=>Ef r.d v
   | _,_=>.no)
  | _,_=>.no
 | .call ⟨.builtin .min,xs,_⟩=>match xs.toList with
  | [x,y]=>(match S.ev x,S.ev y with
   | some (.int k a),some (.int _ b)=>.norm k (if b<a then b else a)
   | _,_=>.no)
  | [x,y,z]=>(match S.ev x,S.ev y,S.ev z with
   | some (.int k a),some (.int _ b),some (.int _ c)=>.norm k (if c<(if b<a then b else a)then c else(if b<a then b else a))
   | _,_,_=>.no)
  | _=>.no
 | .call ⟨.builtin .max,xs,_⟩=>match xs.toList with
  | [x,y]=>(match S.ev x,S.ev y with
   | some (.int k a),some (.int _ b)=>.norm k (if b>a then b else a)
   | _,_=>.no)
  | _=>.no
 | .nilCheck x=>match S.ev x with
  | some (.pointer (some p))=>.val (.pointer (some p))
  | some (.iface t v)=>.val (.iface t v)
  | some (.func (.func n) a b)=>.val (.func (.func n) a b)
  | _=>.no
 | .fieldAddr t x k=>match QT g.tys t,S.ev x with
  | some r,some (.pointer (some p))=>(match r.d with
   | .struct fs=>(match lV fs.toList k with
    | some f=>(match QT g.tys f.type with
     | some rf=>(match Nat.beq rf.sz 0 with
      | false=>.val (.pointer (some (p.add f.offset)))
      | true=>.no)
     | none=>.no)
    | none=>.no)
   | _=>.no)
  | _,_=>.no
 | .field t x k=>match QT g.tys t,S.ev x with
  | some r,some (.agg cs)=>(match r.d with
   | .struct fs=>(match lV fs.toList k with
    | some f=>(match QT g.tys f.type with
     | some rf=>(match pj rf.d with
      | true=>.val (.agg ((cs.toList.drop f.offset).take rf.sz).toArray)
      | false=>(match rO cs.toList f.offset with
       | some v=>.val v
       | none=>.no))
     | none=>.no)
    | none=>.no)
   | _=>.no)
  | _,_=>.no
 | .build t parts=>match QT g.tys t,rQ S parts.toList with
  | some r,some ps=>(match r.d with
   | .struct fs=>(match uV g fs.toList with
    | some pl=>(match rP (lV pl) r.z.cells.toList ps with
     | some cs=>.val (.agg cs.toArray)
     | none=>.no)
    | none=>.no)
   | .array _ e=>(match QT g.tys e with
    | some re=>(match rP (λi=>some (i*re.sz,re.sz)) r.z.cells.toList ps with
     | some cs=>.val (.agg cs.toArray)
     | none=>.no)
    | none=>.no)
   | _=>.no)
  | _,_=>.no
 | .makeInterface t x=>match QT g.tys t,S.ev x with
  | some r,some v=>(match Nj r.d with
   | false=>.val (.iface t v)
   | true=>.no)
  | _,_=>.no
 | .makeFunc f xs ys=>match pk S xs.toList,pk S ys.toList with
  | some a,some b=>.val (.func f a.toArray b.toArray)
  | _,_=>.no
 | .slice t x lo hi none=>match QT g.tys t,S.ev x with
  | some ⟨_,.string,_,_,_⟩,some (.string s)=>(match jV S 0 lo,jV S s.size hi with
   | some l,some h=>.need (0<=l/\l<=h/\h<=s.size) (.string (s.extract l.toNat h.toNat))
   | _,_=>.no)
  | _,_=>.no
 | _=>.no
def PR.Means (w:World)(r:Result Next):PR->Prop
 | .val v=>r= .ok (.value v) w
 | .ent e=>r= .ok (.value e.val) w
 | .norm k n=>r= .ok (.value (.int k n)) w
 | .normIf p k n=>p->r= .ok (.value (.int k n)) w
 | .need p v=>p->r= .ok (.value v) w
 | .no=>True
section
variable {g:Gx} {S:Env} {w:World} {ρ:Operand->Value}
theorem bQb (op:BinOp)(t:TypeId)(k:IntKind)(x y:Int)(h1:op≠ .shl)(h2:op≠ .shr):
  (Eb op k x y).Means w (((binOp op t (.int k x) (.int k y)).run g.P w).andThen λv w=>.ok (.value v) w):=by
 cases op<;>first | (exact Xn rfl h1) | (exact Xn rfl h2) | skip
 all_goals simp[Eb,PR.Means,binOp,Op.intArith,Op.intBits,Op.intCmp,Op.intDiv]
 all_goals (intro h;simp[h])
theorem bQc (op:BinOp)(t:TypeId)(k k':IntKind)(x y:Int):
  (Ec op k x k' y).Means w (((binOp op t (.int k x) (.int k' y)).run g.P w).andThen λv w=>.ok (.value v) w):=by
 unfold Ec;split
 ·intro h;simp only[binOp,Op.shift];rw[if_neg (by omega)];simp
 ·intro h;simp only[binOp,Op.shift];rw[if_neg (by omega)];simp
 ·rename_i h1 h2;split
  ·rename_i hk;have:=Ni hk;subst this;exact bQb op t k x y h1 h2
  ·trivial
theorem uW (a b:ByteArray):(a.toList==b.toList)=decide (a=b):=by
 rw[oT];simp[ByteArray.toList_eq];constructor
 ·intro h;cases a;cases b;simp_all
 ·intro h;rw[h]
theorem bQd (op:BinOp)(t:TypeId)(x y:ByteArray):
  (Ee op x y).Means w (((binOp op t (.string x) (.string y)).run g.P w).andThen λv w=>.ok (.value v) w):=by
 unfold Ee;split<;>simp only[PR.Means]
 ·intro h;have:¬((x.size+y.size:Nat):Int)>IntKind.i64.max:=by
   have h2:IntKind.i64.max=9223372036854775807:=by decide
   rw[h2];unfold maxLen at h;omega
  simp only[binOp,Op.stringOp];rw[if_neg this];simp
 ·simp[binOp,Op.stringOp,uW]
 ·simp[binOp,Op.stringOp,uW]
 ·simp[binOp,Op.stringOp,ByteArray.toList_eq]
theorem YU (hg:g.Ok){t:Nat}{r:TyRow}(hr:QT g.tys t=some r)(w:World):(underlying t).run g.P w= .ok r.d w:=
 ZU (hg.row hr).1 w
theorem bQe (hg:g.Ok){t:Nat}{r:TyRow}(hr:QT g.tys t=some r)(ty:TypeId)(v:Value):
  (Ef r.d v).Means w (((Builtin.len_ #[t] ty #[v]).run g.P w).andThen λv w=>.ok (.value v) w):=by
 have hu:=YU hg hr w;unfold Ef;split<;>simp only[PR.Means]
 ·rename_i h;simp[Builtin.len_,hu,h,goInt]
 ·rename_i h;simp[Builtin.len_,hu,h,goInt]
theorem bQf (hg:g.Ok){t:Nat}{r:TyRow}(hr:QT g.tys t=some r){x y:Value}{b:Bool}(h:iS r.d x y=some b)(n:Nat):
  (Op.equalIn (n+1) t x y).run g.P w= .ok b w:=by
 have hu:=YU hg hr w;unfold iS at h;split at h<;>first | (simp only[Option.some.injEq] at h;subst h;rename_i hd;simp[Op.equalIn,hu,hd];done) | cases h
theorem Nk (hg:g.Ok){t:Nat}{r:TyRow}(hr:QT g.tys t=some r){x y:Value}{b:Bool}(h:iS r.d x y=some b):
  (Op.equal t x y).run g.P w= .ok b w:=bQf hg hr h 9999
theorem bQg (op:BinOp)(t:TypeId)(x y:Operand){d:TypeDesc}{a b:Value}{r:Bool}(h:iS d a b=some r):eqGuard op t x y a b=pure ():=by
 unfold iS at h;split at h<;>first | (simp only[eqGuard];split<;>rfl) | cases h
theorem bQh (hg:g.Ok)(op:BinOp){t:Nat}{r:TyRow}(hr:QT g.tys t=some r)(x y:Value):
  (pi op (iS r.d x y)).Means w (((binOp op t x y).run g.P w).andThen λv w=>.ok (.value v) w):=by
 unfold pi;split
 ·rename_i b hb;have h:=Nk (w:=w) hg hr hb;have e:binOp .eql t x y=(do pure (.bool (<-Op.equal t x y))):=by
   unfold iS at hb;split at hb<;>first | rfl | cases hb
  simp[PR.Means,e,h]
 ·rename_i b hb;have h:=Nk (w:=w) hg hr hb;have e:binOp .neq t x y=(do pure (.bool (!(<-Op.equal t x y)))):=by
   unfold iS at hb;split at hb<;>first | rfl | cases hb
  simp[PR.Means,e,h]
 ·trivial
theorem bQi {P:Program}{t:TypeId}(h:et (P.underlying t)<3)(w:World):(isAgg t).run P w= .ok false w:=by
 cases hu:P.underlying t with
 | none=>rw[hu] at h;simp[et] at h
 | some d=>
  simp only[isAgg,Sem.run_bind,ZU hu,Result.andThen_ok];rw[hu] at h;cases d<;>first | rfl | (simp[et] at h)
theorem cy {P:Program}{t:TypeId}(h:et (P.underlying t)<3){cs:Array Value}{n:Nat}{v:Value}(hv:cs[n]? =some v)(w:World):(part t cs n).run P w= .ok v w:=by
 simp[part,bQi h,hv]
theorem Eg {P:Program}{xs ys:Array Value}:∀(fs:List Field)(ks:List Nat)(n:Nat)(xl yl:List Value)(b:Bool),o8 P n fs ks=true->dy ks xl yl=some b->
  (∀j,xl[j]? =xs[n+j]?)->(∀j,yl[j]? =ys[n+j]?)->∀(d:Nat) (w:World),(Op.eqFields (d+1) xs ys fs).run P w= .ok b w
 | [],[],n,[],[],b,_,h,_,_,d,w=>by
  simp only[dy,Option.some.injEq] at h;subst h;simp[Op.eqFields]
 | [],[],_,[],_::_,_,_,h,_,_,_,_=>by simp[dy] at h
 | [],[],_,_::_,_,_,_,h,_,_,_,_=>by simp[dy] at h
 | [],_::_,_,_,_,_,hb,_,_,_,_,_=>by simp[o8] at hb
 | _::_,[],_,_,_,_,hb,_,_,_,_,_=>by simp[o8] at hb
 | f::fs,k::ks,n,xl,yl,b,hb,h,hx,hy,d,w=>by
  simp only[o8,Jl,bne_iff_ne,ne_eq] at hb;obtain⟨⟨⟨⟨xP,aG⟩,hk⟩,jr⟩,xQ⟩:=hb;have aG:=Vk aG;have hk:=Vk hk;have jr:k<3:=by rw[gC] at jr;exact jr
  have Xc:et (P.underlying f.type)<3:=by omega
  have step:∀(u v:Value) (xt yt:List Value) (e r:Bool),xl=u::xt->yl=v::yt->dy ks xt yt=some r->(Op.equalIn (d+1) f.type u v).run P w= .ok e w->
    (Op.eqFields (d+1) xs ys (f::fs)).run P w= .ok (e&&r) w:=by
   rintro u v xt yt e r rfl rfl hr he;have hu:xs[f.offset]? =some u:=by rw[aG];simpa using (hx 0).symm
   have hv:ys[f.offset]? =some v:=by rw[aG];simpa using (hy 0).symm
   have ih:=Eg fs ks (n+1) xt yt r xQ hr (λj=>by have:=hx (j+1);simpa [jP,yP 1 j] using this) (λj=>by have:=hy (j+1);simpa [jP,yP 1 j] using this) d w;simp only[Op.eqFields,ne_eq,xP,not_false_eq_true,if_true,Sem.run_bind,cy Xc hu,cy Xc hv,Result.andThen_ok,he];cases e with
   | true=>simpa using ih
   | false=>simp
  unfold dy at h;split at h
  ·simp at*
  ·rename_i ks' k1 a xt k2 b2 yt jB;simp only[List.cons.injEq] at jB;obtain⟨rfl,rfl⟩:=jB;split at h
   ·rename_i r h1 h2;have:=Ni h1;subst this;simp only[Option.some.injEq] at h;subst h;cases hu:P.underlying f.type with
    | none=>rw[hu] at hk;simp[et] at hk
    | some dd=>rw[hu] at hk;cases dd<;>first | (exact step _ _ _ _ _ _ rfl rfl h2 (run_equalIn_int w d f.type _ _ _ _ hu)) | (simp[et] at hk)
   ·cases h
  ·rename_i ks' a xt b2 yt jB;simp only[List.cons.injEq] at jB;obtain⟨rfl,rfl⟩:=jB;split at h
   ·rename_i r h2;simp only[Option.some.injEq] at h;subst h;cases hu:P.underlying f.type with
    | none=>rw[hu] at hk;simp[et] at hk
    | some dd=>rw[hu] at hk;cases dd<;>first | (refine step _ _ _ _ _ _ rfl rfl h2 ?_;rw[run_equalIn_string w d f.type _ _ hu,uW];done) | (simp[et] at hk)
   ·cases h
  ·rename_i ks' a xt b2 yt jB;simp only[List.cons.injEq] at jB;obtain⟨rfl,rfl⟩:=jB;split at h
   ·rename_i r h2;simp only[Option.some.injEq] at h;subst h;cases hu:P.underlying f.type with
    | none=>rw[hu] at hk;simp[et] at hk
    | some dd=>rw[hu] at hk;cases dd<;>first | (exact step _ _ _ _ _ _ rfl rfl h2 (run_equalIn_bool' w d f.type _ _ hu)) | (simp[et] at hk)
   ·cases h
  ·cases h
theorem Nm (hg:g.Ok){t:Nat}{r:ERow}(hr:o9 g.eqs t=some r){xs ys:Array Value}{b:Bool}(h:dy r.ks xs.toList ys.toList=some b)(n:Nat):
  (Op.equalIn (n+2) t (.agg xs) (.agg ys)).run g.P w= .ok b w:=by
 obtain⟨⟨h1,_,h3⟩,rfl⟩:=Nc hr hg.eqs;split at h3
 ·rename_i fs hu;have hf:g.P.fieldsOf r.t=fs:=by simp[Program.fieldsOf,hu]
  rw[run_equalIn_struct w (n+1) r.t xs ys (by rw[hf];exact hu) h1,hf];exact Eg fs.toList r.ks 0 _ _ b h3 h (λj=>by simp) (λj=>by simp) n w
 ·cases h3
theorem bQj (hg:g.Ok)(op:BinOp){t:Nat}{r:ERow}(hr:o9 g.eqs t=some r)(x y:Operand)(xs ys:Array Value):
  (pi op (dy r.ks xs.toList ys.toList)).Means w (((eqGuard op t x y (.agg xs) (.agg ys)).run g.P w).andThen λ_ w=>((binOp op t (.agg xs) (.agg ys)).run g.P w).andThen λv w=>.ok (.value v) w):=by
 have Kz:∀op,(eqGuard op t x y (.agg xs) (.agg ys)).run g.P w= .ok () w:=λop=>by
  obtain⟨⟨_,h2,_⟩,rfl⟩:=Nc hr hg.eqs;exact run_eqGuard_agg w op r.t x y xs ys h2
 unfold pi;split
 ·rename_i b hb;have h:=Nm (w:=w) hg hr hb 9998;simp only[PR.Means,Kz,Result.andThen_ok,run_eql_struct];rw[h]<;>rfl
 ·rename_i b hb;have h:=Nm (w:=w) hg hr hb 9998;simp only[PR.Means,Kz,Result.andThen_ok,run_neq_struct];rw[h]<;>rfl
 ·trivial
theorem Nn {α:Type}{xs:Array α}{x:α}(h:xs.toList=[x]):xs= #[x]:=by
 cases xs;simp_all
theorem No {α:Type}{xs:Array α}{x y:α}(h:xs.toList=[x,y]):xs= #[x,y]:=by
 cases xs;simp_all
theorem bQk {α:Type}{xs:Array α}{x y z:α}(h:xs.toList=[x,y,z]):xs= #[x,y,z]:=by
 cases xs;simp_all
theorem Eh {α:Type}(l:List α)(n:Nat):lV l n=l[n]? :=by
 induction l generalizing n with
 | nil=>simp[lV]
 | cons x l ih=>cases n<;>simp[lV,ih]
theorem pm (v:Value):v.cells.toList=JR v:=by cases v<;>rfl
theorem Np (vs:List Value)(v:Value):∀(n:Nat)(l:List Value),KX (n+1) vs (l.set n v)=KX n (v::vs) l
 | 0,[]=>rfl
 | 0,_::_=>rfl
 | _+1,[]=>rfl
 | n+1,c::l=>by
  show c::KX (n+1) vs (l.set n v)=c::KX n (v::vs) l;rw[Np vs v n l]
theorem Nq:∀(n:Nat)(l:List Value),KX n [] l=l
 | 0,_=>rfl
 | _+1,[]=>rfl
 | n+1,c::l=>by
  show c::KX n [] l=c::l;rw[Nq n l]
theorem Nr (off:Nat):∀(vs:List Value)(k:Nat)(l:List Value),
  (vs.zipIdx k).foldl (λcs (p:Value×Nat)=>cs.set (off+p.2) p.1) l=KX (off+k) vs l
 | [],_,_=>(Nq _ _).symm
 | v::vs,k,l=>by
  rw[List.zipIdx_cons,oU,Nr off vs (k+1)];exact Np vs v (off+k) l
theorem Ns (off:Nat)(vs cells:Array Value):
  (vs.zipIdx.foldl (λcs (c,j)=>cs.setIfInBounds (off+j) c) cells).toList=KX off vs.toList cells.toList:=by
 have h:=Nr off vs.toList 0 cells.toList;rw[Nat.add_zero] at h;rw[<-Array.foldl_toList,Array.toList_zipIdx,<-h];clear h;generalize vs.toList.zipIdx 0=l;induction l generalizing cells with
 | nil=>rfl
 | cons p l ih=>simp only[oU];rw[ih];simp
theorem Ei (ps:Nat->Option (Nat×Nat)):∀(parts:List (Nat×Value))(cells:Array Value)(out:List Value),rP ps cells.toList parts=some out->Instr.fill ps cells parts=some out.toArray
 | [],cells,out,h=>by
  simp only[rP,Option.some.injEq] at h;subst h;simp[Instr.fill]
 | (i,v)::rest,cells,out,h=>by
  simp only[rP] at h;split at h
  ·rename_i off sz hp;split at h
   ·rename_i h1 h2;have h1:=Vk h1;have h2:=gD h2;have e1:v.cells.size=sz:=by rw[<-h1,<-pm];simp
    have e2:off+v.cells.size<=cells.size:=by rw[e1,<-h1];simpa using h2
    simp only[Instr.fill,hp];rw[if_neg (by simp;omega)];refine Ei ps rest _ out ?_;rw[Ns,pm];exact h
   ·cases h
  ·cases h
theorem Nv (hg:g.Ok):∀(l:List Field)(m:List (Nat×Nat)),uV g l=some m->
  (l.mapM (m:=Sem) λf=>Prod.mk f.offset <$> sizeOf f.type).run g.P w= .ok m w
 | [],m,h=>by simp only[uV,Option.some.injEq] at h;subst h;simp
 | f::l,m,h=>by
  simp only[uV] at h;split at h
  ·rename_i r m' hr hm;simp only[Option.some.injEq] at h;subst h;obtain⟨_,i,hi,hs,_⟩:=hg.row hr;have ih:=Nv hg l m' hm;have hz:(sizeOf f.type).run g.P w= .ok r.sz w:=by simp[sizeOf,typeInfo,hi,hs]
   rw[List.mapM_cons];simp[hz,ih]
  ·cases h
theorem zh {ρ:Operand->Value}(hρ:∀x v,S.ev x=some v->ρ x=v):∀(l:List Operand)(m:List Value),pk S l=some m->l.map ρ=m
 | [],m,h=>by simp only[pk,Option.some.injEq] at h;subst h;rfl
 | x::l,m,h=>by
  simp only[pk] at h;split at h
  ·rename_i v m' hv hm;simp only[Option.some.injEq] at h;subst h;rw[Vl,hρ _ _ hv,zh hρ l m' hm]
  ·cases h
theorem Ej {ρ:Operand->Value}(hρ:∀x v,S.ev x=some v->ρ x=v):∀(l:List (Nat×Operand))(m:List (Nat×Value)),rQ S l=some m->l.map (λ(i,x)=>(i,ρ x))=m
 | [],m,h=>by simp only[rQ,Option.some.injEq] at h;subst h;rfl
 | (i,x)::l,m,h=>by
  simp only[rQ] at h;split at h
  ·rename_i v m' hv hm;simp only[Option.some.injEq] at h;subst h;rw[Vl,Ej hρ l m' hm];show(i,ρ x)::m'=_;rw[hρ _ _ hv]
  ·cases h
theorem Nw {ρ:Operand->Value}(hρ:∀x v,S.ev x=some v->ρ x=v){x:Operand}{n:Int}{d:Int}(h:jV S d (some x)=some n)(y:Nat)(hn:0<=n/\n<=y)(code:BoundsCode):
  (Instr.sliceBound (ρ x) y code).run g.P w= .ok n.toNat w:=by
 unfold jV at h;simp only at h;split at h
 ·rename_i k m hv;simp only[Option.some.injEq] at h;subst h;rw[hρ _ _ hv];simp[Instr.sliceBound,asIntOf,hn]
 ·cases h
theorem bQl {ρ:Operand->Value}(hρ:∀x v,S.ev x=some v->ρ x=v){lo hi:Option Operand}{l h:Int}{n:Nat}(h1:jV S 0 lo=some l)(h2:jV S n hi=some h)(hp:0<=l/\l<=h/\h<=n):
  (Instr.sliceBounds false n n (lo.map ρ) (hi.map ρ) none).run g.P w= .ok (l.toNat,h.toNat,n) w:=by
 have e1:∀x,lo=some x->∀y:Nat,h=(y:Int)->∀code,(Instr.sliceBound (ρ x) y code).run g.P w= .ok l.toNat w:=λx hx y hy code=>
  Nw hρ (d:=0) (by rw[<-hx];exact h1) y ⟨hp.1,by omega⟩ code
 have e2:∀x,hi=some x->∀code,(Instr.sliceBound (ρ x) n code).run g.P w= .ok h.toNat w:=λx hx code=>
  Nw hρ (d:=n) (by rw[<-hx];exact h2) n ⟨by omega,hp.2.2⟩ code
 have hn:h=((h.toNat:Nat):Int):=by omega
 cases lo with
 | none=>
  have:l=0:=by simpa [jV] using h1.symm
  subst this;cases hi with
  | none=>
   have:h=n:=by simpa [jV] using h2.symm
   subst this;simp[Instr.sliceBounds]
  | some y=>simp[Instr.sliceBounds,e2 y rfl]
 | some x=>
  cases hi with
  | none=>
   have:h=n:=by simpa [jV] using h2.symm
   subst this;simp[Instr.sliceBounds,e1 x rfl n rfl]
  | some y=>simp[Instr.sliceBounds,e2 y rfl,e1 x rfl _ hn]
theorem bQm (hg:g.Ok)(hρ:∀x v,S.ev x=some v->ρ x=v)(o:Oper):
  (rR g S o.op).Means w ((execOp ρ o).run g.P w):=by
 obtain⟨dst,op,ty,pos,aft,gd⟩:=o;simp only;have ly:∀t e,S.ent t=some e->ρ (.tmp t)=e.val:=λt e h=>hρ _ _ (by
  simp only[Env.ev,Env.get];rw[h];cases e<;>rfl)
 unfold rR;split
 ·have:=hρ (.const (.bool true)) _ rfl;simp[PR.Means,execOp,this,Ent.val]
 ·have:=hρ (.const (.bool true)) _ rfl;simp[PR.Means,execOp,this,Ent.val]
 ·have:=hρ (.const (.bool false)) _ rfl;simp[PR.Means,execOp,this,Ent.val]
 ·have:=hρ (.const (.bool false)) _ rfl;simp[PR.Means,execOp,this,Ent.val]
 ·split
  ·rename_i e h;simp[PR.Means,execOp,ly _ _ h]
  ·trivial
 ·split
  ·rename_i e h;simp[PR.Means,execOp,ly _ _ h]
  ·trivial
 ·split
  ·rename_i e h;simp[PR.Means,execOp,hρ _ _ h]
  ·trivial
 ·split
  ·rename_i e h;simp[PR.Means,execOp,hρ _ _ h]
  ·trivial
 ·rename_i t a b;split
  ·rename_i h;have h1:=ly _ _ h;split
   ·have:=hρ (.const (.bool true)) _ rfl;simp[PR.Means,execOp,h1,this,Ent.val,asBool]
   ·have:=hρ (.const (.bool false)) _ rfl;simp[PR.Means,execOp,h1,this,Ent.val,asBool]
   ·split
    ·rename_i h2;simp[PR.Means,execOp,h1,ly _ _ h2,Ent.val,asBool]
    ·trivial
   ·split
    ·rename_i h2;simp[PR.Means,execOp,h1,hρ _ _ h2,Ent.val,asBool]
    ·trivial
  ·rename_i h;have h1:=ly _ _ h;split
   ·have:=hρ (.const (.bool true)) _ rfl;simp[PR.Means,execOp,h1,this,Ent.val,asBool]
   ·have:=hρ (.const (.bool false)) _ rfl;simp[PR.Means,execOp,h1,this,Ent.val,asBool]
   ·split
    ·rename_i h2;simp[PR.Means,execOp,h1,ly _ _ h2,Ent.val,asBool]
    ·trivial
   ·split
    ·rename_i h2;simp[PR.Means,execOp,h1,hρ _ _ h2,Ent.val,asBool]
    ·trivial
  ·trivial
 ·split
  ·rename_i hx hy;have:=bQc (g:=g) (w:=w);simp only[execOp,hρ _ _ hx,hρ _ _ hy,eqGuard];split<;>simpa using this _ _ _ _ _ _
  ·rename_i hx hy;have:=bQd (g:=g) (w:=w);simp only[execOp,hρ _ _ hx,hρ _ _ hy,eqGuard];split<;>simpa using this _ _ _ _
  ·rename_i op t x y _ _ _ a b hx hy;cases hr:o9 g.eqs t with
   | none=>trivial
   | some r=>
    have:=bQj (w:=w) hg op hr x y a b;simp only[execOp,hρ _ _ hx,hρ _ _ hy];simpa using this
  ·rename_i op t x y _ _ _ a b _ _ _ hx hy;cases hr:QT g.tys t with
   | none=>trivial
   | some r=>
    have:=bQh (w:=w) hg op hr a b;generalize ho:iS r.d a b=o at this;simp only[ho];cases o with
    | none=>unfold pi;split<;>first | trivial | (rename_i hn;cases hn)
    | some q=>
     simp only[execOp,hρ _ _ hx,hρ _ _ hy,bQg op t x y ho];simpa using this
  ·trivial
 ·split
  ·rename_i h;simp[PR.Means,execOp,ly _ _ h,Ent.val,Op.unary]
  ·rename_i h;simp[PR.Means,execOp,ly _ _ h,Ent.val,Op.unary]
  ·rename_i h;simp[PR.Means,execOp,ly _ _ h,Ent.val,Op.unary]
  ·trivial
 ·split
  ·rename_i h;simp[PR.Means,execOp,hρ _ _ h,Op.unary,Op.intArith]
  ·trivial
 ·split
  ·rename_i hs ht hx;simp only[PR.Means,execOp,hρ _ _ hx,convert];simp[YU hg hs,YU hg ht,Conv.intToInt]
  ·rename_i hs ht hx;simp only[PR.Means,execOp,hρ _ _ hx,convert];simp[YU hg hs,YU hg ht]
  ·trivial
 ·split
  ·rename_i vs hx;split
   ·rename_i v hv;rw[Ng,Array.getElem?_toList] at hv;simp[PR.Means,execOp,hρ _ _ hx,Instr.extract,hv]
   ·trivial
  ·trivial
 ·split
  ·rename_i x t hxs gm;have h1:=Nn hxs;have h2:=Nn gm;subst h1 h2;split
   ·rename_i r v hr hv;have:=bQe (w:=w) hg hr ty v;simpa [execOp,resolve,invoke,builtin,hρ _ _ hv] using this
   ·trivial
  ·trivial
 ·split
  ·rename_i x y hxs;have h1:=No hxs;subst h1;split
   ·rename_i hx hy;simp[PR.Means,execOp,resolve,invoke,builtin,hρ _ _ hx,hρ _ _ hy,Builtin.min_,Builtin.min2]
   ·trivial
  ·rename_i x y z hxs;have h1:=bQk hxs;subst h1;split
   ·rename_i hx hy hz;simp[PR.Means,execOp,resolve,invoke,builtin,hρ _ _ hx,hρ _ _ hy,hρ _ _ hz,Builtin.min_,Builtin.min2]
   ·trivial
  ·trivial
 ·split
  ·rename_i x y hxs;have h1:=No hxs;subst h1;split
   ·rename_i hx hy;simp[PR.Means,execOp,resolve,invoke,builtin,hρ _ _ hx,hρ _ _ hy,Builtin.max_,Builtin.max2]
   ·trivial
  ·trivial
 ·split
  ·rename_i h;simp[PR.Means,execOp,hρ _ _ h]
  ·rename_i h;simp[PR.Means,execOp,hρ _ _ h]
  ·rename_i h;simp[PR.Means,execOp,hρ _ _ h]
  ·trivial
 ·rename_i t x k;split
  ·rename_i hr hx;split
   ·rename_i fs hd;split
    ·rename_i f hf;split
     ·rename_i rf C9;split
      ·rename_i hz;have hu:=YU hg hr w;rw[hd] at hu;obtain⟨_,i,hi,hs,_⟩:=hg.row C9;have W0:i.size≠0:=by rw[hs];exact Nat.ne_of_beq_eq_false hz
       rw[Eh] at hf;have QW:fs[k]? =some f:=by simpa using hf
       simp[PR.Means,execOp,hρ _ _ hx,Instr.fieldAt,hu,QW,Instr.sureAddr,fieldPlace,sizeOf,typeInfo,hi,W0]
      ·trivial
     ·trivial
    ·trivial
   ·trivial
  ·trivial
 ·rename_i t x k;split
  ·rename_i cs hr hx;split
   ·rename_i fs hd;split
    ·rename_i f hf;have hu:=YU hg hr w;rw[hd] at hu;rw[Eh] at hf;have QW:fs[k]? =some f:=by simpa using hf
     split
     ·rename_i rf C9;have Bf:=YU hg C9 w;obtain⟨_,i,hi,hs,_⟩:=hg.row C9;have ha:(isAgg f.type).run g.P w= .ok (pj rf.d) w:=by
       simp only[isAgg,Sem.run_bind,Bf,Result.andThen_ok];cases rf.d<;>rfl
      split
      ·rename_i LH;simp[PR.Means,execOp,hρ _ _ hx,Instr.field,hu,QW,asAgg,part,ha,LH,sizeOf,typeInfo,hi,hs];apply Array.ext';simp[List.take_drop]
      ·rename_i LH;split
       ·rename_i v hv;rw[Ng] at hv;have hv':cs[f.offset]? =some v:=by simpa using hv
        simp[PR.Means,execOp,hρ _ _ hx,Instr.field,hu,QW,asAgg,part,ha,LH,hv']
       ·trivial
     ·trivial
    ·trivial
   ·trivial
  ·trivial
 ·rename_i t parts;split
  ·rename_i r ps hr ci;have nU:=Ej hρ _ _ ci;have hu:=YU hg hr w;obtain⟨_,i,hi,hs,hb,hz⟩:=hg.row hr;have aQI:(parts.map λ(x:Nat×Operand)=>(x.1,ρ x.2)).toList=ps:=by rw[MS];exact nU
   split
   ·rename_i fs hd;rw[hd] at hu;split
    ·rename_i pl JE;have XJ:=Nv (w:=w) hg _ _ JE;split
     ·rename_i cs ZT;have uo:=Ei _ _ _ _ ZT;have xR:(fs.mapM (m:=Sem) λf=>Prod.mk f.offset <$> sizeOf f.type).run g.P w= .ok pl.toArray w:=by
       rw[Array.mapM_eq_mapM_toList];simp[XJ]
      have Da:(λi=>pl[i]?)=lV pl:=by funext i;rw[Eh]
      have LI:Instr.fill (λi=>pl[i]?) r.z.cells (parts.toList.map λ(x:Nat×Operand)=>(x.1,ρ x.2))=some cs.toArray:=by
       rw[Da];rw[show(parts.toList.map λ(x:Nat×Operand)=>(x.1,ρ x.2))=ps from nU];exact uo
      simp only[PR.Means,execOp,Instr.build,zeroValue,typeInfo];simp[hi,hz,hu,xR,LI]
     ·trivial
    ·trivial
   ·rename_i n e hd;rw[hd] at hu;split
    ·rename_i re X2;obtain⟨_,i2,hi2,kS,_⟩:=hg.row X2;split
     ·rename_i cs ZT;have uo:=Ei _ _ _ _ ZT;have LI:Instr.fill (λi=>some (i*re.sz,re.sz)) r.z.cells (parts.toList.map λ(x:Nat×Operand)=>(x.1,ρ x.2))=some cs.toArray:=by
       rw[show(parts.toList.map λ(x:Nat×Operand)=>(x.1,ρ x.2))=ps from nU];exact uo
      simp only[PR.Means,execOp,Instr.build,zeroValue,typeInfo,sizeOf];simp[hi,hz,hu,hi2,kS,LI]
     ·trivial
    ·trivial
   ·trivial
  ·trivial
 ·split
  ·rename_i r v hr hx;split
   ·rename_i hd;have hu:=YU hg hr w;simp only[PR.Means,execOp,hρ _ _ hx,Instr.makeInterface];simp only[Sem.run_bind,hu,Result.andThen_ok];cases hk:r.d<;>rw[hk] at hd<;>first | (simp[Nj] at hd;done) | simp
   ·trivial
  ·trivial
 ·rename_i f xs ys;split
  ·rename_i a b ha hb;have e1:=zh hρ _ _ ha;have e2:=zh hρ _ _ hb;have e1':xs.map ρ=a.toArray:=by apply Array.ext';simpa using e1
   have wv:ys.map ρ=b.toArray:=by apply Array.ext';simpa using e2
   simp[PR.Means,execOp,Instr.makeFunc,e1',wv]
  ·trivial
 ·split
  ·rename_i hr hx;split
   ·rename_i l h hl hh;intro hp;have hb:=bQl (g:=g) (w:=w) hρ hl hh hp;have hu:=YU hg hr w;simp only[execOp,hρ _ _ hx,Instr.sliceAt,Instr.slice];simp[hu,hb]
   ·trivial
  ·trivial
 ·trivial
end
def Xd (c:Cx)(S:Env)(dst:Option Tmp)(e:Ent)(K:Env->Prop):Prop:=
 match dst with
 | none=>K S
 | some d=>match Nat.blt d c.N.n with
  | true=>K ((d,e)::S)
  | false=>False
def fL:List Value->List Value->(List Value->Prop)->Prop
 | [],QQ,K=>K QQ
 | x::l,QQ,K=>fL l (x::QQ) K
def po (S:Env):List Operand->List Value->(List Value->Prop)->Prop
 | [],QQ,K=>K QQ
 | x::xs,QQ,K=>match S.ev x with
  | some v=>po S xs (v::QQ) K
  | none=>False
def jW (t:Nat):Env->Bool
 | []=>false
 | (k,_)::S=>match Nat.beq k t with
  | true=>true
  | false=>jW t S
def zi (c:Cx)(t:Nat):Bool:=match Nat.blt t c.named with
 | true=>true
 | false=>fJ t c.keep
def WG (p:Nat->Bool):Env->Env->(Env->Prop)->Prop
 | [],QQ,K=>K QQ
 | (t,x)::S,QQ,K=>match p t with
  | true=>(match jW t QQ with
   | true=>WG p S QQ K
   | false=>WG p S ((t,x)::QQ) K)
  | false=>WG p S QQ K
def JG:Value->Bool
 | .agg _=>false
 | .tuple _=>false
 | _=>true
def Ek (c:Cx)(o:Oper)(S:Env)(w:World)(K:Env->World->Prop)(Q:Zg):Prop:=
 match o.op with
 | .load t x=>(match QT c.g.tys t,S.ev x with
  | some r,some (.pointer (some p))=>(match pj r.d with
   | false=>gF w p (λv=>Xd c S o.dst (.v v) (λS=>K S w))
   | true=>jT w p r.sz (λvs=>Xd c S o.dst (.v (.agg vs.toArray)) (λS=>K S w)))
  | _,_=>X8 c o S w K Q)
 | .store t x y=>(match QT c.g.tys t,S.ev x,S.ev y with
  | some r,some (.pointer (some p)),some v=>(match JG v,Nat.beq r.sz 1,o.dst with
   | true,true,none=>dx w p v (λw=>K S w)
   | false,_,none=>(match v with
    | .agg cs=>(match Nat.beq cs.toList.length r.sz with
     | true=>lU c.g.P w p cs.toList (λw=>K S w)
     | false=>X8 c o S w K Q)
    | _=>X8 c o S w K Q)
   | _,_,_=>X8 c o S w K Q)
  | _,_,_=>X8 c o S w K Q)
 | .alloc e=>(match QT c.g.tys e with
  | some r=>pf w e (JR r.z) (λp w=>Xd c S o.dst (.v (.pointer (some p))) (λS=>K S w))
  | none=>X8 c o S w K Q)
 | .box e x=>(match S.ev x with
  | some v=>pf w e (JR v) (λp w=>Xd c S o.dst (.v (.pointer (some p))) (λS=>K S w))
  | none=>X8 c o S w K Q)
 | .indexAddr t x i=>(match QT c.g.tys t,S.ev x,S.ev i with
  | some ⟨_,.slice e,_,_,_⟩,some (.slice b n _),some (.int _ i)=>(match QT c.g.tys e with
   | some r=>Wl b n i r.sz (λp=>Xd c S o.dst (.v (.pointer (some p))) (λS=>K S w))
   | none=>X8 c o S w K Q)
  | some ⟨_,.array n e,_,_,_⟩,some (.pointer (some p)),some (.int _ i)=>(match QT c.g.tys e with
   | some r=>Wl (some p) n i r.sz (λp=>Xd c S o.dst (.v (.pointer (some p))) (λS=>K S w))
   | none=>X8 c o S w K Q)
  | _,_,_=>X8 c o S w K Q)
 | .index t x i=>(match QT c.g.tys t,S.ev x,S.ev i with
  | some ⟨_,.string,_,_,_⟩,some (.string s),some (.int _ i)=>eu s i (λb=>Xd c S o.dst (.v (.int .u8 b)) (λS=>K S w))
  | _,_,_=>X8 c o S w K Q)
 | .call ⟨.value f,xs,_⟩=>(match S.ev f with
  | some (.func (.func n) first cap)=>(match fJ n c.g.fns with
   | true=>fL first.toList [] (λQQ=>po S xs.toList QQ (λQQ=>fL cap.toList QQ (λQQ=>fL QQ [] (λl=>
     gG c.g.P n l w (λv w=>Xd c S o.dst (.v v) (λS=>K S w)) (λch w=>Q (.panic ch) S w)))))
   | false=>X8 c o S w K Q)
  | _=>X8 c o S w K Q)
 | .call ⟨.invoke x nm,xs,_⟩=>(match S.ev x with
  | some (.iface t v)=>po S xs.toList [v] (λQQ=>fL QQ [] (λl=>
    Nf c nm t l w (λv w=>Xd c S o.dst (.v v) (λS=>K S w)) (λch w=>Q (.panic ch) S w)))
  | _=>X8 c o S w K Q)
 | _=>X8 c o S w K Q
def dz (c:Cx)(o:Oper)(S:Env)(w:World)(K:Env->World->Prop)(Q:Zg):Prop:=
 match rR c.g S o.op with
 | .val v=>Xd c S o.dst (.v v) (λS=>K S w)
 | .ent e=>Xd c S o.dst e (λS=>K S w)
 | .norm k n=>dw n (λm=>Xd c S o.dst (.v (.int k m)) (λS=>K S w))
 | .normIf p k n=>fK p n (λm=>Xd c S o.dst (.v (.int k m)) (λS=>K S w))
 | .need p v=>iR p v (λv=>Xd c S o.dst (.v v) (λS=>K S w))
 | .no=>Ek c o S w K Q
def KM:List Oper->Nat->Option Oper
 | [],_=>none
 | x::_,0=>some x
 | _::l,n+1=>KM l n
def Yn (c:Cx)(all:List Oper):List Oper->Env->World->(Env->World->Prop)->Zg->Prop
 | [],S,w,K,_=>WG (zi c) S [] (λS=>K S w)
 | o::rest,S,w,K,Q=>match o.guard with
  | none=>dz c o S w (λS w=>Yn c all rest S w K Q) Q
  | some (
      j,want)=>match KM all j with
   | some oj=>(match oj.dst with
    | some d=>(match S.ent d with
     | some .t=>(match want with
      | true=>dz c o S w (λS w=>Yn c all rest S w K Q) Q
      | false=>Xd c S o.dst (.v undef) (λS=>Yn c all rest S w K Q))
     | some .f=>(match want with
      | false=>dz c o S w (λS w=>Yn c all rest S w K Q) Q
      | true=>Xd c S o.dst (.v undef) (λS=>Yn c all rest S w K Q))
     | some (.v (.bool b))=>(match want with
      | true=>KB b (dz c o ((d,.t)::S) w (λS w=>Yn c all rest S w K Q) Q) (Xd c ((d,.f)::S) o.dst (.v undef) (λS=>Yn c all rest S w K Q))
      | false=>KB b (Xd c ((d,.t)::S) o.dst (.v undef) (λS=>Yn c all rest S w K Q)) (dz c o ((d,.f)::S) w (λS w=>Yn c all rest S w K Q) Q))
     | some (.v (.tuple _))=>Xd c S o.dst (.v undef) (λS=>Yn c all rest S w K Q)
     | _=>False)
    | none=>False)
   | none=>False
def zj:Code->Nat
 | .region id _ _=>id
 | .seq x _=>zj x
 | .block _ x=>zj x
 | .loop x=>zj x
 | _=>1000000
def bQn (c:Cx):Code->Bool
 | .region _ _ _=>false
 | x=>fJ (zj x) c.cuts
def Va (c:Cx):Code->Env->World->Zg->Prop
 | .skip,S,w,Q=>Q .normal S w
 | .label _,S,w,Q=>Q .normal S w
 | .region id ops ve,S,w,Q=>(match ve with
  | false=>Yn c ops.toList ops.toList S w (λS w=>Q .normal S w) Q
  | true=>Wm c id ops.toList S w Q)
 | .seq x y,S,w,Q=>(match bQn c x with
  | true=>jU c (.seq x y) S w Q
  | false=>Va c x S w (λe S w=>match e with
   | .normal=>Va c y S w Q
   | e=>Q e S w))
 | .cond b x y,S,w,Q=>(match b with
  | .tmp t=>(match S.ent t with
   | some .t=>Va c x S w Q
   | some .f=>Va c y S w Q
   | some (.v (.bool b))=>KB b (Va c x ((t,.t)::S) w Q) (Va c y ((t,.f)::S) w Q)
   | _=>False)
  | .const (.bool true)=>Va c x S w Q
  | .const (.bool false)=>Va c y S w Q
  | _=>False)
 | .block id x,S,w,Q=>Va c x S w (λe S w=>match e with
  | .exit i=>(match Nat.beq i id with
   | true=>Q .normal S w
   | false=>Q (.exit i) S w)
  | e=>Q e S w)
 | .loop x,S,w,Q=>zg c x S w Q
 | .exit id,S,w,Q=>Q (.exit id) S w
 | .ret,S,w,Q=>Q .ret S w
 | x,S,w,Q=>jU c x S w Q
section
variable {c:Cx} {a:Act} {S:Env} {w:World} {K:Env->World->Prop} {Q:Zg}
theorem Zu {dst:Option Tmp}{e:Ent}{K:Env->Prop}(h:Xd c S dst e K)(hf:Fits c.N S a):
  ∃S',Fits c.N S' (a.put dst e.val)/\K S':=by
 unfold Xd at h;split at h
 ·exact⟨S,by simpa [Act.put] using hf,h⟩
 ·rename_i d;split at h
  ·rename_i hd;exact⟨_,hf.put (by rw[gC] at hd;exact hd) e,h⟩
  ·exact h.elim
theorem lW (l QQ:List Value)(K:List Value->Prop):fL l QQ K=K (l.reverse++QQ):=by
 induction l generalizing QQ with
 | nil=>simp[fL]
 | cons x l ih=>simp[fL,ih]
theorem El {xs:List Operand}{QQ:List Value}{K:List Value->Prop}(h:po S xs QQ K)(hf:Fits c.N S a):
  K ((xs.map a.eval).reverse++QQ):=by
 induction xs generalizing QQ with
 | nil=>simpa [po] using h
 | cons x xs ih=>
  simp only[po] at h;split at h
  ·rename_i v hv;have:=ih h;simp only[Vl,rI,J7,List.singleton_append];rw[hf.ev hv];exact this
  ·exact h.elim
theorem Nx {t:Nat}{S:Env}(h:jW t S=false):S.ent t=none:=by
 induction S with
 | nil=>rfl
 | cons p S ih=>
  obtain⟨k,x⟩:=p;simp only[jW] at h;split at h
  ·cases h
  ·rename_i hb;simp[Env.ent,hb,ih h]
theorem bQo {t:Nat}{S:Env}(h:jW t S=true):∃x,S.ent t=some x:=by
 induction S with
 | nil=>cases h
 | cons p S ih=>
  obtain⟨k,x⟩:=p;simp only[jW] at h;split at h
  ·rename_i hb;exact⟨x,by simp[Env.ent,hb]⟩
  ·rename_i hb;simp[Env.ent,hb,ih h]
theorem zk (S T:Env)(k:Nat):Env.ent (S++T) k=(S.ent k).or (Env.ent T k):=by
 induction S with
 | nil=>simp[Env.ent]
 | cons p S ih=>
  obtain⟨t,x⟩:=p;simp only[YF,Env.ent];split<;>simp[ih]
theorem uX {p:Nat->Bool}{N:Slots}{a:Act}(h1:a.tmps.size=N.n)(h2:a.defers=N.ds){K:Env->Prop}:∀(T QQ:Env),(∀k x,QQ.ent k=some x->p k=true)->
  (∀k x,p k=true->Env.ent (QQ++T) k=some x->a.tmps[k]? =some x.val)->WG p T QQ K->∃S',Fits N S' a/\K S'
 | [],QQ,hp,hh,h=>⟨QQ,⟨h1,h2,λk x hk=>hh k x (hp k x hk) (by simpa using hk)⟩,h⟩
 | (t,x)::T,QQ,hp,hh,h=>by
  simp only[WG] at h;split at h
  ·rename_i iB;split at h
   ·rename_i hk;refine uX h1 h2 T QQ hp (λk y uq hy=>hh k y uq ?_) h;rw[zk] at hy ⊢;cases hb:Nat.beq t k with
    | true=>
     have:=Vk hb;subst this;obtain⟨z,hz⟩:=bQo hk;simp only[hz,Option.some_or] at hy ⊢;exact hy
    | false=>simpa [Env.ent,hb] using hy
   ·rename_i hk;refine uX h1 h2 T ((t,x)::QQ) (λk y hy=>?_) (λk y uq hy=>hh k y uq ?_) h
    ·simp only[Env.ent] at hy;split at hy
     ·rename_i hb;rw[<-Vk hb];exact iB
     ·exact hp k y hy
    ·rw[YF] at hy;simp only[Env.ent] at hy;rw[zk];split at hy
     ·rename_i hb;have:=Vk hb;subst this;rw[Nx hk];simpa [Env.ent] using hy
     ·rename_i hb;rw[zk] at hy;simpa [Env.ent,hb] using hy
  ·rename_i iB;refine uX h1 h2 T QQ hp (λk y uq hy=>hh k y uq ?_) h;rw[zk] at hy ⊢;have hb:Nat.beq t k=false:=by
    cases hb:Nat.beq t k with
    | false=>rfl
    | true=>have:=Vk hb;subst this;rw[uq] at iB;cases iB
   simpa [Env.ent,hb] using hy
abbrev jX (c:Cx)(K:Env->World->Prop):Act->World->Prop:=λa' w'=>∃S',Fits c.N S' a'/\K S' w'
theorem bH {o:Oper}{v:Value}{w':World}{N:Act->World->Prop}{Q':Exit->Act->World->Prop}
  (hr:(execOp a.eval o).run c.g.P w= .ok (.value v) w') (h:N (a.put o.dst v) w'):o.wp c.g.P a w N Q':=by
 unfold Oper.wp;rw[hr];exact h
theorem cz (hg:c.g.Ok){o:Oper}(hf:Fits c.N S a){r:PR}(hr:rR c.g S o.op=r):r.Means w ((execOp a.eval o).run c.g.P w):=by
 rw[<-hr];exact bQm hg (λx v h=>hf.ev h) o
theorem bQp {P:Program}(t:TypeId)(i:TypeInfo)(hi:P.info? t=some i)(hs:i.size=1)(p:Addr)(v:Value)(hv:JG v=true)(w:World):
  (storeVar t p v).run P w=(store p v).run P w:=by
 have hc:v.cells= #[v]:=by cases v<;>first | rfl | (simp[JG] at hv)
 simp[storeVar,hc,sizeOf,typeInfo,hi,hs,storeCells,Addr.add]
theorem lX (hg:c.g.Ok){t:Nat}{r:TyRow}(hr:QT c.g.tys t=some r)(w:World):(isAgg t).run c.g.P w= .ok (pj r.d) w:=by
 simp only[isAgg,Sem.run_bind,YU hg hr,Result.andThen_ok];cases r.d<;>rfl
theorem run_sizeOf (hg:c.g.Ok){t:Nat}{r:TyRow}(hr:QT c.g.tys t=some r)(w:World):(sizeOf t).run c.g.P w= .ok r.sz w:=by
 obtain⟨_,i,hi,hs,_⟩:=hg.row hr;simp[sizeOf,typeInfo,hi,hs]
theorem zl {P:Program}{n:Nat}(hc:y9 P n)(args:Array Value)(w:World):(callFunc n args).run P w= .ok (.enter n args) w:=by
 obtain⟨fn,h1,h2,h3⟩:=hc;have Jt:fn.body≠none:=λe=>by simp[e] at h2
 have mU:fn.name≠ "runtime.NumGoroutine" :=by simpa using h3
 simp[callFunc,h1,Jt,mU]
theorem bQq (hg:c.g.Ok){t:Nat}{r:MRow}(hr:uT c.g.ms t=some r)(v:Value)(n:Nat)(w:World):(method (n+1) t v r.name).run c.g.P w= .ok (r.f,v) w:=by
 obtain⟨⟨h1,h2⟩,rfl⟩:=aQ9 hr hg.ms;cases hi:c.g.P.info? r.t with
 | none=>simp[hi] at h1
 | some i=>
  cases hm:i.methods.find? (λm=>m.name==r.name)with
  | none=>simp[hi,hm] at h1
  | some m=>
   simp[hi,hm] at h1;cases hu:c.g.P.underlying r.t with
   | none=>simp[hu] at h2
   | some d=>
    simp[hu] at h2;have hp:m.path.toList=[]:=by rw[h1.1]
    cases hb:r.ptr with
    | false=>
     rw[hb] at h1 h2;have hx:(receiverAt r.t (.val v) false (if m.path.isEmpty=true then some ((r.name.splitOn ".").getLastD r.name)else none)).run c.g.P w= .ok v w:=by
      unfold receiverAt;rw[Sem.run_bind,ZU hu];cases d<;>first | (simp[Ea] at h2;done) | simp[Place.get]
     unfold method;simp only[typeInfo,Sem.run_bind,run_program,Result.andThen_ok,hi,Sem.run_pure,hm,hp,follow,h1.2];simp only[hx,Result.andThen_ok]
    | true=>
     rw[hb] at h1 h2;have hx:(receiverAt r.t (.val v) true (if m.path.isEmpty=true then some ((r.name.splitOn ".").getLastD r.name)else none)).run c.g.P w= .ok v w:=by
      unfold receiverAt;rw[Sem.run_bind,ZU hu];cases d<;>first | (simp[Ea] at h2;done) | simp[Place.get]
     unfold method;simp only[typeInfo,Sem.run_bind,run_program,Result.andThen_ok,hi,Sem.run_pure,hm,hp,follow,h1.2];simp only[hx,Result.andThen_ok]
theorem bQr (hg:c.g.Ok){o:Oper}(h:Ek c o S w K Q)(hf:Fits c.N S a):o.wp c.g.P a w (jX c K) (Up c Q):=by
 have KA:X8 c o S w K Q->o.wp c.g.P a w (jX c K) (Up c Q):=λh=>by unfold X8 at h;exact h a hf
 obtain⟨dst,op,ty,pos,aft,gd⟩:=o;unfold Ek at h;split at h
 ·rename_i t x Zm;simp only at Zm;subst Zm;split at h
  ·rename_i r p hr hx;split at h
   ·rename_i hd;unfold gF at h;obtain⟨v,hv,hk⟩:=h;refine bH (v:=v) (w':=w) ?_ (Zu (e:=.v v) hk hf);have:=hf.ev hx;simp[execOp,this,Instr.loadAt,Instr.sureAddr,loadVar,lX hg hr,hd,load,Sem.run,hv]
   ·rename_i hd;unfold jT at h;obtain⟨vs,hl,hv,hk⟩:=h;refine bH (v:=.agg vs.toArray) (w':=w) ?_ (Zu (e:=.v (.agg vs.toArray)) hk hf);have:=hf.ev hx;have h2:=run_loadCells_list (P:=c.g.P) (w:=w) p vs hv;rw[hl] at h2;simp[execOp,this,Instr.loadAt,Instr.sureAddr,loadVar,lX hg hr,hd,run_sizeOf hg hr,h2]
  ·exact KA h
 ·rename_i t x y Zm;simp only at Zm;subst Zm;split at h
  ·rename_i r p v hr hx hy;split at h
   ·rename_i hs h1 hd;unfold dx at h;obtain⟨⟨u,hu⟩,gn,hk⟩:=h;obtain⟨_,i,hi,XJ,_⟩:=hg.row hr;have e1:=hf.ev hx;have e2:=hf.ev hy;have tv:i.size=1:=by rw[XJ];exact Vk h1
    have iC:=bQp t i hi tv p v hs w;simp only at hd;subst hd;unfold Oper.wp;have:(execOp a.eval {dst:=none,op:=.store t x y,type:=ty,pos:=pos,after:=aft,guard:=gd}).run c.g.P w= .ok .skip (w.setCell p v):=by
     simp[execOp,e1,e2,Instr.storeAt,Instr.sureAddr,iC,store];cases v<;>first | (simp[JG] at hs;done) | simp[Sem.run,hu,gn]
    rw[this];exact⟨S,by simpa [Act.put] using hf,hk⟩
   ·rename_i hs hd;split at h
    ·rename_i cs;split at h
     ·rename_i hn;unfold lU at h;obtain⟨w',Ja,hk⟩:=h;have hn:=Vk hn;have e1:=hf.ev hx;have e2:=hf.ev hy;simp only at hd;subst hd;unfold Oper.wp;have:(execOp a.eval {dst:=none,op:=.store t x y,type:=ty,pos:=pos,after:=aft,guard:=gd}).run c.g.P w= .ok .skip w':=by
       simp only[execOp,e1,e2,Instr.storeAt,Instr.sureAddr,storeVar,Value.cells];simp only[Sem.run_bind,Sem.run_pure,run_sizeOf hg hr,Result.andThen_ok];rw[if_neg (by simpa using hn)];simp[Ja]
      rw[this];exact⟨S,by simpa [Act.put] using hf,hk⟩
     ·exact KA h
    ·exact KA h
   ·exact KA h
  ·exact KA h
 ·rename_i e Zm;simp only at Zm;subst Zm;split at h
  ·rename_i r hr;obtain⟨_,i,hi,_,_,hz⟩:=hg.row hr;unfold pf at h;refine bH (v:=.pointer (some ⟨w.heap.size,0,none⟩)) (w':=w.alloc (.cells (JR r.z).toArray e)) ?_ (Zu (e:=.v _) h hf);have hc:r.z.cells=(JR r.z).toArray:=by rw[<-pm]
   simp[execOp,Instr.alloc,zeroValue,typeInfo,hi,hz,newVar,newRow,hc]
  ·exact KA h
 ·rename_i e x Zm;simp only at Zm;subst Zm;split at h
  ·rename_i v hx;unfold pf at h;have e1:=hf.ev hx;refine bH (v:=.pointer (some ⟨w.heap.size,0,none⟩)) (w':=w.alloc (.cells (JR v).toArray e)) ?_ (Zu (e:=.v _) h hf);have hc:v.cells=(JR v).toArray:=by rw[<-pm]
   simp[execOp,e1,Instr.box,newVar,newRow,hc]
  ·exact KA h
 ·rename_i t x ix Zm;simp only at Zm;subst Zm;split at h
  ·rename_i e b n k i hr hx hi;split at h
   ·rename_i r X2;unfold Wl at h;obtain⟨p,rfl,h0,h1,hk⟩:=h;refine bH (v:=.pointer (some (p.add (i.toNat*r.sz)))) (w':=w) ?_ (Zu (e:=.v _) hk hf);have e1:=hf.ev hx;have e2:=hf.ev hi;simp[execOp,e1,e2,Instr.indexAt,asIntOf,YU hg hr,run_sizeOf hg X2,h0,h1]
   ·exact KA h
  ·rename_i n e p k i hr hx hi;split at h
   ·rename_i r X2;unfold Wl at h;obtain⟨p',hp,h0,h1,hk⟩:=h;cases hp;refine bH (v:=.pointer (some (p.add (i.toNat*r.sz)))) (w':=w) ?_ (Zu (e:=.v _) hk hf);have e1:=hf.ev hx;have e2:=hf.ev hi;simp[execOp,e1,e2,Instr.indexAt,Instr.sureAddr,asIntOf,YU hg hr,run_sizeOf hg X2,h0,h1]
   ·exact KA h
  ·exact KA h
 ·rename_i t x ix Zm;simp only at Zm;subst Zm;split at h
  ·rename_i s k i hr hx hi;unfold eu at h;obtain⟨b,h0,h1,hk⟩:=h;refine bH (v:=.int .u8 b.toNat) (w':=w) ?_ (Zu (e:=.v _) hk hf);have e1:=hf.ev hx;have e2:=hf.ev hi;simp[execOp,e1,e2,Instr.index,asIntOf,YU hg hr,h0,h1]
  ·exact KA h
 ·rename_i f xs ts Zm;simp only at Zm;subst Zm;split at h
  ·rename_i n first cap hv;split at h
   ·rename_i hm;have hc:=hg.fns n (zf hm);rw[lW] at h;have h2:=El h hf;rw[lW,lW] at h2;simp only[KW,List.reverse_append,List.reverse_reverse,J7] at h2;unfold gG at h2;have e1:=hf.ev hv;unfold Oper.wp;have:(execOp a.eval {dst:=dst,op:=.call ⟨.value f,xs,ts⟩,type:=ty,pos:=pos,after:=aft,guard:=gd}).run c.g.P w=
      .ok (.enter n (first.toList++(List.map a.eval xs.toList++cap.toList)).toArray) w:=by
     simp[execOp,resolve,e1,Deferred.ofValue,invoke,zl hc]
    rw[this];unfold Oper.upon;refine h2.mono λe w' he=>?_
    cases e with
    | returned v=>exact Zu (e:=.v v) he hf
    | panicked ch=>exact⟨S,hf,he⟩
    | outgrown=>exact he.elim
   ·exact KA h
  ·exact KA h
 ·rename_i x nm xs ts Zm;simp only at Zm;subst Zm;split at h
  ·rename_i t v hv
   ·have h2:=El h hf;rw[lW] at h2;simp only[KW,List.reverse_append,List.reverse_reverse,rI,List.reverse_nil,bF] at h2;unfold Nf at h2;obtain⟨r,hr,rfl,hm,h2⟩:=h2
    ·have hc:=hg.fns r.f (zf hm);unfold gG at h2;have e1:=hf.ev hv;unfold Oper.wp;have qW:=bQq hg hr v (c.g.P.types.size+99) w;have:(execOp a.eval {dst:=dst,op:=.call ⟨.invoke x r.name,xs,ts⟩,type:=ty,pos:=pos,after:=aft,guard:=gd}).run c.g.P w=
       .ok (.enter r.f ([v]++List.map a.eval xs.toList).toArray) w:=by
      have jC:(#[Value.iface t v]++Array.map a.eval xs).extract 1 (#[Value.iface t v]++Array.map a.eval xs).size=Array.map a.eval xs:=by
       apply Array.ext';simp;exact Jc (by simp)
      have lz:(callMethod (.iface t v) r.name (Array.map a.eval xs)).run c.g.P w= .ok (.enter r.f ([v]++List.map a.eval xs.toList).toArray) w:=by
       simp only[callMethod,Sem.run_bind,run_program,Result.andThen_ok];rw[show c.g.P.types.size+Made.depth=c.g.P.types.size+99+1 from rfl,qW];simp[zl hc]
      simp only[execOp,resolve,e1,Sem.run_bind,Sem.run_pure,Result.andThen_ok,invoke];rw[jC,show(#[Value.iface t v]++Array.map a.eval xs)[0]? =some (Value.iface t v) from (Array.getElem?_append_left (show 0<1 by decide)).trans rfl];exact lz
     rw[this];unfold Oper.upon;refine h2.mono λe w' he=>?_
     cases e with
     | returned v=>exact Zu (e:=.v v) he hf
     | panicked ch=>exact⟨S,hf,he⟩
     | outgrown=>exact he.elim
  ·exact KA h
 ·exact KA h
theorem pq (hg:c.g.Ok){o:Oper}(h:dz c o S w K Q)(hf:Fits c.N S a):o.wp c.g.P a w (jX c K) (Up c Q):=by
 unfold dz at h;split at h
 ·rename_i v hp;have hm:=cz (w:=w) hg hf hp;exact bH hm (Zu (e:=.v v) h hf)
 ·rename_i e hp;have hm:=cz (w:=w) hg hf hp;exact bH hm (Zu (e:=e) h hf)
 ·rename_i k n hp;have hm:=cz (w:=w) hg hf hp;unfold dw at h;exact bH hm (Zu (e:=.v (.int k n)) h hf)
 ·rename_i p k n hp;have hm:=cz (w:=w) hg hf hp;unfold fK at h;exact bH (hm h.1) (Zu (e:=.v (.int k n)) h.2 hf)
 ·rename_i p v hp;have hm:=cz (w:=w) hg hf hp;unfold iR at h;exact bH (hm h.1) (Zu (e:=.v v) h.2 hf)
 ·exact bQr hg h hf
theorem fM (l:List Oper)(n:Nat):KM l n=l[n]? :=by
 induction l generalizing n with
 | nil=>simp[KM]
 | cons x l ih=>cases n<;>simp[KM,ih]
theorem jY {all:List Oper}{o oj:Oper}{j d:Nat}{want b:Bool}(Kz:o.guard=some (j,want))(hj:KM all j=some oj)(hd:oj.dst=some d)(ha:a.tmps[d]? =some (.bool b)):
  Region.wanted o (yielded all.toArray a.tmps)=(b==want):=by
 rw[fM] at hj;simp[Region.wanted,Kz,yielded,hj,hd,ha]
theorem Em {all:List Oper}{o oj:Oper}{j d:Nat}{want:Bool}{vs:Array Value}(Kz:o.guard=some (j,want))(hj:KM all j=some oj)(hd:oj.dst=some d)(ha:a.tmps[d]? =some (.tuple vs)):
  Region.wanted o (yielded all.toArray a.tmps)=false:=by
 rw[fM] at hj;simp[Region.wanted,Kz,yielded,hj,hd,ha]
theorem iT (hg:c.g.Ok)(all:List Oper):∀(l:List Oper)(S:Env)(w:World)(a:Act),Yn c all l S w K Q->Fits c.N S a->
  wpList c.g.P all.toArray (λe a w=>Exit.then (jX c K) (Up c Q) e a w) l a w
 | [],S,w,a,h,hf=>by
  simp only[Yn] at h;exact uX (p:=zi c) hf.size hf.defers S [] (λk x hk=>by simp[Env.ent] at hk) (λk x _ hk=>hf.has k x hk) h
 | o::rest,S,w,a,h,hf=>by
  have go:∀(S:Env),dz c o S w (λS w=>Yn c all rest S w K Q) Q->Fits c.N S a->o.wp c.g.P a w (wpList c.g.P all.toArray (λe a w=>Exit.then (jX c K) (Up c Q) e a w) rest) (λe a w=>Exit.then (jX c K) (Up c Q) e a w):=λS h hf=>by
   have h1:=pq hg h hf;have h2:=Oper.wp_mono (K':=wpList c.g.P all.toArray (λe a w=>Exit.then (jX c K) (Up c Q) e a w) rest) (λa' w' ⟨S',QW,hk⟩=>iT hg all rest S' w' a' hk QW) h1;unfold Oper.wp at h2 ⊢;generalize (execOp a.eval o).run c.g.P w=r at*;cases r with
   | ok n w'=>
    cases n<;>simp only[Oper.upon] at h2 ⊢ <;> exact h2
   | halt x w'=>cases x<;>simp only[Oper.upon] at h2 ⊢ <;> exact h2
  have no:∀(S:Env),Xd c S o.dst (.v undef) (λS=>Yn c all rest S w K Q)->Fits c.N S a->wpList c.g.P all.toArray (λe a w=>Exit.then (jX c K) (Up c Q) e a w) rest (a.put o.dst undef) w:=λS h hf=>by
   obtain⟨S',QW,hk⟩:=Zu h hf;exact iT hg all rest S' w _ hk QW
  have fit:∀(d:Nat) (b:Bool) (e:Ent),S.ent d=some (.v (.bool b))->e.val= .bool b->Fits c.N ((d,e)::S) a:=λd b e hd he=>by
   refine⟨hf.size,hf.defers,λk x hk=>?_⟩;simp only[Env.ent] at hk;split at hk
   ·rename_i hb;have:=Vk hb;subst this;cases hk;rw[he];exact hf.has _ _ hd
   ·exact hf.has _ _ hk
  simp only[Yn] at h;unfold wpList;split at h
  ·rename_i Kz;rw[Qf (by simp[Region.wanted,Kz])];exact .inl (go S h hf)
  ·rename_i j want Kz;split at h
   ·rename_i oj hj;split at h
    ·rename_i d hd;split at h
     ·rename_i ZH;have hw:=jY Kz hj hd (hf.has _ _ ZH);split at h
      ·rw[Qf (by rw[hw];rfl)];exact .inl (go S h hf)
      ·rw[if_neg (by rw[hw];decide)];exact no S h hf
     ·rename_i ZH;have hw:=jY Kz hj hd (hf.has _ _ ZH);split at h
      ·rw[Qf (by rw[hw];rfl)];exact .inl (go S h hf)
      ·rw[if_neg (by rw[hw];decide)];exact no S h hf
     ·rename_i b ZH;have hw:=jY Kz hj hd (hf.has _ _ ZH);split at h
      ·unfold KB at h;cases b with
       | true=>rw[Qf (by rw[hw];rfl)];exact .inl (go _ (h.1 rfl) (fit d true .t ZH rfl))
       | false=>rw[if_neg (by rw[hw];decide)];exact no _ (h.2 rfl) (fit d false .f ZH rfl)
      ·unfold KB at h;cases b with
       | true=>rw[if_neg (by rw[hw];decide)];exact no _ (h.1 rfl) (fit d true .t ZH rfl)
       | false=>rw[Qf (by rw[hw];rfl)];exact .inl (go _ (h.2 rfl) (fit d false .f ZH rfl))
     ·rename_i ZH;rw[if_neg (by rw[Em Kz hj hd (hf.has _ _ ZH)];decide)];exact no S h hf
     ·exact h.elim
    ·exact h.elim
   ·exact h.elim
theorem iU (hg:c.g.Ok):∀(x:Code)(S:Env)(w:World)(Q:Zg)(a:Act),Va c x S w Q->Fits c.N S a->x.wp c.g.P (Up c Q) a w:=by
 intro x;have hc:∀(x:Code) (S:Env) (w:World) (Q:Zg) (a:Act),jU c x S w Q->Fits c.N S a->x.wp c.g.P (Up c Q) a w:=λx S w Q a h hf=>by
  unfold jU at h;exact h a hf
 induction x with
 | skip=>exactλS w Q a h hf=>wp_skip ⟨S,hf,h⟩
 | label l=>exactλS w Q a h hf=>wp_label ⟨S,hf,h⟩
 | region id ops ve=>
  intro S w Q a h hf;simp only[Va] at h;cases ve with
  | false=>
   have h1:=iT hg _ _ _ _ _ h hf;refine wp_mono (wp_region_list ?_) (Q:=λe a w=>Exit.then (jX c (λS w=>Q .normal S w)) (Up c Q) e a w) (λe a w hq=>?_)
   ·simpa using h1
   ·cases e<;>exact hq
  | true=>
   unfold Wm at h;simpa using h a hf
 | seq x y ihx ihy=>
  intro S w Q a h hf;simp only[Va] at h;split at h
  ·exact hc _ _ _ _ _ h hf
  ·refine wp_seq (wp_mono (ihx _ _ _ _ h hf) (λe a w hq=>?_));obtain⟨S',QW,hq⟩:=hq;cases e<;>first | exact ihy _ _ _ _ hq QW | exact⟨S',QW,hq⟩
 | cond b x y ihx ihy=>
  intro S w Q a h hf;simp only[Va] at h;split at h
  ·rename_i t;split at h
   ·rename_i ht;exact wp_cond_true (by have:=hf.has _ _ ht;simp[Act.eval,this,Ent.val]) (ihx _ _ _ _ h hf)
   ·rename_i ht;exact wp_cond_false (by have:=hf.has _ _ ht;simp[Act.eval,this,Ent.val]) (ihy _ _ _ _ h hf)
   ·rename_i b ht;have Db:a.eval (.tmp t)= .bool b:=by have:=hf.has _ _ ht;simp[Act.eval,this,Ent.val]
    have fit:∀(e:Ent),e.val= .bool b->Fits c.N ((t,e)::S) a:=λe he=>by
     refine⟨hf.size,hf.defers,λk x hk=>?_⟩;simp only[Env.ent] at hk;split at hk
     ·rename_i hb;have:=Vk hb;subst this;cases hk;rw[he];exact hf.has _ _ ht
     ·exact hf.has _ _ hk
    unfold KB at h;cases b with
    | true=>exact wp_cond_true Db (ihx _ _ _ _ (h.1 rfl) (fit .t rfl))
    | false=>exact wp_cond_false Db (ihy _ _ _ _ (h.2 rfl) (fit .f rfl))
   ·exact h.elim
  ·exact wp_cond_true rfl (ihx _ _ _ _ h hf)
  ·exact wp_cond_false rfl (ihy _ _ _ _ h hf)
  ·exact h.elim
 | block id x ih=>
  intro S w Q a h hf;simp only[Va] at h;refine wp_block (wp_mono (ih _ _ _ _ h hf) (λe a w hq=>?_));obtain⟨S',QW,hq⟩:=hq;cases e with
  | exit i=>
   simp only at hq;simp only[Exit.inBlock];split at hq
   ·rename_i hb;rw[Qf (Vk hb)];exact⟨S',QW,hq⟩
   ·rename_i hb;rw[if_neg (λe=>by subst e;simp at hb)];exact⟨S',QW,hq⟩
  | normal=>exact⟨S',QW,hq⟩
  | goto l=>exact⟨S',QW,hq⟩
  | ret=>exact⟨S',QW,hq⟩
  | panic ch=>exact⟨S',QW,hq⟩
  | outgrown=>exact⟨S',QW,hq⟩
 | loop x ih=>intro S w Q a h hf;simp only[Va] at h;unfold zg at h;exact h a hf
 | exit id=>exactλS w Q a h hf=>wp_exit ⟨S,hf,h⟩
 | ret=>exactλS w Q a h hf=>wp_ret ⟨S,hf,h⟩
 | rangeFunc f ps as_ b ih1 T9=>exactλS w Q a h hf=>hc _ _ _ _ _ h hf
 | scope x ih=>exactλS w Q a h hf=>hc _ _ _ _ _ h hf
 | goto l=>exactλS w Q a h hf=>hc _ _ _ _ _ h hf
 | refuse y=>exactλS w Q a h hf=>hc _ _ _ _ _ h hf
end
def jZ:List Nat->List Value->Env->(Env->Prop)->Prop
 | _,[],S,K=>K S
 | t::ts,v::vs,S,K=>jZ ts vs ((t,.v v)::S) K
 | [],_::_,_,_=>False
def Ny (w:World)(R:Value->World->Prop):List Value->Prop
 | [v]=>R v w
 | vs=>R (.tuple vs.toArray) w
def dB (c:Cx)(S:Env)(w:World)(R:Value->World->Prop):List ResultVar->List Value->Prop
 | [],QQ=>fL QQ [] (λl=>Ny w R l)
 | .tmp t::rs,QQ=>(match S.get t with
  | some v=>dB c S w R rs (v::QQ)
  | none=>False)
 | .cell t ty::rs,QQ=>(match QT c.g.tys ty,S.get t with
  | some r,some (.pointer (some p))=>(match pj r.d with
   | false=>gF w p (λv=>dB c S w R rs (v::QQ))
   | true=>jT w p r.sz (λvs=>dB c S w R rs (.agg vs.toArray::QQ)))
  | _,_=>False)
def zm (c:Cx)(rs:List ResultVar)(R:Value->World->Prop):Zg:=λe S w=>match e with
 | .normal=>dB c S w R rs []
 | .ret=>dB c S w R rs []
 | _=>False
def zo (tmps:Array Value):ResultVar->Sem Value
 | .tmp t=>pure (tmps.getD t undef)
 | .cell t ty=>do loadVar ty (<-asAddr (tmps.getD t undef))
theorem bQs (fn:Func)(tmps:Array Value):results fn tmps=(do
  let vs<-fn.results.mapM (zo tmps)
  pure (if h:vs.size=1 then vs[0] else .tuple vs)):=by
 unfold results;congr 2
theorem zp {c:Cx}(hg:c.g.Ok){S:Env}{a:Act}{w:World}(hf:Fits c.N S a)(R:Value->World->Prop):∀(rs:List ResultVar)(QQ:List Value),dB c S w R rs QQ->
  ∃vs:List Value,(rs.mapM (zo a.tmps)).run c.g.P w= .ok vs w/\Ny w R (QQ.reverse++vs)
 | [],QQ,h=>by
  simp only[dB,lW,KW] at h;exact⟨[],by simp,by simpa using h⟩
 | .tmp t::rs,QQ,h=>by
  simp only[dB] at h;split at h
  ·rename_i v hv;obtain⟨vs,h1,h2⟩:=zp hg hf R rs _ h;have:=hf.get hv;refine⟨v::vs,?_,by simpa using h2⟩;simp only[List.mapM_cons,Sem.run_bind];rw[show(zo a.tmps (.tmp t)).run c.g.P w= .ok v w by simp[zo,this]];simp only[Result.andThen_ok];rw[h1];simp
  ·exact h.elim
 | .cell t ty::rs,QQ,h=>by
  simp only[dB] at h;split at h
  ·rename_i r p hr hp;have hp:=hf.get hp;split at h
   ·rename_i hd;unfold gF at h;obtain⟨v,hv,h⟩:=h;obtain⟨vs,h1,h2⟩:=zp hg hf R rs _ h;refine⟨v::vs,?_,by simpa using h2⟩;have e1:(do loadVar ty (<-asAddr (a.tmps.getD t undef)):Sem Value).run c.g.P w= .ok v w:=by
     simp[hp,asAddr,loadVar,lX hg hr,hd,load,Sem.run,hv]
    rw[List.mapM_cons,Sem.run_bind];show Result.andThen ((do loadVar ty (<-asAddr (a.tmps.getD t undef)):Sem Value).run c.g.P w) _=_;rw[e1];simp only[Result.andThen_ok,Sem.run_bind];rw[h1];simp
   ·rename_i hd;unfold jT at h;obtain⟨cs,hl,hv,h⟩:=h;obtain⟨vs,h1,h2⟩:=zp hg hf R rs _ h;have h3:=run_loadCells_list (P:=c.g.P) (w:=w) p cs hv;rw[hl] at h3;refine⟨.agg cs.toArray::vs,?_,by simpa using h2⟩;have e1:(do loadVar ty (<-asAddr (a.tmps.getD t undef)):Sem Value).run c.g.P w= .ok (.agg cs.toArray) w:=by
     simp[hp,asAddr,loadVar,lX hg hr,hd,run_sizeOf hg hr,h3]
    rw[List.mapM_cons,Sem.run_bind];show Result.andThen ((do loadVar ty (<-asAddr (a.tmps.getD t undef)):Sem Value).run c.g.P w) _=_;rw[e1];simp only[Result.andThen_ok,Sem.run_bind];rw[h1];simp
  ·exact h.elim
theorem iV {c:Cx}(hg:c.g.Ok){S:Env}{a:Act}{w:World}(hf:Fits c.N S a){R:Value->World->Prop}{fn:Func}(h:dB c S w R fn.results.toList []):
  ∃v,(results fn a.tmps).run c.g.P w= .ok v w/\R v w:=by
 obtain⟨vs,h1,h2⟩:=zp hg hf R _ _ h;have e:fn.results=fn.results.toList.toArray:=by simp
 rw[bQs,e,List.mapM_toArray];simp only[Sem.run_bind,Sem.run_map];rw[h1];simp only[Result.andThen_ok,Sem.run_pure,List.size_toArray,bF,List.reverse_nil] at h2 ⊢
 match vs,h2 with
 | [],h2=>exact⟨_,rfl,h2⟩
 | [v],h2=>exact⟨_,rfl,h2⟩
 | v::u::vs,h2=>exact⟨_,rfl,h2⟩
theorem fN {N:Nat}(args:List Value)(hN:args.length<=N)(S:Env)(hS:∀k x,S.ent k=some x->args[k]? =some x.val):
  Fits ⟨N,[]⟩ S {tmps:=args.toArray++Array.replicate (N-args.toArray.size) undef,defers:=[]}:=by
 refine⟨by simp;omega,rfl,λk x hk=>?_⟩;have h1:=hS k x hk;have:k<args.length:=(ZY.1 h1).1;rw[Array.getElem?_append_left (by simpa using this)];simpa using h1
theorem uY {K:Env->Prop}:∀(ts:List Nat)(vs:List Value)(S:Env)(m:Nat)(args:List Value),(∀j t,ts[j]? =some t->t=m+j)->args.drop m=vs->(∀k x,S.ent k=some x->args[k]? =some x.val)->
  jZ ts vs S K->∃S',(∀k x,Env.ent S' k=some x->args[k]? =some x.val)/\K S'
 | _,[],S,_,_,_,_,hS,h=>⟨S,hS,by unfold jZ at h;exact h⟩
 | [],_::_,_,_,_,_,_,_,h=>by simp[jZ] at h
 | t::ts,v::vs,S,m,args,ht,hd,hS,h=>by
  simp only[jZ] at h;have ww:t=m:=by have:=ht 0 t rfl;omega
  subst ww;have hv:args[t]? =some v:=by
   have:=QC (λl=>l[0]?) hd;simpa using this
  refine uY ts vs _ (t+1) args (λj u hu=>by have:=ht (j+1) u hu;omega) ?_ (λk x hk=>?_) h
  ·rw[<-lP,hd]<;>rfl
  ·simp only[Env.ent] at hk;split at hk
   ·rename_i hb;have:=Vk hb;subst this;cases hk;exact hv
   ·exact hS k x hk
theorem QF {c:Cx}(hg:c.g.Ok){f:FuncId}{fn:Func}{x:Code}{args:List Value}{w:World}{R:Value->World->Prop}(hf:c.g.P.funcs[f]? =some fn)(hb:fn.body=some x)(hN:⟨fn.ntmps,[]⟩=c.N)
  (hl:Nat.ble args.length c.N.n=true) (h:jZ [0,1,2,3,4,5,6,7,8,9,10,11,12,13,14,15] args [] (λS=>Va c x S w (zm c fn.results.toList R))):Fn c.g.P f args w R:=by
 unfold Fn;obtain⟨S,hS,hx⟩:=uY _ args [] 0 args (λj t ht=>by
  match j,ht with
  | 0,ht | 1,ht | 2,ht | 3,ht | 4,ht | 5,ht | 6,ht | 7,ht | 8,ht | 9,ht | 10,ht | 11,ht | 12,ht | 13,ht | 14,ht | 15,ht=>simp at ht;omega
  | j+16,ht=>simp at ht) (by simp) (λk x hk=>by simp[Env.ent] at hk) h
 refine calls_of_wp hf hb ?_;have hn:fn.ntmps=c.N.n:=QC Slots.n hN;have J5:=fN (N:=c.N.n) args (gD hl) S hS;rw[<-hn,hN] at J5;refine wp_mono (iU hg x S w _ _ hx J5) (λe a w' hq=>?_);obtain⟨S',QW,hq⟩:=hq;have ZH:a.defers=[]:=by rw[QW.defers,<-hN]
 cases e with
 | normal=>obtain⟨v,h1,h2⟩:=iV hg QW hq;exact⟨ZH,v,h1,h2⟩
 | ret=>obtain⟨v,h1,h2⟩:=iV hg QW hq;exact⟨ZH,v,h1,h2⟩
 | exit i=>exact hq.elim
 | goto l=>exact hq.elim
 | panic ch=>exact hq.elim
 | outgrown=>exact hq.elim
@[irreducible] def FnP (P:Program) (f:FuncId) (l:List Value) (w:World) (R:Value->World->Prop) (Xg:List PanicEntry->World->Prop):Prop:=Calls P f l.toArray w fun
 | .returned v,w'=>R v w'
 | .panicked ch,w'=>Xg ch w'
 | .outgrown,_=>False
def bQt (c:Cx)(rs:List ResultVar)(R:Value->World->Prop)(Xg:List PanicEntry->World->Prop):Zg
 | .panic ch,_,w=>Xg ch w
 | e,S,w=>zm c rs R e S w
theorem aR {c:Cx}(hg:c.g.Ok){f:FuncId}{fn:Func}{x:Code}{args:List Value}{w:World}{R:Value->World->Prop}{Xg:List PanicEntry->World->Prop}(hf:c.g.P.funcs[f]? =some fn)(hb:fn.body=some x)(hN:⟨fn.ntmps,[]⟩=c.N)
  (hl:Nat.ble args.length c.N.n=true) (h:jZ [0,1,2,3,4,5,6,7,8,9,10,11,12,13,14,15] args [] (λS=>Va c x S w (bQt c fn.results.toList R Xg))):FnP c.g.P f args w R Xg:=by
 unfold FnP;obtain⟨S,hS,hx⟩:=uY _ args [] 0 args (λj t ht=>by
  match j,ht with
  | 0,ht | 1,ht | 2,ht | 3,ht | 4,ht | 5,ht | 6,ht | 7,ht | 8,ht | 9,ht | 10,ht | 11,ht | 12,ht | 13,ht | 14,ht | 15,ht=>simp at ht;omega
  | j+16,ht=>simp at ht) (by simp) (λk x hk=>by simp[Env.ent] at hk) h
 refine calls_of_wp hf hb ?_;have hn:fn.ntmps=c.N.n:=QC Slots.n hN;have J5:=fN (N:=c.N.n) args (gD hl) S hS;rw[<-hn,hN] at J5;refine wp_mono (iU hg x S w _ _ hx J5) (λe a w' hq=>?_);obtain⟨S',QW,hq⟩:=hq;have ZH:a.defers=[]:=by rw[QW.defers,<-hN]
 cases e with
 | normal=>obtain⟨v,h1,h2⟩:=iV hg QW hq;exact⟨ZH,v,h1,h2⟩
 | ret=>obtain⟨v,h1,h2⟩:=iV hg QW hq;exact⟨ZH,v,h1,h2⟩
 | exit i=>exact hq.elim
 | goto l=>exact hq.elim
 | panic ch=>exact⟨ZH,hq⟩
 | outgrown=>exact hq.elim
theorem FnP.mono {P:Program}{f:FuncId}{l:List Value}{w:World}{R R':Value->World->Prop}{p p':List PanicEntry->World->Prop}(h:FnP P f l w R p)(hr:∀v w',R v w'->R' v w')(hp:∀ch w',p ch w'->p' ch w'):FnP P f l w R' p':=by
 unfold FnP at*;exact Calls.mono h λe w' he=>by cases e<;>first | exact hr _ _ he | exact hp _ _ he | exact he
theorem Fn.toP {P:Program}{f:FuncId}{l:List Value}{w:World}{R:Value->World->Prop}{p:List PanicEntry->World->Prop}(h:Fn P f l w R):FnP P f l w R p:=by
 unfold Fn at h;unfold FnP;exact Calls.mono h λe w' he=>by cases e<;>first | exact he | exact he.elim
theorem XO {P:Program}{f:FuncId}{l:List Value}{w:World}{R:Value->World->Prop}{p:List PanicEntry->World->Prop}{K:Value->World->Prop}{Xg:List PanicEntry->World->Prop}(h:FnP P f l w R p)(k:∀v w',R v w'->K v w')(kp:∀ch w',p ch w'->Xg ch w'):gG P f l w K Xg:=by
 unfold FnP at h;unfold gG;exact Calls.mono h λe w' he=>by cases e<;>first | exact k _ _ he | exact kp _ _ he | exact he
theorem Fn.mono {P:Program}{f:FuncId}{l:List Value}{w:World}{R R':Value->World->Prop}(h:Fn P f l w R)(hr:∀v w',R v w'->R' v w'):Fn P f l w R':=by
 unfold Fn at*;exact Calls.mono h λe w' he=>by cases e<;>first | exact hr _ _ he | exact he
theorem call {P:Program}{f:FuncId}{l:List Value}{w:World}{R:Value->World->Prop}{K:Value->World->Prop}{Xg:List PanicEntry->World->Prop}(h:Fn P f l w R)(k:∀v w',R v w'->K v w'):gG P f l w K Xg:=by
 unfold Fn at h;unfold gG;exact Calls.mono h λe w' he=>by cases e<;>first | exact k _ _ he | exact he.elim
def En:List Oper->List Nat->List Nat
 | [],QQ=>QQ
 | o::l,QQ=>match o.dst with
  | some d=>En l (d::QQ)
  | none=>En l QQ
def iW:Code->List Nat->List Nat
 | .region _ ops _,QQ=>En ops.toList QQ
 | .seq x y,QQ=>iW y (iW x QQ)
 | .cond _ x y,QQ=>iW y (iW x QQ)
 | .block _ x,QQ=>iW x QQ
 | .loop x,QQ=>iW x QQ
 | .scope x,QQ=>iW x QQ
 | .rangeFunc _ _ x y,QQ=>iW y (iW x QQ)
 | _,QQ=>QQ
def ew (x:Code)(t:Nat):Bool:=match fJ t (iW x [])with
 | true=>false
 | false=>true
def dC:List Nat->List Value->Env->(Env->Prop)->Prop
 | [],[],S,K=>K S
 | t::ts,v::vs,S,K=>dC ts vs ((t,.v v)::S) K
 | _,_,_,_=>False
def Has (T S:Env):Prop:=T.map (λp=>S.get p.1)=T.map (λp=>some p.2.val)
theorem bQu {T:Env}{k:Nat}{x:Ent}(h:T.ent k=some x):(k,x)∈T:=by
 induction T with
 | nil=>cases h
 | cons p T ih=>
  obtain⟨t,y⟩:=p;simp only[Env.ent] at h;split at h
  ·rename_i hb;cases h;rw[Vk hb];simp
  ·simp[ih h]
theorem Has.fits {T S:Env}{N:Slots}{a:Act}(h:Has T S)(hf:Fits N S a):Fits N T a:=by
 refine⟨hf.size,hf.defers,λk x hk=>?_⟩;have hm:=bQu hk;exact hf.get ((List.map_inj_left.1 h) (k,x) hm)
theorem Eo {ts:List Nat}{vs:List Value}{S:Env}{K:Env->Prop}(h:dC ts vs S K):∃T,T=(ts.zip (vs.map Ent.v)).reverse++S/\K T:=by
 induction ts generalizing vs S with
 | nil=>
  cases vs with
  | nil=>exact⟨S,rfl,h⟩
  | cons v vs=>exact h.elim
 | cons t ts ih=>
  cases vs with
  | nil=>exact h.elim
  | cons v vs=>
   obtain⟨T,rfl,hk⟩:=ih h;exact⟨_,by simp,hk⟩
def lY (p:Nat->Bool):Env->Env->Env
 | [],QQ=>QQ
 | (t,x)::S,QQ=>match p t with
  | true=>(match jW t QQ with
   | true=>lY p S QQ
   | false=>lY p S ((t,x)::QQ))
  | false=>lY p S QQ
theorem zq (p:Nat->Bool)(S QQ:Env)(K:Env->Prop):WG p S QQ K=K (lY p S QQ):=by
 induction S generalizing QQ with
 | nil=>rfl
 | cons q S ih=>
  obtain⟨t,x⟩:=q;simp only[WG,lY];split
  ·split<;>exact ih _
  ·exact ih _
section
variable {c:Cx} {S:Env} {w:World} {Q:Zg} {α:Type}
theorem bQv {x:Code}(J:α->Act->World->Prop)(μ:α->World->Nat){a:Act}(s0:α)(h0:J s0 a w)
  (hr:∀s a w,J s a w->x.wp c.g.P (λe a' w'=>match e with
   | .normal=>∃s2,J s2 a' w'/\μ s2 w'<μ s w
   | e=>Up c Q e a' w') a w):(Code.loop x).wp c.g.P (Up c Q) a w:=by
 intro b k cs;have key:∀n s a w,μ s w=n->J s a w->∃e a' w',Up c Q e a' w'/\Arrives c.g.P (lone (b.at a (.code x:: .inLoop x::k)) cs w) b k cs e a' w':=by
  intro n;induction n using Nat.strongRecOn with
  | _ n ih=>
   intro s a w hn hJ;obtain⟨e,a1,w1,hq,nV⟩:=hr s a w hJ b (.inLoop x::k) cs;cases e with
   | normal=>
    obtain⟨s2,hJ2,Xc⟩:=hq;obtain⟨e2,a2,w2,wx,jQL⟩:=ih (μ s2 w1) (hn▸Xc) s2 a1 w1 rfl hJ2;exact⟨e2,a2,w2,wx,.of_steps (Steps.trans nV (.one step_inLoop)) jQL⟩
   | exit id=>exact⟨_,a1,w1,hq,.pass (x:=.inLoop x) rfl (λ_ _=>.inl (by simp)) nV⟩
   | goto l=>exact⟨_,a1,w1,hq,.pass (x:=.inLoop x) rfl (λ_ _=>.inl (by simp)) nV⟩
   | ret=>exact⟨_,a1,w1,hq,.pass (x:=.inLoop x) rfl (λ_ _=>.inl (by simp)) nV⟩
   | panic ch=>exact⟨_,a1,w1,hq,.pass (x:=.inLoop x) rfl (λ_ _=>.inl (by simp)) nV⟩
   | outgrown=>exact⟨_,a1,w1,hq,.pass (x:=.inLoop x) rfl (λ_ _=>.inl (by simp)) nV⟩
 obtain⟨e,a',w',hq,nV⟩:=key _ s0 a w rfl h0;exact⟨e,a',w',hq,.of_steps (.one step_loop) nV⟩
def bQw (sl:List Nat)(val:α->List Value)(S0:Env)(I:α->World->Prop)(μ:α->World->Nat)(m:Nat)(S2:Env)(w2:World):Prop:=
 ∃s2,dC sl (val s2) S0 (λT=>Has T S2)/\I s2 w2/\μ s2 w2<m
theorem loop (hg:c.g.Ok){x:Code}(sl:List Nat)(val:α->List Value)(I:α->World->Prop)(μ:α->World->Nat)(s0:α)
  (h0:WG (ew x) S [] (λS0=>dC sl (val s0) S0 (λT=>Has T S))) (hI:I s0 w)
  (hr:WG (ew x) S [] (λS0=>∀s w',I s w'->dC sl (val s) S0 (λS1=>Va c x S1 w' (λe S2 w2=>match e with
   | .normal=>bQw sl val S0 I μ (μ s w') S2 w2
   | e=>Q e S2 w2)))):zg c x S w Q:=by
 rw[zq] at h0 hr;unfold zg;intro a hf;generalize lY (ew x) S []=S0 at*;have lA:∀s (K:Env->Prop),dC sl (val s) S0 K->K ((sl.zip ((val s).map Ent.v)).reverse++S0):=λs K h=>by
  obtain⟨T,rfl,hk⟩:=Eo h;exact hk
 refine bQv (c:=c) (x:=x) (Q:=Q) (J:=λs a' w'=>Fits c.N ((sl.zip ((val s).map Ent.v)).reverse++S0) a'/\I s w') (μ:=μ) s0 ⟨(lA s0 _ h0).fits hf,hI⟩ ?_;intro s a' w' ⟨QW,hI'⟩;have h1:=iU hg x _ w' _ a' (lA s _ (hr s w' hI')) QW;refine wp_mono h1 (λe a2 w2 hq=>?_);obtain⟨S2,ZR,hq⟩:=hq;cases e with
 | normal=>
  obtain⟨s2,hz,hI2,hm⟩:=hq;exact⟨s2,⟨(lA s2 _ hz).fits ZR,hI2⟩,hm⟩
 | exit i=>exact⟨S2,ZR,hq⟩
 | goto l=>exact⟨S2,ZR,hq⟩
 | ret=>exact⟨S2,ZR,hq⟩
 | panic ch=>exact⟨S2,ZR,hq⟩
 | outgrown=>exact⟨S2,ZR,hq⟩
theorem fO (cs:List Nat)(hg:c.g.Ok){x y:Code}(sl:List Nat)(val:α->List Value)(R:α->World->Prop)
  (hx:WG (ew x) S [] (λS0=>Va {c with cuts:=cs} x S w (λe S2 w2=>match e with
   | .normal=>∃s,dC sl (val s) S0 (λT=>Has T S2)/\R s w2
   | e=>Q e S2 w2)))
  (hy:WG (ew x) S [] (λS0=>∀s w',R s w'->dC sl (val s) S0 (λS1=>Va c y S1 w' Q))):jU c (.seq x y) S w Q:=by
 rw[zq] at hx hy;unfold jU;intro a hf;generalize lY (ew x) S []=S0 at*;have lA:∀s (K:Env->Prop),dC sl (val s) S0 K->K ((sl.zip ((val s).map Ent.v)).reverse++S0):=λs K h=>by
  obtain⟨T,rfl,hk⟩:=Eo h;exact hk
 refine wp_seq (wp_mono (iU (c:={c with cuts:=cs}) hg x S w _ a hx hf) (λe a2 w2 hq=>?_));obtain⟨S2,ZR,hq⟩:=hq;cases e with
 | normal=>
  obtain⟨s,hz,hR⟩:=hq;exact iU hg y _ w2 Q a2 (lA s _ (hy s w2 hR)) ((lA s _ hz).fits ZR)
 | exit i=>exact⟨S2,ZR,hq⟩
 | goto l=>exact⟨S2,ZR,hq⟩
 | ret=>exact⟨S2,ZR,hq⟩
 | panic ch=>exact⟨S2,ZR,hq⟩
 | outgrown=>exact⟨S2,ZR,hq⟩
theorem Nz (hg:c.g.Ok){x y:Code}(sl:List Nat)(val:α->List Value)(R:α->World->Prop)
  (hx:WG (ew x) S [] (λS0=>Va {c with cuts:=[]} x S w (λe S2 w2=>match e with
   | .normal=>∃s,dC sl (val s) S0 (λT=>Has T S2)/\R s w2
   | e=>Q e S2 w2)))
  (hy:WG (ew x) S [] (λS0=>∀s w',R s w'->dC sl (val s) S0 (λS1=>Va c y S1 w' Q))):jU c (.seq x y) S w Q:=
 fO [] hg sl val R hx hy
end
@[irreducible] def rS (C:World->Prop) (p:Addr) (K:Value->Prop):Prop:=∃v,(∀w,C w->w.cell? p=some v)/\K v
@[irreducible] def rT (C:World->Prop) (p:Addr) (n:Nat) (K:List Value->Prop):Prop:=∃vs:List Value,vs.length=n/\(∀w,C w->∀j v,vs[j]? =some v->w.cell? (p.add j)=some v)/\K vs
@[irreducible] def NC (P:Program) (f:FuncId) (l:List Value) (C:World->Prop) (K:Value->Prop):Prop:=∃v,(∀w,C w->Fn P f l w (λu w'=>u=v/\C w'))/\K v
@[irreducible] def j0 (c:Cx) (o:Oper) (S:Env) (C:World->Prop) (K:Env->Prop):Prop:=∃v,(∀a w,Fits c.N S a->C w->o.quietAt c.g.P a C w v)/\Xd c S o.dst (.v v) K
def Eq (
     c:Cx) (o:Oper) (S:Env) (C:World->Prop) (K:Env->Prop):Prop:=
 match o.op with
 | .load t x=>(match QT c.g.tys t,S.ev x with
  | some r,some (.pointer (some p))=>(match pj r.d with
   | false=>rS C p (λv=>Xd c S o.dst (.v v) K)
   | true=>rT C p r.sz (λvs=>Xd c S o.dst (.v (.agg vs.toArray)) K))
  | _,_=>j0 c o S C K)
 | .indexAddr t x i=>(match QT c.g.tys t,S.ev x,S.ev i with
  | some ⟨_,.slice e,_,_,_⟩,some (.slice b n _),some (.int _ i)=>(match QT c.g.tys e with
   | some r=>Wl b n i r.sz (λp=>Xd c S o.dst (.v (.pointer (some p))) K)
   | none=>j0 c o S C K)
  | _,_,_=>j0 c o S C K)
 | .index t x i=>(match QT c.g.tys t,S.ev x,S.ev i with
  | some ⟨_,.string,_,_,_⟩,some (.string s),some (.int _ i)=>eu s i (λb=>Xd c S o.dst (.v (.int .u8 b)) K)
  | _,_,_=>j0 c o S C K)
 | .call ⟨.value f,xs,_⟩=>(match S.ev f with
  | some (.func (.func n) first cap)=>(match fJ n c.g.fns with
   | true=>fL first.toList [] (λQQ=>po S xs.toList QQ (λQQ=>fL cap.toList QQ (λQQ=>fL QQ [] (λl=>
     NC c.g.P n l C (λv=>Xd c S o.dst (.v v) K)))))
   | false=>j0 c o S C K)
  | _=>j0 c o S C K)
 | _=>j0 c o S C K
def lZ (c:Cx)(o:Oper)(S:Env)(C:World->Prop)(K:Env->Prop):Prop:=
 match rR c.g S o.op with
 | .val v=>Xd c S o.dst (.v v) K
 | .ent e=>Xd c S o.dst e K
 | .norm k n=>dw n (λm=>Xd c S o.dst (.v (.int k m)) K)
 | .normIf p k n=>fK p n (λm=>Xd c S o.dst (.v (.int k m)) K)
 | .need p v=>iR p v (λv=>Xd c S o.dst (.v v) K)
 | .no=>Eq c o S C K
def aa (
      c:Cx) (all:List Oper):List Oper->Env->(World->Prop)->(Env->Prop)->Prop
 | [],S,_,K=>WG (zi c) S [] K
 | o::rest,S,C,K=>match o.guard with
  | none=>lZ c o S C (λS=>aa c all rest S C K)
  | some (
      j,want)=>match KM all j with
   | some oj=>(match oj.dst with
    | some d=>(match S.ent d with
     | some .t=>(match want with
      | true=>lZ c o S C (λS=>aa c all rest S C K)
      | false=>Xd c S o.dst (.v undef) (λS=>aa c all rest S C K))
     | some .f=>(match want with
      | false=>lZ c o S C (λS=>aa c all rest S C K)
      | true=>Xd c S o.dst (.v undef) (λS=>aa c all rest S C K))
     | some (.v (.bool b))=>(match want with
      | true=>KB b (lZ c o ((d,.t)::S) C (λS=>aa c all rest S C K)) (Xd c ((d,.f)::S) o.dst (.v undef) (λS=>aa c all rest S C K))
      | false=>KB b (Xd c ((d,.t)::S) o.dst (.v undef) (λS=>aa c all rest S C K)) (lZ c o ((d,.f)::S) C (λS=>aa c all rest S C K)))
     | some (.v (.tuple _))=>Xd c S o.dst (.v undef) (λS=>aa c all rest S C K)
     | _=>False)
    | none=>False)
   | none=>False
section
variable {c:Cx} {a:Act} {S:Env} {C:World->Prop} {K:Env->Prop}
abbrev rU (c:Cx)(K:Env->Prop):Act->Prop:=λa'=>∃S',Fits c.N S' a'/\K S'
theorem pr {o:Oper}{v:Value}{N:Act->Prop}(hr:∀w,(execOp a.eval o).run c.g.P w= .ok (.value v) w)(h:N (a.put o.dst v)):o.quiet c.g.P a C N:=
 ⟨v,λw _=>by unfold Oper.quietAt;rw[hr w];exact⟨rfl,rfl⟩,h⟩
theorem ND {o:Oper}{v:Value}{N:Act->Prop}(hr:∀w,C w->(execOp a.eval o).run c.g.P w= .ok (.value v) w)(h:N (a.put o.dst v)):o.quiet c.g.P a C N:=
 ⟨v,λw hw=>by unfold Oper.quietAt;rw[hr w hw];exact⟨rfl,rfl⟩,h⟩
theorem bQx (hg:c.g.Ok){o:Oper}(h:Eq c o S C K)(hf:Fits c.N S a):o.quiet c.g.P a C (rU c K):=by
 have KA:j0 c o S C K->o.quiet c.g.P a C (rU c K):=λh=>by
  unfold j0 at h;obtain⟨v,h1,h2⟩:=h;exact⟨v,λw hw=>h1 a w hf hw,Zu (e:=.v v) h2 hf⟩
 obtain⟨dst,op,ty,pos,aft,gd⟩:=o;unfold Eq at h;split at h
 ·rename_i t x Zm;simp only at Zm;subst Zm;split at h
  ·rename_i r p hr hx;have e1:=hf.ev hx;split at h
   ·rename_i hd;unfold rS at h;obtain⟨v,hv,hk⟩:=h;refine ND (v:=v) (λw hw=>?_) (Zu (e:=.v v) hk hf);simp[execOp,e1,Instr.loadAt,Instr.sureAddr,loadVar,lX hg hr,hd,load,Sem.run,hv w hw]
   ·rename_i hd;unfold rT at h;obtain⟨vs,hl,hv,hk⟩:=h;refine ND (v:=.agg vs.toArray) (λw hw=>?_) (Zu (e:=.v (.agg vs.toArray)) hk hf);have h2:=run_loadCells_list (P:=c.g.P) (w:=w) p vs (hv w hw);rw[hl] at h2;simp[execOp,e1,Instr.loadAt,Instr.sureAddr,loadVar,lX hg hr,hd,run_sizeOf hg hr,h2]
  ·exact KA h
 ·rename_i t x ix Zm;simp only at Zm;subst Zm;split at h
  ·rename_i e b n k i hr hx hi;split at h
   ·rename_i r X2;unfold Wl at h;obtain⟨p,rfl,h0,h1,hk⟩:=h;have e1:=hf.ev hx;have e2:=hf.ev hi;refine pr (v:=.pointer (some (p.add (i.toNat*r.sz)))) (λw=>?_) (Zu (e:=.v _) hk hf);simp[execOp,e1,e2,Instr.indexAt,asIntOf,YU hg hr,run_sizeOf hg X2,h0,h1]
   ·exact KA h
  ·exact KA h
 ·rename_i t x ix Zm;simp only at Zm;subst Zm;split at h
  ·rename_i s k i hr hx hi;unfold eu at h;obtain⟨b,h0,h1,hk⟩:=h;have e1:=hf.ev hx;have e2:=hf.ev hi;refine pr (v:=.int .u8 b.toNat) (λw=>?_) (Zu (e:=.v _) hk hf);simp[execOp,e1,e2,Instr.index,asIntOf,YU hg hr,h0,h1]
  ·exact KA h
 ·rename_i f xs ts Zm;simp only at Zm;subst Zm;split at h
  ·rename_i n first cap hv;split at h
   ·rename_i hm;have hc:=hg.fns n (zf hm);rw[lW] at h;have h2:=El h hf;rw[lW,lW] at h2;simp only[KW,List.reverse_append,List.reverse_reverse,J7] at h2;unfold NC at h2;obtain⟨v,h3,hk⟩:=h2;have e1:=hf.ev hv;refine⟨v,λw hw=>?_,Zu (e:=.v v) hk hf⟩;unfold Oper.quietAt;have:(execOp a.eval {dst:=dst,op:=.call ⟨.value f,xs,ts⟩,type:=ty,pos:=pos,after:=aft,guard:=gd}).run c.g.P w=
      .ok (.enter n (first.toList++(List.map a.eval xs.toList++cap.toList)).toArray) w:=by
     simp[execOp,resolve,e1,Deferred.ofValue,invoke,zl hc]
    rw[this];refine⟨rfl,?_⟩;have h4:=h3 w hw;unfold Fn at h4;refine h4.mono λe w' he=>?_
    cases e with
    | returned u=>exact⟨by rw[he.1],he.2⟩
    | panicked ch=>exact he.elim
    | outgrown=>exact he.elim
   ·exact KA h
  ·exact KA h
 ·exact KA h
theorem bQy (hg:c.g.Ok){o:Oper}(h:lZ c o S C K)(hf:Fits c.N S a):o.quiet c.g.P a C (rU c K):=by
 unfold lZ at h;split at h
 ·rename_i v hp;exact pr (λw=>cz (w:=w) hg hf hp) (Zu (e:=.v v) h hf)
 ·rename_i e hp;exact pr (λw=>cz (w:=w) hg hf hp) (Zu (e:=e) h hf)
 ·rename_i k n hp;unfold dw at h;exact pr (λw=>cz (w:=w) hg hf hp) (Zu (e:=.v (.int k n)) h hf)
 ·rename_i p k n hp;unfold fK at h;exact pr (λw=>cz (w:=w) hg hf hp h.1) (Zu (e:=.v (.int k n)) h.2 hf)
 ·rename_i p v hp;unfold iR at h;exact pr (λw=>cz (w:=w) hg hf hp h.1) (Zu (e:=.v v) h.2 hf)
 ·exact bQx hg h hf
theorem zr (hg:c.g.Ok)(all:List Oper):∀(l:List Oper)(S:Env)(a:Act),aa c all l S C K->Fits c.N S a->wpQuiet c.g.P all.toArray C (rU c K) l a
 | [],S,a,h,hf=>by
  simp only[aa] at h;exact uX (p:=zi c) hf.size hf.defers S [] (λk x hk=>by simp[Env.ent] at hk) (λk x _ hk=>hf.has k x hk) h
 | o::rest,S,a,h,hf=>by
  have go:∀(S:Env),lZ c o S C (λS=>aa c all rest S C K)->Fits c.N S a->o.quiet c.g.P a C (wpQuiet c.g.P all.toArray C (rU c K) rest):=λS h hf=>
   Oper.quiet_mono (λa' ⟨S',QW,hk⟩=>zr hg all rest S' a' hk QW) (bQy hg h hf)
  have no:∀(S:Env),Xd c S o.dst (.v undef) (λS=>aa c all rest S C K)->Fits c.N S a->wpQuiet c.g.P all.toArray C (rU c K) rest (a.put o.dst undef):=λS h hf=>by
   obtain⟨S',QW,hk⟩:=Zu h hf;exact zr hg all rest S' _ hk QW
  have fit:∀(d:Nat) (b:Bool) (e:Ent),S.ent d=some (.v (.bool b))->e.val= .bool b->Fits c.N ((d,e)::S) a:=λd b e hd he=>by
   refine⟨hf.size,hf.defers,λk x hk=>?_⟩;simp only[Env.ent] at hk;split at hk
   ·rename_i hb;have:=Vk hb;subst this;cases hk;rw[he];exact hf.has _ _ hd
   ·exact hf.has _ _ hk
  simp only[aa] at h;unfold wpQuiet;split at h
  ·rename_i Kz;rw[Qf (by simp[Region.wanted,Kz])];exact go S h hf
  ·rename_i j want Kz;split at h
   ·rename_i oj hj;split at h
    ·rename_i d hd;split at h
     ·rename_i ZH;have hw:=jY Kz hj hd (hf.has _ _ ZH);split at h
      ·rw[Qf (by rw[hw];rfl)];exact go S h hf
      ·rw[if_neg (by rw[hw];decide)];exact no S h hf
     ·rename_i ZH;have hw:=jY Kz hj hd (hf.has _ _ ZH);split at h
      ·rw[Qf (by rw[hw];rfl)];exact go S h hf
      ·rw[if_neg (by rw[hw];decide)];exact no S h hf
     ·rename_i b ZH;have hw:=jY Kz hj hd (hf.has _ _ ZH);split at h
      ·unfold KB at h;cases b with
       | true=>rw[Qf (by rw[hw];rfl)];exact go _ (h.1 rfl) (fit d true .t ZH rfl)
       | false=>rw[if_neg (by rw[hw];decide)];exact no _ (h.2 rfl) (fit d false .f ZH rfl)
      ·unfold KB at h;cases b with
       | true=>rw[if_neg (by rw[hw];decide)];exact no _ (h.1 rfl) (fit d true .t ZH rfl)
       | false=>rw[Qf (by rw[hw];rfl)];exact go _ (h.2 rfl) (fit d false .f ZH rfl)
     ·rename_i ZH;rw[if_neg (by rw[Em Kz hj hd (hf.has _ _ ZH)];decide)];exact no S h hf
     ·exact h.elim
    ·exact h.elim
   ·exact h.elim
end
theorem Er {P:Program}{ops:Array Oper}{C:World->Prop}{Q Q':Act->Prop}(h:∀a,Q a->Q' a):∀{l:List Oper}{a:Act},wpQuiet P ops C Q l a->wpQuiet P ops C Q' l a
 | [],a,hh=>h a hh
 | o::l,a,hh=>by
  unfold wpQuiet at*;split
  ·rename_i hw;rw[Qf hw] at hh;exact Oper.quiet_mono (λa' h'=>Er h h') hh
  ·rename_i hw;rw[if_neg hw] at hh;exact Er h hh
theorem bQz {c:Cx}(hg:c.g.Ok){id:Nat}{ops:List Oper}{S:Env}{w:World}{Q:Zg}(C:World->Prop)(hC:C w.drew)(hB:Region.lexB .any ops.toArray=true)
  (h:aa c ops ops S C (λS=>∀w',C w'->Q .normal S w')):Wm c id ops S w Q:=by
 unfold Wm;intro a hf;refine wp_region_quiet (C:=C) hg.mixed hB hC ?_;have:=zr hg ops ops S a h hf;refine Er ?_ this;intro a' ⟨S',QW,hk⟩ w' Qb;exact⟨S',QW,hk w' Qb⟩
theorem uZ {P:Program}{ops:Array Oper}{w:World}{Q:Act->Prop}:∀{l:List Oper}{a:Act},wpQuiet P ops (λw'=>w'=w) Q l a->wpStill P ops w Q l a
 | [],a,h=>h
 | o::l,a,h=>by
  unfold wpQuiet at h;unfold wpStill;split
  ·rename_i hw;rw[Qf hw] at h;obtain⟨v,h1,h2⟩:=h;have h3:=h1 w rfl;unfold Oper.quietAt at h3;unfold Oper.still;generalize (execOp a.eval o).run P w=r at*;cases r with
   | ok n w'=>
    cases n<;>simp only[Oper.quietUpon] at h3<;>simp only[Oper.stillUpon]
    case value u=>obtain⟨rfl,rfl⟩:=h3;exact⟨rfl,uZ h2⟩
    case skip=>obtain⟨rfl,rfl⟩:=h3;exact⟨rfl,uZ h2⟩
    case enter f args=>exact⟨h3.1,v,h3.2,uZ h2⟩
   | halt x w'=>simp only[Oper.quietUpon] at h3
  ·rename_i hw;rw[if_neg hw] at h;exact uZ h
theorem u7 {P:Program}{ops:Array Oper}{w:World}{Q Q':Act->Prop}(h:∀a,Q a->Q' a):∀{l:List Oper}{a:Act},wpStill P ops w Q l a->wpStill P ops w Q' l a
 | [],a,hh=>h a hh
 | o::l,a,hh=>by
  unfold wpStill at*;split
  ·rename_i hw;rw[Qf hw] at hh;unfold Oper.still at*;generalize (execOp a.eval o).run P w=r at*;cases r with
   | ok n w'=>
    cases n<;>simp only[Oper.stillUpon] at hh ⊢
    case value u=>exact⟨hh.1,u7 h hh.2⟩
    case skip=>exact⟨hh.1,u7 h hh.2⟩
    case enter f args=>obtain⟨h1,v,h2,h3⟩:=hh;exact⟨h1,v,h2,u7 h h3⟩
   | halt x w'=>simp only[Oper.stillUpon] at hh
  ·rename_i hw;rw[if_neg hw] at hh;exact u7 h hh
theorem j5 {P:Program}{ops:Array Oper}{Q Q':Exit->Act->World->Prop}(h:∀e a w,Q e a w->Q' e a w):∀{l:List Oper}{a:Act}{w:World},wpList P ops Q l a w->wpList P ops Q' l a w
 | [],a,w,hh=>h _ a w hh
 | o::l,a,w,hh=>by
  unfold wpList at*;split
  ·rename_i hw;rw[Qf hw] at hh;rcases hh with hh | ⟨h1,a0,w0,h2⟩
   ·refine .inl ?_;have h2:=Oper.wp_mono (K':=wpList P ops Q' l) (λa w=>j5 h) hh;unfold Oper.wp at h2 ⊢;generalize (execOp a.eval o).run P w=r at*;cases r with
    | ok n w'=>
     cases n<;>simp only[Oper.upon] at h2 ⊢ <;> try exact h2
     exact h2.mono λe KT he=>by
      cases e with
      | returned v=>exact he
      | panicked ch=>exact h _ _ _ he
      | outgrown=>obtain⟨a0,w0,h0⟩:=he;exact⟨a0,w0,h _ _ _ h0⟩
    | halt x w'=>cases x<;>simp only[Oper.upon] at h2 ⊢ <;> first | exact h2 | exact h _ _ _ h2
   ·exact .inr ⟨h1,a0,w0,h _ _ _ h2⟩
  ·rename_i hw;rw[if_neg hw] at hh;exact j5 h hh
theorem pu {c:Cx}(hg:c.g.Ok){id:Nat}{ops:List Oper}{S:Env}{w:World}{Q:Zg}(n:Nat)(hB:Region.lexTailB .any ops.toArray n=true)
  (h:aa {c with named:=1000000} ops (ops.take n) S (λw'=>w'=w.drew) (λS=>Yn c ops (ops.drop n) S w.drew (λS w=>Q .normal S w) Q)):Wm c id ops S w Q:=by
 unfold Wm;intro a hf;refine wp_region_still_tail n hg.mixed hB ?_;have h1:=zr (c:={c with named:=1000000}) hg ops (ops.take n) S a h hf;refine u7 ?_ (uZ h1);intro a' ⟨S',QW,hk⟩;have h2:=iT (c:=c) hg ops _ _ _ _ hk QW;refine j5 (λe a w hq=>?_) h2;cases e<;>exact hq
end
section
def Ext (w w':World):Prop:=w.grownBy w' none
theorem Ext.refl (w:World):Ext w w:=⟨rfl,rfl,rfl,QB _,λ_ _ _=>rfl⟩
theorem Ext.trans {a b c:World}(h:Ext a b)(k:Ext b c):Ext a c:=
 ⟨k.os.trans h.os,k.tape.trans h.tape,k.output.trans h.output,Zc h.size k.size,λi hi hn=>(k.block i (VT hi h.size) hn).trans (h.block i hi hn)⟩
theorem Ext.drew (w:World):Ext w w.drew:=⟨rfl,rfl,rfl,QB _,λ_ _ _=>rfl⟩
theorem Ext.alloc (w:World)(o:Obj):Ext w (w.alloc o):=World.grownBy_alloc w o none
theorem Ext.own {w0 w w1:World}{g:Nat}(h:Ext w0 w)(k:w.grownBy w1 (some g))(hg:w0.heap.size<=g):Ext w0 w1:=
 ⟨k.os.trans h.os,k.tape.trans h.tape,k.output.trans h.output,Zc h.size k.size,λi hi hn=>(k.block i (VT hi h.size) (λe=>by cases e;omega)).trans (h.block i hi hn)⟩
theorem Ext.cell {w w':World}(h:Ext w w'){a:Addr}{v:Value}(hc:w.cell? a=some v):w'.cell? a=some v:=World.grownBy.cell h hc (by simp)
theorem Ext.below {w w':World}(h:Ext w w'):Below w.heap.size w w':=⟨h.os,h.tape,h.output,h.size,λk hk=>h.block k hk (by simp)⟩
theorem Ext.grown {w w':World}(h:Ext w w')(row:Option Nat):w.grownBy w' row:=⟨h.os,h.tape,h.output,h.size,λk hk _=>h.block k hk (by simp)⟩
theorem bQA {a b c:World}{row:Option Nat}(h:a.grownBy b row)(k:b.grownBy c row):a.grownBy c row:=
 ⟨k.os.trans h.os,k.tape.trans h.tape,k.output.trans h.output,Zc h.size k.size,λi hi hn=>(k.block i (VT hi h.size) hn).trans (h.block i hi hn)⟩
def Blk (w:World)(g:Nat)(t:TypeId)(cs:List Value):Prop:=w.heap[g]? =some (.cells cs.toArray t (0,0))
theorem Blk.lt {w:World}{g t:Nat}{cs:List Value}(h:Blk w g t cs):g<w.heap.size:=(fA.1 h).1
theorem Blk.ext {w w':World}{g t:Nat}{cs:List Value}(h:Blk w g t cs)(k:Ext w w'):Blk w' g t cs:=(k.block g h.lt (by simp)).trans h
theorem pv (g j:Nat):(⟨g,0,none⟩:Addr).add j=⟨g,j,none⟩:=by unfold Addr.add;split<;>simp_all
theorem Blk.cell {w:World}{g t:Nat}{cs:List Value}(h:Blk w g t cs)(j:Nat):w.cell? ((⟨g,0,none⟩:Addr).add j)=cs[j]? :=by
 rw[pv,cell_of_row w g j _ t _ h];simp
theorem Blk.frozen {w:World}{g t:Nat}{cs:List Value}(h:Blk w g t cs)(j:Nat):w.frozen? ((⟨g,0,none⟩:Addr).add j)=false:=by
 rw[pv];exact frozen_of_row w g j _ t h
theorem Blk.new (w:World)(t:TypeId)(cs:List Value):Blk (w.alloc (.cells cs.toArray t)) w.heap.size t cs:=heap_alloc_new w _
theorem bQB (w:World)(a:Addr)(v:Value):w.grownBy (w.setCell a v) (some a.block):=
 ⟨rfl,rfl,rfl,by simp,λk _ hn=>Below.heap_setCell w a v k (λe=>hn (by rw[e]))⟩
theorem Blk.set {w:World}{g t:Nat}{cs:List Value}(h:Blk w g t cs)(j:Nat)(v:Value):Blk (w.setCell ((⟨g,0,none⟩:Addr).add j) v) g t (cs.set j v):=by
 rw[pv];have:=heap_setCell_same w g j cs.toArray t v h;unfold Blk;rw[this];simp
structure Sl (w:World) (sz:Nat) (A:Option Addr) (n c:Nat) (cs:List Value):Prop where
 len:cs.length=n*sz
 le:n<=c
 cap:c<=maxLen
 at_:0<n->∃ad,A=some ad/\∀j u,cs[j]? =some u->w.cell? (ad.add j)=some u
theorem Sl.ext {w w':World}{sz n c:Nat}{A:Option Addr}{cs:List Value}(h:Sl w sz A n c cs)(k:Ext w w'):Sl w' sz A n c cs:=
 ⟨h.len,h.le,h.cap,λhn=>let ⟨ad,e,hc⟩:=h.at_ hn;⟨ad,e,λj u hu=>k.cell (hc j u hu)⟩⟩
theorem Sl.nil (w:World)(sz:Nat):Sl w sz none 0 0 []:=⟨by simp,QB _,by simp[maxLen],λh=>Xn h (by omega)⟩
theorem Sl.take {w:World}{sz n c:Nat}{A:Option Addr}{cs:List Value}(h:Sl w sz A n c cs){m:Nat}(hm:m<=n):Sl w sz A m c (cs.take (m*sz)):=
 ⟨by rw[K8,h.len];exact jQ (bG _ hm),Zc hm h.le,h.cap,λhn=>let ⟨ad,e,hc⟩:=h.at_ (by omega);⟨ad,e,λj u hu=>hc j u (by
  rw[DO] at hu;split at hu<;>simp_all)⟩⟩
theorem Sl.own {w:World}{g t sz n c:Nat}{cs:List Value}(h:Blk w g t cs)(hn:n<=c)(hc:c<=maxLen)(hl:n*sz<=cs.length):Sl w sz (some ⟨g,0,none⟩) n c (cs.take (n*sz)):=
 ⟨by rw[K8];exact jQ hl,hn,hc,λ_=>⟨_,rfl,λj u hu=>by
  rw[h.cell];rw[DO] at hu;split at hu<;>simp_all⟩⟩
theorem Sl.own' {w:World}{g t n:Nat}{cs:List Value}(h:Blk w g t cs)(hl:cs.length=n)(hn:n<=maxLen):Sl w 1 (some ⟨g,0,none⟩) n n cs:=by
 have:=Sl.own (sz:=1) h (QB n) hn (by omega)
 rwa [Jc (by omega)] at this
def Fresh (w w':World)(A:Option Addr):Prop:=∀ad,A=some ad->w.heap.size<=ad.block/\ad.block<w'.heap.size
theorem Fresh.ext {w w' w2:World}{A:Option Addr}(h:Fresh w w' A)(k:Ext w' w2):Fresh w w2 A:=λad e=>⟨(h ad e).1,VT (h ad e).2 k.size⟩
theorem WI {b:Bool}{p q:Prop}(hp:b=true->p)(hq:b=false->q):KB b p q:=by unfold KB;exact⟨hp,hq⟩
theorem Qz {c p q:Prop} [Decidable c](hp:c->p)(hq:¬c->q):KB (decide c) p q:=WI (λh=>hp (aQ h)) (λh=>hq (of_decide_eq_false h))
theorem Q8 {b:Bool}{p q:Prop}(hb:b=true)(hp:p):KB b p q:=WI (λ_=>hp) (λh=>by rw[hb] at h;cases h)
theorem Q3 {b:Bool}{p q:Prop}(hb:b=false)(hq:q):KB b p q:=WI (λh=>by rw[hb] at h;cases h) (λ_=>hq)
theorem Zh {c p q:Prop} [Decidable c](hc:c)(hp:p):KB (decide c) p q:=Q8 (Zy hc) hp
theorem XD {c p q:Prop} [Decidable c](hc:¬c)(hq:q):KB (decide c) p q:=Q3 (Zq hc) hq
theorem X3 {x y:Int}{p q:Prop}(hp:x=y->p)(hq:x≠y->q):KB (x==y) p q:=WI (λh=>hp (by simpa using h)) (λh=>hq (by simpa using h))
theorem Jp {x y:Int}{p q:Prop}(h:x=y)(hp:p):KB (x==y) p q:=Q8 (by simpa using h) hp
theorem Xy {x y:Int}{p q:Prop}(h:x≠y)(hq:q):KB (x==y) p q:=Q3 (by simpa using h) hq
theorem bI {x y:Int}{p q:Prop}(hp:x≠y->p)(hq:x=y->q):KB (x !=y) p q:=WI (λh=>hp (by simpa using h)) (λh=>hq (by simpa using h))
theorem rV {x y:Int}{p q:Prop}(h:x≠y)(hp:p):KB (x !=y) p q:=Q8 (by simpa using h) hp
theorem ac {x y:Int}{p q:Prop}(h:x=y)(hq:q):KB (x !=y) p q:=Q3 (by simpa using h) hq
theorem l6 {b:Bool}{p q:Prop}(h:KB b q p):KB (!b) p q:=by unfold KB at*;cases b<;>simp_all
theorem norm {n m:Int}{K:Int->Prop}(h:n=m)(k:K m):dw n K:=by unfold dw;rw[h];exact k
theorem bQC {n:Int}{K:Int->Prop}(h: -9223372036854775808<=n/\n<=9223372036854775807)(k:K n):dw (IntKind.i64.wrap n) K:=norm (IntWalk.i64_in n h) k
theorem zt {n:Int}{K:Int->Prop}(h:0<=n/\n<=18446744073709551615)(k:K n):dw (IntKind.u64.wrap n) K:=norm (IntWalk.u64_in n h) k
theorem Qi {n:Int}{K:Int->Prop}(m:Int)(hm:n=m)(h: -9223372036854775808<=m/\m<=9223372036854775807)(k:K m):dw (IntKind.i64.wrap n) K:=by subst hm;exact bQC h k
theorem NE {n:Int}{K:Int->Prop}(m:Int)(hm:n=m)(h:0<=m/\m<=18446744073709551615)(k:K m):dw (IntKind.u64.wrap n) K:=by subst hm;exact zt h k
theorem normIf {p:Prop}{n m:Int}{K:Int->Prop}(hp:p)(h:n=m)(k:K m):fK p n K:=by unfold fK;rw[h];exact⟨hp,k⟩
theorem need {p:Prop}{v:Value}{K:Value->Prop}(hp:p)(k:K v):iR p v K:=by unfold iR;exact⟨hp,k⟩
theorem NF {a b s:Nat}{K:Int->Prop}(hs:a ||| b=s)(ha:a<18446744073709551616)(hb:b<18446744073709551616)(k:K (s:Int)):dw (IntKind.u64.wrap ((BitVec.ofInt IntKind.u64.bits (a:Int) ||| BitVec.ofInt IntKind.u64.bits (b:Int)).toNat:Int)) K:=by
 have Xc:a ||| b<2^64:=Nat.or_lt_two_pow (by omega) (by omega)
 refine norm ?_ k;rw[BitVec.toNat_or,BitVec.ofInt_natCast,BitVec.ofInt_natCast,BitVec.toNat_ofNat,BitVec.toNat_ofNat];simp only[IntKind.bits];rw[jR (by omega),jR (by omega),hs];rw[hs] at Xc;exact IntWalk.u64_in _ (by omega)
theorem bQD (x:Nat)(n:Nat):(x:Int).fdiv (2^n)=((x/2^n:Nat):Int):=by
 rw[Int.fdiv_eq_ediv_of_nonneg _ (Int.le_of_lt (Int.pow_pos (by decide)))]
 norm_cast
theorem bQE (n:Nat):IntKind.u32.wrap (n:Int)=((n % 4294967296:Nat):Int):=by rw[IntKind.wrap_u32];omega
theorem rW (n:Nat):IntKind.u8.wrap (n:Int)=((n % 256:Nat):Int):=by rw[IntKind.wrap_u8];omega
theorem dD (a b:Nat):(a:Int).tmod (b:Int)=((a % b:Nat):Int):=by rw[Int.tmod_eq_emod_of_nonneg (by omega)];norm_cast
theorem bQF (a b:Nat):(a:Int).tdiv (b:Int)=((a/b:Nat):Int):=by rw[Int.tdiv_eq_ediv_of_nonneg (by omega)];norm_cast
theorem Es {x:Nat}{k:IntKind}{y:Int}{K:Int->Prop}(n d:Nat)(hy:0<=y)(hn:min y.toNat k.bits=n)(hd:2^n=d)(h:K ((x/d:Nat):Int)):fK (0<=y) ((x:Int).fdiv (2^(min y.toNat k.bits))) K:=by
 subst hd;rw[hn];exact(by unfold fK;exact⟨hy,by rw[bQD];exact h⟩)
theorem zu {n:Nat}{K:Int->Prop}(k:K ((n % 4294967296:Nat):Int)):dw (IntKind.u32.wrap (n:Int)) K:=norm (bQE n) k
theorem NG {x:Nat}{d:Nat}{K:Int->Prop}(hd:0<d)(k:K ((x % d:Nat):Int)):fK ((d:Int)≠0) ((x:Int).tmod d) K:=normIf (by omega) (dD x d) k
theorem load {w:World}{p:Addr}{v:Value}{K:Value->Prop}(h:w.cell? p=some v)(k:K v):gF w p K:=by unfold gF;exact⟨v,h,k⟩
theorem Qo {w:World}{g t:Nat}{cs:List Value}{j:Nat}{v:Value}{K:Value->Prop}(h:Blk w g t cs)(hv:cs[j]? =some v)(k:K v):gF w ((⟨g,0,none⟩:Addr).add j) K:=load (by rw[h.cell];exact hv) k
theorem u9 {w:World}{g t:Nat}{cs:List Value}{j:Nat}{v:Value}{K:World->Prop}(h:Blk w g t cs)(hj:j<cs.length)(k:∀w1,w.grownBy w1 (some g)->Blk w1 g t (cs.set j v)->K w1):dx w ((⟨g,0,none⟩:Addr).add j) v K:=by
 unfold dx;refine⟨⟨cs[j],by rw[h.cell];simp[hj]⟩,h.frozen j,k _ ?_ (h.set j v)⟩;have:=bQB w ((⟨g,0,none⟩:Addr).add j) v;rw[pv] at this ⊢;exact this
theorem index {a:Addr}{n j:Nat}{K:Addr->Prop}(hj:j<n)(k:K (a.add j)):Wl (some a) n (j:Int) 1 K:=by
 unfold Wl;exact⟨a,rfl,by omega,by omega,by simpa using k⟩
theorem JS {a:Addr}{n j sz:Nat}{K:Addr->Prop}(hj:j<n)(k:K (a.add (j*sz))):Wl (some a) n (j:Int) sz K:=by
 unfold Wl;exact⟨a,rfl,by omega,by omega,by simpa using k⟩
theorem KC {w:World}{A:Option Addr}{n c j:Nat}{cs:List Value}{K:Addr->Prop}(h:Sl w 1 A n c cs)(hj:j<n)(k:∀ad u,A=some ad->cs[j]? =some u->w.cell? (ad.add j)=some u->K (ad.add j)):Wl A n (j:Int) 1 K:=by
 obtain⟨ad,rfl,hc⟩:=h.at_ (by omega);have hl:j<cs.length:=by have:=h.len;omega
 exact index hj (k ad cs[j] rfl (by simp[hl]) (hc j _ (by simp[hl])))
theorem bQG {s:ByteArray}{j:Nat}{K:Int->Prop}(hj:j<s.size)(k:K (s[j].toNat:Int)):eu s (j:Int) K:=by
 unfold eu;exact⟨s[j],by omega,by simp[hj],k⟩
theorem QK {C:World->Prop}{p:Addr}{v:Value}{K:Value->Prop}(h:∀w,C w->w.cell? p=some v)(k:K v):rS C p K:=by unfold rS;exact⟨v,h,k⟩
theorem ve {c:Cx}(hg:c.g.Ok){id:Nat}{ops:List Oper}{S:Env}{w:World}{Q:Zg}(hB:Region.lexB .any ops.toArray=true)
  (h:aa c ops ops S (Ext w) (λS=>∀w',Ext w w'->Q .normal S w')):Wm c id ops S w Q:=bQz hg (Ext w) (Ext.drew w) hB h
theorem Jx {c:Cx}{o:Oper}{S:Env}{w w':World}{K:Env->World->Prop}{Q:Zg}{v:Value}(h:∀a,Fits c.N S a->(execOp a.eval o).run c.g.P w= .ok (.value v) w')(k:Xd c S o.dst (.v v) (λS=>K S w')):X8 c o S w K Q:=by
 unfold X8;intro a hf;exact bH (h a hf) (Zu (e:=.v v) k hf)
theorem NH (z:Value)(n:Nat):madeCells #[z] n=Array.replicate n z:=by
 apply Array.ext
 ·simp[madeCells]
 ·intro i h1 h2;simp[madeCells,Nat.mod_one]
theorem zv {c:Cx}(hg:c.g.Ok){o:Oper}{S:Env}{w:World}{K:Env->World->Prop}{Q:Zg}{t e:Nat}{x y:Operand}{n:Nat}{r re:TyRow}(ho:o.op= .makeSlice t x y)(hr:QT c.g.tys t=some r)(hd:r.d= .slice e)(X2:QT c.g.tys e=some re)(hz:re.z.cells= #[re.z])
  (hs:re.sz=1) (hx:S.ev x=some (.int .i64 n)) (hy:S.ev y=some (.int .i64 n)) (hb:re.by_*n<=281474976710656) (hn:n<=maxLen)
  (k:∀w1,Ext w w1->w1.heap.size=w.heap.size+1->Blk w1 w.heap.size e (List.replicate n re.z)->Xd c S o.dst (.v (.slice (some ⟨w.heap.size,0,none⟩) n n)) (λS=>K S w1)):X8 c o S w K Q:=by
 obtain⟨_,i,hi,XJ,cj,cm⟩:=hg.row X2;have Q0:=(hg.row hr).1;rw[hd] at Q0;have bU:=run_make (P:=c.g.P) w t e i re.z Q0 hi cm .i64 .i64 n n (by omega) (by omega) (by rw[cj];omega) (by unfold maxLen at hn;omega);rw[hz,XJ,hs,NH] at bU;refine Jx (w':=w.alloc (.cells (Array.replicate n re.z) e)) (v:=.slice (some ⟨w.heap.size,0,none⟩) n n) (λa hf=>?_) (k _ (Ext.alloc w _) (by simp) ?_)
 ·have e1:=hf.ev hx;have e2:=hf.ev hy;simp only[execOp,ho,e1,e2];simp at bU ⊢;rw[bU]<;>rfl
 ·have:=Blk.new w e (List.replicate n re.z);simpa using this
theorem iX {c:Cx}(hg:c.g.Ok){o:Oper}{S:Env}{w:World}{K:Env->World->Prop}{Q:Zg}{t e:Nat}{x y:Operand}{A:Option Addr}{n cp:Nat}{h:Nat}{r:TyRow}(ho:o.op= .slice t x none (some y) none)(hr:QT c.g.tys t=some r)(hd:r.d= .slice e){re:TyRow}(X2:QT c.g.tys e=some re)
  (hx:S.ev x=some (.slice A n cp)) (hy:S.ev y=some (.int .i64 h)) (hh:h<=cp)
  (k:Xd c S o.dst (.v (.slice A h cp)) (λS=>K S w)):X8 c o S w K Q:=by
 have Q0:=(hg.row hr).1;rw[hd] at Q0;refine Jx (w':=w) (λa hf=>?_) k;have e1:=hf.ev hx;have e2:=hf.ev hy;simp[execOp,ho,e1,e2,Instr.sliceAt,Instr.slice,ZU Q0,Instr.sliceBounds,Instr.sliceBound,asIntOf,hh,run_sizeOf hg X2];intro _;cases A<;>simp[Addr.add]
theorem Et {c:Cx}(hg:c.g.Ok){o:Oper}{S:Env}{w:World}{K:Env->World->Prop}{Q:Zg}{t e:Nat}{x y:Operand}{A:Option Addr}{n cp:Nat}{l:Nat}{r:TyRow}(ho:o.op= .slice t x (some y) none none)(hr:QT c.g.tys t=some r)(hd:r.d= .slice e){re:TyRow}(X2:QT c.g.tys e=some re)
  (hx:S.ev x=some (.slice A n cp)) (hy:S.ev y=some (.int .i64 l)) (hl:l<=n)
  (k:Xd c S o.dst (.v (.slice (if cp=l then A else A.map (·.add (l*re.sz))) (n-l) (cp-l))) (λS=>K S w)):X8 c o S w K Q:=by
 have Q0:=(hg.row hr).1;rw[hd] at Q0;refine Jx (w':=w) (λa hf=>?_) k;have e1:=hf.ev hx;have e2:=hf.ev hy;simp[execOp,ho,e1,e2,Instr.sliceAt,Instr.slice,ZU Q0,Instr.sliceBounds,Instr.sliceBound,asIntOf,hl,run_sizeOf hg X2]
structure Own (w:World) (base e sz:Nat) (A:Option Addr) (n c:Nat) (cs:List Value):Prop where
 row:w.ownsRow base e sz (.slice A n c) n cs
theorem nQ5 {w:World}{base e sz:Nat}{v:Value}{n:Nat}{cs:List Value}(h:w.ownsRow base e sz v n cs):∃A c,v= .slice A n c/\Own w base e sz A n c cs:=by
 rcases h.2 with⟨rfl,rfl⟩ | ⟨g,cap,ZD,rfl,r⟩
 ·exact⟨none,0,rfl,⟨h⟩⟩
 ·exact⟨_,cap,rfl,⟨h⟩⟩
theorem Own.sl {w:World}{base e sz n c:Nat}{A:Option Addr}{cs:List Value}(h:Own w base e sz A n c cs):Sl w sz A n c cs:=by
 have h:=h.row;have h1:=h.1;rcases h.2 with⟨hv,rfl⟩ | ⟨g,cap,ZD,hv,hb,hg,hn,hm,hs,ht⟩
 ·cases hv;exact⟨h1,QB _,by simp[maxLen],λh=>Xn h (by omega)⟩
 ·cases hv;refine⟨h1,hn,hm,λ_=>⟨_,rfl,λj u hu=>?_⟩⟩;exact World.ownsRow.cells h (g:=g) rfl j u hu
theorem Own.ext {w w':World}{base e sz n c:Nat}{A:Option Addr}{cs:List Value}(h:Own w base e sz A n c cs)(k:Ext w w'):Own w' base e sz A n c cs:=
 ⟨h.row.kept k (by cases hv:(Value.slice A n c).ownBlock<;>simp)⟩
theorem Own.empty {w:World}{g e sz:Nat}{base:Nat}(h:Blk w g e [])(hb:base<=g):Own w base e sz (some ⟨g,0,none⟩) 0 0 []:=
 ⟨⟨by simp,.inr ⟨g,0,_,rfl,hb,h,QB _,by simp[maxLen],by simp,by simp⟩⟩⟩
theorem Own.nil (w:World)(base e sz:Nat):Own w base e sz none 0 0 []:=⟨World.ownsRow_nil w base e sz⟩
theorem Own.blk {w:World}{base e n c:Nat}{A:Option Addr}{cs:List Value}(h:Own w base e 1 A n c cs)(hn:0<n):∃g sp,A=some ⟨g,0,none⟩/\base<=g/\Blk w g e (cs++sp)/\(cs++sp).length=c:=by
 have h:=h.row;rcases h.2 with⟨hv,rfl⟩ | ⟨g,cap,ZD,hv,hb,hg,Kq,hm,hs,ht⟩
 ·omega
 ·cases hv;refine⟨g,ZD.toList.drop n,rfl,hb,?_⟩;rw[YT] at ht;rw[<-ht,lQ];exact⟨by simpa [Blk] using hg,by simpa using hs⟩
theorem nQ7 {w:World}{base e n c g:Nat}{cs sp:List Value}(h:Blk w g e (cs++sp))(hb:base<=g)(hl:cs.length=n)(hc:(cs++sp).length=c)(hm:c<=maxLen):Own w base e 1 (some ⟨g,0,none⟩) n c cs:=
 ⟨⟨by omega,.inr ⟨g,c,_,rfl,hb,h,by rw[Qq] at hc;omega,hm,by simpa using hc,by rw[YT];simp[<-hl]⟩⟩⟩
theorem bQH {w:World}{base e n c j:Nat}{a:Addr}{xs:List Value}{v:Value}{K:World->Prop}(h:Own w base e 1 (some a) n c xs)(hj:j<n)
  (k:∀w1,w.grownBy w1 (Value.slice (some a) n c).ownBlock->Own w1 base e 1 (some a) n c (xs.set j v)->K w1):dx w (a.add j) v K:=by
 obtain⟨g,sp,hA,hb,hB,hl⟩:=h.blk (by omega);cases hA;have QY:xs.length=n:=by have:=h.sl.len;omega
 refine u9 hB (by rw[Qq];omega) (λw1 qY Qh=>k w1 qY ?_);rw[List.set_append_left _ _ (by omega)] at Qh;exact nQ7 Qh hb (by rw[fB];exact QY) (by rw[Qq,fB];rw[Qq] at hl;exact hl) h.sl.cap
theorem pw (a:Addr)(j:Nat):(a.add j).block=a.block:=by unfold Addr.add;split<;>rfl
theorem zw {u:Value}(h:JG u=true):u.oneCell'=true:=by cases u<;>first | rfl | (simp[JG] at h)
theorem bQI (z v:Value)(h:JG v=true):Instr.fill (λi=>some (i*1,1)) #[z] [(0,v)]=some #[v]:=by
 have hc:v.cells= #[v]:=by cases v<;>first | rfl | (simp[JG] at h)
 simp[Instr.fill,hc]
theorem bQJ (z v u:Value)(h:JG v=true)(h':JG u=true):Instr.fill (λi=>some (i*1,1)) #[z,z] [(0,v),(1,u)]=some #[v,u]:=by
 have hc:v.cells= #[v]:=by cases v<;>first | rfl | (simp[JG] at h)
 have Jv:u.cells= #[u]:=by cases u<;>first | rfl | (simp[JG] at h')
 simp[Instr.fill,hc,Jv]
section
variable {c:Cx} (hg:c.g.Ok) {o:Oper} {S:Env} {w:World} {K:Env->World->Prop} {Q:Zg} {t e:Nat} {r re:TyRow}
include hg
theorem Eu (hr:QT c.g.tys t=some r)(hd:r.d= .slice e)(X2:QT c.g.tys e=some re)(hs:re.sz=1)(hz:re.z.cells= #[re.z])(n:Nat)(hn:n<=1000)(parts:Array (Nat×Value))(cs:List Value)
  (hf:Instr.fill (λi=>some (i*1,1)) (Array.replicate n re.z) parts.toList=some cs.toArray):
  (Instr.buildSlice t n parts).run c.g.P w= .ok (.slice (some ⟨w.heap.size,0,none⟩) n n) (w.alloc (.cells cs.toArray e)):=by
 obtain⟨_,i,hi,XJ,nW,cm⟩:=hg.row X2;have Q0:=(hg.row hr).1;rw[hd] at Q0;have e1:(Array.range n).map (λj=>(#[re.z]:Array Value)[j % (#[re.z]:Array Value).size]!)=Array.replicate n re.z:=NH re.z n;have gY:¬(16777216<n):=by omega
 by_cases h0:n=0
 ·subst h0;simp[Instr.buildSlice,ZU Q0,sizeOf,typeInfo,hi,XJ,hs,newRow] at hf ⊢;rw[show Array.map (λ_=>(default:Value)) (Array.range 0)= #[] by simp[Array.range_zero'],hf];simp
 ·simp[Instr.buildSlice,ZU Q0,sizeOf,typeInfo,hi,XJ,hs,newRow,gY,h0,zeroValue,cm,hz];simp at e1 hf;rw[e1,hf];simp
theorem bQK (ho:o.op= .buildSlice t 0 #[])(hr:QT c.g.tys t=some r)(hd:r.d= .slice e)(X2:QT c.g.tys e=some re)(hs:re.sz=1)(hz:re.z.cells= #[re.z])
  (k:∀w1,Ext w w1->w1.heap.size=w.heap.size+1->Blk w1 w.heap.size e []->Xd c S o.dst (.v (.slice (some ⟨w.heap.size,0,none⟩) 0 0)) (λS=>K S w1)):X8 c o S w K Q:=by
 have Ja:=Eu (w:=w) hg hr hd X2 hs hz 0 (by omega) #[] [] (by simp[Instr.fill]);refine Jx (w':=w.alloc (.cells #[] e)) (λa hf=>?_) (k _ (Ext.alloc w _) (by simp) (Blk.new w e []));simp only[execOp,ho];simp[Ja]
theorem NI {x:Operand}{v:Value}(ho:o.op= .buildSlice t 1 #[(0,x)])(hr:QT c.g.tys t=some r)(hd:r.d= .slice e)(X2:QT c.g.tys e=some re)(hs:re.sz=1)(hz:re.z.cells= #[re.z])(hx:S.ev x=some v)(hv:JG v=true)
  (k:∀w1,Ext w w1->w1.heap.size=w.heap.size+1->Blk w1 w.heap.size e [v]->Xd c S o.dst (.v (.slice (some ⟨w.heap.size,0,none⟩) 1 1)) (λS=>K S w1)):X8 c o S w K Q:=by
 have Ja:=Eu (w:=w) hg hr hd X2 hs hz 1 (by omega) #[(0,v)] [v] (bQI re.z v hv);refine Jx (w':=w.alloc (.cells #[v] e)) (λa hf=>?_) (k _ (Ext.alloc w _) (by simp) (Blk.new w e [v]));have e1:=hf.ev hx;simp only[execOp,ho];simp[e1,Ja]
theorem rX {x y:Operand}{v u:Value}(ho:o.op= .buildSlice t 2 #[(0,x),(1,y)])(hr:QT c.g.tys t=some r)(hd:r.d= .slice e)(X2:QT c.g.tys e=some re)(hs:re.sz=1)(hz:re.z.cells= #[re.z])(hx:S.ev x=some v)(hy:S.ev y=some u)(hv:JG v=true)(hu:JG u=true)
  (k:∀w1,Ext w w1->w1.heap.size=w.heap.size+1->Blk w1 w.heap.size e [v,u]->Xd c S o.dst (.v (.slice (some ⟨w.heap.size,0,none⟩) 2 2)) (λS=>K S w1)):X8 c o S w K Q:=by
 have Ja:=Eu (w:=w) hg hr hd X2 hs hz 2 (by omega) #[(0,v),(1,u)] [v,u] (bQJ re.z v u hv hu);refine Jx (w':=w.alloc (.cells #[v,u] e)) (λa hf=>?_) (k _ (Ext.alloc w _) (by simp) (Blk.new w e [v,u]));have e1:=hf.ev hx;have e2:=hf.ev hy;simp only[execOp,ho];simp[e1,e2,Ja]
end
theorem bQL {c:Cx}(hg:c.g.Ok){o:Oper}{S:Env}{w:World}{K:Env->World->Prop}{Q:Zg}{t t2 e:Nat}{x y:Operand}{g n cp:Nat}{A:Option Addr}{m c2:Nat}{xs ys:List Value}{r re:TyRow}
  (ho:o.op= .call ⟨.builtin .copy, #[x,y], #[t,t2]⟩) (hr:QT c.g.tys t=some r) (hd:r.d= .slice e) (X2:QT c.g.tys e=some re) (hs:re.sz=1)
  (hx:S.ev x=some (.slice (some ⟨g,0,none⟩) n cp)) (hy:S.ev y=some (.slice A m c2)) (hb:Blk w g e xs) (gp:Sl w 1 A m c2 ys) (Dc:m<=n) (dh:n<=xs.length) (gq:∀u∈ys,JG u=true)
  (k:∀w1,w.grownBy w1 (some g)->w1.heap.size=w.heap.size->Blk w1 g e (ys++xs.drop m)->Xd c S o.dst (.v (.int .i64 m)) (λS=>K S w1)):X8 c o S w K Q:=by
 obtain⟨_,i,hi,XJ,nW,cm⟩:=hg.row X2;have Q0:=(hg.row hr).1;rw[hd] at Q0;have QY:ys.length=m:=by have:=gp.len;omega
 have hfc:(Builtin.firstCells 1 m (.slice A m c2)).run c.g.P w= .ok ys.toArray w:=by
  by_cases h0:m=0
  ·subst h0;have:ys=[]:=Wg QY;subst this;cases A<;>simp[Builtin.firstCells,loadCells,loadCellsFrom]
  ·obtain⟨ad,rfl,hc⟩:=gp.at_ (by omega);have:=run_loadCells_list (P:=c.g.P) (w:=w) ad ys hc;rw[QY] at this;simpa [Builtin.firstCells] using this
 have iC:=run_storeCells_at c.g.P g 0 e ys 0 xs.toArray w hb (by simp;omega) (λu hu=>zw (gq u hu));simp only[Wh,Nat.add_zero] at iC;have nX:Nat.min m n=m:=jQ Dc;refine Jx (w':=w.setRow g (ys++xs.drop m).toArray) (v:=.int .i64 m) (λa hf=>?_) (k _ ?_ (by simp) ?_)
 ·have e1:=hf.ev hx;have e2:=hf.ev hy;have Dd:(storeCells (⟨g,0,none⟩:Addr) ys).run c.g.P w= .ok () (w.setRow g (ys++xs.drop m).toArray):=by
   have:=iC;rw[QY] at this;simpa [pv] using this
  simp only[execOp,ho,resolve,invoke];simp[builtin,e1,e2,Builtin.copy_,ZU Q0,sizeOf,typeInfo,hi,XJ,hs,Builtin.lenOf,nX,hfc,Dd,goInt]
 ·exact⟨rfl,rfl,rfl,by simp,λj _ hj=>setRow_other w g j _ (λe=>hj (by rw[e]))⟩
 ·exact setRow_heap w g xs.toArray _ e _ hb
def Vb (l:List Nat):List Value:=l.map λ(x:Nat)=>.int .u8 x
def Qd (l:List Nat):ByteArray:=⟨(l.map UInt8.ofNat).toArray⟩
theorem px {l:List Nat}{j x:Nat}(h:l[j]? =some x):(Vb l)[j]? =some (.int .u8 (x:Int)):=by simp[Vb,h]
theorem zz (l m:List Nat):Vb (l++m)=Vb l++Vb m:=by simp[Vb]
theorem rY (l:List Nat):(Vb l).length=l.length:=by simp[Vb]
theorem ZV (l m:List Nat):Qd l++Qd m=Qd (l++m):=by
 apply ByteArray.ext;simp[Qd,ByteArray.data_append]
theorem Xe (l:List Nat):(Qd l).size=l.length:=by simp[Qd,ByteArray.size]
def YV (s:ByteArray):List Nat:=s.data.toList.map UInt8.toNat
theorem vf (s:ByteArray):(YV s).length=s.size:=by simp[YV]
theorem bQM (s:ByteArray):∀x∈YV s,x<256:=by
 intro x hx;simp only[YV,X7] at hx;obtain⟨b,_,rfl⟩:=hx;exact b.toNat_lt
theorem NJ {s:ByteArray}{j:Nat}(hj:j<s.size):(YV s)[j]? =some s[j].toNat:=by
 have h':j<s.data.size:=hj;have:s[j]=s.data[j]:=rfl;rw[this];simp only[YV,aL,Array.getElem?_toList];rw[Array.getElem?_eq_getElem h']<;>rfl
theorem dE {s:ByteArray}{j:Nat}{K:Int->Prop}(hj:j<s.size)(k:∀x,(YV s)[j]? =some x->x<256->K (x:Int)):eu s (j:Int) K:=
 bQG hj (k _ (NJ hj) (s[j]).toNat_lt)
theorem bQN (s:ByteArray):Qd (YV s)=s:=by
 apply ByteArray.ext;simp[Qd,YV,Function.comp_def]
theorem WJ {l:List Nat}(h:∀x∈l,x<256):YV (Qd l)=l:=by
 simp only[YV,Qd,oV]
 conv=>rhs;rw[<-List.map_id l]
 apply List.map_congr_left;intro x hx;simp[jR (h x hx)]
theorem J8 {l m:List Nat}(hl:∀x∈l,x<256)(hm:∀x∈m,x<256)(h:Qd l=Qd m):l=m:=by
 rw[<-WJ hl,<-WJ hm,h]
end
section
section
variable {P:Program} {ops:Array Oper} {md:Region.Mode} {C:World->Prop} {Q:Exit->Act->World->Prop}
def NoPan (Q:Exit->Act->World->Prop):Exit->Act->World->Prop
 | .panic _,_,_=>False
 | e,a,w=>Q e a w
theorem NoPan.imp {Q:Exit->Act->World->Prop}:∀(e:Exit)(a:Act)(w:World),NoPan Q e a w->Q e a w:=λe a w h=>by
 cases e<;>first | exact h | exact(h:False).elim
def VV (P:Program)(md:Region.Mode)(ops:Array Oper)(Q:Exit->Act->World->Prop)(C:World->Prop)(n:Nat)(L:Array Bool->Act->World->Prop):Nat->Array Bool->Act->World->Prop
 | 0,listed,a,w=>L listed a w
 | f+1,listed,a,w=>
  Region.ready md ops listed≠ []/\∀i∈Region.ready md ops listed,i<n/\wpOp P ops Q i (λa' w'=>C w'/\VV P md ops Q C n L f (listed.setIfInBounds i true) a' w') a w
theorem rZ {n g:Nat}{L:Array Bool->Act->World->Prop}(hL:∀listed a w,L listed a w->wpAny P md ops Q g listed a w):
  ∀(f:Nat) (listed:Array Bool) (a:Act) (w:World),VV P md ops Q C n L f listed a w->wpAny P md ops Q (f+g) listed a w
 | 0,listed,a,w,h=>by rw[Wh];exact hL _ _ _ h
 | f+1,listed,a,w,h=>by
  rw[show f+1+g=(f+g)+1 by omega];exact⟨λh0=>Xn h0 h.1,λi hi=>wpOp_mono (λa' w' h'=>rZ hL f _ a' w' h'.2) (h.2 i hi).2⟩
def iY (md:Region.Mode)(ops:Array Oper)(n:Nat):Prop:=n=ops.size∨(n<ops.size/\Region.sinkB md ops n=true/\Region.chainB md ops n=true)
theorem r4 {n i:Nat}{listed:Array Bool}(hs:iY md ops n)(inv:HeadInv md ops n listed)(QZ:i<n)(JQ:listed.getD i true=false):∀j∈Region.ready md ops listed,j<n:=by
 intro j hj;rcases hs with hs | ⟨h1,h2,h3⟩
 ·obtain⟨_,oj,fi,_⟩:=mem_ready.1 hj;rw[hs];exact(fA.1 fi).1
 ·rcases Nat.lt_or_ge j n with h | h
  ·exact h
  ·exact Xn hj (tail_waits h2 h3 h1 inv _ i rfl QZ JQ j h)
theorem Ev {n i:Nat}{oi:Oper}{v:Value}{L:Array Bool->Act->World->Prop}(hi:ops[i]? =some oi)(nY:∀(j:Nat)(o:Oper) cs b,ops[j]? =some o->o.op≠ .select cs b)
  (hs:iY md ops n) (QZ:i<n) (xS:∀listed a w,L listed a w->∀j∈Region.ready md ops listed,n<=j):
  ∀(f:Nat) (listed:Array Bool) (a:Act) (w:World),HeadInv md ops n listed->
   (∀j oj,ops[j]? =some oj->j≠i->listed.getD j true=false->(∀e∈oj.after,Region.binds md e=true->e.on≠i)->oi.apart ops oj=true)->
   i∈Region.ready md ops listed->YieldsIf P ops C oi v a->C w->
   VV P md ops (NoPan Q) C n L f (listed.setIfInBounds i true) (a.put oi.dst v) w->VV P md ops (NoPan Q) C n L (f+1) listed a w:=by
 intro f;induction f with
 | zero=>
  intro listed a w inv _ hr hy hC H;have JQ:=(mem_ready.1 hr).1;refine⟨λh=>(by rw[h] at hr;cases hr),λj hj=>?_⟩;have Kk:=r4 hs inv QZ JQ j hj;refine⟨Kk,?_⟩;by_cases KU:j=i
  ·subst KU;exact hy.wpOp hi hC ⟨hC,H⟩
  ·have:=xS _ _ _ H j (ready_mono hj KU);omega
 | succ f ih=>
  intro listed a w inv nZ hr hy hC H;have JQ:=(mem_ready.1 hr).1;refine⟨λh=>(by rw[h] at hr;cases hr),λj hj=>?_⟩;have Kk:=r4 hs inv QZ JQ j hj;refine⟨Kk,?_⟩;by_cases KU:j=i
  ·subst KU;exact hy.wpOp hi hC ⟨hC,H⟩
  ·have h1:=(H.2 j (ready_mono hj KU)).2;obtain⟨od,oj,fi,hall⟩:=mem_ready.1 hj;have lB:∀e∈oj.after,Region.binds md e=true->e.on≠i:=λe he hb heq=>by
    have h1:=hall e he hb;rw[heq,getD_both JQ] at h1;cases h1
   have h2:=wpOp_putIf fi (nZ j oj fi KU od lB) (λcs b=>nY i oi cs b hi) (λcs b=>nY j oj cs b fi) (λ_ _ _ h=>h) hy h1;have xT:∀k ok,ops[k]? =some ok->k≠i->(listed.setIfInBounds j true).getD k true=false->
     (∀e∈ok.after,Region.binds md e=true->e.on≠i)->oi.apart ops ok=true:=λk ok hk xU JQ Xi=>by
    refine nZ k ok hk xU ?_ Xi;by_cases oe:j=k
    ·subst oe;exact od
    ·rw[getD_set_ne true oe] at JQ;exact JQ
   refine wpOp_mono (λa' w' h3=>⟨h3.2.1,ih (listed.setIfInBounds j true) a' w' (inv.set hj Kk) xT (ready_mono hr (Ne.symm KU)) h3.1 h3.2.1 ?_⟩) h2;rw[aQ5 _ _ KU];exact h3.2.2
def dF (md:Region.Mode)(ops:Array Oper)(n:Nat):List (Bool×Nat)->Array Bool->Bool
 | [],listed=>Region.seqB md ops (ops.size-n) n listed
 | (true,k)::l,listed=>Nat.blt k n&&(Region.ready md ops listed).contains k&&Region.free md ops listed k&&dF md ops n l (listed.setIfInBounds k true)
 | (false,k)::l,listed=>Nat.blt k n&&decide (Region.ready md ops listed=[k])&&dF md ops n l (listed.setIfInBounds k true)
def py (md:Region.Mode)(ops:Array Oper)(n:Nat):Bool:=Nat.beq n ops.size||(Nat.blt n ops.size&&Region.sinkB md ops n&&Region.chainB md ops n)
theorem vg {n:Nat}(h:py md ops n=true):iY md ops n:=by
 simp only[py,Bool.or_eq_true,Jl] at h;rcases h with h | ⟨⟨h1,h2⟩,h3⟩
 ·exact .inl (Vk h)
 ·exact .inr ⟨by rw[gC] at h1;exact h1,h2,h3⟩
end
section
variable {c:Cx} {S:Env} {a:Act}
@[irreducible] def cA (c:Cx) (o:Oper) (S:Env) (C:World->Prop) (K:Env->Prop):Prop:=∃v,(∀a w,Fits c.N S a->C w->(execOp a.eval o).run c.g.P w= .ok (.value v) w)/\Xd c S o.dst (.v v) K
def pz (c:Cx)(o:Oper)(S:Env)(C:World->Prop)(K:Env->Prop):Prop:=
 match rR c.g S o.op with
 | .val v=>Xd c S o.dst (.v v) K
 | .ent e=>Xd c S o.dst e K
 | .norm k n=>dw n (λm=>Xd c S o.dst (.v (.int k m)) K)
 | .normIf p k n=>fK p n (λm=>Xd c S o.dst (.v (.int k m)) K)
 | .need p v=>iR p v (λv=>Xd c S o.dst (.v v) K)
 | .no=>match o.op with
  | .load t x=>(match QT c.g.tys t,S.ev x with
   | some r,some (.pointer (some p))=>(match pj r.d with
    | false=>rS C p (λv=>Xd c S o.dst (.v v) K)
    | true=>rT C p r.sz (λvs=>Xd c S o.dst (.v (.agg vs.toArray)) K))
   | _,_=>cA c o S C K)
  | .indexAddr t x i=>(match QT c.g.tys t,S.ev x,S.ev i with
   | some ⟨_,.slice e,_,_,_⟩,some (.slice b n _),some (.int _ i)=>(match QT c.g.tys e with
    | some r=>Wl b n i r.sz (λp=>Xd c S o.dst (.v (.pointer (some p))) K)
    | none=>cA c o S C K)
   | some ⟨_,.array n e,_,_,_⟩,some (.pointer (some p)),some (.int _ i)=>(match QT c.g.tys e with
    | some r=>Wl (some p) n i r.sz (λp=>Xd c S o.dst (.v (.pointer (some p))) K)
    | none=>cA c o S C K)
   | _,_,_=>cA c o S C K)
  | .index t x i=>(match QT c.g.tys t,S.ev x,S.ev i with
   | some ⟨_,.string,_,_,_⟩,some (.string s),some (.int _ i)=>eu s i (λb=>Xd c S o.dst (.v (.int .u8 b)) K)
   | _,_,_=>cA c o S C K)
  | _=>cA c o S C K
def fQ (all:List Oper)(o:Oper)(S:Env)(yes no:Env->Prop):Prop:=match o.guard with
 | none=>yes S
 | some (
     j,want)=>match KM all j with
  | some oj=>(match oj.dst with
   | some d=>(match S.ent d with
    | some .t=>(match want with
     | true=>yes S
     | false=>no S)
    | some .f=>(match want with
     | false=>yes S
     | true=>no S)
    | some (.v (.bool b))=>(match want with
     | true=>KB b (yes ((d,.t)::S)) (no ((d,.f)::S))
     | false=>KB b (no ((d,.t)::S)) (yes ((d,.f)::S)))
    | some (.v (.tuple _))=>no S
    | _=>False)
   | none=>False)
  | none=>False
def j6 (c:Cx)(all:List Oper)(C:World->Prop):List (Bool×Nat)->Env->World->(Env->World->Prop)->Prop
 | [],S,w,K=>K S w
 | (true,k)::l,S,w,K=>match KM all k with
  | some o=>fQ all o S (λS=>pz c o S C (λS=>j6 c all C l S w K)) (λS=>Xd c S o.dst (.v undef) (λS=>j6 c all C l S w K))
  | none=>False
 | (false,k)::l,S,w,K=>match KM all k with
  | some o=>fQ all o S (λS=>dz c o S w (λS w=>C w/\j6 c all C l S w K) (λ_ _ _=>False)) (λS=>Xd c S o.dst (.v undef) (λS=>j6 c all C l S w K))
  | none=>False
theorem iZ {all:List Oper}{o:Oper}{yes no:Env->Prop}(h:fQ all o S yes no)(hf:Fits c.N S a):
  (Region.wanted o (yielded all.toArray a.tmps)=true/\∃S',Fits c.N S' a/\yes S')∨(Region.wanted o (yielded all.toArray a.tmps)=false/\∃S',Fits c.N S' a/\no S'):=by
 have fit:∀(d:Nat) (b:Bool) (e:Ent),S.ent d=some (.v (.bool b))->e.val= .bool b->Fits c.N ((d,e)::S) a:=λd b e hd he=>by
  refine⟨hf.size,hf.defers,λk x hk=>?_⟩;simp only[Env.ent] at hk;split at hk
  ·rename_i hb;have:=Vk hb;subst this;cases hk;rw[he];exact hf.has _ _ hd
  ·exact hf.has _ _ hk
 unfold fQ at h;split at h
 ·rename_i Kz;exact .inl ⟨by simp[Region.wanted,Kz],S,hf,h⟩
 ·rename_i j want Kz;split at h
  ·rename_i oj hj;split at h
   ·rename_i d hd;split at h
    ·rename_i ZH;have hw:=jY Kz hj hd (hf.has _ _ ZH);split at h
     ·exact .inl ⟨by rw[hw];rfl,S,hf,h⟩
     ·exact .inr ⟨by rw[hw];rfl,S,hf,h⟩
    ·rename_i ZH;have hw:=jY Kz hj hd (hf.has _ _ ZH);split at h
     ·exact .inl ⟨by rw[hw];rfl,S,hf,h⟩
     ·exact .inr ⟨by rw[hw];rfl,S,hf,h⟩
    ·rename_i b ZH;have hw:=jY Kz hj hd (hf.has _ _ ZH);split at h
     ·unfold KB at h;cases b with
      | true=>exact .inl ⟨by rw[hw];rfl,_,fit d true .t ZH rfl,h.1 rfl⟩
      | false=>exact .inr ⟨by rw[hw];rfl,_,fit d false .f ZH rfl,h.2 rfl⟩
     ·unfold KB at h;cases b with
      | true=>exact .inr ⟨by rw[hw];rfl,_,fit d true .t ZH rfl,h.1 rfl⟩
      | false=>exact .inl ⟨by rw[hw];rfl,_,fit d false .f ZH rfl,h.2 rfl⟩
    ·rename_i ZH;exact .inr ⟨Em Kz hj hd (hf.has _ _ ZH),S,hf,h⟩
    ·exact h.elim
   ·exact h.elim
  ·exact h.elim
theorem vh (hg:c.g.Ok){o:Oper}{C:World->Prop}{K:Env->Prop}(h:pz c o S C K)(hf:Fits c.N S a):
  ∃v,(∀w,C w->(execOp a.eval o).run c.g.P w= .ok (.value v) w)/\∃S',Fits c.N S' (a.put o.dst v)/\K S':=by
 have KA:cA c o S C K->∃v,(∀w,C w->(execOp a.eval o).run c.g.P w= .ok (.value v) w)/\∃S',Fits c.N S' (a.put o.dst v)/\K S':=λh=>by
  unfold cA at h;obtain⟨v,h1,h2⟩:=h;exact⟨v,λw hw=>h1 a w hf hw,Zu (e:=.v v) h2 hf⟩
 unfold pz at h;split at h
 ·rename_i v hp;exact⟨v,λw _=>cz (w:=w) hg hf hp,Zu (e:=.v v) h hf⟩
 ·rename_i e hp;exact⟨e.val,λw _=>cz (w:=w) hg hf hp,Zu (e:=e) h hf⟩
 ·rename_i k n hp;unfold dw at h;exact⟨_,λw _=>cz (w:=w) hg hf hp,Zu (e:=.v (.int k n)) h hf⟩
 ·rename_i p k n hp;unfold fK at h;exact⟨_,λw _=>cz (w:=w) hg hf hp h.1,Zu (e:=.v (.int k n)) h.2 hf⟩
 ·rename_i p v hp;unfold iR at h;exact⟨_,λw _=>cz (w:=w) hg hf hp h.1,Zu (e:=.v v) h.2 hf⟩
 ·obtain⟨dst,op,ty,pos,aft,gd⟩:=o;simp only at h KA ⊢;split at h
  ·rename_i t x;split at h
   ·rename_i r p hr hx;have e1:=hf.ev hx;split at h
    ·rename_i hd;unfold rS at h;obtain⟨v,hv,hk⟩:=h;refine⟨v,λw hw=>?_,Zu (e:=.v v) hk hf⟩;simp[execOp,e1,Instr.loadAt,Instr.sureAddr,loadVar,lX hg hr,hd,hv w hw]
    ·rename_i hd;unfold rT at h;obtain⟨vs,hl,hv,hk⟩:=h;refine⟨.agg vs.toArray,λw hw=>?_,Zu (e:=.v (.agg vs.toArray)) hk hf⟩;have h2:=run_loadCells_list (P:=c.g.P) (w:=w) p vs (hv w hw);rw[hl] at h2;simp[execOp,e1,Instr.loadAt,Instr.sureAddr,loadVar,lX hg hr,hd,run_sizeOf hg hr,h2]
   ·exact KA h
  ·rename_i t x ix;split at h
   ·rename_i e b n k i hr hx hi;split at h
    ·rename_i r X2;unfold Wl at h;obtain⟨p,rfl,h0,h1,hk⟩:=h;have e1:=hf.ev hx;have e2:=hf.ev hi;refine⟨.pointer (some (p.add (i.toNat*r.sz))),λw _=>?_,Zu (e:=.v _) hk hf⟩;simp[execOp,e1,e2,Instr.indexAt,asIntOf,YU hg hr,run_sizeOf hg X2,h0,h1]
    ·exact KA h
   ·rename_i n e p k i hr hx hi;split at h
    ·rename_i r X2;unfold Wl at h;obtain⟨p',hp,h0,h1,hk⟩:=h;cases hp;have e1:=hf.ev hx;have e2:=hf.ev hi;refine⟨.pointer (some (p.add (i.toNat*r.sz))),λw _=>?_,Zu (e:=.v _) hk hf⟩;simp[execOp,e1,e2,Instr.indexAt,Instr.sureAddr,asIntOf,YU hg hr,run_sizeOf hg X2,h0,h1]
    ·exact KA h
   ·exact KA h
  ·rename_i t x ix;split at h
   ·rename_i s k i hr hx hi;unfold eu at h;obtain⟨b,h0,h1,hk⟩:=h;have e1:=hf.ev hx;have e2:=hf.ev hi;refine⟨.int .u8 b.toNat,λw _=>?_,Zu (e:=.v _) hk hf⟩;simp[execOp,e1,e2,Instr.index,asIntOf,YU hg hr,h0,h1]
   ·exact KA h
  ·exact KA h
theorem zA (hg:c.g.Ok){md:Region.Mode}{ops:List Oper}{C:World->Prop}{Q:Exit->Act->World->Prop}{n:Nat}(hs:Region.noSelect ops.toArray=true)(hk:iY md ops.toArray n){K:Env->World->Prop}:
  ∀(l:List (Bool×Nat)) (listed:Array Bool) (S:Env) (a:Act) (w:World),HeadInv md ops.toArray n listed->dF md ops.toArray n l listed=true->j6 c ops C l S w K->Fits c.N S a->C w->
  VV c.g.P md ops.toArray (NoPan Q) C n (λJf a' w'=>Region.seqB md ops.toArray (ops.toArray.size-n) n Jf=true/\∃S',Fits c.N S' a'/\K S' w') l.length listed a w
 | [],listed,S,a,w,inv,hB,h,hf,hC=>⟨hB,S,hf,h⟩
 | (true,k)::l,listed,S,a,w,inv,hB,h,hf,hC=>by
  simp only[dF,Jl] at hB;obtain⟨⟨⟨Xj,hr⟩,gn⟩,KK⟩:=hB;have Xj:k<n:=by rw[gC] at Xj;exact Xj
  have Q0:k∈Region.ready md ops.toArray listed:=by simpa using hr
  obtain⟨_,o,ho,_⟩:=mem_ready.1 Q0;have hn:KM ops k=some o:=by rw[fM];simpa using ho
  simp only[j6,hn] at h;have key:∃v,YieldsIf c.g.P ops.toArray C o v a/\∃S',Fits c.N S' (a.put o.dst v)/\j6 c ops C l S' w K:=by
   rcases iZ h hf with⟨hw,S1,Zf,h1⟩ | ⟨hw,S1,Zf,h1⟩
   ·obtain⟨v,h2,h3⟩:=vh hg h1 Zf;exact⟨v,.inl ⟨hw,h2⟩,h3⟩
   ·exact⟨undef,.inr ⟨hw,rfl⟩,Zu (e:=.v undef) h1 Zf⟩
  obtain⟨v,hy,S',QW,h'⟩:=key;exact Ev ho (Region.noSelect_spec hs) hk Xj (λJf a' w' hL=>seqB_ready hL.1) l.length listed a w inv (Region.free_spec ho gn) Q0 hy hC
   (zA hg hs hk l _ S' _ w (inv.set Q0 Xj) KK h' QW hC)
 | (false,k)::l,listed,S,a,w,inv,hB,h,hf,hC=>by
  simp only[dF,Jl,Vm] at hB;obtain⟨⟨Xj,hr⟩,KK⟩:=hB;have Xj:k<n:=by rw[gC] at Xj;exact Xj
  have Q0:k∈Region.ready md ops.toArray listed:=by rw[hr];simp
  obtain⟨_,o,ho,_⟩:=mem_ready.1 Q0;have hn:KM ops k=some o:=by rw[fM];simpa using ho
  simp only[j6,hn] at h;have d9:=inv.set Q0 Xj;refine⟨λh0=>(by rw[hr] at h0;cases h0),λi hi=>?_⟩;rw[hr] at hi;have xV:i=k:=by simpa using hi
  subst xV;refine⟨Xj,?_⟩;unfold wpOp;simp only[ho];rcases iZ h hf with⟨hw,S1,Zf,h1⟩ | ⟨hw,S1,Zf,h1⟩
  ·rw[Qf hw];refine .inl ?_;have h2:=pq hg h1 Zf;have h3:=Oper.wp_mono (K':=λa' w'=>C w'/\VV c.g.P md ops.toArray (NoPan Q) C n (λJf a' w'=>Region.seqB md ops.toArray (ops.toArray.size-n) n Jf=true/\∃S',Fits c.N S' a'/\K S' w') l.length (listed.setIfInBounds i true) a' w')
    (λa' w' ⟨S',QW,Jv,YB⟩=>⟨Jv,zA hg hs hk l _ S' a' w' d9 KK YB QW Jv⟩) h2
   unfold Oper.wp at h3 ⊢;generalize (execOp a.eval o).run c.g.P w=r at*;cases r with
   | ok nx w'=>
    cases nx<;>simp only[Oper.upon] at h3 ⊢ <;> try exact h3
    exact h3.mono λe KT he=>by
     cases e with
     | returned v=>exact he
     | panicked ch=>obtain⟨_,_,he⟩:=he;exact he.elim
     | outgrown=>obtain⟨_,_,_,_,he⟩:=he;exact he.elim
   | halt x w'=>cases x<;>simp only[Oper.upon] at h3 ⊢ <;> first | exact h3 | (obtain⟨_,_,h3⟩:=h3;exact h3.elim)
  ·rw[if_neg (by rw[hw];decide)];obtain⟨S',QW,h'⟩:=Zu (e:=.v undef) h1 Zf;exact⟨hC,zA hg hs hk l _ S' _ w d9 KK h' QW hC⟩
theorem bQO {o:Oper}{C:World->Prop}{K:Env->Prop}{v:Value}(h:∀a w,Fits c.N S a->C w->(execOp a.eval o).run c.g.P w= .ok (.value v) w)(k:Xd c S o.dst (.v v) K):cA c o S C K:=by
 unfold cA;exact⟨v,h,k⟩
theorem XK (hg:c.g.Ok){id:Nat}{ops:List Oper}{w:World}{Q:Zg}(C:World->Prop)(n:Nat)(plan:List (Bool×Nat))
  (hB:(Region.noSelect ops.toArray&&Nat.beq plan.length n&&py .any ops.toArray n&&dF .any ops.toArray n plan (Array.replicate ops.toArray.size false))=true) (hC:C w.drew)
  (h:j6 {c with named:=1000000} ops C plan S w.drew (λS w=>Yn c ops (ops.drop n) S w (λS w=>Q .normal S w) (λ_ _ _=>False))):Wm c id ops S w Q:=by
 unfold Wm;intro a hf;simp only[Jl] at hB;obtain⟨⟨⟨hs,hl⟩,aH⟩,JE⟩:=hB;have hl:=Vk hl;have hk:=vg aH;have De:n<=ops.length:=by
  rcases hk with hk | hk
  ·rw[hk];simp
  ·have:=hk.1;simp at this;omega
 refine Code.wp_mono NoPan.imp (wp_region_any hg.mixed ?_);have kT:HeadInv .any ops.toArray n (Array.replicate ops.toArray.size false):=
  ⟨by simp,λj oj _ hl=>(by rw[getD_replicate_false] at hl;cases hl),λt _ ht=>getD_in (by simpa using ht) (getD_replicate_false _ _)⟩
 have H:=zA (c:={c with named:=1000000}) hg (Q:=Up c Q) hs hk plan _ S a _ kT JE h hf hC;have Vy:(ops.drop n).length=ops.toArray.size-n:=by simp
 have H2:=rZ (Q:=NoPan (Up c Q)) (g:=ops.toArray.size-n) (λJf a' w' hL=>by
  obtain⟨hq,S',QW,YB⟩:=hL;have h2:=iT (c:=c) hg ops _ _ _ _ YB QW;have:=wpAny_of_seq (P:=c.g.P) (md:=.any) (ops:=ops.toArray) (Q':=NoPan (Up c Q)) (ops.drop n) n Jf a' w' (λj=>by simp) (by rw[Vy];exact hq) (j5 (λe a w hq=>by
   cases e with
   | normal=>exact hq
   | _=>exact Xn hq (by rintro⟨_,_,h⟩;exact h)) h2)
  rwa [Vy] at this) _ _ _ _ H
 rw[hl,show n+(ops.toArray.size-n)=ops.toArray.size by simp;omega] at H2;exact H2
end
end
section
theorem NK (cs:List Nat){c:Cx}{S:Env}{w:World}{Q:Zg}(hg:c.g.Ok){x y:Code}(R:World->Prop)
  (hx:WG (ew x) S [] (λS0=>Va {c with cuts:=cs} x S w (λe S2 w2=>match e with
   | .normal=>Has S0 S2/\R w2
   | e=>Q e S2 w2)))
  (hy:WG (ew x) S [] (λS0=>∀w',R w'->Va c y S0 w' Q)):jU c (.seq x y) S w Q:=by
 rw[zq] at hx hy;unfold jU;intro a hf;refine wp_seq (wp_mono (iU (c:={c with cuts:=cs}) hg x S w _ a hx hf) (λe a2 w2 hq=>?_));obtain⟨S2,ZR,hq⟩:=hq;cases e with
 | normal=>exact iU hg y _ w2 Q a2 (hy w2 hq.2) (hq.1.fits ZR)
 | exit i=>exact⟨S2,ZR,hq⟩
 | goto l=>exact⟨S2,ZR,hq⟩
 | ret=>exact⟨S2,ZR,hq⟩
 | panic ch=>exact⟨S2,ZR,hq⟩
 | outgrown=>exact⟨S2,ZR,hq⟩
theorem zB {a:Addr}{n j:Nat}{i:Int}{K:Addr->Prop}(hi:i=j)(hj:j<n)(k:K (a.add j)):Wl (some a) n i 1 K:=by subst hi;exact index hj k
theorem named {a b:String}{K:Prop}(h:a=b)(k:K):Nd a b K:=by unfold Nd;exact⟨h,k⟩
theorem new {w:World}{t:TypeId}{cs:List Value}{K:Addr->World->Prop}(k:∀w1,Ext w w1->w1.heap.size=w.heap.size+1->Blk w1 w.heap.size t cs->K ⟨w.heap.size,0,none⟩ w1):pf w t cs K:=by
 unfold pf;exact k _ (Ext.alloc w _) (by simp) (Blk.new w t cs)
theorem add_add (a:Addr)(n m:Nat):(a.add n).add m=a.add (n+m):=by
 unfold Addr.add;split
 ·rename_i h;subst h;simp
 ·split
  ·rename_i h1 h2;subst h2;simp[h1]
  ·rename_i h1 h2;simp[h1,jP]
theorem NL:∀(vs cs:List Value),vs.length<=cs.length->uU vs cs=vs++cs.drop vs.length
 | [],_,_=>rfl
 | v::vs,[],h=>by simp at h
 | v::vs,c::cs,h=>by
  show v::uU vs cs=_;rw[NL vs cs (by simpa using h)]<;>rfl
theorem i5:∀(n:Nat)(vs cs:List Value),n+vs.length<=cs.length->KX n vs cs=cs.take n++vs++cs.drop (n+vs.length)
 | 0,vs,cs,h=>by
  have e:KX 0 vs cs=uU vs cs:=by cases cs<;>rfl
  rw[e,NL vs cs (by omega)];simp
 | n+1,vs,[],h=>by simp at h
 | n+1,vs,c::cs,h=>by
  show c::KX n vs cs=_;rw[i5 n vs cs (by simp at h;omega)];rw[show n+1+vs.length=(n+vs.length)+1 by omega];simp
theorem NM:∀(n:Nat)(vs cs:List Value),n+vs.length<=cs.length->(KX n vs cs).length=cs.length:=λn vs cs h=>by
 rw[i5 n vs cs h];simp;omega
theorem i6 {P:Program}{w:World}{g t:Nat}{cs vs:List Value}{j:Nat}{K:World->Prop}(h:Blk w g t cs)(hj:j+vs.length<=cs.length)(gq:∀u∈vs,JG u=true)
  (k:∀w1,w.grownBy w1 (some g)->w1.heap.size=w.heap.size->Blk w1 g t (KX j vs cs)->K w1):lU P w ((⟨g,0,none⟩:Addr).add j) vs K:=by
 unfold lU;have iC:=run_storeCells_at P g j t vs 0 cs.toArray w h (by simpa using hj) (λu hu=>zw (gq u hu));rw[pv];refine⟨_,iC,?_⟩;refine k _ ⟨rfl,rfl,rfl,by simp,λi _ hi=>setRow_other w g i _ (λe=>hi (by rw[e]))⟩ (by simp) ?_;have:=setRow_heap w g cs.toArray (cs.toArray.toList.take (j+0)++vs++cs.toArray.toList.drop (j+0+vs.length)).toArray t _ h;unfold Blk;rw[this,i5 j vs cs hj]<;>rfl
theorem Qv {P:Program}{w:World}{g t:Nat}{cs vs:List Value}{K:World->Prop}(h:Blk w g t cs)(hl:vs.length=cs.length)(gq:∀u∈vs,JG u=true)
  (k:∀w1,w.grownBy w1 (some g)->w1.heap.size=w.heap.size->Blk w1 g t vs->K w1):lU P w ⟨g,0,none⟩ vs K:=by
 have:=i6 (P:=P) (j:=0) (K:=K) h (by omega) gq (λw1 h1 h2 h3=>k w1 h1 h2 (by
  rw[i5 0 vs cs (by omega),hl] at h3;simpa using h3))
 simpa [Addr.add] using this
theorem fR {w:World}{g t:Nat}{cs vs:List Value}{j n:Nat}{K:List Value->Prop}(h:Blk w g t cs)(hn:vs.length=n)(hv:∀i v,vs[i]? =some v->cs[j+i]? =some v)(k:K vs):jT w ((⟨g,0,none⟩:Addr).add j) n K:=by
 unfold jT;exact⟨vs,hn,λi v hi=>by rw[add_add,h.cell];exact hv i v hi,k⟩
theorem Qt {w:World}{g t:Nat}{cs:List Value}{n:Nat}{K:List Value->Prop}(h:Blk w g t cs)(hn:cs.length=n)(k:K cs):jT w ⟨g,0,none⟩ n K:=by
 have:=fR (j:=0) (vs:=cs) (K:=K) h hn (λi v hi=>by simpa using hi) k;simpa [Addr.add] using this
theorem QD {w:World}{g t:Nat}{cs:List Value}{v:Value}{K:Value->Prop}(h:Blk w g t cs)(hv:cs[0]? =some v)(k:K v):gF w ⟨g,0,none⟩ K:=by
 have:=Qo (j:=0) (K:=K) h hv k;simpa [Addr.add] using this
theorem bQP {w:World}{g t:Nat}{cs:List Value}{v:Value}{K:World->Prop}(h:Blk w g t cs)(hj:0<cs.length)(k:∀w1,w.grownBy w1 (some g)->Blk w1 g t (cs.set 0 v)->K w1):dx w ⟨g,0,none⟩ v K:=by
 have:=u9 (j:=0) (v:=v) (K:=K) h hj k;simpa [Addr.add] using this
section
variable {α:Type} {f:α->List Value} {sz:Nat}
theorem dG (hf:∀x,(f x).length=sz):∀(l:List α),(l.flatMap f).length=l.length*sz
 | []=>by simp
 | x::l=>by simp[hf,dG hf l,fC,yP]
theorem i7 (hf:∀x,(f x).length=sz):∀(l:List α)(j:Nat)(x:α)(i:Nat)(v:Value),l[j]? =some x->(f x)[i]? =some v->(l.flatMap f)[j*sz+i]? =some v
 | [],j,x,i,v,h,_=>by simp at h
 | y::l,0,x,i,v,h,hi=>by
  simp at h;subst h;have:i<(f y).length:=(ZY.1 hi).1;rw[Yl,fD (by simpa using this)];simpa using hi
 | y::l,j+1,x,i,v,h,hi=>by
  rw[Yl,WC (by rw[hf];rw[fC];omega),hf];rw[show(j+1)*sz+i-sz=j*sz+i by rw[fC];omega];exact i7 hf l j x i v (by simpa using h) hi
theorem NN (hf:∀x,(f x).length=sz):∀(l:List α)(n:Nat),(l.take n).flatMap f=(l.flatMap f).take (n*sz)
 | [],n=>by simp
 | y::l,0=>by simp
 | y::l,n+1=>by
  rw[uI,Yl,Yl,NN hf l n,fC,yP,DP,hf];rw[Jc (show(f y).length<=sz+n*sz by rw[hf];omega)];rw[show sz+n*sz-sz=n*sz by omega]
def SlS (f:α->List Value)(sz:Nat)(w:World)(A:Option Addr)(n c:Nat)(l:List α):Prop:=Sl w sz A n c (l.flatMap f)/\l.length=n
theorem SlS.len {w:World}{A:Option Addr}{n c:Nat}{l:List α}(h:SlS f sz w A n c l):l.length=n:=h.2
theorem SlS.ext {w w':World}{A:Option Addr}{n c:Nat}{l:List α}(h:SlS f sz w A n c l)(k:Ext w w'):SlS f sz w' A n c l:=⟨h.1.ext k,h.2⟩
theorem SlS.nil (w:World):SlS f sz w none 0 0 []:=⟨Sl.nil w sz,rfl⟩
theorem SlS.cell (hf:∀x,(f x).length=sz){w:World}{A:Option Addr}{n c:Nat}{l:List α}(h:SlS f sz w A n c l){j:Nat}{x:α}(hj:l[j]? =some x):
  ∃ad,A=some ad/\∀i v,(f x)[i]? =some v->w.cell? ((ad.add (j*sz)).add i)=some v:=by
 have Xc:j<l.length:=(ZY.1 hj).1;obtain⟨ad,rfl,hc⟩:=h.1.at_ (by have:=h.2;omega);exact⟨ad,rfl,λi v hi=>by rw[add_add];exact hc _ _ (i7 hf l j x i v hj hi)⟩
theorem Zv (hf:∀x,(f x).length=sz){w:World}{A:Option Addr}{n c:Nat}{l:List α}{i:Int}{j:Nat}{K:Addr->Prop}(h:SlS f sz w A n c l)(hi:i=j)(hj:j<n)
  (k:∀p x,l[j]? =some x->(∀i v,(f x)[i]? =some v->w.cell? (p.add i)=some v)->K p):Wl A n i sz K:=by
 subst hi;have Xc:j<l.length:=by rw[h.2];exact hj
 have hx:l[j]? =some l[j]:=Xp Xc;obtain⟨ad,rfl,hc⟩:=h.cell hf hx;unfold Wl;exact⟨ad,rfl,by omega,by omega,by simpa using k _ _ hx hc⟩
theorem Kn {w:World}{p:Addr}{vs:List Value}{n:Nat}{K:List Value->Prop}(hn:vs.length=n)(h:∀i v,vs[i]? =some v->w.cell? (p.add i)=some v)(k:K vs):jT w p n K:=by
 unfold jT;exact⟨vs,hn,h,k⟩
end
theorem bQQ {P:Program}{w w1:World}{t ty e:TypeId}{i:TypeInfo}{z:Value}{bytes base n m cc sz:Nat}{v v':Value}{xs ys:List Value}(ht:P.underlying t=some (.slice e))(hi:P.info? e=some i)(hz:i.zero=some z)(hs:i.size=sz)(cj:i.bytes=bytes)
  (Wb:w.ownsRow base e sz v n xs) (b:Addr) (hm:0<m) (hl:ys.length=m*sz) (Xq:∀j u,ys[j]? =some u->w.cell? (b.add j)=some u) (h1:∀u∈ys,u.oneCell'=true) (gZ:n+m<=maxLen) (LJ:(n+m)*bytes<=140737488355328)
  (Ja:(Builtin.append_ #[t,t] ty #[v,.slice (some b) m cc]).run P w= .ok v' w1):∀g',v'.ownBlock=some g'->v.ownBlock=some g'∨w.heap.size<=g':=by
 intro g' Vz;subst cj;have nQr:n+m<=9223372036854775807:=by simp only[maxLen] at gZ;omega
 rcases Wb.2 with⟨rfl,rfl⟩ | ⟨g,cap,ZD,rfl,hbg,hg,og,lz,XY,qZ⟩
 ·have hr:=run_append_nil (P:=P) w t ty e i z ht hi hz b m cc ys (by rw[hl,hs]) Xq (by omega) (by omega) (by have hb:=LJ;simp only[Wh] at hb;omega);rw[hr] at Ja;cases Ja;simp[Value.ownBlock] at Vz;exact .inr (by omega)
 ·by_cases Df:n+m<=cap
  ·have hr:=run_append_room (P:=P) w t ty e i ht hi g n cap ZD hg b m cc ys (by rw[hl,hs]) Xq h1 Df (by rw[hl,hs,XY,<-oW];exact bG _ Df);rw[hr] at Ja;cases Ja;exact .inl Vz
  ·have holds:∀j u,xs[j]? =some u->w.cell? ((⟨g,0,none⟩:Addr).add j)=some u:=Wb.cells (g:=g) rfl
   have hr:=run_append_grow (P:=P) w t ty e i z ht hi hz ⟨g,0,none⟩ n cap xs (by rw[hs];exact Wb.1) holds b m cc ys (by rw[hl,hs]) Xq (by omega) (by omega) (growslice_fits (by omega) LJ);rw[hr] at Ja;cases Ja;simp[Value.ownBlock] at Vz;exact .inr (by omega)
theorem bQR {c:Cx}(hg:c.g.Ok){o:Oper}{S:Env}{w:World}{K:Env->World->Prop}{Q:Zg}{t t2 e sz:Nat}{x y:Operand}{A B:Option Addr}{n cp:Nat}{m c2:Nat}{xs ys:List Value}{base:Nat}{r re r2:TyRow}
  (ho:o.op= .call ⟨.builtin .append, #[x,y], #[t,t2]⟩) (hr:QT c.g.tys t=some r) (hd:r.d= .slice e) (X2:QT c.g.tys e=some re) (hs:re.sz=sz) (G4:0<sz) (jD:re.z.cells.size=sz) (Y3:QT c.g.tys t2=some r2) (az:∃e2,r2.d= .slice e2)
  (hx:S.ev x=some (.slice A n cp)) (hy:S.ev y=some (.slice B m c2)) (Wb:Own w base e sz A n cp xs) (gp:Sl w sz B m c2 ys) (gq:∀u∈ys,JG u=true)
  (gZ:n+m<=maxLen) (cj:(n+m)*re.by_<=140737488355328) (q7:base<=w.heap.size)
  (k:∀A' c' w1,w.grownBy w1 (Value.slice A n cp).ownBlock->Own w1 base e sz A' (n+m) c' (xs++ys)->(∀ad,A'=some ad->A=some ad∨w.heap.size<=ad.block)->Xd c S o.dst (.v (.slice A' (n+m) c')) (λS=>K S w1)):X8 c o S w K Q:=by
 obtain⟨_,i,hi,XJ,nW,cm⟩:=hg.row X2;have Q0:=(hg.row hr).1;rw[hd] at Q0;obtain⟨e2,az⟩:=az;have tw:=(hg.row Y3).1;rw[az] at tw;have QY:ys.length=m*sz:=gp.len;unfold X8;intro a hf;have e1:=hf.ev hx;have wv:=hf.ev hy;have key:∃v' w1,(Builtin.append_ #[t,t] o.type #[.slice A n cp,.slice B m c2]).run c.g.P w= .ok v' w1/\w1.ownsRow base e sz v' (n+m) (xs++ys)/\w.grownBy w1 (Value.slice A n cp).ownBlock/\(∀g',v'.ownBlock=some g'->(Value.slice A n cp).ownBlock=some g'∨w.heap.size<=g'):=by
  by_cases h0:m=0
  ·subst h0;have xW:ys=[]:=Wg (by omega);subst xW;have Zz:n<=cp:=Wb.sl.le;refine⟨.slice A n cp,w,?_,by simpa using Wb.row,⟨rfl,rfl,rfl,QB _,λ_ _ _=>rfl⟩,λ_ h=>.inl h⟩;cases A<;>cases B<;>simp[Builtin.append_,ZU Q0,sizeOf,typeInfo,hi,Builtin.lenOf,Zz,Builtin.firstCells,loadCells,loadCellsFrom,storeCells]
  ·obtain⟨b,rfl,Xq⟩:=gp.at_ (by omega);obtain⟨v',w1,Ja,J6,qY,_⟩:=run_append_own (P:=c.g.P) (w:=w) base t o.type e i re.z sz re.by_ Q0 hi cm (by rw[XJ,hs]) nW jD G4 _ n xs Wb.row b m c2 ys QY Xq (λu hu=>zw (gq u hu)) gZ cj q7;exact⟨v',w1,Ja,J6,qY,bQQ Q0 hi cm (by rw[XJ,hs]) nW Wb.row b (by omega) QY Xq (λu hu=>zw (gq u hu)) gZ cj Ja⟩
 obtain⟨v',w1,Ja,J6,qY,LK⟩:=key;obtain⟨A',c',rfl,LL⟩:=nQ5 J6;have LM:∀ad,A'=some ad->A=some ad∨w.heap.size<=ad.block:=λad e=>by
  subst e;rcases LK ad.block rfl with h | h
  ·left
   rcases Wb.row.2 with⟨hv,_⟩ | ⟨g,cap,ZD,hv,_⟩
   ·cases hv;simp[Value.ownBlock] at h
   ·cases hv;rcases J6.2 with⟨hv,_⟩ | ⟨g2,jQM,jQN,Kb,_⟩
    ·cases hv
    ·cases Kb;simp[Value.ownBlock] at h;rw[h]
  ·exact .inr h
 refine bH (v:=.slice A' (n+m) c') (w':=w1) ?_ (Zu (e:=.v _) (k A' c' w1 qY LL LM) hf);have lQJ:(Builtin.append_ #[t,t2] o.type #[.slice A n cp,.slice B m c2]).run c.g.P w=(Builtin.append_ #[t,t] o.type #[.slice A n cp,.slice B m c2]).run c.g.P w:=by
  simp[Builtin.append_,ZU Q0,ZU tw]
 simp only[execOp,ho,resolve,invoke];simp[builtin,e1,wv,lQJ,Ja]
theorem bQS {P:Program}{w w1:World}{t u ty e:TypeId}{i:TypeInfo}{base n:Nat}{v v':Value}{xs:List Value}(ht:P.underlying t=some (.slice e))(hu:P.underlying u=some .string)(hi:P.info? e=some i)(hz:i.zero=some (.int .u8 0))(hs:i.size=1)(cj:i.bytes=1)
  (Wb:w.ownsRow base e 1 v n xs) (s:ByteArray) (LJ:n+s.size<=140737488355328)
  (Ja:(Builtin.append_ #[t,u] ty #[v,.string s]).run P w= .ok v' w1):∀g',v'.ownBlock=some g'->v.ownBlock=some g'∨w.heap.size<=g':=by
 intro g' Vz;have gr:xs.length=n:=by simpa using Wb.1
 rcases Wb.2 with⟨rfl,rfl⟩ | ⟨g,cap,ZD,rfl,hbg,hg,og,lz,XY,qZ⟩
 ·by_cases hm:s.size=0
  ·have hf:=Lib.run_firstCells_string (P:=P) w 1 s;rw[hm] at hf;have:(Builtin.append_ #[t,u] ty #[.slice none 0 0,.string s]).run P w= .ok (.slice none 0 0) w:=by
    simp[Builtin.append_,ZU ht,ZU hu,sizeOf,typeInfo,hi,hs,Builtin.lenOf,hm,hf]
   rw[this] at Ja;cases Ja;simp[Value.ownBlock] at Vz
  ·have hr:=run_append_nil_string (P:=P) w t u ty e i (.int .u8 0) ht hu hi hz s (by omega) (by omega) (by rw[cj];omega);rw[hr] at Ja;cases Ja;simp[Value.ownBlock] at Vz;exact .inr (by omega)
 ·by_cases Df:n+s.size<=cap
  ·have nQs:ZD.size=cap:=by simpa using XY
   have hr:=Lib.run_append_room_string (P:=P) w t u ty e i ht hu hi hs g n cap ZD hg s Df (by omega);rw[hr] at Ja;cases Ja;exact .inl Vz
  ·have holds:∀j u,xs[j]? =some u->w.cell? ((⟨g,0,none⟩:Addr).add j)=some u:=Wb.cells (g:=g) rfl
   have hr:=Lib.run_append_grow_string (P:=P) w t u ty e i (.int .u8 0) ht hu hi hz ⟨g,0,none⟩ n cap xs (by rw[hs];simpa using gr) holds s (by omega) (by omega) (by rw[cj];exact growslice_fits (by omega) (by omega));rw[hr] at Ja;cases Ja;simp[Value.ownBlock] at Vz;exact .inr (by omega)
theorem bQT {c:Cx}(hg:c.g.Ok){o:Oper}{S:Env}{w:World}{K:Env->World->Prop}{Q:Zg}{t t2 e:Nat}{x y:Operand}{A:Option Addr}{n cp:Nat}{s:ByteArray}{xs:List Value}{base:Nat}{r re r2:TyRow}
  (ho:o.op= .call ⟨.builtin .append, #[x,y], #[t,t2]⟩) (hr:QT c.g.tys t=some r) (hd:r.d= .slice e) (X2:QT c.g.tys e=some re) (hs:re.sz=1) (jD:re.z= .int .u8 0) (Dg:re.by_=1) (Y3:QT c.g.tys t2=some r2) (az:r2.d= .string)
  (hx:S.ev x=some (.slice A n cp)) (hy:S.ev y=some (.string s)) (Wb:Own w base e 1 A n cp xs)
  (gZ:n+s.size<=140737488355328) (q7:base<=w.heap.size)
  (k:∀A' c' w1,w.grownBy w1 (Value.slice A n cp).ownBlock->Own w1 base e 1 A' (n+s.size) c' (xs++Lib.strCells s)->(∀ad,A'=some ad->A=some ad∨w.heap.size<=ad.block)->Xd c S o.dst (.v (.slice A' (n+s.size) c')) (λS=>K S w1)):X8 c o S w K Q:=by
 obtain⟨_,i,hi,XJ,nW,cm⟩:=hg.row X2;have Q0:=(hg.row hr).1;rw[hd] at Q0;have tw:=(hg.row Y3).1;rw[az] at tw;unfold X8;intro a hf;have e1:=hf.ev hx;have wv:=hf.ev hy;obtain⟨v',w1,Ja,J6,qY,_⟩:=Lib.run_append_own_string (P:=c.g.P) (w:=w) base t t2 o.type e i Q0 tw hi (by rw[cm,jD]) (by rw[XJ,hs]) (by rw[nW,Dg]) _ n xs Wb.row s (by unfold maxLen;omega) gZ q7;have LK:=bQS Q0 tw hi (by rw[cm,jD]) (by rw[XJ,hs]) (by rw[nW,Dg]) Wb.row s gZ Ja;obtain⟨A',c',rfl,LL⟩:=nQ5 J6;have LM:∀ad,A'=some ad->A=some ad∨w.heap.size<=ad.block:=λad e=>by
  subst e;rcases LK ad.block rfl with h | h
  ·left
   rcases Wb.row.2 with⟨hv,_⟩ | ⟨g,cap,ZD,hv,_⟩
   ·cases hv;simp[Value.ownBlock] at h
   ·cases hv;rcases J6.2 with⟨hv,_⟩ | ⟨g2,jQM,jQN,Kb,_⟩
    ·cases hv
    ·cases Kb;simp[Value.ownBlock] at h;rw[h]
  ·exact .inr h
 refine bH (v:=.slice A' (n+s.size) c') (w':=w1) ?_ (Zu (e:=.v _) (k A' c' w1 qY LL LM) hf);simp only[execOp,ho,resolve,invoke];simp[builtin,e1,wv,Ja]
def Ew:Nat->List (List Value)->List (Nat×Value)->Prop
 | _,[],[]=>True
 | n,cs::l,(i,v)::r=>i=n/\JR v=cs/\Ew (n+1) l r
 | _,_,_=>False
theorem NO {sz:Nat}{z:List Value}(hz:z.length=sz):∀(parts:List (Nat×Value))(n:Nat)(l:List (List Value))(pre:List Value),Ew n l parts->(∀cs∈l,cs.length=sz)->pre.length=n*sz->
  Instr.fill (λi=>some (i*sz,sz)) (pre++(List.replicate l.length z).flatten).toArray parts=some (pre++l.flatten).toArray
 | [],n,[],pre,_,_,_=>by simp[Instr.fill]
 | [],n,_::_,pre,h,_,_=>h.elim
 | _::_,n,[],pre,h,_,_=>h.elim
 | (i,v)::parts,n,cs::l,pre,h,hl,hp=>by
  obtain⟨rfl,rfl,h'⟩:=h;have hc:(JR v).length=sz:=hl _ (by simp);have XY:v.cells.size=sz:=by rw[<-hc,<-pm];simp
  have hcond:¬((v.cells.size≠sz||i*sz+v.cells.size>(pre++(List.replicate (JR v::l).length z).flatten).toArray.size)=true):=by
   rw[XY];simp[hp,MT,hz]
  unfold Instr.fill;simp only;rw[if_neg hcond];have e:(v.cells.zipIdx.foldl (λcs (c,j)=>cs.setIfInBounds (i*sz+j) c) (pre++(List.replicate (JR v::l).length z).flatten).toArray)=((pre++JR v)++(List.replicate l.length z).flatten).toArray:=by
   apply Array.ext';rw[Ns,pm,i5 _ _ _ (by simp[hp,MT,hz,hc])];simp only[Q6,MT,MU];rw[DP,List.drop_append,hp];simp only[yQ,List.take_zero,KW];rw[Jc (by omega),rJ (by omega),bF];rw[show i*sz+(JR v).length-i*sz=sz by omega,List.drop_append,hz,yQ,rK,rJ (by omega)];simp
  rw[e];have:=NO hz parts (i+1) l (pre++JR v) h' (λcs XY=>hl cs (by simp[XY])) (by rw[Qq,hp,hc,fC]);rw[this];simp
theorem NP (z:List Value)(hz:0<z.length):∀(n:Nat),(List.range (n*z.length)).map (λj=>z.toArray[j % z.length]!)=(List.replicate n z).flatten
 | 0=>by simp
 | n+1=>by
  rw[fC,List.range_add,ep,NP z hz n,List.replicate_succ',List.flatten_append];congr 1;simp only[oV,MU,List.flatten_nil,KW];apply List.ext_getElem
  ·simp
  ·intro i h1 h2;simp at h1;simp[jR h1,h1]
theorem Xh {c:Cx}(hg:c.g.Ok){o:Oper}{S:Env}{w:World}{K:Env->World->Prop}{Q:Zg}{t e n:Nat}{r re:TyRow}{ps:Array (Nat×Operand)}{vs:List (Nat×Value)}(l:List (List Value))
  (ho:o.op= .buildSlice t n ps) (hr:QT c.g.tys t=some r) (hd:r.d= .slice e) (X2:QT c.g.tys e=some re) (hv:rQ S ps.toList=some vs) (hb:Ew 0 l vs) (hn:l.length=n) (hl:∀cs∈l,cs.length=re.sz) (hz:(JR re.z).length=re.sz) (XJ:0<re.sz) (q9:n*re.sz<=16777216)
  (k:∀w1,Ext w w1->w1.heap.size=w.heap.size+1->Blk w1 w.heap.size e l.flatten->Xd c S o.dst (.v (.slice (some ⟨w.heap.size,0,none⟩) n n)) (λS=>K S w1)):X8 c o S w K Q:=by
 obtain⟨_,i,hi,hsi,nW,cm⟩:=hg.row X2;have Q0:=(hg.row hr).1;rw[hd] at Q0;subst hn;refine Jx (w':=w.alloc (.cells l.flatten.toArray e)) (λa hf=>?_) (k _ (Ext.alloc w _) (by simp) (Blk.new w e l.flatten));have nU:=Ej (ρ:=a.eval) (λx v h=>hf.ev h) _ _ hv;have aQI:(ps.map λ(x:Nat×Operand)=>(x.1,a.eval x.2)).toList=vs:=by rw[MS];exact nU
 have jD:re.z.cells=(JR re.z).toArray:=by rw[<-pm]
 have uo:=NO hz vs 0 l [] hb hl (by simp);simp only[bF] at uo;have Dh:=NP (JR re.z) (by rw[hz];exact XJ) l.length;rw[hz] at Dh;simp only[execOp,ho,Instr.buildSlice];rw[show(ps.map λ(x:Nat×Operand)=>(x.1,a.eval x.2)).toList=vs from aQI];have gY:¬l.length*re.sz>2^24:=by omega
 by_cases h0:l.length=0
 ·have xW:l=[]:=Wg h0;subst xW;cases vs with
  | cons p vs=>exact hb.elim
  | nil=>simp[ZU Q0,sizeOf,typeInfo,hi,Instr.fill,newRow,Array.range_zero']
 ·have h1:¬(l.length*re.sz=0):=by
   intro h;rcases Nat.mul_eq_zero.1 h with h | h<;>omega
  have xR:(Array.range (l.length*re.sz)).map (λj=>(JR re.z).toArray[j % (JR re.z).toArray.size]!)=(List.replicate l.length (JR re.z)).flatten.toArray:=by
   apply Array.ext';rw[MS,Array.toList_range];simpa [hz] using Dh
  simp only[Sem.run_bind,ZU Q0,Result.andThen_ok,sizeOf,typeInfo,run_program,hi,Sem.run_pure,hsi,if_neg gY,if_neg h1,zeroValue,cm,jD];rw[xR];simp only[uo];simp[newRow]
def r5:TypeDesc->Nat
 | .int _=>0
 | .string=>1
 | .bool=>2
 | _=>1000
structure KeyV {α:Type} [DecidableEq α] (d:TypeDesc) (kv:α->Value):Prop where
 same:∀a b,Instr.sameNow d (kv a) (kv b)=some (decide (a=b))
 bits:∀a n,Instr.sameBits n (kv a) (kv a)=true
 plain:r5 d<3
theorem KeyV.int (k:IntKind):KeyV (.int k) (λn:Int=>.int k n):=⟨λa b=>by simp[Instr.sameNow];rfl,λa n=>by cases n<;>simp[Instr.sameBits],by simp[r5]⟩
theorem nQR:KeyV .string (λs:ByteArray=>.string s):=⟨λa b=>by
  simp only[Instr.sameNow,Option.some.injEq];rw[beq_toListBytes,uW],λa n=>by cases n<;>(simp only[Instr.sameBits];rw[beq_toListBytes,uW];simp),by simp[r5]⟩
theorem KeyV.bool:KeyV .bool (λb:Bool=>.bool b):=⟨λa b=>by simp only[Instr.sameNow];cases a<;>cases b<;>rfl,λa n=>by cases n<;>simp[Instr.sameBits],by simp[r5]⟩
def Xz {α:Type} [DecidableEq α](a:α):List (α×Value)->Option Value
 | []=>none
 | (b,v)::l=>if a=b then some v else Xz a l
def Ze {α:Type} [DecidableEq α](a:α)(v:Value):List (α×Value)->List (α×Value)
 | []=>[(a,v)]
 | (b,u)::l=>if a=b then(b,v)::l else(b,u)::Ze a v l
theorem aS {α:Type} [DecidableEq α](a b:α)(v:Value):∀l,Xz b (Ze a v l)=if b=a then some v else Xz b l
 | []=>by simp[Ze,Xz]
 | (d,u)::l=>by
  simp only[Ze];split
  ·rename_i h;subst h;simp only[Xz];split<;>rfl
  ·rename_i h;simp only[Xz,aS a b v l];by_cases h1:b=d
   ·subst h1;rw[Qf rfl,if_neg (λe=>h e.symm)];simp
   ·rw[if_neg h1,if_neg h1]
def XV {α:Type}(kv:α->Value)(m:List (α×Value))(bs:List Nat):List MapEntry:=(m.zip bs).map λp=>{key:=kv p.1.1,val:=p.1.2,born:=p.2}
structure MapAt {α:Type} (kv:α->Value) (w:World) (r:Nat) (m:List (α×Value)):Prop where
 ex:∃bs ck,bs.length=m.length/\w.heap[r]? =some (.map (XV kv m bs).toArray ck)
theorem MapAt.ext {α:Type}{kv:α->Value}{w w':World}{r:Nat}{m:List (α×Value)}(h:MapAt kv w r m)(k:Ext w w'):MapAt kv w' r m:=by
 obtain⟨bs,ck,hl,hb⟩:=h.ex;exact⟨bs,ck,hl,(k.block r (fA.1 hb).1 (by simp)).trans hb⟩
theorem MapAt.lt {α:Type}{kv:α->Value}{w:World}{r:Nat}{m:List (α×Value)}(h:MapAt kv w r m):r<w.heap.size:=by
 obtain⟨bs,ck,hl,hb⟩:=h.ex;exact(fA.1 hb).1
section
variable {α:Type} [DecidableEq α] {d:TypeDesc} {kv:α->Value}
theorem vi {α:Type}{c:Cx}(_:c.g.Ok){o:Oper}{S:Env}{w:World}{K:Env->World->Prop}{Q:Zg}{t:Nat}(kv:α->Value)(ho:o.op= .makeMap t none)
  (k:∀w1,Ext w w1->w1.heap.size=w.heap.size+1->MapAt kv w1 w.heap.size []->Xd c S o.dst (.v (.map (some w.heap.size))) (λS=>K S w1)):X8 c o S w K Q:=by
 refine Jx (w':=w.alloc (.map #[] 0)) (λa hf=>?_) (k _ (Ext.alloc w _) (by simp) ⟨[],0,rfl,heap_alloc_new w _⟩);simp[execOp,ho,Instr.makeMap]
theorem vj {P:Program}{t:TypeId}(hu:P.underlying t=some d)(hd:r5 d<3)(b:Bool)(n:Nat)(v:Value)(w:World):(Instr.checkKey b (n+1) t v).run P w= .ok () w:=by
 simp only[Instr.checkKey,Sem.run_bind,ZU hu,Result.andThen_ok];cases d<;>first | (simp[r5] at hd;done) | rfl
theorem Ex (hk:KeyV d kv)(a:α):∀(m:List (α×Value))(bs:List Nat)(i:Nat),bs.length=m.length->
  ∃r,Instr.findNow d (kv a) (XV kv m bs) i=some r/\r.map (·.2)=Xz a m/\(∀j v,r=some (j,v)->i<=j/\j<i+m.length/\∀v',XV kv (Ze a v' m) bs=(XV kv m bs).modify (j-i) (λe=>{e with key:=kv a,val:=v'})/\((XV kv m bs)[j-i]?).map (·.key)=some (kv a))/\(r=none->∀v',Ze a v' m=m++ [(a,v')])
 | [],bs,i,h=>⟨none,rfl,rfl,(λj v h=>by cases h),λ_ v'=>rfl⟩
 | (b,u)::m,[],i,h=>by simp at h
 | (b,u)::m,s::bs,i,h=>by
  have e:XV kv ((b,u)::m) (s::bs)={key:=kv b,val:=u,born:=s}::XV kv m bs:=rfl;rw[e];unfold Instr.findNow;simp only[hk.same];by_cases Yi:a=b
  ·subst Yi;simp only[decide_true];refine⟨some (i,u),rfl,by simp[Xz],λj v hj=>?_,λh=>by cases h⟩;cases hj;refine⟨QB _,by simp,λv'=>?_⟩;simp[Ze,XV]
  ·simp only[Yi,decide_false];obtain⟨r,h1,h2,h3,h4⟩:=Ex hk a m bs (i+1) (by simpa using h);refine⟨r,h1,by simp[Xz,Yi,h2],λj v hj=>?_,λhn v'=>by simp[Ze,Yi,h4 hn v']⟩;obtain⟨h5,h6,h7⟩:=h3 j v hj;refine⟨by omega,by simp;omega,λv'=>?_⟩;obtain⟨h8,h9⟩:=h7 v';rw[show j-i=(j-(i+1))+1 by omega];refine⟨?_,by simpa using h9⟩;simp only[Ze,Yi,if_false];rw[show XV kv ((b,u)::Ze a v' m) (s::bs)={key:=kv b,val:=u,born:=s}::XV kv (Ze a v' m) bs from rfl,h8];simp
variable {c:Cx} (hg:c.g.Ok) {o:Oper} {S:Env} {w:World} {K:Env->World->Prop} {Q:Zg} {t ke e:Nat} {r rk re:TyRow} {x y:Operand} {q:Nat} {m:List (α×Value)} {a:α}
include hg
theorem Ey (hr:QT c.g.tys t=some r)(hd:r.d= .map ke e)(bw:QT c.g.tys ke=some rk)(X2:QT c.g.tys e=some re)(hk:KeyV rk.d kv)(hm:MapAt kv w q m)(ok:Bool):
  (Instr.lookup t (.map (some q)) (kv a) ok).run c.g.P w= .ok (match Xz a m with
   | some v=>if ok then .tuple #[v,.bool true] else v
   | none=>if ok then .tuple #[re.z,.bool false] else re.z) w:=by
 have Q0:=(hg.row hr).1;rw[hd] at Q0;have gs:=(hg.row bw).1;obtain⟨_,i,hi,_,_,hz⟩:=hg.row X2;obtain⟨bs,ck,hl,hb⟩:=hm.ex;obtain⟨res,h1,h2,_,_⟩:=Ex hk a m bs 0 hl;have ei:(getObj q).run c.g.P w= .ok (.map (XV kv m bs).toArray ck) w:=by simp[getObj,Sem.run,hb]
 simp only[Instr.lookup,Sem.run_bind,ZU Q0,Result.andThen_ok,ei];simp only[Sem.run_pure,Result.andThen_ok,vj gs hk.plain,Instr.findKey,Sem.run_bind,ZU gs,h1];cases res with
 | none=>
  have:Xz a m=none:=by simpa using h2.symm
  rw[this];cases ok<;>simp[zeroValue,typeInfo,hi,hz]
 | some p=>
  have:Xz a m=some p.2:=by simpa using h2.symm
  rw[this];cases ok<;>simp
theorem bQU (ho:o.op= .lookup t x y false)(hr:QT c.g.tys t=some r)(hd:r.d= .map ke e)(bw:QT c.g.tys ke=some rk)(X2:QT c.g.tys e=some re)(hk:KeyV rk.d kv)
  (hx:S.ev x=some (.map (some q))) (hy:S.ev y=some (kv a)) (hm:MapAt kv w q m) (k:Xd c S o.dst (.v ((Xz a m).getD re.z)) (λS=>K S w)):X8 c o S w K Q:=by
 refine Jx (w':=w) (v:=(Xz a m).getD re.z) (λb hf=>?_) k;have e1:=hf.ev hx;have e2:=hf.ev hy;have:=Ey (w:=w) (a:=a) hg hr hd bw X2 hk hm false;simp only[execOp,ho,e1,e2];simp only[Sem.run_bind,this,Result.andThen_ok];cases Xz a m<;>simp
theorem bQV (ho:o.op= .lookup t x y true)(hr:QT c.g.tys t=some r)(hd:r.d= .map ke e)(bw:QT c.g.tys ke=some rk)(X2:QT c.g.tys e=some re)(hk:KeyV rk.d kv)
  (hx:S.ev x=some (.map (some q))) (hy:S.ev y=some (kv a)) (hm:MapAt kv w q m) (k:Xd c S o.dst (.v (.tuple #[(Xz a m).getD re.z,.bool (Xz a m).isSome])) (λS=>K S w)):X8 c o S w K Q:=by
 refine Jx (w':=w) (v:=.tuple #[(Xz a m).getD re.z,.bool (Xz a m).isSome]) (λb hf=>?_) k;have e1:=hf.ev hx;have e2:=hf.ev hy;have:=Ey (w:=w) (a:=a) hg hr hd bw X2 hk hm true;simp only[execOp,ho,e1,e2];simp only[Sem.run_bind,this,Result.andThen_ok];cases Xz a m<;>simp
theorem j7 {v:Value}{z:Operand}(ho:o.op= .mapUpdate t x y z)(iD:o.dst=none)(hr:QT c.g.tys t=some r)(hd:r.d= .map ke e)(bw:QT c.g.tys ke=some rk)(hk:KeyV rk.d kv)
  (hx:S.ev x=some (.map (some q))) (hy:S.ev y=some (kv a)) (hz:S.ev z=some v) (hm:MapAt kv w q m)
  (k:∀w1,w.grownBy w1 (some q)->w1.heap.size=w.heap.size->MapAt kv w1 q (Ze a v m)->K S w1):X8 c o S w K Q:=by
 have Q0:=(hg.row hr).1;rw[hd] at Q0;have gs:=(hg.row bw).1;obtain⟨bs,ck,hl,hb⟩:=hm.ex;have Xc:q<w.heap.size:=(fA.1 hb).1;obtain⟨res,h1,h2,h3,h4⟩:=Ex hk a m bs 0 hl;have ei:(getObj q).run c.g.P w= .ok (.map (XV kv m bs).toArray ck) w:=by simp[getObj,Sem.run,hb]
 have fj:∀ob,(setObj q ob).run c.g.P w= .ok () {w with heap:=w.heap.setIfInBounds q ob}:=λob=>by simp[setObj,Sem.run,hb]
 have main:∃ob,(Instr.mapUpdate t (.map (some q)) (kv a) v).run c.g.P w= .ok () {w with heap:=w.heap.setIfInBounds q ob}/\∃W3 ck',W3.length=(Ze a v m).length/\ob= .map (XV kv (Ze a v m) W3).toArray ck':=by
  cases res with
  | none=>
   refine⟨_,?_,bs++ [ck],ck+1,?_,rfl⟩
   ·simp only[Instr.mapUpdate,Sem.run_bind,ZU Q0,Result.andThen_ok,ei,vj gs hk.plain,Instr.findKey,ZU gs,h1,Sem.run_pure,fj];rw[h4 rfl v];congr 4;simp only[XV];rw[List.zip_append hl.symm,ep];simp
   ·rw[h4 rfl v];simp[hl]
  | some p=>
   obtain⟨j,u⟩:=p;obtain⟨_,hj,h7⟩:=h3 j u rfl;obtain⟨h8,h9⟩:=h7 v;simp only[Nat.sub_zero] at h8 h9;have LN:(((XV kv m bs).toArray[j]?).map (·.key)).getD (kv a)=kv a:=by
    rw[show(XV kv m bs).toArray[j]? =(XV kv m bs)[j]? from by simp,h9]<;>rfl
   refine⟨_,?_,bs,ck,?_,rfl⟩
   ·simp only[Instr.mapUpdate,Sem.run_bind,ZU Q0,Result.andThen_ok,ei,vj gs hk.plain,Instr.findKey,ZU gs,h1,Sem.run_pure,LN,Instr.keyThatStays,hk.bits,if_true,fj];rw[h8];congr 4;simp
   ·have:=QC List.length h8;simp only[XV,JF,List.length_zip,List.length_modify] at this;have QY:(Ze a v m).length=m.length:=by
     have nX:∀(m:List (α×Value)),(Xz a m).isSome->(Ze a v m).length=m.length:=by
      intro m;induction m with
      | nil=>intro h;simp[Xz] at h
      | cons p m ih=>
       obtain⟨b,x⟩:=p;intro h;simp only[Ze];split
       ·simp
       ·rename_i Yi;simp[ih (by simpa [Xz,Yi] using h)]
     exact nX m (by rw[<-h2];rfl)
    rw[QY,hl]
 obtain⟨ob,Ja,W3,ck',di,rfl⟩:=main;unfold X8;intro b hf;have e1:=hf.ev hx;have e2:=hf.ev hy;have e3:=hf.ev hz;unfold Oper.wp;have:(execOp b.eval o).run c.g.P w= .ok .skip {w with heap:=w.heap.setIfInBounds q (.map (XV kv (Ze a v m) W3).toArray ck')}:=by
  simp only[execOp,ho,e1,e2,e3];simp[Ja]
 rw[this];refine⟨S,by rw[iD];simpa [Act.put] using hf,k _ ⟨rfl,rfl,rfl,by simp,λi _ hi=>?_⟩ (by simp) ⟨W3,ck',di,?_⟩⟩
 ·simp only[DQ];rw[if_neg (λe=>hi (by rw[e]))]
 ·simp[Xc]
end
end
noncomputable section
def gx:Gx where
 P:=Tryz.prog
 tys:=[
  ⟨1,.func #[] #[] false,1,8,.nilFunc⟩,
  ⟨3,.int .i64,1,8,.int .i64 0⟩,
  ⟨4,.bool,1,1,.bool false⟩,
  ⟨5,.int .u8,1,1,.int .u8 0⟩,
  ⟨9,.string,1,16,.string ByteArray.empty⟩,
  ⟨20,.interface #[],1,16,.nilIface⟩,
  ⟨21,.int .i32,1,4,.int .i32 0⟩,
  ⟨22,.slice 83,1,24,.slice none 0 0⟩,
  ⟨23,.slice 89,1,24,.slice none 0 0⟩,
  ⟨25,.struct #[⟨ "Family",5,0,false,"","",0⟩,⟨ "Lines",22,1,false,"","",8⟩,⟨ "Edits",23,2,false,"","",32⟩],3,56,.agg #[.int .u8 0,.slice none 0 0,.slice none 0 0]⟩,
  ⟨28,.slice 58,1,24,.slice none 0 0⟩,
  ⟨30,.slice 105,1,24,.slice none 0 0⟩,
  ⟨32,.struct #[⟨ "Nodes",30,0,false,"","",0⟩,⟨ "Root",3,1,false,"","",24⟩],2,32,.agg #[.slice none 0 0,.int .i64 0]⟩,
  ⟨34,.int .i64,1,8,.int .i64 0⟩,
  ⟨37,.slice 9,1,24,.slice none 0 0⟩,
  ⟨39,.slice 48,1,24,.slice none 0 0⟩,
  ⟨41,.struct #[⟨ "Text",9,0,false,"","",0⟩,⟨ "Segments",39,1,false,"","",16⟩],2,40,.agg #[.string ByteArray.empty,.slice none 0 0]⟩,
  ⟨44,.int .u64,1,8,.int .u64 0⟩,
  ⟨45,.int .u64,1,8,.int .u64 0⟩,
  ⟨48,.struct #[⟨ "From",3,0,false,"","",0⟩,⟨ "To",3,1,false,"","",8⟩,⟨ "File",3,2,false,"","",16⟩,⟨ "At",3,3,false,"","",24⟩,⟨ "If",32,4,false,"","",32⟩],6,64,.agg #[.int .i64 0,.int .i64 0,.int .i64 0,.int .i64 0,.slice none 0 0,.int .i64 0]⟩,
  ⟨54,.slice 56,1,24,.slice none 0 0⟩,
  ⟨56,.struct #[⟨ "If",32,0,false,"","",0⟩,⟨ "Text",9,2,false,"","",32⟩],3,48,.agg #[.slice none 0 0,.int .i64 0,.string ByteArray.empty]⟩,
  ⟨58,.struct #[⟨ "From",3,0,false,"","",0⟩,⟨ "To",3,1,false,"","",8⟩,⟨ "Text",9,2,false,"","",16⟩,⟨ "If",32,3,false,"","",32⟩],5,64,.agg #[.int .i64 0,.int .i64 0,.string ByteArray.empty,.slice none 0 0,.int .i64 0]⟩,
  ⟨62,.slice 5,1,24,.slice none 0 0⟩,
  ⟨63,.slice 62,1,24,.slice none 0 0⟩,
  ⟨65,.struct #[⟨ "Family",5,0,false,"","",0⟩,⟨ "Class",62,1,false,"","",8⟩,⟨ "Texts",63,2,false,"","",32⟩],3,56,.agg #[.int .u8 0,.slice none 0 0,.slice none 0 0]⟩,
  ⟨74,.func #[9] #[4] false,1,8,.nilFunc⟩,
  ⟨83,.struct #[⟨ "Kind",5,0,false,"","",0⟩,⟨ "If",5,1,false,"","",1⟩,⟨ "Words",62,2,false,"","",8⟩],3,32,.agg #[.int .u8 0,.int .u8 0,.slice none 0 0]⟩,
  ⟨85,.struct #[⟨ "Name",9,0,false,"","",0⟩,⟨ "Text",9,1,false,"","",16⟩],2,32,.agg #[.string ByteArray.empty,.string ByteArray.empty]⟩,
  ⟨86,.slice 85,1,24,.slice none 0 0⟩,
  ⟨89,.struct #[⟨ "Line",5,0,false,"","",0⟩,⟨ "From",5,1,false,"","",1⟩,⟨ "To",5,2,false,"","",2⟩,⟨ "Text",5,3,false,"","",3⟩,⟨ "If",5,4,false,"","",4⟩],5,5,.agg #[.int .u8 0,.int .u8 0,.int .u8 0,.int .u8 0,.int .u8 0]⟩,
  ⟨93,.struct #[⟨ "E",34,0,false,"","",0⟩,⟨ "File",3,1,false,"","",8⟩,⟨ "Line",3,2,false,"","",16⟩],3,24,.agg #[.int .i64 0,.int .i64 0,.int .i64 0]⟩,
  ⟨97,.pointer 99,1,8,.pointer none⟩,
  ⟨99,.struct #[⟨ "names",37,0,false,"","koine/patch",0⟩,⟨ "family",32,1,false,"","koine/patch",24⟩,⟨ "text",9,3,false,"","koine/patch",56⟩,⟨ "edits",28,4,false,"","koine/patch",72⟩],5,96,.agg #[.slice none 0 0,.slice none 0 0,.int .i64 0,.string ByteArray.empty,.slice none 0 0]⟩,
  ⟨105,.struct #[⟨ "Var",3,0,false,"","",0⟩,⟨ "Low",3,1,false,"","",8⟩,⟨ "High",3,2,false,"","",16⟩],3,24,.agg #[.int .i64 0,.int .i64 0,.int .i64 0]⟩,
  ⟨107,.pointer 109,1,8,.pointer none⟩,
  ⟨109,.struct #[⟨ "addr",107,0,false,"","strings",0⟩,⟨ "buf",62,1,false,"","strings",8⟩],2,32,.agg #[.pointer none,.slice none 0 0]⟩,
  ⟨112,.interface #[("Error",115)],1,16,.nilIface⟩,
  ⟨121,.int .u64,1,8,.int .u64 0⟩,
  ⟨122,.slice 45,1,24,.slice none 0 0⟩,
  ⟨127,.slice 3,1,24,.slice none 0 0⟩,
  ⟨129,.slice 132,1,24,.slice none 0 0⟩,
  ⟨132,.struct #[⟨ "from",3,0,false,"","koine/koineref29",0⟩,⟨ "to",3,1,false,"","koine/koineref29",8⟩,⟨ "in",32,2,false,"","koine/koineref29",16⟩],4,48,.agg #[.int .i64 0,.int .i64 0,.slice none 0 0,.int .i64 0]⟩,
  ⟨139,.func #[4,4] #[4] false,1,8,.nilFunc⟩,
  ⟨143,.slice 219,1,24,.slice none 0 0⟩,
  ⟨149,.slice 280,1,24,.slice none 0 0⟩,
  ⟨153,.pointer 157,1,8,.pointer none⟩,
  ⟨154,.map 9 3,1,8,.map none⟩,
  ⟨155,.map 3 4,1,8,.map none⟩,
  ⟨157,.struct #[⟨ "names",37,0,false,"","koine/source",0⟩,⟨ "files",86,1,false,"","koine/source",24⟩,⟨ "numbers",154,2,false,"","koine/source",48⟩,⟨ "reading",155,3,false,"","koine/source",56⟩,⟨ "depth",3,4,false,"","koine/source",64⟩,⟨ "text",109,5,false,"","koine/source",72⟩,⟨ "out",39,7,false,"","koine/source",104⟩,⟨ "fresh",4,8,false,"","koine/source",128⟩,⟨ "file",3,9,false,"","koine/source",136⟩,⟨ "line",3,10,false,"","koine/source",144⟩],11,152,.agg #[.slice none 0 0,.slice none 0 0,.map none,.map none,.int .i64 0,.pointer none,.slice none 0 0,.slice none 0 0,.bool false,.int .i64 0,.int .i64 0]⟩,
  ⟨160,.struct #[⟨ "place",93,0,false,"","koine/source",0⟩],3,24,.agg #[.int .i64 0,.int .i64 0,.int .i64 0]⟩,
  ⟨166,.struct #[⟨ "in",32,0,false,"","koine/patch",0⟩,⟨ "done",9,2,false,"","koine/patch",32⟩,⟨ "at",3,3,false,"","koine/patch",48⟩],4,56,.agg #[.slice none 0 0,.int .i64 0,.string ByteArray.empty,.int .i64 0]⟩,
  ⟨167,.slice 166,1,24,.slice none 0 0⟩,
  ⟨169,.func #[56] #[4] false,1,8,.nilFunc⟩,
  ⟨172,.map 105 4,1,8,.map none⟩,
  ⟨174,.pointer 177,1,8,.pointer none⟩,
  ⟨175,.map 105 3,1,8,.map none⟩,
  ⟨177,.struct #[⟨ "nodes",30,0,false,"","koine/diagram",0⟩,⟨ "known",175,1,false,"","koine/diagram",24⟩],2,32,.agg #[.slice none 0 0,.map none]⟩,
  ⟨179,.pointer 5,1,8,.pointer none⟩,
  ⟨180,.pointer 183,1,8,.pointer none⟩,
  ⟨181,.slice 242,1,24,.slice none 0 0⟩,
  ⟨183,.struct #[⟨ "a",32,0,false,"","koine/koineref02",0⟩,⟨ "b",32,2,false,"","koine/koineref02",32⟩,⟨ "op",3,4,false,"","koine/koineref02",64⟩,⟨ "nodes",30,5,false,"","koine/koineref02",72⟩,⟨ "seen",181,6,false,"","koine/koineref02",96⟩],7,120,.agg #[.slice none 0 0,.int .i64 0,.slice none 0 0,.int .i64 0,.int .i64 0,.slice none 0 0,.slice none 0 0]⟩,
  ⟨187,.func #[105] #[4] false,1,8,.nilFunc⟩,
  ⟨192,.func #[32,3] #[37] false,1,8,.nilFunc⟩,
  ⟨197,.slice 32,1,24,.slice none 0 0⟩,
  ⟨199,.pointer 201,1,8,.pointer none⟩,
  ⟨201,.struct #[⟨ "names",37,0,false,"","koine/koineref07",0⟩,⟨ "files",86,1,false,"","koine/koineref07",24⟩,⟨ "depth",3,2,false,"","koine/koineref07",48⟩,⟨ "reading",127,3,false,"","koine/koineref07",56⟩,⟨ "out",41,4,false,"","koine/koineref07",80⟩,⟨ "fresh",4,6,false,"","koine/koineref07",120⟩,⟨ "bad",93,7,false,"","koine/koineref07",128⟩],10,152,.agg #[.slice none 0 0,.slice none 0 0,.int .i64 0,.slice none 0 0,.string ByteArray.empty,.slice none 0 0,.bool false,.int .i64 0,.int .i64 0,.int .i64 0]⟩,
  ⟨204,.array 3 32,6,96,.agg #[.slice none 0 0,.int .i64 0,.slice none 0 0,.int .i64 0,.slice none 0 0,.int .i64 0]⟩,
  ⟨205,.func #[4,4,4] #[4] false,1,8,.nilFunc⟩,
  ⟨206,.slice 4,1,24,.slice none 0 0⟩,
  ⟨213,.slice 143,1,24,.slice none 0 0⟩,
  ⟨215,.func #[3] #[3] false,1,8,.nilFunc⟩,
  ⟨217,.func #[3,3] #[143,34] false,1,8,.nilFunc⟩,
  ⟨219,.int .u32,1,4,.int .u32 0⟩,
  ⟨220,.pointer 222,1,8,.pointer none⟩,
  ⟨222,.struct #[⟨ "names",154,0,false,"","koine/formula",0⟩,⟨ "rest",9,1,false,"","koine/formula",8⟩,⟨ "f",149,2,false,"","koine/formula",24⟩,⟨ "unknown",4,3,false,"","koine/formula",48⟩],4,56,.agg #[.map none,.string ByteArray.empty,.slice none 0 0,.bool false]⟩,
  ⟨223,.func #[] #[3] false,1,8,.nilFunc⟩,
  ⟨224,.map 9 4,1,8,.map none⟩,
  ⟨225,.slice 232,1,24,.slice none 0 0⟩,
  ⟨232,.struct #[⟨ "outer",32,0,false,"","koine/source",0⟩,⟨ "rest",32,2,false,"","koine/source",32⟩,⟨ "other",4,4,false,"","koine/source",64⟩,⟨ "line",3,5,false,"","koine/source",72⟩],6,80,.agg #[.slice none 0 0,.int .i64 0,.slice none 0 0,.int .i64 0,.bool false,.int .i64 0]⟩,
  ⟨233,.pointer 232,1,8,.pointer none⟩,
  ⟨238,.map 3 3,1,8,.map none⟩,
  ⟨240,.unsafePointer,1,8,.pointer none⟩,
  ⟨242,.array 3 3,3,24,.agg #[.int .i64 0,.int .i64 0,.int .i64 0]⟩,
  ⟨247,.pointer 249,1,8,.pointer none⟩,
  ⟨249,.struct #[⟨ "nodes",30,0,false,"","koine/koineref02",0⟩,⟨ "number",127,1,false,"","koine/koineref02",24⟩,⟨ "out",30,2,false,"","koine/koineref02",48⟩],3,72,.agg #[.slice none 0 0,.slice none 0 0,.slice none 0 0]⟩,
  ⟨251,.map 253 4,1,8,.map none⟩,
  ⟨252,.func #[3,3] #[4] false,1,8,.nilFunc⟩,
  ⟨253,.array 2 3,2,16,.agg #[.int .i64 0,.int .i64 0]⟩,
  ⟨259,.array 2 122,2,48,.agg #[.slice none 0 0,.slice none 0 0]⟩,
  ⟨260,.array 2 37,2,48,.agg #[.slice none 0 0,.slice none 0 0]⟩,
  ⟨261,.slice 266,1,24,.slice none 0 0⟩,
  ⟨266,.struct #[⟨ "outer",32,0,false,"","koine/koineref07",0⟩,⟨ "rest",32,2,false,"","koine/koineref07",32⟩,⟨ "other",4,4,false,"","koine/koineref07",64⟩,⟨ "line",3,5,false,"","koine/koineref07",72⟩],6,80,.agg #[.slice none 0 0,.int .i64 0,.slice none 0 0,.int .i64 0,.bool false,.int .i64 0]⟩,
  ⟨272,.map 242 3,1,8,.map none⟩,
  ⟨273,.func #[242] #[3] false,1,8,.nilFunc⟩,
  ⟨275,.pointer 277,1,8,.pointer none⟩,
  ⟨277,.struct #[⟨ "d",32,0,false,"","koine/formula",0⟩,⟨ "f",149,2,false,"","koine/formula",32⟩],3,56,.agg #[.slice none 0 0,.int .i64 0,.slice none 0 0]⟩,
  ⟨280,.struct #[⟨ "Op",3,0,false,"","",0⟩,⟨ "Var",3,1,false,"","",8⟩,⟨ "A",3,2,false,"","",16⟩,⟨ "B",3,3,false,"","",24⟩],4,32,.agg #[.int .i64 0,.int .i64 0,.int .i64 0,.int .i64 0]⟩,
  ⟨294,.func #[21] #[4] false,1,8,.nilFunc⟩,
  ⟨297,.array 512 4,512,512,.agg (Array.replicate 512 (.bool false))⟩,
  ⟨302,.array 256 4,256,256,.agg (Array.replicate 256 (.bool false))⟩,
  ⟨306,.pointer 302,1,8,.pointer none⟩,
  ⟨312,.pointer 314,1,8,.pointer none⟩,
  ⟨314,.struct #[⟨ "names",37,0,false,"","koine/koineref03",0⟩,⟨ "l",37,1,false,"","koine/koineref03",24⟩,⟨ "at",3,2,false,"","koine/koineref03",48⟩,⟨ "f",149,3,false,"","koine/koineref03",56⟩,⟨ "bad",4,4,false,"","koine/koineref03",80⟩,⟨ "unknown",4,5,false,"","koine/koineref03",81⟩],6,88,.agg #[.slice none 0 0,.slice none 0 0,.int .i64 0,.slice none 0 0,.bool false,.bool false]⟩,
  ⟨322,.array 256 5,256,256,.agg (Array.replicate 256 (.int .u8 0))⟩,
  ⟨324,.struct #[⟨ "lo",5,0,false,"","unicode/utf8",0⟩,⟨ "hi",5,1,false,"","unicode/utf8",1⟩],2,2,.agg #[.int .u8 0,.int .u8 0]⟩,
  ⟨325,.array 16 324,32,32,.agg (Array.replicate 32 (.int .u8 0))⟩]
 fns:=[3,4,5,6,7,8,9,10,11,12,13,14,15,16,17,18,19,20,21,22,23,24,25,26,27,28,29,30,31,32,33,34,35,36,37,38,39,40,41,42,43,44,45,46,47,48,49,50,51,52,53,54,55,56,57,58,59,60,61,62,63,64,65,66,67,68,69,70,71,72,73,74,75,76,77,78,79,80,81,82,83,84,85,86,87,88,89,90,91,92,93,94,95,96,97,98,99,100,101,102,103,104,105,106,107,108,109,110,111,112,113,114,115,116,117,118,119,120,121,122,123,124,125,126,127,128,129,130,131,132,133,134,135,136,137,138,139,140,141,142,143,144,145,146,147,148,149,150,151,152,153,154,155,156,157,158,160,161,162,163,164,165,166,167,168,169,170,171,172,173,174,175,176,177,178,179,180,181,182,183,184,185,186,187,188,189,190,191,192,193,194,195,196,197,198,199,200,201,202,203,204,205,206,208,209,210,211,212,213,214,215,216,217,218,219,220,221,222,223,224,225,226,227,228,229,230,231,232,233,235,237,238,239,240,241,242,243,244,245,246,248,249,250,251,252,253,254,255,256,257,258,259,260,261]
 ms:=[]
 eqs:=[⟨105,[0,0,0]⟩,⟨280,[0,0,0,0]⟩]
theorem bQW:zd Tryz.prog gx.tys:=by
 refine⟨⟨?_,?_⟩,⟨?_,?_⟩,⟨?_,?_⟩,⟨?_,?_⟩,⟨?_,?_⟩,⟨?_,?_⟩,⟨?_,?_⟩,⟨?_,?_⟩,⟨?_,?_⟩,⟨?_,?_⟩,⟨?_,?_⟩,⟨?_,?_⟩,⟨?_,?_⟩,⟨?_,?_⟩,⟨?_,?_⟩,⟨?_,?_⟩,⟨?_,?_⟩,⟨?_,?_⟩,⟨?_,?_⟩,⟨?_,?_⟩,⟨?_,?_⟩,⟨?_,?_⟩,⟨?_,?_⟩,⟨?_,?_⟩,⟨?_,?_⟩,⟨?_,?_⟩,⟨?_,?_⟩,⟨?_,?_⟩,⟨?_,?_⟩,⟨?_,?_⟩,⟨?_,?_⟩,⟨?_,?_⟩,⟨?_,?_⟩,⟨?_,?_⟩,⟨?_,?_⟩,⟨?_,?_⟩,⟨?_,?_⟩,⟨?_,?_⟩,⟨?_,?_⟩,⟨?_,?_⟩,⟨?_,?_⟩,⟨?_,?_⟩,⟨?_,?_⟩,⟨?_,?_⟩,⟨?_,?_⟩,⟨?_,?_⟩,⟨?_,?_⟩,⟨?_,?_⟩,⟨?_,?_⟩,⟨?_,?_⟩,⟨?_,?_⟩,⟨?_,?_⟩,⟨?_,?_⟩,⟨?_,?_⟩,⟨?_,?_⟩,⟨?_,?_⟩,⟨?_,?_⟩,⟨?_,?_⟩,⟨?_,?_⟩,⟨?_,?_⟩,⟨?_,?_⟩,⟨?_,?_⟩,⟨?_,?_⟩,⟨?_,?_⟩,⟨?_,?_⟩,⟨?_,?_⟩,⟨?_,?_⟩,⟨?_,?_⟩,⟨?_,?_⟩,⟨?_,?_⟩,⟨?_,?_⟩,⟨?_,?_⟩,⟨?_,?_⟩,⟨?_,?_⟩,⟨?_,?_⟩,⟨?_,?_⟩,⟨?_,?_⟩,⟨?_,?_⟩,⟨?_,?_⟩,⟨?_,?_⟩,⟨?_,?_⟩,⟨?_,?_⟩,⟨?_,?_⟩,⟨?_,?_⟩,⟨?_,?_⟩,⟨?_,?_⟩,⟨?_,?_⟩,⟨?_,?_⟩,⟨?_,?_⟩,⟨?_,?_⟩,⟨?_,?_⟩,⟨?_,?_⟩,⟨?_,?_⟩,⟨?_,?_⟩,⟨?_,?_⟩,⟨?_,?_⟩,⟨?_,?_⟩,⟨?_,?_⟩,⟨?_,?_⟩,⟨?_,?_⟩,⟨?_,?_⟩,⟨?_,?_⟩,⟨?_,?_⟩,⟨?_,?_⟩,⟨?_,?_⟩,⟨?_,?_⟩,⟨?_,?_⟩,trivial⟩<;>kernel_rfl
set_option maxRecDepth 100000 in
theorem bQX:ze Tryz.prog gx.fns:=by
 refine⟨⟨_,Tryz.func3,?_,?_⟩,⟨_,Tryz.func4,?_,?_⟩,⟨_,Tryz.func5,?_,?_⟩,⟨_,Tryz.func6,?_,?_⟩,⟨_,Tryz.func7,?_,?_⟩,⟨_,Tryz.func8,?_,?_⟩,⟨_,Tryz.func9,?_,?_⟩,⟨_,Tryz.func10,?_,?_⟩,⟨_,Tryz.func11,?_,?_⟩,⟨_,Tryz.func12,?_,?_⟩,⟨_,Tryz.func13,?_,?_⟩,⟨_,Tryz.func14,?_,?_⟩,⟨_,Tryz.func15,?_,?_⟩,⟨_,Tryz.func16,?_,?_⟩,⟨_,Tryz.func17,?_,?_⟩,⟨_,Tryz.func18,?_,?_⟩,⟨_,Tryz.func19,?_,?_⟩,⟨_,Tryz.func20,?_,?_⟩,⟨_,Tryz.func21,?_,?_⟩,⟨_,Tryz.func22,?_,?_⟩,⟨_,Tryz.func23,?_,?_⟩,⟨_,Tryz.func24,?_,?_⟩,⟨_,Tryz.func25,?_,?_⟩,⟨_,Tryz.func26,?_,?_⟩,⟨_,Tryz.func27,?_,?_⟩,⟨_,Tryz.func28,?_,?_⟩,⟨_,Tryz.func29,?_,?_⟩,⟨_,Tryz.func30,?_,?_⟩,⟨_,Tryz.func31,?_,?_⟩,⟨_,Tryz.func32,?_,?_⟩,⟨_,Tryz.func33,?_,?_⟩,⟨_,Tryz.func34,?_,?_⟩,⟨_,Tryz.func35,?_,?_⟩,⟨_,Tryz.func36,?_,?_⟩,⟨_,Tryz.func37,?_,?_⟩,⟨_,Tryz.func38,?_,?_⟩,⟨_,Tryz.func39,?_,?_⟩,⟨_,Tryz.func40,?_,?_⟩,⟨_,Tryz.func41,?_,?_⟩,⟨_,Tryz.func42,?_,?_⟩,⟨_,Tryz.func43,?_,?_⟩,⟨_,Tryz.func44,?_,?_⟩,⟨_,Tryz.func45,?_,?_⟩,⟨_,Tryz.func46,?_,?_⟩,⟨_,Tryz.func47,?_,?_⟩,⟨_,Tryz.func48,?_,?_⟩,⟨_,Tryz.func49,?_,?_⟩,⟨_,Tryz.func50,?_,?_⟩,⟨_,Tryz.func51,?_,?_⟩,⟨_,Tryz.func52,?_,?_⟩,⟨_,Tryz.func53,?_,?_⟩,⟨_,Tryz.func54,?_,?_⟩,⟨_,Tryz.func55,?_,?_⟩,⟨_,Tryz.func56,?_,?_⟩,⟨_,Tryz.func57,?_,?_⟩,⟨_,Tryz.func58,?_,?_⟩,⟨_,Tryz.func59,?_,?_⟩,⟨_,Tryz.func60,?_,?_⟩,⟨_,Tryz.func61,?_,?_⟩,⟨_,Tryz.func62,?_,?_⟩,⟨_,Tryz.func63,?_,?_⟩,⟨_,Tryz.func64,?_,?_⟩,⟨_,Tryz.func65,?_,?_⟩,⟨_,Tryz.func66,?_,?_⟩,⟨_,Tryz.func67,?_,?_⟩,⟨_,Tryz.func68,?_,?_⟩,⟨_,Tryz.func69,?_,?_⟩,⟨_,Tryz.func70,?_,?_⟩,⟨_,Tryz.func71,?_,?_⟩,⟨_,Tryz.func72,?_,?_⟩,⟨_,Tryz.func73,?_,?_⟩,⟨_,Tryz.func74,?_,?_⟩,⟨_,Tryz.func75,?_,?_⟩,⟨_,Tryz.func76,?_,?_⟩,⟨_,Tryz.func77,?_,?_⟩,⟨_,Tryz.func78,?_,?_⟩,⟨_,Tryz.func79,?_,?_⟩,⟨_,Tryz.func80,?_,?_⟩,⟨_,Tryz.func81,?_,?_⟩,⟨_,Tryz.func82,?_,?_⟩,⟨_,Tryz.func83,?_,?_⟩,⟨_,Tryz.func84,?_,?_⟩,⟨_,Tryz.func85,?_,?_⟩,⟨_,Tryz.func86,?_,?_⟩,⟨_,Tryz.func87,?_,?_⟩,⟨_,Tryz.func88,?_,?_⟩,⟨_,Tryz.func89,?_,?_⟩,⟨_,Tryz.func90,?_,?_⟩,⟨_,Tryz.func91,?_,?_⟩,⟨_,Tryz.func92,?_,?_⟩,⟨_,Tryz.func93,?_,?_⟩,⟨_,Tryz.func94,?_,?_⟩,⟨_,Tryz.func95,?_,?_⟩,⟨_,Tryz.func96,?_,?_⟩,⟨_,Tryz.func97,?_,?_⟩,⟨_,Tryz.func98,?_,?_⟩,⟨_,Tryz.func99,?_,?_⟩,⟨_,Tryz.func100,?_,?_⟩,⟨_,Tryz.func101,?_,?_⟩,⟨_,Tryz.func102,?_,?_⟩,⟨_,Tryz.func103,?_,?_⟩,⟨_,Tryz.func104,?_,?_⟩,⟨_,Tryz.func105,?_,?_⟩,⟨_,Tryz.func106,?_,?_⟩,⟨_,Tryz.func107,?_,?_⟩,⟨_,Tryz.func108,?_,?_⟩,⟨_,Tryz.func109,?_,?_⟩,⟨_,Tryz.func110,?_,?_⟩,⟨_,Tryz.func111,?_,?_⟩,⟨_,Tryz.func112,?_,?_⟩,⟨_,Tryz.func113,?_,?_⟩,⟨_,Tryz.func114,?_,?_⟩,⟨_,Tryz.func115,?_,?_⟩,⟨_,Tryz.func116,?_,?_⟩,⟨_,Tryz.func117,?_,?_⟩,⟨_,Tryz.func118,?_,?_⟩,⟨_,Tryz.func119,?_,?_⟩,⟨_,Tryz.func120,?_,?_⟩,⟨_,Tryz.func121,?_,?_⟩,⟨_,Tryz.func122,?_,?_⟩,⟨_,Tryz.func123,?_,?_⟩,⟨_,Tryz.func124,?_,?_⟩,⟨_,Tryz.func125,?_,?_⟩,⟨_,Tryz.func126,?_,?_⟩,⟨_,Tryz.func127,?_,?_⟩,⟨_,Tryz.func128,?_,?_⟩,⟨_,Tryz.func129,?_,?_⟩,⟨_,Tryz.func130,?_,?_⟩,⟨_,Tryz.func131,?_,?_⟩,⟨_,Tryz.func132,?_,?_⟩,⟨_,Tryz.func133,?_,?_⟩,⟨_,Tryz.func134,?_,?_⟩,⟨_,Tryz.func135,?_,?_⟩,⟨_,Tryz.func136,?_,?_⟩,⟨_,Tryz.func137,?_,?_⟩,⟨_,Tryz.func138,?_,?_⟩,⟨_,Tryz.func139,?_,?_⟩,⟨_,Tryz.func140,?_,?_⟩,⟨_,Tryz.func141,?_,?_⟩,⟨_,Tryz.func142,?_,?_⟩,⟨_,Tryz.func143,?_,?_⟩,⟨_,Tryz.func144,?_,?_⟩,⟨_,Tryz.func145,?_,?_⟩,⟨_,Tryz.func146,?_,?_⟩,⟨_,Tryz.func147,?_,?_⟩,⟨_,Tryz.func148,?_,?_⟩,⟨_,Tryz.func149,?_,?_⟩,⟨_,Tryz.func150,?_,?_⟩,⟨_,Tryz.func151,?_,?_⟩,⟨_,Tryz.func152,?_,?_⟩,⟨_,Tryz.func153,?_,?_⟩,⟨_,Tryz.func154,?_,?_⟩,⟨_,Tryz.func155,?_,?_⟩,⟨_,Tryz.func156,?_,?_⟩,⟨_,Tryz.func157,?_,?_⟩,⟨_,Tryz.func158,?_,?_⟩,⟨_,Tryz.func160,?_,?_⟩,⟨_,Tryz.func161,?_,?_⟩,⟨_,Tryz.func162,?_,?_⟩,⟨_,Tryz.func163,?_,?_⟩,⟨_,Tryz.func164,?_,?_⟩,⟨_,Tryz.func165,?_,?_⟩,⟨_,Tryz.func166,?_,?_⟩,⟨_,Tryz.func167,?_,?_⟩,⟨_,Tryz.func168,?_,?_⟩,⟨_,Tryz.func169,?_,?_⟩,⟨_,Tryz.func170,?_,?_⟩,⟨_,Tryz.func171,?_,?_⟩,⟨_,Tryz.func172,?_,?_⟩,⟨_,Tryz.func173,?_,?_⟩,⟨_,Tryz.func174,?_,?_⟩,⟨_,Tryz.func175,?_,?_⟩,⟨_,Tryz.func176,?_,?_⟩,⟨_,Tryz.func177,?_,?_⟩,⟨_,Tryz.func178,?_,?_⟩,⟨_,Tryz.func179,?_,?_⟩,⟨_,Tryz.func180,?_,?_⟩,⟨_,Tryz.func181,?_,?_⟩,⟨_,Tryz.func182,?_,?_⟩,⟨_,Tryz.func183,?_,?_⟩,⟨_,Tryz.func184,?_,?_⟩,⟨_,Tryz.func185,?_,?_⟩,⟨_,Tryz.func186,?_,?_⟩,⟨_,Tryz.func187,?_,?_⟩,⟨_,Tryz.func188,?_,?_⟩,⟨_,Tryz.func189,?_,?_⟩,⟨_,Tryz.func190,?_,?_⟩,⟨_,Tryz.func191,?_,?_⟩,⟨_,Tryz.func192,?_,?_⟩,⟨_,Tryz.func193,?_,?_⟩,⟨_,Tryz.func194,?_,?_⟩,⟨_,Tryz.func195,?_,?_⟩,⟨_,Tryz.func196,?_,?_⟩,⟨_,Tryz.func197,?_,?_⟩,⟨_,Tryz.func198,?_,?_⟩,⟨_,Tryz.func199,?_,?_⟩,⟨_,Tryz.func200,?_,?_⟩,⟨_,Tryz.func201,?_,?_⟩,⟨_,Tryz.func202,?_,?_⟩,⟨_,Tryz.func203,?_,?_⟩,⟨_,Tryz.func204,?_,?_⟩,⟨_,Tryz.func205,?_,?_⟩,⟨_,Tryz.func206,?_,?_⟩,⟨_,Tryz.func208,?_,?_⟩,⟨_,Tryz.func209,?_,?_⟩,⟨_,Tryz.func210,?_,?_⟩,⟨_,Tryz.func211,?_,?_⟩,⟨_,Tryz.func212,?_,?_⟩,⟨_,Tryz.func213,?_,?_⟩,⟨_,Tryz.func214,?_,?_⟩,⟨_,Tryz.func215,?_,?_⟩,⟨_,Tryz.func216,?_,?_⟩,⟨_,Tryz.func217,?_,?_⟩,⟨_,Tryz.func218,?_,?_⟩,⟨_,Tryz.func219,?_,?_⟩,⟨_,Tryz.func220,?_,?_⟩,⟨_,Tryz.func221,?_,?_⟩,⟨_,Tryz.func222,?_,?_⟩,⟨_,Tryz.func223,?_,?_⟩,⟨_,Tryz.func224,?_,?_⟩,⟨_,Tryz.func225,?_,?_⟩,⟨_,Tryz.func226,?_,?_⟩,⟨_,Tryz.func227,?_,?_⟩,⟨_,Tryz.func228,?_,?_⟩,⟨_,Tryz.func229,?_,?_⟩,⟨_,Tryz.func230,?_,?_⟩,⟨_,Tryz.func231,?_,?_⟩,⟨_,Tryz.func232,?_,?_⟩,⟨_,Tryz.func233,?_,?_⟩,⟨_,Tryz.func235,?_,?_⟩,⟨_,Tryz.func237,?_,?_⟩,⟨_,Tryz.func238,?_,?_⟩,⟨_,Tryz.func239,?_,?_⟩,⟨_,Tryz.func240,?_,?_⟩,⟨_,Tryz.func241,?_,?_⟩,⟨_,Tryz.func242,?_,?_⟩,⟨_,Tryz.func243,?_,?_⟩,⟨_,Tryz.func244,?_,?_⟩,⟨_,Tryz.func245,?_,?_⟩,⟨_,Tryz.func246,?_,?_⟩,⟨_,Tryz.func248,?_,?_⟩,⟨_,Tryz.func249,?_,?_⟩,⟨_,Tryz.func250,?_,?_⟩,⟨_,Tryz.func251,?_,?_⟩,⟨_,Tryz.func252,?_,?_⟩,⟨_,Tryz.func253,?_,?_⟩,⟨_,Tryz.func254,?_,?_⟩,⟨_,Tryz.func255,?_,?_⟩,⟨_,Tryz.func256,?_,?_⟩,⟨_,Tryz.func257,?_,?_⟩,⟨_,Tryz.func258,?_,?_⟩,⟨_,Tryz.func259,?_,?_⟩,⟨_,Tryz.func260,?_,?_⟩,⟨_,Tryz.func261,?_,?_⟩,trivial⟩<;>kernel_rfl
theorem bQY:za Tryz.prog gx.ms:=
 trivial
theorem bQZ:zb Tryz.prog gx.eqs:=
 ⟨⟨by kernel_rfl,by kernel_rfl,by kernel_rfl⟩,
  ⟨by kernel_rfl,by kernel_rfl,by kernel_rfl⟩,trivial⟩
theorem Qa:gx.Ok:=⟨bQW,bQX,by kernel_rfl,bQY,bQZ⟩
abbrev c3:Cx:=⟨gx,128,1,[1,2,3,4,5,6,7,8,9,10,11,12,13,14,15,16,17,18,19,37,58,60,66,71,83,97,126],[]⟩
abbrev c4:Cx:=⟨gx,146,2,[2,4,5,6,7,8,9,10,11,12,13,14,15,16,17,18,19,20,21,22,37,45,83,92,97,128,130,144],[]⟩
abbrev c5:Cx:=⟨gx,181,3,[3,6,7,8,9,10,11,12,13,14,15,16,19,21,25,60,72,80,87,96,101,110,115,122],[]⟩
abbrev c6:Cx:=⟨gx,137,3,[3,5,6,7,8,9,10,11,12,13,14,15,16,66],[]⟩
abbrev c7:Cx:=⟨gx,100,2,[2,4,5,6,7,8,9,10,11,12,13,14,15,23],[]⟩
abbrev c8:Cx:=⟨gx,179,1,[1,2,3,4,5,6,7,8,9,10,11,12,13,26,32,48,58,61,78,89,100,131,133,177],[]⟩
abbrev c9:Cx:=⟨gx,80,1,[1,2,3,4,5,6,7,8,9,10,19],[]⟩
abbrev r6:Cx:=⟨gx,53,2,[2,4,5,6,7,8,9,10,33,35,51],[]⟩
abbrev vk:Cx:=⟨gx,179,1,[1,3,5,7,9,11,13,14,15,16,17,18,19,21,23,25,26,27,28,30],[]⟩
abbrev c12:Cx:=⟨gx,32,1,[1,2,3,4,12,21],[]⟩
abbrev c13:Cx:=⟨gx,135,1,[1,2,3,4,5,6,7,8,9,10,11,12,13,14,15,34,50,102,118],[]⟩
abbrev c14:Cx:=⟨gx,12,2,[2,3,9],[]⟩
abbrev c15:Cx:=⟨gx,118,5,[5,8,9,10,11,12,13,14,15,17,19,44,45,46,47,51,81,115],[]⟩
abbrev c16:Cx:=⟨gx,2,1,[],[]⟩
abbrev NQ:Cx:=⟨gx,38,6,[10,16,30],[]⟩
abbrev c22:Cx:=⟨gx,8,2,[2,3,4],[]⟩
abbrev c23:Cx:=⟨gx,9,2,[2,3,4],[]⟩
abbrev c24:Cx:=⟨gx,65,4,[4,6,7,8,10,16,17,18,19,46,55,59],[]⟩
abbrev c28:Cx:=⟨gx,11,4,[4],[]⟩
abbrev c29:Cx:=⟨gx,6,2,[2,3],[]⟩
abbrev c30:Cx:=⟨gx,15,2,[2,3,9],[]⟩
abbrev c34:Cx:=⟨gx,15,2,[2,3,9],[]⟩
abbrev c35:Cx:=⟨gx,9,1,[1,2,3],[]⟩
abbrev c36:Cx:=⟨gx,11,2,[2,3,4,5],[]⟩
abbrev c37:Cx:=⟨gx,6,2,[2,3],[]⟩
abbrev c38:Cx:=⟨gx,42,7,[7,9,11,12],[]⟩
abbrev c39:Cx:=⟨gx,25,4,[4,6,7,8],[]⟩
abbrev c40:Cx:=⟨gx,16,7,[],[]⟩
abbrev bJ:Cx:=⟨gx,11,4,[9],[]⟩
abbrev c42:Cx:=⟨gx,47,3,[3,5,6,7,8,9,24,45],[]⟩
abbrev c43:Cx:=⟨gx,81,6,[6,7,9,10,11,12,13,14,15,22,29,38,39,40,41,63],[]⟩
abbrev NR:Cx:=⟨gx,6,2,[3],[]⟩
abbrev c45:Cx:=⟨gx,107,3,[3,4,5,9,10,11,12,70,104],[]⟩
abbrev c46:Cx:=⟨gx,19,4,[12],[]⟩
abbrev c47:Cx:=⟨gx,21,5,[5,6,7,8,13],[]⟩
abbrev c48:Cx:=⟨gx,222,7,[7,8,9,11,12,13,15,16,18,19,21,22,23,25,26,27,31,32,33,34,56,64,67,68,69,70,77,78,79,80,97,105,106,107,108,111,112,113,114,124,155,163,164,165,166,185,191],[]⟩
abbrev c49:Cx:=⟨gx,11,2,[2,3,4],[]⟩
abbrev NS:Cx:=⟨gx,22,6,[6,7,8,9,17],[]⟩
abbrev c51:Cx:=⟨gx,6,3,[],[]⟩
abbrev c52:Cx:=⟨gx,106,1,[1,2,3,4,5,6,10,13,14,15,16,63,79,94,105],[]⟩
abbrev NT:Cx:=⟨gx,19,6,[],[]⟩
abbrev NU:Cx:=⟨gx,14,3,[],[]⟩
abbrev c58:Cx:=⟨gx,26,3,[3,4,6,7,8],[]⟩
abbrev c59:Cx:=⟨gx,6,1,[1,2],[]⟩
abbrev bK:Cx:=⟨gx,11,4,[9],[]⟩
abbrev c61:Cx:=⟨gx,15,2,[2,3,4],[]⟩
abbrev c62:Cx:=⟨gx,16,2,[2,3,4],[]⟩
abbrev c63:Cx:=⟨gx,15,3,[],[]⟩
abbrev c64:Cx:=⟨gx,12,2,[2,3,4],[]⟩
abbrev c65:Cx:=⟨gx,12,3,[3,4,5,6,7],[]⟩
abbrev c66:Cx:=⟨gx,8,2,[2,3,4],[]⟩
abbrev NV:Cx:=⟨gx,59,8,[8,9,13],[]⟩
abbrev c82:Cx:=⟨gx,26,3,[3,4,5,6,7,8,14],[]⟩
abbrev c83:Cx:=⟨gx,7,5,[],[]⟩
abbrev c84:Cx:=⟨gx,9,5,[],[]⟩
abbrev c85:Cx:=⟨gx,139,12,[12,13,14,15,25,42,73,96,108,120,133],[]⟩
abbrev c86:Cx:=⟨gx,30,3,[3,4,5,7,8,9,16,23],[]⟩
abbrev c87:Cx:=⟨gx,107,2,[2,3,4,5,6,8,9,10,11,12,13,14,15,16,17,18,19,20,24,31,33,34,35,36,42,55,56,57,58,93],[]⟩
abbrev c88:Cx:=⟨gx,31,6,[13,15,16,17],[]⟩
abbrev c89:Cx:=⟨gx,50,4,[4,5,6,7,8,15,25,32,38],[]⟩
abbrev c90:Cx:=⟨gx,87,2,[2,3,4,5,6,7,10,13,14,15,16,46,47,48,73,79],[]⟩
abbrev ae:Cx:=⟨gx,13,2,[2,3,9],[]⟩
abbrev c92:Cx:=⟨gx,230,5,[5,6,7,8,9,10,11,12,13,14,16,17,18,19,20,21,56,96,125,147,163,172,201],[]⟩
abbrev c95:Cx:=⟨gx,10,5,[],[]⟩
abbrev c96:Cx:=⟨gx,8,5,[],[]⟩
abbrev c97:Cx:=⟨gx,16,2,[2,3,4],[]⟩
abbrev c98:Cx:=⟨gx,19,6,[7,8,9,16],[]⟩
abbrev c99:Cx:=⟨gx,8,2,[2,3],[]⟩
abbrev bQ0:Cx:=⟨gx,8,2,[2,4],[]⟩
abbrev bQ1:Cx:=⟨gx,11,2,[2,3,4,5],[]⟩
abbrev bQ2:Cx:=⟨gx,75,8,[8,10,12,13,15,22,29,39,40,41,42,49,63,64,65,66],[]⟩
abbrev bQ3:Cx:=⟨gx,14,2,[2,4,6],[]⟩
abbrev bQ4:Cx:=⟨gx,17,2,[2,4,5,6,7],[]⟩
abbrev bQ5:Cx:=⟨gx,17,2,[2,3,4],[]⟩
abbrev NW:Cx:=⟨gx,20,2,[6,19],[]⟩
abbrev bQ6:Cx:=⟨gx,137,17,[22,33,57],[]⟩
abbrev bQ7:Cx:=⟨gx,22,4,[4,5,6],[]⟩
abbrev bQ8:Cx:=⟨gx,9,5,[],[]⟩
abbrev bQ9:Cx:=⟨gx,8,2,[2,3],[]⟩
abbrev cQa:Cx:=⟨gx,18,4,[4,5,6,7,8,9,15],[]⟩
abbrev NY:Cx:=⟨gx,17,3,[3,4,5,6,7,8],[]⟩
abbrev cQb:Cx:=⟨gx,8,5,[],[]⟩
abbrev cQc:Cx:=⟨gx,9,5,[],[]⟩
abbrev cQd:Cx:=⟨gx,26,3,[3,4,5,6,7,8,15],[]⟩
abbrev cQe:Cx:=⟨gx,77,5,[5,7,9,10,11,12,13,14,15,16,17,18,24,42,50,68],[]⟩
abbrev cQf:Cx:=⟨gx,26,6,[10,12,13,14,24],[]⟩
abbrev cQg:Cx:=⟨gx,77,11,[47,66],[]⟩
abbrev cQh:Cx:=⟨gx,10,1,[1,2,3,7],[]⟩
abbrev NZ:Cx:=⟨gx,25,2,[2,3,4,5,6,7],[]⟩
abbrev Ez:Cx:=⟨gx,12,8,[],[]⟩
abbrev cQi:Cx:=⟨gx,75,7,[9,39,40,44,48,54,60,68],[]⟩
abbrev cQj:Cx:=⟨gx,43,1,[1,2,3,4,19,23,40],[]⟩
abbrev cQk:Cx:=⟨gx,47,7,[8,9,10,11,31],[]⟩
abbrev cQl:Cx:=⟨gx,28,1,[1,2,3,4,5,9,23],[]⟩
abbrev cQm:Cx:=⟨gx,45,9,[9,10,17,20,21,22,23,24,36],[]⟩
abbrev cQn:Cx:=⟨gx,16,5,[],[]⟩
abbrev cQo:Cx:=⟨gx,10,5,[],[]⟩
abbrev cQp:Cx:=⟨gx,34,11,[19,20,21,29],[]⟩
abbrev cQq:Cx:=⟨gx,72,9,[16,21,32,33,34,46],[]⟩
abbrev cQr:Cx:=⟨gx,20,3,[],[]⟩
abbrev zC:Cx:=⟨gx,17,5,[7,14],[]⟩
abbrev cQs:Cx:=⟨gx,6,1,[1,2],[]⟩
abbrev cQt:Cx:=⟨gx,29,7,[],[]⟩
abbrev cQu:Cx:=⟨gx,13,7,[],[]⟩
abbrev cQv:Cx:=⟨gx,32,4,[4,5,6,16,17,25],[]⟩
abbrev cQw:Cx:=⟨gx,16,2,[6],[]⟩
abbrev cQx:Cx:=⟨gx,29,4,[4,5,6,7],[]⟩
abbrev cQy:Cx:=⟨gx,56,7,[27,52],[]⟩
abbrev cQz:Cx:=⟨gx,16,4,[],[]⟩
abbrev cQA:Cx:=⟨gx,42,8,[8,9,13,25],[]⟩
abbrev cQB:Cx:=⟨gx,80,7,[7,8,31,37],[]⟩
abbrev cQC:Cx:=⟨gx,66,12,[13,15,20,36,41],[]⟩
abbrev cQD:Cx:=⟨gx,18,5,[],[]⟩
abbrev cQE:Cx:=⟨gx,9,5,[],[]⟩
abbrev cQF:Cx:=⟨gx,55,9,[9,10,11,18],[]⟩
abbrev cQG:Cx:=⟨gx,26,6,[10,12,13,14,24],[]⟩
abbrev cQH:Cx:=⟨gx,25,7,[10,11,16],[]⟩
abbrev cQI:Cx:=⟨gx,14,2,[2,4,6],[]⟩
abbrev cQJ:Cx:=⟨gx,29,3,[3,6,7,12],[]⟩
abbrev cQK:Cx:=⟨gx,38,3,[3,4,5,6,11,18,26],[]⟩
abbrev cQL:Cx:=⟨gx,77,5,[5,6,7,9,19],[]⟩
abbrev cQM:Cx:=⟨gx,19,6,[7,8,9,16],[]⟩
abbrev N0:Cx:=⟨gx,67,15,[16,24,26,31],[]⟩
abbrev cQN:Cx:=⟨gx,29,3,[3,6,7,12],[]⟩
abbrev cQO:Cx:=⟨gx,21,5,[],[]⟩
abbrev cQP:Cx:=⟨gx,19,6,[7,8,9,16],[]⟩
abbrev cQQ:Cx:=⟨gx,18,7,[],[]⟩
abbrev cQR:Cx:=⟨gx,64,12,[16,17,18,28,47,48,53,59],[]⟩
abbrev cQS:Cx:=⟨gx,8,3,[4],[]⟩
abbrev cQT:Cx:=⟨gx,4,1,[],[]⟩
abbrev N4:Cx:=⟨gx,97,6,[6,7,8,9,10,11,12,13,14,15,28,39,46,64,65],[]⟩
abbrev cQU:Cx:=⟨gx,54,9,[9,10,11,14,30],[]⟩
abbrev cQV:Cx:=⟨gx,13,4,[],[]⟩
abbrev cQW:Cx:=⟨gx,23,4,[7,21],[]⟩
abbrev cQX:Cx:=⟨gx,89,5,[5,6,7,17,32,42,52,62],[]⟩
abbrev cQY:Cx:=⟨gx,63,3,[3,4,5,6,8,9,17,18,19,20,21,29,36,37,38,39,44,54,55,56,61],[]⟩
abbrev cQZ:Cx:=⟨gx,75,10,[10,11,21,26,48,52,56,65],[]⟩
abbrev cQ0:Cx:=⟨gx,24,5,[16,20],[]⟩
abbrev N5:Cx:=⟨gx,25,11,[15],[]⟩
abbrev cQ1:Cx:=⟨gx,6,2,[],[]⟩
abbrev cQ2:Cx:=⟨gx,84,9,[10,18,23,32,49,50,55],[]⟩
abbrev cQ3:Cx:=⟨gx,37,5,[5,6,12,21,31],[]⟩
abbrev cQ4:Cx:=⟨gx,11,6,[],[]⟩
abbrev cQ5:Cx:=⟨gx,23,8,[12],[]⟩
abbrev cQ6:Cx:=⟨gx,13,4,[4,6,8],[]⟩
abbrev cQ7:Cx:=⟨gx,108,2,[2,3,4,5,6,7,10,15,16,17,18,23,24,34,45,59,78,98],[]⟩
abbrev cQ8:Cx:=⟨gx,8,3,[],[]⟩
abbrev cQ9:Cx:=⟨gx,9,1,[1,2],[]⟩
abbrev dQa:Cx:=⟨gx,8,5,[],[]⟩
abbrev dQb:Cx:=⟨gx,79,2,[2,4,5,6,50,66,69,78],[]⟩
abbrev dQc:Cx:=⟨gx,8,5,[],[]⟩
abbrev dQd:Cx:=⟨gx,29,3,[],[]⟩
abbrev dQe:Cx:=⟨gx,27,3,[3,4,10],[]⟩
abbrev dQf:Cx:=⟨gx,39,13,[18,28],[]⟩
abbrev dQg:Cx:=⟨gx,69,2,[2,4,5,6,11,12,15,27,28,33,67],[]⟩
abbrev dQh:Cx:=⟨gx,8,3,[3,4,6],[]⟩
abbrev N6:Cx:=⟨gx,17,5,[],[]⟩
abbrev dQi:Cx:=⟨gx,21,3,[3,4],[]⟩
abbrev dQj:Cx:=⟨gx,21,2,[2,3,4,5,9,16],[]⟩
abbrev dQk:Cx:=⟨gx,16,5,[7,12],[]⟩
abbrev dQl:Cx:=⟨gx,15,6,[9],[]⟩
abbrev dQm:Cx:=⟨gx,10,5,[],[]⟩
end
end Go.Proofs.YtjabbbcdgmlojaaGreatDoor
namespace Go.Proofs
open Go Go.RowKit
section
open Go.Shelf
def Tryz.lays156_ren:Go.Shelf.Ren:=⟨fun | 156=>102 | 165=>156 | 166=>56 | 169=>57 | 240=>106 | 241=>210 | 276=>159 | 277=>236 | n=>n,fun | 31=>37 | 9=>9 | 3=>3 | 4=>4 | 0=>0 | 20=>20 | 72=>109 | 76=>113 | 70=>107 | 37=>62 | 75=>112 | 127=>179 | 164=>240 | 5=>5 | 80=>115 | n=>n,fun | n=>n⟩
theorem nQZ:Go.Proofs.Lays.n156 Tryz.prog Tryz.lays156_ren:={
 mixed:=by kernel_rfl
 f156:=Tryz.func102.trans (congrArg some (by kernel_rfl))
 f165:=Tryz.func156.trans (congrArg some (by kernel_rfl))
 f166:=Tryz.func56.trans (congrArg some (by kernel_rfl))
 f169:=Tryz.func57.trans (congrArg some (by kernel_rfl))
 f240:=Tryz.func106.trans (congrArg some (by kernel_rfl))
 f241:=Tryz.func210.trans (congrArg some (by kernel_rfl))
 f276:=Tryz.func159.trans (congrArg some (by kernel_rfl))
 f277:=Tryz.func236.trans (congrArg some (by kernel_rfl))
 t0:=Tryz.underlying0
 a0:=Tryz.isAgg0
 z0:=Tryz.sizeOf0
 v0:=Tryz.zeroValue0
 t3:=Tryz.underlying3
 a3:=Tryz.isAgg3
 z3:=Tryz.sizeOf3
 v3:=Tryz.zeroValue3
 t4:=Tryz.underlying4
 a4:=Tryz.isAgg4
 z4:=Tryz.sizeOf4
 v4:=Tryz.zeroValue4
 t9:=Tryz.underlying9
 a9:=Tryz.isAgg9
 z9:=Tryz.sizeOf9
 v9:=Tryz.zeroValue9
 t20:=Tryz.underlying20
 a20:=Tryz.isAgg20
 z20:=Tryz.sizeOf20
 v20:=Tryz.zeroValue20
 t31:=Tryz.underlying37
 a31:=Tryz.isAgg37
 z31:=Tryz.sizeOf37
 v31:=Tryz.zeroValue37
 t37:=Tryz.underlying62
 a37:=Tryz.isAgg62
 z37:=Tryz.sizeOf62
 v37:=Tryz.zeroValue62
 t70:=Tryz.underlying107
 a70:=Tryz.isAgg107
 z70:=Tryz.sizeOf107
 v70:=Tryz.zeroValue107
 t72:=Tryz.underlying109
 a72:=Tryz.isAgg109
 z72:=Tryz.sizeOf109
 v72:=Tryz.zeroValue109
 t75:=Tryz.underlying112
 a75:=Tryz.isAgg112
 z75:=Tryz.sizeOf112
 v75:=Tryz.zeroValue112
 t76:=Tryz.underlying113
 a76:=Tryz.isAgg113
 z76:=Tryz.sizeOf113
 v76:=Tryz.zeroValue113
 t127:=Tryz.underlying179
 a127:=Tryz.isAgg179
 z127:=Tryz.sizeOf179
 v127:=Tryz.zeroValue179
 t164:=Tryz.underlying240
 a164:=Tryz.isAgg240
 z164:=Tryz.sizeOf240
 v164:=Tryz.zeroValue240}
theorem nQU:Builder.Extra Tryz.prog Tryz.lays156_ren:={
 sizeBuilder:=by kernel_rfl
 liesBuilder:=by kernel_rfl
 t5:=Tryz.underlying5
 a5:=Tryz.isAgg5
 z5:=Tryz.sizeOf5
 v5:=Tryz.zeroValue5
 infoByte:=by kernel_rfl
 cellsByte:=by kernel_rfl
 sizeByte:=by kernel_rfl
 neB5:=by decide}
open Go.RowKit in
theorem Tryz.strings_Join (bk o c:Nat)(xs:List ByteArray)(sep:ByteArray)(w:World)(lQK:∀(j:Nat) x,xs[j]? =some x->w.cell? ⟨bk,o+j,none⟩=some (.string x))(gt:bk<w.heap.size)(hN:xs.length<=140737488355328)(bz:xs.length<=c)(QY:(Lib.join (xs.map (·.data.toList)) sep.data.toList).length<=140737488355328):
  Calls Tryz.prog 102 #[.slice (some ⟨bk,o,none⟩) xs.length c,.string sep] w λe w'=>e= .returned (.string ⟨(Lib.join (xs.map (·.data.toList)) sep.data.toList).toArray⟩)/\Below w.heap.size w w':=Any.strings_Join nQZ nQU bk o c xs sep w lQK gt hN bz QY
def Tryz.lays137_ren:Go.Shelf.Ren:=⟨fun | 137=>94 | 217=>152 | 266=>207 | n=>n,fun | 9=>9 | 5=>5 | 3=>3 | n=>n,fun | n=>n⟩
theorem nQ2:Go.Proofs.Lays.n137 Tryz.prog Tryz.lays137_ren:={
 mixed:=by kernel_rfl
 f137:=Tryz.func94.trans (congrArg some (by kernel_rfl))
 f217:=Tryz.func152.trans (congrArg some (by kernel_rfl))
 f266:=Tryz.func207.trans (congrArg some (by kernel_rfl))
 t3:=Tryz.underlying3
 a3:=Tryz.isAgg3
 z3:=Tryz.sizeOf3
 v3:=Tryz.zeroValue3
 t5:=Tryz.underlying5
 a5:=Tryz.isAgg5
 z5:=Tryz.sizeOf5
 v5:=Tryz.zeroValue5
 t9:=Tryz.underlying9
 a9:=Tryz.isAgg9
 z9:=Tryz.sizeOf9
 v9:=Tryz.zeroValue9}
open Go.RowKit in
theorem Tryz.strings_IndexByte (s:ByteArray)(c:Int)(w:World):
  Calls Tryz.prog 94 #[.string s,.int .u8 c] w λe w'=>e= .returned (.int .i64 (Lib.indexByte s.data.toList c.toNat.toUInt8))/\w'=w:=Any.strings_IndexByte nQ2 s c w
def Tryz.lays219_ren:Go.Shelf.Ren:=⟨fun | 219=>232 | 217=>152 | 225=>247 | 224=>248 | 267=>249 | 266=>207 | 314=>259 | n=>n,fun | 9=>9 | 3=>3 | 4=>4 | 5=>5 | 46=>121 | 146=>320 | 51=>219 | n=>n,fun | 1=>0 | n=>n⟩
theorem nQ1:Go.Proofs.Lays.n219 Tryz.prog Tryz.lays219_ren:={
 mixed:=by kernel_rfl
 f217:=Tryz.func152.trans (congrArg some (by kernel_rfl))
 f219:=Tryz.func232.trans (congrArg some (by kernel_rfl))
 f224:=Tryz.func248.trans (congrArg some (by kernel_rfl))
 f225:=Tryz.func247.trans (congrArg some (by kernel_rfl))
 f266:=Tryz.func207.trans (congrArg some (by kernel_rfl))
 f267:=Tryz.func249.trans (congrArg some (by kernel_rfl))
 f314:=Tryz.func259.trans (congrArg some (by kernel_rfl))
 t3:=Tryz.underlying3
 a3:=Tryz.isAgg3
 z3:=Tryz.sizeOf3
 v3:=Tryz.zeroValue3
 t4:=Tryz.underlying4
 a4:=Tryz.isAgg4
 z4:=Tryz.sizeOf4
 v4:=Tryz.zeroValue4
 t5:=Tryz.underlying5
 a5:=Tryz.isAgg5
 z5:=Tryz.sizeOf5
 v5:=Tryz.zeroValue5
 t9:=Tryz.underlying9
 a9:=Tryz.isAgg9
 z9:=Tryz.sizeOf9
 v9:=Tryz.zeroValue9
 t46:=Tryz.underlying121
 a46:=Tryz.isAgg121
 z46:=Tryz.sizeOf121
 v46:=Tryz.zeroValue121
 t51:=Tryz.underlying219
 a51:=Tryz.isAgg219
 z51:=Tryz.sizeOf219
 v51:=Tryz.zeroValue219
 t146:=Tryz.underlying320
 a146:=Tryz.isAgg320
 z146:=Tryz.sizeOf320
 v146:=Tryz.zeroValue320
 g1:=by kernel_rfl}
open Go.RowKit Go.Lib in
theorem Tryz.stringslite_Index_one (s:ByteArray)(c:UInt8)(w:World):
  Calls Tryz.prog 232 #[.string s,.string ⟨#[c]⟩] w λe w'=>e= .returned (.int .i64 (Lib.indexByte s.data.toList c))/\w'=w:=Any.stringslite_Index_one nQ1 s c w
def Tryz.lays138_ren:Go.Shelf.Ren:=⟨fun | 138=>204 | 195=>233 | 218=>234 | 143=>209 | 219=>232 | 217=>152 | 225=>247 | 224=>248 | 267=>249 | 266=>207 | 314=>259 | n=>n,fun | 9=>9 | 3=>3 | 4=>4 | 5=>5 | 0=>0 | 46=>121 | 146=>320 | 51=>219 | n=>n,fun | 1=>0 | n=>n⟩
theorem nQ0:Go.Proofs.Lays.n138 Tryz.prog Tryz.lays138_ren:={
 mixed:=by kernel_rfl
 f138:=Tryz.func204.trans (congrArg some (by kernel_rfl))
 f143:=Tryz.func209.trans (congrArg some (by kernel_rfl))
 f195:=Tryz.func233.trans (congrArg some (by kernel_rfl))
 f217:=Tryz.func152.trans (congrArg some (by kernel_rfl))
 f218:=Tryz.func234.trans (congrArg some (by kernel_rfl))
 f219:=Tryz.func232.trans (congrArg some (by kernel_rfl))
 f224:=Tryz.func248.trans (congrArg some (by kernel_rfl))
 f225:=Tryz.func247.trans (congrArg some (by kernel_rfl))
 f266:=Tryz.func207.trans (congrArg some (by kernel_rfl))
 f267:=Tryz.func249.trans (congrArg some (by kernel_rfl))
 f314:=Tryz.func259.trans (congrArg some (by kernel_rfl))
 t0:=Tryz.underlying0
 a0:=Tryz.isAgg0
 z0:=Tryz.sizeOf0
 v0:=Tryz.zeroValue0
 t3:=Tryz.underlying3
 a3:=Tryz.isAgg3
 z3:=Tryz.sizeOf3
 v3:=Tryz.zeroValue3
 t4:=Tryz.underlying4
 a4:=Tryz.isAgg4
 z4:=Tryz.sizeOf4
 v4:=Tryz.zeroValue4
 t5:=Tryz.underlying5
 a5:=Tryz.isAgg5
 z5:=Tryz.sizeOf5
 v5:=Tryz.zeroValue5
 t9:=Tryz.underlying9
 a9:=Tryz.isAgg9
 z9:=Tryz.sizeOf9
 v9:=Tryz.zeroValue9
 t46:=Tryz.underlying121
 a46:=Tryz.isAgg121
 z46:=Tryz.sizeOf121
 v46:=Tryz.zeroValue121
 t51:=Tryz.underlying219
 a51:=Tryz.isAgg219
 z51:=Tryz.sizeOf219
 v51:=Tryz.zeroValue219
 t146:=Tryz.underlying320
 a146:=Tryz.isAgg320
 z146:=Tryz.sizeOf320
 v146:=Tryz.zeroValue320
 g1:=by kernel_rfl}
open Go.RowKit Go.Lib in
theorem Tryz.strings_Count_one (s:ByteArray)(c:UInt8)(w:World):
  Calls Tryz.prog 204 #[.string s,.string ⟨#[c]⟩] w λe w'=>e= .returned (.int .i64 (Lib.countByte s.data.toList c))/\w'=w:=Any.strings_Count_one nQ0 s c w
def Tryz.lays149_ren:Go.Shelf.Ren:=⟨fun | 149=>93 | 222=>151 | n=>n,fun | 9=>9 | 5=>5 | 3=>3 | 4=>4 | n=>n,fun | n=>n⟩
theorem nQ3:Go.Proofs.Lays.n149 Tryz.prog Tryz.lays149_ren:={
 mixed:=by kernel_rfl
 f149:=Tryz.func93.trans (congrArg some (by kernel_rfl))
 f222:=Tryz.func151.trans (congrArg some (by kernel_rfl))
 t3:=Tryz.underlying3
 a3:=Tryz.isAgg3
 z3:=Tryz.sizeOf3
 v3:=Tryz.zeroValue3
 t4:=Tryz.underlying4
 a4:=Tryz.isAgg4
 z4:=Tryz.sizeOf4
 v4:=Tryz.zeroValue4
 t5:=Tryz.underlying5
 a5:=Tryz.isAgg5
 z5:=Tryz.sizeOf5
 v5:=Tryz.zeroValue5
 t9:=Tryz.underlying9
 a9:=Tryz.isAgg9
 z9:=Tryz.sizeOf9
 v9:=Tryz.zeroValue9}
open Go.RowKit Go.Lib in
theorem Tryz.strings_LastIndexByte (s:ByteArray)(c:Int)(hs:s.size<4611686018427387904)(w:World):
  Calls Tryz.prog 93 #[.string s,.int .u8 c] w λe w'=>e= .returned (.int .i64 (Lib.lastIndexByte s c))/\w'=w:=Any.strings_LastIndexByte nQ3 s c hs w
def Tryz.lays315_ren:Go.Shelf.Ren:=⟨fun | 315=>244 | n=>n,fun | 9=>9 | 40=>294 | 4=>4 | 3=>3 | 0=>0 | 21=>21 | n=>n,fun | n=>n⟩
theorem nQY:Go.Proofs.Lays.n315 Tryz.prog Tryz.lays315_ren:={
 mixed:=by kernel_rfl
 f315:=Tryz.func244.trans (congrArg some (by kernel_rfl))
 t0:=Tryz.underlying0
 a0:=Tryz.isAgg0
 z0:=Tryz.sizeOf0
 v0:=Tryz.zeroValue0
 t3:=Tryz.underlying3
 a3:=Tryz.isAgg3
 z3:=Tryz.sizeOf3
 v3:=Tryz.zeroValue3
 t4:=Tryz.underlying4
 a4:=Tryz.isAgg4
 z4:=Tryz.sizeOf4
 v4:=Tryz.zeroValue4
 t9:=Tryz.underlying9
 a9:=Tryz.isAgg9
 z9:=Tryz.sizeOf9
 v9:=Tryz.zeroValue9
 t21:=Tryz.underlying21
 a21:=Tryz.isAgg21
 z21:=Tryz.sizeOf21
 v21:=Tryz.zeroValue21
 t40:=Tryz.underlying294
 a40:=Tryz.isAgg294
 z40:=Tryz.sizeOf294
 v40:=Tryz.zeroValue294}
open Go.RowKit Go.Lib in
theorem Tryz.strings_indexFunc (g:Nat)(lb:Array Value)(eg:∀args w,(callFunc g args).run Tryz.prog w= .ok (.enter g args) w)(p:Nat->Bool)(truth:Bool)(s:ByteArray)(w:World)(hp:PredAt Tryz.prog g lb encR p w):
  Calls Tryz.prog 244 #[.string s,.func (.func g) #[] lb,.bool truth] w λe w'=>e= .returned (.int .i64 (Lib.idxFunc p truth s))/\Below w.heap.size w w':=Any.strings_indexFunc nQY g lb eg p truth s w hp
end
end Go.Proofs
namespace Go.Proofs.YtjabbbcdgmlojaaGreatDoor
open Go Go.RowKit
section
structure Mod (S:Nat->Prop) (w w':World):Prop where
 os:w'.os=w.os
 tape:w'.tape=w.tape
 output:w'.output=w.output
 size:w.heap.size<=w'.heap.size
 block:∀k,k<w.heap.size->¬S k->w'.heap[k]? =w.heap[k]?
theorem Mod.refl (S:Nat->Prop)(w:World):Mod S w w:=⟨rfl,rfl,rfl,QB _,λ_ _ _=>rfl⟩
theorem Mod.of_ext {w w':World}(S:Nat->Prop)(h:Ext w w'):Mod S w w':=⟨h.os,h.tape,h.output,h.size,λk hk _=>h.block k hk (by simp)⟩
theorem nQQ {w w':World}{S:Nat->Prop}{g:Nat}(h:w.grownBy w' (some g))(hS:S g):Mod S w w':=⟨h.os,h.tape,h.output,h.size,λk hk hn=>h.block k hk (λe=>by cases e;exact hn hS)⟩
theorem Mod.trans {S S':Nat->Prop}{a b c:World}(h:Mod S a b)(k:Mod S' b c)(hs:∀i,S' i->S i∨a.heap.size<=i):Mod S a c:=
 ⟨k.os.trans h.os,k.tape.trans h.tape,k.output.trans h.output,Zc h.size k.size,λi hi hn=>(k.block i (VT hi h.size) (λhS=>by rcases hs i hS with h | h;exact hn h;omega)).trans (h.block i hi hn)⟩
theorem Mod.mono {S S':Nat->Prop}{a b:World}(h:Mod S a b)(hs:∀i,S i->S' i∨a.heap.size<=i):Mod S' a b:=
 ⟨h.os,h.tape,h.output,h.size,λi hi hn=>h.block i hi (λhS=>by rcases hs i hS with h | h;exact hn h;omega)⟩
theorem Mod.ext {S:Nat->Prop}{w0 w w':World}(h:Mod S w w')(k:Ext w0 w)(hs:∀i,S i->w0.heap.size<=i):Ext w0 w':=
 ⟨h.os.trans k.os,h.tape.trans k.tape,h.output.trans k.output,Zc k.size h.size,λi hi _=>(h.block i (VT hi k.size) (λhS=>by have:=hs i hS;omega)).trans (k.block i hi (by simp))⟩
theorem Blk.mod {S:Nat->Prop}{w w':World}{g t:Nat}{cs:List Value}(h:Blk w g t cs)(k:Mod S w w')(hn:¬S g):Blk w' g t cs:=(k.block g h.lt hn).trans h
theorem Mod.grown {S:Nat->Prop}{w w':World}(h:Mod S w w'){row:Option Nat}(hs:∀i,S i->row=some i):w.grownBy w' row:=⟨h.os,h.tape,h.output,h.size,λk hk hn=>h.block k hk (λhS=>hn (hs k hS).symm)⟩
def Qk (A:Option Addr):Nat->Prop:=λk=>∃ad,A=some ad/\ad.block=k
theorem dQn {A:Option Addr}{n c k:Nat}(h:(Value.slice A n c).ownBlock=some k):Qk A k:=by
 cases A with
 | none=>simp[Value.ownBlock] at h
 | some ad=>exact⟨ad,rfl,by simpa [Value.ownBlock] using h⟩
theorem nQV {w w':World}{A:Option Addr}{n c:Nat}(h:w.grownBy w' (Value.slice A n c).ownBlock):Mod (Qk A) w w':=
 ⟨h.os,h.tape,h.output,h.size,λk hk hn=>h.block k hk (λe=>hn (dQn e.symm))⟩
theorem Own.rows {w:World}{base e sz n c:Nat}{A:Option Addr}{cs:List Value}(h:Own w base e sz A n c cs):∀k,Qk A k->base<=k/\k<w.heap.size:=by
 rintro k ⟨ad,rfl,rfl⟩;have h:=h.row;rcases h.2 with⟨hv,_⟩ | ⟨g,cap,ZD,hv,hb,hg,_⟩
 ·cases hv
 ·cases hv;exact⟨hb,(fA.1 hg).1⟩
theorem Own.mod {S:Nat->Prop}{w w':World}{base e sz n c:Nat}{A:Option Addr}{cs:List Value}(h:Own w base e sz A n c cs)(k:Mod S w w')(hn:∀i,Qk A i->¬S i):Own w' base e sz A n c cs:=by
 have hr:=h.row;refine⟨⟨hr.1,?_⟩⟩;rcases hr.2 with⟨hv,hx⟩ | ⟨g,cap,ZD,hv,hb,hg,xQ⟩
 ·exact .inl ⟨hv,hx⟩
 ·refine .inr ⟨g,cap,ZD,hv,hb,(k.block g (fA.1 hg).1 (hn g ?_)).trans hg,xQ⟩;cases hv;exact⟨_,rfl,rfl⟩
theorem Own.up {w:World}{base base' e sz n c:Nat}{A:Option Addr}{cs:List Value}(h:Own w base e sz A n c cs)(hb:base'<=base):Own w base' e sz A n c cs:=by
 have hr:=h.row;refine⟨⟨hr.1,?_⟩⟩;rcases hr.2 with hv | ⟨g,cap,ZD,hv,hb',xQ⟩
 ·exact .inl hv
 ·exact .inr ⟨g,cap,ZD,hv,Zc hb hb',xQ⟩
def Moved (w:World)(A A':Option Addr):Prop:=∀ad,A'=some ad->A=some ad∨w.heap.size<=ad.block
theorem Moved.refl (w:World)(A:Option Addr):Moved w A A:=λ_ h=>.inl h
theorem Moved.rows {w:World}{A A':Option Addr}(h:Moved w A A'):∀k,Qk A' k->Qk A k∨w.heap.size<=k:=by
 rintro k ⟨ad,rfl,rfl⟩;rcases h ad rfl with h | h
 ·exact .inl ⟨ad,h,rfl⟩
 ·exact .inr h
theorem Moved.trans {w w1:World}{A B C:Option Addr}(h:Moved w A B)(k:Moved w1 B C)(hs:w.heap.size<=w1.heap.size):Moved w A C:=λad e=>by
 rcases k ad e with h1 | h1
 ·exact h ad h1
 ·exact .inr (by omega)
theorem Moved.back {w w1:World}{A B:Option Addr}(h:Moved w1 A B)(hs:w.heap.size<=w1.heap.size):Moved w A B:=(Moved.refl w A).trans h hs
theorem Z4 {c:Cx}(hg:c.g.Ok){o:Oper}{S:Env}{w:World}{K:Env->World->Prop}{Q:Zg}{t t2 e sz:Nat}{x y:Operand}{A B:Option Addr}{n cp:Nat}{m c2:Nat}{xs ys:List Value}{base:Nat}{r re r2:TyRow}
  (ho:o.op= .call ⟨.builtin .append, #[x,y], #[t,t2]⟩) (hr:QT c.g.tys t=some r) (hd:r.d= .slice e) (X2:QT c.g.tys e=some re) (hs:re.sz=sz) (G4:0<sz) (jD:re.z.cells.size=sz) (Y3:QT c.g.tys t2=some r2) (az:∃e2,r2.d= .slice e2)
  (hx:S.ev x=some (.slice A n cp)) (hy:S.ev y=some (.slice B m c2)) (Wb:Own w base e sz A n cp xs) (gp:Sl w sz B m c2 ys) (gq:∀u∈ys,JG u=true)
  (gZ:n+m<=maxLen) (cj:(n+m)*re.by_<=140737488355328) (q7:base<=w.heap.size)
  (k:∀A' c' w1,Mod (Qk A) w w1->Own w1 base e sz A' (n+m) c' (xs++ys)->Moved w A A'->Xd c S o.dst (.v (.slice A' (n+m) c')) (λS=>K S w1)):X8 c o S w K Q:=
 bQR hg ho hr hd X2 hs G4 jD Y3 az hx hy Wb gp gq gZ cj q7 (λA' c' w1 h1 h2 h3=>k A' c' w1 (nQV h1) h2 h3)
theorem N7 {c:Cx}(hg:c.g.Ok){o:Oper}{S:Env}{w:World}{K:Env->World->Prop}{Q:Zg}{t t2 e:Nat}{x y:Operand}{A:Option Addr}{n cp:Nat}{s:ByteArray}{xs:List Value}{base:Nat}{r re r2:TyRow}
  (ho:o.op= .call ⟨.builtin .append, #[x,y], #[t,t2]⟩) (hr:QT c.g.tys t=some r) (hd:r.d= .slice e) (X2:QT c.g.tys e=some re) (hs:re.sz=1) (jD:re.z= .int .u8 0) (Dg:re.by_=1) (Y3:QT c.g.tys t2=some r2) (az:r2.d= .string)
  (hx:S.ev x=some (.slice A n cp)) (hy:S.ev y=some (.string s)) (Wb:Own w base e 1 A n cp xs)
  (gZ:n+s.size<=140737488355328) (q7:base<=w.heap.size)
  (k:∀A' c' w1,Mod (Qk A) w w1->Own w1 base e 1 A' (n+s.size) c' (xs++Lib.strCells s)->Moved w A A'->Xd c S o.dst (.v (.slice A' (n+s.size) c')) (λS=>K S w1)):X8 c o S w K Q:=
 bQT hg ho hr hd X2 hs jD Dg Y3 az hx hy Wb gZ q7 (λA' c' w1 h1 h2 h3=>k A' c' w1 (nQV h1) h2 h3)
theorem KD {w:World}{g t:Nat}{cs:List Value}{v:Value}{K:World->Prop}(h:Blk w g t cs)(hj:0<cs.length)(k:∀w1,Mod (·=g) w w1->Blk w1 g t (cs.set 0 v)->K w1):dx w ⟨g,0,none⟩ v K:=
 bQP h hj (λw1 h1 h2=>k w1 (nQQ h1 rfl) h2)
theorem XP {w:World}{g t:Nat}{cs:List Value}{j:Nat}{v:Value}{K:World->Prop}(h:Blk w g t cs)(hj:j<cs.length)(k:∀w1,Mod (·=g) w w1->Blk w1 g t (cs.set j v)->K w1):dx w ((⟨g,0,none⟩:Addr).add j) v K:=
 u9 h hj (λw1 h1 h2=>k w1 (nQQ h1 rfl) h2)
theorem sc {vs:List Value}(h:vs.all JG=true):∀u∈vs,JG u=true:=by simpa using h
theorem X9 {w w5 w6:World}{t:Nat}{cs:List Value}(Qw:Ext w w5)(_:Blk w5 w.heap.size t cs)(Y4:w5.grownBy w6 (some w.heap.size)):Ext w w6:=
 (Ext.refl w).own (bQA (Qw.grown (some w.heap.size)) Y4) (QB _)
theorem N8 (s:ByteArray):Lib.strCells s=Vb (YV s):=by
 simp only[Lib.strCells,Vb,YV,oV];rfl
structure Bld (w:World) (base g t:Nat) (rest:List Value) (A:Option Addr) (c:Nat) (out:List Nat):Prop where
 g1:g<base
 top:base<=w.heap.size
 blk:∃pa,(pa= .pointer none∨pa= .pointer (some ⟨g,0,none⟩))/\Blk w g t (pa:: .slice A out.length c::rest)
 own:Own w base 5 1 A out.length c (Vb out)
theorem Bld.grow {w w':World}{base g t:Nat}{rest:List Value}{A:Option Addr}{c:Nat}{out:List Nat}(h:Bld w base g t rest A c out)(k:Ext w w'):Bld w' base g t rest A c out:=
 ⟨h.g1,Zc h.top k.size,let ⟨pa,h1,h2⟩:=h.blk;⟨pa,h1,h2.ext k⟩,h.own.ext k⟩
def BldS (g:Nat)(A:Option Addr):Nat->Prop:=λk=>k=g∨Qk A k
theorem BldS.moved {w:World}{g:Nat}{A A':Option Addr}(h:Moved w A A'):∀k,BldS g A' k->BldS g A k∨w.heap.size<=k:=by
 rintro k (rfl | hk)
 ·exact .inl (.inl rfl)
 ·rcases h.rows k hk with h | h
  ·exact .inl (.inr h)
  ·exact .inr h
def pA (t m:Nat):Prop:=liesAt Tryz.prog Tryz.prog.depth t (m/Tryz.prog.cellsOf t) 0 109 1=true
theorem Blk.shape {w:World}{g t:Nat}{cs:List Value}(h:Blk w g t cs):w.shape? g=some (t,cs.length):=by
 unfold World.shape?;rw[h];simp
theorem bL:gx.P=Tryz.prog:=rfl
theorem N9:∃j,Tryz.prog.info? 109=some j/\j.size≠0:=by
 obtain⟨_,i,hi,hs,_⟩:=Qa.row (t:=109) rfl;exact⟨i,hi,by rw[hs];decide⟩
theorem EC (g t:Nat)(pa sl:Value)(rest:List Value)(w:World)(hl:pA t (rest.length+2))(hp:pa= .pointer none∨pa= .pointer (some ⟨g,0,none⟩))(hB:Blk w g t (pa::sl::rest)):
  Fn Tryz.prog 106 [.pointer (some ⟨g,0,none⟩)] w (λ_ w'=>Mod (·=g) w w'/\Blk w' g t (.pointer (some ⟨g,0,none⟩)::sl::rest)):=by
 obtain⟨j,hj,mV⟩:=N9;refine QF (c:=NW) Qa Tryz.func106 rfl rfl rfl ?_;have dk:=hB.shape;have ucs:=Tryz.underlying107;have uus:=Tryz.underlying240;rcases hp with rfl | rfl
 ·refine Qo hB rfl ?_;refine Q8 rfl ?_;refine Jx (w':=w) (v:=.pointer (some ⟨g,0,none⟩)) (λa hf=>?_) ?_
  ·have e1:=hf.ev (show Env.ev _ (.tmp 8)=some (.pointer (some ⟨g,0,none⟩)) from rfl);have:=Lib.run_to_unsafe (P:=Tryz.prog) (src:=107) (dst:=240) w ⟨g,0,none⟩ ucs uus hj mV dk (by simp);simp only[execOp,e1];simp[bL,this]
  refine Jx (w':=w) (v:=.pointer (some ⟨g,0,none⟩)) (λa hf=>?_) ?_
  ·have e1:=hf.ev (show Env.ev _ (.tmp 9)=some (.pointer (some ⟨g,0,none⟩)) from rfl);have:=run_callFunc_extern (P:=Tryz.prog) (e:=Extern.AbiNoEscape.same) Tryz.func159 (by kernel_rfl) (by kernel_rfl) (by kernel_rfl) (by kernel_rfl) #[.pointer (some ⟨g,0,none⟩)] w;rw[Lib.run_noEscape] at this;simp only[execOp,resolve,invoke];simp[Deferred.ofValue,Act.eval] at e1 ⊢;simp[e1,bL,this]
  refine Jx (w':=w) (v:=.pointer (some ⟨g,0,none⟩)) (λa hf=>?_) ?_
  ·have e1:=hf.ev (show Env.ev _ (.tmp 10)=some (.pointer (some ⟨g,0,none⟩)) from rfl);have:=Lib.run_from_unsafe (P:=Tryz.prog) (src:=240) (dst:=107) (u:=109) w ⟨g,0,none⟩ uus ucs hj dk (by simpa [pA] using hl);simp only[execOp,e1];simp[bL,this]
  refine XP hB (by simp) (λw1 hm Qh=>?_);exact⟨hm,Qh⟩
 ·refine Qo hB rfl ?_;refine Q3 rfl ?_;refine Qo hB rfl ?_;refine Jx (w':=w) (v:=.bool false) (λa hf=>?_) ?_
  ·have e1:=hf.ev (show Env.ev _ (.tmp 17)=some (.pointer (some ⟨g,0,none⟩)) from rfl);have e2:=hf.ev (show Env.ev _ (.tmp 18)=some (.pointer (some ⟨g,0,none⟩)) from rfl);have:=Lib.run_neq_ptr_same (P:=Tryz.prog) (tp:=107) w ⟨g,0,none⟩ ucs hj;simp only[execOp,e1,e2,eqGuard];simp[bL,this]
  refine Q3 rfl ?_;exact⟨Mod.refl _ _,hB⟩
theorem i9 (base g t:Nat)(rest:List Value)(A:Option Addr)(c:Nat)(out:List Nat)(s:ByteArray)(w:World)(hl:pA t (rest.length+2))(hb:Bld w base g t rest A c out)(hs:out.length+s.size<=140737488355328):
  Fn Tryz.prog 56 [.pointer (some ⟨g,0,none⟩),.string s] w (λ_ w'=>∃A' c',Bld w' base g t rest A' c' (out++YV s)/\Mod (BldS g A) w w'/\Moved w A A'):=by
 refine QF (c:=NT) Qa Tryz.func56 rfl rfl rfl ?_;obtain⟨pa,Jb,hB⟩:=hb.blk;refine call (EC g t pa _ rest w hl Jb hB) ?_;rintro v w1 ⟨Zt,Qh⟩;have VQ:=hb.own.rows;have eK:=hb.g1;have hn:¬Qk A g:=λh=>by have:=(VQ g h).1;omega
 have p7:=hb.own.mod Zt (λk hk e=>hn (e▸hk));refine Qo Qh rfl ?_;refine N7 Qa rfl rfl rfl rfl rfl rfl rfl rfl rfl rfl rfl p7 hs (by have:=Zt.size;have:=hb.top;omega) ?_;intro A' c' w2 XQ dU mW;refine XP (Qh.mod XQ hn) (by simp) (λw3 XC Qu=>?_);have QY:(out++YV s).length=out.length+s.size:=by rw[Qq,vf]
 have p8:=dU.rows;refine⟨A',c',⟨eK,by have:=Zt.size;have:=XQ.size;have:=XC.size;have:=hb.top;omega,⟨_,.inr rfl,by rw[QY];exact Qu⟩,?_⟩,?_,mW.back Zt.size⟩
 ·rw[QY,zz,<-N8];exact dU.mod XC (λk hk e=>by have:=(p8 k hk).1;omega)
 ·exact((Zt.mono (S':=BldS g A) (λi hi=>.inl (.inl hi))).trans XQ (λi hi=>.inl (.inr hi))).trans XC (λi hi=>.inl (.inl hi))
theorem ED (base g t:Nat)(rest:List Value)(A:Option Addr)(c:Nat)(out:List Nat)(b:Nat)(w:World)(hl:pA t (rest.length+2))(hb:Bld w base g t rest A c out)(hs:out.length+1<=140737488355328):
  Fn Tryz.prog 225 [.pointer (some ⟨g,0,none⟩),.int .u8 b] w (λ_ w'=>∃A' c',Bld w' base g t rest A' c' (out++ [b])/\Mod (BldS g A) w w'/\Moved w A A'):=by
 refine QF (c:=N6) Qa Tryz.func225 rfl rfl rfl ?_;obtain⟨pa,Jb,hB⟩:=hb.blk;refine call (EC g t pa _ rest w hl Jb hB) ?_;rintro v w1 ⟨Zt,Qh⟩;have VQ:=hb.own.rows;have eK:=hb.g1;have lD:=hb.top;have hn:¬Qk A g:=λh=>by have:=(VQ g h).1;omega
 have p7:=hb.own.mod Zt (λk hk e=>hn (e▸hk));refine Qo Qh rfl ?_;refine NI Qa rfl rfl rfl rfl rfl rfl rfl rfl ?_;intro w7 Xb jQO Q2;have g9:Sl w7 1 (some ⟨w1.heap.size,0,none⟩) 1 1 [.int .u8 (b:Int)]:=Sl.own' Q2 rfl (by simp[maxLen]);have jQP:=Zt.size;have jQQ:=Xb.size;refine Z4 Qa rfl rfl rfl rfl rfl (by decide) rfl rfl ⟨_,rfl⟩ rfl rfl (p7.ext Xb) g9 (by simp[JG]) (by unfold maxLen;omega) (by show _*1<=_;omega) (by omega) ?_;intro A' c' w2 XQ dU mW;refine XP ((Qh.ext Xb).mod XQ hn) (by simp) (λw3 XC Qu=>?_);have p8:=dU.rows;refine⟨A',c',⟨eK,by have:=XQ.size;have:=XC.size;omega,⟨_,.inr rfl,by rw[Qq];exact Qu⟩,?_⟩,?_,mW.back (by omega)⟩
 ·rw[Qq,zz];exact dU.mod XC (λk hk e=>by have:=(p8 k hk).1;omega)
 ·exact(((Zt.mono (S':=BldS g A) (λi hi=>.inl (.inl hi))).trans (Mod.of_ext (λ_=>False) Xb) (λi hi=>hi.elim)).trans XQ (λi hi=>.inl (.inr hi))).trans XC (λi hi=>.inl (.inl hi))
theorem Og (w:World)(g n:Nat){S:Nat->Prop}(h:S g):Mod S w (w.freeze ⟨g,0,none⟩ n):=by
 unfold World.freeze;split
 ·exact Mod.refl _ _
 ·refine⟨rfl,rfl,rfl,by simp,λk hk hn=>?_⟩;simp only[Array.getElem?_modify];rw[if_neg (λ(e:g=k)=>hn (e▸h))]
theorem dQo (base g t:Nat)(rest:List Value)(A:Option Addr)(c:Nat)(out:List Nat)(w:World)(hb:Bld w base g t rest A c out)(h8:∀x∈out,x<256)(hs:out.length<=140737488355328):
  Fn Tryz.prog 57 [.pointer (some ⟨g,0,none⟩)] w (λv w'=>v= .string (Qd out)/\Mod (Qk A) w w'):=by
 obtain⟨pa,Jb,hB⟩:=hb.blk;refine QF (c:=NU) Qa Tryz.func57 rfl rfl rfl ?_;have QY:(Vb out).length=out.length:=rY out;refine XK Qa (Ext w) 10 [(true,0),(true,1),(true,2),(true,3),(true,5),(true,6),(true,7),(true,8),(true,9),(false,4)] (by kernel_rfl) (Ext.drew w) ?_;refine QK (v:=.slice A out.length c) (λw' Qb=>by rw[(hB.ext Qb).cell];rfl) ?_;refine QK (v:=.slice A out.length c) (λw' Qb=>by rw[(hB.ext Qb).cell];rfl) ?_;have G5:out.length=0->Value.string ByteArray.empty=Value.string (Qd out):=λh0=>by
  have:out=[]:=Wg h0;subst this;rfl
 by_cases h0:out.length=0
 ·have key:∃p w1,(Builtin.unsafeSliceData_ #[62] 179 #[.slice A out.length c]).run Tryz.prog w.drew= .ok (.pointer p) w1/\Ext w w1:=by
   rcases hb.own.row.2 with⟨hv,_⟩ | ⟨g',cap,ZD,hv,hb',Vz,_⟩
   ·simp only[Value.slice.injEq] at hv;obtain⟨rfl,_,rfl⟩:=hv;exact⟨none,w.drew,Lib.run_unsafeSliceData_nil _ _ _ _ _,Ext.drew w⟩
   ·simp only[Value.slice.injEq] at hv;obtain⟨rfl,_,rfl⟩:=hv;by_cases wy:c=0
    ·subst wy;have dk:w.drew.shape? g'=some (5,ZD.size):=by
      unfold World.shape?;rw[show w.drew.heap[g']? =_ from Vz]
     exact⟨_,_,Lib.run_unsafeSliceData_zero (P:=Tryz.prog) w.drew _ _ 5 Tryz.underlying179 ⟨g',0,none⟩ _ _ dk,(Ext.drew w).trans (Ext.alloc _ _)⟩
    ·exact⟨_,w.drew,Lib.run_unsafeSliceData_row (P:=Tryz.prog) w.drew _ _ ⟨g',0,none⟩ _ _ wy,Ext.drew w⟩
  obtain⟨p,w1,Ja,Qe⟩:=key;refine Jx (w':=w1) (v:=.pointer p) (λa hf=>?_) ⟨Qe,?_⟩
  ·have e1:=hf.ev (show Env.ev _ (.tmp 6)=some (.slice A out.length c) from rfl);simp only[execOp,resolve,invoke,builtin];simp[bL,e1,Ja]
  refine Jx (w':=w1) (v:=.string ByteArray.empty) (λa hf=>?_) ?_
  ·have e1:=hf.ev (show Env.ev _ (.tmp 7)=some (.pointer p) from rfl);have e2:=hf.ev (show Env.ev _ (.tmp 12)=some (.int .i64 out.length) from rfl);have:=Lib.run_unsafeString_none (P:=Tryz.prog) w1 179 3 9 p;rw[h0] at e2;simp only[execOp,resolve,invoke,builtin];simp[bL,e1,e2];rw[this]<;>rfl
  exact⟨G5 h0,Mod.of_ext _ Qe⟩
 ·obtain⟨g',sp,rfl,hb',KK,di⟩:=hb.own.blk (by omega);have Zz:=hb.own.sl.le;refine Jx (w':=w.drew) (v:=.pointer (some ⟨g',0,none⟩)) (λa hf=>?_) ⟨Ext.drew w,?_⟩
  ·have e1:=hf.ev (show Env.ev _ (.tmp 6)=some (.slice (some ⟨g',0,none⟩) out.length c) from rfl);have:=Lib.run_unsafeSliceData_row (P:=Tryz.prog) w.drew #[62] 179 ⟨g',0,none⟩ out.length c (by omega);simp only[execOp,resolve,invoke,builtin];simp[bL,e1,this]
  refine Jx (w':=w.drew.freeze ⟨g',0,none⟩ out.length) (v:=.string (Qd out)) (λa hf=>?_) ?_
  ·have e1:=hf.ev (show Env.ev _ (.tmp 7)=some (.pointer (some ⟨g',0,none⟩)) from rfl);have e2:=hf.ev (show Env.ev _ (.tmp 12)=some (.int .i64 out.length) from rfl);have dk:w.drew.shape? g'=some (5,(Vb out++sp).length):=(KK.ext (Ext.drew w)).shape;have JZ:(out.map UInt8.ofNat).length=out.length:=by simp
   have:=Lib.run_unsafeString_row (P:=Tryz.prog) w.drew 179 3 9 5 Tryz.underlying179 (by kernel_rfl) g' _ dk (out.map UInt8.ofNat) (by intro e;apply h0;rw[<-JZ,e];rfl) (by simp[rY]) (by rw[JZ];omega) (λj x hj=>by
    rw[(KK.ext (Ext.drew w)).cell];simp only[aL,DR] at hj;obtain⟨y,hy,rfl⟩:=hj;have W4:j<out.length:=(ZY.1 hy).1;rw[fD (by rw[QY];exact W4),px hy];have:=h8 y (Xm hy);simp[jR this])
   rw[JZ] at this;simp only[execOp,resolve,invoke,builtin];simp[bL,e1,e2];rw[this]<;>rfl
  exact⟨rfl,(Mod.of_ext (Qk _) (Ext.drew w)).trans (Og w.drew g' out.length (S:=Qk (some ⟨g',0,none⟩)) ⟨_,rfl,rfl⟩) (λi hi=>.inl hi)⟩
section
structure Fz where
 o:Int
 v:Int
 a:Int
 b:Int
deriving DecidableEq
def Fz.cells (x:Fz):List Value:=[.int .i64 x.o,.int .i64 x.v,.int .i64 x.a,.int .i64 x.b]
theorem zD (x:Fz):x.cells.length=4:=rfl
def isDig (b:Nat):Bool:=decide (48<=b)&&decide (b<=57)
def aT (b:Nat):Bool:=b==95||(decide (97<=b)&&decide (b<=122))||(decide (65<=b)&&decide (b<=90))
def Za (b:Nat):Bool:=aT b||isDig b
def Vn:List Nat->Nat
 | []=>0
 | b::l=>if isDig b then 0 else((b::l).takeWhile Za).length
def ZE (l:List Nat):List Nat:=l.dropWhile λb=>b==32||b==9
structure Ps where
 r:List Nat
 f:List Fz
 u:Bool
def Kh (sym:List Nat)(p:Ps):Bool×Ps:=if sym.isPrefixOf (ZE p.r)then(true,{p with r:=(ZE p.r).drop sym.length})else(false,{p with r:=ZE p.r})
def VW (x:Fz)(p:Ps):Nat×Ps:=(p.f.length,{p with f:=p.f++ [x]})
def fS (sym:List Nat)(op:Int)(opd:Ps->Option (Nat×Ps)):Nat->Nat->Ps->Option (Nat×Ps)
 | 0,_,_=>none
 | m+1,a,p=>match Kh sym p with
  | (true,p1)=>match opd p1 with
   | none=>none
   | some (b,p2)=>fS sym op opd m p2.f.length {p2 with f:=p2.f++ [⟨op,0,a,b⟩]}
  | (false,p1)=>some (a,p1)
def Vo (sym:List Nat)(op:Int)(opd:Ps->Option (Nat×Ps))(p:Ps):Option (Nat×Ps):=match opd p with
 | none=>none
 | some (a,p1)=>fS sym op opd (p1.r.length+1) a p1
def cB (
     ix:List Nat->Option Nat):Nat->Ps->Option (Nat×Ps)
 | 0,_=>none
 | n+1,p=>match Kh [33] p with
  | (true,p1)=>match cB ix n p1 with
   | none=>none
   | some (a,p2)=>some (VW ⟨3,0,a,0⟩ p2)
  | (false,p1)=>match Kh [40] p1 with
   | (true,p2)=>match Vo [124,124] 5 (Vo [38,38] 4 (cB ix n)) p2 with
    | none=>none
    | some (a,p3)=>match Kh [41] p3 with
     | (true,p4)=>some (a,p4)
     | (false,_)=>none
   | (false,p2)=>if Vn p2.r=0 then none else
     let word:=p2.r.take (Vn p2.r)
     let p3:Ps:={p2 with r:=p2.r.drop (Vn p2.r)}
     if word=[116,114,117,101] then some (VW ⟨1,0,0,0⟩ p3)else if word=[102,97,108,115,101] then some (VW ⟨0,0,0,0⟩ p3)else
      some (VW ⟨2,((ix word).getD 0:Nat),0,0⟩ {p3 with u:=p3.u||(ix word).isNone})
def gH (ix:List Nat->Option Nat)(n:Nat)(p:Ps):Option (Nat×Ps):=Vo [124,124] 5 (Vo [38,38] 4 (cB ix n)) p
end
section
theorem KY (l:List Nat)(a b:Nat):(Qd l).extract a b=Qd ((l.take b).drop a):=by
 apply ByteArray.ext;apply Array.ext';simp[Qd,fE]
theorem B8.drop {l:List Nat}(h:∀x∈l,x<256)(k:Nat):∀x∈l.drop k,x<256:=λx hx=>h x (aM hx)
theorem B8.take {l:List Nat}(h:∀x∈l,x<256)(k:Nat):∀x∈l.take k,x<256:=λx hx=>h x (aN hx)
theorem EE (p l:List Nat):p.isPrefixOf l=decide (p.length<=l.length/\l.take p.length=p):=by
 rw[oT,aQ6,Vm];constructor
 ·rintro⟨t,rfl⟩;exact⟨by simp,by simp⟩
 ·rintro⟨h1,h2⟩;refine⟨l.drop p.length,?_⟩;have:=lQ p.length l;rw[h2] at this;exact this
theorem Oh (l p:List Nat)(w:World)(hl:∀x∈l,x<256)(hp:∀x∈p,x<256):
  Fn Tryz.prog 154 [.string (Qd l),.string (Qd p)] w (λv w'=>v= .bool (p.isPrefixOf l)/\w=w'):=by
 refine QF (c:=cQD) Qa Tryz.func154 rfl rfl rfl ?_;refine Qz (λh1=>?_) (λh1=>?_)
 ·rw[Xe,Xe] at h1;refine need ⟨by omega,by omega,by rw[Xe,Xe];omega⟩ ?_;refine⟨?_,rfl⟩;rw[EE];congr 1;refine uS.2 ?_;simp only[gE,Int.toNat_zero];rw[KY,rK,Xe];exact⟨λh=>⟨by omega,J8 (B8.take hl _) hp h⟩,λh=>by rw[h.2]⟩
 ·rw[Xe,Xe] at h1;exact⟨by rw[EE,Zq (λh=>h1 (by omega))],rfl⟩
def vl (l p:List Nat):Value:=if p.isPrefixOf l then .tuple #[.string (Qd (l.drop p.length)),.bool true] else .tuple #[.string (Qd l),.bool false]
theorem dQp (l p:List Nat)(w:World)(hl:∀x∈l,x<256)(hp:∀x∈p,x<256):
  Fn Tryz.prog 231 [.string (Qd l),.string (Qd p)] w (λv w'=>v=vl l p/\w=w'):=by
 refine QF (c:=dQl) Qa Tryz.func231 rfl rfl rfl ?_;refine call (Oh l p w hl hp) ?_;rintro v w1 ⟨rfl,rfl⟩;unfold vl;cases ur:p.isPrefixOf l with
 | false=>
  refine Q8 rfl ?_;exact⟨rfl,rfl⟩
 | true=>
  refine Q3 rfl ?_;have Zz:p.length<=l.length:=by rw[EE] at ur;exact(aQ ur).1
  refine need ⟨by omega,by rw[Xe,Xe];omega,by omega⟩ ?_;refine⟨?_,rfl⟩;simp only[gE,Xe];rw[KY,Jc (QB _)]<;>rfl
theorem dQq (l p:List Nat)(w:World)(hl:∀x∈l,x<256)(hp:∀x∈p,x<256):
  Fn Tryz.prog 200 [.string (Qd l),.string (Qd p)] w (λv w'=>v=vl l p/\w=w'):=by
 refine QF (c:=cQ4) Qa Tryz.func200 rfl rfl rfl ?_;refine call (dQp l p w hl hp) ?_;rintro v w1 ⟨rfl,rfl⟩;unfold vl;split
 ·exact⟨rfl,rfl⟩
 ·exact⟨rfl,rfl⟩
def ez (k:Nat):List Value:=(List.range 256).map λj=>.bool (decide (0<k/\j=32)||decide (1<k/\j=9))
theorem pB (k:Nat):(ez k).length=256:=by simp[ez]
theorem EF {k j:Nat}(h:j<256):(ez k)[j]? =some (.bool (decide (0<k/\j=32)||decide (1<k/\j=9))):=by
 unfold ez;rw[aL,List.getElem?_range h]<;>rfl
theorem Oi (k:Nat):∀u∈ez k,JG u=true:=λu hu=>by
 unfold ez at hu;simp only[X7] at hu;obtain⟨j,_,rfl⟩:=hu;rfl
theorem dQr {k x:Nat}(hk:k<2)(hx: [32,9][k]? =some x):(ez k).set x (.bool true)=ez (k+1):=by
 apply yR;intro j;by_cases hj:j<256
 ·rw[List.getElem?_set,EF hj,EF hj,pB];have VM:k=0∨k=1:=by omega
  rcases VM with rfl | rfl
  ·simp at hx;subst hx;split
   ·rename_i e;subst e;simp
   ·rename_i e;have:¬j=32:=λh=>e h.symm
    simp[this]
  ·simp at hx;subst hx;split
   ·rename_i e;subst e;simp
   ·rename_i e;have:¬j=9:=λh=>e h.symm
    simp[this]
 ·rw[oX (by rw[fB,pB];omega),oX (by rw[pB];omega)]
set_option maxRecDepth 20000 in
theorem dQs (w:World):Fn Tryz.prog 228 [.string (Qd [32,9])] w (λv w'=>v= .tuple #[.agg (ez 2).toArray,.bool true]/\Ext w w'):=by
 refine QF (c:=dQj) Qa Tryz.func228 rfl rfl rfl ?_;refine new (λw1 Qe Q4 Qh=>?_);have G6:Blk w1 w.heap.size 302 (ez 0):=Qh;clear Qh;refine loop Qa [4] (λk:Nat=>[.int .i64 k]) (λk w'=>k<=2/\Ext w w'/\Blk w' w.heap.size 302 (ez k)) (λk _=>2-k) 0 rfl ⟨by omega,Qe,G6⟩ ?_;rintro k w2 ⟨hk,Qg,Qx⟩;refine Qz (λh1=>?_) (λh1=>?_)
 ·have VM:k<2:=by
   have:((Qd [32,9]).size:Int)=2:=rfl;omega
  refine dE (s:=Qd [32,9]) (by show k<2;exact VM) (λx hx G7=>?_);have VC: [32,9][k]? =some x:=by rw[WJ (by decide)] at hx;exact hx
  have gr:x<128:=by
   have:k=0∨k=1:=by omega
   rcases this with rfl | rfl
   ·simp at VC;omega
   ·simp at VC;omega
  refine XD (by omega) ?_;refine zB (j:=x) rfl (by omega) ?_;refine XP Qx (by rw[pB];omega) (λw3 XC Qu=>?_);rw[dQr VM VC] at Qu;refine Qi ((k+1:Nat):Int) (by omega) (by omega) ?_;exact⟨k+1,rfl,⟨by omega,XC.ext Qg (λi hi=>by omega),Qu⟩,by show 2-(k+1)<2-k;omega⟩
 ·have VM:k=2:=by
   have:((Qd [32,9]).size:Int)=2:=rfl;omega
  subst VM;refine Qt Qx (pB 2) ?_;refine Qv Qx rfl (Oi 2) (λw3 Z7 _ Qu=>?_);refine Qt Qu (pB 2) ?_;exact⟨rfl,Qg.own Z7 (QB _)⟩
theorem dQt (g x:Nat)(w:World)(hB:Blk w g 302 (ez 2))(hx:x<256):
  Fn Tryz.prog 245 [.pointer (some ⟨g,0,none⟩),.int .u8 x] w (λv w'=>v= .bool (x==32||x==9)/\w=w'):=by
 refine QF (c:=dQm) Qa Tryz.func245 rfl rfl rfl ?_;refine zB (j:=x) rfl (by omega) ?_;refine Qo hB (EF hx) ?_;refine⟨?_,rfl⟩;have e:∀y:Nat,(x==y)=decide (x=y):=λy=>rfl
 simp[e]
theorem dQu (g:Nat)(l:List Nat)(w:World)(hB:Blk w g 302 (ez 2))(hl:∀x∈l,x<256)(_:l.length<=9223372036854775807):
  Fn Tryz.prog 229 [.string (Qd l),.pointer (some ⟨g,0,none⟩)] w (λv w'=>v= .string (Qd (ZE l))/\Ext w w'):=by
 refine QF (c:=dQk) Qa Tryz.func229 rfl rfl rfl ?_;refine loop Qa [0] (λm:List Nat=>[.string (Qd m)]) (λm w'=>Ext w w'/\ZE m=ZE l/\(∀x∈m,x<256)) (λm _=>m.length) l rfl ⟨Ext.refl _,rfl,hl⟩ ?_;rintro m w1 ⟨Qe,hm,JB⟩;refine Qz (λh1=>?_) (λh1=>?_)
 ·cases m with
  | nil=>simp[Xe] at h1
  | cons x m=>
   refine dE (s:=Qd (x::m)) (by rw[Xe];simp) (λy hy G8=>?_);have iE:y=x:=by rw[WJ JB] at hy;simpa using hy.symm
   subst iE;refine call (dQt g y w1 (hB.ext Qe) G8) ?_;rintro v w2 ⟨rfl,rfl⟩;cases hb:(y==32||y==9)with
   | false=>
    refine Q8 rfl ?_;refine⟨?_,Qe⟩;rw[<-hm];unfold ZE;rw[oY,hb]<;>rfl
   | true=>
    refine Q3 rfl ?_;refine need ⟨by omega,by omega,by omega⟩ ?_;refine⟨m,?_,⟨Qe,?_,λz hz=>JB z (by simp[hz])⟩,by simp⟩
    ·have e:(Qd (y::m)).extract (Int.toNat 1) (((Qd (y::m)).size:Int)).toNat=Qd m:=by
      rw[KY,Xe,gE,Jc (QB _)]<;>rfl
     rw[e]<;>rfl
    ·rw[<-hm];unfold ZE;rw[oY,hb]<;>rfl
 ·cases m with
  | nil=>exact⟨by rw[<-hm];rfl,Qe⟩
  | cons x m=>rw[Xe] at h1;simp at h1
set_option maxRecDepth 20000 in
theorem dQv (l:List Nat)(w:World)(hl:∀x∈l,x<256)(QY:l.length<=9223372036854775807):
  Fn Tryz.prog 199 [.string (Qd l),.string (Qd [32,9])] w (λv w'=>v= .string (Qd (ZE l))/\Ext w w'):=by
 refine QF (c:=cQ3) Qa Tryz.func199 rfl rfl rfl ?_;refine Qz (λh1=>?_) (λh1=>?_)
 ·have:l=[]:=J8 hl (by simp) (h1.trans rfl);subst this;exact⟨rfl,Ext.refl _⟩
 refine XD (by decide) ?_;refine Xy (by decide) ?_;refine call (dQs w) ?_;rintro v w1 ⟨rfl,Qe⟩;refine new (λw2 Qg Zb Qx=>?_);refine Qv Qx (pB 2) (Oi 2) (λw3 Z7 _ Qu=>?_);have XI:=X9 Qg Qx Z7;refine Q8 rfl ?_;refine call (dQu w1.heap.size l w3 Qu hl QY) ?_;rintro v w4 ⟨rfl,Qs⟩;exact⟨rfl,Qe.trans (XI.trans Qs)⟩
end
section
theorem dQw {P:Program}{f:FuncId}{l:List Value}{w:World}{v:Value}{R:World->Prop}(h:Calls P f l.toArray w λe w'=>e= .returned v/\R w'):Fn P f l w (λu w'=>u=v/\R w'):=by
 unfold Fn;exact h.mono λe w' he=>by obtain⟨rfl,h⟩:=he;exact⟨rfl,h⟩
theorem nQW {w w':World}(h:Below w.heap.size w w'):Ext w w':=⟨h.os,h.tape,h.output,h.size,λk hk _=>h.block k hk⟩
theorem EG (r:Nat):Za r=true↔(r=95∨(97<=r/\r<=122)∨(65<=r/\r<=90)∨(48<=r/\r<=57)):=by
 unfold Za aT isDig;simp;omega
theorem dQx (r:Nat)(w:World):Fn Tryz.prog 220 [.int .i32 r] w (λv w'=>v= .bool (!Za r)/\w=w'):=by
 have hb:Za r=decide (r=95∨(97<=r/\r<=122)∨(65<=r/\r<=90)∨(48<=r/\r<=57)):=by rw[oT,EG,Vm]
 rw[hb];refine QF (c:=dQd) Qa Tryz.func220 rfl rfl rfl ?_;have lQL:r=95∨(97<=r/\r<=122)∨(65<=r/\r<=90)∨(48<=r/\r<=57)∨r<48∨(57<r/\r<65)∨(90<r/\r<95)∨r=96∨122<r:=by omega
 rcases lQL with h | h | h | h | h | h | h | h | h <;>
  repeat (first | refine rV (by omega) ?_ | refine ac (by omega) ?_ | refine Zh (by omega) ?_ | refine XD (by omega) ?_ | refine Q8 rfl ?_ | refine Q3 rfl ?_)
 all_goals refine⟨?_,rfl⟩
 all_goals congr 1
 all_goals first
  | (
    have hP:(r=95∨(97<=r/\r<=122)∨(65<=r/\r<=90)∨(48<=r/\r<=57)):=by omega
    rw[Zy hP];first | rfl | exact Zq (by omega) | exact Zy (by omega))
  | (
    have hP:¬(r=95∨(97<=r/\r<=122)∨(65<=r/\r<=90)∨(48<=r/\r<=57)):=by omega
    rw[Zq hP];first | rfl | exact Zy (by omega) | exact Zq (by omega))
theorem Oj {s:ByteArray}{pos:Nat}(h:pos<s.size):s.get! pos=s[pos]:=by
 simp[ByteArray.get!,ByteArray.getElem_eq_getElem_data,getElem!_pos s.data pos h]
theorem dQy {s:ByteArray}{pos:Nat}(h:pos<s.size)(ha:s[pos].toNat<128):Utf8.decode s pos=(s[pos].toNat,1):=by
 unfold Utf8.decode;simp only[Nat.add_zero,Oj h];rw[Qf ha]
theorem dQz {s:ByteArray}{pos:Nat}(h:pos<s.size)(ha:¬s[pos].toNat<128):128<=(Utf8.decode s pos).1:=by
 unfold Utf8.decode;simp only[Nat.add_zero,Oj h];rw[if_neg ha];have he:128<=Utf8.runeError:=by decide
 split
 ·split
  ·assumption
  ·exact he
 split
 ·split
  ·rename_i h1;simp at h1;exact Zc (by decide) h1.1
  ·exact he
 split
 ·split
  ·rename_i h1;simp at h1;exact Zc (by decide) h1.1
  ·exact he
 ·exact he
theorem Ol (s:ByteArray):∀(f pos:Nat),s.size<=pos+f->pos<=s.size->
  Lib.idxFuncFrom (λr=> !Za r) true s f pos=if((YV s).drop pos).all Za then -1 else((pos+(((YV s).drop pos).takeWhile Za).length:Nat):Int)
 | 0,pos,h,hp=>by
  rw[rJ (by rw[vf];omega)];rfl
 | f+1,pos,h,hp=>by
  unfold Lib.idxFuncFrom;by_cases ci:pos<s.size
  ·rw[Qf ci];have hg:(YV s).drop pos=s[pos].toNat::(YV s).drop (pos+1):=by
    rw[W9 (by rw[vf];exact ci)];congr 1;have:=NJ ci;exact(ZY.1 this).2
   rw[hg];by_cases ha:s[pos].toNat<128
   ·have hd:=dQy ci ha;rw[hd]
    dsimp only
    cases hi:Za s[pos].toNat with
    | true=>
     rw[if_neg (by simp),Ol s f (pos+1) (by omega) (by omega)];simp only[yS,hi,cw,WD,if_true,Q6];split
     ·rfl
     ·congr 1;omega
    | false=>
     rw[Qf (by simp)];simp[hi]
   ·have hi:Za s[pos].toNat=false:=by
     cases e:Za s[pos].toNat with
     | false=>rfl
     | true=>have:=(EG _).1 e;omega
    have hd:Za (Utf8.decode s pos).1=false:=by
     have mQw:=dQz ci ha;cases e:Za (Utf8.decode s pos).1 with
     | false=>rfl
     | true=>have:=(EG _).1 e;omega
    rw[Qf (by rw[hd];rfl)];simp[hi]
  ·rw[if_neg ci,rJ (by rw[vf];omega)];rfl
theorem dQA (l:List Nat)(w:World)(hl:∀x∈l,x<256):Fn Tryz.prog 219 [.string (Qd l),.func (.func 220) #[] #[]] w (λv w'=>v= .int .i64 (if l.all Za then -1 else((l.takeWhile Za).length:Nat))/\Ext w w'):=by
 refine QF (c:=dQc) Qa Tryz.func219 rfl rfl rfl ?_;have hp:Go.Proofs.PredAt Tryz.prog 220 #[] Go.Proofs.encR (λr=> !Za r) w:=λW r _=>by
  have h:=dQx r W;unfold Fn at h;exact h.mono λe w' he=>by
   cases e with
   | returned v=>obtain⟨rfl,rfl⟩:=he;exact⟨rfl,0,rfl⟩
   | panicked ch=>exact he.elim
   | outgrown=>exact he.elim
 have hc:=Tryz.strings_indexFunc 220 #[] (Go.Proofs.enters_of Tryz.func220 rfl rfl) (λr=> !Za r) true (Qd l) w hp;refine call (dQw hc) ?_;rintro v w1 ⟨rfl,hb⟩;refine⟨?_,nQW hb⟩;unfold Lib.idxFunc;rw[Ol (Qd l) _ 0 (by omega) (Xr _),WJ hl,rK,Wh]
end
end
section
structure KeyQ {α:Type} [DecidableEq α] (P:Program) (ke:Nat) (kv:α->Value):Prop where
 find:∀(a:α) (m:List (α×Value)) (bs:List Nat) (w:World),bs.length=m.length->
  ∃r,(Instr.findKey ke (kv a) (XV kv m bs)).run P w= .ok r w/\r.map (·.2)=Xz a m/\(∀j v,r=some (j,v)->∀v',XV kv (Ze a v' m) bs=(XV kv m bs).modify j (λe=>{e with key:=kv a,val:=v'})/\((XV kv m bs)[j]?).map (·.key)=some (kv a))/\(r=none->∀v',Ze a v' m=m++ [(a,v')])
 check:∀b a w,(Instr.checkKey b 10000 ke (kv a)).run P w= .ok () w
 bits:∀a,Instr.sameBits 10000 (kv a) (kv a)=true
theorem EH {α:Type} [DecidableEq α]{P:Program}{ke:Nat}{kv:α->Value}(a:α)(w:World)(heq:∀b:α,(Op.equal ke (kv a) (kv b)).run P w= .ok (decide (a=b)) w):∀(m:List (α×Value))(bs:List Nat)(i:Nat),bs.length=m.length->
  ∃r,(Instr.findAsking ke (kv a) (XV kv m bs) i).run P w= .ok r w/\r.map (·.2)=Xz a m/\(∀j v,r=some (j,v)->i<=j/\∀v',XV kv (Ze a v' m) bs=(XV kv m bs).modify (j-i) (λe=>{e with key:=kv a,val:=v'})/\((XV kv m bs)[j-i]?).map (·.key)=some (kv a))/\(r=none->∀v',Ze a v' m=m++ [(a,v')])
 | [],bs,i,h=>⟨none,by simp[XV,Instr.findAsking],rfl,(λj v h=>by cases h),λ_ v'=>rfl⟩
 | (b,u)::m,[],i,h=>by simp at h
 | (b,u)::m,s::bs,i,h=>by
  have e:XV kv ((b,u)::m) (s::bs)={key:=kv b,val:=u,born:=s}::XV kv m bs:=rfl;rw[e];unfold Instr.findAsking;simp only[Sem.run_bind,heq,Result.andThen_ok];by_cases Yi:a=b
  ·subst Yi;simp only[decide_true,if_true];refine⟨some (i,u),by simp,by simp[Xz],λj v hj=>?_,λh=>by cases h⟩;cases hj;refine⟨QB _,λv'=>?_⟩;simp[Ze,XV]
  ·simp only[Yi,decide_false,MV,if_false];obtain⟨r,h1,h2,h3,h4⟩:=EH a w heq m bs (i+1) (by simpa using h);refine⟨r,h1,by simp[Xz,Yi,h2],λj v hj=>?_,λhn v'=>by simp[Ze,Yi,h4 hn v']⟩;obtain⟨h5,h7⟩:=h3 j v hj;refine⟨by omega,λv'=>?_⟩;obtain⟨h8,h9⟩:=h7 v';rw[show j-i=(j-(i+1))+1 by omega];refine⟨?_,by simpa using h9⟩;simp only[Ze,Yi,if_false];rw[show XV kv ((b,u)::Ze a v' m) (s::bs)={key:=kv b,val:=u,born:=s}::XV kv (Ze a v' m) bs from rfl,h8];simp
theorem nQ4 {α:Type} [DecidableEq α]{P:Program}{ke:Nat}{kv:α->Value}{fs:Array Field}(hu:P.underlying ke=some (.struct fs))
  (heq:∀(a b:α) (w:World),(Op.equal ke (kv a) (kv b)).run P w= .ok (decide (a=b)) w) (hc:∀b a w,(Instr.checkKey b 10000 ke (kv a)).run P w= .ok () w) (hb:∀a,Instr.sameBits 10000 (kv a) (kv a)=true):KeyQ P ke kv:=by
 refine⟨λa m bs w hl=>?_,hc,hb⟩;have key:=EH (P:=P) (ke:=ke) (kv:=kv) a w (λb=>heq a b w) m bs 0 hl;obtain⟨r,h1,h2,h3,h4⟩:=key;refine⟨r,?_,h2,λj v hj v'=>by simpa using (h3 j v hj).2 v',h4⟩;unfold Instr.findKey;simp only[Sem.run_bind,ZU hu,Result.andThen_ok];cases m with
 | nil=>
  simp only[XV,List.zip_nil_left,List.map_nil,Instr.findNow,Sem.run_pure];simp[XV,Instr.findAsking] at h1;rw[h1]
 | cons p m=>
  cases bs with
  | nil=>simp at hl
  | cons s bs=>
   have e:XV kv (p::m) (s::bs)={key:=kv p.1,val:=p.2,born:=s}::XV kv m bs:=rfl;rw[e] at h1 ⊢;have hn:Instr.findNow (.struct fs) (kv a) ({key:=kv p.1,val:=p.2,born:=s}::XV kv m bs) 0=none:=by
    simp[Instr.findNow,Instr.sameNow]
   rw[hn];exact h1
structure MapQ {α:Type} (kv:α->Value) (w:World) (r:Nat) (m:List (α×Value)):Prop where
 ex:∃bs ck,bs.length=m.length/\bs.Nodup/\(∀b∈bs,b<ck)/\w.heap[r]? =some (.map (XV kv m bs).toArray ck)
theorem MapQ.ext {α:Type}{kv:α->Value}{w w':World}{r:Nat}{m:List (α×Value)}(h:MapQ kv w r m)(k:Ext w w'):MapQ kv w' r m:=by
 obtain⟨bs,ck,hl,h1,h2,hb⟩:=h.ex;exact⟨bs,ck,hl,h1,h2,(k.block r (fA.1 hb).1 (by simp)).trans hb⟩
theorem MapQ.mod {α:Type}{kv:α->Value}{S:Nat->Prop}{w w':World}{r:Nat}{m:List (α×Value)}(h:MapQ kv w r m)(k:Mod S w w')(hn:¬S r):MapQ kv w' r m:=by
 obtain⟨bs,ck,hl,h1,h2,hb⟩:=h.ex;exact⟨bs,ck,hl,h1,h2,(k.block r (fA.1 hb).1 hn).trans hb⟩
theorem r7 {α:Type}{c:Cx}(_:c.g.Ok){o:Oper}{S:Env}{w:World}{K:Env->World->Prop}{Q:Zg}{t:Nat}(kv:α->Value)(ho:o.op= .makeMap t none)
  (k:∀w1,Ext w w1->w1.heap.size=w.heap.size+1->MapQ kv w1 w.heap.size []->Xd c S o.dst (.v (.map (some w.heap.size))) (λS=>K S w1)):X8 c o S w K Q:=by
 refine Jx (w':=w.alloc (.map #[] 0)) (λa hf=>?_) (k _ (Ext.alloc w _) (by simp) ⟨[],0,rfl,List.nodup_nil,by simp,heap_alloc_new w _⟩);simp[execOp,ho,Instr.makeMap]
section
variable {α:Type} [DecidableEq α] {kv:α->Value} {c:Cx} {o:Oper} {S:Env} {w:World} {K:Env->World->Prop} {Q:Zg} {t ke e:Nat} {r re:TyRow} {x y:Operand} {q:Nat} {m:List (α×Value)} {a:α}
theorem Om (hg:c.g.Ok)(hr:QT c.g.tys t=some r)(hd:r.d= .map ke e)(X2:QT c.g.tys e=some re)(hk:KeyQ c.g.P ke kv)(hm:MapQ kv w q m)(ok:Bool):
  (Instr.lookup t (.map (some q)) (kv a) ok).run c.g.P w= .ok (if ok then .tuple #[(Xz a m).getD re.z,.bool (Xz a m).isSome] else(Xz a m).getD re.z) w:=by
 have Q0:=(hg.row hr).1;rw[hd] at Q0;obtain⟨_,i,hi,_,_,cm⟩:=hg.row X2;obtain⟨bs,ck,hl,_,_,hb⟩:=hm.ex;obtain⟨res,h1,h2,_,_⟩:=hk.find a m bs w hl;have ei:(getObj q).run c.g.P w= .ok (.map (XV kv m bs).toArray ck) w:=by simp[getObj,Sem.run,hb]
 have hz:(zeroValue e).run c.g.P w= .ok re.z w:=by simp[zeroValue,typeInfo,hi,cm]
 simp only[Instr.lookup,Sem.run_bind,ZU Q0,Result.andThen_ok,ei,Sem.run_pure,hk.check,h1];rw[<-h2];cases res with
 | none=>cases ok<;>simp[hz]
 | some p=>cases ok<;>simp
theorem EI (hg:c.g.Ok)(ho:o.op= .lookup t x y true)(hr:QT c.g.tys t=some r)(hd:r.d= .map ke e)(X2:QT c.g.tys e=some re)(hk:KeyQ c.g.P ke kv)
  (hx:S.ev x=some (.map (some q))) (hy:S.ev y=some (kv a)) (hm:MapQ kv w q m)
  (k:Xd c S o.dst (.v (.tuple #[(Xz a m).getD re.z,.bool (Xz a m).isSome])) (λS=>K S w)):X8 c o S w K Q:=by
 refine Jx (w':=w) (λb hf=>?_) k;have e1:=hf.ev hx;have e2:=hf.ev hy;have:=Om (w:=w) (a:=a) hg hr hd X2 hk hm true;simp only[execOp,ho,e1,e2];simp only[Sem.run_bind,this,Result.andThen_ok];simp
theorem Oo {α:Type} [DecidableEq α](a:α)(v:Value):∀(m:List (α×Value)),(Xz a m).isSome->(Ze a v m).length=m.length
 | [],h=>by simp[Xz] at h
 | (b,x)::m,h=>by
  simp only[Ze];split
  ·simp
  ·rename_i Yi;simp[Oo a v m (by simpa [Xz,Yi] using h)]
theorem r8 {v:Value}{z:Operand}(hg:c.g.Ok)(ho:o.op= .mapUpdate t x y z)(iD:o.dst=none)(hr:QT c.g.tys t=some r)(hd:r.d= .map ke e)(hk:KeyQ c.g.P ke kv)
  (hx:S.ev x=some (.map (some q))) (hy:S.ev y=some (kv a)) (hz:S.ev z=some v) (hm:MapQ kv w q m)
  (k:∀w1,Mod (·=q) w w1->w1.heap.size=w.heap.size->MapQ kv w1 q (Ze a v m)->K S w1):X8 c o S w K Q:=by
 have Q0:=(hg.row hr).1;rw[hd] at Q0;obtain⟨bs,ck,hl,hnd,LO,hb⟩:=hm.ex;have Xc:q<w.heap.size:=(fA.1 hb).1;obtain⟨res,h1,h2,h3,h4⟩:=hk.find a m bs w hl;have ei:(getObj q).run c.g.P w= .ok (.map (XV kv m bs).toArray ck) w:=by simp[getObj,Sem.run,hb]
 have fj:∀ob,(setObj q ob).run c.g.P w= .ok () {w with heap:=w.heap.setIfInBounds q ob}:=λob=>by simp[setObj,Sem.run,hb]
 have main:∃ob,(Instr.mapUpdate t (.map (some q)) (kv a) v).run c.g.P w= .ok () {w with heap:=w.heap.setIfInBounds q ob}/\∃W3 ck',W3.length=(Ze a v m).length/\W3.Nodup/\(∀b∈W3,b<ck')/\ob= .map (XV kv (Ze a v m) W3).toArray ck':=by
  cases res with
  | none=>
   refine⟨_,?_,bs++ [ck],ck+1,?_,?_,?_,rfl⟩
   ·simp only[Instr.mapUpdate,Sem.run_bind,ZU Q0,Result.andThen_ok,ei,hk.check,h1,fj];rw[h4 rfl v];congr 4;simp only[XV];rw[List.zip_append hl.symm,ep];simp
   ·rw[h4 rfl v];simp[hl]
   ·rw[MW];refine⟨hnd,by simp,λx hx y hy=>?_⟩;simp at hy;have:=LO x hx;omega
   ·intro b hb';simp only[XM,QN] at hb';rcases hb' with hb' | rfl
    ·have:=LO b hb';omega
    ·omega
  | some p=>
   obtain⟨j,u⟩:=p;obtain⟨h8,h9⟩:=h3 j u rfl v;have LN:(((XV kv m bs).toArray[j]?).map (·.key)).getD (kv a)=kv a:=by
    rw[show(XV kv m bs).toArray[j]? =(XV kv m bs)[j]? from by simp,h9]<;>rfl
   refine⟨_,?_,bs,ck,?_,hnd,LO,rfl⟩
   ·simp only[Instr.mapUpdate,Sem.run_bind,ZU Q0,Result.andThen_ok,ei,hk.check,h1,LN,Instr.keyThatStays,hk.bits,if_true,Sem.run_pure,fj];rw[h8];congr 4;simp
   ·rw[Oo a v m (by rw[<-h2];rfl),hl]
 obtain⟨ob,Ja,W3,ck',di,lQM,lQN,rfl⟩:=main;unfold X8;intro b hf;have e1:=hf.ev hx;have e2:=hf.ev hy;have e3:=hf.ev hz;unfold Oper.wp;have:(execOp b.eval o).run c.g.P w= .ok .skip {w with heap:=w.heap.setIfInBounds q (.map (XV kv (Ze a v m) W3).toArray ck')}:=by
  simp only[execOp,ho,e1,e2,e3];simp[Ja]
 rw[this];refine⟨S,by rw[iD];simpa [Act.put] using hf,k _ ⟨rfl,rfl,rfl,by simp,λi _ hi=>?_⟩ (by simp) ⟨W3,ck',di,lQM,lQN,?_⟩⟩
 ·simp only[DQ];rw[if_neg (λe=>hi e.symm)]
 ·simp[Xc]
structure RangeQ {α:Type} (kv:α->Value) (w:World) (r q:Nat) (m L:List (α×Value)) (ZD:Option (α×Value)):Prop where
 ex:∃bs ck seen since,bs.length=m.length/\bs.Nodup/\(∀b∈bs,b<since)/\since<=ck/\w.heap[q]? =some (.map (XV kv m bs).toArray ck)/\w.heap[r]? =some (.mapIter (some q) since seen ck)/\
  L=((m.zip bs).filter λp=> !seen.contains p.2).map (·.1)/\(∀p,ZD=some p->∃(b:Nat) (s:Array Nat),seen=s.push b/\(p,b)∈m.zip bs)
theorem RangeQ.mod {α:Type}{kv:α->Value}{S:Nat->Prop}{w w':World}{r q:Nat}{m L:List (α×Value)}{ZD:Option (α×Value)}(h:RangeQ kv w r q m L ZD)(k:Mod S w w')(hr:¬S r)(hq:¬S q):RangeQ kv w' r q m L ZD:=by
 obtain⟨bs,ck,seen,since,h1,h2,h3,h4,h5,h6,h7⟩:=h.ex;exact⟨bs,ck,seen,since,h1,h2,h3,h4,(k.block q (fA.1 h5).1 hq).trans h5,(k.block r (fA.1 h6).1 hr).trans h6,h7⟩
theorem RangeQ.ext {α:Type}{kv:α->Value}{w w':World}{r q:Nat}{m L:List (α×Value)}{ZD:Option (α×Value)}(h:RangeQ kv w r q m L ZD)(k:Ext w w'):RangeQ kv w' r q m L ZD:=
 h.mod (Mod.of_ext (λ_=>False) k) (λh=>h) (λh=>h)
end
section
variable {α:Type} {kv:α->Value} {c:Cx} {o:Oper} {S:Env} {w:World} {K:Env->World->Prop} {Q:Zg} {t ke e:Nat} {r:TyRow} {x:Operand} {q it:Nat} {m L:List (α×Value)} {ZD:Option (α×Value)}
end
end
section
section
theorem dQB {p:Nat->Bool}{l:List Nat}(h:l.all p=true):l.takeWhile p=l:=by
 induction l with
 | nil=>rfl
 | cons x l ih=>
  simp only[yS,Jl] at h;rw[WD,Qf h.1,ih h.2]
theorem EJ (b:Nat)(l:List Nat):Vn (b::l)=if isDig b then 0 else((b::l).takeWhile Za).length:=rfl
theorem Oq (l:List Nat):Vn l<=l.length:=by
 cases l with
 | nil=>exact QB _
 | cons b l=>
  rw[EJ];split
  ·exact Xr _
  ·exact(uJ _).length_le
theorem Ot (l:List Nat)(w:World)(hl:∀x∈l,x<256)(QY:l.length<=9223372036854775807):
  Fn Tryz.prog 191 [.string (Qd l)] w (λv w'=>v= .int .i64 (Vn l:Nat)/\Ext w w'):=by
 refine QF (c:={cQW with cuts:=[2]}) Qa Tryz.func191 rfl rfl rfl ?_;refine call (dQA l w hl) ?_;rintro v w1 ⟨rfl,Qe⟩;have hT:(l.takeWhile Za).length<=l.length:=(uJ _).length_le;refine fO [] Qa [3] (λn:Nat=>[.int .i64 n]) (λn w'=>w1=w'/\n=(l.takeWhile Za).length) ?_ ?_
 ·cases ha:l.all Za with
  | true=>
   rw[Qf rfl];refine Zh (by omega) ?_;exact⟨(Qd l).size,rfl,rfl,by rw[Xe,dQB ha]⟩
  | false=>
   rw[if_neg (by simp)];refine XD (by omega) ?_;exact⟨(l.takeWhile Za).length,rfl,rfl,rfl⟩
 rintro n _ ⟨rfl,hn⟩;cases l with
 | nil=>
  have:n=0:=by simpa using hn
  subst this;refine XD (by omega) ?_;exact⟨rfl,Qe⟩
 | cons b l=>
  have hb8:=hl b (by simp);have hS:(Qd (b::l)).size=l.length+1:=by rw[Xe]<;>rfl
  by_cases hd:isDig b=true
  ·have jE:Za b=true:=by unfold Za;rw[hd,Bool.or_true]
   have Di:48<=b/\b<=57:=by unfold isDig at hd;simpa using hd
   have js:0<n:=by rw[hn,WD,Qf jE];simp
   refine Zh (by omega) ?_;refine dE (s:=Qd (b::l)) (j:=0) (by rw[hS];omega) (λx hx G7=>?_);have Ji:x=b:=by rw[WJ hl] at hx;simpa using hx.symm
   subst Ji;refine Zh (by omega) ?_;refine dE (s:=Qd (x::l)) (j:=0) (by rw[hS];omega) (λy hy G8=>?_);have jF:y=x:=by rw[WJ hl] at hy;simpa using hy.symm
   subst jF;refine Zh (by omega) ?_;exact⟨by rw[EJ,Qf hd];rfl,Qe⟩
  ·have jE:Vn (b::l)=n:=by rw[EJ,if_neg hd,hn]
   rw[jE];by_cases js:0<n
   ·have Di:¬(48<=b/\b<=57):=λh=>hd (by unfold isDig;simpa using h)
    refine Zh (by omega) ?_;refine dE (s:=Qd (b::l)) (j:=0) (by rw[hS];omega) (λx hx G7=>?_);have Ji:x=b:=by rw[WJ hl] at hx;simpa using hx.symm
    subst Ji;refine Qz (λh1=>?_) (λh1=>?_)
    ·refine dE (s:=Qd (x::l)) (j:=0) (by rw[hS];omega) (λy hy G8=>?_);have jF:y=x:=by rw[WJ hl] at hy;simpa using hy.symm
     subst jF;refine XD (by omega) ?_;exact⟨rfl,Qe⟩
    ·exact⟨rfl,Qe⟩
   ·refine XD (by omega) ?_;exact⟨rfl,Qe⟩
def XB (l:List (List Nat)):List Value:=l.map λs=>.string (Qd s)
theorem j8 {l:List (List Nat)}{j:Nat}{s:List Nat}(h:l[j]? =some s):(XB l)[j]? =some (.string (Qd s)):=by simp[XB,h]
theorem aU (l:List (List Nat)):(XB l).length=l.length:=by simp[XB]
def Wn:List Nat:=[116,114,117,101]
def cC:List Nat:=[102,97,108,115,101]
def af (s:List Nat):Bool:=decide (s≠ []/\Vn s=s.length/\s≠Wn/\s≠cC)
def YG:List (List Nat)->Nat->List (ByteArray×Value)->List (ByteArray×Value)
 | [],_,m=>m
 | s::l,i,m=>YG l (i+1) (Ze (Qd s) (.int .i64 (i:Nat)) m)
theorem Ou:∀(l:List (List Nat))(s:List Nat)(i:Nat)(m:List (ByteArray×Value)),YG (l++ [s]) i m=Ze (Qd s) (.int .i64 ((i+l.length:Nat):Int)) (YG l i m)
 | [],s,i,m=>rfl
 | t::l,s,i,m=>by
  simp only[YF,YG];rw[Ou l s (i+1)];congr 3;simp only[Q6];omega
end
section
theorem dQC {α:Type}{kv:α->Value}{c:Cx}(hg:c.g.Ok){o:Oper}{S:Env}{w:World}{K:Env->World->Prop}{Q:Zg}{t q ke e:Nat}{x:Operand}{m:List (α×Value)}{r:TyRow}
  (ho:o.op= .call ⟨.builtin .len, #[x], #[t]⟩) (hr:QT c.g.tys t=some r) (hd:r.d= .map ke e) (hx:S.ev x=some (.map (some q))) (hm:MapAt kv w q m)
  (k:Xd c S o.dst (.v (.int .i64 m.length)) (λS=>K S w)):X8 c o S w K Q:=by
 have Q0:=(hg.row hr).1;rw[hd] at Q0;obtain⟨bs,ck,hl,hb⟩:=hm.ex;refine Jx (w':=w) (v:=.int .i64 m.length) (λa hf=>?_) k;have e1:=hf.ev hx;have ei:(getObj q).run c.g.P w= .ok (.map (XV kv m bs).toArray ck) w:=by simp[getObj,Sem.run,hb]
 have Zz:(XV kv m bs).length=m.length:=by simp[XV,hl]
 simp only[execOp,ho,resolve,invoke];simp[builtin,e1,Builtin.len_,ZU Q0,ei,goInt,Zz]
abbrev VX:ByteArray->Value:=λs=>.string s
def ZF (names:List (List Nat)):Bool:=decide (names.all af=true/\(YG names 0 []).length=names.length/\names.length<=64)
theorem dQD {names:List (List Nat)}{j:Nat}{s:List Nat}(h:(names.take j).all af=true)(hj:names[j]? =some s)(hs:af s=true):(names.take (j+1)).all af=true:=by
 rw[K9,hj];simp[List.all_append,h,hs]
theorem Ov {names:List (List Nat)}{j:Nat}{s:List Nat}(hj:names[j]? =some s)(hs:af s≠true):ZF names=false:=by
 unfold ZF;refine Zq (λh=>hs ?_);exact Ym.1 h.1 s (Xm hj)
theorem Ow {names:List (List Nat)}{j:Nat}{s:List Nat}(hj:names[j]? =some s):YG (names.take (j+1)) 0 []=Ze (Qd s) (.int .i64 (j:Nat)) (YG (names.take j) 0 []):=by
 have Xc:j<names.length:=(ZY.1 hj).1;rw[K9,hj];show YG (names.take j++ [s]) 0 []=_;rw[Ou,K8,jQ (by omega),Wh]
def Ku (names:List (List Nat)):Prop:=∀s∈names,(∀x∈s,x<256)/\s.length<=9223372036854775807
theorem EL (names:List (List Nat))(A:Option Addr)(n c:Nat)(w:World)(h:Sl w 1 A n c (XB names))(hb:Ku names):
  Fn Tryz.prog 132 [.slice A n c] w (λv w'=>∃v1,v= .tuple #[v1,.bool (ZF names)]/\Ext w w'/\(ZF names=true->∃r,v1= .map (some r)/\w.heap.size<=r/\MapAt VX w' r (YG names 0 []))):=by
 have hn:names.length=n:=by have:=h.len;rw[aU] at this;omega
 have G9:n<=9223372036854775807:=by have:=h.le;have:=h.cap;simp only[maxLen] at this;omega
 refine QF (c:={cQk with cuts:=[]}) Qa Tryz.func132 rfl rfl rfl ?_;refine vi Qa VX rfl ?_;intro w1 Qe Q4 Zt;refine loop Qa [10] (λs:Nat=>[.int .i64 s]) (λs w'=>Ext w w'/\s<=n/\(names.take s).all af=true/\MapAt VX w' w.heap.size (YG (names.take s) 0 [])) (λs _=>n-s) 0 rfl ⟨Qe,Xr _,rfl,Zt⟩ ?_;rintro s w3 ⟨Qj,aI,hall,XC⟩;refine Qz (λh3=>?_) (λh3=>?_)
 ·have rg:names[s]? =some names[s]:=Xp (by omega);generalize names[s]=t at rg;obtain⟨dV,Wc⟩:=hb t (Xm rg);refine KC (h.ext Qj) (by omega) (λad u hA hu Xq=>?_);rw[j8 rg] at hu;cases hu;refine load Xq ?_;have mQx:=Qj;have bad:af t≠true->∀w',Ext w w'->∃v1,(.tuple #[.map none,.bool false]:Value)= .tuple #[v1,.bool (ZF names)]/\Ext w w'/\(ZF names=true->∃r,v1= .map (some r)/\w.heap.size<=r/\MapAt VX w' r (YG names 0 [])):=λhb w' hE=>by
   refine⟨.map none,?_,hE,λh=>?_⟩
   ·rw[Ov rg hb]
   ·rw[Ov rg hb] at h;cases h
  have e0:((Qd t=(⟨#[]⟩:ByteArray))↔t=[]):=⟨λh=>J8 dV (by simp) h,λh=>by rw[h];rfl⟩
  have e1:((Qd t=(⟨#[116,114,117,101]⟩:ByteArray))↔t=Wn):=⟨λh=>J8 dV (by decide) h,λh=>by rw[h];rfl⟩
  have e2:((Qd t=(⟨#[102,97,108,115,101]⟩:ByteArray))↔t=cC):=⟨λh=>J8 dV (by decide) h,λh=>by rw[h];rfl⟩
  by_cases h4:t=[]
  ·refine Zh (e0.2 h4) ?_;exact bad (by unfold af;simp[h4]) _ Qj
  refine XD (λh=>h4 (e0.1 h)) ?_;refine call (Ot t w3 dV Wc) ?_;rintro v w4 ⟨rfl,Qs⟩;have Ua:((Qd t).size:Int)=(t.length:Nat):=by rw[Xe]
  by_cases h5:¬Vn t=t.length
  ·refine rV (λh=>h5 (by omega)) ?_;exact bad (by unfold af;simp[h5]) _ (Qj.trans Qs)
  replace h5:=Decidable.not_not.1 h5;refine ac (by omega) ?_;by_cases h6:t=Wn
  ·refine Zh (e1.2 h6) ?_;exact bad (by unfold af;simp[h6]) _ (Qj.trans Qs)
  refine XD (λh=>h6 (e1.1 h)) ?_;by_cases h7:t=cC
  ·refine Zh (e2.2 h7) ?_;exact bad (by unfold af;simp[h7]) _ (Qj.trans Qs)
  refine XD (λh=>h7 (e2.1 h)) ?_;have X0:af t=true:=by unfold af;simp[h4,h5,h6,h7]
  refine j7 (kv:=VX) (a:=Qd t) Qa rfl rfl rfl rfl rfl nQR rfl rfl rfl (XC.ext Qs) (λw5 JH _ XS=>?_);refine Qi ((s+1:Nat):Int) (by omega) (by omega) ?_;refine⟨s+1,rfl,⟨(Qj.trans Qs).own JH (QB _),by omega,dQD hall rg X0,by rw[Ow rg];exact XS⟩,by show n-(s+1)<n-s;omega⟩
 ·have:s=n:=by omega
  subst this;have ht:names.take s=names:=Jc (by omega);rw[ht] at hall XC;refine dQC (kv:=VX) Qa rfl rfl rfl rfl XC ?_;refine X3 (λh4=>?_) (λh4=>?_)
  ·refine⟨.map (some w.heap.size),?_,Qj,λ_=>⟨_,rfl,QB _,XC⟩⟩;have:decide ((names.length:Int)<=64)=ZF names:=by unfold ZF;exact uS.2 ⟨λh=>⟨hall,by omega,by omega⟩,λh=>by omega⟩
   rw[<-this,hn]
  ·refine⟨.map (some w.heap.size),?_,Qj,λ_=>⟨_,rfl,QB _,XC⟩⟩;have:ZF names=false:=by unfold ZF;exact Zq (λh=>by omega)
   rw[this]
end
end
section
section
theorem Xs {C:World->Prop}{p:Addr}{n:Nat}{vs:List Value}{K:List Value->Prop}(hl:vs.length=n)(h:∀w,C w->∀j v,vs[j]? =some v->w.cell? (p.add j)=some v)(k:K vs):rT C p n K:=by unfold rT;exact⟨vs,hl,h,k⟩
def l9 (f:List Fz):List Value:=f.flatMap Fz.cells
theorem Ox (f:List Fz)(x:Fz):l9 (f++ [x])=l9 f++x.cells:=by simp[l9]
structure Rd (w:World) (base r:Nat) (A:Option Addr) (c:Nat) (mp:Value) (p:Ps):Prop where
 blk:Blk w r 222 [mp,.string (Qd p.r),.slice A p.f.length c,.bool p.u]
 own:Own w base 280 4 A p.f.length c (l9 p.f)
 lt:r<base
 top:base<=w.heap.size
 b8:∀x∈p.r,x<256
 lim:p.f.length+p.r.length<=1000000000000
theorem Rd.ext {w w':World}{base r:Nat}{A:Option Addr}{c:Nat}{mp:Value}{p:Ps}(h:Rd w base r A c mp p)(k:Ext w w'):Rd w' base r A c mp p:=
 ⟨h.blk.ext k,h.own.ext k,h.lt,Zc h.top k.size,h.b8,h.lim⟩
def RdS (r:Nat)(A:Option Addr):Nat->Prop:=λk=>k=r∨Qk A k
def RdTo (w:World)(base r:Nat)(A:Option Addr)(mp:Value)(p:Ps)(w':World):Prop:=∃A' c',Rd w' base r A' c' mp p/\Mod (RdS r A) w w'/\Moved w A A'
theorem RdTo.step {w w1 w2:World}{base r:Nat}{A A1:Option Addr}{mp:Value}{p:Ps}(h:RdTo w1 base r A1 mp p w2)(hm:Mod (RdS r A) w w1)(hv:Moved w A A1):RdTo w base r A mp p w2:=by
 obtain⟨A2,c2,h2,XQ,Kb⟩:=h;refine⟨A2,c2,h2,hm.trans XQ (λi hi=>?_),hv.trans Kb hm.size⟩;rcases hi with rfl | hi
 ·exact .inl (.inl rfl)
 ·rcases hv.rows i hi with h | h
  ·exact .inl (.inr h)
  ·exact .inr h
theorem Rd.nrow {w:World}{base r:Nat}{A:Option Addr}{c:Nat}{mp:Value}{p:Ps}(h:Rd w base r A c mp p):¬Qk A r:=λhr=>by
 have:=(h.own.rows r hr).1;have:=h.lt;omega
theorem r9 (l:List Nat):(ZE l).length<=l.length:=(List.dropWhile_suffix _).sublist.length_le
theorem dQE {l:List Nat}(h:∀x∈l,x<256):∀x∈ZE l,x<256:=λx hx=>h x ((List.dropWhile_suffix _).subset hx)
theorem vm (sym:List Nat)(p:Ps):Kh sym p=(sym.isPrefixOf (ZE p.r),{p with r:=if sym.isPrefixOf (ZE p.r)then(ZE p.r).drop sym.length else ZE p.r}):=by
 unfold Kh;cases sym.isPrefixOf (ZE p.r)<;>rfl
theorem sf (base r:Nat)(A:Option Addr)(c:Nat)(mp:Value)(p:Ps)(sym:List Nat)(w:World)(h:Rd w base r A c mp p)(hs:∀x∈sym,x<256):
  Fn Tryz.prog 142 [.pointer (some ⟨r,0,none⟩),.string (Qd sym)] w (λv w'=>v= .bool (Kh sym p).1/\Rd w' base r A c mp (Kh sym p).2/\Mod (·=r) w w'):=by
 have hl:=h.lim;have Wc:=r9 p.r;have dV:=dQE h.b8;refine QF (c:=cQt) Qa Tryz.func142 rfl rfl rfl ?_;refine Qo h.blk rfl ?_;refine call (dQv p.r w h.b8 (by omega)) ?_;rintro v w1 ⟨rfl,Qe⟩;refine XP (h.blk.ext Qe) (by simp) (λw2 XQ Qx=>?_);refine Qo Qx rfl ?_;refine call (dQq (ZE p.r) sym w2 dV hs) ?_;rintro v w3 ⟨rfl,rfl⟩;have hM:∀w3,Mod (·=r) w2 w3->Mod (·=r) w w3:=λw3 XC=>((Mod.of_ext (·=r) Qe).trans XQ (λi hi=>.inl hi)).trans XC (λi hi=>.inl hi)
 rw[vm];unfold vl;cases hp:sym.isPrefixOf (ZE p.r)with
 | true=>
  refine XP Qx (by simp) (λw3 XC Qu=>?_);have ZI:=hM w3 XC;have QY:((ZE p.r).drop sym.length).length<=p.r.length:=by rw[Wj];omega
  exact⟨rfl,⟨Qu,h.own.mod ZI (λi hi e=>by subst e;exact h.nrow hi),h.lt,Zc h.top ZI.size,λx hx=>dV x (aM hx),by show p.f.length+((ZE p.r).drop sym.length).length<=_;omega⟩,ZI⟩
 | false=>
  refine XP Qx (by simp) (λw3 XC Qu=>?_);have ZI:=hM w3 XC;exact⟨rfl,⟨Qu,h.own.mod ZI (λi hi e=>by subst e;exact h.nrow hi),h.lt,Zc h.top ZI.size,dV,by show p.f.length+(ZE p.r).length<=_;omega⟩,ZI⟩
theorem pC (base r:Nat)(A:Option Addr)(c:Nat)(mp:Value)(p:Ps)(x:Fz)(w:World)(h:Rd w base r A c mp p)(hl:p.f.length+p.r.length+1<=1000000000000):
  Fn Tryz.prog 226 [.pointer (some ⟨r,0,none⟩),.agg x.cells.toArray] w (λv w'=>v= .int .i64 (p.f.length:Nat)/\RdTo w base r A mp (VW x p).2 w'):=by
 refine QF (c:=dQi) Qa Tryz.func226 rfl rfl rfl ?_;refine new (λw1 Qe Q4 Qh=>?_);have h1:=h.ext Qe;have VQ:=h.own.rows;have hC0:Mod (Qk A) w1 w1.drew:=Mod.of_ext _ (Ext.drew w1);refine XK Qa (Mod (Qk A) w1) 8 [(true,0),(true,1),(true,2),(true,3),(true,4),(true,5),(false,6),(false,7)] (by kernel_rfl) hC0 ?_;refine QK (v:=.slice A p.f.length c) (λw' Qb=>by rw[(h1.blk.mod Qb h.nrow).cell];rfl) ?_;have Ha:¬Qk A w.heap.size:=λhr=>by have:=(VQ _ hr).2;omega
 refine Xs (vs:=x.cells) rfl (λw' Qb j v hj=>by rw[(Qh.mod Qb Ha).cell];exact hj) ?_;refine Xh Qa [x.cells] rfl rfl rfl rfl rfl ⟨rfl,rfl,⟨⟩⟩ rfl (λcs h=>by simp only[QN] at h;subst h;rfl) rfl (by decide) (by decide) ?_;intro w2 Qg Zb Qx;have Xv:=(Ext.drew w1).trans Qg;have h2:=h1.ext Xv;refine⟨Mod.of_ext _ Xv,?_⟩;have kS:Sl w2 4 (some ⟨w1.drew.heap.size,0,none⟩) 1 1 x.cells:=Sl.own (sz:=4) (n:=1) Qx (QB _) (by decide) (by simp[Fz.cells]);refine Z4 Qa rfl rfl rfl rfl rfl (by decide) rfl rfl ⟨_,rfl⟩ rfl rfl h2.own kS (by intro u hu;simp[Fz.cells] at hu;rcases hu with rfl | rfl | rfl | rfl<;>rfl) (by unfold maxLen;omega) (by show _*32<=_;omega) h2.top ?_;intro A' c' w3 XC mX Bg;have Kj:Mod (Qk A) w1 w3:=(Mod.of_ext (Qk A) Xv).trans XC (λi hi=>.inl hi);refine⟨Kj,?_⟩;have Qu:=h1.blk.mod Kj h.nrow;refine XP Qu (by simp) (λw4 X5 Q7=>?_);refine Qo Q7 rfl ?_;have hz:=Xv.size;have Hd:∀k,Qk A' k->base<=k:=λk hk=>(mX.rows k hk).1
 have KH:Mod (RdS r A) w w4:=((Mod.of_ext (RdS r A) Qe).trans Kj (λi hi=>.inl (.inr hi))).trans X5 (λi hi=>.inl (.inl hi));refine Qi ((p.f.length:Nat):Int) (by omega) (by omega) ?_;refine⟨rfl,A',c',⟨?_,?_,h.lt,Zc h.top KH.size,h.b8,?_⟩,KH,Bg.back (Zc Qe.size hz)⟩
 ·have e:(VW x p).2.f.length=p.f.length+1:=by simp[VW]
  rw[e];exact Q7
 ·have e:(VW x p).2.f.length=p.f.length+1:=by simp[VW]
  rw[e,show l9 (VW x p).2.f=l9 p.f++x.cells from Ox _ _];exact mX.mod X5 (λk hk e=>by have:=Hd k hk;have:=h.lt;omega)
 ·have e:(VW x p).2.f.length=p.f.length+1:=by simp[VW]
  rw[e];show p.f.length+1+p.r.length<=_;omega
end
section
theorem pD {c:Cx}{o:Oper}{S:Env}{w:World}{K:Env->World->Prop}{Q:Zg}{t:Nat}{v:Value}{x:Operand}(ho:o.op= .panic x)(hx:S.ev x=some (.iface t v))
  (k:Q (.panic [{v:=.iface t v,recovered:=false}]) S w):X8 c o S w K Q:=by
 unfold X8;intro a hf;have e1:=hf.ev hx;unfold Oper.wp;have:(execOp a.eval o).run c.g.P w= .halt (.panic (.iface t v)) w:=by
  simp only[execOp,ho,e1];simp[Instr.panic,goPanic]
 rw[this];exact⟨S,hf,k⟩
def dQF:List PanicEntry:=[{v:=.iface 34 (.int .i64 31),recovered:=false}]
def PanTo (w:World)(r:Nat)(A:Option Addr)(ch:List PanicEntry)(w':World):Prop:=ch=dQF/\Mod (RdS r A) w w'
theorem RdS.trans {w w1 w2:World}{r:Nat}{A A1:Option Addr}(hm:Mod (RdS r A) w w1)(hv:Moved w A A1)(h:Mod (RdS r A1) w1 w2):Mod (RdS r A) w w2:=
 hm.trans h (λi hi=>by
  rcases hi with rfl | hi
  ·exact .inl (.inl rfl)
  ·rcases hv.rows i hi with h | h
   ·exact .inl (.inr h)
   ·exact .inr h)
theorem PanTo.step {w w1 w2:World}{r:Nat}{A A1:Option Addr}{ch:List PanicEntry}(h:PanTo w1 r A1 ch w2)(hm:Mod (RdS r A) w w1)(hv:Moved w A A1):PanTo w r A ch w2:=⟨h.1,RdS.trans hm hv h.2⟩
def sh (opd:Ps->Option (Nat×Ps)):Prop:=∀p a p',opd p=some (a,p')->p'.f.length+p'.r.length<=p.f.length+p.r.length/\p'.r.length<p.r.length
theorem me (sym:List Nat)(p p1:Ps)(b:Bool)(h:Kh sym p=(b,p1)):p1.f=p.f/\p1.u=p.u/\p1.r.length<=p.r.length/\(b=true->p1.r.length+sym.length<=p.r.length):=by
 rw[vm] at h;have ht:=r9 p.r;cases h;refine⟨rfl,rfl,?_,λhb=>?_⟩
 ·show List.length (if _ then _ else _)<=_;split
  ·rw[Wj];omega
  ·exact ht
 ·show List.length (if _ then _ else _)+_<=_;rw[Qf hb,Wj];have:=(aQ6.1 hb).length_le;omega
theorem Oy {sym:List Nat}{op:Int}{opd:Ps->Option (Nat×Ps)}(hs:0<sym.length)(hl:sh opd):∀(m a:Nat)(p:Ps)(b:Nat)(p':Ps),fS sym op opd m a p=some (b,p')->p'.f.length+p'.r.length<=p.f.length+p.r.length/\p'.r.length<=p.r.length
 | 0,a,p,b,p',h=>by cases h
 | m+1,a,p,b,p',h=>by
  unfold fS at h;cases hk:Kh sym p with
  | mk t p1=>
   obtain⟨h1,h2,h3,h4⟩:=me sym p p1 t hk;rw[hk] at h;cases t with
   | false=>cases h;rw[h1];omega
   | true=>
    simp only at h;cases ho:opd p1 with
    | none=>rw[ho] at h;cases h
    | some q=>
     obtain⟨d,p2⟩:=q;rw[ho] at h;simp only at h;obtain⟨h5,h6⟩:=hl p1 d p2 ho;have:=Oy hs hl m _ _ b p' h;simp only[Qq,Q6,Jn] at this;have:=h4 rfl;rw[h1] at h5;omega
theorem EM {sym:List Nat}{op:Int}{opd:Ps->Option (Nat×Ps)}(hs:0<sym.length)(hl:sh opd):sh (Vo sym op opd):=by
 intro p b p' h;unfold Vo at h;cases ho:opd p with
 | none=>rw[ho] at h;cases h
 | some q=>
  obtain⟨a,p1⟩:=q;rw[ho] at h;simp only at h;have h1:=hl p a p1 ho;have h2:=Oy hs hl _ _ _ b p' h;omega
structure OpdC (L base r:Nat) (mp:Value) (fid:Nat) (args:List Value) (G:World->Option Addr->Prop) (opd:Ps->Option (Nat×Ps)):Prop where
 run:∀w A c p,Rd w base r A c mp p->G w A->p.r.length<L->FnP Tryz.prog fid args w (λv w'=>∃(a:Nat) (p':Ps),opd p=some (a,p')/\v= .int .i64 (a:Nat)/\RdTo w base r A mp p' w') (λch w'=>opd p=none/\PanTo w r A ch w')
 stay:∀w w' A A',G w A->Mod (RdS r A) w w'->Moved w A A'->G w' A'
 lim:sh opd
structure Est where
 a:Nat
 p:Ps
 A:Option Addr
 c:Nat
theorem dQG (L base r:Nat)(A:Option Addr)(c:Nat)(mp:Value)(p:Ps)(sym:List Nat)(op:Int)(G:World->Option Addr->Prop)(opd:Ps->Option (Nat×Ps))(w:World)
  (h:Rd w base r A c mp p) (hG:G w A) (hs:∀x∈sym,x<256) (Bh:0<sym.length) (hL:p.r.length<L) (H:OpdC L base r mp 198 [.pointer (some ⟨r,0,none⟩)] G opd):
  FnP Tryz.prog 196 [.pointer (some ⟨r,0,none⟩),.string (Qd sym),.int .i64 op,.func (.func 198) #[.pointer (some ⟨r,0,none⟩)] #[]] w
   (λv w'=>∃(a:Nat) (p':Ps),Vo sym op opd p=some (a,p')/\v= .int .i64 (a:Nat)/\RdTo w base r A mp p' w') (λch w'=>Vo sym op opd p=none/\PanTo w r A ch w'):=by
 refine aR (c:={N5 with cuts:=[]}) Qa Tryz.func196 rfl rfl rfl ?_;refine XO (H.run w A c p h hG hL) ?_ ?_
 rotate_left
 ·rintro ch w1 ⟨ho,hp⟩;refine⟨?_,hp⟩;unfold Vo;rw[ho]
 rintro v w1 ⟨a,p1,ho,rfl,A1,c1,h1,Zt,kU⟩;obtain⟨XE,JZ⟩:=H.lim p a p1 ho;have Jj:Vo sym op opd p=fS sym op opd (p1.r.length+1) a p1:=by unfold Vo;rw[ho]
 refine loop Qa [9] (λs:Est=>[.int .i64 s.a]) (λs w'=>Rd w' base r s.A s.c mp s.p/\G w' s.A/\s.p.r.length<L/\Mod (RdS r A) w w'/\Moved w A s.A/\∃m,s.p.r.length<m/\fS sym op opd m s.a s.p=Vo sym op opd p) (λs _=>s.p.r.length) ⟨a,p1,A1,c1⟩ rfl ⟨h1,H.stay w w1 A A1 hG Zt kU,by show p1.r.length<L;omega,Zt,kU,_,er _,Jj.symm⟩ ?_;rintro⟨d,q,A2,c2⟩ w2 ⟨h2,mY,He,XQ,Kb,m,LP,ZI⟩;simp only at h2 mY He XQ Kb LP ZI;refine call (sf base r A2 c2 mp q sym w2 h2 hs) ?_;rintro v w3 ⟨rfl,h3,XC⟩;cases m with
 | zero=>omega
 | succ m=>
 unfold fS at ZI;have wz:Mod (RdS r A2) w2 w3:=XC.mono (λi hi=>.inl (.inl hi));have dW:=RdS.trans XQ Kb wz;cases hk:Kh sym q with
 | mk t q1=>
  obtain⟨k1,k2,k3,k4⟩:=me sym q q1 t hk;rw[hk] at h3 ZI;simp only at h3;cases t with
  | false=>
   refine Q3 rfl ?_;exact⟨d,q1,ZI.symm,rfl,A2,c2,h3,dW,Kb⟩
  | true=>
   refine Q8 rfl ?_;simp only at ZI;have k5:=k4 rfl;have p9:=H.stay w2 w3 A2 A2 mY wz (Moved.refl _ _);refine XO (H.run w3 A2 c2 q1 h3 p9 (by omega)) ?_ ?_
   rotate_left
   ·rintro ch w4 ⟨gf,hp⟩;rw[gf] at ZI;exact⟨ZI.symm,hp.step dW Kb⟩
   rintro v w4 ⟨b,q2,gf,rfl,A4,c4,h4,X5,mZ⟩;obtain⟨l1,l2⟩:=H.lim q1 b q2 gf;rw[gf] at ZI;simp only at ZI;have hlq:=h2.lim;rw[k1] at l1;have wA:=H.stay w3 w4 A2 A4 p9 X5 mZ;have bg:=RdS.trans dW Kb X5;have wB:=Kb.trans mZ dW.size;refine call (pC base r A4 c4 mp q2 ⟨op,0,d,b⟩ w4 h4 (by omega)) ?_;rintro v w5 ⟨rfl,A5,c5,h5,XS,Yc⟩;refine⟨⟨q2.f.length,(VW ⟨op,0,d,b⟩ q2).2,A5,c5⟩,rfl,⟨h5,H.stay w4 w5 A4 A5 wA XS Yc,?_,RdS.trans bg wB XS,wB.trans Yc bg.size,m,?_,ZI⟩,?_⟩
   ·show q2.r.length<L;omega
   ·show q2.r.length<m;omega
   ·show q2.r.length<q.r.length;omega
theorem dQH (L base r:Nat)(A:Option Addr)(c:Nat)(mp:Value)(p:Ps)(sym:List Nat)(op:Int)(x:Nat)(G:World->Option Addr->Prop)(opd:Ps->Option (Nat×Ps))(w:World)
  (h:Rd w base r A c mp p) (hG:G w A) (hs:∀x∈sym,x<256) (Bh:0<sym.length) (hL:p.r.length<L) (H:OpdC L base r mp 197 [.pointer (some ⟨x,0,none⟩)] G opd):
  FnP Tryz.prog 196 [.pointer (some ⟨r,0,none⟩),.string (Qd sym),.int .i64 op,.func (.func 197) #[] #[.pointer (some ⟨x,0,none⟩)]] w
   (λv w'=>∃(a:Nat) (p':Ps),Vo sym op opd p=some (a,p')/\v= .int .i64 (a:Nat)/\RdTo w base r A mp p' w') (λch w'=>Vo sym op opd p=none/\PanTo w r A ch w'):=by
 refine aR (c:={N5 with cuts:=[]}) Qa Tryz.func196 rfl rfl rfl ?_;refine XO (H.run w A c p h hG hL) ?_ ?_
 rotate_left
 ·rintro ch w1 ⟨ho,hp⟩;refine⟨?_,hp⟩;unfold Vo;rw[ho]
 rintro v w1 ⟨a,p1,ho,rfl,A1,c1,h1,Zt,kU⟩;obtain⟨XE,JZ⟩:=H.lim p a p1 ho;have Jj:Vo sym op opd p=fS sym op opd (p1.r.length+1) a p1:=by unfold Vo;rw[ho]
 refine loop Qa [9] (λs:Est=>[.int .i64 s.a]) (λs w'=>Rd w' base r s.A s.c mp s.p/\G w' s.A/\s.p.r.length<L/\Mod (RdS r A) w w'/\Moved w A s.A/\∃m,s.p.r.length<m/\fS sym op opd m s.a s.p=Vo sym op opd p) (λs _=>s.p.r.length) ⟨a,p1,A1,c1⟩ rfl ⟨h1,H.stay w w1 A A1 hG Zt kU,by show p1.r.length<L;omega,Zt,kU,_,er _,Jj.symm⟩ ?_;rintro⟨d,q,A2,c2⟩ w2 ⟨h2,mY,He,XQ,Kb,m,LP,ZI⟩;simp only at h2 mY He XQ Kb LP ZI;refine call (sf base r A2 c2 mp q sym w2 h2 hs) ?_;rintro v w3 ⟨rfl,h3,XC⟩;cases m with
 | zero=>omega
 | succ m=>
 unfold fS at ZI;have wz:Mod (RdS r A2) w2 w3:=XC.mono (λi hi=>.inl (.inl hi));have dW:=RdS.trans XQ Kb wz;cases hk:Kh sym q with
 | mk t q1=>
  obtain⟨k1,k2,k3,k4⟩:=me sym q q1 t hk;rw[hk] at h3 ZI;simp only at h3;cases t with
  | false=>
   refine Q3 rfl ?_;exact⟨d,q1,ZI.symm,rfl,A2,c2,h3,dW,Kb⟩
  | true=>
   refine Q8 rfl ?_;simp only at ZI;have k5:=k4 rfl;have p9:=H.stay w2 w3 A2 A2 mY wz (Moved.refl _ _);refine XO (H.run w3 A2 c2 q1 h3 p9 (by omega)) ?_ ?_
   rotate_left
   ·rintro ch w4 ⟨gf,hp⟩;rw[gf] at ZI;exact⟨ZI.symm,hp.step dW Kb⟩
   rintro v w4 ⟨b,q2,gf,rfl,A4,c4,h4,X5,mZ⟩;obtain⟨l1,l2⟩:=H.lim q1 b q2 gf;rw[gf] at ZI;simp only at ZI;have hlq:=h2.lim;rw[k1] at l1;have wA:=H.stay w3 w4 A2 A4 p9 X5 mZ;have bg:=RdS.trans dW Kb X5;have wB:=Kb.trans mZ dW.size;refine call (pC base r A4 c4 mp q2 ⟨op,0,d,b⟩ w4 h4 (by omega)) ?_;rintro v w5 ⟨rfl,A5,c5,h5,XS,Yc⟩;refine⟨⟨q2.f.length,(VW ⟨op,0,d,b⟩ q2).2,A5,c5⟩,rfl,⟨h5,H.stay w4 w5 A4 A5 wA XS Yc,?_,RdS.trans bg wB XS,wB.trans Yc bg.size,m,?_,ZI⟩,?_⟩
   ·show q2.r.length<L;omega
   ·show q2.r.length<m;omega
   ·show q2.r.length<q.r.length;omega
end
section
theorem XH {p:Prop}{v v':Value}{K:Value->Prop}(hp:p)(h:v=v')(k:K v'):iR p v K:=by unfold iR;exact⟨hp,by rw[h];exact k⟩
theorem MapAt.mod {α:Type}{kv:α->Value}{S:Nat->Prop}{w w':World}{r:Nat}{m:List (α×Value)}(h:MapAt kv w r m)(k:Mod S w w')(hn:¬S r):MapAt kv w' r m:=by
 obtain⟨bs,ck,hl,hb⟩:=h.ex;exact⟨bs,ck,hl,(k.block r (fA.1 hb).1 hn).trans hb⟩
theorem vn {α:Type} [DecidableEq α]{kv:α->Value}{c:Cx}{o:Oper}{S:Env}{w:World}{K:Env->World->Prop}{Q:Zg}{t ke e:Nat}{r rk re:TyRow}{x y:Operand}{q:Nat}{m:List (α×Value)}{a:α}{v:Value}{b:Bool}(hg:c.g.Ok)
  (ho:o.op= .lookup t x y true) (hr:QT c.g.tys t=some r) (hd:r.d= .map ke e) (bw:QT c.g.tys ke=some rk) (X2:QT c.g.tys e=some re) (hk:KeyV rk.d kv)
  (hx:S.ev x=some (.map (some q))) (hy:S.ev y=some (kv a)) (hm:MapAt kv w q m) (hv:(Xz a m).getD re.z=v) (hb:(Xz a m).isSome=b) (k:Xd c S o.dst (.v (.tuple #[v,.bool b])) (λS=>K S w)):X8 c o S w K Q:=by
 subst hv;subst hb;exact bQV hg ho hr hd bw X2 hk hx hy hm k
section
variable (ix:List Nat->Option Nat) (n:Nat)
theorem EN {p p1:Ps}(h:Kh [33] p=(true,p1)):cB ix (n+1) p=match cB ix n p1 with
  | none=>none
  | some (a,p2)=>some (VW ⟨3,0,a,0⟩ p2):=by rw[cB,h]<;>rfl
theorem EO {p p1 p2:Ps}(h:Kh [33] p=(false,p1))(h2:Kh [40] p1=(true,p2)):cB ix (n+1) p=match gH ix n p2 with
  | none=>none
  | some (a,p3)=>match Kh [41] p3 with
   | (true,p4)=>some (a,p4)
   | (false,_)=>none:=by rw[cB,h];simp only;rw[h2]<;>rfl
theorem EQ {p p1 p2:Ps}(h:Kh [33] p=(false,p1))(h2:Kh [40] p1=(false,p2)):cB ix (n+1) p=if Vn p2.r=0 then none else
   if p2.r.take (Vn p2.r)=Wn then some (VW ⟨1,0,0,0⟩ {p2 with r:=p2.r.drop (Vn p2.r)})else if p2.r.take (Vn p2.r)=cC then some (VW ⟨0,0,0,0⟩ {p2 with r:=p2.r.drop (Vn p2.r)})else
    some (VW ⟨2,((ix (p2.r.take (Vn p2.r))).getD 0:Nat),0,0⟩ {p2 with r:=p2.r.drop (Vn p2.r),u:=p2.u||(ix (p2.r.take (Vn p2.r))).isNone}):=by
 rw[cB,h];simp only;rw[h2]<;>rfl
end
theorem ER (ix:List Nat->Option Nat):∀n,sh (cB ix n)
 | 0=>λp a p' h=>by cases h
 | n+1=>λp a p' h=>by
  have ih:=ER ix n;cases hk:Kh [33] p with
  | mk t p1=>
   obtain⟨k1,_,k3,k4⟩:=me _ p p1 t hk;cases t with
   | true=>
    rw[EN ix n hk] at h;cases ho:cB ix n p1 with
    | none=>rw[ho] at h;cases h
    | some q=>
     obtain⟨d,p2⟩:=q;rw[ho] at h;cases h;have:=ih p1 d p2 ho;have:=k4 rfl;rw[k1] at*;simp only[Qq,Q6,Jn] at*;omega
   | false=>
    cases VM:Kh [40] p1 with
    | mk t2 p2=>
     obtain⟨j1,_,j3,j4⟩:=me _ p1 p2 t2 VM;cases t2 with
     | true=>
      rw[EO ix n hk VM] at h;cases ho:gH ix n p2 with
      | none=>rw[ho] at h;cases h
      | some q=>
       obtain⟨d,p3⟩:=q;rw[ho] at h;simp only at h;have hw:sh (gH ix n):=EM (by decide) (EM (by decide) ih);have:=hw p2 d p3 ho;cases jr:Kh [41] p3 with
       | mk t3 p4=>
        obtain⟨i1,_,i3,i4⟩:=me _ p3 p4 t3 jr;rw[jr] at h;cases t3 with
        | false=>cases h
        | true=>
         cases h;have:=j4 rfl;have:=i4 rfl;rw[i1];rw[j1,k1] at*;omega
     | false=>
      rw[EQ ix n hk VM] at h;split at h
      ·cases h
      rename_i hn;have Zz:=Oq p2.r;have key:(p2.r.drop (Vn p2.r)).length+1<=p2.r.length:=by rw[Wj];omega
      rw[j1,k1] at*;split at h
      ·cases h;simp only[Qq,Q6,Jn];rw[j1,k1];omega
      split at h
      ·cases h;simp only[Qq,Q6,Jn];rw[j1,k1];omega
      ·cases h;simp only[Qq,Q6,Jn];rw[j1,k1];omega
def GM (r q:Nat)(m:List (ByteArray×Value))(w:World)(A:Option Addr):Prop:=MapAt VX w q m/\q≠r/\¬Qk A q
theorem GM.stay {r q:Nat}{m:List (ByteArray×Value)}{w w':World}{A A':Option Addr}(h:GM r q m w A)(hm:Mod (RdS r A) w w')(hv:Moved w A A'):GM r q m w' A':=
 ⟨h.1.mod hm (λe=>e.elim h.2.1 h.2.2),h.2.1,λhr=>(hv.rows q hr).elim h.2.2 (λZz=>by have:=h.1.lt;omega)⟩
def GB (r q x:Nat)(m:List (ByteArray×Value))(w:World)(A:Option Addr):Prop:=GM r q m w A/\Blk w x 220 [.pointer (some ⟨r,0,none⟩)]/\x≠r/\¬Qk A x
theorem GB.stay {r q x:Nat}{m:List (ByteArray×Value)}{w w':World}{A A':Option Addr}(h:GB r q x m w A)(hm:Mod (RdS r A) w w')(hv:Moved w A A'):GB r q x m w' A':=
 ⟨h.1.stay hm hv,h.2.1.mod hm (λe=>e.elim h.2.2.1 h.2.2.2),h.2.2.1,λhr=>(hv.rows x hr).elim h.2.2.2 (λZz=>by have:=h.2.1.lt;omega)⟩
theorem dQI {L base r q x:Nat}{m:List (ByteArray×Value)}{mp:Value}{opd:Ps->Option (Nat×Ps)}(H:OpdC L base r mp 198 [.pointer (some ⟨r,0,none⟩)] (GM r q m) opd):
  OpdC L base r mp 197 [.pointer (some ⟨x,0,none⟩)] (GB r q x m) (Vo [38,38] 4 opd):=by
 refine⟨λw A c p h hG hL=>?_,λw w' A A' h hm hv=>h.stay hm hv,EM (by decide) H.lim⟩;refine aR (c:={cQ1 with cuts:=[]}) Qa Tryz.func197 rfl rfl rfl ?_;refine QD hG.2.1 rfl ?_;refine QD hG.2.1 rfl ?_;refine XO (dQG L base r A c mp p [38,38] 4 (GM r q m) opd w h hG.1 (by decide) (by decide) hL H) ?_ ?_
 ·rintro v w1 ⟨a,p',h1,rfl,h2⟩;exact⟨a,p',h1,rfl,h2⟩
 ·rintro ch w1 h1;exact h1
theorem Oz (L base r:Nat)(A:Option Addr)(c:Nat)(p:Ps)(q:Nat)(m:List (ByteArray×Value))(mp:Value)(opd:Ps->Option (Nat×Ps))(w:World)(h:Rd w base r A c mp p)(hG:GM r q m w A)(hL:p.r.length<L)
  (H:OpdC L base r mp 198 [.pointer (some ⟨r,0,none⟩)] (GM r q m) opd):
  FnP Tryz.prog 141 [.pointer (some ⟨r,0,none⟩)] w (λv w'=>∃(a:Nat) (p':Ps),Vo [124,124] 5 (Vo [38,38] 4 opd) p=some (a,p')/\v= .int .i64 (a:Nat)/\RdTo w base r A mp p' w') (λch w'=>Vo [124,124] 5 (Vo [38,38] 4 opd) p=none/\PanTo w r A ch w'):=by
 refine aR (c:={cQs with cuts:=[]}) Qa Tryz.func141 rfl rfl rfl ?_;refine new (λw1 Qe Q4 Qh=>?_);refine QD Qh rfl ?_;have Xc:=h.lt;have lD:=h.top;have eL:Mod (RdS r A) w w1:=Mod.of_ext _ Qe;have hn:¬Qk A w.heap.size:=λhr=>by have:=(h.own.rows _ hr).2;omega
 refine XO (dQH L base r A c mp p [124,124] 5 w.heap.size (GB r q w.heap.size m) (Vo [38,38] 4 opd) w1 (h.ext Qe) ⟨hG.stay eL (Moved.refl _ _),Qh,by omega,hn⟩ (by decide) (by decide) hL (dQI H)) ?_ ?_
 ·rintro v w2 ⟨a,p',h1,rfl,h2⟩;exact⟨a,p',h1,rfl,h2.step eL (Moved.refl _ _)⟩
 ·rintro ch w2 ⟨h1,h2⟩;exact⟨h1,h2.step eL (Moved.refl _ _)⟩
end
section
def OB (ix:List Nat->Option Nat)(m:List (ByteArray×Value)):Prop:=∀l:List Nat,(∀x∈l,x<256)->Xz (Qd l) m=(ix l).map (λv:Nat=>Value.int .i64 v)
theorem OC (ix:List Nat->Option Nat)(base r q:Nat)(m:List (ByteArray×Value))(Kr:OB ix m):∀n,OpdC n base r (.map (some q)) 198 [.pointer (some ⟨r,0,none⟩)] (GM r q m) (cB ix n)
 | 0=>⟨λw A c p _ _ h=>Xn h (by omega),λw w' A A' h hm hv=>h.stay hm hv,ER ix 0⟩
 | n+1=>by
  have ih:=OC ix base r q m Kr n;refine⟨λw A c p h hG hL=>?_,λw w' A A' h hm hv=>h.stay hm hv,ER ix (n+1)⟩;refine aR (c:={cQ2 with cuts:=[]}) Qa Tryz.func198 rfl rfl rfl ?_;refine call (sf base r A c _ p [33] w h (by decide)) ?_;rintro v w1 ⟨rfl,h1,Zt⟩;have tz:Mod (RdS r A) w w1:=Zt.mono (λi hi=>.inl (.inl hi));have Ub:=hG.stay tz (Moved.refl _ _);cases hk:Kh [33] p with
  | mk t p1=>
   obtain⟨k1,_,k3,k4⟩:=me _ p p1 t hk;rw[hk] at h1;simp only at h1;cases t with
   | true=>
    refine Q8 rfl ?_;have hl:=k4 rfl;simp only[Q6,Jn] at hl;have Yj:=EN ix n hk;refine XO (ih.run w1 A c p1 h1 Ub (by omega)) ?_ ?_
    rotate_left
    ·rintro ch w2 ⟨ho,hp⟩;rw[ho] at Yj;exact⟨Yj,hp.step tz (Moved.refl _ _)⟩
    rintro v w2 ⟨a,p2,ho,rfl,A2,c2,h2,XQ,Kb⟩;rw[ho] at Yj;have JZ:=(ih.lim p1 a p2 ho).1;have kV:=h.lim;rw[k1] at JZ;refine call (pC base r A2 c2 _ p2 ⟨3,0,a,0⟩ w2 h2 (by omega)) ?_;rintro v w3 ⟨rfl,h3⟩;exact⟨p2.f.length,_,Yj,rfl,(h3.step XQ Kb).step tz (Moved.refl _ _)⟩
   | false=>
    refine Q3 rfl ?_;refine call (sf base r A c _ p1 [40] w1 h1 (by decide)) ?_;rintro v w2 ⟨rfl,h2,XQ⟩;have Uc:Mod (RdS r A) w1 w2:=XQ.mono (λi hi=>.inl (.inl hi));have Bi:=RdS.trans tz (Moved.refl _ _) Uc;have mY:=Ub.stay Uc (Moved.refl _ _);cases VM:Kh [40] p1 with
    | mk t2 p2=>
     obtain⟨j1,_,j3,j4⟩:=me _ p1 p2 t2 VM;rw[VM] at h2;simp only at h2;cases t2 with
     | true=>
      refine Q8 rfl ?_;have hl:=j4 rfl;simp only[Q6,Jn] at hl;have Yj:=EO ix n hk VM;refine XO (Oz n base r A c p2 q m _ (cB ix n) w2 h2 mY (by omega) ih) ?_ ?_
      rotate_left
      ·rintro ch w3 ⟨ho,hp⟩;rw[show gH ix n p2=none from ho] at Yj;exact⟨Yj,hp.step Bi (Moved.refl _ _)⟩
      rintro v w3 ⟨a,p3,ho,rfl,A3,c3,h3,XC,aA⟩;rw[show gH ix n p2=some (a,p3) from ho] at Yj;have dW:=RdS.trans Bi (Moved.refl _ _) XC;have Ud:=aA.back Bi.size;simp only at Yj;refine call (sf base r A3 c3 _ p3 [41] w3 h3 (by decide)) ?_;rintro v w4 ⟨rfl,h4,X5⟩;have Bj:Mod (RdS r A3) w3 w4:=X5.mono (λi hi=>.inl (.inl hi));have bg:=RdS.trans dW Ud Bj;cases jr:Kh [41] p3 with
      | mk t3 p4=>
       rw[jr] at h4 Yj;simp only at h4;cases t3 with
       | true=>
        refine Q3 rfl ?_;exact⟨a,p4,Yj,rfl,A3,c3,h4,bg,Ud⟩
       | false=>
        refine Q8 rfl ?_;exact pD rfl rfl ⟨Yj,rfl,bg⟩
     | false=>
      refine Q3 rfl ?_;have Yj:=EQ ix n hk VM;have hlp:=h2.lim;have h8:=h2.b8;have hM:∀w',Ext w2 w'->Mod (RdS r A) w w':=λw' hE=>RdS.trans Bi (Moved.refl _ _) (Mod.of_ext _ hE)
      refine Qo h2.blk rfl ?_;refine call (Ot p2.r w2 h8 (by omega)) ?_;rintro v w3 ⟨rfl,Qj⟩;have h3:=h2.ext Qj;have p9:=mY.stay (Mod.of_ext _ Qj) (Moved.refl _ _);have dW:=hM w3 Qj;have Zz:=Oq p2.r;by_cases hn:Vn p2.r=0
      ·refine Jp (by omega) ?_;rw[Qf hn] at Yj;exact pD rfl rfl ⟨Yj,rfl,dW⟩
      refine Xy (by omega) ?_;rw[if_neg hn] at Yj;generalize hd:Vn p2.r=d at*;refine Qo h3.blk rfl ?_;refine XH (v':=.string (Qd (p2.r.take d))) ⟨by omega,by omega,by rw[Xe];omega⟩ ?_ ?_
      ·simp only[gE,Int.toNat_zero,KY,rK]
      refine Qo h3.blk rfl ?_;refine XH (v':=.string (Qd (p2.r.drop d))) ⟨by omega,by rw[Xe];omega,by omega⟩ ?_ ?_
      ·simp only[gE,KY,Xe,lR]
      refine XP h3.blk (by simp) (λw4 X5 Q7=>?_);have Bj:Mod (RdS r A) w3 w4:=X5.mono (λi hi=>.inl (.inl hi));have bg:=RdS.trans dW (Moved.refl _ _) Bj;have wA:=p9.stay Bj (Moved.refl _ _);have Vy:(p2.r.drop d).length+d=p2.r.length:=by rw[Wj];omega
      have h4:Rd w4 base r A c (.map (some q)) {p2 with r:=p2.r.drop d}:=⟨Q7,h3.own.mod X5 (λi hi e=>by subst e;exact h3.nrow hi),h3.lt,Zc h3.top X5.size,B8.drop h8 d,by show p2.f.length+(p2.r.drop d).length<=_;omega⟩
      have Hf:=B8.take h8 d;generalize hwd:p2.r.take d=word at*;have e1:((Qd word=(⟨#[116,114,117,101]⟩:ByteArray))↔word=Wn):=⟨λh=>J8 Hf (by decide) h,λh=>by rw[h];rfl⟩
      have e2:((Qd word=(⟨#[102,97,108,115,101]⟩:ByteArray))↔word=cC):=⟨λh=>J8 Hf (by decide) h,λh=>by rw[h];rfl⟩
      by_cases h6:word=Wn
      ·rw[Qf h6] at Yj;refine Zh (e1.2 h6) ?_;refine call (pC base r A c _ _ ⟨1,0,0,0⟩ w4 h4 (by show p2.f.length+(p2.r.drop d).length+1<=_;omega)) ?_;rintro v w5 ⟨rfl,h5⟩;exact⟨_,_,Yj,rfl,h5.step bg (Moved.refl _ _)⟩
      rw[if_neg h6] at Yj;refine XD (λh=>h6 (e1.1 h)) ?_;by_cases h7:word=cC
      ·rw[Qf h7] at Yj;refine Zh (e2.2 h7) ?_;refine call (pC base r A c _ _ ⟨0,0,0,0⟩ w4 h4 (by show p2.f.length+(p2.r.drop d).length+1<=_;omega)) ?_;rintro v w5 ⟨rfl,h5⟩;exact⟨_,_,Yj,rfl,h5.step bg (Moved.refl _ _)⟩
      rw[if_neg h7] at Yj;refine XD (λh=>h7 (e2.1 h)) ?_;refine QD h4.blk rfl ?_;have W5:=Kr word Hf;refine vn (kv:=VX) (a:=Qd word) (v:=.int .i64 ((ix word).getD 0:Nat)) (b:=(ix word).isSome) Qa rfl rfl rfl rfl rfl nQR rfl rfl wA.1 (by rw[W5];cases ix word<;>rfl) (by rw[W5];cases ix word<;>rfl) ?_;refine Qo h4.blk rfl ?_;have fin:∀w5 u,Mod (·=r) w4 w5->Blk w5 r 222 [.map (some q),.string (Qd (p2.r.drop d)),.slice A p2.f.length c,.bool u]->u=(p2.u||(ix word).isNone)->Rd w5 base r A c (.map (some q)) {p2 with r:=p2.r.drop d,u:=p2.u||(ix word).isNone}/\Mod (RdS r A) w w5:=λw5 u XS QG hu=>by
       subst hu;exact⟨⟨QG,h4.own.mod XS (λi hi e=>by subst e;exact h4.nrow hi),h4.lt,Zc h4.top XS.size,h4.b8,h4.lim⟩,RdS.trans bg (Moved.refl _ _) (XS.mono (λi hi=>.inl (.inl hi)))⟩
      refine WI (λhu=>?_) (λhu=>?_)
      ·refine XP h4.blk (by simp) (λw5 XS QG=>?_);obtain⟨h5,Hg⟩:=fin w5 true XS QG (by rw[show p2.u=true from hu];rfl);refine call (pC base r A c _ _ ⟨2,((ix word).getD 0:Nat),0,0⟩ w5 h5 (by show p2.f.length+(p2.r.drop d).length+1<=_;omega)) ?_;rintro v w6 ⟨rfl,h6⟩;exact⟨_,_,Yj,rfl,h6.step Hg (Moved.refl _ _)⟩
      ·refine XP h4.blk (by simp) (λw5 XS QG=>?_);obtain⟨h5,Hg⟩:=fin w5 (!(ix word).isSome) XS QG (by rw[show p2.u=false from hu];cases ix word<;>rfl);refine call (pC base r A c _ _ ⟨2,((ix word).getD 0:Nat),0,0⟩ w5 h5 (by show p2.f.length+(p2.r.drop d).length+1<=_;omega)) ?_;rintro v w6 ⟨rfl,h6⟩;exact⟨_,_,Yj,rfl,h6.step Hg (Moved.refl _ _)⟩
end
section
abbrev vo:=Exit->Act->World->Prop
def gI (P:Program):List Code->vo->Act->World->Prop
 | [],G,a,w=>G .normal a w
 | y::ys,G,a,w=>y.wp P (λe a w=>match e with
  | .normal=>gI P ys G a w
  | e=>G e a w) a w
@[irreducible] def YW (c:Cx) (l:List Code) (S:Env) (w:World) (G:vo):Prop:=∀a,Fits c.N S a->gI c.g.P l G a w
@[irreducible] def Wo (c:Cx) (S:Env) (w:World) (e:Exit) (G:vo):Prop:=∀a,Fits c.N S a->G e a w
section
variable {c:Cx} {S:Env} {w:World} {G:vo}
theorem fT (h:Wo c S w .normal G):YW c [] S w G:=by unfold YW;unfold Wo at h;exact h
theorem ZN {x y:Code}{l:List Code}(h:YW c (x::y::l) S w G):YW c (.seq x y::l) S w G:=by
 unfold YW at*;intro a hf;have h1:=h a hf;unfold gI at h1;unfold gI;refine wp_seq (wp_mono h1 (λe a w hq=>?_));cases e<;>first | exact hq | (unfold gI at hq;exact hq)
theorem ZA (hg:c.g.Ok){x:Code}{l:List Code}(h:Va c x S w (λe S w=>match e with
  | .normal=>YW c l S w G
  | e=>Wo c S w e G)):YW c (x::l) S w G:=by
 unfold YW;intro a hf;unfold gI;refine wp_mono (iU hg x S w _ a h hf) (λe a w ⟨S',QW,hq⟩=>?_);cases e with
 | normal=>simp only at hq;unfold YW at hq;exact hq a QW
 | exit i=>simp only at hq;unfold Wo at hq;exact hq a QW
 | goto i=>simp only at hq;unfold Wo at hq;exact hq a QW
 | ret=>simp only at hq;unfold Wo at hq;exact hq a QW
 | panic i=>simp only at hq;unfold Wo at hq;exact hq a QW
 | outgrown=>simp only at hq;unfold Wo at hq;exact hq a QW
theorem dQJ {t:Nat}{x y:Code}{l:List Code}{b:Bool}(ht:S.get t=some (.bool b))(hb:b=true)(h:YW c (x::l) S w G):YW c (.cond (.tmp t) x y::l) S w G:=by
 subst hb;unfold YW at*;intro a hf;have h1:=h a hf;unfold gI at*;have:=hf.get ht;exact wp_cond_true (by simp[Act.eval,this]) h1
theorem dQK {t:Nat}{x y:Code}{l:List Code}{b:Bool}(ht:S.get t=some (.bool b))(hb:b=false)(h:YW c (y::l) S w G):YW c (.cond (.tmp t) x y::l) S w G:=by
 subst hb;unfold YW at*;intro a hf;have h1:=h a hf;unfold gI at*;have:=hf.get ht;exact wp_cond_false (by simp[Act.eval,this]) h1
theorem vp (hg:c.g.Ok){id:Nat}{ops:Array Oper}{l:List Code}{o:Oper}{f:Operand}{xs:Array Operand}{ts:Array TypeId}(Zx:ops.toList=ops.toList.dropLast++ [o])(ho:o.op= .defer ⟨.value f,xs,ts⟩)(Kz:o.guard=none)(iD:o.dst=none)
  (h:Yn {c with named:=1000000} ops.toList ops.toList.dropLast S w (λS w=>∃fv cap first asx,S.ev f=some (.func fv first cap)/\pk S xs.toList=some asx/\YW {c with N:=⟨c.N.n,⟨.fn fv cap,first++asx.toArray⟩::c.N.ds⟩} l S w G) (λe S w=>Wo c S w e G)):YW c (.region id ops false::l) S w G:=by
 unfold YW;intro a hf;unfold gI;refine wp_region_list ?_;have h1:=iT (c:={c with named:=1000000}) hg ops.toList ops.toList.dropLast S w a h hf;have key:∀(Q:vo) (m1 m2:List Oper) (a:Act) (w:World),wpList c.g.P ops (λe a w=>match e with
   | .normal=>wpList c.g.P ops Q m2 a w
   | e=>Q e a w) m1 a w->wpList c.g.P ops Q (m1++m2) a w:=by
  intro Q m1;induction m1 with
  | nil=>intro m2 a w h;exact h
  | cons o1 m1 ih=>
   intro m2 a w h;rw[YF];unfold wpList at h ⊢;split
   ·rename_i hw;rw[Qf hw] at h;rcases h with h | ⟨h1,a0,w0,h2⟩
    ·refine .inl ?_;have h2:=Oper.wp_mono (K':=wpList c.g.P ops Q (m1++m2)) (λa w=>ih m2 a w) h;unfold Oper.wp at h2 ⊢;generalize (execOp a.eval o1).run c.g.P w=r at*;cases r with
     | ok n w'=>cases n<;>simp only[Oper.upon] at h2 ⊢ <;> exact h2
     | halt x w'=>cases x<;>simp only[Oper.upon] at h2 ⊢ <;> exact h2
    ·exact .inr ⟨h1,a0,w0,h2⟩
   ·rename_i hw;rw[if_neg hw] at h;exact ih m2 _ _ h
 rw[Zx];refine key _ ops.toList.dropLast [o] a w ?_;have e0:ops.toList.toArray=ops:=by simp
 rw[e0] at h1;refine j5 (λe a w hq=>?_) h1;cases e with
 | normal=>
  obtain⟨S',QW,fv,cap,first,asx,hfv,has,hq⟩:=hq;show wpList _ _ _ [o] _ _;unfold wpList;rw[Qf (by simp[Region.wanted,Kz])];refine .inl ?_;have Db:=QW.ev hfv;have hxs:(xs.map a.eval)=asx.toArray:=by
   apply Array.ext';rw[MS];exact zh (ρ:=a.eval) (λx v h=>QW.ev h) _ _ has
  unfold Oper.wp;have Ja:(execOp a.eval o).run c.g.P w= .ok (.defer ⟨.fn fv cap,first++asx.toArray⟩) w:=by
   simp only[execOp,ho,resolve,Db,hxs];simp[Deferred.ofValue]
  rw[Ja,Oper.upon_defer];unfold wpList;unfold YW at hq;refine hq _ ⟨?_,?_,?_⟩
  ·rw[iD];exact QW.size
  ·rw[iD];show _::a.defers=_;rw[QW.defers]
  ·rw[iD];exact QW.has
 | exit i=>obtain⟨S',QW,hq⟩:=hq;unfold Wo at hq;exact hq a QW
 | goto i=>obtain⟨S',QW,hq⟩:=hq;unfold Wo at hq;exact hq a QW
 | ret=>obtain⟨S',QW,hq⟩:=hq;unfold Wo at hq;exact hq a QW
 | panic i=>obtain⟨S',QW,hq⟩:=hq;unfold Wo at hq;exact hq a QW
 | outgrown=>obtain⟨S',QW,hq⟩:=hq;unfold Wo at hq;exact hq a QW
end
def si (R:Value->World->Prop):Ending->World->Prop
 | .returned v,w=>R v w
 | _,_=>False
theorem vq {c:Cx}(hg:c.g.Ok){f:FuncId}{fn:Func}{x:Code}{args:List Value}{w:World}{R:Value->World->Prop}(hf:c.g.P.funcs[f]? =some fn)(hb:fn.body=some x)(hN:⟨fn.ntmps,[]⟩=c.N)
  (hl:Nat.ble args.length c.N.n=true) (h:jZ [0,1,2,3,4,5,6,7,8,9,10,11,12,13,14,15] args [] (λS=>YW c [x] S w (bodyPostD c.g.P fn (si R)))):Fn c.g.P f args w R:=by
 unfold Fn;have _:=hg;obtain⟨S,hS,hx⟩:=uY _ args [] 0 args (λj t ht=>by
  match j,ht with
  | 0,ht | 1,ht | 2,ht | 3,ht | 4,ht | 5,ht | 6,ht | 7,ht | 8,ht | 9,ht | 10,ht | 11,ht | 12,ht | 13,ht | 14,ht | 15,ht=>simp at ht;omega
  | j+16,ht=>simp at ht) (by simp) (λk x hk=>by simp[Env.ent] at hk) h
 have hn:fn.ntmps=c.N.n:=QC Slots.n hN;have J5:=fN (N:=c.N.n) args (gD hl) S hS;rw[<-hn,hN] at J5;unfold YW at hx;have h1:=hx _ J5;refine(calls_of_wp_defers hf hb (R:=si R) ?_).mono (λe w' he=>by cases e<;>exact he);unfold gI at h1;refine wp_mono h1 (λe a w hq=>?_);cases e<;>first | exact hq | (unfold gI at hq;exact hq)
section
variable {c:Cx} {S:Env} {w:World}
theorem ja (hg:c.g.Ok){fn:Func}{R:Value->World->Prop}{e:Exit}(hN:c.N.ds=[])(he:e= .ret∨e= .normal)(h:dB c S w R fn.results.toList []):Wo c S w e (bodyPostD c.g.P fn (si R)):=by
 unfold Wo;intro a hf;obtain⟨v,h1,h2⟩:=iV hg hf h;have hd:a.defers=[]:=by rw[hf.defers,hN]
 rcases he with rfl | rfl <;>
 ·unfold bodyPostD;simp only;rw[hd];exact⟨v,h1,h2⟩
theorem OD (hg:c.g.Ok){fn:Func}{R:Value->World->Prop}{u:FrameMode}{a:Act}{F:FuncId}{asx cap:Array Value}(hN:c.N.ds=[⟨.fn (.func F) cap,asx⟩])(hF:fJ F c.g.fns=true)(hu:u≠ .run)(hf:Fits c.N S a){args:Array Value}(hA:asx++cap=args)
  (h:CallsD c.g.P F args u w (λe u' w'=>∃v,e= .returned v/\settle u'= .returning/\dB c S w' R fn.results.toList [])):Leaves c.g.P fn a.tmps (si R) a.defers u w:=by
 subst hA;rw[hf.defers,hN];refine leaves_cons (f:=F) (args:=asx++cap) hu ?_ ?_
 ·have hc:=hg.fns F (zf hF);simp only[invoke];rw[zl hc]
 ·refine h.mono (λe u' w' he=>?_);obtain⟨v,rfl,hs,hk⟩:=he;simp only;rw[hs];obtain⟨v,h1,h2⟩:=iV hg hf hk;exact⟨v,h1,h2⟩
theorem fU (hg:c.g.Ok){fn:Func}{R:Value->World->Prop}{e:Exit}{F:FuncId}{asx cap:Array Value}(hN:c.N.ds=[⟨.fn (.func F) cap,asx⟩])(hF:fJ F c.g.fns=true)(he:e= .ret∨e= .normal){args:Array Value}(hA:asx++cap=args)
  (h:CallsD c.g.P F args .returning w (λe u' w'=>∃v,e= .returned v/\settle u'= .returning/\dB c S w' R fn.results.toList [])):Wo c S w e (bodyPostD c.g.P fn (si R)):=by
 unfold Wo;intro a hf;have:=OD hg hN hF (by simp) hf hA h;rcases he with rfl | rfl<;>exact this
theorem ag (hg:c.g.Ok){fn:Func}{R:Value->World->Prop}{ch:List PanicEntry}{F:FuncId}{asx cap:Array Value}(hN:c.N.ds=[⟨.fn (.func F) cap,asx⟩])(hF:fJ F c.g.fns=true){args:Array Value}(hA:asx++cap=args)
  (h:CallsD c.g.P F args (.panicking ch) w (λe u' w'=>∃v,e= .returned v/\settle u'= .returning/\dB c S w' R fn.results.toList [])):Wo c S w (.panic ch) (bodyPostD c.g.P fn (si R)):=by
 unfold Wo;intro a hf;exact OD hg hN hF (by simp) hf hA h
end
theorem dQL {c:Cx}(hg:c.g.Ok){f:FuncId}{fn:Func}{x:Code}{args:List Value}{w:World}{R:Value->World->Prop}(u:FrameMode)(hf:c.g.P.funcs[f]? =some fn)(hb:fn.body=some x)(hN:⟨fn.ntmps,[]⟩=c.N)
  (hl:Nat.ble args.length c.N.n=true) (h:jZ [0,1,2,3,4,5,6,7,8,9,10,11,12,13,14,15] args [] (λS=>Va c x S w (zm c fn.results.toList R))):CallsD c.g.P f args.toArray u w (λe u' w'=>u'=u/\∃v,e= .returned v/\R v w'):=by
 obtain⟨S,hS,hx⟩:=uY _ args [] 0 args (λj t ht=>by
  match j,ht with
  | 0,ht | 1,ht | 2,ht | 3,ht | 4,ht | 5,ht | 6,ht | 7,ht | 8,ht | 9,ht | 10,ht | 11,ht | 12,ht | 13,ht | 14,ht | 15,ht=>simp at ht;omega
  | j+16,ht=>simp at ht) (by simp) (λk x hk=>by simp[Env.ent] at hk) h
 refine callsD_of_wp hf hb ?_;have hn:fn.ntmps=c.N.n:=QC Slots.n hN;have J5:=fN (N:=c.N.n) args (gD hl) S hS;rw[<-hn,hN] at J5;refine wp_mono (iU hg x S w _ _ hx J5) (λe a w' hq=>?_);obtain⟨S',QW,hq⟩:=hq;have ZH:a.defers=[]:=by rw[QW.defers,<-hN]
 cases e with
 | normal=>obtain⟨v,h1,h2⟩:=iV hg QW hq;exact⟨ZH,v,h1,v,rfl,h2⟩
 | ret=>obtain⟨v,h1,h2⟩:=iV hg QW hq;exact⟨ZH,v,h1,v,rfl,h2⟩
 | exit i=>exact hq.elim
 | goto l=>exact hq.elim
 | panic ch=>exact hq.elim
 | outgrown=>exact hq.elim
end
section
theorem ES {c:Cx}(hg:c.g.Ok){o:Oper}{S:Env}{w:World}{K:Env->World->Prop}{Q:Zg}{x:Operand}{tx t:Nat}{k:IntKind}{v:Value}{r:TyRow}(ho:o.op= .typeAssert x tx t true)(hr:QT c.g.tys t=some r)(hd:r.d= .int k)(hx:S.ev x=some (.iface t v))
  (kk:Xd c S o.dst (.v (.tuple #[v,.bool true])) (λS=>K S w)):X8 c o S w K Q:=by
 have Q0:=(hg.row hr).1;rw[hd] at Q0;refine Jx (w':=w) (v:=.tuple #[v,.bool true]) (λa hf=>?_) kk;have e1:=hf.ev hx;simp only[execOp,ho,e1];simp[Instr.typeAssert,ZU Q0]
theorem dQM {P:Program}{t:TypeId}{ms:Array (String×TypeId)}{w:World}(hu:P.underlying t=some (.interface ms))(n:Nat):(Op.equalIn (n+1) t .nilIface .nilIface).run P w= .ok true w:=by simp[Op.equalIn,ZU hu]
theorem OE {P:Program}{o1 o2:Oper}{Q:Exit->Act->List Frame->World->Prop}{a:Act}{cs cs':List Frame}{w:World}{d1 d2:Nat}{v:Value}(h1:o1.op= .call ⟨.builtin .recover, #[], #[]⟩)(h1d:o1.dst=some d1)(h1g:o1.guard=none)(h2:o2.op= .assign (.tmp d1))(h2d:o2.dst=some d2)(h2g:o2.guard=none)
  (XJ:d1<a.tmps.size) (LQ:recoverD cs=some (v,cs')∨(recoverD cs=none/\v= .nilIface/\cs'=cs)) (h:Q .normal ((a.put (some d1) v).put (some d2) v) cs' w):wpOpsS P #[o1,o2] Q (List.range 2) a cs w:=by
 have e1:∀ρ,(execOp ρ o1).run P w= .ok .recover w:=λρ=>by
  simp only[execOp,h1,resolve,invoke,builtin];simp
 have e2:(execOp (a.put (some d1) v).eval o2).run P w= .ok (.value v) w:=by
  simp only[execOp,h2];simp[Act.eval,Act.put,XJ]
 show wpOpsS P #[o1,o2] Q [0,1] a cs w;have key:wpOpsS P #[o1,o2] Q [1] (a.put (some d1) v) cs' w:=by
  unfold wpOpsS;simp only[MY,List.getElem?_cons_succ,List.getElem?_cons_zero];rw[Qf (by simp[Region.wanted,h2g]),e2];simp only[Oper.upon,h2d];unfold wpOpsS;exact h
 unfold wpOpsS;simp only[MY,List.getElem?_cons_zero];rw[Qf (by simp[Region.wanted,h1g]),e1];rcases LQ with hr | ⟨hr,rfl,rfl⟩
 ·simp only[hr,h1d];exact key
 ·simp only[hr,h1d];exact key
theorem mf {c:Cx}(hg:c.g.Ok){x:Code}{fn:Func}{c₀:Frame}{cs:List Frame}{R:Ending->FrameMode->World->Prop}{S:Env}{a:Act}{w:World}{u':FrameMode}(hN:c.N.ds=[])(hf:Fits c.N S a)
  (h:Va c x S w (zm c fn.results.toList (λv w'=>R (.returned v) u' w'))):x.wpS c.g.P (bodyPostS c.g.P fn c₀ cs R) a ({c₀ with mode:=u'}::cs) w:=by
 refine wpS_of_wp (wp_mono (iU hg x S w _ a h hf) (λe a' w' hq=>?_));obtain⟨S',QW,hq⟩:=hq;have ZH:a'.defers=[]:=by rw[QW.defers,hN]
 cases e with
 | normal=>obtain⟨v,h1,h2⟩:=iV hg QW hq;exact⟨ZH,u',rfl,v,h1,h2⟩
 | ret=>obtain⟨v,h1,h2⟩:=iV hg QW hq;exact⟨ZH,u',rfl,v,h1,h2⟩
 | exit i=>exact hq.elim
 | goto l=>exact hq.elim
 | panic ch=>exact hq.elim
 | outgrown=>exact hq.elim
def OF (f e:Nat)(k:Int)(w w':World):Prop:=Blk w' f 149 [.slice none 0 0]/\Blk w' e 34 [.int .i64 k]/\Mod (λi=>i=f∨i=e) w w'
theorem zE (f e:Nat)(k:Int)(w:World)(v1 v2:Value)(QU:f≠e)(hf:Blk w f 149 [v1])(he:Blk w e 34 [v2]):
  CallsD Tryz.prog 140 #[.pointer (some ⟨f,0,none⟩),.pointer (some ⟨e,0,none⟩)] (.panicking [{v:=.iface 34 (.int .i64 k),recovered:=false}]) w
   (λen u' w'=>∃v,en= .returned v/\settle u'= .returning/\OF f e k w w'):=by
 refine callsD_of_wpS Tryz.func140 rfl λc₀ cs hu=>?_
 have J5:=fN (N:=zC.N.n) [.pointer (some ⟨f,0,none⟩),.pointer (some ⟨e,0,none⟩)] (gD rfl) [(0,.v (.pointer (some ⟨f,0,none⟩))),(1,.v (.pointer (some ⟨e,0,none⟩)))] (by
  intro k x hk
  match k,hk with
  | 0,hk=>cases hk;rfl
  | 1,hk=>cases hk;rfl
  | k+2,hk=>exact nomatch (show(none:Option Ent)=some x from hk))
 have J0:=J5.put (d:=5) (by decide) (.v (.iface 34 (.int .i64 k)));have ZR:=J0.put (d:=2) (by decide) (.v (.iface 34 (.int .i64 k)));refine wpS_seq (wpS_region ?_);refine OE (cs':={c₀ with mode:=.panicking [{v:=.iface 34 (.int .i64 k),recovered:=true}]}::cs) (v:=.iface 34 (.int .i64 k)) rfl rfl rfl rfl rfl rfl (by simp) (.inl (by simp[recoverD,hu])) ?_;refine mf (c:=zC) Qa rfl ZR ?_;refine Q8 rfl ?_;refine ES Qa rfl rfl rfl rfl ?_;refine Q3 rfl ?_;refine KD hf (by simp) (λw1 Zt Qh=>?_);refine KD (he.mod Zt (λh=>QU h.symm)) (by simp) (λw2 XQ Qx=>?_);exact⟨_,rfl,rfl,Qh.mod XQ QU,Qx,(Zt.mono (λi hi=>.inl (.inl hi))).trans XQ (λi hi=>.inl (.inr hi))⟩
theorem dQN (f e:Nat)(w:World):
  CallsD Tryz.prog 140 #[.pointer (some ⟨f,0,none⟩),.pointer (some ⟨e,0,none⟩)] .returning w
   (λen u' w'=>∃v,en= .returned v/\settle u'= .returning/\w=w'):=by
 refine callsD_of_wpS Tryz.func140 rfl λc₀ cs hu=>?_
 have J5:=fN (N:=zC.N.n) [.pointer (some ⟨f,0,none⟩),.pointer (some ⟨e,0,none⟩)] (gD rfl) [(0,.v (.pointer (some ⟨f,0,none⟩))),(1,.v (.pointer (some ⟨e,0,none⟩)))] (by
  intro k x hk
  match k,hk with
  | 0,hk=>cases hk;rfl
  | 1,hk=>cases hk;rfl
  | k+2,hk=>exact nomatch (show(none:Option Ent)=some x from hk))
 have J0:=J5.put (d:=5) (by decide) (.v .nilIface);have ZR:=J0.put (d:=2) (by decide) (.v .nilIface);refine wpS_seq (wpS_region ?_);refine OE (cs':={c₀ with mode:=.returning}::cs) (v:=.nilIface) rfl rfl rfl rfl rfl rfl (by simp) (.inr ⟨by simp[recoverD,hu],rfl,by rw[<-hu]⟩) ?_;refine mf (c:=zC) Qa rfl ZR ?_;refine Jx (w':=w) (v:=.bool false) (λa hf=>?_) ?_
 ·have e1:=hf.ev (show Env.ev _ (.tmp 6)=some .nilIface from rfl);have hu:=Tryz.underlying20;have e2:(Op.equal 20 .nilIface .nilIface).run Tryz.prog w= .ok true w:=dQM hu 9999;have e3:binOp .neq 20 .nilIface .nilIface=(do pure (.bool (!(<-Op.equal 20 .nilIface .nilIface)))):=rfl;simp only[execOp,e1,eqGuard];simp[Act.eval,e3,show gx.P=Tryz.prog from rfl,e2]
 refine Q3 rfl ?_;exact⟨_,rfl,rfl,rfl⟩
end
section
def dH (l:List Nat):List (List Nat)->Nat->Option Nat->Option Nat
 | [],_,QQ=>QQ
 | s::names,i,QQ=>dH l names (i+1) (if s=l then some i else QQ)
def Jd (names:List (List Nat))(l:List Nat):Option Nat:=dH l names 0 none
theorem OG (l:List Nat)(hl:∀x∈l,x<256):∀(names:List (List Nat))(i:Nat)(QQ:Option Nat)(m:List (ByteArray×Value)),Ku names->Xz (Qd l) m=QQ.map (λv:Nat=>Value.int .i64 v)->
  Xz (Qd l) (YG names i m)=(dH l names i QQ).map (λv:Nat=>Value.int .i64 v)
 | [],i,QQ,m,_,h=>h
 | s::names,i,QQ,m,hn,h=>by
  simp only[YG,dH];refine OG l hl names (i+1) _ _ (λt ht=>hn t (by simp[ht])) ?_;rw[aS];by_cases hs:s=l
  ·subst hs;simp
  ·rw[if_neg (λe=>hs (J8 hl (hn s (by simp)).1 e).symm),if_neg hs];exact h
theorem ET {names:List (List Nat)}(hn:Ku names):OB (Jd names) (YG names 0 []):=λl hl=>OG l hl names 0 none [] hn rfl
def dI (names:List (List Nat))(s:List Nat):List Fz×Int:=if ZF names then
  match gH (Jd names) (s.length+1) ⟨s,[],false⟩with
  | none=>([],31)
  | some (_,p)=>if ZE p.r≠ [] then([],31)else if p.u then([],3)else if 512<p.f.length then([],2)else(p.f,0)
 else([],1)
def EU (w:World)(r:List Fz×Int)(v:Value)(w':World):Prop:=∃F m cF,v= .tuple #[.slice F m cF,.int .i64 r.2]/\Ext w w'/\SlS Fz.cells 4 w' F m cF r.1
theorem dQO (p:Ps):Kh [] p=(true,{p with r:=ZE p.r}):=by rw[vm]<;>rfl
theorem OH (names:List (List Nat))(A:Option Addr)(n c:Nat)(s:List Nat)(w:World)(h:Sl w 1 A n c (XB names))(hb:Ku names)(hs:∀x∈s,x<256)(hl:s.length<=1000000000000):
  Fn Tryz.prog 89 [.slice A n c,.string (Qd s)] w (EU w (dI names s)):=by
 refine vq (c:={c89 with cuts:=[]}) Qa Tryz.func89 rfl rfl rfl ?_;refine ZN (ZA Qa ?_);refine new (λw1 Qe Q4 Qh=>?_);refine new (λw2 Qg Zb Qx=>?_);have Q5:=Qe.trans Qg;refine ZN (ZA Qa ?_);refine call (EL names A n c w2 (h.ext Q5) hb) ?_;rintro v w3 ⟨v1,rfl,Qj,xR⟩;have QX:=Q5.trans Qj;have hBf:=(Qh.ext Qg).ext Qj;have fk:=Qx.ext Qj;refine ZN (ZA Qa ?_);cases X0:ZF names with
 | false=>
  refine Q8 rfl ?_;refine KD hBf (by simp[JR]) (λw4 X5 Q7=>?_);have QU:w1.heap.size≠w.heap.size:=by omega
  refine KD (fk.mod X5 QU) (by simp[JR]) (λw5 XS QG=>?_);refine ja Qa rfl (.inl rfl) ?_;refine QD (Q7.mod XS QU.symm) rfl ?_;refine QD QG rfl ?_;have Qw:=XS.ext (X5.ext QX (λi hi=>by omega)) (λi hi=>by omega);refine⟨none,0,0,?_,Qw,?_⟩
  ·unfold dI;rw[X0]<;>rfl
  ·unfold dI;rw[X0];exact SlS.nil _
 | true=>
  refine Q3 rfl ?_;obtain⟨q,rfl,hq,em⟩:=xR X0;refine ZN (vp Qa rfl rfl rfl rfl ⟨_,_,_,_,rfl,rfl,?_⟩);refine ZN (ZA Qa ?_);refine new (λw4 Qs KO Q7=>?_);have XG:=QX.trans Qs;have JC:=Qj.size;have hR:Rd w4 w4.heap.size w3.heap.size none 0 (.map (some q)) ⟨s,[],false⟩:=⟨Q7,Own.nil _ _ _ _,by omega,QB _,hs,by simpa using hl⟩
  have hG:GM w3.heap.size q (YG names 0 []) w4 none:=⟨em.ext Qs,by have:=em.lt;omega,λ⟨_,e,_⟩=>by cases e⟩
  have QU:w.heap.size≠w1.heap.size:=by omega
  have ut:∀i,i<w3.heap.size->¬RdS w3.heap.size none i:=λi hi e=>by
   rcases e with rfl | ⟨_,e,_⟩
   ·omega
   ·cases e
  have keep:∀w',Mod (RdS w3.heap.size none) w4 w'->Ext w w'/\Blk w' w.heap.size 149 [.slice none 0 0]/\Blk w' w1.heap.size 34 [.int .i64 0]:=λw' hm=>by
   refine⟨hm.ext XG (λi hi=>?_),(hBf.ext Qs).mod hm (ut _ (by omega)),(fk.ext Qs).mod hm (ut _ (by omega))⟩;rcases hi with rfl | ⟨_,e,_⟩
   ·omega
   ·cases e
  have Xg:∀k w' KT,Ext w w'->OF w.heap.size w1.heap.size k w' KT->dI names s=([],k)->EU w (dI names s) (.tuple #[.slice none 0 0,.int .i64 k]) KT:=λk w' KT hE hR hp=>by
   rw[hp];refine⟨none,0,0,rfl,hR.2.2.ext hE (λi hi=>by rcases hi with rfl | rfl<;>omega),SlS.nil _⟩
  have hpp:dI names s=match gH (Jd names) (s.length+1) ⟨s,[],false⟩with
   | none=>([],31)
   | some (_,p)=>if ZE p.r≠ [] then([],31)else if p.u then([],3)else if 512<p.f.length then([],2)else(p.f,0):=by unfold dI;rw[Qf X0]
  refine ZN (ZA Qa ?_);refine XO (Oz (s.length+1) _ _ none 0 _ q _ _ _ w4 hR hG (er _) (OC (Jd names) _ _ q _ (ET hb) (s.length+1))) ?_ ?_
  rotate_left
  ·rintro ch w5 ⟨ho,rfl,XS⟩;obtain⟨Qw,J0,he5⟩:=keep w5 XS;refine ag Qa rfl rfl (args:= #[.pointer (some ⟨w.heap.size,0,none⟩),.pointer (some ⟨w1.heap.size,0,none⟩)]) (by simp) ((zE _ _ 31 w5 _ _ QU J0 he5).mono ?_);rintro e u' w6 ⟨v,rfl,Hh,hZ⟩;refine⟨v,rfl,Hh,?_⟩;refine QD hZ.1 rfl ?_;refine QD hZ.2.1 rfl ?_;exact Xg 31 w5 w6 Qw hZ (by rw[hpp];unfold gH;rw[ho])
  rintro v w5 ⟨a,p,ho,rfl,A5,c5,h5,XS,Yc⟩;refine ZN (ZA Qa ?_);refine call (sf _ _ A5 c5 _ p [] w5 h5 (by simp)) ?_;rintro v w6 ⟨rfl,h6,K2⟩;rw[dQO] at h6;simp only at h6;have jQR:Mod (RdS w3.heap.size none) w4 w6:=XS.trans K2 (λi hi=>.inl (.inl hi));obtain⟨QO,bV,Bk⟩:=keep w6 jQR;have iF:dI names s=if ZE p.r≠ [] then([],31)else if p.u then([],3)else if 512<p.f.length then([],2)else(p.f,0):=by rw[hpp];unfold gH;rw[ho]
  have e0:((Qd (ZE p.r)=(⟨#[]⟩:ByteArray))↔ZE p.r=[]):=⟨λh=>J8 h6.b8 (by simp) h,λh=>by rw[h];rfl⟩
  refine ZN (ZA Qa ?_);refine Qo h6.blk rfl ?_;by_cases ht:¬ZE p.r=[]
  ·refine Q8 (by rw[Zq (λh=>ht (e0.1 h))];rfl) ?_;refine pD rfl rfl ?_;refine ag Qa rfl rfl (args:= #[.pointer (some ⟨w.heap.size,0,none⟩),.pointer (some ⟨w1.heap.size,0,none⟩)]) (by simp) ((zE _ _ 31 w6 _ _ QU bV Bk).mono ?_);rintro e u' w7 ⟨v,rfl,g9,Vr⟩;refine⟨v,rfl,g9,?_⟩;refine QD Vr.1 rfl ?_;refine QD Vr.2.1 rfl ?_;exact Xg 31 w6 w7 QO Vr (by rw[iF,Qf ht])
  replace ht:=Decidable.not_not.1 ht;refine Q3 (by rw[Zy (e0.2 ht)];rfl) ?_;rw[if_neg (λh=>h ht)] at iF;refine Qo h6.blk rfl ?_;refine WI (λhu=>?_) (λhu=>?_)
  ·refine pD rfl rfl ?_;refine ag Qa rfl rfl (args:= #[.pointer (some ⟨w.heap.size,0,none⟩),.pointer (some ⟨w1.heap.size,0,none⟩)]) (by simp) ((zE _ _ 3 w6 _ _ QU bV Bk).mono ?_);rintro e u' w7 ⟨v,rfl,g9,Vr⟩;refine⟨v,rfl,g9,?_⟩;refine QD Vr.1 rfl ?_;refine QD Vr.2.1 rfl ?_;exact Xg 3 w6 w7 QO Vr (by rw[iF,Qf hu])
  rw[if_neg (by rw[show p.u=false from hu];decide)] at iF;refine Qo h6.blk rfl ?_;refine Qz (λhl=>?_) (λhl=>?_)
  ·refine pD rfl rfl ?_;refine ag Qa rfl rfl (args:= #[.pointer (some ⟨w.heap.size,0,none⟩),.pointer (some ⟨w1.heap.size,0,none⟩)]) (by simp) ((zE _ _ 2 w6 _ _ QU bV Bk).mono ?_);rintro e u' w7 ⟨v,rfl,g9,Vr⟩;refine⟨v,rfl,g9,?_⟩;refine QD Vr.1 rfl ?_;refine QD Vr.2.1 rfl ?_;exact Xg 2 w6 w7 QO Vr (by rw[iF,Qf (show 512<p.f.length by simp only at hl;omega)])
  have di:¬512<p.f.length:=λh=>hl (by simp only;omega)
  rw[if_neg di] at iF;refine ZN (ZA Qa ?_);refine Qo h6.blk rfl ?_;refine KD bV (by simp) (λw7 Kc Q2=>?_);refine KD (Bk.mod Kc QU.symm) (by simp) (λw8 JB Xw=>?_);refine ZA Qa ?_;refine fU Qa rfl rfl (.inl rfl) (args:= #[.pointer (some ⟨w.heap.size,0,none⟩),.pointer (some ⟨w1.heap.size,0,none⟩)]) (by simp) ((dQN _ _ w8).mono ?_);rintro e u' _ ⟨v,rfl,Hi,rfl⟩;refine⟨v,rfl,Hi,?_⟩;refine QD (Q2.mod JB QU) rfl ?_;refine QD Xw rfl ?_;rw[iF];have hM:Mod (λi=>i=w.heap.size∨i=w1.heap.size) w6 w8:=(Kc.mono (λi hi=>.inl (.inl hi))).trans JB (λi hi=>.inl (.inr hi));refine⟨A5,p.f.length,c5,rfl,hM.ext QO (λi hi=>by rcases hi with rfl | rfl<;>omega),?_,rfl⟩;have jG:∀i,Qk A5 i->w4.heap.size<=i:=λi hi=>(h6.own.rows i hi).1
  exact(h6.own.mod hM (λi hi e=>by have:=jG i hi;rcases e with rfl | rfl<;>omega)).sl
end
end
end Go.Proofs.YtjabbbcdgmlojaaGreatDoor
