/-
  What PPatchShares rests on, part 1 (wip/shake.py).
  Conditions: none.
-/
import Derived.Test.YtjabbbcdgmlojaaGreatDoorProg
import Derived.WalkKit
import Derived.Deep.QuietTactic
import Derived.Laws.CopyOwn
import Derived.StillTail
import Derived.OrdersHeld
import Derived.Laws.StructEq
import Derived.Lib.AppendStr
import Derived.Shelf.Strings.Builder1
import Derived.Shelf.Strings.Builder2
import Derived.Shelf.Strings.OnBuilder
import Derived.Shelf.Small.Utf8
import Derived.Shelf.Small.Strs
import Derived.Shelf.Strings.BuilderF
import Derived.Shelf.Strings.Search1
import Derived.Shelf.Strings.Search2
import Derived.Shelf.Strings.Search3
import Derived.Shelf.Strings.Cut
import Derived.Shelf.Strings.Count
import Derived.Shelf.LaysM
import Derived.Shelf.Strings.Shaped
import Derived.Shelf.Strings.LastIndex
import Derived.Shelf.GgClosure.StringsIndexFunc
import Derived.Shelf.Strings.Prefix
import Derived.Shelf.Strings.Runes
import Derived.Shelf.Strings.AsciiSet
import Derived.Shelf.Unicode.DecodeSlow
import Derived.Lib.Builder
import Derived.Lib.UnsafeStr
import Derived.Maps.RangeRun
import Derived.Recover
import Derived.ChangeKeysEq
import Derived.Deep.Grids
import Derived.Below
import Derived.ProofKit
import Derived.OpenShut
import Derived.ShutString
import Derived.ChangeOld
import Derived.Deep.Slices
import Derived.ChangeSame
import Derived.WideShapes
import Derived.Lay
import Derived.SevenTiedAt
import Derived.Deep.DeepHandedRow
set_option linter.all false
set_option linter.deprecated false
set_option maxHeartbeats 12800000
namespace Go.Proofs.YtjabbbcdgmlojaaGreatDoor
open Go Go.RowKit
section
abbrev Qf:=@if_pos
abbrev Qu:=@List.length_append
abbrev QC:=@Nat.le_refl
abbrev QL:=@List.mem_singleton
abbrev QN:=@congrArg
abbrev QO:=@List.mem_of_getElem?
abbrev QZ:=@List.mem_cons
abbrev Q8:=@absurd
abbrev Xj:=@List.length_cons
abbrev Xn:=@List.getElem?_eq_getElem
abbrev Xw:=@List.mem_append
abbrev XJ:=@Nat.zero_le
abbrev XR:=@decide_eq_true
abbrev X4:=@decide_eq_false
abbrev Zf:=@Nat.le_trans
abbrev ZL:=@run_underlying
abbrev ZW:=@Int.min_def
abbrev Z0:=@List.getElem?_eq_some_iff
abbrev Z4:=@List.mem_map
abbrev Z5:=@List.length_nil
abbrev Jb:=@List.cons_append
abbrev Je:=@List.append_assoc
abbrev Jf:=@List.not_mem_nil
abbrev Jm:=@List.take_of_length_le
abbrev Jn:=@or_false
abbrev JL:=@Bool.and_eq_true
abbrev JM:=@List.length_map
abbrev JZ:=@List.mem_filter
abbrev Vl:=@decide_eq_true_eq
abbrev Vz:=@Nat.eq_of_beq_eq_true
abbrev VQ:=@Nat.lt_of_lt_of_le
abbrev VR:=@List.getElem?_map
abbrev VT:=@List.take_add_one
abbrev Ye:=@List.length_take
abbrev YH:=@List.append_nil
abbrev YI:=@List.getElem?_append_right
abbrev Y0:=@List.map_cons
abbrev Y1:=@Nat.mul_le_mul_right
abbrev Y2:=@List.all_eq_true
abbrev Y3:=@List.length_drop
abbrev Wh:=@List.getElem?_append_left
abbrev Wj:=@List.takeWhile_cons
abbrev Wl:=@Nat.pow_le_pow_right
abbrev aA:=@List.eq_nil_of_length_eq_zero
abbrev aZ:=@List.mem_of_mem_drop
abbrev a8:=@of_decide_eq_true
abbrev bP:=@List.nil_append
abbrev bQ:=@Nat.zero_add
abbrev bR:=@List.drop_eq_getElem_cons
abbrev cK:=@List.flatMap_cons
abbrev dG:=@List.length_set
abbrev dH:=@Bool.true_and
abbrev dI:=@Nat.lt_succ_self
abbrev dJ:=@List.flatMap_append
abbrev dK:=@Bool.eq_false_iff
abbrev eY:=@Array.getElem?_eq_some_iff
abbrev eZ:=@List.take_append_drop
abbrev fa:=@List.mem_of_mem_take
abbrev fc:=@Int.toNat_natCast
abbrev fd:=@List.getElem?_set_ne
abbrev fe:=@List.mem_range
abbrev ff:=@List.mem_iff_getElem?
abbrev fZ:=@Nat.le_of_ble_eq_true
abbrev f0:=@List.map_append
abbrev f9:=@List.drop_take
abbrev ga:=@List.mem_flatMap
abbrev iq:=@Nat.mod_eq_of_lt
abbrev ir:=@Nat.mul_one
abbrev iu:=@Option.getD_some
abbrev iv:=@List.getElem?_set_self
abbrev jv:=@Nat.blt_eq
abbrev jw:=@Nat.succ_mul
abbrev jx:=@List.take_succ_cons
abbrev lM:=@List.getElem?_eq_none
abbrev lN:=@Int.le_refl
abbrev lO:=@Nat.pow_succ
abbrev lP:=@List.getLast?_eq_getElem?
abbrev lQ:=@List.exists_mem_of_ne_nil
abbrev oE:=@Bool.eq_iff_iff
abbrev oF:=@Nat.add_assoc
abbrev oG:=@List.drop_drop
abbrev oH:=@Nat.min_eq_left
abbrev oI:=@List.dropWhile_cons
abbrev oJ:=@Nat.mod_lt
abbrev oK:=@List.eq_nil_or_concat
abbrev oL:=@List.length_singleton
abbrev oM:=@decide_eq_decide
abbrev rv:=@Nat.add_mul
abbrev rx:=@List.take_append
abbrev ry:=@List.drop_of_length_le
abbrev rz:=@List.drop_zero
abbrev rA:=@List.take_length
abbrev rB:=@List.drop_left
abbrev uB:=@List.getElem?_take_of_lt
abbrev uC:=@List.find?_eq_none
abbrev uD:=@Nat.mul_comm
abbrev uE:=@List.filter_cons
abbrev uF:=@Nat.testBit_lt_two_pow
abbrev uG:=@List.length_filter_le
abbrev uH:=@List.mem_cons_of_mem
abbrev uI:=@List.any_eq_true
abbrev uJ:=@List.drop_eq_nil_of_le
abbrev yE:=@List.foldl_cons
abbrev yF:=@List.map_map
abbrev yG:=@Nat.sub_self
abbrev yH:=@List.all_cons
abbrev yI:=@List.map_nil
abbrev yJ:=@Option.map_some
abbrev yK:=@List.count_cons
abbrev yL:=@Nat.le_succ
abbrev yM:=@List.length_tail
abbrev yN:=@List.nodup_cons
abbrev yO:=@List.length_pos_iff
abbrev yP:=@List.take_take
abbrev yQ:=@List.filter_eq_nil_iff
abbrev yR:=@List.append_cancel_right
abbrev yS:=@List.flatMap_nil
abbrev Dx:=@List.getElem?_take
abbrev Dy:=@Array.getElem?_setIfInBounds
abbrev Dz:=@Option.map_eq_some_iff
abbrev DB:=@List.ext_getElem?
abbrev DC:=@List.nodup_append
abbrev DD:=@List.takeWhile_sublist
abbrev DE:=@List.getElem?_cons_succ
abbrev DF:=@List.mem_iff_getElem
abbrev DG:=@Int.toNat_of_nonneg
abbrev DH:=@List.eq_of_mem_replicate
abbrev DI:=@List.find?_cons_of_neg
abbrev DJ:=@List.head?_cons
abbrev DK:=@Bool.or_assoc
abbrev DL:=@List.count_append
abbrev DM:=@List.mem_append_left
abbrev DN:=@List.getElem?_drop
abbrev DO:=@List.mem_or_eq_of_mem_set
abbrev DP:=@Int.eq_ofNat_of_zero_le
abbrev DQ:=@List.getElem?_eq_none_iff
abbrev DR:=@List.filter_append
abbrev Mq:=@Array.toList_map
abbrev Mr:=@List.replicate_succ
abbrev Ms:=@List.flatten_cons
abbrev Mt:=@List.getElem?_set
abbrev Mu:=@Bool.false_eq_true
abbrev Mv:=@List.getElem?_toArray
abbrev Mw:=@List.take_append_of_le_length
abbrev Mx:=@List.drop_succ_cons
abbrev My:=@List.getElem_mem
abbrev Mz:=@Option.isSome_iff_exists
abbrev MB:=@List.cons_ne_nil
abbrev MC:=@List.foldl_append
abbrev MD:=@List.mem_cons_self
abbrev aQZ:=@Array.setIfInBounds_comm
abbrev aQ0:=@List.isPrefixOf_iff_prefix
abbrev aQ1:=@List.find?_cons_of_pos
abbrev aQ2:=@List.mem_of_find?_eq_some
abbrev aQ3:=@List.head?_eq_getElem?
end
section
inductive Ent where
 | v (x:Value)
 | t
 | f
def Ent.val:Ent->Value
 | .v x=>x
 | .t=>.bool true
 | .f=>.bool false
abbrev Env:=List (Nat×Ent)
def Env.ent:Env->Nat->Option Ent
 | [],_=>none
 | (t,x)::S,k=>match Nat.beq t k with
  | true=>some x
  | false=>Env.ent S k
def Env.get (S:Env)(k:Nat):Option Value:=
 match S.ent k with
 | some (.v x)=>some x
 | some .t=>some (.bool true)
 | some .f=>some (.bool false)
 | none=>none
def Env.ev (S:Env):Operand->Option Value
 | .tmp t=>S.get t
 | .const v=>some v
 | .global g=>some (.pointer (some ⟨g,0,none⟩))
 | .func f=>some (.func (.func f) #[] #[])
theorem nQc (S:Env)(k:Nat):S.get k=(S.ent k).map Ent.val:=by
 unfold Env.get;cases S.ent k with
 | none=>rfl
 | some e=>cases e<;>rfl
structure Slots where
 n:Nat
 ds:List Deferred:=[]
instance (k:Nat):OfNat Slots k:=⟨⟨k,[]⟩⟩
structure Fits (N:Slots) (S:Env) (a:Act):Prop where
 size:a.tmps.size=N.n
 defers:a.defers=N.ds
 has:∀k x,S.ent k=some x->a.tmps[k]? =some x.val
theorem Fits.get {N:Slots}{S:Env}{a:Act}(h:Fits N S a){k:Nat}{v:Value}(hk:S.get k=some v):a.tmps[k]? =some v:=by
 rw[nQc] at hk;cases he:S.ent k with
 | none=>simp[he] at hk
 | some e=>simp[he] at hk;subst hk;exact h.has k e he
theorem Fits.ev {N:Slots}{S:Env}{a:Act}(h:Fits N S a){x:Operand}{v:Value}(hx:S.ev x=some v):a.eval x=v:=by
 cases x with
 | tmp t=>have:=h.get hx;simp[Act.eval,this]
 | const u=>simp[Env.ev] at hx;simp[Act.eval,hx]
 | global g=>simp[Env.ev] at hx;simp[Act.eval,hx]
 | func f=>simp[Env.ev] at hx;simp[Act.eval,hx]
theorem Fits.put {N:Slots}{S:Env}{a:Act}(h:Fits N S a){d:Nat}(hd:d<N.n)(e:Ent):Fits N ((d,e)::S) (a.put (some d) e.val):=by
 refine⟨by simp[Act.put,h.size],by simp[Act.put,h.defers],λk x hk=>?_⟩;simp only[Env.ent] at hk;cases hb:Nat.beq d k with
 | true=>
  have:d=k:=Vz hb;subst this;simp only[hb] at hk;cases hk;have:d<a.tmps.size:=by rw[h.size];exact hd
  simp[Act.put,this]
 | false=>
  have QQ:d≠k:=λe=>by subst e;simp at hb
  simp only[hb] at hk;simp[Act.put,QQ,h.has k x hk]
structure TyRow where
 t:Nat
 d:TypeDesc
 sz:Nat
 by_:Nat
 z:Value
def ME (P:Program)(r:TyRow):Prop:=P.underlying r.t=some r.d/\(P.info? r.t).map (λi=>(i.size,i.bytes,i.zero))=some (r.sz,r.by_,some r.z)
def yT (P:Program)(f:FuncId):Prop:=∃fn,P.funcs[f]? =some fn/\fn.body.isNone=false/\(fn.name== "runtime.NumGoroutine")=false
structure MRow where
 t:Nat
 name:String
 f:Nat
 ptr:Bool
def DS:TypeDesc->Bool
 | .pointer _=>true
 | _=>false
def MF (P:Program)(r:MRow):Prop:=
 (P.info? r.t).bind (λi=>(i.methods.find? (·.name==r.name)).map (λm=>(m.path.isEmpty,m.func)))=some (true,some (r.f,r.ptr))/\(P.underlying r.t).map DS=some r.ptr
structure ERow where
 t:Nat
 ks:List Nat
def dL:Option TypeDesc->Nat
 | some (.int _)=>0
 | some .string=>1
 | some .bool=>2
 | _=>1000
def oN (P:Program):Nat->List Field->List Nat->Bool
 | _,[],[]=>true
 | n,f::l,k::ks=>f.name != "_" && Nat.beq f.offset n&&Nat.beq (dL (P.underlying f.type)) k&&Nat.blt k 3&&oN P (n+1) l ks
 | _,_,_=>false
def MG (P:Program)(r:ERow):Prop:=
 P.stoodInHeld r.t=false/\P.eqGuardType P.depth r.t=false/\(match P.underlying r.t with
  | some (.struct fs)=>oN P 0 fs.toList r.ks
  | _=>false)=true
structure Gx where
 P:Program
 tys:List TyRow
 fns:List Nat
 ms:List MRow:=[]
 eqs:List ERow:=[]
def yU (P:Program):List MRow->Prop
 | []=>True
 | r::l=>MF P r/\yU P l
def yV (P:Program):List ERow->Prop
 | []=>True
 | r::l=>MG P r/\yV P l
def uK:List MRow->Nat->Option MRow
 | [],_=>none
 | r::l,t=>match Nat.beq r.t t with
  | true=>some r
  | false=>uK l t
def oO:List ERow->Nat->Option ERow
 | [],_=>none
 | r::l,t=>match Nat.beq r.t t with
  | true=>some r
  | false=>oO l t
theorem aQ4 {P:Program}{l:List MRow}{t:Nat}{r:MRow}(h:uK l t=some r)(ha:yU P l):MF P r/\r.t=t:=by
 induction l with
 | nil=>cases h
 | cons x l ih=>
  simp only[uK] at h;cases hb:Nat.beq x.t t with
  | true=>simp only[hb] at h;cases h;exact⟨ha.1,Vz hb⟩
  | false=>simp only[hb] at h;exact ih h ha.2
theorem MH {P:Program}{l:List ERow}{t:Nat}{r:ERow}(h:oO l t=some r)(ha:yV P l):MG P r/\r.t=t:=by
 induction l with
 | nil=>cases h
 | cons x l ih=>
  simp only[oO] at h;cases hb:Nat.beq x.t t with
  | true=>simp only[hb] at h;cases h;exact⟨ha.1,Vz hb⟩
  | false=>simp only[hb] at h;exact ih h ha.2
def yW (P:Program):List TyRow->Prop
 | []=>True
 | r::l=>ME P r/\yW P l
def yX (P:Program):List Nat->Prop
 | []=>True
 | f::l=>yT P f/\yX P l
structure Gx.Ok (g:Gx):Prop where
 tys:yW g.P g.tys
 fns':yX g.P g.fns
 mixed:g.P.follows .mixedOrders=true
 ms:yU g.P g.ms
 eqs:yV g.P g.eqs
def QU:List TyRow->Nat->Option TyRow
 | [],_=>none
 | r::l,t=>match Nat.beq r.t t with
  | true=>some r
  | false=>QU l t
theorem aQ5 {l:List TyRow}{t:Nat}{r:TyRow}(h:QU l t=some r):r∈l/\r.t=t:=by
 induction l with
 | nil=>cases h
 | cons x l ih=>
  simp only[QU] at h;cases hb:Nat.beq x.t t with
  | true=>simp only[hb] at h;cases h;exact⟨by simp,Vz hb⟩
  | false=>simp only[hb] at h;have:=ih h;exact⟨by simp[this.1],this.2⟩
theorem Gx.Ok.row {g:Gx}(h:g.Ok){t:Nat}{r:TyRow}(hr:QU g.tys t=some r):g.P.underlying t=some r.d/\∃i,g.P.info? t=some i/\i.size=r.sz/\i.bytes=r.by_/\i.zero=some r.z:=by
 obtain⟨hm,rfl⟩:=aQ5 hr;have key:∀l,yW g.P l->r∈l->ME g.P r:=by
  intro l;induction l with
  | nil=>intro _ h;cases h
  | cons x l ih=>intro h hm;cases hm with
   | head=>exact h.1
   | tail _ hm=>exact ih h.2 hm
 obtain⟨h1,h2⟩:=key _ h.tys hm;refine⟨h1,?_⟩;cases hi:g.P.info? r.t with
 | none=>simp[hi] at h2
 | some i=>simp[hi] at h2;exact⟨i,rfl,h2.1,h2.2.1,h2.2.2⟩
theorem Gx.Ok.fns {g:Gx}(h:g.Ok):∀f∈g.fns,yT g.P f:=by
 intro f;have key:∀l,yX g.P l->f∈l->yT g.P f:=by
  intro l;induction l with
  | nil=>intro _ h;cases h
  | cons x l ih=>intro h hm;cases hm with
   | head=>exact h.1
   | tail _ hm=>exact ih h.2 hm
 exact key _ h.fns'
def fg (n:Nat):List Nat->Bool
 | []=>false
 | x::l=>match Nat.beq x n with
  | true=>true
  | false=>fg n l
theorem yY {n:Nat}{l:List Nat}(h:fg n l=true):n∈l:=by
 induction l with
 | nil=>cases h
 | cons x l ih=>
  simp only[fg] at h;cases hb:Nat.beq x n with
  | true=>have:=Vz hb;simp[this]
  | false=>simp only[hb] at h;simp[ih h]
structure Cx where
 g:Gx
 N:Slots
 named:Nat
 keep:List Nat
 cuts:List Nat:=[]
abbrev Zg:=Exit->Env->World->Prop
def Up (c:Cx)(Q:Zg):Exit->Act->World->Prop:=λe a w=>∃S,Fits c.N S a/\Q e S w
@[irreducible] def KD (b:Bool) (p q:Prop):Prop:=(b=true->p)/\(b=false->q)
@[irreducible] def be (n:Int) (K:Int->Prop):Prop:=K n
@[irreducible] def fh (p:Prop) (n:Int) (K:Int->Prop):Prop:=p/\K n
@[irreducible] def iw (p:Prop) (v:Value) (K:Value->Prop):Prop:=p/\K v
@[irreducible] def gb (w:World) (p:Addr) (K:Value->Prop):Prop:=∃v,w.cell? p=some v/\K v
@[irreducible] def jy (w:World) (p:Addr) (n:Nat) (K:List Value->Prop):Prop:=∃vs:List Value,vs.length=n/\(∀j v,vs[j]? =some v->w.cell? (p.add j)=some v)/\K vs
@[irreducible] def gc (w:World) (p:Addr) (v:Value) (K:World->Prop):Prop:=(∃u,w.cell? p=some u)/\w.frozen? p=false/\K (w.setCell p v)
@[irreducible] def oP (w:World) (t:TypeId) (cs:List Value) (K:Addr->World->Prop):Prop:=K ⟨w.heap.size,0,none⟩ (w.alloc (.cells cs.toArray t))
@[irreducible] def jz (P:Program) (w:World) (p:Addr) (vs:List Value) (K:World->Prop):Prop:=∃w',(storeCells p vs).run P w= .ok () w'/\K w'
@[irreducible] def MI (a b:String) (K:Prop):Prop:=a=b/\K
@[irreducible] def Y4 (b:Option Addr) (n:Nat) (i:Int) (sz:Nat) (K:Addr->Prop):Prop:=∃a,b=some a/\0<=i/\i<n/\K (a.add (i.toNat*sz))
@[irreducible] def dM (s:ByteArray) (i:Int) (K:Int->Prop):Prop:=∃b,0<=i/\s[i.toNat]? =some b/\K (b.toNat:Int)
@[irreducible] def Fn (P:Program) (f:FuncId) (l:List Value) (w:World) (R:Value->World->Prop):Prop:=Calls P f l.toArray w fun
 | .returned v,w'=>R v w'
 | _,_=>False
@[irreducible] def gf (P:Program) (f:FuncId) (l:List Value) (w:World) (K:Value->World->Prop) (Xi:List PanicEntry->World->Prop):Prop:=Calls P f l.toArray w fun
 | .returned v,w'=>K v w'
 | .panicked ch,w'=>Xi ch w'
 | .outgrown,_=>False
@[irreducible] def MJ (c:Cx) (nm:String) (t:Nat) (l:List Value) (w:World) (K:Value->World->Prop) (Xi:List PanicEntry->World->Prop):Prop:=
 ∃r,uK c.g.ms t=some r/\nm=r.name/\fg r.f c.g.fns=true/\gf c.g.P r.f l w K Xi
@[irreducible] def X8 (c:Cx) (o:Oper) (S:Env) (w:World) (K:Env->World->Prop) (Q:Zg):Prop:=
 ∀a,Fits c.N S a->o.wp c.g.P a w (λa' w'=>∃S',Fits c.N S' a'/\K S' w') (Up c Q)
@[irreducible] def WV (c:Cx) (id:Nat) (ops:List Oper) (S:Env) (w:World) (Q:Zg):Prop:=
 ∀a,Fits c.N S a->(Code.region id ops.toArray true).wp c.g.P (Up c Q) a w
@[irreducible] def yZ (c:Cx) (x:Code) (S:Env) (w:World) (Q:Zg):Prop:=
 ∀a,Fits c.N S a->(Code.loop x).wp c.g.P (Up c Q) a w
@[irreducible] def jA (c:Cx) (x:Code) (S:Env) (w:World) (Q:Zg):Prop:=
 ∀a,Fits c.N S a->x.wp c.g.P (Up c Q) a w
inductive PR where
 | val (v:Value)
 | ent (e:Ent)
 | norm (k:IntKind) (n:Int)
 | normIf (p:Prop) (k:IntKind) (n:Int)
 | need (p:Prop) (v:Value)
 | no
def rC:List Value->Nat->Option Value
 | [],_=>none
 | x::_,0=>some x
 | _::l,n+1=>rC l n
theorem ML (l:List Value)(n:Nat):rC l n=l[n]? :=by
 induction l generalizing n with
 | nil=>simp[rC]
 | cons x l ih=>cases n<;>simp[rC,ih]
def oQ:IntKind->Nat
 | .i8=>0 | .i16=>1 | .i32=>2 | .i64=>3 | .u8=>4 | .u16=>5 | .u32=>6 | .u64=>7
theorem MM {a b:IntKind}(h:Nat.beq (oQ a) (oQ b)=true):a=b:=by
 have:=Vz h;cases a<;>cases b<;>first | rfl | (simp[oQ] at this)
def DT (op:BinOp)(k:IntKind)(x y:Int):PR:=
 match op with
 | .add=>.norm k (k.wrap (x+y))
 | .sub=>.norm k (k.wrap (x-y))
 | .mul=>.norm k (k.wrap (x*y))
 | .quo=>.normIf (y≠0) k (k.wrap (x.tdiv y))
 | .rem=>.normIf (y≠0) k (x.tmod y)
 | .and=>.norm k (k.wrap ((BitVec.ofInt k.bits x &&& BitVec.ofInt k.bits y).toNat))
 | .or=>.norm k (k.wrap ((BitVec.ofInt k.bits x ||| BitVec.ofInt k.bits y).toNat))
 | .xor=>.norm k (k.wrap ((BitVec.ofInt k.bits x^^^BitVec.ofInt k.bits y).toNat))
 | .andNot=>.norm k (k.wrap ((BitVec.ofInt k.bits x &&& ~~~ BitVec.ofInt k.bits y).toNat))
 | .eql=>.val (.bool (x==y))
 | .neq=>.val (.bool (x !=y))
 | .lss=>.val (.bool (decide (x<y)))
 | .leq=>.val (.bool (decide (x<=y)))
 | .gtr=>.val (.bool (decide (x>y)))
 | .geq=>.val (.bool (decide (x≥y)))
 | _=>.no
def DU (op:BinOp)(k:IntKind)(x:Int)(k':IntKind)(y:Int):PR:=
 match op with
 | .shl=>.normIf (0<=y) k (k.wrap (x*2^(min y.toNat k.bits)))
 | .shr=>.normIf (0<=y) k (x.fdiv (2^(min y.toNat k.bits)))
 | op=>match Nat.beq (oQ k) (oQ k')with
  | true=>DT op k x y
  | false=>.no
def DW (op:BinOp)(x y:ByteArray):PR:=
 match op with
 | .add=>.need (x.size+y.size<=maxLen) (.string (x++y))
 | .eql=>.val (.bool (decide (x=y)))
 | .neq=>.val (.bool (!decide (x=y)))
 | .lss=>.val (.bool (Op.bytesLess x.data.toList y.data.toList))
 | _=>.no
def DX:TypeDesc->Value->PR
 | .string,.string s=>.val (.int .i64 s.size)
 | .slice _,.slice _ n _=>.val (.int .i64 n)
 | _,_=>.no
def iy:TypeDesc->Value->Value->Option Bool
 | .bool,.bool a,.bool b=>some (a==b)
 | .slice _,.slice none _ _,.slice b _ _=>some b.isNone
 | .slice _,.slice (some _) _ _,.slice none _ _=>some false
 | .map _ _,.map none,.map b=>some b.isNone
 | .map _ _,.map (some _),.map none=>some false
 | .pointer _,.pointer none,.pointer b=>some b.isNone
 | .pointer _,.pointer (some _),.pointer none=>some false
 | .interface _,.nilIface,.iface _ _=>some false
 | .interface _,.iface _ _,.nilIface=>some false
 | .func _ _ _,.nilFunc,.nilFunc=>some true
 | .func _ _ _,.nilFunc,.func _ _ _=>some false
 | .func _ _ _,.func _ _ _,.nilFunc=>some false
 | _,_,_=>none
def cL:List Nat->List Value->List Value->Option Bool
 | [],[],[]=>some true
 | 0::ks,.int k a::xs,.int k' b::ys=>match Nat.beq (oQ k) (oQ k'),cL ks xs ys with
  | true,some r=>some (a==b&&r)
  | _,_=>none
 | 1::ks,.string a::xs,.string b::ys=>match cL ks xs ys with
  | some r=>some (decide (a=b)&&r)
  | none=>none
 | 2::ks,.bool a::xs,.bool b::ys=>match cL ks xs ys with
  | some r=>some (a==b&&r)
  | none=>none
 | _,_,_=>none
def oS (op:BinOp)(r:Option Bool):PR:=
 match op,r with
 | .eql,some b=>.val (.bool b)
 | .neq,some b=>.val (.bool (!b))
 | _,_=>.no
def lR {α:Type}:List α->Nat->Option α
 | [],_=>none
 | x::_,0=>some x
 | _::l,n+1=>lR l n
def oT:TypeDesc->Bool
 | .struct _=>true
 | .array _ _=>true
 | _=>false
def MN:TypeDesc->Bool
 | .interface _=>true
 | _=>false
def JN:Value->List Value
 | .agg cs=>cs.toList
 | v=>[v]
def uL:List Value->List Value->List Value
 | [],cs=>cs
 | v::vs,_::cs=>v::uL vs cs
 | _::_,[]=>[]
def KV:Nat->List Value->List Value->List Value
 | 0,vs,cs=>uL vs cs
 | n+1,vs,c::cs=>c::KV n vs cs
 | _+1,_,[]=>[]
def uM (g:Gx):List Field->Option (List (Nat×Nat))
 | []=>some []
 | f::l=>match QU g.tys f.type,uM g l with
  | some r,some m=>some ((f.offset,r.sz)::m)
  | _,_=>none
def rD (ps:Nat->Option (Nat×Nat)):List Value->List (Nat×Value)->Option (List Value)
 | cells,[]=>some cells
 | cells,(i,v)::rest=>match ps i with
  | some (off,sz)=>(match Nat.beq (JN v).length sz,Nat.ble (off+(JN v).length) cells.length with
   | true,true=>rD ps (KV off (JN v) cells) rest
   | _,_=>none)
  | none=>none
def oU (S:Env):List Operand->Option (List Value)
 | []=>some []
 | x::l=>match S.ev x,oU S l with
  | some v,some m=>some (v::m)
  | _,_=>none
def rF (S:Env):List (Nat×Operand)->Option (List (Nat×Value))
 | []=>some []
 | (i,x)::l=>match S.ev x,rF S l with
  | some v,some m=>some ((i,v)::m)
  | _,_=>none
def jB (S:Env)(d:Int):Option Operand->Option Int
 | none=>some d
 | some x=>match S.ev x with
  | some (.int _ n)=>some n
  | _=>none
def rG (g:Gx)(S:Env):Op->PR
 | .move (.const (.bool true)) | .assign (.const (.bool true))=>.ent .t
 | .move (.const (.bool false)) | .assign (.const (.bool false))=>.ent .f
 | .move (.tmp t) | .assign (.tmp t)=>match S.ent t with
  | some e=>.ent e
  | none=>.no
 | .move x | .assign x=>match S.ev x with
  | some v=>.val v
  | none=>.no
 | .pick (.tmp t) a b=>match S.ent t with
  | some .t=>(match a with
   | .const (.bool true)=>.ent .t
   | .const (.bool false)=>.ent .f
   | .tmp u=>(match S.ent u with
    | some e=>.ent e
    | none=>.no)
   | a=>match S.ev a with
    | some v=>.val v
    | none=>.no)
  | some .f=>(match b with
   | .const (.bool true)=>.ent .t
   | .const (.bool false)=>.ent .f
   | .tmp u=>(match S.ent u with
    | some e=>.ent e
    | none=>.no)
   | b=>match S.ev b with
    | some v=>.val v
    | none=>.no)
  | _=>.no
 | .binOp op t x y _=>match S.ev x,S.ev y with
  | some (.int k a),some (.int k' b)=>DU op k a k' b
  | some (.string a),some (.string b)=>DW op a b
  | some (.agg a),some (.agg b)=>(match oO g.eqs t with
   | some r=>oS op (cL r.ks a.toList b.toList)
   | none=>.no)
  | some a,some b=>(match QU g.tys t with
   | some r=>oS op (iy r.d a b)
   | none=>.no)
  | _,_=>.no
 | .unOp .not _ (.tmp t)=>match S.ent t with
  | some .t=>.ent .f
  | some .f=>.ent .t
  | some (.v (.bool b))=>.val (.bool (!b))
  | _=>.no
 | .unOp .neg _ x=>match S.ev x with
  | some (.int k n)=>.norm k (k.wrap (0-n))
  | _=>.no
 | .convert s t x=>match QU g.tys s,QU g.tys t,S.ev x with
  | some _,some ⟨_,.int k,_,_,_⟩,some (.int _ n)=>.norm k (k.wrap n)
  | some _,some ⟨_,.string,_,_,_⟩,some (.string s)=>.val (.string s)
  | _,_,_=>.no
 | .extract x i=>match S.ev x with
  | some (.tuple vs)=>(match rC vs.toList i with
   | some v=>.val v
   | none=>.no)
  | _=>.no
 | .call ⟨.builtin .len,xs,ts⟩=>match xs.toList,ts.toList with
  | [x],[t]=>(match QU g.tys t,S.ev x with
   | some r,some v=>DX r.d v
   | _,_=>.no)
  | _,_=>.no
 | .call ⟨.builtin .min,xs,_⟩=>match xs.toList with
  | [x,y]=>(match S.ev x,S.ev y with
   | some (.int k a),some (.int _ b)=>.norm k (if b<a then b else a)
   | _,_=>.no)
  | [x,y,z]=>(match S.ev x,S.ev y,S.ev z with
   | some (.int k a),some (.int _ b),some (.int _ c)=>.norm k (if c<(if b<a then b else a)then c else(if b<a then b else a))
   | _,_,_=>.no)
  | _=>.no
 | .call ⟨.builtin .max,xs,_⟩=>match xs.toList with
  | [x,y]=>(match S.ev x,S.ev y with
   | some (.int k a),some (.int _ b)=>.norm k (if b>a then b else a)
   | _,_=>.no)
  | _=>.no
 | .nilCheck x=>match S.ev x with
  | some (.pointer (some p))=>.val (.pointer (some p))
  | some (.iface t v)=>.val (.iface t v)
  | some (.func (.func n) a b)=>.val (.func (.func n) a b)
  | _=>.no
 | .fieldAddr t x k=>match QU g.tys t,S.ev x with
  | some r,some (.pointer (some p))=>(match r.d with
   | .struct fs=>(match lR fs.toList k with
    | some f=>(match QU g.tys f.type with
     | some rf=>(match Nat.beq rf.sz 0 with
      | false=>.val (.pointer (some (p.add f.offset)))
      | true=>.no)
     | none=>.no)
    | none=>.no)
   | _=>.no)
  | _,_=>.no
 | .field t x k=>match QU g.tys t,S.ev x with
  | some r,some (.agg cs)=>(match r.d with
   | .struct fs=>(match lR fs.toList k with
    | some f=>(match QU g.tys f.type with
     | some rf=>(match oT rf.d with
      | true=>.val (.agg ((cs.toList.drop f.offset).take rf.sz).toArray)
      | false=>(match rC cs.toList f.offset with
       | some v=>.val v
       | none=>.no))
     | none=>.no)
    | none=>.no)
   | _=>.no)
  | _,_=>.no
 | .build t parts=>match QU g.tys t,rF S parts.toList with
  | some r,some ps=>(match r.d with
   | .struct fs=>(match uM g fs.toList with
    | some pl=>(match rD (lR pl) r.z.cells.toList ps with
     | some cs=>.val (.agg cs.toArray)
     | none=>.no)
    | none=>.no)
   | .array _ e=>(match QU g.tys e with
    | some re=>(match rD (λi=>some (i*re.sz,re.sz)) r.z.cells.toList ps with
     | some cs=>.val (.agg cs.toArray)
     | none=>.no)
    | none=>.no)
   | _=>.no)
  | _,_=>.no
 | .makeInterface t x=>match QU g.tys t,S.ev x with
  | some r,some v=>(match MN r.d with
   | false=>.val (.iface t v)
   | true=>.no)
  | _,_=>.no
 | .makeFunc f xs ys=>match oU S xs.toList,oU S ys.toList with
  | some a,some b=>.val (.func f a.toArray b.toArray)
  | _,_=>.no
 | .slice t x lo hi none=>match QU g.tys t,S.ev x with
  | some ⟨_,.string,_,_,_⟩,some (.string s)=>(match jB S 0 lo,jB S s.size hi with
   | some l,some h=>.need (0<=l/\l<=h/\h<=s.size) (.string (s.extract l.toNat h.toNat))
   | _,_=>.no)
  | _,_=>.no
 | _=>.no
def PR.Means (w:World)(r:Result Next):PR->Prop
 | .val v=>r= .ok (.value v) w
 | .ent e=>r= .ok (.value e.val) w
 | .norm k n=>r= .ok (.value (.int k n)) w
 | .normIf p k n=>p->r= .ok (.value (.int k n)) w
 | .need p v=>p->r= .ok (.value v) w
 | .no=>True
section
variable {g:Gx} {S:Env} {w:World} {ρ:Operand->Value}
theorem aQ6 (op:BinOp)(t:TypeId)(k:IntKind)(x y:Int)(h1:op≠ .shl)(h2:op≠ .shr):
  (DT op k x y).Means w (((binOp op t (.int k x) (.int k y)).run g.P w).andThen λv w=>.ok (.value v) w):=by
 cases op<;>first | (exact Q8 rfl h1) | (exact Q8 rfl h2) | skip
 all_goals simp[DT,PR.Means,binOp,Op.intArith,Op.intBits,Op.intCmp,Op.intDiv]
 all_goals (intro h;simp[h])
theorem aQ7 (op:BinOp)(t:TypeId)(k k':IntKind)(x y:Int):
  (DU op k x k' y).Means w (((binOp op t (.int k x) (.int k' y)).run g.P w).andThen λv w=>.ok (.value v) w):=by
 unfold DU;split
 ·intro h;simp only[binOp,Op.shift];rw[if_neg (by omega)];simp
 ·intro h;simp only[binOp,Op.shift];rw[if_neg (by omega)];simp
 ·rename_i h1 h2;split
  ·rename_i hk;have:=MM hk;subst this;exact aQ6 op t k x y h1 h2
  ·trivial
theorem uN (a b:ByteArray):(a.toList==b.toList)=decide (a=b):=by
 rw[oE];simp[ByteArray.toList_eq];constructor
 ·intro h;cases a;cases b;simp_all
 ·intro h;rw[h]
theorem aQ8 (op:BinOp)(t:TypeId)(x y:ByteArray):
  (DW op x y).Means w (((binOp op t (.string x) (.string y)).run g.P w).andThen λv w=>.ok (.value v) w):=by
 unfold DW;split<;>simp only[PR.Means]
 ·intro h;have:¬((x.size+y.size:Nat):Int)>IntKind.i64.max:=by
   have h2:IntKind.i64.max=9223372036854775807:=by decide
   rw[h2];unfold maxLen at h;omega
  simp only[binOp,Op.stringOp];rw[if_neg this];simp
 ·simp[binOp,Op.stringOp,uN]
 ·simp[binOp,Op.stringOp,uN]
 ·simp[binOp,Op.stringOp,ByteArray.toList_eq]
theorem YJ (hg:g.Ok){t:Nat}{r:TyRow}(hr:QU g.tys t=some r)(w:World):(underlying t).run g.P w= .ok r.d w:=
 ZL (hg.row hr).1 w
theorem aQ9 (hg:g.Ok){t:Nat}{r:TyRow}(hr:QU g.tys t=some r)(ty:TypeId)(v:Value):
  (DX r.d v).Means w (((Builtin.len_ #[t] ty #[v]).run g.P w).andThen λv w=>.ok (.value v) w):=by
 have hu:=YJ hg hr w;unfold DX;split<;>simp only[PR.Means]
 ·rename_i h;simp[Builtin.len_,hu,h,goInt]
 ·rename_i h;simp[Builtin.len_,hu,h,goInt]
theorem bQa (hg:g.Ok){t:Nat}{r:TyRow}(hr:QU g.tys t=some r){x y:Value}{b:Bool}(h:iy r.d x y=some b)(n:Nat):
  (Op.equalIn (n+1) t x y).run g.P w= .ok b w:=by
 have hu:=YJ hg hr w;unfold iy at h;split at h<;>first | (simp only[Option.some.injEq] at h;subst h;rename_i hd;simp[Op.equalIn,hu,hd];done) | cases h
theorem MO (hg:g.Ok){t:Nat}{r:TyRow}(hr:QU g.tys t=some r){x y:Value}{b:Bool}(h:iy r.d x y=some b):
  (Op.equal t x y).run g.P w= .ok b w:=bQa hg hr h 9999
theorem bQb (op:BinOp)(t:TypeId)(x y:Operand){d:TypeDesc}{a b:Value}{r:Bool}(h:iy d a b=some r):eqGuard op t x y a b=pure ():=by
 unfold iy at h;split at h<;>first | (simp only[eqGuard];split<;>rfl) | cases h
theorem bQc (hg:g.Ok)(op:BinOp){t:Nat}{r:TyRow}(hr:QU g.tys t=some r)(x y:Value):
  (oS op (iy r.d x y)).Means w (((binOp op t x y).run g.P w).andThen λv w=>.ok (.value v) w):=by
 unfold oS;split
 ·rename_i b hb;have h:=MO (w:=w) hg hr hb;have e:binOp .eql t x y=(do pure (.bool (<-Op.equal t x y))):=by
   unfold iy at hb;split at hb<;>first | rfl | cases hb
  simp[PR.Means,e,h]
 ·rename_i b hb;have h:=MO (w:=w) hg hr hb;have e:binOp .neq t x y=(do pure (.bool (!(<-Op.equal t x y)))):=by
   unfold iy at hb;split at hb<;>first | rfl | cases hb
  simp[PR.Means,e,h]
 ·trivial
theorem bQd {P:Program}{t:TypeId}(h:dL (P.underlying t)<3)(w:World):(isAgg t).run P w= .ok false w:=by
 cases hu:P.underlying t with
 | none=>rw[hu] at h;simp[dL] at h
 | some d=>
  simp only[isAgg,Sem.run_bind,ZL hu,Result.andThen_ok];rw[hu] at h;cases d<;>first | rfl | (simp[dL] at h)
theorem bS {P:Program}{t:TypeId}(h:dL (P.underlying t)<3){cs:Array Value}{n:Nat}{v:Value}(hv:cs[n]? =some v)(w:World):(part t cs n).run P w= .ok v w:=by
 simp[part,bQd h,hv]
theorem DY {P:Program}{xs ys:Array Value}:∀(fs:List Field)(ks:List Nat)(n:Nat)(xl yl:List Value)(b:Bool),oN P n fs ks=true->cL ks xl yl=some b->
  (∀j,xl[j]? =xs[n+j]?)->(∀j,yl[j]? =ys[n+j]?)->∀(d:Nat) (w:World),(Op.eqFields (d+1) xs ys fs).run P w= .ok b w
 | [],[],n,[],[],b,_,h,_,_,d,w=>by
  simp only[cL,Option.some.injEq] at h;subst h;simp[Op.eqFields]
 | [],[],_,[],_::_,_,_,h,_,_,_,_=>by simp[cL] at h
 | [],[],_,_::_,_,_,_,h,_,_,_,_=>by simp[cL] at h
 | [],_::_,_,_,_,_,hb,_,_,_,_,_=>by simp[oN] at hb
 | _::_,[],_,_,_,_,hb,_,_,_,_,_=>by simp[oN] at hb
 | f::fs,k::ks,n,xl,yl,b,hb,h,hx,hy,d,w=>by
  simp only[oN,JL,bne_iff_ne,ne_eq] at hb;obtain⟨⟨⟨⟨xG,av⟩,hk⟩,iW⟩,IX⟩:=hb;have av:=Vz av;have hk:=Vz hk;have iW:k<3:=by rw[jv] at iW;exact iW
  have Xc:dL (P.underlying f.type)<3:=by omega
  have step:∀(u v:Value) (xt yt:List Value) (e r:Bool),xl=u::xt->yl=v::yt->cL ks xt yt=some r->(Op.equalIn (d+1) f.type u v).run P w= .ok e w->
    (Op.eqFields (d+1) xs ys (f::fs)).run P w= .ok (e&&r) w:=by
   rintro u v xt yt e r rfl rfl hr he;have hu:xs[f.offset]? =some u:=by rw[av];simpa using (hx 0).symm
   have hv:ys[f.offset]? =some v:=by rw[av];simpa using (hy 0).symm
   have ih:=DY fs ks (n+1) xt yt r IX hr (λj=>by have:=hx (j+1);simpa [oF,Nat.add_comm 1 j] using this) (λj=>by have:=hy (j+1);simpa [oF,Nat.add_comm 1 j] using this) d w;simp only[Op.eqFields,ne_eq,xG,not_false_eq_true,if_true,Sem.run_bind,bS Xc hu,bS Xc hv,Result.andThen_ok,he];cases e with
   | true=>simpa using ih
   | false=>simp
  unfold cL at h;split at h
  ·simp at*
  ·rename_i ks' k1 a xt k2 b2 yt g9;simp only[List.cons.injEq] at g9;obtain⟨rfl,rfl⟩:=g9;split at h
   ·rename_i r h1 h2;have:=MM h1;subst this;simp only[Option.some.injEq] at h;subst h;cases hu:P.underlying f.type with
    | none=>rw[hu] at hk;simp[dL] at hk
    | some dd=>rw[hu] at hk;cases dd<;>first | (exact step _ _ _ _ _ _ rfl rfl h2 (run_equalIn_int w d f.type _ _ _ _ hu)) | (simp[dL] at hk)
   ·cases h
  ·rename_i ks' a xt b2 yt g9;simp only[List.cons.injEq] at g9;obtain⟨rfl,rfl⟩:=g9;split at h
   ·rename_i r h2;simp only[Option.some.injEq] at h;subst h;cases hu:P.underlying f.type with
    | none=>rw[hu] at hk;simp[dL] at hk
    | some dd=>rw[hu] at hk;cases dd<;>first | (refine step _ _ _ _ _ _ rfl rfl h2 ?_;rw[run_equalIn_string w d f.type _ _ hu,uN];done) | (simp[dL] at hk)
   ·cases h
  ·rename_i ks' a xt b2 yt g9;simp only[List.cons.injEq] at g9;obtain⟨rfl,rfl⟩:=g9;split at h
   ·rename_i r h2;simp only[Option.some.injEq] at h;subst h;cases hu:P.underlying f.type with
    | none=>rw[hu] at hk;simp[dL] at hk
    | some dd=>rw[hu] at hk;cases dd<;>first | (exact step _ _ _ _ _ _ rfl rfl h2 (run_equalIn_bool' w d f.type _ _ hu)) | (simp[dL] at hk)
   ·cases h
  ·cases h
theorem MQ (hg:g.Ok){t:Nat}{r:ERow}(hr:oO g.eqs t=some r){xs ys:Array Value}{b:Bool}(h:cL r.ks xs.toList ys.toList=some b)(n:Nat):
  (Op.equalIn (n+2) t (.agg xs) (.agg ys)).run g.P w= .ok b w:=by
 obtain⟨⟨h1,_,h3⟩,rfl⟩:=MH hr hg.eqs;split at h3
 ·rename_i fs hu;have hf:g.P.fieldsOf r.t=fs:=by simp[Program.fieldsOf,hu]
  rw[run_equalIn_struct w (n+1) r.t xs ys (by rw[hf];exact hu) h1,hf];exact DY fs.toList r.ks 0 _ _ b h3 h (λj=>by simp) (λj=>by simp) n w
 ·cases h3
theorem bQe (hg:g.Ok)(op:BinOp){t:Nat}{r:ERow}(hr:oO g.eqs t=some r)(x y:Operand)(xs ys:Array Value):
  (oS op (cL r.ks xs.toList ys.toList)).Means w (((eqGuard op t x y (.agg xs) (.agg ys)).run g.P w).andThen λ_ w=>((binOp op t (.agg xs) (.agg ys)).run g.P w).andThen λv w=>.ok (.value v) w):=by
 have Kx:∀op,(eqGuard op t x y (.agg xs) (.agg ys)).run g.P w= .ok () w:=λop=>by
  obtain⟨⟨_,h2,_⟩,rfl⟩:=MH hr hg.eqs;exact run_eqGuard_agg w op r.t x y xs ys h2
 unfold oS;split
 ·rename_i b hb;have h:=MQ (w:=w) hg hr hb 9998;simp only[PR.Means,Kx,Result.andThen_ok,run_eql_struct];rw[h]<;>rfl
 ·rename_i b hb;have h:=MQ (w:=w) hg hr hb 9998;simp only[PR.Means,Kx,Result.andThen_ok,run_neq_struct];rw[h]<;>rfl
 ·trivial
theorem MR {α:Type}{xs:Array α}{x:α}(h:xs.toList=[x]):xs= #[x]:=by
 cases xs;simp_all
theorem MS {α:Type}{xs:Array α}{x y:α}(h:xs.toList=[x,y]):xs= #[x,y]:=by
 cases xs;simp_all
theorem bQf {α:Type}{xs:Array α}{x y z:α}(h:xs.toList=[x,y,z]):xs= #[x,y,z]:=by
 cases xs;simp_all
theorem DZ {α:Type}(l:List α)(n:Nat):lR l n=l[n]? :=by
 induction l generalizing n with
 | nil=>simp[lR]
 | cons x l ih=>cases n<;>simp[lR,ih]
theorem oV (v:Value):v.cells.toList=JN v:=by cases v<;>rfl
theorem MT (vs:List Value)(v:Value):∀(n:Nat)(l:List Value),KV (n+1) vs (l.set n v)=KV n (v::vs) l
 | 0,[]=>rfl
 | 0,_::_=>rfl
 | _+1,[]=>rfl
 | n+1,c::l=>by
  show c::KV (n+1) vs (l.set n v)=c::KV n (v::vs) l;rw[MT vs v n l]
theorem MU:∀(n:Nat)(l:List Value),KV n [] l=l
 | 0,_=>rfl
 | _+1,[]=>rfl
 | n+1,c::l=>by
  show c::KV n [] l=c::l;rw[MU n l]
theorem MV (off:Nat):∀(vs:List Value)(k:Nat)(l:List Value),
  (vs.zipIdx k).foldl (λcs (p:Value×Nat)=>cs.set (off+p.2) p.1) l=KV (off+k) vs l
 | [],_,_=>(MU _ _).symm
 | v::vs,k,l=>by
  rw[List.zipIdx_cons,yE,MV off vs (k+1)];exact MT vs v (off+k) l
theorem MW (off:Nat)(vs cells:Array Value):
  (vs.zipIdx.foldl (λcs (c,j)=>cs.setIfInBounds (off+j) c) cells).toList=KV off vs.toList cells.toList:=by
 have h:=MV off vs.toList 0 cells.toList;rw[Nat.add_zero] at h;rw[<-Array.foldl_toList,Array.toList_zipIdx,<-h];clear h;generalize vs.toList.zipIdx 0=l;induction l generalizing cells with
 | nil=>rfl
 | cons p l ih=>simp only[yE];rw[ih];simp
theorem D0 (ps:Nat->Option (Nat×Nat)):∀(parts:List (Nat×Value))(cells:Array Value)(out:List Value),rD ps cells.toList parts=some out->Instr.fill ps cells parts=some out.toArray
 | [],cells,out,h=>by
  simp only[rD,Option.some.injEq] at h;subst h;simp[Instr.fill]
 | (i,v)::rest,cells,out,h=>by
  simp only[rD] at h;split at h
  ·rename_i off sz hp;split at h
   ·rename_i h1 h2;have h1:=Vz h1;have h2:=fZ h2;have e1:v.cells.size=sz:=by rw[<-h1,<-oV];simp
    have e2:off+v.cells.size<=cells.size:=by rw[e1,<-h1];simpa using h2
    simp only[Instr.fill,hp];rw[if_neg (by simp;omega)];refine D0 ps rest _ out ?_;rw[MW,oV];exact h
   ·cases h
  ·cases h
theorem MY (hg:g.Ok):∀(l:List Field)(m:List (Nat×Nat)),uM g l=some m->
  (l.mapM (m:=Sem) λf=>Prod.mk f.offset <$> sizeOf f.type).run g.P w= .ok m w
 | [],m,h=>by simp only[uM,Option.some.injEq] at h;subst h;simp
 | f::l,m,h=>by
  simp only[uM] at h;split at h
  ·rename_i r m' hr hm;simp only[Option.some.injEq] at h;subst h;obtain⟨_,i,hi,hs,_⟩:=hg.row hr;have ih:=MY hg l m' hm;have hz:(sizeOf f.type).run g.P w= .ok r.sz w:=by simp[sizeOf,typeInfo,hi,hs]
   rw[List.mapM_cons];simp[hz,ih]
  ·cases h
theorem y8 {ρ:Operand->Value}(hρ:∀x v,S.ev x=some v->ρ x=v):∀(l:List Operand)(m:List Value),oU S l=some m->l.map ρ=m
 | [],m,h=>by simp only[oU,Option.some.injEq] at h;subst h;rfl
 | x::l,m,h=>by
  simp only[oU] at h;split at h
  ·rename_i v m' hv hm;simp only[Option.some.injEq] at h;subst h;rw[Y0,hρ _ _ hv,y8 hρ l m' hm]
  ·cases h
theorem D3 {ρ:Operand->Value}(hρ:∀x v,S.ev x=some v->ρ x=v):∀(l:List (Nat×Operand))(m:List (Nat×Value)),rF S l=some m->l.map (λ(i,x)=>(i,ρ x))=m
 | [],m,h=>by simp only[rF,Option.some.injEq] at h;subst h;rfl
 | (i,x)::l,m,h=>by
  simp only[rF] at h;split at h
  ·rename_i v m' hv hm;simp only[Option.some.injEq] at h;subst h;rw[Y0,D3 hρ l m' hm];show(i,ρ x)::m'=_;rw[hρ _ _ hv]
  ·cases h
theorem MZ {ρ:Operand->Value}(hρ:∀x v,S.ev x=some v->ρ x=v){x:Operand}{n:Int}{d:Int}(h:jB S d (some x)=some n)(y:Nat)(hn:0<=n/\n<=y)(code:BoundsCode):
  (Instr.sliceBound (ρ x) y code).run g.P w= .ok n.toNat w:=by
 unfold jB at h;simp only at h;split at h
 ·rename_i k m hv;simp only[Option.some.injEq] at h;subst h;rw[hρ _ _ hv];simp[Instr.sliceBound,asIntOf,hn]
 ·cases h
theorem bQg {ρ:Operand->Value}(hρ:∀x v,S.ev x=some v->ρ x=v){lo hi:Option Operand}{l h:Int}{n:Nat}(h1:jB S 0 lo=some l)(h2:jB S n hi=some h)(hp:0<=l/\l<=h/\h<=n):
  (Instr.sliceBounds false n n (lo.map ρ) (hi.map ρ) none).run g.P w= .ok (l.toNat,h.toNat,n) w:=by
 have e1:∀x,lo=some x->∀y:Nat,h=(y:Int)->∀code,(Instr.sliceBound (ρ x) y code).run g.P w= .ok l.toNat w:=λx hx y hy code=>
  MZ hρ (d:=0) (by rw[<-hx];exact h1) y ⟨hp.1,by omega⟩ code
 have e2:∀x,hi=some x->∀code,(Instr.sliceBound (ρ x) n code).run g.P w= .ok h.toNat w:=λx hx code=>
  MZ hρ (d:=n) (by rw[<-hx];exact h2) n ⟨by omega,hp.2.2⟩ code
 have hn:h=((h.toNat:Nat):Int):=by omega
 cases lo with
 | none=>
  have:l=0:=by simpa [jB] using h1.symm
  subst this;cases hi with
  | none=>
   have:h=n:=by simpa [jB] using h2.symm
   subst this;simp[Instr.sliceBounds]
  | some y=>simp[Instr.sliceBounds,e2 y rfl]
 | some x=>
  cases hi with
  | none=>
   have:h=n:=by simpa [jB] using h2.symm
   subst this;simp[Instr.sliceBounds,e1 x rfl n rfl]
  | some y=>simp[Instr.sliceBounds,e2 y rfl,e1 x rfl _ hn]
theorem bQh (hg:g.Ok)(hρ:∀x v,S.ev x=some v->ρ x=v)(o:Oper):
  (rG g S o.op).Means w ((execOp ρ o).run g.P w):=by
 obtain⟨dst,op,ty,pos,aft,gd⟩:=o;simp only;have lk:∀t e,S.ent t=some e->ρ (.tmp t)=e.val:=λt e h=>hρ _ _ (by
  simp only[Env.ev,Env.get];rw[h];cases e<;>rfl)
 unfold rG;split
 ·have:=hρ (.const (.bool true)) _ rfl;simp[PR.Means,execOp,this,Ent.val]
 ·have:=hρ (.const (.bool true)) _ rfl;simp[PR.Means,execOp,this,Ent.val]
 ·have:=hρ (.const (.bool false)) _ rfl;simp[PR.Means,execOp,this,Ent.val]
 ·have:=hρ (.const (.bool false)) _ rfl;simp[PR.Means,execOp,this,Ent.val]
 ·split
  ·rename_i e h;simp[PR.Means,execOp,lk _ _ h]
  ·trivial
 ·split
  ·rename_i e h;simp[PR.Means,execOp,lk _ _ h]
  ·trivial
 ·split
  ·rename_i e h;simp[PR.Means,execOp,hρ _ _ h]
  ·trivial
 ·split
  ·rename_i e h;simp[PR.Means,execOp,hρ _ _ h]
  ·trivial
 ·rename_i t a b;split
  ·rename_i h;have h1:=lk _ _ h;split
   ·have:=hρ (.const (.bool true)) _ rfl;simp[PR.Means,execOp,h1,this,Ent.val,asBool]
   ·have:=hρ (.const (.bool false)) _ rfl;simp[PR.Means,execOp,h1,this,Ent.val,asBool]
   ·split
    ·rename_i h2;simp[PR.Means,execOp,h1,lk _ _ h2,Ent.val,asBool]
    ·trivial
   ·split
    ·rename_i h2;simp[PR.Means,execOp,h1,hρ _ _ h2,Ent.val,asBool]
    ·trivial
  ·rename_i h;have h1:=lk _ _ h;split
   ·have:=hρ (.const (.bool true)) _ rfl;simp[PR.Means,execOp,h1,this,Ent.val,asBool]
   ·have:=hρ (.const (.bool false)) _ rfl;simp[PR.Means,execOp,h1,this,Ent.val,asBool]
   ·split
    ·rename_i h2;simp[PR.Means,execOp,h1,lk _ _ h2,Ent.val,asBool]
    ·trivial
   ·split
    ·rename_i h2;simp[PR.Means,execOp,h1,hρ _ _ h2,Ent.val,asBool]
    ·trivial
  ·trivial
 ·split
  ·rename_i hx hy;have:=aQ7 (g:=g) (w:=w);simp only[execOp,hρ _ _ hx,hρ _ _ hy,eqGuard];split<;>simpa using this _ _ _ _ _ _
  ·rename_i hx hy;have:=aQ8 (g:=g) (w:=w);simp only[execOp,hρ _ _ hx,hρ _ _ hy,eqGuard];split<;>simpa using this _ _ _ _
  ·rename_i op t x y _ _ _ a b hx hy;cases hr:oO g.eqs t with
   | none=>trivial
   | some r=>
    have:=bQe (w:=w) hg op hr x y a b;simp only[execOp,hρ _ _ hx,hρ _ _ hy];simpa using this
  ·rename_i op t x y _ _ _ a b _ _ _ hx hy;cases hr:QU g.tys t with
   | none=>trivial
   | some r=>
    have:=bQc (w:=w) hg op hr a b;generalize ho:iy r.d a b=o at this;simp only[ho];cases o with
    | none=>unfold oS;split<;>first | trivial | (rename_i hn;cases hn)
    | some q=>
     simp only[execOp,hρ _ _ hx,hρ _ _ hy,bQb op t x y ho];simpa using this
  ·trivial
 ·split
  ·rename_i h;simp[PR.Means,execOp,lk _ _ h,Ent.val,Op.unary]
  ·rename_i h;simp[PR.Means,execOp,lk _ _ h,Ent.val,Op.unary]
  ·rename_i h;simp[PR.Means,execOp,lk _ _ h,Ent.val,Op.unary]
  ·trivial
 ·split
  ·rename_i h;simp[PR.Means,execOp,hρ _ _ h,Op.unary,Op.intArith]
  ·trivial
 ·split
  ·rename_i hs ht hx;simp only[PR.Means,execOp,hρ _ _ hx,convert];simp[YJ hg hs,YJ hg ht,Conv.intToInt]
  ·rename_i hs ht hx;simp only[PR.Means,execOp,hρ _ _ hx,convert];simp[YJ hg hs,YJ hg ht]
  ·trivial
 ·split
  ·rename_i vs hx;split
   ·rename_i v hv;rw[ML,Array.getElem?_toList] at hv;simp[PR.Means,execOp,hρ _ _ hx,Instr.extract,hv]
   ·trivial
  ·trivial
 ·split
  ·rename_i x t hxs fL;have h1:=MR hxs;have h2:=MR fL;subst h1 h2;split
   ·rename_i r v hr hv;have:=aQ9 (w:=w) hg hr ty v;simpa [execOp,resolve,invoke,builtin,hρ _ _ hv] using this
   ·trivial
  ·trivial
 ·split
  ·rename_i x y hxs;have h1:=MS hxs;subst h1;split
   ·rename_i hx hy;simp[PR.Means,execOp,resolve,invoke,builtin,hρ _ _ hx,hρ _ _ hy,Builtin.min_,Builtin.min2]
   ·trivial
  ·rename_i x y z hxs;have h1:=bQf hxs;subst h1;split
   ·rename_i hx hy hz;simp[PR.Means,execOp,resolve,invoke,builtin,hρ _ _ hx,hρ _ _ hy,hρ _ _ hz,Builtin.min_,Builtin.min2]
   ·trivial
  ·trivial
 ·split
  ·rename_i x y hxs;have h1:=MS hxs;subst h1;split
   ·rename_i hx hy;simp[PR.Means,execOp,resolve,invoke,builtin,hρ _ _ hx,hρ _ _ hy,Builtin.max_,Builtin.max2]
   ·trivial
  ·trivial
 ·split
  ·rename_i h;simp[PR.Means,execOp,hρ _ _ h]
  ·rename_i h;simp[PR.Means,execOp,hρ _ _ h]
  ·rename_i h;simp[PR.Means,execOp,hρ _ _ h]
  ·trivial
 ·rename_i t x k;split
  ·rename_i hr hx;split
   ·rename_i fs hd;split
    ·rename_i f hf;split
     ·rename_i rf CZ;split
      ·rename_i hz;have hu:=YJ hg hr w;rw[hd] at hu;obtain⟨_,i,hi,hs,_⟩:=hg.row CZ;have WQ:i.size≠0:=by rw[hs];exact Nat.ne_of_beq_eq_false hz
       rw[DZ] at hf;have QY:fs[k]? =some f:=by simpa using hf
       simp[PR.Means,execOp,hρ _ _ hx,Instr.fieldAt,hu,QY,Instr.sureAddr,fieldPlace,sizeOf,typeInfo,hi,WQ]
      ·trivial
     ·trivial
    ·trivial
   ·trivial
  ·trivial
 ·rename_i t x k;split
  ·rename_i cs hr hx;split
   ·rename_i fs hd;split
    ·rename_i f hf;have hu:=YJ hg hr w;rw[hd] at hu;rw[DZ] at hf;have QY:fs[k]? =some f:=by simpa using hf
     split
     ·rename_i rf CZ;have AZ:=YJ hg CZ w;obtain⟨_,i,hi,hs,_⟩:=hg.row CZ;have ha:(isAgg f.type).run g.P w= .ok (oT rf.d) w:=by
       simp only[isAgg,Sem.run_bind,AZ,Result.andThen_ok];cases rf.d<;>rfl
      split
      ·rename_i IY;simp[PR.Means,execOp,hρ _ _ hx,Instr.field,hu,QY,asAgg,part,ha,IY,sizeOf,typeInfo,hi,hs];apply Array.ext';simp[List.take_drop]
      ·rename_i IY;split
       ·rename_i v hv;rw[ML] at hv;have IZ:cs[f.offset]? =some v:=by simpa using hv
        simp[PR.Means,execOp,hρ _ _ hx,Instr.field,hu,QY,asAgg,part,ha,IY,IZ]
       ·trivial
     ·trivial
    ·trivial
   ·trivial
  ·trivial
 ·rename_i t parts;split
  ·rename_i r ps hr bJ;have cA:=D3 hρ _ _ bJ;have hu:=YJ hg hr w;obtain⟨_,i,hi,hs,hb,hz⟩:=hg.row hr;have aQD:(parts.map λ(x:Nat×Operand)=>(x.1,ρ x.2)).toList=ps:=by rw[Mq];exact cA
   split
   ·rename_i fs hd;rw[hd] at hu;split
    ·rename_i pl Jq;have Xu:=MY (w:=w) hg _ _ Jq;split
     ·rename_i cs Ka;have uf:=D0 _ _ _ _ Ka;have xH:(fs.mapM (m:=Sem) λf=>Prod.mk f.offset <$> sizeOf f.type).run g.P w= .ok pl.toArray w:=by
       rw[Array.mapM_eq_mapM_toList];simp[Xu]
      have C0:(λi=>pl[i]?)=lR pl:=by funext i;rw[DZ]
      have I0:Instr.fill (λi=>pl[i]?) r.z.cells (parts.toList.map λ(x:Nat×Operand)=>(x.1,ρ x.2))=some cs.toArray:=by
       rw[C0];rw[show(parts.toList.map λ(x:Nat×Operand)=>(x.1,ρ x.2))=ps from cA];exact uf
      simp only[PR.Means,execOp,Instr.build,zeroValue,typeInfo];simp[hi,hz,hu,xH,I0]
     ·trivial
    ·trivial
   ·rename_i n e hd;rw[hd] at hu;split
    ·rename_i re X7;obtain⟨_,i2,hi2,kG,_⟩:=hg.row X7;split
     ·rename_i cs Ka;have uf:=D0 _ _ _ _ Ka;have I0:Instr.fill (λi=>some (i*re.sz,re.sz)) r.z.cells (parts.toList.map λ(x:Nat×Operand)=>(x.1,ρ x.2))=some cs.toArray:=by
       rw[show(parts.toList.map λ(x:Nat×Operand)=>(x.1,ρ x.2))=ps from cA];exact uf
      simp only[PR.Means,execOp,Instr.build,zeroValue,typeInfo,sizeOf];simp[hi,hz,hu,hi2,kG,I0]
     ·trivial
    ·trivial
   ·trivial
  ·trivial
 ·split
  ·rename_i r v hr hx;split
   ·rename_i hd;have hu:=YJ hg hr w;simp only[PR.Means,execOp,hρ _ _ hx,Instr.makeInterface];simp only[Sem.run_bind,hu,Result.andThen_ok];cases hk:r.d<;>rw[hk] at hd<;>first | (simp[MN] at hd;done) | simp
   ·trivial
  ·trivial
 ·rename_i f xs ys;split
  ·rename_i a b ha hb;have e1:=y8 hρ _ _ ha;have e2:=y8 hρ _ _ hb;have e1':xs.map ρ=a.toArray:=by apply Array.ext';simpa using e1
   have wg:ys.map ρ=b.toArray:=by apply Array.ext';simpa using e2
   simp[PR.Means,execOp,Instr.makeFunc,e1',wg]
  ·trivial
 ·split
  ·rename_i hr hx;split
   ·rename_i l h hl hh;intro hp;have hb:=bQg (g:=g) (w:=w) hρ hl hh hp;have hu:=YJ hg hr w;simp only[execOp,hρ _ _ hx,Instr.sliceAt,Instr.slice];simp[hu,hb]
   ·trivial
  ·trivial
 ·trivial
end
def Xk (c:Cx)(S:Env)(dst:Option Tmp)(e:Ent)(K:Env->Prop):Prop:=
 match dst with
 | none=>K S
 | some d=>match Nat.blt d c.N.n with
  | true=>K ((d,e)::S)
  | false=>False
def fi:List Value->List Value->(List Value->Prop)->Prop
 | [],QR,K=>K QR
 | x::l,QR,K=>fi l (x::QR) K
def oW (S:Env):List Operand->List Value->(List Value->Prop)->Prop
 | [],QR,K=>K QR
 | x::xs,QR,K=>match S.ev x with
  | some v=>oW S xs (v::QR) K
  | none=>False
def jC (t:Nat):Env->Bool
 | []=>false
 | (k,_)::S=>match Nat.beq k t with
  | true=>true
  | false=>jC t S
def y9 (c:Cx)(t:Nat):Bool:=match Nat.blt t c.named with
 | true=>true
 | false=>fg t c.keep
def Wm (p:Nat->Bool):Env->Env->(Env->Prop)->Prop
 | [],QR,K=>K QR
 | (t,x)::S,QR,K=>match p t with
  | true=>(match jC t QR with
   | true=>Wm p S QR K
   | false=>Wm p S ((t,x)::QR) K)
  | false=>Wm p S QR K
def Jz:Value->Bool
 | .agg _=>false
 | .tuple _=>false
 | _=>true
def D4 (c:Cx)(o:Oper)(S:Env)(w:World)(K:Env->World->Prop)(Q:Zg):Prop:=
 match o.op with
 | .load t x=>(match QU c.g.tys t,S.ev x with
  | some r,some (.pointer (some p))=>(match oT r.d with
   | false=>gb w p (λv=>Xk c S o.dst (.v v) (λS=>K S w))
   | true=>jy w p r.sz (λvs=>Xk c S o.dst (.v (.agg vs.toArray)) (λS=>K S w)))
  | _,_=>X8 c o S w K Q)
 | .store t x y=>(match QU c.g.tys t,S.ev x,S.ev y with
  | some r,some (.pointer (some p)),some v=>(match Jz v,Nat.beq r.sz 1,o.dst with
   | true,true,none=>gc w p v (λw=>K S w)
   | false,_,none=>(match v with
    | .agg cs=>(match Nat.beq cs.toList.length r.sz with
     | true=>jz c.g.P w p cs.toList (λw=>K S w)
     | false=>X8 c o S w K Q)
    | _=>X8 c o S w K Q)
   | _,_,_=>X8 c o S w K Q)
  | _,_,_=>X8 c o S w K Q)
 | .alloc e=>(match QU c.g.tys e with
  | some r=>oP w e (JN r.z) (λp w=>Xk c S o.dst (.v (.pointer (some p))) (λS=>K S w))
  | none=>X8 c o S w K Q)
 | .box e x=>(match S.ev x with
  | some v=>oP w e (JN v) (λp w=>Xk c S o.dst (.v (.pointer (some p))) (λS=>K S w))
  | none=>X8 c o S w K Q)
 | .indexAddr t x i=>(match QU c.g.tys t,S.ev x,S.ev i with
  | some ⟨_,.slice e,_,_,_⟩,some (.slice b n _),some (.int _ i)=>(match QU c.g.tys e with
   | some r=>Y4 b n i r.sz (λp=>Xk c S o.dst (.v (.pointer (some p))) (λS=>K S w))
   | none=>X8 c o S w K Q)
  | some ⟨_,.array n e,_,_,_⟩,some (.pointer (some p)),some (.int _ i)=>(match QU c.g.tys e with
   | some r=>Y4 (some p) n i r.sz (λp=>Xk c S o.dst (.v (.pointer (some p))) (λS=>K S w))
   | none=>X8 c o S w K Q)
  | _,_,_=>X8 c o S w K Q)
 | .index t x i=>(match QU c.g.tys t,S.ev x,S.ev i with
  | some ⟨_,.string,_,_,_⟩,some (.string s),some (.int _ i)=>dM s i (λb=>Xk c S o.dst (.v (.int .u8 b)) (λS=>K S w))
  | _,_,_=>X8 c o S w K Q)
 | .call ⟨.value f,xs,_⟩=>(match S.ev f with
  | some (.func (.func n) first cap)=>(match fg n c.g.fns with
   | true=>fi first.toList [] (λQR=>oW S xs.toList QR (λQR=>fi cap.toList QR (λQR=>fi QR [] (λl=>
     gf c.g.P n l w (λv w=>Xk c S o.dst (.v v) (λS=>K S w)) (λch w=>Q (.panic ch) S w)))))
   | false=>X8 c o S w K Q)
  | _=>X8 c o S w K Q)
 | .call ⟨.invoke x nm,xs,_⟩=>(match S.ev x with
  | some (.iface t v)=>oW S xs.toList [v] (λQR=>fi QR [] (λl=>
    MJ c nm t l w (λv w=>Xk c S o.dst (.v v) (λS=>K S w)) (λch w=>Q (.panic ch) S w)))
  | _=>X8 c o S w K Q)
 | _=>X8 c o S w K Q
def dN (c:Cx)(o:Oper)(S:Env)(w:World)(K:Env->World->Prop)(Q:Zg):Prop:=
 match rG c.g S o.op with
 | .val v=>Xk c S o.dst (.v v) (λS=>K S w)
 | .ent e=>Xk c S o.dst e (λS=>K S w)
 | .norm k n=>be n (λm=>Xk c S o.dst (.v (.int k m)) (λS=>K S w))
 | .normIf p k n=>fh p n (λm=>Xk c S o.dst (.v (.int k m)) (λS=>K S w))
 | .need p v=>iw p v (λv=>Xk c S o.dst (.v v) (λS=>K S w))
 | .no=>D4 c o S w K Q
def VC:List Oper->Nat->Option Oper
 | [],_=>none
 | x::_,0=>some x
 | _::l,n+1=>VC l n
def Yq (c:Cx)(all:List Oper):List Oper->Env->World->(Env->World->Prop)->Zg->Prop
 | [],S,w,K,_=>Wm (y9 c) S [] (λS=>K S w)
 | o::rest,S,w,K,Q=>match o.guard with
  | none=>dN c o S w (λS w=>Yq c all rest S w K Q) Q
  | some (
      j,want)=>match VC all j with
   | some oj=>(match oj.dst with
    | some d=>(match S.ent d with
     | some .t=>(match want with
      | true=>dN c o S w (λS w=>Yq c all rest S w K Q) Q
      | false=>Xk c S o.dst (.v undef) (λS=>Yq c all rest S w K Q))
     | some .f=>(match want with
      | false=>dN c o S w (λS w=>Yq c all rest S w K Q) Q
      | true=>Xk c S o.dst (.v undef) (λS=>Yq c all rest S w K Q))
     | some (.v (.bool b))=>(match want with
      | true=>KD b (dN c o ((d,.t)::S) w (λS w=>Yq c all rest S w K Q) Q) (Xk c ((d,.f)::S) o.dst (.v undef) (λS=>Yq c all rest S w K Q))
      | false=>KD b (Xk c ((d,.t)::S) o.dst (.v undef) (λS=>Yq c all rest S w K Q)) (dN c o ((d,.f)::S) w (λS w=>Yq c all rest S w K Q) Q))
     | some (.v (.tuple _))=>Xk c S o.dst (.v undef) (λS=>Yq c all rest S w K Q)
     | _=>False)
    | none=>False)
   | none=>False
def za:Code->Nat
 | .region id _ _=>id
 | .seq x _=>za x
 | .block _ x=>za x
 | .loop x=>za x
 | _=>1000000
def bQi (c:Cx):Code->Bool
 | .region _ _ _=>false
 | x=>fg (za x) c.cuts
def K9 (c:Cx):Code->Env->World->Zg->Prop
 | .skip,S,w,Q=>Q .normal S w
 | .label _,S,w,Q=>Q .normal S w
 | .region id ops uS,S,w,Q=>(match uS with
  | false=>Yq c ops.toList ops.toList S w (λS w=>Q .normal S w) Q
  | true=>WV c id ops.toList S w Q)
 | .seq x y,S,w,Q=>(match bQi c x with
  | true=>jA c (.seq x y) S w Q
  | false=>K9 c x S w (λe S w=>match e with
   | .normal=>K9 c y S w Q
   | e=>Q e S w))
 | .cond b x y,S,w,Q=>(match b with
  | .tmp t=>(match S.ent t with
   | some .t=>K9 c x S w Q
   | some .f=>K9 c y S w Q
   | some (.v (.bool b))=>KD b (K9 c x ((t,.t)::S) w Q) (K9 c y ((t,.f)::S) w Q)
   | _=>False)
  | .const (.bool true)=>K9 c x S w Q
  | .const (.bool false)=>K9 c y S w Q
  | _=>False)
 | .block id x,S,w,Q=>K9 c x S w (λe S w=>match e with
  | .exit i=>(match Nat.beq i id with
   | true=>Q .normal S w
   | false=>Q (.exit i) S w)
  | e=>Q e S w)
 | .loop x,S,w,Q=>yZ c x S w Q
 | .exit id,S,w,Q=>Q (.exit id) S w
 | .ret,S,w,Q=>Q .ret S w
 | x,S,w,Q=>jA c x S w Q
section
variable {c:Cx} {a:Act} {S:Env} {w:World} {K:Env->World->Prop} {Q:Zg}
theorem Zs {dst:Option Tmp}{e:Ent}{K:Env->Prop}(h:Xk c S dst e K)(hf:Fits c.N S a):
  ∃S',Fits c.N S' (a.put dst e.val)/\K S':=by
 unfold Xk at h;split at h
 ·exact⟨S,by simpa [Act.put] using hf,h⟩
 ·rename_i d;split at h
  ·rename_i hd;exact⟨_,hf.put (by rw[jv] at hd;exact hd) e,h⟩
  ·exact h.elim
theorem lS (l QR:List Value)(K:List Value->Prop):fi l QR K=K (l.reverse++QR):=by
 induction l generalizing QR with
 | nil=>simp[fi]
 | cons x l ih=>simp[fi,ih]
theorem D5 {xs:List Operand}{QR:List Value}{K:List Value->Prop}(h:oW S xs QR K)(hf:Fits c.N S a):
  K ((xs.map a.eval).reverse++QR):=by
 induction xs generalizing QR with
 | nil=>simpa [oW] using h
 | cons x xs ih=>
  simp only[oW] at h;split at h
  ·rename_i v hv;have:=ih h;simp only[Y0,List.reverse_cons,Je,List.singleton_append];rw[hf.ev hv];exact this
  ·exact h.elim
theorem M0 {t:Nat}{S:Env}(h:jC t S=false):S.ent t=none:=by
 induction S with
 | nil=>rfl
 | cons p S ih=>
  obtain⟨k,x⟩:=p;simp only[jC] at h;split at h
  ·cases h
  ·rename_i hb;simp[Env.ent,hb,ih h]
theorem bQj {t:Nat}{S:Env}(h:jC t S=true):∃x,S.ent t=some x:=by
 induction S with
 | nil=>cases h
 | cons p S ih=>
  obtain⟨k,x⟩:=p;simp only[jC] at h;split at h
  ·rename_i hb;exact⟨x,by simp[Env.ent,hb]⟩
  ·rename_i hb;simp[Env.ent,hb,ih h]
theorem zb (S T:Env)(k:Nat):Env.ent (S++T) k=(S.ent k).or (Env.ent T k):=by
 induction S with
 | nil=>simp[Env.ent]
 | cons p S ih=>
  obtain⟨t,x⟩:=p;simp only[Jb,Env.ent];split<;>simp[ih]
theorem uO {p:Nat->Bool}{N:Slots}{a:Act}(h1:a.tmps.size=N.n)(h2:a.defers=N.ds){K:Env->Prop}:∀(T QR:Env),(∀k x,QR.ent k=some x->p k=true)->
  (∀k x,p k=true->Env.ent (QR++T) k=some x->a.tmps[k]? =some x.val)->Wm p T QR K->∃S',Fits N S' a/\K S'
 | [],QR,hp,hh,h=>⟨QR,⟨h1,h2,λk x hk=>hh k x (hp k x hk) (by simpa using hk)⟩,h⟩
 | (t,x)::T,QR,hp,hh,h=>by
  simp only[Wm] at h;split at h
  ·rename_i eL;split at h
   ·rename_i hk;refine uO h1 h2 T QR hp (λk y jg hy=>hh k y jg ?_) h;rw[zb] at hy ⊢;cases hb:Nat.beq t k with
    | true=>
     have:=Vz hb;subst this;obtain⟨z,hz⟩:=bQj hk;simp only[hz,Option.some_or] at hy ⊢;exact hy
    | false=>simpa [Env.ent,hb] using hy
   ·rename_i hk;refine uO h1 h2 T ((t,x)::QR) (λk y hy=>?_) (λk y jg hy=>hh k y jg ?_) h
    ·simp only[Env.ent] at hy;split at hy
     ·rename_i hb;rw[<-Vz hb];exact eL
     ·exact hp k y hy
    ·rw[Jb] at hy;simp only[Env.ent] at hy;rw[zb];split at hy
     ·rename_i hb;have:=Vz hb;subst this;rw[M0 hk];simpa [Env.ent] using hy
     ·rename_i hb;rw[zb] at hy;simpa [Env.ent,hb] using hy
  ·rename_i eL;refine uO h1 h2 T QR hp (λk y jg hy=>hh k y jg ?_) h;rw[zb] at hy ⊢;have hb:Nat.beq t k=false:=by
    cases hb:Nat.beq t k with
    | false=>rfl
    | true=>have:=Vz hb;subst this;rw[jg] at eL;cases eL
   simpa [Env.ent,hb] using hy
abbrev jD (c:Cx)(K:Env->World->Prop):Act->World->Prop:=λa' w'=>∃S',Fits c.N S' a'/\K S' w'
theorem bf {o:Oper}{v:Value}{w':World}{N:Act->World->Prop}{Q':Exit->Act->World->Prop}
  (hr:(execOp a.eval o).run c.g.P w= .ok (.value v) w') (h:N (a.put o.dst v) w'):o.wp c.g.P a w N Q':=by
 unfold Oper.wp;rw[hr];exact h
theorem bT (hg:c.g.Ok){o:Oper}(hf:Fits c.N S a){r:PR}(hr:rG c.g S o.op=r):r.Means w ((execOp a.eval o).run c.g.P w):=by
 rw[<-hr];exact bQh hg (λx v h=>hf.ev h) o
theorem bQk {P:Program}(t:TypeId)(i:TypeInfo)(hi:P.info? t=some i)(hs:i.size=1)(p:Addr)(v:Value)(hv:Jz v=true)(w:World):
  (storeVar t p v).run P w=(store p v).run P w:=by
 have hc:v.cells= #[v]:=by cases v<;>first | rfl | (simp[Jz] at hv)
 simp[storeVar,hc,sizeOf,typeInfo,hi,hs,storeCells,Addr.add]
theorem lT (hg:c.g.Ok){t:Nat}{r:TyRow}(hr:QU c.g.tys t=some r)(w:World):(isAgg t).run c.g.P w= .ok (oT r.d) w:=by
 simp only[isAgg,Sem.run_bind,YJ hg hr,Result.andThen_ok];cases r.d<;>rfl
theorem run_sizeOf (hg:c.g.Ok){t:Nat}{r:TyRow}(hr:QU c.g.tys t=some r)(w:World):(sizeOf t).run c.g.P w= .ok r.sz w:=by
 obtain⟨_,i,hi,hs,_⟩:=hg.row hr;simp[sizeOf,typeInfo,hi,hs]
theorem zd {P:Program}{n:Nat}(hc:yT P n)(args:Array Value)(w:World):(callFunc n args).run P w= .ok (.enter n args) w:=by
 obtain⟨fn,h1,h2,h3⟩:=hc;have Ji:fn.body≠none:=λe=>by simp[e] at h2
 have mQ:fn.name≠ "runtime.NumGoroutine" :=by simpa using h3
 simp[callFunc,h1,Ji,mQ]
theorem bQl (hg:c.g.Ok){t:Nat}{r:MRow}(hr:uK c.g.ms t=some r)(v:Value)(n:Nat)(w:World):(method (n+1) t v r.name).run c.g.P w= .ok (r.f,v) w:=by
 obtain⟨⟨h1,h2⟩,rfl⟩:=aQ4 hr hg.ms;cases hi:c.g.P.info? r.t with
 | none=>simp[hi] at h1
 | some i=>
  cases hm:i.methods.find? (λm=>m.name==r.name)with
  | none=>simp[hi,hm] at h1
  | some m=>
   simp[hi,hm] at h1;cases hu:c.g.P.underlying r.t with
   | none=>simp[hu] at h2
   | some d=>
    simp[hu] at h2;have hp:m.path.toList=[]:=by rw[h1.1]
    cases hb:r.ptr with
    | false=>
     rw[hb] at h1 h2;have hx:(receiverAt r.t (.val v) false (if m.path.isEmpty=true then some ((r.name.splitOn ".").getLastD r.name)else none)).run c.g.P w= .ok v w:=by
      unfold receiverAt;rw[Sem.run_bind,ZL hu];cases d<;>first | (simp[DS] at h2;done) | simp[Place.get]
     unfold method;simp only[typeInfo,Sem.run_bind,run_program,Result.andThen_ok,hi,Sem.run_pure,hm,hp,follow,h1.2];simp only[hx,Result.andThen_ok]
    | true=>
     rw[hb] at h1 h2;have hx:(receiverAt r.t (.val v) true (if m.path.isEmpty=true then some ((r.name.splitOn ".").getLastD r.name)else none)).run c.g.P w= .ok v w:=by
      unfold receiverAt;rw[Sem.run_bind,ZL hu];cases d<;>first | (simp[DS] at h2;done) | simp[Place.get]
     unfold method;simp only[typeInfo,Sem.run_bind,run_program,Result.andThen_ok,hi,Sem.run_pure,hm,hp,follow,h1.2];simp only[hx,Result.andThen_ok]
theorem bQm (hg:c.g.Ok){o:Oper}(h:D4 c o S w K Q)(hf:Fits c.N S a):o.wp c.g.P a w (jD c K) (Up c Q):=by
 have Ky:X8 c o S w K Q->o.wp c.g.P a w (jD c K) (Up c Q):=λh=>by unfold X8 at h;exact h a hf
 obtain⟨dst,op,ty,pos,aft,gd⟩:=o;unfold D4 at h;split at h
 ·rename_i t x Jr;simp only at Jr;subst Jr;split at h
  ·rename_i r p hr hx;split at h
   ·rename_i hd;unfold gb at h;obtain⟨v,hv,hk⟩:=h;refine bf (v:=v) (w':=w) ?_ (Zs (e:=.v v) hk hf);have:=hf.ev hx;simp[execOp,this,Instr.loadAt,Instr.sureAddr,loadVar,lT hg hr,hd,load,Sem.run,hv]
   ·rename_i hd;unfold jy at h;obtain⟨vs,hl,hv,hk⟩:=h;refine bf (v:=.agg vs.toArray) (w':=w) ?_ (Zs (e:=.v (.agg vs.toArray)) hk hf);have:=hf.ev hx;have h2:=run_loadCells_list (P:=c.g.P) (w:=w) p vs hv;rw[hl] at h2;simp[execOp,this,Instr.loadAt,Instr.sureAddr,loadVar,lT hg hr,hd,run_sizeOf hg hr,h2]
  ·exact Ky h
 ·rename_i t x y Jr;simp only at Jr;subst Jr;split at h
  ·rename_i r p v hr hx hy;split at h
   ·rename_i hs h1 hd;unfold gc at h;obtain⟨⟨u,hu⟩,ll,hk⟩:=h;obtain⟨_,i,hi,Xu,_⟩:=hg.row hr;have e1:=hf.ev hx;have e2:=hf.ev hy;have tm:i.size=1:=by rw[Xu];exact Vz h1
    have nK:=bQk t i hi tm p v hs w;simp only at hd;subst hd;unfold Oper.wp;have:(execOp a.eval {dst:=none,op:=.store t x y,type:=ty,pos:=pos,after:=aft,guard:=gd}).run c.g.P w= .ok .skip (w.setCell p v):=by
     simp[execOp,e1,e2,Instr.storeAt,Instr.sureAddr,nK,store];cases v<;>first | (simp[Jz] at hs;done) | simp[Sem.run,hu,ll]
    rw[this];exact⟨S,by simpa [Act.put] using hf,hk⟩
   ·rename_i hs hd;split at h
    ·rename_i cs;split at h
     ·rename_i hn;unfold jz at h;obtain⟨w',Z9,hk⟩:=h;have hn:=Vz hn;have e1:=hf.ev hx;have e2:=hf.ev hy;simp only at hd;subst hd;unfold Oper.wp;have:(execOp a.eval {dst:=none,op:=.store t x y,type:=ty,pos:=pos,after:=aft,guard:=gd}).run c.g.P w= .ok .skip w':=by
       simp only[execOp,e1,e2,Instr.storeAt,Instr.sureAddr,storeVar,Value.cells];simp only[Sem.run_bind,Sem.run_pure,run_sizeOf hg hr,Result.andThen_ok];rw[if_neg (by simpa using hn)];simp[Z9]
      rw[this];exact⟨S,by simpa [Act.put] using hf,hk⟩
     ·exact Ky h
    ·exact Ky h
   ·exact Ky h
  ·exact Ky h
 ·rename_i e Jr;simp only at Jr;subst Jr;split at h
  ·rename_i r hr;obtain⟨_,i,hi,_,_,hz⟩:=hg.row hr;unfold oP at h;refine bf (v:=.pointer (some ⟨w.heap.size,0,none⟩)) (w':=w.alloc (.cells (JN r.z).toArray e)) ?_ (Zs (e:=.v _) h hf);have hc:r.z.cells=(JN r.z).toArray:=by rw[<-oV]
   simp[execOp,Instr.alloc,zeroValue,typeInfo,hi,hz,newVar,newRow,hc]
  ·exact Ky h
 ·rename_i e x Jr;simp only at Jr;subst Jr;split at h
  ·rename_i v hx;unfold oP at h;have e1:=hf.ev hx;refine bf (v:=.pointer (some ⟨w.heap.size,0,none⟩)) (w':=w.alloc (.cells (JN v).toArray e)) ?_ (Zs (e:=.v _) h hf);have hc:v.cells=(JN v).toArray:=by rw[<-oV]
   simp[execOp,e1,Instr.box,newVar,newRow,hc]
  ·exact Ky h
 ·rename_i t x ix Jr;simp only at Jr;subst Jr;split at h
  ·rename_i e b n k i hr hx hi;split at h
   ·rename_i r X7;unfold Y4 at h;obtain⟨p,rfl,h0,h1,hk⟩:=h;refine bf (v:=.pointer (some (p.add (i.toNat*r.sz)))) (w':=w) ?_ (Zs (e:=.v _) hk hf);have e1:=hf.ev hx;have e2:=hf.ev hi;simp[execOp,e1,e2,Instr.indexAt,asIntOf,YJ hg hr,run_sizeOf hg X7,h0,h1]
   ·exact Ky h
  ·rename_i n e p k i hr hx hi;split at h
   ·rename_i r X7;unfold Y4 at h;obtain⟨p',hp,h0,h1,hk⟩:=h;cases hp;refine bf (v:=.pointer (some (p.add (i.toNat*r.sz)))) (w':=w) ?_ (Zs (e:=.v _) hk hf);have e1:=hf.ev hx;have e2:=hf.ev hi;simp[execOp,e1,e2,Instr.indexAt,Instr.sureAddr,asIntOf,YJ hg hr,run_sizeOf hg X7,h0,h1]
   ·exact Ky h
  ·exact Ky h
 ·rename_i t x ix Jr;simp only at Jr;subst Jr;split at h
  ·rename_i s k i hr hx hi;unfold dM at h;obtain⟨b,h0,h1,hk⟩:=h;refine bf (v:=.int .u8 b.toNat) (w':=w) ?_ (Zs (e:=.v _) hk hf);have e1:=hf.ev hx;have e2:=hf.ev hi;simp[execOp,e1,e2,Instr.index,asIntOf,YJ hg hr,h0,h1]
  ·exact Ky h
 ·rename_i f xs ts Jr;simp only at Jr;subst Jr;split at h
  ·rename_i n first cap hv;split at h
   ·rename_i hm;have hc:=hg.fns n (yY hm);rw[lS] at h;have h2:=D5 h hf;rw[lS,lS] at h2;simp only[YH,List.reverse_append,List.reverse_reverse,Je] at h2;unfold gf at h2;have e1:=hf.ev hv;unfold Oper.wp;have:(execOp a.eval {dst:=dst,op:=.call ⟨.value f,xs,ts⟩,type:=ty,pos:=pos,after:=aft,guard:=gd}).run c.g.P w=
      .ok (.enter n (first.toList++(List.map a.eval xs.toList++cap.toList)).toArray) w:=by
     simp[execOp,resolve,e1,Deferred.ofValue,invoke,zd hc]
    rw[this];unfold Oper.upon;refine h2.mono λe w' he=>?_
    cases e with
    | returned v=>exact Zs (e:=.v v) he hf
    | panicked ch=>exact⟨S,hf,he⟩
    | outgrown=>exact he.elim
   ·exact Ky h
  ·exact Ky h
 ·rename_i x nm xs ts Jr;simp only at Jr;subst Jr;split at h
  ·rename_i t v hv
   ·have h2:=D5 h hf;rw[lS] at h2;simp only[YH,List.reverse_append,List.reverse_reverse,List.reverse_cons,List.reverse_nil,bP] at h2;unfold MJ at h2;obtain⟨r,hr,rfl,hm,h2⟩:=h2
    ·have hc:=hg.fns r.f (yY hm);unfold gf at h2;have e1:=hf.ev hv;unfold Oper.wp;have qJ:=bQl hg hr v (c.g.P.types.size+99) w;have:(execOp a.eval {dst:=dst,op:=.call ⟨.invoke x r.name,xs,ts⟩,type:=ty,pos:=pos,after:=aft,guard:=gd}).run c.g.P w=
       .ok (.enter r.f ([v]++List.map a.eval xs.toList).toArray) w:=by
      have fM:(#[Value.iface t v]++Array.map a.eval xs).extract 1 (#[Value.iface t v]++Array.map a.eval xs).size=Array.map a.eval xs:=by
       apply Array.ext';simp;exact Jm (by simp)
      have cB:(callMethod (.iface t v) r.name (Array.map a.eval xs)).run c.g.P w= .ok (.enter r.f ([v]++List.map a.eval xs.toList).toArray) w:=by
       simp only[callMethod,Sem.run_bind,run_program,Result.andThen_ok];rw[show c.g.P.types.size+Made.depth=c.g.P.types.size+99+1 from rfl,qJ];simp[zd hc]
      simp only[execOp,resolve,e1,Sem.run_bind,Sem.run_pure,Result.andThen_ok,invoke];rw[fM,show(#[Value.iface t v]++Array.map a.eval xs)[0]? =some (Value.iface t v) from (Array.getElem?_append_left (show 0<1 by decide)).trans rfl];exact cB
     rw[this];unfold Oper.upon;refine h2.mono λe w' he=>?_
     cases e with
     | returned v=>exact Zs (e:=.v v) he hf
     | panicked ch=>exact⟨S,hf,he⟩
     | outgrown=>exact he.elim
  ·exact Ky h
 ·exact Ky h
theorem rH (hg:c.g.Ok){o:Oper}(h:dN c o S w K Q)(hf:Fits c.N S a):o.wp c.g.P a w (jD c K) (Up c Q):=by
 unfold dN at h;split at h
 ·rename_i v hp;have hm:=bT (w:=w) hg hf hp;exact bf hm (Zs (e:=.v v) h hf)
 ·rename_i e hp;have hm:=bT (w:=w) hg hf hp;exact bf hm (Zs (e:=e) h hf)
 ·rename_i k n hp;have hm:=bT (w:=w) hg hf hp;unfold be at h;exact bf hm (Zs (e:=.v (.int k n)) h hf)
 ·rename_i p k n hp;have hm:=bT (w:=w) hg hf hp;unfold fh at h;exact bf (hm h.1) (Zs (e:=.v (.int k n)) h.2 hf)
 ·rename_i p v hp;have hm:=bT (w:=w) hg hf hp;unfold iw at h;exact bf (hm h.1) (Zs (e:=.v v) h.2 hf)
 ·exact bQm hg h hf
theorem iz (l:List Oper)(n:Nat):VC l n=l[n]? :=by
 induction l generalizing n with
 | nil=>simp[VC]
 | cons x l ih=>cases n<;>simp[VC,ih]
theorem jE {all:List Oper}{o oj:Oper}{j d:Nat}{want b:Bool}(Kx:o.guard=some (j,want))(hj:VC all j=some oj)(hd:oj.dst=some d)(ha:a.tmps[d]? =some (.bool b)):
  Region.wanted o (yielded all.toArray a.tmps)=(b==want):=by
 rw[iz] at hj;simp[Region.wanted,Kx,yielded,hj,hd,ha]
theorem D6 {all:List Oper}{o oj:Oper}{j d:Nat}{want:Bool}{vs:Array Value}(Kx:o.guard=some (j,want))(hj:VC all j=some oj)(hd:oj.dst=some d)(ha:a.tmps[d]? =some (.tuple vs)):
  Region.wanted o (yielded all.toArray a.tmps)=false:=by
 rw[iz] at hj;simp[Region.wanted,Kx,yielded,hj,hd,ha]
theorem jF (hg:c.g.Ok)(all:List Oper):∀(l:List Oper)(S:Env)(w:World)(a:Act),Yq c all l S w K Q->Fits c.N S a->
  wpList c.g.P all.toArray (λe a w=>Exit.then (jD c K) (Up c Q) e a w) l a w
 | [],S,w,a,h,hf=>by
  simp only[Yq] at h;exact uO (p:=y9 c) hf.size hf.defers S [] (λk x hk=>by simp[Env.ent] at hk) (λk x _ hk=>hf.has k x hk) h
 | o::rest,S,w,a,h,hf=>by
  have go:∀(S:Env),dN c o S w (λS w=>Yq c all rest S w K Q) Q->Fits c.N S a->o.wp c.g.P a w (wpList c.g.P all.toArray (λe a w=>Exit.then (jD c K) (Up c Q) e a w) rest) (λe a w=>Exit.then (jD c K) (Up c Q) e a w):=λS h hf=>by
   have h1:=rH hg h hf;have h2:=Oper.wp_mono (K':=wpList c.g.P all.toArray (λe a w=>Exit.then (jD c K) (Up c Q) e a w) rest) (λa' w' ⟨S',QY,hk⟩=>jF hg all rest S' w' a' hk QY) h1;unfold Oper.wp at h2 ⊢;generalize (execOp a.eval o).run c.g.P w=r at*;cases r with
   | ok n w'=>
    cases n<;>simp only[Oper.upon] at h2 ⊢ <;> exact h2
   | halt x w'=>cases x<;>simp only[Oper.upon] at h2 ⊢ <;> exact h2
  have no:∀(S:Env),Xk c S o.dst (.v undef) (λS=>Yq c all rest S w K Q)->Fits c.N S a->wpList c.g.P all.toArray (λe a w=>Exit.then (jD c K) (Up c Q) e a w) rest (a.put o.dst undef) w:=λS h hf=>by
   obtain⟨S',QY,hk⟩:=Zs h hf;exact jF hg all rest S' w _ hk QY
  have fit:∀(d:Nat) (b:Bool) (e:Ent),S.ent d=some (.v (.bool b))->e.val= .bool b->Fits c.N ((d,e)::S) a:=λd b e hd he=>by
   refine⟨hf.size,hf.defers,λk x hk=>?_⟩;simp only[Env.ent] at hk;split at hk
   ·rename_i hb;have:=Vz hb;subst this;cases hk;rw[he];exact hf.has _ _ hd
   ·exact hf.has _ _ hk
  simp only[Yq] at h;unfold wpList;split at h
  ·rename_i Kx;rw[Qf (by simp[Region.wanted,Kx])];exact .inl (go S h hf)
  ·rename_i j want Kx;split at h
   ·rename_i oj hj;split at h
    ·rename_i d hd;split at h
     ·rename_i Zz;have hw:=jE Kx hj hd (hf.has _ _ Zz);split at h
      ·rw[Qf (by rw[hw];rfl)];exact .inl (go S h hf)
      ·rw[if_neg (by rw[hw];decide)];exact no S h hf
     ·rename_i Zz;have hw:=jE Kx hj hd (hf.has _ _ Zz);split at h
      ·rw[Qf (by rw[hw];rfl)];exact .inl (go S h hf)
      ·rw[if_neg (by rw[hw];decide)];exact no S h hf
     ·rename_i b Zz;have hw:=jE Kx hj hd (hf.has _ _ Zz);split at h
      ·unfold KD at h;cases b with
       | true=>rw[Qf (by rw[hw];rfl)];exact .inl (go _ (h.1 rfl) (fit d true .t Zz rfl))
       | false=>rw[if_neg (by rw[hw];decide)];exact no _ (h.2 rfl) (fit d false .f Zz rfl)
      ·unfold KD at h;cases b with
       | true=>rw[if_neg (by rw[hw];decide)];exact no _ (h.1 rfl) (fit d true .t Zz rfl)
       | false=>rw[Qf (by rw[hw];rfl)];exact .inl (go _ (h.2 rfl) (fit d false .f Zz rfl))
     ·rename_i Zz;rw[if_neg (by rw[D6 Kx hj hd (hf.has _ _ Zz)];decide)];exact no S h hf
     ·exact h.elim
    ·exact h.elim
   ·exact h.elim
theorem iA (hg:c.g.Ok):∀(x:Code)(S:Env)(w:World)(Q:Zg)(a:Act),K9 c x S w Q->Fits c.N S a->x.wp c.g.P (Up c Q) a w:=by
 intro x;have hc:∀(x:Code) (S:Env) (w:World) (Q:Zg) (a:Act),jA c x S w Q->Fits c.N S a->x.wp c.g.P (Up c Q) a w:=λx S w Q a h hf=>by
  unfold jA at h;exact h a hf
 induction x with
 | skip=>exactλS w Q a h hf=>wp_skip ⟨S,hf,h⟩
 | label l=>exactλS w Q a h hf=>wp_label ⟨S,hf,h⟩
 | region id ops uS=>
  intro S w Q a h hf;simp only[K9] at h;cases uS with
  | false=>
   have h1:=jF hg _ _ _ _ _ h hf;refine wp_mono (wp_region_list ?_) (Q:=λe a w=>Exit.then (jD c (λS w=>Q .normal S w)) (Up c Q) e a w) (λe a w hq=>?_)
   ·simpa using h1
   ·cases e<;>exact hq
  | true=>
   unfold WV at h;simpa using h a hf
 | seq x y ihx ihy=>
  intro S w Q a h hf;simp only[K9] at h;split at h
  ·exact hc _ _ _ _ _ h hf
  ·refine wp_seq (wp_mono (ihx _ _ _ _ h hf) (λe a w hq=>?_));obtain⟨S',QY,hq⟩:=hq;cases e<;>first | exact ihy _ _ _ _ hq QY | exact⟨S',QY,hq⟩
 | cond b x y ihx ihy=>
  intro S w Q a h hf;simp only[K9] at h;split at h
  ·rename_i t;split at h
   ·rename_i ht;exact wp_cond_true (by have:=hf.has _ _ ht;simp[Act.eval,this,Ent.val]) (ihx _ _ _ _ h hf)
   ·rename_i ht;exact wp_cond_false (by have:=hf.has _ _ ht;simp[Act.eval,this,Ent.val]) (ihy _ _ _ _ h hf)
   ·rename_i b ht;have lm:a.eval (.tmp t)= .bool b:=by have:=hf.has _ _ ht;simp[Act.eval,this,Ent.val]
    have fit:∀(e:Ent),e.val= .bool b->Fits c.N ((t,e)::S) a:=λe he=>by
     refine⟨hf.size,hf.defers,λk x hk=>?_⟩;simp only[Env.ent] at hk;split at hk
     ·rename_i hb;have:=Vz hb;subst this;cases hk;rw[he];exact hf.has _ _ ht
     ·exact hf.has _ _ hk
    unfold KD at h;cases b with
    | true=>exact wp_cond_true lm (ihx _ _ _ _ (h.1 rfl) (fit .t rfl))
    | false=>exact wp_cond_false lm (ihy _ _ _ _ (h.2 rfl) (fit .f rfl))
   ·exact h.elim
  ·exact wp_cond_true rfl (ihx _ _ _ _ h hf)
  ·exact wp_cond_false rfl (ihy _ _ _ _ h hf)
  ·exact h.elim
 | block id x ih=>
  intro S w Q a h hf;simp only[K9] at h;refine wp_block (wp_mono (ih _ _ _ _ h hf) (λe a w hq=>?_));obtain⟨S',QY,hq⟩:=hq;cases e with
  | exit i=>
   simp only at hq;simp only[Exit.inBlock];split at hq
   ·rename_i hb;rw[Qf (Vz hb)];exact⟨S',QY,hq⟩
   ·rename_i hb;rw[if_neg (λe=>by subst e;simp at hb)];exact⟨S',QY,hq⟩
  | normal=>exact⟨S',QY,hq⟩
  | goto l=>exact⟨S',QY,hq⟩
  | ret=>exact⟨S',QY,hq⟩
  | panic ch=>exact⟨S',QY,hq⟩
  | outgrown=>exact⟨S',QY,hq⟩
 | loop x ih=>intro S w Q a h hf;simp only[K9] at h;unfold yZ at h;exact h a hf
 | exit id=>exactλS w Q a h hf=>wp_exit ⟨S,hf,h⟩
 | ret=>exactλS w Q a h hf=>wp_ret ⟨S,hf,h⟩
 | rangeFunc f ps as_ b ih1 Tm=>exactλS w Q a h hf=>hc _ _ _ _ _ h hf
 | scope x ih=>exactλS w Q a h hf=>hc _ _ _ _ _ h hf
 | goto l=>exactλS w Q a h hf=>hc _ _ _ _ _ h hf
 | refuse y=>exactλS w Q a h hf=>hc _ _ _ _ _ h hf
end
def jG:List Nat->List Value->Env->(Env->Prop)->Prop
 | _,[],S,K=>K S
 | t::ts,v::vs,S,K=>jG ts vs ((t,.v v)::S) K
 | [],_::_,_,_=>False
def M1 (w:World)(R:Value->World->Prop):List Value->Prop
 | [v]=>R v w
 | vs=>R (.tuple vs.toArray) w
def cM (c:Cx)(S:Env)(w:World)(R:Value->World->Prop):List ResultVar->List Value->Prop
 | [],QR=>fi QR [] (λl=>M1 w R l)
 | .tmp t::rs,QR=>(match S.get t with
  | some v=>cM c S w R rs (v::QR)
  | none=>False)
 | .cell t ty::rs,QR=>(match QU c.g.tys ty,S.get t with
  | some r,some (.pointer (some p))=>(match oT r.d with
   | false=>gb w p (λv=>cM c S w R rs (v::QR))
   | true=>jy w p r.sz (λvs=>cM c S w R rs (.agg vs.toArray::QR)))
  | _,_=>False)
def ze (c:Cx)(rs:List ResultVar)(R:Value->World->Prop):Zg:=λe S w=>match e with
 | .normal=>cM c S w R rs []
 | .ret=>cM c S w R rs []
 | _=>False
def zf (tmps:Array Value):ResultVar->Sem Value
 | .tmp t=>pure (tmps.getD t undef)
 | .cell t ty=>do loadVar ty (<-asAddr (tmps.getD t undef))
theorem bQn (fn:Func)(tmps:Array Value):results fn tmps=(do
  let vs<-fn.results.mapM (zf tmps)
  pure (if h:vs.size=1 then vs[0] else .tuple vs)):=by
 unfold results;congr 2
theorem zg {c:Cx}(hg:c.g.Ok){S:Env}{a:Act}{w:World}(hf:Fits c.N S a)(R:Value->World->Prop):∀(rs:List ResultVar)(QR:List Value),cM c S w R rs QR->
  ∃vs:List Value,(rs.mapM (zf a.tmps)).run c.g.P w= .ok vs w/\M1 w R (QR.reverse++vs)
 | [],QR,h=>by
  simp only[cM,lS,YH] at h;exact⟨[],by simp,by simpa using h⟩
 | .tmp t::rs,QR,h=>by
  simp only[cM] at h;split at h
  ·rename_i v hv;obtain⟨vs,h1,h2⟩:=zg hg hf R rs _ h;have:=hf.get hv;refine⟨v::vs,?_,by simpa using h2⟩;simp only[List.mapM_cons,Sem.run_bind];rw[show(zf a.tmps (.tmp t)).run c.g.P w= .ok v w by simp[zf,this]];simp only[Result.andThen_ok];rw[h1];simp
  ·exact h.elim
 | .cell t ty::rs,QR,h=>by
  simp only[cM] at h;split at h
  ·rename_i r p hr hp;have hp:=hf.get hp;split at h
   ·rename_i hd;unfold gb at h;obtain⟨v,hv,h⟩:=h;obtain⟨vs,h1,h2⟩:=zg hg hf R rs _ h;refine⟨v::vs,?_,by simpa using h2⟩;have e1:(do loadVar ty (<-asAddr (a.tmps.getD t undef)):Sem Value).run c.g.P w= .ok v w:=by
     simp[hp,asAddr,loadVar,lT hg hr,hd,load,Sem.run,hv]
    rw[List.mapM_cons,Sem.run_bind];show Result.andThen ((do loadVar ty (<-asAddr (a.tmps.getD t undef)):Sem Value).run c.g.P w) _=_;rw[e1];simp only[Result.andThen_ok,Sem.run_bind];rw[h1];simp
   ·rename_i hd;unfold jy at h;obtain⟨cs,hl,hv,h⟩:=h;obtain⟨vs,h1,h2⟩:=zg hg hf R rs _ h;have h3:=run_loadCells_list (P:=c.g.P) (w:=w) p cs hv;rw[hl] at h3;refine⟨.agg cs.toArray::vs,?_,by simpa using h2⟩;have e1:(do loadVar ty (<-asAddr (a.tmps.getD t undef)):Sem Value).run c.g.P w= .ok (.agg cs.toArray) w:=by
     simp[hp,asAddr,loadVar,lT hg hr,hd,run_sizeOf hg hr,h3]
    rw[List.mapM_cons,Sem.run_bind];show Result.andThen ((do loadVar ty (<-asAddr (a.tmps.getD t undef)):Sem Value).run c.g.P w) _=_;rw[e1];simp only[Result.andThen_ok,Sem.run_bind];rw[h1];simp
  ·exact h.elim
theorem iB {c:Cx}(hg:c.g.Ok){S:Env}{a:Act}{w:World}(hf:Fits c.N S a){R:Value->World->Prop}{fn:Func}(h:cM c S w R fn.results.toList []):
  ∃v,(results fn a.tmps).run c.g.P w= .ok v w/\R v w:=by
 obtain⟨vs,h1,h2⟩:=zg hg hf R _ _ h;have e:fn.results=fn.results.toList.toArray:=by simp
 rw[bQn,e,List.mapM_toArray];simp only[Sem.run_bind,Sem.run_map];rw[h1];simp only[Result.andThen_ok,Sem.run_pure,List.size_toArray,bP,List.reverse_nil] at h2 ⊢
 match vs,h2 with
 | [],h2=>exact⟨_,rfl,h2⟩
 | [v],h2=>exact⟨_,rfl,h2⟩
 | v::u::vs,h2=>exact⟨_,rfl,h2⟩
theorem fj {N:Nat}(args:List Value)(hN:args.length<=N)(S:Env)(hS:∀k x,S.ent k=some x->args[k]? =some x.val):
  Fits ⟨N,[]⟩ S {tmps:=args.toArray++Array.replicate (N-args.toArray.size) undef,defers:=[]}:=by
 refine⟨by simp;omega,rfl,λk x hk=>?_⟩;have h1:=hS k x hk;have:k<args.length:=(Z0.1 h1).1;rw[Array.getElem?_append_left (by simpa using this)];simpa using h1
theorem uP {K:Env->Prop}:∀(ts:List Nat)(vs:List Value)(S:Env)(m:Nat)(args:List Value),(∀j t,ts[j]? =some t->t=m+j)->args.drop m=vs->(∀k x,S.ent k=some x->args[k]? =some x.val)->
  jG ts vs S K->∃S',(∀k x,Env.ent S' k=some x->args[k]? =some x.val)/\K S'
 | _,[],S,_,_,_,_,hS,h=>⟨S,hS,by unfold jG at h;exact h⟩
 | [],_::_,_,_,_,_,_,_,h=>by simp[jG] at h
 | t::ts,v::vs,S,m,args,ht,hd,hS,h=>by
  simp only[jG] at h;have wh:t=m:=by have:=ht 0 t rfl;omega
  subst wh;have hv:args[t]? =some v:=by
   have:=QN (λl=>l[0]?) hd;simpa using this
  refine uP ts vs _ (t+1) args (λj u hu=>by have:=ht (j+1) u hu;omega) ?_ (λk x hk=>?_) h
  ·rw[<-oG,hd]<;>rfl
  ·simp only[Env.ent] at hk;split at hk
   ·rename_i hb;have:=Vz hb;subst this;cases hk;exact hv
   ·exact hS k x hk
theorem QD {c:Cx}(hg:c.g.Ok){f:FuncId}{fn:Func}{x:Code}{args:List Value}{w:World}{R:Value->World->Prop}(hf:c.g.P.funcs[f]? =some fn)(hb:fn.body=some x)(hN:⟨fn.ntmps,[]⟩=c.N)
  (hl:Nat.ble args.length c.N.n=true) (h:jG [0,1,2,3,4,5,6,7,8,9,10,11,12,13,14,15] args [] (λS=>K9 c x S w (ze c fn.results.toList R))):Fn c.g.P f args w R:=by
 unfold Fn;obtain⟨S,hS,hx⟩:=uP _ args [] 0 args (λj t ht=>by
  match j,ht with
  | 0,ht | 1,ht | 2,ht | 3,ht | 4,ht | 5,ht | 6,ht | 7,ht | 8,ht | 9,ht | 10,ht | 11,ht | 12,ht | 13,ht | 14,ht | 15,ht=>simp at ht;omega
  | j+16,ht=>simp at ht) (by simp) (λk x hk=>by simp[Env.ent] at hk) h
 refine calls_of_wp hf hb ?_;have hn:fn.ntmps=c.N.n:=QN Slots.n hN;have JY:=fj (N:=c.N.n) args (fZ hl) S hS;rw[<-hn,hN] at JY;refine wp_mono (iA hg x S w _ _ hx JY) (λe a w' hq=>?_);obtain⟨S',QY,hq⟩:=hq;have Zz:a.defers=[]:=by rw[QY.defers,<-hN]
 cases e with
 | normal=>obtain⟨v,h1,h2⟩:=iB hg QY hq;exact⟨Zz,v,h1,h2⟩
 | ret=>obtain⟨v,h1,h2⟩:=iB hg QY hq;exact⟨Zz,v,h1,h2⟩
 | exit i=>exact hq.elim
 | goto l=>exact hq.elim
 | panic ch=>exact hq.elim
 | outgrown=>exact hq.elim
@[irreducible] def FnP (P:Program) (f:FuncId) (l:List Value) (w:World) (R:Value->World->Prop) (Xi:List PanicEntry->World->Prop):Prop:=Calls P f l.toArray w fun
 | .returned v,w'=>R v w'
 | .panicked ch,w'=>Xi ch w'
 | .outgrown,_=>False
def bQo (c:Cx)(rs:List ResultVar)(R:Value->World->Prop)(Xi:List PanicEntry->World->Prop):Zg
 | .panic ch,_,w=>Xi ch w
 | e,S,w=>ze c rs R e S w
theorem aB {c:Cx}(hg:c.g.Ok){f:FuncId}{fn:Func}{x:Code}{args:List Value}{w:World}{R:Value->World->Prop}{Xi:List PanicEntry->World->Prop}(hf:c.g.P.funcs[f]? =some fn)(hb:fn.body=some x)(hN:⟨fn.ntmps,[]⟩=c.N)
  (hl:Nat.ble args.length c.N.n=true) (h:jG [0,1,2,3,4,5,6,7,8,9,10,11,12,13,14,15] args [] (λS=>K9 c x S w (bQo c fn.results.toList R Xi))):FnP c.g.P f args w R Xi:=by
 unfold FnP;obtain⟨S,hS,hx⟩:=uP _ args [] 0 args (λj t ht=>by
  match j,ht with
  | 0,ht | 1,ht | 2,ht | 3,ht | 4,ht | 5,ht | 6,ht | 7,ht | 8,ht | 9,ht | 10,ht | 11,ht | 12,ht | 13,ht | 14,ht | 15,ht=>simp at ht;omega
  | j+16,ht=>simp at ht) (by simp) (λk x hk=>by simp[Env.ent] at hk) h
 refine calls_of_wp hf hb ?_;have hn:fn.ntmps=c.N.n:=QN Slots.n hN;have JY:=fj (N:=c.N.n) args (fZ hl) S hS;rw[<-hn,hN] at JY;refine wp_mono (iA hg x S w _ _ hx JY) (λe a w' hq=>?_);obtain⟨S',QY,hq⟩:=hq;have Zz:a.defers=[]:=by rw[QY.defers,<-hN]
 cases e with
 | normal=>obtain⟨v,h1,h2⟩:=iB hg QY hq;exact⟨Zz,v,h1,h2⟩
 | ret=>obtain⟨v,h1,h2⟩:=iB hg QY hq;exact⟨Zz,v,h1,h2⟩
 | exit i=>exact hq.elim
 | goto l=>exact hq.elim
 | panic ch=>exact⟨Zz,hq⟩
 | outgrown=>exact hq.elim
theorem FnP.mono {P:Program}{f:FuncId}{l:List Value}{w:World}{R R':Value->World->Prop}{p p':List PanicEntry->World->Prop}(h:FnP P f l w R p)(hr:∀v w',R v w'->R' v w')(hp:∀ch w',p ch w'->p' ch w'):FnP P f l w R' p':=by
 unfold FnP at*;exact Calls.mono h λe w' he=>by cases e<;>first | exact hr _ _ he | exact hp _ _ he | exact he
theorem Fn.toP {P:Program}{f:FuncId}{l:List Value}{w:World}{R:Value->World->Prop}{p:List PanicEntry->World->Prop}(h:Fn P f l w R):FnP P f l w R p:=by
 unfold Fn at h;unfold FnP;exact Calls.mono h λe w' he=>by cases e<;>first | exact he | exact he.elim
theorem XO {P:Program}{f:FuncId}{l:List Value}{w:World}{R:Value->World->Prop}{p:List PanicEntry->World->Prop}{K:Value->World->Prop}{Xi:List PanicEntry->World->Prop}(h:FnP P f l w R p)(k:∀v w',R v w'->K v w')(kp:∀ch w',p ch w'->Xi ch w'):gf P f l w K Xi:=by
 unfold FnP at h;unfold gf;exact Calls.mono h λe w' he=>by cases e<;>first | exact k _ _ he | exact kp _ _ he | exact he
theorem Fn.mono {P:Program}{f:FuncId}{l:List Value}{w:World}{R R':Value->World->Prop}(h:Fn P f l w R)(hr:∀v w',R v w'->R' v w'):Fn P f l w R':=by
 unfold Fn at*;exact Calls.mono h λe w' he=>by cases e<;>first | exact hr _ _ he | exact he
theorem call {P:Program}{f:FuncId}{l:List Value}{w:World}{R:Value->World->Prop}{K:Value->World->Prop}{Xi:List PanicEntry->World->Prop}(h:Fn P f l w R)(k:∀v w',R v w'->K v w'):gf P f l w K Xi:=by
 unfold Fn at h;unfold gf;exact Calls.mono h λe w' he=>by cases e<;>first | exact k _ _ he | exact he.elim
def D7:List Oper->List Nat->List Nat
 | [],QR=>QR
 | o::l,QR=>match o.dst with
  | some d=>D7 l (d::QR)
  | none=>D7 l QR
def iC:Code->List Nat->List Nat
 | .region _ ops _,QR=>D7 ops.toList QR
 | .seq x y,QR=>iC y (iC x QR)
 | .cond _ x y,QR=>iC y (iC x QR)
 | .block _ x,QR=>iC x QR
 | .loop x,QR=>iC x QR
 | .scope x,QR=>iC x QR
 | .rangeFunc _ _ x y,QR=>iC y (iC x QR)
 | _,QR=>QR
def dO (x:Code)(t:Nat):Bool:=match fg t (iC x [])with
 | true=>false
 | false=>true
def cN:List Nat->List Value->Env->(Env->Prop)->Prop
 | [],[],S,K=>K S
 | t::ts,v::vs,S,K=>cN ts vs ((t,.v v)::S) K
 | _,_,_,_=>False
def Has (T S:Env):Prop:=T.map (λp=>S.get p.1)=T.map (λp=>some p.2.val)
theorem bQp {T:Env}{k:Nat}{x:Ent}(h:T.ent k=some x):(k,x)∈T:=by
 induction T with
 | nil=>cases h
 | cons p T ih=>
  obtain⟨t,y⟩:=p;simp only[Env.ent] at h;split at h
  ·rename_i hb;cases h;rw[Vz hb];simp
  ·simp[ih h]
theorem Has.fits {T S:Env}{N:Slots}{a:Act}(h:Has T S)(hf:Fits N S a):Fits N T a:=by
 refine⟨hf.size,hf.defers,λk x hk=>?_⟩;have hm:=bQp hk;exact hf.get ((List.map_inj_left.1 h) (k,x) hm)
theorem D8 {ts:List Nat}{vs:List Value}{S:Env}{K:Env->Prop}(h:cN ts vs S K):∃T,T=(ts.zip (vs.map Ent.v)).reverse++S/\K T:=by
 induction ts generalizing vs S with
 | nil=>
  cases vs with
  | nil=>exact⟨S,rfl,h⟩
  | cons v vs=>exact h.elim
 | cons t ts ih=>
  cases vs with
  | nil=>exact h.elim
  | cons v vs=>
   obtain⟨T,rfl,hk⟩:=ih h;exact⟨_,by simp,hk⟩
def lU (p:Nat->Bool):Env->Env->Env
 | [],QR=>QR
 | (t,x)::S,QR=>match p t with
  | true=>(match jC t QR with
   | true=>lU p S QR
   | false=>lU p S ((t,x)::QR))
  | false=>lU p S QR
theorem zh (p:Nat->Bool)(S QR:Env)(K:Env->Prop):Wm p S QR K=K (lU p S QR):=by
 induction S generalizing QR with
 | nil=>rfl
 | cons q S ih=>
  obtain⟨t,x⟩:=q;simp only[Wm,lU];split
  ·split<;>exact ih _
  ·exact ih _
section
variable {c:Cx} {S:Env} {w:World} {Q:Zg} {α:Type}
theorem bQq {x:Code}(J:α->Act->World->Prop)(μ:α->World->Nat){a:Act}(s0:α)(h0:J s0 a w)
  (hr:∀s a w,J s a w->x.wp c.g.P (λe a' w'=>match e with
   | .normal=>∃s2,J s2 a' w'/\μ s2 w'<μ s w
   | e=>Up c Q e a' w') a w):(Code.loop x).wp c.g.P (Up c Q) a w:=by
 intro b k cs;have key:∀n s a w,μ s w=n->J s a w->∃e a' w',Up c Q e a' w'/\Arrives c.g.P (lone (b.at a (.code x:: .inLoop x::k)) cs w) b k cs e a' w':=by
  intro n;induction n using Nat.strongRecOn with
  | _ n ih=>
   intro s a w hn hJ;obtain⟨e,a1,w1,hq,nL⟩:=hr s a w hJ b (.inLoop x::k) cs;cases e with
   | normal=>
    obtain⟨s2,hJ2,Xc⟩:=hq;obtain⟨e2,a2,w2,wi,iQ9⟩:=ih (μ s2 w1) (hn▸Xc) s2 a1 w1 rfl hJ2;exact⟨e2,a2,w2,wi,.of_steps (Steps.trans nL (.one step_inLoop)) iQ9⟩
   | exit id=>exact⟨_,a1,w1,hq,.pass (x:=.inLoop x) rfl (λ_ _=>.inl (by simp)) nL⟩
   | goto l=>exact⟨_,a1,w1,hq,.pass (x:=.inLoop x) rfl (λ_ _=>.inl (by simp)) nL⟩
   | ret=>exact⟨_,a1,w1,hq,.pass (x:=.inLoop x) rfl (λ_ _=>.inl (by simp)) nL⟩
   | panic ch=>exact⟨_,a1,w1,hq,.pass (x:=.inLoop x) rfl (λ_ _=>.inl (by simp)) nL⟩
   | outgrown=>exact⟨_,a1,w1,hq,.pass (x:=.inLoop x) rfl (λ_ _=>.inl (by simp)) nL⟩
 obtain⟨e,a',w',hq,nL⟩:=key _ s0 a w rfl h0;exact⟨e,a',w',hq,.of_steps (.one step_loop) nL⟩
def bQr (sl:List Nat)(val:α->List Value)(S0:Env)(I:α->World->Prop)(μ:α->World->Nat)(m:Nat)(S2:Env)(w2:World):Prop:=
 ∃s2,cN sl (val s2) S0 (λT=>Has T S2)/\I s2 w2/\μ s2 w2<m
theorem loop (hg:c.g.Ok){x:Code}(sl:List Nat)(val:α->List Value)(I:α->World->Prop)(μ:α->World->Nat)(s0:α)
  (h0:Wm (dO x) S [] (λS0=>cN sl (val s0) S0 (λT=>Has T S))) (hI:I s0 w)
  (hr:Wm (dO x) S [] (λS0=>∀s w',I s w'->cN sl (val s) S0 (λS1=>K9 c x S1 w' (λe S2 w2=>match e with
   | .normal=>bQr sl val S0 I μ (μ s w') S2 w2
   | e=>Q e S2 w2)))):yZ c x S w Q:=by
 rw[zh] at h0 hr;unfold yZ;intro a hf;generalize lU (dO x) S []=S0 at*;have lq:∀s (K:Env->Prop),cN sl (val s) S0 K->K ((sl.zip ((val s).map Ent.v)).reverse++S0):=λs K h=>by
  obtain⟨T,rfl,hk⟩:=D8 h;exact hk
 refine bQq (c:=c) (x:=x) (Q:=Q) (J:=λs a' w'=>Fits c.N ((sl.zip ((val s).map Ent.v)).reverse++S0) a'/\I s w') (μ:=μ) s0 ⟨(lq s0 _ h0).fits hf,hI⟩ ?_;intro s a' w' ⟨QY,hI'⟩;have h1:=iA hg x _ w' _ a' (lq s _ (hr s w' hI')) QY;refine wp_mono h1 (λe a2 w2 hq=>?_);obtain⟨S2,ZI,hq⟩:=hq;cases e with
 | normal=>
  obtain⟨s2,hz,hI2,hm⟩:=hq;exact⟨s2,⟨(lq s2 _ hz).fits ZI,hI2⟩,hm⟩
 | exit i=>exact⟨S2,ZI,hq⟩
 | goto l=>exact⟨S2,ZI,hq⟩
 | ret=>exact⟨S2,ZI,hq⟩
 | panic ch=>exact⟨S2,ZI,hq⟩
 | outgrown=>exact⟨S2,ZI,hq⟩
theorem iD (cs:List Nat)(hg:c.g.Ok){x y:Code}(sl:List Nat)(val:α->List Value)(R:α->World->Prop)
  (hx:Wm (dO x) S [] (λS0=>K9 {c with cuts:=cs} x S w (λe S2 w2=>match e with
   | .normal=>∃s,cN sl (val s) S0 (λT=>Has T S2)/\R s w2
   | e=>Q e S2 w2)))
  (hy:Wm (dO x) S [] (λS0=>∀s w',R s w'->cN sl (val s) S0 (λS1=>K9 c y S1 w' Q))):jA c (.seq x y) S w Q:=by
 rw[zh] at hx hy;unfold jA;intro a hf;generalize lU (dO x) S []=S0 at*;have lq:∀s (K:Env->Prop),cN sl (val s) S0 K->K ((sl.zip ((val s).map Ent.v)).reverse++S0):=λs K h=>by
  obtain⟨T,rfl,hk⟩:=D8 h;exact hk
 refine wp_seq (wp_mono (iA (c:={c with cuts:=cs}) hg x S w _ a hx hf) (λe a2 w2 hq=>?_));obtain⟨S2,ZI,hq⟩:=hq;cases e with
 | normal=>
  obtain⟨s,hz,hR⟩:=hq;exact iA hg y _ w2 Q a2 (lq s _ (hy s w2 hR)) ((lq s _ hz).fits ZI)
 | exit i=>exact⟨S2,ZI,hq⟩
 | goto l=>exact⟨S2,ZI,hq⟩
 | ret=>exact⟨S2,ZI,hq⟩
 | panic ch=>exact⟨S2,ZI,hq⟩
 | outgrown=>exact⟨S2,ZI,hq⟩
theorem M2 (hg:c.g.Ok){x y:Code}(sl:List Nat)(val:α->List Value)(R:α->World->Prop)
  (hx:Wm (dO x) S [] (λS0=>K9 {c with cuts:=[]} x S w (λe S2 w2=>match e with
   | .normal=>∃s,cN sl (val s) S0 (λT=>Has T S2)/\R s w2
   | e=>Q e S2 w2)))
  (hy:Wm (dO x) S [] (λS0=>∀s w',R s w'->cN sl (val s) S0 (λS1=>K9 c y S1 w' Q))):jA c (.seq x y) S w Q:=
 iD [] hg sl val R hx hy
end
@[irreducible] def rI (C:World->Prop) (p:Addr) (K:Value->Prop):Prop:=∃v,(∀w,C w->w.cell? p=some v)/\K v
@[irreducible] def rJ (C:World->Prop) (p:Addr) (n:Nat) (K:List Value->Prop):Prop:=∃vs:List Value,vs.length=n/\(∀w,C w->∀j v,vs[j]? =some v->w.cell? (p.add j)=some v)/\K vs
@[irreducible] def M3 (P:Program) (f:FuncId) (l:List Value) (C:World->Prop) (K:Value->Prop):Prop:=∃v,(∀w,C w->Fn P f l w (λu w'=>u=v/\C w'))/\K v
@[irreducible] def jH (c:Cx) (o:Oper) (S:Env) (C:World->Prop) (K:Env->Prop):Prop:=∃v,(∀a w,Fits c.N S a->C w->o.quietAt c.g.P a C w v)/\Xk c S o.dst (.v v) K
def D9 (
     c:Cx) (o:Oper) (S:Env) (C:World->Prop) (K:Env->Prop):Prop:=
 match o.op with
 | .load t x=>(match QU c.g.tys t,S.ev x with
  | some r,some (.pointer (some p))=>(match oT r.d with
   | false=>rI C p (λv=>Xk c S o.dst (.v v) K)
   | true=>rJ C p r.sz (λvs=>Xk c S o.dst (.v (.agg vs.toArray)) K))
  | _,_=>jH c o S C K)
 | .indexAddr t x i=>(match QU c.g.tys t,S.ev x,S.ev i with
  | some ⟨_,.slice e,_,_,_⟩,some (.slice b n _),some (.int _ i)=>(match QU c.g.tys e with
   | some r=>Y4 b n i r.sz (λp=>Xk c S o.dst (.v (.pointer (some p))) K)
   | none=>jH c o S C K)
  | _,_,_=>jH c o S C K)
 | .index t x i=>(match QU c.g.tys t,S.ev x,S.ev i with
  | some ⟨_,.string,_,_,_⟩,some (.string s),some (.int _ i)=>dM s i (λb=>Xk c S o.dst (.v (.int .u8 b)) K)
  | _,_,_=>jH c o S C K)
 | .call ⟨.value f,xs,_⟩=>(match S.ev f with
  | some (.func (.func n) first cap)=>(match fg n c.g.fns with
   | true=>fi first.toList [] (λQR=>oW S xs.toList QR (λQR=>fi cap.toList QR (λQR=>fi QR [] (λl=>
     M3 c.g.P n l C (λv=>Xk c S o.dst (.v v) K)))))
   | false=>jH c o S C K)
  | _=>jH c o S C K)
 | _=>jH c o S C K
def lV (c:Cx)(o:Oper)(S:Env)(C:World->Prop)(K:Env->Prop):Prop:=
 match rG c.g S o.op with
 | .val v=>Xk c S o.dst (.v v) K
 | .ent e=>Xk c S o.dst e K
 | .norm k n=>be n (λm=>Xk c S o.dst (.v (.int k m)) K)
 | .normIf p k n=>fh p n (λm=>Xk c S o.dst (.v (.int k m)) K)
 | .need p v=>iw p v (λv=>Xk c S o.dst (.v v) K)
 | .no=>D9 c o S C K
def WW (
      c:Cx) (all:List Oper):List Oper->Env->(World->Prop)->(Env->Prop)->Prop
 | [],S,_,K=>Wm (y9 c) S [] K
 | o::rest,S,C,K=>match o.guard with
  | none=>lV c o S C (λS=>WW c all rest S C K)
  | some (
      j,want)=>match VC all j with
   | some oj=>(match oj.dst with
    | some d=>(match S.ent d with
     | some .t=>(match want with
      | true=>lV c o S C (λS=>WW c all rest S C K)
      | false=>Xk c S o.dst (.v undef) (λS=>WW c all rest S C K))
     | some .f=>(match want with
      | false=>lV c o S C (λS=>WW c all rest S C K)
      | true=>Xk c S o.dst (.v undef) (λS=>WW c all rest S C K))
     | some (.v (.bool b))=>(match want with
      | true=>KD b (lV c o ((d,.t)::S) C (λS=>WW c all rest S C K)) (Xk c ((d,.f)::S) o.dst (.v undef) (λS=>WW c all rest S C K))
      | false=>KD b (Xk c ((d,.t)::S) o.dst (.v undef) (λS=>WW c all rest S C K)) (lV c o ((d,.f)::S) C (λS=>WW c all rest S C K)))
     | some (.v (.tuple _))=>Xk c S o.dst (.v undef) (λS=>WW c all rest S C K)
     | _=>False)
    | none=>False)
   | none=>False
section
variable {c:Cx} {a:Act} {S:Env} {C:World->Prop} {K:Env->Prop}
abbrev rK (c:Cx)(K:Env->Prop):Act->Prop:=λa'=>∃S',Fits c.N S' a'/\K S'
theorem oX {o:Oper}{v:Value}{N:Act->Prop}(hr:∀w,(execOp a.eval o).run c.g.P w= .ok (.value v) w)(h:N (a.put o.dst v)):o.quiet c.g.P a C N:=
 ⟨v,λw _=>by unfold Oper.quietAt;rw[hr w];exact⟨rfl,rfl⟩,h⟩
theorem M4 {o:Oper}{v:Value}{N:Act->Prop}(hr:∀w,C w->(execOp a.eval o).run c.g.P w= .ok (.value v) w)(h:N (a.put o.dst v)):o.quiet c.g.P a C N:=
 ⟨v,λw hw=>by unfold Oper.quietAt;rw[hr w hw];exact⟨rfl,rfl⟩,h⟩
theorem bQs (hg:c.g.Ok){o:Oper}(h:D9 c o S C K)(hf:Fits c.N S a):o.quiet c.g.P a C (rK c K):=by
 have Ky:jH c o S C K->o.quiet c.g.P a C (rK c K):=λh=>by
  unfold jH at h;obtain⟨v,h1,h2⟩:=h;exact⟨v,λw hw=>h1 a w hf hw,Zs (e:=.v v) h2 hf⟩
 obtain⟨dst,op,ty,pos,aft,gd⟩:=o;unfold D9 at h;split at h
 ·rename_i t x Jr;simp only at Jr;subst Jr;split at h
  ·rename_i r p hr hx;have e1:=hf.ev hx;split at h
   ·rename_i hd;unfold rI at h;obtain⟨v,hv,hk⟩:=h;refine M4 (v:=v) (λw hw=>?_) (Zs (e:=.v v) hk hf);simp[execOp,e1,Instr.loadAt,Instr.sureAddr,loadVar,lT hg hr,hd,load,Sem.run,hv w hw]
   ·rename_i hd;unfold rJ at h;obtain⟨vs,hl,hv,hk⟩:=h;refine M4 (v:=.agg vs.toArray) (λw hw=>?_) (Zs (e:=.v (.agg vs.toArray)) hk hf);have h2:=run_loadCells_list (P:=c.g.P) (w:=w) p vs (hv w hw);rw[hl] at h2;simp[execOp,e1,Instr.loadAt,Instr.sureAddr,loadVar,lT hg hr,hd,run_sizeOf hg hr,h2]
  ·exact Ky h
 ·rename_i t x ix Jr;simp only at Jr;subst Jr;split at h
  ·rename_i e b n k i hr hx hi;split at h
   ·rename_i r X7;unfold Y4 at h;obtain⟨p,rfl,h0,h1,hk⟩:=h;have e1:=hf.ev hx;have e2:=hf.ev hi;refine oX (v:=.pointer (some (p.add (i.toNat*r.sz)))) (λw=>?_) (Zs (e:=.v _) hk hf);simp[execOp,e1,e2,Instr.indexAt,asIntOf,YJ hg hr,run_sizeOf hg X7,h0,h1]
   ·exact Ky h
  ·exact Ky h
 ·rename_i t x ix Jr;simp only at Jr;subst Jr;split at h
  ·rename_i s k i hr hx hi;unfold dM at h;obtain⟨b,h0,h1,hk⟩:=h;have e1:=hf.ev hx;have e2:=hf.ev hi;refine oX (v:=.int .u8 b.toNat) (λw=>?_) (Zs (e:=.v _) hk hf);simp[execOp,e1,e2,Instr.index,asIntOf,YJ hg hr,h0,h1]
  ·exact Ky h
 ·rename_i f xs ts Jr;simp only at Jr;subst Jr;split at h
  ·rename_i n first cap hv;split at h
   ·rename_i hm;have hc:=hg.fns n (yY hm);rw[lS] at h;have h2:=D5 h hf;rw[lS,lS] at h2;simp only[YH,List.reverse_append,List.reverse_reverse,Je] at h2;unfold M3 at h2;obtain⟨v,h3,hk⟩:=h2;have e1:=hf.ev hv;refine⟨v,λw hw=>?_,Zs (e:=.v v) hk hf⟩;unfold Oper.quietAt;have:(execOp a.eval {dst:=dst,op:=.call ⟨.value f,xs,ts⟩,type:=ty,pos:=pos,after:=aft,guard:=gd}).run c.g.P w=
      .ok (.enter n (first.toList++(List.map a.eval xs.toList++cap.toList)).toArray) w:=by
     simp[execOp,resolve,e1,Deferred.ofValue,invoke,zd hc]
    rw[this];refine⟨rfl,?_⟩;have h4:=h3 w hw;unfold Fn at h4;refine h4.mono λe w' he=>?_
    cases e with
    | returned u=>exact⟨by rw[he.1],he.2⟩
    | panicked ch=>exact he.elim
    | outgrown=>exact he.elim
   ·exact Ky h
  ·exact Ky h
 ·exact Ky h
theorem bQt (hg:c.g.Ok){o:Oper}(h:lV c o S C K)(hf:Fits c.N S a):o.quiet c.g.P a C (rK c K):=by
 unfold lV at h;split at h
 ·rename_i v hp;exact oX (λw=>bT (w:=w) hg hf hp) (Zs (e:=.v v) h hf)
 ·rename_i e hp;exact oX (λw=>bT (w:=w) hg hf hp) (Zs (e:=e) h hf)
 ·rename_i k n hp;unfold be at h;exact oX (λw=>bT (w:=w) hg hf hp) (Zs (e:=.v (.int k n)) h hf)
 ·rename_i p k n hp;unfold fh at h;exact oX (λw=>bT (w:=w) hg hf hp h.1) (Zs (e:=.v (.int k n)) h.2 hf)
 ·rename_i p v hp;unfold iw at h;exact oX (λw=>bT (w:=w) hg hf hp h.1) (Zs (e:=.v v) h.2 hf)
 ·exact bQs hg h hf
theorem zi (hg:c.g.Ok)(all:List Oper):∀(l:List Oper)(S:Env)(a:Act),WW c all l S C K->Fits c.N S a->wpQuiet c.g.P all.toArray C (rK c K) l a
 | [],S,a,h,hf=>by
  simp only[WW] at h;exact uO (p:=y9 c) hf.size hf.defers S [] (λk x hk=>by simp[Env.ent] at hk) (λk x _ hk=>hf.has k x hk) h
 | o::rest,S,a,h,hf=>by
  have go:∀(S:Env),lV c o S C (λS=>WW c all rest S C K)->Fits c.N S a->o.quiet c.g.P a C (wpQuiet c.g.P all.toArray C (rK c K) rest):=λS h hf=>
   Oper.quiet_mono (λa' ⟨S',QY,hk⟩=>zi hg all rest S' a' hk QY) (bQt hg h hf)
  have no:∀(S:Env),Xk c S o.dst (.v undef) (λS=>WW c all rest S C K)->Fits c.N S a->wpQuiet c.g.P all.toArray C (rK c K) rest (a.put o.dst undef):=λS h hf=>by
   obtain⟨S',QY,hk⟩:=Zs h hf;exact zi hg all rest S' _ hk QY
  have fit:∀(d:Nat) (b:Bool) (e:Ent),S.ent d=some (.v (.bool b))->e.val= .bool b->Fits c.N ((d,e)::S) a:=λd b e hd he=>by
   refine⟨hf.size,hf.defers,λk x hk=>?_⟩;simp only[Env.ent] at hk;split at hk
   ·rename_i hb;have:=Vz hb;subst this;cases hk;rw[he];exact hf.has _ _ hd
   ·exact hf.has _ _ hk
  simp only[WW] at h;unfold wpQuiet;split at h
  ·rename_i Kx;rw[Qf (by simp[Region.wanted,Kx])];exact go S h hf
  ·rename_i j want Kx;split at h
   ·rename_i oj hj;split at h
    ·rename_i d hd;split at h
     ·rename_i Zz;have hw:=jE Kx hj hd (hf.has _ _ Zz);split at h
      ·rw[Qf (by rw[hw];rfl)];exact go S h hf
      ·rw[if_neg (by rw[hw];decide)];exact no S h hf
     ·rename_i Zz;have hw:=jE Kx hj hd (hf.has _ _ Zz);split at h
      ·rw[Qf (by rw[hw];rfl)];exact go S h hf
      ·rw[if_neg (by rw[hw];decide)];exact no S h hf
     ·rename_i b Zz;have hw:=jE Kx hj hd (hf.has _ _ Zz);split at h
      ·unfold KD at h;cases b with
       | true=>rw[Qf (by rw[hw];rfl)];exact go _ (h.1 rfl) (fit d true .t Zz rfl)
       | false=>rw[if_neg (by rw[hw];decide)];exact no _ (h.2 rfl) (fit d false .f Zz rfl)
      ·unfold KD at h;cases b with
       | true=>rw[if_neg (by rw[hw];decide)];exact no _ (h.1 rfl) (fit d true .t Zz rfl)
       | false=>rw[Qf (by rw[hw];rfl)];exact go _ (h.2 rfl) (fit d false .f Zz rfl)
     ·rename_i Zz;rw[if_neg (by rw[D6 Kx hj hd (hf.has _ _ Zz)];decide)];exact no S h hf
     ·exact h.elim
    ·exact h.elim
   ·exact h.elim
end
theorem Ea {P:Program}{ops:Array Oper}{C:World->Prop}{Q Q':Act->Prop}(h:∀a,Q a->Q' a):∀{l:List Oper}{a:Act},wpQuiet P ops C Q l a->wpQuiet P ops C Q' l a
 | [],a,hh=>h a hh
 | o::l,a,hh=>by
  unfold wpQuiet at*;split
  ·rename_i hw;rw[Qf hw] at hh;exact Oper.quiet_mono (λa' h'=>Ea h h') hh
  ·rename_i hw;rw[if_neg hw] at hh;exact Ea h hh
theorem bQu {c:Cx}(hg:c.g.Ok){id:Nat}{ops:List Oper}{S:Env}{w:World}{Q:Zg}(C:World->Prop)(hC:C w.drew)(hB:Region.lexB .any ops.toArray=true)
  (h:WW c ops ops S C (λS=>∀w',C w'->Q .normal S w')):WV c id ops S w Q:=by
 unfold WV;intro a hf;refine wp_region_quiet (C:=C) hg.mixed hB hC ?_;have:=zi hg ops ops S a h hf;refine Ea ?_ this;intro a' ⟨S',QY,hk⟩ w' Qb;exact⟨S',QY,hk w' Qb⟩
theorem uQ {P:Program}{ops:Array Oper}{w:World}{Q:Act->Prop}:∀{l:List Oper}{a:Act},wpQuiet P ops (λw'=>w'=w) Q l a->wpStill P ops w Q l a
 | [],a,h=>h
 | o::l,a,h=>by
  unfold wpQuiet at h;unfold wpStill;split
  ·rename_i hw;rw[Qf hw] at h;obtain⟨v,h1,h2⟩:=h;have h3:=h1 w rfl;unfold Oper.quietAt at h3;unfold Oper.still;generalize (execOp a.eval o).run P w=r at*;cases r with
   | ok n w'=>
    cases n<;>simp only[Oper.quietUpon] at h3<;>simp only[Oper.stillUpon]
    case value u=>obtain⟨rfl,rfl⟩:=h3;exact⟨rfl,uQ h2⟩
    case skip=>obtain⟨rfl,rfl⟩:=h3;exact⟨rfl,uQ h2⟩
    case enter f args=>exact⟨h3.1,v,h3.2,uQ h2⟩
   | halt x w'=>simp only[Oper.quietUpon] at h3
  ·rename_i hw;rw[if_neg hw] at h;exact uQ h
theorem uR {P:Program}{ops:Array Oper}{w:World}{Q Q':Act->Prop}(h:∀a,Q a->Q' a):∀{l:List Oper}{a:Act},wpStill P ops w Q l a->wpStill P ops w Q' l a
 | [],a,hh=>h a hh
 | o::l,a,hh=>by
  unfold wpStill at*;split
  ·rename_i hw;rw[Qf hw] at hh;unfold Oper.still at*;generalize (execOp a.eval o).run P w=r at*;cases r with
   | ok n w'=>
    cases n<;>simp only[Oper.stillUpon] at hh ⊢
    case value u=>exact⟨hh.1,uR h hh.2⟩
    case skip=>exact⟨hh.1,uR h hh.2⟩
    case enter f args=>obtain⟨h1,v,h2,h3⟩:=hh;exact⟨h1,v,h2,uR h h3⟩
   | halt x w'=>simp only[Oper.stillUpon] at hh
  ·rename_i hw;rw[if_neg hw] at hh;exact uR h hh
theorem lW {P:Program}{ops:Array Oper}{Q Q':Exit->Act->World->Prop}(h:∀e a w,Q e a w->Q' e a w):∀{l:List Oper}{a:Act}{w:World},wpList P ops Q l a w->wpList P ops Q' l a w
 | [],a,w,hh=>h _ a w hh
 | o::l,a,w,hh=>by
  unfold wpList at*;split
  ·rename_i hw;rw[Qf hw] at hh;rcases hh with hh | ⟨h1,a0,w0,h2⟩
   ·refine .inl ?_;have h2:=Oper.wp_mono (K':=wpList P ops Q' l) (λa w=>lW h) hh;unfold Oper.wp at h2 ⊢;generalize (execOp a.eval o).run P w=r at*;cases r with
    | ok n w'=>
     cases n<;>simp only[Oper.upon] at h2 ⊢ <;> try exact h2
     exact h2.mono λe K6 he=>by
      cases e with
      | returned v=>exact he
      | panicked ch=>exact h _ _ _ he
      | outgrown=>obtain⟨a0,w0,h0⟩:=he;exact⟨a0,w0,h _ _ _ h0⟩
    | halt x w'=>cases x<;>simp only[Oper.upon] at h2 ⊢ <;> first | exact h2 | exact h _ _ _ h2
   ·exact .inr ⟨h1,a0,w0,h _ _ _ h2⟩
  ·rename_i hw;rw[if_neg hw] at hh;exact lW h hh
theorem oY {c:Cx}(hg:c.g.Ok){id:Nat}{ops:List Oper}{S:Env}{w:World}{Q:Zg}(n:Nat)(hB:Region.lexTailB .any ops.toArray n=true)
  (h:WW {c with named:=1000000} ops (ops.take n) S (λw'=>w'=w.drew) (λS=>Yq c ops (ops.drop n) S w.drew (λS w=>Q .normal S w) Q)):WV c id ops S w Q:=by
 unfold WV;intro a hf;refine wp_region_still_tail n hg.mixed hB ?_;have h1:=zi (c:={c with named:=1000000}) hg ops (ops.take n) S a h hf;refine uR ?_ (uQ h1);intro a' ⟨S',QY,hk⟩;have h2:=jF (c:=c) hg ops _ _ _ _ hk QY;refine lW (λe a w hq=>?_) h2;cases e<;>exact hq
end
section
def Ext (w w':World):Prop:=w.grownBy w' none
theorem Ext.refl (w:World):Ext w w:=⟨rfl,rfl,rfl,QC _,λ_ _ _=>rfl⟩
theorem Ext.trans {a b c:World}(h:Ext a b)(k:Ext b c):Ext a c:=
 ⟨k.os.trans h.os,k.tape.trans h.tape,k.output.trans h.output,Zf h.size k.size,λi hi hn=>(k.block i (VQ hi h.size) hn).trans (h.block i hi hn)⟩
theorem Ext.drew (w:World):Ext w w.drew:=⟨rfl,rfl,rfl,QC _,λ_ _ _=>rfl⟩
theorem Ext.alloc (w:World)(o:Obj):Ext w (w.alloc o):=World.grownBy_alloc w o none
theorem Ext.own {w0 w w1:World}{g:Nat}(h:Ext w0 w)(k:w.grownBy w1 (some g))(hg:w0.heap.size<=g):Ext w0 w1:=
 ⟨k.os.trans h.os,k.tape.trans h.tape,k.output.trans h.output,Zf h.size k.size,λi hi hn=>(k.block i (VQ hi h.size) (λe=>by cases e;omega)).trans (h.block i hi hn)⟩
theorem Ext.cell {w w':World}(h:Ext w w'){a:Addr}{v:Value}(hc:w.cell? a=some v):w'.cell? a=some v:=World.grownBy.cell h hc (by simp)
theorem Ext.below {w w':World}(h:Ext w w'):Below w.heap.size w w':=⟨h.os,h.tape,h.output,h.size,λk hk=>h.block k hk (by simp)⟩
theorem Ext.grown {w w':World}(h:Ext w w')(row:Option Nat):w.grownBy w' row:=⟨h.os,h.tape,h.output,h.size,λk hk _=>h.block k hk (by simp)⟩
theorem bQv {a b c:World}{row:Option Nat}(h:a.grownBy b row)(k:b.grownBy c row):a.grownBy c row:=
 ⟨k.os.trans h.os,k.tape.trans h.tape,k.output.trans h.output,Zf h.size k.size,λi hi hn=>(k.block i (VQ hi h.size) hn).trans (h.block i hi hn)⟩
def Blk (w:World)(g:Nat)(t:TypeId)(cs:List Value):Prop:=w.heap[g]? =some (.cells cs.toArray t (0,0))
theorem Blk.lt {w:World}{g t:Nat}{cs:List Value}(h:Blk w g t cs):g<w.heap.size:=(eY.1 h).1
theorem Blk.ext {w w':World}{g t:Nat}{cs:List Value}(h:Blk w g t cs)(k:Ext w w'):Blk w' g t cs:=(k.block g h.lt (by simp)).trans h
theorem oZ (g j:Nat):(⟨g,0,none⟩:Addr).add j=⟨g,j,none⟩:=by unfold Addr.add;split<;>simp_all
theorem Blk.cell {w:World}{g t:Nat}{cs:List Value}(h:Blk w g t cs)(j:Nat):w.cell? ((⟨g,0,none⟩:Addr).add j)=cs[j]? :=by
 rw[oZ,cell_of_row w g j _ t _ h];simp
theorem Blk.frozen {w:World}{g t:Nat}{cs:List Value}(h:Blk w g t cs)(j:Nat):w.frozen? ((⟨g,0,none⟩:Addr).add j)=false:=by
 rw[oZ];exact frozen_of_row w g j _ t h
theorem Blk.new (w:World)(t:TypeId)(cs:List Value):Blk (w.alloc (.cells cs.toArray t)) w.heap.size t cs:=heap_alloc_new w _
theorem bQw (w:World)(a:Addr)(v:Value):w.grownBy (w.setCell a v) (some a.block):=
 ⟨rfl,rfl,rfl,by simp,λk _ hn=>Below.heap_setCell w a v k (λe=>hn (by rw[e]))⟩
theorem Blk.set {w:World}{g t:Nat}{cs:List Value}(h:Blk w g t cs)(j:Nat)(v:Value):Blk (w.setCell ((⟨g,0,none⟩:Addr).add j) v) g t (cs.set j v):=by
 rw[oZ];have:=heap_setCell_same w g j cs.toArray t v h;unfold Blk;rw[this];simp
structure Sl (w:World) (sz:Nat) (A:Option Addr) (n c:Nat) (cs:List Value):Prop where
 len:cs.length=n*sz
 le:n<=c
 cap:c<=maxLen
 at_:0<n->∃ad,A=some ad/\∀j u,cs[j]? =some u->w.cell? (ad.add j)=some u
theorem Sl.ext {w w':World}{sz n c:Nat}{A:Option Addr}{cs:List Value}(h:Sl w sz A n c cs)(k:Ext w w'):Sl w' sz A n c cs:=
 ⟨h.len,h.le,h.cap,λhn=>let ⟨ad,e,hc⟩:=h.at_ hn;⟨ad,e,λj u hu=>k.cell (hc j u hu)⟩⟩
theorem Sl.nil (w:World)(sz:Nat):Sl w sz none 0 0 []:=⟨by simp,QC _,by simp[maxLen],λh=>Q8 h (by omega)⟩
theorem Sl.take {w:World}{sz n c:Nat}{A:Option Addr}{cs:List Value}(h:Sl w sz A n c cs){m:Nat}(hm:m<=n):Sl w sz A m c (cs.take (m*sz)):=
 ⟨by rw[Ye,h.len];exact oH (Y1 _ hm),Zf hm h.le,h.cap,λhn=>let ⟨ad,e,hc⟩:=h.at_ (by omega);⟨ad,e,λj u hu=>hc j u (by
  rw[Dx] at hu;split at hu<;>simp_all)⟩⟩
theorem Sl.own {w:World}{g t sz n c:Nat}{cs:List Value}(h:Blk w g t cs)(hn:n<=c)(hc:c<=maxLen)(hl:n*sz<=cs.length):Sl w sz (some ⟨g,0,none⟩) n c (cs.take (n*sz)):=
 ⟨by rw[Ye];exact oH hl,hn,hc,λ_=>⟨_,rfl,λj u hu=>by
  rw[h.cell];rw[Dx] at hu;split at hu<;>simp_all⟩⟩
theorem Sl.own' {w:World}{g t n:Nat}{cs:List Value}(h:Blk w g t cs)(hl:cs.length=n)(hn:n<=maxLen):Sl w 1 (some ⟨g,0,none⟩) n n cs:=by
 have:=Sl.own (sz:=1) h (QC n) hn (by omega)
 rwa [Jm (by omega)] at this
def Fresh (w w':World)(A:Option Addr):Prop:=∀ad,A=some ad->w.heap.size<=ad.block/\ad.block<w'.heap.size
theorem Fresh.ext {w w' w2:World}{A:Option Addr}(h:Fresh w w' A)(k:Ext w' w2):Fresh w w2 A:=λad e=>⟨(h ad e).1,VQ (h ad e).2 k.size⟩
theorem Wn {b:Bool}{p q:Prop}(hp:b=true->p)(hq:b=false->q):KD b p q:=by unfold KD;exact⟨hp,hq⟩
theorem Qy {c p q:Prop} [Decidable c](hp:c->p)(hq:¬c->q):KD (decide c) p q:=Wn (λh=>hp (a8 h)) (λh=>hq (of_decide_eq_false h))
theorem Xa {b:Bool}{p q:Prop}(hb:b=true)(hp:p):KD b p q:=Wn (λ_=>hp) (λh=>by rw[hb] at h;cases h)
theorem Q5 {b:Bool}{p q:Prop}(hb:b=false)(hq:q):KD b p q:=Wn (λh=>by rw[hb] at h;cases h) (λ_=>hq)
theorem XH {c p q:Prop} [Decidable c](hc:c)(hp:p):KD (decide c) p q:=Xa (XR hc) hp
theorem Q9 {c p q:Prop} [Decidable c](hc:¬c)(hq:q):KD (decide c) p q:=Q5 (X4 hc) hq
theorem Zh {x y:Int}{p q:Prop}(hp:x=y->p)(hq:x≠y->q):KD (x==y) p q:=Wn (λh=>hp (by simpa using h)) (λh=>hq (by simpa using h))
theorem Kc {x y:Int}{p q:Prop}(h:x=y)(hp:p):KD (x==y) p q:=Xa (by simpa using h) hp
theorem XB {x y:Int}{p q:Prop}(h:x≠y)(hq:q):KD (x==y) p q:=Q5 (by simpa using h) hq
theorem bg {x y:Int}{p q:Prop}(hp:x≠y->p)(hq:x=y->q):KD (x !=y) p q:=Wn (λh=>hp (by simpa using h)) (λh=>hq (by simpa using h))
theorem rL {x y:Int}{p q:Prop}(h:x≠y)(hp:p):KD (x !=y) p q:=Xa (by simpa using h) hp
theorem Wo {x y:Int}{p q:Prop}(h:x=y)(hq:q):KD (x !=y) p q:=Q5 (by simpa using h) hq
theorem lX {b:Bool}{p q:Prop}(h:KD b q p):KD (!b) p q:=by unfold KD at*;cases b<;>simp_all
theorem norm {n m:Int}{K:Int->Prop}(h:n=m)(k:K m):be n K:=by unfold be;rw[h];exact k
theorem bQx {n:Int}{K:Int->Prop}(h: -9223372036854775808<=n/\n<=9223372036854775807)(k:K n):be (IntKind.i64.wrap n) K:=norm (IntWalk.i64_in n h) k
theorem zj {n:Int}{K:Int->Prop}(h:0<=n/\n<=18446744073709551615)(k:K n):be (IntKind.u64.wrap n) K:=norm (IntWalk.u64_in n h) k
theorem bQy {n:Int}{K:Int->Prop}(h:0<=n/\n<=255)(k:K n):be (IntKind.u8.wrap n) K:=norm (IntWalk.u8_in n h) k
theorem Qi {n:Int}{K:Int->Prop}(m:Int)(hm:n=m)(h: -9223372036854775808<=m/\m<=9223372036854775807)(k:K m):be (IntKind.i64.wrap n) K:=by subst hm;exact bQx h k
theorem o0 {n:Int}{K:Int->Prop}(m:Int)(hm:n=m)(h:0<=m/\m<=18446744073709551615)(k:K m):be (IntKind.u64.wrap n) K:=by subst hm;exact zj h k
theorem M5 {n:Int}{K:Int->Prop}(m:Int)(hm:n=m)(h:0<=m/\m<=255)(k:K m):be (IntKind.u8.wrap n) K:=by subst hm;exact bQy h k
theorem normIf {p:Prop}{n m:Int}{K:Int->Prop}(hp:p)(h:n=m)(k:K m):fh p n K:=by unfold fh;rw[h];exact⟨hp,k⟩
theorem need {p:Prop}{v:Value}{K:Value->Prop}(hp:p)(k:K v):iw p v K:=by unfold iw;exact⟨hp,k⟩
theorem M6 {a b s:Nat}{K:Int->Prop}(hs:a ||| b=s)(ha:a<18446744073709551616)(hb:b<18446744073709551616)(k:K (s:Int)):be (IntKind.u64.wrap ((BitVec.ofInt IntKind.u64.bits (a:Int) ||| BitVec.ofInt IntKind.u64.bits (b:Int)).toNat:Int)) K:=by
 have Xc:a ||| b<2^64:=Nat.or_lt_two_pow (by omega) (by omega)
 refine norm ?_ k;rw[BitVec.toNat_or,BitVec.ofInt_natCast,BitVec.ofInt_natCast,BitVec.toNat_ofNat,BitVec.toNat_ofNat];simp only[IntKind.bits];rw[iq (by omega),iq (by omega),hs];rw[hs] at Xc;exact IntWalk.u64_in _ (by omega)
theorem bQz (x:Nat)(n:Nat):(x:Int).fdiv (2^n)=((x/2^n:Nat):Int):=by
 rw[Int.fdiv_eq_ediv_of_nonneg _ (Int.le_of_lt (Int.pow_pos (by decide)))]
 norm_cast
theorem bQA (n:Nat):IntKind.u32.wrap (n:Int)=((n % 4294967296:Nat):Int):=by rw[IntKind.wrap_u32];omega
theorem bQB (a b:Nat):(a:Int).tmod (b:Int)=((a % b:Nat):Int):=by rw[Int.tmod_eq_emod_of_nonneg (by omega)];norm_cast
theorem bQC (a b:Nat):(a:Int).tdiv (b:Int)=((a/b:Nat):Int):=by rw[Int.tdiv_eq_ediv_of_nonneg (by omega)];norm_cast
theorem zk {x:Nat}{k:IntKind}{y:Int}{K:Int->Prop}(n d:Nat)(hy:0<=y)(hn:min y.toNat k.bits=n)(hd:2^n=d)(h:K ((x/d:Nat):Int)):fh (0<=y) ((x:Int).fdiv (2^(min y.toNat k.bits))) K:=by
 subst hd;rw[hn];exact(by unfold fh;exact⟨hy,by rw[bQz];exact h⟩)
theorem zl {n:Nat}{K:Int->Prop}(k:K ((n % 4294967296:Nat):Int)):be (IntKind.u32.wrap (n:Int)) K:=norm (bQA n) k
theorem Eb {x:Nat}{d:Nat}{K:Int->Prop}(hd:0<d)(k:K ((x % d:Nat):Int)):fh ((d:Int)≠0) ((x:Int).tmod d) K:=normIf (by omega) (bQB x d) k
theorem load {w:World}{p:Addr}{v:Value}{K:Value->Prop}(h:w.cell? p=some v)(k:K v):gb w p K:=by unfold gb;exact⟨v,h,k⟩
theorem Qp {w:World}{g t:Nat}{cs:List Value}{j:Nat}{v:Value}{K:Value->Prop}(h:Blk w g t cs)(hv:cs[j]? =some v)(k:K v):gb w ((⟨g,0,none⟩:Addr).add j) K:=load (by rw[h.cell];exact hv) k
theorem zm {w:World}{g t:Nat}{cs:List Value}{j:Nat}{v:Value}{K:World->Prop}(h:Blk w g t cs)(hj:j<cs.length)(k:∀w1,w.grownBy w1 (some g)->Blk w1 g t (cs.set j v)->K w1):gc w ((⟨g,0,none⟩:Addr).add j) v K:=by
 unfold gc;refine⟨⟨cs[j],by rw[h.cell];simp[hj]⟩,h.frozen j,k _ ?_ (h.set j v)⟩;have:=bQw w ((⟨g,0,none⟩:Addr).add j) v;rw[oZ] at this ⊢;exact this
theorem index {a:Addr}{n j:Nat}{K:Addr->Prop}(hj:j<n)(k:K (a.add j)):Y4 (some a) n (j:Int) 1 K:=by
 unfold Y4;exact⟨a,rfl,by omega,by omega,by simpa using k⟩
theorem JO {a:Addr}{n j sz:Nat}{K:Addr->Prop}(hj:j<n)(k:K (a.add (j*sz))):Y4 (some a) n (j:Int) sz K:=by
 unfold Y4;exact⟨a,rfl,by omega,by omega,by simpa using k⟩
theorem X5 {w:World}{A:Option Addr}{n c j:Nat}{cs:List Value}{K:Addr->Prop}(h:Sl w 1 A n c cs)(hj:j<n)(k:∀ad u,A=some ad->cs[j]? =some u->w.cell? (ad.add j)=some u->K (ad.add j)):Y4 A n (j:Int) 1 K:=by
 obtain⟨ad,rfl,hc⟩:=h.at_ (by omega);have hl:j<cs.length:=by have:=h.len;omega
 exact index hj (k ad cs[j] rfl (by simp[hl]) (hc j _ (by simp[hl])))
theorem bQD {s:ByteArray}{j:Nat}{K:Int->Prop}(hj:j<s.size)(k:K (s[j].toNat:Int)):dM s (j:Int) K:=by
 unfold dM;exact⟨s[j],by omega,by simp[hj],k⟩
theorem QH {C:World->Prop}{p:Addr}{v:Value}{K:Value->Prop}(h:∀w,C w->w.cell? p=some v)(k:K v):rI C p K:=by unfold rI;exact⟨v,h,k⟩
theorem uS {c:Cx}(hg:c.g.Ok){id:Nat}{ops:List Oper}{S:Env}{w:World}{Q:Zg}(hB:Region.lexB .any ops.toArray=true)
  (h:WW c ops ops S (Ext w) (λS=>∀w',Ext w w'->Q .normal S w')):WV c id ops S w Q:=bQu hg (Ext w) (Ext.drew w) hB h
theorem Js {c:Cx}{o:Oper}{S:Env}{w w':World}{K:Env->World->Prop}{Q:Zg}{v:Value}(h:∀a,Fits c.N S a->(execOp a.eval o).run c.g.P w= .ok (.value v) w')(k:Xk c S o.dst (.v v) (λS=>K S w')):X8 c o S w K Q:=by
 unfold X8;intro a hf;exact bf (h a hf) (Zs (e:=.v v) k hf)
theorem M7 (z:Value)(n:Nat):madeCells #[z] n=Array.replicate n z:=by
 apply Array.ext
 ·simp[madeCells]
 ·intro i h1 h2;simp[madeCells,Nat.mod_one]
theorem zo {c:Cx}(hg:c.g.Ok){o:Oper}{S:Env}{w:World}{K:Env->World->Prop}{Q:Zg}{t e:Nat}{x y:Operand}{n:Nat}{r re:TyRow}(ho:o.op= .makeSlice t x y)(hr:QU c.g.tys t=some r)(hd:r.d= .slice e)(X7:QU c.g.tys e=some re)(hz:re.z.cells= #[re.z])
  (hs:re.sz=1) (hx:S.ev x=some (.int .i64 n)) (hy:S.ev y=some (.int .i64 n)) (hb:re.by_*n<=281474976710656) (hn:n<=maxLen)
  (k:∀w1,Ext w w1->w1.heap.size=w.heap.size+1->Blk w1 w.heap.size e (List.replicate n re.z)->Xk c S o.dst (.v (.slice (some ⟨w.heap.size,0,none⟩) n n)) (λS=>K S w1)):X8 c o S w K Q:=by
 obtain⟨_,i,hi,Xu,bK,bL⟩:=hg.row X7;have Q1:=(hg.row hr).1;rw[hd] at Q1;have bA:=run_make (P:=c.g.P) w t e i re.z Q1 hi bL .i64 .i64 n n (by omega) (by omega) (by rw[bK];omega) (by unfold maxLen at hn;omega);rw[hz,Xu,hs,M7] at bA;refine Js (w':=w.alloc (.cells (Array.replicate n re.z) e)) (v:=.slice (some ⟨w.heap.size,0,none⟩) n n) (λa hf=>?_) (k _ (Ext.alloc w _) (by simp) ?_)
 ·have e1:=hf.ev hx;have e2:=hf.ev hy;simp only[execOp,ho,e1,e2];simp at bA ⊢;rw[bA]<;>rfl
 ·have:=Blk.new w e (List.replicate n re.z);simpa using this
theorem jI {c:Cx}(hg:c.g.Ok){o:Oper}{S:Env}{w:World}{K:Env->World->Prop}{Q:Zg}{t e:Nat}{x y:Operand}{A:Option Addr}{n cp:Nat}{h:Nat}{r:TyRow}(ho:o.op= .slice t x none (some y) none)(hr:QU c.g.tys t=some r)(hd:r.d= .slice e){re:TyRow}(X7:QU c.g.tys e=some re)
  (hx:S.ev x=some (.slice A n cp)) (hy:S.ev y=some (.int .i64 h)) (hh:h<=cp)
  (k:Xk c S o.dst (.v (.slice A h cp)) (λS=>K S w)):X8 c o S w K Q:=by
 have Q1:=(hg.row hr).1;rw[hd] at Q1;refine Js (w':=w) (λa hf=>?_) k;have e1:=hf.ev hx;have e2:=hf.ev hy;simp[execOp,ho,e1,e2,Instr.sliceAt,Instr.slice,ZL Q1,Instr.sliceBounds,Instr.sliceBound,asIntOf,hh,run_sizeOf hg X7];intro _;cases A<;>simp[Addr.add]
theorem M8 {c:Cx}(hg:c.g.Ok){o:Oper}{S:Env}{w:World}{K:Env->World->Prop}{Q:Zg}{t e:Nat}{x y:Operand}{A:Option Addr}{n cp:Nat}{l:Nat}{r:TyRow}(ho:o.op= .slice t x (some y) none none)(hr:QU c.g.tys t=some r)(hd:r.d= .slice e){re:TyRow}(X7:QU c.g.tys e=some re)
  (hx:S.ev x=some (.slice A n cp)) (hy:S.ev y=some (.int .i64 l)) (hl:l<=n)
  (k:Xk c S o.dst (.v (.slice (if cp=l then A else A.map (·.add (l*re.sz))) (n-l) (cp-l))) (λS=>K S w)):X8 c o S w K Q:=by
 have Q1:=(hg.row hr).1;rw[hd] at Q1;refine Js (w':=w) (λa hf=>?_) k;have e1:=hf.ev hx;have e2:=hf.ev hy;simp[execOp,ho,e1,e2,Instr.sliceAt,Instr.slice,ZL Q1,Instr.sliceBounds,Instr.sliceBound,asIntOf,hl,run_sizeOf hg X7]
structure Own (w:World) (base e sz:Nat) (A:Option Addr) (n c:Nat) (cs:List Value):Prop where
 row:w.ownsRow base e sz (.slice A n c) n cs
theorem nQb {w:World}{base e sz:Nat}{v:Value}{n:Nat}{cs:List Value}(h:w.ownsRow base e sz v n cs):∃A c,v= .slice A n c/\Own w base e sz A n c cs:=by
 rcases h.2 with⟨rfl,rfl⟩ | ⟨g,cap,ZD,rfl,r⟩
 ·exact⟨none,0,rfl,⟨h⟩⟩
 ·exact⟨_,cap,rfl,⟨h⟩⟩
theorem Own.sl {w:World}{base e sz n c:Nat}{A:Option Addr}{cs:List Value}(h:Own w base e sz A n c cs):Sl w sz A n c cs:=by
 have h:=h.row;have h1:=h.1;rcases h.2 with⟨hv,rfl⟩ | ⟨g,cap,ZD,hv,hb,hg,hn,hm,hs,ht⟩
 ·cases hv;exact⟨h1,QC _,by simp[maxLen],λh=>Q8 h (by omega)⟩
 ·cases hv;refine⟨h1,hn,hm,λ_=>⟨_,rfl,λj u hu=>?_⟩⟩;exact World.ownsRow.cells h (g:=g) rfl j u hu
theorem Own.ext {w w':World}{base e sz n c:Nat}{A:Option Addr}{cs:List Value}(h:Own w base e sz A n c cs)(k:Ext w w'):Own w' base e sz A n c cs:=
 ⟨h.row.kept k (by cases hv:(Value.slice A n c).ownBlock<;>simp)⟩
theorem Own.empty {w:World}{g e sz:Nat}{base:Nat}(h:Blk w g e [])(hb:base<=g):Own w base e sz (some ⟨g,0,none⟩) 0 0 []:=
 ⟨⟨by simp,.inr ⟨g,0,_,rfl,hb,h,QC _,by simp[maxLen],by simp,by simp⟩⟩⟩
theorem Own.nil (w:World)(base e sz:Nat):Own w base e sz none 0 0 []:=⟨World.ownsRow_nil w base e sz⟩
theorem Own.blk {w:World}{base e n c:Nat}{A:Option Addr}{cs:List Value}(h:Own w base e 1 A n c cs)(hn:0<n):∃g sp,A=some ⟨g,0,none⟩/\base<=g/\Blk w g e (cs++sp)/\(cs++sp).length=c:=by
 have h:=h.row;rcases h.2 with⟨hv,rfl⟩ | ⟨g,cap,ZD,hv,hb,hg,Kn,hm,hs,ht⟩
 ·omega
 ·cases hv;refine⟨g,ZD.toList.drop n,rfl,hb,?_⟩;rw[ir] at ht;rw[<-ht,eZ];exact⟨by simpa [Blk] using hg,by simpa using hs⟩
theorem o6 (a:Addr)(j:Nat):(a.add j).block=a.block:=by unfold Addr.add;split<;>rfl
theorem zp {u:Value}(h:Jz u=true):u.oneCell'=true:=by cases u<;>first | rfl | (simp[Jz] at h)
theorem bQE (z v:Value)(h:Jz v=true):Instr.fill (λi=>some (i*1,1)) #[z] [(0,v)]=some #[v]:=by
 have hc:v.cells= #[v]:=by cases v<;>first | rfl | (simp[Jz] at h)
 simp[Instr.fill,hc]
theorem bQF (z v u:Value)(h:Jz v=true)(h':Jz u=true):Instr.fill (λi=>some (i*1,1)) #[z,z] [(0,v),(1,u)]=some #[v,u]:=by
 have hc:v.cells= #[v]:=by cases v<;>first | rfl | (simp[Jz] at h)
 have Z2:u.cells= #[u]:=by cases u<;>first | rfl | (simp[Jz] at h')
 simp[Instr.fill,hc,Z2]
section
variable {c:Cx} (hg:c.g.Ok) {o:Oper} {S:Env} {w:World} {K:Env->World->Prop} {Q:Zg} {t e:Nat} {r re:TyRow}
include hg
theorem M9 (hr:QU c.g.tys t=some r)(hd:r.d= .slice e)(X7:QU c.g.tys e=some re)(hs:re.sz=1)(hz:re.z.cells= #[re.z])(n:Nat)(hn:n<=1000)(parts:Array (Nat×Value))(cs:List Value)
  (hf:Instr.fill (λi=>some (i*1,1)) (Array.replicate n re.z) parts.toList=some cs.toArray):
  (Instr.buildSlice t n parts).run c.g.P w= .ok (.slice (some ⟨w.heap.size,0,none⟩) n n) (w.alloc (.cells cs.toArray e)):=by
 obtain⟨_,i,hi,Xu,nM,bL⟩:=hg.row X7;have Q1:=(hg.row hr).1;rw[hd] at Q1;have e1:(Array.range n).map (λj=>(#[re.z]:Array Value)[j % (#[re.z]:Array Value).size]!)=Array.replicate n re.z:=M7 re.z n;have gB:¬(16777216<n):=by omega
 by_cases h0:n=0
 ·subst h0;simp[Instr.buildSlice,ZL Q1,sizeOf,typeInfo,hi,Xu,hs,newRow] at hf ⊢;rw[show Array.map (λ_=>(default:Value)) (Array.range 0)= #[] by simp[Array.range_zero'],hf];simp
 ·simp[Instr.buildSlice,ZL Q1,sizeOf,typeInfo,hi,Xu,hs,newRow,gB,h0,zeroValue,bL,hz];simp at e1 hf;rw[e1,hf];simp
theorem Na {x:Operand}{v:Value}(ho:o.op= .buildSlice t 1 #[(0,x)])(hr:QU c.g.tys t=some r)(hd:r.d= .slice e)(X7:QU c.g.tys e=some re)(hs:re.sz=1)(hz:re.z.cells= #[re.z])(hx:S.ev x=some v)(hv:Jz v=true)
  (k:∀w1,Ext w w1->w1.heap.size=w.heap.size+1->Blk w1 w.heap.size e [v]->Xk c S o.dst (.v (.slice (some ⟨w.heap.size,0,none⟩) 1 1)) (λS=>K S w1)):X8 c o S w K Q:=by
 have Z9:=M9 (w:=w) hg hr hd X7 hs hz 1 (by omega) #[(0,v)] [v] (bQE re.z v hv);refine Js (w':=w.alloc (.cells #[v] e)) (λa hf=>?_) (k _ (Ext.alloc w _) (by simp) (Blk.new w e [v]));have e1:=hf.ev hx;simp only[execOp,ho];simp[e1,Z9]
theorem rM {x y:Operand}{v u:Value}(ho:o.op= .buildSlice t 2 #[(0,x),(1,y)])(hr:QU c.g.tys t=some r)(hd:r.d= .slice e)(X7:QU c.g.tys e=some re)(hs:re.sz=1)(hz:re.z.cells= #[re.z])(hx:S.ev x=some v)(hy:S.ev y=some u)(hv:Jz v=true)(hu:Jz u=true)
  (k:∀w1,Ext w w1->w1.heap.size=w.heap.size+1->Blk w1 w.heap.size e [v,u]->Xk c S o.dst (.v (.slice (some ⟨w.heap.size,0,none⟩) 2 2)) (λS=>K S w1)):X8 c o S w K Q:=by
 have Z9:=M9 (w:=w) hg hr hd X7 hs hz 2 (by omega) #[(0,v),(1,u)] [v,u] (bQF re.z v u hv hu);refine Js (w':=w.alloc (.cells #[v,u] e)) (λa hf=>?_) (k _ (Ext.alloc w _) (by simp) (Blk.new w e [v,u]));have e1:=hf.ev hx;have e2:=hf.ev hy;simp only[execOp,ho];simp[e1,e2,Z9]
end
theorem bQG {c:Cx}(hg:c.g.Ok){o:Oper}{S:Env}{w:World}{K:Env->World->Prop}{Q:Zg}{t t2 e:Nat}{x y:Operand}{g n cp:Nat}{A:Option Addr}{m c2:Nat}{xs ys:List Value}{r re:TyRow}
  (ho:o.op= .call ⟨.builtin .copy, #[x,y], #[t,t2]⟩) (hr:QU c.g.tys t=some r) (hd:r.d= .slice e) (X7:QU c.g.tys e=some re) (hs:re.sz=1)
  (hx:S.ev x=some (.slice (some ⟨g,0,none⟩) n cp)) (hy:S.ev y=some (.slice A m c2)) (hb:Blk w g e xs) (fN:Sl w 1 A m c2 ys) (C1:m<=n) (cC:n<=xs.length) (fO:∀u∈ys,Jz u=true)
  (k:∀w1,w.grownBy w1 (some g)->w1.heap.size=w.heap.size->Blk w1 g e (ys++xs.drop m)->Xk c S o.dst (.v (.int .i64 m)) (λS=>K S w1)):X8 c o S w K Q:=by
 obtain⟨_,i,hi,Xu,nM,bL⟩:=hg.row X7;have Q1:=(hg.row hr).1;rw[hd] at Q1;have Xd:ys.length=m:=by have:=fN.len;omega
 have hfc:(Builtin.firstCells 1 m (.slice A m c2)).run c.g.P w= .ok ys.toArray w:=by
  by_cases h0:m=0
  ·subst h0;have:ys=[]:=aA Xd;subst this;cases A<;>simp[Builtin.firstCells,loadCells,loadCellsFrom]
  ·obtain⟨ad,rfl,hc⟩:=fN.at_ (by omega);have:=run_loadCells_list (P:=c.g.P) (w:=w) ad ys hc;rw[Xd] at this;simpa [Builtin.firstCells] using this
 have nK:=run_storeCells_at c.g.P g 0 e ys 0 xs.toArray w hb (by simp;omega) (λu hu=>zp (fO u hu));simp only[bQ,Nat.add_zero] at nK;have nN:Nat.min m n=m:=oH C1;refine Js (w':=w.setRow g (ys++xs.drop m).toArray) (v:=.int .i64 m) (λa hf=>?_) (k _ ?_ (by simp) ?_)
 ·have e1:=hf.ev hx;have e2:=hf.ev hy;have kQ2:(storeCells (⟨g,0,none⟩:Addr) ys).run c.g.P w= .ok () (w.setRow g (ys++xs.drop m).toArray):=by
   have:=nK;rw[Xd] at this;simpa [oZ] using this
  simp only[execOp,ho,resolve,invoke];simp[builtin,e1,e2,Builtin.copy_,ZL Q1,sizeOf,typeInfo,hi,Xu,hs,Builtin.lenOf,nN,hfc,kQ2,goInt]
 ·exact⟨rfl,rfl,rfl,by simp,λj _ hj=>setRow_other w g j _ (λe=>hj (by rw[e]))⟩
 ·exact setRow_heap w g xs.toArray _ e _ hb
def Jt (l:List Nat):List Value:=l.map λ(x:Nat)=>.int .u8 x
def Qe (l:List Nat):ByteArray:=⟨(l.map UInt8.ofNat).toArray⟩
theorem Ec {l:List Nat}{j x:Nat}(h:l[j]? =some x):(Jt l)[j]? =some (.int .u8 (x:Int)):=by simp[Jt,h]
theorem zq (l m:List Nat):Jt (l++m)=Jt l++Jt m:=by simp[Jt]
theorem uT (l:List Nat):(Jt l).length=l.length:=by simp[Jt]
theorem jJ (l m:List Nat):Qe l++Qe m=Qe (l++m):=by
 apply ByteArray.ext;simp[Qe,ByteArray.data_append]
theorem XF (l:List Nat):(Qe l).size=l.length:=by simp[Qe,ByteArray.size]
def YK (s:ByteArray):List Nat:=s.data.toList.map UInt8.toNat
theorem uU (s:ByteArray):(YK s).length=s.size:=by simp[YK]
theorem bQH (s:ByteArray):∀x∈YK s,x<256:=by
 intro x hx;simp only[YK,Z4] at hx;obtain⟨b,_,rfl⟩:=hx;exact b.toNat_lt
theorem Nb {s:ByteArray}{j:Nat}(hj:j<s.size):(YK s)[j]? =some s[j].toNat:=by
 have h':j<s.data.size:=hj;have:s[j]=s.data[j]:=rfl;rw[this];simp only[YK,VR,Array.getElem?_toList];rw[Array.getElem?_eq_getElem h']<;>rfl
theorem cO {s:ByteArray}{j:Nat}{K:Int->Prop}(hj:j<s.size)(k:∀x,(YK s)[j]? =some x->x<256->K (x:Int)):dM s (j:Int) K:=
 bQD hj (k _ (Nb hj) (s[j]).toNat_lt)
theorem bQI (s:ByteArray):Qe (YK s)=s:=by
 apply ByteArray.ext;simp[Qe,YK,Function.comp_def]
theorem Wp {l:List Nat}(h:∀x∈l,x<256):YK (Qe l)=l:=by
 simp only[YK,Qe,yF]
 conv=>rhs;rw[<-List.map_id l]
 apply List.map_congr_left;intro x hx;simp[iq (h x hx)]
theorem Jc {l m:List Nat}(hl:∀x∈l,x<256)(hm:∀x∈m,x<256)(h:Qe l=Qe m):l=m:=by
 rw[<-Wp hl,<-Wp hm,h]
end
section
section
variable {P:Program} {ops:Array Oper} {md:Region.Mode} {C:World->Prop} {Q:Exit->Act->World->Prop}
def NoPan (Q:Exit->Act->World->Prop):Exit->Act->World->Prop
 | .panic _,_,_=>False
 | e,a,w=>Q e a w
theorem NoPan.imp {Q:Exit->Act->World->Prop}:∀(e:Exit)(a:Act)(w:World),NoPan Q e a w->Q e a w:=λe a w h=>by
 cases e<;>first | exact h | exact(h:False).elim
def WX (P:Program)(md:Region.Mode)(ops:Array Oper)(Q:Exit->Act->World->Prop)(C:World->Prop)(n:Nat)(L:Array Bool->Act->World->Prop):Nat->Array Bool->Act->World->Prop
 | 0,listed,a,w=>L listed a w
 | f+1,listed,a,w=>
  Region.ready md ops listed≠ []/\∀i∈Region.ready md ops listed,i<n/\wpOp P ops Q i (λa' w'=>C w'/\WX P md ops Q C n L f (listed.setIfInBounds i true) a' w') a w
theorem uV {n g:Nat}{L:Array Bool->Act->World->Prop}(hL:∀listed a w,L listed a w->wpAny P md ops Q g listed a w):
  ∀(f:Nat) (listed:Array Bool) (a:Act) (w:World),WX P md ops Q C n L f listed a w->wpAny P md ops Q (f+g) listed a w
 | 0,listed,a,w,h=>by rw[bQ];exact hL _ _ _ h
 | f+1,listed,a,w,h=>by
  rw[show f+1+g=(f+g)+1 by omega];exact⟨λh0=>Q8 h0 h.1,λi hi=>wpOp_mono (λa' w' h'=>uV hL f _ a' w' h'.2) (h.2 i hi).2⟩
def jK (md:Region.Mode)(ops:Array Oper)(n:Nat):Prop:=n=ops.size∨(n<ops.size/\Region.sinkB md ops n=true/\Region.chainB md ops n=true)
theorem rN {n i:Nat}{listed:Array Bool}(hs:jK md ops n)(inv:HeadInv md ops n listed)(Xe:i<n)(JK:listed.getD i true=false):∀j∈Region.ready md ops listed,j<n:=by
 intro j hj;rcases hs with hs | ⟨h1,h2,h3⟩
 ·obtain⟨_,oj,eM,_⟩:=mem_ready.1 hj;rw[hs];exact(eY.1 eM).1
 ·rcases Nat.lt_or_ge j n with h | h
  ·exact h
  ·exact Q8 hj (tail_waits h2 h3 h1 inv _ i rfl Xe JK j h)
theorem Nc {n i:Nat}{oi:Oper}{v:Value}{L:Array Bool->Act->World->Prop}(hi:ops[i]? =some oi)(nP:∀(j:Nat)(o:Oper) cs b,ops[j]? =some o->o.op≠ .select cs b)
  (hs:jK md ops n) (Xe:i<n) (xI:∀listed a w,L listed a w->∀j∈Region.ready md ops listed,n<=j):
  ∀(f:Nat) (listed:Array Bool) (a:Act) (w:World),HeadInv md ops n listed->
   (∀j oj,ops[j]? =some oj->j≠i->listed.getD j true=false->(∀e∈oj.after,Region.binds md e=true->e.on≠i)->oi.apart ops oj=true)->
   i∈Region.ready md ops listed->YieldsIf P ops C oi v a->C w->
   WX P md ops (NoPan Q) C n L f (listed.setIfInBounds i true) (a.put oi.dst v) w->WX P md ops (NoPan Q) C n L (f+1) listed a w:=by
 intro f;induction f with
 | zero=>
  intro listed a w inv _ hr hy hC H;have JK:=(mem_ready.1 hr).1;refine⟨λh=>(by rw[h] at hr;cases hr),λj hj=>?_⟩;have Kh:=rN hs inv Xe JK j hj;refine⟨Kh,?_⟩;by_cases KT:j=i
  ·subst KT;exact hy.wpOp hi hC ⟨hC,H⟩
  ·have:=xI _ _ _ H j (ready_mono hj KT);omega
 | succ f ih=>
  intro listed a w inv nQ hr hy hC H;have JK:=(mem_ready.1 hr).1;refine⟨λh=>(by rw[h] at hr;cases hr),λj hj=>?_⟩;have Kh:=rN hs inv Xe JK j hj;refine⟨Kh,?_⟩;by_cases KT:j=i
  ·subst KT;exact hy.wpOp hi hC ⟨hC,H⟩
  ·have h1:=(H.2 j (ready_mono hj KT)).2;obtain⟨nR,oj,eM,hall⟩:=mem_ready.1 hj;have lr:∀e∈oj.after,Region.binds md e=true->e.on≠i:=λe he hb heq=>by
    have h1:=hall e he hb;rw[heq,getD_both JK] at h1;cases h1
   have h2:=wpOp_putIf eM (nQ j oj eM KT nR lr) (λcs b=>nP i oi cs b hi) (λcs b=>nP j oj cs b eM) (λ_ _ _ h=>h) hy h1;have xJ:∀k ok,ops[k]? =some ok->k≠i->(listed.setIfInBounds j true).getD k true=false->
     (∀e∈ok.after,Region.binds md e=true->e.on≠i)->oi.apart ops ok=true:=λk ok hk xK JK Xf=>by
    refine nQ k ok hk xK ?_ Xf;by_cases nT:j=k
    ·subst nT;exact nR
    ·rw[getD_set_ne true nT] at JK;exact JK
   refine wpOp_mono (λa' w' h3=>⟨h3.2.1,ih (listed.setIfInBounds j true) a' w' (inv.set hj Kh) xJ (ready_mono hr (Ne.symm KT)) h3.1 h3.2.1 ?_⟩) h2;rw[aQZ _ _ KT];exact h3.2.2
def cP (md:Region.Mode)(ops:Array Oper)(n:Nat):List (Bool×Nat)->Array Bool->Bool
 | [],listed=>Region.seqB md ops (ops.size-n) n listed
 | (true,k)::l,listed=>Nat.blt k n&&(Region.ready md ops listed).contains k&&Region.free md ops listed k&&cP md ops n l (listed.setIfInBounds k true)
 | (false,k)::l,listed=>Nat.blt k n&&decide (Region.ready md ops listed=[k])&&cP md ops n l (listed.setIfInBounds k true)
def rO (md:Region.Mode)(ops:Array Oper)(n:Nat):Bool:=Nat.beq n ops.size||(Nat.blt n ops.size&&Region.sinkB md ops n&&Region.chainB md ops n)
theorem zr {n:Nat}(h:rO md ops n=true):jK md ops n:=by
 simp only[rO,Bool.or_eq_true,JL] at h;rcases h with h | ⟨⟨h1,h2⟩,h3⟩
 ·exact .inl (Vz h)
 ·exact .inr ⟨by rw[jv] at h1;exact h1,h2,h3⟩
end
section
variable {c:Cx} {S:Env} {a:Act}
@[irreducible] def bU (c:Cx) (o:Oper) (S:Env) (C:World->Prop) (K:Env->Prop):Prop:=∃v,(∀a w,Fits c.N S a->C w->(execOp a.eval o).run c.g.P w= .ok (.value v) w)/\Xk c S o.dst (.v v) K
def rP (c:Cx)(o:Oper)(S:Env)(C:World->Prop)(K:Env->Prop):Prop:=
 match rG c.g S o.op with
 | .val v=>Xk c S o.dst (.v v) K
 | .ent e=>Xk c S o.dst e K
 | .norm k n=>be n (λm=>Xk c S o.dst (.v (.int k m)) K)
 | .normIf p k n=>fh p n (λm=>Xk c S o.dst (.v (.int k m)) K)
 | .need p v=>iw p v (λv=>Xk c S o.dst (.v v) K)
 | .no=>match o.op with
  | .load t x=>(match QU c.g.tys t,S.ev x with
   | some r,some (.pointer (some p))=>(match oT r.d with
    | false=>rI C p (λv=>Xk c S o.dst (.v v) K)
    | true=>rJ C p r.sz (λvs=>Xk c S o.dst (.v (.agg vs.toArray)) K))
   | _,_=>bU c o S C K)
  | .indexAddr t x i=>(match QU c.g.tys t,S.ev x,S.ev i with
   | some ⟨_,.slice e,_,_,_⟩,some (.slice b n _),some (.int _ i)=>(match QU c.g.tys e with
    | some r=>Y4 b n i r.sz (λp=>Xk c S o.dst (.v (.pointer (some p))) K)
    | none=>bU c o S C K)
   | some ⟨_,.array n e,_,_,_⟩,some (.pointer (some p)),some (.int _ i)=>(match QU c.g.tys e with
    | some r=>Y4 (some p) n i r.sz (λp=>Xk c S o.dst (.v (.pointer (some p))) K)
    | none=>bU c o S C K)
   | _,_,_=>bU c o S C K)
  | .index t x i=>(match QU c.g.tys t,S.ev x,S.ev i with
   | some ⟨_,.string,_,_,_⟩,some (.string s),some (.int _ i)=>dM s i (λb=>Xk c S o.dst (.v (.int .u8 b)) K)
   | _,_,_=>bU c o S C K)
  | _=>bU c o S C K
def iE (all:List Oper)(o:Oper)(S:Env)(yes no:Env->Prop):Prop:=match o.guard with
 | none=>yes S
 | some (
     j,want)=>match VC all j with
  | some oj=>(match oj.dst with
   | some d=>(match S.ent d with
    | some .t=>(match want with
     | true=>yes S
     | false=>no S)
    | some .f=>(match want with
     | false=>yes S
     | true=>no S)
    | some (.v (.bool b))=>(match want with
     | true=>KD b (yes ((d,.t)::S)) (no ((d,.f)::S))
     | false=>KD b (no ((d,.t)::S)) (yes ((d,.f)::S)))
    | some (.v (.tuple _))=>no S
    | _=>False)
   | none=>False)
  | none=>False
def jL (c:Cx)(all:List Oper)(C:World->Prop):List (Bool×Nat)->Env->World->(Env->World->Prop)->Prop
 | [],S,w,K=>K S w
 | (true,k)::l,S,w,K=>match VC all k with
  | some o=>iE all o S (λS=>rP c o S C (λS=>jL c all C l S w K)) (λS=>Xk c S o.dst (.v undef) (λS=>jL c all C l S w K))
  | none=>False
 | (false,k)::l,S,w,K=>match VC all k with
  | some o=>iE all o S (λS=>dN c o S w (λS w=>C w/\jL c all C l S w K) (λ_ _ _=>False)) (λS=>Xk c S o.dst (.v undef) (λS=>jL c all C l S w K))
  | none=>False
theorem lY {all:List Oper}{o:Oper}{yes no:Env->Prop}(h:iE all o S yes no)(hf:Fits c.N S a):
  (Region.wanted o (yielded all.toArray a.tmps)=true/\∃S',Fits c.N S' a/\yes S')∨(Region.wanted o (yielded all.toArray a.tmps)=false/\∃S',Fits c.N S' a/\no S'):=by
 have fit:∀(d:Nat) (b:Bool) (e:Ent),S.ent d=some (.v (.bool b))->e.val= .bool b->Fits c.N ((d,e)::S) a:=λd b e hd he=>by
  refine⟨hf.size,hf.defers,λk x hk=>?_⟩;simp only[Env.ent] at hk;split at hk
  ·rename_i hb;have:=Vz hb;subst this;cases hk;rw[he];exact hf.has _ _ hd
  ·exact hf.has _ _ hk
 unfold iE at h;split at h
 ·rename_i Kx;exact .inl ⟨by simp[Region.wanted,Kx],S,hf,h⟩
 ·rename_i j want Kx;split at h
  ·rename_i oj hj;split at h
   ·rename_i d hd;split at h
    ·rename_i Zz;have hw:=jE Kx hj hd (hf.has _ _ Zz);split at h
     ·exact .inl ⟨by rw[hw];rfl,S,hf,h⟩
     ·exact .inr ⟨by rw[hw];rfl,S,hf,h⟩
    ·rename_i Zz;have hw:=jE Kx hj hd (hf.has _ _ Zz);split at h
     ·exact .inl ⟨by rw[hw];rfl,S,hf,h⟩
     ·exact .inr ⟨by rw[hw];rfl,S,hf,h⟩
    ·rename_i b Zz;have hw:=jE Kx hj hd (hf.has _ _ Zz);split at h
     ·unfold KD at h;cases b with
      | true=>exact .inl ⟨by rw[hw];rfl,_,fit d true .t Zz rfl,h.1 rfl⟩
      | false=>exact .inr ⟨by rw[hw];rfl,_,fit d false .f Zz rfl,h.2 rfl⟩
     ·unfold KD at h;cases b with
      | true=>exact .inr ⟨by rw[hw];rfl,_,fit d true .t Zz rfl,h.1 rfl⟩
      | false=>exact .inl ⟨by rw[hw];rfl,_,fit d false .f Zz rfl,h.2 rfl⟩
    ·rename_i Zz;exact .inr ⟨D6 Kx hj hd (hf.has _ _ Zz),S,hf,h⟩
    ·exact h.elim
   ·exact h.elim
  ·exact h.elim
theorem zt (hg:c.g.Ok){o:Oper}{C:World->Prop}{K:Env->Prop}(h:rP c o S C K)(hf:Fits c.N S a):
  ∃v,(∀w,C w->(execOp a.eval o).run c.g.P w= .ok (.value v) w)/\∃S',Fits c.N S' (a.put o.dst v)/\K S':=by
 have Ky:bU c o S C K->∃v,(∀w,C w->(execOp a.eval o).run c.g.P w= .ok (.value v) w)/\∃S',Fits c.N S' (a.put o.dst v)/\K S':=λh=>by
  unfold bU at h;obtain⟨v,h1,h2⟩:=h;exact⟨v,λw hw=>h1 a w hf hw,Zs (e:=.v v) h2 hf⟩
 unfold rP at h;split at h
 ·rename_i v hp;exact⟨v,λw _=>bT (w:=w) hg hf hp,Zs (e:=.v v) h hf⟩
 ·rename_i e hp;exact⟨e.val,λw _=>bT (w:=w) hg hf hp,Zs (e:=e) h hf⟩
 ·rename_i k n hp;unfold be at h;exact⟨_,λw _=>bT (w:=w) hg hf hp,Zs (e:=.v (.int k n)) h hf⟩
 ·rename_i p k n hp;unfold fh at h;exact⟨_,λw _=>bT (w:=w) hg hf hp h.1,Zs (e:=.v (.int k n)) h.2 hf⟩
 ·rename_i p v hp;unfold iw at h;exact⟨_,λw _=>bT (w:=w) hg hf hp h.1,Zs (e:=.v v) h.2 hf⟩
 ·obtain⟨dst,op,ty,pos,aft,gd⟩:=o;simp only at h Ky ⊢;split at h
  ·rename_i t x;split at h
   ·rename_i r p hr hx;have e1:=hf.ev hx;split at h
    ·rename_i hd;unfold rI at h;obtain⟨v,hv,hk⟩:=h;refine⟨v,λw hw=>?_,Zs (e:=.v v) hk hf⟩;simp[execOp,e1,Instr.loadAt,Instr.sureAddr,loadVar,lT hg hr,hd,hv w hw]
    ·rename_i hd;unfold rJ at h;obtain⟨vs,hl,hv,hk⟩:=h;refine⟨.agg vs.toArray,λw hw=>?_,Zs (e:=.v (.agg vs.toArray)) hk hf⟩;have h2:=run_loadCells_list (P:=c.g.P) (w:=w) p vs (hv w hw);rw[hl] at h2;simp[execOp,e1,Instr.loadAt,Instr.sureAddr,loadVar,lT hg hr,hd,run_sizeOf hg hr,h2]
   ·exact Ky h
  ·rename_i t x ix;split at h
   ·rename_i e b n k i hr hx hi;split at h
    ·rename_i r X7;unfold Y4 at h;obtain⟨p,rfl,h0,h1,hk⟩:=h;have e1:=hf.ev hx;have e2:=hf.ev hi;refine⟨.pointer (some (p.add (i.toNat*r.sz))),λw _=>?_,Zs (e:=.v _) hk hf⟩;simp[execOp,e1,e2,Instr.indexAt,asIntOf,YJ hg hr,run_sizeOf hg X7,h0,h1]
    ·exact Ky h
   ·rename_i n e p k i hr hx hi;split at h
    ·rename_i r X7;unfold Y4 at h;obtain⟨p',hp,h0,h1,hk⟩:=h;cases hp;have e1:=hf.ev hx;have e2:=hf.ev hi;refine⟨.pointer (some (p.add (i.toNat*r.sz))),λw _=>?_,Zs (e:=.v _) hk hf⟩;simp[execOp,e1,e2,Instr.indexAt,Instr.sureAddr,asIntOf,YJ hg hr,run_sizeOf hg X7,h0,h1]
    ·exact Ky h
   ·exact Ky h
  ·rename_i t x ix;split at h
   ·rename_i s k i hr hx hi;unfold dM at h;obtain⟨b,h0,h1,hk⟩:=h;have e1:=hf.ev hx;have e2:=hf.ev hi;refine⟨.int .u8 b.toNat,λw _=>?_,Zs (e:=.v _) hk hf⟩;simp[execOp,e1,e2,Instr.index,asIntOf,YJ hg hr,h0,h1]
   ·exact Ky h
  ·exact Ky h
theorem zu (hg:c.g.Ok){md:Region.Mode}{ops:List Oper}{C:World->Prop}{Q:Exit->Act->World->Prop}{n:Nat}(hs:Region.noSelect ops.toArray=true)(hk:jK md ops.toArray n){K:Env->World->Prop}:
  ∀(l:List (Bool×Nat)) (listed:Array Bool) (S:Env) (a:Act) (w:World),HeadInv md ops.toArray n listed->cP md ops.toArray n l listed=true->jL c ops C l S w K->Fits c.N S a->C w->
  WX c.g.P md ops.toArray (NoPan Q) C n (λKz a' w'=>Region.seqB md ops.toArray (ops.toArray.size-n) n Kz=true/\∃S',Fits c.N S' a'/\K S' w') l.length listed a w
 | [],listed,S,a,w,inv,hB,h,hf,hC=>⟨hB,S,hf,h⟩
 | (true,k)::l,listed,S,a,w,inv,hB,h,hf,hC=>by
  simp only[cP,JL] at hB;obtain⟨⟨⟨Xl,hr⟩,ll⟩,VM⟩:=hB;have Xl:k<n:=by rw[jv] at Xl;exact Xl
  have Q1:k∈Region.ready md ops.toArray listed:=by simpa using hr
  obtain⟨_,o,ho,_⟩:=mem_ready.1 Q1;have hn:VC ops k=some o:=by rw[iz];simpa using ho
  simp only[jL,hn] at h;have key:∃v,YieldsIf c.g.P ops.toArray C o v a/\∃S',Fits c.N S' (a.put o.dst v)/\jL c ops C l S' w K:=by
   rcases lY h hf with⟨hw,S1,ZB,h1⟩ | ⟨hw,S1,ZB,h1⟩
   ·obtain⟨v,h2,h3⟩:=zt hg h1 ZB;exact⟨v,.inl ⟨hw,h2⟩,h3⟩
   ·exact⟨undef,.inr ⟨hw,rfl⟩,Zs (e:=.v undef) h1 ZB⟩
  obtain⟨v,hy,S',QY,h'⟩:=key;exact Nc ho (Region.noSelect_spec hs) hk Xl (λKz a' w' hL=>seqB_ready hL.1) l.length listed a w inv (Region.free_spec ho ll) Q1 hy hC
   (zu hg hs hk l _ S' _ w (inv.set Q1 Xl) VM h' QY hC)
 | (false,k)::l,listed,S,a,w,inv,hB,h,hf,hC=>by
  simp only[cP,JL,Vl] at hB;obtain⟨⟨Xl,hr⟩,VM⟩:=hB;have Xl:k<n:=by rw[jv] at Xl;exact Xl
  have Q1:k∈Region.ready md ops.toArray listed:=by rw[hr];simp
  obtain⟨_,o,ho,_⟩:=mem_ready.1 Q1;have hn:VC ops k=some o:=by rw[iz];simpa using ho
  simp only[jL,hn] at h;have hZ:=inv.set Q1 Xl;refine⟨λh0=>(by rw[hr] at h0;cases h0),λi hi=>?_⟩;rw[hr] at hi;have xL:i=k:=by simpa using hi
  subst xL;refine⟨Xl,?_⟩;unfold wpOp;simp only[ho];rcases lY h hf with⟨hw,S1,ZB,h1⟩ | ⟨hw,S1,ZB,h1⟩
  ·rw[Qf hw];refine .inl ?_;have h2:=rH hg h1 ZB;have h3:=Oper.wp_mono (K':=λa' w'=>C w'/\WX c.g.P md ops.toArray (NoPan Q) C n (λKz a' w'=>Region.seqB md ops.toArray (ops.toArray.size-n) n Kz=true/\∃S',Fits c.N S' a'/\K S' w') l.length (listed.setIfInBounds i true) a' w')
    (λa' w' ⟨S',QY,Z2,YD⟩=>⟨Z2,zu hg hs hk l _ S' a' w' hZ VM YD QY Z2⟩) h2
   unfold Oper.wp at h3 ⊢;generalize (execOp a.eval o).run c.g.P w=r at*;cases r with
   | ok nx w'=>
    cases nx<;>simp only[Oper.upon] at h3 ⊢ <;> try exact h3
    exact h3.mono λe K6 he=>by
     cases e with
     | returned v=>exact he
     | panicked ch=>obtain⟨_,_,he⟩:=he;exact he.elim
     | outgrown=>obtain⟨_,_,_,_,he⟩:=he;exact he.elim
   | halt x w'=>cases x<;>simp only[Oper.upon] at h3 ⊢ <;> first | exact h3 | (obtain⟨_,_,h3⟩:=h3;exact h3.elim)
  ·rw[if_neg (by rw[hw];decide)];obtain⟨S',QY,h'⟩:=Zs (e:=.v undef) h1 ZB;exact⟨hC,zu hg hs hk l _ S' _ w hZ VM h' QY hC⟩
theorem bQJ {o:Oper}{C:World->Prop}{K:Env->Prop}{v:Value}(h:∀a w,Fits c.N S a->C w->(execOp a.eval o).run c.g.P w= .ok (.value v) w)(k:Xk c S o.dst (.v v) K):bU c o S C K:=by
 unfold bU;exact⟨v,h,k⟩
theorem XC (hg:c.g.Ok){id:Nat}{ops:List Oper}{w:World}{Q:Zg}(C:World->Prop)(n:Nat)(plan:List (Bool×Nat))
  (hB:(Region.noSelect ops.toArray&&Nat.beq plan.length n&&rO .any ops.toArray n&&cP .any ops.toArray n plan (Array.replicate ops.toArray.size false))=true) (hC:C w.drew)
  (h:jL {c with named:=1000000} ops C plan S w.drew (λS w=>Yq c ops (ops.drop n) S w (λS w=>Q .normal S w) (λ_ _ _=>False))):WV c id ops S w Q:=by
 unfold WV;intro a hf;simp only[JL] at hB;obtain⟨⟨⟨hs,hl⟩,bM⟩,Jq⟩:=hB;have hl:=Vz hl;have hk:=zr bM;have I1:n<=ops.length:=by
  rcases hk with hk | hk
  ·rw[hk];simp
  ·have:=hk.1;simp at this;omega
 refine Code.wp_mono NoPan.imp (wp_region_any hg.mixed ?_);have pR:HeadInv .any ops.toArray n (Array.replicate ops.toArray.size false):=
  ⟨by simp,λj oj _ hl=>(by rw[getD_replicate_false] at hl;cases hl),λt _ ht=>getD_in (by simpa using ht) (getD_replicate_false _ _)⟩
 have H:=zu (c:={c with named:=1000000}) hg (Q:=Up c Q) hs hk plan _ S a _ pR Jq h hf hC;have Yp:(ops.drop n).length=ops.toArray.size-n:=by simp
 have H2:=uV (Q:=NoPan (Up c Q)) (g:=ops.toArray.size-n) (λKz a' w' hL=>by
  obtain⟨hq,S',QY,YD⟩:=hL;have h2:=jF (c:=c) hg ops _ _ _ _ YD QY;have:=wpAny_of_seq (P:=c.g.P) (md:=.any) (ops:=ops.toArray) (Q':=NoPan (Up c Q)) (ops.drop n) n Kz a' w' (λj=>by simp) (by rw[Yp];exact hq) (lW (λe a w hq=>by
   cases e with
   | normal=>exact hq
   | _=>exact Q8 hq (by rintro⟨_,_,h⟩;exact h)) h2)
  rwa [Yp] at this) _ _ _ _ H
 rw[hl,show n+(ops.toArray.size-n)=ops.toArray.size by simp;omega] at H2;exact H2
end
end
section
theorem Nd (cs:List Nat){c:Cx}{S:Env}{w:World}{Q:Zg}(hg:c.g.Ok){x y:Code}(R:World->Prop)
  (hx:Wm (dO x) S [] (λS0=>K9 {c with cuts:=cs} x S w (λe S2 w2=>match e with
   | .normal=>Has S0 S2/\R w2
   | e=>Q e S2 w2)))
  (hy:Wm (dO x) S [] (λS0=>∀w',R w'->K9 c y S0 w' Q)):jA c (.seq x y) S w Q:=by
 rw[zh] at hx hy;unfold jA;intro a hf;refine wp_seq (wp_mono (iA (c:={c with cuts:=cs}) hg x S w _ a hx hf) (λe a2 w2 hq=>?_));obtain⟨S2,ZI,hq⟩:=hq;cases e with
 | normal=>exact iA hg y _ w2 Q a2 (hy w2 hq.2) (hq.1.fits ZI)
 | exit i=>exact⟨S2,ZI,hq⟩
 | goto l=>exact⟨S2,ZI,hq⟩
 | ret=>exact⟨S2,ZI,hq⟩
 | panic ch=>exact⟨S2,ZI,hq⟩
 | outgrown=>exact⟨S2,ZI,hq⟩
theorem zv {a:Addr}{n j:Nat}{i:Int}{K:Addr->Prop}(hi:i=j)(hj:j<n)(k:K (a.add j)):Y4 (some a) n i 1 K:=by subst hi;exact index hj k
theorem named {a b:String}{K:Prop}(h:a=b)(k:K):MI a b K:=by unfold MI;exact⟨h,k⟩
theorem new {w:World}{t:TypeId}{cs:List Value}{K:Addr->World->Prop}(k:∀w1,Ext w w1->w1.heap.size=w.heap.size+1->Blk w1 w.heap.size t cs->K ⟨w.heap.size,0,none⟩ w1):oP w t cs K:=by
 unfold oP;exact k _ (Ext.alloc w _) (by simp) (Blk.new w t cs)
theorem add_add (a:Addr)(n m:Nat):(a.add n).add m=a.add (n+m):=by
 unfold Addr.add;split
 ·rename_i h;subst h;simp
 ·split
  ·rename_i h1 h2;subst h2;simp[h1]
  ·rename_i h1 h2;simp[h1,oF]
theorem Nf:∀(vs cs:List Value),vs.length<=cs.length->uL vs cs=vs++cs.drop vs.length
 | [],_,_=>rfl
 | v::vs,[],h=>by simp at h
 | v::vs,c::cs,h=>by
  show v::uL vs cs=_;rw[Nf vs cs (by simpa using h)]<;>rfl
theorem iF:∀(n:Nat)(vs cs:List Value),n+vs.length<=cs.length->KV n vs cs=cs.take n++vs++cs.drop (n+vs.length)
 | 0,vs,cs,h=>by
  have e:KV 0 vs cs=uL vs cs:=by cases cs<;>rfl
  rw[e,Nf vs cs (by omega)];simp
 | n+1,vs,[],h=>by simp at h
 | n+1,vs,c::cs,h=>by
  show c::KV n vs cs=_;rw[iF n vs cs (by simp at h;omega)];rw[show n+1+vs.length=(n+vs.length)+1 by omega];simp
theorem Ng:∀(n:Nat)(vs cs:List Value),n+vs.length<=cs.length->(KV n vs cs).length=cs.length:=λn vs cs h=>by
 rw[iF n vs cs h];simp;omega
theorem jM {P:Program}{w:World}{g t:Nat}{cs vs:List Value}{j:Nat}{K:World->Prop}(h:Blk w g t cs)(hj:j+vs.length<=cs.length)(fO:∀u∈vs,Jz u=true)
  (k:∀w1,w.grownBy w1 (some g)->w1.heap.size=w.heap.size->Blk w1 g t (KV j vs cs)->K w1):jz P w ((⟨g,0,none⟩:Addr).add j) vs K:=by
 unfold jz;have nK:=run_storeCells_at P g j t vs 0 cs.toArray w h (by simpa using hj) (λu hu=>zp (fO u hu));rw[oZ];refine⟨_,nK,?_⟩;refine k _ ⟨rfl,rfl,rfl,by simp,λi _ hi=>setRow_other w g i _ (λe=>hi (by rw[e]))⟩ (by simp) ?_;have:=setRow_heap w g cs.toArray (cs.toArray.toList.take (j+0)++vs++cs.toArray.toList.drop (j+0+vs.length)).toArray t _ h;unfold Blk;rw[this,iF j vs cs hj]<;>rfl
theorem Qz {P:Program}{w:World}{g t:Nat}{cs vs:List Value}{K:World->Prop}(h:Blk w g t cs)(hl:vs.length=cs.length)(fO:∀u∈vs,Jz u=true)
  (k:∀w1,w.grownBy w1 (some g)->w1.heap.size=w.heap.size->Blk w1 g t vs->K w1):jz P w ⟨g,0,none⟩ vs K:=by
 have:=jM (P:=P) (j:=0) (K:=K) h (by omega) fO (λw1 h1 h2 h3=>k w1 h1 h2 (by
  rw[iF 0 vs cs (by omega),hl] at h3;simpa using h3))
 simpa [Addr.add] using this
theorem fk {w:World}{g t:Nat}{cs vs:List Value}{j n:Nat}{K:List Value->Prop}(h:Blk w g t cs)(hn:vs.length=n)(hv:∀i v,vs[i]? =some v->cs[j+i]? =some v)(k:K vs):jy w ((⟨g,0,none⟩:Addr).add j) n K:=by
 unfold jy;exact⟨vs,hn,λi v hi=>by rw[add_add,h.cell];exact hv i v hi,k⟩
theorem Qs {w:World}{g t:Nat}{cs:List Value}{n:Nat}{K:List Value->Prop}(h:Blk w g t cs)(hn:cs.length=n)(k:K cs):jy w ⟨g,0,none⟩ n K:=by
 have:=fk (j:=0) (vs:=cs) (K:=K) h hn (λi v hi=>by simpa using hi) k;simpa [Addr.add] using this
theorem Qx {w:World}{g t:Nat}{cs:List Value}{v:Value}{K:Value->Prop}(h:Blk w g t cs)(hv:cs[0]? =some v)(k:K v):gb w ⟨g,0,none⟩ K:=by
 have:=Qp (j:=0) (K:=K) h hv k;simpa [Addr.add] using this
theorem bQK {w:World}{g t:Nat}{cs:List Value}{v:Value}{K:World->Prop}(h:Blk w g t cs)(hj:0<cs.length)(k:∀w1,w.grownBy w1 (some g)->Blk w1 g t (cs.set 0 v)->K w1):gc w ⟨g,0,none⟩ v K:=by
 have:=zm (j:=0) (v:=v) (K:=K) h hj k;simpa [Addr.add] using this
section
variable {α:Type} {f:α->List Value} {sz:Nat}
theorem cQ (hf:∀x,(f x).length=sz):∀(l:List α),(l.flatMap f).length=l.length*sz
 | []=>by simp
 | x::l=>by simp[hf,cQ hf l,jw,Nat.add_comm]
theorem fm (hf:∀x,(f x).length=sz):∀(l:List α)(j:Nat)(x:α)(i:Nat)(v:Value),l[j]? =some x->(f x)[i]? =some v->(l.flatMap f)[j*sz+i]? =some v
 | [],j,x,i,v,h,_=>by simp at h
 | y::l,0,x,i,v,h,hi=>by
  simp at h;subst h;have:i<(f y).length:=(Z0.1 hi).1;rw[cK,Wh (by simpa using this)];simpa using hi
 | y::l,j+1,x,i,v,h,hi=>by
  rw[cK,YI (by rw[hf];rw[jw];omega),hf];rw[show(j+1)*sz+i-sz=j*sz+i by rw[jw];omega];exact fm hf l j x i v (by simpa using h) hi
def SlS (f:α->List Value)(sz:Nat)(w:World)(A:Option Addr)(n c:Nat)(l:List α):Prop:=Sl w sz A n c (l.flatMap f)/\l.length=n
theorem SlS.len {w:World}{A:Option Addr}{n c:Nat}{l:List α}(h:SlS f sz w A n c l):l.length=n:=h.2
theorem SlS.ext {w w':World}{A:Option Addr}{n c:Nat}{l:List α}(h:SlS f sz w A n c l)(k:Ext w w'):SlS f sz w' A n c l:=⟨h.1.ext k,h.2⟩
theorem SlS.nil (w:World):SlS f sz w none 0 0 []:=⟨Sl.nil w sz,rfl⟩
theorem SlS.cell (hf:∀x,(f x).length=sz){w:World}{A:Option Addr}{n c:Nat}{l:List α}(h:SlS f sz w A n c l){j:Nat}{x:α}(hj:l[j]? =some x):
  ∃ad,A=some ad/\∀i v,(f x)[i]? =some v->w.cell? ((ad.add (j*sz)).add i)=some v:=by
 have Xc:j<l.length:=(Z0.1 hj).1;obtain⟨ad,rfl,hc⟩:=h.1.at_ (by have:=h.2;omega);exact⟨ad,rfl,λi v hi=>by rw[add_add];exact hc _ _ (fm hf l j x i v hj hi)⟩
theorem Zw (hf:∀x,(f x).length=sz){w:World}{A:Option Addr}{n c:Nat}{l:List α}{i:Int}{j:Nat}{K:Addr->Prop}(h:SlS f sz w A n c l)(hi:i=j)(hj:j<n)
  (k:∀p x,l[j]? =some x->(∀i v,(f x)[i]? =some v->w.cell? (p.add i)=some v)->K p):Y4 A n i sz K:=by
 subst hi;have Xc:j<l.length:=by rw[h.2];exact hj
 have hx:l[j]? =some l[j]:=Xn Xc;obtain⟨ad,rfl,hc⟩:=h.cell hf hx;unfold Y4;exact⟨ad,rfl,by omega,by omega,by simpa using k _ _ hx hc⟩
theorem Kr {w:World}{p:Addr}{vs:List Value}{n:Nat}{K:List Value->Prop}(hn:vs.length=n)(h:∀i v,vs[i]? =some v->w.cell? (p.add i)=some v)(k:K vs):jy w p n K:=by
 unfold jy;exact⟨vs,hn,h,k⟩
end
theorem bQL {P:Program}{w w1:World}{t ty e:TypeId}{i:TypeInfo}{z:Value}{bytes base n m cc sz:Nat}{v v':Value}{xs ys:List Value}(ht:P.underlying t=some (.slice e))(hi:P.info? e=some i)(hz:i.zero=some z)(hs:i.size=sz)(bK:i.bytes=bytes)
  (YW:w.ownsRow base e sz v n xs) (b:Addr) (hm:0<m) (hl:ys.length=m*sz) (QE:∀j u,ys[j]? =some u->w.cell? (b.add j)=some u) (h1:∀u∈ys,u.oneCell'=true) (gC:n+m<=maxLen) (I4:(n+m)*bytes<=140737488355328)
  (Z9:(Builtin.append_ #[t,t] ty #[v,.slice (some b) m cc]).run P w= .ok v' w1):∀g',v'.ownBlock=some g'->v.ownBlock=some g'∨w.heap.size<=g':=by
 intro g' Vw;subst bK;have mQy:n+m<=9223372036854775807:=by simp only[maxLen] at gC;omega
 rcases YW.2 with⟨rfl,rfl⟩ | ⟨g,cap,ZD,rfl,hbg,hg,lu,cB,Zc,qK⟩
 ·have hr:=run_append_nil (P:=P) w t ty e i z ht hi hz b m cc ys (by rw[hl,hs]) QE (by omega) (by omega) (by have hb:=I4;simp only[bQ] at hb;omega);rw[hr] at Z9;cases Z9;simp[Value.ownBlock] at Vw;exact .inr (by omega)
 ·by_cases C2:n+m<=cap
  ·have hr:=run_append_room (P:=P) w t ty e i ht hi g n cap ZD hg b m cc ys (by rw[hl,hs]) QE h1 C2 (by rw[hl,hs,Zc,<-rv];exact Y1 _ C2);rw[hr] at Z9;cases Z9;exact .inl Vw
  ·have holds:∀j u,xs[j]? =some u->w.cell? ((⟨g,0,none⟩:Addr).add j)=some u:=YW.cells (g:=g) rfl
   have hr:=run_append_grow (P:=P) w t ty e i z ht hi hz ⟨g,0,none⟩ n cap xs (by rw[hs];exact YW.1) holds b m cc ys (by rw[hl,hs]) QE (by omega) (by omega) (growslice_fits (by omega) I4);rw[hr] at Z9;cases Z9;simp[Value.ownBlock] at Vw;exact .inr (by omega)
theorem bQM {c:Cx}(hg:c.g.Ok){o:Oper}{S:Env}{w:World}{K:Env->World->Prop}{Q:Zg}{t t2 e sz:Nat}{x y:Operand}{A B:Option Addr}{n cp:Nat}{m c2:Nat}{xs ys:List Value}{base:Nat}{r re r2:TyRow}
  (ho:o.op= .call ⟨.builtin .append, #[x,y], #[t,t2]⟩) (hr:QU c.g.tys t=some r) (hd:r.d= .slice e) (X7:QU c.g.tys e=some re) (hs:re.sz=sz) (Gp:0<sz) (jh:re.z.cells.size=sz) (ah:QU c.g.tys t2=some r2) (aj:∃e2,r2.d= .slice e2)
  (hx:S.ev x=some (.slice A n cp)) (hy:S.ev y=some (.slice B m c2)) (YW:Own w base e sz A n cp xs) (fN:Sl w sz B m c2 ys) (fO:∀u∈ys,Jz u=true)
  (gC:n+m<=maxLen) (bK:(n+m)*re.by_<=140737488355328) (qM:base<=w.heap.size)
  (k:∀A' c' w1,w.grownBy w1 (Value.slice A n cp).ownBlock->Own w1 base e sz A' (n+m) c' (xs++ys)->(∀ad,A'=some ad->A=some ad∨w.heap.size<=ad.block)->Xk c S o.dst (.v (.slice A' (n+m) c')) (λS=>K S w1)):X8 c o S w K Q:=by
 obtain⟨_,i,hi,Xu,nM,bL⟩:=hg.row X7;have Q1:=(hg.row hr).1;rw[hd] at Q1;obtain⟨e2,aj⟩:=aj;have tq:=(hg.row ah).1;rw[aj] at tq;have Xd:ys.length=m*sz:=fN.len;unfold X8;intro a hf;have e1:=hf.ev hx;have wg:=hf.ev hy;have key:∃v' w1,(Builtin.append_ #[t,t] o.type #[.slice A n cp,.slice B m c2]).run c.g.P w= .ok v' w1/\w1.ownsRow base e sz v' (n+m) (xs++ys)/\w.grownBy w1 (Value.slice A n cp).ownBlock/\(∀g',v'.ownBlock=some g'->(Value.slice A n cp).ownBlock=some g'∨w.heap.size<=g'):=by
  by_cases h0:m=0
  ·subst h0;have I5:ys=[]:=aA (by omega);subst I5;have ZO:n<=cp:=YW.sl.le;refine⟨.slice A n cp,w,?_,by simpa using YW.row,⟨rfl,rfl,rfl,QC _,λ_ _ _=>rfl⟩,λ_ h=>.inl h⟩;cases A<;>cases B<;>simp[Builtin.append_,ZL Q1,sizeOf,typeInfo,hi,Builtin.lenOf,ZO,Builtin.firstCells,loadCells,loadCellsFrom,storeCells]
  ·obtain⟨b,rfl,QE⟩:=fN.at_ (by omega);obtain⟨v',w1,Z9,dA,xM,_⟩:=run_append_own (P:=c.g.P) (w:=w) base t o.type e i re.z sz re.by_ Q1 hi bL (by rw[Xu,hs]) nM jh Gp _ n xs YW.row b m c2 ys Xd QE (λu hu=>zp (fO u hu)) gC bK qM;exact⟨v',w1,Z9,dA,xM,bQL Q1 hi bL (by rw[Xu,hs]) nM YW.row b (by omega) Xd QE (λu hu=>zp (fO u hu)) gC bK Z9⟩
 obtain⟨v',w1,Z9,dA,xM,I6⟩:=key;obtain⟨A',c',rfl,I7⟩:=nQb dA;have I8:∀ad,A'=some ad->A=some ad∨w.heap.size<=ad.block:=λad e=>by
  subst e;rcases I6 ad.block rfl with h | h
  ·left
   rcases YW.row.2 with⟨hv,_⟩ | ⟨g,cap,ZD,hv,_⟩
   ·cases hv;simp[Value.ownBlock] at h
   ·cases hv;rcases dA.2 with⟨hv,_⟩ | ⟨g2,jQa,jQb,J2,_⟩
    ·cases hv
    ·cases J2;simp[Value.ownBlock] at h;rw[h]
  ·exact .inr h
 refine bf (v:=.slice A' (n+m) c') (w':=w1) ?_ (Zs (e:=.v _) (k A' c' w1 xM I7 I8) hf);have kQ3:(Builtin.append_ #[t,t2] o.type #[.slice A n cp,.slice B m c2]).run c.g.P w=(Builtin.append_ #[t,t] o.type #[.slice A n cp,.slice B m c2]).run c.g.P w:=by
  simp[Builtin.append_,ZL Q1,ZL tq]
 simp only[execOp,ho,resolve,invoke];simp[builtin,e1,wg,kQ3,Z9]
theorem bQN {P:Program}{w w1:World}{t u ty e:TypeId}{i:TypeInfo}{base n:Nat}{v v':Value}{xs:List Value}(ht:P.underlying t=some (.slice e))(hu:P.underlying u=some .string)(hi:P.info? e=some i)(hz:i.zero=some (.int .u8 0))(hs:i.size=1)(bK:i.bytes=1)
  (YW:w.ownsRow base e 1 v n xs) (s:ByteArray) (I4:n+s.size<=140737488355328)
  (Z9:(Builtin.append_ #[t,u] ty #[v,.string s]).run P w= .ok v' w1):∀g',v'.ownBlock=some g'->v.ownBlock=some g'∨w.heap.size<=g':=by
 intro g' Vw;have nU:xs.length=n:=by simpa using YW.1
 rcases YW.2 with⟨rfl,rfl⟩ | ⟨g,cap,ZD,rfl,hbg,hg,lu,cB,Zc,qK⟩
 ·by_cases hm:s.size=0
  ·have hf:=Lib.run_firstCells_string (P:=P) w 1 s;rw[hm] at hf;have:(Builtin.append_ #[t,u] ty #[.slice none 0 0,.string s]).run P w= .ok (.slice none 0 0) w:=by
    simp[Builtin.append_,ZL ht,ZL hu,sizeOf,typeInfo,hi,hs,Builtin.lenOf,hm,hf]
   rw[this] at Z9;cases Z9;simp[Value.ownBlock] at Vw
  ·have hr:=run_append_nil_string (P:=P) w t u ty e i (.int .u8 0) ht hu hi hz s (by omega) (by omega) (by rw[bK];omega);rw[hr] at Z9;cases Z9;simp[Value.ownBlock] at Vw;exact .inr (by omega)
 ·by_cases C2:n+s.size<=cap
  ·have mQz:ZD.size=cap:=by simpa using Zc
   have hr:=Lib.run_append_room_string (P:=P) w t u ty e i ht hu hi hs g n cap ZD hg s C2 (by omega);rw[hr] at Z9;cases Z9;exact .inl Vw
  ·have holds:∀j u,xs[j]? =some u->w.cell? ((⟨g,0,none⟩:Addr).add j)=some u:=YW.cells (g:=g) rfl
   have hr:=Lib.run_append_grow_string (P:=P) w t u ty e i (.int .u8 0) ht hu hi hz ⟨g,0,none⟩ n cap xs (by rw[hs];simpa using nU) holds s (by omega) (by omega) (by rw[bK];exact growslice_fits (by omega) (by omega));rw[hr] at Z9;cases Z9;simp[Value.ownBlock] at Vw;exact .inr (by omega)
theorem bQO {c:Cx}(hg:c.g.Ok){o:Oper}{S:Env}{w:World}{K:Env->World->Prop}{Q:Zg}{t t2 e:Nat}{x y:Operand}{A:Option Addr}{n cp:Nat}{s:ByteArray}{xs:List Value}{base:Nat}{r re r2:TyRow}
  (ho:o.op= .call ⟨.builtin .append, #[x,y], #[t,t2]⟩) (hr:QU c.g.tys t=some r) (hd:r.d= .slice e) (X7:QU c.g.tys e=some re) (hs:re.sz=1) (jh:re.z= .int .u8 0) (C3:re.by_=1) (ah:QU c.g.tys t2=some r2) (aj:r2.d= .string)
  (hx:S.ev x=some (.slice A n cp)) (hy:S.ev y=some (.string s)) (YW:Own w base e 1 A n cp xs)
  (gC:n+s.size<=140737488355328) (qM:base<=w.heap.size)
  (k:∀A' c' w1,w.grownBy w1 (Value.slice A n cp).ownBlock->Own w1 base e 1 A' (n+s.size) c' (xs++Lib.strCells s)->(∀ad,A'=some ad->A=some ad∨w.heap.size<=ad.block)->Xk c S o.dst (.v (.slice A' (n+s.size) c')) (λS=>K S w1)):X8 c o S w K Q:=by
 obtain⟨_,i,hi,Xu,nM,bL⟩:=hg.row X7;have Q1:=(hg.row hr).1;rw[hd] at Q1;have tq:=(hg.row ah).1;rw[aj] at tq;unfold X8;intro a hf;have e1:=hf.ev hx;have wg:=hf.ev hy;obtain⟨v',w1,Z9,dA,xM,_⟩:=Lib.run_append_own_string (P:=c.g.P) (w:=w) base t t2 o.type e i Q1 tq hi (by rw[bL,jh]) (by rw[Xu,hs]) (by rw[nM,C3]) _ n xs YW.row s (by unfold maxLen;omega) gC qM;have I6:=bQN Q1 tq hi (by rw[bL,jh]) (by rw[Xu,hs]) (by rw[nM,C3]) YW.row s gC Z9;obtain⟨A',c',rfl,I7⟩:=nQb dA;have I8:∀ad,A'=some ad->A=some ad∨w.heap.size<=ad.block:=λad e=>by
  subst e;rcases I6 ad.block rfl with h | h
  ·left
   rcases YW.row.2 with⟨hv,_⟩ | ⟨g,cap,ZD,hv,_⟩
   ·cases hv;simp[Value.ownBlock] at h
   ·cases hv;rcases dA.2 with⟨hv,_⟩ | ⟨g2,jQa,jQb,J2,_⟩
    ·cases hv
    ·cases J2;simp[Value.ownBlock] at h;rw[h]
  ·exact .inr h
 refine bf (v:=.slice A' (n+s.size) c') (w':=w1) ?_ (Zs (e:=.v _) (k A' c' w1 xM I7 I8) hf);simp only[execOp,ho,resolve,invoke];simp[builtin,e1,wg,Z9]
def Ee:Nat->List (List Value)->List (Nat×Value)->Prop
 | _,[],[]=>True
 | n,cs::l,(i,v)::r=>i=n/\JN v=cs/\Ee (n+1) l r
 | _,_,_=>False
theorem Ni {sz:Nat}{z:List Value}(hz:z.length=sz):∀(parts:List (Nat×Value))(n:Nat)(l:List (List Value))(pre:List Value),Ee n l parts->(∀cs∈l,cs.length=sz)->pre.length=n*sz->
  Instr.fill (λi=>some (i*sz,sz)) (pre++(List.replicate l.length z).flatten).toArray parts=some (pre++l.flatten).toArray
 | [],n,[],pre,_,_,_=>by simp[Instr.fill]
 | [],n,_::_,pre,h,_,_=>h.elim
 | _::_,n,[],pre,h,_,_=>h.elim
 | (i,v)::parts,n,cs::l,pre,h,hl,hp=>by
  obtain⟨rfl,rfl,h'⟩:=h;have hc:(JN v).length=sz:=hl _ (by simp);have Zc:v.cells.size=sz:=by rw[<-hc,<-oV];simp
  have I9:¬((v.cells.size≠sz||i*sz+v.cells.size>(pre++(List.replicate (JN v::l).length z).flatten).toArray.size)=true):=by
   rw[Zc];simp[hp,Mr,hz]
  unfold Instr.fill;simp only;rw[if_neg I9];have e:(v.cells.zipIdx.foldl (λcs (c,j)=>cs.setIfInBounds (i*sz+j) c) (pre++(List.replicate (JN v::l).length z).flatten).toArray)=((pre++JN v)++(List.replicate l.length z).flatten).toArray:=by
   apply Array.ext';rw[MW,oV,iF _ _ _ (by simp[hp,Mr,hz,hc])];simp only[Xj,Mr,Ms];rw[rx,List.drop_append,hp];simp only[yG,List.take_zero,YH];rw[Jm (by omega),ry (by omega),bP];rw[show i*sz+(JN v).length-i*sz=sz by omega,List.drop_append,hz,yG,rz,ry (by omega)];simp
  rw[e];have:=Ni hz parts (i+1) l (pre++JN v) h' (λcs Zc=>hl cs (by simp[Zc])) (by rw[Qu,hp,hc,jw]);rw[this];simp
theorem Nj (z:List Value)(hz:0<z.length):∀(n:Nat),(List.range (n*z.length)).map (λj=>z.toArray[j % z.length]!)=(List.replicate n z).flatten
 | 0=>by simp
 | n+1=>by
  rw[jw,List.range_add,f0,Nj z hz n,List.replicate_succ',List.flatten_append];congr 1;simp only[yF,Ms,List.flatten_nil,YH];apply List.ext_getElem
  ·simp
  ·intro i h1 h2;simp at h1;simp[iq h1,h1]
theorem XI {c:Cx}(hg:c.g.Ok){o:Oper}{S:Env}{w:World}{K:Env->World->Prop}{Q:Zg}{t e n:Nat}{r re:TyRow}{ps:Array (Nat×Operand)}{vs:List (Nat×Value)}(l:List (List Value))
  (ho:o.op= .buildSlice t n ps) (hr:QU c.g.tys t=some r) (hd:r.d= .slice e) (X7:QU c.g.tys e=some re) (hv:rF S ps.toList=some vs) (hb:Ee 0 l vs) (hn:l.length=n) (hl:∀cs∈l,cs.length=re.sz) (hz:(JN re.z).length=re.sz) (Xu:0<re.sz) (qO:n*re.sz<=16777216)
  (k:∀w1,Ext w w1->w1.heap.size=w.heap.size+1->Blk w1 w.heap.size e l.flatten->Xk c S o.dst (.v (.slice (some ⟨w.heap.size,0,none⟩) n n)) (λS=>K S w1)):X8 c o S w K Q:=by
 obtain⟨_,i,hi,hsi,nM,bL⟩:=hg.row X7;have Q1:=(hg.row hr).1;rw[hd] at Q1;subst hn;refine Js (w':=w.alloc (.cells l.flatten.toArray e)) (λa hf=>?_) (k _ (Ext.alloc w _) (by simp) (Blk.new w e l.flatten));have cA:=D3 (ρ:=a.eval) (λx v h=>hf.ev h) _ _ hv;have aQD:(ps.map λ(x:Nat×Operand)=>(x.1,a.eval x.2)).toList=vs:=by rw[Mq];exact cA
 have jh:re.z.cells=(JN re.z).toArray:=by rw[<-oV]
 have uf:=Ni hz vs 0 l [] hb hl (by simp);simp only[bP] at uf;have C4:=Nj (JN re.z) (by rw[hz];exact Xu) l.length;rw[hz] at C4;simp only[execOp,ho,Instr.buildSlice];rw[show(ps.map λ(x:Nat×Operand)=>(x.1,a.eval x.2)).toList=vs from aQD];have gB:¬l.length*re.sz>2^24:=by omega
 by_cases h0:l.length=0
 ·have I5:l=[]:=aA h0;subst I5;cases vs with
  | cons p vs=>exact hb.elim
  | nil=>simp[ZL Q1,sizeOf,typeInfo,hi,Instr.fill,newRow,Array.range_zero']
 ·have h1:¬(l.length*re.sz=0):=by
   intro h;rcases Nat.mul_eq_zero.1 h with h | h<;>omega
  have xH:(Array.range (l.length*re.sz)).map (λj=>(JN re.z).toArray[j % (JN re.z).toArray.size]!)=(List.replicate l.length (JN re.z)).flatten.toArray:=by
   apply Array.ext';rw[Mq,Array.toList_range];simpa [hz] using C4
  simp only[Sem.run_bind,ZL Q1,Result.andThen_ok,sizeOf,typeInfo,run_program,hi,Sem.run_pure,hsi,if_neg gB,if_neg h1,zeroValue,bL,jh];rw[xH];simp only[uf];simp[newRow]
def rQ:TypeDesc->Nat
 | .int _=>0
 | .string=>1
 | .bool=>2
 | _=>1000
structure KeyV {α:Type} [DecidableEq α] (d:TypeDesc) (kv:α->Value):Prop where
 same:∀a b,Instr.sameNow d (kv a) (kv b)=some (decide (a=b))
 bits:∀a n,Instr.sameBits n (kv a) (kv a)=true
 plain:rQ d<3
theorem KeyV.int (k:IntKind):KeyV (.int k) (λn:Int=>.int k n):=⟨λa b=>by simp[Instr.sameNow];rfl,λa n=>by cases n<;>simp[Instr.sameBits],by simp[rQ]⟩
theorem mQX:KeyV .string (λs:ByteArray=>.string s):=⟨λa b=>by
  simp only[Instr.sameNow,Option.some.injEq];rw[beq_toListBytes,uN],λa n=>by cases n<;>(simp only[Instr.sameBits];rw[beq_toListBytes,uN];simp),by simp[rQ]⟩
theorem KeyV.bool:KeyV .bool (λb:Bool=>.bool b):=⟨λa b=>by simp only[Instr.sameNow];cases a<;>cases b<;>rfl,λa n=>by cases n<;>simp[Instr.sameBits],by simp[rQ]⟩
def Xv {α:Type} [DecidableEq α](a:α):List (α×Value)->Option Value
 | []=>none
 | (b,v)::l=>if a=b then some v else Xv a l
def Zd {α:Type} [DecidableEq α](a:α)(v:Value):List (α×Value)->List (α×Value)
 | []=>[(a,v)]
 | (b,u)::l=>if a=b then(b,v)::l else(b,u)::Zd a v l
theorem aC {α:Type} [DecidableEq α](a b:α)(v:Value):∀l,Xv b (Zd a v l)=if b=a then some v else Xv b l
 | []=>by simp[Zd,Xv]
 | (d,u)::l=>by
  simp only[Zd];split
  ·rename_i h;subst h;simp only[Xv];split<;>rfl
  ·rename_i h;simp only[Xv,aC a b v l];by_cases h1:b=d
   ·subst h1;rw[Qf rfl,if_neg (λe=>h e.symm)];simp
   ·rw[if_neg h1,if_neg h1]
def XT {α:Type}(kv:α->Value)(m:List (α×Value))(bs:List Nat):List MapEntry:=(m.zip bs).map λp=>{key:=kv p.1.1,val:=p.1.2,born:=p.2}
structure MapAt {α:Type} (kv:α->Value) (w:World) (r:Nat) (m:List (α×Value)):Prop where
 ex:∃bs ck,bs.length=m.length/\w.heap[r]? =some (.map (XT kv m bs).toArray ck)
theorem MapAt.ext {α:Type}{kv:α->Value}{w w':World}{r:Nat}{m:List (α×Value)}(h:MapAt kv w r m)(k:Ext w w'):MapAt kv w' r m:=by
 obtain⟨bs,ck,hl,hb⟩:=h.ex;exact⟨bs,ck,hl,(k.block r (eY.1 hb).1 (by simp)).trans hb⟩
theorem MapAt.lt {α:Type}{kv:α->Value}{w:World}{r:Nat}{m:List (α×Value)}(h:MapAt kv w r m):r<w.heap.size:=by
 obtain⟨bs,ck,hl,hb⟩:=h.ex;exact(eY.1 hb).1
section
variable {α:Type} [DecidableEq α] {d:TypeDesc} {kv:α->Value}
theorem uW {α:Type}{c:Cx}(_:c.g.Ok){o:Oper}{S:Env}{w:World}{K:Env->World->Prop}{Q:Zg}{t:Nat}(kv:α->Value)(ho:o.op= .makeMap t none)
  (k:∀w1,Ext w w1->w1.heap.size=w.heap.size+1->MapAt kv w1 w.heap.size []->Xk c S o.dst (.v (.map (some w.heap.size))) (λS=>K S w1)):X8 c o S w K Q:=by
 refine Js (w':=w.alloc (.map #[] 0)) (λa hf=>?_) (k _ (Ext.alloc w _) (by simp) ⟨[],0,rfl,heap_alloc_new w _⟩);simp[execOp,ho,Instr.makeMap]
theorem uX {P:Program}{t:TypeId}(hu:P.underlying t=some d)(hd:rQ d<3)(b:Bool)(n:Nat)(v:Value)(w:World):(Instr.checkKey b (n+1) t v).run P w= .ok () w:=by
 simp only[Instr.checkKey,Sem.run_bind,ZL hu,Result.andThen_ok];cases d<;>first | (simp[rQ] at hd;done) | rfl
theorem Ef (hk:KeyV d kv)(a:α):∀(m:List (α×Value))(bs:List Nat)(i:Nat),bs.length=m.length->
  ∃r,Instr.findNow d (kv a) (XT kv m bs) i=some r/\r.map (·.2)=Xv a m/\(∀j v,r=some (j,v)->i<=j/\j<i+m.length/\∀v',XT kv (Zd a v' m) bs=(XT kv m bs).modify (j-i) (λe=>{e with key:=kv a,val:=v'})/\((XT kv m bs)[j-i]?).map (·.key)=some (kv a))/\(r=none->∀v',Zd a v' m=m++ [(a,v')])
 | [],bs,i,h=>⟨none,rfl,rfl,(λj v h=>by cases h),λ_ v'=>rfl⟩
 | (b,u)::m,[],i,h=>by simp at h
 | (b,u)::m,s::bs,i,h=>by
  have e:XT kv ((b,u)::m) (s::bs)={key:=kv b,val:=u,born:=s}::XT kv m bs:=rfl;rw[e];unfold Instr.findNow;simp only[hk.same];by_cases Ya:a=b
  ·subst Ya;simp only[decide_true];refine⟨some (i,u),rfl,by simp[Xv],λj v hj=>?_,λh=>by cases h⟩;cases hj;refine⟨QC _,by simp,λv'=>?_⟩;simp[Zd,XT]
  ·simp only[Ya,decide_false];obtain⟨r,h1,h2,h3,h4⟩:=Ef hk a m bs (i+1) (by simpa using h);refine⟨r,h1,by simp[Xv,Ya,h2],λj v hj=>?_,λhn v'=>by simp[Zd,Ya,h4 hn v']⟩;obtain⟨h5,h6,h7⟩:=h3 j v hj;refine⟨by omega,by simp;omega,λv'=>?_⟩;obtain⟨h8,h9⟩:=h7 v';rw[show j-i=(j-(i+1))+1 by omega];refine⟨?_,by simpa using h9⟩;simp only[Zd,Ya,if_false];rw[show XT kv ((b,u)::Zd a v' m) (s::bs)={key:=kv b,val:=u,born:=s}::XT kv (Zd a v' m) bs from rfl,h8];simp
variable {c:Cx} (hg:c.g.Ok) {o:Oper} {S:Env} {w:World} {K:Env->World->Prop} {Q:Zg} {t ke e:Nat} {r rk re:TyRow} {x y:Operand} {q:Nat} {m:List (α×Value)} {a:α}
include hg
theorem Eg (hr:QU c.g.tys t=some r)(hd:r.d= .map ke e)(aS:QU c.g.tys ke=some rk)(X7:QU c.g.tys e=some re)(hk:KeyV rk.d kv)(hm:MapAt kv w q m)(ok:Bool):
  (Instr.lookup t (.map (some q)) (kv a) ok).run c.g.P w= .ok (match Xv a m with
   | some v=>if ok then .tuple #[v,.bool true] else v
   | none=>if ok then .tuple #[re.z,.bool false] else re.z) w:=by
 have Q1:=(hg.row hr).1;rw[hd] at Q1;have fQ:=(hg.row aS).1;obtain⟨_,i,hi,_,_,hz⟩:=hg.row X7;obtain⟨bs,ck,hl,hb⟩:=hm.ex;obtain⟨res,h1,h2,_,_⟩:=Ef hk a m bs 0 hl;have dB:(getObj q).run c.g.P w= .ok (.map (XT kv m bs).toArray ck) w:=by simp[getObj,Sem.run,hb]
 simp only[Instr.lookup,Sem.run_bind,ZL Q1,Result.andThen_ok,dB];simp only[Sem.run_pure,Result.andThen_ok,uX fQ hk.plain,Instr.findKey,Sem.run_bind,ZL fQ,h1];cases res with
 | none=>
  have:Xv a m=none:=by simpa using h2.symm
  rw[this];cases ok<;>simp[zeroValue,typeInfo,hi,hz]
 | some p=>
  have:Xv a m=some p.2:=by simpa using h2.symm
  rw[this];cases ok<;>simp
theorem bQP (ho:o.op= .lookup t x y false)(hr:QU c.g.tys t=some r)(hd:r.d= .map ke e)(aS:QU c.g.tys ke=some rk)(X7:QU c.g.tys e=some re)(hk:KeyV rk.d kv)
  (hx:S.ev x=some (.map (some q))) (hy:S.ev y=some (kv a)) (hm:MapAt kv w q m) (k:Xk c S o.dst (.v ((Xv a m).getD re.z)) (λS=>K S w)):X8 c o S w K Q:=by
 refine Js (w':=w) (v:=(Xv a m).getD re.z) (λb hf=>?_) k;have e1:=hf.ev hx;have e2:=hf.ev hy;have:=Eg (w:=w) (a:=a) hg hr hd aS X7 hk hm false;simp only[execOp,ho,e1,e2];simp only[Sem.run_bind,this,Result.andThen_ok];cases Xv a m<;>simp
theorem bQQ (ho:o.op= .lookup t x y true)(hr:QU c.g.tys t=some r)(hd:r.d= .map ke e)(aS:QU c.g.tys ke=some rk)(X7:QU c.g.tys e=some re)(hk:KeyV rk.d kv)
  (hx:S.ev x=some (.map (some q))) (hy:S.ev y=some (kv a)) (hm:MapAt kv w q m) (k:Xk c S o.dst (.v (.tuple #[(Xv a m).getD re.z,.bool (Xv a m).isSome])) (λS=>K S w)):X8 c o S w K Q:=by
 refine Js (w':=w) (v:=.tuple #[(Xv a m).getD re.z,.bool (Xv a m).isSome]) (λb hf=>?_) k;have e1:=hf.ev hx;have e2:=hf.ev hy;have:=Eg (w:=w) (a:=a) hg hr hd aS X7 hk hm true;simp only[execOp,ho,e1,e2];simp only[Sem.run_bind,this,Result.andThen_ok];cases Xv a m<;>simp
theorem jN {v:Value}{z:Operand}(ho:o.op= .mapUpdate t x y z)(ia:o.dst=none)(hr:QU c.g.tys t=some r)(hd:r.d= .map ke e)(aS:QU c.g.tys ke=some rk)(hk:KeyV rk.d kv)
  (hx:S.ev x=some (.map (some q))) (hy:S.ev y=some (kv a)) (hz:S.ev z=some v) (hm:MapAt kv w q m)
  (k:∀w1,w.grownBy w1 (some q)->w1.heap.size=w.heap.size->MapAt kv w1 q (Zd a v m)->K S w1):X8 c o S w K Q:=by
 have Q1:=(hg.row hr).1;rw[hd] at Q1;have fQ:=(hg.row aS).1;obtain⟨bs,ck,hl,hb⟩:=hm.ex;have Xc:q<w.heap.size:=(eY.1 hb).1;obtain⟨res,h1,h2,h3,h4⟩:=Ef hk a m bs 0 hl;have dB:(getObj q).run c.g.P w= .ok (.map (XT kv m bs).toArray ck) w:=by simp[getObj,Sem.run,hb]
 have eN:∀ob,(setObj q ob).run c.g.P w= .ok () {w with heap:=w.heap.setIfInBounds q ob}:=λob=>by simp[setObj,Sem.run,hb]
 have main:∃ob,(Instr.mapUpdate t (.map (some q)) (kv a) v).run c.g.P w= .ok () {w with heap:=w.heap.setIfInBounds q ob}/\∃WR ck',WR.length=(Zd a v m).length/\ob= .map (XT kv (Zd a v m) WR).toArray ck':=by
  cases res with
  | none=>
   refine⟨_,?_,bs++ [ck],ck+1,?_,rfl⟩
   ·simp only[Instr.mapUpdate,Sem.run_bind,ZL Q1,Result.andThen_ok,dB,uX fQ hk.plain,Instr.findKey,ZL fQ,h1,Sem.run_pure,eN];rw[h4 rfl v];congr 4;simp only[XT];rw[List.zip_append hl.symm,f0];simp
   ·rw[h4 rfl v];simp[hl]
  | some p=>
   obtain⟨j,u⟩:=p;obtain⟨_,hj,h7⟩:=h3 j u rfl;obtain⟨h8,h9⟩:=h7 v;simp only[Nat.sub_zero] at h8 h9;have La:(((XT kv m bs).toArray[j]?).map (·.key)).getD (kv a)=kv a:=by
    rw[show(XT kv m bs).toArray[j]? =(XT kv m bs)[j]? from by simp,h9]<;>rfl
   refine⟨_,?_,bs,ck,?_,rfl⟩
   ·simp only[Instr.mapUpdate,Sem.run_bind,ZL Q1,Result.andThen_ok,dB,uX fQ hk.plain,Instr.findKey,ZL fQ,h1,Sem.run_pure,La,Instr.keyThatStays,hk.bits,if_true,eN];rw[h8];congr 4;simp
   ·have:=QN List.length h8;simp only[XT,JM,List.length_zip,List.length_modify] at this;have Xd:(Zd a v m).length=m.length:=by
     have nN:∀(m:List (α×Value)),(Xv a m).isSome->(Zd a v m).length=m.length:=by
      intro m;induction m with
      | nil=>intro h;simp[Xv] at h
      | cons p m ih=>
       obtain⟨b,x⟩:=p;intro h;simp only[Zd];split
       ·simp
       ·rename_i Ya;simp[ih (by simpa [Xv,Ya] using h)]
     exact nN m (by rw[<-h2];rfl)
    rw[Xd,hl]
 obtain⟨ob,Z9,WR,ck',cE,rfl⟩:=main;unfold X8;intro b hf;have e1:=hf.ev hx;have e2:=hf.ev hy;have e3:=hf.ev hz;unfold Oper.wp;have:(execOp b.eval o).run c.g.P w= .ok .skip {w with heap:=w.heap.setIfInBounds q (.map (XT kv (Zd a v m) WR).toArray ck')}:=by
  simp only[execOp,ho,e1,e2,e3];simp[Z9]
 rw[this];refine⟨S,by rw[ia];simpa [Act.put] using hf,k _ ⟨rfl,rfl,rfl,by simp,λi _ hi=>?_⟩ (by simp) ⟨WR,ck',cE,?_⟩⟩
 ·simp only[Dy];rw[if_neg (λe=>hi (by rw[e]))]
 ·simp[Xc]
end
end
noncomputable section
def gx:Gx where
 P:=Tryz.prog
 tys:=[
  ⟨1,.func #[] #[] false,1,8,.nilFunc⟩,
  ⟨3,.int .i64,1,8,.int .i64 0⟩,
  ⟨4,.bool,1,1,.bool false⟩,
  ⟨5,.int .u8,1,1,.int .u8 0⟩,
  ⟨9,.string,1,16,.string ByteArray.empty⟩,
  ⟨20,.interface #[],1,16,.nilIface⟩,
  ⟨21,.int .i32,1,4,.int .i32 0⟩,
  ⟨22,.slice 83,1,24,.slice none 0 0⟩,
  ⟨23,.slice 89,1,24,.slice none 0 0⟩,
  ⟨25,.struct #[⟨ "Family",5,0,false,"","",0⟩,⟨ "Lines",22,1,false,"","",8⟩,⟨ "Edits",23,2,false,"","",32⟩],3,56,.agg #[.int .u8 0,.slice none 0 0,.slice none 0 0]⟩,
  ⟨28,.slice 58,1,24,.slice none 0 0⟩,
  ⟨30,.slice 105,1,24,.slice none 0 0⟩,
  ⟨32,.struct #[⟨ "Nodes",30,0,false,"","",0⟩,⟨ "Root",3,1,false,"","",24⟩],2,32,.agg #[.slice none 0 0,.int .i64 0]⟩,
  ⟨34,.int .i64,1,8,.int .i64 0⟩,
  ⟨37,.slice 9,1,24,.slice none 0 0⟩,
  ⟨39,.slice 48,1,24,.slice none 0 0⟩,
  ⟨41,.struct #[⟨ "Text",9,0,false,"","",0⟩,⟨ "Segments",39,1,false,"","",16⟩],2,40,.agg #[.string ByteArray.empty,.slice none 0 0]⟩,
  ⟨44,.int .u64,1,8,.int .u64 0⟩,
  ⟨45,.int .u64,1,8,.int .u64 0⟩,
  ⟨48,.struct #[⟨ "From",3,0,false,"","",0⟩,⟨ "To",3,1,false,"","",8⟩,⟨ "File",3,2,false,"","",16⟩,⟨ "At",3,3,false,"","",24⟩,⟨ "If",32,4,false,"","",32⟩],6,64,.agg #[.int .i64 0,.int .i64 0,.int .i64 0,.int .i64 0,.slice none 0 0,.int .i64 0]⟩,
  ⟨54,.slice 56,1,24,.slice none 0 0⟩,
  ⟨56,.struct #[⟨ "If",32,0,false,"","",0⟩,⟨ "Text",9,2,false,"","",32⟩],3,48,.agg #[.slice none 0 0,.int .i64 0,.string ByteArray.empty]⟩,
  ⟨58,.struct #[⟨ "From",3,0,false,"","",0⟩,⟨ "To",3,1,false,"","",8⟩,⟨ "Text",9,2,false,"","",16⟩,⟨ "If",32,3,false,"","",32⟩],5,64,.agg #[.int .i64 0,.int .i64 0,.string ByteArray.empty,.slice none 0 0,.int .i64 0]⟩,
  ⟨62,.slice 5,1,24,.slice none 0 0⟩,
  ⟨63,.slice 62,1,24,.slice none 0 0⟩,
  ⟨65,.struct #[⟨ "Family",5,0,false,"","",0⟩,⟨ "Class",62,1,false,"","",8⟩,⟨ "Texts",63,2,false,"","",32⟩],3,56,.agg #[.int .u8 0,.slice none 0 0,.slice none 0 0]⟩,
  ⟨74,.func #[9] #[4] false,1,8,.nilFunc⟩,
  ⟨83,.struct #[⟨ "Kind",5,0,false,"","",0⟩,⟨ "If",5,1,false,"","",1⟩,⟨ "Words",62,2,false,"","",8⟩],3,32,.agg #[.int .u8 0,.int .u8 0,.slice none 0 0]⟩,
  ⟨85,.struct #[⟨ "Name",9,0,false,"","",0⟩,⟨ "Text",9,1,false,"","",16⟩],2,32,.agg #[.string ByteArray.empty,.string ByteArray.empty]⟩,
  ⟨86,.slice 85,1,24,.slice none 0 0⟩,
  ⟨89,.struct #[⟨ "Line",5,0,false,"","",0⟩,⟨ "From",5,1,false,"","",1⟩,⟨ "To",5,2,false,"","",2⟩,⟨ "Text",5,3,false,"","",3⟩,⟨ "If",5,4,false,"","",4⟩],5,5,.agg #[.int .u8 0,.int .u8 0,.int .u8 0,.int .u8 0,.int .u8 0]⟩,
  ⟨93,.struct #[⟨ "E",34,0,false,"","",0⟩,⟨ "File",3,1,false,"","",8⟩,⟨ "Line",3,2,false,"","",16⟩],3,24,.agg #[.int .i64 0,.int .i64 0,.int .i64 0]⟩,
  ⟨97,.pointer 99,1,8,.pointer none⟩,
  ⟨99,.struct #[⟨ "names",37,0,false,"","koine/patch",0⟩,⟨ "family",32,1,false,"","koine/patch",24⟩,⟨ "text",9,3,false,"","koine/patch",56⟩,⟨ "edits",28,4,false,"","koine/patch",72⟩],5,96,.agg #[.slice none 0 0,.slice none 0 0,.int .i64 0,.string ByteArray.empty,.slice none 0 0]⟩,
  ⟨105,.struct #[⟨ "Var",3,0,false,"","",0⟩,⟨ "Low",3,1,false,"","",8⟩,⟨ "High",3,2,false,"","",16⟩],3,24,.agg #[.int .i64 0,.int .i64 0,.int .i64 0]⟩,
  ⟨107,.pointer 109,1,8,.pointer none⟩,
  ⟨109,.struct #[⟨ "addr",107,0,false,"","strings",0⟩,⟨ "buf",62,1,false,"","strings",8⟩],2,32,.agg #[.pointer none,.slice none 0 0]⟩,
  ⟨112,.interface #[("Error",115)],1,16,.nilIface⟩,
  ⟨121,.int .u64,1,8,.int .u64 0⟩,
  ⟨122,.slice 45,1,24,.slice none 0 0⟩,
  ⟨127,.slice 3,1,24,.slice none 0 0⟩,
  ⟨129,.slice 132,1,24,.slice none 0 0⟩,
  ⟨132,.struct #[⟨ "from",3,0,false,"","koine/koineref29",0⟩,⟨ "to",3,1,false,"","koine/koineref29",8⟩,⟨ "in",32,2,false,"","koine/koineref29",16⟩],4,48,.agg #[.int .i64 0,.int .i64 0,.slice none 0 0,.int .i64 0]⟩,
  ⟨139,.func #[4,4] #[4] false,1,8,.nilFunc⟩,
  ⟨143,.slice 219,1,24,.slice none 0 0⟩,
  ⟨149,.slice 280,1,24,.slice none 0 0⟩,
  ⟨153,.pointer 157,1,8,.pointer none⟩,
  ⟨154,.map 9 3,1,8,.map none⟩,
  ⟨155,.map 3 4,1,8,.map none⟩,
  ⟨157,.struct #[⟨ "names",37,0,false,"","koine/source",0⟩,⟨ "files",86,1,false,"","koine/source",24⟩,⟨ "numbers",154,2,false,"","koine/source",48⟩,⟨ "reading",155,3,false,"","koine/source",56⟩,⟨ "depth",3,4,false,"","koine/source",64⟩,⟨ "text",109,5,false,"","koine/source",72⟩,⟨ "out",39,7,false,"","koine/source",104⟩,⟨ "fresh",4,8,false,"","koine/source",128⟩,⟨ "file",3,9,false,"","koine/source",136⟩,⟨ "line",3,10,false,"","koine/source",144⟩],11,152,.agg #[.slice none 0 0,.slice none 0 0,.map none,.map none,.int .i64 0,.pointer none,.slice none 0 0,.slice none 0 0,.bool false,.int .i64 0,.int .i64 0]⟩,
  ⟨160,.struct #[⟨ "place",93,0,false,"","koine/source",0⟩],3,24,.agg #[.int .i64 0,.int .i64 0,.int .i64 0]⟩,
  ⟨166,.struct #[⟨ "in",32,0,false,"","koine/patch",0⟩,⟨ "done",9,2,false,"","koine/patch",32⟩,⟨ "at",3,3,false,"","koine/patch",48⟩],4,56,.agg #[.slice none 0 0,.int .i64 0,.string ByteArray.empty,.int .i64 0]⟩,
  ⟨167,.slice 166,1,24,.slice none 0 0⟩,
  ⟨169,.func #[56] #[4] false,1,8,.nilFunc⟩,
  ⟨172,.map 105 4,1,8,.map none⟩,
  ⟨174,.pointer 177,1,8,.pointer none⟩,
  ⟨175,.map 105 3,1,8,.map none⟩,
  ⟨177,.struct #[⟨ "nodes",30,0,false,"","koine/diagram",0⟩,⟨ "known",175,1,false,"","koine/diagram",24⟩],2,32,.agg #[.slice none 0 0,.map none]⟩,
  ⟨179,.pointer 5,1,8,.pointer none⟩,
  ⟨180,.pointer 183,1,8,.pointer none⟩,
  ⟨181,.slice 242,1,24,.slice none 0 0⟩,
  ⟨183,.struct #[⟨ "a",32,0,false,"","koine/koineref02",0⟩,⟨ "b",32,2,false,"","koine/koineref02",32⟩,⟨ "op",3,4,false,"","koine/koineref02",64⟩,⟨ "nodes",30,5,false,"","koine/koineref02",72⟩,⟨ "seen",181,6,false,"","koine/koineref02",96⟩],7,120,.agg #[.slice none 0 0,.int .i64 0,.slice none 0 0,.int .i64 0,.int .i64 0,.slice none 0 0,.slice none 0 0]⟩,
  ⟨187,.func #[105] #[4] false,1,8,.nilFunc⟩,
  ⟨192,.func #[32,3] #[37] false,1,8,.nilFunc⟩,
  ⟨197,.slice 32,1,24,.slice none 0 0⟩,
  ⟨199,.pointer 201,1,8,.pointer none⟩,
  ⟨201,.struct #[⟨ "names",37,0,false,"","koine/koineref07",0⟩,⟨ "files",86,1,false,"","koine/koineref07",24⟩,⟨ "depth",3,2,false,"","koine/koineref07",48⟩,⟨ "reading",127,3,false,"","koine/koineref07",56⟩,⟨ "out",41,4,false,"","koine/koineref07",80⟩,⟨ "fresh",4,6,false,"","koine/koineref07",120⟩,⟨ "bad",93,7,false,"","koine/koineref07",128⟩],10,152,.agg #[.slice none 0 0,.slice none 0 0,.int .i64 0,.slice none 0 0,.string ByteArray.empty,.slice none 0 0,.bool false,.int .i64 0,.int .i64 0,.int .i64 0]⟩,
  ⟨204,.array 3 32,6,96,.agg #[.slice none 0 0,.int .i64 0,.slice none 0 0,.int .i64 0,.slice none 0 0,.int .i64 0]⟩,
  ⟨205,.func #[4,4,4] #[4] false,1,8,.nilFunc⟩,
  ⟨206,.slice 4,1,24,.slice none 0 0⟩,
  ⟨213,.slice 143,1,24,.slice none 0 0⟩,
  ⟨215,.func #[3] #[3] false,1,8,.nilFunc⟩,
  ⟨217,.func #[3,3] #[143,34] false,1,8,.nilFunc⟩,
  ⟨219,.int .u32,1,4,.int .u32 0⟩,
  ⟨220,.pointer 222,1,8,.pointer none⟩,
  ⟨222,.struct #[⟨ "names",154,0,false,"","koine/formula",0⟩,⟨ "rest",9,1,false,"","koine/formula",8⟩,⟨ "f",149,2,false,"","koine/formula",24⟩,⟨ "unknown",4,3,false,"","koine/formula",48⟩],4,56,.agg #[.map none,.string ByteArray.empty,.slice none 0 0,.bool false]⟩,
  ⟨223,.func #[] #[3] false,1,8,.nilFunc⟩,
  ⟨224,.map 9 4,1,8,.map none⟩,
  ⟨225,.slice 232,1,24,.slice none 0 0⟩,
  ⟨232,.struct #[⟨ "outer",32,0,false,"","koine/source",0⟩,⟨ "rest",32,2,false,"","koine/source",32⟩,⟨ "other",4,4,false,"","koine/source",64⟩,⟨ "line",3,5,false,"","koine/source",72⟩],6,80,.agg #[.slice none 0 0,.int .i64 0,.slice none 0 0,.int .i64 0,.bool false,.int .i64 0]⟩,
  ⟨233,.pointer 232,1,8,.pointer none⟩,
  ⟨238,.map 3 3,1,8,.map none⟩,
  ⟨240,.unsafePointer,1,8,.pointer none⟩,
  ⟨242,.array 3 3,3,24,.agg #[.int .i64 0,.int .i64 0,.int .i64 0]⟩,
  ⟨247,.pointer 249,1,8,.pointer none⟩,
  ⟨249,.struct #[⟨ "nodes",30,0,false,"","koine/koineref02",0⟩,⟨ "number",127,1,false,"","koine/koineref02",24⟩,⟨ "out",30,2,false,"","koine/koineref02",48⟩],3,72,.agg #[.slice none 0 0,.slice none 0 0,.slice none 0 0]⟩,
  ⟨251,.map 253 4,1,8,.map none⟩,
  ⟨252,.func #[3,3] #[4] false,1,8,.nilFunc⟩,
  ⟨253,.array 2 3,2,16,.agg #[.int .i64 0,.int .i64 0]⟩,
  ⟨259,.array 2 122,2,48,.agg #[.slice none 0 0,.slice none 0 0]⟩,
  ⟨260,.array 2 37,2,48,.agg #[.slice none 0 0,.slice none 0 0]⟩,
  ⟨261,.slice 266,1,24,.slice none 0 0⟩,
  ⟨266,.struct #[⟨ "outer",32,0,false,"","koine/koineref07",0⟩,⟨ "rest",32,2,false,"","koine/koineref07",32⟩,⟨ "other",4,4,false,"","koine/koineref07",64⟩,⟨ "line",3,5,false,"","koine/koineref07",72⟩],6,80,.agg #[.slice none 0 0,.int .i64 0,.slice none 0 0,.int .i64 0,.bool false,.int .i64 0]⟩,
  ⟨272,.map 242 3,1,8,.map none⟩,
  ⟨273,.func #[242] #[3] false,1,8,.nilFunc⟩,
  ⟨275,.pointer 277,1,8,.pointer none⟩,
  ⟨277,.struct #[⟨ "d",32,0,false,"","koine/formula",0⟩,⟨ "f",149,2,false,"","koine/formula",32⟩],3,56,.agg #[.slice none 0 0,.int .i64 0,.slice none 0 0]⟩,
  ⟨280,.struct #[⟨ "Op",3,0,false,"","",0⟩,⟨ "Var",3,1,false,"","",8⟩,⟨ "A",3,2,false,"","",16⟩,⟨ "B",3,3,false,"","",24⟩],4,32,.agg #[.int .i64 0,.int .i64 0,.int .i64 0,.int .i64 0]⟩,
  ⟨294,.func #[21] #[4] false,1,8,.nilFunc⟩,
  ⟨297,.array 512 4,512,512,.agg (Array.replicate 512 (.bool false))⟩,
  ⟨302,.array 256 4,256,256,.agg (Array.replicate 256 (.bool false))⟩,
  ⟨306,.pointer 302,1,8,.pointer none⟩,
  ⟨312,.pointer 314,1,8,.pointer none⟩,
  ⟨314,.struct #[⟨ "names",37,0,false,"","koine/koineref03",0⟩,⟨ "l",37,1,false,"","koine/koineref03",24⟩,⟨ "at",3,2,false,"","koine/koineref03",48⟩,⟨ "f",149,3,false,"","koine/koineref03",56⟩,⟨ "bad",4,4,false,"","koine/koineref03",80⟩,⟨ "unknown",4,5,false,"","koine/koineref03",81⟩],6,88,.agg #[.slice none 0 0,.slice none 0 0,.int .i64 0,.slice none 0 0,.bool false,.bool false]⟩,
  ⟨322,.array 256 5,256,256,.agg (Array.replicate 256 (.int .u8 0))⟩,
  ⟨324,.struct #[⟨ "lo",5,0,false,"","unicode/utf8",0⟩,⟨ "hi",5,1,false,"","unicode/utf8",1⟩],2,2,.agg #[.int .u8 0,.int .u8 0]⟩,
  ⟨325,.array 16 324,32,32,.agg (Array.replicate 32 (.int .u8 0))⟩]
 fns:=[3,4,5,6,7,8,9,10,11,12,13,14,15,16,17,18,19,20,21,22,23,24,25,26,27,28,29,30,31,32,33,34,35,36,37,38,39,40,41,42,43,44,45,46,47,48,49,50,51,52,53,54,55,56,57,58,59,60,61,62,63,64,65,66,67,68,69,70,71,72,73,74,75,76,77,78,79,80,81,82,83,84,85,86,87,88,89,90,91,92,93,94,95,96,97,98,99,100,101,102,103,104,105,106,107,108,109,110,111,112,113,114,115,116,117,118,119,120,121,122,123,124,125,126,127,128,129,130,131,132,133,134,135,136,137,138,139,140,141,142,143,144,145,146,147,148,149,150,151,152,153,154,155,156,157,158,160,161,162,163,164,165,166,167,168,169,170,171,172,173,174,175,176,177,178,179,180,181,182,183,184,185,186,187,188,189,190,191,192,193,194,195,196,197,198,199,200,201,202,203,204,205,206,208,209,210,211,212,213,214,215,216,217,218,219,220,221,222,223,224,225,226,227,228,229,230,231,232,233,235,237,238,239,240,241,242,243,244,245,246,248,249,250,251,252,253,254,255,256,257,258,259,260,261]
 ms:=[]
 eqs:=[⟨105,[0,0,0]⟩,⟨280,[0,0,0,0]⟩]
theorem bQR:yW Tryz.prog gx.tys:=by
 refine⟨⟨?_,?_⟩,⟨?_,?_⟩,⟨?_,?_⟩,⟨?_,?_⟩,⟨?_,?_⟩,⟨?_,?_⟩,⟨?_,?_⟩,⟨?_,?_⟩,⟨?_,?_⟩,⟨?_,?_⟩,⟨?_,?_⟩,⟨?_,?_⟩,⟨?_,?_⟩,⟨?_,?_⟩,⟨?_,?_⟩,⟨?_,?_⟩,⟨?_,?_⟩,⟨?_,?_⟩,⟨?_,?_⟩,⟨?_,?_⟩,⟨?_,?_⟩,⟨?_,?_⟩,⟨?_,?_⟩,⟨?_,?_⟩,⟨?_,?_⟩,⟨?_,?_⟩,⟨?_,?_⟩,⟨?_,?_⟩,⟨?_,?_⟩,⟨?_,?_⟩,⟨?_,?_⟩,⟨?_,?_⟩,⟨?_,?_⟩,⟨?_,?_⟩,⟨?_,?_⟩,⟨?_,?_⟩,⟨?_,?_⟩,⟨?_,?_⟩,⟨?_,?_⟩,⟨?_,?_⟩,⟨?_,?_⟩,⟨?_,?_⟩,⟨?_,?_⟩,⟨?_,?_⟩,⟨?_,?_⟩,⟨?_,?_⟩,⟨?_,?_⟩,⟨?_,?_⟩,⟨?_,?_⟩,⟨?_,?_⟩,⟨?_,?_⟩,⟨?_,?_⟩,⟨?_,?_⟩,⟨?_,?_⟩,⟨?_,?_⟩,⟨?_,?_⟩,⟨?_,?_⟩,⟨?_,?_⟩,⟨?_,?_⟩,⟨?_,?_⟩,⟨?_,?_⟩,⟨?_,?_⟩,⟨?_,?_⟩,⟨?_,?_⟩,⟨?_,?_⟩,⟨?_,?_⟩,⟨?_,?_⟩,⟨?_,?_⟩,⟨?_,?_⟩,⟨?_,?_⟩,⟨?_,?_⟩,⟨?_,?_⟩,⟨?_,?_⟩,⟨?_,?_⟩,⟨?_,?_⟩,⟨?_,?_⟩,⟨?_,?_⟩,⟨?_,?_⟩,⟨?_,?_⟩,⟨?_,?_⟩,⟨?_,?_⟩,⟨?_,?_⟩,⟨?_,?_⟩,⟨?_,?_⟩,⟨?_,?_⟩,⟨?_,?_⟩,⟨?_,?_⟩,⟨?_,?_⟩,⟨?_,?_⟩,⟨?_,?_⟩,⟨?_,?_⟩,⟨?_,?_⟩,⟨?_,?_⟩,⟨?_,?_⟩,⟨?_,?_⟩,⟨?_,?_⟩,⟨?_,?_⟩,⟨?_,?_⟩,⟨?_,?_⟩,⟨?_,?_⟩,⟨?_,?_⟩,⟨?_,?_⟩,⟨?_,?_⟩,⟨?_,?_⟩,⟨?_,?_⟩,⟨?_,?_⟩,⟨?_,?_⟩,trivial⟩<;>kernel_rfl
set_option maxRecDepth 100000 in
theorem bQS:yX Tryz.prog gx.fns:=by
 refine⟨⟨_,Tryz.func3,?_,?_⟩,⟨_,Tryz.func4,?_,?_⟩,⟨_,Tryz.func5,?_,?_⟩,⟨_,Tryz.func6,?_,?_⟩,⟨_,Tryz.func7,?_,?_⟩,⟨_,Tryz.func8,?_,?_⟩,⟨_,Tryz.func9,?_,?_⟩,⟨_,Tryz.func10,?_,?_⟩,⟨_,Tryz.func11,?_,?_⟩,⟨_,Tryz.func12,?_,?_⟩,⟨_,Tryz.func13,?_,?_⟩,⟨_,Tryz.func14,?_,?_⟩,⟨_,Tryz.func15,?_,?_⟩,⟨_,Tryz.func16,?_,?_⟩,⟨_,Tryz.func17,?_,?_⟩,⟨_,Tryz.func18,?_,?_⟩,⟨_,Tryz.func19,?_,?_⟩,⟨_,Tryz.func20,?_,?_⟩,⟨_,Tryz.func21,?_,?_⟩,⟨_,Tryz.func22,?_,?_⟩,⟨_,Tryz.func23,?_,?_⟩,⟨_,Tryz.func24,?_,?_⟩,⟨_,Tryz.func25,?_,?_⟩,⟨_,Tryz.func26,?_,?_⟩,⟨_,Tryz.func27,?_,?_⟩,⟨_,Tryz.func28,?_,?_⟩,⟨_,Tryz.func29,?_,?_⟩,⟨_,Tryz.func30,?_,?_⟩,⟨_,Tryz.func31,?_,?_⟩,⟨_,Tryz.func32,?_,?_⟩,⟨_,Tryz.func33,?_,?_⟩,⟨_,Tryz.func34,?_,?_⟩,⟨_,Tryz.func35,?_,?_⟩,⟨_,Tryz.func36,?_,?_⟩,⟨_,Tryz.func37,?_,?_⟩,⟨_,Tryz.func38,?_,?_⟩,⟨_,Tryz.func39,?_,?_⟩,⟨_,Tryz.func40,?_,?_⟩,⟨_,Tryz.func41,?_,?_⟩,⟨_,Tryz.func42,?_,?_⟩,⟨_,Tryz.func43,?_,?_⟩,⟨_,Tryz.func44,?_,?_⟩,⟨_,Tryz.func45,?_,?_⟩,⟨_,Tryz.func46,?_,?_⟩,⟨_,Tryz.func47,?_,?_⟩,⟨_,Tryz.func48,?_,?_⟩,⟨_,Tryz.func49,?_,?_⟩,⟨_,Tryz.func50,?_,?_⟩,⟨_,Tryz.func51,?_,?_⟩,⟨_,Tryz.func52,?_,?_⟩,⟨_,Tryz.func53,?_,?_⟩,⟨_,Tryz.func54,?_,?_⟩,⟨_,Tryz.func55,?_,?_⟩,⟨_,Tryz.func56,?_,?_⟩,⟨_,Tryz.func57,?_,?_⟩,⟨_,Tryz.func58,?_,?_⟩,⟨_,Tryz.func59,?_,?_⟩,⟨_,Tryz.func60,?_,?_⟩,⟨_,Tryz.func61,?_,?_⟩,⟨_,Tryz.func62,?_,?_⟩,⟨_,Tryz.func63,?_,?_⟩,⟨_,Tryz.func64,?_,?_⟩,⟨_,Tryz.func65,?_,?_⟩,⟨_,Tryz.func66,?_,?_⟩,⟨_,Tryz.func67,?_,?_⟩,⟨_,Tryz.func68,?_,?_⟩,⟨_,Tryz.func69,?_,?_⟩,⟨_,Tryz.func70,?_,?_⟩,⟨_,Tryz.func71,?_,?_⟩,⟨_,Tryz.func72,?_,?_⟩,⟨_,Tryz.func73,?_,?_⟩,⟨_,Tryz.func74,?_,?_⟩,⟨_,Tryz.func75,?_,?_⟩,⟨_,Tryz.func76,?_,?_⟩,⟨_,Tryz.func77,?_,?_⟩,⟨_,Tryz.func78,?_,?_⟩,⟨_,Tryz.func79,?_,?_⟩,⟨_,Tryz.func80,?_,?_⟩,⟨_,Tryz.func81,?_,?_⟩,⟨_,Tryz.func82,?_,?_⟩,⟨_,Tryz.func83,?_,?_⟩,⟨_,Tryz.func84,?_,?_⟩,⟨_,Tryz.func85,?_,?_⟩,⟨_,Tryz.func86,?_,?_⟩,⟨_,Tryz.func87,?_,?_⟩,⟨_,Tryz.func88,?_,?_⟩,⟨_,Tryz.func89,?_,?_⟩,⟨_,Tryz.func90,?_,?_⟩,⟨_,Tryz.func91,?_,?_⟩,⟨_,Tryz.func92,?_,?_⟩,⟨_,Tryz.func93,?_,?_⟩,⟨_,Tryz.func94,?_,?_⟩,⟨_,Tryz.func95,?_,?_⟩,⟨_,Tryz.func96,?_,?_⟩,⟨_,Tryz.func97,?_,?_⟩,⟨_,Tryz.func98,?_,?_⟩,⟨_,Tryz.func99,?_,?_⟩,⟨_,Tryz.func100,?_,?_⟩,⟨_,Tryz.func101,?_,?_⟩,⟨_,Tryz.func102,?_,?_⟩,⟨_,Tryz.func103,?_,?_⟩,⟨_,Tryz.func104,?_,?_⟩,⟨_,Tryz.func105,?_,?_⟩,⟨_,Tryz.func106,?_,?_⟩,⟨_,Tryz.func107,?_,?_⟩,⟨_,Tryz.func108,?_,?_⟩,⟨_,Tryz.func109,?_,?_⟩,⟨_,Tryz.func110,?_,?_⟩,⟨_,Tryz.func111,?_,?_⟩,⟨_,Tryz.func112,?_,?_⟩,⟨_,Tryz.func113,?_,?_⟩,⟨_,Tryz.func114,?_,?_⟩,⟨_,Tryz.func115,?_,?_⟩,⟨_,Tryz.func116,?_,?_⟩,⟨_,Tryz.func117,?_,?_⟩,⟨_,Tryz.func118,?_,?_⟩,⟨_,Tryz.func119,?_,?_⟩,⟨_,Tryz.func120,?_,?_⟩,⟨_,Tryz.func121,?_,?_⟩,⟨_,Tryz.func122,?_,?_⟩,⟨_,Tryz.func123,?_,?_⟩,⟨_,Tryz.func124,?_,?_⟩,⟨_,Tryz.func125,?_,?_⟩,⟨_,Tryz.func126,?_,?_⟩,⟨_,Tryz.func127,?_,?_⟩,⟨_,Tryz.func128,?_,?_⟩,⟨_,Tryz.func129,?_,?_⟩,⟨_,Tryz.func130,?_,?_⟩,⟨_,Tryz.func131,?_,?_⟩,⟨_,Tryz.func132,?_,?_⟩,⟨_,Tryz.func133,?_,?_⟩,⟨_,Tryz.func134,?_,?_⟩,⟨_,Tryz.func135,?_,?_⟩,⟨_,Tryz.func136,?_,?_⟩,⟨_,Tryz.func137,?_,?_⟩,⟨_,Tryz.func138,?_,?_⟩,⟨_,Tryz.func139,?_,?_⟩,⟨_,Tryz.func140,?_,?_⟩,⟨_,Tryz.func141,?_,?_⟩,⟨_,Tryz.func142,?_,?_⟩,⟨_,Tryz.func143,?_,?_⟩,⟨_,Tryz.func144,?_,?_⟩,⟨_,Tryz.func145,?_,?_⟩,⟨_,Tryz.func146,?_,?_⟩,⟨_,Tryz.func147,?_,?_⟩,⟨_,Tryz.func148,?_,?_⟩,⟨_,Tryz.func149,?_,?_⟩,⟨_,Tryz.func150,?_,?_⟩,⟨_,Tryz.func151,?_,?_⟩,⟨_,Tryz.func152,?_,?_⟩,⟨_,Tryz.func153,?_,?_⟩,⟨_,Tryz.func154,?_,?_⟩,⟨_,Tryz.func155,?_,?_⟩,⟨_,Tryz.func156,?_,?_⟩,⟨_,Tryz.func157,?_,?_⟩,⟨_,Tryz.func158,?_,?_⟩,⟨_,Tryz.func160,?_,?_⟩,⟨_,Tryz.func161,?_,?_⟩,⟨_,Tryz.func162,?_,?_⟩,⟨_,Tryz.func163,?_,?_⟩,⟨_,Tryz.func164,?_,?_⟩,⟨_,Tryz.func165,?_,?_⟩,⟨_,Tryz.func166,?_,?_⟩,⟨_,Tryz.func167,?_,?_⟩,⟨_,Tryz.func168,?_,?_⟩,⟨_,Tryz.func169,?_,?_⟩,⟨_,Tryz.func170,?_,?_⟩,⟨_,Tryz.func171,?_,?_⟩,⟨_,Tryz.func172,?_,?_⟩,⟨_,Tryz.func173,?_,?_⟩,⟨_,Tryz.func174,?_,?_⟩,⟨_,Tryz.func175,?_,?_⟩,⟨_,Tryz.func176,?_,?_⟩,⟨_,Tryz.func177,?_,?_⟩,⟨_,Tryz.func178,?_,?_⟩,⟨_,Tryz.func179,?_,?_⟩,⟨_,Tryz.func180,?_,?_⟩,⟨_,Tryz.func181,?_,?_⟩,⟨_,Tryz.func182,?_,?_⟩,⟨_,Tryz.func183,?_,?_⟩,⟨_,Tryz.func184,?_,?_⟩,⟨_,Tryz.func185,?_,?_⟩,⟨_,Tryz.func186,?_,?_⟩,⟨_,Tryz.func187,?_,?_⟩,⟨_,Tryz.func188,?_,?_⟩,⟨_,Tryz.func189,?_,?_⟩,⟨_,Tryz.func190,?_,?_⟩,⟨_,Tryz.func191,?_,?_⟩,⟨_,Tryz.func192,?_,?_⟩,⟨_,Tryz.func193,?_,?_⟩,⟨_,Tryz.func194,?_,?_⟩,⟨_,Tryz.func195,?_,?_⟩,⟨_,Tryz.func196,?_,?_⟩,⟨_,Tryz.func197,?_,?_⟩,⟨_,Tryz.func198,?_,?_⟩,⟨_,Tryz.func199,?_,?_⟩,⟨_,Tryz.func200,?_,?_⟩,⟨_,Tryz.func201,?_,?_⟩,⟨_,Tryz.func202,?_,?_⟩,⟨_,Tryz.func203,?_,?_⟩,⟨_,Tryz.func204,?_,?_⟩,⟨_,Tryz.func205,?_,?_⟩,⟨_,Tryz.func206,?_,?_⟩,⟨_,Tryz.func208,?_,?_⟩,⟨_,Tryz.func209,?_,?_⟩,⟨_,Tryz.func210,?_,?_⟩,⟨_,Tryz.func211,?_,?_⟩,⟨_,Tryz.func212,?_,?_⟩,⟨_,Tryz.func213,?_,?_⟩,⟨_,Tryz.func214,?_,?_⟩,⟨_,Tryz.func215,?_,?_⟩,⟨_,Tryz.func216,?_,?_⟩,⟨_,Tryz.func217,?_,?_⟩,⟨_,Tryz.func218,?_,?_⟩,⟨_,Tryz.func219,?_,?_⟩,⟨_,Tryz.func220,?_,?_⟩,⟨_,Tryz.func221,?_,?_⟩,⟨_,Tryz.func222,?_,?_⟩,⟨_,Tryz.func223,?_,?_⟩,⟨_,Tryz.func224,?_,?_⟩,⟨_,Tryz.func225,?_,?_⟩,⟨_,Tryz.func226,?_,?_⟩,⟨_,Tryz.func227,?_,?_⟩,⟨_,Tryz.func228,?_,?_⟩,⟨_,Tryz.func229,?_,?_⟩,⟨_,Tryz.func230,?_,?_⟩,⟨_,Tryz.func231,?_,?_⟩,⟨_,Tryz.func232,?_,?_⟩,⟨_,Tryz.func233,?_,?_⟩,⟨_,Tryz.func235,?_,?_⟩,⟨_,Tryz.func237,?_,?_⟩,⟨_,Tryz.func238,?_,?_⟩,⟨_,Tryz.func239,?_,?_⟩,⟨_,Tryz.func240,?_,?_⟩,⟨_,Tryz.func241,?_,?_⟩,⟨_,Tryz.func242,?_,?_⟩,⟨_,Tryz.func243,?_,?_⟩,⟨_,Tryz.func244,?_,?_⟩,⟨_,Tryz.func245,?_,?_⟩,⟨_,Tryz.func246,?_,?_⟩,⟨_,Tryz.func248,?_,?_⟩,⟨_,Tryz.func249,?_,?_⟩,⟨_,Tryz.func250,?_,?_⟩,⟨_,Tryz.func251,?_,?_⟩,⟨_,Tryz.func252,?_,?_⟩,⟨_,Tryz.func253,?_,?_⟩,⟨_,Tryz.func254,?_,?_⟩,⟨_,Tryz.func255,?_,?_⟩,⟨_,Tryz.func256,?_,?_⟩,⟨_,Tryz.func257,?_,?_⟩,⟨_,Tryz.func258,?_,?_⟩,⟨_,Tryz.func259,?_,?_⟩,⟨_,Tryz.func260,?_,?_⟩,⟨_,Tryz.func261,?_,?_⟩,trivial⟩<;>kernel_rfl
theorem bQT:yU Tryz.prog gx.ms:=
 trivial
theorem bQU:yV Tryz.prog gx.eqs:=
 ⟨⟨by kernel_rfl,by kernel_rfl,by kernel_rfl⟩,
  ⟨by kernel_rfl,by kernel_rfl,by kernel_rfl⟩,trivial⟩
theorem Qa:gx.Ok:=⟨bQR,bQS,by kernel_rfl,bQT,bQU⟩
abbrev c3:Cx:=⟨gx,128,1,[1,2,3,4,5,6,7,8,9,10,11,12,13,14,15,16,17,18,19,37,58,60,66,71,83,97,126],[]⟩
abbrev c4:Cx:=⟨gx,146,2,[2,4,5,6,7,8,9,10,11,12,13,14,15,16,17,18,19,20,21,22,37,45,83,92,97,128,130,144],[]⟩
abbrev c5:Cx:=⟨gx,181,3,[3,6,7,8,9,10,11,12,13,14,15,16,19,21,25,60,72,80,87,96,101,110,115,122],[]⟩
abbrev c6:Cx:=⟨gx,137,3,[3,5,6,7,8,9,10,11,12,13,14,15,16,66],[]⟩
abbrev c7:Cx:=⟨gx,100,2,[2,4,5,6,7,8,9,10,11,12,13,14,15,23],[]⟩
abbrev c8:Cx:=⟨gx,179,1,[1,2,3,4,5,6,7,8,9,10,11,12,13,26,32,48,58,61,78,89,100,131,133,177],[]⟩
abbrev c9:Cx:=⟨gx,80,1,[1,2,3,4,5,6,7,8,9,10,19],[]⟩
abbrev rR:Cx:=⟨gx,53,2,[2,4,5,6,7,8,9,10,33,35,51],[]⟩
abbrev uY:Cx:=⟨gx,179,1,[1,3,5,7,9,11,13,14,15,16,17,18,19,21,23,25,26,27,28,30],[]⟩
abbrev c14:Cx:=⟨gx,12,2,[2,3,9],[]⟩
abbrev c15:Cx:=⟨gx,118,5,[5,8,9,10,11,12,13,14,15,17,19,44,45,46,47,51,81,115],[]⟩
abbrev c16:Cx:=⟨gx,2,1,[],[]⟩
abbrev Nk:Cx:=⟨gx,38,6,[10,16,30],[]⟩
abbrev c22:Cx:=⟨gx,8,2,[2,3,4],[]⟩
abbrev c23:Cx:=⟨gx,9,2,[2,3,4],[]⟩
abbrev c24:Cx:=⟨gx,65,4,[4,6,7,8,10,16,17,18,19,46,55,59],[]⟩
abbrev c25:Cx:=⟨gx,7,2,[2],[]⟩
abbrev c26:Cx:=⟨gx,69,2,[2,4,5,6,7,8,11,19,39,48],[]⟩
abbrev c28:Cx:=⟨gx,11,4,[4],[]⟩
abbrev c29:Cx:=⟨gx,6,2,[2,3],[]⟩
abbrev c30:Cx:=⟨gx,15,2,[2,3,9],[]⟩
abbrev c32:Cx:=⟨gx,21,3,[],[]⟩
abbrev c33:Cx:=⟨gx,33,2,[2,4,5,11,23],[]⟩
abbrev c34:Cx:=⟨gx,15,2,[2,3,9],[]⟩
abbrev c35:Cx:=⟨gx,9,1,[1,2,3],[]⟩
abbrev c36:Cx:=⟨gx,11,2,[2,3,4,5],[]⟩
abbrev c37:Cx:=⟨gx,6,2,[2,3],[]⟩
abbrev c38:Cx:=⟨gx,42,7,[7,9,11,12],[]⟩
abbrev c39:Cx:=⟨gx,25,4,[4,6,7,8],[]⟩
abbrev bi:Cx:=⟨gx,11,4,[9],[]⟩
abbrev c42:Cx:=⟨gx,47,3,[3,5,6,7,8,9,24,45],[]⟩
abbrev c43:Cx:=⟨gx,81,6,[6,7,9,10,11,12,13,14,15,22,29,38,39,40,41,63],[]⟩
abbrev Nm:Cx:=⟨gx,6,2,[3],[]⟩
abbrev c45:Cx:=⟨gx,107,3,[3,4,5,9,10,11,12,70,104],[]⟩
abbrev c46:Cx:=⟨gx,19,4,[12],[]⟩
abbrev c47:Cx:=⟨gx,21,5,[5,6,7,8,13],[]⟩
abbrev c48:Cx:=⟨gx,222,7,[7,8,9,11,12,13,15,16,18,19,21,22,23,25,26,27,31,32,33,34,56,64,67,68,69,70,77,78,79,80,97,105,106,107,108,111,112,113,114,124,155,163,164,165,166,185,191],[]⟩
abbrev c49:Cx:=⟨gx,11,2,[2,3,4],[]⟩
abbrev Nn:Cx:=⟨gx,22,6,[6,7,8,9,17],[]⟩
abbrev c51:Cx:=⟨gx,6,3,[],[]⟩
abbrev c52:Cx:=⟨gx,106,1,[1,2,3,4,5,6,10,13,14,15,16,63,79,94,105],[]⟩
abbrev c53:Cx:=⟨gx,30,2,[2,4,5,6,10,23],[]⟩
abbrev Np:Cx:=⟨gx,19,6,[],[]⟩
abbrev Nq:Cx:=⟨gx,14,3,[],[]⟩
abbrev c58:Cx:=⟨gx,26,3,[3,4,6,7,8],[]⟩
abbrev c59:Cx:=⟨gx,6,1,[1,2],[]⟩
abbrev bj:Cx:=⟨gx,11,4,[9],[]⟩
abbrev c61:Cx:=⟨gx,15,2,[2,3,4],[]⟩
abbrev c62:Cx:=⟨gx,16,2,[2,3,4],[]⟩
abbrev c63:Cx:=⟨gx,15,3,[],[]⟩
abbrev c64:Cx:=⟨gx,12,2,[2,3,4],[]⟩
abbrev c65:Cx:=⟨gx,12,3,[3,4,5,6,7],[]⟩
abbrev c66:Cx:=⟨gx,8,2,[2,3,4],[]⟩
abbrev Nr:Cx:=⟨gx,59,8,[8,9,13],[]⟩
abbrev c79:Cx:=⟨gx,18,5,[],[]⟩
abbrev c80:Cx:=⟨gx,23,5,[12],[]⟩
abbrev c81:Cx:=⟨gx,9,3,[],[]⟩
abbrev c82:Cx:=⟨gx,26,3,[3,4,5,6,7,8,14],[]⟩
abbrev c83:Cx:=⟨gx,7,5,[],[]⟩
abbrev c84:Cx:=⟨gx,9,5,[],[]⟩
abbrev c86:Cx:=⟨gx,30,3,[3,4,5,7,8,9,16,23],[]⟩
abbrev c87:Cx:=⟨gx,107,2,[2,3,4,5,6,8,9,10,11,12,13,14,15,16,17,18,19,20,24,31,33,34,35,36,42,55,56,57,58,93],[]⟩
abbrev c88:Cx:=⟨gx,31,6,[13,15,16,17],[]⟩
abbrev c89:Cx:=⟨gx,50,4,[4,5,6,7,8,15,25,32,38],[]⟩
abbrev c90:Cx:=⟨gx,87,2,[2,3,4,5,6,7,10,13,14,15,16,46,47,48,73,79],[]⟩
abbrev WY:Cx:=⟨gx,13,2,[2,3,9],[]⟩
abbrev c92:Cx:=⟨gx,230,5,[5,6,7,8,9,10,11,12,13,14,16,17,18,19,20,21,56,96,125,147,163,172,201],[]⟩
abbrev c95:Cx:=⟨gx,10,5,[],[]⟩
abbrev c96:Cx:=⟨gx,8,5,[],[]⟩
abbrev c97:Cx:=⟨gx,16,2,[2,3,4],[]⟩
abbrev c98:Cx:=⟨gx,19,6,[7,8,9,16],[]⟩
abbrev c99:Cx:=⟨gx,8,2,[2,3],[]⟩
abbrev bQV:Cx:=⟨gx,8,2,[2,4],[]⟩
abbrev bQW:Cx:=⟨gx,11,2,[2,3,4,5],[]⟩
abbrev bQX:Cx:=⟨gx,75,8,[8,10,12,13,15,22,29,39,40,41,42,49,63,64,65,66],[]⟩
abbrev bQY:Cx:=⟨gx,14,2,[2,4,6],[]⟩
abbrev bQZ:Cx:=⟨gx,17,2,[2,4,5,6,7],[]⟩
abbrev bQ0:Cx:=⟨gx,17,2,[2,3,4],[]⟩
abbrev Ns:Cx:=⟨gx,20,2,[6,19],[]⟩
abbrev bQ1:Cx:=⟨gx,137,17,[22,33,57],[]⟩
abbrev bQ2:Cx:=⟨gx,22,4,[4,5,6],[]⟩
abbrev bQ3:Cx:=⟨gx,9,5,[],[]⟩
abbrev bQ4:Cx:=⟨gx,8,2,[2,3],[]⟩
abbrev bQ5:Cx:=⟨gx,18,4,[4,5,6,7,8,9,15],[]⟩
abbrev Nv:Cx:=⟨gx,17,3,[3,4,5,6,7,8],[]⟩
abbrev bQ6:Cx:=⟨gx,8,5,[],[]⟩
abbrev bQ7:Cx:=⟨gx,9,5,[],[]⟩
abbrev bQ8:Cx:=⟨gx,26,3,[3,4,5,6,7,8,15],[]⟩
abbrev bQ9:Cx:=⟨gx,77,5,[5,7,9,10,11,12,13,14,15,16,17,18,24,42,50,68],[]⟩
abbrev cQa:Cx:=⟨gx,26,6,[10,12,13,14,24],[]⟩
abbrev cQb:Cx:=⟨gx,77,11,[47,66],[]⟩
abbrev cQc:Cx:=⟨gx,10,1,[1,2,3,7],[]⟩
abbrev Nw:Cx:=⟨gx,25,2,[2,3,4,5,6,7],[]⟩
abbrev Eh:Cx:=⟨gx,12,8,[],[]⟩
abbrev cQd:Cx:=⟨gx,47,7,[8,9,10,11,31],[]⟩
abbrev cQe:Cx:=⟨gx,28,1,[1,2,3,4,5,9,23],[]⟩
abbrev cQf:Cx:=⟨gx,45,9,[9,10,17,20,21,22,23,24,36],[]⟩
abbrev cQg:Cx:=⟨gx,16,5,[],[]⟩
abbrev cQh:Cx:=⟨gx,10,5,[],[]⟩
abbrev cQi:Cx:=⟨gx,34,11,[19,20,21,29],[]⟩
abbrev cQj:Cx:=⟨gx,72,9,[16,21,32,33,34,46],[]⟩
abbrev cQk:Cx:=⟨gx,20,3,[],[]⟩
abbrev zw:Cx:=⟨gx,17,5,[7,14],[]⟩
abbrev cQl:Cx:=⟨gx,6,1,[1,2],[]⟩
abbrev cQm:Cx:=⟨gx,29,7,[],[]⟩
abbrev cQn:Cx:=⟨gx,13,7,[],[]⟩
abbrev cQo:Cx:=⟨gx,32,4,[4,5,6,16,17,25],[]⟩
abbrev cQp:Cx:=⟨gx,16,2,[6],[]⟩
abbrev cQq:Cx:=⟨gx,29,4,[4,5,6,7],[]⟩
abbrev cQr:Cx:=⟨gx,56,7,[27,52],[]⟩
abbrev cQs:Cx:=⟨gx,16,4,[],[]⟩
abbrev cQt:Cx:=⟨gx,42,8,[8,9,13,25],[]⟩
abbrev cQu:Cx:=⟨gx,80,7,[7,8,31,37],[]⟩
abbrev cQv:Cx:=⟨gx,66,12,[13,15,20,36,41],[]⟩
abbrev cQw:Cx:=⟨gx,18,5,[],[]⟩
abbrev cQx:Cx:=⟨gx,9,5,[],[]⟩
abbrev cQy:Cx:=⟨gx,55,9,[9,10,11,18],[]⟩
abbrev cQz:Cx:=⟨gx,26,6,[10,12,13,14,24],[]⟩
abbrev cQA:Cx:=⟨gx,25,7,[10,11,16],[]⟩
abbrev cQB:Cx:=⟨gx,14,2,[2,4,6],[]⟩
abbrev cQC:Cx:=⟨gx,29,3,[3,6,7,12],[]⟩
abbrev cQD:Cx:=⟨gx,38,3,[3,4,5,6,11,18,26],[]⟩
abbrev cQE:Cx:=⟨gx,77,5,[5,6,7,9,19],[]⟩
abbrev cQF:Cx:=⟨gx,19,6,[7,8,9,16],[]⟩
abbrev Nx:Cx:=⟨gx,67,15,[16,24,26,31],[]⟩
abbrev cQG:Cx:=⟨gx,29,3,[3,6,7,12],[]⟩
abbrev cQH:Cx:=⟨gx,21,5,[],[]⟩
abbrev cQI:Cx:=⟨gx,19,6,[7,8,9,16],[]⟩
abbrev cQJ:Cx:=⟨gx,18,7,[],[]⟩
abbrev cQK:Cx:=⟨gx,64,12,[16,17,18,28,47,48,53,59],[]⟩
abbrev cQL:Cx:=⟨gx,8,3,[4],[]⟩
abbrev cQM:Cx:=⟨gx,4,1,[],[]⟩
abbrev Ny:Cx:=⟨gx,97,6,[6,7,8,9,10,11,12,13,14,15,28,39,46,64,65],[]⟩
abbrev cQN:Cx:=⟨gx,54,9,[9,10,11,14,30],[]⟩
abbrev cQO:Cx:=⟨gx,23,4,[7,21],[]⟩
abbrev cQP:Cx:=⟨gx,89,5,[5,6,7,17,32,42,52,62],[]⟩
abbrev cQQ:Cx:=⟨gx,63,3,[3,4,5,6,8,9,17,18,19,20,21,29,36,37,38,39,44,54,55,56,61],[]⟩
abbrev cQR:Cx:=⟨gx,75,10,[10,11,21,26,48,52,56,65],[]⟩
abbrev cQS:Cx:=⟨gx,24,5,[16,20],[]⟩
abbrev Nz:Cx:=⟨gx,25,11,[15],[]⟩
abbrev cQT:Cx:=⟨gx,6,2,[],[]⟩
abbrev cQU:Cx:=⟨gx,84,9,[10,18,23,32,49,50,55],[]⟩
abbrev cQV:Cx:=⟨gx,37,5,[5,6,12,21,31],[]⟩
abbrev cQW:Cx:=⟨gx,11,6,[],[]⟩
abbrev cQX:Cx:=⟨gx,23,8,[12],[]⟩
abbrev cQY:Cx:=⟨gx,13,4,[4,6,8],[]⟩
abbrev cQZ:Cx:=⟨gx,108,2,[2,3,4,5,6,7,10,15,16,17,18,23,24,34,45,59,78,98],[]⟩
abbrev cQ0:Cx:=⟨gx,8,3,[],[]⟩
abbrev cQ1:Cx:=⟨gx,9,1,[1,2],[]⟩
abbrev cQ2:Cx:=⟨gx,8,5,[],[]⟩
abbrev cQ3:Cx:=⟨gx,79,2,[2,4,5,6,50,66,69,78],[]⟩
abbrev cQ4:Cx:=⟨gx,8,5,[],[]⟩
abbrev cQ5:Cx:=⟨gx,29,3,[],[]⟩
abbrev cQ6:Cx:=⟨gx,27,3,[3,4,10],[]⟩
abbrev cQ7:Cx:=⟨gx,39,13,[18,28],[]⟩
abbrev cQ8:Cx:=⟨gx,69,2,[2,4,5,6,11,12,15,27,28,33,67],[]⟩
abbrev cQ9:Cx:=⟨gx,8,3,[3,4,6],[]⟩
abbrev NB:Cx:=⟨gx,17,5,[],[]⟩
abbrev dQa:Cx:=⟨gx,21,3,[3,4],[]⟩
abbrev dQb:Cx:=⟨gx,21,2,[2,3,4,5,9,16],[]⟩
abbrev dQc:Cx:=⟨gx,16,5,[7,12],[]⟩
abbrev dQd:Cx:=⟨gx,15,6,[9],[]⟩
abbrev dQe:Cx:=⟨gx,10,5,[],[]⟩
end
end Go.Proofs.YtjabbbcdgmlojaaGreatDoor
namespace Go.Proofs
open Go Go.RowKit
section
open Go.Shelf
def Tryz.lays156_ren:Go.Shelf.Ren:=⟨fun | 156=>102 | 165=>156 | 166=>56 | 169=>57 | 240=>106 | 241=>210 | 276=>159 | 277=>236 | n=>n,fun | 31=>37 | 9=>9 | 3=>3 | 4=>4 | 0=>0 | 20=>20 | 72=>109 | 76=>113 | 70=>107 | 37=>62 | 75=>112 | 127=>179 | 164=>240 | 5=>5 | 80=>115 | n=>n,fun | n=>n⟩
theorem mQ3:Go.Proofs.Lays.n156 Tryz.prog Tryz.lays156_ren:={
 mixed:=by kernel_rfl
 f156:=Tryz.func102.trans (congrArg some (by kernel_rfl))
 f165:=Tryz.func156.trans (congrArg some (by kernel_rfl))
 f166:=Tryz.func56.trans (congrArg some (by kernel_rfl))
 f169:=Tryz.func57.trans (congrArg some (by kernel_rfl))
 f240:=Tryz.func106.trans (congrArg some (by kernel_rfl))
 f241:=Tryz.func210.trans (congrArg some (by kernel_rfl))
 f276:=Tryz.func159.trans (congrArg some (by kernel_rfl))
 f277:=Tryz.func236.trans (congrArg some (by kernel_rfl))
 t0:=Tryz.underlying0
 a0:=Tryz.isAgg0
 z0:=Tryz.sizeOf0
 v0:=Tryz.zeroValue0
 t3:=Tryz.underlying3
 a3:=Tryz.isAgg3
 z3:=Tryz.sizeOf3
 v3:=Tryz.zeroValue3
 t4:=Tryz.underlying4
 a4:=Tryz.isAgg4
 z4:=Tryz.sizeOf4
 v4:=Tryz.zeroValue4
 t9:=Tryz.underlying9
 a9:=Tryz.isAgg9
 z9:=Tryz.sizeOf9
 v9:=Tryz.zeroValue9
 t20:=Tryz.underlying20
 a20:=Tryz.isAgg20
 z20:=Tryz.sizeOf20
 v20:=Tryz.zeroValue20
 t31:=Tryz.underlying37
 a31:=Tryz.isAgg37
 z31:=Tryz.sizeOf37
 v31:=Tryz.zeroValue37
 t37:=Tryz.underlying62
 a37:=Tryz.isAgg62
 z37:=Tryz.sizeOf62
 v37:=Tryz.zeroValue62
 t70:=Tryz.underlying107
 a70:=Tryz.isAgg107
 z70:=Tryz.sizeOf107
 v70:=Tryz.zeroValue107
 t72:=Tryz.underlying109
 a72:=Tryz.isAgg109
 z72:=Tryz.sizeOf109
 v72:=Tryz.zeroValue109
 t75:=Tryz.underlying112
 a75:=Tryz.isAgg112
 z75:=Tryz.sizeOf112
 v75:=Tryz.zeroValue112
 t76:=Tryz.underlying113
 a76:=Tryz.isAgg113
 z76:=Tryz.sizeOf113
 v76:=Tryz.zeroValue113
 t127:=Tryz.underlying179
 a127:=Tryz.isAgg179
 z127:=Tryz.sizeOf179
 v127:=Tryz.zeroValue179
 t164:=Tryz.underlying240
 a164:=Tryz.isAgg240
 z164:=Tryz.sizeOf240
 v164:=Tryz.zeroValue240}
theorem mQZ:Builder.Extra Tryz.prog Tryz.lays156_ren:={
 sizeBuilder:=by kernel_rfl
 liesBuilder:=by kernel_rfl
 t5:=Tryz.underlying5
 a5:=Tryz.isAgg5
 z5:=Tryz.sizeOf5
 v5:=Tryz.zeroValue5
 infoByte:=by kernel_rfl
 cellsByte:=by kernel_rfl
 sizeByte:=by kernel_rfl
 neB5:=by decide}
open Go.RowKit in
theorem Tryz.strings_Join (bk o c:Nat)(xs:List ByteArray)(sep:ByteArray)(w:World)(kQ4:∀(j:Nat) x,xs[j]? =some x->w.cell? ⟨bk,o+j,none⟩=some (.string x))(ji:bk<w.heap.size)(hN:xs.length<=140737488355328)(bN:xs.length<=c)(Xd:(Lib.join (xs.map (·.data.toList)) sep.data.toList).length<=140737488355328):
  Calls Tryz.prog 102 #[.slice (some ⟨bk,o,none⟩) xs.length c,.string sep] w λe w'=>e= .returned (.string ⟨(Lib.join (xs.map (·.data.toList)) sep.data.toList).toArray⟩)/\Below w.heap.size w w':=Any.strings_Join mQ3 mQZ bk o c xs sep w kQ4 ji hN bN Xd
def Tryz.lays137_ren:Go.Shelf.Ren:=⟨fun | 137=>94 | 217=>152 | 266=>207 | n=>n,fun | 9=>9 | 5=>5 | 3=>3 | n=>n,fun | n=>n⟩
theorem mQ5:Go.Proofs.Lays.n137 Tryz.prog Tryz.lays137_ren:={
 mixed:=by kernel_rfl
 f137:=Tryz.func94.trans (congrArg some (by kernel_rfl))
 f217:=Tryz.func152.trans (congrArg some (by kernel_rfl))
 f266:=Tryz.func207.trans (congrArg some (by kernel_rfl))
 t3:=Tryz.underlying3
 a3:=Tryz.isAgg3
 z3:=Tryz.sizeOf3
 v3:=Tryz.zeroValue3
 t5:=Tryz.underlying5
 a5:=Tryz.isAgg5
 z5:=Tryz.sizeOf5
 v5:=Tryz.zeroValue5
 t9:=Tryz.underlying9
 a9:=Tryz.isAgg9
 z9:=Tryz.sizeOf9
 v9:=Tryz.zeroValue9}
open Go.RowKit in
theorem Tryz.strings_IndexByte (s:ByteArray)(c:Int)(w:World):
  Calls Tryz.prog 94 #[.string s,.int .u8 c] w λe w'=>e= .returned (.int .i64 (Lib.indexByte s.data.toList c.toNat.toUInt8))/\w'=w:=Any.strings_IndexByte mQ5 s c w
def Tryz.lays219_ren:Go.Shelf.Ren:=⟨fun | 219=>232 | 217=>152 | 225=>247 | 224=>248 | 267=>249 | 266=>207 | 314=>259 | n=>n,fun | 9=>9 | 3=>3 | 4=>4 | 5=>5 | 46=>121 | 146=>320 | 51=>219 | n=>n,fun | 1=>0 | n=>n⟩
theorem mQ4:Go.Proofs.Lays.n219 Tryz.prog Tryz.lays219_ren:={
 mixed:=by kernel_rfl
 f217:=Tryz.func152.trans (congrArg some (by kernel_rfl))
 f219:=Tryz.func232.trans (congrArg some (by kernel_rfl))
 f224:=Tryz.func248.trans (congrArg some (by kernel_rfl))
 f225:=Tryz.func247.trans (congrArg some (by kernel_rfl))
 f266:=Tryz.func207.trans (congrArg some (by kernel_rfl))
 f267:=Tryz.func249.trans (congrArg some (by kernel_rfl))
 f314:=Tryz.func259.trans (congrArg some (by kernel_rfl))
 t3:=Tryz.underlying3
 a3:=Tryz.isAgg3
 z3:=Tryz.sizeOf3
 v3:=Tryz.zeroValue3
 t4:=Tryz.underlying4
 a4:=Tryz.isAgg4
 z4:=Tryz.sizeOf4
 v4:=Tryz.zeroValue4
 t5:=Tryz.underlying5
 a5:=Tryz.isAgg5
 z5:=Tryz.sizeOf5
 v5:=Tryz.zeroValue5
 t9:=Tryz.underlying9
 a9:=Tryz.isAgg9
 z9:=Tryz.sizeOf9
 v9:=Tryz.zeroValue9
 t46:=Tryz.underlying121
 a46:=Tryz.isAgg121
 z46:=Tryz.sizeOf121
 v46:=Tryz.zeroValue121
 t51:=Tryz.underlying219
 a51:=Tryz.isAgg219
 z51:=Tryz.sizeOf219
 v51:=Tryz.zeroValue219
 t146:=Tryz.underlying320
 a146:=Tryz.isAgg320
 z146:=Tryz.sizeOf320
 v146:=Tryz.zeroValue320
 g1:=by kernel_rfl}
open Go.RowKit Go.Lib in
theorem Tryz.stringslite_Index_one (s:ByteArray)(c:UInt8)(w:World):
  Calls Tryz.prog 232 #[.string s,.string ⟨#[c]⟩] w λe w'=>e= .returned (.int .i64 (Lib.indexByte s.data.toList c))/\w'=w:=Any.stringslite_Index_one mQ4 s c w
def Tryz.lays138_ren:Go.Shelf.Ren:=⟨fun | 138=>204 | 195=>233 | 218=>234 | 143=>209 | 219=>232 | 217=>152 | 225=>247 | 224=>248 | 267=>249 | 266=>207 | 314=>259 | n=>n,fun | 9=>9 | 3=>3 | 4=>4 | 5=>5 | 0=>0 | 46=>121 | 146=>320 | 51=>219 | n=>n,fun | 1=>0 | n=>n⟩
theorem mQ6:Go.Proofs.Lays.n138 Tryz.prog Tryz.lays138_ren:={
 mixed:=by kernel_rfl
 f138:=Tryz.func204.trans (congrArg some (by kernel_rfl))
 f143:=Tryz.func209.trans (congrArg some (by kernel_rfl))
 f195:=Tryz.func233.trans (congrArg some (by kernel_rfl))
 f217:=Tryz.func152.trans (congrArg some (by kernel_rfl))
 f218:=Tryz.func234.trans (congrArg some (by kernel_rfl))
 f219:=Tryz.func232.trans (congrArg some (by kernel_rfl))
 f224:=Tryz.func248.trans (congrArg some (by kernel_rfl))
 f225:=Tryz.func247.trans (congrArg some (by kernel_rfl))
 f266:=Tryz.func207.trans (congrArg some (by kernel_rfl))
 f267:=Tryz.func249.trans (congrArg some (by kernel_rfl))
 f314:=Tryz.func259.trans (congrArg some (by kernel_rfl))
 t0:=Tryz.underlying0
 a0:=Tryz.isAgg0
 z0:=Tryz.sizeOf0
 v0:=Tryz.zeroValue0
 t3:=Tryz.underlying3
 a3:=Tryz.isAgg3
 z3:=Tryz.sizeOf3
 v3:=Tryz.zeroValue3
 t4:=Tryz.underlying4
 a4:=Tryz.isAgg4
 z4:=Tryz.sizeOf4
 v4:=Tryz.zeroValue4
 t5:=Tryz.underlying5
 a5:=Tryz.isAgg5
 z5:=Tryz.sizeOf5
 v5:=Tryz.zeroValue5
 t9:=Tryz.underlying9
 a9:=Tryz.isAgg9
 z9:=Tryz.sizeOf9
 v9:=Tryz.zeroValue9
 t46:=Tryz.underlying121
 a46:=Tryz.isAgg121
 z46:=Tryz.sizeOf121
 v46:=Tryz.zeroValue121
 t51:=Tryz.underlying219
 a51:=Tryz.isAgg219
 z51:=Tryz.sizeOf219
 v51:=Tryz.zeroValue219
 t146:=Tryz.underlying320
 a146:=Tryz.isAgg320
 z146:=Tryz.sizeOf320
 v146:=Tryz.zeroValue320
 g1:=by kernel_rfl}
open Go.RowKit Go.Lib in
theorem Tryz.strings_Count_one (s:ByteArray)(c:UInt8)(w:World):
  Calls Tryz.prog 204 #[.string s,.string ⟨#[c]⟩] w λe w'=>e= .returned (.int .i64 (Lib.countByte s.data.toList c))/\w'=w:=Any.strings_Count_one mQ6 s c w
def Tryz.lays149_ren:Go.Shelf.Ren:=⟨fun | 149=>93 | 222=>151 | n=>n,fun | 9=>9 | 5=>5 | 3=>3 | 4=>4 | n=>n,fun | n=>n⟩
theorem mQ8:Go.Proofs.Lays.n149 Tryz.prog Tryz.lays149_ren:={
 mixed:=by kernel_rfl
 f149:=Tryz.func93.trans (congrArg some (by kernel_rfl))
 f222:=Tryz.func151.trans (congrArg some (by kernel_rfl))
 t3:=Tryz.underlying3
 a3:=Tryz.isAgg3
 z3:=Tryz.sizeOf3
 v3:=Tryz.zeroValue3
 t4:=Tryz.underlying4
 a4:=Tryz.isAgg4
 z4:=Tryz.sizeOf4
 v4:=Tryz.zeroValue4
 t5:=Tryz.underlying5
 a5:=Tryz.isAgg5
 z5:=Tryz.sizeOf5
 v5:=Tryz.zeroValue5
 t9:=Tryz.underlying9
 a9:=Tryz.isAgg9
 z9:=Tryz.sizeOf9
 v9:=Tryz.zeroValue9}
open Go.RowKit Go.Lib in
theorem Tryz.strings_LastIndexByte (s:ByteArray)(c:Int)(hs:s.size<4611686018427387904)(w:World):
  Calls Tryz.prog 93 #[.string s,.int .u8 c] w λe w'=>e= .returned (.int .i64 (Lib.lastIndexByte s c))/\w'=w:=Any.strings_LastIndexByte mQ8 s c hs w
def Tryz.lays315_ren:Go.Shelf.Ren:=⟨fun | 315=>244 | n=>n,fun | 9=>9 | 40=>294 | 4=>4 | 3=>3 | 0=>0 | 21=>21 | n=>n,fun | n=>n⟩
theorem mQ7:Go.Proofs.Lays.n315 Tryz.prog Tryz.lays315_ren:={
 mixed:=by kernel_rfl
 f315:=Tryz.func244.trans (congrArg some (by kernel_rfl))
 t0:=Tryz.underlying0
 a0:=Tryz.isAgg0
 z0:=Tryz.sizeOf0
 v0:=Tryz.zeroValue0
 t3:=Tryz.underlying3
 a3:=Tryz.isAgg3
 z3:=Tryz.sizeOf3
 v3:=Tryz.zeroValue3
 t4:=Tryz.underlying4
 a4:=Tryz.isAgg4
 z4:=Tryz.sizeOf4
 v4:=Tryz.zeroValue4
 t9:=Tryz.underlying9
 a9:=Tryz.isAgg9
 z9:=Tryz.sizeOf9
 v9:=Tryz.zeroValue9
 t21:=Tryz.underlying21
 a21:=Tryz.isAgg21
 z21:=Tryz.sizeOf21
 v21:=Tryz.zeroValue21
 t40:=Tryz.underlying294
 a40:=Tryz.isAgg294
 z40:=Tryz.sizeOf294
 v40:=Tryz.zeroValue294}
open Go.RowKit Go.Lib in
theorem Tryz.strings_indexFunc (g:Nat)(lb:Array Value)(eg:∀args w,(callFunc g args).run Tryz.prog w= .ok (.enter g args) w)(p:Nat->Bool)(truth:Bool)(s:ByteArray)(w:World)(hp:PredAt Tryz.prog g lb encR p w):
  Calls Tryz.prog 244 #[.string s,.func (.func g) #[] lb,.bool truth] w λe w'=>e= .returned (.int .i64 (Lib.idxFunc p truth s))/\Below w.heap.size w w':=Any.strings_indexFunc mQ7 g lb eg p truth s w hp
end
end Go.Proofs
namespace Go.Proofs.YtjabbbcdgmlojaaGreatDoor
open Go Go.RowKit
section
structure Mod (S:Nat->Prop) (w w':World):Prop where
 os:w'.os=w.os
 tape:w'.tape=w.tape
 output:w'.output=w.output
 size:w.heap.size<=w'.heap.size
 block:∀k,k<w.heap.size->¬S k->w'.heap[k]? =w.heap[k]?
theorem Mod.refl (S:Nat->Prop)(w:World):Mod S w w:=⟨rfl,rfl,rfl,QC _,λ_ _ _=>rfl⟩
theorem Mod.of_ext {w w':World}(S:Nat->Prop)(h:Ext w w'):Mod S w w':=⟨h.os,h.tape,h.output,h.size,λk hk _=>h.block k hk (by simp)⟩
theorem mQW {w w':World}{S:Nat->Prop}{g:Nat}(h:w.grownBy w' (some g))(hS:S g):Mod S w w':=⟨h.os,h.tape,h.output,h.size,λk hk hn=>h.block k hk (λe=>by cases e;exact hn hS)⟩
theorem Mod.trans {S S':Nat->Prop}{a b c:World}(h:Mod S a b)(k:Mod S' b c)(hs:∀i,S' i->S i∨a.heap.size<=i):Mod S a c:=
 ⟨k.os.trans h.os,k.tape.trans h.tape,k.output.trans h.output,Zf h.size k.size,λi hi hn=>(k.block i (VQ hi h.size) (λhS=>by rcases hs i hS with h | h;exact hn h;omega)).trans (h.block i hi hn)⟩
theorem Mod.mono {S S':Nat->Prop}{a b:World}(h:Mod S a b)(hs:∀i,S i->S' i∨a.heap.size<=i):Mod S' a b:=
 ⟨h.os,h.tape,h.output,h.size,λi hi hn=>h.block i hi (λhS=>by rcases hs i hS with h | h;exact hn h;omega)⟩
theorem Mod.ext {S:Nat->Prop}{w0 w w':World}(h:Mod S w w')(k:Ext w0 w)(hs:∀i,S i->w0.heap.size<=i):Ext w0 w':=
 ⟨h.os.trans k.os,h.tape.trans k.tape,h.output.trans k.output,Zf k.size h.size,λi hi _=>(h.block i (VQ hi k.size) (λhS=>by have:=hs i hS;omega)).trans (k.block i hi (by simp))⟩
theorem Blk.mod {S:Nat->Prop}{w w':World}{g t:Nat}{cs:List Value}(h:Blk w g t cs)(k:Mod S w w')(hn:¬S g):Blk w' g t cs:=(k.block g h.lt hn).trans h
theorem Mod.grown {S:Nat->Prop}{w w':World}(h:Mod S w w'){row:Option Nat}(hs:∀i,S i->row=some i):w.grownBy w' row:=⟨h.os,h.tape,h.output,h.size,λk hk hn=>h.block k hk (λhS=>hn (hs k hS).symm)⟩
def Qj (A:Option Addr):Nat->Prop:=λk=>∃ad,A=some ad/\ad.block=k
theorem dQf {A:Option Addr}{n c k:Nat}(h:(Value.slice A n c).ownBlock=some k):Qj A k:=by
 cases A with
 | none=>simp[Value.ownBlock] at h
 | some ad=>exact⟨ad,rfl,by simpa [Value.ownBlock] using h⟩
theorem mQ2 {w w':World}{A:Option Addr}{n c:Nat}(h:w.grownBy w' (Value.slice A n c).ownBlock):Mod (Qj A) w w':=
 ⟨h.os,h.tape,h.output,h.size,λk hk hn=>h.block k hk (λe=>hn (dQf e.symm))⟩
theorem Own.rows {w:World}{base e sz n c:Nat}{A:Option Addr}{cs:List Value}(h:Own w base e sz A n c cs):∀k,Qj A k->base<=k/\k<w.heap.size:=by
 rintro k ⟨ad,rfl,rfl⟩;have h:=h.row;rcases h.2 with⟨hv,_⟩ | ⟨g,cap,ZD,hv,hb,hg,_⟩
 ·cases hv
 ·cases hv;exact⟨hb,(eY.1 hg).1⟩
theorem Own.mod {S:Nat->Prop}{w w':World}{base e sz n c:Nat}{A:Option Addr}{cs:List Value}(h:Own w base e sz A n c cs)(k:Mod S w w')(hn:∀i,Qj A i->¬S i):Own w' base e sz A n c cs:=by
 have hr:=h.row;refine⟨⟨hr.1,?_⟩⟩;rcases hr.2 with⟨hv,hx⟩ | ⟨g,cap,ZD,hv,hb,hg,IX⟩
 ·exact .inl ⟨hv,hx⟩
 ·refine .inr ⟨g,cap,ZD,hv,hb,(k.block g (eY.1 hg).1 (hn g ?_)).trans hg,IX⟩;cases hv;exact⟨_,rfl,rfl⟩
def Moved (w:World)(A A':Option Addr):Prop:=∀ad,A'=some ad->A=some ad∨w.heap.size<=ad.block
theorem Moved.refl (w:World)(A:Option Addr):Moved w A A:=λ_ h=>.inl h
theorem Moved.rows {w:World}{A A':Option Addr}(h:Moved w A A'):∀k,Qj A' k->Qj A k∨w.heap.size<=k:=by
 rintro k ⟨ad,rfl,rfl⟩;rcases h ad rfl with h | h
 ·exact .inl ⟨ad,h,rfl⟩
 ·exact .inr h
theorem Moved.trans {w w1:World}{A B C:Option Addr}(h:Moved w A B)(k:Moved w1 B C)(hs:w.heap.size<=w1.heap.size):Moved w A C:=λad e=>by
 rcases k ad e with h1 | h1
 ·exact h ad h1
 ·exact .inr (by omega)
theorem Moved.back {w w1:World}{A B:Option Addr}(h:Moved w1 A B)(hs:w.heap.size<=w1.heap.size):Moved w A B:=(Moved.refl w A).trans h hs
theorem JB {c:Cx}(hg:c.g.Ok){o:Oper}{S:Env}{w:World}{K:Env->World->Prop}{Q:Zg}{t t2 e sz:Nat}{x y:Operand}{A B:Option Addr}{n cp:Nat}{m c2:Nat}{xs ys:List Value}{base:Nat}{r re r2:TyRow}
  (ho:o.op= .call ⟨.builtin .append, #[x,y], #[t,t2]⟩) (hr:QU c.g.tys t=some r) (hd:r.d= .slice e) (X7:QU c.g.tys e=some re) (hs:re.sz=sz) (Gp:0<sz) (jh:re.z.cells.size=sz) (ah:QU c.g.tys t2=some r2) (aj:∃e2,r2.d= .slice e2)
  (hx:S.ev x=some (.slice A n cp)) (hy:S.ev y=some (.slice B m c2)) (YW:Own w base e sz A n cp xs) (fN:Sl w sz B m c2 ys) (fO:∀u∈ys,Jz u=true)
  (gC:n+m<=maxLen) (bK:(n+m)*re.by_<=140737488355328) (qM:base<=w.heap.size)
  (k:∀A' c' w1,Mod (Qj A) w w1->Own w1 base e sz A' (n+m) c' (xs++ys)->Moved w A A'->Xk c S o.dst (.v (.slice A' (n+m) c')) (λS=>K S w1)):X8 c o S w K Q:=
 bQM hg ho hr hd X7 hs Gp jh ah aj hx hy YW fN fO gC bK qM (λA' c' w1 h1 h2 h3=>k A' c' w1 (mQ2 h1) h2 h3)
theorem NC {c:Cx}(hg:c.g.Ok){o:Oper}{S:Env}{w:World}{K:Env->World->Prop}{Q:Zg}{t t2 e:Nat}{x y:Operand}{A:Option Addr}{n cp:Nat}{s:ByteArray}{xs:List Value}{base:Nat}{r re r2:TyRow}
  (ho:o.op= .call ⟨.builtin .append, #[x,y], #[t,t2]⟩) (hr:QU c.g.tys t=some r) (hd:r.d= .slice e) (X7:QU c.g.tys e=some re) (hs:re.sz=1) (jh:re.z= .int .u8 0) (C3:re.by_=1) (ah:QU c.g.tys t2=some r2) (aj:r2.d= .string)
  (hx:S.ev x=some (.slice A n cp)) (hy:S.ev y=some (.string s)) (YW:Own w base e 1 A n cp xs)
  (gC:n+s.size<=140737488355328) (qM:base<=w.heap.size)
  (k:∀A' c' w1,Mod (Qj A) w w1->Own w1 base e 1 A' (n+s.size) c' (xs++Lib.strCells s)->Moved w A A'->Xk c S o.dst (.v (.slice A' (n+s.size) c')) (λS=>K S w1)):X8 c o S w K Q:=
 bQO hg ho hr hd X7 hs jh C3 ah aj hx hy YW gC qM (λA' c' w1 h1 h2 h3=>k A' c' w1 (mQ2 h1) h2 h3)
theorem KE {w:World}{g t:Nat}{cs:List Value}{v:Value}{K:World->Prop}(h:Blk w g t cs)(hj:0<cs.length)(k:∀w1,Mod (·=g) w w1->Blk w1 g t (cs.set 0 v)->K w1):gc w ⟨g,0,none⟩ v K:=
 bQK h hj (λw1 h1 h2=>k w1 (mQW h1 rfl) h2)
theorem XP {w:World}{g t:Nat}{cs:List Value}{j:Nat}{v:Value}{K:World->Prop}(h:Blk w g t cs)(hj:j<cs.length)(k:∀w1,Mod (·=g) w w1->Blk w1 g t (cs.set j v)->K w1):gc w ((⟨g,0,none⟩:Addr).add j) v K:=
 zm h hj (λw1 h1 h2=>k w1 (mQW h1 rfl) h2)
theorem sc {vs:List Value}(h:vs.all Jz=true):∀u∈vs,Jz u=true:=by simpa using h
theorem X9 {w w5 w6:World}{t:Nat}{cs:List Value}(Qv:Ext w w5)(_:Blk w5 w.heap.size t cs)(WE:w5.grownBy w6 (some w.heap.size)):Ext w w6:=
 (Ext.refl w).own (bQv (Qv.grown (some w.heap.size)) WE) (QC _)
theorem ND (s:ByteArray):Lib.strCells s=Jt (YK s):=by
 simp only[Lib.strCells,Jt,YK,yF];rfl
structure Bld (w:World) (base g t:Nat) (rest:List Value) (A:Option Addr) (c:Nat) (out:List Nat):Prop where
 g1:g<base
 top:base<=w.heap.size
 blk:∃pa,(pa= .pointer none∨pa= .pointer (some ⟨g,0,none⟩))/\Blk w g t (pa:: .slice A out.length c::rest)
 own:Own w base 5 1 A out.length c (Jt out)
theorem Bld.grow {w w':World}{base g t:Nat}{rest:List Value}{A:Option Addr}{c:Nat}{out:List Nat}(h:Bld w base g t rest A c out)(k:Ext w w'):Bld w' base g t rest A c out:=
 ⟨h.g1,Zf h.top k.size,let ⟨pa,h1,h2⟩:=h.blk;⟨pa,h1,h2.ext k⟩,h.own.ext k⟩
def BldS (g:Nat)(A:Option Addr):Nat->Prop:=λk=>k=g∨Qj A k
theorem BldS.moved {w:World}{g:Nat}{A A':Option Addr}(h:Moved w A A'):∀k,BldS g A' k->BldS g A k∨w.heap.size<=k:=by
 rintro k (rfl | hk)
 ·exact .inl (.inl rfl)
 ·rcases h.rows k hk with h | h
  ·exact .inl (.inr h)
  ·exact .inr h
def o7 (t m:Nat):Prop:=liesAt Tryz.prog Tryz.prog.depth t (m/Tryz.prog.cellsOf t) 0 109 1=true
theorem Blk.shape {w:World}{g t:Nat}{cs:List Value}(h:Blk w g t cs):w.shape? g=some (t,cs.length):=by
 unfold World.shape?;rw[h];simp
theorem bm:gx.P=Tryz.prog:=rfl
theorem NE:∃j,Tryz.prog.info? 109=some j/\j.size≠0:=by
 obtain⟨_,i,hi,hs,_⟩:=Qa.row (t:=109) rfl;exact⟨i,hi,by rw[hs];decide⟩
theorem Ei (g t:Nat)(pa sl:Value)(rest:List Value)(w:World)(hl:o7 t (rest.length+2))(hp:pa= .pointer none∨pa= .pointer (some ⟨g,0,none⟩))(hB:Blk w g t (pa::sl::rest)):
  Fn Tryz.prog 106 [.pointer (some ⟨g,0,none⟩)] w (λ_ w'=>Mod (·=g) w w'/\Blk w' g t (.pointer (some ⟨g,0,none⟩)::sl::rest)):=by
 obtain⟨j,hj,mR⟩:=NE;refine QD (c:=Ns) Qa Tryz.func106 rfl rfl rfl ?_;have eO:=hB.shape;have ucs:=Tryz.underlying107;have uus:=Tryz.underlying240;rcases hp with rfl | rfl
 ·refine Qp hB rfl ?_;refine Xa rfl ?_;refine Js (w':=w) (v:=.pointer (some ⟨g,0,none⟩)) (λa hf=>?_) ?_
  ·have e1:=hf.ev (show Env.ev _ (.tmp 8)=some (.pointer (some ⟨g,0,none⟩)) from rfl);have:=Lib.run_to_unsafe (P:=Tryz.prog) (src:=107) (dst:=240) w ⟨g,0,none⟩ ucs uus hj mR eO (by simp);simp only[execOp,e1];simp[bm,this]
  refine Js (w':=w) (v:=.pointer (some ⟨g,0,none⟩)) (λa hf=>?_) ?_
  ·have e1:=hf.ev (show Env.ev _ (.tmp 9)=some (.pointer (some ⟨g,0,none⟩)) from rfl);have:=run_callFunc_extern (P:=Tryz.prog) (e:=Extern.AbiNoEscape.same) Tryz.func159 (by kernel_rfl) (by kernel_rfl) (by kernel_rfl) (by kernel_rfl) #[.pointer (some ⟨g,0,none⟩)] w;rw[Lib.run_noEscape] at this;simp only[execOp,resolve,invoke];simp[Deferred.ofValue,Act.eval] at e1 ⊢;simp[e1,bm,this]
  refine Js (w':=w) (v:=.pointer (some ⟨g,0,none⟩)) (λa hf=>?_) ?_
  ·have e1:=hf.ev (show Env.ev _ (.tmp 10)=some (.pointer (some ⟨g,0,none⟩)) from rfl);have:=Lib.run_from_unsafe (P:=Tryz.prog) (src:=240) (dst:=107) (u:=109) w ⟨g,0,none⟩ uus ucs hj eO (by simpa [o7] using hl);simp only[execOp,e1];simp[bm,this]
  refine XP hB (by simp) (λw1 hm Qh=>?_);exact⟨hm,Qh⟩
 ·refine Qp hB rfl ?_;refine Q5 rfl ?_;refine Qp hB rfl ?_;refine Js (w':=w) (v:=.bool false) (λa hf=>?_) ?_
  ·have e1:=hf.ev (show Env.ev _ (.tmp 17)=some (.pointer (some ⟨g,0,none⟩)) from rfl);have e2:=hf.ev (show Env.ev _ (.tmp 18)=some (.pointer (some ⟨g,0,none⟩)) from rfl);have:=Lib.run_neq_ptr_same (P:=Tryz.prog) (tp:=107) w ⟨g,0,none⟩ ucs hj;simp only[execOp,e1,e2,eqGuard];simp[bm,this]
  refine Q5 rfl ?_;exact⟨Mod.refl _ _,hB⟩
theorem iG (base g t:Nat)(rest:List Value)(A:Option Addr)(c:Nat)(out:List Nat)(s:ByteArray)(w:World)(hl:o7 t (rest.length+2))(hb:Bld w base g t rest A c out)(hs:out.length+s.size<=140737488355328):
  Fn Tryz.prog 56 [.pointer (some ⟨g,0,none⟩),.string s] w (λ_ w'=>∃A' c',Bld w' base g t rest A' c' (out++YK s)/\Mod (BldS g A) w w'/\Moved w A A'):=by
 refine QD (c:=Np) Qa Tryz.func56 rfl rfl rfl ?_;obtain⟨pa,ZP,hB⟩:=hb.blk;refine call (Ei g t pa _ rest w hl ZP hB) ?_;rintro v w1 ⟨Zo,Qh⟩;have VN:=hb.own.rows;have kH:=hb.g1;have hn:¬Qj A g:=λh=>by have:=(VN g h).1;omega
 have pS:=hb.own.mod Zo (λk hk e=>hn (e▸hk));refine Qp Qh rfl ?_;refine NC Qa rfl rfl rfl rfl rfl rfl rfl rfl rfl rfl rfl pS hs (by have:=Zo.size;have:=hb.top;omega) ?_;intro A' c' w2 XQ di mS;refine XP (Qh.mod XQ hn) (by simp) (λw3 XD Qt=>?_);have Xd:(out++YK s).length=out.length+s.size:=by rw[Qu,uU]
 have pT:=di.rows;refine⟨A',c',⟨kH,by have:=Zo.size;have:=XQ.size;have:=XD.size;have:=hb.top;omega,⟨_,.inr rfl,by rw[Xd];exact Qt⟩,?_⟩,?_,mS.back Zo.size⟩
 ·rw[Xd,zq,<-ND];exact di.mod XD (λk hk e=>by have:=(pT k hk).1;omega)
 ·exact((Zo.mono (S':=BldS g A) (λi hi=>.inl (.inl hi))).trans XQ (λi hi=>.inl (.inr hi))).trans XD (λi hi=>.inl (.inl hi))
theorem Ej (base g t:Nat)(rest:List Value)(A:Option Addr)(c:Nat)(out:List Nat)(b:Nat)(w:World)(hl:o7 t (rest.length+2))(hb:Bld w base g t rest A c out)(hs:out.length+1<=140737488355328):
  Fn Tryz.prog 225 [.pointer (some ⟨g,0,none⟩),.int .u8 b] w (λ_ w'=>∃A' c',Bld w' base g t rest A' c' (out++ [b])/\Mod (BldS g A) w w'/\Moved w A A'):=by
 refine QD (c:=NB) Qa Tryz.func225 rfl rfl rfl ?_;obtain⟨pa,ZP,hB⟩:=hb.blk;refine call (Ei g t pa _ rest w hl ZP hB) ?_;rintro v w1 ⟨Zo,Qh⟩;have VN:=hb.own.rows;have kH:=hb.g1;have lv:=hb.top;have hn:¬Qj A g:=λh=>by have:=(VN g h).1;omega
 have pS:=hb.own.mod Zo (λk hk e=>hn (e▸hk));refine Qp Qh rfl ?_;refine Na Qa rfl rfl rfl rfl rfl rfl rfl rfl ?_;intro w7 Q2 jQc Q6;have kI:Sl w7 1 (some ⟨w1.heap.size,0,none⟩) 1 1 [.int .u8 (b:Int)]:=Sl.own' Q6 rfl (by simp[maxLen]);have jQd:=Zo.size;have jQe:=Q2.size;refine JB Qa rfl rfl rfl rfl rfl (by decide) rfl rfl ⟨_,rfl⟩ rfl rfl (pS.ext Q2) kI (by simp[Jz]) (by unfold maxLen;omega) (by show _*1<=_;omega) (by omega) ?_;intro A' c' w2 XQ di mS;refine XP ((Qh.ext Q2).mod XQ hn) (by simp) (λw3 XD Qt=>?_);have pT:=di.rows;refine⟨A',c',⟨kH,by have:=XQ.size;have:=XD.size;omega,⟨_,.inr rfl,by rw[Qu];exact Qt⟩,?_⟩,?_,mS.back (by omega)⟩
 ·rw[Qu,zq];exact di.mod XD (λk hk e=>by have:=(pT k hk).1;omega)
 ·exact(((Zo.mono (S':=BldS g A) (λi hi=>.inl (.inl hi))).trans (Mod.of_ext (λ_=>False) Q2) (λi hi=>hi.elim)).trans XQ (λi hi=>.inl (.inr hi))).trans XD (λi hi=>.inl (.inl hi))
theorem NF (w:World)(g n:Nat){S:Nat->Prop}(h:S g):Mod S w (w.freeze ⟨g,0,none⟩ n):=by
 unfold World.freeze;split
 ·exact Mod.refl _ _
 ·refine⟨rfl,rfl,rfl,by simp,λk hk hn=>?_⟩;simp only[Array.getElem?_modify];rw[if_neg (λ(e:g=k)=>hn (e▸h))]
theorem dQg (base g t:Nat)(rest:List Value)(A:Option Addr)(c:Nat)(out:List Nat)(w:World)(hb:Bld w base g t rest A c out)(h8:∀x∈out,x<256)(hs:out.length<=140737488355328):
  Fn Tryz.prog 57 [.pointer (some ⟨g,0,none⟩)] w (λv w'=>v= .string (Qe out)/\Mod (Qj A) w w'):=by
 obtain⟨pa,ZP,hB⟩:=hb.blk;refine QD (c:=Nq) Qa Tryz.func57 rfl rfl rfl ?_;have Xd:(Jt out).length=out.length:=uT out;refine XC Qa (Ext w) 10 [(true,0),(true,1),(true,2),(true,3),(true,5),(true,6),(true,7),(true,8),(true,9),(false,4)] (by kernel_rfl) (Ext.drew w) ?_;refine QH (v:=.slice A out.length c) (λw' Qb=>by rw[(hB.ext Qb).cell];rfl) ?_;refine QH (v:=.slice A out.length c) (λw' Qb=>by rw[(hB.ext Qb).cell];rfl) ?_;have Gq:out.length=0->Value.string ByteArray.empty=Value.string (Qe out):=λh0=>by
  have:out=[]:=aA h0;subst this;rfl
 by_cases h0:out.length=0
 ·have key:∃p w1,(Builtin.unsafeSliceData_ #[62] 179 #[.slice A out.length c]).run Tryz.prog w.drew= .ok (.pointer p) w1/\Ext w w1:=by
   rcases hb.own.row.2 with⟨hv,_⟩ | ⟨g',cap,ZD,hv,hb',Vw,_⟩
   ·simp only[Value.slice.injEq] at hv;obtain⟨rfl,_,rfl⟩:=hv;exact⟨none,w.drew,Lib.run_unsafeSliceData_nil _ _ _ _ _,Ext.drew w⟩
   ·simp only[Value.slice.injEq] at hv;obtain⟨rfl,_,rfl⟩:=hv;by_cases wj:c=0
    ·subst wj;have eO:w.drew.shape? g'=some (5,ZD.size):=by
      unfold World.shape?;rw[show w.drew.heap[g']? =_ from Vw]
     exact⟨_,_,Lib.run_unsafeSliceData_zero (P:=Tryz.prog) w.drew _ _ 5 Tryz.underlying179 ⟨g',0,none⟩ _ _ eO,(Ext.drew w).trans (Ext.alloc _ _)⟩
    ·exact⟨_,w.drew,Lib.run_unsafeSliceData_row (P:=Tryz.prog) w.drew _ _ ⟨g',0,none⟩ _ _ wj,Ext.drew w⟩
  obtain⟨p,w1,Z9,Qd⟩:=key;refine Js (w':=w1) (v:=.pointer p) (λa hf=>?_) ⟨Qd,?_⟩
  ·have e1:=hf.ev (show Env.ev _ (.tmp 6)=some (.slice A out.length c) from rfl);simp only[execOp,resolve,invoke,builtin];simp[bm,e1,Z9]
  refine Js (w':=w1) (v:=.string ByteArray.empty) (λa hf=>?_) ?_
  ·have e1:=hf.ev (show Env.ev _ (.tmp 7)=some (.pointer p) from rfl);have e2:=hf.ev (show Env.ev _ (.tmp 12)=some (.int .i64 out.length) from rfl);have:=Lib.run_unsafeString_none (P:=Tryz.prog) w1 179 3 9 p;rw[h0] at e2;simp only[execOp,resolve,invoke,builtin];simp[bm,e1,e2];rw[this]<;>rfl
  exact⟨Gq h0,Mod.of_ext _ Qd⟩
 ·obtain⟨g',sp,rfl,hb',VM,cE⟩:=hb.own.blk (by omega);have ZO:=hb.own.sl.le;refine Js (w':=w.drew) (v:=.pointer (some ⟨g',0,none⟩)) (λa hf=>?_) ⟨Ext.drew w,?_⟩
  ·have e1:=hf.ev (show Env.ev _ (.tmp 6)=some (.slice (some ⟨g',0,none⟩) out.length c) from rfl);have:=Lib.run_unsafeSliceData_row (P:=Tryz.prog) w.drew #[62] 179 ⟨g',0,none⟩ out.length c (by omega);simp only[execOp,resolve,invoke,builtin];simp[bm,e1,this]
  refine Js (w':=w.drew.freeze ⟨g',0,none⟩ out.length) (v:=.string (Qe out)) (λa hf=>?_) ?_
  ·have e1:=hf.ev (show Env.ev _ (.tmp 7)=some (.pointer (some ⟨g',0,none⟩)) from rfl);have e2:=hf.ev (show Env.ev _ (.tmp 12)=some (.int .i64 out.length) from rfl);have eO:w.drew.shape? g'=some (5,(Jt out++sp).length):=(VM.ext (Ext.drew w)).shape;have J3:(out.map UInt8.ofNat).length=out.length:=by simp
   have:=Lib.run_unsafeString_row (P:=Tryz.prog) w.drew 179 3 9 5 Tryz.underlying179 (by kernel_rfl) g' _ eO (out.map UInt8.ofNat) (by intro e;apply h0;rw[<-J3,e];rfl) (by simp[uT]) (by rw[J3];omega) (λj x hj=>by
    rw[(VM.ext (Ext.drew w)).cell];simp only[VR,Dz] at hj;obtain⟨y,hy,rfl⟩:=hj;have lw:j<out.length:=(Z0.1 hy).1;rw[Wh (by rw[Xd];exact lw),Ec hy];have:=h8 y (QO hy);simp[iq this])
   rw[J3] at this;simp only[execOp,resolve,invoke,builtin];simp[bm,e1,e2];rw[this]<;>rfl
  exact⟨rfl,(Mod.of_ext (Qj _) (Ext.drew w)).trans (NF w.drew g' out.length (S:=Qj (some ⟨g',0,none⟩)) ⟨_,rfl,rfl⟩) (λi hi=>.inl hi)⟩
section
structure Fz where
 o:Int
 v:Int
 a:Int
 b:Int
deriving DecidableEq
def Fz.cells (x:Fz):List Value:=[.int .i64 x.o,.int .i64 x.v,.int .i64 x.a,.int .i64 x.b]
theorem zz (x:Fz):x.cells.length=4:=rfl
def isDig (b:Nat):Bool:=decide (48<=b)&&decide (b<=57)
def aD (b:Nat):Bool:=b==95||(decide (97<=b)&&decide (b<=122))||(decide (65<=b)&&decide (b<=90))
def X6 (b:Nat):Bool:=aD b||isDig b
def Vm:List Nat->Nat
 | []=>0
 | b::l=>if isDig b then 0 else((b::l).takeWhile X6).length
def Zx (l:List Nat):List Nat:=l.dropWhile λb=>b==32||b==9
structure Ps where
 r:List Nat
 f:List Fz
 u:Bool
def Kd (sym:List Nat)(p:Ps):Bool×Ps:=if sym.isPrefixOf (Zx p.r)then(true,{p with r:=(Zx p.r).drop sym.length})else(false,{p with r:=Zx p.r})
def VU (x:Fz)(p:Ps):Nat×Ps:=(p.f.length,{p with f:=p.f++ [x]})
def fo (sym:List Nat)(op:Int)(opd:Ps->Option (Nat×Ps)):Nat->Nat->Ps->Option (Nat×Ps)
 | 0,_,_=>none
 | m+1,a,p=>match Kd sym p with
  | (true,p1)=>match opd p1 with
   | none=>none
   | some (b,p2)=>fo sym op opd m p2.f.length {p2 with f:=p2.f++ [⟨op,0,a,b⟩]}
  | (false,p1)=>some (a,p1)
def Vn (sym:List Nat)(op:Int)(opd:Ps->Option (Nat×Ps))(p:Ps):Option (Nat×Ps):=match opd p with
 | none=>none
 | some (a,p1)=>fo sym op opd (p1.r.length+1) a p1
def bV (
     ix:List Nat->Option Nat):Nat->Ps->Option (Nat×Ps)
 | 0,_=>none
 | n+1,p=>match Kd [33] p with
  | (true,p1)=>match bV ix n p1 with
   | none=>none
   | some (a,p2)=>some (VU ⟨3,0,a,0⟩ p2)
  | (false,p1)=>match Kd [40] p1 with
   | (true,p2)=>match Vn [124,124] 5 (Vn [38,38] 4 (bV ix n)) p2 with
    | none=>none
    | some (a,p3)=>match Kd [41] p3 with
     | (true,p4)=>some (a,p4)
     | (false,_)=>none
   | (false,p2)=>if Vm p2.r=0 then none else
     let word:=p2.r.take (Vm p2.r)
     let p3:Ps:={p2 with r:=p2.r.drop (Vm p2.r)}
     if word=[116,114,117,101] then some (VU ⟨1,0,0,0⟩ p3)else if word=[102,97,108,115,101] then some (VU ⟨0,0,0,0⟩ p3)else
      some (VU ⟨2,((ix word).getD 0:Nat),0,0⟩ {p3 with u:=p3.u||(ix word).isNone})
def gg (ix:List Nat->Option Nat)(n:Nat)(p:Ps):Option (Nat×Ps):=Vn [124,124] 5 (Vn [38,38] 4 (bV ix n)) p
end
section
theorem KN (l:List Nat)(a b:Nat):(Qe l).extract a b=Qe ((l.take b).drop a):=by
 apply ByteArray.ext;apply Array.ext';simp[Qe,f9]
theorem B8.drop {l:List Nat}(h:∀x∈l,x<256)(k:Nat):∀x∈l.drop k,x<256:=λx hx=>h x (aZ hx)
theorem B8.take {l:List Nat}(h:∀x∈l,x<256)(k:Nat):∀x∈l.take k,x<256:=λx hx=>h x (fa hx)
theorem o8 (p l:List Nat):p.isPrefixOf l=decide (p.length<=l.length/\l.take p.length=p):=by
 rw[oE,aQ0,Vl];constructor
 ·rintro⟨t,rfl⟩;exact⟨by simp,by simp⟩
 ·rintro⟨h1,h2⟩;refine⟨l.drop p.length,?_⟩;have:=eZ p.length l;rw[h2] at this;exact this
theorem NG (l p:List Nat)(w:World)(hl:∀x∈l,x<256)(hp:∀x∈p,x<256):
  Fn Tryz.prog 154 [.string (Qe l),.string (Qe p)] w (λv w'=>v= .bool (p.isPrefixOf l)/\w=w'):=by
 refine QD (c:=cQw) Qa Tryz.func154 rfl rfl rfl ?_;refine Qy (λh1=>?_) (λh1=>?_)
 ·rw[XF,XF] at h1;refine need ⟨by omega,by omega,by rw[XF,XF];omega⟩ ?_;refine⟨?_,rfl⟩;rw[o8];congr 1;refine oM.2 ?_;simp only[fc,Int.toNat_zero];rw[KN,rz,XF];exact⟨λh=>⟨by omega,Jc (B8.take hl _) hp h⟩,λh=>by rw[h.2]⟩
 ·rw[XF,XF] at h1;exact⟨by rw[o8,X4 (λh=>h1 (by omega))],rfl⟩
def uZ (l p:List Nat):Value:=if p.isPrefixOf l then .tuple #[.string (Qe (l.drop p.length)),.bool true] else .tuple #[.string (Qe l),.bool false]
theorem dQh (l p:List Nat)(w:World)(hl:∀x∈l,x<256)(hp:∀x∈p,x<256):
  Fn Tryz.prog 231 [.string (Qe l),.string (Qe p)] w (λv w'=>v=uZ l p/\w=w'):=by
 refine QD (c:=dQd) Qa Tryz.func231 rfl rfl rfl ?_;refine call (NG l p w hl hp) ?_;rintro v w1 ⟨rfl,rfl⟩;unfold uZ;cases ug:p.isPrefixOf l with
 | false=>
  refine Xa rfl ?_;exact⟨rfl,rfl⟩
 | true=>
  refine Q5 rfl ?_;have ZO:p.length<=l.length:=by rw[o8] at ug;exact(a8 ug).1
  refine need ⟨by omega,by rw[XF,XF];omega,by omega⟩ ?_;refine⟨?_,rfl⟩;simp only[fc,XF];rw[KN,Jm (QC _)]<;>rfl
theorem dQi (l p:List Nat)(w:World)(hl:∀x∈l,x<256)(hp:∀x∈p,x<256):
  Fn Tryz.prog 200 [.string (Qe l),.string (Qe p)] w (λv w'=>v=uZ l p/\w=w'):=by
 refine QD (c:=cQW) Qa Tryz.func200 rfl rfl rfl ?_;refine call (dQh l p w hl hp) ?_;rintro v w1 ⟨rfl,rfl⟩;unfold uZ;split
 ·exact⟨rfl,rfl⟩
 ·exact⟨rfl,rfl⟩
def dP (k:Nat):List Value:=(List.range 256).map λj=>.bool (decide (0<k/\j=32)||decide (1<k/\j=9))
theorem o9 (k:Nat):(dP k).length=256:=by simp[dP]
theorem Ek {k j:Nat}(h:j<256):(dP k)[j]? =some (.bool (decide (0<k/\j=32)||decide (1<k/\j=9))):=by
 unfold dP;rw[VR,List.getElem?_range h]<;>rfl
theorem NH (k:Nat):∀u∈dP k,Jz u=true:=λu hu=>by
 unfold dP at hu;simp only[Z4] at hu;obtain⟨j,_,rfl⟩:=hu;rfl
theorem dQj {k x:Nat}(hk:k<2)(hx: [32,9][k]? =some x):(dP k).set x (.bool true)=dP (k+1):=by
 apply DB;intro j;by_cases hj:j<256
 ·rw[Mt,Ek hj,Ek hj,o9];have VH:k=0∨k=1:=by omega
  rcases VH with rfl | rfl
  ·simp at hx;subst hx;split
   ·rename_i e;subst e;simp
   ·rename_i e;have:¬j=32:=λh=>e h.symm
    simp[this]
  ·simp at hx;subst hx;split
   ·rename_i e;subst e;simp
   ·rename_i e;have:¬j=9:=λh=>e h.symm
    simp[this]
 ·rw[lM (by rw[dG,o9];omega),lM (by rw[o9];omega)]
set_option maxRecDepth 20000 in
theorem dQk (w:World):Fn Tryz.prog 228 [.string (Qe [32,9])] w (λv w'=>v= .tuple #[.agg (dP 2).toArray,.bool true]/\Ext w w'):=by
 refine QD (c:=dQb) Qa Tryz.func228 rfl rfl rfl ?_;refine new (λw1 Qd Q3 Qh=>?_);have Gr:Blk w1 w.heap.size 302 (dP 0):=Qh;clear Qh;refine loop Qa [4] (λk:Nat=>[.int .i64 k]) (λk w'=>k<=2/\Ext w w'/\Blk w' w.heap.size 302 (dP k)) (λk _=>2-k) 0 rfl ⟨by omega,Qd,Gr⟩ ?_;rintro k w2 ⟨hk,Qg,Qw⟩;refine Qy (λh1=>?_) (λh1=>?_)
 ·have VH:k<2:=by
   have:((Qe [32,9]).size:Int)=2:=rfl;omega
  refine cO (s:=Qe [32,9]) (by show k<2;exact VH) (λx hx Gt=>?_);have KA: [32,9][k]? =some x:=by rw[Wp (by decide)] at hx;exact hx
  have nU:x<128:=by
   have:k=0∨k=1:=by omega
   rcases this with rfl | rfl
   ·simp at KA;omega
   ·simp at KA;omega
  refine Q9 (by omega) ?_;refine zv (j:=x) rfl (by omega) ?_;refine XP Qw (by rw[o9];omega) (λw3 XD Qt=>?_);rw[dQj VH KA] at Qt;refine Qi ((k+1:Nat):Int) (by omega) (by omega) ?_;exact⟨k+1,rfl,⟨by omega,XD.ext Qg (λi hi=>by omega),Qt⟩,by show 2-(k+1)<2-k;omega⟩
 ·have VH:k=2:=by
   have:((Qe [32,9]).size:Int)=2:=rfl;omega
  subst VH;refine Qs Qw (o9 2) ?_;refine Qz Qw rfl (NH 2) (λw3 ZY _ Qt=>?_);refine Qs Qt (o9 2) ?_;exact⟨rfl,Qg.own ZY (QC _)⟩
theorem dQl (g x:Nat)(w:World)(hB:Blk w g 302 (dP 2))(hx:x<256):
  Fn Tryz.prog 245 [.pointer (some ⟨g,0,none⟩),.int .u8 x] w (λv w'=>v= .bool (x==32||x==9)/\w=w'):=by
 refine QD (c:=dQe) Qa Tryz.func245 rfl rfl rfl ?_;refine zv (j:=x) rfl (by omega) ?_;refine Qp hB (Ek hx) ?_;refine⟨?_,rfl⟩;have e:∀y:Nat,(x==y)=decide (x=y):=λy=>rfl
 simp[e]
theorem dQm (g:Nat)(l:List Nat)(w:World)(hB:Blk w g 302 (dP 2))(hl:∀x∈l,x<256)(_:l.length<=9223372036854775807):
  Fn Tryz.prog 229 [.string (Qe l),.pointer (some ⟨g,0,none⟩)] w (λv w'=>v= .string (Qe (Zx l))/\Ext w w'):=by
 refine QD (c:=dQc) Qa Tryz.func229 rfl rfl rfl ?_;refine loop Qa [0] (λm:List Nat=>[.string (Qe m)]) (λm w'=>Ext w w'/\Zx m=Zx l/\(∀x∈m,x<256)) (λm _=>m.length) l rfl ⟨Ext.refl _,rfl,hl⟩ ?_;rintro m w1 ⟨Qd,hm,JH⟩;refine Qy (λh1=>?_) (λh1=>?_)
 ·cases m with
  | nil=>simp[XF] at h1
  | cons x m=>
   refine cO (s:=Qe (x::m)) (by rw[XF];simp) (λy hy Gu=>?_);have ib:y=x:=by rw[Wp JH] at hy;simpa using hy.symm
   subst ib;refine call (dQl g y w1 (hB.ext Qd) Gu) ?_;rintro v w2 ⟨rfl,rfl⟩;cases hb:(y==32||y==9)with
   | false=>
    refine Xa rfl ?_;refine⟨?_,Qd⟩;rw[<-hm];unfold Zx;rw[oI,hb]<;>rfl
   | true=>
    refine Q5 rfl ?_;refine need ⟨by omega,by omega,by omega⟩ ?_;refine⟨m,?_,⟨Qd,?_,λz hz=>JH z (by simp[hz])⟩,by simp⟩
    ·have e:(Qe (y::m)).extract (Int.toNat 1) (((Qe (y::m)).size:Int)).toNat=Qe m:=by
      rw[KN,XF,fc,Jm (QC _)]<;>rfl
     rw[e]<;>rfl
    ·rw[<-hm];unfold Zx;rw[oI,hb]<;>rfl
 ·cases m with
  | nil=>exact⟨by rw[<-hm];rfl,Qd⟩
  | cons x m=>rw[XF] at h1;simp at h1
set_option maxRecDepth 20000 in
theorem dQn (l:List Nat)(w:World)(hl:∀x∈l,x<256)(Xd:l.length<=9223372036854775807):
  Fn Tryz.prog 199 [.string (Qe l),.string (Qe [32,9])] w (λv w'=>v= .string (Qe (Zx l))/\Ext w w'):=by
 refine QD (c:=cQV) Qa Tryz.func199 rfl rfl rfl ?_;refine Qy (λh1=>?_) (λh1=>?_)
 ·have:l=[]:=Jc hl (by simp) (h1.trans rfl);subst this;exact⟨rfl,Ext.refl _⟩
 refine Q9 (by decide) ?_;refine XB (by decide) ?_;refine call (dQk w) ?_;rintro v w1 ⟨rfl,Qd⟩;refine new (λw2 Qg Zb Qw=>?_);refine Qz Qw (o9 2) (NH 2) (λw3 ZY _ Qt=>?_);have XK:=X9 Qg Qw ZY;refine Xa rfl ?_;refine call (dQm w1.heap.size l w3 Qt hl Xd) ?_;rintro v w4 ⟨rfl,Qq⟩;exact⟨rfl,Qd.trans (XK.trans Qq)⟩
end
section
theorem dQo {P:Program}{f:FuncId}{l:List Value}{w:World}{v:Value}{R:World->Prop}(h:Calls P f l.toArray w λe w'=>e= .returned v/\R w'):Fn P f l w (λu w'=>u=v/\R w'):=by
 unfold Fn;exact h.mono λe w' he=>by obtain⟨rfl,h⟩:=he;exact⟨rfl,h⟩
theorem mQ0 {w w':World}(h:Below w.heap.size w w'):Ext w w':=⟨h.os,h.tape,h.output,h.size,λk hk _=>h.block k hk⟩
theorem El (r:Nat):X6 r=true↔(r=95∨(97<=r/\r<=122)∨(65<=r/\r<=90)∨(48<=r/\r<=57)):=by
 unfold X6 aD isDig;simp;omega
theorem dQp (r:Nat)(w:World):Fn Tryz.prog 220 [.int .i32 r] w (λv w'=>v= .bool (!X6 r)/\w=w'):=by
 have hb:X6 r=decide (r=95∨(97<=r/\r<=122)∨(65<=r/\r<=90)∨(48<=r/\r<=57)):=by rw[oE,El,Vl]
 rw[hb];refine QD (c:=cQ5) Qa Tryz.func220 rfl rfl rfl ?_;have kQ5:r=95∨(97<=r/\r<=122)∨(65<=r/\r<=90)∨(48<=r/\r<=57)∨r<48∨(57<r/\r<65)∨(90<r/\r<95)∨r=96∨122<r:=by omega
 rcases kQ5 with h | h | h | h | h | h | h | h | h <;>
  repeat (first | refine rL (by omega) ?_ | refine Wo (by omega) ?_ | refine XH (by omega) ?_ | refine Q9 (by omega) ?_ | refine Xa rfl ?_ | refine Q5 rfl ?_)
 all_goals refine⟨?_,rfl⟩
 all_goals congr 1
 all_goals first
  | (
    have hP:(r=95∨(97<=r/\r<=122)∨(65<=r/\r<=90)∨(48<=r/\r<=57)):=by omega
    rw[XR hP];first | rfl | exact X4 (by omega) | exact XR (by omega))
  | (
    have hP:¬(r=95∨(97<=r/\r<=122)∨(65<=r/\r<=90)∨(48<=r/\r<=57)):=by omega
    rw[X4 hP];first | rfl | exact XR (by omega) | exact X4 (by omega))
theorem NI {s:ByteArray}{pos:Nat}(h:pos<s.size):s.get! pos=s[pos]:=by
 simp[ByteArray.get!,ByteArray.getElem_eq_getElem_data,getElem!_pos s.data pos h]
theorem dQq {s:ByteArray}{pos:Nat}(h:pos<s.size)(ha:s[pos].toNat<128):Utf8.decode s pos=(s[pos].toNat,1):=by
 unfold Utf8.decode;simp only[Nat.add_zero,NI h];rw[Qf ha]
theorem dQr {s:ByteArray}{pos:Nat}(h:pos<s.size)(ha:¬s[pos].toNat<128):128<=(Utf8.decode s pos).1:=by
 unfold Utf8.decode;simp only[Nat.add_zero,NI h];rw[if_neg ha];have he:128<=Utf8.runeError:=by decide
 split
 ·split
  ·assumption
  ·exact he
 split
 ·split
  ·rename_i h1;simp at h1;exact Zf (by decide) h1.1
  ·exact he
 split
 ·split
  ·rename_i h1;simp at h1;exact Zf (by decide) h1.1
  ·exact he
 ·exact he
theorem NJ (s:ByteArray):∀(f pos:Nat),s.size<=pos+f->pos<=s.size->
  Lib.idxFuncFrom (λr=> !X6 r) true s f pos=if((YK s).drop pos).all X6 then -1 else((pos+(((YK s).drop pos).takeWhile X6).length:Nat):Int)
 | 0,pos,h,hp=>by
  rw[ry (by rw[uU];omega)];rfl
 | f+1,pos,h,hp=>by
  unfold Lib.idxFuncFrom;by_cases bJ:pos<s.size
  ·rw[Qf bJ];have hg:(YK s).drop pos=s[pos].toNat::(YK s).drop (pos+1):=by
    rw[bR (by rw[uU];exact bJ)];congr 1;have:=Nb bJ;exact(Z0.1 this).2
   rw[hg];by_cases ha:s[pos].toNat<128
   ·have hd:=dQq bJ ha;rw[hd]
    dsimp only
    cases hi:X6 s[pos].toNat with
    | true=>
     rw[if_neg (by simp),NJ s f (pos+1) (by omega) (by omega)];simp only[yH,hi,dH,Wj,if_true,Xj];split
     ·rfl
     ·congr 1;omega
    | false=>
     rw[Qf (by simp)];simp[hi]
   ·have hi:X6 s[pos].toNat=false:=by
     cases e:X6 s[pos].toNat with
     | false=>rfl
     | true=>have:=(El _).1 e;omega
    have hd:X6 (Utf8.decode s pos).1=false:=by
     have lQJ:=dQr bJ ha;cases e:X6 (Utf8.decode s pos).1 with
     | false=>rfl
     | true=>have:=(El _).1 e;omega
    rw[Qf (by rw[hd];rfl)];simp[hi]
  ·rw[if_neg bJ,ry (by rw[uU];omega)];rfl
theorem dQs (l:List Nat)(w:World)(hl:∀x∈l,x<256):Fn Tryz.prog 219 [.string (Qe l),.func (.func 220) #[] #[]] w (λv w'=>v= .int .i64 (if l.all X6 then -1 else((l.takeWhile X6).length:Nat))/\Ext w w'):=by
 refine QD (c:=cQ4) Qa Tryz.func219 rfl rfl rfl ?_;have hp:Go.Proofs.PredAt Tryz.prog 220 #[] Go.Proofs.encR (λr=> !X6 r) w:=λW r _=>by
  have h:=dQp r W;unfold Fn at h;exact h.mono λe w' he=>by
   cases e with
   | returned v=>obtain⟨rfl,rfl⟩:=he;exact⟨rfl,0,rfl⟩
   | panicked ch=>exact he.elim
   | outgrown=>exact he.elim
 have hc:=Tryz.strings_indexFunc 220 #[] (Go.Proofs.enters_of Tryz.func220 rfl rfl) (λr=> !X6 r) true (Qe l) w hp;refine call (dQo hc) ?_;rintro v w1 ⟨rfl,hb⟩;refine⟨?_,mQ0 hb⟩;unfold Lib.idxFunc;rw[NJ (Qe l) _ 0 (by omega) (XJ _),Wp hl,rz,bQ]
end
end
section
structure KeyQ {α:Type} [DecidableEq α] (P:Program) (ke:Nat) (kv:α->Value):Prop where
 find:∀(a:α) (m:List (α×Value)) (bs:List Nat) (w:World),bs.length=m.length->
  ∃r,(Instr.findKey ke (kv a) (XT kv m bs)).run P w= .ok r w/\r.map (·.2)=Xv a m/\(∀j v,r=some (j,v)->∀v',XT kv (Zd a v' m) bs=(XT kv m bs).modify j (λe=>{e with key:=kv a,val:=v'})/\((XT kv m bs)[j]?).map (·.key)=some (kv a))/\(r=none->∀v',Zd a v' m=m++ [(a,v')])
 check:∀b a w,(Instr.checkKey b 10000 ke (kv a)).run P w= .ok () w
 bits:∀a,Instr.sameBits 10000 (kv a) (kv a)=true
theorem Em {α:Type} [DecidableEq α]{P:Program}{ke:Nat}{kv:α->Value}(a:α)(w:World)(heq:∀b:α,(Op.equal ke (kv a) (kv b)).run P w= .ok (decide (a=b)) w):∀(m:List (α×Value))(bs:List Nat)(i:Nat),bs.length=m.length->
  ∃r,(Instr.findAsking ke (kv a) (XT kv m bs) i).run P w= .ok r w/\r.map (·.2)=Xv a m/\(∀j v,r=some (j,v)->i<=j/\∀v',XT kv (Zd a v' m) bs=(XT kv m bs).modify (j-i) (λe=>{e with key:=kv a,val:=v'})/\((XT kv m bs)[j-i]?).map (·.key)=some (kv a))/\(r=none->∀v',Zd a v' m=m++ [(a,v')])
 | [],bs,i,h=>⟨none,by simp[XT,Instr.findAsking],rfl,(λj v h=>by cases h),λ_ v'=>rfl⟩
 | (b,u)::m,[],i,h=>by simp at h
 | (b,u)::m,s::bs,i,h=>by
  have e:XT kv ((b,u)::m) (s::bs)={key:=kv b,val:=u,born:=s}::XT kv m bs:=rfl;rw[e];unfold Instr.findAsking;simp only[Sem.run_bind,heq,Result.andThen_ok];by_cases Ya:a=b
  ·subst Ya;simp only[decide_true,if_true];refine⟨some (i,u),by simp,by simp[Xv],λj v hj=>?_,λh=>by cases h⟩;cases hj;refine⟨QC _,λv'=>?_⟩;simp[Zd,XT]
  ·simp only[Ya,decide_false,Mu,if_false];obtain⟨r,h1,h2,h3,h4⟩:=Em a w heq m bs (i+1) (by simpa using h);refine⟨r,h1,by simp[Xv,Ya,h2],λj v hj=>?_,λhn v'=>by simp[Zd,Ya,h4 hn v']⟩;obtain⟨h5,h7⟩:=h3 j v hj;refine⟨by omega,λv'=>?_⟩;obtain⟨h8,h9⟩:=h7 v';rw[show j-i=(j-(i+1))+1 by omega];refine⟨?_,by simpa using h9⟩;simp only[Zd,Ya,if_false];rw[show XT kv ((b,u)::Zd a v' m) (s::bs)={key:=kv b,val:=u,born:=s}::XT kv (Zd a v' m) bs from rfl,h8];simp
theorem mQ9 {α:Type} [DecidableEq α]{P:Program}{ke:Nat}{kv:α->Value}{fs:Array Field}(hu:P.underlying ke=some (.struct fs))
  (heq:∀(a b:α) (w:World),(Op.equal ke (kv a) (kv b)).run P w= .ok (decide (a=b)) w) (hc:∀b a w,(Instr.checkKey b 10000 ke (kv a)).run P w= .ok () w) (hb:∀a,Instr.sameBits 10000 (kv a) (kv a)=true):KeyQ P ke kv:=by
 refine⟨λa m bs w hl=>?_,hc,hb⟩;have key:=Em (P:=P) (ke:=ke) (kv:=kv) a w (λb=>heq a b w) m bs 0 hl;obtain⟨r,h1,h2,h3,h4⟩:=key;refine⟨r,?_,h2,λj v hj v'=>by simpa using (h3 j v hj).2 v',h4⟩;unfold Instr.findKey;simp only[Sem.run_bind,ZL hu,Result.andThen_ok];cases m with
 | nil=>
  simp only[XT,List.zip_nil_left,yI,Instr.findNow,Sem.run_pure];simp[XT,Instr.findAsking] at h1;rw[h1]
 | cons p m=>
  cases bs with
  | nil=>simp at hl
  | cons s bs=>
   have e:XT kv (p::m) (s::bs)={key:=kv p.1,val:=p.2,born:=s}::XT kv m bs:=rfl;rw[e] at h1 ⊢;have hn:Instr.findNow (.struct fs) (kv a) ({key:=kv p.1,val:=p.2,born:=s}::XT kv m bs) 0=none:=by
    simp[Instr.findNow,Instr.sameNow]
   rw[hn];exact h1
structure MapQ {α:Type} (kv:α->Value) (w:World) (r:Nat) (m:List (α×Value)):Prop where
 ex:∃bs ck,bs.length=m.length/\bs.Nodup/\(∀b∈bs,b<ck)/\w.heap[r]? =some (.map (XT kv m bs).toArray ck)
theorem MapQ.ext {α:Type}{kv:α->Value}{w w':World}{r:Nat}{m:List (α×Value)}(h:MapQ kv w r m)(k:Ext w w'):MapQ kv w' r m:=by
 obtain⟨bs,ck,hl,h1,h2,hb⟩:=h.ex;exact⟨bs,ck,hl,h1,h2,(k.block r (eY.1 hb).1 (by simp)).trans hb⟩
theorem MapQ.mod {α:Type}{kv:α->Value}{S:Nat->Prop}{w w':World}{r:Nat}{m:List (α×Value)}(h:MapQ kv w r m)(k:Mod S w w')(hn:¬S r):MapQ kv w' r m:=by
 obtain⟨bs,ck,hl,h1,h2,hb⟩:=h.ex;exact⟨bs,ck,hl,h1,h2,(k.block r (eY.1 hb).1 hn).trans hb⟩
theorem rS {α:Type}{c:Cx}(_:c.g.Ok){o:Oper}{S:Env}{w:World}{K:Env->World->Prop}{Q:Zg}{t:Nat}(kv:α->Value)(ho:o.op= .makeMap t none)
  (k:∀w1,Ext w w1->w1.heap.size=w.heap.size+1->MapQ kv w1 w.heap.size []->Xk c S o.dst (.v (.map (some w.heap.size))) (λS=>K S w1)):X8 c o S w K Q:=by
 refine Js (w':=w.alloc (.map #[] 0)) (λa hf=>?_) (k _ (Ext.alloc w _) (by simp) ⟨[],0,rfl,List.nodup_nil,by simp,heap_alloc_new w _⟩);simp[execOp,ho,Instr.makeMap]
section
variable {α:Type} [DecidableEq α] {kv:α->Value} {c:Cx} {o:Oper} {S:Env} {w:World} {K:Env->World->Prop} {Q:Zg} {t ke e:Nat} {r re:TyRow} {x y:Operand} {q:Nat} {m:List (α×Value)} {a:α}
theorem NK (hg:c.g.Ok)(hr:QU c.g.tys t=some r)(hd:r.d= .map ke e)(X7:QU c.g.tys e=some re)(hk:KeyQ c.g.P ke kv)(hm:MapQ kv w q m)(ok:Bool):
  (Instr.lookup t (.map (some q)) (kv a) ok).run c.g.P w= .ok (if ok then .tuple #[(Xv a m).getD re.z,.bool (Xv a m).isSome] else(Xv a m).getD re.z) w:=by
 have Q1:=(hg.row hr).1;rw[hd] at Q1;obtain⟨_,i,hi,_,_,bL⟩:=hg.row X7;obtain⟨bs,ck,hl,_,_,hb⟩:=hm.ex;obtain⟨res,h1,h2,_,_⟩:=hk.find a m bs w hl;have dB:(getObj q).run c.g.P w= .ok (.map (XT kv m bs).toArray ck) w:=by simp[getObj,Sem.run,hb]
 have hz:(zeroValue e).run c.g.P w= .ok re.z w:=by simp[zeroValue,typeInfo,hi,bL]
 simp only[Instr.lookup,Sem.run_bind,ZL Q1,Result.andThen_ok,dB,Sem.run_pure,hk.check,h1];rw[<-h2];cases res with
 | none=>cases ok<;>simp[hz]
 | some p=>cases ok<;>simp
theorem En (hg:c.g.Ok)(ho:o.op= .lookup t x y true)(hr:QU c.g.tys t=some r)(hd:r.d= .map ke e)(X7:QU c.g.tys e=some re)(hk:KeyQ c.g.P ke kv)
  (hx:S.ev x=some (.map (some q))) (hy:S.ev y=some (kv a)) (hm:MapQ kv w q m)
  (k:Xk c S o.dst (.v (.tuple #[(Xv a m).getD re.z,.bool (Xv a m).isSome])) (λS=>K S w)):X8 c o S w K Q:=by
 refine Js (w':=w) (λb hf=>?_) k;have e1:=hf.ev hx;have e2:=hf.ev hy;have:=NK (w:=w) (a:=a) hg hr hd X7 hk hm true;simp only[execOp,ho,e1,e2];simp only[Sem.run_bind,this,Result.andThen_ok];simp
theorem NL {α:Type} [DecidableEq α](a:α)(v:Value):∀(m:List (α×Value)),(Xv a m).isSome->(Zd a v m).length=m.length
 | [],h=>by simp[Xv] at h
 | (b,x)::m,h=>by
  simp only[Zd];split
  ·simp
  ·rename_i Ya;simp[NL a v m (by simpa [Xv,Ya] using h)]
theorem rT {v:Value}{z:Operand}(hg:c.g.Ok)(ho:o.op= .mapUpdate t x y z)(ia:o.dst=none)(hr:QU c.g.tys t=some r)(hd:r.d= .map ke e)(hk:KeyQ c.g.P ke kv)
  (hx:S.ev x=some (.map (some q))) (hy:S.ev y=some (kv a)) (hz:S.ev z=some v) (hm:MapQ kv w q m)
  (k:∀w1,Mod (·=q) w w1->w1.heap.size=w.heap.size->MapQ kv w1 q (Zd a v m)->K S w1):X8 c o S w K Q:=by
 have Q1:=(hg.row hr).1;rw[hd] at Q1;obtain⟨bs,ck,hl,hnd,Ld,hb⟩:=hm.ex;have Xc:q<w.heap.size:=(eY.1 hb).1;obtain⟨res,h1,h2,h3,h4⟩:=hk.find a m bs w hl;have dB:(getObj q).run c.g.P w= .ok (.map (XT kv m bs).toArray ck) w:=by simp[getObj,Sem.run,hb]
 have eN:∀ob,(setObj q ob).run c.g.P w= .ok () {w with heap:=w.heap.setIfInBounds q ob}:=λob=>by simp[setObj,Sem.run,hb]
 have main:∃ob,(Instr.mapUpdate t (.map (some q)) (kv a) v).run c.g.P w= .ok () {w with heap:=w.heap.setIfInBounds q ob}/\∃WR ck',WR.length=(Zd a v m).length/\WR.Nodup/\(∀b∈WR,b<ck')/\ob= .map (XT kv (Zd a v m) WR).toArray ck':=by
  cases res with
  | none=>
   refine⟨_,?_,bs++ [ck],ck+1,?_,?_,?_,rfl⟩
   ·simp only[Instr.mapUpdate,Sem.run_bind,ZL Q1,Result.andThen_ok,dB,hk.check,h1,eN];rw[h4 rfl v];congr 4;simp only[XT];rw[List.zip_append hl.symm,f0];simp
   ·rw[h4 rfl v];simp[hl]
   ·rw[DC];refine⟨hnd,by simp,λx hx y hy=>?_⟩;simp at hy;have:=Ld x hx;omega
   ·intro b hb';simp only[Xw,QL] at hb';rcases hb' with hb' | rfl
    ·have:=Ld b hb';omega
    ·omega
  | some p=>
   obtain⟨j,u⟩:=p;obtain⟨h8,h9⟩:=h3 j u rfl v;have La:(((XT kv m bs).toArray[j]?).map (·.key)).getD (kv a)=kv a:=by
    rw[show(XT kv m bs).toArray[j]? =(XT kv m bs)[j]? from by simp,h9]<;>rfl
   refine⟨_,?_,bs,ck,?_,hnd,Ld,rfl⟩
   ·simp only[Instr.mapUpdate,Sem.run_bind,ZL Q1,Result.andThen_ok,dB,hk.check,h1,La,Instr.keyThatStays,hk.bits,if_true,Sem.run_pure,eN];rw[h8];congr 4;simp
   ·rw[NL a v m (by rw[<-h2];rfl),hl]
 obtain⟨ob,Z9,WR,ck',cE,kQ6,kQ7,rfl⟩:=main;unfold X8;intro b hf;have e1:=hf.ev hx;have e2:=hf.ev hy;have e3:=hf.ev hz;unfold Oper.wp;have:(execOp b.eval o).run c.g.P w= .ok .skip {w with heap:=w.heap.setIfInBounds q (.map (XT kv (Zd a v m) WR).toArray ck')}:=by
  simp only[execOp,ho,e1,e2,e3];simp[Z9]
 rw[this];refine⟨S,by rw[ia];simpa [Act.put] using hf,k _ ⟨rfl,rfl,rfl,by simp,λi _ hi=>?_⟩ (by simp) ⟨WR,ck',cE,kQ6,kQ7,?_⟩⟩
 ·simp only[Dy];rw[if_neg (λe=>hi e.symm)]
 ·simp[Xc]
structure RangeQ {α:Type} (kv:α->Value) (w:World) (r q:Nat) (m L:List (α×Value)) (ZD:Option (α×Value)):Prop where
 ex:∃bs ck seen since,bs.length=m.length/\bs.Nodup/\(∀b∈bs,b<since)/\since<=ck/\w.heap[q]? =some (.map (XT kv m bs).toArray ck)/\w.heap[r]? =some (.mapIter (some q) since seen ck)/\
  L=((m.zip bs).filter λp=> !seen.contains p.2).map (·.1)/\(∀p,ZD=some p->∃(b:Nat) (s:Array Nat),seen=s.push b/\(p,b)∈m.zip bs)
theorem RangeQ.mod {α:Type}{kv:α->Value}{S:Nat->Prop}{w w':World}{r q:Nat}{m L:List (α×Value)}{ZD:Option (α×Value)}(h:RangeQ kv w r q m L ZD)(k:Mod S w w')(hr:¬S r)(hq:¬S q):RangeQ kv w' r q m L ZD:=by
 obtain⟨bs,ck,seen,since,h1,h2,h3,h4,h5,h6,h7⟩:=h.ex;exact⟨bs,ck,seen,since,h1,h2,h3,h4,(k.block q (eY.1 h5).1 hq).trans h5,(k.block r (eY.1 h6).1 hr).trans h6,h7⟩
theorem RangeQ.ext {α:Type}{kv:α->Value}{w w':World}{r q:Nat}{m L:List (α×Value)}{ZD:Option (α×Value)}(h:RangeQ kv w r q m L ZD)(k:Ext w w'):RangeQ kv w' r q m L ZD:=
 h.mod (Mod.of_ext (λ_=>False) k) (λh=>h) (λh=>h)
end
section
variable {α:Type} {kv:α->Value} {c:Cx} {o:Oper} {S:Env} {w:World} {K:Env->World->Prop} {Q:Zg} {t ke e:Nat} {r:TyRow} {x:Operand} {q it:Nat} {m L:List (α×Value)} {ZD:Option (α×Value)}
end
end
section
section
theorem dQt {p:Nat->Bool}{l:List Nat}(h:l.all p=true):l.takeWhile p=l:=by
 induction l with
 | nil=>rfl
 | cons x l ih=>
  simp only[yH,JL] at h;rw[Wj,Qf h.1,ih h.2]
theorem Eo (b:Nat)(l:List Nat):Vm (b::l)=if isDig b then 0 else((b::l).takeWhile X6).length:=rfl
theorem NM (l:List Nat):Vm l<=l.length:=by
 cases l with
 | nil=>exact QC _
 | cons b l=>
  rw[Eo];split
  ·exact XJ _
  ·exact(DD _).length_le
theorem NN (l:List Nat)(w:World)(hl:∀x∈l,x<256)(Xd:l.length<=9223372036854775807):
  Fn Tryz.prog 191 [.string (Qe l)] w (λv w'=>v= .int .i64 (Vm l:Nat)/\Ext w w'):=by
 refine QD (c:={cQO with cuts:=[2]}) Qa Tryz.func191 rfl rfl rfl ?_;refine call (dQs l w hl) ?_;rintro v w1 ⟨rfl,Qd⟩;have hT:(l.takeWhile X6).length<=l.length:=(DD _).length_le;refine iD [] Qa [3] (λn:Nat=>[.int .i64 n]) (λn w'=>w1=w'/\n=(l.takeWhile X6).length) ?_ ?_
 ·cases ha:l.all X6 with
  | true=>
   rw[Qf rfl];refine XH (by omega) ?_;exact⟨(Qe l).size,rfl,rfl,by rw[XF,dQt ha]⟩
  | false=>
   rw[if_neg (by simp)];refine Q9 (by omega) ?_;exact⟨(l.takeWhile X6).length,rfl,rfl,rfl⟩
 rintro n _ ⟨rfl,hn⟩;cases l with
 | nil=>
  have:n=0:=by simpa using hn
  subst this;refine Q9 (by omega) ?_;exact⟨rfl,Qd⟩
 | cons b l=>
  have J4:=hl b (by simp);have hS:(Qe (b::l)).size=l.length+1:=by rw[XF]<;>rfl
  by_cases hd:isDig b=true
  ·have jj:X6 b=true:=by unfold X6;rw[hd,Bool.or_true]
   have C5:48<=b/\b<=57:=by unfold isDig at hd;simpa using hd
   have iX:0<n:=by rw[hn,Wj,Qf jj];simp
   refine XH (by omega) ?_;refine cO (s:=Qe (b::l)) (j:=0) (by rw[hS];omega) (λx hx Gt=>?_);have Ja:x=b:=by rw[Wp hl] at hx;simpa using hx.symm
   subst Ja;refine XH (by omega) ?_;refine cO (s:=Qe (x::l)) (j:=0) (by rw[hS];omega) (λy hy Gu=>?_);have jk:y=x:=by rw[Wp hl] at hy;simpa using hy.symm
   subst jk;refine XH (by omega) ?_;exact⟨by rw[Eo,Qf hd];rfl,Qd⟩
  ·have jj:Vm (b::l)=n:=by rw[Eo,if_neg hd,hn]
   rw[jj];by_cases iX:0<n
   ·have C5:¬(48<=b/\b<=57):=λh=>hd (by unfold isDig;simpa using h)
    refine XH (by omega) ?_;refine cO (s:=Qe (b::l)) (j:=0) (by rw[hS];omega) (λx hx Gt=>?_);have Ja:x=b:=by rw[Wp hl] at hx;simpa using hx.symm
    subst Ja;refine Qy (λh1=>?_) (λh1=>?_)
    ·refine cO (s:=Qe (x::l)) (j:=0) (by rw[hS];omega) (λy hy Gu=>?_);have jk:y=x:=by rw[Wp hl] at hy;simpa using hy.symm
     subst jk;refine Q9 (by omega) ?_;exact⟨rfl,Qd⟩
    ·exact⟨rfl,Qd⟩
   ·refine Q9 (by omega) ?_;exact⟨rfl,Qd⟩
def XW (l:List (List Nat)):List Value:=l.map λs=>.string (Qe s)
theorem lZ {l:List (List Nat)}{j:Nat}{s:List Nat}(h:l[j]? =some s):(XW l)[j]? =some (.string (Qe s)):=by simp[XW,h]
theorem bn (l:List (List Nat)):(XW l).length=l.length:=by simp[XW]
def Y5:List Nat:=[116,114,117,101]
def bW:List Nat:=[102,97,108,115,101]
def WZ (s:List Nat):Bool:=decide (s≠ []/\Vm s=s.length/\s≠Y5/\s≠bW)
def Yr:List (List Nat)->Nat->List (ByteArray×Value)->List (ByteArray×Value)
 | [],_,m=>m
 | s::l,i,m=>Yr l (i+1) (Zd (Qe s) (.int .i64 (i:Nat)) m)
theorem NO:∀(l:List (List Nat))(s:List Nat)(i:Nat)(m:List (ByteArray×Value)),Yr (l++ [s]) i m=Zd (Qe s) (.int .i64 ((i+l.length:Nat):Int)) (Yr l i m)
 | [],s,i,m=>rfl
 | t::l,s,i,m=>by
  simp only[Jb,Yr];rw[NO l s (i+1)];congr 3;simp only[Xj];omega
end
section
theorem dQu {α:Type}{kv:α->Value}{c:Cx}(hg:c.g.Ok){o:Oper}{S:Env}{w:World}{K:Env->World->Prop}{Q:Zg}{t q ke e:Nat}{x:Operand}{m:List (α×Value)}{r:TyRow}
  (ho:o.op= .call ⟨.builtin .len, #[x], #[t]⟩) (hr:QU c.g.tys t=some r) (hd:r.d= .map ke e) (hx:S.ev x=some (.map (some q))) (hm:MapAt kv w q m)
  (k:Xk c S o.dst (.v (.int .i64 m.length)) (λS=>K S w)):X8 c o S w K Q:=by
 have Q1:=(hg.row hr).1;rw[hd] at Q1;obtain⟨bs,ck,hl,hb⟩:=hm.ex;refine Js (w':=w) (v:=.int .i64 m.length) (λa hf=>?_) k;have e1:=hf.ev hx;have dB:(getObj q).run c.g.P w= .ok (.map (XT kv m bs).toArray ck) w:=by simp[getObj,Sem.run,hb]
 have ZO:(XT kv m bs).length=m.length:=by simp[XT,hl]
 simp only[execOp,ho,resolve,invoke];simp[builtin,e1,Builtin.len_,ZL Q1,dB,goInt,ZO]
abbrev VV:ByteArray->Value:=λs=>.string s
def ZM (names:List (List Nat)):Bool:=decide (names.all WZ=true/\(Yr names 0 []).length=names.length/\names.length<=64)
theorem dQv {names:List (List Nat)}{j:Nat}{s:List Nat}(h:(names.take j).all WZ=true)(hj:names[j]? =some s)(hs:WZ s=true):(names.take (j+1)).all WZ=true:=by
 rw[VT,hj];simp[List.all_append,h,hs]
theorem NP {names:List (List Nat)}{j:Nat}{s:List Nat}(hj:names[j]? =some s)(hs:WZ s≠true):ZM names=false:=by
 unfold ZM;refine X4 (λh=>hs ?_);exact Y2.1 h.1 s (QO hj)
theorem NQ {names:List (List Nat)}{j:Nat}{s:List Nat}(hj:names[j]? =some s):Yr (names.take (j+1)) 0 []=Zd (Qe s) (.int .i64 (j:Nat)) (Yr (names.take j) 0 []):=by
 have Xc:j<names.length:=(Z0.1 hj).1;rw[VT,hj];show Yr (names.take j++ [s]) 0 []=_;rw[NO,Ye,oH (by omega),bQ]
def Ks (names:List (List Nat)):Prop:=∀s∈names,(∀x∈s,x<256)/\s.length<=9223372036854775807
theorem Ep (names:List (List Nat))(A:Option Addr)(n c:Nat)(w:World)(h:Sl w 1 A n c (XW names))(hb:Ks names):
  Fn Tryz.prog 132 [.slice A n c] w (λv w'=>∃v1,v= .tuple #[v1,.bool (ZM names)]/\Ext w w'/\(ZM names=true->∃r,v1= .map (some r)/\w.heap.size<=r/\MapAt VV w' r (Yr names 0 []))):=by
 have hn:names.length=n:=by have:=h.len;rw[bn] at this;omega
 have Gv:n<=9223372036854775807:=by have:=h.le;have:=h.cap;simp only[maxLen] at this;omega
 refine QD (c:={cQd with cuts:=[]}) Qa Tryz.func132 rfl rfl rfl ?_;refine uW Qa VV rfl ?_;intro w1 Qd Q3 Zo;refine loop Qa [10] (λs:Nat=>[.int .i64 s]) (λs w'=>Ext w w'/\s<=n/\(names.take s).all WZ=true/\MapAt VV w' w.heap.size (Yr (names.take s) 0 [])) (λs _=>n-s) 0 rfl ⟨Qd,XJ _,rfl,Zo⟩ ?_;rintro s w3 ⟨Qk,aw,hall,XD⟩;refine Qy (λh3=>?_) (λh3=>?_)
 ·have qP:names[s]? =some names[s]:=Xn (by omega);generalize names[s]=t at qP;obtain⟨dk,YE⟩:=hb t (QO qP);refine X5 (h.ext Qk) (by omega) (λad u hA hu QE=>?_);rw[lZ qP] at hu;cases hu;refine load QE ?_;have lQK:=Qk;have bad:WZ t≠true->∀w',Ext w w'->∃v1,(.tuple #[.map none,.bool false]:Value)= .tuple #[v1,.bool (ZM names)]/\Ext w w'/\(ZM names=true->∃r,v1= .map (some r)/\w.heap.size<=r/\MapAt VV w' r (Yr names 0 [])):=λhb w' hE=>by
   refine⟨.map none,?_,hE,λh=>?_⟩
   ·rw[NP qP hb]
   ·rw[NP qP hb] at h;cases h
  have e0:((Qe t=(⟨#[]⟩:ByteArray))↔t=[]):=⟨λh=>Jc dk (by simp) h,λh=>by rw[h];rfl⟩
  have e1:((Qe t=(⟨#[116,114,117,101]⟩:ByteArray))↔t=Y5):=⟨λh=>Jc dk (by decide) h,λh=>by rw[h];rfl⟩
  have e2:((Qe t=(⟨#[102,97,108,115,101]⟩:ByteArray))↔t=bW):=⟨λh=>Jc dk (by decide) h,λh=>by rw[h];rfl⟩
  by_cases h4:t=[]
  ·refine XH (e0.2 h4) ?_;exact bad (by unfold WZ;simp[h4]) _ Qk
  refine Q9 (λh=>h4 (e0.1 h)) ?_;refine call (NN t w3 dk YE) ?_;rintro v w4 ⟨rfl,Qq⟩;have Tn:((Qe t).size:Int)=(t.length:Nat):=by rw[XF]
  by_cases h5:¬Vm t=t.length
  ·refine rL (λh=>h5 (by omega)) ?_;exact bad (by unfold WZ;simp[h5]) _ (Qk.trans Qq)
  replace h5:=Decidable.not_not.1 h5;refine Wo (by omega) ?_;by_cases h6:t=Y5
  ·refine XH (e1.2 h6) ?_;exact bad (by unfold WZ;simp[h6]) _ (Qk.trans Qq)
  refine Q9 (λh=>h6 (e1.1 h)) ?_;by_cases h7:t=bW
  ·refine XH (e2.2 h7) ?_;exact bad (by unfold WZ;simp[h7]) _ (Qk.trans Qq)
  refine Q9 (λh=>h7 (e2.1 h)) ?_;have Zq:WZ t=true:=by unfold WZ;simp[h4,h5,h6,h7]
  refine jN (kv:=VV) (a:=Qe t) Qa rfl rfl rfl rfl rfl mQX rfl rfl rfl (XD.ext Qq) (λw5 Jw _ XS=>?_);refine Qi ((s+1:Nat):Int) (by omega) (by omega) ?_;refine⟨s+1,rfl,⟨(Qk.trans Qq).own Jw (QC _),by omega,dQv hall qP Zq,by rw[NQ qP];exact XS⟩,by show n-(s+1)<n-s;omega⟩
 ·have:s=n:=by omega
  subst this;have ht:names.take s=names:=Jm (by omega);rw[ht] at hall XD;refine dQu (kv:=VV) Qa rfl rfl rfl rfl XD ?_;refine Zh (λh4=>?_) (λh4=>?_)
  ·refine⟨.map (some w.heap.size),?_,Qk,λ_=>⟨_,rfl,QC _,XD⟩⟩;have:decide ((names.length:Int)<=64)=ZM names:=by unfold ZM;exact oM.2 ⟨λh=>⟨hall,by omega,by omega⟩,λh=>by omega⟩
   rw[<-this,hn]
  ·refine⟨.map (some w.heap.size),?_,Qk,λ_=>⟨_,rfl,QC _,XD⟩⟩;have:ZM names=false:=by unfold ZM;exact X4 (λh=>by omega)
   rw[this]
end
end
section
section
theorem Xq {C:World->Prop}{p:Addr}{n:Nat}{vs:List Value}{K:List Value->Prop}(hl:vs.length=n)(h:∀w,C w->∀j v,vs[j]? =some v->w.cell? (p.add j)=some v)(k:K vs):rJ C p n K:=by unfold rJ;exact⟨vs,hl,h,k⟩
def l6 (f:List Fz):List Value:=f.flatMap Fz.cells
theorem NR (f:List Fz)(x:Fz):l6 (f++ [x])=l6 f++x.cells:=by simp[l6]
structure Rd (w:World) (base r:Nat) (A:Option Addr) (c:Nat) (mp:Value) (p:Ps):Prop where
 blk:Blk w r 222 [mp,.string (Qe p.r),.slice A p.f.length c,.bool p.u]
 own:Own w base 280 4 A p.f.length c (l6 p.f)
 lt:r<base
 top:base<=w.heap.size
 b8:∀x∈p.r,x<256
 lim:p.f.length+p.r.length<=1000000000000
theorem Rd.ext {w w':World}{base r:Nat}{A:Option Addr}{c:Nat}{mp:Value}{p:Ps}(h:Rd w base r A c mp p)(k:Ext w w'):Rd w' base r A c mp p:=
 ⟨h.blk.ext k,h.own.ext k,h.lt,Zf h.top k.size,h.b8,h.lim⟩
def RdS (r:Nat)(A:Option Addr):Nat->Prop:=λk=>k=r∨Qj A k
def RdTo (w:World)(base r:Nat)(A:Option Addr)(mp:Value)(p:Ps)(w':World):Prop:=∃A' c',Rd w' base r A' c' mp p/\Mod (RdS r A) w w'/\Moved w A A'
theorem RdTo.step {w w1 w2:World}{base r:Nat}{A A1:Option Addr}{mp:Value}{p:Ps}(h:RdTo w1 base r A1 mp p w2)(hm:Mod (RdS r A) w w1)(hv:Moved w A A1):RdTo w base r A mp p w2:=by
 obtain⟨A2,c2,h2,XQ,J2⟩:=h;refine⟨A2,c2,h2,hm.trans XQ (λi hi=>?_),hv.trans J2 hm.size⟩;rcases hi with rfl | hi
 ·exact .inl (.inl rfl)
 ·rcases hv.rows i hi with h | h
  ·exact .inl (.inr h)
  ·exact .inr h
theorem Rd.nrow {w:World}{base r:Nat}{A:Option Addr}{c:Nat}{mp:Value}{p:Ps}(h:Rd w base r A c mp p):¬Qj A r:=λhr=>by
 have:=(h.own.rows r hr).1;have:=h.lt;omega
theorem rU (l:List Nat):(Zx l).length<=l.length:=(List.dropWhile_suffix _).sublist.length_le
theorem dQw {l:List Nat}(h:∀x∈l,x<256):∀x∈Zx l,x<256:=λx hx=>h x ((List.dropWhile_suffix _).subset hx)
theorem u7 (sym:List Nat)(p:Ps):Kd sym p=(sym.isPrefixOf (Zx p.r),{p with r:=if sym.isPrefixOf (Zx p.r)then(Zx p.r).drop sym.length else Zx p.r}):=by
 unfold Kd;cases sym.isPrefixOf (Zx p.r)<;>rfl
theorem rV (base r:Nat)(A:Option Addr)(c:Nat)(mp:Value)(p:Ps)(sym:List Nat)(w:World)(h:Rd w base r A c mp p)(hs:∀x∈sym,x<256):
  Fn Tryz.prog 142 [.pointer (some ⟨r,0,none⟩),.string (Qe sym)] w (λv w'=>v= .bool (Kd sym p).1/\Rd w' base r A c mp (Kd sym p).2/\Mod (·=r) w w'):=by
 have hl:=h.lim;have YE:=rU p.r;have dk:=dQw h.b8;refine QD (c:=cQm) Qa Tryz.func142 rfl rfl rfl ?_;refine Qp h.blk rfl ?_;refine call (dQn p.r w h.b8 (by omega)) ?_;rintro v w1 ⟨rfl,Qd⟩;refine XP (h.blk.ext Qd) (by simp) (λw2 XQ Qw=>?_);refine Qp Qw rfl ?_;refine call (dQi (Zx p.r) sym w2 dk hs) ?_;rintro v w3 ⟨rfl,rfl⟩;have hM:∀w3,Mod (·=r) w2 w3->Mod (·=r) w w3:=λw3 XD=>((Mod.of_ext (·=r) Qd).trans XQ (λi hi=>.inl hi)).trans XD (λi hi=>.inl hi)
 rw[u7];unfold uZ;cases hp:sym.isPrefixOf (Zx p.r)with
 | true=>
  refine XP Qw (by simp) (λw3 XD Qt=>?_);have ZQ:=hM w3 XD;have Xd:((Zx p.r).drop sym.length).length<=p.r.length:=by rw[Y3];omega
  exact⟨rfl,⟨Qt,h.own.mod ZQ (λi hi e=>by subst e;exact h.nrow hi),h.lt,Zf h.top ZQ.size,λx hx=>dk x (aZ hx),by show p.f.length+((Zx p.r).drop sym.length).length<=_;omega⟩,ZQ⟩
 | false=>
  refine XP Qw (by simp) (λw3 XD Qt=>?_);have ZQ:=hM w3 XD;exact⟨rfl,⟨Qt,h.own.mod ZQ (λi hi e=>by subst e;exact h.nrow hi),h.lt,Zf h.top ZQ.size,dk,by show p.f.length+(Zx p.r).length<=_;omega⟩,ZQ⟩
theorem pe (base r:Nat)(A:Option Addr)(c:Nat)(mp:Value)(p:Ps)(x:Fz)(w:World)(h:Rd w base r A c mp p)(hl:p.f.length+p.r.length+1<=1000000000000):
  Fn Tryz.prog 226 [.pointer (some ⟨r,0,none⟩),.agg x.cells.toArray] w (λv w'=>v= .int .i64 (p.f.length:Nat)/\RdTo w base r A mp (VU x p).2 w'):=by
 refine QD (c:=dQa) Qa Tryz.func226 rfl rfl rfl ?_;refine new (λw1 Qd Q3 Qh=>?_);have h1:=h.ext Qd;have VN:=h.own.rows;have hC0:Mod (Qj A) w1 w1.drew:=Mod.of_ext _ (Ext.drew w1);refine XC Qa (Mod (Qj A) w1) 8 [(true,0),(true,1),(true,2),(true,3),(true,4),(true,5),(false,6),(false,7)] (by kernel_rfl) hC0 ?_;refine QH (v:=.slice A p.f.length c) (λw' Qb=>by rw[(h1.blk.mod Qb h.nrow).cell];rfl) ?_;have Gw:¬Qj A w.heap.size:=λhr=>by have:=(VN _ hr).2;omega
 refine Xq (vs:=x.cells) rfl (λw' Qb j v hj=>by rw[(Qh.mod Qb Gw).cell];exact hj) ?_;refine XI Qa [x.cells] rfl rfl rfl rfl rfl ⟨rfl,rfl,⟨⟩⟩ rfl (λcs h=>by simp only[QL] at h;subst h;rfl) rfl (by decide) (by decide) ?_;intro w2 Qg Zb Qw;have Xs:=(Ext.drew w1).trans Qg;have h2:=h1.ext Xs;refine⟨Mod.of_ext _ Xs,?_⟩;have kG:Sl w2 4 (some ⟨w1.drew.heap.size,0,none⟩) 1 1 x.cells:=Sl.own (sz:=4) (n:=1) Qw (QC _) (by decide) (by simp[Fz.cells]);refine JB Qa rfl rfl rfl rfl rfl (by decide) rfl rfl ⟨_,rfl⟩ rfl rfl h2.own kG (by intro u hu;simp[Fz.cells] at hu;rcases hu with rfl | rfl | rfl | rfl<;>rfl) (by unfold maxLen;omega) (by show _*32<=_;omega) h2.top ?_;intro A' c' w3 XD mT A0;have Kf:Mod (Qj A) w1 w3:=(Mod.of_ext (Qj A) Xs).trans XD (λi hi=>.inl hi);refine⟨Kf,?_⟩;have Qt:=h1.blk.mod Kf h.nrow;refine XP Qt (by simp) (λw4 X1 Q4=>?_);refine Qp Q4 rfl ?_;have hz:=Xs.size;have Gy:∀k,Qj A' k->base<=k:=λk hk=>(mT.rows k hk).1
 have KH:Mod (RdS r A) w w4:=((Mod.of_ext (RdS r A) Qd).trans Kf (λi hi=>.inl (.inr hi))).trans X1 (λi hi=>.inl (.inl hi));refine Qi ((p.f.length:Nat):Int) (by omega) (by omega) ?_;refine⟨rfl,A',c',⟨?_,?_,h.lt,Zf h.top KH.size,h.b8,?_⟩,KH,A0.back (Zf Qd.size hz)⟩
 ·have e:(VU x p).2.f.length=p.f.length+1:=by simp[VU]
  rw[e];exact Q4
 ·have e:(VU x p).2.f.length=p.f.length+1:=by simp[VU]
  rw[e,show l6 (VU x p).2.f=l6 p.f++x.cells from NR _ _];exact mT.mod X1 (λk hk e=>by have:=Gy k hk;have:=h.lt;omega)
 ·have e:(VU x p).2.f.length=p.f.length+1:=by simp[VU]
  rw[e];show p.f.length+1+p.r.length<=_;omega
end
section
theorem pf {c:Cx}{o:Oper}{S:Env}{w:World}{K:Env->World->Prop}{Q:Zg}{t:Nat}{v:Value}{x:Operand}(ho:o.op= .panic x)(hx:S.ev x=some (.iface t v))
  (k:Q (.panic [{v:=.iface t v,recovered:=false}]) S w):X8 c o S w K Q:=by
 unfold X8;intro a hf;have e1:=hf.ev hx;unfold Oper.wp;have:(execOp a.eval o).run c.g.P w= .halt (.panic (.iface t v)) w:=by
  simp only[execOp,ho,e1];simp[Instr.panic,goPanic]
 rw[this];exact⟨S,hf,k⟩
def dQx:List PanicEntry:=[{v:=.iface 34 (.int .i64 31),recovered:=false}]
def PanTo (w:World)(r:Nat)(A:Option Addr)(ch:List PanicEntry)(w':World):Prop:=ch=dQx/\Mod (RdS r A) w w'
theorem RdS.trans {w w1 w2:World}{r:Nat}{A A1:Option Addr}(hm:Mod (RdS r A) w w1)(hv:Moved w A A1)(h:Mod (RdS r A1) w1 w2):Mod (RdS r A) w w2:=
 hm.trans h (λi hi=>by
  rcases hi with rfl | hi
  ·exact .inl (.inl rfl)
  ·rcases hv.rows i hi with h | h
   ·exact .inl (.inr h)
   ·exact .inr h)
theorem PanTo.step {w w1 w2:World}{r:Nat}{A A1:Option Addr}{ch:List PanicEntry}(h:PanTo w1 r A1 ch w2)(hm:Mod (RdS r A) w w1)(hv:Moved w A A1):PanTo w r A ch w2:=⟨h.1,RdS.trans hm hv h.2⟩
def rW (opd:Ps->Option (Nat×Ps)):Prop:=∀p a p',opd p=some (a,p')->p'.f.length+p'.r.length<=p.f.length+p.r.length/\p'.r.length<p.r.length
theorem l9 (sym:List Nat)(p p1:Ps)(b:Bool)(h:Kd sym p=(b,p1)):p1.f=p.f/\p1.u=p.u/\p1.r.length<=p.r.length/\(b=true->p1.r.length+sym.length<=p.r.length):=by
 rw[u7] at h;have ht:=rU p.r;cases h;refine⟨rfl,rfl,?_,λhb=>?_⟩
 ·show List.length (if _ then _ else _)<=_;split
  ·rw[Y3];omega
  ·exact ht
 ·show List.length (if _ then _ else _)+_<=_;rw[Qf hb,Y3];have:=(aQ0.1 hb).length_le;omega
theorem NS {sym:List Nat}{op:Int}{opd:Ps->Option (Nat×Ps)}(hs:0<sym.length)(hl:rW opd):∀(m a:Nat)(p:Ps)(b:Nat)(p':Ps),fo sym op opd m a p=some (b,p')->p'.f.length+p'.r.length<=p.f.length+p.r.length/\p'.r.length<=p.r.length
 | 0,a,p,b,p',h=>by cases h
 | m+1,a,p,b,p',h=>by
  unfold fo at h;cases hk:Kd sym p with
  | mk t p1=>
   obtain⟨h1,h2,h3,h4⟩:=l9 sym p p1 t hk;rw[hk] at h;cases t with
   | false=>cases h;rw[h1];omega
   | true=>
    simp only at h;cases ho:opd p1 with
    | none=>rw[ho] at h;cases h
    | some q=>
     obtain⟨d,p2⟩:=q;rw[ho] at h;simp only at h;obtain⟨h5,h6⟩:=hl p1 d p2 ho;have:=NS hs hl m _ _ b p' h;simp only[Qu,Xj,Z5] at this;have:=h4 rfl;rw[h1] at h5;omega
theorem Eq {sym:List Nat}{op:Int}{opd:Ps->Option (Nat×Ps)}(hs:0<sym.length)(hl:rW opd):rW (Vn sym op opd):=by
 intro p b p' h;unfold Vn at h;cases ho:opd p with
 | none=>rw[ho] at h;cases h
 | some q=>
  obtain⟨a,p1⟩:=q;rw[ho] at h;simp only at h;have h1:=hl p a p1 ho;have h2:=NS hs hl _ _ _ b p' h;omega
structure OpdC (L base r:Nat) (mp:Value) (fid:Nat) (args:List Value) (G:World->Option Addr->Prop) (opd:Ps->Option (Nat×Ps)):Prop where
 run:∀w A c p,Rd w base r A c mp p->G w A->p.r.length<L->FnP Tryz.prog fid args w (λv w'=>∃(a:Nat) (p':Ps),opd p=some (a,p')/\v= .int .i64 (a:Nat)/\RdTo w base r A mp p' w') (λch w'=>opd p=none/\PanTo w r A ch w')
 stay:∀w w' A A',G w A->Mod (RdS r A) w w'->Moved w A A'->G w' A'
 lim:rW opd
structure Est where
 a:Nat
 p:Ps
 A:Option Addr
 c:Nat
theorem dQy (L base r:Nat)(A:Option Addr)(c:Nat)(mp:Value)(p:Ps)(sym:List Nat)(op:Int)(G:World->Option Addr->Prop)(opd:Ps->Option (Nat×Ps))(w:World)
  (h:Rd w base r A c mp p) (hG:G w A) (hs:∀x∈sym,x<256) (A6:0<sym.length) (hL:p.r.length<L) (H:OpdC L base r mp 198 [.pointer (some ⟨r,0,none⟩)] G opd):
  FnP Tryz.prog 196 [.pointer (some ⟨r,0,none⟩),.string (Qe sym),.int .i64 op,.func (.func 198) #[.pointer (some ⟨r,0,none⟩)] #[]] w
   (λv w'=>∃(a:Nat) (p':Ps),Vn sym op opd p=some (a,p')/\v= .int .i64 (a:Nat)/\RdTo w base r A mp p' w') (λch w'=>Vn sym op opd p=none/\PanTo w r A ch w'):=by
 refine aB (c:={Nz with cuts:=[]}) Qa Tryz.func196 rfl rfl rfl ?_;refine XO (H.run w A c p h hG hL) ?_ ?_
 rotate_left
 ·rintro ch w1 ⟨ho,hp⟩;refine⟨?_,hp⟩;unfold Vn;rw[ho]
 rintro v w1 ⟨a,p1,ho,rfl,A1,c1,h1,Zo,kJ⟩;obtain⟨Xy,J3⟩:=H.lim p a p1 ho;have Jy:Vn sym op opd p=fo sym op opd (p1.r.length+1) a p1:=by unfold Vn;rw[ho]
 refine loop Qa [9] (λs:Est=>[.int .i64 s.a]) (λs w'=>Rd w' base r s.A s.c mp s.p/\G w' s.A/\s.p.r.length<L/\Mod (RdS r A) w w'/\Moved w A s.A/\∃m,s.p.r.length<m/\fo sym op opd m s.a s.p=Vn sym op opd p) (λs _=>s.p.r.length) ⟨a,p1,A1,c1⟩ rfl ⟨h1,H.stay w w1 A A1 hG Zo kJ,by show p1.r.length<L;omega,Zo,kJ,_,dI _,Jy.symm⟩ ?_;rintro⟨d,q,A2,c2⟩ w2 ⟨h2,mU,Gz,XQ,J2,m,Le,ZQ⟩;simp only at h2 mU Gz XQ J2 Le ZQ;refine call (rV base r A2 c2 mp q sym w2 h2 hs) ?_;rintro v w3 ⟨rfl,h3,XD⟩;cases m with
 | zero=>omega
 | succ m=>
 unfold fo at ZQ;have wk:Mod (RdS r A2) w2 w3:=XD.mono (λi hi=>.inl (.inl hi));have dm:=RdS.trans XQ J2 wk;cases hk:Kd sym q with
 | mk t q1=>
  obtain⟨k1,k2,k3,k4⟩:=l9 sym q q1 t hk;rw[hk] at h3 ZQ;simp only at h3;cases t with
  | false=>
   refine Q5 rfl ?_;exact⟨d,q1,ZQ.symm,rfl,A2,c2,h3,dm,J2⟩
  | true=>
   refine Xa rfl ?_;simp only at ZQ;have k5:=k4 rfl;have pU:=H.stay w2 w3 A2 A2 mU wk (Moved.refl _ _);refine XO (H.run w3 A2 c2 q1 h3 pU (by omega)) ?_ ?_
   rotate_left
   ·rintro ch w4 ⟨fE,hp⟩;rw[fE] at ZQ;exact⟨ZQ.symm,hp.step dm J2⟩
   rintro v w4 ⟨b,q2,fE,rfl,A4,c4,h4,X1,mV⟩;obtain⟨l1,l2⟩:=H.lim q1 b q2 fE;rw[fE] at ZQ;simp only at ZQ;have hlq:=h2.lim;rw[k1] at l1;have wl:=H.stay w3 w4 A2 A4 pU X1 mV;have aK:=RdS.trans dm J2 X1;have wm:=J2.trans mV dm.size;refine call (pe base r A4 c4 mp q2 ⟨op,0,d,b⟩ w4 h4 (by omega)) ?_;rintro v w5 ⟨rfl,A5,c5,h5,XS,V5⟩;refine⟨⟨q2.f.length,(VU ⟨op,0,d,b⟩ q2).2,A5,c5⟩,rfl,⟨h5,H.stay w4 w5 A4 A5 wl XS V5,?_,RdS.trans aK wm XS,wm.trans V5 aK.size,m,?_,ZQ⟩,?_⟩
   ·show q2.r.length<L;omega
   ·show q2.r.length<m;omega
   ·show q2.r.length<q.r.length;omega
theorem dQz (L base r:Nat)(A:Option Addr)(c:Nat)(mp:Value)(p:Ps)(sym:List Nat)(op:Int)(x:Nat)(G:World->Option Addr->Prop)(opd:Ps->Option (Nat×Ps))(w:World)
  (h:Rd w base r A c mp p) (hG:G w A) (hs:∀x∈sym,x<256) (A6:0<sym.length) (hL:p.r.length<L) (H:OpdC L base r mp 197 [.pointer (some ⟨x,0,none⟩)] G opd):
  FnP Tryz.prog 196 [.pointer (some ⟨r,0,none⟩),.string (Qe sym),.int .i64 op,.func (.func 197) #[] #[.pointer (some ⟨x,0,none⟩)]] w
   (λv w'=>∃(a:Nat) (p':Ps),Vn sym op opd p=some (a,p')/\v= .int .i64 (a:Nat)/\RdTo w base r A mp p' w') (λch w'=>Vn sym op opd p=none/\PanTo w r A ch w'):=by
 refine aB (c:={Nz with cuts:=[]}) Qa Tryz.func196 rfl rfl rfl ?_;refine XO (H.run w A c p h hG hL) ?_ ?_
 rotate_left
 ·rintro ch w1 ⟨ho,hp⟩;refine⟨?_,hp⟩;unfold Vn;rw[ho]
 rintro v w1 ⟨a,p1,ho,rfl,A1,c1,h1,Zo,kJ⟩;obtain⟨Xy,J3⟩:=H.lim p a p1 ho;have Jy:Vn sym op opd p=fo sym op opd (p1.r.length+1) a p1:=by unfold Vn;rw[ho]
 refine loop Qa [9] (λs:Est=>[.int .i64 s.a]) (λs w'=>Rd w' base r s.A s.c mp s.p/\G w' s.A/\s.p.r.length<L/\Mod (RdS r A) w w'/\Moved w A s.A/\∃m,s.p.r.length<m/\fo sym op opd m s.a s.p=Vn sym op opd p) (λs _=>s.p.r.length) ⟨a,p1,A1,c1⟩ rfl ⟨h1,H.stay w w1 A A1 hG Zo kJ,by show p1.r.length<L;omega,Zo,kJ,_,dI _,Jy.symm⟩ ?_;rintro⟨d,q,A2,c2⟩ w2 ⟨h2,mU,Gz,XQ,J2,m,Le,ZQ⟩;simp only at h2 mU Gz XQ J2 Le ZQ;refine call (rV base r A2 c2 mp q sym w2 h2 hs) ?_;rintro v w3 ⟨rfl,h3,XD⟩;cases m with
 | zero=>omega
 | succ m=>
 unfold fo at ZQ;have wk:Mod (RdS r A2) w2 w3:=XD.mono (λi hi=>.inl (.inl hi));have dm:=RdS.trans XQ J2 wk;cases hk:Kd sym q with
 | mk t q1=>
  obtain⟨k1,k2,k3,k4⟩:=l9 sym q q1 t hk;rw[hk] at h3 ZQ;simp only at h3;cases t with
  | false=>
   refine Q5 rfl ?_;exact⟨d,q1,ZQ.symm,rfl,A2,c2,h3,dm,J2⟩
  | true=>
   refine Xa rfl ?_;simp only at ZQ;have k5:=k4 rfl;have pU:=H.stay w2 w3 A2 A2 mU wk (Moved.refl _ _);refine XO (H.run w3 A2 c2 q1 h3 pU (by omega)) ?_ ?_
   rotate_left
   ·rintro ch w4 ⟨fE,hp⟩;rw[fE] at ZQ;exact⟨ZQ.symm,hp.step dm J2⟩
   rintro v w4 ⟨b,q2,fE,rfl,A4,c4,h4,X1,mV⟩;obtain⟨l1,l2⟩:=H.lim q1 b q2 fE;rw[fE] at ZQ;simp only at ZQ;have hlq:=h2.lim;rw[k1] at l1;have wl:=H.stay w3 w4 A2 A4 pU X1 mV;have aK:=RdS.trans dm J2 X1;have wm:=J2.trans mV dm.size;refine call (pe base r A4 c4 mp q2 ⟨op,0,d,b⟩ w4 h4 (by omega)) ?_;rintro v w5 ⟨rfl,A5,c5,h5,XS,V5⟩;refine⟨⟨q2.f.length,(VU ⟨op,0,d,b⟩ q2).2,A5,c5⟩,rfl,⟨h5,H.stay w4 w5 A4 A5 wl XS V5,?_,RdS.trans aK wm XS,wm.trans V5 aK.size,m,?_,ZQ⟩,?_⟩
   ·show q2.r.length<L;omega
   ·show q2.r.length<m;omega
   ·show q2.r.length<q.r.length;omega
end
section
theorem Ke {p:Prop}{v v':Value}{K:Value->Prop}(hp:p)(h:v=v')(k:K v'):iw p v K:=by unfold iw;exact⟨hp,by rw[h];exact k⟩
theorem MapAt.mod {α:Type}{kv:α->Value}{S:Nat->Prop}{w w':World}{r:Nat}{m:List (α×Value)}(h:MapAt kv w r m)(k:Mod S w w')(hn:¬S r):MapAt kv w' r m:=by
 obtain⟨bs,ck,hl,hb⟩:=h.ex;exact⟨bs,ck,hl,(k.block r (eY.1 hb).1 hn).trans hb⟩
theorem u9 {α:Type} [DecidableEq α]{kv:α->Value}{c:Cx}{o:Oper}{S:Env}{w:World}{K:Env->World->Prop}{Q:Zg}{t ke e:Nat}{r rk re:TyRow}{x y:Operand}{q:Nat}{m:List (α×Value)}{a:α}{v:Value}{b:Bool}(hg:c.g.Ok)
  (ho:o.op= .lookup t x y true) (hr:QU c.g.tys t=some r) (hd:r.d= .map ke e) (aS:QU c.g.tys ke=some rk) (X7:QU c.g.tys e=some re) (hk:KeyV rk.d kv)
  (hx:S.ev x=some (.map (some q))) (hy:S.ev y=some (kv a)) (hm:MapAt kv w q m) (hv:(Xv a m).getD re.z=v) (hb:(Xv a m).isSome=b) (k:Xk c S o.dst (.v (.tuple #[v,.bool b])) (λS=>K S w)):X8 c o S w K Q:=by
 subst hv;subst hb;exact bQQ hg ho hr hd aS X7 hk hx hy hm k
section
variable (ix:List Nat->Option Nat) (n:Nat)
theorem Er {p p1:Ps}(h:Kd [33] p=(true,p1)):bV ix (n+1) p=match bV ix n p1 with
  | none=>none
  | some (a,p2)=>some (VU ⟨3,0,a,0⟩ p2):=by rw[bV,h]<;>rfl
theorem Es {p p1 p2:Ps}(h:Kd [33] p=(false,p1))(h2:Kd [40] p1=(true,p2)):bV ix (n+1) p=match gg ix n p2 with
  | none=>none
  | some (a,p3)=>match Kd [41] p3 with
   | (true,p4)=>some (a,p4)
   | (false,_)=>none:=by rw[bV,h];simp only;rw[h2]<;>rfl
theorem Et {p p1 p2:Ps}(h:Kd [33] p=(false,p1))(h2:Kd [40] p1=(false,p2)):bV ix (n+1) p=if Vm p2.r=0 then none else
   if p2.r.take (Vm p2.r)=Y5 then some (VU ⟨1,0,0,0⟩ {p2 with r:=p2.r.drop (Vm p2.r)})else if p2.r.take (Vm p2.r)=bW then some (VU ⟨0,0,0,0⟩ {p2 with r:=p2.r.drop (Vm p2.r)})else
    some (VU ⟨2,((ix (p2.r.take (Vm p2.r))).getD 0:Nat),0,0⟩ {p2 with r:=p2.r.drop (Vm p2.r),u:=p2.u||(ix (p2.r.take (Vm p2.r))).isNone}):=by
 rw[bV,h];simp only;rw[h2]<;>rfl
end
theorem Eu (ix:List Nat->Option Nat):∀n,rW (bV ix n)
 | 0=>λp a p' h=>by cases h
 | n+1=>λp a p' h=>by
  have ih:=Eu ix n;cases hk:Kd [33] p with
  | mk t p1=>
   obtain⟨k1,_,k3,k4⟩:=l9 _ p p1 t hk;cases t with
   | true=>
    rw[Er ix n hk] at h;cases ho:bV ix n p1 with
    | none=>rw[ho] at h;cases h
    | some q=>
     obtain⟨d,p2⟩:=q;rw[ho] at h;cases h;have:=ih p1 d p2 ho;have:=k4 rfl;rw[k1] at*;simp only[Qu,Xj,Z5] at*;omega
   | false=>
    cases VH:Kd [40] p1 with
    | mk t2 p2=>
     obtain⟨j1,_,j3,j4⟩:=l9 _ p1 p2 t2 VH;cases t2 with
     | true=>
      rw[Es ix n hk VH] at h;cases ho:gg ix n p2 with
      | none=>rw[ho] at h;cases h
      | some q=>
       obtain⟨d,p3⟩:=q;rw[ho] at h;simp only at h;have hw:rW (gg ix n):=Eq (by decide) (Eq (by decide) ih);have:=hw p2 d p3 ho;cases iW:Kd [41] p3 with
       | mk t3 p4=>
        obtain⟨i1,_,i3,i4⟩:=l9 _ p3 p4 t3 iW;rw[iW] at h;cases t3 with
        | false=>cases h
        | true=>
         cases h;have:=j4 rfl;have:=i4 rfl;rw[i1];rw[j1,k1] at*;omega
     | false=>
      rw[Et ix n hk VH] at h;split at h
      ·cases h
      rename_i hn;have ZO:=NM p2.r;have key:(p2.r.drop (Vm p2.r)).length+1<=p2.r.length:=by rw[Y3];omega
      rw[j1,k1] at*;split at h
      ·cases h;simp only[Qu,Xj,Z5];rw[j1,k1];omega
      split at h
      ·cases h;simp only[Qu,Xj,Z5];rw[j1,k1];omega
      ·cases h;simp only[Qu,Xj,Z5];rw[j1,k1];omega
def GM (r q:Nat)(m:List (ByteArray×Value))(w:World)(A:Option Addr):Prop:=MapAt VV w q m/\q≠r/\¬Qj A q
theorem GM.stay {r q:Nat}{m:List (ByteArray×Value)}{w w':World}{A A':Option Addr}(h:GM r q m w A)(hm:Mod (RdS r A) w w')(hv:Moved w A A'):GM r q m w' A':=
 ⟨h.1.mod hm (λe=>e.elim h.2.1 h.2.2),h.2.1,λhr=>(hv.rows q hr).elim h.2.2 (λZO=>by have:=h.1.lt;omega)⟩
def GB (r q x:Nat)(m:List (ByteArray×Value))(w:World)(A:Option Addr):Prop:=GM r q m w A/\Blk w x 220 [.pointer (some ⟨r,0,none⟩)]/\x≠r/\¬Qj A x
theorem GB.stay {r q x:Nat}{m:List (ByteArray×Value)}{w w':World}{A A':Option Addr}(h:GB r q x m w A)(hm:Mod (RdS r A) w w')(hv:Moved w A A'):GB r q x m w' A':=
 ⟨h.1.stay hm hv,h.2.1.mod hm (λe=>e.elim h.2.2.1 h.2.2.2),h.2.2.1,λhr=>(hv.rows x hr).elim h.2.2.2 (λZO=>by have:=h.2.1.lt;omega)⟩
theorem dQA {L base r q x:Nat}{m:List (ByteArray×Value)}{mp:Value}{opd:Ps->Option (Nat×Ps)}(H:OpdC L base r mp 198 [.pointer (some ⟨r,0,none⟩)] (GM r q m) opd):
  OpdC L base r mp 197 [.pointer (some ⟨x,0,none⟩)] (GB r q x m) (Vn [38,38] 4 opd):=by
 refine⟨λw A c p h hG hL=>?_,λw w' A A' h hm hv=>h.stay hm hv,Eq (by decide) H.lim⟩;refine aB (c:={cQT with cuts:=[]}) Qa Tryz.func197 rfl rfl rfl ?_;refine Qx hG.2.1 rfl ?_;refine Qx hG.2.1 rfl ?_;refine XO (dQy L base r A c mp p [38,38] 4 (GM r q m) opd w h hG.1 (by decide) (by decide) hL H) ?_ ?_
 ·rintro v w1 ⟨a,p',h1,rfl,h2⟩;exact⟨a,p',h1,rfl,h2⟩
 ·rintro ch w1 h1;exact h1
theorem NT (L base r:Nat)(A:Option Addr)(c:Nat)(p:Ps)(q:Nat)(m:List (ByteArray×Value))(mp:Value)(opd:Ps->Option (Nat×Ps))(w:World)(h:Rd w base r A c mp p)(hG:GM r q m w A)(hL:p.r.length<L)
  (H:OpdC L base r mp 198 [.pointer (some ⟨r,0,none⟩)] (GM r q m) opd):
  FnP Tryz.prog 141 [.pointer (some ⟨r,0,none⟩)] w (λv w'=>∃(a:Nat) (p':Ps),Vn [124,124] 5 (Vn [38,38] 4 opd) p=some (a,p')/\v= .int .i64 (a:Nat)/\RdTo w base r A mp p' w') (λch w'=>Vn [124,124] 5 (Vn [38,38] 4 opd) p=none/\PanTo w r A ch w'):=by
 refine aB (c:={cQl with cuts:=[]}) Qa Tryz.func141 rfl rfl rfl ?_;refine new (λw1 Qd Q3 Qh=>?_);refine Qx Qh rfl ?_;have Xc:=h.lt;have lv:=h.top;have d8:Mod (RdS r A) w w1:=Mod.of_ext _ Qd;have hn:¬Qj A w.heap.size:=λhr=>by have:=(h.own.rows _ hr).2;omega
 refine XO (dQz L base r A c mp p [124,124] 5 w.heap.size (GB r q w.heap.size m) (Vn [38,38] 4 opd) w1 (h.ext Qd) ⟨hG.stay d8 (Moved.refl _ _),Qh,by omega,hn⟩ (by decide) (by decide) hL (dQA H)) ?_ ?_
 ·rintro v w2 ⟨a,p',h1,rfl,h2⟩;exact⟨a,p',h1,rfl,h2.step d8 (Moved.refl _ _)⟩
 ·rintro ch w2 ⟨h1,h2⟩;exact⟨h1,h2.step d8 (Moved.refl _ _)⟩
end
section
def NU (ix:List Nat->Option Nat)(m:List (ByteArray×Value)):Prop:=∀l:List Nat,(∀x∈l,x<256)->Xv (Qe l) m=(ix l).map (λv:Nat=>Value.int .i64 v)
theorem NV (ix:List Nat->Option Nat)(base r q:Nat)(m:List (ByteArray×Value))(Kb:NU ix m):∀n,OpdC n base r (.map (some q)) 198 [.pointer (some ⟨r,0,none⟩)] (GM r q m) (bV ix n)
 | 0=>⟨λw A c p _ _ h=>Q8 h (by omega),λw w' A A' h hm hv=>h.stay hm hv,Eu ix 0⟩
 | n+1=>by
  have ih:=NV ix base r q m Kb n;refine⟨λw A c p h hG hL=>?_,λw w' A A' h hm hv=>h.stay hm hv,Eu ix (n+1)⟩;refine aB (c:={cQU with cuts:=[]}) Qa Tryz.func198 rfl rfl rfl ?_;refine call (rV base r A c _ p [33] w h (by decide)) ?_;rintro v w1 ⟨rfl,h1,Zo⟩;have tr:Mod (RdS r A) w w1:=Zo.mono (λi hi=>.inl (.inl hi));have To:=hG.stay tr (Moved.refl _ _);cases hk:Kd [33] p with
  | mk t p1=>
   obtain⟨k1,_,k3,k4⟩:=l9 _ p p1 t hk;rw[hk] at h1;simp only at h1;cases t with
   | true=>
    refine Xa rfl ?_;have hl:=k4 rfl;simp only[Xj,Z5] at hl;have Yb:=Er ix n hk;refine XO (ih.run w1 A c p1 h1 To (by omega)) ?_ ?_
    rotate_left
    ·rintro ch w2 ⟨ho,hp⟩;rw[ho] at Yb;exact⟨Yb,hp.step tr (Moved.refl _ _)⟩
    rintro v w2 ⟨a,p2,ho,rfl,A2,c2,h2,XQ,J2⟩;rw[ho] at Yb;have J3:=(ih.lim p1 a p2 ho).1;have Bc:=h.lim;rw[k1] at J3;refine call (pe base r A2 c2 _ p2 ⟨3,0,a,0⟩ w2 h2 (by omega)) ?_;rintro v w3 ⟨rfl,h3⟩;exact⟨p2.f.length,_,Yb,rfl,(h3.step XQ J2).step tr (Moved.refl _ _)⟩
   | false=>
    refine Q5 rfl ?_;refine call (rV base r A c _ p1 [40] w1 h1 (by decide)) ?_;rintro v w2 ⟨rfl,h2,XQ⟩;have Tp:Mod (RdS r A) w1 w2:=XQ.mono (λi hi=>.inl (.inl hi));have Be:=RdS.trans tr (Moved.refl _ _) Tp;have mU:=To.stay Tp (Moved.refl _ _);cases VH:Kd [40] p1 with
    | mk t2 p2=>
     obtain⟨j1,_,j3,j4⟩:=l9 _ p1 p2 t2 VH;rw[VH] at h2;simp only at h2;cases t2 with
     | true=>
      refine Xa rfl ?_;have hl:=j4 rfl;simp only[Xj,Z5] at hl;have Yb:=Es ix n hk VH;refine XO (NT n base r A c p2 q m _ (bV ix n) w2 h2 mU (by omega) ih) ?_ ?_
      rotate_left
      ·rintro ch w3 ⟨ho,hp⟩;rw[show gg ix n p2=none from ho] at Yb;exact⟨Yb,hp.step Be (Moved.refl _ _)⟩
      rintro v w3 ⟨a,p3,ho,rfl,A3,c3,h3,XD,am⟩;rw[show gg ix n p2=some (a,p3) from ho] at Yb;have dm:=RdS.trans Be (Moved.refl _ _) XD;have Tq:=am.back Be.size;simp only at Yb;refine call (rV base r A3 c3 _ p3 [41] w3 h3 (by decide)) ?_;rintro v w4 ⟨rfl,h4,X1⟩;have Bf:Mod (RdS r A3) w3 w4:=X1.mono (λi hi=>.inl (.inl hi));have aK:=RdS.trans dm Tq Bf;cases iW:Kd [41] p3 with
      | mk t3 p4=>
       rw[iW] at h4 Yb;simp only at h4;cases t3 with
       | true=>
        refine Q5 rfl ?_;exact⟨a,p4,Yb,rfl,A3,c3,h4,aK,Tq⟩
       | false=>
        refine Xa rfl ?_;exact pf rfl rfl ⟨Yb,rfl,aK⟩
     | false=>
      refine Q5 rfl ?_;have Yb:=Et ix n hk VH;have hlp:=h2.lim;have h8:=h2.b8;have hM:∀w',Ext w2 w'->Mod (RdS r A) w w':=λw' hE=>RdS.trans Be (Moved.refl _ _) (Mod.of_ext _ hE)
      refine Qp h2.blk rfl ?_;refine call (NN p2.r w2 h8 (by omega)) ?_;rintro v w3 ⟨rfl,Qk⟩;have h3:=h2.ext Qk;have pU:=mU.stay (Mod.of_ext _ Qk) (Moved.refl _ _);have dm:=hM w3 Qk;have ZO:=NM p2.r;by_cases hn:Vm p2.r=0
      ·refine Kc (by omega) ?_;rw[Qf hn] at Yb;exact pf rfl rfl ⟨Yb,rfl,dm⟩
      refine XB (by omega) ?_;rw[if_neg hn] at Yb;generalize hd:Vm p2.r=d at*;refine Qp h3.blk rfl ?_;refine Ke (v':=.string (Qe (p2.r.take d))) ⟨by omega,by omega,by rw[XF];omega⟩ ?_ ?_
      ·simp only[fc,Int.toNat_zero,KN,rz]
      refine Qp h3.blk rfl ?_;refine Ke (v':=.string (Qe (p2.r.drop d))) ⟨by omega,by rw[XF];omega,by omega⟩ ?_ ?_
      ·simp only[fc,KN,XF,rA]
      refine XP h3.blk (by simp) (λw4 X1 Q4=>?_);have Bf:Mod (RdS r A) w3 w4:=X1.mono (λi hi=>.inl (.inl hi));have aK:=RdS.trans dm (Moved.refl _ _) Bf;have wl:=pU.stay Bf (Moved.refl _ _);have Yp:(p2.r.drop d).length+d=p2.r.length:=by rw[Y3];omega
      have h4:Rd w4 base r A c (.map (some q)) {p2 with r:=p2.r.drop d}:=⟨Q4,h3.own.mod X1 (λi hi e=>by subst e;exact h3.nrow hi),h3.lt,Zf h3.top X1.size,B8.drop h8 d,by show p2.f.length+(p2.r.drop d).length<=_;omega⟩
      have GA:=B8.take h8 d;generalize hwd:p2.r.take d=word at*;have e1:((Qe word=(⟨#[116,114,117,101]⟩:ByteArray))↔word=Y5):=⟨λh=>Jc GA (by decide) h,λh=>by rw[h];rfl⟩
      have e2:((Qe word=(⟨#[102,97,108,115,101]⟩:ByteArray))↔word=bW):=⟨λh=>Jc GA (by decide) h,λh=>by rw[h];rfl⟩
      by_cases h6:word=Y5
      ·rw[Qf h6] at Yb;refine XH (e1.2 h6) ?_;refine call (pe base r A c _ _ ⟨1,0,0,0⟩ w4 h4 (by show p2.f.length+(p2.r.drop d).length+1<=_;omega)) ?_;rintro v w5 ⟨rfl,h5⟩;exact⟨_,_,Yb,rfl,h5.step aK (Moved.refl _ _)⟩
      rw[if_neg h6] at Yb;refine Q9 (λh=>h6 (e1.1 h)) ?_;by_cases h7:word=bW
      ·rw[Qf h7] at Yb;refine XH (e2.2 h7) ?_;refine call (pe base r A c _ _ ⟨0,0,0,0⟩ w4 h4 (by show p2.f.length+(p2.r.drop d).length+1<=_;omega)) ?_;rintro v w5 ⟨rfl,h5⟩;exact⟨_,_,Yb,rfl,h5.step aK (Moved.refl _ _)⟩
      rw[if_neg h7] at Yb;refine Q9 (λh=>h7 (e2.1 h)) ?_;refine Qx h4.blk rfl ?_;have WT:=Kb word GA;refine u9 (kv:=VV) (a:=Qe word) (v:=.int .i64 ((ix word).getD 0:Nat)) (b:=(ix word).isSome) Qa rfl rfl rfl rfl rfl mQX rfl rfl wl.1 (by rw[WT];cases ix word<;>rfl) (by rw[WT];cases ix word<;>rfl) ?_;refine Qp h4.blk rfl ?_;have fin:∀w5 u,Mod (·=r) w4 w5->Blk w5 r 222 [.map (some q),.string (Qe (p2.r.drop d)),.slice A p2.f.length c,.bool u]->u=(p2.u||(ix word).isNone)->Rd w5 base r A c (.map (some q)) {p2 with r:=p2.r.drop d,u:=p2.u||(ix word).isNone}/\Mod (RdS r A) w w5:=λw5 u XS QK hu=>by
       subst hu;exact⟨⟨QK,h4.own.mod XS (λi hi e=>by subst e;exact h4.nrow hi),h4.lt,Zf h4.top XS.size,h4.b8,h4.lim⟩,RdS.trans aK (Moved.refl _ _) (XS.mono (λi hi=>.inl (.inl hi)))⟩
      refine Wn (λhu=>?_) (λhu=>?_)
      ·refine XP h4.blk (by simp) (λw5 XS QK=>?_);obtain⟨h5,GC⟩:=fin w5 true XS QK (by rw[show p2.u=true from hu];rfl);refine call (pe base r A c _ _ ⟨2,((ix word).getD 0:Nat),0,0⟩ w5 h5 (by show p2.f.length+(p2.r.drop d).length+1<=_;omega)) ?_;rintro v w6 ⟨rfl,h6⟩;exact⟨_,_,Yb,rfl,h6.step GC (Moved.refl _ _)⟩
      ·refine XP h4.blk (by simp) (λw5 XS QK=>?_);obtain⟨h5,GC⟩:=fin w5 (!(ix word).isSome) XS QK (by rw[show p2.u=false from hu];cases ix word<;>rfl);refine call (pe base r A c _ _ ⟨2,((ix word).getD 0:Nat),0,0⟩ w5 h5 (by show p2.f.length+(p2.r.drop d).length+1<=_;omega)) ?_;rintro v w6 ⟨rfl,h6⟩;exact⟨_,_,Yb,rfl,h6.step GC (Moved.refl _ _)⟩
end
section
abbrev ve:=Exit->Act->World->Prop
def gh (P:Program):List Code->ve->Act->World->Prop
 | [],G,a,w=>G .normal a w
 | y::ys,G,a,w=>y.wp P (λe a w=>match e with
  | .normal=>gh P ys G a w
  | e=>G e a w) a w
@[irreducible] def YL (c:Cx) (l:List Code) (S:Env) (w:World) (G:ve):Prop:=∀a,Fits c.N S a->gh c.g.P l G a w
@[irreducible] def Y6 (c:Cx) (S:Env) (w:World) (e:Exit) (G:ve):Prop:=∀a,Fits c.N S a->G e a w
section
variable {c:Cx} {S:Env} {w:World} {G:ve}
theorem fp (h:Y6 c S w .normal G):YL c [] S w G:=by unfold YL;unfold Y6 at h;exact h
theorem ZE {x y:Code}{l:List Code}(h:YL c (x::y::l) S w G):YL c (.seq x y::l) S w G:=by
 unfold YL at*;intro a hf;have h1:=h a hf;unfold gh at h1;unfold gh;refine wp_seq (wp_mono h1 (λe a w hq=>?_));cases e<;>first | exact hq | (unfold gh at hq;exact hq)
theorem Zt (hg:c.g.Ok){x:Code}{l:List Code}(h:K9 c x S w (λe S w=>match e with
  | .normal=>YL c l S w G
  | e=>Y6 c S w e G)):YL c (x::l) S w G:=by
 unfold YL;intro a hf;unfold gh;refine wp_mono (iA hg x S w _ a h hf) (λe a w ⟨S',QY,hq⟩=>?_);cases e with
 | normal=>simp only at hq;unfold YL at hq;exact hq a QY
 | exit i=>simp only at hq;unfold Y6 at hq;exact hq a QY
 | goto i=>simp only at hq;unfold Y6 at hq;exact hq a QY
 | ret=>simp only at hq;unfold Y6 at hq;exact hq a QY
 | panic i=>simp only at hq;unfold Y6 at hq;exact hq a QY
 | outgrown=>simp only at hq;unfold Y6 at hq;exact hq a QY
theorem dQB {t:Nat}{x y:Code}{l:List Code}{b:Bool}(ht:S.get t=some (.bool b))(hb:b=true)(h:YL c (x::l) S w G):YL c (.cond (.tmp t) x y::l) S w G:=by
 subst hb;unfold YL at*;intro a hf;have h1:=h a hf;unfold gh at*;have:=hf.get ht;exact wp_cond_true (by simp[Act.eval,this]) h1
theorem dQC {t:Nat}{x y:Code}{l:List Code}{b:Bool}(ht:S.get t=some (.bool b))(hb:b=false)(h:YL c (y::l) S w G):YL c (.cond (.tmp t) x y::l) S w G:=by
 subst hb;unfold YL at*;intro a hf;have h1:=h a hf;unfold gh at*;have:=hf.get ht;exact wp_cond_false (by simp[Act.eval,this]) h1
theorem vf (hg:c.g.Ok){id:Nat}{ops:Array Oper}{l:List Code}{o:Oper}{f:Operand}{xs:Array Operand}{ts:Array TypeId}(Zr:ops.toList=ops.toList.dropLast++ [o])(ho:o.op= .defer ⟨.value f,xs,ts⟩)(Kx:o.guard=none)(ia:o.dst=none)
  (h:Yq {c with named:=1000000} ops.toList ops.toList.dropLast S w (λS w=>∃fv cap first asx,S.ev f=some (.func fv first cap)/\oU S xs.toList=some asx/\YL {c with N:=⟨c.N.n,⟨.fn fv cap,first++asx.toArray⟩::c.N.ds⟩} l S w G) (λe S w=>Y6 c S w e G)):YL c (.region id ops false::l) S w G:=by
 unfold YL;intro a hf;unfold gh;refine wp_region_list ?_;have h1:=jF (c:={c with named:=1000000}) hg ops.toList ops.toList.dropLast S w a h hf;have key:∀(Q:ve) (m1 m2:List Oper) (a:Act) (w:World),wpList c.g.P ops (λe a w=>match e with
   | .normal=>wpList c.g.P ops Q m2 a w
   | e=>Q e a w) m1 a w->wpList c.g.P ops Q (m1++m2) a w:=by
  intro Q m1;induction m1 with
  | nil=>intro m2 a w h;exact h
  | cons o1 m1 ih=>
   intro m2 a w h;rw[Jb];unfold wpList at h ⊢;split
   ·rename_i hw;rw[Qf hw] at h;rcases h with h | ⟨h1,a0,w0,h2⟩
    ·refine .inl ?_;have h2:=Oper.wp_mono (K':=wpList c.g.P ops Q (m1++m2)) (λa w=>ih m2 a w) h;unfold Oper.wp at h2 ⊢;generalize (execOp a.eval o1).run c.g.P w=r at*;cases r with
     | ok n w'=>cases n<;>simp only[Oper.upon] at h2 ⊢ <;> exact h2
     | halt x w'=>cases x<;>simp only[Oper.upon] at h2 ⊢ <;> exact h2
    ·exact .inr ⟨h1,a0,w0,h2⟩
   ·rename_i hw;rw[if_neg hw] at h;exact ih m2 _ _ h
 rw[Zr];refine key _ ops.toList.dropLast [o] a w ?_;have e0:ops.toList.toArray=ops:=by simp
 rw[e0] at h1;refine lW (λe a w hq=>?_) h1;cases e with
 | normal=>
  obtain⟨S',QY,fv,cap,first,asx,hfv,has,hq⟩:=hq;show wpList _ _ _ [o] _ _;unfold wpList;rw[Qf (by simp[Region.wanted,Kx])];refine .inl ?_;have lm:=QY.ev hfv;have hxs:(xs.map a.eval)=asx.toArray:=by
   apply Array.ext';rw[Mq];exact y8 (ρ:=a.eval) (λx v h=>QY.ev h) _ _ has
  unfold Oper.wp;have Z9:(execOp a.eval o).run c.g.P w= .ok (.defer ⟨.fn fv cap,first++asx.toArray⟩) w:=by
   simp only[execOp,ho,resolve,lm,hxs];simp[Deferred.ofValue]
  rw[Z9,Oper.upon_defer];unfold wpList;unfold YL at hq;refine hq _ ⟨?_,?_,?_⟩
  ·rw[ia];exact QY.size
  ·rw[ia];show _::a.defers=_;rw[QY.defers]
  ·rw[ia];exact QY.has
 | exit i=>obtain⟨S',QY,hq⟩:=hq;unfold Y6 at hq;exact hq a QY
 | goto i=>obtain⟨S',QY,hq⟩:=hq;unfold Y6 at hq;exact hq a QY
 | ret=>obtain⟨S',QY,hq⟩:=hq;unfold Y6 at hq;exact hq a QY
 | panic i=>obtain⟨S',QY,hq⟩:=hq;unfold Y6 at hq;exact hq a QY
 | outgrown=>obtain⟨S',QY,hq⟩:=hq;unfold Y6 at hq;exact hq a QY
end
def rX (R:Value->World->Prop):Ending->World->Prop
 | .returned v,w=>R v w
 | _,_=>False
theorem vg {c:Cx}(hg:c.g.Ok){f:FuncId}{fn:Func}{x:Code}{args:List Value}{w:World}{R:Value->World->Prop}(hf:c.g.P.funcs[f]? =some fn)(hb:fn.body=some x)(hN:⟨fn.ntmps,[]⟩=c.N)
  (hl:Nat.ble args.length c.N.n=true) (h:jG [0,1,2,3,4,5,6,7,8,9,10,11,12,13,14,15] args [] (λS=>YL c [x] S w (bodyPostD c.g.P fn (rX R)))):Fn c.g.P f args w R:=by
 unfold Fn;have _:=hg;obtain⟨S,hS,hx⟩:=uP _ args [] 0 args (λj t ht=>by
  match j,ht with
  | 0,ht | 1,ht | 2,ht | 3,ht | 4,ht | 5,ht | 6,ht | 7,ht | 8,ht | 9,ht | 10,ht | 11,ht | 12,ht | 13,ht | 14,ht | 15,ht=>simp at ht;omega
  | j+16,ht=>simp at ht) (by simp) (λk x hk=>by simp[Env.ent] at hk) h
 have hn:fn.ntmps=c.N.n:=QN Slots.n hN;have JY:=fj (N:=c.N.n) args (fZ hl) S hS;rw[<-hn,hN] at JY;unfold YL at hx;have h1:=hx _ JY;refine(calls_of_wp_defers hf hb (R:=rX R) ?_).mono (λe w' he=>by cases e<;>exact he);unfold gh at h1;refine wp_mono h1 (λe a w hq=>?_);cases e<;>first | exact hq | (unfold gh at hq;exact hq)
section
variable {c:Cx} {S:Env} {w:World}
theorem iH (hg:c.g.Ok){fn:Func}{R:Value->World->Prop}{e:Exit}(hN:c.N.ds=[])(he:e= .ret∨e= .normal)(h:cM c S w R fn.results.toList []):Y6 c S w e (bodyPostD c.g.P fn (rX R)):=by
 unfold Y6;intro a hf;obtain⟨v,h1,h2⟩:=iB hg hf h;have hd:a.defers=[]:=by rw[hf.defers,hN]
 rcases he with rfl | rfl <;>
 ·unfold bodyPostD;simp only;rw[hd];exact⟨v,h1,h2⟩
theorem NW (hg:c.g.Ok){fn:Func}{R:Value->World->Prop}{u:FrameMode}{a:Act}{F:FuncId}{asx cap:Array Value}(hN:c.N.ds=[⟨.fn (.func F) cap,asx⟩])(hF:fg F c.g.fns=true)(hu:u≠ .run)(hf:Fits c.N S a){args:Array Value}(hA:asx++cap=args)
  (h:CallsD c.g.P F args u w (λe u' w'=>∃v,e= .returned v/\settle u'= .returning/\cM c S w' R fn.results.toList [])):Leaves c.g.P fn a.tmps (rX R) a.defers u w:=by
 subst hA;rw[hf.defers,hN];refine leaves_cons (f:=F) (args:=asx++cap) hu ?_ ?_
 ·have hc:=hg.fns F (yY hF);simp only[invoke];rw[zd hc]
 ·refine h.mono (λe u' w' he=>?_);obtain⟨v,rfl,hs,hk⟩:=he;simp only;rw[hs];obtain⟨v,h1,h2⟩:=iB hg hf hk;exact⟨v,h1,h2⟩
theorem fq (hg:c.g.Ok){fn:Func}{R:Value->World->Prop}{e:Exit}{F:FuncId}{asx cap:Array Value}(hN:c.N.ds=[⟨.fn (.func F) cap,asx⟩])(hF:fg F c.g.fns=true)(he:e= .ret∨e= .normal){args:Array Value}(hA:asx++cap=args)
  (h:CallsD c.g.P F args .returning w (λe u' w'=>∃v,e= .returned v/\settle u'= .returning/\cM c S w' R fn.results.toList [])):Y6 c S w e (bodyPostD c.g.P fn (rX R)):=by
 unfold Y6;intro a hf;have:=NW hg hN hF (by simp) hf hA h;rcases he with rfl | rfl<;>exact this
theorem W0 (hg:c.g.Ok){fn:Func}{R:Value->World->Prop}{ch:List PanicEntry}{F:FuncId}{asx cap:Array Value}(hN:c.N.ds=[⟨.fn (.func F) cap,asx⟩])(hF:fg F c.g.fns=true){args:Array Value}(hA:asx++cap=args)
  (h:CallsD c.g.P F args (.panicking ch) w (λe u' w'=>∃v,e= .returned v/\settle u'= .returning/\cM c S w' R fn.results.toList [])):Y6 c S w (.panic ch) (bodyPostD c.g.P fn (rX R)):=by
 unfold Y6;intro a hf;exact NW hg hN hF (by simp) hf hA h
end
theorem dQD {c:Cx}(hg:c.g.Ok){f:FuncId}{fn:Func}{x:Code}{args:List Value}{w:World}{R:Value->World->Prop}(u:FrameMode)(hf:c.g.P.funcs[f]? =some fn)(hb:fn.body=some x)(hN:⟨fn.ntmps,[]⟩=c.N)
  (hl:Nat.ble args.length c.N.n=true) (h:jG [0,1,2,3,4,5,6,7,8,9,10,11,12,13,14,15] args [] (λS=>K9 c x S w (ze c fn.results.toList R))):CallsD c.g.P f args.toArray u w (λe u' w'=>u'=u/\∃v,e= .returned v/\R v w'):=by
 obtain⟨S,hS,hx⟩:=uP _ args [] 0 args (λj t ht=>by
  match j,ht with
  | 0,ht | 1,ht | 2,ht | 3,ht | 4,ht | 5,ht | 6,ht | 7,ht | 8,ht | 9,ht | 10,ht | 11,ht | 12,ht | 13,ht | 14,ht | 15,ht=>simp at ht;omega
  | j+16,ht=>simp at ht) (by simp) (λk x hk=>by simp[Env.ent] at hk) h
 refine callsD_of_wp hf hb ?_;have hn:fn.ntmps=c.N.n:=QN Slots.n hN;have JY:=fj (N:=c.N.n) args (fZ hl) S hS;rw[<-hn,hN] at JY;refine wp_mono (iA hg x S w _ _ hx JY) (λe a w' hq=>?_);obtain⟨S',QY,hq⟩:=hq;have Zz:a.defers=[]:=by rw[QY.defers,<-hN]
 cases e with
 | normal=>obtain⟨v,h1,h2⟩:=iB hg QY hq;exact⟨Zz,v,h1,v,rfl,h2⟩
 | ret=>obtain⟨v,h1,h2⟩:=iB hg QY hq;exact⟨Zz,v,h1,v,rfl,h2⟩
 | exit i=>exact hq.elim
 | goto l=>exact hq.elim
 | panic ch=>exact hq.elim
 | outgrown=>exact hq.elim
end
section
theorem Ev {c:Cx}(hg:c.g.Ok){o:Oper}{S:Env}{w:World}{K:Env->World->Prop}{Q:Zg}{x:Operand}{tx t:Nat}{k:IntKind}{v:Value}{r:TyRow}(ho:o.op= .typeAssert x tx t true)(hr:QU c.g.tys t=some r)(hd:r.d= .int k)(hx:S.ev x=some (.iface t v))
  (kk:Xk c S o.dst (.v (.tuple #[v,.bool true])) (λS=>K S w)):X8 c o S w K Q:=by
 have Q1:=(hg.row hr).1;rw[hd] at Q1;refine Js (w':=w) (v:=.tuple #[v,.bool true]) (λa hf=>?_) kk;have e1:=hf.ev hx;simp only[execOp,ho,e1];simp[Instr.typeAssert,ZL Q1]
theorem dQE {P:Program}{t:TypeId}{ms:Array (String×TypeId)}{w:World}(hu:P.underlying t=some (.interface ms))(n:Nat):(Op.equalIn (n+1) t .nilIface .nilIface).run P w= .ok true w:=by simp[Op.equalIn,ZL hu]
theorem NY {P:Program}{o1 o2:Oper}{Q:Exit->Act->List Frame->World->Prop}{a:Act}{cs cs':List Frame}{w:World}{d1 d2:Nat}{v:Value}(h1:o1.op= .call ⟨.builtin .recover, #[], #[]⟩)(h1d:o1.dst=some d1)(h1g:o1.guard=none)(h2:o2.op= .assign (.tmp d1))(h2d:o2.dst=some d2)(h2g:o2.guard=none)
  (Xu:d1<a.tmps.size) (Lf:recoverD cs=some (v,cs')∨(recoverD cs=none/\v= .nilIface/\cs'=cs)) (h:Q .normal ((a.put (some d1) v).put (some d2) v) cs' w):wpOpsS P #[o1,o2] Q (List.range 2) a cs w:=by
 have e1:∀ρ,(execOp ρ o1).run P w= .ok .recover w:=λρ=>by
  simp only[execOp,h1,resolve,invoke,builtin];simp
 have e2:(execOp (a.put (some d1) v).eval o2).run P w= .ok (.value v) w:=by
  simp only[execOp,h2];simp[Act.eval,Act.put,Xu]
 show wpOpsS P #[o1,o2] Q [0,1] a cs w;have key:wpOpsS P #[o1,o2] Q [1] (a.put (some d1) v) cs' w:=by
  unfold wpOpsS;simp only[Mv,DE,List.getElem?_cons_zero];rw[Qf (by simp[Region.wanted,h2g]),e2];simp only[Oper.upon,h2d];unfold wpOpsS;exact h
 unfold wpOpsS;simp only[Mv,List.getElem?_cons_zero];rw[Qf (by simp[Region.wanted,h1g]),e1];rcases Lf with hr | ⟨hr,rfl,rfl⟩
 ·simp only[hr,h1d];exact key
 ·simp only[hr,h1d];exact key
theorem me {c:Cx}(hg:c.g.Ok){x:Code}{fn:Func}{c₀:Frame}{cs:List Frame}{R:Ending->FrameMode->World->Prop}{S:Env}{a:Act}{w:World}{u':FrameMode}(hN:c.N.ds=[])(hf:Fits c.N S a)
  (h:K9 c x S w (ze c fn.results.toList (λv w'=>R (.returned v) u' w'))):x.wpS c.g.P (bodyPostS c.g.P fn c₀ cs R) a ({c₀ with mode:=u'}::cs) w:=by
 refine wpS_of_wp (wp_mono (iA hg x S w _ a h hf) (λe a' w' hq=>?_));obtain⟨S',QY,hq⟩:=hq;have Zz:a'.defers=[]:=by rw[QY.defers,hN]
 cases e with
 | normal=>obtain⟨v,h1,h2⟩:=iB hg QY hq;exact⟨Zz,u',rfl,v,h1,h2⟩
 | ret=>obtain⟨v,h1,h2⟩:=iB hg QY hq;exact⟨Zz,u',rfl,v,h1,h2⟩
 | exit i=>exact hq.elim
 | goto l=>exact hq.elim
 | panic ch=>exact hq.elim
 | outgrown=>exact hq.elim
def NZ (f e:Nat)(k:Int)(w w':World):Prop:=Blk w' f 149 [.slice none 0 0]/\Blk w' e 34 [.int .i64 k]/\Mod (λi=>i=f∨i=e) w w'
theorem zA (f e:Nat)(k:Int)(w:World)(v1 v2:Value)(QQ:f≠e)(hf:Blk w f 149 [v1])(he:Blk w e 34 [v2]):
  CallsD Tryz.prog 140 #[.pointer (some ⟨f,0,none⟩),.pointer (some ⟨e,0,none⟩)] (.panicking [{v:=.iface 34 (.int .i64 k),recovered:=false}]) w
   (λen u' w'=>∃v,en= .returned v/\settle u'= .returning/\NZ f e k w w'):=by
 refine callsD_of_wpS Tryz.func140 rfl λc₀ cs hu=>?_
 have JY:=fj (N:=zw.N.n) [.pointer (some ⟨f,0,none⟩),.pointer (some ⟨e,0,none⟩)] (fZ rfl) [(0,.v (.pointer (some ⟨f,0,none⟩))),(1,.v (.pointer (some ⟨e,0,none⟩)))] (by
  intro k x hk
  match k,hk with
  | 0,hk=>cases hk;rfl
  | 1,hk=>cases hk;rfl
  | k+2,hk=>exact nomatch (show(none:Option Ent)=some x from hk))
 have JS:=JY.put (d:=5) (by decide) (.v (.iface 34 (.int .i64 k)));have ZI:=JS.put (d:=2) (by decide) (.v (.iface 34 (.int .i64 k)));refine wpS_seq (wpS_region ?_);refine NY (cs':={c₀ with mode:=.panicking [{v:=.iface 34 (.int .i64 k),recovered:=true}]}::cs) (v:=.iface 34 (.int .i64 k)) rfl rfl rfl rfl rfl rfl (by simp) (.inl (by simp[recoverD,hu])) ?_;refine me (c:=zw) Qa rfl ZI ?_;refine Xa rfl ?_;refine Ev Qa rfl rfl rfl rfl ?_;refine Q5 rfl ?_;refine KE hf (by simp) (λw1 Zo Qh=>?_);refine KE (he.mod Zo (λh=>QQ h.symm)) (by simp) (λw2 XQ Qw=>?_);exact⟨_,rfl,rfl,Qh.mod XQ QQ,Qw,(Zo.mono (λi hi=>.inl (.inl hi))).trans XQ (λi hi=>.inl (.inr hi))⟩
theorem dQF (f e:Nat)(w:World):
  CallsD Tryz.prog 140 #[.pointer (some ⟨f,0,none⟩),.pointer (some ⟨e,0,none⟩)] .returning w
   (λen u' w'=>∃v,en= .returned v/\settle u'= .returning/\w=w'):=by
 refine callsD_of_wpS Tryz.func140 rfl λc₀ cs hu=>?_
 have JY:=fj (N:=zw.N.n) [.pointer (some ⟨f,0,none⟩),.pointer (some ⟨e,0,none⟩)] (fZ rfl) [(0,.v (.pointer (some ⟨f,0,none⟩))),(1,.v (.pointer (some ⟨e,0,none⟩)))] (by
  intro k x hk
  match k,hk with
  | 0,hk=>cases hk;rfl
  | 1,hk=>cases hk;rfl
  | k+2,hk=>exact nomatch (show(none:Option Ent)=some x from hk))
 have JS:=JY.put (d:=5) (by decide) (.v .nilIface);have ZI:=JS.put (d:=2) (by decide) (.v .nilIface);refine wpS_seq (wpS_region ?_);refine NY (cs':={c₀ with mode:=.returning}::cs) (v:=.nilIface) rfl rfl rfl rfl rfl rfl (by simp) (.inr ⟨by simp[recoverD,hu],rfl,by rw[<-hu]⟩) ?_;refine me (c:=zw) Qa rfl ZI ?_;refine Js (w':=w) (v:=.bool false) (λa hf=>?_) ?_
 ·have e1:=hf.ev (show Env.ev _ (.tmp 6)=some .nilIface from rfl);have hu:=Tryz.underlying20;have e2:(Op.equal 20 .nilIface .nilIface).run Tryz.prog w= .ok true w:=dQE hu 9999;have e3:binOp .neq 20 .nilIface .nilIface=(do pure (.bool (!(<-Op.equal 20 .nilIface .nilIface)))):=rfl;simp only[execOp,e1,eqGuard];simp[Act.eval,e3,show gx.P=Tryz.prog from rfl,e2]
 refine Q5 rfl ?_;exact⟨_,rfl,rfl,rfl⟩
end
section
def gi (l:List Nat):List (List Nat)->Nat->Option Nat->Option Nat
 | [],_,QR=>QR
 | s::names,i,QR=>gi l names (i+1) (if s=l then some i else QR)
def Jo (names:List (List Nat))(l:List Nat):Option Nat:=gi l names 0 none
theorem N0 (l:List Nat)(hl:∀x∈l,x<256):∀(names:List (List Nat))(i:Nat)(QR:Option Nat)(m:List (ByteArray×Value)),Ks names->Xv (Qe l) m=QR.map (λv:Nat=>Value.int .i64 v)->
  Xv (Qe l) (Yr names i m)=(gi l names i QR).map (λv:Nat=>Value.int .i64 v)
 | [],i,QR,m,_,h=>h
 | s::names,i,QR,m,hn,h=>by
  simp only[Yr,gi];refine N0 l hl names (i+1) _ _ (λt ht=>hn t (by simp[ht])) ?_;rw[aC];by_cases hs:s=l
  ·subst hs;simp
  ·rw[if_neg (λe=>hs (Jc hl (hn s (by simp)).1 e).symm),if_neg hs];exact h
theorem Ew {names:List (List Nat)}(hn:Ks names):NU (Jo names) (Yr names 0 []):=λl hl=>N0 l hl names 0 none [] hn rfl
def cR (names:List (List Nat))(s:List Nat):List Fz×Int:=if ZM names then
  match gg (Jo names) (s.length+1) ⟨s,[],false⟩with
  | none=>([],31)
  | some (_,p)=>if Zx p.r≠ [] then([],31)else if p.u then([],3)else if 512<p.f.length then([],2)else(p.f,0)
 else([],1)
def Ex (w:World)(r:List Fz×Int)(v:Value)(w':World):Prop:=∃F m cF,v= .tuple #[.slice F m cF,.int .i64 r.2]/\Ext w w'/\SlS Fz.cells 4 w' F m cF r.1
theorem dQG (p:Ps):Kd [] p=(true,{p with r:=Zx p.r}):=by rw[u7]<;>rfl
theorem N4 (names:List (List Nat))(A:Option Addr)(n c:Nat)(s:List Nat)(w:World)(h:Sl w 1 A n c (XW names))(hb:Ks names)(hs:∀x∈s,x<256)(hl:s.length<=1000000000000):
  Fn Tryz.prog 89 [.slice A n c,.string (Qe s)] w (Ex w (cR names s)):=by
 refine vg (c:={c89 with cuts:=[]}) Qa Tryz.func89 rfl rfl rfl ?_;refine ZE (Zt Qa ?_);refine new (λw1 Qd Q3 Qh=>?_);refine new (λw2 Qg Zb Qw=>?_);have Q7:=Qd.trans Qg;refine ZE (Zt Qa ?_);refine call (Ep names A n c w2 (h.ext Q7) hb) ?_;rintro v w3 ⟨v1,rfl,Qk,xH⟩;have QW:=Q7.trans Qk;have hBf:=(Qh.ext Qg).ext Qk;have eP:=Qw.ext Qk;refine ZE (Zt Qa ?_);cases Zq:ZM names with
 | false=>
  refine Xa rfl ?_;refine KE hBf (by simp[JN]) (λw4 X1 Q4=>?_);have QQ:w1.heap.size≠w.heap.size:=by omega
  refine KE (eP.mod X1 QQ) (by simp[JN]) (λw5 XS QK=>?_);refine iH Qa rfl (.inl rfl) ?_;refine Qx (Q4.mod XS QQ.symm) rfl ?_;refine Qx QK rfl ?_;have Qv:=XS.ext (X1.ext QW (λi hi=>by omega)) (λi hi=>by omega);refine⟨none,0,0,?_,Qv,?_⟩
  ·unfold cR;rw[Zq]<;>rfl
  ·unfold cR;rw[Zq];exact SlS.nil _
 | true=>
  refine Q5 rfl ?_;obtain⟨q,rfl,hq,dC⟩:=xH Zq;refine ZE (vf Qa rfl rfl rfl rfl ⟨_,_,_,_,rfl,rfl,?_⟩);refine ZE (Zt Qa ?_);refine new (λw4 Qq KY Q4=>?_);have XL:=QW.trans Qq;have JI:=Qk.size;have hR:Rd w4 w4.heap.size w3.heap.size none 0 (.map (some q)) ⟨s,[],false⟩:=⟨Q4,Own.nil _ _ _ _,by omega,QC _,hs,by simpa using hl⟩
  have hG:GM w3.heap.size q (Yr names 0 []) w4 none:=⟨dC.ext Qq,by have:=dC.lt;omega,λ⟨_,e,_⟩=>by cases e⟩
  have QQ:w.heap.size≠w1.heap.size:=by omega
  have ui:∀i,i<w3.heap.size->¬RdS w3.heap.size none i:=λi hi e=>by
   rcases e with rfl | ⟨_,e,_⟩
   ·omega
   ·cases e
  have keep:∀w',Mod (RdS w3.heap.size none) w4 w'->Ext w w'/\Blk w' w.heap.size 149 [.slice none 0 0]/\Blk w' w1.heap.size 34 [.int .i64 0]:=λw' hm=>by
   refine⟨hm.ext XL (λi hi=>?_),(hBf.ext Qq).mod hm (ui _ (by omega)),(eP.ext Qq).mod hm (ui _ (by omega))⟩;rcases hi with rfl | ⟨_,e,_⟩
   ·omega
   ·cases e
  have Xi:∀k w' K6,Ext w w'->NZ w.heap.size w1.heap.size k w' K6->cR names s=([],k)->Ex w (cR names s) (.tuple #[.slice none 0 0,.int .i64 k]) K6:=λk w' K6 hE hR hp=>by
   rw[hp];refine⟨none,0,0,rfl,hR.2.2.ext hE (λi hi=>by rcases hi with rfl | rfl<;>omega),SlS.nil _⟩
  have hpp:cR names s=match gg (Jo names) (s.length+1) ⟨s,[],false⟩with
   | none=>([],31)
   | some (_,p)=>if Zx p.r≠ [] then([],31)else if p.u then([],3)else if 512<p.f.length then([],2)else(p.f,0):=by unfold cR;rw[Qf Zq]
  refine ZE (Zt Qa ?_);refine XO (NT (s.length+1) _ _ none 0 _ q _ _ _ w4 hR hG (dI _) (NV (Jo names) _ _ q _ (Ew hb) (s.length+1))) ?_ ?_
  rotate_left
  ·rintro ch w5 ⟨ho,rfl,XS⟩;obtain⟨Qv,JS,he5⟩:=keep w5 XS;refine W0 Qa rfl rfl (args:= #[.pointer (some ⟨w.heap.size,0,none⟩),.pointer (some ⟨w1.heap.size,0,none⟩)]) (by simp) ((zA _ _ 31 w5 _ _ QQ JS he5).mono ?_);rintro e u' w6 ⟨v,rfl,GD,gD⟩;refine⟨v,rfl,GD,?_⟩;refine Qx gD.1 rfl ?_;refine Qx gD.2.1 rfl ?_;exact Xi 31 w5 w6 Qv gD (by rw[hpp];unfold gg;rw[ho])
  rintro v w5 ⟨a,p,ho,rfl,A5,c5,h5,XS,V5⟩;refine ZE (Zt Qa ?_);refine call (rV _ _ A5 c5 _ p [] w5 h5 (by simp)) ?_;rintro v w6 ⟨rfl,h6,Ym⟩;rw[dQG] at h6;simp only at h6;have jQf:Mod (RdS w3.heap.size none) w4 w6:=XS.trans Ym (λi hi=>.inl (.inl hi));obtain⟨Xh,bB,Bg⟩:=keep w6 jQf;have ic:cR names s=if Zx p.r≠ [] then([],31)else if p.u then([],3)else if 512<p.f.length then([],2)else(p.f,0):=by rw[hpp];unfold gg;rw[ho]
  have e0:((Qe (Zx p.r)=(⟨#[]⟩:ByteArray))↔Zx p.r=[]):=⟨λh=>Jc h6.b8 (by simp) h,λh=>by rw[h];rfl⟩
  refine ZE (Zt Qa ?_);refine Qp h6.blk rfl ?_;by_cases ht:¬Zx p.r=[]
  ·refine Xa (by rw[X4 (λh=>ht (e0.1 h))];rfl) ?_;refine pf rfl rfl ?_;refine W0 Qa rfl rfl (args:= #[.pointer (some ⟨w.heap.size,0,none⟩),.pointer (some ⟨w1.heap.size,0,none⟩)]) (by simp) ((zA _ _ 31 w6 _ _ QQ bB Bg).mono ?_);rintro e u' w7 ⟨v,rfl,kI,Kt⟩;refine⟨v,rfl,kI,?_⟩;refine Qx Kt.1 rfl ?_;refine Qx Kt.2.1 rfl ?_;exact Xi 31 w6 w7 Xh Kt (by rw[ic,Qf ht])
  replace ht:=Decidable.not_not.1 ht;refine Q5 (by rw[XR (e0.2 ht)];rfl) ?_;rw[if_neg (λh=>h ht)] at ic;refine Qp h6.blk rfl ?_;refine Wn (λhu=>?_) (λhu=>?_)
  ·refine pf rfl rfl ?_;refine W0 Qa rfl rfl (args:= #[.pointer (some ⟨w.heap.size,0,none⟩),.pointer (some ⟨w1.heap.size,0,none⟩)]) (by simp) ((zA _ _ 3 w6 _ _ QQ bB Bg).mono ?_);rintro e u' w7 ⟨v,rfl,kI,Kt⟩;refine⟨v,rfl,kI,?_⟩;refine Qx Kt.1 rfl ?_;refine Qx Kt.2.1 rfl ?_;exact Xi 3 w6 w7 Xh Kt (by rw[ic,Qf hu])
  rw[if_neg (by rw[show p.u=false from hu];decide)] at ic;refine Qp h6.blk rfl ?_;refine Qy (λhl=>?_) (λhl=>?_)
  ·refine pf rfl rfl ?_;refine W0 Qa rfl rfl (args:= #[.pointer (some ⟨w.heap.size,0,none⟩),.pointer (some ⟨w1.heap.size,0,none⟩)]) (by simp) ((zA _ _ 2 w6 _ _ QQ bB Bg).mono ?_);rintro e u' w7 ⟨v,rfl,kI,Kt⟩;refine⟨v,rfl,kI,?_⟩;refine Qx Kt.1 rfl ?_;refine Qx Kt.2.1 rfl ?_;exact Xi 2 w6 w7 Xh Kt (by rw[ic,Qf (show 512<p.f.length by simp only at hl;omega)])
  have cE:¬512<p.f.length:=λh=>hl (by simp only;omega)
  rw[if_neg cE] at ic;refine ZE (Zt Qa ?_);refine Qp h6.blk rfl ?_;refine KE bB (by simp) (λw7 J5 Q6=>?_);refine KE (Bg.mod J5 QQ.symm) (by simp) (λw8 JH Xt=>?_);refine Zt Qa ?_;refine fq Qa rfl rfl (.inl rfl) (args:= #[.pointer (some ⟨w.heap.size,0,none⟩),.pointer (some ⟨w1.heap.size,0,none⟩)]) (by simp) ((dQF _ _ w8).mono ?_);rintro e u' _ ⟨v,rfl,GE,rfl⟩;refine⟨v,rfl,GE,?_⟩;refine Qx (Q6.mod JH QQ) rfl ?_;refine Qx Xt rfl ?_;rw[ic];have hM:Mod (λi=>i=w.heap.size∨i=w1.heap.size) w6 w8:=(J5.mono (λi hi=>.inl (.inl hi))).trans JH (λi hi=>.inl (.inr hi));refine⟨A5,p.f.length,c5,rfl,hM.ext Xh (λi hi=>by rcases hi with rfl | rfl<;>omega),?_,rfl⟩;have nV:∀i,Qj A5 i->w4.heap.size<=i:=λi hi=>(h6.own.rows i hi).1
  exact(h6.own.mod hM (λi hi e=>by have:=nV i hi;rcases e with rfl | rfl<;>omega)).sl
end
end
end Go.Proofs.YtjabbbcdgmlojaaGreatDoor
