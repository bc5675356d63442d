/-
  What PPatchSections rests on, part 1 (wip/shake.py).
  Conditions: none.
-/
import Derived.Test.YtjabbbcdgmlojaaGreatDoorProg
import Derived.Test.YtjabbbcdgmlojaaGreatDoorRows
import Derived.WalkKit
import Derived.Deep.QuietTactic
import Derived.Laws.CopyOwn
import Derived.StillTail
import Derived.OrdersHeld
import Derived.Laws.StructEq
import Derived.Lib.AppendStr
import Derived.Shelf.Strings.Builder1
import Derived.Shelf.Strings.Builder2
import Derived.Shelf.Strings.OnBuilder
import Derived.Shelf.Small.Utf8
import Derived.Shelf.Small.Strs
import Derived.Shelf.Strings.BuilderF
import Derived.Shelf.Strings.Search1
import Derived.Shelf.Strings.Search2
import Derived.Shelf.Strings.Search3
import Derived.Shelf.Strings.Cut
import Derived.Shelf.Strings.Count
import Derived.Shelf.LaysM
import Derived.Shelf.Strings.Shaped
import Derived.Shelf.Strings.LastIndex
import Derived.Shelf.GgClosure.StringsIndexFunc
import Derived.Shelf.Strings.Prefix
import Derived.Shelf.Strings.Runes
import Derived.Shelf.Strings.AsciiSet
import Derived.Shelf.Unicode.DecodeSlow
import Derived.Lib.Builder
import Derived.Lib.UnsafeStr
import Derived.Maps.RangeRun
import Derived.Recover
import Derived.ChangeKeysEq
import Derived.Deep.Grids
import Derived.Below
import Derived.ProofKit
import Derived.OpenShut
import Derived.ShutString
import Derived.ChangeOld
import Derived.Deep.Slices
import Derived.ChangeSame
import Derived.WideShapes
import Derived.Deep.DeepHandedRow
import Derived.LaidLaws
import Derived.Lay
import Derived.SevenTiedAt
set_option linter.all false
set_option linter.deprecated false
set_option maxHeartbeats 12800000
namespace Go.Proofs.YtjabbbcdgmlojaaGreatDoor
open Go Go.RowKit
section
abbrev Qe:=@if_pos
abbrev Qq:=@List.length_append
abbrev QC:=@Nat.le_refl
abbrev QD:=@congrArg
abbrev QL:=@List.mem_singleton
abbrev Q3:=@List.mem_cons
abbrev Q6:=@List.length_cons
abbrev Xd:=@absurd
abbrev Xk:=@List.mem_of_getElem?
abbrev Xt:=@Nat.zero_le
abbrev Xv:=@List.mem_append
abbrev XB:=@List.getElem?_eq_getElem
abbrev X2:=@decide_eq_true
abbrev X4:=@Nat.le_trans
abbrev Zn:=@decide_eq_false
abbrev ZG:=@List.mem_map
abbrev ZM:=@List.getElem?_eq_some_iff
abbrev ZR:=@List.append_assoc
abbrev ZX:=@run_underlying
abbrev Z4:=@Bool.and_eq_true
abbrev Z5:=@List.cons_append
abbrev Jb:=@Int.min_def
abbrev Jc:=@List.mem_filter
abbrev Ji:=@List.length_nil
abbrev Jv:=@List.take_of_length_le
abbrev Jx:=@List.not_mem_nil
abbrev JR:=@List.length_map
abbrev JZ:=@List.append_nil
abbrev J0:=@List.all_eq_true
abbrev Kr:=@List.map_cons
abbrev K5:=@List.length_take
abbrev VG:=@Nat.eq_of_beq_eq_true
abbrev VH:=@List.flatMap_cons
abbrev VJ:=@decide_eq_true_eq
abbrev V3:=@List.take_add_one
abbrev Ye:=@Nat.lt_of_lt_of_le
abbrev YC:=@of_decide_eq_true
abbrev YR:=@List.length_drop
abbrev YS:=@List.mem_range
abbrev Y8:=@Nat.mul_le_mul_right
abbrev Wx:=@List.eq_nil_of_length_eq_zero
abbrev Wy:=@List.flatMap_append
abbrev WV:=@List.getElem?_append_right
abbrev WW:=@Nat.pow_le_pow_right
abbrev aq:=@List.getElem?_map
abbrev au:=@List.mem_of_mem_drop
abbrev av:=@List.drop_eq_getElem_cons
abbrev aZ:=@List.nil_append
abbrev a8:=@Nat.zero_add
abbrev be:=@List.map_append
abbrev bf:=@List.mem_of_mem_take
abbrev bg:=@Bool.true_and
abbrev bN:=@List.takeWhile_cons
abbrev cB:=@List.mem_flatMap
abbrev dE:=@List.take_append_drop
abbrev dF:=@List.mem_cons_of_mem
abbrev eK:=@List.getElem?_append_left
abbrev eL:=@Nat.lt_succ_self
abbrev eM:=@Nat.mod_lt
abbrev eN:=@Bool.eq_false_iff
abbrev f9:=@Array.getElem?_eq_some_iff
abbrev ga:=@Nat.mul_one
abbrev gb:=@List.length_set
abbrev gc:=@Option.getD_some
abbrev gf:=@List.getElem?_set_ne
abbrev gh:=@List.filter_cons
abbrev gi:=@List.length_singleton
abbrev ii:=@Nat.blt_eq
abbrev ij:=@Nat.le_of_ble_eq_true
abbrev ik:=@Nat.succ_mul
abbrev io:=@Int.toNat_natCast
abbrev ip:=@List.mem_iff_getElem?
abbrev jE:=@Nat.mod_eq_of_lt
abbrev jF:=@List.drop_take
abbrev jG:=@List.getElem?_set_self
abbrev jH:=@Int.le_refl
abbrev kS:=@Nat.add_assoc
abbrev nv:=@Nat.min_eq_left
abbrev ny:=@List.map_map
abbrev nz:=@Nat.add_mul
abbrev nA:=@List.getElem?_eq_none
abbrev nC:=@List.take_succ_cons
abbrev nD:=@Nat.pow_succ
abbrev p9:=@Bool.eq_iff_iff
abbrev qa:=@List.dropWhile_cons
abbrev qd:=@List.take_length
abbrev qe:=@List.getElem?_take_of_lt
abbrev qf:=@List.eq_nil_or_concat
abbrev qg:=@List.drop_eq_nil_of_le
abbrev qh:=@List.length_filter_le
abbrev qi:=@List.drop_left
abbrev tq:=@List.reverse_cons
abbrev tr:=@List.drop_drop
abbrev tu:=@List.take_append
abbrev tv:=@List.drop_of_length_le
abbrev tw:=@List.drop_zero
abbrev tz:=@List.getLast?_eq_getElem?
abbrev tC:=@List.filter_append
abbrev tD:=@List.flatMap_nil
abbrev tE:=@List.exists_mem_of_ne_nil
abbrev wt:=@List.foldl_cons
abbrev wu:=@List.all_cons
abbrev wv:=@List.map_nil
abbrev ww:=@Option.map_some
abbrev wx:=@List.find?_eq_none
abbrev wy:=@Nat.mul_comm
abbrev wz:=@List.filter_eq_nil_iff
abbrev wA:=@Nat.testBit_lt_two_pow
abbrev wB:=@List.any_eq_true
abbrev wC:=@decide_eq_decide
abbrev A6:=@Nat.sub_self
abbrev Bc:=@List.ext_getElem?
abbrev Be:=@List.getElem?_cons_zero
abbrev Bf:=@List.count_cons
abbrev Bg:=@List.eq_of_mem_replicate
abbrev Bh:=@Nat.le_succ
abbrev Bi:=@List.length_tail
abbrev Bj:=@List.nodup_cons
abbrev Bk:=@List.set_append_right
abbrev Bl:=@Nat.one_mul
abbrev Bm:=@List.eq_nil_iff_forall_not_mem
abbrev Bn:=@Bool.and_true
abbrev F7:=@List.getElem?_take
abbrev F8:=@Array.getElem?_setIfInBounds
abbrev F9:=@Option.map_eq_some_iff
abbrev Ga:=@List.getElem?_set
abbrev Gb:=@List.nodup_append
abbrev Gc:=@List.getElem?_toArray
abbrev Gd:=@List.mem_iff_getElem
abbrev Ge:=@Int.toNat_of_nonneg
abbrev Gf:=@List.find?_cons_of_neg
abbrev Gg:=@List.take_append_of_le_length
abbrev Gh:=@List.head?_cons
abbrev Gi:=@Bool.or_assoc
abbrev Gj:=@List.count_append
abbrev Gk:=@List.length_pos_iff
abbrev Gl:=@List.drop_length
abbrev Gm:=@List.mem_append_left
abbrev Gn:=@List.append_cancel_right
abbrev Gp:=@Int.eq_ofNat_of_zero_le
abbrev Gq:=@List.filter_nil
abbrev PO:=@Array.toList_map
abbrev PP:=@List.replicate_succ
abbrev PQ:=@List.flatten_cons
abbrev PS:=@Bool.false_eq_true
abbrev PU:=@List.takeWhile_sublist
abbrev PV:=@List.set_cons_zero
abbrev PW:=@List.drop_succ_cons
abbrev PX:=@List.getElem_mem
abbrev PY:=@Option.isSome_iff_exists
abbrev PZ:=@List.cons_ne_nil
abbrev P0:=@List.drop_append_of_le_length
abbrev P4:=@List.foldl_append
abbrev P5:=@List.mem_cons_self
abbrev P6:=@List.mem_or_eq_of_mem_set
abbrev dQK:=@Array.setIfInBounds_comm
abbrev dQL:=@List.isPrefixOf_iff_prefix
abbrev dQM:=@List.find?_cons_of_pos
abbrev dQN:=@List.mem_of_find?_eq_some
end
section
inductive Ent where
 | v (x:Value)
 | t
 | f
def Ent.val:Ent->Value
 | .v x=>x
 | .t=>.bool true
 | .f=>.bool false
abbrev Env:=List (Nat×Ent)
def Env.ent:Env->Nat->Option Ent
 | [],_=>none
 | (t,x)::S,k=>match Nat.beq t k with
  | true=>some x
  | false=>Env.ent S k
def Env.get (S:Env)(k:Nat):Option Value:=
 match S.ent k with
 | some (.v x)=>some x
 | some .t=>some (.bool true)
 | some .f=>some (.bool false)
 | none=>none
def Env.ev (S:Env):Operand->Option Value
 | .tmp t=>S.get t
 | .const v=>some v
 | .global g=>some (.pointer (some ⟨g,0,none⟩))
 | .func f=>some (.func (.func f) #[] #[])
theorem rQa (S:Env)(k:Nat):S.get k=(S.ent k).map Ent.val:=by
 unfold Env.get;cases S.ent k with
 | none=>rfl
 | some e=>cases e<;>rfl
structure Slots where
 n:Nat
 ds:List Deferred:=[]
instance (k:Nat):OfNat Slots k:=⟨⟨k,[]⟩⟩
structure Fits (N:Slots) (S:Env) (a:Act):Prop where
 size:a.tmps.size=N.n
 defers:a.defers=N.ds
 has:∀k x,S.ent k=some x->a.tmps[k]? =some x.val
theorem Fits.get {N:Slots}{S:Env}{a:Act}(h:Fits N S a){k:Nat}{v:Value}(hk:S.get k=some v):a.tmps[k]? =some v:=by
 rw[rQa] at hk;cases he:S.ent k with
 | none=>simp[he] at hk
 | some e=>simp[he] at hk;subst hk;exact h.has k e he
theorem Fits.ev {N:Slots}{S:Env}{a:Act}(h:Fits N S a){x:Operand}{v:Value}(hx:S.ev x=some v):a.eval x=v:=by
 cases x with
 | tmp t=>have:=h.get hx;simp[Act.eval,this]
 | const u=>simp[Env.ev] at hx;simp[Act.eval,hx]
 | global g=>simp[Env.ev] at hx;simp[Act.eval,hx]
 | func f=>simp[Env.ev] at hx;simp[Act.eval,hx]
theorem Fits.put {N:Slots}{S:Env}{a:Act}(h:Fits N S a){d:Nat}(hd:d<N.n)(e:Ent):Fits N ((d,e)::S) (a.put (some d) e.val):=by
 refine⟨by simp[Act.put,h.size],by simp[Act.put,h.defers],λk x hk=>?_⟩;simp only[Env.ent] at hk;cases hb:Nat.beq d k with
 | true=>
  have:d=k:=VG hb;subst this;simp only[hb] at hk;cases hk;have:d<a.tmps.size:=by rw[h.size];exact hd
  simp[Act.put,this]
 | false=>
  have QO:d≠k:=λe=>by subst e;simp at hb
  simp only[hb] at hk;simp[Act.put,QO,h.has k x hk]
structure TyRow where
 t:Nat
 d:TypeDesc
 sz:Nat
 by_:Nat
 z:Value
def P7 (P:Program)(r:TyRow):Prop:=P.underlying r.t=some r.d/\(P.info? r.t).map (λi=>(i.size,i.bytes,i.zero))=some (r.sz,r.by_,some r.z)
def Bo (P:Program)(f:FuncId):Prop:=∃fn,P.funcs[f]? =some fn/\fn.body.isNone=false/\(fn.name== "runtime.NumGoroutine")=false
structure MRow where
 t:Nat
 name:String
 f:Nat
 ptr:Bool
def Gr:TypeDesc->Bool
 | .pointer _=>true
 | _=>false
def P8 (P:Program)(r:MRow):Prop:=
 (P.info? r.t).bind (λi=>(i.methods.find? (·.name==r.name)).map (λm=>(m.path.isEmpty,m.func)))=some (true,some (r.f,r.ptr))/\(P.underlying r.t).map Gr=some r.ptr
structure ERow where
 t:Nat
 ks:List Nat
def eO:Option TypeDesc->Nat
 | some (.int _)=>0
 | some .string=>1
 | some .bool=>2
 | _=>1000
def qj (P:Program):Nat->List Field->List Nat->Bool
 | _,[],[]=>true
 | n,f::l,k::ks=>f.name != "_" && Nat.beq f.offset n&&Nat.beq (eO (P.underlying f.type)) k&&Nat.blt k 3&&qj P (n+1) l ks
 | _,_,_=>false
def P9 (P:Program)(r:ERow):Prop:=
 P.stoodInHeld r.t=false/\P.eqGuardType P.depth r.t=false/\(match P.underlying r.t with
  | some (.struct fs)=>qj P 0 fs.toList r.ks
  | _=>false)=true
structure Gx where
 P:Program
 tys:List TyRow
 fns:List Nat
 ms:List MRow:=[]
 eqs:List ERow:=[]
def Bp (P:Program):List MRow->Prop
 | []=>True
 | r::l=>P8 P r/\Bp P l
def Bq (P:Program):List ERow->Prop
 | []=>True
 | r::l=>P9 P r/\Bq P l
def wD:List MRow->Nat->Option MRow
 | [],_=>none
 | r::l,t=>match Nat.beq r.t t with
  | true=>some r
  | false=>wD l t
def qk:List ERow->Nat->Option ERow
 | [],_=>none
 | r::l,t=>match Nat.beq r.t t with
  | true=>some r
  | false=>qk l t
theorem dQO {P:Program}{l:List MRow}{t:Nat}{r:MRow}(h:wD l t=some r)(ha:Bp P l):P8 P r/\r.t=t:=by
 induction l with
 | nil=>cases h
 | cons x l ih=>
  simp only[wD] at h;cases hb:Nat.beq x.t t with
  | true=>simp only[hb] at h;cases h;exact⟨ha.1,VG hb⟩
  | false=>simp only[hb] at h;exact ih h ha.2
theorem Ra {P:Program}{l:List ERow}{t:Nat}{r:ERow}(h:qk l t=some r)(ha:Bq P l):P9 P r/\r.t=t:=by
 induction l with
 | nil=>cases h
 | cons x l ih=>
  simp only[qk] at h;cases hb:Nat.beq x.t t with
  | true=>simp only[hb] at h;cases h;exact⟨ha.1,VG hb⟩
  | false=>simp only[hb] at h;exact ih h ha.2
def Bs (P:Program):List TyRow->Prop
 | []=>True
 | r::l=>P7 P r/\Bs P l
def Bt (P:Program):List Nat->Prop
 | []=>True
 | f::l=>Bo P f/\Bt P l
structure Gx.Ok (g:Gx):Prop where
 tys:Bs g.P g.tys
 fns':Bt g.P g.fns
 mixed:g.P.follows .mixedOrders=true
 ms:Bp g.P g.ms
 eqs:Bq g.P g.eqs
def QU:List TyRow->Nat->Option TyRow
 | [],_=>none
 | r::l,t=>match Nat.beq r.t t with
  | true=>some r
  | false=>QU l t
theorem dQP {l:List TyRow}{t:Nat}{r:TyRow}(h:QU l t=some r):r∈l/\r.t=t:=by
 induction l with
 | nil=>cases h
 | cons x l ih=>
  simp only[QU] at h;cases hb:Nat.beq x.t t with
  | true=>simp only[hb] at h;cases h;exact⟨by simp,VG hb⟩
  | false=>simp only[hb] at h;have:=ih h;exact⟨by simp[this.1],this.2⟩
theorem Gx.Ok.row {g:Gx}(h:g.Ok){t:Nat}{r:TyRow}(hr:QU g.tys t=some r):g.P.underlying t=some r.d/\∃i,g.P.info? t=some i/\i.size=r.sz/\i.bytes=r.by_/\i.zero=some r.z:=by
 obtain⟨hm,rfl⟩:=dQP hr;have key:∀l,Bs g.P l->r∈l->P7 g.P r:=by
  intro l;induction l with
  | nil=>intro _ h;cases h
  | cons x l ih=>intro h hm;cases hm with
   | head=>exact h.1
   | tail _ hm=>exact ih h.2 hm
 obtain⟨h1,h2⟩:=key _ h.tys hm;refine⟨h1,?_⟩;cases hi:g.P.info? r.t with
 | none=>simp[hi] at h2
 | some i=>simp[hi] at h2;exact⟨i,rfl,h2.1,h2.2.1,h2.2.2⟩
theorem Gx.Ok.fns {g:Gx}(h:g.Ok):∀f∈g.fns,Bo g.P f:=by
 intro f;have key:∀l,Bt g.P l->f∈l->Bo g.P f:=by
  intro l;induction l with
  | nil=>intro _ h;cases h
  | cons x l ih=>intro h hm;cases hm with
   | head=>exact h.1
   | tail _ hm=>exact ih h.2 hm
 exact key _ h.fns'
def gj (n:Nat):List Nat->Bool
 | []=>false
 | x::l=>match Nat.beq x n with
  | true=>true
  | false=>gj n l
theorem Bu {n:Nat}{l:List Nat}(h:gj n l=true):n∈l:=by
 induction l with
 | nil=>cases h
 | cons x l ih=>
  simp only[gj] at h;cases hb:Nat.beq x n with
  | true=>have:=VG hb;simp[this]
  | false=>simp only[hb] at h;simp[ih h]
structure Cx where
 g:Gx
 N:Slots
 named:Nat
 keep:List Nat
 cuts:List Nat:=[]
abbrev Zj:=Exit->Env->World->Prop
def Up (c:Cx)(Q:Zj):Exit->Act->World->Prop:=λe a w=>∃S,Fits c.N S a/\Q e S w
@[irreducible] def KR (b:Bool) (p q:Prop):Prop:=(b=true->p)/\(b=false->q)
@[irreducible] def dG (n:Int) (K:Int->Prop):Prop:=K n
@[irreducible] def gk (p:Prop) (n:Int) (K:Int->Prop):Prop:=p/\K n
@[irreducible] def jI (p:Prop) (v:Value) (K:Value->Prop):Prop:=p/\K v
@[irreducible] def iq (w:World) (p:Addr) (K:Value->Prop):Prop:=∃v,w.cell? p=some v/\K v
@[irreducible] def kT (w:World) (p:Addr) (n:Nat) (K:List Value->Prop):Prop:=∃vs:List Value,vs.length=n/\(∀j v,vs[j]? =some v->w.cell? (p.add j)=some v)/\K vs
@[irreducible] def eP (w:World) (p:Addr) (v:Value) (K:World->Prop):Prop:=(∃u,w.cell? p=some u)/\w.frozen? p=false/\K (w.setCell p v)
@[irreducible] def qm (w:World) (t:TypeId) (cs:List Value) (K:Addr->World->Prop):Prop:=K ⟨w.heap.size,0,none⟩ (w.alloc (.cells cs.toArray t))
@[irreducible] def nE (P:Program) (w:World) (p:Addr) (vs:List Value) (K:World->Prop):Prop:=∃w',(storeCells p vs).run P w= .ok () w'/\K w'
@[irreducible] def Rb (a b:String) (K:Prop):Prop:=a=b/\K
@[irreducible] def Wz (b:Option Addr) (n:Nat) (i:Int) (sz:Nat) (K:Addr->Prop):Prop:=∃a,b=some a/\0<=i/\i<n/\K (a.add (i.toNat*sz))
@[irreducible] def eQ (s:ByteArray) (i:Int) (K:Int->Prop):Prop:=∃b,0<=i/\s[i.toNat]? =some b/\K (b.toNat:Int)
@[irreducible] def Fn (P:Program) (f:FuncId) (l:List Value) (w:World) (R:Value->World->Prop):Prop:=Calls P f l.toArray w fun
 | .returned v,w'=>R v w'
 | _,_=>False
@[irreducible] def iu (P:Program) (f:FuncId) (l:List Value) (w:World) (K:Value->World->Prop) (Xj:List PanicEntry->World->Prop):Prop:=Calls P f l.toArray w fun
 | .returned v,w'=>K v w'
 | .panicked ch,w'=>Xj ch w'
 | .outgrown,_=>False
@[irreducible] def Rc (c:Cx) (nm:String) (t:Nat) (l:List Value) (w:World) (K:Value->World->Prop) (Xj:List PanicEntry->World->Prop):Prop:=
 ∃r,wD c.g.ms t=some r/\nm=r.name/\gj r.f c.g.fns=true/\iu c.g.P r.f l w K Xj
@[irreducible] def Zc (c:Cx) (o:Oper) (S:Env) (w:World) (K:Env->World->Prop) (Q:Zj):Prop:=
 ∀a,Fits c.N S a->o.wp c.g.P a w (λa' w'=>∃S',Fits c.N S' a'/\K S' w') (Up c Q)
@[irreducible] def WA (c:Cx) (id:Nat) (ops:List Oper) (S:Env) (w:World) (Q:Zj):Prop:=
 ∀a,Fits c.N S a->(Code.region id ops.toArray true).wp c.g.P (Up c Q) a w
@[irreducible] def Bv (c:Cx) (x:Code) (S:Env) (w:World) (Q:Zj):Prop:=
 ∀a,Fits c.N S a->(Code.loop x).wp c.g.P (Up c Q) a w
@[irreducible] def kU (c:Cx) (x:Code) (S:Env) (w:World) (Q:Zj):Prop:=
 ∀a,Fits c.N S a->x.wp c.g.P (Up c Q) a w
inductive PR where
 | val (v:Value)
 | ent (e:Ent)
 | norm (k:IntKind) (n:Int)
 | normIf (p:Prop) (k:IntKind) (n:Int)
 | need (p:Prop) (v:Value)
 | no
def tF:List Value->Nat->Option Value
 | [],_=>none
 | x::_,0=>some x
 | _::l,n+1=>tF l n
theorem Re (l:List Value)(n:Nat):tF l n=l[n]? :=by
 induction l generalizing n with
 | nil=>simp[tF]
 | cons x l ih=>cases n<;>simp[tF,ih]
def qp:IntKind->Nat
 | .i8=>0 | .i16=>1 | .i32=>2 | .i64=>3 | .u8=>4 | .u16=>5 | .u32=>6 | .u64=>7
theorem Rf {a b:IntKind}(h:Nat.beq (qp a) (qp b)=true):a=b:=by
 have:=VG h;cases a<;>cases b<;>first | rfl | (simp[qp] at this)
def Gt (op:BinOp)(k:IntKind)(x y:Int):PR:=
 match op with
 | .add=>.norm k (k.wrap (x+y))
 | .sub=>.norm k (k.wrap (x-y))
 | .mul=>.norm k (k.wrap (x*y))
 | .quo=>.normIf (y≠0) k (k.wrap (x.tdiv y))
 | .rem=>.normIf (y≠0) k (x.tmod y)
 | .and=>.norm k (k.wrap ((BitVec.ofInt k.bits x &&& BitVec.ofInt k.bits y).toNat))
 | .or=>.norm k (k.wrap ((BitVec.ofInt k.bits x ||| BitVec.ofInt k.bits y).toNat))
 | .xor=>.norm k (k.wrap ((BitVec.ofInt k.bits x^^^BitVec.ofInt k.bits y).toNat))
 | .andNot=>.norm k (k.wrap ((BitVec.ofInt k.bits x &&& ~~~ BitVec.ofInt k.bits y).toNat))
 | .eql=>.val (.bool (x==y))
 | .neq=>.val (.bool (x !=y))
 | .lss=>.val (.bool (decide (x<y)))
 | .leq=>.val (.bool (decide (x<=y)))
 | .gtr=>.val (.bool (decide (x>y)))
 | .geq=>.val (.bool (decide (x≥y)))
 | _=>.no
def Gu (op:BinOp)(k:IntKind)(x:Int)(k':IntKind)(y:Int):PR:=
 match op with
 | .shl=>.normIf (0<=y) k (k.wrap (x*2^(min y.toNat k.bits)))
 | .shr=>.normIf (0<=y) k (x.fdiv (2^(min y.toNat k.bits)))
 | op=>match Nat.beq (qp k) (qp k')with
  | true=>Gt op k x y
  | false=>.no
def Gv (op:BinOp)(x y:ByteArray):PR:=
 match op with
 | .add=>.need (x.size+y.size<=maxLen) (.string (x++y))
 | .eql=>.val (.bool (decide (x=y)))
 | .neq=>.val (.bool (!decide (x=y)))
 | .lss=>.val (.bool (Op.bytesLess x.data.toList y.data.toList))
 | _=>.no
def Gw:TypeDesc->Value->PR
 | .string,.string s=>.val (.int .i64 s.size)
 | .slice _,.slice _ n _=>.val (.int .i64 n)
 | _,_=>.no
def jJ:TypeDesc->Value->Value->Option Bool
 | .bool,.bool a,.bool b=>some (a==b)
 | .slice _,.slice none _ _,.slice b _ _=>some b.isNone
 | .slice _,.slice (some _) _ _,.slice none _ _=>some false
 | .map _ _,.map none,.map b=>some b.isNone
 | .map _ _,.map (some _),.map none=>some false
 | .pointer _,.pointer none,.pointer b=>some b.isNone
 | .pointer _,.pointer (some _),.pointer none=>some false
 | .interface _,.nilIface,.iface _ _=>some false
 | .interface _,.iface _ _,.nilIface=>some false
 | .func _ _ _,.nilFunc,.nilFunc=>some true
 | .func _ _ _,.nilFunc,.func _ _ _=>some false
 | .func _ _ _,.func _ _ _,.nilFunc=>some false
 | _,_,_=>none
def dH:List Nat->List Value->List Value->Option Bool
 | [],[],[]=>some true
 | 0::ks,.int k a::xs,.int k' b::ys=>match Nat.beq (qp k) (qp k'),dH ks xs ys with
  | true,some r=>some (a==b&&r)
  | _,_=>none
 | 1::ks,.string a::xs,.string b::ys=>match dH ks xs ys with
  | some r=>some (decide (a=b)&&r)
  | none=>none
 | 2::ks,.bool a::xs,.bool b::ys=>match dH ks xs ys with
  | some r=>some (a==b&&r)
  | none=>none
 | _,_,_=>none
def qq (op:BinOp)(r:Option Bool):PR:=
 match op,r with
 | .eql,some b=>.val (.bool b)
 | .neq,some b=>.val (.bool (!b))
 | _,_=>.no
def nF {α:Type}:List α->Nat->Option α
 | [],_=>none
 | x::_,0=>some x
 | _::l,n+1=>nF l n
def qr:TypeDesc->Bool
 | .struct _=>true
 | .array _ _=>true
 | _=>false
def Rg:TypeDesc->Bool
 | .interface _=>true
 | _=>false
def J1:Value->List Value
 | .agg cs=>cs.toList
 | v=>[v]
def wF:List Value->List Value->List Value
 | [],cs=>cs
 | v::vs,_::cs=>v::wF vs cs
 | _::_,[]=>[]
def Vh:Nat->List Value->List Value->List Value
 | 0,vs,cs=>wF vs cs
 | n+1,vs,c::cs=>c::Vh n vs cs
 | _+1,_,[]=>[]
def wG (g:Gx):List Field->Option (List (Nat×Nat))
 | []=>some []
 | f::l=>match QU g.tys f.type,wG g l with
  | some r,some m=>some ((f.offset,r.sz)::m)
  | _,_=>none
def tG (ps:Nat->Option (Nat×Nat)):List Value->List (Nat×Value)->Option (List Value)
 | cells,[]=>some cells
 | cells,(i,v)::rest=>match ps i with
  | some (off,sz)=>(match Nat.beq (J1 v).length sz,Nat.ble (off+(J1 v).length) cells.length with
   | true,true=>tG ps (Vh off (J1 v) cells) rest
   | _,_=>none)
  | none=>none
def qt (S:Env):List Operand->Option (List Value)
 | []=>some []
 | x::l=>match S.ev x,qt S l with
  | some v,some m=>some (v::m)
  | _,_=>none
def tH (S:Env):List (Nat×Operand)->Option (List (Nat×Value))
 | []=>some []
 | (i,x)::l=>match S.ev x,tH S l with
  | some v,some m=>some ((i,v)::m)
  | _,_=>none
def kV (S:Env)(d:Int):Option Operand->Option Int
 | none=>some d
 | some x=>match S.ev x with
  | some (.int _ n)=>some n
  | _=>none
def tI (g:Gx)(S:Env):Op->PR
 | .move (.const (.bool true)) | .assign (.const (.bool true))=>.ent .t
 | .move (.const (.bool false)) | .assign (.const (.bool false))=>.ent .f
 | .move (.tmp t) | .assign (.tmp t)=>match S.ent t with
  | some e=>.ent e
  | none=>.no
 | .move x | .assign x=>match S.ev x with
  | some v=>.val v
  | none=>.no
 | .pick (.tmp t) a b=>match S.ent t with
  | some .t=>(match a with
   | .const (.bool true)=>.ent .t
   | .const (.bool false)=>.ent .f
   | .tmp u=>(match S.ent u with
    | some e=>.ent e
    | none=>.no)
   | a=>match S.ev a with
    | some v=>.val v
    | none=>.no)
  | some .f=>(match b with
   | .const (.bool true)=>.ent .t
   | .const (.bool false)=>.ent .f
   | .tmp u=>(match S.ent u with
    | some e=>.ent e
    | none=>.no)
   | b=>match S.ev b with
    | some v=>.val v
    | none=>.no)
  | _=>.no
 | .binOp op t x y _=>match S.ev x,S.ev y with
  | some (.int k a),some (.int k' b)=>Gu op k a k' b
  | some (.string a),some (.string b)=>Gv op a b
  | some (.agg a),some (.agg b)=>(match qk g.eqs t with
   | some r=>qq op (dH r.ks a.toList b.toList)
   | none=>.no)
  | some a,some b=>(match QU g.tys t with
   | some r=>qq op (jJ r.d a b)
   | none=>.no)
  | _,_=>.no
 | .unOp .not _ (.tmp t)=>match S.ent t with
  | some .t=>.ent .f
  | some .f=>.ent .t
  | some (.v (.bool b))=>.val (.bool (!b))
  | _=>.no
 | .unOp .neg _ x=>match S.ev x with
  | some (.int k n)=>.norm k (k.wrap (0-n))
  | _=>.no
 | .convert s t x=>match QU g.tys s,QU g.tys t,S.ev x with
  | some _,some ⟨_,.int k,_,_,_⟩,some (.int _ n)=>.norm k (k.wrap n)
  | some _,some ⟨_,.string,_,_,_⟩,some (.string s)=>.val (.string s)
  | _,_,_=>.no
 | .extract x i=>match S.ev x with
  | some (.tuple vs)=>(match tF vs.toList i with
   | some v=>.val v
   | none=>.no)
  | _=>.no
 | .call ⟨.builtin .len,xs,ts⟩=>match xs.toList,ts.toList with
  | [x],[t]=>(match QU g.tys t,S.ev x with
   | some r,some v=>Gw r.d v
   | _,_=>.no)
  | _,_=>.no
 | .call ⟨.builtin .min,xs,_⟩=>match xs.toList with
  | [x,y]=>(match S.ev x,S.ev y with
   | some (.int k a),some (.int _ b)=>.norm k (if b<a then b else a)
   | _,_=>.no)
  | [x,y,z]=>(match S.ev x,S.ev y,S.ev z with
   | some (.int k a),some (.int _ b),some (.int _ c)=>.norm k (if c<(if b<a then b else a)then c else(if b<a then b else a))
   | _,_,_=>.no)
  | _=>.no
 | .call ⟨.builtin .max,xs,_⟩=>match xs.toList with
  | [x,y]=>(match S.ev x,S.ev y with
   | some (.int k a),some (.int _ b)=>.norm k (if b>a then b else a)
   | _,_=>.no)
  | _=>.no
 | .nilCheck x=>match S.ev x with
  | some (.pointer (some p))=>.val (.pointer (some p))
  | some (.iface t v)=>.val (.iface t v)
  | some (.func (.func n) a b)=>.val (.func (.func n) a b)
  | _=>.no
 | .fieldAddr t x k=>match QU g.tys t,S.ev x with
  | some r,some (.pointer (some p))=>(match r.d with
   | .struct fs=>(match nF fs.toList k with
    | some f=>(match QU g.tys f.type with
     | some rf=>(match Nat.beq rf.sz 0 with
      | false=>.val (.pointer (some (p.add f.offset)))
      | true=>.no)
     | none=>.no)
    | none=>.no)
   | _=>.no)
  | _,_=>.no
 | .field t x k=>match QU g.tys t,S.ev x with
  | some r,some (.agg cs)=>(match r.d with
   | .struct fs=>(match nF fs.toList k with
    | some f=>(match QU g.tys f.type with
     | some rf=>(match qr rf.d with
      | true=>.val (.agg ((cs.toList.drop f.offset).take rf.sz).toArray)
      | false=>(match tF cs.toList f.offset with
       | some v=>.val v
       | none=>.no))
     | none=>.no)
    | none=>.no)
   | _=>.no)
  | _,_=>.no
 | .build t parts=>match QU g.tys t,tH S parts.toList with
  | some r,some ps=>(match r.d with
   | .struct fs=>(match wG g fs.toList with
    | some pl=>(match tG (nF pl) r.z.cells.toList ps with
     | some cs=>.val (.agg cs.toArray)
     | none=>.no)
    | none=>.no)
   | .array _ e=>(match QU g.tys e with
    | some re=>(match tG (λi=>some (i*re.sz,re.sz)) r.z.cells.toList ps with
     | some cs=>.val (.agg cs.toArray)
     | none=>.no)
    | none=>.no)
   | _=>.no)
  | _,_=>.no
 | .makeInterface t x=>match QU g.tys t,S.ev x with
  | some r,some v=>(match Rg r.d with
   | false=>.val (.iface t v)
   | true=>.no)
  | _,_=>.no
 | .makeFunc f xs ys=>match qt S xs.toList,qt S ys.toList with
  | some a,some b=>.val (.func f a.toArray b.toArray)
  | _,_=>.no
 | .slice t x lo hi none=>match QU g.tys t,S.ev x with
  | some ⟨_,.string,_,_,_⟩,some (.string s)=>(match kV S 0 lo,kV S s.size hi with
   | some l,some h=>.need (0<=l/\l<=h/\h<=s.size) (.string (s.extract l.toNat h.toNat))
   | _,_=>.no)
  | _,_=>.no
 | _=>.no
def PR.Means (w:World)(r:Result Next):PR->Prop
 | .val v=>r= .ok (.value v) w
 | .ent e=>r= .ok (.value e.val) w
 | .norm k n=>r= .ok (.value (.int k n)) w
 | .normIf p k n=>p->r= .ok (.value (.int k n)) w
 | .need p v=>p->r= .ok (.value v) w
 | .no=>True
section
variable {g:Gx} {S:Env} {w:World} {ρ:Operand->Value}
theorem dQQ (op:BinOp)(t:TypeId)(k:IntKind)(x y:Int)(h1:op≠ .shl)(h2:op≠ .shr):
  (Gt op k x y).Means w (((binOp op t (.int k x) (.int k y)).run g.P w).andThen λv w=>.ok (.value v) w):=by
 cases op<;>first | (exact Xd rfl h1) | (exact Xd rfl h2) | skip
 all_goals simp[Gt,PR.Means,binOp,Op.intArith,Op.intBits,Op.intCmp,Op.intDiv]
 all_goals (intro h;simp[h])
theorem dQR (op:BinOp)(t:TypeId)(k k':IntKind)(x y:Int):
  (Gu op k x k' y).Means w (((binOp op t (.int k x) (.int k' y)).run g.P w).andThen λv w=>.ok (.value v) w):=by
 unfold Gu;split
 ·intro h;simp only[binOp,Op.shift];rw[if_neg (by omega)];simp
 ·intro h;simp only[binOp,Op.shift];rw[if_neg (by omega)];simp
 ·rename_i h1 h2;split
  ·rename_i hk;have:=Rf hk;subst this;exact dQQ op t k x y h1 h2
  ·trivial
theorem wI (a b:ByteArray):(a.toList==b.toList)=decide (a=b):=by
 rw[p9];simp[ByteArray.toList_eq];constructor
 ·intro h;cases a;cases b;simp_all
 ·intro h;rw[h]
theorem dQS (op:BinOp)(t:TypeId)(x y:ByteArray):
  (Gv op x y).Means w (((binOp op t (.string x) (.string y)).run g.P w).andThen λv w=>.ok (.value v) w):=by
 unfold Gv;split<;>simp only[PR.Means]
 ·intro h;have:¬((x.size+y.size:Nat):Int)>IntKind.i64.max:=by
   have h2:IntKind.i64.max=9223372036854775807:=by decide
   rw[h2];unfold maxLen at h;omega
  simp only[binOp,Op.stringOp];rw[if_neg this];simp
 ·simp[binOp,Op.stringOp,wI]
 ·simp[binOp,Op.stringOp,wI]
 ·simp[binOp,Op.stringOp,ByteArray.toList_eq]
theorem Y9 (hg:g.Ok){t:Nat}{r:TyRow}(hr:QU g.tys t=some r)(w:World):(underlying t).run g.P w= .ok r.d w:=
 ZX (hg.row hr).1 w
theorem dQT (hg:g.Ok){t:Nat}{r:TyRow}(hr:QU g.tys t=some r)(ty:TypeId)(v:Value):
  (Gw r.d v).Means w (((Builtin.len_ #[t] ty #[v]).run g.P w).andThen λv w=>.ok (.value v) w):=by
 have hu:=Y9 hg hr w;unfold Gw;split<;>simp only[PR.Means]
 ·rename_i h;simp[Builtin.len_,hu,h,goInt]
 ·rename_i h;simp[Builtin.len_,hu,h,goInt]
theorem dQU (hg:g.Ok){t:Nat}{r:TyRow}(hr:QU g.tys t=some r){x y:Value}{b:Bool}(h:jJ r.d x y=some b)(n:Nat):
  (Op.equalIn (n+1) t x y).run g.P w= .ok b w:=by
 have hu:=Y9 hg hr w;unfold jJ at h;split at h<;>first | (simp only[Option.some.injEq] at h;subst h;rename_i hd;simp[Op.equalIn,hu,hd];done) | cases h
theorem Rh (hg:g.Ok){t:Nat}{r:TyRow}(hr:QU g.tys t=some r){x y:Value}{b:Bool}(h:jJ r.d x y=some b):
  (Op.equal t x y).run g.P w= .ok b w:=dQU hg hr h 9999
theorem dQV (op:BinOp)(t:TypeId)(x y:Operand){d:TypeDesc}{a b:Value}{r:Bool}(h:jJ d a b=some r):eqGuard op t x y a b=pure ():=by
 unfold jJ at h;split at h<;>first | (simp only[eqGuard];split<;>rfl) | cases h
theorem dQW (hg:g.Ok)(op:BinOp){t:Nat}{r:TyRow}(hr:QU g.tys t=some r)(x y:Value):
  (qq op (jJ r.d x y)).Means w (((binOp op t x y).run g.P w).andThen λv w=>.ok (.value v) w):=by
 unfold qq;split
 ·rename_i b hb;have h:=Rh (w:=w) hg hr hb;have e:binOp .eql t x y=(do pure (.bool (<-Op.equal t x y))):=by
   unfold jJ at hb;split at hb<;>first | rfl | cases hb
  simp[PR.Means,e,h]
 ·rename_i b hb;have h:=Rh (w:=w) hg hr hb;have e:binOp .neq t x y=(do pure (.bool (!(<-Op.equal t x y)))):=by
   unfold jJ at hb;split at hb<;>first | rfl | cases hb
  simp[PR.Means,e,h]
 ·trivial
theorem dQX {P:Program}{t:TypeId}(h:eO (P.underlying t)<3)(w:World):(isAgg t).run P w= .ok false w:=by
 cases hu:P.underlying t with
 | none=>rw[hu] at h;simp[eO] at h
 | some d=>
  simp only[isAgg,Sem.run_bind,ZX hu,Result.andThen_ok];rw[hu] at h;cases d<;>first | rfl | (simp[eO] at h)
theorem cC {P:Program}{t:TypeId}(h:eO (P.underlying t)<3){cs:Array Value}{n:Nat}{v:Value}(hv:cs[n]? =some v)(w:World):(part t cs n).run P w= .ok v w:=by
 simp[part,dQX h,hv]
theorem Gy {P:Program}{xs ys:Array Value}:∀(fs:List Field)(ks:List Nat)(n:Nat)(xl yl:List Value)(b:Bool),qj P n fs ks=true->dH ks xl yl=some b->
  (∀j,xl[j]? =xs[n+j]?)->(∀j,yl[j]? =ys[n+j]?)->∀(d:Nat) (w:World),(Op.eqFields (d+1) xs ys fs).run P w= .ok b w
 | [],[],n,[],[],b,_,h,_,_,d,w=>by
  simp only[dH,Option.some.injEq] at h;subst h;simp[Op.eqFields]
 | [],[],_,[],_::_,_,_,h,_,_,_,_=>by simp[dH] at h
 | [],[],_,_::_,_,_,_,h,_,_,_,_=>by simp[dH] at h
 | [],_::_,_,_,_,_,hb,_,_,_,_,_=>by simp[qj] at hb
 | _::_,[],_,_,_,_,hb,_,_,_,_,_=>by simp[qj] at hb
 | f::fs,k::ks,n,xl,yl,b,hb,h,hx,hy,d,w=>by
  simp only[qj,Z4,bne_iff_ne,ne_eq] at hb;obtain⟨⟨⟨⟨zT,aS⟩,hk⟩,kh⟩,zU⟩:=hb;have aS:=VG aS;have hk:=VG hk;have kh:k<3:=by rw[ii] at kh;exact kh
  have Xe:eO (P.underlying f.type)<3:=by omega
  have step:∀(u v:Value) (xt yt:List Value) (e r:Bool),xl=u::xt->yl=v::yt->dH ks xt yt=some r->(Op.equalIn (d+1) f.type u v).run P w= .ok e w->
    (Op.eqFields (d+1) xs ys (f::fs)).run P w= .ok (e&&r) w:=by
   rintro u v xt yt e r rfl rfl hr he;have hu:xs[f.offset]? =some u:=by rw[aS];simpa using (hx 0).symm
   have hv:ys[f.offset]? =some v:=by rw[aS];simpa using (hy 0).symm
   have ih:=Gy fs ks (n+1) xt yt r zU hr (λj=>by have:=hx (j+1);simpa [kS,Nat.add_comm 1 j] using this) (λj=>by have:=hy (j+1);simpa [kS,Nat.add_comm 1 j] using this) d w;simp only[Op.eqFields,ne_eq,zT,not_false_eq_true,if_true,Sem.run_bind,cC Xe hu,cC Xe hv,Result.andThen_ok,he];cases e with
   | true=>simpa using ih
   | false=>simp
  unfold dH at h;split at h
  ·simp at*
  ·rename_i ks' k1 a xt k2 b2 yt pG;simp only[List.cons.injEq] at pG;obtain⟨rfl,rfl⟩:=pG;split at h
   ·rename_i r h1 h2;have:=Rf h1;subst this;simp only[Option.some.injEq] at h;subst h;cases hu:P.underlying f.type with
    | none=>rw[hu] at hk;simp[eO] at hk
    | some dd=>rw[hu] at hk;cases dd<;>first | (exact step _ _ _ _ _ _ rfl rfl h2 (run_equalIn_int w d f.type _ _ _ _ hu)) | (simp[eO] at hk)
   ·cases h
  ·rename_i ks' a xt b2 yt pG;simp only[List.cons.injEq] at pG;obtain⟨rfl,rfl⟩:=pG;split at h
   ·rename_i r h2;simp only[Option.some.injEq] at h;subst h;cases hu:P.underlying f.type with
    | none=>rw[hu] at hk;simp[eO] at hk
    | some dd=>rw[hu] at hk;cases dd<;>first | (refine step _ _ _ _ _ _ rfl rfl h2 ?_;rw[run_equalIn_string w d f.type _ _ hu,wI];done) | (simp[eO] at hk)
   ·cases h
  ·rename_i ks' a xt b2 yt pG;simp only[List.cons.injEq] at pG;obtain⟨rfl,rfl⟩:=pG;split at h
   ·rename_i r h2;simp only[Option.some.injEq] at h;subst h;cases hu:P.underlying f.type with
    | none=>rw[hu] at hk;simp[eO] at hk
    | some dd=>rw[hu] at hk;cases dd<;>first | (exact step _ _ _ _ _ _ rfl rfl h2 (run_equalIn_bool' w d f.type _ _ hu)) | (simp[eO] at hk)
   ·cases h
  ·cases h
theorem Ri (hg:g.Ok){t:Nat}{r:ERow}(hr:qk g.eqs t=some r){xs ys:Array Value}{b:Bool}(h:dH r.ks xs.toList ys.toList=some b)(n:Nat):
  (Op.equalIn (n+2) t (.agg xs) (.agg ys)).run g.P w= .ok b w:=by
 obtain⟨⟨h1,_,h3⟩,rfl⟩:=Ra hr hg.eqs;split at h3
 ·rename_i fs hu;have hf:g.P.fieldsOf r.t=fs:=by simp[Program.fieldsOf,hu]
  rw[run_equalIn_struct w (n+1) r.t xs ys (by rw[hf];exact hu) h1,hf];exact Gy fs.toList r.ks 0 _ _ b h3 h (λj=>by simp) (λj=>by simp) n w
 ·cases h3
theorem dQY (hg:g.Ok)(op:BinOp){t:Nat}{r:ERow}(hr:qk g.eqs t=some r)(x y:Operand)(xs ys:Array Value):
  (qq op (dH r.ks xs.toList ys.toList)).Means w (((eqGuard op t x y (.agg xs) (.agg ys)).run g.P w).andThen λ_ w=>((binOp op t (.agg xs) (.agg ys)).run g.P w).andThen λv w=>.ok (.value v) w):=by
 have KN:∀op,(eqGuard op t x y (.agg xs) (.agg ys)).run g.P w= .ok () w:=λop=>by
  obtain⟨⟨_,h2,_⟩,rfl⟩:=Ra hr hg.eqs;exact run_eqGuard_agg w op r.t x y xs ys h2
 unfold qq;split
 ·rename_i b hb;have h:=Ri (w:=w) hg hr hb 9998;simp only[PR.Means,KN,Result.andThen_ok,run_eql_struct];rw[h]<;>rfl
 ·rename_i b hb;have h:=Ri (w:=w) hg hr hb 9998;simp only[PR.Means,KN,Result.andThen_ok,run_neq_struct];rw[h]<;>rfl
 ·trivial
theorem Rj {α:Type}{xs:Array α}{x:α}(h:xs.toList=[x]):xs= #[x]:=by
 cases xs;simp_all
theorem Rk {α:Type}{xs:Array α}{x y:α}(h:xs.toList=[x,y]):xs= #[x,y]:=by
 cases xs;simp_all
theorem dQZ {α:Type}{xs:Array α}{x y z:α}(h:xs.toList=[x,y,z]):xs= #[x,y,z]:=by
 cases xs;simp_all
theorem Gz {α:Type}(l:List α)(n:Nat):nF l n=l[n]? :=by
 induction l generalizing n with
 | nil=>simp[nF]
 | cons x l ih=>cases n<;>simp[nF,ih]
theorem qu (v:Value):v.cells.toList=J1 v:=by cases v<;>rfl
theorem Rl (vs:List Value)(v:Value):∀(n:Nat)(l:List Value),Vh (n+1) vs (l.set n v)=Vh n (v::vs) l
 | 0,[]=>rfl
 | 0,_::_=>rfl
 | _+1,[]=>rfl
 | n+1,c::l=>by
  show c::Vh (n+1) vs (l.set n v)=c::Vh n (v::vs) l;rw[Rl vs v n l]
theorem Rm:∀(n:Nat)(l:List Value),Vh n [] l=l
 | 0,_=>rfl
 | _+1,[]=>rfl
 | n+1,c::l=>by
  show c::Vh n [] l=c::l;rw[Rm n l]
theorem Rn (off:Nat):∀(vs:List Value)(k:Nat)(l:List Value),
  (vs.zipIdx k).foldl (λcs (p:Value×Nat)=>cs.set (off+p.2) p.1) l=Vh (off+k) vs l
 | [],_,_=>(Rm _ _).symm
 | v::vs,k,l=>by
  rw[List.zipIdx_cons,wt,Rn off vs (k+1)];exact Rl vs v (off+k) l
theorem Ro (off:Nat)(vs cells:Array Value):
  (vs.zipIdx.foldl (λcs (c,j)=>cs.setIfInBounds (off+j) c) cells).toList=Vh off vs.toList cells.toList:=by
 have h:=Rn off vs.toList 0 cells.toList;rw[Nat.add_zero] at h;rw[<-Array.foldl_toList,Array.toList_zipIdx,<-h];clear h;generalize vs.toList.zipIdx 0=l;induction l generalizing cells with
 | nil=>rfl
 | cons p l ih=>simp only[wt];rw[ih];simp
theorem GA (ps:Nat->Option (Nat×Nat)):∀(parts:List (Nat×Value))(cells:Array Value)(out:List Value),tG ps cells.toList parts=some out->Instr.fill ps cells parts=some out.toArray
 | [],cells,out,h=>by
  simp only[tG,Option.some.injEq] at h;subst h;simp[Instr.fill]
 | (i,v)::rest,cells,out,h=>by
  simp only[tG] at h;split at h
  ·rename_i off sz hp;split at h
   ·rename_i h1 h2;have h1:=VG h1;have h2:=ij h2;have e1:v.cells.size=sz:=by rw[<-h1,<-qu];simp
    have e2:off+v.cells.size<=cells.size:=by rw[e1,<-h1];simpa using h2
    simp only[Instr.fill,hp];rw[if_neg (by simp;omega)];refine GA ps rest _ out ?_;rw[Ro,qu];exact h
   ·cases h
  ·cases h
theorem Rp (hg:g.Ok):∀(l:List Field)(m:List (Nat×Nat)),wG g l=some m->
  (l.mapM (m:=Sem) λf=>Prod.mk f.offset <$> sizeOf f.type).run g.P w= .ok m w
 | [],m,h=>by simp only[wG,Option.some.injEq] at h;subst h;simp
 | f::l,m,h=>by
  simp only[wG] at h;split at h
  ·rename_i r m' hr hm;simp only[Option.some.injEq] at h;subst h;obtain⟨_,i,hi,hs,_⟩:=hg.row hr;have ih:=Rp hg l m' hm;have hz:(sizeOf f.type).run g.P w= .ok r.sz w:=by simp[sizeOf,typeInfo,hi,hs]
   rw[List.mapM_cons];simp[hz,ih]
  ·cases h
theorem Bw {ρ:Operand->Value}(hρ:∀x v,S.ev x=some v->ρ x=v):∀(l:List Operand)(m:List Value),qt S l=some m->l.map ρ=m
 | [],m,h=>by simp only[qt,Option.some.injEq] at h;subst h;rfl
 | x::l,m,h=>by
  simp only[qt] at h;split at h
  ·rename_i v m' hv hm;simp only[Option.some.injEq] at h;subst h;rw[Kr,hρ _ _ hv,Bw hρ l m' hm]
  ·cases h
theorem GC {ρ:Operand->Value}(hρ:∀x v,S.ev x=some v->ρ x=v):∀(l:List (Nat×Operand))(m:List (Nat×Value)),tH S l=some m->l.map (λ(i,x)=>(i,ρ x))=m
 | [],m,h=>by simp only[tH,Option.some.injEq] at h;subst h;rfl
 | (i,x)::l,m,h=>by
  simp only[tH] at h;split at h
  ·rename_i v m' hv hm;simp only[Option.some.injEq] at h;subst h;rw[Kr,GC hρ l m' hm];show(i,ρ x)::m'=_;rw[hρ _ _ hv]
  ·cases h
theorem Rq {ρ:Operand->Value}(hρ:∀x v,S.ev x=some v->ρ x=v){x:Operand}{n:Int}{d:Int}(h:kV S d (some x)=some n)(y:Nat)(hn:0<=n/\n<=y)(code:BoundsCode):
  (Instr.sliceBound (ρ x) y code).run g.P w= .ok n.toNat w:=by
 unfold kV at h;simp only at h;split at h
 ·rename_i k m hv;simp only[Option.some.injEq] at h;subst h;rw[hρ _ _ hv];simp[Instr.sliceBound,asIntOf,hn]
 ·cases h
theorem dQ0 {ρ:Operand->Value}(hρ:∀x v,S.ev x=some v->ρ x=v){lo hi:Option Operand}{l h:Int}{n:Nat}(h1:kV S 0 lo=some l)(h2:kV S n hi=some h)(hp:0<=l/\l<=h/\h<=n):
  (Instr.sliceBounds false n n (lo.map ρ) (hi.map ρ) none).run g.P w= .ok (l.toNat,h.toNat,n) w:=by
 have e1:∀x,lo=some x->∀y:Nat,h=(y:Int)->∀code,(Instr.sliceBound (ρ x) y code).run g.P w= .ok l.toNat w:=λx hx y hy code=>
  Rq hρ (d:=0) (by rw[<-hx];exact h1) y ⟨hp.1,by omega⟩ code
 have e2:∀x,hi=some x->∀code,(Instr.sliceBound (ρ x) n code).run g.P w= .ok h.toNat w:=λx hx code=>
  Rq hρ (d:=n) (by rw[<-hx];exact h2) n ⟨by omega,hp.2.2⟩ code
 have hn:h=((h.toNat:Nat):Int):=by omega
 cases lo with
 | none=>
  have:l=0:=by simpa [kV] using h1.symm
  subst this;cases hi with
  | none=>
   have:h=n:=by simpa [kV] using h2.symm
   subst this;simp[Instr.sliceBounds]
  | some y=>simp[Instr.sliceBounds,e2 y rfl]
 | some x=>
  cases hi with
  | none=>
   have:h=n:=by simpa [kV] using h2.symm
   subst this;simp[Instr.sliceBounds,e1 x rfl n rfl]
  | some y=>simp[Instr.sliceBounds,e2 y rfl,e1 x rfl _ hn]
theorem dQ1 (hg:g.Ok)(hρ:∀x v,S.ev x=some v->ρ x=v)(o:Oper):
  (tI g S o.op).Means w ((execOp ρ o).run g.P w):=by
 obtain⟨dst,op,ty,pos,aft,gd⟩:=o;simp only;have mS:∀t e,S.ent t=some e->ρ (.tmp t)=e.val:=λt e h=>hρ _ _ (by
  simp only[Env.ev,Env.get];rw[h];cases e<;>rfl)
 unfold tI;split
 ·have:=hρ (.const (.bool true)) _ rfl;simp[PR.Means,execOp,this,Ent.val]
 ·have:=hρ (.const (.bool true)) _ rfl;simp[PR.Means,execOp,this,Ent.val]
 ·have:=hρ (.const (.bool false)) _ rfl;simp[PR.Means,execOp,this,Ent.val]
 ·have:=hρ (.const (.bool false)) _ rfl;simp[PR.Means,execOp,this,Ent.val]
 ·split
  ·rename_i e h;simp[PR.Means,execOp,mS _ _ h]
  ·trivial
 ·split
  ·rename_i e h;simp[PR.Means,execOp,mS _ _ h]
  ·trivial
 ·split
  ·rename_i e h;simp[PR.Means,execOp,hρ _ _ h]
  ·trivial
 ·split
  ·rename_i e h;simp[PR.Means,execOp,hρ _ _ h]
  ·trivial
 ·rename_i t a b;split
  ·rename_i h;have h1:=mS _ _ h;split
   ·have:=hρ (.const (.bool true)) _ rfl;simp[PR.Means,execOp,h1,this,Ent.val,asBool]
   ·have:=hρ (.const (.bool false)) _ rfl;simp[PR.Means,execOp,h1,this,Ent.val,asBool]
   ·split
    ·rename_i h2;simp[PR.Means,execOp,h1,mS _ _ h2,Ent.val,asBool]
    ·trivial
   ·split
    ·rename_i h2;simp[PR.Means,execOp,h1,hρ _ _ h2,Ent.val,asBool]
    ·trivial
  ·rename_i h;have h1:=mS _ _ h;split
   ·have:=hρ (.const (.bool true)) _ rfl;simp[PR.Means,execOp,h1,this,Ent.val,asBool]
   ·have:=hρ (.const (.bool false)) _ rfl;simp[PR.Means,execOp,h1,this,Ent.val,asBool]
   ·split
    ·rename_i h2;simp[PR.Means,execOp,h1,mS _ _ h2,Ent.val,asBool]
    ·trivial
   ·split
    ·rename_i h2;simp[PR.Means,execOp,h1,hρ _ _ h2,Ent.val,asBool]
    ·trivial
  ·trivial
 ·split
  ·rename_i hx hy;have:=dQR (g:=g) (w:=w);simp only[execOp,hρ _ _ hx,hρ _ _ hy,eqGuard];split<;>simpa using this _ _ _ _ _ _
  ·rename_i hx hy;have:=dQS (g:=g) (w:=w);simp only[execOp,hρ _ _ hx,hρ _ _ hy,eqGuard];split<;>simpa using this _ _ _ _
  ·rename_i op t x y _ _ _ a b hx hy;cases hr:qk g.eqs t with
   | none=>trivial
   | some r=>
    have:=dQY (w:=w) hg op hr x y a b;simp only[execOp,hρ _ _ hx,hρ _ _ hy];simpa using this
  ·rename_i op t x y _ _ _ a b _ _ _ hx hy;cases hr:QU g.tys t with
   | none=>trivial
   | some r=>
    have:=dQW (w:=w) hg op hr a b;generalize ho:jJ r.d a b=o at this;simp only[ho];cases o with
    | none=>unfold qq;split<;>first | trivial | (rename_i hn;cases hn)
    | some q=>
     simp only[execOp,hρ _ _ hx,hρ _ _ hy,dQV op t x y ho];simpa using this
  ·trivial
 ·split
  ·rename_i h;simp[PR.Means,execOp,mS _ _ h,Ent.val,Op.unary]
  ·rename_i h;simp[PR.Means,execOp,mS _ _ h,Ent.val,Op.unary]
  ·rename_i h;simp[PR.Means,execOp,mS _ _ h,Ent.val,Op.unary]
  ·trivial
 ·split
  ·rename_i h;simp[PR.Means,execOp,hρ _ _ h,Op.unary,Op.intArith]
  ·trivial
 ·split
  ·rename_i hs ht hx;simp only[PR.Means,execOp,hρ _ _ hx,convert];simp[Y9 hg hs,Y9 hg ht,Conv.intToInt]
  ·rename_i hs ht hx;simp only[PR.Means,execOp,hρ _ _ hx,convert];simp[Y9 hg hs,Y9 hg ht]
  ·trivial
 ·split
  ·rename_i vs hx;split
   ·rename_i v hv;rw[Re,Array.getElem?_toList] at hv;simp[PR.Means,execOp,hρ _ _ hx,Instr.extract,hv]
   ·trivial
  ·trivial
 ·split
  ·rename_i x t hxs cv;have h1:=Rj hxs;have h2:=Rj cv;subst h1 h2;split
   ·rename_i r v hr hv;have:=dQT (w:=w) hg hr ty v;simpa [execOp,resolve,invoke,builtin,hρ _ _ hv] using this
   ·trivial
  ·trivial
 ·split
  ·rename_i x y hxs;have h1:=Rk hxs;subst h1;split
   ·rename_i hx hy;simp[PR.Means,execOp,resolve,invoke,builtin,hρ _ _ hx,hρ _ _ hy,Builtin.min_,Builtin.min2]
   ·trivial
  ·rename_i x y z hxs;have h1:=dQZ hxs;subst h1;split
   ·rename_i hx hy hz;simp[PR.Means,execOp,resolve,invoke,builtin,hρ _ _ hx,hρ _ _ hy,hρ _ _ hz,Builtin.min_,Builtin.min2]
   ·trivial
  ·trivial
 ·split
  ·rename_i x y hxs;have h1:=Rk hxs;subst h1;split
   ·rename_i hx hy;simp[PR.Means,execOp,resolve,invoke,builtin,hρ _ _ hx,hρ _ _ hy,Builtin.max_,Builtin.max2]
   ·trivial
  ·trivial
 ·split
  ·rename_i h;simp[PR.Means,execOp,hρ _ _ h]
  ·rename_i h;simp[PR.Means,execOp,hρ _ _ h]
  ·rename_i h;simp[PR.Means,execOp,hρ _ _ h]
  ·trivial
 ·rename_i t x k;split
  ·rename_i hr hx;split
   ·rename_i fs hd;split
    ·rename_i f hf;split
     ·rename_i rf Fl;split
      ·rename_i hz;have hu:=Y9 hg hr w;rw[hd] at hu;obtain⟨_,i,hi,hs,_⟩:=hg.row Fl;have ag:i.size≠0:=by rw[hs];exact Nat.ne_of_beq_eq_false hz
       rw[Gz] at hf;have QZ:fs[k]? =some f:=by simpa using hf
       simp[PR.Means,execOp,hρ _ _ hx,Instr.fieldAt,hu,QZ,Instr.sureAddr,fieldPlace,sizeOf,typeInfo,hi,ag]
      ·trivial
     ·trivial
    ·trivial
   ·trivial
  ·trivial
 ·rename_i t x k;split
  ·rename_i cs hr hx;split
   ·rename_i fs hd;split
    ·rename_i f hf;have hu:=Y9 hg hr w;rw[hd] at hu;rw[Gz] at hf;have QZ:fs[k]? =some f:=by simpa using hf
     split
     ·rename_i rf Fl;have Dy:=Y9 hg Fl w;obtain⟨_,i,hi,hs,_⟩:=hg.row Fl;have ha:(isAgg f.type).run g.P w= .ok (qr rf.d) w:=by
       simp only[isAgg,Sem.run_bind,Dy,Result.andThen_ok];cases rf.d<;>rfl
      split
      ·rename_i Oz;simp[PR.Means,execOp,hρ _ _ hx,Instr.field,hu,QZ,asAgg,part,ha,Oz,sizeOf,typeInfo,hi,hs];apply Array.ext';simp[List.take_drop]
      ·rename_i Oz;split
       ·rename_i v hv;rw[Re] at hv;have OB:cs[f.offset]? =some v:=by simpa using hv
        simp[PR.Means,execOp,hρ _ _ hx,Instr.field,hu,QZ,asAgg,part,ha,Oz,OB]
       ·trivial
     ·trivial
    ·trivial
   ·trivial
  ·trivial
 ·rename_i t parts;split
  ·rename_i r ps hr aT;have dq:=GC hρ _ _ aT;have hu:=Y9 hg hr w;obtain⟨_,i,hi,hs,hb,hz⟩:=hg.row hr;have dQq:(parts.map λ(x:Nat×Operand)=>(x.1,ρ x.2)).toList=ps:=by rw[PO];exact dq
   split
   ·rename_i fs hd;rw[hd] at hu;split
    ·rename_i pl Jf;have X7:=Rp (w:=w) hg _ _ Jf;split
     ·rename_i cs Ja;have vS:=GA _ _ _ _ Ja;have zV:(fs.mapM (m:=Sem) λf=>Prod.mk f.offset <$> sizeOf f.type).run g.P w= .ok pl.toArray w:=by
       rw[Array.mapM_eq_mapM_toList];simp[X7]
      have Fo:(λi=>pl[i]?)=nF pl:=by funext i;rw[Gz]
      have OC:Instr.fill (λi=>pl[i]?) r.z.cells (parts.toList.map λ(x:Nat×Operand)=>(x.1,ρ x.2))=some cs.toArray:=by
       rw[Fo];rw[show(parts.toList.map λ(x:Nat×Operand)=>(x.1,ρ x.2))=ps from dq];exact vS
      simp only[PR.Means,execOp,Instr.build,zeroValue,typeInfo];simp[hi,hz,hu,zV,OC]
     ·trivial
    ·trivial
   ·rename_i n e hd;rw[hd] at hu;split
    ·rename_i re X8;obtain⟨_,i2,hi2,mi,_⟩:=hg.row X8;split
     ·rename_i cs Ja;have vS:=GA _ _ _ _ Ja;have OC:Instr.fill (λi=>some (i*re.sz,re.sz)) r.z.cells (parts.toList.map λ(x:Nat×Operand)=>(x.1,ρ x.2))=some cs.toArray:=by
       rw[show(parts.toList.map λ(x:Nat×Operand)=>(x.1,ρ x.2))=ps from dq];exact vS
      simp only[PR.Means,execOp,Instr.build,zeroValue,typeInfo,sizeOf];simp[hi,hz,hu,hi2,mi,OC]
     ·trivial
    ·trivial
   ·trivial
  ·trivial
 ·split
  ·rename_i r v hr hx;split
   ·rename_i hd;have hu:=Y9 hg hr w;simp only[PR.Means,execOp,hρ _ _ hx,Instr.makeInterface];simp only[Sem.run_bind,hu,Result.andThen_ok];cases hk:r.d<;>rw[hk] at hd<;>first | (simp[Rg] at hd;done) | simp
   ·trivial
  ·trivial
 ·rename_i f xs ys;split
  ·rename_i a b ha hb;have e1:=Bw hρ _ _ ha;have e2:=Bw hρ _ _ hb;have e1':xs.map ρ=a.toArray:=by apply Array.ext';simpa using e1
   have yj:ys.map ρ=b.toArray:=by apply Array.ext';simpa using e2
   simp[PR.Means,execOp,Instr.makeFunc,e1',yj]
  ·trivial
 ·split
  ·rename_i hr hx;split
   ·rename_i l h hl hh;intro hp;have hb:=dQ0 (g:=g) (w:=w) hρ hl hh hp;have hu:=Y9 hg hr w;simp only[execOp,hρ _ _ hx,Instr.sliceAt,Instr.slice];simp[hu,hb]
   ·trivial
  ·trivial
 ·trivial
end
def Xh (c:Cx)(S:Env)(dst:Option Tmp)(e:Ent)(K:Env->Prop):Prop:=
 match dst with
 | none=>K S
 | some d=>match Nat.blt d c.N.n with
  | true=>K ((d,e)::S)
  | false=>False
def gl:List Value->List Value->(List Value->Prop)->Prop
 | [],QT,K=>K QT
 | x::l,QT,K=>gl l (x::QT) K
def qv (S:Env):List Operand->List Value->(List Value->Prop)->Prop
 | [],QT,K=>K QT
 | x::xs,QT,K=>match S.ev x with
  | some v=>qv S xs (v::QT) K
  | none=>False
def kW (t:Nat):Env->Bool
 | []=>false
 | (k,_)::S=>match Nat.beq k t with
  | true=>true
  | false=>kW t S
def Bx (c:Cx)(t:Nat):Bool:=match Nat.blt t c.named with
 | true=>true
 | false=>gj t c.keep
def WX (p:Nat->Bool):Env->Env->(Env->Prop)->Prop
 | [],QT,K=>K QT
 | (t,x)::S,QT,K=>match p t with
  | true=>(match kW t QT with
   | true=>WX p S QT K
   | false=>WX p S ((t,x)::QT) K)
  | false=>WX p S QT K
def JF:Value->Bool
 | .agg _=>false
 | .tuple _=>false
 | _=>true
def GD (c:Cx)(o:Oper)(S:Env)(w:World)(K:Env->World->Prop)(Q:Zj):Prop:=
 match o.op with
 | .load t x=>(match QU c.g.tys t,S.ev x with
  | some r,some (.pointer (some p))=>(match qr r.d with
   | false=>iq w p (λv=>Xh c S o.dst (.v v) (λS=>K S w))
   | true=>kT w p r.sz (λvs=>Xh c S o.dst (.v (.agg vs.toArray)) (λS=>K S w)))
  | _,_=>Zc c o S w K Q)
 | .store t x y=>(match QU c.g.tys t,S.ev x,S.ev y with
  | some r,some (.pointer (some p)),some v=>(match JF v,Nat.beq r.sz 1,o.dst with
   | true,true,none=>eP w p v (λw=>K S w)
   | false,_,none=>(match v with
    | .agg cs=>(match Nat.beq cs.toList.length r.sz with
     | true=>nE c.g.P w p cs.toList (λw=>K S w)
     | false=>Zc c o S w K Q)
    | _=>Zc c o S w K Q)
   | _,_,_=>Zc c o S w K Q)
  | _,_,_=>Zc c o S w K Q)
 | .alloc e=>(match QU c.g.tys e with
  | some r=>qm w e (J1 r.z) (λp w=>Xh c S o.dst (.v (.pointer (some p))) (λS=>K S w))
  | none=>Zc c o S w K Q)
 | .box e x=>(match S.ev x with
  | some v=>qm w e (J1 v) (λp w=>Xh c S o.dst (.v (.pointer (some p))) (λS=>K S w))
  | none=>Zc c o S w K Q)
 | .indexAddr t x i=>(match QU c.g.tys t,S.ev x,S.ev i with
  | some ⟨_,.slice e,_,_,_⟩,some (.slice b n _),some (.int _ i)=>(match QU c.g.tys e with
   | some r=>Wz b n i r.sz (λp=>Xh c S o.dst (.v (.pointer (some p))) (λS=>K S w))
   | none=>Zc c o S w K Q)
  | some ⟨_,.array n e,_,_,_⟩,some (.pointer (some p)),some (.int _ i)=>(match QU c.g.tys e with
   | some r=>Wz (some p) n i r.sz (λp=>Xh c S o.dst (.v (.pointer (some p))) (λS=>K S w))
   | none=>Zc c o S w K Q)
  | _,_,_=>Zc c o S w K Q)
 | .index t x i=>(match QU c.g.tys t,S.ev x,S.ev i with
  | some ⟨_,.string,_,_,_⟩,some (.string s),some (.int _ i)=>eQ s i (λb=>Xh c S o.dst (.v (.int .u8 b)) (λS=>K S w))
  | _,_,_=>Zc c o S w K Q)
 | .call ⟨.value f,xs,_⟩=>(match S.ev f with
  | some (.func (.func n) first cap)=>(match gj n c.g.fns with
   | true=>gl first.toList [] (λQT=>qv S xs.toList QT (λQT=>gl cap.toList QT (λQT=>gl QT [] (λl=>
     iu c.g.P n l w (λv w=>Xh c S o.dst (.v v) (λS=>K S w)) (λch w=>Q (.panic ch) S w)))))
   | false=>Zc c o S w K Q)
  | _=>Zc c o S w K Q)
 | .call ⟨.invoke x nm,xs,_⟩=>(match S.ev x with
  | some (.iface t v)=>qv S xs.toList [v] (λQT=>gl QT [] (λl=>
    Rc c nm t l w (λv w=>Xh c S o.dst (.v v) (λS=>K S w)) (λch w=>Q (.panic ch) S w)))
  | _=>Zc c o S w K Q)
 | _=>Zc c o S w K Q
def dI (c:Cx)(o:Oper)(S:Env)(w:World)(K:Env->World->Prop)(Q:Zj):Prop:=
 match tI c.g S o.op with
 | .val v=>Xh c S o.dst (.v v) (λS=>K S w)
 | .ent e=>Xh c S o.dst e (λS=>K S w)
 | .norm k n=>dG n (λm=>Xh c S o.dst (.v (.int k m)) (λS=>K S w))
 | .normIf p k n=>gk p n (λm=>Xh c S o.dst (.v (.int k m)) (λS=>K S w))
 | .need p v=>jI p v (λv=>Xh c S o.dst (.v v) (λS=>K S w))
 | .no=>GD c o S w K Q
def K6:List Oper->Nat->Option Oper
 | [],_=>none
 | x::_,0=>some x
 | _::l,n+1=>K6 l n
def YD (c:Cx)(all:List Oper):List Oper->Env->World->(Env->World->Prop)->Zj->Prop
 | [],S,w,K,_=>WX (Bx c) S [] (λS=>K S w)
 | o::rest,S,w,K,Q=>match o.guard with
  | none=>dI c o S w (λS w=>YD c all rest S w K Q) Q
  | some (
      j,want)=>match K6 all j with
   | some oj=>(match oj.dst with
    | some d=>(match S.ent d with
     | some .t=>(match want with
      | true=>dI c o S w (λS w=>YD c all rest S w K Q) Q
      | false=>Xh c S o.dst (.v undef) (λS=>YD c all rest S w K Q))
     | some .f=>(match want with
      | false=>dI c o S w (λS w=>YD c all rest S w K Q) Q
      | true=>Xh c S o.dst (.v undef) (λS=>YD c all rest S w K Q))
     | some (.v (.bool b))=>(match want with
      | true=>KR b (dI c o ((d,.t)::S) w (λS w=>YD c all rest S w K Q) Q) (Xh c ((d,.f)::S) o.dst (.v undef) (λS=>YD c all rest S w K Q))
      | false=>KR b (Xh c ((d,.t)::S) o.dst (.v undef) (λS=>YD c all rest S w K Q)) (dI c o ((d,.f)::S) w (λS w=>YD c all rest S w K Q) Q))
     | some (.v (.tuple _))=>Xh c S o.dst (.v undef) (λS=>YD c all rest S w K Q)
     | _=>False)
    | none=>False)
   | none=>False
def By:Code->Nat
 | .region id _ _=>id
 | .seq x _=>By x
 | .block _ x=>By x
 | .loop x=>By x
 | _=>1000000
def dQ2 (c:Cx):Code->Bool
 | .region _ _ _=>false
 | x=>gj (By x) c.cuts
def Vq (c:Cx):Code->Env->World->Zj->Prop
 | .skip,S,w,Q=>Q .normal S w
 | .label _,S,w,Q=>Q .normal S w
 | .region id ops wQ,S,w,Q=>(match wQ with
  | false=>YD c ops.toList ops.toList S w (λS w=>Q .normal S w) Q
  | true=>WA c id ops.toList S w Q)
 | .seq x y,S,w,Q=>(match dQ2 c x with
  | true=>kU c (.seq x y) S w Q
  | false=>Vq c x S w (λe S w=>match e with
   | .normal=>Vq c y S w Q
   | e=>Q e S w))
 | .cond b x y,S,w,Q=>(match b with
  | .tmp t=>(match S.ent t with
   | some .t=>Vq c x S w Q
   | some .f=>Vq c y S w Q
   | some (.v (.bool b))=>KR b (Vq c x ((t,.t)::S) w Q) (Vq c y ((t,.f)::S) w Q)
   | _=>False)
  | .const (.bool true)=>Vq c x S w Q
  | .const (.bool false)=>Vq c y S w Q
  | _=>False)
 | .block id x,S,w,Q=>Vq c x S w (λe S w=>match e with
  | .exit i=>(match Nat.beq i id with
   | true=>Q .normal S w
   | false=>Q (.exit i) S w)
  | e=>Q e S w)
 | .loop x,S,w,Q=>Bv c x S w Q
 | .exit id,S,w,Q=>Q (.exit id) S w
 | .ret,S,w,Q=>Q .ret S w
 | x,S,w,Q=>kU c x S w Q
section
variable {c:Cx} {a:Act} {S:Env} {w:World} {K:Env->World->Prop} {Q:Zj}
theorem Zy {dst:Option Tmp}{e:Ent}{K:Env->Prop}(h:Xh c S dst e K)(hf:Fits c.N S a):
  ∃S',Fits c.N S' (a.put dst e.val)/\K S':=by
 unfold Xh at h;split at h
 ·exact⟨S,by simpa [Act.put] using hf,h⟩
 ·rename_i d;split at h
  ·rename_i hd;exact⟨_,hf.put (by rw[ii] at hd;exact hd) e,h⟩
  ·exact h.elim
theorem nG (l QT:List Value)(K:List Value->Prop):gl l QT K=K (l.reverse++QT):=by
 induction l generalizing QT with
 | nil=>simp[gl]
 | cons x l ih=>simp[gl,ih]
theorem GE {xs:List Operand}{QT:List Value}{K:List Value->Prop}(h:qv S xs QT K)(hf:Fits c.N S a):
  K ((xs.map a.eval).reverse++QT):=by
 induction xs generalizing QT with
 | nil=>simpa [qv] using h
 | cons x xs ih=>
  simp only[qv] at h;split at h
  ·rename_i v hv;have:=ih h;simp only[Kr,tq,ZR,List.singleton_append];rw[hf.ev hv];exact this
  ·exact h.elim
theorem Rs {t:Nat}{S:Env}(h:kW t S=false):S.ent t=none:=by
 induction S with
 | nil=>rfl
 | cons p S ih=>
  obtain⟨k,x⟩:=p;simp only[kW] at h;split at h
  ·cases h
  ·rename_i hb;simp[Env.ent,hb,ih h]
theorem dQ3 {t:Nat}{S:Env}(h:kW t S=true):∃x,S.ent t=some x:=by
 induction S with
 | nil=>cases h
 | cons p S ih=>
  obtain⟨k,x⟩:=p;simp only[kW] at h;split at h
  ·rename_i hb;exact⟨x,by simp[Env.ent,hb]⟩
  ·rename_i hb;simp[Env.ent,hb,ih h]
theorem Bz (S T:Env)(k:Nat):Env.ent (S++T) k=(S.ent k).or (Env.ent T k):=by
 induction S with
 | nil=>simp[Env.ent]
 | cons p S ih=>
  obtain⟨t,x⟩:=p;simp only[Z5,Env.ent];split<;>simp[ih]
theorem wJ {p:Nat->Bool}{N:Slots}{a:Act}(h1:a.tmps.size=N.n)(h2:a.defers=N.ds){K:Env->Prop}:∀(T QT:Env),(∀k x,QT.ent k=some x->p k=true)->
  (∀k x,p k=true->Env.ent (QT++T) k=some x->a.tmps[k]? =some x.val)->WX p T QT K->∃S',Fits N S' a/\K S'
 | [],QT,hp,hh,h=>⟨QT,⟨h1,h2,λk x hk=>hh k x (hp k x hk) (by simpa using hk)⟩,h⟩
 | (t,x)::T,QT,hp,hh,h=>by
  simp only[WX] at h;split at h
  ·rename_i fM;split at h
   ·rename_i hk;refine wJ h1 h2 T QT hp (λk y kE hy=>hh k y kE ?_) h;rw[Bz] at hy ⊢;cases hb:Nat.beq t k with
    | true=>
     have:=VG hb;subst this;obtain⟨z,hz⟩:=dQ3 hk;simp only[hz,Option.some_or] at hy ⊢;exact hy
    | false=>simpa [Env.ent,hb] using hy
   ·rename_i hk;refine wJ h1 h2 T ((t,x)::QT) (λk y hy=>?_) (λk y kE hy=>hh k y kE ?_) h
    ·simp only[Env.ent] at hy;split at hy
     ·rename_i hb;rw[<-VG hb];exact fM
     ·exact hp k y hy
    ·rw[Z5] at hy;simp only[Env.ent] at hy;rw[Bz];split at hy
     ·rename_i hb;have:=VG hb;subst this;rw[Rs hk];simpa [Env.ent] using hy
     ·rename_i hb;rw[Bz] at hy;simpa [Env.ent,hb] using hy
  ·rename_i fM;refine wJ h1 h2 T QT hp (λk y kE hy=>hh k y kE ?_) h;rw[Bz] at hy ⊢;have hb:Nat.beq t k=false:=by
    cases hb:Nat.beq t k with
    | false=>rfl
    | true=>have:=VG hb;subst this;rw[kE] at fM;cases fM
   simpa [Env.ent,hb] using hy
abbrev kX (c:Cx)(K:Env->World->Prop):Act->World->Prop:=λa' w'=>∃S',Fits c.N S' a'/\K S' w'
theorem bO {o:Oper}{v:Value}{w':World}{N:Act->World->Prop}{Q':Exit->Act->World->Prop}
  (hr:(execOp a.eval o).run c.g.P w= .ok (.value v) w') (h:N (a.put o.dst v) w'):o.wp c.g.P a w N Q':=by
 unfold Oper.wp;rw[hr];exact h
theorem cE (hg:c.g.Ok){o:Oper}(hf:Fits c.N S a){r:PR}(hr:tI c.g S o.op=r):r.Means w ((execOp a.eval o).run c.g.P w):=by
 rw[<-hr];exact dQ1 hg (λx v h=>hf.ev h) o
theorem dQ4 {P:Program}(t:TypeId)(i:TypeInfo)(hi:P.info? t=some i)(hs:i.size=1)(p:Addr)(v:Value)(hv:JF v=true)(w:World):
  (storeVar t p v).run P w=(store p v).run P w:=by
 have hc:v.cells= #[v]:=by cases v<;>first | rfl | (simp[JF] at hv)
 simp[storeVar,hc,sizeOf,typeInfo,hi,hs,storeCells,Addr.add]
theorem nH (hg:c.g.Ok){t:Nat}{r:TyRow}(hr:QU c.g.tys t=some r)(w:World):(isAgg t).run c.g.P w= .ok (qr r.d) w:=by
 simp only[isAgg,Sem.run_bind,Y9 hg hr,Result.andThen_ok];cases r.d<;>rfl
theorem run_sizeOf (hg:c.g.Ok){t:Nat}{r:TyRow}(hr:QU c.g.tys t=some r)(w:World):(sizeOf t).run c.g.P w= .ok r.sz w:=by
 obtain⟨_,i,hi,hs,_⟩:=hg.row hr;simp[sizeOf,typeInfo,hi,hs]
theorem BB {P:Program}{n:Nat}(hc:Bo P n)(args:Array Value)(w:World):(callFunc n args).run P w= .ok (.enter n args) w:=by
 obtain⟨fn,h1,h2,h3⟩:=hc;have JC:fn.body≠none:=λe=>by simp[e] at h2
 have oS:fn.name≠ "runtime.NumGoroutine" :=by simpa using h3
 simp[callFunc,h1,JC,oS]
theorem dQ5 (hg:c.g.Ok){t:Nat}{r:MRow}(hr:wD c.g.ms t=some r)(v:Value)(n:Nat)(w:World):(method (n+1) t v r.name).run c.g.P w= .ok (r.f,v) w:=by
 obtain⟨⟨h1,h2⟩,rfl⟩:=dQO hr hg.ms;cases hi:c.g.P.info? r.t with
 | none=>simp[hi] at h1
 | some i=>
  cases hm:i.methods.find? (λm=>m.name==r.name)with
  | none=>simp[hi,hm] at h1
  | some m=>
   simp[hi,hm] at h1;cases hu:c.g.P.underlying r.t with
   | none=>simp[hu] at h2
   | some d=>
    simp[hu] at h2;have hp:m.path.toList=[]:=by rw[h1.1]
    cases hb:r.ptr with
    | false=>
     rw[hb] at h1 h2;have hx:(receiverAt r.t (.val v) false (if m.path.isEmpty=true then some ((r.name.splitOn ".").getLastD r.name)else none)).run c.g.P w= .ok v w:=by
      unfold receiverAt;rw[Sem.run_bind,ZX hu];cases d<;>first | (simp[Gr] at h2;done) | simp[Place.get]
     unfold method;simp only[typeInfo,Sem.run_bind,run_program,Result.andThen_ok,hi,Sem.run_pure,hm,hp,follow,h1.2];simp only[hx,Result.andThen_ok]
    | true=>
     rw[hb] at h1 h2;have hx:(receiverAt r.t (.val v) true (if m.path.isEmpty=true then some ((r.name.splitOn ".").getLastD r.name)else none)).run c.g.P w= .ok v w:=by
      unfold receiverAt;rw[Sem.run_bind,ZX hu];cases d<;>first | (simp[Gr] at h2;done) | simp[Place.get]
     unfold method;simp only[typeInfo,Sem.run_bind,run_program,Result.andThen_ok,hi,Sem.run_pure,hm,hp,follow,h1.2];simp only[hx,Result.andThen_ok]
theorem dQ6 (hg:c.g.Ok){o:Oper}(h:GD c o S w K Q)(hf:Fits c.N S a):o.wp c.g.P a w (kX c K) (Up c Q):=by
 have KO:Zc c o S w K Q->o.wp c.g.P a w (kX c K) (Up c Q):=λh=>by unfold Zc at h;exact h a hf
 obtain⟨dst,op,ty,pos,aft,gd⟩:=o;unfold GD at h;split at h
 ·rename_i t x Zp;simp only at Zp;subst Zp;split at h
  ·rename_i r p hr hx;split at h
   ·rename_i hd;unfold iq at h;obtain⟨v,hv,hk⟩:=h;refine bO (v:=v) (w':=w) ?_ (Zy (e:=.v v) hk hf);have:=hf.ev hx;simp[execOp,this,Instr.loadAt,Instr.sureAddr,loadVar,nH hg hr,hd,load,Sem.run,hv]
   ·rename_i hd;unfold kT at h;obtain⟨vs,hl,hv,hk⟩:=h;refine bO (v:=.agg vs.toArray) (w':=w) ?_ (Zy (e:=.v (.agg vs.toArray)) hk hf);have:=hf.ev hx;have h2:=run_loadCells_list (P:=c.g.P) (w:=w) p vs hv;rw[hl] at h2;simp[execOp,this,Instr.loadAt,Instr.sureAddr,loadVar,nH hg hr,hd,run_sizeOf hg hr,h2]
  ·exact KO h
 ·rename_i t x y Zp;simp only at Zp;subst Zp;split at h
  ·rename_i r p v hr hx hy;split at h
   ·rename_i hs h1 hd;unfold eP at h;obtain⟨⟨u,hu⟩,jl,hk⟩:=h;obtain⟨_,i,hi,X7,_⟩:=hg.row hr;have e1:=hf.ev hx;have e2:=hf.ev hy;have ve:i.size=1:=by rw[X7];exact VG h1
    have pH:=dQ4 t i hi ve p v hs w;simp only at hd;subst hd;unfold Oper.wp;have:(execOp a.eval {dst:=none,op:=.store t x y,type:=ty,pos:=pos,after:=aft,guard:=gd}).run c.g.P w= .ok .skip (w.setCell p v):=by
     simp[execOp,e1,e2,Instr.storeAt,Instr.sureAddr,pH,store];cases v<;>first | (simp[JF] at hs;done) | simp[Sem.run,hu,jl]
    rw[this];exact⟨S,by simpa [Act.put] using hf,hk⟩
   ·rename_i hs hd;split at h
    ·rename_i cs;split at h
     ·rename_i hn;unfold nE at h;obtain⟨w',Jg,hk⟩:=h;have hn:=VG hn;have e1:=hf.ev hx;have e2:=hf.ev hy;simp only at hd;subst hd;unfold Oper.wp;have:(execOp a.eval {dst:=none,op:=.store t x y,type:=ty,pos:=pos,after:=aft,guard:=gd}).run c.g.P w= .ok .skip w':=by
       simp only[execOp,e1,e2,Instr.storeAt,Instr.sureAddr,storeVar,Value.cells];simp only[Sem.run_bind,Sem.run_pure,run_sizeOf hg hr,Result.andThen_ok];rw[if_neg (by simpa using hn)];simp[Jg]
      rw[this];exact⟨S,by simpa [Act.put] using hf,hk⟩
     ·exact KO h
    ·exact KO h
   ·exact KO h
  ·exact KO h
 ·rename_i e Zp;simp only at Zp;subst Zp;split at h
  ·rename_i r hr;obtain⟨_,i,hi,_,_,hz⟩:=hg.row hr;unfold qm at h;refine bO (v:=.pointer (some ⟨w.heap.size,0,none⟩)) (w':=w.alloc (.cells (J1 r.z).toArray e)) ?_ (Zy (e:=.v _) h hf);have hc:r.z.cells=(J1 r.z).toArray:=by rw[<-qu]
   simp[execOp,Instr.alloc,zeroValue,typeInfo,hi,hz,newVar,newRow,hc]
  ·exact KO h
 ·rename_i e x Zp;simp only at Zp;subst Zp;split at h
  ·rename_i v hx;unfold qm at h;have e1:=hf.ev hx;refine bO (v:=.pointer (some ⟨w.heap.size,0,none⟩)) (w':=w.alloc (.cells (J1 v).toArray e)) ?_ (Zy (e:=.v _) h hf);have hc:v.cells=(J1 v).toArray:=by rw[<-qu]
   simp[execOp,e1,Instr.box,newVar,newRow,hc]
  ·exact KO h
 ·rename_i t x ix Zp;simp only at Zp;subst Zp;split at h
  ·rename_i e b n k i hr hx hi;split at h
   ·rename_i r X8;unfold Wz at h;obtain⟨p,rfl,h0,h1,hk⟩:=h;refine bO (v:=.pointer (some (p.add (i.toNat*r.sz)))) (w':=w) ?_ (Zy (e:=.v _) hk hf);have e1:=hf.ev hx;have e2:=hf.ev hi;simp[execOp,e1,e2,Instr.indexAt,asIntOf,Y9 hg hr,run_sizeOf hg X8,h0,h1]
   ·exact KO h
  ·rename_i n e p k i hr hx hi;split at h
   ·rename_i r X8;unfold Wz at h;obtain⟨p',hp,h0,h1,hk⟩:=h;cases hp;refine bO (v:=.pointer (some (p.add (i.toNat*r.sz)))) (w':=w) ?_ (Zy (e:=.v _) hk hf);have e1:=hf.ev hx;have e2:=hf.ev hi;simp[execOp,e1,e2,Instr.indexAt,Instr.sureAddr,asIntOf,Y9 hg hr,run_sizeOf hg X8,h0,h1]
   ·exact KO h
  ·exact KO h
 ·rename_i t x ix Zp;simp only at Zp;subst Zp;split at h
  ·rename_i s k i hr hx hi;unfold eQ at h;obtain⟨b,h0,h1,hk⟩:=h;refine bO (v:=.int .u8 b.toNat) (w':=w) ?_ (Zy (e:=.v _) hk hf);have e1:=hf.ev hx;have e2:=hf.ev hi;simp[execOp,e1,e2,Instr.index,asIntOf,Y9 hg hr,h0,h1]
  ·exact KO h
 ·rename_i f xs ts Zp;simp only at Zp;subst Zp;split at h
  ·rename_i n first cap hv;split at h
   ·rename_i hm;have hc:=hg.fns n (Bu hm);rw[nG] at h;have h2:=GE h hf;rw[nG,nG] at h2;simp only[JZ,List.reverse_append,List.reverse_reverse,ZR] at h2;unfold iu at h2;have e1:=hf.ev hv;unfold Oper.wp;have:(execOp a.eval {dst:=dst,op:=.call ⟨.value f,xs,ts⟩,type:=ty,pos:=pos,after:=aft,guard:=gd}).run c.g.P w=
      .ok (.enter n (first.toList++(List.map a.eval xs.toList++cap.toList)).toArray) w:=by
     simp[execOp,resolve,e1,Deferred.ofValue,invoke,BB hc]
    rw[this];unfold Oper.upon;refine h2.mono λe w' he=>?_
    cases e with
    | returned v=>exact Zy (e:=.v v) he hf
    | panicked ch=>exact⟨S,hf,he⟩
    | outgrown=>exact he.elim
   ·exact KO h
  ·exact KO h
 ·rename_i x nm xs ts Zp;simp only at Zp;subst Zp;split at h
  ·rename_i t v hv
   ·have h2:=GE h hf;rw[nG] at h2;simp only[JZ,List.reverse_append,List.reverse_reverse,tq,List.reverse_nil,aZ] at h2;unfold Rc at h2;obtain⟨r,hr,rfl,hm,h2⟩:=h2
    ·have hc:=hg.fns r.f (Bu hm);unfold iu at h2;have e1:=hf.ev hv;unfold Oper.wp;have sG:=dQ5 hg hr v (c.g.P.types.size+99) w;have:(execOp a.eval {dst:=dst,op:=.call ⟨.invoke x r.name,xs,ts⟩,type:=ty,pos:=pos,after:=aft,guard:=gd}).run c.g.P w=
       .ok (.enter r.f ([v]++List.map a.eval xs.toList).toArray) w:=by
      have gR:(#[Value.iface t v]++Array.map a.eval xs).extract 1 (#[Value.iface t v]++Array.map a.eval xs).size=Array.map a.eval xs:=by
       apply Array.ext';simp;exact Jv (by simp)
      have dt:(callMethod (.iface t v) r.name (Array.map a.eval xs)).run c.g.P w= .ok (.enter r.f ([v]++List.map a.eval xs.toList).toArray) w:=by
       simp only[callMethod,Sem.run_bind,run_program,Result.andThen_ok];rw[show c.g.P.types.size+Made.depth=c.g.P.types.size+99+1 from rfl,sG];simp[BB hc]
      simp only[execOp,resolve,e1,Sem.run_bind,Sem.run_pure,Result.andThen_ok,invoke];rw[gR,show(#[Value.iface t v]++Array.map a.eval xs)[0]? =some (Value.iface t v) from (Array.getElem?_append_left (show 0<1 by decide)).trans rfl];exact dt
     rw[this];unfold Oper.upon;refine h2.mono λe w' he=>?_
     cases e with
     | returned v=>exact Zy (e:=.v v) he hf
     | panicked ch=>exact⟨S,hf,he⟩
     | outgrown=>exact he.elim
  ·exact KO h
 ·exact KO h
theorem qw (hg:c.g.Ok){o:Oper}(h:dI c o S w K Q)(hf:Fits c.N S a):o.wp c.g.P a w (kX c K) (Up c Q):=by
 unfold dI at h;split at h
 ·rename_i v hp;have hm:=cE (w:=w) hg hf hp;exact bO hm (Zy (e:=.v v) h hf)
 ·rename_i e hp;have hm:=cE (w:=w) hg hf hp;exact bO hm (Zy (e:=e) h hf)
 ·rename_i k n hp;have hm:=cE (w:=w) hg hf hp;unfold dG at h;exact bO hm (Zy (e:=.v (.int k n)) h hf)
 ·rename_i p k n hp;have hm:=cE (w:=w) hg hf hp;unfold gk at h;exact bO (hm h.1) (Zy (e:=.v (.int k n)) h.2 hf)
 ·rename_i p v hp;have hm:=cE (w:=w) hg hf hp;unfold jI at h;exact bO (hm h.1) (Zy (e:=.v v) h.2 hf)
 ·exact dQ6 hg h hf
theorem gm (l:List Oper)(n:Nat):K6 l n=l[n]? :=by
 induction l generalizing n with
 | nil=>simp[K6]
 | cons x l ih=>cases n<;>simp[K6,ih]
theorem kY {all:List Oper}{o oj:Oper}{j d:Nat}{want b:Bool}(KN:o.guard=some (j,want))(hj:K6 all j=some oj)(hd:oj.dst=some d)(ha:a.tmps[d]? =some (.bool b)):
  Region.wanted o (yielded all.toArray a.tmps)=(b==want):=by
 rw[gm] at hj;simp[Region.wanted,KN,yielded,hj,hd,ha]
theorem GF {all:List Oper}{o oj:Oper}{j d:Nat}{want:Bool}{vs:Array Value}(KN:o.guard=some (j,want))(hj:K6 all j=some oj)(hd:oj.dst=some d)(ha:a.tmps[d]? =some (.tuple vs)):
  Region.wanted o (yielded all.toArray a.tmps)=false:=by
 rw[gm] at hj;simp[Region.wanted,KN,yielded,hj,hd,ha]
theorem jK (hg:c.g.Ok)(all:List Oper):∀(l:List Oper)(S:Env)(w:World)(a:Act),YD c all l S w K Q->Fits c.N S a->
  wpList c.g.P all.toArray (λe a w=>Exit.then (kX c K) (Up c Q) e a w) l a w
 | [],S,w,a,h,hf=>by
  simp only[YD] at h;exact wJ (p:=Bx c) hf.size hf.defers S [] (λk x hk=>by simp[Env.ent] at hk) (λk x _ hk=>hf.has k x hk) h
 | o::rest,S,w,a,h,hf=>by
  have go:∀(S:Env),dI c o S w (λS w=>YD c all rest S w K Q) Q->Fits c.N S a->o.wp c.g.P a w (wpList c.g.P all.toArray (λe a w=>Exit.then (kX c K) (Up c Q) e a w) rest) (λe a w=>Exit.then (kX c K) (Up c Q) e a w):=λS h hf=>by
   have h1:=qw hg h hf;have h2:=Oper.wp_mono (K':=wpList c.g.P all.toArray (λe a w=>Exit.then (kX c K) (Up c Q) e a w) rest) (λa' w' ⟨S',QZ,hk⟩=>jK hg all rest S' w' a' hk QZ) h1;unfold Oper.wp at h2 ⊢;generalize (execOp a.eval o).run c.g.P w=r at*;cases r with
   | ok n w'=>
    cases n<;>simp only[Oper.upon] at h2 ⊢ <;> exact h2
   | halt x w'=>cases x<;>simp only[Oper.upon] at h2 ⊢ <;> exact h2
  have no:∀(S:Env),Xh c S o.dst (.v undef) (λS=>YD c all rest S w K Q)->Fits c.N S a->wpList c.g.P all.toArray (λe a w=>Exit.then (kX c K) (Up c Q) e a w) rest (a.put o.dst undef) w:=λS h hf=>by
   obtain⟨S',QZ,hk⟩:=Zy h hf;exact jK hg all rest S' w _ hk QZ
  have fit:∀(d:Nat) (b:Bool) (e:Ent),S.ent d=some (.v (.bool b))->e.val= .bool b->Fits c.N ((d,e)::S) a:=λd b e hd he=>by
   refine⟨hf.size,hf.defers,λk x hk=>?_⟩;simp only[Env.ent] at hk;split at hk
   ·rename_i hb;have:=VG hb;subst this;cases hk;rw[he];exact hf.has _ _ hd
   ·exact hf.has _ _ hk
  simp only[YD] at h;unfold wpList;split at h
  ·rename_i KN;rw[Qe (by simp[Region.wanted,KN])];exact .inl (go S h hf)
  ·rename_i j want KN;split at h
   ·rename_i oj hj;split at h
    ·rename_i d hd;split at h
     ·rename_i ZJ;have hw:=kY KN hj hd (hf.has _ _ ZJ);split at h
      ·rw[Qe (by rw[hw];rfl)];exact .inl (go S h hf)
      ·rw[if_neg (by rw[hw];decide)];exact no S h hf
     ·rename_i ZJ;have hw:=kY KN hj hd (hf.has _ _ ZJ);split at h
      ·rw[Qe (by rw[hw];rfl)];exact .inl (go S h hf)
      ·rw[if_neg (by rw[hw];decide)];exact no S h hf
     ·rename_i b ZJ;have hw:=kY KN hj hd (hf.has _ _ ZJ);split at h
      ·unfold KR at h;cases b with
       | true=>rw[Qe (by rw[hw];rfl)];exact .inl (go _ (h.1 rfl) (fit d true .t ZJ rfl))
       | false=>rw[if_neg (by rw[hw];decide)];exact no _ (h.2 rfl) (fit d false .f ZJ rfl)
      ·unfold KR at h;cases b with
       | true=>rw[if_neg (by rw[hw];decide)];exact no _ (h.1 rfl) (fit d true .t ZJ rfl)
       | false=>rw[Qe (by rw[hw];rfl)];exact .inl (go _ (h.2 rfl) (fit d false .f ZJ rfl))
     ·rename_i ZJ;rw[if_neg (by rw[GF KN hj hd (hf.has _ _ ZJ)];decide)];exact no S h hf
     ·exact h.elim
    ·exact h.elim
   ·exact h.elim
theorem jL (hg:c.g.Ok):∀(x:Code)(S:Env)(w:World)(Q:Zj)(a:Act),Vq c x S w Q->Fits c.N S a->x.wp c.g.P (Up c Q) a w:=by
 intro x;have hc:∀(x:Code) (S:Env) (w:World) (Q:Zj) (a:Act),kU c x S w Q->Fits c.N S a->x.wp c.g.P (Up c Q) a w:=λx S w Q a h hf=>by
  unfold kU at h;exact h a hf
 induction x with
 | skip=>exactλS w Q a h hf=>wp_skip ⟨S,hf,h⟩
 | label l=>exactλS w Q a h hf=>wp_label ⟨S,hf,h⟩
 | region id ops wQ=>
  intro S w Q a h hf;simp only[Vq] at h;cases wQ with
  | false=>
   have h1:=jK hg _ _ _ _ _ h hf;refine wp_mono (wp_region_list ?_) (Q:=λe a w=>Exit.then (kX c (λS w=>Q .normal S w)) (Up c Q) e a w) (λe a w hq=>?_)
   ·simpa using h1
   ·cases e<;>exact hq
  | true=>
   unfold WA at h;simpa using h a hf
 | seq x y ihx ihy=>
  intro S w Q a h hf;simp only[Vq] at h;split at h
  ·exact hc _ _ _ _ _ h hf
  ·refine wp_seq (wp_mono (ihx _ _ _ _ h hf) (λe a w hq=>?_));obtain⟨S',QZ,hq⟩:=hq;cases e<;>first | exact ihy _ _ _ _ hq QZ | exact⟨S',QZ,hq⟩
 | cond b x y ihx ihy=>
  intro S w Q a h hf;simp only[Vq] at h;split at h
  ·rename_i t;split at h
   ·rename_i ht;exact wp_cond_true (by have:=hf.has _ _ ht;simp[Act.eval,this,Ent.val]) (ihx _ _ _ _ h hf)
   ·rename_i ht;exact wp_cond_false (by have:=hf.has _ _ ht;simp[Act.eval,this,Ent.val]) (ihy _ _ _ _ h hf)
   ·rename_i b ht;have jm:a.eval (.tmp t)= .bool b:=by have:=hf.has _ _ ht;simp[Act.eval,this,Ent.val]
    have fit:∀(e:Ent),e.val= .bool b->Fits c.N ((t,e)::S) a:=λe he=>by
     refine⟨hf.size,hf.defers,λk x hk=>?_⟩;simp only[Env.ent] at hk;split at hk
     ·rename_i hb;have:=VG hb;subst this;cases hk;rw[he];exact hf.has _ _ ht
     ·exact hf.has _ _ hk
    unfold KR at h;cases b with
    | true=>exact wp_cond_true jm (ihx _ _ _ _ (h.1 rfl) (fit .t rfl))
    | false=>exact wp_cond_false jm (ihy _ _ _ _ (h.2 rfl) (fit .f rfl))
   ·exact h.elim
  ·exact wp_cond_true rfl (ihx _ _ _ _ h hf)
  ·exact wp_cond_false rfl (ihy _ _ _ _ h hf)
  ·exact h.elim
 | block id x ih=>
  intro S w Q a h hf;simp only[Vq] at h;refine wp_block (wp_mono (ih _ _ _ _ h hf) (λe a w hq=>?_));obtain⟨S',QZ,hq⟩:=hq;cases e with
  | exit i=>
   simp only at hq;simp only[Exit.inBlock];split at hq
   ·rename_i hb;rw[Qe (VG hb)];exact⟨S',QZ,hq⟩
   ·rename_i hb;rw[if_neg (λe=>by subst e;simp at hb)];exact⟨S',QZ,hq⟩
  | normal=>exact⟨S',QZ,hq⟩
  | goto l=>exact⟨S',QZ,hq⟩
  | ret=>exact⟨S',QZ,hq⟩
  | panic ch=>exact⟨S',QZ,hq⟩
  | outgrown=>exact⟨S',QZ,hq⟩
 | loop x ih=>intro S w Q a h hf;simp only[Vq] at h;unfold Bv at h;exact h a hf
 | exit id=>exactλS w Q a h hf=>wp_exit ⟨S,hf,h⟩
 | ret=>exactλS w Q a h hf=>wp_ret ⟨S,hf,h⟩
 | rangeFunc f ps as_ b ih1 ih2=>exactλS w Q a h hf=>hc _ _ _ _ _ h hf
 | scope x ih=>exactλS w Q a h hf=>hc _ _ _ _ _ h hf
 | goto l=>exactλS w Q a h hf=>hc _ _ _ _ _ h hf
 | refuse y=>exactλS w Q a h hf=>hc _ _ _ _ _ h hf
end
def kZ:List Nat->List Value->Env->(Env->Prop)->Prop
 | _,[],S,K=>K S
 | t::ts,v::vs,S,K=>kZ ts vs ((t,.v v)::S) K
 | [],_::_,_,_=>False
def Rt (w:World)(R:Value->World->Prop):List Value->Prop
 | [v]=>R v w
 | vs=>R (.tuple vs.toArray) w
def dJ (c:Cx)(S:Env)(w:World)(R:Value->World->Prop):List ResultVar->List Value->Prop
 | [],QT=>gl QT [] (λl=>Rt w R l)
 | .tmp t::rs,QT=>(match S.get t with
  | some v=>dJ c S w R rs (v::QT)
  | none=>False)
 | .cell t ty::rs,QT=>(match QU c.g.tys ty,S.get t with
  | some r,some (.pointer (some p))=>(match qr r.d with
   | false=>iq w p (λv=>dJ c S w R rs (v::QT))
   | true=>kT w p r.sz (λvs=>dJ c S w R rs (.agg vs.toArray::QT)))
  | _,_=>False)
def BC (c:Cx)(rs:List ResultVar)(R:Value->World->Prop):Zj:=λe S w=>match e with
 | .normal=>dJ c S w R rs []
 | .ret=>dJ c S w R rs []
 | _=>False
def BD (tmps:Array Value):ResultVar->Sem Value
 | .tmp t=>pure (tmps.getD t undef)
 | .cell t ty=>do loadVar ty (<-asAddr (tmps.getD t undef))
theorem dQ7 (fn:Func)(tmps:Array Value):results fn tmps=(do
  let vs<-fn.results.mapM (BD tmps)
  pure (if h:vs.size=1 then vs[0] else .tuple vs)):=by
 unfold results;congr 2
theorem BG {c:Cx}(hg:c.g.Ok){S:Env}{a:Act}{w:World}(hf:Fits c.N S a)(R:Value->World->Prop):∀(rs:List ResultVar)(QT:List Value),dJ c S w R rs QT->
  ∃vs:List Value,(rs.mapM (BD a.tmps)).run c.g.P w= .ok vs w/\Rt w R (QT.reverse++vs)
 | [],QT,h=>by
  simp only[dJ,nG,JZ] at h;exact⟨[],by simp,by simpa using h⟩
 | .tmp t::rs,QT,h=>by
  simp only[dJ] at h;split at h
  ·rename_i v hv;obtain⟨vs,h1,h2⟩:=BG hg hf R rs _ h;have:=hf.get hv;refine⟨v::vs,?_,by simpa using h2⟩;simp only[List.mapM_cons,Sem.run_bind];rw[show(BD a.tmps (.tmp t)).run c.g.P w= .ok v w by simp[BD,this]];simp only[Result.andThen_ok];rw[h1];simp
  ·exact h.elim
 | .cell t ty::rs,QT,h=>by
  simp only[dJ] at h;split at h
  ·rename_i r p hr hp;have hp:=hf.get hp;split at h
   ·rename_i hd;unfold iq at h;obtain⟨v,hv,h⟩:=h;obtain⟨vs,h1,h2⟩:=BG hg hf R rs _ h;refine⟨v::vs,?_,by simpa using h2⟩;have e1:(do loadVar ty (<-asAddr (a.tmps.getD t undef)):Sem Value).run c.g.P w= .ok v w:=by
     simp[hp,asAddr,loadVar,nH hg hr,hd,load,Sem.run,hv]
    rw[List.mapM_cons,Sem.run_bind];show Result.andThen ((do loadVar ty (<-asAddr (a.tmps.getD t undef)):Sem Value).run c.g.P w) _=_;rw[e1];simp only[Result.andThen_ok,Sem.run_bind];rw[h1];simp
   ·rename_i hd;unfold kT at h;obtain⟨cs,hl,hv,h⟩:=h;obtain⟨vs,h1,h2⟩:=BG hg hf R rs _ h;have h3:=run_loadCells_list (P:=c.g.P) (w:=w) p cs hv;rw[hl] at h3;refine⟨.agg cs.toArray::vs,?_,by simpa using h2⟩;have e1:(do loadVar ty (<-asAddr (a.tmps.getD t undef)):Sem Value).run c.g.P w= .ok (.agg cs.toArray) w:=by
     simp[hp,asAddr,loadVar,nH hg hr,hd,run_sizeOf hg hr,h3]
    rw[List.mapM_cons,Sem.run_bind];show Result.andThen ((do loadVar ty (<-asAddr (a.tmps.getD t undef)):Sem Value).run c.g.P w) _=_;rw[e1];simp only[Result.andThen_ok,Sem.run_bind];rw[h1];simp
  ·exact h.elim
theorem jM {c:Cx}(hg:c.g.Ok){S:Env}{a:Act}{w:World}(hf:Fits c.N S a){R:Value->World->Prop}{fn:Func}(h:dJ c S w R fn.results.toList []):
  ∃v,(results fn a.tmps).run c.g.P w= .ok v w/\R v w:=by
 obtain⟨vs,h1,h2⟩:=BG hg hf R _ _ h;have e:fn.results=fn.results.toList.toArray:=by simp
 rw[dQ7,e,List.mapM_toArray];simp only[Sem.run_bind,Sem.run_map];rw[h1];simp only[Result.andThen_ok,Sem.run_pure,List.size_toArray,aZ,List.reverse_nil] at h2 ⊢
 match vs,h2 with
 | [],h2=>exact⟨_,rfl,h2⟩
 | [v],h2=>exact⟨_,rfl,h2⟩
 | v::u::vs,h2=>exact⟨_,rfl,h2⟩
theorem gn {N:Nat}(args:List Value)(hN:args.length<=N)(S:Env)(hS:∀k x,S.ent k=some x->args[k]? =some x.val):
  Fits ⟨N,[]⟩ S {tmps:=args.toArray++Array.replicate (N-args.toArray.size) undef,defers:=[]}:=by
 refine⟨by simp;omega,rfl,λk x hk=>?_⟩;have h1:=hS k x hk;have:k<args.length:=(ZM.1 h1).1;rw[Array.getElem?_append_left (by simpa using this)];simpa using h1
theorem wK {K:Env->Prop}:∀(ts:List Nat)(vs:List Value)(S:Env)(m:Nat)(args:List Value),(∀j t,ts[j]? =some t->t=m+j)->args.drop m=vs->(∀k x,S.ent k=some x->args[k]? =some x.val)->
  kZ ts vs S K->∃S',(∀k x,Env.ent S' k=some x->args[k]? =some x.val)/\K S'
 | _,[],S,_,_,_,_,hS,h=>⟨S,hS,by unfold kZ at h;exact h⟩
 | [],_::_,_,_,_,_,_,_,h=>by simp[kZ] at h
 | t::ts,v::vs,S,m,args,ht,hd,hS,h=>by
  simp only[kZ] at h;have yk:t=m:=by have:=ht 0 t rfl;omega
  subst yk;have hv:args[t]? =some v:=by
   have:=QD (λl=>l[0]?) hd;simpa using this
  refine wK ts vs _ (t+1) args (λj u hu=>by have:=ht (j+1) u hu;omega) ?_ (λk x hk=>?_) h
  ·rw[<-tr,hd]<;>rfl
  ·simp only[Env.ent] at hk;split at hk
   ·rename_i hb;have:=VG hb;subst this;cases hk;exact hv
   ·exact hS k x hk
theorem QH {c:Cx}(hg:c.g.Ok){f:FuncId}{fn:Func}{x:Code}{args:List Value}{w:World}{R:Value->World->Prop}(hf:c.g.P.funcs[f]? =some fn)(hb:fn.body=some x)(hN:⟨fn.ntmps,[]⟩=c.N)
  (hl:Nat.ble args.length c.N.n=true) (h:kZ [0,1,2,3,4,5,6,7,8,9,10,11,12,13,14,15] args [] (λS=>Vq c x S w (BC c fn.results.toList R))):Fn c.g.P f args w R:=by
 unfold Fn;obtain⟨S,hS,hx⟩:=wK _ args [] 0 args (λj t ht=>by
  match j,ht with
  | 0,ht | 1,ht | 2,ht | 3,ht | 4,ht | 5,ht | 6,ht | 7,ht | 8,ht | 9,ht | 10,ht | 11,ht | 12,ht | 13,ht | 14,ht | 15,ht=>simp at ht;omega
  | j+16,ht=>simp at ht) (by simp) (λk x hk=>by simp[Env.ent] at hk) h
 refine calls_of_wp hf hb ?_;have hn:fn.ntmps=c.N.n:=QD Slots.n hN;have Ke:=gn (N:=c.N.n) args (ij hl) S hS;rw[<-hn,hN] at Ke;refine wp_mono (jL hg x S w _ _ hx Ke) (λe a w' hq=>?_);obtain⟨S',QZ,hq⟩:=hq;have ZJ:a.defers=[]:=by rw[QZ.defers,<-hN]
 cases e with
 | normal=>obtain⟨v,h1,h2⟩:=jM hg QZ hq;exact⟨ZJ,v,h1,h2⟩
 | ret=>obtain⟨v,h1,h2⟩:=jM hg QZ hq;exact⟨ZJ,v,h1,h2⟩
 | exit i=>exact hq.elim
 | goto l=>exact hq.elim
 | panic ch=>exact hq.elim
 | outgrown=>exact hq.elim
@[irreducible] def FnP (P:Program) (f:FuncId) (l:List Value) (w:World) (R:Value->World->Prop) (Xj:List PanicEntry->World->Prop):Prop:=Calls P f l.toArray w fun
 | .returned v,w'=>R v w'
 | .panicked ch,w'=>Xj ch w'
 | .outgrown,_=>False
def dQ8 (c:Cx)(rs:List ResultVar)(R:Value->World->Prop)(Xj:List PanicEntry->World->Prop):Zj
 | .panic ch,_,w=>Xj ch w
 | e,S,w=>BC c rs R e S w
theorem bi {c:Cx}(hg:c.g.Ok){f:FuncId}{fn:Func}{x:Code}{args:List Value}{w:World}{R:Value->World->Prop}{Xj:List PanicEntry->World->Prop}(hf:c.g.P.funcs[f]? =some fn)(hb:fn.body=some x)(hN:⟨fn.ntmps,[]⟩=c.N)
  (hl:Nat.ble args.length c.N.n=true) (h:kZ [0,1,2,3,4,5,6,7,8,9,10,11,12,13,14,15] args [] (λS=>Vq c x S w (dQ8 c fn.results.toList R Xj))):FnP c.g.P f args w R Xj:=by
 unfold FnP;obtain⟨S,hS,hx⟩:=wK _ args [] 0 args (λj t ht=>by
  match j,ht with
  | 0,ht | 1,ht | 2,ht | 3,ht | 4,ht | 5,ht | 6,ht | 7,ht | 8,ht | 9,ht | 10,ht | 11,ht | 12,ht | 13,ht | 14,ht | 15,ht=>simp at ht;omega
  | j+16,ht=>simp at ht) (by simp) (λk x hk=>by simp[Env.ent] at hk) h
 refine calls_of_wp hf hb ?_;have hn:fn.ntmps=c.N.n:=QD Slots.n hN;have Ke:=gn (N:=c.N.n) args (ij hl) S hS;rw[<-hn,hN] at Ke;refine wp_mono (jL hg x S w _ _ hx Ke) (λe a w' hq=>?_);obtain⟨S',QZ,hq⟩:=hq;have ZJ:a.defers=[]:=by rw[QZ.defers,<-hN]
 cases e with
 | normal=>obtain⟨v,h1,h2⟩:=jM hg QZ hq;exact⟨ZJ,v,h1,h2⟩
 | ret=>obtain⟨v,h1,h2⟩:=jM hg QZ hq;exact⟨ZJ,v,h1,h2⟩
 | exit i=>exact hq.elim
 | goto l=>exact hq.elim
 | panic ch=>exact⟨ZJ,hq⟩
 | outgrown=>exact hq.elim
theorem FnP.mono {P:Program}{f:FuncId}{l:List Value}{w:World}{R R':Value->World->Prop}{p p':List PanicEntry->World->Prop}(h:FnP P f l w R p)(hr:∀v w',R v w'->R' v w')(hp:∀ch w',p ch w'->p' ch w'):FnP P f l w R' p':=by
 unfold FnP at*;exact Calls.mono h λe w' he=>by cases e<;>first | exact hr _ _ he | exact hp _ _ he | exact he
theorem Fn.toP {P:Program}{f:FuncId}{l:List Value}{w:World}{R:Value->World->Prop}{p:List PanicEntry->World->Prop}(h:Fn P f l w R):FnP P f l w R p:=by
 unfold Fn at h;unfold FnP;exact Calls.mono h λe w' he=>by cases e<;>first | exact he | exact he.elim
theorem XP {P:Program}{f:FuncId}{l:List Value}{w:World}{R:Value->World->Prop}{p:List PanicEntry->World->Prop}{K:Value->World->Prop}{Xj:List PanicEntry->World->Prop}(h:FnP P f l w R p)(k:∀v w',R v w'->K v w')(kp:∀ch w',p ch w'->Xj ch w'):iu P f l w K Xj:=by
 unfold FnP at h;unfold iu;exact Calls.mono h λe w' he=>by cases e<;>first | exact k _ _ he | exact kp _ _ he | exact he
theorem Fn.mono {P:Program}{f:FuncId}{l:List Value}{w:World}{R R':Value->World->Prop}(h:Fn P f l w R)(hr:∀v w',R v w'->R' v w'):Fn P f l w R':=by
 unfold Fn at*;exact Calls.mono h λe w' he=>by cases e<;>first | exact hr _ _ he | exact he
theorem call {P:Program}{f:FuncId}{l:List Value}{w:World}{R:Value->World->Prop}{K:Value->World->Prop}{Xj:List PanicEntry->World->Prop}(h:Fn P f l w R)(k:∀v w',R v w'->K v w'):iu P f l w K Xj:=by
 unfold Fn at h;unfold iu;exact Calls.mono h λe w' he=>by cases e<;>first | exact k _ _ he | exact he.elim
def GG:List Oper->List Nat->List Nat
 | [],QT=>QT
 | o::l,QT=>match o.dst with
  | some d=>GG l (d::QT)
  | none=>GG l QT
def jN:Code->List Nat->List Nat
 | .region _ ops _,QT=>GG ops.toList QT
 | .seq x y,QT=>jN y (jN x QT)
 | .cond _ x y,QT=>jN y (jN x QT)
 | .block _ x,QT=>jN x QT
 | .loop x,QT=>jN x QT
 | .scope x,QT=>jN x QT
 | .rangeFunc _ _ x y,QT=>jN y (jN x QT)
 | _,QT=>QT
def eS (x:Code)(t:Nat):Bool:=match gj t (jN x [])with
 | true=>false
 | false=>true
def dK:List Nat->List Value->Env->(Env->Prop)->Prop
 | [],[],S,K=>K S
 | t::ts,v::vs,S,K=>dK ts vs ((t,.v v)::S) K
 | _,_,_,_=>False
def Has (T S:Env):Prop:=T.map (λp=>S.get p.1)=T.map (λp=>some p.2.val)
theorem dQ9 {T:Env}{k:Nat}{x:Ent}(h:T.ent k=some x):(k,x)∈T:=by
 induction T with
 | nil=>cases h
 | cons p T ih=>
  obtain⟨t,y⟩:=p;simp only[Env.ent] at h;split at h
  ·rename_i hb;cases h;rw[VG hb];simp
  ·simp[ih h]
theorem Has.fits {T S:Env}{N:Slots}{a:Act}(h:Has T S)(hf:Fits N S a):Fits N T a:=by
 refine⟨hf.size,hf.defers,λk x hk=>?_⟩;have hm:=dQ9 hk;exact hf.get ((List.map_inj_left.1 h) (k,x) hm)
theorem GH {ts:List Nat}{vs:List Value}{S:Env}{K:Env->Prop}(h:dK ts vs S K):∃T,T=(ts.zip (vs.map Ent.v)).reverse++S/\K T:=by
 induction ts generalizing vs S with
 | nil=>
  cases vs with
  | nil=>exact⟨S,rfl,h⟩
  | cons v vs=>exact h.elim
 | cons t ts ih=>
  cases vs with
  | nil=>exact h.elim
  | cons v vs=>
   obtain⟨T,rfl,hk⟩:=ih h;exact⟨_,by simp,hk⟩
def nI (p:Nat->Bool):Env->Env->Env
 | [],QT=>QT
 | (t,x)::S,QT=>match p t with
  | true=>(match kW t QT with
   | true=>nI p S QT
   | false=>nI p S ((t,x)::QT))
  | false=>nI p S QT
theorem BH (p:Nat->Bool)(S QT:Env)(K:Env->Prop):WX p S QT K=K (nI p S QT):=by
 induction S generalizing QT with
 | nil=>rfl
 | cons q S ih=>
  obtain⟨t,x⟩:=q;simp only[WX,nI];split
  ·split<;>exact ih _
  ·exact ih _
section
variable {c:Cx} {S:Env} {w:World} {Q:Zj} {α:Type}
theorem eQa {x:Code}(J:α->Act->World->Prop)(μ:α->World->Nat){a:Act}(s0:α)(h0:J s0 a w)
  (hr:∀s a w,J s a w->x.wp c.g.P (λe a' w'=>match e with
   | .normal=>∃s2,J s2 a' w'/\μ s2 w'<μ s w
   | e=>Up c Q e a' w') a w):(Code.loop x).wp c.g.P (Up c Q) a w:=by
 intro b k cs;have key:∀n s a w,μ s w=n->J s a w->∃e a' w',Up c Q e a' w'/\Arrives c.g.P (lone (b.at a (.code x:: .inLoop x::k)) cs w) b k cs e a' w':=by
  intro n;induction n using Nat.strongRecOn with
  | _ n ih=>
   intro s a w hn hJ;obtain⟨e,a1,w1,hq,pI⟩:=hr s a w hJ b (.inLoop x::k) cs;cases e with
   | normal=>
    obtain⟨s2,hJ2,Xe⟩:=hq;obtain⟨e2,a2,w2,ym,mQy⟩:=ih (μ s2 w1) (hn▸Xe) s2 a1 w1 rfl hJ2;exact⟨e2,a2,w2,ym,.of_steps (Steps.trans pI (.one step_inLoop)) mQy⟩
   | exit id=>exact⟨_,a1,w1,hq,.pass (x:=.inLoop x) rfl (λ_ _=>.inl (by simp)) pI⟩
   | goto l=>exact⟨_,a1,w1,hq,.pass (x:=.inLoop x) rfl (λ_ _=>.inl (by simp)) pI⟩
   | ret=>exact⟨_,a1,w1,hq,.pass (x:=.inLoop x) rfl (λ_ _=>.inl (by simp)) pI⟩
   | panic ch=>exact⟨_,a1,w1,hq,.pass (x:=.inLoop x) rfl (λ_ _=>.inl (by simp)) pI⟩
   | outgrown=>exact⟨_,a1,w1,hq,.pass (x:=.inLoop x) rfl (λ_ _=>.inl (by simp)) pI⟩
 obtain⟨e,a',w',hq,pI⟩:=key _ s0 a w rfl h0;exact⟨e,a',w',hq,.of_steps (.one step_loop) pI⟩
def eQb (sl:List Nat)(val:α->List Value)(S0:Env)(I:α->World->Prop)(μ:α->World->Nat)(m:Nat)(S2:Env)(w2:World):Prop:=
 ∃s2,dK sl (val s2) S0 (λT=>Has T S2)/\I s2 w2/\μ s2 w2<m
theorem loop (hg:c.g.Ok){x:Code}(sl:List Nat)(val:α->List Value)(I:α->World->Prop)(μ:α->World->Nat)(s0:α)
  (h0:WX (eS x) S [] (λS0=>dK sl (val s0) S0 (λT=>Has T S))) (hI:I s0 w)
  (hr:WX (eS x) S [] (λS0=>∀s w',I s w'->dK sl (val s) S0 (λS1=>Vq c x S1 w' (λe S2 w2=>match e with
   | .normal=>eQb sl val S0 I μ (μ s w') S2 w2
   | e=>Q e S2 w2)))):Bv c x S w Q:=by
 rw[BH] at h0 hr;unfold Bv;intro a hf;generalize nI (eS x) S []=S0 at*;have mT:∀s (K:Env->Prop),dK sl (val s) S0 K->K ((sl.zip ((val s).map Ent.v)).reverse++S0):=λs K h=>by
  obtain⟨T,rfl,hk⟩:=GH h;exact hk
 refine eQa (c:=c) (x:=x) (Q:=Q) (J:=λs a' w'=>Fits c.N ((sl.zip ((val s).map Ent.v)).reverse++S0) a'/\I s w') (μ:=μ) s0 ⟨(mT s0 _ h0).fits hf,hI⟩ ?_;intro s a' w' ⟨QZ,hI'⟩;have h1:=jL hg x _ w' _ a' (mT s _ (hr s w' hI')) QZ;refine wp_mono h1 (λe a2 w2 hq=>?_);obtain⟨S2,ZV,hq⟩:=hq;cases e with
 | normal=>
  obtain⟨s2,hz,hI2,hm⟩:=hq;exact⟨s2,⟨(mT s2 _ hz).fits ZV,hI2⟩,hm⟩
 | exit i=>exact⟨S2,ZV,hq⟩
 | goto l=>exact⟨S2,ZV,hq⟩
 | ret=>exact⟨S2,ZV,hq⟩
 | panic ch=>exact⟨S2,ZV,hq⟩
 | outgrown=>exact⟨S2,ZV,hq⟩
theorem eT (cs:List Nat)(hg:c.g.Ok){x y:Code}(sl:List Nat)(val:α->List Value)(R:α->World->Prop)
  (hx:WX (eS x) S [] (λS0=>Vq {c with cuts:=cs} x S w (λe S2 w2=>match e with
   | .normal=>∃s,dK sl (val s) S0 (λT=>Has T S2)/\R s w2
   | e=>Q e S2 w2)))
  (hy:WX (eS x) S [] (λS0=>∀s w',R s w'->dK sl (val s) S0 (λS1=>Vq c y S1 w' Q))):kU c (.seq x y) S w Q:=by
 rw[BH] at hx hy;unfold kU;intro a hf;generalize nI (eS x) S []=S0 at*;have mT:∀s (K:Env->Prop),dK sl (val s) S0 K->K ((sl.zip ((val s).map Ent.v)).reverse++S0):=λs K h=>by
  obtain⟨T,rfl,hk⟩:=GH h;exact hk
 refine wp_seq (wp_mono (jL (c:={c with cuts:=cs}) hg x S w _ a hx hf) (λe a2 w2 hq=>?_));obtain⟨S2,ZV,hq⟩:=hq;cases e with
 | normal=>
  obtain⟨s,hz,hR⟩:=hq;exact jL hg y _ w2 Q a2 (mT s _ (hy s w2 hR)) ((mT s _ hz).fits ZV)
 | exit i=>exact⟨S2,ZV,hq⟩
 | goto l=>exact⟨S2,ZV,hq⟩
 | ret=>exact⟨S2,ZV,hq⟩
 | panic ch=>exact⟨S2,ZV,hq⟩
 | outgrown=>exact⟨S2,ZV,hq⟩
theorem Ru (hg:c.g.Ok){x y:Code}(sl:List Nat)(val:α->List Value)(R:α->World->Prop)
  (hx:WX (eS x) S [] (λS0=>Vq {c with cuts:=[]} x S w (λe S2 w2=>match e with
   | .normal=>∃s,dK sl (val s) S0 (λT=>Has T S2)/\R s w2
   | e=>Q e S2 w2)))
  (hy:WX (eS x) S [] (λS0=>∀s w',R s w'->dK sl (val s) S0 (λS1=>Vq c y S1 w' Q))):kU c (.seq x y) S w Q:=
 eT [] hg sl val R hx hy
end
@[irreducible] def tJ (C:World->Prop) (p:Addr) (K:Value->Prop):Prop:=∃v,(∀w,C w->w.cell? p=some v)/\K v
@[irreducible] def tK (C:World->Prop) (p:Addr) (n:Nat) (K:List Value->Prop):Prop:=∃vs:List Value,vs.length=n/\(∀w,C w->∀j v,vs[j]? =some v->w.cell? (p.add j)=some v)/\K vs
@[irreducible] def Rv (P:Program) (f:FuncId) (l:List Value) (C:World->Prop) (K:Value->Prop):Prop:=∃v,(∀w,C w->Fn P f l w (λu w'=>u=v/\C w'))/\K v
@[irreducible] def la (c:Cx) (o:Oper) (S:Env) (C:World->Prop) (K:Env->Prop):Prop:=∃v,(∀a w,Fits c.N S a->C w->o.quietAt c.g.P a C w v)/\Xh c S o.dst (.v v) K
def GI (
     c:Cx) (o:Oper) (S:Env) (C:World->Prop) (K:Env->Prop):Prop:=
 match o.op with
 | .load t x=>(match QU c.g.tys t,S.ev x with
  | some r,some (.pointer (some p))=>(match qr r.d with
   | false=>tJ C p (λv=>Xh c S o.dst (.v v) K)
   | true=>tK C p r.sz (λvs=>Xh c S o.dst (.v (.agg vs.toArray)) K))
  | _,_=>la c o S C K)
 | .indexAddr t x i=>(match QU c.g.tys t,S.ev x,S.ev i with
  | some ⟨_,.slice e,_,_,_⟩,some (.slice b n _),some (.int _ i)=>(match QU c.g.tys e with
   | some r=>Wz b n i r.sz (λp=>Xh c S o.dst (.v (.pointer (some p))) K)
   | none=>la c o S C K)
  | _,_,_=>la c o S C K)
 | .index t x i=>(match QU c.g.tys t,S.ev x,S.ev i with
  | some ⟨_,.string,_,_,_⟩,some (.string s),some (.int _ i)=>eQ s i (λb=>Xh c S o.dst (.v (.int .u8 b)) K)
  | _,_,_=>la c o S C K)
 | .call ⟨.value f,xs,_⟩=>(match S.ev f with
  | some (.func (.func n) first cap)=>(match gj n c.g.fns with
   | true=>gl first.toList [] (λQT=>qv S xs.toList QT (λQT=>gl cap.toList QT (λQT=>gl QT [] (λl=>
     Rv c.g.P n l C (λv=>Xh c S o.dst (.v v) K)))))
   | false=>la c o S C K)
  | _=>la c o S C K)
 | _=>la c o S C K
def nJ (c:Cx)(o:Oper)(S:Env)(C:World->Prop)(K:Env->Prop):Prop:=
 match tI c.g S o.op with
 | .val v=>Xh c S o.dst (.v v) K
 | .ent e=>Xh c S o.dst e K
 | .norm k n=>dG n (λm=>Xh c S o.dst (.v (.int k m)) K)
 | .normIf p k n=>gk p n (λm=>Xh c S o.dst (.v (.int k m)) K)
 | .need p v=>jI p v (λv=>Xh c S o.dst (.v v) K)
 | .no=>GI c o S C K
def aw (
      c:Cx) (all:List Oper):List Oper->Env->(World->Prop)->(Env->Prop)->Prop
 | [],S,_,K=>WX (Bx c) S [] K
 | o::rest,S,C,K=>match o.guard with
  | none=>nJ c o S C (λS=>aw c all rest S C K)
  | some (
      j,want)=>match K6 all j with
   | some oj=>(match oj.dst with
    | some d=>(match S.ent d with
     | some .t=>(match want with
      | true=>nJ c o S C (λS=>aw c all rest S C K)
      | false=>Xh c S o.dst (.v undef) (λS=>aw c all rest S C K))
     | some .f=>(match want with
      | false=>nJ c o S C (λS=>aw c all rest S C K)
      | true=>Xh c S o.dst (.v undef) (λS=>aw c all rest S C K))
     | some (.v (.bool b))=>(match want with
      | true=>KR b (nJ c o ((d,.t)::S) C (λS=>aw c all rest S C K)) (Xh c ((d,.f)::S) o.dst (.v undef) (λS=>aw c all rest S C K))
      | false=>KR b (Xh c ((d,.t)::S) o.dst (.v undef) (λS=>aw c all rest S C K)) (nJ c o ((d,.f)::S) C (λS=>aw c all rest S C K)))
     | some (.v (.tuple _))=>Xh c S o.dst (.v undef) (λS=>aw c all rest S C K)
     | _=>False)
    | none=>False)
   | none=>False
section
variable {c:Cx} {a:Act} {S:Env} {C:World->Prop} {K:Env->Prop}
abbrev tL (c:Cx)(K:Env->Prop):Act->Prop:=λa'=>∃S',Fits c.N S' a'/\K S'
theorem qx {o:Oper}{v:Value}{N:Act->Prop}(hr:∀w,(execOp a.eval o).run c.g.P w= .ok (.value v) w)(h:N (a.put o.dst v)):o.quiet c.g.P a C N:=
 ⟨v,λw _=>by unfold Oper.quietAt;rw[hr w];exact⟨rfl,rfl⟩,h⟩
theorem Rw {o:Oper}{v:Value}{N:Act->Prop}(hr:∀w,C w->(execOp a.eval o).run c.g.P w= .ok (.value v) w)(h:N (a.put o.dst v)):o.quiet c.g.P a C N:=
 ⟨v,λw hw=>by unfold Oper.quietAt;rw[hr w hw];exact⟨rfl,rfl⟩,h⟩
theorem eQc (hg:c.g.Ok){o:Oper}(h:GI c o S C K)(hf:Fits c.N S a):o.quiet c.g.P a C (tL c K):=by
 have KO:la c o S C K->o.quiet c.g.P a C (tL c K):=λh=>by
  unfold la at h;obtain⟨v,h1,h2⟩:=h;exact⟨v,λw hw=>h1 a w hf hw,Zy (e:=.v v) h2 hf⟩
 obtain⟨dst,op,ty,pos,aft,gd⟩:=o;unfold GI at h;split at h
 ·rename_i t x Zp;simp only at Zp;subst Zp;split at h
  ·rename_i r p hr hx;have e1:=hf.ev hx;split at h
   ·rename_i hd;unfold tJ at h;obtain⟨v,hv,hk⟩:=h;refine Rw (v:=v) (λw hw=>?_) (Zy (e:=.v v) hk hf);simp[execOp,e1,Instr.loadAt,Instr.sureAddr,loadVar,nH hg hr,hd,load,Sem.run,hv w hw]
   ·rename_i hd;unfold tK at h;obtain⟨vs,hl,hv,hk⟩:=h;refine Rw (v:=.agg vs.toArray) (λw hw=>?_) (Zy (e:=.v (.agg vs.toArray)) hk hf);have h2:=run_loadCells_list (P:=c.g.P) (w:=w) p vs (hv w hw);rw[hl] at h2;simp[execOp,e1,Instr.loadAt,Instr.sureAddr,loadVar,nH hg hr,hd,run_sizeOf hg hr,h2]
  ·exact KO h
 ·rename_i t x ix Zp;simp only at Zp;subst Zp;split at h
  ·rename_i e b n k i hr hx hi;split at h
   ·rename_i r X8;unfold Wz at h;obtain⟨p,rfl,h0,h1,hk⟩:=h;have e1:=hf.ev hx;have e2:=hf.ev hi;refine qx (v:=.pointer (some (p.add (i.toNat*r.sz)))) (λw=>?_) (Zy (e:=.v _) hk hf);simp[execOp,e1,e2,Instr.indexAt,asIntOf,Y9 hg hr,run_sizeOf hg X8,h0,h1]
   ·exact KO h
  ·exact KO h
 ·rename_i t x ix Zp;simp only at Zp;subst Zp;split at h
  ·rename_i s k i hr hx hi;unfold eQ at h;obtain⟨b,h0,h1,hk⟩:=h;have e1:=hf.ev hx;have e2:=hf.ev hi;refine qx (v:=.int .u8 b.toNat) (λw=>?_) (Zy (e:=.v _) hk hf);simp[execOp,e1,e2,Instr.index,asIntOf,Y9 hg hr,h0,h1]
  ·exact KO h
 ·rename_i f xs ts Zp;simp only at Zp;subst Zp;split at h
  ·rename_i n first cap hv;split at h
   ·rename_i hm;have hc:=hg.fns n (Bu hm);rw[nG] at h;have h2:=GE h hf;rw[nG,nG] at h2;simp only[JZ,List.reverse_append,List.reverse_reverse,ZR] at h2;unfold Rv at h2;obtain⟨v,h3,hk⟩:=h2;have e1:=hf.ev hv;refine⟨v,λw hw=>?_,Zy (e:=.v v) hk hf⟩;unfold Oper.quietAt;have:(execOp a.eval {dst:=dst,op:=.call ⟨.value f,xs,ts⟩,type:=ty,pos:=pos,after:=aft,guard:=gd}).run c.g.P w=
      .ok (.enter n (first.toList++(List.map a.eval xs.toList++cap.toList)).toArray) w:=by
     simp[execOp,resolve,e1,Deferred.ofValue,invoke,BB hc]
    rw[this];refine⟨rfl,?_⟩;have h4:=h3 w hw;unfold Fn at h4;refine h4.mono λe w' he=>?_
    cases e with
    | returned u=>exact⟨by rw[he.1],he.2⟩
    | panicked ch=>exact he.elim
    | outgrown=>exact he.elim
   ·exact KO h
  ·exact KO h
 ·exact KO h
theorem eQd (hg:c.g.Ok){o:Oper}(h:nJ c o S C K)(hf:Fits c.N S a):o.quiet c.g.P a C (tL c K):=by
 unfold nJ at h;split at h
 ·rename_i v hp;exact qx (λw=>cE (w:=w) hg hf hp) (Zy (e:=.v v) h hf)
 ·rename_i e hp;exact qx (λw=>cE (w:=w) hg hf hp) (Zy (e:=e) h hf)
 ·rename_i k n hp;unfold dG at h;exact qx (λw=>cE (w:=w) hg hf hp) (Zy (e:=.v (.int k n)) h hf)
 ·rename_i p k n hp;unfold gk at h;exact qx (λw=>cE (w:=w) hg hf hp h.1) (Zy (e:=.v (.int k n)) h.2 hf)
 ·rename_i p v hp;unfold jI at h;exact qx (λw=>cE (w:=w) hg hf hp h.1) (Zy (e:=.v v) h.2 hf)
 ·exact eQc hg h hf
theorem BI (hg:c.g.Ok)(all:List Oper):∀(l:List Oper)(S:Env)(a:Act),aw c all l S C K->Fits c.N S a->wpQuiet c.g.P all.toArray C (tL c K) l a
 | [],S,a,h,hf=>by
  simp only[aw] at h;exact wJ (p:=Bx c) hf.size hf.defers S [] (λk x hk=>by simp[Env.ent] at hk) (λk x _ hk=>hf.has k x hk) h
 | o::rest,S,a,h,hf=>by
  have go:∀(S:Env),nJ c o S C (λS=>aw c all rest S C K)->Fits c.N S a->o.quiet c.g.P a C (wpQuiet c.g.P all.toArray C (tL c K) rest):=λS h hf=>
   Oper.quiet_mono (λa' ⟨S',QZ,hk⟩=>BI hg all rest S' a' hk QZ) (eQd hg h hf)
  have no:∀(S:Env),Xh c S o.dst (.v undef) (λS=>aw c all rest S C K)->Fits c.N S a->wpQuiet c.g.P all.toArray C (tL c K) rest (a.put o.dst undef):=λS h hf=>by
   obtain⟨S',QZ,hk⟩:=Zy h hf;exact BI hg all rest S' _ hk QZ
  have fit:∀(d:Nat) (b:Bool) (e:Ent),S.ent d=some (.v (.bool b))->e.val= .bool b->Fits c.N ((d,e)::S) a:=λd b e hd he=>by
   refine⟨hf.size,hf.defers,λk x hk=>?_⟩;simp only[Env.ent] at hk;split at hk
   ·rename_i hb;have:=VG hb;subst this;cases hk;rw[he];exact hf.has _ _ hd
   ·exact hf.has _ _ hk
  simp only[aw] at h;unfold wpQuiet;split at h
  ·rename_i KN;rw[Qe (by simp[Region.wanted,KN])];exact go S h hf
  ·rename_i j want KN;split at h
   ·rename_i oj hj;split at h
    ·rename_i d hd;split at h
     ·rename_i ZJ;have hw:=kY KN hj hd (hf.has _ _ ZJ);split at h
      ·rw[Qe (by rw[hw];rfl)];exact go S h hf
      ·rw[if_neg (by rw[hw];decide)];exact no S h hf
     ·rename_i ZJ;have hw:=kY KN hj hd (hf.has _ _ ZJ);split at h
      ·rw[Qe (by rw[hw];rfl)];exact go S h hf
      ·rw[if_neg (by rw[hw];decide)];exact no S h hf
     ·rename_i b ZJ;have hw:=kY KN hj hd (hf.has _ _ ZJ);split at h
      ·unfold KR at h;cases b with
       | true=>rw[Qe (by rw[hw];rfl)];exact go _ (h.1 rfl) (fit d true .t ZJ rfl)
       | false=>rw[if_neg (by rw[hw];decide)];exact no _ (h.2 rfl) (fit d false .f ZJ rfl)
      ·unfold KR at h;cases b with
       | true=>rw[if_neg (by rw[hw];decide)];exact no _ (h.1 rfl) (fit d true .t ZJ rfl)
       | false=>rw[Qe (by rw[hw];rfl)];exact go _ (h.2 rfl) (fit d false .f ZJ rfl)
     ·rename_i ZJ;rw[if_neg (by rw[GF KN hj hd (hf.has _ _ ZJ)];decide)];exact no S h hf
     ·exact h.elim
    ·exact h.elim
   ·exact h.elim
end
theorem GJ {P:Program}{ops:Array Oper}{C:World->Prop}{Q Q':Act->Prop}(h:∀a,Q a->Q' a):∀{l:List Oper}{a:Act},wpQuiet P ops C Q l a->wpQuiet P ops C Q' l a
 | [],a,hh=>h a hh
 | o::l,a,hh=>by
  unfold wpQuiet at*;split
  ·rename_i hw;rw[Qe hw] at hh;exact Oper.quiet_mono (λa' h'=>GJ h h') hh
  ·rename_i hw;rw[if_neg hw] at hh;exact GJ h hh
theorem eQe {c:Cx}(hg:c.g.Ok){id:Nat}{ops:List Oper}{S:Env}{w:World}{Q:Zj}(C:World->Prop)(hC:C w.drew)(hB:Region.lexB .any ops.toArray=true)
  (h:aw c ops ops S C (λS=>∀w',C w'->Q .normal S w')):WA c id ops S w Q:=by
 unfold WA;intro a hf;refine wp_region_quiet (C:=C) hg.mixed hB hC ?_;have:=BI hg ops ops S a h hf;refine GJ ?_ this;intro a' ⟨S',QZ,hk⟩ w' Qb;exact⟨S',QZ,hk w' Qb⟩
theorem wM {P:Program}{ops:Array Oper}{w:World}{Q:Act->Prop}:∀{l:List Oper}{a:Act},wpQuiet P ops (λw'=>w'=w) Q l a->wpStill P ops w Q l a
 | [],a,h=>h
 | o::l,a,h=>by
  unfold wpQuiet at h;unfold wpStill;split
  ·rename_i hw;rw[Qe hw] at h;obtain⟨v,h1,h2⟩:=h;have h3:=h1 w rfl;unfold Oper.quietAt at h3;unfold Oper.still;generalize (execOp a.eval o).run P w=r at*;cases r with
   | ok n w'=>
    cases n<;>simp only[Oper.quietUpon] at h3<;>simp only[Oper.stillUpon]
    case value u=>obtain⟨rfl,rfl⟩:=h3;exact⟨rfl,wM h2⟩
    case skip=>obtain⟨rfl,rfl⟩:=h3;exact⟨rfl,wM h2⟩
    case enter f args=>exact⟨h3.1,v,h3.2,wM h2⟩
   | halt x w'=>simp only[Oper.quietUpon] at h3
  ·rename_i hw;rw[if_neg hw] at h;exact wM h
theorem wN {P:Program}{ops:Array Oper}{w:World}{Q Q':Act->Prop}(h:∀a,Q a->Q' a):∀{l:List Oper}{a:Act},wpStill P ops w Q l a->wpStill P ops w Q' l a
 | [],a,hh=>h a hh
 | o::l,a,hh=>by
  unfold wpStill at*;split
  ·rename_i hw;rw[Qe hw] at hh;unfold Oper.still at*;generalize (execOp a.eval o).run P w=r at*;cases r with
   | ok n w'=>
    cases n<;>simp only[Oper.stillUpon] at hh ⊢
    case value u=>exact⟨hh.1,wN h hh.2⟩
    case skip=>exact⟨hh.1,wN h hh.2⟩
    case enter f args=>obtain⟨h1,v,h2,h3⟩:=hh;exact⟨h1,v,h2,wN h h3⟩
   | halt x w'=>simp only[Oper.stillUpon] at hh
  ·rename_i hw;rw[if_neg hw] at hh;exact wN h hh
theorem ld {P:Program}{ops:Array Oper}{Q Q':Exit->Act->World->Prop}(h:∀e a w,Q e a w->Q' e a w):∀{l:List Oper}{a:Act}{w:World},wpList P ops Q l a w->wpList P ops Q' l a w
 | [],a,w,hh=>h _ a w hh
 | o::l,a,w,hh=>by
  unfold wpList at*;split
  ·rename_i hw;rw[Qe hw] at hh;rcases hh with hh | ⟨h1,a0,w0,h2⟩
   ·refine .inl ?_;have h2:=Oper.wp_mono (K':=wpList P ops Q' l) (λa w=>ld h) hh;unfold Oper.wp at h2 ⊢;generalize (execOp a.eval o).run P w=r at*;cases r with
    | ok n w'=>
     cases n<;>simp only[Oper.upon] at h2 ⊢ <;> try exact h2
     exact h2.mono λe Vc he=>by
      cases e with
      | returned v=>exact he
      | panicked ch=>exact h _ _ _ he
      | outgrown=>obtain⟨a0,w0,h0⟩:=he;exact⟨a0,w0,h _ _ _ h0⟩
    | halt x w'=>cases x<;>simp only[Oper.upon] at h2 ⊢ <;> first | exact h2 | exact h _ _ _ h2
   ·exact .inr ⟨h1,a0,w0,h _ _ _ h2⟩
  ·rename_i hw;rw[if_neg hw] at hh;exact ld h hh
theorem qy {c:Cx}(hg:c.g.Ok){id:Nat}{ops:List Oper}{S:Env}{w:World}{Q:Zj}(n:Nat)(hB:Region.lexTailB .any ops.toArray n=true)
  (h:aw {c with named:=1000000} ops (ops.take n) S (λw'=>w'=w.drew) (λS=>YD c ops (ops.drop n) S w.drew (λS w=>Q .normal S w) Q)):WA c id ops S w Q:=by
 unfold WA;intro a hf;refine wp_region_still_tail n hg.mixed hB ?_;have h1:=BI (c:={c with named:=1000000}) hg ops (ops.take n) S a h hf;refine wN ?_ (wM h1);intro a' ⟨S',QZ,hk⟩;have h2:=jK (c:=c) hg ops _ _ _ _ hk QZ;refine ld (λe a w hq=>?_) h2;cases e<;>exact hq
end
section
def Ext (w w':World):Prop:=w.grownBy w' none
theorem Ext.refl (w:World):Ext w w:=⟨rfl,rfl,rfl,QC _,λ_ _ _=>rfl⟩
theorem Ext.trans {a b c:World}(h:Ext a b)(k:Ext b c):Ext a c:=
 ⟨k.os.trans h.os,k.tape.trans h.tape,k.output.trans h.output,X4 h.size k.size,λi hi hn=>(k.block i (Ye hi h.size) hn).trans (h.block i hi hn)⟩
theorem Ext.drew (w:World):Ext w w.drew:=⟨rfl,rfl,rfl,QC _,λ_ _ _=>rfl⟩
theorem Ext.alloc (w:World)(o:Obj):Ext w (w.alloc o):=World.grownBy_alloc w o none
theorem Ext.own {w0 w w1:World}{g:Nat}(h:Ext w0 w)(k:w.grownBy w1 (some g))(hg:w0.heap.size<=g):Ext w0 w1:=
 ⟨k.os.trans h.os,k.tape.trans h.tape,k.output.trans h.output,X4 h.size k.size,λi hi hn=>(k.block i (Ye hi h.size) (λe=>by cases e;omega)).trans (h.block i hi hn)⟩
theorem Ext.cell {w w':World}(h:Ext w w'){a:Addr}{v:Value}(hc:w.cell? a=some v):w'.cell? a=some v:=World.grownBy.cell h hc (by simp)
theorem Ext.below {w w':World}(h:Ext w w'):Below w.heap.size w w':=⟨h.os,h.tape,h.output,h.size,λk hk=>h.block k hk (by simp)⟩
theorem Ext.grown {w w':World}(h:Ext w w')(row:Option Nat):w.grownBy w' row:=⟨h.os,h.tape,h.output,h.size,λk hk _=>h.block k hk (by simp)⟩
theorem eQf {a b c:World}{row:Option Nat}(h:a.grownBy b row)(k:b.grownBy c row):a.grownBy c row:=
 ⟨k.os.trans h.os,k.tape.trans h.tape,k.output.trans h.output,X4 h.size k.size,λi hi hn=>(k.block i (Ye hi h.size) hn).trans (h.block i hi hn)⟩
def Blk (w:World)(g:Nat)(t:TypeId)(cs:List Value):Prop:=w.heap[g]? =some (.cells cs.toArray t (0,0))
theorem Blk.lt {w:World}{g t:Nat}{cs:List Value}(h:Blk w g t cs):g<w.heap.size:=(f9.1 h).1
theorem Blk.ext {w w':World}{g t:Nat}{cs:List Value}(h:Blk w g t cs)(k:Ext w w'):Blk w' g t cs:=(k.block g h.lt (by simp)).trans h
theorem qz (g j:Nat):(⟨g,0,none⟩:Addr).add j=⟨g,j,none⟩:=by unfold Addr.add;split<;>simp_all
theorem Blk.cell {w:World}{g t:Nat}{cs:List Value}(h:Blk w g t cs)(j:Nat):w.cell? ((⟨g,0,none⟩:Addr).add j)=cs[j]? :=by
 rw[qz,cell_of_row w g j _ t _ h];simp
theorem Blk.frozen {w:World}{g t:Nat}{cs:List Value}(h:Blk w g t cs)(j:Nat):w.frozen? ((⟨g,0,none⟩:Addr).add j)=false:=by
 rw[qz];exact frozen_of_row w g j _ t h
theorem Blk.new (w:World)(t:TypeId)(cs:List Value):Blk (w.alloc (.cells cs.toArray t)) w.heap.size t cs:=heap_alloc_new w _
theorem eQg (w:World)(a:Addr)(v:Value):w.grownBy (w.setCell a v) (some a.block):=
 ⟨rfl,rfl,rfl,by simp,λk _ hn=>Below.heap_setCell w a v k (λe=>hn (by rw[e]))⟩
theorem Blk.set {w:World}{g t:Nat}{cs:List Value}(h:Blk w g t cs)(j:Nat)(v:Value):Blk (w.setCell ((⟨g,0,none⟩:Addr).add j) v) g t (cs.set j v):=by
 rw[qz];have:=heap_setCell_same w g j cs.toArray t v h;unfold Blk;rw[this];simp
structure Sl (w:World) (sz:Nat) (A:Option Addr) (n c:Nat) (cs:List Value):Prop where
 len:cs.length=n*sz
 le:n<=c
 cap:c<=maxLen
 at_:0<n->∃ad,A=some ad/\∀j u,cs[j]? =some u->w.cell? (ad.add j)=some u
theorem Sl.ext {w w':World}{sz n c:Nat}{A:Option Addr}{cs:List Value}(h:Sl w sz A n c cs)(k:Ext w w'):Sl w' sz A n c cs:=
 ⟨h.len,h.le,h.cap,λhn=>let ⟨ad,e,hc⟩:=h.at_ hn;⟨ad,e,λj u hu=>k.cell (hc j u hu)⟩⟩
theorem Sl.nil (w:World)(sz:Nat):Sl w sz none 0 0 []:=⟨by simp,QC _,by simp[maxLen],λh=>Xd h (by omega)⟩
theorem Sl.take {w:World}{sz n c:Nat}{A:Option Addr}{cs:List Value}(h:Sl w sz A n c cs){m:Nat}(hm:m<=n):Sl w sz A m c (cs.take (m*sz)):=
 ⟨by rw[K5,h.len];exact nv (Y8 _ hm),X4 hm h.le,h.cap,λhn=>let ⟨ad,e,hc⟩:=h.at_ (by omega);⟨ad,e,λj u hu=>hc j u (by
  rw[F7] at hu;split at hu<;>simp_all)⟩⟩
theorem Sl.own {w:World}{g t sz n c:Nat}{cs:List Value}(h:Blk w g t cs)(hn:n<=c)(hc:c<=maxLen)(hl:n*sz<=cs.length):Sl w sz (some ⟨g,0,none⟩) n c (cs.take (n*sz)):=
 ⟨by rw[K5];exact nv hl,hn,hc,λ_=>⟨_,rfl,λj u hu=>by
  rw[h.cell];rw[F7] at hu;split at hu<;>simp_all⟩⟩
theorem Sl.own' {w:World}{g t n:Nat}{cs:List Value}(h:Blk w g t cs)(hl:cs.length=n)(hn:n<=maxLen):Sl w 1 (some ⟨g,0,none⟩) n n cs:=by
 have:=Sl.own (sz:=1) h (QC n) hn (by omega)
 rwa [Jv (by omega)] at this
def Fresh (w w':World)(A:Option Addr):Prop:=∀ad,A=some ad->w.heap.size<=ad.block/\ad.block<w'.heap.size
theorem Fresh.ext {w w' w2:World}{A:Option Addr}(h:Fresh w w' A)(k:Ext w' w2):Fresh w w2 A:=λad e=>⟨(h ad e).1,Ye (h ad e).2 k.size⟩
theorem YT {b:Bool}{p q:Prop}(hp:b=true->p)(hq:b=false->q):KR b p q:=by unfold KR;exact⟨hp,hq⟩
theorem Qz {c p q:Prop} [Decidable c](hp:c->p)(hq:¬c->q):KR (decide c) p q:=YT (λh=>hp (YC h)) (λh=>hq (of_decide_eq_false h))
theorem Xc {b:Bool}{p q:Prop}(hb:b=true)(hp:p):KR b p q:=YT (λ_=>hp) (λh=>by rw[hb] at h;cases h)
theorem Q7 {b:Bool}{p q:Prop}(hb:b=false)(hq:q):KR b p q:=YT (λh=>by rw[hb] at h;cases h) (λ_=>hq)
theorem Zq {c p q:Prop} [Decidable c](hc:c)(hp:p):KR (decide c) p q:=Xc (X2 hc) hp
theorem XF {c p q:Prop} [Decidable c](hc:¬c)(hq:q):KR (decide c) p q:=Q7 (Zn hc) hq
theorem Zd {x y:Int}{p q:Prop}(hp:x=y->p)(hq:x≠y->q):KR (x==y) p q:=YT (λh=>hp (by simpa using h)) (λh=>hq (by simpa using h))
theorem J2 {x y:Int}{p q:Prop}(h:x=y)(hp:p):KR (x==y) p q:=Xc (by simpa using h) hp
theorem XG {x y:Int}{p q:Prop}(h:x≠y)(hq:q):KR (x==y) p q:=Q7 (by simpa using h) hq
theorem YE {x y:Int}{p q:Prop}(hp:x≠y->p)(hq:x=y->q):KR (x !=y) p q:=YT (λh=>hp (by simpa using h)) (λh=>hq (by simpa using h))
theorem tM {x y:Int}{p q:Prop}(h:x≠y)(hp:p):KR (x !=y) p q:=Xc (by simpa using h) hp
theorem YU {x y:Int}{p q:Prop}(h:x=y)(hq:q):KR (x !=y) p q:=Q7 (by simpa using h) hq
theorem nK {b:Bool}{p q:Prop}(h:KR b q p):KR (!b) p q:=by unfold KR at*;cases b<;>simp_all
theorem norm {n m:Int}{K:Int->Prop}(h:n=m)(k:K m):dG n K:=by unfold dG;rw[h];exact k
theorem eQh {n:Int}{K:Int->Prop}(h: -9223372036854775808<=n/\n<=9223372036854775807)(k:K n):dG (IntKind.i64.wrap n) K:=norm (IntWalk.i64_in n h) k
theorem BJ {n:Int}{K:Int->Prop}(h:0<=n/\n<=18446744073709551615)(k:K n):dG (IntKind.u64.wrap n) K:=norm (IntWalk.u64_in n h) k
theorem Qj {n:Int}{K:Int->Prop}(m:Int)(hm:n=m)(h: -9223372036854775808<=m/\m<=9223372036854775807)(k:K m):dG (IntKind.i64.wrap n) K:=by subst hm;exact eQh h k
theorem BK {n:Int}{K:Int->Prop}(m:Int)(hm:n=m)(h:0<=m/\m<=18446744073709551615)(k:K m):dG (IntKind.u64.wrap n) K:=by subst hm;exact BJ h k
theorem normIf {p:Prop}{n m:Int}{K:Int->Prop}(hp:p)(h:n=m)(k:K m):gk p n K:=by unfold gk;rw[h];exact⟨hp,k⟩
theorem need {p:Prop}{v:Value}{K:Value->Prop}(hp:p)(k:K v):jI p v K:=by unfold jI;exact⟨hp,k⟩
theorem Rx {a b s:Nat}{K:Int->Prop}(hs:a ||| b=s)(ha:a<18446744073709551616)(hb:b<18446744073709551616)(k:K (s:Int)):dG (IntKind.u64.wrap ((BitVec.ofInt IntKind.u64.bits (a:Int) ||| BitVec.ofInt IntKind.u64.bits (b:Int)).toNat:Int)) K:=by
 have Xe:a ||| b<2^64:=Nat.or_lt_two_pow (by omega) (by omega)
 refine norm ?_ k;rw[BitVec.toNat_or,BitVec.ofInt_natCast,BitVec.ofInt_natCast,BitVec.toNat_ofNat,BitVec.toNat_ofNat];simp only[IntKind.bits];rw[jE (by omega),jE (by omega),hs];rw[hs] at Xe;exact IntWalk.u64_in _ (by omega)
theorem eQi (x:Nat)(n:Nat):(x:Int).fdiv (2^n)=((x/2^n:Nat):Int):=by
 rw[Int.fdiv_eq_ediv_of_nonneg _ (Int.le_of_lt (Int.pow_pos (by decide)))]
 norm_cast
theorem eQj (n:Nat):IntKind.u32.wrap (n:Int)=((n % 4294967296:Nat):Int):=by rw[IntKind.wrap_u32];omega
theorem tN (n:Nat):IntKind.u8.wrap (n:Int)=((n % 256:Nat):Int):=by rw[IntKind.wrap_u8];omega
theorem iv (a b:Nat):(a:Int).tmod (b:Int)=((a % b:Nat):Int):=by rw[Int.tmod_eq_emod_of_nonneg (by omega)];norm_cast
theorem eQk (a b:Nat):(a:Int).tdiv (b:Int)=((a/b:Nat):Int):=by rw[Int.tdiv_eq_ediv_of_nonneg (by omega)];norm_cast
theorem BL {x:Nat}{k:IntKind}{y:Int}{K:Int->Prop}(n d:Nat)(hy:0<=y)(hn:min y.toNat k.bits=n)(hd:2^n=d)(h:K ((x/d:Nat):Int)):gk (0<=y) ((x:Int).fdiv (2^(min y.toNat k.bits))) K:=by
 subst hd;rw[hn];exact(by unfold gk;exact⟨hy,by rw[eQi];exact h⟩)
theorem BM {n:Nat}{K:Int->Prop}(k:K ((n % 4294967296:Nat):Int)):dG (IntKind.u32.wrap (n:Int)) K:=norm (eQj n) k
theorem eQl {x:Nat}{d:Nat}{K:Int->Prop}(hd:0<d)(k:K ((x % d:Nat):Int)):gk ((d:Int)≠0) ((x:Int).tmod d) K:=normIf (by omega) (iv x d) k
theorem load {w:World}{p:Addr}{v:Value}{K:Value->Prop}(h:w.cell? p=some v)(k:K v):iq w p K:=by unfold iq;exact⟨v,h,k⟩
theorem Qp {w:World}{g t:Nat}{cs:List Value}{j:Nat}{v:Value}{K:Value->Prop}(h:Blk w g t cs)(hv:cs[j]? =some v)(k:K v):iq w ((⟨g,0,none⟩:Addr).add j) K:=load (by rw[h.cell];exact hv) k
theorem wO {w:World}{g t:Nat}{cs:List Value}{j:Nat}{v:Value}{K:World->Prop}(h:Blk w g t cs)(hj:j<cs.length)(k:∀w1,w.grownBy w1 (some g)->Blk w1 g t (cs.set j v)->K w1):eP w ((⟨g,0,none⟩:Addr).add j) v K:=by
 unfold eP;refine⟨⟨cs[j],by rw[h.cell];simp[hj]⟩,h.frozen j,k _ ?_ (h.set j v)⟩;have:=eQg w ((⟨g,0,none⟩:Addr).add j) v;rw[qz] at this ⊢;exact this
theorem index {a:Addr}{n j:Nat}{K:Addr->Prop}(hj:j<n)(k:K (a.add j)):Wz (some a) n (j:Int) 1 K:=by
 unfold Wz;exact⟨a,rfl,by omega,by omega,by simpa using k⟩
theorem J3 {a:Addr}{n j sz:Nat}{K:Addr->Prop}(hj:j<n)(k:K (a.add (j*sz))):Wz (some a) n (j:Int) sz K:=by
 unfold Wz;exact⟨a,rfl,by omega,by omega,by simpa using k⟩
theorem Vr {w:World}{A:Option Addr}{n c j:Nat}{cs:List Value}{K:Addr->Prop}(h:Sl w 1 A n c cs)(hj:j<n)(k:∀ad u,A=some ad->cs[j]? =some u->w.cell? (ad.add j)=some u->K (ad.add j)):Wz A n (j:Int) 1 K:=by
 obtain⟨ad,rfl,hc⟩:=h.at_ (by omega);have hl:j<cs.length:=by have:=h.len;omega
 exact index hj (k ad cs[j] rfl (by simp[hl]) (hc j _ (by simp[hl])))
theorem eQm {s:ByteArray}{j:Nat}{K:Int->Prop}(hj:j<s.size)(k:K (s[j].toNat:Int)):eQ s (j:Int) K:=by
 unfold eQ;exact⟨s[j],by omega,by simp[hj],k⟩
theorem QQ {C:World->Prop}{p:Addr}{v:Value}{K:Value->Prop}(h:∀w,C w->w.cell? p=some v)(k:K v):tJ C p K:=by unfold tJ;exact⟨v,h,k⟩
theorem wQ {c:Cx}(hg:c.g.Ok){id:Nat}{ops:List Oper}{S:Env}{w:World}{Q:Zj}(hB:Region.lexB .any ops.toArray=true)
  (h:aw c ops ops S (Ext w) (λS=>∀w',Ext w w'->Q .normal S w')):WA c id ops S w Q:=eQe hg (Ext w) (Ext.drew w) hB h
theorem JG {c:Cx}{o:Oper}{S:Env}{w w':World}{K:Env->World->Prop}{Q:Zj}{v:Value}(h:∀a,Fits c.N S a->(execOp a.eval o).run c.g.P w= .ok (.value v) w')(k:Xh c S o.dst (.v v) (λS=>K S w')):Zc c o S w K Q:=by
 unfold Zc;intro a hf;exact bO (h a hf) (Zy (e:=.v v) k hf)
theorem Ry (z:Value)(n:Nat):madeCells #[z] n=Array.replicate n z:=by
 apply Array.ext
 ·simp[madeCells]
 ·intro i h1 h2;simp[madeCells,Nat.mod_one]
theorem BO {c:Cx}(hg:c.g.Ok){o:Oper}{S:Env}{w:World}{K:Env->World->Prop}{Q:Zj}{t e:Nat}{x y:Operand}{n:Nat}{r re:TyRow}(ho:o.op= .makeSlice t x y)(hr:QU c.g.tys t=some r)(hd:r.d= .slice e)(X8:QU c.g.tys e=some re)(hz:re.z.cells= #[re.z])
  (hs:re.sz=1) (hx:S.ev x=some (.int .i64 n)) (hy:S.ev y=some (.int .i64 n)) (hb:re.by_*n<=281474976710656) (hn:n<=maxLen)
  (k:∀w1,Ext w w1->w1.heap.size=w.heap.size+1->Blk w1 w.heap.size e (List.replicate n re.z)->Xh c S o.dst (.v (.slice (some ⟨w.heap.size,0,none⟩) n n)) (λS=>K S w1)):Zc c o S w K Q:=by
 obtain⟨_,i,hi,X7,cw,cy⟩:=hg.row X8;have Q4:=(hg.row hr).1;rw[hd] at Q4;have cg:=run_make (P:=c.g.P) w t e i re.z Q4 hi cy .i64 .i64 n n (by omega) (by omega) (by rw[cw];omega) (by unfold maxLen at hn;omega);rw[hz,X7,hs,Ry] at cg;refine JG (w':=w.alloc (.cells (Array.replicate n re.z) e)) (v:=.slice (some ⟨w.heap.size,0,none⟩) n n) (λa hf=>?_) (k _ (Ext.alloc w _) (by simp) ?_)
 ·have e1:=hf.ev hx;have e2:=hf.ev hy;simp only[execOp,ho,e1,e2];simp at cg ⊢;rw[cg]<;>rfl
 ·have:=Blk.new w e (List.replicate n re.z);simpa using this
theorem jO {c:Cx}(hg:c.g.Ok){o:Oper}{S:Env}{w:World}{K:Env->World->Prop}{Q:Zj}{t e:Nat}{x y:Operand}{A:Option Addr}{n cp:Nat}{h:Nat}{r:TyRow}(ho:o.op= .slice t x none (some y) none)(hr:QU c.g.tys t=some r)(hd:r.d= .slice e){re:TyRow}(X8:QU c.g.tys e=some re)
  (hx:S.ev x=some (.slice A n cp)) (hy:S.ev y=some (.int .i64 h)) (hh:h<=cp)
  (k:Xh c S o.dst (.v (.slice A h cp)) (λS=>K S w)):Zc c o S w K Q:=by
 have Q4:=(hg.row hr).1;rw[hd] at Q4;refine JG (w':=w) (λa hf=>?_) k;have e1:=hf.ev hx;have e2:=hf.ev hy;simp[execOp,ho,e1,e2,Instr.sliceAt,Instr.slice,ZX Q4,Instr.sliceBounds,Instr.sliceBound,asIntOf,hh,run_sizeOf hg X8];intro _;cases A<;>simp[Addr.add]
theorem Rz {c:Cx}(hg:c.g.Ok){o:Oper}{S:Env}{w:World}{K:Env->World->Prop}{Q:Zj}{t e:Nat}{x y:Operand}{A:Option Addr}{n cp:Nat}{l:Nat}{r:TyRow}(ho:o.op= .slice t x (some y) none none)(hr:QU c.g.tys t=some r)(hd:r.d= .slice e){re:TyRow}(X8:QU c.g.tys e=some re)
  (hx:S.ev x=some (.slice A n cp)) (hy:S.ev y=some (.int .i64 l)) (hl:l<=n)
  (k:Xh c S o.dst (.v (.slice (if cp=l then A else A.map (·.add (l*re.sz))) (n-l) (cp-l))) (λS=>K S w)):Zc c o S w K Q:=by
 have Q4:=(hg.row hr).1;rw[hd] at Q4;refine JG (w':=w) (λa hf=>?_) k;have e1:=hf.ev hx;have e2:=hf.ev hy;simp[execOp,ho,e1,e2,Instr.sliceAt,Instr.slice,ZX Q4,Instr.sliceBounds,Instr.sliceBound,asIntOf,hl,run_sizeOf hg X8]
structure Own (w:World) (base e sz:Nat) (A:Option Addr) (n c:Nat) (cs:List Value):Prop where
 row:w.ownsRow base e sz (.slice A n c) n cs
theorem qQ8 {w:World}{base e sz:Nat}{v:Value}{n:Nat}{cs:List Value}(h:w.ownsRow base e sz v n cs):∃A c,v= .slice A n c/\Own w base e sz A n c cs:=by
 rcases h.2 with⟨rfl,rfl⟩ | ⟨g,cap,ZK,rfl,r⟩
 ·exact⟨none,0,rfl,⟨h⟩⟩
 ·exact⟨_,cap,rfl,⟨h⟩⟩
theorem Own.sl {w:World}{base e sz n c:Nat}{A:Option Addr}{cs:List Value}(h:Own w base e sz A n c cs):Sl w sz A n c cs:=by
 have h:=h.row;have h1:=h.1;rcases h.2 with⟨hv,rfl⟩ | ⟨g,cap,ZK,hv,hb,hg,hn,hm,hs,ht⟩
 ·cases hv;exact⟨h1,QC _,by simp[maxLen],λh=>Xd h (by omega)⟩
 ·cases hv;refine⟨h1,hn,hm,λ_=>⟨_,rfl,λj u hu=>?_⟩⟩;exact World.ownsRow.cells h (g:=g) rfl j u hu
theorem Own.ext {w w':World}{base e sz n c:Nat}{A:Option Addr}{cs:List Value}(h:Own w base e sz A n c cs)(k:Ext w w'):Own w' base e sz A n c cs:=
 ⟨h.row.kept k (by cases hv:(Value.slice A n c).ownBlock<;>simp)⟩
theorem Own.empty {w:World}{g e sz:Nat}{base:Nat}(h:Blk w g e [])(hb:base<=g):Own w base e sz (some ⟨g,0,none⟩) 0 0 []:=
 ⟨⟨by simp,.inr ⟨g,0,_,rfl,hb,h,QC _,by simp[maxLen],by simp,by simp⟩⟩⟩
theorem Own.nil (w:World)(base e sz:Nat):Own w base e sz none 0 0 []:=⟨World.ownsRow_nil w base e sz⟩
theorem Own.blk {w:World}{base e n c:Nat}{A:Option Addr}{cs:List Value}(h:Own w base e 1 A n c cs)(hn:0<n):∃g sp,A=some ⟨g,0,none⟩/\base<=g/\Blk w g e (cs++sp)/\(cs++sp).length=c:=by
 have h:=h.row;rcases h.2 with⟨hv,rfl⟩ | ⟨g,cap,ZK,hv,hb,hg,KE,hm,hs,ht⟩
 ·omega
 ·cases hv;refine⟨g,ZK.toList.drop n,rfl,hb,?_⟩;rw[ga] at ht;rw[<-ht,dE];exact⟨by simpa [Blk] using hg,by simpa using hs⟩
theorem rQb {w:World}{base e n c g:Nat}{cs sp:List Value}(h:Blk w g e (cs++sp))(hb:base<=g)(hl:cs.length=n)(hc:(cs++sp).length=c)(hm:c<=maxLen):Own w base e 1 (some ⟨g,0,none⟩) n c cs:=
 ⟨⟨by omega,.inr ⟨g,c,_,rfl,hb,h,by rw[Qq] at hc;omega,hm,by simpa using hc,by rw[ga];simp[<-hl]⟩⟩⟩
theorem eQn {w:World}{base e n c j:Nat}{a:Addr}{xs:List Value}{v:Value}{K:World->Prop}(h:Own w base e 1 (some a) n c xs)(hj:j<n)
  (k:∀w1,w.grownBy w1 (Value.slice (some a) n c).ownBlock->Own w1 base e 1 (some a) n c (xs.set j v)->K w1):eP w (a.add j) v K:=by
 obtain⟨g,sp,hA,hb,hB,hl⟩:=h.blk (by omega);cases hA;have Q0:xs.length=n:=by have:=h.sl.len;omega
 refine wO hB (by rw[Qq];omega) (λw1 sH Qh=>k w1 sH ?_);rw[List.set_append_left _ _ (by omega)] at Qh;exact rQb Qh hb (by rw[gb];exact Q0) (by rw[Qq,gb];rw[Qq] at hl;exact hl) h.sl.cap
theorem nL (a:Addr)(j:Nat):(a.add j).block=a.block:=by unfold Addr.add;split<;>rfl
theorem BP {u:Value}(h:JF u=true):u.oneCell'=true:=by cases u<;>first | rfl | (simp[JF] at h)
theorem eQo (z v:Value)(h:JF v=true):Instr.fill (λi=>some (i*1,1)) #[z] [(0,v)]=some #[v]:=by
 have hc:v.cells= #[v]:=by cases v<;>first | rfl | (simp[JF] at h)
 simp[Instr.fill,hc]
theorem eQp (z v u:Value)(h:JF v=true)(h':JF u=true):Instr.fill (λi=>some (i*1,1)) #[z,z] [(0,v),(1,u)]=some #[v,u]:=by
 have hc:v.cells= #[v]:=by cases v<;>first | rfl | (simp[JF] at h)
 have Z3:u.cells= #[u]:=by cases u<;>first | rfl | (simp[JF] at h')
 simp[Instr.fill,hc,Z3]
section
variable {c:Cx} (hg:c.g.Ok) {o:Oper} {S:Env} {w:World} {K:Env->World->Prop} {Q:Zj} {t e:Nat} {r re:TyRow}
include hg
theorem GK (hr:QU c.g.tys t=some r)(hd:r.d= .slice e)(X8:QU c.g.tys e=some re)(hs:re.sz=1)(hz:re.z.cells= #[re.z])(n:Nat)(hn:n<=1000)(parts:Array (Nat×Value))(cs:List Value)
  (hf:Instr.fill (λi=>some (i*1,1)) (Array.replicate n re.z) parts.toList=some cs.toArray):
  (Instr.buildSlice t n parts).run c.g.P w= .ok (.slice (some ⟨w.heap.size,0,none⟩) n n) (w.alloc (.cells cs.toArray e)):=by
 obtain⟨_,i,hi,X7,pJ,cy⟩:=hg.row X8;have Q4:=(hg.row hr).1;rw[hd] at Q4;have e1:(Array.range n).map (λj=>(#[re.z]:Array Value)[j % (#[re.z]:Array Value).size]!)=Array.replicate n re.z:=Ry re.z n;have iQ:¬(16777216<n):=by omega
 by_cases h0:n=0
 ·subst h0;simp[Instr.buildSlice,ZX Q4,sizeOf,typeInfo,hi,X7,hs,newRow] at hf ⊢;rw[show Array.map (λ_=>(default:Value)) (Array.range 0)= #[] by simp[Array.range_zero'],hf];simp
 ·simp[Instr.buildSlice,ZX Q4,sizeOf,typeInfo,hi,X7,hs,newRow,iQ,h0,zeroValue,cy,hz];simp at e1 hf;rw[e1,hf];simp
theorem eQq (ho:o.op= .buildSlice t 0 #[])(hr:QU c.g.tys t=some r)(hd:r.d= .slice e)(X8:QU c.g.tys e=some re)(hs:re.sz=1)(hz:re.z.cells= #[re.z])
  (k:∀w1,Ext w w1->w1.heap.size=w.heap.size+1->Blk w1 w.heap.size e []->Xh c S o.dst (.v (.slice (some ⟨w.heap.size,0,none⟩) 0 0)) (λS=>K S w1)):Zc c o S w K Q:=by
 have Jg:=GK (w:=w) hg hr hd X8 hs hz 0 (by omega) #[] [] (by simp[Instr.fill]);refine JG (w':=w.alloc (.cells #[] e)) (λa hf=>?_) (k _ (Ext.alloc w _) (by simp) (Blk.new w e []));simp only[execOp,ho];simp[Jg]
theorem RB {x:Operand}{v:Value}(ho:o.op= .buildSlice t 1 #[(0,x)])(hr:QU c.g.tys t=some r)(hd:r.d= .slice e)(X8:QU c.g.tys e=some re)(hs:re.sz=1)(hz:re.z.cells= #[re.z])(hx:S.ev x=some v)(hv:JF v=true)
  (k:∀w1,Ext w w1->w1.heap.size=w.heap.size+1->Blk w1 w.heap.size e [v]->Xh c S o.dst (.v (.slice (some ⟨w.heap.size,0,none⟩) 1 1)) (λS=>K S w1)):Zc c o S w K Q:=by
 have Jg:=GK (w:=w) hg hr hd X8 hs hz 1 (by omega) #[(0,v)] [v] (eQo re.z v hv);refine JG (w':=w.alloc (.cells #[v] e)) (λa hf=>?_) (k _ (Ext.alloc w _) (by simp) (Blk.new w e [v]));have e1:=hf.ev hx;simp only[execOp,ho];simp[e1,Jg]
theorem tO {x y:Operand}{v u:Value}(ho:o.op= .buildSlice t 2 #[(0,x),(1,y)])(hr:QU c.g.tys t=some r)(hd:r.d= .slice e)(X8:QU c.g.tys e=some re)(hs:re.sz=1)(hz:re.z.cells= #[re.z])(hx:S.ev x=some v)(hy:S.ev y=some u)(hv:JF v=true)(hu:JF u=true)
  (k:∀w1,Ext w w1->w1.heap.size=w.heap.size+1->Blk w1 w.heap.size e [v,u]->Xh c S o.dst (.v (.slice (some ⟨w.heap.size,0,none⟩) 2 2)) (λS=>K S w1)):Zc c o S w K Q:=by
 have Jg:=GK (w:=w) hg hr hd X8 hs hz 2 (by omega) #[(0,v),(1,u)] [v,u] (eQp re.z v u hv hu);refine JG (w':=w.alloc (.cells #[v,u] e)) (λa hf=>?_) (k _ (Ext.alloc w _) (by simp) (Blk.new w e [v,u]));have e1:=hf.ev hx;have e2:=hf.ev hy;simp only[execOp,ho];simp[e1,e2,Jg]
end
theorem eQr {c:Cx}(hg:c.g.Ok){o:Oper}{S:Env}{w:World}{K:Env->World->Prop}{Q:Zj}{t t2 e:Nat}{x y:Operand}{g n cp:Nat}{A:Option Addr}{m c2:Nat}{xs ys:List Value}{r re:TyRow}
  (ho:o.op= .call ⟨.builtin .copy, #[x,y], #[t,t2]⟩) (hr:QU c.g.tys t=some r) (hd:r.d= .slice e) (X8:QU c.g.tys e=some re) (hs:re.sz=1)
  (hx:S.ev x=some (.slice (some ⟨g,0,none⟩) n cp)) (hy:S.ev y=some (.slice A m c2)) (hb:Blk w g e xs) (gS:Sl w 1 A m c2 ys) (Fp:m<=n) (du:n<=xs.length) (gT:∀u∈ys,JF u=true)
  (k:∀w1,w.grownBy w1 (some g)->w1.heap.size=w.heap.size->Blk w1 g e (ys++xs.drop m)->Xh c S o.dst (.v (.int .i64 m)) (λS=>K S w1)):Zc c o S w K Q:=by
 obtain⟨_,i,hi,X7,pJ,cy⟩:=hg.row X8;have Q4:=(hg.row hr).1;rw[hd] at Q4;have Q0:ys.length=m:=by have:=gS.len;omega
 have hfc:(Builtin.firstCells 1 m (.slice A m c2)).run c.g.P w= .ok ys.toArray w:=by
  by_cases h0:m=0
  ·subst h0;have:ys=[]:=Wx Q0;subst this;cases A<;>simp[Builtin.firstCells,loadCells,loadCellsFrom]
  ·obtain⟨ad,rfl,hc⟩:=gS.at_ (by omega);have:=run_loadCells_list (P:=c.g.P) (w:=w) ad ys hc;rw[Q0] at this;simpa [Builtin.firstCells] using this
 have pH:=run_storeCells_at c.g.P g 0 e ys 0 xs.toArray w hb (by simp;omega) (λu hu=>BP (gT u hu));simp only[a8,Nat.add_zero] at pH;have pK:Nat.min m n=m:=nv Fp;refine JG (w':=w.setRow g (ys++xs.drop m).toArray) (v:=.int .i64 m) (λa hf=>?_) (k _ ?_ (by simp) ?_)
 ·have e1:=hf.ev hx;have e2:=hf.ev hy;have oQN:(storeCells (⟨g,0,none⟩:Addr) ys).run c.g.P w= .ok () (w.setRow g (ys++xs.drop m).toArray):=by
   have:=pH;rw[Q0] at this;simpa [qz] using this
  simp only[execOp,ho,resolve,invoke];simp[builtin,e1,e2,Builtin.copy_,ZX Q4,sizeOf,typeInfo,hi,X7,hs,Builtin.lenOf,pK,hfc,oQN,goInt]
 ·exact⟨rfl,rfl,rfl,by simp,λj _ hj=>setRow_other w g j _ (λe=>hj (by rw[e]))⟩
 ·exact setRow_heap w g xs.toArray _ e _ hb
def Vs (l:List Nat):List Value:=l.map λ(x:Nat)=>.int .u8 x
def Qf (l:List Nat):ByteArray:=⟨(l.map UInt8.ofNat).toArray⟩
theorem qA {l:List Nat}{j x:Nat}(h:l[j]? =some x):(Vs l)[j]? =some (.int .u8 (x:Int)):=by simp[Vs,h]
theorem BQ (l m:List Nat):Vs (l++m)=Vs l++Vs m:=by simp[Vs]
theorem tP (l:List Nat):(Vs l).length=l.length:=by simp[Vs]
theorem ZY (l m:List Nat):Qf l++Qf m=Qf (l++m):=by
 apply ByteArray.ext;simp[Qf,ByteArray.data_append]
theorem Xi (l:List Nat):(Qf l).size=l.length:=by simp[Qf,ByteArray.size]
def Wa (s:ByteArray):List Nat:=s.data.toList.map UInt8.toNat
theorem wS (s:ByteArray):(Wa s).length=s.size:=by simp[Wa]
theorem eQs (s:ByteArray):∀x∈Wa s,x<256:=by
 intro x hx;simp only[Wa,ZG] at hx;obtain⟨b,_,rfl⟩:=hx;exact b.toNat_lt
theorem RC {s:ByteArray}{j:Nat}(hj:j<s.size):(Wa s)[j]? =some s[j].toNat:=by
 have h':j<s.data.size:=hj;have:s[j]=s.data[j]:=rfl;rw[this];simp only[Wa,aq,Array.getElem?_toList];rw[Array.getElem?_eq_getElem h']<;>rfl
theorem dL {s:ByteArray}{j:Nat}{K:Int->Prop}(hj:j<s.size)(k:∀x,(Wa s)[j]? =some x->x<256->K (x:Int)):eQ s (j:Int) K:=
 eQm hj (k _ (RC hj) (s[j]).toNat_lt)
theorem eQt (s:ByteArray):Qf (Wa s)=s:=by
 apply ByteArray.ext;simp[Qf,Wa,Function.comp_def]
theorem WB {l:List Nat}(h:∀x∈l,x<256):Wa (Qf l)=l:=by
 simp only[Wa,Qf,ny]
 conv=>rhs;rw[<-List.map_id l]
 apply List.map_congr_left;intro x hx;simp[jE (h x hx)]
theorem Kg {l m:List Nat}(hl:∀x∈l,x<256)(hm:∀x∈m,x<256)(h:Qf l=Qf m):l=m:=by
 rw[<-WB hl,<-WB hm,h]
end
section
section
variable {P:Program} {ops:Array Oper} {md:Region.Mode} {C:World->Prop} {Q:Exit->Act->World->Prop}
def NoPan (Q:Exit->Act->World->Prop):Exit->Act->World->Prop
 | .panic _,_,_=>False
 | e,a,w=>Q e a w
theorem NoPan.imp {Q:Exit->Act->World->Prop}:∀(e:Exit)(a:Act)(w:World),NoPan Q e a w->Q e a w:=λe a w h=>by
 cases e<;>first | exact h | exact(h:False).elim
def Yf (P:Program)(md:Region.Mode)(ops:Array Oper)(Q:Exit->Act->World->Prop)(C:World->Prop)(n:Nat)(L:Array Bool->Act->World->Prop):Nat->Array Bool->Act->World->Prop
 | 0,listed,a,w=>L listed a w
 | f+1,listed,a,w=>
  Region.ready md ops listed≠ []/\∀i∈Region.ready md ops listed,i<n/\wpOp P ops Q i (λa' w'=>C w'/\Yf P md ops Q C n L f (listed.setIfInBounds i true) a' w') a w
theorem tQ {n g:Nat}{L:Array Bool->Act->World->Prop}(hL:∀listed a w,L listed a w->wpAny P md ops Q g listed a w):
  ∀(f:Nat) (listed:Array Bool) (a:Act) (w:World),Yf P md ops Q C n L f listed a w->wpAny P md ops Q (f+g) listed a w
 | 0,listed,a,w,h=>by rw[a8];exact hL _ _ _ h
 | f+1,listed,a,w,h=>by
  rw[show f+1+g=(f+g)+1 by omega];exact⟨λh0=>Xd h0 h.1,λi hi=>wpOp_mono (λa' w' h'=>tQ hL f _ a' w' h'.2) (h.2 i hi).2⟩
def jP (md:Region.Mode)(ops:Array Oper)(n:Nat):Prop:=n=ops.size∨(n<ops.size/\Region.sinkB md ops n=true/\Region.chainB md ops n=true)
theorem tR {n i:Nat}{listed:Array Bool}(hs:jP md ops n)(inv:HeadInv md ops n listed)(Q5:i<n)(JY:listed.getD i true=false):∀j∈Region.ready md ops listed,j<n:=by
 intro j hj;rcases hs with hs | ⟨h1,h2,h3⟩
 ·obtain⟨_,oj,fN,_⟩:=mem_ready.1 hj;rw[hs];exact(f9.1 fN).1
 ·rcases Nat.lt_or_ge j n with h | h
  ·exact h
  ·exact Xd hj (tail_waits h2 h3 h1 inv _ i rfl Q5 JY j h)
theorem GL {n i:Nat}{oi:Oper}{v:Value}{L:Array Bool->Act->World->Prop}(hi:ops[i]? =some oi)(jn:∀(j:Nat)(o:Oper) cs b,ops[j]? =some o->o.op≠ .select cs b)
  (hs:jP md ops n) (Q5:i<n) (zW:∀listed a w,L listed a w->∀j∈Region.ready md ops listed,n<=j):
  ∀(f:Nat) (listed:Array Bool) (a:Act) (w:World),HeadInv md ops n listed->
   (∀j oj,ops[j]? =some oj->j≠i->listed.getD j true=false->(∀e∈oj.after,Region.binds md e=true->e.on≠i)->oi.apart ops oj=true)->
   i∈Region.ready md ops listed->YieldsIf P ops C oi v a->C w->
   Yf P md ops (NoPan Q) C n L f (listed.setIfInBounds i true) (a.put oi.dst v) w->Yf P md ops (NoPan Q) C n L (f+1) listed a w:=by
 intro f;induction f with
 | zero=>
  intro listed a w inv _ hr hy hC H;have JY:=(mem_ready.1 hr).1;refine⟨λh=>(by rw[h] at hr;cases hr),λj hj=>?_⟩;have KB:=tR hs inv Q5 JY j hj;refine⟨KB,?_⟩;by_cases Ve:j=i
  ·subst Ve;exact hy.wpOp hi hC ⟨hC,H⟩
  ·have:=zW _ _ _ H j (ready_mono hj Ve);omega
 | succ f ih=>
  intro listed a w inv pL hr hy hC H;have JY:=(mem_ready.1 hr).1;refine⟨λh=>(by rw[h] at hr;cases hr),λj hj=>?_⟩;have KB:=tR hs inv Q5 JY j hj;refine⟨KB,?_⟩;by_cases Ve:j=i
  ·subst Ve;exact hy.wpOp hi hC ⟨hC,H⟩
  ·have h1:=(H.2 j (ready_mono hj Ve)).2;obtain⟨pM,oj,fN,hall⟩:=mem_ready.1 hj;have mU:∀e∈oj.after,Region.binds md e=true->e.on≠i:=λe he hb heq=>by
    have h1:=hall e he hb;rw[heq,getD_both JY] at h1;cases h1
   have h2:=wpOp_putIf fN (pL j oj fN Ve pM mU) (λcs b=>jn i oi cs b hi) (λcs b=>jn j oj cs b fN) (λ_ _ _ h=>h) hy h1;have zX:∀k ok,ops[k]? =some ok->k≠i->(listed.setIfInBounds j true).getD k true=false->
     (∀e∈ok.after,Region.binds md e=true->e.on≠i)->oi.apart ops ok=true:=λk ok hk zY JY Xq=>by
    refine pL k ok hk zY ?_ Xq;by_cases pN:j=k
    ·subst pN;exact pM
    ·rw[getD_set_ne true pN] at JY;exact JY
   refine wpOp_mono (λa' w' h3=>⟨h3.2.1,ih (listed.setIfInBounds j true) a' w' (inv.set hj KB) zX (ready_mono hr (Ne.symm Ve)) h3.1 h3.2.1 ?_⟩) h2;rw[dQK _ _ Ve];exact h3.2.2
def dM (md:Region.Mode)(ops:Array Oper)(n:Nat):List (Bool×Nat)->Array Bool->Bool
 | [],listed=>Region.seqB md ops (ops.size-n) n listed
 | (true,k)::l,listed=>Nat.blt k n&&(Region.ready md ops listed).contains k&&Region.free md ops listed k&&dM md ops n l (listed.setIfInBounds k true)
 | (false,k)::l,listed=>Nat.blt k n&&decide (Region.ready md ops listed=[k])&&dM md ops n l (listed.setIfInBounds k true)
def qC (md:Region.Mode)(ops:Array Oper)(n:Nat):Bool:=Nat.beq n ops.size||(Nat.blt n ops.size&&Region.sinkB md ops n&&Region.chainB md ops n)
theorem wT {n:Nat}(h:qC md ops n=true):jP md ops n:=by
 simp only[qC,Bool.or_eq_true,Z4] at h;rcases h with h | ⟨⟨h1,h2⟩,h3⟩
 ·exact .inl (VG h)
 ·exact .inr ⟨by rw[ii] at h1;exact h1,h2,h3⟩
end
section
variable {c:Cx} {S:Env} {a:Act}
@[irreducible] def cH (c:Cx) (o:Oper) (S:Env) (C:World->Prop) (K:Env->Prop):Prop:=∃v,(∀a w,Fits c.N S a->C w->(execOp a.eval o).run c.g.P w= .ok (.value v) w)/\Xh c S o.dst (.v v) K
def qD (c:Cx)(o:Oper)(S:Env)(C:World->Prop)(K:Env->Prop):Prop:=
 match tI c.g S o.op with
 | .val v=>Xh c S o.dst (.v v) K
 | .ent e=>Xh c S o.dst e K
 | .norm k n=>dG n (λm=>Xh c S o.dst (.v (.int k m)) K)
 | .normIf p k n=>gk p n (λm=>Xh c S o.dst (.v (.int k m)) K)
 | .need p v=>jI p v (λv=>Xh c S o.dst (.v v) K)
 | .no=>match o.op with
  | .load t x=>(match QU c.g.tys t,S.ev x with
   | some r,some (.pointer (some p))=>(match qr r.d with
    | false=>tJ C p (λv=>Xh c S o.dst (.v v) K)
    | true=>tK C p r.sz (λvs=>Xh c S o.dst (.v (.agg vs.toArray)) K))
   | _,_=>cH c o S C K)
  | .indexAddr t x i=>(match QU c.g.tys t,S.ev x,S.ev i with
   | some ⟨_,.slice e,_,_,_⟩,some (.slice b n _),some (.int _ i)=>(match QU c.g.tys e with
    | some r=>Wz b n i r.sz (λp=>Xh c S o.dst (.v (.pointer (some p))) K)
    | none=>cH c o S C K)
   | some ⟨_,.array n e,_,_,_⟩,some (.pointer (some p)),some (.int _ i)=>(match QU c.g.tys e with
    | some r=>Wz (some p) n i r.sz (λp=>Xh c S o.dst (.v (.pointer (some p))) K)
    | none=>cH c o S C K)
   | _,_,_=>cH c o S C K)
  | .index t x i=>(match QU c.g.tys t,S.ev x,S.ev i with
   | some ⟨_,.string,_,_,_⟩,some (.string s),some (.int _ i)=>eQ s i (λb=>Xh c S o.dst (.v (.int .u8 b)) K)
   | _,_,_=>cH c o S C K)
  | _=>cH c o S C K
def gp (all:List Oper)(o:Oper)(S:Env)(yes no:Env->Prop):Prop:=match o.guard with
 | none=>yes S
 | some (
     j,want)=>match K6 all j with
  | some oj=>(match oj.dst with
   | some d=>(match S.ent d with
    | some .t=>(match want with
     | true=>yes S
     | false=>no S)
    | some .f=>(match want with
     | false=>yes S
     | true=>no S)
    | some (.v (.bool b))=>(match want with
     | true=>KR b (yes ((d,.t)::S)) (no ((d,.f)::S))
     | false=>KR b (no ((d,.t)::S)) (yes ((d,.f)::S)))
    | some (.v (.tuple _))=>no S
    | _=>False)
   | none=>False)
  | none=>False
def lf (c:Cx)(all:List Oper)(C:World->Prop):List (Bool×Nat)->Env->World->(Env->World->Prop)->Prop
 | [],S,w,K=>K S w
 | (true,k)::l,S,w,K=>match K6 all k with
  | some o=>gp all o S (λS=>qD c o S C (λS=>lf c all C l S w K)) (λS=>Xh c S o.dst (.v undef) (λS=>lf c all C l S w K))
  | none=>False
 | (false,k)::l,S,w,K=>match K6 all k with
  | some o=>gp all o S (λS=>dI c o S w (λS w=>C w/\lf c all C l S w K) (λ_ _ _=>False)) (λS=>Xh c S o.dst (.v undef) (λS=>lf c all C l S w K))
  | none=>False
theorem jQ {all:List Oper}{o:Oper}{yes no:Env->Prop}(h:gp all o S yes no)(hf:Fits c.N S a):
  (Region.wanted o (yielded all.toArray a.tmps)=true/\∃S',Fits c.N S' a/\yes S')∨(Region.wanted o (yielded all.toArray a.tmps)=false/\∃S',Fits c.N S' a/\no S'):=by
 have fit:∀(d:Nat) (b:Bool) (e:Ent),S.ent d=some (.v (.bool b))->e.val= .bool b->Fits c.N ((d,e)::S) a:=λd b e hd he=>by
  refine⟨hf.size,hf.defers,λk x hk=>?_⟩;simp only[Env.ent] at hk;split at hk
  ·rename_i hb;have:=VG hb;subst this;cases hk;rw[he];exact hf.has _ _ hd
  ·exact hf.has _ _ hk
 unfold gp at h;split at h
 ·rename_i KN;exact .inl ⟨by simp[Region.wanted,KN],S,hf,h⟩
 ·rename_i j want KN;split at h
  ·rename_i oj hj;split at h
   ·rename_i d hd;split at h
    ·rename_i ZJ;have hw:=kY KN hj hd (hf.has _ _ ZJ);split at h
     ·exact .inl ⟨by rw[hw];rfl,S,hf,h⟩
     ·exact .inr ⟨by rw[hw];rfl,S,hf,h⟩
    ·rename_i ZJ;have hw:=kY KN hj hd (hf.has _ _ ZJ);split at h
     ·exact .inl ⟨by rw[hw];rfl,S,hf,h⟩
     ·exact .inr ⟨by rw[hw];rfl,S,hf,h⟩
    ·rename_i b ZJ;have hw:=kY KN hj hd (hf.has _ _ ZJ);split at h
     ·unfold KR at h;cases b with
      | true=>exact .inl ⟨by rw[hw];rfl,_,fit d true .t ZJ rfl,h.1 rfl⟩
      | false=>exact .inr ⟨by rw[hw];rfl,_,fit d false .f ZJ rfl,h.2 rfl⟩
     ·unfold KR at h;cases b with
      | true=>exact .inr ⟨by rw[hw];rfl,_,fit d true .t ZJ rfl,h.1 rfl⟩
      | false=>exact .inl ⟨by rw[hw];rfl,_,fit d false .f ZJ rfl,h.2 rfl⟩
    ·rename_i ZJ;exact .inr ⟨GF KN hj hd (hf.has _ _ ZJ),S,hf,h⟩
    ·exact h.elim
   ·exact h.elim
  ·exact h.elim
theorem wU (hg:c.g.Ok){o:Oper}{C:World->Prop}{K:Env->Prop}(h:qD c o S C K)(hf:Fits c.N S a):
  ∃v,(∀w,C w->(execOp a.eval o).run c.g.P w= .ok (.value v) w)/\∃S',Fits c.N S' (a.put o.dst v)/\K S':=by
 have KO:cH c o S C K->∃v,(∀w,C w->(execOp a.eval o).run c.g.P w= .ok (.value v) w)/\∃S',Fits c.N S' (a.put o.dst v)/\K S':=λh=>by
  unfold cH at h;obtain⟨v,h1,h2⟩:=h;exact⟨v,λw hw=>h1 a w hf hw,Zy (e:=.v v) h2 hf⟩
 unfold qD at h;split at h
 ·rename_i v hp;exact⟨v,λw _=>cE (w:=w) hg hf hp,Zy (e:=.v v) h hf⟩
 ·rename_i e hp;exact⟨e.val,λw _=>cE (w:=w) hg hf hp,Zy (e:=e) h hf⟩
 ·rename_i k n hp;unfold dG at h;exact⟨_,λw _=>cE (w:=w) hg hf hp,Zy (e:=.v (.int k n)) h hf⟩
 ·rename_i p k n hp;unfold gk at h;exact⟨_,λw _=>cE (w:=w) hg hf hp h.1,Zy (e:=.v (.int k n)) h.2 hf⟩
 ·rename_i p v hp;unfold jI at h;exact⟨_,λw _=>cE (w:=w) hg hf hp h.1,Zy (e:=.v v) h.2 hf⟩
 ·obtain⟨dst,op,ty,pos,aft,gd⟩:=o;simp only at h KO ⊢;split at h
  ·rename_i t x;split at h
   ·rename_i r p hr hx;have e1:=hf.ev hx;split at h
    ·rename_i hd;unfold tJ at h;obtain⟨v,hv,hk⟩:=h;refine⟨v,λw hw=>?_,Zy (e:=.v v) hk hf⟩;simp[execOp,e1,Instr.loadAt,Instr.sureAddr,loadVar,nH hg hr,hd,hv w hw]
    ·rename_i hd;unfold tK at h;obtain⟨vs,hl,hv,hk⟩:=h;refine⟨.agg vs.toArray,λw hw=>?_,Zy (e:=.v (.agg vs.toArray)) hk hf⟩;have h2:=run_loadCells_list (P:=c.g.P) (w:=w) p vs (hv w hw);rw[hl] at h2;simp[execOp,e1,Instr.loadAt,Instr.sureAddr,loadVar,nH hg hr,hd,run_sizeOf hg hr,h2]
   ·exact KO h
  ·rename_i t x ix;split at h
   ·rename_i e b n k i hr hx hi;split at h
    ·rename_i r X8;unfold Wz at h;obtain⟨p,rfl,h0,h1,hk⟩:=h;have e1:=hf.ev hx;have e2:=hf.ev hi;refine⟨.pointer (some (p.add (i.toNat*r.sz))),λw _=>?_,Zy (e:=.v _) hk hf⟩;simp[execOp,e1,e2,Instr.indexAt,asIntOf,Y9 hg hr,run_sizeOf hg X8,h0,h1]
    ·exact KO h
   ·rename_i n e p k i hr hx hi;split at h
    ·rename_i r X8;unfold Wz at h;obtain⟨p',hp,h0,h1,hk⟩:=h;cases hp;have e1:=hf.ev hx;have e2:=hf.ev hi;refine⟨.pointer (some (p.add (i.toNat*r.sz))),λw _=>?_,Zy (e:=.v _) hk hf⟩;simp[execOp,e1,e2,Instr.indexAt,Instr.sureAddr,asIntOf,Y9 hg hr,run_sizeOf hg X8,h0,h1]
    ·exact KO h
   ·exact KO h
  ·rename_i t x ix;split at h
   ·rename_i s k i hr hx hi;unfold eQ at h;obtain⟨b,h0,h1,hk⟩:=h;have e1:=hf.ev hx;have e2:=hf.ev hi;refine⟨.int .u8 b.toNat,λw _=>?_,Zy (e:=.v _) hk hf⟩;simp[execOp,e1,e2,Instr.index,asIntOf,Y9 hg hr,h0,h1]
   ·exact KO h
  ·exact KO h
theorem BR (hg:c.g.Ok){md:Region.Mode}{ops:List Oper}{C:World->Prop}{Q:Exit->Act->World->Prop}{n:Nat}(hs:Region.noSelect ops.toArray=true)(hk:jP md ops.toArray n){K:Env->World->Prop}:
  ∀(l:List (Bool×Nat)) (listed:Array Bool) (S:Env) (a:Act) (w:World),HeadInv md ops.toArray n listed->dM md ops.toArray n l listed=true->lf c ops C l S w K->Fits c.N S a->C w->
  Yf c.g.P md ops.toArray (NoPan Q) C n (λJo a' w'=>Region.seqB md ops.toArray (ops.toArray.size-n) n Jo=true/\∃S',Fits c.N S' a'/\K S' w') l.length listed a w
 | [],listed,S,a,w,inv,hB,h,hf,hC=>⟨hB,S,hf,h⟩
 | (true,k)::l,listed,S,a,w,inv,hB,h,hf,hC=>by
  simp only[dM,Z4] at hB;obtain⟨⟨⟨Xn,hr⟩,jl⟩,K2⟩:=hB;have Xn:k<n:=by rw[ii] at Xn;exact Xn
  have Q4:k∈Region.ready md ops.toArray listed:=by simpa using hr
  obtain⟨_,o,ho,_⟩:=mem_ready.1 Q4;have hn:K6 ops k=some o:=by rw[gm];simpa using ho
  simp only[lf,hn] at h;have key:∃v,YieldsIf c.g.P ops.toArray C o v a/\∃S',Fits c.N S' (a.put o.dst v)/\lf c ops C l S' w K:=by
   rcases jQ h hf with⟨hw,S1,Zh,h1⟩ | ⟨hw,S1,Zh,h1⟩
   ·obtain⟨v,h2,h3⟩:=wU hg h1 Zh;exact⟨v,.inl ⟨hw,h2⟩,h3⟩
   ·exact⟨undef,.inr ⟨hw,rfl⟩,Zy (e:=.v undef) h1 Zh⟩
  obtain⟨v,hy,S',QZ,h'⟩:=key;exact GL ho (Region.noSelect_spec hs) hk Xn (λJo a' w' hL=>seqB_ready hL.1) l.length listed a w inv (Region.free_spec ho jl) Q4 hy hC
   (BR hg hs hk l _ S' _ w (inv.set Q4 Xn) K2 h' QZ hC)
 | (false,k)::l,listed,S,a,w,inv,hB,h,hf,hC=>by
  simp only[dM,Z4,VJ] at hB;obtain⟨⟨Xn,hr⟩,K2⟩:=hB;have Xn:k<n:=by rw[ii] at Xn;exact Xn
  have Q4:k∈Region.ready md ops.toArray listed:=by rw[hr];simp
  obtain⟨_,o,ho,_⟩:=mem_ready.1 Q4;have hn:K6 ops k=some o:=by rw[gm];simpa using ho
  simp only[lf,hn] at h;have eE:=inv.set Q4 Xn;refine⟨λh0=>(by rw[hr] at h0;cases h0),λi hi=>?_⟩;rw[hr] at hi;have zZ:i=k:=by simpa using hi
  subst zZ;refine⟨Xn,?_⟩;unfold wpOp;simp only[ho];rcases jQ h hf with⟨hw,S1,Zh,h1⟩ | ⟨hw,S1,Zh,h1⟩
  ·rw[Qe hw];refine .inl ?_;have h2:=qw hg h1 Zh;have h3:=Oper.wp_mono (K':=λa' w'=>C w'/\Yf c.g.P md ops.toArray (NoPan Q) C n (λJo a' w'=>Region.seqB md ops.toArray (ops.toArray.size-n) n Jo=true/\∃S',Fits c.N S' a'/\K S' w') l.length (listed.setIfInBounds i true) a' w')
    (λa' w' ⟨S',QZ,Z3,VZ⟩=>⟨Z3,BR hg hs hk l _ S' a' w' eE K2 VZ QZ Z3⟩) h2
   unfold Oper.wp at h3 ⊢;generalize (execOp a.eval o).run c.g.P w=r at*;cases r with
   | ok nx w'=>
    cases nx<;>simp only[Oper.upon] at h3 ⊢ <;> try exact h3
    exact h3.mono λe Vc he=>by
     cases e with
     | returned v=>exact he
     | panicked ch=>obtain⟨_,_,he⟩:=he;exact he.elim
     | outgrown=>obtain⟨_,_,_,_,he⟩:=he;exact he.elim
   | halt x w'=>cases x<;>simp only[Oper.upon] at h3 ⊢ <;> first | exact h3 | (obtain⟨_,_,h3⟩:=h3;exact h3.elim)
  ·rw[if_neg (by rw[hw];decide)];obtain⟨S',QZ,h'⟩:=Zy (e:=.v undef) h1 Zh;exact⟨hC,BR hg hs hk l _ S' _ w eE K2 h' QZ hC⟩
theorem eQu {o:Oper}{C:World->Prop}{K:Env->Prop}{v:Value}(h:∀a w,Fits c.N S a->C w->(execOp a.eval o).run c.g.P w= .ok (.value v) w)(k:Xh c S o.dst (.v v) K):cH c o S C K:=by
 unfold cH;exact⟨v,h,k⟩
theorem XL (hg:c.g.Ok){id:Nat}{ops:List Oper}{w:World}{Q:Zj}(C:World->Prop)(n:Nat)(plan:List (Bool×Nat))
  (hB:(Region.noSelect ops.toArray&&Nat.beq plan.length n&&qC .any ops.toArray n&&dM .any ops.toArray n plan (Array.replicate ops.toArray.size false))=true) (hC:C w.drew)
  (h:lf {c with named:=1000000} ops C plan S w.drew (λS w=>YD c ops (ops.drop n) S w (λS w=>Q .normal S w) (λ_ _ _=>False))):WA c id ops S w Q:=by
 unfold WA;intro a hf;simp only[Z4] at hB;obtain⟨⟨⟨hs,hl⟩,aU⟩,Jf⟩:=hB;have hl:=VG hl;have hk:=wT aU;have Fq:n<=ops.length:=by
  rcases hk with hk | hk
  ·rw[hk];simp
  ·have:=hk.1;simp at this;omega
 refine Code.wp_mono NoPan.imp (wp_region_any hg.mixed ?_);have mj:HeadInv .any ops.toArray n (Array.replicate ops.toArray.size false):=
  ⟨by simp,λj oj _ hl=>(by rw[getD_replicate_false] at hl;cases hl),λt _ ht=>getD_in (by simpa using ht) (getD_replicate_false _ _)⟩
 have H:=BR (c:={c with named:=1000000}) hg (Q:=Up c Q) hs hk plan _ S a _ mj Jf h hf hC;have Yw:(ops.drop n).length=ops.toArray.size-n:=by simp
 have H2:=tQ (Q:=NoPan (Up c Q)) (g:=ops.toArray.size-n) (λJo a' w' hL=>by
  obtain⟨hq,S',QZ,VZ⟩:=hL;have h2:=jK (c:=c) hg ops _ _ _ _ VZ QZ;have:=wpAny_of_seq (P:=c.g.P) (md:=.any) (ops:=ops.toArray) (Q':=NoPan (Up c Q)) (ops.drop n) n Jo a' w' (λj=>by simp) (by rw[Yw];exact hq) (ld (λe a w hq=>by
   cases e with
   | normal=>exact hq
   | _=>exact Xd hq (by rintro⟨_,_,h⟩;exact h)) h2)
  rwa [Yw] at this) _ _ _ _ H
 rw[hl,show n+(ops.toArray.size-n)=ops.toArray.size by simp;omega] at H2;exact H2
end
end
section
theorem RD (cs:List Nat){c:Cx}{S:Env}{w:World}{Q:Zj}(hg:c.g.Ok){x y:Code}(R:World->Prop)
  (hx:WX (eS x) S [] (λS0=>Vq {c with cuts:=cs} x S w (λe S2 w2=>match e with
   | .normal=>Has S0 S2/\R w2
   | e=>Q e S2 w2)))
  (hy:WX (eS x) S [] (λS0=>∀w',R w'->Vq c y S0 w' Q)):kU c (.seq x y) S w Q:=by
 rw[BH] at hx hy;unfold kU;intro a hf;refine wp_seq (wp_mono (jL (c:={c with cuts:=cs}) hg x S w _ a hx hf) (λe a2 w2 hq=>?_));obtain⟨S2,ZV,hq⟩:=hq;cases e with
 | normal=>exact jL hg y _ w2 Q a2 (hy w2 hq.2) (hq.1.fits ZV)
 | exit i=>exact⟨S2,ZV,hq⟩
 | goto l=>exact⟨S2,ZV,hq⟩
 | ret=>exact⟨S2,ZV,hq⟩
 | panic ch=>exact⟨S2,ZV,hq⟩
 | outgrown=>exact⟨S2,ZV,hq⟩
theorem BT {a:Addr}{n j:Nat}{i:Int}{K:Addr->Prop}(hi:i=j)(hj:j<n)(k:K (a.add j)):Wz (some a) n i 1 K:=by subst hi;exact index hj k
theorem named {a b:String}{K:Prop}(h:a=b)(k:K):Rb a b K:=by unfold Rb;exact⟨h,k⟩
theorem new {w:World}{t:TypeId}{cs:List Value}{K:Addr->World->Prop}(k:∀w1,Ext w w1->w1.heap.size=w.heap.size+1->Blk w1 w.heap.size t cs->K ⟨w.heap.size,0,none⟩ w1):qm w t cs K:=by
 unfold qm;exact k _ (Ext.alloc w _) (by simp) (Blk.new w t cs)
theorem add_add (a:Addr)(n m:Nat):(a.add n).add m=a.add (n+m):=by
 unfold Addr.add;split
 ·rename_i h;subst h;simp
 ·split
  ·rename_i h1 h2;subst h2;simp[h1]
  ·rename_i h1 h2;simp[h1,kS]
theorem RE:∀(vs cs:List Value),vs.length<=cs.length->wF vs cs=vs++cs.drop vs.length
 | [],_,_=>rfl
 | v::vs,[],h=>by simp at h
 | v::vs,c::cs,h=>by
  show v::wF vs cs=_;rw[RE vs cs (by simpa using h)]<;>rfl
theorem jR:∀(n:Nat)(vs cs:List Value),n+vs.length<=cs.length->Vh n vs cs=cs.take n++vs++cs.drop (n+vs.length)
 | 0,vs,cs,h=>by
  have e:Vh 0 vs cs=wF vs cs:=by cases cs<;>rfl
  rw[e,RE vs cs (by omega)];simp
 | n+1,vs,[],h=>by simp at h
 | n+1,vs,c::cs,h=>by
  show c::Vh n vs cs=_;rw[jR n vs cs (by simp at h;omega)];rw[show n+1+vs.length=(n+vs.length)+1 by omega];simp
theorem RF:∀(n:Nat)(vs cs:List Value),n+vs.length<=cs.length->(Vh n vs cs).length=cs.length:=λn vs cs h=>by
 rw[jR n vs cs h];simp;omega
theorem lg {P:Program}{w:World}{g t:Nat}{cs vs:List Value}{j:Nat}{K:World->Prop}(h:Blk w g t cs)(hj:j+vs.length<=cs.length)(gT:∀u∈vs,JF u=true)
  (k:∀w1,w.grownBy w1 (some g)->w1.heap.size=w.heap.size->Blk w1 g t (Vh j vs cs)->K w1):nE P w ((⟨g,0,none⟩:Addr).add j) vs K:=by
 unfold nE;have pH:=run_storeCells_at P g j t vs 0 cs.toArray w h (by simpa using hj) (λu hu=>BP (gT u hu));rw[qz];refine⟨_,pH,?_⟩;refine k _ ⟨rfl,rfl,rfl,by simp,λi _ hi=>setRow_other w g i _ (λe=>hi (by rw[e]))⟩ (by simp) ?_;have:=setRow_heap w g cs.toArray (cs.toArray.toList.take (j+0)++vs++cs.toArray.toList.drop (j+0+vs.length)).toArray t _ h;unfold Blk;rw[this,jR j vs cs hj]<;>rfl
theorem Qw {P:Program}{w:World}{g t:Nat}{cs vs:List Value}{K:World->Prop}(h:Blk w g t cs)(hl:vs.length=cs.length)(gT:∀u∈vs,JF u=true)
  (k:∀w1,w.grownBy w1 (some g)->w1.heap.size=w.heap.size->Blk w1 g t vs->K w1):nE P w ⟨g,0,none⟩ vs K:=by
 have:=lg (P:=P) (j:=0) (K:=K) h (by omega) gT (λw1 h1 h2 h3=>k w1 h1 h2 (by
  rw[jR 0 vs cs (by omega),hl] at h3;simpa using h3))
 simpa [Addr.add] using this
theorem gq {w:World}{g t:Nat}{cs vs:List Value}{j n:Nat}{K:List Value->Prop}(h:Blk w g t cs)(hn:vs.length=n)(hv:∀i v,vs[i]? =some v->cs[j+i]? =some v)(k:K vs):kT w ((⟨g,0,none⟩:Addr).add j) n K:=by
 unfold kT;exact⟨vs,hn,λi v hi=>by rw[add_add,h.cell];exact hv i v hi,k⟩
theorem Qt {w:World}{g t:Nat}{cs:List Value}{n:Nat}{K:List Value->Prop}(h:Blk w g t cs)(hn:cs.length=n)(k:K cs):kT w ⟨g,0,none⟩ n K:=by
 have:=gq (j:=0) (vs:=cs) (K:=K) h hn (λi v hi=>by simpa using hi) k;simpa [Addr.add] using this
theorem Qy {w:World}{g t:Nat}{cs:List Value}{v:Value}{K:Value->Prop}(h:Blk w g t cs)(hv:cs[0]? =some v)(k:K v):iq w ⟨g,0,none⟩ K:=by
 have:=Qp (j:=0) (K:=K) h hv k;simpa [Addr.add] using this
theorem eQv {w:World}{g t:Nat}{cs:List Value}{v:Value}{K:World->Prop}(h:Blk w g t cs)(hj:0<cs.length)(k:∀w1,w.grownBy w1 (some g)->Blk w1 g t (cs.set 0 v)->K w1):eP w ⟨g,0,none⟩ v K:=by
 have:=wO (j:=0) (v:=v) (K:=K) h hj k;simpa [Addr.add] using this
section
variable {α:Type} {f:α->List Value} {sz:Nat}
theorem dN (hf:∀x,(f x).length=sz):∀(l:List α),(l.flatMap f).length=l.length*sz
 | []=>by simp
 | x::l=>by simp[hf,dN hf l,ik,Nat.add_comm]
theorem jS (hf:∀x,(f x).length=sz):∀(l:List α)(j:Nat)(x:α)(i:Nat)(v:Value),l[j]? =some x->(f x)[i]? =some v->(l.flatMap f)[j*sz+i]? =some v
 | [],j,x,i,v,h,_=>by simp at h
 | y::l,0,x,i,v,h,hi=>by
  simp at h;subst h;have:i<(f y).length:=(ZM.1 hi).1;rw[VH,eK (by simpa using this)];simpa using hi
 | y::l,j+1,x,i,v,h,hi=>by
  rw[VH,WV (by rw[hf];rw[ik];omega),hf];rw[show(j+1)*sz+i-sz=j*sz+i by rw[ik];omega];exact jS hf l j x i v (by simpa using h) hi
def SlS (f:α->List Value)(sz:Nat)(w:World)(A:Option Addr)(n c:Nat)(l:List α):Prop:=Sl w sz A n c (l.flatMap f)/\l.length=n
theorem SlS.len {w:World}{A:Option Addr}{n c:Nat}{l:List α}(h:SlS f sz w A n c l):l.length=n:=h.2
theorem SlS.ext {w w':World}{A:Option Addr}{n c:Nat}{l:List α}(h:SlS f sz w A n c l)(k:Ext w w'):SlS f sz w' A n c l:=⟨h.1.ext k,h.2⟩
theorem SlS.nil (w:World):SlS f sz w none 0 0 []:=⟨Sl.nil w sz,rfl⟩
theorem SlS.cell (hf:∀x,(f x).length=sz){w:World}{A:Option Addr}{n c:Nat}{l:List α}(h:SlS f sz w A n c l){j:Nat}{x:α}(hj:l[j]? =some x):
  ∃ad,A=some ad/\∀i v,(f x)[i]? =some v->w.cell? ((ad.add (j*sz)).add i)=some v:=by
 have Xe:j<l.length:=(ZM.1 hj).1;obtain⟨ad,rfl,hc⟩:=h.1.at_ (by have:=h.2;omega);exact⟨ad,rfl,λi v hi=>by rw[add_add];exact hc _ _ (jS hf l j x i v hj hi)⟩
theorem Zz (hf:∀x,(f x).length=sz){w:World}{A:Option Addr}{n c:Nat}{l:List α}{i:Int}{j:Nat}{K:Addr->Prop}(h:SlS f sz w A n c l)(hi:i=j)(hj:j<n)
  (k:∀p x,l[j]? =some x->(∀i v,(f x)[i]? =some v->w.cell? (p.add i)=some v)->K p):Wz A n i sz K:=by
 subst hi;have Xe:j<l.length:=by rw[h.2];exact hj
 have hx:l[j]? =some l[j]:=XB Xe;obtain⟨ad,rfl,hc⟩:=h.cell hf hx;unfold Wz;exact⟨ad,rfl,by omega,by omega,by simpa using k _ _ hx hc⟩
theorem JN {w:World}{p:Addr}{vs:List Value}{n:Nat}{K:List Value->Prop}(hn:vs.length=n)(h:∀i v,vs[i]? =some v->w.cell? (p.add i)=some v)(k:K vs):kT w p n K:=by
 unfold kT;exact⟨vs,hn,h,k⟩
end
theorem eQw {P:Program}{w w1:World}{t ty e:TypeId}{i:TypeInfo}{z:Value}{bytes base n m cc sz:Nat}{v v':Value}{xs ys:List Value}(ht:P.underlying t=some (.slice e))(hi:P.info? e=some i)(hz:i.zero=some z)(hs:i.size=sz)(cw:i.bytes=bytes)
  (Wu:w.ownsRow base e sz v n xs) (b:Addr) (hm:0<m) (hl:ys.length=m*sz) (Xy:∀j u,ys[j]? =some u->w.cell? (b.add j)=some u) (h1:∀u∈ys,u.oneCell'=true) (iR:n+m<=maxLen) (OD:(n+m)*bytes<=140737488355328)
  (Jg:(Builtin.append_ #[t,t] ty #[v,.slice (some b) m cc]).run P w= .ok v' w1):∀g',v'.ownBlock=some g'->v.ownBlock=some g'∨w.heap.size<=g':=by
 intro g' V0;subst cw;have qQt:n+m<=9223372036854775807:=by simp only[maxLen] at iR;omega
 rcases Wu.2 with⟨rfl,rfl⟩ | ⟨g,cap,ZK,rfl,hbg,hg,mV,dt,XO,sJ⟩
 ·have hr:=run_append_nil (P:=P) w t ty e i z ht hi hz b m cc ys (by rw[hl,hs]) Xy (by omega) (by omega) (by have hb:=OD;simp only[a8] at hb;omega);rw[hr] at Jg;cases Jg;simp[Value.ownBlock] at V0;exact .inr (by omega)
 ·by_cases Fr:n+m<=cap
  ·have hr:=run_append_room (P:=P) w t ty e i ht hi g n cap ZK hg b m cc ys (by rw[hl,hs]) Xy h1 Fr (by rw[hl,hs,XO,<-nz];exact Y8 _ Fr);rw[hr] at Jg;cases Jg;exact .inl V0
  ·have holds:∀j u,xs[j]? =some u->w.cell? ((⟨g,0,none⟩:Addr).add j)=some u:=Wu.cells (g:=g) rfl
   have hr:=run_append_grow (P:=P) w t ty e i z ht hi hz ⟨g,0,none⟩ n cap xs (by rw[hs];exact Wu.1) holds b m cc ys (by rw[hl,hs]) Xy (by omega) (by omega) (growslice_fits (by omega) OD);rw[hr] at Jg;cases Jg;simp[Value.ownBlock] at V0;exact .inr (by omega)
theorem eQx {c:Cx}(hg:c.g.Ok){o:Oper}{S:Env}{w:World}{K:Env->World->Prop}{Q:Zj}{t t2 e sz:Nat}{x y:Operand}{A B:Option Addr}{n cp:Nat}{m c2:Nat}{xs ys:List Value}{base:Nat}{r re r2:TyRow}
  (ho:o.op= .call ⟨.builtin .append, #[x,y], #[t,t2]⟩) (hr:QU c.g.tys t=some r) (hd:r.d= .slice e) (X8:QU c.g.tys e=some re) (hs:re.sz=sz) (Lm:0<sz) (kF:re.z.cells.size=sz) (Wl:QU c.g.tys t2=some r2) (aL:∃e2,r2.d= .slice e2)
  (hx:S.ev x=some (.slice A n cp)) (hy:S.ev y=some (.slice B m c2)) (Wu:Own w base e sz A n cp xs) (gS:Sl w sz B m c2 ys) (gT:∀u∈ys,JF u=true)
  (iR:n+m<=maxLen) (cw:(n+m)*re.by_<=140737488355328) (sK:base<=w.heap.size)
  (k:∀A' c' w1,w.grownBy w1 (Value.slice A n cp).ownBlock->Own w1 base e sz A' (n+m) c' (xs++ys)->(∀ad,A'=some ad->A=some ad∨w.heap.size<=ad.block)->Xh c S o.dst (.v (.slice A' (n+m) c')) (λS=>K S w1)):Zc c o S w K Q:=by
 obtain⟨_,i,hi,X7,pJ,cy⟩:=hg.row X8;have Q4:=(hg.row hr).1;rw[hd] at Q4;obtain⟨e2,aL⟩:=aL;have vf:=(hg.row Wl).1;rw[aL] at vf;have Q0:ys.length=m*sz:=gS.len;unfold Zc;intro a hf;have e1:=hf.ev hx;have yj:=hf.ev hy;have key:∃v' w1,(Builtin.append_ #[t,t] o.type #[.slice A n cp,.slice B m c2]).run c.g.P w= .ok v' w1/\w1.ownsRow base e sz v' (n+m) (xs++ys)/\w.grownBy w1 (Value.slice A n cp).ownBlock/\(∀g',v'.ownBlock=some g'->(Value.slice A n cp).ownBlock=some g'∨w.heap.size<=g'):=by
  by_cases h0:m=0
  ·subst h0;have Ac:ys=[]:=Wx (by omega);subst Ac;have ZL:n<=cp:=Wu.sl.le;refine⟨.slice A n cp,w,?_,by simpa using Wu.row,⟨rfl,rfl,rfl,QC _,λ_ _ _=>rfl⟩,λ_ h=>.inl h⟩;cases A<;>cases B<;>simp[Builtin.append_,ZX Q4,sizeOf,typeInfo,hi,Builtin.lenOf,ZL,Builtin.firstCells,loadCells,loadCellsFrom,storeCells]
  ·obtain⟨b,rfl,Xy⟩:=gS.at_ (by omega);obtain⟨v',w1,Jg,Kf,sH,_⟩:=run_append_own (P:=c.g.P) (w:=w) base t o.type e i re.z sz re.by_ Q4 hi cy (by rw[X7,hs]) pJ kF Lm _ n xs Wu.row b m c2 ys Q0 Xy (λu hu=>BP (gT u hu)) iR cw sK;exact⟨v',w1,Jg,Kf,sH,eQw Q4 hi cy (by rw[X7,hs]) pJ Wu.row b (by omega) Q0 Xy (λu hu=>BP (gT u hu)) iR cw Jg⟩
 obtain⟨v',w1,Jg,Kf,sH,OE⟩:=key;obtain⟨A',c',rfl,OF⟩:=qQ8 Kf;have OG:∀ad,A'=some ad->A=some ad∨w.heap.size<=ad.block:=λad e=>by
  subst e;rcases OE ad.block rfl with h | h
  ·left
   rcases Wu.row.2 with⟨hv,_⟩ | ⟨g,cap,ZK,hv,_⟩
   ·cases hv;simp[Value.ownBlock] at h
   ·cases hv;rcases Kf.2 with⟨hv,_⟩ | ⟨g2,mQz,mQA,Kl,_⟩
    ·cases hv
    ·cases Kl;simp[Value.ownBlock] at h;rw[h]
  ·exact .inr h
 refine bO (v:=.slice A' (n+m) c') (w':=w1) ?_ (Zy (e:=.v _) (k A' c' w1 sH OF OG) hf);have oQO:(Builtin.append_ #[t,t2] o.type #[.slice A n cp,.slice B m c2]).run c.g.P w=(Builtin.append_ #[t,t] o.type #[.slice A n cp,.slice B m c2]).run c.g.P w:=by
  simp[Builtin.append_,ZX Q4,ZX vf]
 simp only[execOp,ho,resolve,invoke];simp[builtin,e1,yj,oQO,Jg]
theorem eQy {P:Program}{w w1:World}{t u ty e:TypeId}{i:TypeInfo}{base n:Nat}{v v':Value}{xs:List Value}(ht:P.underlying t=some (.slice e))(hu:P.underlying u=some .string)(hi:P.info? e=some i)(hz:i.zero=some (.int .u8 0))(hs:i.size=1)(cw:i.bytes=1)
  (Wu:w.ownsRow base e 1 v n xs) (s:ByteArray) (OD:n+s.size<=140737488355328)
  (Jg:(Builtin.append_ #[t,u] ty #[v,.string s]).run P w= .ok v' w1):∀g',v'.ownBlock=some g'->v.ownBlock=some g'∨w.heap.size<=g':=by
 intro g' V0;have gU:xs.length=n:=by simpa using Wu.1
 rcases Wu.2 with⟨rfl,rfl⟩ | ⟨g,cap,ZK,rfl,hbg,hg,mV,dt,XO,sJ⟩
 ·by_cases hm:s.size=0
  ·have hf:=Lib.run_firstCells_string (P:=P) w 1 s;rw[hm] at hf;have:(Builtin.append_ #[t,u] ty #[.slice none 0 0,.string s]).run P w= .ok (.slice none 0 0) w:=by
    simp[Builtin.append_,ZX ht,ZX hu,sizeOf,typeInfo,hi,hs,Builtin.lenOf,hm,hf]
   rw[this] at Jg;cases Jg;simp[Value.ownBlock] at V0
  ·have hr:=run_append_nil_string (P:=P) w t u ty e i (.int .u8 0) ht hu hi hz s (by omega) (by omega) (by rw[cw];omega);rw[hr] at Jg;cases Jg;simp[Value.ownBlock] at V0;exact .inr (by omega)
 ·by_cases Fr:n+s.size<=cap
  ·have qQu:ZK.size=cap:=by simpa using XO
   have hr:=Lib.run_append_room_string (P:=P) w t u ty e i ht hu hi hs g n cap ZK hg s Fr (by omega);rw[hr] at Jg;cases Jg;exact .inl V0
  ·have holds:∀j u,xs[j]? =some u->w.cell? ((⟨g,0,none⟩:Addr).add j)=some u:=Wu.cells (g:=g) rfl
   have hr:=Lib.run_append_grow_string (P:=P) w t u ty e i (.int .u8 0) ht hu hi hz ⟨g,0,none⟩ n cap xs (by rw[hs];simpa using gU) holds s (by omega) (by omega) (by rw[cw];exact growslice_fits (by omega) (by omega));rw[hr] at Jg;cases Jg;simp[Value.ownBlock] at V0;exact .inr (by omega)
theorem eQz {c:Cx}(hg:c.g.Ok){o:Oper}{S:Env}{w:World}{K:Env->World->Prop}{Q:Zj}{t t2 e:Nat}{x y:Operand}{A:Option Addr}{n cp:Nat}{s:ByteArray}{xs:List Value}{base:Nat}{r re r2:TyRow}
  (ho:o.op= .call ⟨.builtin .append, #[x,y], #[t,t2]⟩) (hr:QU c.g.tys t=some r) (hd:r.d= .slice e) (X8:QU c.g.tys e=some re) (hs:re.sz=1) (kF:re.z= .int .u8 0) (Fs:re.by_=1) (Wl:QU c.g.tys t2=some r2) (aL:r2.d= .string)
  (hx:S.ev x=some (.slice A n cp)) (hy:S.ev y=some (.string s)) (Wu:Own w base e 1 A n cp xs)
  (iR:n+s.size<=140737488355328) (sK:base<=w.heap.size)
  (k:∀A' c' w1,w.grownBy w1 (Value.slice A n cp).ownBlock->Own w1 base e 1 A' (n+s.size) c' (xs++Lib.strCells s)->(∀ad,A'=some ad->A=some ad∨w.heap.size<=ad.block)->Xh c S o.dst (.v (.slice A' (n+s.size) c')) (λS=>K S w1)):Zc c o S w K Q:=by
 obtain⟨_,i,hi,X7,pJ,cy⟩:=hg.row X8;have Q4:=(hg.row hr).1;rw[hd] at Q4;have vf:=(hg.row Wl).1;rw[aL] at vf;unfold Zc;intro a hf;have e1:=hf.ev hx;have yj:=hf.ev hy;obtain⟨v',w1,Jg,Kf,sH,_⟩:=Lib.run_append_own_string (P:=c.g.P) (w:=w) base t t2 o.type e i Q4 vf hi (by rw[cy,kF]) (by rw[X7,hs]) (by rw[pJ,Fs]) _ n xs Wu.row s (by unfold maxLen;omega) iR sK;have OE:=eQy Q4 vf hi (by rw[cy,kF]) (by rw[X7,hs]) (by rw[pJ,Fs]) Wu.row s iR Jg;obtain⟨A',c',rfl,OF⟩:=qQ8 Kf;have OG:∀ad,A'=some ad->A=some ad∨w.heap.size<=ad.block:=λad e=>by
  subst e;rcases OE ad.block rfl with h | h
  ·left
   rcases Wu.row.2 with⟨hv,_⟩ | ⟨g,cap,ZK,hv,_⟩
   ·cases hv;simp[Value.ownBlock] at h
   ·cases hv;rcases Kf.2 with⟨hv,_⟩ | ⟨g2,mQz,mQA,Kl,_⟩
    ·cases hv
    ·cases Kl;simp[Value.ownBlock] at h;rw[h]
  ·exact .inr h
 refine bO (v:=.slice A' (n+s.size) c') (w':=w1) ?_ (Zy (e:=.v _) (k A' c' w1 sH OF OG) hf);simp only[execOp,ho,resolve,invoke];simp[builtin,e1,yj,Jg]
def GN:Nat->List (List Value)->List (Nat×Value)->Prop
 | _,[],[]=>True
 | n,cs::l,(i,v)::r=>i=n/\J1 v=cs/\GN (n+1) l r
 | _,_,_=>False
theorem RG {sz:Nat}{z:List Value}(hz:z.length=sz):∀(parts:List (Nat×Value))(n:Nat)(l:List (List Value))(pre:List Value),GN n l parts->(∀cs∈l,cs.length=sz)->pre.length=n*sz->
  Instr.fill (λi=>some (i*sz,sz)) (pre++(List.replicate l.length z).flatten).toArray parts=some (pre++l.flatten).toArray
 | [],n,[],pre,_,_,_=>by simp[Instr.fill]
 | [],n,_::_,pre,h,_,_=>h.elim
 | _::_,n,[],pre,h,_,_=>h.elim
 | (i,v)::parts,n,cs::l,pre,h,hl,hp=>by
  obtain⟨rfl,rfl,h'⟩:=h;have hc:(J1 v).length=sz:=hl _ (by simp);have XO:v.cells.size=sz:=by rw[<-hc,<-qu];simp
  have hcond:¬((v.cells.size≠sz||i*sz+v.cells.size>(pre++(List.replicate (J1 v::l).length z).flatten).toArray.size)=true):=by
   rw[XO];simp[hp,PP,hz]
  unfold Instr.fill;simp only;rw[if_neg hcond];have e:(v.cells.zipIdx.foldl (λcs (c,j)=>cs.setIfInBounds (i*sz+j) c) (pre++(List.replicate (J1 v::l).length z).flatten).toArray)=((pre++J1 v)++(List.replicate l.length z).flatten).toArray:=by
   apply Array.ext';rw[Ro,qu,jR _ _ _ (by simp[hp,PP,hz,hc])];simp only[Q6,PP,PQ];rw[tu,List.drop_append,hp];simp only[A6,List.take_zero,JZ];rw[Jv (by omega),tv (by omega),aZ];rw[show i*sz+(J1 v).length-i*sz=sz by omega,List.drop_append,hz,A6,tw,tv (by omega)];simp
  rw[e];have:=RG hz parts (i+1) l (pre++J1 v) h' (λcs XO=>hl cs (by simp[XO])) (by rw[Qq,hp,hc,ik]);rw[this];simp
theorem RH (z:List Value)(hz:0<z.length):∀(n:Nat),(List.range (n*z.length)).map (λj=>z.toArray[j % z.length]!)=(List.replicate n z).flatten
 | 0=>by simp
 | n+1=>by
  rw[ik,List.range_add,be,RH z hz n,List.replicate_succ',List.flatten_append];congr 1;simp only[ny,PQ,List.flatten_nil,JZ];apply List.ext_getElem
  ·simp
  ·intro i h1 h2;simp at h1;simp[jE h1,h1]
theorem Xw {c:Cx}(hg:c.g.Ok){o:Oper}{S:Env}{w:World}{K:Env->World->Prop}{Q:Zj}{t e n:Nat}{r re:TyRow}{ps:Array (Nat×Operand)}{vs:List (Nat×Value)}(l:List (List Value))
  (ho:o.op= .buildSlice t n ps) (hr:QU c.g.tys t=some r) (hd:r.d= .slice e) (X8:QU c.g.tys e=some re) (hv:tH S ps.toList=some vs) (hb:GN 0 l vs) (hn:l.length=n) (hl:∀cs∈l,cs.length=re.sz) (hz:(J1 re.z).length=re.sz) (X7:0<re.sz) (sL:n*re.sz<=16777216)
  (k:∀w1,Ext w w1->w1.heap.size=w.heap.size+1->Blk w1 w.heap.size e l.flatten->Xh c S o.dst (.v (.slice (some ⟨w.heap.size,0,none⟩) n n)) (λS=>K S w1)):Zc c o S w K Q:=by
 obtain⟨_,i,hi,hsi,pJ,cy⟩:=hg.row X8;have Q4:=(hg.row hr).1;rw[hd] at Q4;subst hn;refine JG (w':=w.alloc (.cells l.flatten.toArray e)) (λa hf=>?_) (k _ (Ext.alloc w _) (by simp) (Blk.new w e l.flatten));have dq:=GC (ρ:=a.eval) (λx v h=>hf.ev h) _ _ hv;have dQq:(ps.map λ(x:Nat×Operand)=>(x.1,a.eval x.2)).toList=vs:=by rw[PO];exact dq
 have kF:re.z.cells=(J1 re.z).toArray:=by rw[<-qu]
 have vS:=RG hz vs 0 l [] hb hl (by simp);simp only[aZ] at vS;have Ft:=RH (J1 re.z) (by rw[hz];exact X7) l.length;rw[hz] at Ft;simp only[execOp,ho,Instr.buildSlice];rw[show(ps.map λ(x:Nat×Operand)=>(x.1,a.eval x.2)).toList=vs from dQq];have iQ:¬l.length*re.sz>2^24:=by omega
 by_cases h0:l.length=0
 ·have Ac:l=[]:=Wx h0;subst Ac;cases vs with
  | cons p vs=>exact hb.elim
  | nil=>simp[ZX Q4,sizeOf,typeInfo,hi,Instr.fill,newRow,Array.range_zero']
 ·have h1:¬(l.length*re.sz=0):=by
   intro h;rcases Nat.mul_eq_zero.1 h with h | h<;>omega
  have zV:(Array.range (l.length*re.sz)).map (λj=>(J1 re.z).toArray[j % (J1 re.z).toArray.size]!)=(List.replicate l.length (J1 re.z)).flatten.toArray:=by
   apply Array.ext';rw[PO,Array.toList_range];simpa [hz] using Ft
  simp only[Sem.run_bind,ZX Q4,Result.andThen_ok,sizeOf,typeInfo,run_program,hi,Sem.run_pure,hsi,if_neg iQ,if_neg h1,zeroValue,cy,kF];rw[zV];simp only[vS];simp[newRow]
def tS:TypeDesc->Nat
 | .int _=>0
 | .string=>1
 | .bool=>2
 | _=>1000
structure KeyV {α:Type} [DecidableEq α] (d:TypeDesc) (kv:α->Value):Prop where
 same:∀a b,Instr.sameNow d (kv a) (kv b)=some (decide (a=b))
 bits:∀a n,Instr.sameBits n (kv a) (kv a)=true
 plain:tS d<3
theorem KeyV.int (k:IntKind):KeyV (.int k) (λn:Int=>.int k n):=⟨λa b=>by simp[Instr.sameNow];rfl,λa n=>by cases n<;>simp[Instr.sameBits],by simp[tS]⟩
theorem qQU:KeyV .string (λs:ByteArray=>.string s):=⟨λa b=>by
  simp only[Instr.sameNow,Option.some.injEq];rw[beq_toListBytes,wI],λa n=>by cases n<;>(simp only[Instr.sameBits];rw[beq_toListBytes,wI];simp),by simp[tS]⟩
theorem KeyV.bool:KeyV .bool (λb:Bool=>.bool b):=⟨λa b=>by simp only[Instr.sameNow];cases a<;>cases b<;>rfl,λa n=>by cases n<;>simp[Instr.sameBits],by simp[tS]⟩
def XC {α:Type} [DecidableEq α](a:α):List (α×Value)->Option Value
 | []=>none
 | (b,v)::l=>if a=b then some v else XC a l
def Zg {α:Type} [DecidableEq α](a:α)(v:Value):List (α×Value)->List (α×Value)
 | []=>[(a,v)]
 | (b,u)::l=>if a=b then(b,v)::l else(b,u)::Zg a v l
theorem bj {α:Type} [DecidableEq α](a b:α)(v:Value):∀l,XC b (Zg a v l)=if b=a then some v else XC b l
 | []=>by simp[Zg,XC]
 | (d,u)::l=>by
  simp only[Zg];split
  ·rename_i h;subst h;simp only[XC];split<;>rfl
  ·rename_i h;simp only[XC,bj a b v l];by_cases h1:b=d
   ·subst h1;rw[Qe rfl,if_neg (λe=>h e.symm)];simp
   ·rw[if_neg h1,if_neg h1]
def XW {α:Type}(kv:α->Value)(m:List (α×Value))(bs:List Nat):List MapEntry:=(m.zip bs).map λp=>{key:=kv p.1.1,val:=p.1.2,born:=p.2}
structure MapAt {α:Type} (kv:α->Value) (w:World) (r:Nat) (m:List (α×Value)):Prop where
 ex:∃bs ck,bs.length=m.length/\w.heap[r]? =some (.map (XW kv m bs).toArray ck)
theorem MapAt.ext {α:Type}{kv:α->Value}{w w':World}{r:Nat}{m:List (α×Value)}(h:MapAt kv w r m)(k:Ext w w'):MapAt kv w' r m:=by
 obtain⟨bs,ck,hl,hb⟩:=h.ex;exact⟨bs,ck,hl,(k.block r (f9.1 hb).1 (by simp)).trans hb⟩
theorem MapAt.lt {α:Type}{kv:α->Value}{w:World}{r:Nat}{m:List (α×Value)}(h:MapAt kv w r m):r<w.heap.size:=by
 obtain⟨bs,ck,hl,hb⟩:=h.ex;exact(f9.1 hb).1
section
variable {α:Type} [DecidableEq α] {d:TypeDesc} {kv:α->Value}
theorem wV {α:Type}{c:Cx}(_:c.g.Ok){o:Oper}{S:Env}{w:World}{K:Env->World->Prop}{Q:Zj}{t:Nat}(kv:α->Value)(ho:o.op= .makeMap t none)
  (k:∀w1,Ext w w1->w1.heap.size=w.heap.size+1->MapAt kv w1 w.heap.size []->Xh c S o.dst (.v (.map (some w.heap.size))) (λS=>K S w1)):Zc c o S w K Q:=by
 refine JG (w':=w.alloc (.map #[] 0)) (λa hf=>?_) (k _ (Ext.alloc w _) (by simp) ⟨[],0,rfl,heap_alloc_new w _⟩);simp[execOp,ho,Instr.makeMap]
theorem wW {P:Program}{t:TypeId}(hu:P.underlying t=some d)(hd:tS d<3)(b:Bool)(n:Nat)(v:Value)(w:World):(Instr.checkKey b (n+1) t v).run P w= .ok () w:=by
 simp only[Instr.checkKey,Sem.run_bind,ZX hu,Result.andThen_ok];cases d<;>first | (simp[tS] at hd;done) | rfl
theorem GO (hk:KeyV d kv)(a:α):∀(m:List (α×Value))(bs:List Nat)(i:Nat),bs.length=m.length->
  ∃r,Instr.findNow d (kv a) (XW kv m bs) i=some r/\r.map (·.2)=XC a m/\(∀j v,r=some (j,v)->i<=j/\j<i+m.length/\∀v',XW kv (Zg a v' m) bs=(XW kv m bs).modify (j-i) (λe=>{e with key:=kv a,val:=v'})/\((XW kv m bs)[j-i]?).map (·.key)=some (kv a))/\(r=none->∀v',Zg a v' m=m++ [(a,v')])
 | [],bs,i,h=>⟨none,rfl,rfl,(λj v h=>by cases h),λ_ v'=>rfl⟩
 | (b,u)::m,[],i,h=>by simp at h
 | (b,u)::m,s::bs,i,h=>by
  have e:XW kv ((b,u)::m) (s::bs)={key:=kv b,val:=u,born:=s}::XW kv m bs:=rfl;rw[e];unfold Instr.findNow;simp only[hk.same];by_cases Yx:a=b
  ·subst Yx;simp only[decide_true];refine⟨some (i,u),rfl,by simp[XC],λj v hj=>?_,λh=>by cases h⟩;cases hj;refine⟨QC _,by simp,λv'=>?_⟩;simp[Zg,XW]
  ·simp only[Yx,decide_false];obtain⟨r,h1,h2,h3,h4⟩:=GO hk a m bs (i+1) (by simpa using h);refine⟨r,h1,by simp[XC,Yx,h2],λj v hj=>?_,λhn v'=>by simp[Zg,Yx,h4 hn v']⟩;obtain⟨h5,h6,h7⟩:=h3 j v hj;refine⟨by omega,by simp;omega,λv'=>?_⟩;obtain⟨h8,h9⟩:=h7 v';rw[show j-i=(j-(i+1))+1 by omega];refine⟨?_,by simpa using h9⟩;simp only[Zg,Yx,if_false];rw[show XW kv ((b,u)::Zg a v' m) (s::bs)={key:=kv b,val:=u,born:=s}::XW kv (Zg a v' m) bs from rfl,h8];simp
variable {c:Cx} (hg:c.g.Ok) {o:Oper} {S:Env} {w:World} {K:Env->World->Prop} {Q:Zj} {t ke e:Nat} {r rk re:TyRow} {x y:Operand} {q:Nat} {m:List (α×Value)} {a:α}
include hg
theorem GP (hr:QU c.g.tys t=some r)(hd:r.d= .map ke e)(bH:QU c.g.tys ke=some rk)(X8:QU c.g.tys e=some re)(hk:KeyV rk.d kv)(hm:MapAt kv w q m)(ok:Bool):
  (Instr.lookup t (.map (some q)) (kv a) ok).run c.g.P w= .ok (match XC a m with
   | some v=>if ok then .tuple #[v,.bool true] else v
   | none=>if ok then .tuple #[re.z,.bool false] else re.z) w:=by
 have Q4:=(hg.row hr).1;rw[hd] at Q4;have gV:=(hg.row bH).1;obtain⟨_,i,hi,_,_,hz⟩:=hg.row X8;obtain⟨bs,ck,hl,hb⟩:=hm.ex;obtain⟨res,h1,h2,_,_⟩:=GO hk a m bs 0 hl;have eF:(getObj q).run c.g.P w= .ok (.map (XW kv m bs).toArray ck) w:=by simp[getObj,Sem.run,hb]
 simp only[Instr.lookup,Sem.run_bind,ZX Q4,Result.andThen_ok,eF];simp only[Sem.run_pure,Result.andThen_ok,wW gV hk.plain,Instr.findKey,Sem.run_bind,ZX gV,h1];cases res with
 | none=>
  have:XC a m=none:=by simpa using h2.symm
  rw[this];cases ok<;>simp[zeroValue,typeInfo,hi,hz]
 | some p=>
  have:XC a m=some p.2:=by simpa using h2.symm
  rw[this];cases ok<;>simp
theorem eQA (ho:o.op= .lookup t x y false)(hr:QU c.g.tys t=some r)(hd:r.d= .map ke e)(bH:QU c.g.tys ke=some rk)(X8:QU c.g.tys e=some re)(hk:KeyV rk.d kv)
  (hx:S.ev x=some (.map (some q))) (hy:S.ev y=some (kv a)) (hm:MapAt kv w q m) (k:Xh c S o.dst (.v ((XC a m).getD re.z)) (λS=>K S w)):Zc c o S w K Q:=by
 refine JG (w':=w) (v:=(XC a m).getD re.z) (λb hf=>?_) k;have e1:=hf.ev hx;have e2:=hf.ev hy;have:=GP (w:=w) (a:=a) hg hr hd bH X8 hk hm false;simp only[execOp,ho,e1,e2];simp only[Sem.run_bind,this,Result.andThen_ok];cases XC a m<;>simp
theorem eQB (ho:o.op= .lookup t x y true)(hr:QU c.g.tys t=some r)(hd:r.d= .map ke e)(bH:QU c.g.tys ke=some rk)(X8:QU c.g.tys e=some re)(hk:KeyV rk.d kv)
  (hx:S.ev x=some (.map (some q))) (hy:S.ev y=some (kv a)) (hm:MapAt kv w q m) (k:Xh c S o.dst (.v (.tuple #[(XC a m).getD re.z,.bool (XC a m).isSome])) (λS=>K S w)):Zc c o S w K Q:=by
 refine JG (w':=w) (v:=.tuple #[(XC a m).getD re.z,.bool (XC a m).isSome]) (λb hf=>?_) k;have e1:=hf.ev hx;have e2:=hf.ev hy;have:=GP (w:=w) (a:=a) hg hr hd bH X8 hk hm true;simp only[execOp,ho,e1,e2];simp only[Sem.run_bind,this,Result.andThen_ok];cases XC a m<;>simp
theorem lh {v:Value}{z:Operand}(ho:o.op= .mapUpdate t x y z)(jo:o.dst=none)(hr:QU c.g.tys t=some r)(hd:r.d= .map ke e)(bH:QU c.g.tys ke=some rk)(hk:KeyV rk.d kv)
  (hx:S.ev x=some (.map (some q))) (hy:S.ev y=some (kv a)) (hz:S.ev z=some v) (hm:MapAt kv w q m)
  (k:∀w1,w.grownBy w1 (some q)->w1.heap.size=w.heap.size->MapAt kv w1 q (Zg a v m)->K S w1):Zc c o S w K Q:=by
 have Q4:=(hg.row hr).1;rw[hd] at Q4;have gV:=(hg.row bH).1;obtain⟨bs,ck,hl,hb⟩:=hm.ex;have Xe:q<w.heap.size:=(f9.1 hb).1;obtain⟨res,h1,h2,h3,h4⟩:=GO hk a m bs 0 hl;have eF:(getObj q).run c.g.P w= .ok (.map (XW kv m bs).toArray ck) w:=by simp[getObj,Sem.run,hb]
 have fO:∀ob,(setObj q ob).run c.g.P w= .ok () {w with heap:=w.heap.setIfInBounds q ob}:=λob=>by simp[setObj,Sem.run,hb]
 have main:∃ob,(Instr.mapUpdate t (.map (some q)) (kv a) v).run c.g.P w= .ok () {w with heap:=w.heap.setIfInBounds q ob}/\∃ah ck',ah.length=(Zg a v m).length/\ob= .map (XW kv (Zg a v m) ah).toArray ck':=by
  cases res with
  | none=>
   refine⟨_,?_,bs++ [ck],ck+1,?_,rfl⟩
   ·simp only[Instr.mapUpdate,Sem.run_bind,ZX Q4,Result.andThen_ok,eF,wW gV hk.plain,Instr.findKey,ZX gV,h1,Sem.run_pure,fO];rw[h4 rfl v];congr 4;simp only[XW];rw[List.zip_append hl.symm,be];simp
   ·rw[h4 rfl v];simp[hl]
  | some p=>
   obtain⟨j,u⟩:=p;obtain⟨_,hj,h7⟩:=h3 j u rfl;obtain⟨h8,h9⟩:=h7 v;simp only[Nat.sub_zero] at h8 h9;have OH:(((XW kv m bs).toArray[j]?).map (·.key)).getD (kv a)=kv a:=by
    rw[show(XW kv m bs).toArray[j]? =(XW kv m bs)[j]? from by simp,h9]<;>rfl
   refine⟨_,?_,bs,ck,?_,rfl⟩
   ·simp only[Instr.mapUpdate,Sem.run_bind,ZX Q4,Result.andThen_ok,eF,wW gV hk.plain,Instr.findKey,ZX gV,h1,Sem.run_pure,OH,Instr.keyThatStays,hk.bits,if_true,fO];rw[h8];congr 4;simp
   ·have:=QD List.length h8;simp only[XW,JR,List.length_zip,List.length_modify] at this;have Q0:(Zg a v m).length=m.length:=by
     have pK:∀(m:List (α×Value)),(XC a m).isSome->(Zg a v m).length=m.length:=by
      intro m;induction m with
      | nil=>intro h;simp[XC] at h
      | cons p m ih=>
       obtain⟨b,x⟩:=p;intro h;simp only[Zg];split
       ·simp
       ·rename_i Yx;simp[ih (by simpa [XC,Yx] using h)]
     exact pK m (by rw[<-h2];rfl)
    rw[Q0,hl]
 obtain⟨ob,Jg,ah,ck',dv,rfl⟩:=main;unfold Zc;intro b hf;have e1:=hf.ev hx;have e2:=hf.ev hy;have e3:=hf.ev hz;unfold Oper.wp;have:(execOp b.eval o).run c.g.P w= .ok .skip {w with heap:=w.heap.setIfInBounds q (.map (XW kv (Zg a v m) ah).toArray ck')}:=by
  simp only[execOp,ho,e1,e2,e3];simp[Jg]
 rw[this];refine⟨S,by rw[jo];simpa [Act.put] using hf,k _ ⟨rfl,rfl,rfl,by simp,λi _ hi=>?_⟩ (by simp) ⟨ah,ck',dv,?_⟩⟩
 ·simp only[F8];rw[if_neg (λe=>hi (by rw[e]))]
 ·simp[Xe]
end
end
noncomputable section
def gx:Gx where
 P:=Tryz.prog
 tys:=[
  ⟨1,.func #[] #[] false,1,8,.nilFunc⟩,
  ⟨3,.int .i64,1,8,.int .i64 0⟩,
  ⟨4,.bool,1,1,.bool false⟩,
  ⟨5,.int .u8,1,1,.int .u8 0⟩,
  ⟨9,.string,1,16,.string ByteArray.empty⟩,
  ⟨20,.interface #[],1,16,.nilIface⟩,
  ⟨21,.int .i32,1,4,.int .i32 0⟩,
  ⟨22,.slice 83,1,24,.slice none 0 0⟩,
  ⟨23,.slice 89,1,24,.slice none 0 0⟩,
  ⟨25,.struct #[⟨ "Family",5,0,false,"","",0⟩,⟨ "Lines",22,1,false,"","",8⟩,⟨ "Edits",23,2,false,"","",32⟩],3,56,.agg #[.int .u8 0,.slice none 0 0,.slice none 0 0]⟩,
  ⟨28,.slice 58,1,24,.slice none 0 0⟩,
  ⟨30,.slice 105,1,24,.slice none 0 0⟩,
  ⟨32,.struct #[⟨ "Nodes",30,0,false,"","",0⟩,⟨ "Root",3,1,false,"","",24⟩],2,32,.agg #[.slice none 0 0,.int .i64 0]⟩,
  ⟨34,.int .i64,1,8,.int .i64 0⟩,
  ⟨37,.slice 9,1,24,.slice none 0 0⟩,
  ⟨39,.slice 48,1,24,.slice none 0 0⟩,
  ⟨41,.struct #[⟨ "Text",9,0,false,"","",0⟩,⟨ "Segments",39,1,false,"","",16⟩],2,40,.agg #[.string ByteArray.empty,.slice none 0 0]⟩,
  ⟨44,.int .u64,1,8,.int .u64 0⟩,
  ⟨45,.int .u64,1,8,.int .u64 0⟩,
  ⟨48,.struct #[⟨ "From",3,0,false,"","",0⟩,⟨ "To",3,1,false,"","",8⟩,⟨ "File",3,2,false,"","",16⟩,⟨ "At",3,3,false,"","",24⟩,⟨ "If",32,4,false,"","",32⟩],6,64,.agg #[.int .i64 0,.int .i64 0,.int .i64 0,.int .i64 0,.slice none 0 0,.int .i64 0]⟩,
  ⟨54,.slice 56,1,24,.slice none 0 0⟩,
  ⟨56,.struct #[⟨ "If",32,0,false,"","",0⟩,⟨ "Text",9,2,false,"","",32⟩],3,48,.agg #[.slice none 0 0,.int .i64 0,.string ByteArray.empty]⟩,
  ⟨58,.struct #[⟨ "From",3,0,false,"","",0⟩,⟨ "To",3,1,false,"","",8⟩,⟨ "Text",9,2,false,"","",16⟩,⟨ "If",32,3,false,"","",32⟩],5,64,.agg #[.int .i64 0,.int .i64 0,.string ByteArray.empty,.slice none 0 0,.int .i64 0]⟩,
  ⟨62,.slice 5,1,24,.slice none 0 0⟩,
  ⟨63,.slice 62,1,24,.slice none 0 0⟩,
  ⟨65,.struct #[⟨ "Family",5,0,false,"","",0⟩,⟨ "Class",62,1,false,"","",8⟩,⟨ "Texts",63,2,false,"","",32⟩],3,56,.agg #[.int .u8 0,.slice none 0 0,.slice none 0 0]⟩,
  ⟨74,.func #[9] #[4] false,1,8,.nilFunc⟩,
  ⟨83,.struct #[⟨ "Kind",5,0,false,"","",0⟩,⟨ "If",5,1,false,"","",1⟩,⟨ "Words",62,2,false,"","",8⟩],3,32,.agg #[.int .u8 0,.int .u8 0,.slice none 0 0]⟩,
  ⟨85,.struct #[⟨ "Name",9,0,false,"","",0⟩,⟨ "Text",9,1,false,"","",16⟩],2,32,.agg #[.string ByteArray.empty,.string ByteArray.empty]⟩,
  ⟨86,.slice 85,1,24,.slice none 0 0⟩,
  ⟨89,.struct #[⟨ "Line",5,0,false,"","",0⟩,⟨ "From",5,1,false,"","",1⟩,⟨ "To",5,2,false,"","",2⟩,⟨ "Text",5,3,false,"","",3⟩,⟨ "If",5,4,false,"","",4⟩],5,5,.agg #[.int .u8 0,.int .u8 0,.int .u8 0,.int .u8 0,.int .u8 0]⟩,
  ⟨93,.struct #[⟨ "E",34,0,false,"","",0⟩,⟨ "File",3,1,false,"","",8⟩,⟨ "Line",3,2,false,"","",16⟩],3,24,.agg #[.int .i64 0,.int .i64 0,.int .i64 0]⟩,
  ⟨97,.pointer 99,1,8,.pointer none⟩,
  ⟨99,.struct #[⟨ "names",37,0,false,"","koine/patch",0⟩,⟨ "family",32,1,false,"","koine/patch",24⟩,⟨ "text",9,3,false,"","koine/patch",56⟩,⟨ "edits",28,4,false,"","koine/patch",72⟩],5,96,.agg #[.slice none 0 0,.slice none 0 0,.int .i64 0,.string ByteArray.empty,.slice none 0 0]⟩,
  ⟨105,.struct #[⟨ "Var",3,0,false,"","",0⟩,⟨ "Low",3,1,false,"","",8⟩,⟨ "High",3,2,false,"","",16⟩],3,24,.agg #[.int .i64 0,.int .i64 0,.int .i64 0]⟩,
  ⟨107,.pointer 109,1,8,.pointer none⟩,
  ⟨109,.struct #[⟨ "addr",107,0,false,"","strings",0⟩,⟨ "buf",62,1,false,"","strings",8⟩],2,32,.agg #[.pointer none,.slice none 0 0]⟩,
  ⟨112,.interface #[("Error",115)],1,16,.nilIface⟩,
  ⟨121,.int .u64,1,8,.int .u64 0⟩,
  ⟨122,.slice 45,1,24,.slice none 0 0⟩,
  ⟨127,.slice 3,1,24,.slice none 0 0⟩,
  ⟨129,.slice 132,1,24,.slice none 0 0⟩,
  ⟨132,.struct #[⟨ "from",3,0,false,"","koine/koineref29",0⟩,⟨ "to",3,1,false,"","koine/koineref29",8⟩,⟨ "in",32,2,false,"","koine/koineref29",16⟩],4,48,.agg #[.int .i64 0,.int .i64 0,.slice none 0 0,.int .i64 0]⟩,
  ⟨139,.func #[4,4] #[4] false,1,8,.nilFunc⟩,
  ⟨143,.slice 219,1,24,.slice none 0 0⟩,
  ⟨149,.slice 280,1,24,.slice none 0 0⟩,
  ⟨153,.pointer 157,1,8,.pointer none⟩,
  ⟨154,.map 9 3,1,8,.map none⟩,
  ⟨155,.map 3 4,1,8,.map none⟩,
  ⟨157,.struct #[⟨ "names",37,0,false,"","koine/source",0⟩,⟨ "files",86,1,false,"","koine/source",24⟩,⟨ "numbers",154,2,false,"","koine/source",48⟩,⟨ "reading",155,3,false,"","koine/source",56⟩,⟨ "depth",3,4,false,"","koine/source",64⟩,⟨ "text",109,5,false,"","koine/source",72⟩,⟨ "out",39,7,false,"","koine/source",104⟩,⟨ "fresh",4,8,false,"","koine/source",128⟩,⟨ "file",3,9,false,"","koine/source",136⟩,⟨ "line",3,10,false,"","koine/source",144⟩],11,152,.agg #[.slice none 0 0,.slice none 0 0,.map none,.map none,.int .i64 0,.pointer none,.slice none 0 0,.slice none 0 0,.bool false,.int .i64 0,.int .i64 0]⟩,
  ⟨160,.struct #[⟨ "place",93,0,false,"","koine/source",0⟩],3,24,.agg #[.int .i64 0,.int .i64 0,.int .i64 0]⟩,
  ⟨166,.struct #[⟨ "in",32,0,false,"","koine/patch",0⟩,⟨ "done",9,2,false,"","koine/patch",32⟩,⟨ "at",3,3,false,"","koine/patch",48⟩],4,56,.agg #[.slice none 0 0,.int .i64 0,.string ByteArray.empty,.int .i64 0]⟩,
  ⟨167,.slice 166,1,24,.slice none 0 0⟩,
  ⟨169,.func #[56] #[4] false,1,8,.nilFunc⟩,
  ⟨172,.map 105 4,1,8,.map none⟩,
  ⟨174,.pointer 177,1,8,.pointer none⟩,
  ⟨175,.map 105 3,1,8,.map none⟩,
  ⟨177,.struct #[⟨ "nodes",30,0,false,"","koine/diagram",0⟩,⟨ "known",175,1,false,"","koine/diagram",24⟩],2,32,.agg #[.slice none 0 0,.map none]⟩,
  ⟨179,.pointer 5,1,8,.pointer none⟩,
  ⟨180,.pointer 183,1,8,.pointer none⟩,
  ⟨181,.slice 242,1,24,.slice none 0 0⟩,
  ⟨183,.struct #[⟨ "a",32,0,false,"","koine/koineref02",0⟩,⟨ "b",32,2,false,"","koine/koineref02",32⟩,⟨ "op",3,4,false,"","koine/koineref02",64⟩,⟨ "nodes",30,5,false,"","koine/koineref02",72⟩,⟨ "seen",181,6,false,"","koine/koineref02",96⟩],7,120,.agg #[.slice none 0 0,.int .i64 0,.slice none 0 0,.int .i64 0,.int .i64 0,.slice none 0 0,.slice none 0 0]⟩,
  ⟨187,.func #[105] #[4] false,1,8,.nilFunc⟩,
  ⟨192,.func #[32,3] #[37] false,1,8,.nilFunc⟩,
  ⟨197,.slice 32,1,24,.slice none 0 0⟩,
  ⟨199,.pointer 201,1,8,.pointer none⟩,
  ⟨201,.struct #[⟨ "names",37,0,false,"","koine/koineref07",0⟩,⟨ "files",86,1,false,"","koine/koineref07",24⟩,⟨ "depth",3,2,false,"","koine/koineref07",48⟩,⟨ "reading",127,3,false,"","koine/koineref07",56⟩,⟨ "out",41,4,false,"","koine/koineref07",80⟩,⟨ "fresh",4,6,false,"","koine/koineref07",120⟩,⟨ "bad",93,7,false,"","koine/koineref07",128⟩],10,152,.agg #[.slice none 0 0,.slice none 0 0,.int .i64 0,.slice none 0 0,.string ByteArray.empty,.slice none 0 0,.bool false,.int .i64 0,.int .i64 0,.int .i64 0]⟩,
  ⟨204,.array 3 32,6,96,.agg #[.slice none 0 0,.int .i64 0,.slice none 0 0,.int .i64 0,.slice none 0 0,.int .i64 0]⟩,
  ⟨205,.func #[4,4,4] #[4] false,1,8,.nilFunc⟩,
  ⟨206,.slice 4,1,24,.slice none 0 0⟩,
  ⟨213,.slice 143,1,24,.slice none 0 0⟩,
  ⟨215,.func #[3] #[3] false,1,8,.nilFunc⟩,
  ⟨217,.func #[3,3] #[143,34] false,1,8,.nilFunc⟩,
  ⟨219,.int .u32,1,4,.int .u32 0⟩,
  ⟨220,.pointer 222,1,8,.pointer none⟩,
  ⟨222,.struct #[⟨ "names",154,0,false,"","koine/formula",0⟩,⟨ "rest",9,1,false,"","koine/formula",8⟩,⟨ "f",149,2,false,"","koine/formula",24⟩,⟨ "unknown",4,3,false,"","koine/formula",48⟩],4,56,.agg #[.map none,.string ByteArray.empty,.slice none 0 0,.bool false]⟩,
  ⟨223,.func #[] #[3] false,1,8,.nilFunc⟩,
  ⟨224,.map 9 4,1,8,.map none⟩,
  ⟨225,.slice 232,1,24,.slice none 0 0⟩,
  ⟨232,.struct #[⟨ "outer",32,0,false,"","koine/source",0⟩,⟨ "rest",32,2,false,"","koine/source",32⟩,⟨ "other",4,4,false,"","koine/source",64⟩,⟨ "line",3,5,false,"","koine/source",72⟩],6,80,.agg #[.slice none 0 0,.int .i64 0,.slice none 0 0,.int .i64 0,.bool false,.int .i64 0]⟩,
  ⟨233,.pointer 232,1,8,.pointer none⟩,
  ⟨238,.map 3 3,1,8,.map none⟩,
  ⟨240,.unsafePointer,1,8,.pointer none⟩,
  ⟨242,.array 3 3,3,24,.agg #[.int .i64 0,.int .i64 0,.int .i64 0]⟩,
  ⟨247,.pointer 249,1,8,.pointer none⟩,
  ⟨249,.struct #[⟨ "nodes",30,0,false,"","koine/koineref02",0⟩,⟨ "number",127,1,false,"","koine/koineref02",24⟩,⟨ "out",30,2,false,"","koine/koineref02",48⟩],3,72,.agg #[.slice none 0 0,.slice none 0 0,.slice none 0 0]⟩,
  ⟨251,.map 253 4,1,8,.map none⟩,
  ⟨252,.func #[3,3] #[4] false,1,8,.nilFunc⟩,
  ⟨253,.array 2 3,2,16,.agg #[.int .i64 0,.int .i64 0]⟩,
  ⟨259,.array 2 122,2,48,.agg #[.slice none 0 0,.slice none 0 0]⟩,
  ⟨260,.array 2 37,2,48,.agg #[.slice none 0 0,.slice none 0 0]⟩,
  ⟨261,.slice 266,1,24,.slice none 0 0⟩,
  ⟨266,.struct #[⟨ "outer",32,0,false,"","koine/koineref07",0⟩,⟨ "rest",32,2,false,"","koine/koineref07",32⟩,⟨ "other",4,4,false,"","koine/koineref07",64⟩,⟨ "line",3,5,false,"","koine/koineref07",72⟩],6,80,.agg #[.slice none 0 0,.int .i64 0,.slice none 0 0,.int .i64 0,.bool false,.int .i64 0]⟩,
  ⟨272,.map 242 3,1,8,.map none⟩,
  ⟨273,.func #[242] #[3] false,1,8,.nilFunc⟩,
  ⟨275,.pointer 277,1,8,.pointer none⟩,
  ⟨277,.struct #[⟨ "d",32,0,false,"","koine/formula",0⟩,⟨ "f",149,2,false,"","koine/formula",32⟩],3,56,.agg #[.slice none 0 0,.int .i64 0,.slice none 0 0]⟩,
  ⟨280,.struct #[⟨ "Op",3,0,false,"","",0⟩,⟨ "Var",3,1,false,"","",8⟩,⟨ "A",3,2,false,"","",16⟩,⟨ "B",3,3,false,"","",24⟩],4,32,.agg #[.int .i64 0,.int .i64 0,.int .i64 0,.int .i64 0]⟩,
  ⟨294,.func #[21] #[4] false,1,8,.nilFunc⟩,
  ⟨297,.array 512 4,512,512,.agg (Array.replicate 512 (.bool false))⟩,
  ⟨302,.array 256 4,256,256,.agg (Array.replicate 256 (.bool false))⟩,
  ⟨306,.pointer 302,1,8,.pointer none⟩,
  ⟨312,.pointer 314,1,8,.pointer none⟩,
  ⟨314,.struct #[⟨ "names",37,0,false,"","koine/koineref03",0⟩,⟨ "l",37,1,false,"","koine/koineref03",24⟩,⟨ "at",3,2,false,"","koine/koineref03",48⟩,⟨ "f",149,3,false,"","koine/koineref03",56⟩,⟨ "bad",4,4,false,"","koine/koineref03",80⟩,⟨ "unknown",4,5,false,"","koine/koineref03",81⟩],6,88,.agg #[.slice none 0 0,.slice none 0 0,.int .i64 0,.slice none 0 0,.bool false,.bool false]⟩,
  ⟨322,.array 256 5,256,256,.agg (Array.replicate 256 (.int .u8 0))⟩,
  ⟨324,.struct #[⟨ "lo",5,0,false,"","unicode/utf8",0⟩,⟨ "hi",5,1,false,"","unicode/utf8",1⟩],2,2,.agg #[.int .u8 0,.int .u8 0]⟩,
  ⟨325,.array 16 324,32,32,.agg (Array.replicate 32 (.int .u8 0))⟩]
 fns:=[3,4,5,6,7,8,9,10,11,12,13,14,15,16,17,18,19,20,21,22,23,24,25,26,27,28,29,30,31,32,33,34,35,36,37,38,39,40,41,42,43,44,45,46,47,48,49,50,51,52,53,54,55,56,57,58,59,60,61,62,63,64,65,66,67,68,69,70,71,72,73,74,75,76,77,78,79,80,81,82,83,84,85,86,87,88,89,90,91,92,93,94,95,96,97,98,99,100,101,102,103,104,105,106,107,108,109,110,111,112,113,114,115,116,117,118,119,120,121,122,123,124,125,126,127,128,129,130,131,132,133,134,135,136,137,138,139,140,141,142,143,144,145,146,147,148,149,150,151,152,153,154,155,156,157,158,160,161,162,163,164,165,166,167,168,169,170,171,172,173,174,175,176,177,178,179,180,181,182,183,184,185,186,187,188,189,190,191,192,193,194,195,196,197,198,199,200,201,202,203,204,205,206,208,209,210,211,212,213,214,215,216,217,218,219,220,221,222,223,224,225,226,227,228,229,230,231,232,233,235,237,238,239,240,241,242,243,244,245,246,248,249,250,251,252,253,254,255,256,257,258,259,260,261]
 ms:=[]
 eqs:=[⟨105,[0,0,0]⟩,⟨280,[0,0,0,0]⟩]
theorem eQC:Bs Tryz.prog gx.tys:=by
 refine⟨⟨?_,?_⟩,⟨?_,?_⟩,⟨?_,?_⟩,⟨?_,?_⟩,⟨?_,?_⟩,⟨?_,?_⟩,⟨?_,?_⟩,⟨?_,?_⟩,⟨?_,?_⟩,⟨?_,?_⟩,⟨?_,?_⟩,⟨?_,?_⟩,⟨?_,?_⟩,⟨?_,?_⟩,⟨?_,?_⟩,⟨?_,?_⟩,⟨?_,?_⟩,⟨?_,?_⟩,⟨?_,?_⟩,⟨?_,?_⟩,⟨?_,?_⟩,⟨?_,?_⟩,⟨?_,?_⟩,⟨?_,?_⟩,⟨?_,?_⟩,⟨?_,?_⟩,⟨?_,?_⟩,⟨?_,?_⟩,⟨?_,?_⟩,⟨?_,?_⟩,⟨?_,?_⟩,⟨?_,?_⟩,⟨?_,?_⟩,⟨?_,?_⟩,⟨?_,?_⟩,⟨?_,?_⟩,⟨?_,?_⟩,⟨?_,?_⟩,⟨?_,?_⟩,⟨?_,?_⟩,⟨?_,?_⟩,⟨?_,?_⟩,⟨?_,?_⟩,⟨?_,?_⟩,⟨?_,?_⟩,⟨?_,?_⟩,⟨?_,?_⟩,⟨?_,?_⟩,⟨?_,?_⟩,⟨?_,?_⟩,⟨?_,?_⟩,⟨?_,?_⟩,⟨?_,?_⟩,⟨?_,?_⟩,⟨?_,?_⟩,⟨?_,?_⟩,⟨?_,?_⟩,⟨?_,?_⟩,⟨?_,?_⟩,⟨?_,?_⟩,⟨?_,?_⟩,⟨?_,?_⟩,⟨?_,?_⟩,⟨?_,?_⟩,⟨?_,?_⟩,⟨?_,?_⟩,⟨?_,?_⟩,⟨?_,?_⟩,⟨?_,?_⟩,⟨?_,?_⟩,⟨?_,?_⟩,⟨?_,?_⟩,⟨?_,?_⟩,⟨?_,?_⟩,⟨?_,?_⟩,⟨?_,?_⟩,⟨?_,?_⟩,⟨?_,?_⟩,⟨?_,?_⟩,⟨?_,?_⟩,⟨?_,?_⟩,⟨?_,?_⟩,⟨?_,?_⟩,⟨?_,?_⟩,⟨?_,?_⟩,⟨?_,?_⟩,⟨?_,?_⟩,⟨?_,?_⟩,⟨?_,?_⟩,⟨?_,?_⟩,⟨?_,?_⟩,⟨?_,?_⟩,⟨?_,?_⟩,⟨?_,?_⟩,⟨?_,?_⟩,⟨?_,?_⟩,⟨?_,?_⟩,⟨?_,?_⟩,⟨?_,?_⟩,⟨?_,?_⟩,⟨?_,?_⟩,⟨?_,?_⟩,⟨?_,?_⟩,⟨?_,?_⟩,⟨?_,?_⟩,⟨?_,?_⟩,⟨?_,?_⟩,trivial⟩<;>kernel_rfl
set_option maxRecDepth 100000 in
theorem eQD:Bt Tryz.prog gx.fns:=by
 refine⟨⟨_,Tryz.func3,?_,?_⟩,⟨_,Tryz.func4,?_,?_⟩,⟨_,Tryz.func5,?_,?_⟩,⟨_,Tryz.func6,?_,?_⟩,⟨_,Tryz.func7,?_,?_⟩,⟨_,Tryz.func8,?_,?_⟩,⟨_,Tryz.func9,?_,?_⟩,⟨_,Tryz.func10,?_,?_⟩,⟨_,Tryz.func11,?_,?_⟩,⟨_,Tryz.func12,?_,?_⟩,⟨_,Tryz.func13,?_,?_⟩,⟨_,Tryz.func14,?_,?_⟩,⟨_,Tryz.func15,?_,?_⟩,⟨_,Tryz.func16,?_,?_⟩,⟨_,Tryz.func17,?_,?_⟩,⟨_,Tryz.func18,?_,?_⟩,⟨_,Tryz.func19,?_,?_⟩,⟨_,Tryz.func20,?_,?_⟩,⟨_,Tryz.func21,?_,?_⟩,⟨_,Tryz.func22,?_,?_⟩,⟨_,Tryz.func23,?_,?_⟩,⟨_,Tryz.func24,?_,?_⟩,⟨_,Tryz.func25,?_,?_⟩,⟨_,Tryz.func26,?_,?_⟩,⟨_,Tryz.func27,?_,?_⟩,⟨_,Tryz.func28,?_,?_⟩,⟨_,Tryz.func29,?_,?_⟩,⟨_,Tryz.func30,?_,?_⟩,⟨_,Tryz.func31,?_,?_⟩,⟨_,Tryz.func32,?_,?_⟩,⟨_,Tryz.func33,?_,?_⟩,⟨_,Tryz.func34,?_,?_⟩,⟨_,Tryz.func35,?_,?_⟩,⟨_,Tryz.func36,?_,?_⟩,⟨_,Tryz.func37,?_,?_⟩,⟨_,Tryz.func38,?_,?_⟩,⟨_,Tryz.func39,?_,?_⟩,⟨_,Tryz.func40,?_,?_⟩,⟨_,Tryz.func41,?_,?_⟩,⟨_,Tryz.func42,?_,?_⟩,⟨_,Tryz.func43,?_,?_⟩,⟨_,Tryz.func44,?_,?_⟩,⟨_,Tryz.func45,?_,?_⟩,⟨_,Tryz.func46,?_,?_⟩,⟨_,Tryz.func47,?_,?_⟩,⟨_,Tryz.func48,?_,?_⟩,⟨_,Tryz.func49,?_,?_⟩,⟨_,Tryz.func50,?_,?_⟩,⟨_,Tryz.func51,?_,?_⟩,⟨_,Tryz.func52,?_,?_⟩,⟨_,Tryz.func53,?_,?_⟩,⟨_,Tryz.func54,?_,?_⟩,⟨_,Tryz.func55,?_,?_⟩,⟨_,Tryz.func56,?_,?_⟩,⟨_,Tryz.func57,?_,?_⟩,⟨_,Tryz.func58,?_,?_⟩,⟨_,Tryz.func59,?_,?_⟩,⟨_,Tryz.func60,?_,?_⟩,⟨_,Tryz.func61,?_,?_⟩,⟨_,Tryz.func62,?_,?_⟩,⟨_,Tryz.func63,?_,?_⟩,⟨_,Tryz.func64,?_,?_⟩,⟨_,Tryz.func65,?_,?_⟩,⟨_,Tryz.func66,?_,?_⟩,⟨_,Tryz.func67,?_,?_⟩,⟨_,Tryz.func68,?_,?_⟩,⟨_,Tryz.func69,?_,?_⟩,⟨_,Tryz.func70,?_,?_⟩,⟨_,Tryz.func71,?_,?_⟩,⟨_,Tryz.func72,?_,?_⟩,⟨_,Tryz.func73,?_,?_⟩,⟨_,Tryz.func74,?_,?_⟩,⟨_,Tryz.func75,?_,?_⟩,⟨_,Tryz.func76,?_,?_⟩,⟨_,Tryz.func77,?_,?_⟩,⟨_,Tryz.func78,?_,?_⟩,⟨_,Tryz.func79,?_,?_⟩,⟨_,Tryz.func80,?_,?_⟩,⟨_,Tryz.func81,?_,?_⟩,⟨_,Tryz.func82,?_,?_⟩,⟨_,Tryz.func83,?_,?_⟩,⟨_,Tryz.func84,?_,?_⟩,⟨_,Tryz.func85,?_,?_⟩,⟨_,Tryz.func86,?_,?_⟩,⟨_,Tryz.func87,?_,?_⟩,⟨_,Tryz.func88,?_,?_⟩,⟨_,Tryz.func89,?_,?_⟩,⟨_,Tryz.func90,?_,?_⟩,⟨_,Tryz.func91,?_,?_⟩,⟨_,Tryz.func92,?_,?_⟩,⟨_,Tryz.func93,?_,?_⟩,⟨_,Tryz.func94,?_,?_⟩,⟨_,Tryz.func95,?_,?_⟩,⟨_,Tryz.func96,?_,?_⟩,⟨_,Tryz.func97,?_,?_⟩,⟨_,Tryz.func98,?_,?_⟩,⟨_,Tryz.func99,?_,?_⟩,⟨_,Tryz.func100,?_,?_⟩,⟨_,Tryz.func101,?_,?_⟩,⟨_,Tryz.func102,?_,?_⟩,⟨_,Tryz.func103,?_,?_⟩,⟨_,Tryz.func104,?_,?_⟩,⟨_,Tryz.func105,?_,?_⟩,⟨_,Tryz.func106,?_,?_⟩,⟨_,Tryz.func107,?_,?_⟩,⟨_,Tryz.func108,?_,?_⟩,⟨_,Tryz.func109,?_,?_⟩,⟨_,Tryz.func110,?_,?_⟩,⟨_,Tryz.func111,?_,?_⟩,⟨_,Tryz.func112,?_,?_⟩,⟨_,Tryz.func113,?_,?_⟩,⟨_,Tryz.func114,?_,?_⟩,⟨_,Tryz.func115,?_,?_⟩,⟨_,Tryz.func116,?_,?_⟩,⟨_,Tryz.func117,?_,?_⟩,⟨_,Tryz.func118,?_,?_⟩,⟨_,Tryz.func119,?_,?_⟩,⟨_,Tryz.func120,?_,?_⟩,⟨_,Tryz.func121,?_,?_⟩,⟨_,Tryz.func122,?_,?_⟩,⟨_,Tryz.func123,?_,?_⟩,⟨_,Tryz.func124,?_,?_⟩,⟨_,Tryz.func125,?_,?_⟩,⟨_,Tryz.func126,?_,?_⟩,⟨_,Tryz.func127,?_,?_⟩,⟨_,Tryz.func128,?_,?_⟩,⟨_,Tryz.func129,?_,?_⟩,⟨_,Tryz.func130,?_,?_⟩,⟨_,Tryz.func131,?_,?_⟩,⟨_,Tryz.func132,?_,?_⟩,⟨_,Tryz.func133,?_,?_⟩,⟨_,Tryz.func134,?_,?_⟩,⟨_,Tryz.func135,?_,?_⟩,⟨_,Tryz.func136,?_,?_⟩,⟨_,Tryz.func137,?_,?_⟩,⟨_,Tryz.func138,?_,?_⟩,⟨_,Tryz.func139,?_,?_⟩,⟨_,Tryz.func140,?_,?_⟩,⟨_,Tryz.func141,?_,?_⟩,⟨_,Tryz.func142,?_,?_⟩,⟨_,Tryz.func143,?_,?_⟩,⟨_,Tryz.func144,?_,?_⟩,⟨_,Tryz.func145,?_,?_⟩,⟨_,Tryz.func146,?_,?_⟩,⟨_,Tryz.func147,?_,?_⟩,⟨_,Tryz.func148,?_,?_⟩,⟨_,Tryz.func149,?_,?_⟩,⟨_,Tryz.func150,?_,?_⟩,⟨_,Tryz.func151,?_,?_⟩,⟨_,Tryz.func152,?_,?_⟩,⟨_,Tryz.func153,?_,?_⟩,⟨_,Tryz.func154,?_,?_⟩,⟨_,Tryz.func155,?_,?_⟩,⟨_,Tryz.func156,?_,?_⟩,⟨_,Tryz.func157,?_,?_⟩,⟨_,Tryz.func158,?_,?_⟩,⟨_,Tryz.func160,?_,?_⟩,⟨_,Tryz.func161,?_,?_⟩,⟨_,Tryz.func162,?_,?_⟩,⟨_,Tryz.func163,?_,?_⟩,⟨_,Tryz.func164,?_,?_⟩,⟨_,Tryz.func165,?_,?_⟩,⟨_,Tryz.func166,?_,?_⟩,⟨_,Tryz.func167,?_,?_⟩,⟨_,Tryz.func168,?_,?_⟩,⟨_,Tryz.func169,?_,?_⟩,⟨_,Tryz.func170,?_,?_⟩,⟨_,Tryz.func171,?_,?_⟩,⟨_,Tryz.func172,?_,?_⟩,⟨_,Tryz.func173,?_,?_⟩,⟨_,Tryz.func174,?_,?_⟩,⟨_,Tryz.func175,?_,?_⟩,⟨_,Tryz.func176,?_,?_⟩,⟨_,Tryz.func177,?_,?_⟩,⟨_,Tryz.func178,?_,?_⟩,⟨_,Tryz.func179,?_,?_⟩,⟨_,Tryz.func180,?_,?_⟩,⟨_,Tryz.func181,?_,?_⟩,⟨_,Tryz.func182,?_,?_⟩,⟨_,Tryz.func183,?_,?_⟩,⟨_,Tryz.func184,?_,?_⟩,⟨_,Tryz.func185,?_,?_⟩,⟨_,Tryz.func186,?_,?_⟩,⟨_,Tryz.func187,?_,?_⟩,⟨_,Tryz.func188,?_,?_⟩,⟨_,Tryz.func189,?_,?_⟩,⟨_,Tryz.func190,?_,?_⟩,⟨_,Tryz.func191,?_,?_⟩,⟨_,Tryz.func192,?_,?_⟩,⟨_,Tryz.func193,?_,?_⟩,⟨_,Tryz.func194,?_,?_⟩,⟨_,Tryz.func195,?_,?_⟩,⟨_,Tryz.func196,?_,?_⟩,⟨_,Tryz.func197,?_,?_⟩,⟨_,Tryz.func198,?_,?_⟩,⟨_,Tryz.func199,?_,?_⟩,⟨_,Tryz.func200,?_,?_⟩,⟨_,Tryz.func201,?_,?_⟩,⟨_,Tryz.func202,?_,?_⟩,⟨_,Tryz.func203,?_,?_⟩,⟨_,Tryz.func204,?_,?_⟩,⟨_,Tryz.func205,?_,?_⟩,⟨_,Tryz.func206,?_,?_⟩,⟨_,Tryz.func208,?_,?_⟩,⟨_,Tryz.func209,?_,?_⟩,⟨_,Tryz.func210,?_,?_⟩,⟨_,Tryz.func211,?_,?_⟩,⟨_,Tryz.func212,?_,?_⟩,⟨_,Tryz.func213,?_,?_⟩,⟨_,Tryz.func214,?_,?_⟩,⟨_,Tryz.func215,?_,?_⟩,⟨_,Tryz.func216,?_,?_⟩,⟨_,Tryz.func217,?_,?_⟩,⟨_,Tryz.func218,?_,?_⟩,⟨_,Tryz.func219,?_,?_⟩,⟨_,Tryz.func220,?_,?_⟩,⟨_,Tryz.func221,?_,?_⟩,⟨_,Tryz.func222,?_,?_⟩,⟨_,Tryz.func223,?_,?_⟩,⟨_,Tryz.func224,?_,?_⟩,⟨_,Tryz.func225,?_,?_⟩,⟨_,Tryz.func226,?_,?_⟩,⟨_,Tryz.func227,?_,?_⟩,⟨_,Tryz.func228,?_,?_⟩,⟨_,Tryz.func229,?_,?_⟩,⟨_,Tryz.func230,?_,?_⟩,⟨_,Tryz.func231,?_,?_⟩,⟨_,Tryz.func232,?_,?_⟩,⟨_,Tryz.func233,?_,?_⟩,⟨_,Tryz.func235,?_,?_⟩,⟨_,Tryz.func237,?_,?_⟩,⟨_,Tryz.func238,?_,?_⟩,⟨_,Tryz.func239,?_,?_⟩,⟨_,Tryz.func240,?_,?_⟩,⟨_,Tryz.func241,?_,?_⟩,⟨_,Tryz.func242,?_,?_⟩,⟨_,Tryz.func243,?_,?_⟩,⟨_,Tryz.func244,?_,?_⟩,⟨_,Tryz.func245,?_,?_⟩,⟨_,Tryz.func246,?_,?_⟩,⟨_,Tryz.func248,?_,?_⟩,⟨_,Tryz.func249,?_,?_⟩,⟨_,Tryz.func250,?_,?_⟩,⟨_,Tryz.func251,?_,?_⟩,⟨_,Tryz.func252,?_,?_⟩,⟨_,Tryz.func253,?_,?_⟩,⟨_,Tryz.func254,?_,?_⟩,⟨_,Tryz.func255,?_,?_⟩,⟨_,Tryz.func256,?_,?_⟩,⟨_,Tryz.func257,?_,?_⟩,⟨_,Tryz.func258,?_,?_⟩,⟨_,Tryz.func259,?_,?_⟩,⟨_,Tryz.func260,?_,?_⟩,⟨_,Tryz.func261,?_,?_⟩,trivial⟩<;>kernel_rfl
theorem eQE:Bp Tryz.prog gx.ms:=
 trivial
theorem eQF:Bq Tryz.prog gx.eqs:=
 ⟨⟨by kernel_rfl,by kernel_rfl,by kernel_rfl⟩,
  ⟨by kernel_rfl,by kernel_rfl,by kernel_rfl⟩,trivial⟩
theorem Qa:gx.Ok:=⟨eQC,eQD,by kernel_rfl,eQE,eQF⟩
abbrev c3:Cx:=⟨gx,128,1,[1,2,3,4,5,6,7,8,9,10,11,12,13,14,15,16,17,18,19,37,58,60,66,71,83,97,126],[]⟩
abbrev c4:Cx:=⟨gx,146,2,[2,4,5,6,7,8,9,10,11,12,13,14,15,16,17,18,19,20,21,22,37,45,83,92,97,128,130,144],[]⟩
abbrev c5:Cx:=⟨gx,181,3,[3,6,7,8,9,10,11,12,13,14,15,16,19,21,25,60,72,80,87,96,101,110,115,122],[]⟩
abbrev c6:Cx:=⟨gx,137,3,[3,5,6,7,8,9,10,11,12,13,14,15,16,66],[]⟩
abbrev c7:Cx:=⟨gx,100,2,[2,4,5,6,7,8,9,10,11,12,13,14,15,23],[]⟩
abbrev c8:Cx:=⟨gx,179,1,[1,2,3,4,5,6,7,8,9,10,11,12,13,26,32,48,58,61,78,89,100,131,133,177],[]⟩
abbrev c9:Cx:=⟨gx,80,1,[1,2,3,4,5,6,7,8,9,10,19],[]⟩
abbrev tT:Cx:=⟨gx,53,2,[2,4,5,6,7,8,9,10,33,35,51],[]⟩
abbrev wX:Cx:=⟨gx,179,1,[1,3,5,7,9,11,13,14,15,16,17,18,19,21,23,25,26,27,28,30],[]⟩
abbrev c12:Cx:=⟨gx,32,1,[1,2,3,4,12,21],[]⟩
abbrev c14:Cx:=⟨gx,12,2,[2,3,9],[]⟩
abbrev c15:Cx:=⟨gx,118,5,[5,8,9,10,11,12,13,14,15,17,19,44,45,46,47,51,81,115],[]⟩
abbrev c16:Cx:=⟨gx,2,1,[],[]⟩
abbrev c17:Cx:=⟨gx,18,2,[2,3,4,5],[]⟩
abbrev c18:Cx:=⟨gx,32,2,[2,4,5,6,9,13,25],[]⟩
abbrev c19:Cx:=⟨gx,38,6,[10,16,30],[]⟩
abbrev c21:Cx:=⟨gx,29,2,[2,4,5,7,10,13,14,15,16],[]⟩
abbrev c22:Cx:=⟨gx,8,2,[2,3,4],[]⟩
abbrev c23:Cx:=⟨gx,9,2,[2,3,4],[]⟩
abbrev c24:Cx:=⟨gx,65,4,[4,6,7,8,10,16,17,18,19,46,55,59],[]⟩
abbrev c25:Cx:=⟨gx,7,2,[2],[]⟩
abbrev c28:Cx:=⟨gx,11,4,[4],[]⟩
abbrev c29:Cx:=⟨gx,6,2,[2,3],[]⟩
abbrev c30:Cx:=⟨gx,15,2,[2,3,9],[]⟩
abbrev c34:Cx:=⟨gx,15,2,[2,3,9],[]⟩
abbrev c35:Cx:=⟨gx,9,1,[1,2,3],[]⟩
abbrev c36:Cx:=⟨gx,11,2,[2,3,4,5],[]⟩
abbrev c37:Cx:=⟨gx,6,2,[2,3],[]⟩
abbrev c38:Cx:=⟨gx,42,7,[7,9,11,12],[]⟩
abbrev c39:Cx:=⟨gx,25,4,[4,6,7,8],[]⟩
abbrev c40:Cx:=⟨gx,16,7,[],[]⟩
abbrev bP:Cx:=⟨gx,11,4,[9],[]⟩
abbrev c42:Cx:=⟨gx,47,3,[3,5,6,7,8,9,24,45],[]⟩
abbrev c43:Cx:=⟨gx,81,6,[6,7,9,10,11,12,13,14,15,22,29,38,39,40,41,63],[]⟩
abbrev RI:Cx:=⟨gx,6,2,[3],[]⟩
abbrev c45:Cx:=⟨gx,107,3,[3,4,5,9,10,11,12,70,104],[]⟩
abbrev c46:Cx:=⟨gx,19,4,[12],[]⟩
abbrev c47:Cx:=⟨gx,21,5,[5,6,7,8,13],[]⟩
abbrev c48:Cx:=⟨gx,222,7,[7,8,9,11,12,13,15,16,18,19,21,22,23,25,26,27,31,32,33,34,56,64,67,68,69,70,77,78,79,80,97,105,106,107,108,111,112,113,114,124,155,163,164,165,166,185,191],[]⟩
abbrev c49:Cx:=⟨gx,11,2,[2,3,4],[]⟩
abbrev RJ:Cx:=⟨gx,22,6,[6,7,8,9,17],[]⟩
abbrev c51:Cx:=⟨gx,6,3,[],[]⟩
abbrev c52:Cx:=⟨gx,106,1,[1,2,3,4,5,6,10,13,14,15,16,63,79,94,105],[]⟩
abbrev c54:Cx:=⟨gx,83,1,[1,2,3,5,15,17,18,19,20,55,74,82],[]⟩
abbrev c55:Cx:=⟨gx,25,2,[2,4,5,7,9,10,11,12,18],[]⟩
abbrev RK:Cx:=⟨gx,19,6,[],[]⟩
abbrev RN:Cx:=⟨gx,14,3,[],[]⟩
abbrev c58:Cx:=⟨gx,26,3,[3,4,6,7,8],[]⟩
abbrev c59:Cx:=⟨gx,6,1,[1,2],[]⟩
abbrev bQ:Cx:=⟨gx,11,4,[9],[]⟩
abbrev c61:Cx:=⟨gx,15,2,[2,3,4],[]⟩
abbrev c62:Cx:=⟨gx,16,2,[2,3,4],[]⟩
abbrev c63:Cx:=⟨gx,15,3,[],[]⟩
abbrev c64:Cx:=⟨gx,12,2,[2,3,4],[]⟩
abbrev c65:Cx:=⟨gx,12,3,[3,4,5,6,7],[]⟩
abbrev c66:Cx:=⟨gx,8,2,[2,3,4],[]⟩
abbrev RO:Cx:=⟨gx,59,8,[8,9,13],[]⟩
abbrev c82:Cx:=⟨gx,26,3,[3,4,5,6,7,8,14],[]⟩
abbrev c83:Cx:=⟨gx,7,5,[],[]⟩
abbrev c84:Cx:=⟨gx,9,5,[],[]⟩
abbrev c85:Cx:=⟨gx,139,12,[12,13,14,15,25,42,73,96,108,120,133],[]⟩
abbrev c86:Cx:=⟨gx,30,3,[3,4,5,7,8,9,16,23],[]⟩
abbrev c87:Cx:=⟨gx,107,2,[2,3,4,5,6,8,9,10,11,12,13,14,15,16,17,18,19,20,24,31,33,34,35,36,42,55,56,57,58,93],[]⟩
abbrev c88:Cx:=⟨gx,31,6,[13,15,16,17],[]⟩
abbrev c89:Cx:=⟨gx,50,4,[4,5,6,7,8,15,25,32,38],[]⟩
abbrev c90:Cx:=⟨gx,87,2,[2,3,4,5,6,7,10,13,14,15,16,46,47,48,73,79],[]⟩
abbrev ay:Cx:=⟨gx,13,2,[2,3,9],[]⟩
abbrev c92:Cx:=⟨gx,230,5,[5,6,7,8,9,10,11,12,13,14,16,17,18,19,20,21,56,96,125,147,163,172,201],[]⟩
abbrev c95:Cx:=⟨gx,10,5,[],[]⟩
abbrev c96:Cx:=⟨gx,8,5,[],[]⟩
abbrev c97:Cx:=⟨gx,16,2,[2,3,4],[]⟩
abbrev c98:Cx:=⟨gx,19,6,[7,8,9,16],[]⟩
abbrev c99:Cx:=⟨gx,8,2,[2,3],[]⟩
abbrev eQG:Cx:=⟨gx,8,2,[2,4],[]⟩
abbrev eQH:Cx:=⟨gx,11,2,[2,3,4,5],[]⟩
abbrev eQI:Cx:=⟨gx,75,8,[8,10,12,13,15,22,29,39,40,41,42,49,63,64,65,66],[]⟩
abbrev eQJ:Cx:=⟨gx,14,2,[2,4,6],[]⟩
abbrev eQK:Cx:=⟨gx,17,2,[2,4,5,6,7],[]⟩
abbrev eQL:Cx:=⟨gx,17,2,[2,3,4],[]⟩
abbrev RQ:Cx:=⟨gx,20,2,[6,19],[]⟩
abbrev eQM:Cx:=⟨gx,137,17,[22,33,57],[]⟩
abbrev eQN:Cx:=⟨gx,22,4,[4,5,6],[]⟩
abbrev eQO:Cx:=⟨gx,9,5,[],[]⟩
abbrev eQP:Cx:=⟨gx,8,2,[2,3],[]⟩
abbrev eQQ:Cx:=⟨gx,18,4,[4,5,6,7,8,9,15],[]⟩
abbrev RR:Cx:=⟨gx,17,3,[3,4,5,6,7,8],[]⟩
abbrev eQR:Cx:=⟨gx,8,5,[],[]⟩
abbrev eQS:Cx:=⟨gx,9,5,[],[]⟩
abbrev eQT:Cx:=⟨gx,26,3,[3,4,5,6,7,8,15],[]⟩
abbrev eQU:Cx:=⟨gx,77,5,[5,7,9,10,11,12,13,14,15,16,17,18,24,42,50,68],[]⟩
abbrev eQV:Cx:=⟨gx,26,6,[10,12,13,14,24],[]⟩
abbrev eQW:Cx:=⟨gx,77,11,[47,66],[]⟩
abbrev eQX:Cx:=⟨gx,10,1,[1,2,3,7],[]⟩
abbrev RT:Cx:=⟨gx,25,2,[2,3,4,5,6,7],[]⟩
abbrev GQ:Cx:=⟨gx,12,8,[],[]⟩
abbrev eQY:Cx:=⟨gx,75,7,[9,39,40,44,48,54,60,68],[]⟩
abbrev eQZ:Cx:=⟨gx,43,1,[1,2,3,4,19,23,40],[]⟩
abbrev eQ0:Cx:=⟨gx,47,7,[8,9,10,11,31],[]⟩
abbrev eQ1:Cx:=⟨gx,28,1,[1,2,3,4,5,9,23],[]⟩
abbrev eQ2:Cx:=⟨gx,45,9,[9,10,17,20,21,22,23,24,36],[]⟩
abbrev eQ3:Cx:=⟨gx,16,5,[],[]⟩
abbrev eQ4:Cx:=⟨gx,10,5,[],[]⟩
abbrev eQ5:Cx:=⟨gx,34,11,[19,20,21,29],[]⟩
abbrev eQ6:Cx:=⟨gx,72,9,[16,21,32,33,34,46],[]⟩
abbrev eQ7:Cx:=⟨gx,20,3,[],[]⟩
abbrev BU:Cx:=⟨gx,17,5,[7,14],[]⟩
abbrev eQ8:Cx:=⟨gx,6,1,[1,2],[]⟩
abbrev eQ9:Cx:=⟨gx,29,7,[],[]⟩
abbrev fQa:Cx:=⟨gx,13,7,[],[]⟩
abbrev fQb:Cx:=⟨gx,32,4,[4,5,6,16,17,25],[]⟩
abbrev fQc:Cx:=⟨gx,16,2,[6],[]⟩
abbrev fQd:Cx:=⟨gx,29,4,[4,5,6,7],[]⟩
abbrev fQe:Cx:=⟨gx,56,7,[27,52],[]⟩
abbrev fQf:Cx:=⟨gx,16,4,[],[]⟩
abbrev fQg:Cx:=⟨gx,42,8,[8,9,13,25],[]⟩
abbrev fQh:Cx:=⟨gx,80,7,[7,8,31,37],[]⟩
abbrev fQi:Cx:=⟨gx,66,12,[13,15,20,36,41],[]⟩
abbrev fQj:Cx:=⟨gx,18,5,[],[]⟩
abbrev fQk:Cx:=⟨gx,9,5,[],[]⟩
abbrev fQl:Cx:=⟨gx,55,9,[9,10,11,18],[]⟩
abbrev fQm:Cx:=⟨gx,26,6,[10,12,13,14,24],[]⟩
abbrev fQn:Cx:=⟨gx,25,7,[10,11,16],[]⟩
abbrev fQo:Cx:=⟨gx,14,2,[2,4,6],[]⟩
abbrev fQp:Cx:=⟨gx,29,3,[3,6,7,12],[]⟩
abbrev fQq:Cx:=⟨gx,38,3,[3,4,5,6,11,18,26],[]⟩
abbrev fQr:Cx:=⟨gx,77,5,[5,6,7,9,19],[]⟩
abbrev fQs:Cx:=⟨gx,19,6,[7,8,9,16],[]⟩
abbrev RU:Cx:=⟨gx,67,15,[16,24,26,31],[]⟩
abbrev fQt:Cx:=⟨gx,29,3,[3,6,7,12],[]⟩
abbrev fQu:Cx:=⟨gx,21,5,[],[]⟩
abbrev fQv:Cx:=⟨gx,19,6,[7,8,9,16],[]⟩
abbrev fQw:Cx:=⟨gx,18,7,[],[]⟩
abbrev fQx:Cx:=⟨gx,64,12,[16,17,18,28,47,48,53,59],[]⟩
abbrev fQy:Cx:=⟨gx,8,3,[4],[]⟩
abbrev fQz:Cx:=⟨gx,4,1,[],[]⟩
abbrev RW:Cx:=⟨gx,97,6,[6,7,8,9,10,11,12,13,14,15,28,39,46,64,65],[]⟩
abbrev fQA:Cx:=⟨gx,54,9,[9,10,11,14,30],[]⟩
abbrev fQB:Cx:=⟨gx,13,4,[],[]⟩
abbrev fQC:Cx:=⟨gx,23,4,[7,21],[]⟩
abbrev fQD:Cx:=⟨gx,89,5,[5,6,7,17,32,42,52,62],[]⟩
abbrev fQE:Cx:=⟨gx,63,3,[3,4,5,6,8,9,17,18,19,20,21,29,36,37,38,39,44,54,55,56,61],[]⟩
abbrev fQF:Cx:=⟨gx,75,10,[10,11,21,26,48,52,56,65],[]⟩
abbrev fQG:Cx:=⟨gx,24,5,[16,20],[]⟩
abbrev RX:Cx:=⟨gx,25,11,[15],[]⟩
abbrev fQH:Cx:=⟨gx,6,2,[],[]⟩
abbrev fQI:Cx:=⟨gx,84,9,[10,18,23,32,49,50,55],[]⟩
abbrev fQJ:Cx:=⟨gx,37,5,[5,6,12,21,31],[]⟩
abbrev fQK:Cx:=⟨gx,11,6,[],[]⟩
abbrev fQL:Cx:=⟨gx,23,8,[12],[]⟩
abbrev fQM:Cx:=⟨gx,13,4,[4,6,8],[]⟩
abbrev fQN:Cx:=⟨gx,108,2,[2,3,4,5,6,7,10,15,16,17,18,23,24,34,45,59,78,98],[]⟩
abbrev fQO:Cx:=⟨gx,8,3,[],[]⟩
abbrev fQP:Cx:=⟨gx,9,1,[1,2],[]⟩
abbrev fQQ:Cx:=⟨gx,8,5,[],[]⟩
abbrev fQR:Cx:=⟨gx,79,2,[2,4,5,6,50,66,69,78],[]⟩
abbrev fQS:Cx:=⟨gx,8,5,[],[]⟩
abbrev fQT:Cx:=⟨gx,29,3,[],[]⟩
abbrev fQU:Cx:=⟨gx,27,3,[3,4,10],[]⟩
abbrev fQV:Cx:=⟨gx,39,13,[18,28],[]⟩
abbrev fQW:Cx:=⟨gx,69,2,[2,4,5,6,11,12,15,27,28,33,67],[]⟩
abbrev fQX:Cx:=⟨gx,8,3,[3,4,6],[]⟩
abbrev RY:Cx:=⟨gx,17,5,[],[]⟩
abbrev fQY:Cx:=⟨gx,21,3,[3,4],[]⟩
abbrev fQZ:Cx:=⟨gx,21,2,[2,3,4,5,9,16],[]⟩
abbrev fQ0:Cx:=⟨gx,16,5,[7,12],[]⟩
abbrev fQ1:Cx:=⟨gx,15,6,[9],[]⟩
abbrev fQ2:Cx:=⟨gx,10,5,[],[]⟩
end
end Go.Proofs.YtjabbbcdgmlojaaGreatDoor
namespace Go.Proofs
open Go Go.RowKit
section
open Go.Shelf
def Tryz.lays156_ren:Go.Shelf.Ren:=⟨fun | 156=>102 | 165=>156 | 166=>56 | 169=>57 | 240=>106 | 241=>210 | 276=>159 | 277=>236 | n=>n,fun | 31=>37 | 9=>9 | 3=>3 | 4=>4 | 0=>0 | 20=>20 | 72=>109 | 76=>113 | 70=>107 | 37=>62 | 75=>112 | 127=>179 | 164=>240 | 5=>5 | 80=>115 | n=>n,fun | n=>n⟩
theorem qQ1:Go.Proofs.Lays.n156 Tryz.prog Tryz.lays156_ren:={
 mixed:=by kernel_rfl
 f156:=Tryz.func102.trans (congrArg some (by kernel_rfl))
 f165:=Tryz.func156.trans (congrArg some (by kernel_rfl))
 f166:=Tryz.func56.trans (congrArg some (by kernel_rfl))
 f169:=Tryz.func57.trans (congrArg some (by kernel_rfl))
 f240:=Tryz.func106.trans (congrArg some (by kernel_rfl))
 f241:=Tryz.func210.trans (congrArg some (by kernel_rfl))
 f276:=Tryz.func159.trans (congrArg some (by kernel_rfl))
 f277:=Tryz.func236.trans (congrArg some (by kernel_rfl))
 t0:=Tryz.underlying0
 a0:=Tryz.isAgg0
 z0:=Tryz.sizeOf0
 v0:=Tryz.zeroValue0
 t3:=Tryz.underlying3
 a3:=Tryz.isAgg3
 z3:=Tryz.sizeOf3
 v3:=Tryz.zeroValue3
 t4:=Tryz.underlying4
 a4:=Tryz.isAgg4
 z4:=Tryz.sizeOf4
 v4:=Tryz.zeroValue4
 t9:=Tryz.underlying9
 a9:=Tryz.isAgg9
 z9:=Tryz.sizeOf9
 v9:=Tryz.zeroValue9
 t20:=Tryz.underlying20
 a20:=Tryz.isAgg20
 z20:=Tryz.sizeOf20
 v20:=Tryz.zeroValue20
 t31:=Tryz.underlying37
 a31:=Tryz.isAgg37
 z31:=Tryz.sizeOf37
 v31:=Tryz.zeroValue37
 t37:=Tryz.underlying62
 a37:=Tryz.isAgg62
 z37:=Tryz.sizeOf62
 v37:=Tryz.zeroValue62
 t70:=Tryz.underlying107
 a70:=Tryz.isAgg107
 z70:=Tryz.sizeOf107
 v70:=Tryz.zeroValue107
 t72:=Tryz.underlying109
 a72:=Tryz.isAgg109
 z72:=Tryz.sizeOf109
 v72:=Tryz.zeroValue109
 t75:=Tryz.underlying112
 a75:=Tryz.isAgg112
 z75:=Tryz.sizeOf112
 v75:=Tryz.zeroValue112
 t76:=Tryz.underlying113
 a76:=Tryz.isAgg113
 z76:=Tryz.sizeOf113
 v76:=Tryz.zeroValue113
 t127:=Tryz.underlying179
 a127:=Tryz.isAgg179
 z127:=Tryz.sizeOf179
 v127:=Tryz.zeroValue179
 t164:=Tryz.underlying240
 a164:=Tryz.isAgg240
 z164:=Tryz.sizeOf240
 v164:=Tryz.zeroValue240}
theorem qQW:Builder.Extra Tryz.prog Tryz.lays156_ren:={
 sizeBuilder:=by kernel_rfl
 liesBuilder:=by kernel_rfl
 t5:=Tryz.underlying5
 a5:=Tryz.isAgg5
 z5:=Tryz.sizeOf5
 v5:=Tryz.zeroValue5
 infoByte:=by kernel_rfl
 cellsByte:=by kernel_rfl
 sizeByte:=by kernel_rfl
 neB5:=by decide}
open Go.RowKit in
theorem Tryz.strings_Join (bk o c:Nat)(xs:List ByteArray)(sep:ByteArray)(w:World)(oQP:∀(j:Nat) x,xs[j]? =some x->w.cell? ⟨bk,o+j,none⟩=some (.string x))(gW:bk<w.heap.size)(hN:xs.length<=140737488355328)(bI:xs.length<=c)(Q0:(Lib.join (xs.map (·.data.toList)) sep.data.toList).length<=140737488355328):
  Calls Tryz.prog 102 #[.slice (some ⟨bk,o,none⟩) xs.length c,.string sep] w λe w'=>e= .returned (.string ⟨(Lib.join (xs.map (·.data.toList)) sep.data.toList).toArray⟩)/\Below w.heap.size w w':=Any.strings_Join qQ1 qQW bk o c xs sep w oQP gW hN bI Q0
def Tryz.lays137_ren:Go.Shelf.Ren:=⟨fun | 137=>94 | 217=>152 | 266=>207 | n=>n,fun | 9=>9 | 5=>5 | 3=>3 | n=>n,fun | n=>n⟩
theorem qQ6:Go.Proofs.Lays.n137 Tryz.prog Tryz.lays137_ren:={
 mixed:=by kernel_rfl
 f137:=Tryz.func94.trans (congrArg some (by kernel_rfl))
 f217:=Tryz.func152.trans (congrArg some (by kernel_rfl))
 f266:=Tryz.func207.trans (congrArg some (by kernel_rfl))
 t3:=Tryz.underlying3
 a3:=Tryz.isAgg3
 z3:=Tryz.sizeOf3
 v3:=Tryz.zeroValue3
 t5:=Tryz.underlying5
 a5:=Tryz.isAgg5
 z5:=Tryz.sizeOf5
 v5:=Tryz.zeroValue5
 t9:=Tryz.underlying9
 a9:=Tryz.isAgg9
 z9:=Tryz.sizeOf9
 v9:=Tryz.zeroValue9}
open Go.RowKit in
theorem Tryz.strings_IndexByte (s:ByteArray)(c:Int)(w:World):
  Calls Tryz.prog 94 #[.string s,.int .u8 c] w λe w'=>e= .returned (.int .i64 (Lib.indexByte s.data.toList c.toNat.toUInt8))/\w'=w:=Any.strings_IndexByte qQ6 s c w
def Tryz.lays219_ren:Go.Shelf.Ren:=⟨fun | 219=>232 | 217=>152 | 225=>247 | 224=>248 | 267=>249 | 266=>207 | 314=>259 | n=>n,fun | 9=>9 | 3=>3 | 4=>4 | 5=>5 | 46=>121 | 146=>320 | 51=>219 | n=>n,fun | 1=>0 | n=>n⟩
theorem qQ4:Go.Proofs.Lays.n219 Tryz.prog Tryz.lays219_ren:={
 mixed:=by kernel_rfl
 f217:=Tryz.func152.trans (congrArg some (by kernel_rfl))
 f219:=Tryz.func232.trans (congrArg some (by kernel_rfl))
 f224:=Tryz.func248.trans (congrArg some (by kernel_rfl))
 f225:=Tryz.func247.trans (congrArg some (by kernel_rfl))
 f266:=Tryz.func207.trans (congrArg some (by kernel_rfl))
 f267:=Tryz.func249.trans (congrArg some (by kernel_rfl))
 f314:=Tryz.func259.trans (congrArg some (by kernel_rfl))
 t3:=Tryz.underlying3
 a3:=Tryz.isAgg3
 z3:=Tryz.sizeOf3
 v3:=Tryz.zeroValue3
 t4:=Tryz.underlying4
 a4:=Tryz.isAgg4
 z4:=Tryz.sizeOf4
 v4:=Tryz.zeroValue4
 t5:=Tryz.underlying5
 a5:=Tryz.isAgg5
 z5:=Tryz.sizeOf5
 v5:=Tryz.zeroValue5
 t9:=Tryz.underlying9
 a9:=Tryz.isAgg9
 z9:=Tryz.sizeOf9
 v9:=Tryz.zeroValue9
 t46:=Tryz.underlying121
 a46:=Tryz.isAgg121
 z46:=Tryz.sizeOf121
 v46:=Tryz.zeroValue121
 t51:=Tryz.underlying219
 a51:=Tryz.isAgg219
 z51:=Tryz.sizeOf219
 v51:=Tryz.zeroValue219
 t146:=Tryz.underlying320
 a146:=Tryz.isAgg320
 z146:=Tryz.sizeOf320
 v146:=Tryz.zeroValue320
 g1:=by kernel_rfl}
open Go.RowKit Go.Lib in
theorem Tryz.stringslite_Index_one (s:ByteArray)(c:UInt8)(w:World):
  Calls Tryz.prog 232 #[.string s,.string ⟨#[c]⟩] w λe w'=>e= .returned (.int .i64 (Lib.indexByte s.data.toList c))/\w'=w:=Any.stringslite_Index_one qQ4 s c w
def Tryz.lays138_ren:Go.Shelf.Ren:=⟨fun | 138=>204 | 195=>233 | 218=>234 | 143=>209 | 219=>232 | 217=>152 | 225=>247 | 224=>248 | 267=>249 | 266=>207 | 314=>259 | n=>n,fun | 9=>9 | 3=>3 | 4=>4 | 5=>5 | 0=>0 | 46=>121 | 146=>320 | 51=>219 | n=>n,fun | 1=>0 | n=>n⟩
theorem qQ5:Go.Proofs.Lays.n138 Tryz.prog Tryz.lays138_ren:={
 mixed:=by kernel_rfl
 f138:=Tryz.func204.trans (congrArg some (by kernel_rfl))
 f143:=Tryz.func209.trans (congrArg some (by kernel_rfl))
 f195:=Tryz.func233.trans (congrArg some (by kernel_rfl))
 f217:=Tryz.func152.trans (congrArg some (by kernel_rfl))
 f218:=Tryz.func234.trans (congrArg some (by kernel_rfl))
 f219:=Tryz.func232.trans (congrArg some (by kernel_rfl))
 f224:=Tryz.func248.trans (congrArg some (by kernel_rfl))
 f225:=Tryz.func247.trans (congrArg some (by kernel_rfl))
 f266:=Tryz.func207.trans (congrArg some (by kernel_rfl))
 f267:=Tryz.func249.trans (congrArg some (by kernel_rfl))
 f314:=Tryz.func259.trans (congrArg some (by kernel_rfl))
 t0:=Tryz.underlying0
 a0:=Tryz.isAgg0
 z0:=Tryz.sizeOf0
 v0:=Tryz.zeroValue0
 t3:=Tryz.underlying3
 a3:=Tryz.isAgg3
 z3:=Tryz.sizeOf3
 v3:=Tryz.zeroValue3
 t4:=Tryz.underlying4
 a4:=Tryz.isAgg4
 z4:=Tryz.sizeOf4
 v4:=Tryz.zeroValue4
 t5:=Tryz.underlying5
 a5:=Tryz.isAgg5
 z5:=Tryz.sizeOf5
 v5:=Tryz.zeroValue5
 t9:=Tryz.underlying9
 a9:=Tryz.isAgg9
 z9:=Tryz.sizeOf9
 v9:=Tryz.zeroValue9
 t46:=Tryz.underlying121
 a46:=Tryz.isAgg121
 z46:=Tryz.sizeOf121
 v46:=Tryz.zeroValue121
 t51:=Tryz.underlying219
 a51:=Tryz.isAgg219
 z51:=Tryz.sizeOf219
 v51:=Tryz.zeroValue219
 t146:=Tryz.underlying320
 a146:=Tryz.isAgg320
 z146:=Tryz.sizeOf320
 v146:=Tryz.zeroValue320
 g1:=by kernel_rfl}
open Go.RowKit Go.Lib in
theorem Tryz.strings_Count_one (s:ByteArray)(c:UInt8)(w:World):
  Calls Tryz.prog 204 #[.string s,.string ⟨#[c]⟩] w λe w'=>e= .returned (.int .i64 (Lib.countByte s.data.toList c))/\w'=w:=Any.strings_Count_one qQ5 s c w
def Tryz.lays149_ren:Go.Shelf.Ren:=⟨fun | 149=>93 | 222=>151 | n=>n,fun | 9=>9 | 5=>5 | 3=>3 | 4=>4 | n=>n,fun | n=>n⟩
theorem qQ2:Go.Proofs.Lays.n149 Tryz.prog Tryz.lays149_ren:={
 mixed:=by kernel_rfl
 f149:=Tryz.func93.trans (congrArg some (by kernel_rfl))
 f222:=Tryz.func151.trans (congrArg some (by kernel_rfl))
 t3:=Tryz.underlying3
 a3:=Tryz.isAgg3
 z3:=Tryz.sizeOf3
 v3:=Tryz.zeroValue3
 t4:=Tryz.underlying4
 a4:=Tryz.isAgg4
 z4:=Tryz.sizeOf4
 v4:=Tryz.zeroValue4
 t5:=Tryz.underlying5
 a5:=Tryz.isAgg5
 z5:=Tryz.sizeOf5
 v5:=Tryz.zeroValue5
 t9:=Tryz.underlying9
 a9:=Tryz.isAgg9
 z9:=Tryz.sizeOf9
 v9:=Tryz.zeroValue9}
open Go.RowKit Go.Lib in
theorem Tryz.strings_LastIndexByte (s:ByteArray)(c:Int)(hs:s.size<4611686018427387904)(w:World):
  Calls Tryz.prog 93 #[.string s,.int .u8 c] w λe w'=>e= .returned (.int .i64 (Lib.lastIndexByte s c))/\w'=w:=Any.strings_LastIndexByte qQ2 s c hs w
def Tryz.lays315_ren:Go.Shelf.Ren:=⟨fun | 315=>244 | n=>n,fun | 9=>9 | 40=>294 | 4=>4 | 3=>3 | 0=>0 | 21=>21 | n=>n,fun | n=>n⟩
theorem qQ3:Go.Proofs.Lays.n315 Tryz.prog Tryz.lays315_ren:={
 mixed:=by kernel_rfl
 f315:=Tryz.func244.trans (congrArg some (by kernel_rfl))
 t0:=Tryz.underlying0
 a0:=Tryz.isAgg0
 z0:=Tryz.sizeOf0
 v0:=Tryz.zeroValue0
 t3:=Tryz.underlying3
 a3:=Tryz.isAgg3
 z3:=Tryz.sizeOf3
 v3:=Tryz.zeroValue3
 t4:=Tryz.underlying4
 a4:=Tryz.isAgg4
 z4:=Tryz.sizeOf4
 v4:=Tryz.zeroValue4
 t9:=Tryz.underlying9
 a9:=Tryz.isAgg9
 z9:=Tryz.sizeOf9
 v9:=Tryz.zeroValue9
 t21:=Tryz.underlying21
 a21:=Tryz.isAgg21
 z21:=Tryz.sizeOf21
 v21:=Tryz.zeroValue21
 t40:=Tryz.underlying294
 a40:=Tryz.isAgg294
 z40:=Tryz.sizeOf294
 v40:=Tryz.zeroValue294}
open Go.RowKit Go.Lib in
theorem Tryz.strings_indexFunc (g:Nat)(lb:Array Value)(eg:∀args w,(callFunc g args).run Tryz.prog w= .ok (.enter g args) w)(p:Nat->Bool)(truth:Bool)(s:ByteArray)(w:World)(hp:PredAt Tryz.prog g lb encR p w):
  Calls Tryz.prog 244 #[.string s,.func (.func g) #[] lb,.bool truth] w λe w'=>e= .returned (.int .i64 (Lib.idxFunc p truth s))/\Below w.heap.size w w':=Any.strings_indexFunc qQ3 g lb eg p truth s w hp
end
end Go.Proofs
namespace Go.Proofs.YtjabbbcdgmlojaaGreatDoor
open Go Go.RowKit
section
structure Mod (S:Nat->Prop) (w w':World):Prop where
 os:w'.os=w.os
 tape:w'.tape=w.tape
 output:w'.output=w.output
 size:w.heap.size<=w'.heap.size
 block:∀k,k<w.heap.size->¬S k->w'.heap[k]? =w.heap[k]?
theorem Mod.refl (S:Nat->Prop)(w:World):Mod S w w:=⟨rfl,rfl,rfl,QC _,λ_ _ _=>rfl⟩
theorem Mod.of_ext {w w':World}(S:Nat->Prop)(h:Ext w w'):Mod S w w':=⟨h.os,h.tape,h.output,h.size,λk hk _=>h.block k hk (by simp)⟩
theorem qQT {w w':World}{S:Nat->Prop}{g:Nat}(h:w.grownBy w' (some g))(hS:S g):Mod S w w':=⟨h.os,h.tape,h.output,h.size,λk hk hn=>h.block k hk (λe=>by cases e;exact hn hS)⟩
theorem Mod.trans {S S':Nat->Prop}{a b c:World}(h:Mod S a b)(k:Mod S' b c)(hs:∀i,S' i->S i∨a.heap.size<=i):Mod S a c:=
 ⟨k.os.trans h.os,k.tape.trans h.tape,k.output.trans h.output,X4 h.size k.size,λi hi hn=>(k.block i (Ye hi h.size) (λhS=>by rcases hs i hS with h | h;exact hn h;omega)).trans (h.block i hi hn)⟩
theorem Mod.mono {S S':Nat->Prop}{a b:World}(h:Mod S a b)(hs:∀i,S i->S' i∨a.heap.size<=i):Mod S' a b:=
 ⟨h.os,h.tape,h.output,h.size,λi hi hn=>h.block i hi (λhS=>by rcases hs i hS with h | h;exact hn h;omega)⟩
theorem Mod.ext {S:Nat->Prop}{w0 w w':World}(h:Mod S w w')(k:Ext w0 w)(hs:∀i,S i->w0.heap.size<=i):Ext w0 w':=
 ⟨h.os.trans k.os,h.tape.trans k.tape,h.output.trans k.output,X4 k.size h.size,λi hi _=>(h.block i (Ye hi k.size) (λhS=>by have:=hs i hS;omega)).trans (k.block i hi (by simp))⟩
theorem Blk.mod {S:Nat->Prop}{w w':World}{g t:Nat}{cs:List Value}(h:Blk w g t cs)(k:Mod S w w')(hn:¬S g):Blk w' g t cs:=(k.block g h.lt hn).trans h
theorem Mod.grown {S:Nat->Prop}{w w':World}(h:Mod S w w'){row:Option Nat}(hs:∀i,S i->row=some i):w.grownBy w' row:=⟨h.os,h.tape,h.output,h.size,λk hk hn=>h.block k hk (λhS=>hn (hs k hS).symm)⟩
def Ql (A:Option Addr):Nat->Prop:=λk=>∃ad,A=some ad/\ad.block=k
theorem fQ3 {A:Option Addr}{n c k:Nat}(h:(Value.slice A n c).ownBlock=some k):Ql A k:=by
 cases A with
 | none=>simp[Value.ownBlock] at h
 | some ad=>exact⟨ad,rfl,by simpa [Value.ownBlock] using h⟩
theorem qQY {w w':World}{A:Option Addr}{n c:Nat}(h:w.grownBy w' (Value.slice A n c).ownBlock):Mod (Ql A) w w':=
 ⟨h.os,h.tape,h.output,h.size,λk hk hn=>h.block k hk (λe=>hn (fQ3 e.symm))⟩
theorem Own.rows {w:World}{base e sz n c:Nat}{A:Option Addr}{cs:List Value}(h:Own w base e sz A n c cs):∀k,Ql A k->base<=k/\k<w.heap.size:=by
 rintro k ⟨ad,rfl,rfl⟩;have h:=h.row;rcases h.2 with⟨hv,_⟩ | ⟨g,cap,ZK,hv,hb,hg,_⟩
 ·cases hv
 ·cases hv;exact⟨hb,(f9.1 hg).1⟩
theorem Own.mod {S:Nat->Prop}{w w':World}{base e sz n c:Nat}{A:Option Addr}{cs:List Value}(h:Own w base e sz A n c cs)(k:Mod S w w')(hn:∀i,Ql A i->¬S i):Own w' base e sz A n c cs:=by
 have hr:=h.row;refine⟨⟨hr.1,?_⟩⟩;rcases hr.2 with⟨hv,hx⟩ | ⟨g,cap,ZK,hv,hb,hg,zU⟩
 ·exact .inl ⟨hv,hx⟩
 ·refine .inr ⟨g,cap,ZK,hv,hb,(k.block g (f9.1 hg).1 (hn g ?_)).trans hg,zU⟩;cases hv;exact⟨_,rfl,rfl⟩
theorem Own.up {w:World}{base base' e sz n c:Nat}{A:Option Addr}{cs:List Value}(h:Own w base e sz A n c cs)(hb:base'<=base):Own w base' e sz A n c cs:=by
 have hr:=h.row;refine⟨⟨hr.1,?_⟩⟩;rcases hr.2 with hv | ⟨g,cap,ZK,hv,hb',zU⟩
 ·exact .inl hv
 ·exact .inr ⟨g,cap,ZK,hv,X4 hb hb',zU⟩
def Moved (w:World)(A A':Option Addr):Prop:=∀ad,A'=some ad->A=some ad∨w.heap.size<=ad.block
theorem Moved.refl (w:World)(A:Option Addr):Moved w A A:=λ_ h=>.inl h
theorem Moved.rows {w:World}{A A':Option Addr}(h:Moved w A A'):∀k,Ql A' k->Ql A k∨w.heap.size<=k:=by
 rintro k ⟨ad,rfl,rfl⟩;rcases h ad rfl with h | h
 ·exact .inl ⟨ad,h,rfl⟩
 ·exact .inr h
theorem Moved.trans {w w1:World}{A B C:Option Addr}(h:Moved w A B)(k:Moved w1 B C)(hs:w.heap.size<=w1.heap.size):Moved w A C:=λad e=>by
 rcases k ad e with h1 | h1
 ·exact h ad h1
 ·exact .inr (by omega)
theorem Moved.back {w w1:World}{A B:Option Addr}(h:Moved w1 A B)(hs:w.heap.size<=w1.heap.size):Moved w A B:=(Moved.refl w A).trans h hs
theorem JH {c:Cx}(hg:c.g.Ok){o:Oper}{S:Env}{w:World}{K:Env->World->Prop}{Q:Zj}{t t2 e sz:Nat}{x y:Operand}{A B:Option Addr}{n cp:Nat}{m c2:Nat}{xs ys:List Value}{base:Nat}{r re r2:TyRow}
  (ho:o.op= .call ⟨.builtin .append, #[x,y], #[t,t2]⟩) (hr:QU c.g.tys t=some r) (hd:r.d= .slice e) (X8:QU c.g.tys e=some re) (hs:re.sz=sz) (Lm:0<sz) (kF:re.z.cells.size=sz) (Wl:QU c.g.tys t2=some r2) (aL:∃e2,r2.d= .slice e2)
  (hx:S.ev x=some (.slice A n cp)) (hy:S.ev y=some (.slice B m c2)) (Wu:Own w base e sz A n cp xs) (gS:Sl w sz B m c2 ys) (gT:∀u∈ys,JF u=true)
  (iR:n+m<=maxLen) (cw:(n+m)*re.by_<=140737488355328) (sK:base<=w.heap.size)
  (k:∀A' c' w1,Mod (Ql A) w w1->Own w1 base e sz A' (n+m) c' (xs++ys)->Moved w A A'->Xh c S o.dst (.v (.slice A' (n+m) c')) (λS=>K S w1)):Zc c o S w K Q:=
 eQx hg ho hr hd X8 hs Lm kF Wl aL hx hy Wu gS gT iR cw sK (λA' c' w1 h1 h2 h3=>k A' c' w1 (qQY h1) h2 h3)
theorem RZ {c:Cx}(hg:c.g.Ok){o:Oper}{S:Env}{w:World}{K:Env->World->Prop}{Q:Zj}{t t2 e:Nat}{x y:Operand}{A:Option Addr}{n cp:Nat}{s:ByteArray}{xs:List Value}{base:Nat}{r re r2:TyRow}
  (ho:o.op= .call ⟨.builtin .append, #[x,y], #[t,t2]⟩) (hr:QU c.g.tys t=some r) (hd:r.d= .slice e) (X8:QU c.g.tys e=some re) (hs:re.sz=1) (kF:re.z= .int .u8 0) (Fs:re.by_=1) (Wl:QU c.g.tys t2=some r2) (aL:r2.d= .string)
  (hx:S.ev x=some (.slice A n cp)) (hy:S.ev y=some (.string s)) (Wu:Own w base e 1 A n cp xs)
  (iR:n+s.size<=140737488355328) (sK:base<=w.heap.size)
  (k:∀A' c' w1,Mod (Ql A) w w1->Own w1 base e 1 A' (n+s.size) c' (xs++Lib.strCells s)->Moved w A A'->Xh c S o.dst (.v (.slice A' (n+s.size) c')) (λS=>K S w1)):Zc c o S w K Q:=
 eQz hg ho hr hd X8 hs kF Fs Wl aL hx hy Wu iR sK (λA' c' w1 h1 h2 h3=>k A' c' w1 (qQY h1) h2 h3)
theorem KS {w:World}{g t:Nat}{cs:List Value}{v:Value}{K:World->Prop}(h:Blk w g t cs)(hj:0<cs.length)(k:∀w1,Mod (·=g) w w1->Blk w1 g t (cs.set 0 v)->K w1):eP w ⟨g,0,none⟩ v K:=
 eQv h hj (λw1 h1 h2=>k w1 (qQT h1 rfl) h2)
theorem XQ {w:World}{g t:Nat}{cs:List Value}{j:Nat}{v:Value}{K:World->Prop}(h:Blk w g t cs)(hj:j<cs.length)(k:∀w1,Mod (·=g) w w1->Blk w1 g t (cs.set j v)->K w1):eP w ((⟨g,0,none⟩:Addr).add j) v K:=
 wO h hj (λw1 h1 h2=>k w1 (qQT h1 rfl) h2)
theorem sc {vs:List Value}(h:vs.all JF=true):∀u∈vs,JF u=true:=by simpa using h
theorem XV {w w5 w6:World}{t:Nat}{cs:List Value}(Qx:Ext w w5)(_:Blk w5 w.heap.size t cs)(Wm:w5.grownBy w6 (some w.heap.size)):Ext w w6:=
 (Ext.refl w).own (eQf (Qx.grown (some w.heap.size)) Wm) (QC _)
theorem R0 (s:ByteArray):Lib.strCells s=Vs (Wa s):=by
 simp only[Lib.strCells,Vs,Wa,ny];rfl
structure Bld (w:World) (base g t:Nat) (rest:List Value) (A:Option Addr) (c:Nat) (out:List Nat):Prop where
 g1:g<base
 top:base<=w.heap.size
 blk:∃pa,(pa= .pointer none∨pa= .pointer (some ⟨g,0,none⟩))/\Blk w g t (pa:: .slice A out.length c::rest)
 own:Own w base 5 1 A out.length c (Vs out)
theorem Bld.grow {w w':World}{base g t:Nat}{rest:List Value}{A:Option Addr}{c:Nat}{out:List Nat}(h:Bld w base g t rest A c out)(k:Ext w w'):Bld w' base g t rest A c out:=
 ⟨h.g1,X4 h.top k.size,let ⟨pa,h1,h2⟩:=h.blk;⟨pa,h1,h2.ext k⟩,h.own.ext k⟩
def BldS (g:Nat)(A:Option Addr):Nat->Prop:=λk=>k=g∨Ql A k
theorem BldS.moved {w:World}{g:Nat}{A A':Option Addr}(h:Moved w A A'):∀k,BldS g A' k->BldS g A k∨w.heap.size<=k:=by
 rintro k (rfl | hk)
 ·exact .inl (.inl rfl)
 ·rcases h.rows k hk with h | h
  ·exact .inl (.inr h)
  ·exact .inr h
def qE (t m:Nat):Prop:=liesAt Tryz.prog Tryz.prog.depth t (m/Tryz.prog.cellsOf t) 0 109 1=true
theorem Blk.shape {w:World}{g t:Nat}{cs:List Value}(h:Blk w g t cs):w.shape? g=some (t,cs.length):=by
 unfold World.shape?;rw[h];simp
theorem bR:gx.P=Tryz.prog:=rfl
theorem R1:∃j,Tryz.prog.info? 109=some j/\j.size≠0:=by
 obtain⟨_,i,hi,hs,_⟩:=Qa.row (t:=109) rfl;exact⟨i,hi,by rw[hs];decide⟩
theorem GR (g t:Nat)(pa sl:Value)(rest:List Value)(w:World)(hl:qE t (rest.length+2))(hp:pa= .pointer none∨pa= .pointer (some ⟨g,0,none⟩))(hB:Blk w g t (pa::sl::rest)):
  Fn Tryz.prog 106 [.pointer (some ⟨g,0,none⟩)] w (λ_ w'=>Mod (·=g) w w'/\Blk w' g t (.pointer (some ⟨g,0,none⟩)::sl::rest)):=by
 obtain⟨j,hj,oT⟩:=R1;refine QH (c:=RQ) Qa Tryz.func106 rfl rfl rfl ?_;have dw:=hB.shape;have ucs:=Tryz.underlying107;have uus:=Tryz.underlying240;rcases hp with rfl | rfl
 ·refine Qp hB rfl ?_;refine Xc rfl ?_;refine JG (w':=w) (v:=.pointer (some ⟨g,0,none⟩)) (λa hf=>?_) ?_
  ·have e1:=hf.ev (show Env.ev _ (.tmp 8)=some (.pointer (some ⟨g,0,none⟩)) from rfl);have:=Lib.run_to_unsafe (P:=Tryz.prog) (src:=107) (dst:=240) w ⟨g,0,none⟩ ucs uus hj oT dw (by simp);simp only[execOp,e1];simp[bR,this]
  refine JG (w':=w) (v:=.pointer (some ⟨g,0,none⟩)) (λa hf=>?_) ?_
  ·have e1:=hf.ev (show Env.ev _ (.tmp 9)=some (.pointer (some ⟨g,0,none⟩)) from rfl);have:=run_callFunc_extern (P:=Tryz.prog) (e:=Extern.AbiNoEscape.same) Tryz.func159 (by kernel_rfl) (by kernel_rfl) (by kernel_rfl) (by kernel_rfl) #[.pointer (some ⟨g,0,none⟩)] w;rw[Lib.run_noEscape] at this;simp only[execOp,resolve,invoke];simp[Deferred.ofValue,Act.eval] at e1 ⊢;simp[e1,bR,this]
  refine JG (w':=w) (v:=.pointer (some ⟨g,0,none⟩)) (λa hf=>?_) ?_
  ·have e1:=hf.ev (show Env.ev _ (.tmp 10)=some (.pointer (some ⟨g,0,none⟩)) from rfl);have:=Lib.run_from_unsafe (P:=Tryz.prog) (src:=240) (dst:=107) (u:=109) w ⟨g,0,none⟩ uus ucs hj dw (by simpa [qE] using hl);simp only[execOp,e1];simp[bR,this]
  refine XQ hB (by simp) (λw1 hm Qh=>?_);exact⟨hm,Qh⟩
 ·refine Qp hB rfl ?_;refine Q7 rfl ?_;refine Qp hB rfl ?_;refine JG (w':=w) (v:=.bool false) (λa hf=>?_) ?_
  ·have e1:=hf.ev (show Env.ev _ (.tmp 17)=some (.pointer (some ⟨g,0,none⟩)) from rfl);have e2:=hf.ev (show Env.ev _ (.tmp 18)=some (.pointer (some ⟨g,0,none⟩)) from rfl);have:=Lib.run_neq_ptr_same (P:=Tryz.prog) (tp:=107) w ⟨g,0,none⟩ ucs hj;simp only[execOp,e1,e2,eqGuard];simp[bR,this]
  refine Q7 rfl ?_;exact⟨Mod.refl _ _,hB⟩
theorem iw (base g t:Nat)(rest:List Value)(A:Option Addr)(c:Nat)(out:List Nat)(s:ByteArray)(w:World)(hl:qE t (rest.length+2))(hb:Bld w base g t rest A c out)(hs:out.length+s.size<=140737488355328):
  Fn Tryz.prog 56 [.pointer (some ⟨g,0,none⟩),.string s] w (λ_ w'=>∃A' c',Bld w' base g t rest A' c' (out++Wa s)/\Mod (BldS g A) w w'/\Moved w A A'):=by
 refine QH (c:=RK) Qa Tryz.func56 rfl rfl rfl ?_;obtain⟨pa,Jh,hB⟩:=hb.blk;refine call (GR g t pa _ rest w hl Jh hB) ?_;rintro v w1 ⟨Zw,Qh⟩;have Yb:=hb.own.rows;have fk:=hb.g1;have hn:¬Ql A g:=λh=>by have:=(Yb g h).1;omega
 have rH:=hb.own.mod Zw (λk hk e=>hn (e▸hk));refine Qp Qh rfl ?_;refine RZ Qa rfl rfl rfl rfl rfl rfl rfl rfl rfl rfl rfl rH hs (by have:=Zw.size;have:=hb.top;omega) ?_;intro A' c' w2 XR eo oU;refine XQ (Qh.mod XR hn) (by simp) (λw3 XD Qu=>?_);have Q0:(out++Wa s).length=out.length+s.size:=by rw[Qq,wS]
 have rI:=eo.rows;refine⟨A',c',⟨fk,by have:=Zw.size;have:=XR.size;have:=XD.size;have:=hb.top;omega,⟨_,.inr rfl,by rw[Q0];exact Qu⟩,?_⟩,?_,oU.back Zw.size⟩
 ·rw[Q0,BQ,<-R0];exact eo.mod XD (λk hk e=>by have:=(rI k hk).1;omega)
 ·exact((Zw.mono (S':=BldS g A) (λi hi=>.inl (.inl hi))).trans XR (λi hi=>.inl (.inr hi))).trans XD (λi hi=>.inl (.inl hi))
theorem GS (base g t:Nat)(rest:List Value)(A:Option Addr)(c:Nat)(out:List Nat)(b:Nat)(w:World)(hl:qE t (rest.length+2))(hb:Bld w base g t rest A c out)(hs:out.length+1<=140737488355328):
  Fn Tryz.prog 225 [.pointer (some ⟨g,0,none⟩),.int .u8 b] w (λ_ w'=>∃A' c',Bld w' base g t rest A' c' (out++ [b])/\Mod (BldS g A) w w'/\Moved w A A'):=by
 refine QH (c:=RY) Qa Tryz.func225 rfl rfl rfl ?_;obtain⟨pa,Jh,hB⟩:=hb.blk;refine call (GR g t pa _ rest w hl Jh hB) ?_;rintro v w1 ⟨Zw,Qh⟩;have Yb:=hb.own.rows;have fk:=hb.g1;have mW:=hb.top;have hn:¬Ql A g:=λh=>by have:=(Yb g h).1;omega
 have rH:=hb.own.mod Zw (λk hk e=>hn (e▸hk));refine Qp Qh rfl ?_;refine RB Qa rfl rfl rfl rfl rfl rfl rfl rfl ?_;intro w7 Xf mQB Q8;have iS:Sl w7 1 (some ⟨w1.heap.size,0,none⟩) 1 1 [.int .u8 (b:Int)]:=Sl.own' Q8 rfl (by simp[maxLen]);have mQC:=Zw.size;have mQD:=Xf.size;refine JH Qa rfl rfl rfl rfl rfl (by decide) rfl rfl ⟨_,rfl⟩ rfl rfl (rH.ext Xf) iS (by simp[JF]) (by unfold maxLen;omega) (by show _*1<=_;omega) (by omega) ?_;intro A' c' w2 XR eo oU;refine XQ ((Qh.ext Xf).mod XR hn) (by simp) (λw3 XD Qu=>?_);have rI:=eo.rows;refine⟨A',c',⟨fk,by have:=XR.size;have:=XD.size;omega,⟨_,.inr rfl,by rw[Qq];exact Qu⟩,?_⟩,?_,oU.back (by omega)⟩
 ·rw[Qq,BQ];exact eo.mod XD (λk hk e=>by have:=(rI k hk).1;omega)
 ·exact(((Zw.mono (S':=BldS g A) (λi hi=>.inl (.inl hi))).trans (Mod.of_ext (λ_=>False) Xf) (λi hi=>hi.elim)).trans XR (λi hi=>.inl (.inr hi))).trans XD (λi hi=>.inl (.inl hi))
theorem R2 (w:World)(g n:Nat){S:Nat->Prop}(h:S g):Mod S w (w.freeze ⟨g,0,none⟩ n):=by
 unfold World.freeze;split
 ·exact Mod.refl _ _
 ·refine⟨rfl,rfl,rfl,by simp,λk hk hn=>?_⟩;simp only[Array.getElem?_modify];rw[if_neg (λ(e:g=k)=>hn (e▸h))]
theorem R3 (base g t:Nat)(rest:List Value)(A:Option Addr)(c:Nat)(out:List Nat)(w:World)(hb:Bld w base g t rest A c out)(h8:∀x∈out,x<256)(hs:out.length<=140737488355328):
  Fn Tryz.prog 57 [.pointer (some ⟨g,0,none⟩)] w (λv w'=>v= .string (Qf out)/\Mod (Ql A) w w'):=by
 obtain⟨pa,Jh,hB⟩:=hb.blk;refine QH (c:=RN) Qa Tryz.func57 rfl rfl rfl ?_;have Q0:(Vs out).length=out.length:=tP out;refine XL Qa (Ext w) 10 [(true,0),(true,1),(true,2),(true,3),(true,5),(true,6),(true,7),(true,8),(true,9),(false,4)] (by kernel_rfl) (Ext.drew w) ?_;refine QQ (v:=.slice A out.length c) (λw' Qb=>by rw[(hB.ext Qb).cell];rfl) ?_;refine QQ (v:=.slice A out.length c) (λw' Qb=>by rw[(hB.ext Qb).cell];rfl) ?_;have Lp:out.length=0->Value.string ByteArray.empty=Value.string (Qf out):=λh0=>by
  have:out=[]:=Wx h0;subst this;rfl
 by_cases h0:out.length=0
 ·have key:∃p w1,(Builtin.unsafeSliceData_ #[62] 179 #[.slice A out.length c]).run Tryz.prog w.drew= .ok (.pointer p) w1/\Ext w w1:=by
   rcases hb.own.row.2 with⟨hv,_⟩ | ⟨g',cap,ZK,hv,hb',V0,_⟩
   ·simp only[Value.slice.injEq] at hv;obtain⟨rfl,_,rfl⟩:=hv;exact⟨none,w.drew,Lib.run_unsafeSliceData_nil _ _ _ _ _,Ext.drew w⟩
   ·simp only[Value.slice.injEq] at hv;obtain⟨rfl,_,rfl⟩:=hv;by_cases yo:c=0
    ·subst yo;have dw:w.drew.shape? g'=some (5,ZK.size):=by
      unfold World.shape?;rw[show w.drew.heap[g']? =_ from V0]
     exact⟨_,_,Lib.run_unsafeSliceData_zero (P:=Tryz.prog) w.drew _ _ 5 Tryz.underlying179 ⟨g',0,none⟩ _ _ dw,(Ext.drew w).trans (Ext.alloc _ _)⟩
    ·exact⟨_,w.drew,Lib.run_unsafeSliceData_row (P:=Tryz.prog) w.drew _ _ ⟨g',0,none⟩ _ _ yo,Ext.drew w⟩
  obtain⟨p,w1,Jg,Qd⟩:=key;refine JG (w':=w1) (v:=.pointer p) (λa hf=>?_) ⟨Qd,?_⟩
  ·have e1:=hf.ev (show Env.ev _ (.tmp 6)=some (.slice A out.length c) from rfl);simp only[execOp,resolve,invoke,builtin];simp[bR,e1,Jg]
  refine JG (w':=w1) (v:=.string ByteArray.empty) (λa hf=>?_) ?_
  ·have e1:=hf.ev (show Env.ev _ (.tmp 7)=some (.pointer p) from rfl);have e2:=hf.ev (show Env.ev _ (.tmp 12)=some (.int .i64 out.length) from rfl);have:=Lib.run_unsafeString_none (P:=Tryz.prog) w1 179 3 9 p;rw[h0] at e2;simp only[execOp,resolve,invoke,builtin];simp[bR,e1,e2];rw[this]<;>rfl
  exact⟨Lp h0,Mod.of_ext _ Qd⟩
 ·obtain⟨g',sp,rfl,hb',K2,dv⟩:=hb.own.blk (by omega);have ZL:=hb.own.sl.le;refine JG (w':=w.drew) (v:=.pointer (some ⟨g',0,none⟩)) (λa hf=>?_) ⟨Ext.drew w,?_⟩
  ·have e1:=hf.ev (show Env.ev _ (.tmp 6)=some (.slice (some ⟨g',0,none⟩) out.length c) from rfl);have:=Lib.run_unsafeSliceData_row (P:=Tryz.prog) w.drew #[62] 179 ⟨g',0,none⟩ out.length c (by omega);simp only[execOp,resolve,invoke,builtin];simp[bR,e1,this]
  refine JG (w':=w.drew.freeze ⟨g',0,none⟩ out.length) (v:=.string (Qf out)) (λa hf=>?_) ?_
  ·have e1:=hf.ev (show Env.ev _ (.tmp 7)=some (.pointer (some ⟨g',0,none⟩)) from rfl);have e2:=hf.ev (show Env.ev _ (.tmp 12)=some (.int .i64 out.length) from rfl);have dw:w.drew.shape? g'=some (5,(Vs out++sp).length):=(K2.ext (Ext.drew w)).shape;have Ka:(out.map UInt8.ofNat).length=out.length:=by simp
   have:=Lib.run_unsafeString_row (P:=Tryz.prog) w.drew 179 3 9 5 Tryz.underlying179 (by kernel_rfl) g' _ dw (out.map UInt8.ofNat) (by intro e;apply h0;rw[<-Ka,e];rfl) (by simp[tP]) (by rw[Ka];omega) (λj x hj=>by
    rw[(K2.ext (Ext.drew w)).cell];simp only[aq,F9] at hj;obtain⟨y,hy,rfl⟩:=hj;have aj:j<out.length:=(ZM.1 hy).1;rw[eK (by rw[Q0];exact aj),qA hy];have:=h8 y (Xk hy);simp[jE this])
   rw[Ka] at this;simp only[execOp,resolve,invoke,builtin];simp[bR,e1,e2];rw[this]<;>rfl
  exact⟨rfl,(Mod.of_ext (Ql _) (Ext.drew w)).trans (R2 w.drew g' out.length (S:=Ql (some ⟨g',0,none⟩)) ⟨_,rfl,rfl⟩) (λi hi=>.inl hi)⟩
section
structure Fz where
 o:Int
 v:Int
 a:Int
 b:Int
deriving DecidableEq
def Fz.cells (x:Fz):List Value:=[.int .i64 x.o,.int .i64 x.v,.int .i64 x.a,.int .i64 x.b]
theorem BV (x:Fz):x.cells.length=4:=rfl
def isDig (b:Nat):Bool:=decide (48<=b)&&decide (b<=57)
def bm (b:Nat):Bool:=b==95||(decide (97<=b)&&decide (b<=122))||(decide (65<=b)&&decide (b<=90))
def Ze (b:Nat):Bool:=bm b||isDig b
def VL:List Nat->Nat
 | []=>0
 | b::l=>if isDig b then 0 else((b::l).takeWhile Ze).length
def ZN (l:List Nat):List Nat:=l.dropWhile λb=>b==32||b==9
structure Ps where
 r:List Nat
 f:List Fz
 u:Bool
def Ks (sym:List Nat)(p:Ps):Bool×Ps:=if sym.isPrefixOf (ZN p.r)then(true,{p with r:=(ZN p.r).drop sym.length})else(false,{p with r:=ZN p.r})
def Yg (x:Fz)(p:Ps):Nat×Ps:=(p.f.length,{p with f:=p.f++ [x]})
def gr (sym:List Nat)(op:Int)(opd:Ps->Option (Nat×Ps)):Nat->Nat->Ps->Option (Nat×Ps)
 | 0,_,_=>none
 | m+1,a,p=>match Ks sym p with
  | (true,p1)=>match opd p1 with
   | none=>none
   | some (b,p2)=>gr sym op opd m p2.f.length {p2 with f:=p2.f++ [⟨op,0,a,b⟩]}
  | (false,p1)=>some (a,p1)
def VM (sym:List Nat)(op:Int)(opd:Ps->Option (Nat×Ps))(p:Ps):Option (Nat×Ps):=match opd p with
 | none=>none
 | some (a,p1)=>gr sym op opd (p1.r.length+1) a p1
def cI (
     ix:List Nat->Option Nat):Nat->Ps->Option (Nat×Ps)
 | 0,_=>none
 | n+1,p=>match Ks [33] p with
  | (true,p1)=>match cI ix n p1 with
   | none=>none
   | some (a,p2)=>some (Yg ⟨3,0,a,0⟩ p2)
  | (false,p1)=>match Ks [40] p1 with
   | (true,p2)=>match VM [124,124] 5 (VM [38,38] 4 (cI ix n)) p2 with
    | none=>none
    | some (a,p3)=>match Ks [41] p3 with
     | (true,p4)=>some (a,p4)
     | (false,_)=>none
   | (false,p2)=>if VL p2.r=0 then none else
     let word:=p2.r.take (VL p2.r)
     let p3:Ps:={p2 with r:=p2.r.drop (VL p2.r)}
     if word=[116,114,117,101] then some (Yg ⟨1,0,0,0⟩ p3)else if word=[102,97,108,115,101] then some (Yg ⟨0,0,0,0⟩ p3)else
      some (Yg ⟨2,((ix word).getD 0:Nat),0,0⟩ {p3 with u:=p3.u||(ix word).isNone})
def iy (ix:List Nat->Option Nat)(n:Nat)(p:Ps):Option (Nat×Ps):=VM [124,124] 5 (VM [38,38] 4 (cI ix n)) p
end
section
theorem VN (l:List Nat)(a b:Nat):(Qf l).extract a b=Qf ((l.take b).drop a):=by
 apply ByteArray.ext;apply Array.ext';simp[Qf,jF]
theorem B8.drop {l:List Nat}(h:∀x∈l,x<256)(k:Nat):∀x∈l.drop k,x<256:=λx hx=>h x (au hx)
theorem B8.take {l:List Nat}(h:∀x∈l,x<256)(k:Nat):∀x∈l.take k,x<256:=λx hx=>h x (bf hx)
theorem GT (p l:List Nat):p.isPrefixOf l=decide (p.length<=l.length/\l.take p.length=p):=by
 rw[p9,dQL,VJ];constructor
 ·rintro⟨t,rfl⟩;exact⟨by simp,by simp⟩
 ·rintro⟨h1,h2⟩;refine⟨l.drop p.length,?_⟩;have:=dE p.length l;rw[h2] at this;exact this
theorem R4 (l p:List Nat)(w:World)(hl:∀x∈l,x<256)(hp:∀x∈p,x<256):
  Fn Tryz.prog 154 [.string (Qf l),.string (Qf p)] w (λv w'=>v= .bool (p.isPrefixOf l)/\w=w'):=by
 refine QH (c:=fQj) Qa Tryz.func154 rfl rfl rfl ?_;refine Qz (λh1=>?_) (λh1=>?_)
 ·rw[Xi,Xi] at h1;refine need ⟨by omega,by omega,by rw[Xi,Xi];omega⟩ ?_;refine⟨?_,rfl⟩;rw[GT];congr 1;refine wC.2 ?_;simp only[io,Int.toNat_zero];rw[VN,tw,Xi];exact⟨λh=>⟨by omega,Kg (B8.take hl _) hp h⟩,λh=>by rw[h.2]⟩
 ·rw[Xi,Xi] at h1;exact⟨by rw[GT,Zn (λh=>h1 (by omega))],rfl⟩
def wY (l p:List Nat):Value:=if p.isPrefixOf l then .tuple #[.string (Qf (l.drop p.length)),.bool true] else .tuple #[.string (Qf l),.bool false]
theorem fQ4 (l p:List Nat)(w:World)(hl:∀x∈l,x<256)(hp:∀x∈p,x<256):
  Fn Tryz.prog 231 [.string (Qf l),.string (Qf p)] w (λv w'=>v=wY l p/\w=w'):=by
 refine QH (c:=fQ1) Qa Tryz.func231 rfl rfl rfl ?_;refine call (R4 l p w hl hp) ?_;rintro v w1 ⟨rfl,rfl⟩;unfold wY;cases vT:p.isPrefixOf l with
 | false=>
  refine Xc rfl ?_;exact⟨rfl,rfl⟩
 | true=>
  refine Q7 rfl ?_;have ZL:p.length<=l.length:=by rw[GT] at vT;exact(YC vT).1
  refine need ⟨by omega,by rw[Xi,Xi];omega,by omega⟩ ?_;refine⟨?_,rfl⟩;simp only[io,Xi];rw[VN,Jv (QC _)]<;>rfl
theorem fQ5 (l p:List Nat)(w:World)(hl:∀x∈l,x<256)(hp:∀x∈p,x<256):
  Fn Tryz.prog 200 [.string (Qf l),.string (Qf p)] w (λv w'=>v=wY l p/\w=w'):=by
 refine QH (c:=fQK) Qa Tryz.func200 rfl rfl rfl ?_;refine call (fQ4 l p w hl hp) ?_;rintro v w1 ⟨rfl,rfl⟩;unfold wY;split
 ·exact⟨rfl,rfl⟩
 ·exact⟨rfl,rfl⟩
def eU (k:Nat):List Value:=(List.range 256).map λj=>.bool (decide (0<k/\j=32)||decide (1<k/\j=9))
theorem qF (k:Nat):(eU k).length=256:=by simp[eU]
theorem GU {k j:Nat}(h:j<256):(eU k)[j]? =some (.bool (decide (0<k/\j=32)||decide (1<k/\j=9))):=by
 unfold eU;rw[aq,List.getElem?_range h]<;>rfl
theorem R5 (k:Nat):∀u∈eU k,JF u=true:=λu hu=>by
 unfold eU at hu;simp only[ZG] at hu;obtain⟨j,_,rfl⟩:=hu;rfl
theorem fQ6 {k x:Nat}(hk:k<2)(hx: [32,9][k]? =some x):(eU k).set x (.bool true)=eU (k+1):=by
 apply Bc;intro j;by_cases hj:j<256
 ·rw[Ga,GU hj,GU hj,qF];have V7:k=0∨k=1:=by omega
  rcases V7 with rfl | rfl
  ·simp at hx;subst hx;split
   ·rename_i e;subst e;simp
   ·rename_i e;have:¬j=32:=λh=>e h.symm
    simp[this]
  ·simp at hx;subst hx;split
   ·rename_i e;subst e;simp
   ·rename_i e;have:¬j=9:=λh=>e h.symm
    simp[this]
 ·rw[nA (by rw[gb,qF];omega),nA (by rw[qF];omega)]
set_option maxRecDepth 20000 in
theorem fQ7 (w:World):Fn Tryz.prog 228 [.string (Qf [32,9])] w (λv w'=>v= .tuple #[.agg (eU 2).toArray,.bool true]/\Ext w w'):=by
 refine QH (c:=fQZ) Qa Tryz.func228 rfl rfl rfl ?_;refine new (λw1 Qd Q9 Qh=>?_);have vg:Blk w1 w.heap.size 302 (eU 0):=Qh;clear Qh;refine loop Qa [4] (λk:Nat=>[.int .i64 k]) (λk w'=>k<=2/\Ext w w'/\Blk w' w.heap.size 302 (eU k)) (λk _=>2-k) 0 rfl ⟨by omega,Qd,vg⟩ ?_;rintro k w2 ⟨hk,Qg,Qv⟩;refine Qz (λh1=>?_) (λh1=>?_)
 ·have V7:k<2:=by
   have:((Qf [32,9]).size:Int)=2:=rfl;omega
  refine dL (s:=Qf [32,9]) (by show k<2;exact V7) (λx hx Lq=>?_);have KP: [32,9][k]? =some x:=by rw[WB (by decide)] at hx;exact hx
  have gU:x<128:=by
   have:k=0∨k=1:=by omega
   rcases this with rfl | rfl
   ·simp at KP;omega
   ·simp at KP;omega
  refine XF (by omega) ?_;refine BT (j:=x) rfl (by omega) ?_;refine XQ Qv (by rw[qF];omega) (λw3 XD Qu=>?_);rw[fQ6 V7 KP] at Qu;refine Qj ((k+1:Nat):Int) (by omega) (by omega) ?_;exact⟨k+1,rfl,⟨by omega,XD.ext Qg (λi hi=>by omega),Qu⟩,by show 2-(k+1)<2-k;omega⟩
 ·have V7:k=2:=by
   have:((Qf [32,9]).size:Int)=2:=rfl;omega
  subst V7;refine Qt Qv (qF 2) ?_;refine Qw Qv rfl (R5 2) (λw3 Je _ Qu=>?_);refine Qt Qu (qF 2) ?_;exact⟨rfl,Qg.own Je (QC _)⟩
theorem fQ8 (g x:Nat)(w:World)(hB:Blk w g 302 (eU 2))(hx:x<256):
  Fn Tryz.prog 245 [.pointer (some ⟨g,0,none⟩),.int .u8 x] w (λv w'=>v= .bool (x==32||x==9)/\w=w'):=by
 refine QH (c:=fQ2) Qa Tryz.func245 rfl rfl rfl ?_;refine BT (j:=x) rfl (by omega) ?_;refine Qp hB (GU hx) ?_;refine⟨?_,rfl⟩;have e:∀y:Nat,(x==y)=decide (x=y):=λy=>rfl
 simp[e]
theorem fQ9 (g:Nat)(l:List Nat)(w:World)(hB:Blk w g 302 (eU 2))(hl:∀x∈l,x<256)(_:l.length<=9223372036854775807):
  Fn Tryz.prog 229 [.string (Qf l),.pointer (some ⟨g,0,none⟩)] w (λv w'=>v= .string (Qf (ZN l))/\Ext w w'):=by
 refine QH (c:=fQ0) Qa Tryz.func229 rfl rfl rfl ?_;refine loop Qa [0] (λm:List Nat=>[.string (Qf m)]) (λm w'=>Ext w w'/\ZN m=ZN l/\(∀x∈m,x<256)) (λm _=>m.length) l rfl ⟨Ext.refl _,rfl,hl⟩ ?_;rintro m w1 ⟨Qd,hm,Jr⟩;refine Qz (λh1=>?_) (λh1=>?_)
 ·cases m with
  | nil=>simp[Xi] at h1
  | cons x m=>
   refine dL (s:=Qf (x::m)) (by rw[Xi];simp) (λy hy Lt=>?_);have jp:y=x:=by rw[WB Jr] at hy;simpa using hy.symm
   subst jp;refine call (fQ8 g y w1 (hB.ext Qd) Lt) ?_;rintro v w2 ⟨rfl,rfl⟩;cases hb:(y==32||y==9)with
   | false=>
    refine Xc rfl ?_;refine⟨?_,Qd⟩;rw[<-hm];unfold ZN;rw[qa,hb]<;>rfl
   | true=>
    refine Q7 rfl ?_;refine need ⟨by omega,by omega,by omega⟩ ?_;refine⟨m,?_,⟨Qd,?_,λz hz=>Jr z (by simp[hz])⟩,by simp⟩
    ·have e:(Qf (y::m)).extract (Int.toNat 1) (((Qf (y::m)).size:Int)).toNat=Qf m:=by
      rw[VN,Xi,io,Jv (QC _)]<;>rfl
     rw[e]<;>rfl
    ·rw[<-hm];unfold ZN;rw[qa,hb]<;>rfl
 ·cases m with
  | nil=>exact⟨by rw[<-hm];rfl,Qd⟩
  | cons x m=>rw[Xi] at h1;simp at h1
set_option maxRecDepth 20000 in
theorem gQa (l:List Nat)(w:World)(hl:∀x∈l,x<256)(Q0:l.length<=9223372036854775807):
  Fn Tryz.prog 199 [.string (Qf l),.string (Qf [32,9])] w (λv w'=>v= .string (Qf (ZN l))/\Ext w w'):=by
 refine QH (c:=fQJ) Qa Tryz.func199 rfl rfl rfl ?_;refine Qz (λh1=>?_) (λh1=>?_)
 ·have:l=[]:=Kg hl (by simp) (h1.trans rfl);subst this;exact⟨rfl,Ext.refl _⟩
 refine XF (by decide) ?_;refine XG (by decide) ?_;refine call (fQ7 w) ?_;rintro v w1 ⟨rfl,Qd⟩;refine new (λw2 Qg Zi Qv=>?_);refine Qw Qv (qF 2) (R5 2) (λw3 Je _ Qu=>?_);have XI:=XV Qg Qv Je;refine Xc rfl ?_;refine call (fQ9 w1.heap.size l w3 Qu hl Q0) ?_;rintro v w4 ⟨rfl,Qs⟩;exact⟨rfl,Qd.trans (XI.trans Qs)⟩
end
section
theorem gQb {P:Program}{f:FuncId}{l:List Value}{w:World}{v:Value}{R:World->Prop}(h:Calls P f l.toArray w λe w'=>e= .returned v/\R w'):Fn P f l w (λu w'=>u=v/\R w'):=by
 unfold Fn;exact h.mono λe w' he=>by obtain⟨rfl,h⟩:=he;exact⟨rfl,h⟩
theorem qQZ {w w':World}(h:Below w.heap.size w w'):Ext w w':=⟨h.os,h.tape,h.output,h.size,λk hk _=>h.block k hk⟩
theorem GV (r:Nat):Ze r=true↔(r=95∨(97<=r/\r<=122)∨(65<=r/\r<=90)∨(48<=r/\r<=57)):=by
 unfold Ze bm isDig;simp;omega
theorem gQc (r:Nat)(w:World):Fn Tryz.prog 220 [.int .i32 r] w (λv w'=>v= .bool (!Ze r)/\w=w'):=by
 have hb:Ze r=decide (r=95∨(97<=r/\r<=122)∨(65<=r/\r<=90)∨(48<=r/\r<=57)):=by rw[p9,GV,VJ]
 rw[hb];refine QH (c:=fQT) Qa Tryz.func220 rfl rfl rfl ?_;have oQQ:r=95∨(97<=r/\r<=122)∨(65<=r/\r<=90)∨(48<=r/\r<=57)∨r<48∨(57<r/\r<65)∨(90<r/\r<95)∨r=96∨122<r:=by omega
 rcases oQQ with h | h | h | h | h | h | h | h | h <;>
  repeat (first | refine tM (by omega) ?_ | refine YU (by omega) ?_ | refine Zq (by omega) ?_ | refine XF (by omega) ?_ | refine Xc rfl ?_ | refine Q7 rfl ?_)
 all_goals refine⟨?_,rfl⟩
 all_goals congr 1
 all_goals first
  | (
    have hP:(r=95∨(97<=r/\r<=122)∨(65<=r/\r<=90)∨(48<=r/\r<=57)):=by omega
    rw[X2 hP];first | rfl | exact Zn (by omega) | exact X2 (by omega))
  | (
    have hP:¬(r=95∨(97<=r/\r<=122)∨(65<=r/\r<=90)∨(48<=r/\r<=57)):=by omega
    rw[Zn hP];first | rfl | exact X2 (by omega) | exact Zn (by omega))
theorem R6 {s:ByteArray}{pos:Nat}(h:pos<s.size):s.get! pos=s[pos]:=by
 simp[ByteArray.get!,ByteArray.getElem_eq_getElem_data,getElem!_pos s.data pos h]
theorem gQd {s:ByteArray}{pos:Nat}(h:pos<s.size)(ha:s[pos].toNat<128):Utf8.decode s pos=(s[pos].toNat,1):=by
 unfold Utf8.decode;simp only[Nat.add_zero,R6 h];rw[Qe ha]
theorem gQe {s:ByteArray}{pos:Nat}(h:pos<s.size)(ha:¬s[pos].toNat<128):128<=(Utf8.decode s pos).1:=by
 unfold Utf8.decode;simp only[Nat.add_zero,R6 h];rw[if_neg ha];have he:128<=Utf8.runeError:=by decide
 split
 ·split
  ·assumption
  ·exact he
 split
 ·split
  ·rename_i h1;simp at h1;exact X4 (by decide) h1.1
  ·exact he
 split
 ·split
  ·rename_i h1;simp at h1;exact X4 (by decide) h1.1
  ·exact he
 ·exact he
theorem R7 (s:ByteArray):∀(f pos:Nat),s.size<=pos+f->pos<=s.size->
  Lib.idxFuncFrom (λr=> !Ze r) true s f pos=if((Wa s).drop pos).all Ze then -1 else((pos+(((Wa s).drop pos).takeWhile Ze).length:Nat):Int)
 | 0,pos,h,hp=>by
  rw[tv (by rw[wS];omega)];rfl
 | f+1,pos,h,hp=>by
  unfold Lib.idxFuncFrom;by_cases aT:pos<s.size
  ·rw[Qe aT];have hg:(Wa s).drop pos=s[pos].toNat::(Wa s).drop (pos+1):=by
    rw[av (by rw[wS];exact aT)];congr 1;have:=RC aT;exact(ZM.1 this).2
   rw[hg];by_cases ha:s[pos].toNat<128
   ·have hd:=gQd aT ha;rw[hd]
    dsimp only
    cases hi:Ze s[pos].toNat with
    | true=>
     rw[if_neg (by simp),R7 s f (pos+1) (by omega) (by omega)];simp only[wu,hi,bg,bN,if_true,Q6];split
     ·rfl
     ·congr 1;omega
    | false=>
     rw[Qe (by simp)];simp[hi]
   ·have hi:Ze s[pos].toNat=false:=by
     cases e:Ze s[pos].toNat with
     | false=>rfl
     | true=>have:=(GV _).1 e;omega
    have hd:Ze (Utf8.decode s pos).1=false:=by
     have pQC:=gQe aT ha;cases e:Ze (Utf8.decode s pos).1 with
     | false=>rfl
     | true=>have:=(GV _).1 e;omega
    rw[Qe (by rw[hd];rfl)];simp[hi]
  ·rw[if_neg aT,tv (by rw[wS];omega)];rfl
theorem gQf (l:List Nat)(w:World)(hl:∀x∈l,x<256):Fn Tryz.prog 219 [.string (Qf l),.func (.func 220) #[] #[]] w (λv w'=>v= .int .i64 (if l.all Ze then -1 else((l.takeWhile Ze).length:Nat))/\Ext w w'):=by
 refine QH (c:=fQS) Qa Tryz.func219 rfl rfl rfl ?_;have hp:Go.Proofs.PredAt Tryz.prog 220 #[] Go.Proofs.encR (λr=> !Ze r) w:=λW r _=>by
  have h:=gQc r W;unfold Fn at h;exact h.mono λe w' he=>by
   cases e with
   | returned v=>obtain⟨rfl,rfl⟩:=he;exact⟨rfl,0,rfl⟩
   | panicked ch=>exact he.elim
   | outgrown=>exact he.elim
 have hc:=Tryz.strings_indexFunc 220 #[] (Go.Proofs.enters_of Tryz.func220 rfl rfl) (λr=> !Ze r) true (Qf l) w hp;refine call (gQb hc) ?_;rintro v w1 ⟨rfl,hb⟩;refine⟨?_,qQZ hb⟩;unfold Lib.idxFunc;rw[R7 (Qf l) _ 0 (by omega) (Xt _),WB hl,tw,a8]
end
end
section
structure KeyQ {α:Type} [DecidableEq α] (P:Program) (ke:Nat) (kv:α->Value):Prop where
 find:∀(a:α) (m:List (α×Value)) (bs:List Nat) (w:World),bs.length=m.length->
  ∃r,(Instr.findKey ke (kv a) (XW kv m bs)).run P w= .ok r w/\r.map (·.2)=XC a m/\(∀j v,r=some (j,v)->∀v',XW kv (Zg a v' m) bs=(XW kv m bs).modify j (λe=>{e with key:=kv a,val:=v'})/\((XW kv m bs)[j]?).map (·.key)=some (kv a))/\(r=none->∀v',Zg a v' m=m++ [(a,v')])
 check:∀b a w,(Instr.checkKey b 10000 ke (kv a)).run P w= .ok () w
 bits:∀a,Instr.sameBits 10000 (kv a) (kv a)=true
theorem GW {α:Type} [DecidableEq α]{P:Program}{ke:Nat}{kv:α->Value}(a:α)(w:World)(heq:∀b:α,(Op.equal ke (kv a) (kv b)).run P w= .ok (decide (a=b)) w):∀(m:List (α×Value))(bs:List Nat)(i:Nat),bs.length=m.length->
  ∃r,(Instr.findAsking ke (kv a) (XW kv m bs) i).run P w= .ok r w/\r.map (·.2)=XC a m/\(∀j v,r=some (j,v)->i<=j/\∀v',XW kv (Zg a v' m) bs=(XW kv m bs).modify (j-i) (λe=>{e with key:=kv a,val:=v'})/\((XW kv m bs)[j-i]?).map (·.key)=some (kv a))/\(r=none->∀v',Zg a v' m=m++ [(a,v')])
 | [],bs,i,h=>⟨none,by simp[XW,Instr.findAsking],rfl,(λj v h=>by cases h),λ_ v'=>rfl⟩
 | (b,u)::m,[],i,h=>by simp at h
 | (b,u)::m,s::bs,i,h=>by
  have e:XW kv ((b,u)::m) (s::bs)={key:=kv b,val:=u,born:=s}::XW kv m bs:=rfl;rw[e];unfold Instr.findAsking;simp only[Sem.run_bind,heq,Result.andThen_ok];by_cases Yx:a=b
  ·subst Yx;simp only[decide_true,if_true];refine⟨some (i,u),by simp,by simp[XC],λj v hj=>?_,λh=>by cases h⟩;cases hj;refine⟨QC _,λv'=>?_⟩;simp[Zg,XW]
  ·simp only[Yx,decide_false,PS,if_false];obtain⟨r,h1,h2,h3,h4⟩:=GW a w heq m bs (i+1) (by simpa using h);refine⟨r,h1,by simp[XC,Yx,h2],λj v hj=>?_,λhn v'=>by simp[Zg,Yx,h4 hn v']⟩;obtain⟨h5,h7⟩:=h3 j v hj;refine⟨by omega,λv'=>?_⟩;obtain⟨h8,h9⟩:=h7 v';rw[show j-i=(j-(i+1))+1 by omega];refine⟨?_,by simpa using h9⟩;simp only[Zg,Yx,if_false];rw[show XW kv ((b,u)::Zg a v' m) (s::bs)={key:=kv b,val:=u,born:=s}::XW kv (Zg a v' m) bs from rfl,h8];simp
theorem qQ7 {α:Type} [DecidableEq α]{P:Program}{ke:Nat}{kv:α->Value}{fs:Array Field}(hu:P.underlying ke=some (.struct fs))
  (heq:∀(a b:α) (w:World),(Op.equal ke (kv a) (kv b)).run P w= .ok (decide (a=b)) w) (hc:∀b a w,(Instr.checkKey b 10000 ke (kv a)).run P w= .ok () w) (hb:∀a,Instr.sameBits 10000 (kv a) (kv a)=true):KeyQ P ke kv:=by
 refine⟨λa m bs w hl=>?_,hc,hb⟩;have key:=GW (P:=P) (ke:=ke) (kv:=kv) a w (λb=>heq a b w) m bs 0 hl;obtain⟨r,h1,h2,h3,h4⟩:=key;refine⟨r,?_,h2,λj v hj v'=>by simpa using (h3 j v hj).2 v',h4⟩;unfold Instr.findKey;simp only[Sem.run_bind,ZX hu,Result.andThen_ok];cases m with
 | nil=>
  simp only[XW,List.zip_nil_left,wv,Instr.findNow,Sem.run_pure];simp[XW,Instr.findAsking] at h1;rw[h1]
 | cons p m=>
  cases bs with
  | nil=>simp at hl
  | cons s bs=>
   have e:XW kv (p::m) (s::bs)={key:=kv p.1,val:=p.2,born:=s}::XW kv m bs:=rfl;rw[e] at h1 ⊢;have hn:Instr.findNow (.struct fs) (kv a) ({key:=kv p.1,val:=p.2,born:=s}::XW kv m bs) 0=none:=by
    simp[Instr.findNow,Instr.sameNow]
   rw[hn];exact h1
structure MapQ {α:Type} (kv:α->Value) (w:World) (r:Nat) (m:List (α×Value)):Prop where
 ex:∃bs ck,bs.length=m.length/\bs.Nodup/\(∀b∈bs,b<ck)/\w.heap[r]? =some (.map (XW kv m bs).toArray ck)
theorem MapQ.ext {α:Type}{kv:α->Value}{w w':World}{r:Nat}{m:List (α×Value)}(h:MapQ kv w r m)(k:Ext w w'):MapQ kv w' r m:=by
 obtain⟨bs,ck,hl,h1,h2,hb⟩:=h.ex;exact⟨bs,ck,hl,h1,h2,(k.block r (f9.1 hb).1 (by simp)).trans hb⟩
theorem MapQ.mod {α:Type}{kv:α->Value}{S:Nat->Prop}{w w':World}{r:Nat}{m:List (α×Value)}(h:MapQ kv w r m)(k:Mod S w w')(hn:¬S r):MapQ kv w' r m:=by
 obtain⟨bs,ck,hl,h1,h2,hb⟩:=h.ex;exact⟨bs,ck,hl,h1,h2,(k.block r (f9.1 hb).1 hn).trans hb⟩
theorem tU {α:Type}{c:Cx}(_:c.g.Ok){o:Oper}{S:Env}{w:World}{K:Env->World->Prop}{Q:Zj}{t:Nat}(kv:α->Value)(ho:o.op= .makeMap t none)
  (k:∀w1,Ext w w1->w1.heap.size=w.heap.size+1->MapQ kv w1 w.heap.size []->Xh c S o.dst (.v (.map (some w.heap.size))) (λS=>K S w1)):Zc c o S w K Q:=by
 refine JG (w':=w.alloc (.map #[] 0)) (λa hf=>?_) (k _ (Ext.alloc w _) (by simp) ⟨[],0,rfl,List.nodup_nil,by simp,heap_alloc_new w _⟩);simp[execOp,ho,Instr.makeMap]
section
variable {α:Type} [DecidableEq α] {kv:α->Value} {c:Cx} {o:Oper} {S:Env} {w:World} {K:Env->World->Prop} {Q:Zj} {t ke e:Nat} {r re:TyRow} {x y:Operand} {q:Nat} {m:List (α×Value)} {a:α}
theorem R8 (hg:c.g.Ok)(hr:QU c.g.tys t=some r)(hd:r.d= .map ke e)(X8:QU c.g.tys e=some re)(hk:KeyQ c.g.P ke kv)(hm:MapQ kv w q m)(ok:Bool):
  (Instr.lookup t (.map (some q)) (kv a) ok).run c.g.P w= .ok (if ok then .tuple #[(XC a m).getD re.z,.bool (XC a m).isSome] else(XC a m).getD re.z) w:=by
 have Q4:=(hg.row hr).1;rw[hd] at Q4;obtain⟨_,i,hi,_,_,cy⟩:=hg.row X8;obtain⟨bs,ck,hl,_,_,hb⟩:=hm.ex;obtain⟨res,h1,h2,_,_⟩:=hk.find a m bs w hl;have eF:(getObj q).run c.g.P w= .ok (.map (XW kv m bs).toArray ck) w:=by simp[getObj,Sem.run,hb]
 have hz:(zeroValue e).run c.g.P w= .ok re.z w:=by simp[zeroValue,typeInfo,hi,cy]
 simp only[Instr.lookup,Sem.run_bind,ZX Q4,Result.andThen_ok,eF,Sem.run_pure,hk.check,h1];rw[<-h2];cases res with
 | none=>cases ok<;>simp[hz]
 | some p=>cases ok<;>simp
theorem GX (hg:c.g.Ok)(ho:o.op= .lookup t x y true)(hr:QU c.g.tys t=some r)(hd:r.d= .map ke e)(X8:QU c.g.tys e=some re)(hk:KeyQ c.g.P ke kv)
  (hx:S.ev x=some (.map (some q))) (hy:S.ev y=some (kv a)) (hm:MapQ kv w q m)
  (k:Xh c S o.dst (.v (.tuple #[(XC a m).getD re.z,.bool (XC a m).isSome])) (λS=>K S w)):Zc c o S w K Q:=by
 refine JG (w':=w) (λb hf=>?_) k;have e1:=hf.ev hx;have e2:=hf.ev hy;have:=R8 (w:=w) (a:=a) hg hr hd X8 hk hm true;simp only[execOp,ho,e1,e2];simp only[Sem.run_bind,this,Result.andThen_ok];simp
theorem R9 {α:Type} [DecidableEq α](a:α)(v:Value):∀(m:List (α×Value)),(XC a m).isSome->(Zg a v m).length=m.length
 | [],h=>by simp[XC] at h
 | (b,x)::m,h=>by
  simp only[Zg];split
  ·simp
  ·rename_i Yx;simp[R9 a v m (by simpa [XC,Yx] using h)]
theorem tV {v:Value}{z:Operand}(hg:c.g.Ok)(ho:o.op= .mapUpdate t x y z)(jo:o.dst=none)(hr:QU c.g.tys t=some r)(hd:r.d= .map ke e)(hk:KeyQ c.g.P ke kv)
  (hx:S.ev x=some (.map (some q))) (hy:S.ev y=some (kv a)) (hz:S.ev z=some v) (hm:MapQ kv w q m)
  (k:∀w1,Mod (·=q) w w1->w1.heap.size=w.heap.size->MapQ kv w1 q (Zg a v m)->K S w1):Zc c o S w K Q:=by
 have Q4:=(hg.row hr).1;rw[hd] at Q4;obtain⟨bs,ck,hl,hnd,OI,hb⟩:=hm.ex;have Xe:q<w.heap.size:=(f9.1 hb).1;obtain⟨res,h1,h2,h3,h4⟩:=hk.find a m bs w hl;have eF:(getObj q).run c.g.P w= .ok (.map (XW kv m bs).toArray ck) w:=by simp[getObj,Sem.run,hb]
 have fO:∀ob,(setObj q ob).run c.g.P w= .ok () {w with heap:=w.heap.setIfInBounds q ob}:=λob=>by simp[setObj,Sem.run,hb]
 have main:∃ob,(Instr.mapUpdate t (.map (some q)) (kv a) v).run c.g.P w= .ok () {w with heap:=w.heap.setIfInBounds q ob}/\∃ah ck',ah.length=(Zg a v m).length/\ah.Nodup/\(∀b∈ah,b<ck')/\ob= .map (XW kv (Zg a v m) ah).toArray ck':=by
  cases res with
  | none=>
   refine⟨_,?_,bs++ [ck],ck+1,?_,?_,?_,rfl⟩
   ·simp only[Instr.mapUpdate,Sem.run_bind,ZX Q4,Result.andThen_ok,eF,hk.check,h1,fO];rw[h4 rfl v];congr 4;simp only[XW];rw[List.zip_append hl.symm,be];simp
   ·rw[h4 rfl v];simp[hl]
   ·rw[Gb];refine⟨hnd,by simp,λx hx y hy=>?_⟩;simp at hy;have:=OI x hx;omega
   ·intro b hb';simp only[Xv,QL] at hb';rcases hb' with hb' | rfl
    ·have:=OI b hb';omega
    ·omega
  | some p=>
   obtain⟨j,u⟩:=p;obtain⟨h8,h9⟩:=h3 j u rfl v;have OH:(((XW kv m bs).toArray[j]?).map (·.key)).getD (kv a)=kv a:=by
    rw[show(XW kv m bs).toArray[j]? =(XW kv m bs)[j]? from by simp,h9]<;>rfl
   refine⟨_,?_,bs,ck,?_,hnd,OI,rfl⟩
   ·simp only[Instr.mapUpdate,Sem.run_bind,ZX Q4,Result.andThen_ok,eF,hk.check,h1,OH,Instr.keyThatStays,hk.bits,if_true,Sem.run_pure,fO];rw[h8];congr 4;simp
   ·rw[R9 a v m (by rw[<-h2];rfl),hl]
 obtain⟨ob,Jg,ah,ck',dv,oQR,oQS,rfl⟩:=main;unfold Zc;intro b hf;have e1:=hf.ev hx;have e2:=hf.ev hy;have e3:=hf.ev hz;unfold Oper.wp;have:(execOp b.eval o).run c.g.P w= .ok .skip {w with heap:=w.heap.setIfInBounds q (.map (XW kv (Zg a v m) ah).toArray ck')}:=by
  simp only[execOp,ho,e1,e2,e3];simp[Jg]
 rw[this];refine⟨S,by rw[jo];simpa [Act.put] using hf,k _ ⟨rfl,rfl,rfl,by simp,λi _ hi=>?_⟩ (by simp) ⟨ah,ck',dv,oQR,oQS,?_⟩⟩
 ·simp only[F8];rw[if_neg (λe=>hi e.symm)]
 ·simp[Xe]
structure RangeQ {α:Type} (kv:α->Value) (w:World) (r q:Nat) (m L:List (α×Value)) (ZK:Option (α×Value)):Prop where
 ex:∃bs ck seen since,bs.length=m.length/\bs.Nodup/\(∀b∈bs,b<since)/\since<=ck/\w.heap[q]? =some (.map (XW kv m bs).toArray ck)/\w.heap[r]? =some (.mapIter (some q) since seen ck)/\
  L=((m.zip bs).filter λp=> !seen.contains p.2).map (·.1)/\(∀p,ZK=some p->∃(b:Nat) (s:Array Nat),seen=s.push b/\(p,b)∈m.zip bs)
theorem RangeQ.mod {α:Type}{kv:α->Value}{S:Nat->Prop}{w w':World}{r q:Nat}{m L:List (α×Value)}{ZK:Option (α×Value)}(h:RangeQ kv w r q m L ZK)(k:Mod S w w')(hr:¬S r)(hq:¬S q):RangeQ kv w' r q m L ZK:=by
 obtain⟨bs,ck,seen,since,h1,h2,h3,h4,h5,h6,h7⟩:=h.ex;exact⟨bs,ck,seen,since,h1,h2,h3,h4,(k.block q (f9.1 h5).1 hq).trans h5,(k.block r (f9.1 h6).1 hr).trans h6,h7⟩
theorem RangeQ.ext {α:Type}{kv:α->Value}{w w':World}{r q:Nat}{m L:List (α×Value)}{ZK:Option (α×Value)}(h:RangeQ kv w r q m L ZK)(k:Ext w w'):RangeQ kv w' r q m L ZK:=
 h.mod (Mod.of_ext (λ_=>False) k) (λh=>h) (λh=>h)
end
section
variable {α:Type} {kv:α->Value} {c:Cx} {o:Oper} {S:Env} {w:World} {K:Env->World->Prop} {Q:Zj} {t ke e:Nat} {r:TyRow} {x:Operand} {q it:Nat} {m L:List (α×Value)} {ZK:Option (α×Value)}
end
end
section
section
theorem gQg {p:Nat->Bool}{l:List Nat}(h:l.all p=true):l.takeWhile p=l:=by
 induction l with
 | nil=>rfl
 | cons x l ih=>
  simp only[wu,Z4] at h;rw[bN,Qe h.1,ih h.2]
theorem GY (b:Nat)(l:List Nat):VL (b::l)=if isDig b then 0 else((b::l).takeWhile Ze).length:=rfl
theorem Sa (l:List Nat):VL l<=l.length:=by
 cases l with
 | nil=>exact QC _
 | cons b l=>
  rw[GY];split
  ·exact Xt _
  ·exact(PU _).length_le
theorem Sb (l:List Nat)(w:World)(hl:∀x∈l,x<256)(Q0:l.length<=9223372036854775807):
  Fn Tryz.prog 191 [.string (Qf l)] w (λv w'=>v= .int .i64 (VL l:Nat)/\Ext w w'):=by
 refine QH (c:={fQC with cuts:=[2]}) Qa Tryz.func191 rfl rfl rfl ?_;refine call (gQf l w hl) ?_;rintro v w1 ⟨rfl,Qd⟩;have hT:(l.takeWhile Ze).length<=l.length:=(PU _).length_le;refine eT [] Qa [3] (λn:Nat=>[.int .i64 n]) (λn w'=>w1=w'/\n=(l.takeWhile Ze).length) ?_ ?_
 ·cases ha:l.all Ze with
  | true=>
   rw[Qe rfl];refine Zq (by omega) ?_;exact⟨(Qf l).size,rfl,rfl,by rw[Xi,gQg ha]⟩
  | false=>
   rw[if_neg (by simp)];refine XF (by omega) ?_;exact⟨(l.takeWhile Ze).length,rfl,rfl,rfl⟩
 rintro n _ ⟨rfl,hn⟩;cases l with
 | nil=>
  have:n=0:=by simpa using hn
  subst this;refine XF (by omega) ?_;exact⟨rfl,Qd⟩
 | cons b l=>
  have Lu:=hl b (by simp);have hS:(Qf (b::l)).size=l.length+1:=by rw[Xi]<;>rfl
  by_cases hd:isDig b=true
  ·have kG:Ze b=true:=by unfold Ze;rw[hd,Bool.or_true]
   have Fu:48<=b/\b<=57:=by unfold isDig at hd;simpa using hd
   have ki:0<n:=by rw[hn,bN,Qe kG];simp
   refine Zq (by omega) ?_;refine dL (s:=Qf (b::l)) (j:=0) (by rw[hS];omega) (λx hx Lq=>?_);have Jt:x=b:=by rw[WB hl] at hx;simpa using hx.symm
   subst Jt;refine Zq (by omega) ?_;refine dL (s:=Qf (x::l)) (j:=0) (by rw[hS];omega) (λy hy Lt=>?_);have eG:y=x:=by rw[WB hl] at hy;simpa using hy.symm
   subst eG;refine Zq (by omega) ?_;exact⟨by rw[GY,Qe hd];rfl,Qd⟩
  ·have kG:VL (b::l)=n:=by rw[GY,if_neg hd,hn]
   rw[kG];by_cases ki:0<n
   ·have Fu:¬(48<=b/\b<=57):=λh=>hd (by unfold isDig;simpa using h)
    refine Zq (by omega) ?_;refine dL (s:=Qf (b::l)) (j:=0) (by rw[hS];omega) (λx hx Lq=>?_);have Jt:x=b:=by rw[WB hl] at hx;simpa using hx.symm
    subst Jt;refine Qz (λh1=>?_) (λh1=>?_)
    ·refine dL (s:=Qf (x::l)) (j:=0) (by rw[hS];omega) (λy hy Lt=>?_);have eG:y=x:=by rw[WB hl] at hy;simpa using hy.symm
     subst eG;refine XF (by omega) ?_;exact⟨rfl,Qd⟩
    ·exact⟨rfl,Qd⟩
   ·refine XF (by omega) ?_;exact⟨rfl,Qd⟩
def X9 (l:List (List Nat)):List Value:=l.map λs=>.string (Qf s)
theorem lj {l:List (List Nat)}{j:Nat}{s:List Nat}(h:l[j]? =some s):(X9 l)[j]? =some (.string (Qf s)):=by simp[X9,h]
theorem bn (l:List (List Nat)):(X9 l).length=l.length:=by simp[X9]
def WC:List Nat:=[116,114,117,101]
def cJ:List Nat:=[102,97,108,115,101]
def az (s:List Nat):Bool:=decide (s≠ []/\VL s=s.length/\s≠WC/\s≠cJ)
def YV:List (List Nat)->Nat->List (ByteArray×Value)->List (ByteArray×Value)
 | [],_,m=>m
 | s::l,i,m=>YV l (i+1) (Zg (Qf s) (.int .i64 (i:Nat)) m)
theorem Sc:∀(l:List (List Nat))(s:List Nat)(i:Nat)(m:List (ByteArray×Value)),YV (l++ [s]) i m=Zg (Qf s) (.int .i64 ((i+l.length:Nat):Int)) (YV l i m)
 | [],s,i,m=>rfl
 | t::l,s,i,m=>by
  simp only[Z5,YV];rw[Sc l s (i+1)];congr 3;simp only[Q6];omega
end
section
theorem gQh {α:Type}{kv:α->Value}{c:Cx}(hg:c.g.Ok){o:Oper}{S:Env}{w:World}{K:Env->World->Prop}{Q:Zj}{t q ke e:Nat}{x:Operand}{m:List (α×Value)}{r:TyRow}
  (ho:o.op= .call ⟨.builtin .len, #[x], #[t]⟩) (hr:QU c.g.tys t=some r) (hd:r.d= .map ke e) (hx:S.ev x=some (.map (some q))) (hm:MapAt kv w q m)
  (k:Xh c S o.dst (.v (.int .i64 m.length)) (λS=>K S w)):Zc c o S w K Q:=by
 have Q4:=(hg.row hr).1;rw[hd] at Q4;obtain⟨bs,ck,hl,hb⟩:=hm.ex;refine JG (w':=w) (v:=.int .i64 m.length) (λa hf=>?_) k;have e1:=hf.ev hx;have eF:(getObj q).run c.g.P w= .ok (.map (XW kv m bs).toArray ck) w:=by simp[getObj,Sem.run,hb]
 have ZL:(XW kv m bs).length=m.length:=by simp[XW,hl]
 simp only[execOp,ho,resolve,invoke];simp[builtin,e1,Builtin.len_,ZX Q4,eF,goInt,ZL]
abbrev Yh:ByteArray->Value:=λs=>.string s
def ZQ (names:List (List Nat)):Bool:=decide (names.all az=true/\(YV names 0 []).length=names.length/\names.length<=64)
theorem gQi {names:List (List Nat)}{j:Nat}{s:List Nat}(h:(names.take j).all az=true)(hj:names[j]? =some s)(hs:az s=true):(names.take (j+1)).all az=true:=by
 rw[V3,hj];simp[List.all_append,h,hs]
theorem Sd {names:List (List Nat)}{j:Nat}{s:List Nat}(hj:names[j]? =some s)(hs:az s≠true):ZQ names=false:=by
 unfold ZQ;refine Zn (λh=>hs ?_);exact J0.1 h.1 s (Xk hj)
theorem Sf {names:List (List Nat)}{j:Nat}{s:List Nat}(hj:names[j]? =some s):YV (names.take (j+1)) 0 []=Zg (Qf s) (.int .i64 (j:Nat)) (YV (names.take j) 0 []):=by
 have Xe:j<names.length:=(ZM.1 hj).1;rw[V3,hj];show YV (names.take j++ [s]) 0 []=_;rw[Sc,K5,nv (by omega),a8]
def KG (names:List (List Nat)):Prop:=∀s∈names,(∀x∈s,x<256)/\s.length<=9223372036854775807
theorem GZ (names:List (List Nat))(A:Option Addr)(n c:Nat)(w:World)(h:Sl w 1 A n c (X9 names))(hb:KG names):
  Fn Tryz.prog 132 [.slice A n c] w (λv w'=>∃v1,v= .tuple #[v1,.bool (ZQ names)]/\Ext w w'/\(ZQ names=true->∃r,v1= .map (some r)/\w.heap.size<=r/\MapAt Yh w' r (YV names 0 []))):=by
 have hn:names.length=n:=by have:=h.len;rw[bn] at this;omega
 have Lv:n<=9223372036854775807:=by have:=h.le;have:=h.cap;simp only[maxLen] at this;omega
 refine QH (c:={eQ0 with cuts:=[]}) Qa Tryz.func132 rfl rfl rfl ?_;refine wV Qa Yh rfl ?_;intro w1 Qd Q9 Zw;refine loop Qa [10] (λs:Nat=>[.int .i64 s]) (λs w'=>Ext w w'/\s<=n/\(names.take s).all az=true/\MapAt Yh w' w.heap.size (YV (names.take s) 0 [])) (λs _=>n-s) 0 rfl ⟨Qd,Xt _,rfl,Zw⟩ ?_;rintro s w3 ⟨Qi,aV,hall,XD⟩;refine Qz (λh3=>?_) (λh3=>?_)
 ·have sM:names[s]? =some names[s]:=XB (by omega);generalize names[s]=t at sM;obtain⟨ep,Wv⟩:=hb t (Xk sM);refine Vr (h.ext Qi) (by omega) (λad u hA hu Xy=>?_);rw[lj sM] at hu;cases hu;refine load Xy ?_;have pQD:=Qi;have bad:az t≠true->∀w',Ext w w'->∃v1,(.tuple #[.map none,.bool false]:Value)= .tuple #[v1,.bool (ZQ names)]/\Ext w w'/\(ZQ names=true->∃r,v1= .map (some r)/\w.heap.size<=r/\MapAt Yh w' r (YV names 0 [])):=λhb w' hE=>by
   refine⟨.map none,?_,hE,λh=>?_⟩
   ·rw[Sd sM hb]
   ·rw[Sd sM hb] at h;cases h
  have e0:((Qf t=(⟨#[]⟩:ByteArray))↔t=[]):=⟨λh=>Kg ep (by simp) h,λh=>by rw[h];rfl⟩
  have e1:((Qf t=(⟨#[116,114,117,101]⟩:ByteArray))↔t=WC):=⟨λh=>Kg ep (by decide) h,λh=>by rw[h];rfl⟩
  have e2:((Qf t=(⟨#[102,97,108,115,101]⟩:ByteArray))↔t=cJ):=⟨λh=>Kg ep (by decide) h,λh=>by rw[h];rfl⟩
  by_cases h4:t=[]
  ·refine Zq (e0.2 h4) ?_;exact bad (by unfold az;simp[h4]) _ Qi
  refine XF (λh=>h4 (e0.1 h)) ?_;refine call (Sb t w3 ep Wv) ?_;rintro v w4 ⟨rfl,Qs⟩;have hs4:((Qf t).size:Int)=(t.length:Nat):=by rw[Xi]
  by_cases h5:¬VL t=t.length
  ·refine tM (λh=>h5 (by omega)) ?_;exact bad (by unfold az;simp[h5]) _ (Qi.trans Qs)
  replace h5:=Decidable.not_not.1 h5;refine YU (by omega) ?_;by_cases h6:t=WC
  ·refine Zq (e1.2 h6) ?_;exact bad (by unfold az;simp[h6]) _ (Qi.trans Qs)
  refine XF (λh=>h6 (e1.1 h)) ?_;by_cases h7:t=cJ
  ·refine Zq (e2.2 h7) ?_;exact bad (by unfold az;simp[h7]) _ (Qi.trans Qs)
  refine XF (λh=>h7 (e2.1 h)) ?_;have XY:az t=true:=by unfold az;simp[h4,h5,h6,h7]
  refine lh (kv:=Yh) (a:=Qf t) Qa rfl rfl rfl rfl rfl qQU rfl rfl rfl (XD.ext Qs) (λw5 Js _ XT=>?_);refine Qj ((s+1:Nat):Int) (by omega) (by omega) ?_;refine⟨s+1,rfl,⟨(Qi.trans Qs).own Js (QC _),by omega,gQi hall sM XY,by rw[Sf sM];exact XT⟩,by show n-(s+1)<n-s;omega⟩
 ·have:s=n:=by omega
  subst this;have ht:names.take s=names:=Jv (by omega);rw[ht] at hall XD;refine gQh (kv:=Yh) Qa rfl rfl rfl rfl XD ?_;refine Zd (λh4=>?_) (λh4=>?_)
  ·refine⟨.map (some w.heap.size),?_,Qi,λ_=>⟨_,rfl,QC _,XD⟩⟩;have:decide ((names.length:Int)<=64)=ZQ names:=by unfold ZQ;exact wC.2 ⟨λh=>⟨hall,by omega,by omega⟩,λh=>by omega⟩
   rw[<-this,hn]
  ·refine⟨.map (some w.heap.size),?_,Qi,λ_=>⟨_,rfl,QC _,XD⟩⟩;have:ZQ names=false:=by unfold ZQ;exact Zn (λh=>by omega)
   rw[this]
end
end
section
section
theorem Xo {C:World->Prop}{p:Addr}{n:Nat}{vs:List Value}{K:List Value->Prop}(hl:vs.length=n)(h:∀w,C w->∀j v,vs[j]? =some v->w.cell? (p.add j)=some v)(k:K vs):tK C p n K:=by unfold tK;exact⟨vs,hl,h,k⟩
def nM (f:List Fz):List Value:=f.flatMap Fz.cells
theorem Sh (f:List Fz)(x:Fz):nM (f++ [x])=nM f++x.cells:=by simp[nM]
structure Rd (w:World) (base r:Nat) (A:Option Addr) (c:Nat) (mp:Value) (p:Ps):Prop where
 blk:Blk w r 222 [mp,.string (Qf p.r),.slice A p.f.length c,.bool p.u]
 own:Own w base 280 4 A p.f.length c (nM p.f)
 lt:r<base
 top:base<=w.heap.size
 b8:∀x∈p.r,x<256
 lim:p.f.length+p.r.length<=1000000000000
theorem Rd.ext {w w':World}{base r:Nat}{A:Option Addr}{c:Nat}{mp:Value}{p:Ps}(h:Rd w base r A c mp p)(k:Ext w w'):Rd w' base r A c mp p:=
 ⟨h.blk.ext k,h.own.ext k,h.lt,X4 h.top k.size,h.b8,h.lim⟩
def RdS (r:Nat)(A:Option Addr):Nat->Prop:=λk=>k=r∨Ql A k
def RdTo (w:World)(base r:Nat)(A:Option Addr)(mp:Value)(p:Ps)(w':World):Prop:=∃A' c',Rd w' base r A' c' mp p/\Mod (RdS r A) w w'/\Moved w A A'
theorem RdTo.step {w w1 w2:World}{base r:Nat}{A A1:Option Addr}{mp:Value}{p:Ps}(h:RdTo w1 base r A1 mp p w2)(hm:Mod (RdS r A) w w1)(hv:Moved w A A1):RdTo w base r A mp p w2:=by
 obtain⟨A2,c2,h2,XR,Kl⟩:=h;refine⟨A2,c2,h2,hm.trans XR (λi hi=>?_),hv.trans Kl hm.size⟩;rcases hi with rfl | hi
 ·exact .inl (.inl rfl)
 ·rcases hv.rows i hi with h | h
  ·exact .inl (.inr h)
  ·exact .inr h
theorem Rd.nrow {w:World}{base r:Nat}{A:Option Addr}{c:Nat}{mp:Value}{p:Ps}(h:Rd w base r A c mp p):¬Ql A r:=λhr=>by
 have:=(h.own.rows r hr).1;have:=h.lt;omega
theorem tW (l:List Nat):(ZN l).length<=l.length:=(List.dropWhile_suffix _).sublist.length_le
theorem gQj {l:List Nat}(h:∀x∈l,x<256):∀x∈ZN l,x<256:=λx hx=>h x ((List.dropWhile_suffix _).subset hx)
theorem wZ (sym:List Nat)(p:Ps):Ks sym p=(sym.isPrefixOf (ZN p.r),{p with r:=if sym.isPrefixOf (ZN p.r)then(ZN p.r).drop sym.length else ZN p.r}):=by
 unfold Ks;cases sym.isPrefixOf (ZN p.r)<;>rfl
theorem tY (base r:Nat)(A:Option Addr)(c:Nat)(mp:Value)(p:Ps)(sym:List Nat)(w:World)(h:Rd w base r A c mp p)(hs:∀x∈sym,x<256):
  Fn Tryz.prog 142 [.pointer (some ⟨r,0,none⟩),.string (Qf sym)] w (λv w'=>v= .bool (Ks sym p).1/\Rd w' base r A c mp (Ks sym p).2/\Mod (·=r) w w'):=by
 have hl:=h.lim;have Wv:=tW p.r;have ep:=gQj h.b8;refine QH (c:=eQ9) Qa Tryz.func142 rfl rfl rfl ?_;refine Qp h.blk rfl ?_;refine call (gQa p.r w h.b8 (by omega)) ?_;rintro v w1 ⟨rfl,Qd⟩;refine XQ (h.blk.ext Qd) (by simp) (λw2 XR Qv=>?_);refine Qp Qv rfl ?_;refine call (fQ5 (ZN p.r) sym w2 ep hs) ?_;rintro v w3 ⟨rfl,rfl⟩;have hM:∀w3,Mod (·=r) w2 w3->Mod (·=r) w w3:=λw3 XD=>((Mod.of_ext (·=r) Qd).trans XR (λi hi=>.inl hi)).trans XD (λi hi=>.inl hi)
 rw[wZ];unfold wY;cases hp:sym.isPrefixOf (ZN p.r)with
 | true=>
  refine XQ Qv (by simp) (λw3 XD Qu=>?_);have ZP:=hM w3 XD;have Q0:((ZN p.r).drop sym.length).length<=p.r.length:=by rw[YR];omega
  exact⟨rfl,⟨Qu,h.own.mod ZP (λi hi e=>by subst e;exact h.nrow hi),h.lt,X4 h.top ZP.size,λx hx=>ep x (au hx),by show p.f.length+((ZN p.r).drop sym.length).length<=_;omega⟩,ZP⟩
 | false=>
  refine XQ Qv (by simp) (λw3 XD Qu=>?_);have ZP:=hM w3 XD;exact⟨rfl,⟨Qu,h.own.mod ZP (λi hi e=>by subst e;exact h.nrow hi),h.lt,X4 h.top ZP.size,ep,by show p.f.length+(ZN p.r).length<=_;omega⟩,ZP⟩
theorem qG (base r:Nat)(A:Option Addr)(c:Nat)(mp:Value)(p:Ps)(x:Fz)(w:World)(h:Rd w base r A c mp p)(hl:p.f.length+p.r.length+1<=1000000000000):
  Fn Tryz.prog 226 [.pointer (some ⟨r,0,none⟩),.agg x.cells.toArray] w (λv w'=>v= .int .i64 (p.f.length:Nat)/\RdTo w base r A mp (Yg x p).2 w'):=by
 refine QH (c:=fQY) Qa Tryz.func226 rfl rfl rfl ?_;refine new (λw1 Qd Q9 Qh=>?_);have h1:=h.ext Qd;have Yb:=h.own.rows;have hC0:Mod (Ql A) w1 w1.drew:=Mod.of_ext _ (Ext.drew w1);refine XL Qa (Mod (Ql A) w1) 8 [(true,0),(true,1),(true,2),(true,3),(true,4),(true,5),(false,6),(false,7)] (by kernel_rfl) hC0 ?_;refine QQ (v:=.slice A p.f.length c) (λw' Qb=>by rw[(h1.blk.mod Qb h.nrow).cell];rfl) ?_;have Lw:¬Ql A w.heap.size:=λhr=>by have:=(Yb _ hr).2;omega
 refine Xo (vs:=x.cells) rfl (λw' Qb j v hj=>by rw[(Qh.mod Qb Lw).cell];exact hj) ?_;refine Xw Qa [x.cells] rfl rfl rfl rfl rfl ⟨rfl,rfl,⟨⟩⟩ rfl (λcs h=>by simp only[QL] at h;subst h;rfl) rfl (by decide) (by decide) ?_;intro w2 Qg Zi Qv;have Xm:=(Ext.drew w1).trans Qg;have h2:=h1.ext Xm;refine⟨Mod.of_ext _ Xm,?_⟩;have mi:Sl w2 4 (some ⟨w1.drew.heap.size,0,none⟩) 1 1 x.cells:=Sl.own (sz:=4) (n:=1) Qv (QC _) (by decide) (by simp[Fz.cells]);refine JH Qa rfl rfl rfl rfl rfl (by decide) rfl rfl ⟨_,rfl⟩ rfl rfl h2.own mi (by intro u hu;simp[Fz.cells] at hu;rcases hu with rfl | rfl | rfl | rfl<;>rfl) (by unfold maxLen;omega) (by show _*32<=_;omega) h2.top ?_;intro A' c' w3 XD oV Dz;have Ky:Mod (Ql A) w1 w3:=(Mod.of_ext (Ql A) Xm).trans XD (λi hi=>.inl hi);refine⟨Ky,?_⟩;have Qu:=h1.blk.mod Ky h.nrow;refine XQ Qu (by simp) (λw4 Zl QX=>?_);refine Qp QX rfl ?_;have hz:=Xm.size;have Ly:∀k,Ql A' k->base<=k:=λk hk=>(oV.rows k hk).1
 have KV:Mod (RdS r A) w w4:=((Mod.of_ext (RdS r A) Qd).trans Ky (λi hi=>.inl (.inr hi))).trans Zl (λi hi=>.inl (.inl hi));refine Qj ((p.f.length:Nat):Int) (by omega) (by omega) ?_;refine⟨rfl,A',c',⟨?_,?_,h.lt,X4 h.top KV.size,h.b8,?_⟩,KV,Dz.back (X4 Qd.size hz)⟩
 ·have e:(Yg x p).2.f.length=p.f.length+1:=by simp[Yg]
  rw[e];exact QX
 ·have e:(Yg x p).2.f.length=p.f.length+1:=by simp[Yg]
  rw[e,show nM (Yg x p).2.f=nM p.f++x.cells from Sh _ _];exact oV.mod Zl (λk hk e=>by have:=Ly k hk;have:=h.lt;omega)
 ·have e:(Yg x p).2.f.length=p.f.length+1:=by simp[Yg]
  rw[e];show p.f.length+1+p.r.length<=_;omega
end
section
theorem qH {c:Cx}{o:Oper}{S:Env}{w:World}{K:Env->World->Prop}{Q:Zj}{t:Nat}{v:Value}{x:Operand}(ho:o.op= .panic x)(hx:S.ev x=some (.iface t v))
  (k:Q (.panic [{v:=.iface t v,recovered:=false}]) S w):Zc c o S w K Q:=by
 unfold Zc;intro a hf;have e1:=hf.ev hx;unfold Oper.wp;have:(execOp a.eval o).run c.g.P w= .halt (.panic (.iface t v)) w:=by
  simp only[execOp,ho,e1];simp[Instr.panic,goPanic]
 rw[this];exact⟨S,hf,k⟩
def gQk:List PanicEntry:=[{v:=.iface 34 (.int .i64 31),recovered:=false}]
def PanTo (w:World)(r:Nat)(A:Option Addr)(ch:List PanicEntry)(w':World):Prop:=ch=gQk/\Mod (RdS r A) w w'
theorem RdS.trans {w w1 w2:World}{r:Nat}{A A1:Option Addr}(hm:Mod (RdS r A) w w1)(hv:Moved w A A1)(h:Mod (RdS r A1) w1 w2):Mod (RdS r A) w w2:=
 hm.trans h (λi hi=>by
  rcases hi with rfl | hi
  ·exact .inl (.inl rfl)
  ·rcases hv.rows i hi with h | h
   ·exact .inl (.inr h)
   ·exact .inr h)
theorem PanTo.step {w w1 w2:World}{r:Nat}{A A1:Option Addr}{ch:List PanicEntry}(h:PanTo w1 r A1 ch w2)(hm:Mod (RdS r A) w w1)(hv:Moved w A A1):PanTo w r A ch w2:=⟨h.1,RdS.trans hm hv h.2⟩
def tZ (opd:Ps->Option (Nat×Ps)):Prop:=∀p a p',opd p=some (a,p')->p'.f.length+p'.r.length<=p.f.length+p.r.length/\p'.r.length<p.r.length
theorem nN (sym:List Nat)(p p1:Ps)(b:Bool)(h:Ks sym p=(b,p1)):p1.f=p.f/\p1.u=p.u/\p1.r.length<=p.r.length/\(b=true->p1.r.length+sym.length<=p.r.length):=by
 rw[wZ] at h;have ht:=tW p.r;cases h;refine⟨rfl,rfl,?_,λhb=>?_⟩
 ·show List.length (if _ then _ else _)<=_;split
  ·rw[YR];omega
  ·exact ht
 ·show List.length (if _ then _ else _)+_<=_;rw[Qe hb,YR];have:=(dQL.1 hb).length_le;omega
theorem Si {sym:List Nat}{op:Int}{opd:Ps->Option (Nat×Ps)}(hs:0<sym.length)(hl:tZ opd):∀(m a:Nat)(p:Ps)(b:Nat)(p':Ps),gr sym op opd m a p=some (b,p')->p'.f.length+p'.r.length<=p.f.length+p.r.length/\p'.r.length<=p.r.length
 | 0,a,p,b,p',h=>by cases h
 | m+1,a,p,b,p',h=>by
  unfold gr at h;cases hk:Ks sym p with
  | mk t p1=>
   obtain⟨h1,h2,h3,h4⟩:=nN sym p p1 t hk;rw[hk] at h;cases t with
   | false=>cases h;rw[h1];omega
   | true=>
    simp only at h;cases ho:opd p1 with
    | none=>rw[ho] at h;cases h
    | some q=>
     obtain⟨d,p2⟩:=q;rw[ho] at h;simp only at h;obtain⟨h5,h6⟩:=hl p1 d p2 ho;have:=Si hs hl m _ _ b p' h;simp only[Qq,Q6,Ji] at this;have:=h4 rfl;rw[h1] at h5;omega
theorem G0 {sym:List Nat}{op:Int}{opd:Ps->Option (Nat×Ps)}(hs:0<sym.length)(hl:tZ opd):tZ (VM sym op opd):=by
 intro p b p' h;unfold VM at h;cases ho:opd p with
 | none=>rw[ho] at h;cases h
 | some q=>
  obtain⟨a,p1⟩:=q;rw[ho] at h;simp only at h;have h1:=hl p a p1 ho;have h2:=Si hs hl _ _ _ b p' h;omega
structure OpdC (L base r:Nat) (mp:Value) (fid:Nat) (args:List Value) (G:World->Option Addr->Prop) (opd:Ps->Option (Nat×Ps)):Prop where
 run:∀w A c p,Rd w base r A c mp p->G w A->p.r.length<L->FnP Tryz.prog fid args w (λv w'=>∃(a:Nat) (p':Ps),opd p=some (a,p')/\v= .int .i64 (a:Nat)/\RdTo w base r A mp p' w') (λch w'=>opd p=none/\PanTo w r A ch w')
 stay:∀w w' A A',G w A->Mod (RdS r A) w w'->Moved w A A'->G w' A'
 lim:tZ opd
structure Est where
 a:Nat
 p:Ps
 A:Option Addr
 c:Nat
theorem gQl (L base r:Nat)(A:Option Addr)(c:Nat)(mp:Value)(p:Ps)(sym:List Nat)(op:Int)(G:World->Option Addr->Prop)(opd:Ps->Option (Nat×Ps))(w:World)
  (h:Rd w base r A c mp p) (hG:G w A) (hs:∀x∈sym,x<256) (DB:0<sym.length) (hL:p.r.length<L) (H:OpdC L base r mp 198 [.pointer (some ⟨r,0,none⟩)] G opd):
  FnP Tryz.prog 196 [.pointer (some ⟨r,0,none⟩),.string (Qf sym),.int .i64 op,.func (.func 198) #[.pointer (some ⟨r,0,none⟩)] #[]] w
   (λv w'=>∃(a:Nat) (p':Ps),VM sym op opd p=some (a,p')/\v= .int .i64 (a:Nat)/\RdTo w base r A mp p' w') (λch w'=>VM sym op opd p=none/\PanTo w r A ch w'):=by
 refine bi (c:={RX with cuts:=[]}) Qa Tryz.func196 rfl rfl rfl ?_;refine XP (H.run w A c p h hG hL) ?_ ?_
 rotate_left
 ·rintro ch w1 ⟨ho,hp⟩;refine⟨?_,hp⟩;unfold VM;rw[ho]
 rintro v w1 ⟨a,p1,ho,rfl,A1,c1,h1,Zw,mo⟩;obtain⟨XJ,Ka⟩:=H.lim p a p1 ho;have Ju:VM sym op opd p=gr sym op opd (p1.r.length+1) a p1:=by unfold VM;rw[ho]
 refine loop Qa [9] (λs:Est=>[.int .i64 s.a]) (λs w'=>Rd w' base r s.A s.c mp s.p/\G w' s.A/\s.p.r.length<L/\Mod (RdS r A) w w'/\Moved w A s.A/\∃m,s.p.r.length<m/\gr sym op opd m s.a s.p=VM sym op opd p) (λs _=>s.p.r.length) ⟨a,p1,A1,c1⟩ rfl ⟨h1,H.stay w w1 A A1 hG Zw mo,by show p1.r.length<L;omega,Zw,mo,_,eL _,Ju.symm⟩ ?_;rintro⟨d,q,A2,c2⟩ w2 ⟨h2,oW,Lz,XR,Kl,m,OJ,ZP⟩;simp only at h2 oW Lz XR Kl OJ ZP;refine call (tY base r A2 c2 mp q sym w2 h2 hs) ?_;rintro v w3 ⟨rfl,h3,XD⟩;cases m with
 | zero=>omega
 | succ m=>
 unfold gr at ZP;have yp:Mod (RdS r A2) w2 w3:=XD.mono (λi hi=>.inl (.inl hi));have er:=RdS.trans XR Kl yp;cases hk:Ks sym q with
 | mk t q1=>
  obtain⟨k1,k2,k3,k4⟩:=nN sym q q1 t hk;rw[hk] at h3 ZP;simp only at h3;cases t with
  | false=>
   refine Q7 rfl ?_;exact⟨d,q1,ZP.symm,rfl,A2,c2,h3,er,Kl⟩
  | true=>
   refine Xc rfl ?_;simp only at ZP;have k5:=k4 rfl;have rJ:=H.stay w2 w3 A2 A2 oW yp (Moved.refl _ _);refine XP (H.run w3 A2 c2 q1 h3 rJ (by omega)) ?_ ?_
   rotate_left
   ·rintro ch w4 ⟨gJ,hp⟩;rw[gJ] at ZP;exact⟨ZP.symm,hp.step er Kl⟩
   rintro v w4 ⟨b,q2,gJ,rfl,A4,c4,h4,Zl,oY⟩;obtain⟨l1,l2⟩:=H.lim q1 b q2 gJ;rw[gJ] at ZP;simp only at ZP;have hlq:=h2.lim;rw[k1] at l1;have yq:=H.stay w3 w4 A2 A4 rJ Zl oY;have bz:=RdS.trans er Kl Zl;have yr:=Kl.trans oY er.size;refine call (qG base r A4 c4 mp q2 ⟨op,0,d,b⟩ w4 h4 (by omega)) ?_;rintro v w5 ⟨rfl,A5,c5,h5,XT,Yp⟩;refine⟨⟨q2.f.length,(Yg ⟨op,0,d,b⟩ q2).2,A5,c5⟩,rfl,⟨h5,H.stay w4 w5 A4 A5 yq XT Yp,?_,RdS.trans bz yr XT,yr.trans Yp bz.size,m,?_,ZP⟩,?_⟩
   ·show q2.r.length<L;omega
   ·show q2.r.length<m;omega
   ·show q2.r.length<q.r.length;omega
theorem gQm (L base r:Nat)(A:Option Addr)(c:Nat)(mp:Value)(p:Ps)(sym:List Nat)(op:Int)(x:Nat)(G:World->Option Addr->Prop)(opd:Ps->Option (Nat×Ps))(w:World)
  (h:Rd w base r A c mp p) (hG:G w A) (hs:∀x∈sym,x<256) (DB:0<sym.length) (hL:p.r.length<L) (H:OpdC L base r mp 197 [.pointer (some ⟨x,0,none⟩)] G opd):
  FnP Tryz.prog 196 [.pointer (some ⟨r,0,none⟩),.string (Qf sym),.int .i64 op,.func (.func 197) #[] #[.pointer (some ⟨x,0,none⟩)]] w
   (λv w'=>∃(a:Nat) (p':Ps),VM sym op opd p=some (a,p')/\v= .int .i64 (a:Nat)/\RdTo w base r A mp p' w') (λch w'=>VM sym op opd p=none/\PanTo w r A ch w'):=by
 refine bi (c:={RX with cuts:=[]}) Qa Tryz.func196 rfl rfl rfl ?_;refine XP (H.run w A c p h hG hL) ?_ ?_
 rotate_left
 ·rintro ch w1 ⟨ho,hp⟩;refine⟨?_,hp⟩;unfold VM;rw[ho]
 rintro v w1 ⟨a,p1,ho,rfl,A1,c1,h1,Zw,mo⟩;obtain⟨XJ,Ka⟩:=H.lim p a p1 ho;have Ju:VM sym op opd p=gr sym op opd (p1.r.length+1) a p1:=by unfold VM;rw[ho]
 refine loop Qa [9] (λs:Est=>[.int .i64 s.a]) (λs w'=>Rd w' base r s.A s.c mp s.p/\G w' s.A/\s.p.r.length<L/\Mod (RdS r A) w w'/\Moved w A s.A/\∃m,s.p.r.length<m/\gr sym op opd m s.a s.p=VM sym op opd p) (λs _=>s.p.r.length) ⟨a,p1,A1,c1⟩ rfl ⟨h1,H.stay w w1 A A1 hG Zw mo,by show p1.r.length<L;omega,Zw,mo,_,eL _,Ju.symm⟩ ?_;rintro⟨d,q,A2,c2⟩ w2 ⟨h2,oW,Lz,XR,Kl,m,OJ,ZP⟩;simp only at h2 oW Lz XR Kl OJ ZP;refine call (tY base r A2 c2 mp q sym w2 h2 hs) ?_;rintro v w3 ⟨rfl,h3,XD⟩;cases m with
 | zero=>omega
 | succ m=>
 unfold gr at ZP;have yp:Mod (RdS r A2) w2 w3:=XD.mono (λi hi=>.inl (.inl hi));have er:=RdS.trans XR Kl yp;cases hk:Ks sym q with
 | mk t q1=>
  obtain⟨k1,k2,k3,k4⟩:=nN sym q q1 t hk;rw[hk] at h3 ZP;simp only at h3;cases t with
  | false=>
   refine Q7 rfl ?_;exact⟨d,q1,ZP.symm,rfl,A2,c2,h3,er,Kl⟩
  | true=>
   refine Xc rfl ?_;simp only at ZP;have k5:=k4 rfl;have rJ:=H.stay w2 w3 A2 A2 oW yp (Moved.refl _ _);refine XP (H.run w3 A2 c2 q1 h3 rJ (by omega)) ?_ ?_
   rotate_left
   ·rintro ch w4 ⟨gJ,hp⟩;rw[gJ] at ZP;exact⟨ZP.symm,hp.step er Kl⟩
   rintro v w4 ⟨b,q2,gJ,rfl,A4,c4,h4,Zl,oY⟩;obtain⟨l1,l2⟩:=H.lim q1 b q2 gJ;rw[gJ] at ZP;simp only at ZP;have hlq:=h2.lim;rw[k1] at l1;have yq:=H.stay w3 w4 A2 A4 rJ Zl oY;have bz:=RdS.trans er Kl Zl;have yr:=Kl.trans oY er.size;refine call (qG base r A4 c4 mp q2 ⟨op,0,d,b⟩ w4 h4 (by omega)) ?_;rintro v w5 ⟨rfl,A5,c5,h5,XT,Yp⟩;refine⟨⟨q2.f.length,(Yg ⟨op,0,d,b⟩ q2).2,A5,c5⟩,rfl,⟨h5,H.stay w4 w5 A4 A5 yq XT Yp,?_,RdS.trans bz yr XT,yr.trans Yp bz.size,m,?_,ZP⟩,?_⟩
   ·show q2.r.length<L;omega
   ·show q2.r.length<m;omega
   ·show q2.r.length<q.r.length;omega
end
section
theorem XM {p:Prop}{v v':Value}{K:Value->Prop}(hp:p)(h:v=v')(k:K v'):jI p v K:=by unfold jI;exact⟨hp,by rw[h];exact k⟩
theorem MapAt.mod {α:Type}{kv:α->Value}{S:Nat->Prop}{w w':World}{r:Nat}{m:List (α×Value)}(h:MapAt kv w r m)(k:Mod S w w')(hn:¬S r):MapAt kv w' r m:=by
 obtain⟨bs,ck,hl,hb⟩:=h.ex;exact⟨bs,ck,hl,(k.block r (f9.1 hb).1 hn).trans hb⟩
theorem xa {α:Type} [DecidableEq α]{kv:α->Value}{c:Cx}{o:Oper}{S:Env}{w:World}{K:Env->World->Prop}{Q:Zj}{t ke e:Nat}{r rk re:TyRow}{x y:Operand}{q:Nat}{m:List (α×Value)}{a:α}{v:Value}{b:Bool}(hg:c.g.Ok)
  (ho:o.op= .lookup t x y true) (hr:QU c.g.tys t=some r) (hd:r.d= .map ke e) (bH:QU c.g.tys ke=some rk) (X8:QU c.g.tys e=some re) (hk:KeyV rk.d kv)
  (hx:S.ev x=some (.map (some q))) (hy:S.ev y=some (kv a)) (hm:MapAt kv w q m) (hv:(XC a m).getD re.z=v) (hb:(XC a m).isSome=b) (k:Xh c S o.dst (.v (.tuple #[v,.bool b])) (λS=>K S w)):Zc c o S w K Q:=by
 subst hv;subst hb;exact eQB hg ho hr hd bH X8 hk hx hy hm k
section
variable (ix:List Nat->Option Nat) (n:Nat)
theorem G3 {p p1:Ps}(h:Ks [33] p=(true,p1)):cI ix (n+1) p=match cI ix n p1 with
  | none=>none
  | some (a,p2)=>some (Yg ⟨3,0,a,0⟩ p2):=by rw[cI,h]<;>rfl
theorem G4 {p p1 p2:Ps}(h:Ks [33] p=(false,p1))(h2:Ks [40] p1=(true,p2)):cI ix (n+1) p=match iy ix n p2 with
  | none=>none
  | some (a,p3)=>match Ks [41] p3 with
   | (true,p4)=>some (a,p4)
   | (false,_)=>none:=by rw[cI,h];simp only;rw[h2]<;>rfl
theorem G5 {p p1 p2:Ps}(h:Ks [33] p=(false,p1))(h2:Ks [40] p1=(false,p2)):cI ix (n+1) p=if VL p2.r=0 then none else
   if p2.r.take (VL p2.r)=WC then some (Yg ⟨1,0,0,0⟩ {p2 with r:=p2.r.drop (VL p2.r)})else if p2.r.take (VL p2.r)=cJ then some (Yg ⟨0,0,0,0⟩ {p2 with r:=p2.r.drop (VL p2.r)})else
    some (Yg ⟨2,((ix (p2.r.take (VL p2.r))).getD 0:Nat),0,0⟩ {p2 with r:=p2.r.drop (VL p2.r),u:=p2.u||(ix (p2.r.take (VL p2.r))).isNone}):=by
 rw[cI,h];simp only;rw[h2]<;>rfl
end
theorem G6 (ix:List Nat->Option Nat):∀n,tZ (cI ix n)
 | 0=>λp a p' h=>by cases h
 | n+1=>λp a p' h=>by
  have ih:=G6 ix n;cases hk:Ks [33] p with
  | mk t p1=>
   obtain⟨k1,_,k3,k4⟩:=nN _ p p1 t hk;cases t with
   | true=>
    rw[G3 ix n hk] at h;cases ho:cI ix n p1 with
    | none=>rw[ho] at h;cases h
    | some q=>
     obtain⟨d,p2⟩:=q;rw[ho] at h;cases h;have:=ih p1 d p2 ho;have:=k4 rfl;rw[k1] at*;simp only[Qq,Q6,Ji] at*;omega
   | false=>
    cases V7:Ks [40] p1 with
    | mk t2 p2=>
     obtain⟨j1,_,j3,j4⟩:=nN _ p1 p2 t2 V7;cases t2 with
     | true=>
      rw[G4 ix n hk V7] at h;cases ho:iy ix n p2 with
      | none=>rw[ho] at h;cases h
      | some q=>
       obtain⟨d,p3⟩:=q;rw[ho] at h;simp only at h;have hw:tZ (iy ix n):=G0 (by decide) (G0 (by decide) ih);have:=hw p2 d p3 ho;cases kh:Ks [41] p3 with
       | mk t3 p4=>
        obtain⟨i1,_,i3,i4⟩:=nN _ p3 p4 t3 kh;rw[kh] at h;cases t3 with
        | false=>cases h
        | true=>
         cases h;have:=j4 rfl;have:=i4 rfl;rw[i1];rw[j1,k1] at*;omega
     | false=>
      rw[G5 ix n hk V7] at h;split at h
      ·cases h
      rename_i hn;have ZL:=Sa p2.r;have key:(p2.r.drop (VL p2.r)).length+1<=p2.r.length:=by rw[YR];omega
      rw[j1,k1] at*;split at h
      ·cases h;simp only[Qq,Q6,Ji];rw[j1,k1];omega
      split at h
      ·cases h;simp only[Qq,Q6,Ji];rw[j1,k1];omega
      ·cases h;simp only[Qq,Q6,Ji];rw[j1,k1];omega
def GM (r q:Nat)(m:List (ByteArray×Value))(w:World)(A:Option Addr):Prop:=MapAt Yh w q m/\q≠r/\¬Ql A q
theorem GM.stay {r q:Nat}{m:List (ByteArray×Value)}{w w':World}{A A':Option Addr}(h:GM r q m w A)(hm:Mod (RdS r A) w w')(hv:Moved w A A'):GM r q m w' A':=
 ⟨h.1.mod hm (λe=>e.elim h.2.1 h.2.2),h.2.1,λhr=>(hv.rows q hr).elim h.2.2 (λZL=>by have:=h.1.lt;omega)⟩
def GB (r q x:Nat)(m:List (ByteArray×Value))(w:World)(A:Option Addr):Prop:=GM r q m w A/\Blk w x 220 [.pointer (some ⟨r,0,none⟩)]/\x≠r/\¬Ql A x
theorem GB.stay {r q x:Nat}{m:List (ByteArray×Value)}{w w':World}{A A':Option Addr}(h:GB r q x m w A)(hm:Mod (RdS r A) w w')(hv:Moved w A A'):GB r q x m w' A':=
 ⟨h.1.stay hm hv,h.2.1.mod hm (λe=>e.elim h.2.2.1 h.2.2.2),h.2.2.1,λhr=>(hv.rows x hr).elim h.2.2.2 (λZL=>by have:=h.2.1.lt;omega)⟩
theorem gQn {L base r q x:Nat}{m:List (ByteArray×Value)}{mp:Value}{opd:Ps->Option (Nat×Ps)}(H:OpdC L base r mp 198 [.pointer (some ⟨r,0,none⟩)] (GM r q m) opd):
  OpdC L base r mp 197 [.pointer (some ⟨x,0,none⟩)] (GB r q x m) (VM [38,38] 4 opd):=by
 refine⟨λw A c p h hG hL=>?_,λw w' A A' h hm hv=>h.stay hm hv,G0 (by decide) H.lim⟩;refine bi (c:={fQH with cuts:=[]}) Qa Tryz.func197 rfl rfl rfl ?_;refine Qy hG.2.1 rfl ?_;refine Qy hG.2.1 rfl ?_;refine XP (gQl L base r A c mp p [38,38] 4 (GM r q m) opd w h hG.1 (by decide) (by decide) hL H) ?_ ?_
 ·rintro v w1 ⟨a,p',h1,rfl,h2⟩;exact⟨a,p',h1,rfl,h2⟩
 ·rintro ch w1 h1;exact h1
theorem Sj (L base r:Nat)(A:Option Addr)(c:Nat)(p:Ps)(q:Nat)(m:List (ByteArray×Value))(mp:Value)(opd:Ps->Option (Nat×Ps))(w:World)(h:Rd w base r A c mp p)(hG:GM r q m w A)(hL:p.r.length<L)
  (H:OpdC L base r mp 198 [.pointer (some ⟨r,0,none⟩)] (GM r q m) opd):
  FnP Tryz.prog 141 [.pointer (some ⟨r,0,none⟩)] w (λv w'=>∃(a:Nat) (p':Ps),VM [124,124] 5 (VM [38,38] 4 opd) p=some (a,p')/\v= .int .i64 (a:Nat)/\RdTo w base r A mp p' w') (λch w'=>VM [124,124] 5 (VM [38,38] 4 opd) p=none/\PanTo w r A ch w'):=by
 refine bi (c:={eQ8 with cuts:=[]}) Qa Tryz.func141 rfl rfl rfl ?_;refine new (λw1 Qd Q9 Qh=>?_);refine Qy Qh rfl ?_;have Xe:=h.lt;have mW:=h.top;have fm:Mod (RdS r A) w w1:=Mod.of_ext _ Qd;have hn:¬Ql A w.heap.size:=λhr=>by have:=(h.own.rows _ hr).2;omega
 refine XP (gQm L base r A c mp p [124,124] 5 w.heap.size (GB r q w.heap.size m) (VM [38,38] 4 opd) w1 (h.ext Qd) ⟨hG.stay fm (Moved.refl _ _),Qh,by omega,hn⟩ (by decide) (by decide) hL (gQn H)) ?_ ?_
 ·rintro v w2 ⟨a,p',h1,rfl,h2⟩;exact⟨a,p',h1,rfl,h2.step fm (Moved.refl _ _)⟩
 ·rintro ch w2 ⟨h1,h2⟩;exact⟨h1,h2.step fm (Moved.refl _ _)⟩
end
section
def Sk (ix:List Nat->Option Nat)(m:List (ByteArray×Value)):Prop:=∀l:List Nat,(∀x∈l,x<256)->XC (Qf l) m=(ix l).map (λv:Nat=>Value.int .i64 v)
theorem Sm (ix:List Nat->Option Nat)(base r q:Nat)(m:List (ByteArray×Value))(KF:Sk ix m):∀n,OpdC n base r (.map (some q)) 198 [.pointer (some ⟨r,0,none⟩)] (GM r q m) (cI ix n)
 | 0=>⟨λw A c p _ _ h=>Xd h (by omega),λw w' A A' h hm hv=>h.stay hm hv,G6 ix 0⟩
 | n+1=>by
  have ih:=Sm ix base r q m KF n;refine⟨λw A c p h hG hL=>?_,λw w' A A' h hm hv=>h.stay hm hv,G6 ix (n+1)⟩;refine bi (c:={fQI with cuts:=[]}) Qa Tryz.func198 rfl rfl rfl ?_;refine call (tY base r A c _ p [33] w h (by decide)) ?_;rintro v w1 ⟨rfl,h1,Zw⟩;have vh:Mod (RdS r A) w w1:=Zw.mono (λi hi=>.inl (.inl hi));have hG1:=hG.stay vh (Moved.refl _ _);cases hk:Ks [33] p with
  | mk t p1=>
   obtain⟨k1,_,k3,k4⟩:=nN _ p p1 t hk;rw[hk] at h1;simp only at h1;cases t with
   | true=>
    refine Xc rfl ?_;have hl:=k4 rfl;simp only[Q6,Ji] at hl;have Yy:=G3 ix n hk;refine XP (ih.run w1 A c p1 h1 hG1 (by omega)) ?_ ?_
    rotate_left
    ·rintro ch w2 ⟨ho,hp⟩;rw[ho] at Yy;exact⟨Yy,hp.step vh (Moved.refl _ _)⟩
    rintro v w2 ⟨a,p2,ho,rfl,A2,c2,h2,XR,Kl⟩;rw[ho] at Yy;have Ka:=(ih.lim p1 a p2 ho).1;have DC:=h.lim;rw[k1] at Ka;refine call (qG base r A2 c2 _ p2 ⟨3,0,a,0⟩ w2 h2 (by omega)) ?_;rintro v w3 ⟨rfl,h3⟩;exact⟨p2.f.length,_,Yy,rfl,(h3.step XR Kl).step vh (Moved.refl _ _)⟩
   | false=>
    refine Q7 rfl ?_;refine call (tY base r A c _ p1 [40] w1 h1 (by decide)) ?_;rintro v w2 ⟨rfl,h2,XR⟩;have bQW:Mod (RdS r A) w1 w2:=XR.mono (λi hi=>.inl (.inl hi));have DD:=RdS.trans vh (Moved.refl _ _) bQW;have oW:=hG1.stay bQW (Moved.refl _ _);cases V7:Ks [40] p1 with
    | mk t2 p2=>
     obtain⟨j1,_,j3,j4⟩:=nN _ p1 p2 t2 V7;rw[V7] at h2;simp only at h2;cases t2 with
     | true=>
      refine Xc rfl ?_;have hl:=j4 rfl;simp only[Q6,Ji] at hl;have Yy:=G4 ix n hk V7;refine XP (Sj n base r A c p2 q m _ (cI ix n) w2 h2 oW (by omega) ih) ?_ ?_
      rotate_left
      ·rintro ch w3 ⟨ho,hp⟩;rw[show iy ix n p2=none from ho] at Yy;exact⟨Yy,hp.step DD (Moved.refl _ _)⟩
      rintro v w3 ⟨a,p3,ho,rfl,A3,c3,h3,XD,aM⟩;rw[show iy ix n p2=some (a,p3) from ho] at Yy;have er:=RdS.trans DD (Moved.refl _ _) XD;have bQX:=aM.back DD.size;simp only at Yy;refine call (tY base r A3 c3 _ p3 [41] w3 h3 (by decide)) ?_;rintro v w4 ⟨rfl,h4,Zl⟩;have DE:Mod (RdS r A3) w3 w4:=Zl.mono (λi hi=>.inl (.inl hi));have bz:=RdS.trans er bQX DE;cases kh:Ks [41] p3 with
      | mk t3 p4=>
       rw[kh] at h4 Yy;simp only at h4;cases t3 with
       | true=>
        refine Q7 rfl ?_;exact⟨a,p4,Yy,rfl,A3,c3,h4,bz,bQX⟩
       | false=>
        refine Xc rfl ?_;exact qH rfl rfl ⟨Yy,rfl,bz⟩
     | false=>
      refine Q7 rfl ?_;have Yy:=G5 ix n hk V7;have hlp:=h2.lim;have h8:=h2.b8;have hM:∀w',Ext w2 w'->Mod (RdS r A) w w':=λw' hE=>RdS.trans DD (Moved.refl _ _) (Mod.of_ext _ hE)
      refine Qp h2.blk rfl ?_;refine call (Sb p2.r w2 h8 (by omega)) ?_;rintro v w3 ⟨rfl,Qi⟩;have h3:=h2.ext Qi;have rJ:=oW.stay (Mod.of_ext _ Qi) (Moved.refl _ _);have er:=hM w3 Qi;have ZL:=Sa p2.r;by_cases hn:VL p2.r=0
      ·refine J2 (by omega) ?_;rw[Qe hn] at Yy;exact qH rfl rfl ⟨Yy,rfl,er⟩
      refine XG (by omega) ?_;rw[if_neg hn] at Yy;generalize hd:VL p2.r=d at*;refine Qp h3.blk rfl ?_;refine XM (v':=.string (Qf (p2.r.take d))) ⟨by omega,by omega,by rw[Xi];omega⟩ ?_ ?_
      ·simp only[io,Int.toNat_zero,VN,tw]
      refine Qp h3.blk rfl ?_;refine XM (v':=.string (Qf (p2.r.drop d))) ⟨by omega,by rw[Xi];omega,by omega⟩ ?_ ?_
      ·simp only[io,VN,Xi,qd]
      refine XQ h3.blk (by simp) (λw4 Zl QX=>?_);have DE:Mod (RdS r A) w3 w4:=Zl.mono (λi hi=>.inl (.inl hi));have bz:=RdS.trans er (Moved.refl _ _) DE;have yq:=rJ.stay DE (Moved.refl _ _);have Yw:(p2.r.drop d).length+d=p2.r.length:=by rw[YR];omega
      have h4:Rd w4 base r A c (.map (some q)) {p2 with r:=p2.r.drop d}:=⟨QX,h3.own.mod Zl (λi hi e=>by subst e;exact h3.nrow hi),h3.lt,X4 h3.top Zl.size,B8.drop h8 d,by show p2.f.length+(p2.r.drop d).length<=_;omega⟩
      have LB:=B8.take h8 d;generalize hwd:p2.r.take d=word at*;have e1:((Qf word=(⟨#[116,114,117,101]⟩:ByteArray))↔word=WC):=⟨λh=>Kg LB (by decide) h,λh=>by rw[h];rfl⟩
      have e2:((Qf word=(⟨#[102,97,108,115,101]⟩:ByteArray))↔word=cJ):=⟨λh=>Kg LB (by decide) h,λh=>by rw[h];rfl⟩
      by_cases h6:word=WC
      ·rw[Qe h6] at Yy;refine Zq (e1.2 h6) ?_;refine call (qG base r A c _ _ ⟨1,0,0,0⟩ w4 h4 (by show p2.f.length+(p2.r.drop d).length+1<=_;omega)) ?_;rintro v w5 ⟨rfl,h5⟩;exact⟨_,_,Yy,rfl,h5.step bz (Moved.refl _ _)⟩
      rw[if_neg h6] at Yy;refine XF (λh=>h6 (e1.1 h)) ?_;by_cases h7:word=cJ
      ·rw[Qe h7] at Yy;refine Zq (e2.2 h7) ?_;refine call (qG base r A c _ _ ⟨0,0,0,0⟩ w4 h4 (by show p2.f.length+(p2.r.drop d).length+1<=_;omega)) ?_;rintro v w5 ⟨rfl,h5⟩;exact⟨_,_,Yy,rfl,h5.step bz (Moved.refl _ _)⟩
      rw[if_neg h7] at Yy;refine XF (λh=>h7 (e2.1 h)) ?_;refine Qy h4.blk rfl ?_;have am:=KF word LB;refine xa (kv:=Yh) (a:=Qf word) (v:=.int .i64 ((ix word).getD 0:Nat)) (b:=(ix word).isSome) Qa rfl rfl rfl rfl rfl qQU rfl rfl yq.1 (by rw[am];cases ix word<;>rfl) (by rw[am];cases ix word<;>rfl) ?_;refine Qp h4.blk rfl ?_;have fin:∀w5 u,Mod (·=r) w4 w5->Blk w5 r 222 [.map (some q),.string (Qf (p2.r.drop d)),.slice A p2.f.length c,.bool u]->u=(p2.u||(ix word).isNone)->Rd w5 base r A c (.map (some q)) {p2 with r:=p2.r.drop d,u:=p2.u||(ix word).isNone}/\Mod (RdS r A) w w5:=λw5 u XT QB hu=>by
       subst hu;exact⟨⟨QB,h4.own.mod XT (λi hi e=>by subst e;exact h4.nrow hi),h4.lt,X4 h4.top XT.size,h4.b8,h4.lim⟩,RdS.trans bz (Moved.refl _ _) (XT.mono (λi hi=>.inl (.inl hi)))⟩
      refine YT (λhu=>?_) (λhu=>?_)
      ·refine XQ h4.blk (by simp) (λw5 XT QB=>?_);obtain⟨h5,LC⟩:=fin w5 true XT QB (by rw[show p2.u=true from hu];rfl);refine call (qG base r A c _ _ ⟨2,((ix word).getD 0:Nat),0,0⟩ w5 h5 (by show p2.f.length+(p2.r.drop d).length+1<=_;omega)) ?_;rintro v w6 ⟨rfl,h6⟩;exact⟨_,_,Yy,rfl,h6.step LC (Moved.refl _ _)⟩
      ·refine XQ h4.blk (by simp) (λw5 XT QB=>?_);obtain⟨h5,LC⟩:=fin w5 (!(ix word).isSome) XT QB (by rw[show p2.u=false from hu];cases ix word<;>rfl);refine call (qG base r A c _ _ ⟨2,((ix word).getD 0:Nat),0,0⟩ w5 h5 (by show p2.f.length+(p2.r.drop d).length+1<=_;omega)) ?_;rintro v w6 ⟨rfl,h6⟩;exact⟨_,_,Yy,rfl,h6.step LC (Moved.refl _ _)⟩
end
section
abbrev xb:=Exit->Act->World->Prop
def iz (P:Program):List Code->xb->Act->World->Prop
 | [],G,a,w=>G .normal a w
 | y::ys,G,a,w=>y.wp P (λe a w=>match e with
  | .normal=>iz P ys G a w
  | e=>G e a w) a w
@[irreducible] def Wb (c:Cx) (l:List Code) (S:Env) (w:World) (G:xb):Prop:=∀a,Fits c.N S a->iz c.g.P l G a w
@[irreducible] def WD (c:Cx) (S:Env) (w:World) (e:Exit) (G:xb):Prop:=∀a,Fits c.N S a->G e a w
section
variable {c:Cx} {S:Env} {w:World} {G:xb}
theorem gt (h:WD c S w .normal G):Wb c [] S w G:=by unfold Wb;unfold WD at h;exact h
theorem ZS {x y:Code}{l:List Code}(h:Wb c (x::y::l) S w G):Wb c (.seq x y::l) S w G:=by
 unfold Wb at*;intro a hf;have h1:=h a hf;unfold iz at h1;unfold iz;refine wp_seq (wp_mono h1 (λe a w hq=>?_));cases e<;>first | exact hq | (unfold iz at hq;exact hq)
theorem ZH (hg:c.g.Ok){x:Code}{l:List Code}(h:Vq c x S w (λe S w=>match e with
  | .normal=>Wb c l S w G
  | e=>WD c S w e G)):Wb c (x::l) S w G:=by
 unfold Wb;intro a hf;unfold iz;refine wp_mono (jL hg x S w _ a h hf) (λe a w ⟨S',QZ,hq⟩=>?_);cases e with
 | normal=>simp only at hq;unfold Wb at hq;exact hq a QZ
 | exit i=>simp only at hq;unfold WD at hq;exact hq a QZ
 | goto i=>simp only at hq;unfold WD at hq;exact hq a QZ
 | ret=>simp only at hq;unfold WD at hq;exact hq a QZ
 | panic i=>simp only at hq;unfold WD at hq;exact hq a QZ
 | outgrown=>simp only at hq;unfold WD at hq;exact hq a QZ
theorem gQo {t:Nat}{x y:Code}{l:List Code}{b:Bool}(ht:S.get t=some (.bool b))(hb:b=true)(h:Wb c (x::l) S w G):Wb c (.cond (.tmp t) x y::l) S w G:=by
 subst hb;unfold Wb at*;intro a hf;have h1:=h a hf;unfold iz at*;have:=hf.get ht;exact wp_cond_true (by simp[Act.eval,this]) h1
theorem gQp {t:Nat}{x y:Code}{l:List Code}{b:Bool}(ht:S.get t=some (.bool b))(hb:b=false)(h:Wb c (y::l) S w G):Wb c (.cond (.tmp t) x y::l) S w G:=by
 subst hb;unfold Wb at*;intro a hf;have h1:=h a hf;unfold iz at*;have:=hf.get ht;exact wp_cond_false (by simp[Act.eval,this]) h1
theorem xd (hg:c.g.Ok){id:Nat}{ops:Array Oper}{l:List Code}{o:Oper}{f:Operand}{xs:Array Operand}{ts:Array TypeId}(ZB:ops.toList=ops.toList.dropLast++ [o])(ho:o.op= .defer ⟨.value f,xs,ts⟩)(KN:o.guard=none)(jo:o.dst=none)
  (h:YD {c with named:=1000000} ops.toList ops.toList.dropLast S w (λS w=>∃fv cap first asx,S.ev f=some (.func fv first cap)/\qt S xs.toList=some asx/\Wb {c with N:=⟨c.N.n,⟨.fn fv cap,first++asx.toArray⟩::c.N.ds⟩} l S w G) (λe S w=>WD c S w e G)):Wb c (.region id ops false::l) S w G:=by
 unfold Wb;intro a hf;unfold iz;refine wp_region_list ?_;have h1:=jK (c:={c with named:=1000000}) hg ops.toList ops.toList.dropLast S w a h hf;have key:∀(Q:xb) (m1 m2:List Oper) (a:Act) (w:World),wpList c.g.P ops (λe a w=>match e with
   | .normal=>wpList c.g.P ops Q m2 a w
   | e=>Q e a w) m1 a w->wpList c.g.P ops Q (m1++m2) a w:=by
  intro Q m1;induction m1 with
  | nil=>intro m2 a w h;exact h
  | cons o1 m1 ih=>
   intro m2 a w h;rw[Z5];unfold wpList at h ⊢;split
   ·rename_i hw;rw[Qe hw] at h;rcases h with h | ⟨h1,a0,w0,h2⟩
    ·refine .inl ?_;have h2:=Oper.wp_mono (K':=wpList c.g.P ops Q (m1++m2)) (λa w=>ih m2 a w) h;unfold Oper.wp at h2 ⊢;generalize (execOp a.eval o1).run c.g.P w=r at*;cases r with
     | ok n w'=>cases n<;>simp only[Oper.upon] at h2 ⊢ <;> exact h2
     | halt x w'=>cases x<;>simp only[Oper.upon] at h2 ⊢ <;> exact h2
    ·exact .inr ⟨h1,a0,w0,h2⟩
   ·rename_i hw;rw[if_neg hw] at h;exact ih m2 _ _ h
 rw[ZB];refine key _ ops.toList.dropLast [o] a w ?_;have e0:ops.toList.toArray=ops:=by simp
 rw[e0] at h1;refine ld (λe a w hq=>?_) h1;cases e with
 | normal=>
  obtain⟨S',QZ,fv,cap,first,asx,hfv,has,hq⟩:=hq;show wpList _ _ _ [o] _ _;unfold wpList;rw[Qe (by simp[Region.wanted,KN])];refine .inl ?_;have jm:=QZ.ev hfv;have hxs:(xs.map a.eval)=asx.toArray:=by
   apply Array.ext';rw[PO];exact Bw (ρ:=a.eval) (λx v h=>QZ.ev h) _ _ has
  unfold Oper.wp;have Jg:(execOp a.eval o).run c.g.P w= .ok (.defer ⟨.fn fv cap,first++asx.toArray⟩) w:=by
   simp only[execOp,ho,resolve,jm,hxs];simp[Deferred.ofValue]
  rw[Jg,Oper.upon_defer];unfold wpList;unfold Wb at hq;refine hq _ ⟨?_,?_,?_⟩
  ·rw[jo];exact QZ.size
  ·rw[jo];show _::a.defers=_;rw[QZ.defers]
  ·rw[jo];exact QZ.has
 | exit i=>obtain⟨S',QZ,hq⟩:=hq;unfold WD at hq;exact hq a QZ
 | goto i=>obtain⟨S',QZ,hq⟩:=hq;unfold WD at hq;exact hq a QZ
 | ret=>obtain⟨S',QZ,hq⟩:=hq;unfold WD at hq;exact hq a QZ
 | panic i=>obtain⟨S',QZ,hq⟩:=hq;unfold WD at hq;exact hq a QZ
 | outgrown=>obtain⟨S',QZ,hq⟩:=hq;unfold WD at hq;exact hq a QZ
end
def t6 (R:Value->World->Prop):Ending->World->Prop
 | .returned v,w=>R v w
 | _,_=>False
theorem xe {c:Cx}(hg:c.g.Ok){f:FuncId}{fn:Func}{x:Code}{args:List Value}{w:World}{R:Value->World->Prop}(hf:c.g.P.funcs[f]? =some fn)(hb:fn.body=some x)(hN:⟨fn.ntmps,[]⟩=c.N)
  (hl:Nat.ble args.length c.N.n=true) (h:kZ [0,1,2,3,4,5,6,7,8,9,10,11,12,13,14,15] args [] (λS=>Wb c [x] S w (bodyPostD c.g.P fn (t6 R)))):Fn c.g.P f args w R:=by
 unfold Fn;have _:=hg;obtain⟨S,hS,hx⟩:=wK _ args [] 0 args (λj t ht=>by
  match j,ht with
  | 0,ht | 1,ht | 2,ht | 3,ht | 4,ht | 5,ht | 6,ht | 7,ht | 8,ht | 9,ht | 10,ht | 11,ht | 12,ht | 13,ht | 14,ht | 15,ht=>simp at ht;omega
  | j+16,ht=>simp at ht) (by simp) (λk x hk=>by simp[Env.ent] at hk) h
 have hn:fn.ntmps=c.N.n:=QD Slots.n hN;have Ke:=gn (N:=c.N.n) args (ij hl) S hS;rw[<-hn,hN] at Ke;unfold Wb at hx;have h1:=hx _ Ke;refine(calls_of_wp_defers hf hb (R:=t6 R) ?_).mono (λe w' he=>by cases e<;>exact he);unfold iz at h1;refine wp_mono h1 (λe a w hq=>?_);cases e<;>first | exact hq | (unfold iz at hq;exact hq)
section
variable {c:Cx} {S:Env} {w:World}
theorem jT (hg:c.g.Ok){fn:Func}{R:Value->World->Prop}{e:Exit}(hN:c.N.ds=[])(he:e= .ret∨e= .normal)(h:dJ c S w R fn.results.toList []):WD c S w e (bodyPostD c.g.P fn (t6 R)):=by
 unfold WD;intro a hf;obtain⟨v,h1,h2⟩:=jM hg hf h;have hd:a.defers=[]:=by rw[hf.defers,hN]
 rcases he with rfl | rfl <;>
 ·unfold bodyPostD;simp only;rw[hd];exact⟨v,h1,h2⟩
theorem So (hg:c.g.Ok){fn:Func}{R:Value->World->Prop}{u:FrameMode}{a:Act}{F:FuncId}{asx cap:Array Value}(hN:c.N.ds=[⟨.fn (.func F) cap,asx⟩])(hF:gj F c.g.fns=true)(hu:u≠ .run)(hf:Fits c.N S a){args:Array Value}(hA:asx++cap=args)
  (h:CallsD c.g.P F args u w (λe u' w'=>∃v,e= .returned v/\settle u'= .returning/\dJ c S w' R fn.results.toList [])):Leaves c.g.P fn a.tmps (t6 R) a.defers u w:=by
 subst hA;rw[hf.defers,hN];refine leaves_cons (f:=F) (args:=asx++cap) hu ?_ ?_
 ·have hc:=hg.fns F (Bu hF);simp only[invoke];rw[BB hc]
 ·refine h.mono (λe u' w' he=>?_);obtain⟨v,rfl,hs,hk⟩:=he;simp only;rw[hs];obtain⟨v,h1,h2⟩:=jM hg hf hk;exact⟨v,h1,h2⟩
theorem gu (hg:c.g.Ok){fn:Func}{R:Value->World->Prop}{e:Exit}{F:FuncId}{asx cap:Array Value}(hN:c.N.ds=[⟨.fn (.func F) cap,asx⟩])(hF:gj F c.g.fns=true)(he:e= .ret∨e= .normal){args:Array Value}(hA:asx++cap=args)
  (h:CallsD c.g.P F args .returning w (λe u' w'=>∃v,e= .returned v/\settle u'= .returning/\dJ c S w' R fn.results.toList [])):WD c S w e (bodyPostD c.g.P fn (t6 R)):=by
 unfold WD;intro a hf;have:=So hg hN hF (by simp) hf hA h;rcases he with rfl | rfl<;>exact this
theorem aA (hg:c.g.Ok){fn:Func}{R:Value->World->Prop}{ch:List PanicEntry}{F:FuncId}{asx cap:Array Value}(hN:c.N.ds=[⟨.fn (.func F) cap,asx⟩])(hF:gj F c.g.fns=true){args:Array Value}(hA:asx++cap=args)
  (h:CallsD c.g.P F args (.panicking ch) w (λe u' w'=>∃v,e= .returned v/\settle u'= .returning/\dJ c S w' R fn.results.toList [])):WD c S w (.panic ch) (bodyPostD c.g.P fn (t6 R)):=by
 unfold WD;intro a hf;exact So hg hN hF (by simp) hf hA h
end
theorem gQq {c:Cx}(hg:c.g.Ok){f:FuncId}{fn:Func}{x:Code}{args:List Value}{w:World}{R:Value->World->Prop}(u:FrameMode)(hf:c.g.P.funcs[f]? =some fn)(hb:fn.body=some x)(hN:⟨fn.ntmps,[]⟩=c.N)
  (hl:Nat.ble args.length c.N.n=true) (h:kZ [0,1,2,3,4,5,6,7,8,9,10,11,12,13,14,15] args [] (λS=>Vq c x S w (BC c fn.results.toList R))):CallsD c.g.P f args.toArray u w (λe u' w'=>u'=u/\∃v,e= .returned v/\R v w'):=by
 obtain⟨S,hS,hx⟩:=wK _ args [] 0 args (λj t ht=>by
  match j,ht with
  | 0,ht | 1,ht | 2,ht | 3,ht | 4,ht | 5,ht | 6,ht | 7,ht | 8,ht | 9,ht | 10,ht | 11,ht | 12,ht | 13,ht | 14,ht | 15,ht=>simp at ht;omega
  | j+16,ht=>simp at ht) (by simp) (λk x hk=>by simp[Env.ent] at hk) h
 refine callsD_of_wp hf hb ?_;have hn:fn.ntmps=c.N.n:=QD Slots.n hN;have Ke:=gn (N:=c.N.n) args (ij hl) S hS;rw[<-hn,hN] at Ke;refine wp_mono (jL hg x S w _ _ hx Ke) (λe a w' hq=>?_);obtain⟨S',QZ,hq⟩:=hq;have ZJ:a.defers=[]:=by rw[QZ.defers,<-hN]
 cases e with
 | normal=>obtain⟨v,h1,h2⟩:=jM hg QZ hq;exact⟨ZJ,v,h1,v,rfl,h2⟩
 | ret=>obtain⟨v,h1,h2⟩:=jM hg QZ hq;exact⟨ZJ,v,h1,v,rfl,h2⟩
 | exit i=>exact hq.elim
 | goto l=>exact hq.elim
 | panic ch=>exact hq.elim
 | outgrown=>exact hq.elim
end
section
theorem G7 {c:Cx}(hg:c.g.Ok){o:Oper}{S:Env}{w:World}{K:Env->World->Prop}{Q:Zj}{x:Operand}{tx t:Nat}{k:IntKind}{v:Value}{r:TyRow}(ho:o.op= .typeAssert x tx t true)(hr:QU c.g.tys t=some r)(hd:r.d= .int k)(hx:S.ev x=some (.iface t v))
  (kk:Xh c S o.dst (.v (.tuple #[v,.bool true])) (λS=>K S w)):Zc c o S w K Q:=by
 have Q4:=(hg.row hr).1;rw[hd] at Q4;refine JG (w':=w) (v:=.tuple #[v,.bool true]) (λa hf=>?_) kk;have e1:=hf.ev hx;simp only[execOp,ho,e1];simp[Instr.typeAssert,ZX Q4]
theorem gQr {P:Program}{t:TypeId}{ms:Array (String×TypeId)}{w:World}(hu:P.underlying t=some (.interface ms))(n:Nat):(Op.equalIn (n+1) t .nilIface .nilIface).run P w= .ok true w:=by simp[Op.equalIn,ZX hu]
theorem Sp {P:Program}{o1 o2:Oper}{Q:Exit->Act->List Frame->World->Prop}{a:Act}{cs cs':List Frame}{w:World}{d1 d2:Nat}{v:Value}(h1:o1.op= .call ⟨.builtin .recover, #[], #[]⟩)(h1d:o1.dst=some d1)(h1g:o1.guard=none)(h2:o2.op= .assign (.tmp d1))(h2d:o2.dst=some d2)(h2g:o2.guard=none)
  (X7:d1<a.tmps.size) (OK:recoverD cs=some (v,cs')∨(recoverD cs=none/\v= .nilIface/\cs'=cs)) (h:Q .normal ((a.put (some d1) v).put (some d2) v) cs' w):wpOpsS P #[o1,o2] Q (List.range 2) a cs w:=by
 have e1:∀ρ,(execOp ρ o1).run P w= .ok .recover w:=λρ=>by
  simp only[execOp,h1,resolve,invoke,builtin];simp
 have e2:(execOp (a.put (some d1) v).eval o2).run P w= .ok (.value v) w:=by
  simp only[execOp,h2];simp[Act.eval,Act.put,X7]
 show wpOpsS P #[o1,o2] Q [0,1] a cs w;have key:wpOpsS P #[o1,o2] Q [1] (a.put (some d1) v) cs' w:=by
  unfold wpOpsS;simp only[Gc,List.getElem?_cons_succ,Be];rw[Qe (by simp[Region.wanted,h2g]),e2];simp only[Oper.upon,h2d];unfold wpOpsS;exact h
 unfold wpOpsS;simp only[Gc,Be];rw[Qe (by simp[Region.wanted,h1g]),e1];rcases OK with hr | ⟨hr,rfl,rfl⟩
 ·simp only[hr,h1d];exact key
 ·simp only[hr,h1d];exact key
theorem nP {c:Cx}(hg:c.g.Ok){x:Code}{fn:Func}{c₀:Frame}{cs:List Frame}{R:Ending->FrameMode->World->Prop}{S:Env}{a:Act}{w:World}{u':FrameMode}(hN:c.N.ds=[])(hf:Fits c.N S a)
  (h:Vq c x S w (BC c fn.results.toList (λv w'=>R (.returned v) u' w'))):x.wpS c.g.P (bodyPostS c.g.P fn c₀ cs R) a ({c₀ with mode:=u'}::cs) w:=by
 refine wpS_of_wp (wp_mono (jL hg x S w _ a h hf) (λe a' w' hq=>?_));obtain⟨S',QZ,hq⟩:=hq;have ZJ:a'.defers=[]:=by rw[QZ.defers,hN]
 cases e with
 | normal=>obtain⟨v,h1,h2⟩:=jM hg QZ hq;exact⟨ZJ,u',rfl,v,h1,h2⟩
 | ret=>obtain⟨v,h1,h2⟩:=jM hg QZ hq;exact⟨ZJ,u',rfl,v,h1,h2⟩
 | exit i=>exact hq.elim
 | goto l=>exact hq.elim
 | panic ch=>exact hq.elim
 | outgrown=>exact hq.elim
def Sq (f e:Nat)(k:Int)(w w':World):Prop:=Blk w' f 149 [.slice none 0 0]/\Blk w' e 34 [.int .i64 k]/\Mod (λi=>i=f∨i=e) w w'
theorem BW (f e:Nat)(k:Int)(w:World)(v1 v2:Value)(QO:f≠e)(hf:Blk w f 149 [v1])(he:Blk w e 34 [v2]):
  CallsD Tryz.prog 140 #[.pointer (some ⟨f,0,none⟩),.pointer (some ⟨e,0,none⟩)] (.panicking [{v:=.iface 34 (.int .i64 k),recovered:=false}]) w
   (λen u' w'=>∃v,en= .returned v/\settle u'= .returning/\Sq f e k w w'):=by
 refine callsD_of_wpS Tryz.func140 rfl λc₀ cs hu=>?_
 have Ke:=gn (N:=BU.N.n) [.pointer (some ⟨f,0,none⟩),.pointer (some ⟨e,0,none⟩)] (ij rfl) [(0,.v (.pointer (some ⟨f,0,none⟩))),(1,.v (.pointer (some ⟨e,0,none⟩)))] (by
  intro k x hk
  match k,hk with
  | 0,hk=>cases hk;rfl
  | 1,hk=>cases hk;rfl
  | k+2,hk=>exact nomatch (show(none:Option Ent)=some x from hk))
 have Kb:=Ke.put (d:=5) (by decide) (.v (.iface 34 (.int .i64 k)));have ZV:=Kb.put (d:=2) (by decide) (.v (.iface 34 (.int .i64 k)));refine wpS_seq (wpS_region ?_);refine Sp (cs':={c₀ with mode:=.panicking [{v:=.iface 34 (.int .i64 k),recovered:=true}]}::cs) (v:=.iface 34 (.int .i64 k)) rfl rfl rfl rfl rfl rfl (by simp) (.inl (by simp[recoverD,hu])) ?_;refine nP (c:=BU) Qa rfl ZV ?_;refine Xc rfl ?_;refine G7 Qa rfl rfl rfl rfl ?_;refine Q7 rfl ?_;refine KS hf (by simp) (λw1 Zw Qh=>?_);refine KS (he.mod Zw (λh=>QO h.symm)) (by simp) (λw2 XR Qv=>?_);exact⟨_,rfl,rfl,Qh.mod XR QO,Qv,(Zw.mono (λi hi=>.inl (.inl hi))).trans XR (λi hi=>.inl (.inr hi))⟩
theorem gQs (f e:Nat)(w:World):
  CallsD Tryz.prog 140 #[.pointer (some ⟨f,0,none⟩),.pointer (some ⟨e,0,none⟩)] .returning w
   (λen u' w'=>∃v,en= .returned v/\settle u'= .returning/\w=w'):=by
 refine callsD_of_wpS Tryz.func140 rfl λc₀ cs hu=>?_
 have Ke:=gn (N:=BU.N.n) [.pointer (some ⟨f,0,none⟩),.pointer (some ⟨e,0,none⟩)] (ij rfl) [(0,.v (.pointer (some ⟨f,0,none⟩))),(1,.v (.pointer (some ⟨e,0,none⟩)))] (by
  intro k x hk
  match k,hk with
  | 0,hk=>cases hk;rfl
  | 1,hk=>cases hk;rfl
  | k+2,hk=>exact nomatch (show(none:Option Ent)=some x from hk))
 have Kb:=Ke.put (d:=5) (by decide) (.v .nilIface);have ZV:=Kb.put (d:=2) (by decide) (.v .nilIface);refine wpS_seq (wpS_region ?_);refine Sp (cs':={c₀ with mode:=.returning}::cs) (v:=.nilIface) rfl rfl rfl rfl rfl rfl (by simp) (.inr ⟨by simp[recoverD,hu],rfl,by rw[<-hu]⟩) ?_;refine nP (c:=BU) Qa rfl ZV ?_;refine JG (w':=w) (v:=.bool false) (λa hf=>?_) ?_
 ·have e1:=hf.ev (show Env.ev _ (.tmp 6)=some .nilIface from rfl);have hu:=Tryz.underlying20;have e2:(Op.equal 20 .nilIface .nilIface).run Tryz.prog w= .ok true w:=gQr hu 9999;have e3:binOp .neq 20 .nilIface .nilIface=(do pure (.bool (!(<-Op.equal 20 .nilIface .nilIface)))):=rfl;simp only[execOp,e1,eqGuard];simp[Act.eval,e3,show gx.P=Tryz.prog from rfl,e2]
 refine Q7 rfl ?_;exact⟨_,rfl,rfl,rfl⟩
end
section
def dO (l:List Nat):List (List Nat)->Nat->Option Nat->Option Nat
 | [],_,QT=>QT
 | s::names,i,QT=>dO l names (i+1) (if s=l then some i else QT)
def Jj (names:List (List Nat))(l:List Nat):Option Nat:=dO l names 0 none
theorem Sr (l:List Nat)(hl:∀x∈l,x<256):∀(names:List (List Nat))(i:Nat)(QT:Option Nat)(m:List (ByteArray×Value)),KG names->XC (Qf l) m=QT.map (λv:Nat=>Value.int .i64 v)->
  XC (Qf l) (YV names i m)=(dO l names i QT).map (λv:Nat=>Value.int .i64 v)
 | [],i,QT,m,_,h=>h
 | s::names,i,QT,m,hn,h=>by
  simp only[YV,dO];refine Sr l hl names (i+1) _ _ (λt ht=>hn t (by simp[ht])) ?_;rw[bj];by_cases hs:s=l
  ·subst hs;simp
  ·rw[if_neg (λe=>hs (Kg hl (hn s (by simp)).1 e).symm),if_neg hs];exact h
theorem G8 {names:List (List Nat)}(hn:KG names):Sk (Jj names) (YV names 0 []):=λl hl=>Sr l hl names 0 none [] hn rfl
def dP (names:List (List Nat))(s:List Nat):List Fz×Int:=if ZQ names then
  match iy (Jj names) (s.length+1) ⟨s,[],false⟩with
  | none=>([],31)
  | some (_,p)=>if ZN p.r≠ [] then([],31)else if p.u then([],3)else if 512<p.f.length then([],2)else(p.f,0)
 else([],1)
def G9 (w:World)(r:List Fz×Int)(v:Value)(w':World):Prop:=∃F m cF,v= .tuple #[.slice F m cF,.int .i64 r.2]/\Ext w w'/\SlS Fz.cells 4 w' F m cF r.1
theorem gQt (p:Ps):Ks [] p=(true,{p with r:=ZN p.r}):=by rw[wZ]<;>rfl
theorem Ss (names:List (List Nat))(A:Option Addr)(n c:Nat)(s:List Nat)(w:World)(h:Sl w 1 A n c (X9 names))(hb:KG names)(hs:∀x∈s,x<256)(hl:s.length<=1000000000000):
  Fn Tryz.prog 89 [.slice A n c,.string (Qf s)] w (G9 w (dP names s)):=by
 refine xe (c:={c89 with cuts:=[]}) Qa Tryz.func89 rfl rfl rfl ?_;refine ZS (ZH Qa ?_);refine new (λw1 Qd Q9 Qh=>?_);refine new (λw2 Qg Zi Qv=>?_);have QR:=Qd.trans Qg;refine ZS (ZH Qa ?_);refine call (GZ names A n c w2 (h.ext QR) hb) ?_;rintro v w3 ⟨v1,rfl,Qi,zV⟩;have QY:=QR.trans Qi;have hBf:=(Qh.ext Qg).ext Qi;have fQ:=Qv.ext Qi;refine ZS (ZH Qa ?_);cases XY:ZQ names with
 | false=>
  refine Xc rfl ?_;refine KS hBf (by simp[J1]) (λw4 Zl QX=>?_);have QO:w1.heap.size≠w.heap.size:=by omega
  refine KS (fQ.mod Zl QO) (by simp[J1]) (λw5 XT QB=>?_);refine jT Qa rfl (.inl rfl) ?_;refine Qy (QX.mod XT QO.symm) rfl ?_;refine Qy QB rfl ?_;have Qx:=XT.ext (Zl.ext QY (λi hi=>by omega)) (λi hi=>by omega);refine⟨none,0,0,?_,Qx,?_⟩
  ·unfold dP;rw[XY]<;>rfl
  ·unfold dP;rw[XY];exact SlS.nil _
 | true=>
  refine Q7 rfl ?_;obtain⟨q,rfl,hq,eH⟩:=zV XY;refine ZS (xd Qa rfl rfl rfl rfl ⟨_,_,_,_,rfl,rfl,?_⟩);refine ZS (ZH Qa ?_);refine new (λw4 Qs KW QX=>?_);have Xr:=QY.trans Qs;have JD:=Qi.size;have hR:Rd w4 w4.heap.size w3.heap.size none 0 (.map (some q)) ⟨s,[],false⟩:=⟨QX,Own.nil _ _ _ _,by omega,QC _,hs,by simpa using hl⟩
  have hG:GM w3.heap.size q (YV names 0 []) w4 none:=⟨eH.ext Qs,by have:=eH.lt;omega,λ⟨_,e,_⟩=>by cases e⟩
  have QO:w.heap.size≠w1.heap.size:=by omega
  have vU:∀i,i<w3.heap.size->¬RdS w3.heap.size none i:=λi hi e=>by
   rcases e with rfl | ⟨_,e,_⟩
   ·omega
   ·cases e
  have keep:∀w',Mod (RdS w3.heap.size none) w4 w'->Ext w w'/\Blk w' w.heap.size 149 [.slice none 0 0]/\Blk w' w1.heap.size 34 [.int .i64 0]:=λw' hm=>by
   refine⟨hm.ext Xr (λi hi=>?_),(hBf.ext Qs).mod hm (vU _ (by omega)),(fQ.ext Qs).mod hm (vU _ (by omega))⟩;rcases hi with rfl | ⟨_,e,_⟩
   ·omega
   ·cases e
  have Xj:∀k w' Vc,Ext w w'->Sq w.heap.size w1.heap.size k w' Vc->dP names s=([],k)->G9 w (dP names s) (.tuple #[.slice none 0 0,.int .i64 k]) Vc:=λk w' Vc hE hR hp=>by
   rw[hp];refine⟨none,0,0,rfl,hR.2.2.ext hE (λi hi=>by rcases hi with rfl | rfl<;>omega),SlS.nil _⟩
  have hpp:dP names s=match iy (Jj names) (s.length+1) ⟨s,[],false⟩with
   | none=>([],31)
   | some (_,p)=>if ZN p.r≠ [] then([],31)else if p.u then([],3)else if 512<p.f.length then([],2)else(p.f,0):=by unfold dP;rw[Qe XY]
  refine ZS (ZH Qa ?_);refine XP (Sj (s.length+1) _ _ none 0 _ q _ _ _ w4 hR hG (eL _) (Sm (Jj names) _ _ q _ (G8 hb) (s.length+1))) ?_ ?_
  rotate_left
  ·rintro ch w5 ⟨ho,rfl,XT⟩;obtain⟨Qx,Kb,he5⟩:=keep w5 XT;refine aA Qa rfl rfl (args:= #[.pointer (some ⟨w.heap.size,0,none⟩),.pointer (some ⟨w1.heap.size,0,none⟩)]) (by simp) ((BW _ _ 31 w5 _ _ QO Kb he5).mono ?_);rintro e u' w6 ⟨v,rfl,yu,iT⟩;refine⟨v,rfl,yu,?_⟩;refine Qy iT.1 rfl ?_;refine Qy iT.2.1 rfl ?_;exact Xj 31 w5 w6 Qx iT (by rw[hpp];unfold iy;rw[ho])
  rintro v w5 ⟨a,p,ho,rfl,A5,c5,h5,XT,Yp⟩;refine ZS (ZH Qa ?_);refine call (tY _ _ A5 c5 _ p [] w5 h5 (by simp)) ?_;rintro v w6 ⟨rfl,h6,Vy⟩;rw[gQt] at h6;simp only at h6;have mQE:Mod (RdS w3.heap.size none) w4 w6:=XT.trans Vy (λi hi=>.inl (.inl hi));obtain⟨QN,ci,DF⟩:=keep w6 mQE;have jq:dP names s=if ZN p.r≠ [] then([],31)else if p.u then([],3)else if 512<p.f.length then([],2)else(p.f,0):=by rw[hpp];unfold iy;rw[ho]
  have e0:((Qf (ZN p.r)=(⟨#[]⟩:ByteArray))↔ZN p.r=[]):=⟨λh=>Kg h6.b8 (by simp) h,λh=>by rw[h];rfl⟩
  refine ZS (ZH Qa ?_);refine Qp h6.blk rfl ?_;by_cases ht:¬ZN p.r=[]
  ·refine Xc (by rw[Zn (λh=>ht (e0.1 h))];rfl) ?_;refine qH rfl rfl ?_;refine aA Qa rfl rfl (args:= #[.pointer (some ⟨w.heap.size,0,none⟩),.pointer (some ⟨w1.heap.size,0,none⟩)]) (by simp) ((BW _ _ 31 w6 _ _ QO ci DF).mono ?_);rintro e u' w7 ⟨v,rfl,iS,Vk⟩;refine⟨v,rfl,iS,?_⟩;refine Qy Vk.1 rfl ?_;refine Qy Vk.2.1 rfl ?_;exact Xj 31 w6 w7 QN Vk (by rw[jq,Qe ht])
  replace ht:=Decidable.not_not.1 ht;refine Q7 (by rw[X2 (e0.2 ht)];rfl) ?_;rw[if_neg (λh=>h ht)] at jq;refine Qp h6.blk rfl ?_;refine YT (λhu=>?_) (λhu=>?_)
  ·refine qH rfl rfl ?_;refine aA Qa rfl rfl (args:= #[.pointer (some ⟨w.heap.size,0,none⟩),.pointer (some ⟨w1.heap.size,0,none⟩)]) (by simp) ((BW _ _ 3 w6 _ _ QO ci DF).mono ?_);rintro e u' w7 ⟨v,rfl,iS,Vk⟩;refine⟨v,rfl,iS,?_⟩;refine Qy Vk.1 rfl ?_;refine Qy Vk.2.1 rfl ?_;exact Xj 3 w6 w7 QN Vk (by rw[jq,Qe hu])
  rw[if_neg (by rw[show p.u=false from hu];decide)] at jq;refine Qp h6.blk rfl ?_;refine Qz (λhl=>?_) (λhl=>?_)
  ·refine qH rfl rfl ?_;refine aA Qa rfl rfl (args:= #[.pointer (some ⟨w.heap.size,0,none⟩),.pointer (some ⟨w1.heap.size,0,none⟩)]) (by simp) ((BW _ _ 2 w6 _ _ QO ci DF).mono ?_);rintro e u' w7 ⟨v,rfl,iS,Vk⟩;refine⟨v,rfl,iS,?_⟩;refine Qy Vk.1 rfl ?_;refine Qy Vk.2.1 rfl ?_;exact Xj 2 w6 w7 QN Vk (by rw[jq,Qe (show 512<p.f.length by simp only at hl;omega)])
  have dv:¬512<p.f.length:=λh=>hl (by simp only;omega)
  rw[if_neg dv] at jq;refine ZS (ZH Qa ?_);refine Qp h6.blk rfl ?_;refine KS ci (by simp) (λw7 JW Q8=>?_);refine KS (DF.mod JW QO.symm) (by simp) (λw8 Jr Xx=>?_);refine ZH Qa ?_;refine gu Qa rfl rfl (.inl rfl) (args:= #[.pointer (some ⟨w.heap.size,0,none⟩),.pointer (some ⟨w1.heap.size,0,none⟩)]) (by simp) ((gQs _ _ w8).mono ?_);rintro e u' _ ⟨v,rfl,LD,rfl⟩;refine⟨v,rfl,LD,?_⟩;refine Qy (Q8.mod Jr QO) rfl ?_;refine Qy Xx rfl ?_;rw[jq];have hM:Mod (λi=>i=w.heap.size∨i=w1.heap.size) w6 w8:=(JW.mono (λi hi=>.inl (.inl hi))).trans Jr (λi hi=>.inl (.inr hi));refine⟨A5,p.f.length,c5,rfl,hM.ext QN (λi hi=>by rcases hi with rfl | rfl<;>omega),?_,rfl⟩;have kH:∀i,Ql A5 i->w4.heap.size<=i:=λi hi=>(h6.own.rows i hi).1
  exact(h6.own.mod hM (λi hi e=>by have:=kH i hi;rcases e with rfl | rfl<;>omega)).sl
end
end
end Go.Proofs.YtjabbbcdgmlojaaGreatDoor
