/-
  What PPatchEdits rests on, part 1 (wip/shake.py).
  Conditions: none.
-/
import Derived.Test.YtjabbbcdgmlojaaGreatDoorProg
import Derived.Test.YtjabbbcdgmlojaaGreatDoorRows
import Derived.WalkKit
import Derived.Deep.QuietTactic
import Derived.Laws.CopyOwn
import Derived.StillTail
import Derived.OrdersHeld
import Derived.Laws.StructEq
import Derived.Lib.AppendStr
import Derived.Shelf.Strings.Builder1
import Derived.Shelf.Strings.Builder2
import Derived.Shelf.Strings.OnBuilder
import Derived.Shelf.Small.Utf8
import Derived.Shelf.Small.Strs
import Derived.Shelf.Strings.BuilderF
import Derived.Shelf.Strings.Search1
import Derived.Shelf.Strings.Search2
import Derived.Shelf.Strings.Search3
import Derived.Shelf.Strings.Cut
import Derived.Shelf.Strings.Count
import Derived.Shelf.LaysM
import Derived.Shelf.Strings.Shaped
import Derived.Shelf.Strings.LastIndex
import Derived.Shelf.GgClosure.StringsIndexFunc
import Derived.Shelf.Strings.Prefix
import Derived.Shelf.Strings.Runes
import Derived.Shelf.Strings.AsciiSet
import Derived.Shelf.Unicode.DecodeSlow
import Derived.Lib.Builder
import Derived.Lib.UnsafeStr
import Derived.Maps.RangeRun
import Derived.Recover
import Derived.ChangeKeysEq
import Derived.Deep.Grids
import Derived.Below
import Derived.ProofKit
import Derived.OpenShut
import Derived.ShutString
import Derived.ChangeOld
import Derived.Deep.Slices
import Derived.ChangeSame
import Derived.WideShapes
import Derived.Deep.DeepHandedRow
import Derived.LaidLaws
import Derived.Lay
import Derived.SevenTiedAt
set_option linter.all false
set_option linter.deprecated false
set_option maxHeartbeats 12800000
namespace Go.Proofs.YtjabbbcdgmlojaaGreatDoor
open Go Go.RowKit
section
abbrev Qf:=@if_pos
abbrev Qq:=@List.length_append
abbrev QB:=@Nat.le_refl
abbrev QC:=@congrArg
abbrev QO:=@List.mem_singleton
abbrev QY:=@List.mem_cons
abbrev Q2:=@List.length_cons
abbrev Xc:=@absurd
abbrev Xl:=@List.mem_of_getElem?
abbrev Xo:=@Nat.zero_le
abbrev Xu:=@List.getElem?_eq_getElem
abbrev XP:=@List.mem_append
abbrev X3:=@Nat.le_trans
abbrev Zk:=@List.mem_map
abbrev Zr:=@decide_eq_false
abbrev Zx:=@decide_eq_true
abbrev ZG:=@List.append_assoc
abbrev ZS:=@List.take_of_length_le
abbrev Z9:=@Bool.and_eq_true
abbrev Ja:=@run_underlying
abbrev Jd:=@List.getElem?_eq_some_iff
abbrev Jk:=@Int.min_def
abbrev Jo:=@List.cons_append
abbrev Jp:=@List.length_nil
abbrev Jy:=@List.mem_filter
abbrev JL:=@List.length_map
abbrev JM:=@List.not_mem_nil
abbrev JR:=@or_false
abbrev Ka:=@List.all_eq_true
abbrev Kw:=@List.map_cons
abbrev Kx:=@List.length_take
abbrev KE:=@List.append_nil
abbrev Vf:=@List.flatMap_cons
abbrev VF:=@List.take_add_one
abbrev VW:=@Nat.eq_of_beq_eq_true
abbrev VX:=@decide_eq_true_eq
abbrev Yd:=@List.flatMap_append
abbrev Yq:=@Nat.lt_of_lt_of_le
abbrev Y1:=@List.length_drop
abbrev Y2:=@of_decide_eq_true
abbrev Wm:=@Nat.mul_one
abbrev Wn:=@List.mem_of_mem_take
abbrev Wo:=@List.mem_flatMap
abbrev WN:=@Nat.mul_le_mul_right
abbrev WO:=@List.eq_nil_of_length_eq_zero
abbrev WQ:=@Nat.zero_add
abbrev WR:=@List.map_append
abbrev WT:=@List.mem_of_mem_drop
abbrev am:=@List.drop_eq_getElem_cons
abbrev an:=@List.takeWhile_cons
abbrev aQ:=@List.take_append_drop
abbrev aR:=@List.getElem?_map
abbrev aS:=@List.getElem?_append_right
abbrev aT:=@Nat.pow_le_pow_right
abbrev bO:=@List.nil_append
abbrev bP:=@Nat.mod_lt
abbrev cI:=@List.mem_range
abbrev dB:=@Bool.true_and
abbrev eE:=@List.foldl_cons
abbrev fy:=@List.take_succ_cons
abbrev fA:=@List.drop_take
abbrev fB:=@Nat.lt_succ_self
abbrev fC:=@Bool.eq_false_iff
abbrev fD:=@List.filter_cons
abbrev gF:=@Array.getElem?_eq_some_iff
abbrev gG:=@List.length_set
abbrev gH:=@Nat.succ_mul
abbrev gI:=@List.getElem?_append_left
abbrev gJ:=@Option.getD_some
abbrev gK:=@List.getElem?_set_ne
abbrev iM:=@Nat.blt_eq
abbrev iN:=@Nat.le_of_ble_eq_true
abbrev iO:=@Int.toNat_natCast
abbrev jY:=@Nat.mod_eq_of_lt
abbrev jZ:=@List.getElem?_set_self
abbrev j0:=@Int.le_refl
abbrev j5:=@List.mem_cons_of_mem
abbrev lq:=@Nat.add_assoc
abbrev lr:=@Nat.add_mul
abbrev lu:=@List.length_filter_le
abbrev nM:=@List.drop_drop
abbrev nN:=@Nat.min_eq_left
abbrev nP:=@List.map_map
abbrev nQ:=@Nat.pow_succ
abbrev nR:=@List.drop_eq_nil_of_le
abbrev nT:=@List.drop_left
abbrev nU:=@List.length_singleton
abbrev nV:=@List.any_eq_true
abbrev qE:=@Bool.eq_iff_iff
abbrev qF:=@List.take_append
abbrev qG:=@List.getElem?_eq_none
abbrev qH:=@List.dropWhile_cons
abbrev qI:=@List.take_length
abbrev qJ:=@List.getElem?_take_of_lt
abbrev qK:=@List.count_append
abbrev qM:=@List.eq_nil_or_concat
abbrev qO:=@List.filter_append
abbrev tT:=@List.reverse_cons
abbrev tU:=@List.drop_of_length_le
abbrev tV:=@List.drop_zero
abbrev tW:=@List.getLast?_eq_getElem?
abbrev tY:=@List.length_pos_iff
abbrev tZ:=@List.filter_eq_nil_iff
abbrev ua:=@List.flatMap_nil
abbrev xa:=@List.takeWhile_sublist
abbrev xb:=@Option.map_some
abbrev xd:=@List.find?_eq_none
abbrev xe:=@Nat.mul_comm
abbrev xf:=@Nat.le_succ
abbrev xg:=@Nat.one_mul
abbrev xi:=@List.mem_iff_getElem?
abbrev xj:=@decide_eq_decide
abbrev Bj:=@Nat.add_comm
abbrev Bk:=@Nat.sub_self
abbrev Bl:=@List.ext_getElem?
abbrev Bm:=@List.all_cons
abbrev Bn:=@List.map_nil
abbrev Bo:=@Int.toNat_of_nonneg
abbrev Bp:=@List.count_cons
abbrev Bq:=@List.eq_of_mem_replicate
abbrev Bs:=@List.length_tail
abbrev Bt:=@List.nodup_cons
abbrev Bu:=@List.set_append_right
abbrev Bv:=@List.foldl_append
abbrev F5:=@List.getElem?_take
abbrev F6:=@Array.getElem?_setIfInBounds
abbrev F7:=@Option.map_eq_some_iff
abbrev F8:=@List.getElem?_toArray
abbrev F9:=@List.mem_iff_getElem
abbrev Ga:=@List.take_append_of_le_length
abbrev Gb:=@List.head?_cons
abbrev Gc:=@Bool.or_assoc
abbrev Gd:=@List.drop_length
abbrev Ge:=@Nat.testBit_lt_two_pow
abbrev Gf:=@List.mem_cons_self
abbrev Gg:=@List.getElem?_drop
abbrev Gh:=@List.append_cancel_right
abbrev Gi:=@Int.eq_ofNat_of_zero_le
abbrev Gj:=@Bool.and_true
abbrev Gk:=@List.exists_mem_of_ne_nil
abbrev Gl:=@List.filter_nil
abbrev PE:=@Array.toList_map
abbrev PF:=@List.replicate_succ
abbrev PG:=@List.flatten_cons
abbrev PH:=@Bool.false_eq_true
abbrev PI:=@List.nodup_append
abbrev PJ:=@List.count_eq_zero
abbrev PK:=@List.set_cons_zero
abbrev PL:=@List.count_cons_of_ne
abbrev PM:=@Option.toList_some
abbrev PN:=@List.find?_cons_of_neg
abbrev PO:=@List.drop_succ_cons
abbrev PP:=@List.getElem_mem
abbrev PQ:=@Option.isSome_iff_exists
abbrev PS:=@List.cons_ne_nil
abbrev PU:=@List.drop_append_of_le_length
abbrev PV:=@List.mem_or_eq_of_mem_set
abbrev PW:=@List.takeWhile_append_dropWhile
abbrev PX:=@List.pairwise_cons
abbrev dQG:=@Array.setIfInBounds_comm
abbrev dQH:=@List.isPrefixOf_iff_prefix
abbrev dQI:=@List.getElem?_cons_succ
abbrev dQJ:=@List.mem_of_find?_eq_some
end
section
inductive Ent where
 | v (x:Value)
 | t
 | f
def Ent.val:Ent->Value
 | .v x=>x
 | .t=>.bool true
 | .f=>.bool false
abbrev Env:=List (Nat×Ent)
def Env.ent:Env->Nat->Option Ent
 | [],_=>none
 | (t,x)::S,k=>match Nat.beq t k with
  | true=>some x
  | false=>Env.ent S k
def Env.get (S:Env)(k:Nat):Option Value:=
 match S.ent k with
 | some (.v x)=>some x
 | some .t=>some (.bool true)
 | some .f=>some (.bool false)
 | none=>none
def Env.ev (S:Env):Operand->Option Value
 | .tmp t=>S.get t
 | .const v=>some v
 | .global g=>some (.pointer (some ⟨g,0,none⟩))
 | .func f=>some (.func (.func f) #[] #[])
theorem qQ2 (S:Env)(k:Nat):S.get k=(S.ent k).map Ent.val:=by
 unfold Env.get;cases S.ent k with
 | none=>rfl
 | some e=>cases e<;>rfl
structure Slots where
 n:Nat
 ds:List Deferred:=[]
instance (k:Nat):OfNat Slots k:=⟨⟨k,[]⟩⟩
structure Fits (N:Slots) (S:Env) (a:Act):Prop where
 size:a.tmps.size=N.n
 defers:a.defers=N.ds
 has:∀k x,S.ent k=some x->a.tmps[k]? =some x.val
theorem Fits.get {N:Slots}{S:Env}{a:Act}(h:Fits N S a){k:Nat}{v:Value}(hk:S.get k=some v):a.tmps[k]? =some v:=by
 rw[qQ2] at hk;cases he:S.ent k with
 | none=>simp[he] at hk
 | some e=>simp[he] at hk;subst hk;exact h.has k e he
theorem Fits.ev {N:Slots}{S:Env}{a:Act}(h:Fits N S a){x:Operand}{v:Value}(hx:S.ev x=some v):a.eval x=v:=by
 cases x with
 | tmp t=>have:=h.get hx;simp[Act.eval,this]
 | const u=>simp[Env.ev] at hx;simp[Act.eval,hx]
 | global g=>simp[Env.ev] at hx;simp[Act.eval,hx]
 | func f=>simp[Env.ev] at hx;simp[Act.eval,hx]
theorem Fits.put {N:Slots}{S:Env}{a:Act}(h:Fits N S a){d:Nat}(hd:d<N.n)(e:Ent):Fits N ((d,e)::S) (a.put (some d) e.val):=by
 refine⟨by simp[Act.put,h.size],by simp[Act.put,h.defers],λk x hk=>?_⟩;simp only[Env.ent] at hk;cases hb:Nat.beq d k with
 | true=>
  have:d=k:=VW hb;subst this;simp only[hb] at hk;cases hk;have:d<a.tmps.size:=by rw[h.size];exact hd
  simp[Act.put,this]
 | false=>
  have QX:d≠k:=λe=>by subst e;simp at hb
  simp only[hb] at hk;simp[Act.put,QX,h.has k x hk]
structure TyRow where
 t:Nat
 d:TypeDesc
 sz:Nat
 by_:Nat
 z:Value
def PY (P:Program)(r:TyRow):Prop:=P.underlying r.t=some r.d/\(P.info? r.t).map (λi=>(i.size,i.bytes,i.zero))=some (r.sz,r.by_,some r.z)
def Bw (P:Program)(f:FuncId):Prop:=∃fn,P.funcs[f]? =some fn/\fn.body.isNone=false/\(fn.name== "runtime.NumGoroutine")=false
structure MRow where
 t:Nat
 name:String
 f:Nat
 ptr:Bool
def Gm:TypeDesc->Bool
 | .pointer _=>true
 | _=>false
def PZ (P:Program)(r:MRow):Prop:=
 (P.info? r.t).bind (λi=>(i.methods.find? (·.name==r.name)).map (λm=>(m.path.isEmpty,m.func)))=some (true,some (r.f,r.ptr))/\(P.underlying r.t).map Gm=some r.ptr
structure ERow where
 t:Nat
 ks:List Nat
def fE:Option TypeDesc->Nat
 | some (.int _)=>0
 | some .string=>1
 | some .bool=>2
 | _=>1000
def qP (P:Program):Nat->List Field->List Nat->Bool
 | _,[],[]=>true
 | n,f::l,k::ks=>f.name != "_" && Nat.beq f.offset n&&Nat.beq (fE (P.underlying f.type)) k&&Nat.blt k 3&&qP P (n+1) l ks
 | _,_,_=>false
def P0 (P:Program)(r:ERow):Prop:=
 P.stoodInHeld r.t=false/\P.eqGuardType P.depth r.t=false/\(match P.underlying r.t with
  | some (.struct fs)=>qP P 0 fs.toList r.ks
  | _=>false)=true
structure Gx where
 P:Program
 tys:List TyRow
 fns:List Nat
 ms:List MRow:=[]
 eqs:List ERow:=[]
def Bx (P:Program):List MRow->Prop
 | []=>True
 | r::l=>PZ P r/\Bx P l
def By (P:Program):List ERow->Prop
 | []=>True
 | r::l=>P0 P r/\By P l
def xk:List MRow->Nat->Option MRow
 | [],_=>none
 | r::l,t=>match Nat.beq r.t t with
  | true=>some r
  | false=>xk l t
def qQ:List ERow->Nat->Option ERow
 | [],_=>none
 | r::l,t=>match Nat.beq r.t t with
  | true=>some r
  | false=>qQ l t
theorem dQK {P:Program}{l:List MRow}{t:Nat}{r:MRow}(h:xk l t=some r)(ha:Bx P l):PZ P r/\r.t=t:=by
 induction l with
 | nil=>cases h
 | cons x l ih=>
  simp only[xk] at h;cases hb:Nat.beq x.t t with
  | true=>simp only[hb] at h;cases h;exact⟨ha.1,VW hb⟩
  | false=>simp only[hb] at h;exact ih h ha.2
theorem P4 {P:Program}{l:List ERow}{t:Nat}{r:ERow}(h:qQ l t=some r)(ha:By P l):P0 P r/\r.t=t:=by
 induction l with
 | nil=>cases h
 | cons x l ih=>
  simp only[qQ] at h;cases hb:Nat.beq x.t t with
  | true=>simp only[hb] at h;cases h;exact⟨ha.1,VW hb⟩
  | false=>simp only[hb] at h;exact ih h ha.2
def Bz (P:Program):List TyRow->Prop
 | []=>True
 | r::l=>PY P r/\Bz P l
def BB (P:Program):List Nat->Prop
 | []=>True
 | f::l=>Bw P f/\BB P l
structure Gx.Ok (g:Gx):Prop where
 tys:Bz g.P g.tys
 fns':BB g.P g.fns
 mixed:g.P.follows .mixedOrders=true
 ms:Bx g.P g.ms
 eqs:By g.P g.eqs
def Q0:List TyRow->Nat->Option TyRow
 | [],_=>none
 | r::l,t=>match Nat.beq r.t t with
  | true=>some r
  | false=>Q0 l t
theorem dQL {l:List TyRow}{t:Nat}{r:TyRow}(h:Q0 l t=some r):r∈l/\r.t=t:=by
 induction l with
 | nil=>cases h
 | cons x l ih=>
  simp only[Q0] at h;cases hb:Nat.beq x.t t with
  | true=>simp only[hb] at h;cases h;exact⟨by simp,VW hb⟩
  | false=>simp only[hb] at h;have:=ih h;exact⟨by simp[this.1],this.2⟩
theorem Gx.Ok.row {g:Gx}(h:g.Ok){t:Nat}{r:TyRow}(hr:Q0 g.tys t=some r):g.P.underlying t=some r.d/\∃i,g.P.info? t=some i/\i.size=r.sz/\i.bytes=r.by_/\i.zero=some r.z:=by
 obtain⟨hm,rfl⟩:=dQL hr;have key:∀l,Bz g.P l->r∈l->PY g.P r:=by
  intro l;induction l with
  | nil=>intro _ h;cases h
  | cons x l ih=>intro h hm;cases hm with
   | head=>exact h.1
   | tail _ hm=>exact ih h.2 hm
 obtain⟨h1,h2⟩:=key _ h.tys hm;refine⟨h1,?_⟩;cases hi:g.P.info? r.t with
 | none=>simp[hi] at h2
 | some i=>simp[hi] at h2;exact⟨i,rfl,h2.1,h2.2.1,h2.2.2⟩
theorem Gx.Ok.fns {g:Gx}(h:g.Ok):∀f∈g.fns,Bw g.P f:=by
 intro f;have key:∀l,BB g.P l->f∈l->Bw g.P f:=by
  intro l;induction l with
  | nil=>intro _ h;cases h
  | cons x l ih=>intro h hm;cases hm with
   | head=>exact h.1
   | tail _ hm=>exact ih h.2 hm
 exact key _ h.fns'
def gL (n:Nat):List Nat->Bool
 | []=>false
 | x::l=>match Nat.beq x n with
  | true=>true
  | false=>gL n l
theorem BC {n:Nat}{l:List Nat}(h:gL n l=true):n∈l:=by
 induction l with
 | nil=>cases h
 | cons x l ih=>
  simp only[gL] at h;cases hb:Nat.beq x n with
  | true=>have:=VW hb;simp[this]
  | false=>simp only[hb] at h;simp[ih h]
structure Cx where
 g:Gx
 N:Slots
 named:Nat
 keep:List Nat
 cuts:List Nat:=[]
abbrev Zs:=Exit->Env->World->Prop
def Up (c:Cx)(Q:Zs):Exit->Act->World->Prop:=λe a w=>∃S,Fits c.N S a/\Q e S w
@[irreducible] def KY (b:Bool) (p q:Prop):Prop:=(b=true->p)/\(b=false->q)
@[irreducible] def eF (n:Int) (K:Int->Prop):Prop:=K n
@[irreducible] def gM (p:Prop) (n:Int) (K:Int->Prop):Prop:=p/\K n
@[irreducible] def j6 (p:Prop) (v:Value) (K:Value->Prop):Prop:=p/\K v
@[irreducible] def iP (w:World) (p:Addr) (K:Value->Prop):Prop:=∃v,w.cell? p=some v/\K v
@[irreducible] def lv (w:World) (p:Addr) (n:Nat) (K:List Value->Prop):Prop:=∃vs:List Value,vs.length=n/\(∀j v,vs[j]? =some v->w.cell? (p.add j)=some v)/\K vs
@[irreducible] def fG (w:World) (p:Addr) (v:Value) (K:World->Prop):Prop:=(∃u,w.cell? p=some u)/\w.frozen? p=false/\K (w.setCell p v)
@[irreducible] def qR (w:World) (t:TypeId) (cs:List Value) (K:Addr->World->Prop):Prop:=K ⟨w.heap.size,0,none⟩ (w.alloc (.cells cs.toArray t))
@[irreducible] def nW (P:Program) (w:World) (p:Addr) (vs:List Value) (K:World->Prop):Prop:=∃w',(storeCells p vs).run P w= .ok () w'/\K w'
@[irreducible] def P5 (a b:String) (K:Prop):Prop:=a=b/\K
@[irreducible] def WU (b:Option Addr) (n:Nat) (i:Int) (sz:Nat) (K:Addr->Prop):Prop:=∃a,b=some a/\0<=i/\i<n/\K (a.add (i.toNat*sz))
@[irreducible] def fH (s:ByteArray) (i:Int) (K:Int->Prop):Prop:=∃b,0<=i/\s[i.toNat]? =some b/\K (b.toNat:Int)
@[irreducible] def Fn (P:Program) (f:FuncId) (l:List Value) (w:World) (R:Value->World->Prop):Prop:=Calls P f l.toArray w fun
 | .returned v,w'=>R v w'
 | _,_=>False
@[irreducible] def iQ (P:Program) (f:FuncId) (l:List Value) (w:World) (K:Value->World->Prop) (Xj:List PanicEntry->World->Prop):Prop:=Calls P f l.toArray w fun
 | .returned v,w'=>K v w'
 | .panicked ch,w'=>Xj ch w'
 | .outgrown,_=>False
@[irreducible] def P6 (c:Cx) (nm:String) (t:Nat) (l:List Value) (w:World) (K:Value->World->Prop) (Xj:List PanicEntry->World->Prop):Prop:=
 ∃r,xk c.g.ms t=some r/\nm=r.name/\gL r.f c.g.fns=true/\iQ c.g.P r.f l w K Xj
@[irreducible] def Zh (c:Cx) (o:Oper) (S:Env) (w:World) (K:Env->World->Prop) (Q:Zs):Prop:=
 ∀a,Fits c.N S a->o.wp c.g.P a w (λa' w'=>∃S',Fits c.N S' a'/\K S' w') (Up c Q)
@[irreducible] def WV (c:Cx) (id:Nat) (ops:List Oper) (S:Env) (w:World) (Q:Zs):Prop:=
 ∀a,Fits c.N S a->(Code.region id ops.toArray true).wp c.g.P (Up c Q) a w
@[irreducible] def BD (c:Cx) (x:Code) (S:Env) (w:World) (Q:Zs):Prop:=
 ∀a,Fits c.N S a->(Code.loop x).wp c.g.P (Up c Q) a w
@[irreducible] def lw (c:Cx) (x:Code) (S:Env) (w:World) (Q:Zs):Prop:=
 ∀a,Fits c.N S a->x.wp c.g.P (Up c Q) a w
inductive PR where
 | val (v:Value)
 | ent (e:Ent)
 | norm (k:IntKind) (n:Int)
 | normIf (p:Prop) (k:IntKind) (n:Int)
 | need (p:Prop) (v:Value)
 | no
def ub:List Value->Nat->Option Value
 | [],_=>none
 | x::_,0=>some x
 | _::l,n+1=>ub l n
theorem P7 (l:List Value)(n:Nat):ub l n=l[n]? :=by
 induction l generalizing n with
 | nil=>simp[ub]
 | cons x l ih=>cases n<;>simp[ub,ih]
def qS:IntKind->Nat
 | .i8=>0 | .i16=>1 | .i32=>2 | .i64=>3 | .u8=>4 | .u16=>5 | .u32=>6 | .u64=>7
theorem P8 {a b:IntKind}(h:Nat.beq (qS a) (qS b)=true):a=b:=by
 have:=VW h;cases a<;>cases b<;>first | rfl | (simp[qS] at this)
def Gn (op:BinOp)(k:IntKind)(x y:Int):PR:=
 match op with
 | .add=>.norm k (k.wrap (x+y))
 | .sub=>.norm k (k.wrap (x-y))
 | .mul=>.norm k (k.wrap (x*y))
 | .quo=>.normIf (y≠0) k (k.wrap (x.tdiv y))
 | .rem=>.normIf (y≠0) k (x.tmod y)
 | .and=>.norm k (k.wrap ((BitVec.ofInt k.bits x &&& BitVec.ofInt k.bits y).toNat))
 | .or=>.norm k (k.wrap ((BitVec.ofInt k.bits x ||| BitVec.ofInt k.bits y).toNat))
 | .xor=>.norm k (k.wrap ((BitVec.ofInt k.bits x^^^BitVec.ofInt k.bits y).toNat))
 | .andNot=>.norm k (k.wrap ((BitVec.ofInt k.bits x &&& ~~~ BitVec.ofInt k.bits y).toNat))
 | .eql=>.val (.bool (x==y))
 | .neq=>.val (.bool (x !=y))
 | .lss=>.val (.bool (decide (x<y)))
 | .leq=>.val (.bool (decide (x<=y)))
 | .gtr=>.val (.bool (decide (x>y)))
 | .geq=>.val (.bool (decide (x≥y)))
 | _=>.no
def Gp (op:BinOp)(k:IntKind)(x:Int)(k':IntKind)(y:Int):PR:=
 match op with
 | .shl=>.normIf (0<=y) k (k.wrap (x*2^(min y.toNat k.bits)))
 | .shr=>.normIf (0<=y) k (x.fdiv (2^(min y.toNat k.bits)))
 | op=>match Nat.beq (qS k) (qS k')with
  | true=>Gn op k x y
  | false=>.no
def Gq (op:BinOp)(x y:ByteArray):PR:=
 match op with
 | .add=>.need (x.size+y.size<=maxLen) (.string (x++y))
 | .eql=>.val (.bool (decide (x=y)))
 | .neq=>.val (.bool (!decide (x=y)))
 | .lss=>.val (.bool (Op.bytesLess x.data.toList y.data.toList))
 | _=>.no
def Gr:TypeDesc->Value->PR
 | .string,.string s=>.val (.int .i64 s.size)
 | .slice _,.slice _ n _=>.val (.int .i64 n)
 | _,_=>.no
def j7:TypeDesc->Value->Value->Option Bool
 | .bool,.bool a,.bool b=>some (a==b)
 | .slice _,.slice none _ _,.slice b _ _=>some b.isNone
 | .slice _,.slice (some _) _ _,.slice none _ _=>some false
 | .map _ _,.map none,.map b=>some b.isNone
 | .map _ _,.map (some _),.map none=>some false
 | .pointer _,.pointer none,.pointer b=>some b.isNone
 | .pointer _,.pointer (some _),.pointer none=>some false
 | .interface _,.nilIface,.iface _ _=>some false
 | .interface _,.iface _ _,.nilIface=>some false
 | .func _ _ _,.nilFunc,.nilFunc=>some true
 | .func _ _ _,.nilFunc,.func _ _ _=>some false
 | .func _ _ _,.func _ _ _,.nilFunc=>some false
 | _,_,_=>none
def eG:List Nat->List Value->List Value->Option Bool
 | [],[],[]=>some true
 | 0::ks,.int k a::xs,.int k' b::ys=>match Nat.beq (qS k) (qS k'),eG ks xs ys with
  | true,some r=>some (a==b&&r)
  | _,_=>none
 | 1::ks,.string a::xs,.string b::ys=>match eG ks xs ys with
  | some r=>some (decide (a=b)&&r)
  | none=>none
 | 2::ks,.bool a::xs,.bool b::ys=>match eG ks xs ys with
  | some r=>some (a==b&&r)
  | none=>none
 | _,_,_=>none
def qT (op:BinOp)(r:Option Bool):PR:=
 match op,r with
 | .eql,some b=>.val (.bool b)
 | .neq,some b=>.val (.bool (!b))
 | _,_=>.no
def nX {α:Type}:List α->Nat->Option α
 | [],_=>none
 | x::_,0=>some x
 | _::l,n+1=>nX l n
def qU:TypeDesc->Bool
 | .struct _=>true
 | .array _ _=>true
 | _=>false
def P9:TypeDesc->Bool
 | .interface _=>true
 | _=>false
def Kb:Value->List Value
 | .agg cs=>cs.toList
 | v=>[v]
def xm:List Value->List Value->List Value
 | [],cs=>cs
 | v::vs,_::cs=>v::xm vs cs
 | _::_,[]=>[]
def Vs:Nat->List Value->List Value->List Value
 | 0,vs,cs=>xm vs cs
 | n+1,vs,c::cs=>c::Vs n vs cs
 | _+1,_,[]=>[]
def xo (g:Gx):List Field->Option (List (Nat×Nat))
 | []=>some []
 | f::l=>match Q0 g.tys f.type,xo g l with
  | some r,some m=>some ((f.offset,r.sz)::m)
  | _,_=>none
def ud (ps:Nat->Option (Nat×Nat)):List Value->List (Nat×Value)->Option (List Value)
 | cells,[]=>some cells
 | cells,(i,v)::rest=>match ps i with
  | some (off,sz)=>(match Nat.beq (Kb v).length sz,Nat.ble (off+(Kb v).length) cells.length with
   | true,true=>ud ps (Vs off (Kb v) cells) rest
   | _,_=>none)
  | none=>none
def qV (S:Env):List Operand->Option (List Value)
 | []=>some []
 | x::l=>match S.ev x,qV S l with
  | some v,some m=>some (v::m)
  | _,_=>none
def ue (S:Env):List (Nat×Operand)->Option (List (Nat×Value))
 | []=>some []
 | (i,x)::l=>match S.ev x,ue S l with
  | some v,some m=>some ((i,v)::m)
  | _,_=>none
def ly (S:Env)(d:Int):Option Operand->Option Int
 | none=>some d
 | some x=>match S.ev x with
  | some (.int _ n)=>some n
  | _=>none
def uf (g:Gx)(S:Env):Op->PR
 | .move (.const (.bool true)) | .assign (.const (.bool true))=>.ent .t
 | .move (.const (.bool false)) | .assign (.const (.bool false))=>.ent .f
 | .move (.tmp t) | .assign (.tmp t)=>match S.ent t with
  | some e=>.ent e
  | none=>.no
 | .move x | .assign x=>match S.ev x with
  | some v=>.val v
  | none=>.no
 | .pick (.tmp t) a b=>match S.ent t with
  | some .t=>(match a with
   | .const (.bool true)=>.ent .t
   | .const (.bool false)=>.ent .f
   | .tmp u=>(match S.ent u with
    | some e=>.ent e
    | none=>.no)
   | a=>match S.ev a with
    | some v=>.val v
    | none=>.no)
  | some .f=>(match b with
   | .const (.bool true)=>.ent .t
   | .const (.bool false)=>.ent .f
   | .tmp u=>(match S.ent u with
    | some e=>.ent e
    | none=>.no)
   | b=>match S.ev b with
    | some v=>.val v
    | none=>.no)
  | _=>.no
 | .binOp op t x y _=>match S.ev x,S.ev y with
  | some (.int k a),some (.int k' b)=>Gp op k a k' b
  | some (.string a),some (.string b)=>Gq op a b
  | some (.agg a),some (.agg b)=>(match qQ g.eqs t with
   | some r=>qT op (eG r.ks a.toList b.toList)
   | none=>.no)
  | some a,some b=>(match Q0 g.tys t with
   | some r=>qT op (j7 r.d a b)
   | none=>.no)
  | _,_=>.no
 | .unOp .not _ (.tmp t)=>match S.ent t with
  | some .t=>.ent .f
  | some .f=>.ent .t
  | some (.v (.bool b))=>.val (.bool (!b))
  | _=>.no
 | .unOp .neg _ x=>match S.ev x with
  | some (.int k n)=>.norm k (k.wrap (0-n))
  | _=>.no
 | .convert s t x=>match Q0 g.tys s,Q0 g.tys t,S.ev x with
  | some _,some ⟨_,.int k,_,_,_⟩,some (.int _ n)=>.norm k (k.wrap n)
  | some _,some ⟨_,.string,_,_,_⟩,some (.string s)=>.val (.string s)
  | _,_,_=>.no
 | .extract x i=>match S.ev x with
  | some (.tuple vs)=>(match ub vs.toList i with
   | some v=>.val v
   | none=>.no)
  | _=>.no
 | .call ⟨.builtin .len,xs,ts⟩=>match xs.toList,ts.toList with
  | [x],[t]=>(match Q0 g.tys t,S.ev x with
   | some r,some v=>Gr r.d v
   | _,_=>.no)
  | _,_=>.no
 | .call ⟨.builtin .min,xs,_⟩=>match xs.toList with
  | [x,y]=>(match S.ev x,S.ev y with
   | some (.int k a),some (.int _ b)=>.norm k (if b<a then b else a)
   | _,_=>.no)
  | [x,y,z]=>(match S.ev x,S.ev y,S.ev z with
   | some (.int k a),some (.int _ b),some (.int _ c)=>.norm k (if c<(if b<a then b else a)then c else(if b<a then b else a))
   | _,_,_=>.no)
  | _=>.no
 | .call ⟨.builtin .max,xs,_⟩=>match xs.toList with
  | [x,y]=>(match S.ev x,S.ev y with
   | some (.int k a),some (.int _ b)=>.norm k (if b>a then b else a)
   | _,_=>.no)
  | _=>.no
 | .nilCheck x=>match S.ev x with
  | some (.pointer (some p))=>.val (.pointer (some p))
  | some (.iface t v)=>.val (.iface t v)
  | some (.func (.func n) a b)=>.val (.func (.func n) a b)
  | _=>.no
 | .fieldAddr t x k=>match Q0 g.tys t,S.ev x with
  | some r,some (.pointer (some p))=>(match r.d with
   | .struct fs=>(match nX fs.toList k with
    | some f=>(match Q0 g.tys f.type with
     | some rf=>(match Nat.beq rf.sz 0 with
      | false=>.val (.pointer (some (p.add f.offset)))
      | true=>.no)
     | none=>.no)
    | none=>.no)
   | _=>.no)
  | _,_=>.no
 | .field t x k=>match Q0 g.tys t,S.ev x with
  | some r,some (.agg cs)=>(match r.d with
   | .struct fs=>(match nX fs.toList k with
    | some f=>(match Q0 g.tys f.type with
     | some rf=>(match qU rf.d with
      | true=>.val (.agg ((cs.toList.drop f.offset).take rf.sz).toArray)
      | false=>(match ub cs.toList f.offset with
       | some v=>.val v
       | none=>.no))
     | none=>.no)
    | none=>.no)
   | _=>.no)
  | _,_=>.no
 | .build t parts=>match Q0 g.tys t,ue S parts.toList with
  | some r,some ps=>(match r.d with
   | .struct fs=>(match xo g fs.toList with
    | some pl=>(match ud (nX pl) r.z.cells.toList ps with
     | some cs=>.val (.agg cs.toArray)
     | none=>.no)
    | none=>.no)
   | .array _ e=>(match Q0 g.tys e with
    | some re=>(match ud (λi=>some (i*re.sz,re.sz)) r.z.cells.toList ps with
     | some cs=>.val (.agg cs.toArray)
     | none=>.no)
    | none=>.no)
   | _=>.no)
  | _,_=>.no
 | .makeInterface t x=>match Q0 g.tys t,S.ev x with
  | some r,some v=>(match P9 r.d with
   | false=>.val (.iface t v)
   | true=>.no)
  | _,_=>.no
 | .makeFunc f xs ys=>match qV S xs.toList,qV S ys.toList with
  | some a,some b=>.val (.func f a.toArray b.toArray)
  | _,_=>.no
 | .slice t x lo hi none=>match Q0 g.tys t,S.ev x with
  | some ⟨_,.string,_,_,_⟩,some (.string s)=>(match ly S 0 lo,ly S s.size hi with
   | some l,some h=>.need (0<=l/\l<=h/\h<=s.size) (.string (s.extract l.toNat h.toNat))
   | _,_=>.no)
  | _,_=>.no
 | _=>.no
def PR.Means (w:World)(r:Result Next):PR->Prop
 | .val v=>r= .ok (.value v) w
 | .ent e=>r= .ok (.value e.val) w
 | .norm k n=>r= .ok (.value (.int k n)) w
 | .normIf p k n=>p->r= .ok (.value (.int k n)) w
 | .need p v=>p->r= .ok (.value v) w
 | .no=>True
section
variable {g:Gx} {S:Env} {w:World} {ρ:Operand->Value}
theorem dQM (op:BinOp)(t:TypeId)(k:IntKind)(x y:Int)(h1:op≠ .shl)(h2:op≠ .shr):
  (Gn op k x y).Means w (((binOp op t (.int k x) (.int k y)).run g.P w).andThen λv w=>.ok (.value v) w):=by
 cases op<;>first | (exact Xc rfl h1) | (exact Xc rfl h2) | skip
 all_goals simp[Gn,PR.Means,binOp,Op.intArith,Op.intBits,Op.intCmp,Op.intDiv]
 all_goals (intro h;simp[h])
theorem dQN (op:BinOp)(t:TypeId)(k k':IntKind)(x y:Int):
  (Gp op k x k' y).Means w (((binOp op t (.int k x) (.int k' y)).run g.P w).andThen λv w=>.ok (.value v) w):=by
 unfold Gp;split
 ·intro h;simp only[binOp,Op.shift];rw[if_neg (by omega)];simp
 ·intro h;simp only[binOp,Op.shift];rw[if_neg (by omega)];simp
 ·rename_i h1 h2;split
  ·rename_i hk;have:=P8 hk;subst this;exact dQM op t k x y h1 h2
  ·trivial
theorem xp (a b:ByteArray):(a.toList==b.toList)=decide (a=b):=by
 rw[qE];simp[ByteArray.toList_eq];constructor
 ·intro h;cases a;cases b;simp_all
 ·intro h;rw[h]
theorem dQO (op:BinOp)(t:TypeId)(x y:ByteArray):
  (Gq op x y).Means w (((binOp op t (.string x) (.string y)).run g.P w).andThen λv w=>.ok (.value v) w):=by
 unfold Gq;split<;>simp only[PR.Means]
 ·intro h;have:¬((x.size+y.size:Nat):Int)>IntKind.i64.max:=by
   have h2:IntKind.i64.max=9223372036854775807:=by decide
   rw[h2];unfold maxLen at h;omega
  simp only[binOp,Op.stringOp];rw[if_neg this];simp
 ·simp[binOp,Op.stringOp,xp]
 ·simp[binOp,Op.stringOp,xp]
 ·simp[binOp,Op.stringOp,ByteArray.toList_eq]
theorem Wp (hg:g.Ok){t:Nat}{r:TyRow}(hr:Q0 g.tys t=some r)(w:World):(underlying t).run g.P w= .ok r.d w:=
 Ja (hg.row hr).1 w
theorem dQP (hg:g.Ok){t:Nat}{r:TyRow}(hr:Q0 g.tys t=some r)(ty:TypeId)(v:Value):
  (Gr r.d v).Means w (((Builtin.len_ #[t] ty #[v]).run g.P w).andThen λv w=>.ok (.value v) w):=by
 have hu:=Wp hg hr w;unfold Gr;split<;>simp only[PR.Means]
 ·rename_i h;simp[Builtin.len_,hu,h,goInt]
 ·rename_i h;simp[Builtin.len_,hu,h,goInt]
theorem dQQ (hg:g.Ok){t:Nat}{r:TyRow}(hr:Q0 g.tys t=some r){x y:Value}{b:Bool}(h:j7 r.d x y=some b)(n:Nat):
  (Op.equalIn (n+1) t x y).run g.P w= .ok b w:=by
 have hu:=Wp hg hr w;unfold j7 at h;split at h<;>first | (simp only[Option.some.injEq] at h;subst h;rename_i hd;simp[Op.equalIn,hu,hd];done) | cases h
theorem Ra (hg:g.Ok){t:Nat}{r:TyRow}(hr:Q0 g.tys t=some r){x y:Value}{b:Bool}(h:j7 r.d x y=some b):
  (Op.equal t x y).run g.P w= .ok b w:=dQQ hg hr h 9999
theorem dQR (op:BinOp)(t:TypeId)(x y:Operand){d:TypeDesc}{a b:Value}{r:Bool}(h:j7 d a b=some r):eqGuard op t x y a b=pure ():=by
 unfold j7 at h;split at h<;>first | (simp only[eqGuard];split<;>rfl) | cases h
theorem dQS (hg:g.Ok)(op:BinOp){t:Nat}{r:TyRow}(hr:Q0 g.tys t=some r)(x y:Value):
  (qT op (j7 r.d x y)).Means w (((binOp op t x y).run g.P w).andThen λv w=>.ok (.value v) w):=by
 unfold qT;split
 ·rename_i b hb;have h:=Ra (w:=w) hg hr hb;have e:binOp .eql t x y=(do pure (.bool (<-Op.equal t x y))):=by
   unfold j7 at hb;split at hb<;>first | rfl | cases hb
  simp[PR.Means,e,h]
 ·rename_i b hb;have h:=Ra (w:=w) hg hr hb;have e:binOp .neq t x y=(do pure (.bool (!(<-Op.equal t x y)))):=by
   unfold j7 at hb;split at hb<;>first | rfl | cases hb
  simp[PR.Means,e,h]
 ·trivial
theorem dQT {P:Program}{t:TypeId}(h:fE (P.underlying t)<3)(w:World):(isAgg t).run P w= .ok false w:=by
 cases hu:P.underlying t with
 | none=>rw[hu] at h;simp[fE] at h
 | some d=>
  simp only[isAgg,Sem.run_bind,Ja hu,Result.andThen_ok];rw[hu] at h;cases d<;>first | rfl | (simp[fE] at h)
theorem dC {P:Program}{t:TypeId}(h:fE (P.underlying t)<3){cs:Array Value}{n:Nat}{v:Value}(hv:cs[n]? =some v)(w:World):(part t cs n).run P w= .ok v w:=by
 simp[part,dQT h,hv]
theorem Gt {P:Program}{xs ys:Array Value}:∀(fs:List Field)(ks:List Nat)(n:Nat)(xl yl:List Value)(b:Bool),qP P n fs ks=true->eG ks xl yl=some b->
  (∀j,xl[j]? =xs[n+j]?)->(∀j,yl[j]? =ys[n+j]?)->∀(d:Nat) (w:World),(Op.eqFields (d+1) xs ys fs).run P w= .ok b w
 | [],[],n,[],[],b,_,h,_,_,d,w=>by
  simp only[eG,Option.some.injEq] at h;subst h;simp[Op.eqFields]
 | [],[],_,[],_::_,_,_,h,_,_,_,_=>by simp[eG] at h
 | [],[],_,_::_,_,_,_,h,_,_,_,_=>by simp[eG] at h
 | [],_::_,_,_,_,_,hb,_,_,_,_,_=>by simp[qP] at hb
 | _::_,[],_,_,_,_,hb,_,_,_,_,_=>by simp[qP] at hb
 | f::fs,k::ks,n,xl,yl,b,hb,h,hx,hy,d,w=>by
  simp only[qP,Z9,bne_iff_ne,ne_eq] at hb;obtain⟨⟨⟨⟨jI,bF⟩,hk⟩,kL⟩,Ai⟩:=hb;have bF:=VW bF;have hk:=VW hk;have kL:k<3:=by rw[iM] at kL;exact kL
  have Xa:fE (P.underlying f.type)<3:=by omega
  have step:∀(u v:Value) (xt yt:List Value) (e r:Bool),xl=u::xt->yl=v::yt->eG ks xt yt=some r->(Op.equalIn (d+1) f.type u v).run P w= .ok e w->
    (Op.eqFields (d+1) xs ys (f::fs)).run P w= .ok (e&&r) w:=by
   rintro u v xt yt e r rfl rfl hr he;have hu:xs[f.offset]? =some u:=by rw[bF];simpa using (hx 0).symm
   have hv:ys[f.offset]? =some v:=by rw[bF];simpa using (hy 0).symm
   have ih:=Gt fs ks (n+1) xt yt r Ai hr (λj=>by have:=hx (j+1);simpa [lq,Bj 1 j] using this) (λj=>by have:=hy (j+1);simpa [lq,Bj 1 j] using this) d w;simp only[Op.eqFields,ne_eq,jI,not_false_eq_true,if_true,Sem.run_bind,dC Xa hu,dC Xa hv,Result.andThen_ok,he];cases e with
   | true=>simpa using ih
   | false=>simp
  unfold eG at h;split at h
  ·simp at*
  ·rename_i ks' k1 a xt k2 b2 yt iv;simp only[List.cons.injEq] at iv;obtain⟨rfl,rfl⟩:=iv;split at h
   ·rename_i r h1 h2;have:=P8 h1;subst this;simp only[Option.some.injEq] at h;subst h;cases hu:P.underlying f.type with
    | none=>rw[hu] at hk;simp[fE] at hk
    | some dd=>rw[hu] at hk;cases dd<;>first | (exact step _ _ _ _ _ _ rfl rfl h2 (run_equalIn_int w d f.type _ _ _ _ hu)) | (simp[fE] at hk)
   ·cases h
  ·rename_i ks' a xt b2 yt iv;simp only[List.cons.injEq] at iv;obtain⟨rfl,rfl⟩:=iv;split at h
   ·rename_i r h2;simp only[Option.some.injEq] at h;subst h;cases hu:P.underlying f.type with
    | none=>rw[hu] at hk;simp[fE] at hk
    | some dd=>rw[hu] at hk;cases dd<;>first | (refine step _ _ _ _ _ _ rfl rfl h2 ?_;rw[run_equalIn_string w d f.type _ _ hu,xp];done) | (simp[fE] at hk)
   ·cases h
  ·rename_i ks' a xt b2 yt iv;simp only[List.cons.injEq] at iv;obtain⟨rfl,rfl⟩:=iv;split at h
   ·rename_i r h2;simp only[Option.some.injEq] at h;subst h;cases hu:P.underlying f.type with
    | none=>rw[hu] at hk;simp[fE] at hk
    | some dd=>rw[hu] at hk;cases dd<;>first | (exact step _ _ _ _ _ _ rfl rfl h2 (run_equalIn_bool' w d f.type _ _ hu)) | (simp[fE] at hk)
   ·cases h
  ·cases h
theorem Rb (hg:g.Ok){t:Nat}{r:ERow}(hr:qQ g.eqs t=some r){xs ys:Array Value}{b:Bool}(h:eG r.ks xs.toList ys.toList=some b)(n:Nat):
  (Op.equalIn (n+2) t (.agg xs) (.agg ys)).run g.P w= .ok b w:=by
 obtain⟨⟨h1,_,h3⟩,rfl⟩:=P4 hr hg.eqs;split at h3
 ·rename_i fs hu;have hf:g.P.fieldsOf r.t=fs:=by simp[Program.fieldsOf,hu]
  rw[run_equalIn_struct w (n+1) r.t xs ys (by rw[hf];exact hu) h1,hf];exact Gt fs.toList r.ks 0 _ _ b h3 h (λj=>by simp) (λj=>by simp) n w
 ·cases h3
theorem dQU (hg:g.Ok)(op:BinOp){t:Nat}{r:ERow}(hr:qQ g.eqs t=some r)(x y:Operand)(xs ys:Array Value):
  (qT op (eG r.ks xs.toList ys.toList)).Means w (((eqGuard op t x y (.agg xs) (.agg ys)).run g.P w).andThen λ_ w=>((binOp op t (.agg xs) (.agg ys)).run g.P w).andThen λv w=>.ok (.value v) w):=by
 have KU:∀op,(eqGuard op t x y (.agg xs) (.agg ys)).run g.P w= .ok () w:=λop=>by
  obtain⟨⟨_,h2,_⟩,rfl⟩:=P4 hr hg.eqs;exact run_eqGuard_agg w op r.t x y xs ys h2
 unfold qT;split
 ·rename_i b hb;have h:=Rb (w:=w) hg hr hb 9998;simp only[PR.Means,KU,Result.andThen_ok,run_eql_struct];rw[h]<;>rfl
 ·rename_i b hb;have h:=Rb (w:=w) hg hr hb 9998;simp only[PR.Means,KU,Result.andThen_ok,run_neq_struct];rw[h]<;>rfl
 ·trivial
theorem Rc {α:Type}{xs:Array α}{x:α}(h:xs.toList=[x]):xs= #[x]:=by
 cases xs;simp_all
theorem Re {α:Type}{xs:Array α}{x y:α}(h:xs.toList=[x,y]):xs= #[x,y]:=by
 cases xs;simp_all
theorem dQV {α:Type}{xs:Array α}{x y z:α}(h:xs.toList=[x,y,z]):xs= #[x,y,z]:=by
 cases xs;simp_all
theorem Gu {α:Type}(l:List α)(n:Nat):nX l n=l[n]? :=by
 induction l generalizing n with
 | nil=>simp[nX]
 | cons x l ih=>cases n<;>simp[nX,ih]
theorem qW (v:Value):v.cells.toList=Kb v:=by cases v<;>rfl
theorem Rf (vs:List Value)(v:Value):∀(n:Nat)(l:List Value),Vs (n+1) vs (l.set n v)=Vs n (v::vs) l
 | 0,[]=>rfl
 | 0,_::_=>rfl
 | _+1,[]=>rfl
 | n+1,c::l=>by
  show c::Vs (n+1) vs (l.set n v)=c::Vs n (v::vs) l;rw[Rf vs v n l]
theorem Rg:∀(n:Nat)(l:List Value),Vs n [] l=l
 | 0,_=>rfl
 | _+1,[]=>rfl
 | n+1,c::l=>by
  show c::Vs n [] l=c::l;rw[Rg n l]
theorem Rh (off:Nat):∀(vs:List Value)(k:Nat)(l:List Value),
  (vs.zipIdx k).foldl (λcs (p:Value×Nat)=>cs.set (off+p.2) p.1) l=Vs (off+k) vs l
 | [],_,_=>(Rg _ _).symm
 | v::vs,k,l=>by
  rw[List.zipIdx_cons,eE,Rh off vs (k+1)];exact Rf vs v (off+k) l
theorem Ri (off:Nat)(vs cells:Array Value):
  (vs.zipIdx.foldl (λcs (c,j)=>cs.setIfInBounds (off+j) c) cells).toList=Vs off vs.toList cells.toList:=by
 have h:=Rh off vs.toList 0 cells.toList;rw[Nat.add_zero] at h;rw[<-Array.foldl_toList,Array.toList_zipIdx,<-h];clear h;generalize vs.toList.zipIdx 0=l;induction l generalizing cells with
 | nil=>rfl
 | cons p l ih=>simp only[eE];rw[ih];simp
theorem Gv (ps:Nat->Option (Nat×Nat)):∀(parts:List (Nat×Value))(cells:Array Value)(out:List Value),ud ps cells.toList parts=some out->Instr.fill ps cells parts=some out.toArray
 | [],cells,out,h=>by
  simp only[ud,Option.some.injEq] at h;subst h;simp[Instr.fill]
 | (i,v)::rest,cells,out,h=>by
  simp only[ud] at h;split at h
  ·rename_i off sz hp;split at h
   ·rename_i h1 h2;have h1:=VW h1;have h2:=iN h2;have e1:v.cells.size=sz:=by rw[<-h1,<-qW];simp
    have e2:off+v.cells.size<=cells.size:=by rw[e1,<-h1];simpa using h2
    simp only[Instr.fill,hp];rw[if_neg (by simp;omega)];refine Gv ps rest _ out ?_;rw[Ri,qW];exact h
   ·cases h
  ·cases h
theorem Rj (hg:g.Ok):∀(l:List Field)(m:List (Nat×Nat)),xo g l=some m->
  (l.mapM (m:=Sem) λf=>Prod.mk f.offset <$> sizeOf f.type).run g.P w= .ok m w
 | [],m,h=>by simp only[xo,Option.some.injEq] at h;subst h;simp
 | f::l,m,h=>by
  simp only[xo] at h;split at h
  ·rename_i r m' hr hm;simp only[Option.some.injEq] at h;subst h;obtain⟨_,i,hi,hs,_⟩:=hg.row hr;have ih:=Rj hg l m' hm;have hz:(sizeOf f.type).run g.P w= .ok r.sz w:=by simp[sizeOf,typeInfo,hi,hs]
   rw[List.mapM_cons];simp[hz,ih]
  ·cases h
theorem BG {ρ:Operand->Value}(hρ:∀x v,S.ev x=some v->ρ x=v):∀(l:List Operand)(m:List Value),qV S l=some m->l.map ρ=m
 | [],m,h=>by simp only[qV,Option.some.injEq] at h;subst h;rfl
 | x::l,m,h=>by
  simp only[qV] at h;split at h
  ·rename_i v m' hv hm;simp only[Option.some.injEq] at h;subst h;rw[Kw,hρ _ _ hv,BG hρ l m' hm]
  ·cases h
theorem Gw {ρ:Operand->Value}(hρ:∀x v,S.ev x=some v->ρ x=v):∀(l:List (Nat×Operand))(m:List (Nat×Value)),ue S l=some m->l.map (λ(i,x)=>(i,ρ x))=m
 | [],m,h=>by simp only[ue,Option.some.injEq] at h;subst h;rfl
 | (i,x)::l,m,h=>by
  simp only[ue] at h;split at h
  ·rename_i v m' hv hm;simp only[Option.some.injEq] at h;subst h;rw[Kw,Gw hρ l m' hm];show(i,ρ x)::m'=_;rw[hρ _ _ hv]
  ·cases h
theorem Rk {ρ:Operand->Value}(hρ:∀x v,S.ev x=some v->ρ x=v){x:Operand}{n:Int}{d:Int}(h:ly S d (some x)=some n)(y:Nat)(hn:0<=n/\n<=y)(code:BoundsCode):
  (Instr.sliceBound (ρ x) y code).run g.P w= .ok n.toNat w:=by
 unfold ly at h;simp only at h;split at h
 ·rename_i k m hv;simp only[Option.some.injEq] at h;subst h;rw[hρ _ _ hv];simp[Instr.sliceBound,asIntOf,hn]
 ·cases h
theorem dQW {ρ:Operand->Value}(hρ:∀x v,S.ev x=some v->ρ x=v){lo hi:Option Operand}{l h:Int}{n:Nat}(h1:ly S 0 lo=some l)(h2:ly S n hi=some h)(hp:0<=l/\l<=h/\h<=n):
  (Instr.sliceBounds false n n (lo.map ρ) (hi.map ρ) none).run g.P w= .ok (l.toNat,h.toNat,n) w:=by
 have e1:∀x,lo=some x->∀y:Nat,h=(y:Int)->∀code,(Instr.sliceBound (ρ x) y code).run g.P w= .ok l.toNat w:=λx hx y hy code=>
  Rk hρ (d:=0) (by rw[<-hx];exact h1) y ⟨hp.1,by omega⟩ code
 have e2:∀x,hi=some x->∀code,(Instr.sliceBound (ρ x) n code).run g.P w= .ok h.toNat w:=λx hx code=>
  Rk hρ (d:=n) (by rw[<-hx];exact h2) n ⟨by omega,hp.2.2⟩ code
 have hn:h=((h.toNat:Nat):Int):=by omega
 cases lo with
 | none=>
  have:l=0:=by simpa [ly] using h1.symm
  subst this;cases hi with
  | none=>
   have:h=n:=by simpa [ly] using h2.symm
   subst this;simp[Instr.sliceBounds]
  | some y=>simp[Instr.sliceBounds,e2 y rfl]
 | some x=>
  cases hi with
  | none=>
   have:h=n:=by simpa [ly] using h2.symm
   subst this;simp[Instr.sliceBounds,e1 x rfl n rfl]
  | some y=>simp[Instr.sliceBounds,e2 y rfl,e1 x rfl _ hn]
theorem dQX (hg:g.Ok)(hρ:∀x v,S.ev x=some v->ρ x=v)(o:Oper):
  (uf g S o.op).Means w ((execOp ρ o).run g.P w):=by
 obtain⟨dst,op,ty,pos,aft,gd⟩:=o;simp only;have nt:∀t e,S.ent t=some e->ρ (.tmp t)=e.val:=λt e h=>hρ _ _ (by
  simp only[Env.ev,Env.get];rw[h];cases e<;>rfl)
 unfold uf;split
 ·have:=hρ (.const (.bool true)) _ rfl;simp[PR.Means,execOp,this,Ent.val]
 ·have:=hρ (.const (.bool true)) _ rfl;simp[PR.Means,execOp,this,Ent.val]
 ·have:=hρ (.const (.bool false)) _ rfl;simp[PR.Means,execOp,this,Ent.val]
 ·have:=hρ (.const (.bool false)) _ rfl;simp[PR.Means,execOp,this,Ent.val]
 ·split
  ·rename_i e h;simp[PR.Means,execOp,nt _ _ h]
  ·trivial
 ·split
  ·rename_i e h;simp[PR.Means,execOp,nt _ _ h]
  ·trivial
 ·split
  ·rename_i e h;simp[PR.Means,execOp,hρ _ _ h]
  ·trivial
 ·split
  ·rename_i e h;simp[PR.Means,execOp,hρ _ _ h]
  ·trivial
 ·rename_i t a b;split
  ·rename_i h;have h1:=nt _ _ h;split
   ·have:=hρ (.const (.bool true)) _ rfl;simp[PR.Means,execOp,h1,this,Ent.val,asBool]
   ·have:=hρ (.const (.bool false)) _ rfl;simp[PR.Means,execOp,h1,this,Ent.val,asBool]
   ·split
    ·rename_i h2;simp[PR.Means,execOp,h1,nt _ _ h2,Ent.val,asBool]
    ·trivial
   ·split
    ·rename_i h2;simp[PR.Means,execOp,h1,hρ _ _ h2,Ent.val,asBool]
    ·trivial
  ·rename_i h;have h1:=nt _ _ h;split
   ·have:=hρ (.const (.bool true)) _ rfl;simp[PR.Means,execOp,h1,this,Ent.val,asBool]
   ·have:=hρ (.const (.bool false)) _ rfl;simp[PR.Means,execOp,h1,this,Ent.val,asBool]
   ·split
    ·rename_i h2;simp[PR.Means,execOp,h1,nt _ _ h2,Ent.val,asBool]
    ·trivial
   ·split
    ·rename_i h2;simp[PR.Means,execOp,h1,hρ _ _ h2,Ent.val,asBool]
    ·trivial
  ·trivial
 ·split
  ·rename_i hx hy;have:=dQN (g:=g) (w:=w);simp only[execOp,hρ _ _ hx,hρ _ _ hy,eqGuard];split<;>simpa using this _ _ _ _ _ _
  ·rename_i hx hy;have:=dQO (g:=g) (w:=w);simp only[execOp,hρ _ _ hx,hρ _ _ hy,eqGuard];split<;>simpa using this _ _ _ _
  ·rename_i op t x y _ _ _ a b hx hy;cases hr:qQ g.eqs t with
   | none=>trivial
   | some r=>
    have:=dQU (w:=w) hg op hr x y a b;simp only[execOp,hρ _ _ hx,hρ _ _ hy];simpa using this
  ·rename_i op t x y _ _ _ a b _ _ _ hx hy;cases hr:Q0 g.tys t with
   | none=>trivial
   | some r=>
    have:=dQS (w:=w) hg op hr a b;generalize ho:j7 r.d a b=o at this;simp only[ho];cases o with
    | none=>unfold qT;split<;>first | trivial | (rename_i hn;cases hn)
    | some q=>
     simp only[execOp,hρ _ _ hx,hρ _ _ hy,dQR op t x y ho];simpa using this
  ·trivial
 ·split
  ·rename_i h;simp[PR.Means,execOp,nt _ _ h,Ent.val,Op.unary]
  ·rename_i h;simp[PR.Means,execOp,nt _ _ h,Ent.val,Op.unary]
  ·rename_i h;simp[PR.Means,execOp,nt _ _ h,Ent.val,Op.unary]
  ·trivial
 ·split
  ·rename_i h;simp[PR.Means,execOp,hρ _ _ h,Op.unary,Op.intArith]
  ·trivial
 ·split
  ·rename_i hs ht hx;simp only[PR.Means,execOp,hρ _ _ hx,convert];simp[Wp hg hs,Wp hg ht,Conv.intToInt]
  ·rename_i hs ht hx;simp only[PR.Means,execOp,hρ _ _ hx,convert];simp[Wp hg hs,Wp hg ht]
  ·trivial
 ·split
  ·rename_i vs hx;split
   ·rename_i v hv;rw[P7,Array.getElem?_toList] at hv;simp[PR.Means,execOp,hρ _ _ hx,Instr.extract,hv]
   ·trivial
  ·trivial
 ·split
  ·rename_i x t hxs dt;have h1:=Rc hxs;have h2:=Rc dt;subst h1 h2;split
   ·rename_i r v hr hv;have:=dQP (w:=w) hg hr ty v;simpa [execOp,resolve,invoke,builtin,hρ _ _ hv] using this
   ·trivial
  ·trivial
 ·split
  ·rename_i x y hxs;have h1:=Re hxs;subst h1;split
   ·rename_i hx hy;simp[PR.Means,execOp,resolve,invoke,builtin,hρ _ _ hx,hρ _ _ hy,Builtin.min_,Builtin.min2]
   ·trivial
  ·rename_i x y z hxs;have h1:=dQV hxs;subst h1;split
   ·rename_i hx hy hz;simp[PR.Means,execOp,resolve,invoke,builtin,hρ _ _ hx,hρ _ _ hy,hρ _ _ hz,Builtin.min_,Builtin.min2]
   ·trivial
  ·trivial
 ·split
  ·rename_i x y hxs;have h1:=Re hxs;subst h1;split
   ·rename_i hx hy;simp[PR.Means,execOp,resolve,invoke,builtin,hρ _ _ hx,hρ _ _ hy,Builtin.max_,Builtin.max2]
   ·trivial
  ·trivial
 ·split
  ·rename_i h;simp[PR.Means,execOp,hρ _ _ h]
  ·rename_i h;simp[PR.Means,execOp,hρ _ _ h]
  ·rename_i h;simp[PR.Means,execOp,hρ _ _ h]
  ·trivial
 ·rename_i t x k;split
  ·rename_i hr hx;split
   ·rename_i fs hd;split
    ·rename_i f hf;split
     ·rename_i rf Fi;split
      ·rename_i hz;have hu:=Wp hg hr w;rw[hd] at hu;obtain⟨_,i,hi,hs,_⟩:=hg.row Fi;have aH:i.size≠0:=by rw[hs];exact Nat.ne_of_beq_eq_false hz
       rw[Gu] at hf;have Q1:fs[k]? =some f:=by simpa using hf
       simp[PR.Means,execOp,hρ _ _ hx,Instr.fieldAt,hu,Q1,Instr.sureAddr,fieldPlace,sizeOf,typeInfo,hi,aH]
      ·trivial
     ·trivial
    ·trivial
   ·trivial
  ·trivial
 ·rename_i t x k;split
  ·rename_i cs hr hx;split
   ·rename_i fs hd;split
    ·rename_i f hf;have hu:=Wp hg hr w;rw[hd] at hu;rw[Gu] at hf;have Q1:fs[k]? =some f:=by simpa using hf
     split
     ·rename_i rf Fi;have Dz:=Wp hg Fi w;obtain⟨_,i,hi,hs,_⟩:=hg.row Fi;have ha:(isAgg f.type).run g.P w= .ok (qU rf.d) w:=by
       simp only[isAgg,Sem.run_bind,Dz,Result.andThen_ok];cases rf.d<;>rfl
      split
      ·rename_i Oq;simp[PR.Means,execOp,hρ _ _ hx,Instr.field,hu,Q1,asAgg,part,ha,Oq,sizeOf,typeInfo,hi,hs];apply Array.ext';simp[List.take_drop]
      ·rename_i Oq;split
       ·rename_i v hv;rw[P7] at hv;have Ot:cs[f.offset]? =some v:=by simpa using hv
        simp[PR.Means,execOp,hρ _ _ hx,Instr.field,hu,Q1,asAgg,part,ha,Oq,Ot]
       ·trivial
     ·trivial
    ·trivial
   ·trivial
  ·trivial
 ·rename_i t parts;split
  ·rename_i r ps hr bG;have pV:=Gw hρ _ _ bG;have hu:=Wp hg hr w;obtain⟨_,i,hi,hs,hb,hz⟩:=hg.row hr;have dQi:(parts.map λ(x:Nat×Operand)=>(x.1,ρ x.2)).toList=ps:=by rw[PE];exact pV
   split
   ·rename_i fs hd;rw[hd] at hu;split
    ·rename_i pl JF;have XQ:=Rj (w:=w) hg _ _ JF;split
     ·rename_i cs Zq;have wA:=Gv _ _ _ _ Zq;have Aj:(fs.mapM (m:=Sem) λf=>Prod.mk f.offset <$> sizeOf f.type).run g.P w= .ok pl.toArray w:=by
       rw[Array.mapM_eq_mapM_toList];simp[XQ]
      have Fj:(λi=>pl[i]?)=nX pl:=by funext i;rw[Gu]
      have Ou:Instr.fill (λi=>pl[i]?) r.z.cells (parts.toList.map λ(x:Nat×Operand)=>(x.1,ρ x.2))=some cs.toArray:=by
       rw[Fj];rw[show(parts.toList.map λ(x:Nat×Operand)=>(x.1,ρ x.2))=ps from pV];exact wA
      simp only[PR.Means,execOp,Instr.build,zeroValue,typeInfo];simp[hi,hz,hu,Aj,Ou]
     ·trivial
    ·trivial
   ·rename_i n e hd;rw[hd] at hu;split
    ·rename_i re Zc;obtain⟨_,i2,hi2,mI,_⟩:=hg.row Zc;split
     ·rename_i cs Zq;have wA:=Gv _ _ _ _ Zq;have Ou:Instr.fill (λi=>some (i*re.sz,re.sz)) r.z.cells (parts.toList.map λ(x:Nat×Operand)=>(x.1,ρ x.2))=some cs.toArray:=by
       rw[show(parts.toList.map λ(x:Nat×Operand)=>(x.1,ρ x.2))=ps from pV];exact wA
      simp only[PR.Means,execOp,Instr.build,zeroValue,typeInfo,sizeOf];simp[hi,hz,hu,hi2,mI,Ou]
     ·trivial
    ·trivial
   ·trivial
  ·trivial
 ·split
  ·rename_i r v hr hx;split
   ·rename_i hd;have hu:=Wp hg hr w;simp only[PR.Means,execOp,hρ _ _ hx,Instr.makeInterface];simp only[Sem.run_bind,hu,Result.andThen_ok];cases hk:r.d<;>rw[hk] at hd<;>first | (simp[P9] at hd;done) | simp
   ·trivial
  ·trivial
 ·rename_i f xs ys;split
  ·rename_i a b ha hb;have e1:=BG hρ _ _ ha;have e2:=BG hρ _ _ hb;have e1':xs.map ρ=a.toArray:=by apply Array.ext';simpa using e1
   have yM:ys.map ρ=b.toArray:=by apply Array.ext';simpa using e2
   simp[PR.Means,execOp,Instr.makeFunc,e1',yM]
  ·trivial
 ·split
  ·rename_i hr hx;split
   ·rename_i l h hl hh;intro hp;have hb:=dQW (g:=g) (w:=w) hρ hl hh hp;have hu:=Wp hg hr w;simp only[execOp,hρ _ _ hx,Instr.sliceAt,Instr.slice];simp[hu,hb]
   ·trivial
  ·trivial
 ·trivial
end
def Xf (c:Cx)(S:Env)(dst:Option Tmp)(e:Ent)(K:Env->Prop):Prop:=
 match dst with
 | none=>K S
 | some d=>match Nat.blt d c.N.n with
  | true=>K ((d,e)::S)
  | false=>False
def gO:List Value->List Value->(List Value->Prop)->Prop
 | [],QW,K=>K QW
 | x::l,QW,K=>gO l (x::QW) K
def qY (S:Env):List Operand->List Value->(List Value->Prop)->Prop
 | [],QW,K=>K QW
 | x::xs,QW,K=>match S.ev x with
  | some v=>qY S xs (v::QW) K
  | none=>False
def lz (t:Nat):Env->Bool
 | []=>false
 | (k,_)::S=>match Nat.beq k t with
  | true=>true
  | false=>lz t S
def BH (c:Cx)(t:Nat):Bool:=match Nat.blt t c.named with
 | true=>true
 | false=>gL t c.keep
def ao (p:Nat->Bool):Env->Env->(Env->Prop)->Prop
 | [],QW,K=>K QW
 | (t,x)::S,QW,K=>match p t with
  | true=>(match lz t QW with
   | true=>ao p S QW K
   | false=>ao p S ((t,x)::QW) K)
  | false=>ao p S QW K
def JS:Value->Bool
 | .agg _=>false
 | .tuple _=>false
 | _=>true
def Gy (c:Cx)(o:Oper)(S:Env)(w:World)(K:Env->World->Prop)(Q:Zs):Prop:=
 match o.op with
 | .load t x=>(match Q0 c.g.tys t,S.ev x with
  | some r,some (.pointer (some p))=>(match qU r.d with
   | false=>iP w p (λv=>Xf c S o.dst (.v v) (λS=>K S w))
   | true=>lv w p r.sz (λvs=>Xf c S o.dst (.v (.agg vs.toArray)) (λS=>K S w)))
  | _,_=>Zh c o S w K Q)
 | .store t x y=>(match Q0 c.g.tys t,S.ev x,S.ev y with
  | some r,some (.pointer (some p)),some v=>(match JS v,Nat.beq r.sz 1,o.dst with
   | true,true,none=>fG w p v (λw=>K S w)
   | false,_,none=>(match v with
    | .agg cs=>(match Nat.beq cs.toList.length r.sz with
     | true=>nW c.g.P w p cs.toList (λw=>K S w)
     | false=>Zh c o S w K Q)
    | _=>Zh c o S w K Q)
   | _,_,_=>Zh c o S w K Q)
  | _,_,_=>Zh c o S w K Q)
 | .alloc e=>(match Q0 c.g.tys e with
  | some r=>qR w e (Kb r.z) (λp w=>Xf c S o.dst (.v (.pointer (some p))) (λS=>K S w))
  | none=>Zh c o S w K Q)
 | .box e x=>(match S.ev x with
  | some v=>qR w e (Kb v) (λp w=>Xf c S o.dst (.v (.pointer (some p))) (λS=>K S w))
  | none=>Zh c o S w K Q)
 | .indexAddr t x i=>(match Q0 c.g.tys t,S.ev x,S.ev i with
  | some ⟨_,.slice e,_,_,_⟩,some (.slice b n _),some (.int _ i)=>(match Q0 c.g.tys e with
   | some r=>WU b n i r.sz (λp=>Xf c S o.dst (.v (.pointer (some p))) (λS=>K S w))
   | none=>Zh c o S w K Q)
  | some ⟨_,.array n e,_,_,_⟩,some (.pointer (some p)),some (.int _ i)=>(match Q0 c.g.tys e with
   | some r=>WU (some p) n i r.sz (λp=>Xf c S o.dst (.v (.pointer (some p))) (λS=>K S w))
   | none=>Zh c o S w K Q)
  | _,_,_=>Zh c o S w K Q)
 | .index t x i=>(match Q0 c.g.tys t,S.ev x,S.ev i with
  | some ⟨_,.string,_,_,_⟩,some (.string s),some (.int _ i)=>fH s i (λb=>Xf c S o.dst (.v (.int .u8 b)) (λS=>K S w))
  | _,_,_=>Zh c o S w K Q)
 | .call ⟨.value f,xs,_⟩=>(match S.ev f with
  | some (.func (.func n) first cap)=>(match gL n c.g.fns with
   | true=>gO first.toList [] (λQW=>qY S xs.toList QW (λQW=>gO cap.toList QW (λQW=>gO QW [] (λl=>
     iQ c.g.P n l w (λv w=>Xf c S o.dst (.v v) (λS=>K S w)) (λch w=>Q (.panic ch) S w)))))
   | false=>Zh c o S w K Q)
  | _=>Zh c o S w K Q)
 | .call ⟨.invoke x nm,xs,_⟩=>(match S.ev x with
  | some (.iface t v)=>qY S xs.toList [v] (λQW=>gO QW [] (λl=>
    P6 c nm t l w (λv w=>Xf c S o.dst (.v v) (λS=>K S w)) (λch w=>Q (.panic ch) S w)))
  | _=>Zh c o S w K Q)
 | _=>Zh c o S w K Q
def eH (c:Cx)(o:Oper)(S:Env)(w:World)(K:Env->World->Prop)(Q:Zs):Prop:=
 match uf c.g S o.op with
 | .val v=>Xf c S o.dst (.v v) (λS=>K S w)
 | .ent e=>Xf c S o.dst e (λS=>K S w)
 | .norm k n=>eF n (λm=>Xf c S o.dst (.v (.int k m)) (λS=>K S w))
 | .normIf p k n=>gM p n (λm=>Xf c S o.dst (.v (.int k m)) (λS=>K S w))
 | .need p v=>j6 p v (λv=>Xf c S o.dst (.v v) (λS=>K S w))
 | .no=>Gy c o S w K Q
def Vg:List Oper->Nat->Option Oper
 | [],_=>none
 | x::_,0=>some x
 | _::l,n+1=>Vg l n
def YJ (c:Cx)(all:List Oper):List Oper->Env->World->(Env->World->Prop)->Zs->Prop
 | [],S,w,K,_=>ao (BH c) S [] (λS=>K S w)
 | o::rest,S,w,K,Q=>match o.guard with
  | none=>eH c o S w (λS w=>YJ c all rest S w K Q) Q
  | some (
      j,want)=>match Vg all j with
   | some oj=>(match oj.dst with
    | some d=>(match S.ent d with
     | some .t=>(match want with
      | true=>eH c o S w (λS w=>YJ c all rest S w K Q) Q
      | false=>Xf c S o.dst (.v undef) (λS=>YJ c all rest S w K Q))
     | some .f=>(match want with
      | false=>eH c o S w (λS w=>YJ c all rest S w K Q) Q
      | true=>Xf c S o.dst (.v undef) (λS=>YJ c all rest S w K Q))
     | some (.v (.bool b))=>(match want with
      | true=>KY b (eH c o ((d,.t)::S) w (λS w=>YJ c all rest S w K Q) Q) (Xf c ((d,.f)::S) o.dst (.v undef) (λS=>YJ c all rest S w K Q))
      | false=>KY b (Xf c ((d,.t)::S) o.dst (.v undef) (λS=>YJ c all rest S w K Q)) (eH c o ((d,.f)::S) w (λS w=>YJ c all rest S w K Q) Q))
     | some (.v (.tuple _))=>Xf c S o.dst (.v undef) (λS=>YJ c all rest S w K Q)
     | _=>False)
    | none=>False)
   | none=>False
def BI:Code->Nat
 | .region id _ _=>id
 | .seq x _=>BI x
 | .block _ x=>BI x
 | .loop x=>BI x
 | _=>1000000
def dQY (c:Cx):Code->Bool
 | .region _ _ _=>false
 | x=>gL (BI x) c.cuts
def VG (c:Cx):Code->Env->World->Zs->Prop
 | .skip,S,w,Q=>Q .normal S w
 | .label _,S,w,Q=>Q .normal S w
 | .region id ops xy,S,w,Q=>(match xy with
  | false=>YJ c ops.toList ops.toList S w (λS w=>Q .normal S w) Q
  | true=>WV c id ops.toList S w Q)
 | .seq x y,S,w,Q=>(match dQY c x with
  | true=>lw c (.seq x y) S w Q
  | false=>VG c x S w (λe S w=>match e with
   | .normal=>VG c y S w Q
   | e=>Q e S w))
 | .cond b x y,S,w,Q=>(match b with
  | .tmp t=>(match S.ent t with
   | some .t=>VG c x S w Q
   | some .f=>VG c y S w Q
   | some (.v (.bool b))=>KY b (VG c x ((t,.t)::S) w Q) (VG c y ((t,.f)::S) w Q)
   | _=>False)
  | .const (.bool true)=>VG c x S w Q
  | .const (.bool false)=>VG c y S w Q
  | _=>False)
 | .block id x,S,w,Q=>VG c x S w (λe S w=>match e with
  | .exit i=>(match Nat.beq i id with
   | true=>Q .normal S w
   | false=>Q (.exit i) S w)
  | e=>Q e S w)
 | .loop x,S,w,Q=>BD c x S w Q
 | .exit id,S,w,Q=>Q (.exit id) S w
 | .ret,S,w,Q=>Q .ret S w
 | x,S,w,Q=>lw c x S w Q
section
variable {c:Cx} {a:Act} {S:Env} {w:World} {K:Env->World->Prop} {Q:Zs}
theorem ZH {dst:Option Tmp}{e:Ent}{K:Env->Prop}(h:Xf c S dst e K)(hf:Fits c.N S a):
  ∃S',Fits c.N S' (a.put dst e.val)/\K S':=by
 unfold Xf at h;split at h
 ·exact⟨S,by simpa [Act.put] using hf,h⟩
 ·rename_i d;split at h
  ·rename_i hd;exact⟨_,hf.put (by rw[iM] at hd;exact hd) e,h⟩
  ·exact h.elim
theorem nY (l QW:List Value)(K:List Value->Prop):gO l QW K=K (l.reverse++QW):=by
 induction l generalizing QW with
 | nil=>simp[gO]
 | cons x l ih=>simp[gO,ih]
theorem Gz {xs:List Operand}{QW:List Value}{K:List Value->Prop}(h:qY S xs QW K)(hf:Fits c.N S a):
  K ((xs.map a.eval).reverse++QW):=by
 induction xs generalizing QW with
 | nil=>simpa [qY] using h
 | cons x xs ih=>
  simp only[qY] at h;split at h
  ·rename_i v hv;have:=ih h;simp only[Kw,tT,ZG,List.singleton_append];rw[hf.ev hv];exact this
  ·exact h.elim
theorem Rl {t:Nat}{S:Env}(h:lz t S=false):S.ent t=none:=by
 induction S with
 | nil=>rfl
 | cons p S ih=>
  obtain⟨k,x⟩:=p;simp only[lz] at h;split at h
  ·cases h
  ·rename_i hb;simp[Env.ent,hb,ih h]
theorem dQZ {t:Nat}{S:Env}(h:lz t S=true):∃x,S.ent t=some x:=by
 induction S with
 | nil=>cases h
 | cons p S ih=>
  obtain⟨k,x⟩:=p;simp only[lz] at h;split at h
  ·rename_i hb;exact⟨x,by simp[Env.ent,hb]⟩
  ·rename_i hb;simp[Env.ent,hb,ih h]
theorem BJ (S T:Env)(k:Nat):Env.ent (S++T) k=(S.ent k).or (Env.ent T k):=by
 induction S with
 | nil=>simp[Env.ent]
 | cons p S ih=>
  obtain⟨t,x⟩:=p;simp only[Jo,Env.ent];split<;>simp[ih]
theorem xq {p:Nat->Bool}{N:Slots}{a:Act}(h1:a.tmps.size=N.n)(h2:a.defers=N.ds){K:Env->Prop}:∀(T QW:Env),(∀k x,QW.ent k=some x->p k=true)->
  (∀k x,p k=true->Env.ent (QW++T) k=some x->a.tmps[k]? =some x.val)->ao p T QW K->∃S',Fits N S' a/\K S'
 | [],QW,hp,hh,h=>⟨QW,⟨h1,h2,λk x hk=>hh k x (hp k x hk) (by simpa using hk)⟩,h⟩
 | (t,x)::T,QW,hp,hh,h=>by
  simp only[ao] at h;split at h
  ·rename_i jJ;split at h
   ·rename_i hk;refine xq h1 h2 T QW hp (λk y wB hy=>hh k y wB ?_) h;rw[BJ] at hy ⊢;cases hb:Nat.beq t k with
    | true=>
     have:=VW hb;subst this;obtain⟨z,hz⟩:=dQZ hk;simp only[hz,Option.some_or] at hy ⊢;exact hy
    | false=>simpa [Env.ent,hb] using hy
   ·rename_i hk;refine xq h1 h2 T ((t,x)::QW) (λk y hy=>?_) (λk y wB hy=>hh k y wB ?_) h
    ·simp only[Env.ent] at hy;split at hy
     ·rename_i hb;rw[<-VW hb];exact jJ
     ·exact hp k y hy
    ·rw[Jo] at hy;simp only[Env.ent] at hy;rw[BJ];split at hy
     ·rename_i hb;have:=VW hb;subst this;rw[Rl hk];simpa [Env.ent] using hy
     ·rename_i hb;rw[BJ] at hy;simpa [Env.ent,hb] using hy
  ·rename_i jJ;refine xq h1 h2 T QW hp (λk y wB hy=>hh k y wB ?_) h;rw[BJ] at hy ⊢;have hb:Nat.beq t k=false:=by
    cases hb:Nat.beq t k with
    | false=>rfl
    | true=>have:=VW hb;subst this;rw[wB] at jJ;cases jJ
   simpa [Env.ent,hb] using hy
abbrev lA (c:Cx)(K:Env->World->Prop):Act->World->Prop:=λa' w'=>∃S',Fits c.N S' a'/\K S' w'
theorem cJ {o:Oper}{v:Value}{w':World}{N:Act->World->Prop}{Q':Exit->Act->World->Prop}
  (hr:(execOp a.eval o).run c.g.P w= .ok (.value v) w') (h:N (a.put o.dst v) w'):o.wp c.g.P a w N Q':=by
 unfold Oper.wp;rw[hr];exact h
theorem dD (hg:c.g.Ok){o:Oper}(hf:Fits c.N S a){r:PR}(hr:uf c.g S o.op=r):r.Means w ((execOp a.eval o).run c.g.P w):=by
 rw[<-hr];exact dQX hg (λx v h=>hf.ev h) o
theorem dQ0 {P:Program}(t:TypeId)(i:TypeInfo)(hi:P.info? t=some i)(hs:i.size=1)(p:Addr)(v:Value)(hv:JS v=true)(w:World):
  (storeVar t p v).run P w=(store p v).run P w:=by
 have hc:v.cells= #[v]:=by cases v<;>first | rfl | (simp[JS] at hv)
 simp[storeVar,hc,sizeOf,typeInfo,hi,hs,storeCells,Addr.add]
theorem nZ (hg:c.g.Ok){t:Nat}{r:TyRow}(hr:Q0 c.g.tys t=some r)(w:World):(isAgg t).run c.g.P w= .ok (qU r.d) w:=by
 simp only[isAgg,Sem.run_bind,Wp hg hr,Result.andThen_ok];cases r.d<;>rfl
theorem run_sizeOf (hg:c.g.Ok){t:Nat}{r:TyRow}(hr:Q0 c.g.tys t=some r)(w:World):(sizeOf t).run c.g.P w= .ok r.sz w:=by
 obtain⟨_,i,hi,hs,_⟩:=hg.row hr;simp[sizeOf,typeInfo,hi,hs]
theorem BK {P:Program}{n:Nat}(hc:Bw P n)(args:Array Value)(w:World):(callFunc n args).run P w= .ok (.enter n args) w:=by
 obtain⟨fn,h1,h2,h3⟩:=hc;have JP:fn.body≠none:=λe=>by simp[e] at h2
 have o8:fn.name≠ "runtime.NumGoroutine" :=by simpa using h3
 simp[callFunc,h1,JP,o8]
theorem dQ1 (hg:c.g.Ok){t:Nat}{r:MRow}(hr:xk c.g.ms t=some r)(v:Value)(n:Nat)(w:World):(method (n+1) t v r.name).run c.g.P w= .ok (r.f,v) w:=by
 obtain⟨⟨h1,h2⟩,rfl⟩:=dQK hr hg.ms;cases hi:c.g.P.info? r.t with
 | none=>simp[hi] at h1
 | some i=>
  cases hm:i.methods.find? (λm=>m.name==r.name)with
  | none=>simp[hi,hm] at h1
  | some m=>
   simp[hi,hm] at h1;cases hu:c.g.P.underlying r.t with
   | none=>simp[hu] at h2
   | some d=>
    simp[hu] at h2;have hp:m.path.toList=[]:=by rw[h1.1]
    cases hb:r.ptr with
    | false=>
     rw[hb] at h1 h2;have hx:(receiverAt r.t (.val v) false (if m.path.isEmpty=true then some ((r.name.splitOn ".").getLastD r.name)else none)).run c.g.P w= .ok v w:=by
      unfold receiverAt;rw[Sem.run_bind,Ja hu];cases d<;>first | (simp[Gm] at h2;done) | simp[Place.get]
     unfold method;simp only[typeInfo,Sem.run_bind,run_program,Result.andThen_ok,hi,Sem.run_pure,hm,hp,follow,h1.2];simp only[hx,Result.andThen_ok]
    | true=>
     rw[hb] at h1 h2;have hx:(receiverAt r.t (.val v) true (if m.path.isEmpty=true then some ((r.name.splitOn ".").getLastD r.name)else none)).run c.g.P w= .ok v w:=by
      unfold receiverAt;rw[Sem.run_bind,Ja hu];cases d<;>first | (simp[Gm] at h2;done) | simp[Place.get]
     unfold method;simp only[typeInfo,Sem.run_bind,run_program,Result.andThen_ok,hi,Sem.run_pure,hm,hp,follow,h1.2];simp only[hx,Result.andThen_ok]
theorem dQ2 (hg:c.g.Ok){o:Oper}(h:Gy c o S w K Q)(hf:Fits c.N S a):o.wp c.g.P a w (lA c K) (Up c Q):=by
 have KV:Zh c o S w K Q->o.wp c.g.P a w (lA c K) (Up c Q):=λh=>by unfold Zh at h;exact h a hf
 obtain⟨dst,op,ty,pos,aft,gd⟩:=o;unfold Gy at h;split at h
 ·rename_i t x X7;simp only at X7;subst X7;split at h
  ·rename_i r p hr hx;split at h
   ·rename_i hd;unfold iP at h;obtain⟨v,hv,hk⟩:=h;refine cJ (v:=v) (w':=w) ?_ (ZH (e:=.v v) hk hf);have:=hf.ev hx;simp[execOp,this,Instr.loadAt,Instr.sureAddr,loadVar,nZ hg hr,hd,load,Sem.run,hv]
   ·rename_i hd;unfold lv at h;obtain⟨vs,hl,hv,hk⟩:=h;refine cJ (v:=.agg vs.toArray) (w':=w) ?_ (ZH (e:=.v (.agg vs.toArray)) hk hf);have:=hf.ev hx;have h2:=run_loadCells_list (P:=c.g.P) (w:=w) p vs hv;rw[hl] at h2;simp[execOp,this,Instr.loadAt,Instr.sureAddr,loadVar,nZ hg hr,hd,run_sizeOf hg hr,h2]
  ·exact KV h
 ·rename_i t x y X7;simp only at X7;subst X7;split at h
  ·rename_i r p v hr hx hy;split at h
   ·rename_i hs h1 hd;unfold fG at h;obtain⟨⟨u,hu⟩,iw,hk⟩:=h;obtain⟨_,i,hi,XQ,_⟩:=hg.row hr;have e1:=hf.ev hx;have e2:=hf.ev hy;have vH:i.size=1:=by rw[XQ];exact VW h1
    have bH:=dQ0 t i hi vH p v hs w;simp only at hd;subst hd;unfold Oper.wp;have:(execOp a.eval {dst:=none,op:=.store t x y,type:=ty,pos:=pos,after:=aft,guard:=gd}).run c.g.P w= .ok .skip (w.setCell p v):=by
     simp[execOp,e1,e2,Instr.storeAt,Instr.sureAddr,bH,store];cases v<;>first | (simp[JS] at hs;done) | simp[Sem.run,hu,iw]
    rw[this];exact⟨S,by simpa [Act.put] using hf,hk⟩
   ·rename_i hs hd;split at h
    ·rename_i cs;split at h
     ·rename_i hn;unfold nW at h;obtain⟨w',Jm,hk⟩:=h;have hn:=VW hn;have e1:=hf.ev hx;have e2:=hf.ev hy;simp only at hd;subst hd;unfold Oper.wp;have:(execOp a.eval {dst:=none,op:=.store t x y,type:=ty,pos:=pos,after:=aft,guard:=gd}).run c.g.P w= .ok .skip w':=by
       simp only[execOp,e1,e2,Instr.storeAt,Instr.sureAddr,storeVar,Value.cells];simp only[Sem.run_bind,Sem.run_pure,run_sizeOf hg hr,Result.andThen_ok];rw[if_neg (by simpa using hn)];simp[Jm]
      rw[this];exact⟨S,by simpa [Act.put] using hf,hk⟩
     ·exact KV h
    ·exact KV h
   ·exact KV h
  ·exact KV h
 ·rename_i e X7;simp only at X7;subst X7;split at h
  ·rename_i r hr;obtain⟨_,i,hi,_,_,hz⟩:=hg.row hr;unfold qR at h;refine cJ (v:=.pointer (some ⟨w.heap.size,0,none⟩)) (w':=w.alloc (.cells (Kb r.z).toArray e)) ?_ (ZH (e:=.v _) h hf);have hc:r.z.cells=(Kb r.z).toArray:=by rw[<-qW]
   simp[execOp,Instr.alloc,zeroValue,typeInfo,hi,hz,newVar,newRow,hc]
  ·exact KV h
 ·rename_i e x X7;simp only at X7;subst X7;split at h
  ·rename_i v hx;unfold qR at h;have e1:=hf.ev hx;refine cJ (v:=.pointer (some ⟨w.heap.size,0,none⟩)) (w':=w.alloc (.cells (Kb v).toArray e)) ?_ (ZH (e:=.v _) h hf);have hc:v.cells=(Kb v).toArray:=by rw[<-qW]
   simp[execOp,e1,Instr.box,newVar,newRow,hc]
  ·exact KV h
 ·rename_i t x ix X7;simp only at X7;subst X7;split at h
  ·rename_i e b n k i hr hx hi;split at h
   ·rename_i r Zc;unfold WU at h;obtain⟨p,rfl,h0,h1,hk⟩:=h;refine cJ (v:=.pointer (some (p.add (i.toNat*r.sz)))) (w':=w) ?_ (ZH (e:=.v _) hk hf);have e1:=hf.ev hx;have e2:=hf.ev hi;simp[execOp,e1,e2,Instr.indexAt,asIntOf,Wp hg hr,run_sizeOf hg Zc,h0,h1]
   ·exact KV h
  ·rename_i n e p k i hr hx hi;split at h
   ·rename_i r Zc;unfold WU at h;obtain⟨p',hp,h0,h1,hk⟩:=h;cases hp;refine cJ (v:=.pointer (some (p.add (i.toNat*r.sz)))) (w':=w) ?_ (ZH (e:=.v _) hk hf);have e1:=hf.ev hx;have e2:=hf.ev hi;simp[execOp,e1,e2,Instr.indexAt,Instr.sureAddr,asIntOf,Wp hg hr,run_sizeOf hg Zc,h0,h1]
   ·exact KV h
  ·exact KV h
 ·rename_i t x ix X7;simp only at X7;subst X7;split at h
  ·rename_i s k i hr hx hi;unfold fH at h;obtain⟨b,h0,h1,hk⟩:=h;refine cJ (v:=.int .u8 b.toNat) (w':=w) ?_ (ZH (e:=.v _) hk hf);have e1:=hf.ev hx;have e2:=hf.ev hi;simp[execOp,e1,e2,Instr.index,asIntOf,Wp hg hr,h0,h1]
  ·exact KV h
 ·rename_i f xs ts X7;simp only at X7;subst X7;split at h
  ·rename_i n first cap hv;split at h
   ·rename_i hm;have hc:=hg.fns n (BC hm);rw[nY] at h;have h2:=Gz h hf;rw[nY,nY] at h2;simp only[KE,List.reverse_append,List.reverse_reverse,ZG] at h2;unfold iQ at h2;have e1:=hf.ev hv;unfold Oper.wp;have:(execOp a.eval {dst:=dst,op:=.call ⟨.value f,xs,ts⟩,type:=ty,pos:=pos,after:=aft,guard:=gd}).run c.g.P w=
      .ok (.enter n (first.toList++(List.map a.eval xs.toList++cap.toList)).toArray) w:=by
     simp[execOp,resolve,e1,Deferred.ofValue,invoke,BK hc]
    rw[this];unfold Oper.upon;refine h2.mono λe w' he=>?_
    cases e with
    | returned v=>exact ZH (e:=.v v) he hf
    | panicked ch=>exact⟨S,hf,he⟩
    | outgrown=>exact he.elim
   ·exact KV h
  ·exact KV h
 ·rename_i x nm xs ts X7;simp only at X7;subst X7;split at h
  ·rename_i t v hv
   ·have h2:=Gz h hf;rw[nY] at h2;simp only[KE,List.reverse_append,List.reverse_reverse,tT,List.reverse_nil,bO] at h2;unfold P6 at h2;obtain⟨r,hr,rfl,hm,h2⟩:=h2
    ·have hc:=hg.fns r.f (BC hm);unfold iQ at h2;have e1:=hf.ev hv;unfold Oper.wp;have th:=dQ1 hg hr v (c.g.P.types.size+99) w;have:(execOp a.eval {dst:=dst,op:=.call ⟨.invoke x r.name,xs,ts⟩,type:=ty,pos:=pos,after:=aft,guard:=gd}).run c.g.P w=
       .ok (.enter r.f ([v]++List.map a.eval xs.toList).toArray) w:=by
      have kY:(#[Value.iface t v]++Array.map a.eval xs).extract 1 (#[Value.iface t v]++Array.map a.eval xs).size=Array.map a.eval xs:=by
       apply Array.ext';simp;exact ZS (by simp)
      have nu:(callMethod (.iface t v) r.name (Array.map a.eval xs)).run c.g.P w= .ok (.enter r.f ([v]++List.map a.eval xs.toList).toArray) w:=by
       simp only[callMethod,Sem.run_bind,run_program,Result.andThen_ok];rw[show c.g.P.types.size+Made.depth=c.g.P.types.size+99+1 from rfl,th];simp[BK hc]
      simp only[execOp,resolve,e1,Sem.run_bind,Sem.run_pure,Result.andThen_ok,invoke];rw[kY,show(#[Value.iface t v]++Array.map a.eval xs)[0]? =some (Value.iface t v) from (Array.getElem?_append_left (show 0<1 by decide)).trans rfl];exact nu
     rw[this];unfold Oper.upon;refine h2.mono λe w' he=>?_
     cases e with
     | returned v=>exact ZH (e:=.v v) he hf
     | panicked ch=>exact⟨S,hf,he⟩
     | outgrown=>exact he.elim
  ·exact KV h
 ·exact KV h
theorem qZ (hg:c.g.Ok){o:Oper}(h:eH c o S w K Q)(hf:Fits c.N S a):o.wp c.g.P a w (lA c K) (Up c Q):=by
 unfold eH at h;split at h
 ·rename_i v hp;have hm:=dD (w:=w) hg hf hp;exact cJ hm (ZH (e:=.v v) h hf)
 ·rename_i e hp;have hm:=dD (w:=w) hg hf hp;exact cJ hm (ZH (e:=e) h hf)
 ·rename_i k n hp;have hm:=dD (w:=w) hg hf hp;unfold eF at h;exact cJ hm (ZH (e:=.v (.int k n)) h hf)
 ·rename_i p k n hp;have hm:=dD (w:=w) hg hf hp;unfold gM at h;exact cJ (hm h.1) (ZH (e:=.v (.int k n)) h.2 hf)
 ·rename_i p v hp;have hm:=dD (w:=w) hg hf hp;unfold j6 at h;exact cJ (hm h.1) (ZH (e:=.v v) h.2 hf)
 ·exact dQ2 hg h hf
theorem gP (l:List Oper)(n:Nat):Vg l n=l[n]? :=by
 induction l generalizing n with
 | nil=>simp[Vg]
 | cons x l ih=>cases n<;>simp[Vg,ih]
theorem lB {all:List Oper}{o oj:Oper}{j d:Nat}{want b:Bool}(KU:o.guard=some (j,want))(hj:Vg all j=some oj)(hd:oj.dst=some d)(ha:a.tmps[d]? =some (.bool b)):
  Region.wanted o (yielded all.toArray a.tmps)=(b==want):=by
 rw[gP] at hj;simp[Region.wanted,KU,yielded,hj,hd,ha]
theorem GA {all:List Oper}{o oj:Oper}{j d:Nat}{want:Bool}{vs:Array Value}(KU:o.guard=some (j,want))(hj:Vg all j=some oj)(hd:oj.dst=some d)(ha:a.tmps[d]? =some (.tuple vs)):
  Region.wanted o (yielded all.toArray a.tmps)=false:=by
 rw[gP] at hj;simp[Region.wanted,KU,yielded,hj,hd,ha]
theorem j8 (hg:c.g.Ok)(all:List Oper):∀(l:List Oper)(S:Env)(w:World)(a:Act),YJ c all l S w K Q->Fits c.N S a->
  wpList c.g.P all.toArray (λe a w=>Exit.then (lA c K) (Up c Q) e a w) l a w
 | [],S,w,a,h,hf=>by
  simp only[YJ] at h;exact xq (p:=BH c) hf.size hf.defers S [] (λk x hk=>by simp[Env.ent] at hk) (λk x _ hk=>hf.has k x hk) h
 | o::rest,S,w,a,h,hf=>by
  have go:∀(S:Env),eH c o S w (λS w=>YJ c all rest S w K Q) Q->Fits c.N S a->o.wp c.g.P a w (wpList c.g.P all.toArray (λe a w=>Exit.then (lA c K) (Up c Q) e a w) rest) (λe a w=>Exit.then (lA c K) (Up c Q) e a w):=λS h hf=>by
   have h1:=qZ hg h hf;have h2:=Oper.wp_mono (K':=wpList c.g.P all.toArray (λe a w=>Exit.then (lA c K) (Up c Q) e a w) rest) (λa' w' ⟨S',Q1,hk⟩=>j8 hg all rest S' w' a' hk Q1) h1;unfold Oper.wp at h2 ⊢;generalize (execOp a.eval o).run c.g.P w=r at*;cases r with
   | ok n w'=>
    cases n<;>simp only[Oper.upon] at h2 ⊢ <;> exact h2
   | halt x w'=>cases x<;>simp only[Oper.upon] at h2 ⊢ <;> exact h2
  have no:∀(S:Env),Xf c S o.dst (.v undef) (λS=>YJ c all rest S w K Q)->Fits c.N S a->wpList c.g.P all.toArray (λe a w=>Exit.then (lA c K) (Up c Q) e a w) rest (a.put o.dst undef) w:=λS h hf=>by
   obtain⟨S',Q1,hk⟩:=ZH h hf;exact j8 hg all rest S' w _ hk Q1
  have fit:∀(d:Nat) (b:Bool) (e:Ent),S.ent d=some (.v (.bool b))->e.val= .bool b->Fits c.N ((d,e)::S) a:=λd b e hd he=>by
   refine⟨hf.size,hf.defers,λk x hk=>?_⟩;simp only[Env.ent] at hk;split at hk
   ·rename_i hb;have:=VW hb;subst this;cases hk;rw[he];exact hf.has _ _ hd
   ·exact hf.has _ _ hk
  simp only[YJ] at h;unfold wpList;split at h
  ·rename_i KU;rw[Qf (by simp[Region.wanted,KU])];exact .inl (go S h hf)
  ·rename_i j want KU;split at h
   ·rename_i oj hj;split at h
    ·rename_i d hd;split at h
     ·rename_i ZQ;have hw:=lB KU hj hd (hf.has _ _ ZQ);split at h
      ·rw[Qf (by rw[hw];rfl)];exact .inl (go S h hf)
      ·rw[if_neg (by rw[hw];decide)];exact no S h hf
     ·rename_i ZQ;have hw:=lB KU hj hd (hf.has _ _ ZQ);split at h
      ·rw[Qf (by rw[hw];rfl)];exact .inl (go S h hf)
      ·rw[if_neg (by rw[hw];decide)];exact no S h hf
     ·rename_i b ZQ;have hw:=lB KU hj hd (hf.has _ _ ZQ);split at h
      ·unfold KY at h;cases b with
       | true=>rw[Qf (by rw[hw];rfl)];exact .inl (go _ (h.1 rfl) (fit d true .t ZQ rfl))
       | false=>rw[if_neg (by rw[hw];decide)];exact no _ (h.2 rfl) (fit d false .f ZQ rfl)
      ·unfold KY at h;cases b with
       | true=>rw[if_neg (by rw[hw];decide)];exact no _ (h.1 rfl) (fit d true .t ZQ rfl)
       | false=>rw[Qf (by rw[hw];rfl)];exact .inl (go _ (h.2 rfl) (fit d false .f ZQ rfl))
     ·rename_i ZQ;rw[if_neg (by rw[GA KU hj hd (hf.has _ _ ZQ)];decide)];exact no S h hf
     ·exact h.elim
    ·exact h.elim
   ·exact h.elim
theorem j9 (hg:c.g.Ok):∀(x:Code)(S:Env)(w:World)(Q:Zs)(a:Act),VG c x S w Q->Fits c.N S a->x.wp c.g.P (Up c Q) a w:=by
 intro x;have hc:∀(x:Code) (S:Env) (w:World) (Q:Zs) (a:Act),lw c x S w Q->Fits c.N S a->x.wp c.g.P (Up c Q) a w:=λx S w Q a h hf=>by
  unfold lw at h;exact h a hf
 induction x with
 | skip=>exactλS w Q a h hf=>wp_skip ⟨S,hf,h⟩
 | label l=>exactλS w Q a h hf=>wp_label ⟨S,hf,h⟩
 | region id ops xy=>
  intro S w Q a h hf;simp only[VG] at h;cases xy with
  | false=>
   have h1:=j8 hg _ _ _ _ _ h hf;refine wp_mono (wp_region_list ?_) (Q:=λe a w=>Exit.then (lA c (λS w=>Q .normal S w)) (Up c Q) e a w) (λe a w hq=>?_)
   ·simpa using h1
   ·cases e<;>exact hq
  | true=>
   unfold WV at h;simpa using h a hf
 | seq x y ihx ihy=>
  intro S w Q a h hf;simp only[VG] at h;split at h
  ·exact hc _ _ _ _ _ h hf
  ·refine wp_seq (wp_mono (ihx _ _ _ _ h hf) (λe a w hq=>?_));obtain⟨S',Q1,hq⟩:=hq;cases e<;>first | exact ihy _ _ _ _ hq Q1 | exact⟨S',Q1,hq⟩
 | cond b x y ihx ihy=>
  intro S w Q a h hf;simp only[VG] at h;split at h
  ·rename_i t;split at h
   ·rename_i ht;exact wp_cond_true (by have:=hf.has _ _ ht;simp[Act.eval,this,Ent.val]) (ihx _ _ _ _ h hf)
   ·rename_i ht;exact wp_cond_false (by have:=hf.has _ _ ht;simp[Act.eval,this,Ent.val]) (ihy _ _ _ _ h hf)
   ·rename_i b ht;have bI:a.eval (.tmp t)= .bool b:=by have:=hf.has _ _ ht;simp[Act.eval,this,Ent.val]
    have fit:∀(e:Ent),e.val= .bool b->Fits c.N ((t,e)::S) a:=λe he=>by
     refine⟨hf.size,hf.defers,λk x hk=>?_⟩;simp only[Env.ent] at hk;split at hk
     ·rename_i hb;have:=VW hb;subst this;cases hk;rw[he];exact hf.has _ _ ht
     ·exact hf.has _ _ hk
    unfold KY at h;cases b with
    | true=>exact wp_cond_true bI (ihx _ _ _ _ (h.1 rfl) (fit .t rfl))
    | false=>exact wp_cond_false bI (ihy _ _ _ _ (h.2 rfl) (fit .f rfl))
   ·exact h.elim
  ·exact wp_cond_true rfl (ihx _ _ _ _ h hf)
  ·exact wp_cond_false rfl (ihy _ _ _ _ h hf)
  ·exact h.elim
 | block id x ih=>
  intro S w Q a h hf;simp only[VG] at h;refine wp_block (wp_mono (ih _ _ _ _ h hf) (λe a w hq=>?_));obtain⟨S',Q1,hq⟩:=hq;cases e with
  | exit i=>
   simp only at hq;simp only[Exit.inBlock];split at hq
   ·rename_i hb;rw[Qf (VW hb)];exact⟨S',Q1,hq⟩
   ·rename_i hb;rw[if_neg (λe=>by subst e;simp at hb)];exact⟨S',Q1,hq⟩
  | normal=>exact⟨S',Q1,hq⟩
  | goto l=>exact⟨S',Q1,hq⟩
  | ret=>exact⟨S',Q1,hq⟩
  | panic ch=>exact⟨S',Q1,hq⟩
  | outgrown=>exact⟨S',Q1,hq⟩
 | loop x ih=>intro S w Q a h hf;simp only[VG] at h;unfold BD at h;exact h a hf
 | exit id=>exactλS w Q a h hf=>wp_exit ⟨S,hf,h⟩
 | ret=>exactλS w Q a h hf=>wp_ret ⟨S,hf,h⟩
 | rangeFunc f ps as_ b ih1 ih2=>exactλS w Q a h hf=>hc _ _ _ _ _ h hf
 | scope x ih=>exactλS w Q a h hf=>hc _ _ _ _ _ h hf
 | goto l=>exactλS w Q a h hf=>hc _ _ _ _ _ h hf
 | refuse y=>exactλS w Q a h hf=>hc _ _ _ _ _ h hf
end
def lD:List Nat->List Value->Env->(Env->Prop)->Prop
 | _,[],S,K=>K S
 | t::ts,v::vs,S,K=>lD ts vs ((t,.v v)::S) K
 | [],_::_,_,_=>False
def Rm (w:World)(R:Value->World->Prop):List Value->Prop
 | [v]=>R v w
 | vs=>R (.tuple vs.toArray) w
def eI (c:Cx)(S:Env)(w:World)(R:Value->World->Prop):List ResultVar->List Value->Prop
 | [],QW=>gO QW [] (λl=>Rm w R l)
 | .tmp t::rs,QW=>(match S.get t with
  | some v=>eI c S w R rs (v::QW)
  | none=>False)
 | .cell t ty::rs,QW=>(match Q0 c.g.tys ty,S.get t with
  | some r,some (.pointer (some p))=>(match qU r.d with
   | false=>iP w p (λv=>eI c S w R rs (v::QW))
   | true=>lv w p r.sz (λvs=>eI c S w R rs (.agg vs.toArray::QW)))
  | _,_=>False)
def BL (c:Cx)(rs:List ResultVar)(R:Value->World->Prop):Zs:=λe S w=>match e with
 | .normal=>eI c S w R rs []
 | .ret=>eI c S w R rs []
 | _=>False
def BM (tmps:Array Value):ResultVar->Sem Value
 | .tmp t=>pure (tmps.getD t undef)
 | .cell t ty=>do loadVar ty (<-asAddr (tmps.getD t undef))
theorem dQ3 (fn:Func)(tmps:Array Value):results fn tmps=(do
  let vs<-fn.results.mapM (BM tmps)
  pure (if h:vs.size=1 then vs[0] else .tuple vs)):=by
 unfold results;congr 2
theorem BO {c:Cx}(hg:c.g.Ok){S:Env}{a:Act}{w:World}(hf:Fits c.N S a)(R:Value->World->Prop):∀(rs:List ResultVar)(QW:List Value),eI c S w R rs QW->
  ∃vs:List Value,(rs.mapM (BM a.tmps)).run c.g.P w= .ok vs w/\Rm w R (QW.reverse++vs)
 | [],QW,h=>by
  simp only[eI,nY,KE] at h;exact⟨[],by simp,by simpa using h⟩
 | .tmp t::rs,QW,h=>by
  simp only[eI] at h;split at h
  ·rename_i v hv;obtain⟨vs,h1,h2⟩:=BO hg hf R rs _ h;have:=hf.get hv;refine⟨v::vs,?_,by simpa using h2⟩;simp only[List.mapM_cons,Sem.run_bind];rw[show(BM a.tmps (.tmp t)).run c.g.P w= .ok v w by simp[BM,this]];simp only[Result.andThen_ok];rw[h1];simp
  ·exact h.elim
 | .cell t ty::rs,QW,h=>by
  simp only[eI] at h;split at h
  ·rename_i r p hr hp;have hp:=hf.get hp;split at h
   ·rename_i hd;unfold iP at h;obtain⟨v,hv,h⟩:=h;obtain⟨vs,h1,h2⟩:=BO hg hf R rs _ h;refine⟨v::vs,?_,by simpa using h2⟩;have e1:(do loadVar ty (<-asAddr (a.tmps.getD t undef)):Sem Value).run c.g.P w= .ok v w:=by
     simp[hp,asAddr,loadVar,nZ hg hr,hd,load,Sem.run,hv]
    rw[List.mapM_cons,Sem.run_bind];show Result.andThen ((do loadVar ty (<-asAddr (a.tmps.getD t undef)):Sem Value).run c.g.P w) _=_;rw[e1];simp only[Result.andThen_ok,Sem.run_bind];rw[h1];simp
   ·rename_i hd;unfold lv at h;obtain⟨cs,hl,hv,h⟩:=h;obtain⟨vs,h1,h2⟩:=BO hg hf R rs _ h;have h3:=run_loadCells_list (P:=c.g.P) (w:=w) p cs hv;rw[hl] at h3;refine⟨.agg cs.toArray::vs,?_,by simpa using h2⟩;have e1:(do loadVar ty (<-asAddr (a.tmps.getD t undef)):Sem Value).run c.g.P w= .ok (.agg cs.toArray) w:=by
     simp[hp,asAddr,loadVar,nZ hg hr,hd,run_sizeOf hg hr,h3]
    rw[List.mapM_cons,Sem.run_bind];show Result.andThen ((do loadVar ty (<-asAddr (a.tmps.getD t undef)):Sem Value).run c.g.P w) _=_;rw[e1];simp only[Result.andThen_ok,Sem.run_bind];rw[h1];simp
  ·exact h.elim
theorem kc {c:Cx}(hg:c.g.Ok){S:Env}{a:Act}{w:World}(hf:Fits c.N S a){R:Value->World->Prop}{fn:Func}(h:eI c S w R fn.results.toList []):
  ∃v,(results fn a.tmps).run c.g.P w= .ok v w/\R v w:=by
 obtain⟨vs,h1,h2⟩:=BO hg hf R _ _ h;have e:fn.results=fn.results.toList.toArray:=by simp
 rw[dQ3,e,List.mapM_toArray];simp only[Sem.run_bind,Sem.run_map];rw[h1];simp only[Result.andThen_ok,Sem.run_pure,List.size_toArray,bO,List.reverse_nil] at h2 ⊢
 match vs,h2 with
 | [],h2=>exact⟨_,rfl,h2⟩
 | [v],h2=>exact⟨_,rfl,h2⟩
 | v::u::vs,h2=>exact⟨_,rfl,h2⟩
theorem gQ {N:Nat}(args:List Value)(hN:args.length<=N)(S:Env)(hS:∀k x,S.ent k=some x->args[k]? =some x.val):
  Fits ⟨N,[]⟩ S {tmps:=args.toArray++Array.replicate (N-args.toArray.size) undef,defers:=[]}:=by
 refine⟨by simp;omega,rfl,λk x hk=>?_⟩;have h1:=hS k x hk;have:k<args.length:=(Jd.1 h1).1;rw[Array.getElem?_append_left (by simpa using this)];simpa using h1
theorem xr {K:Env->Prop}:∀(ts:List Nat)(vs:List Value)(S:Env)(m:Nat)(args:List Value),(∀j t,ts[j]? =some t->t=m+j)->args.drop m=vs->(∀k x,S.ent k=some x->args[k]? =some x.val)->
  lD ts vs S K->∃S',(∀k x,Env.ent S' k=some x->args[k]? =some x.val)/\K S'
 | _,[],S,_,_,_,_,hS,h=>⟨S,hS,by unfold lD at h;exact h⟩
 | [],_::_,_,_,_,_,_,_,h=>by simp[lD] at h
 | t::ts,v::vs,S,m,args,ht,hd,hS,h=>by
  simp only[lD] at h;have yN:t=m:=by have:=ht 0 t rfl;omega
  subst yN;have hv:args[t]? =some v:=by
   have:=QC (λl=>l[0]?) hd;simpa using this
  refine xr ts vs _ (t+1) args (λj u hu=>by have:=ht (j+1) u hu;omega) ?_ (λk x hk=>?_) h
  ·rw[<-nM,hd]<;>rfl
  ·simp only[Env.ent] at hk;split at hk
   ·rename_i hb;have:=VW hb;subst this;cases hk;exact hv
   ·exact hS k x hk
theorem QJ {c:Cx}(hg:c.g.Ok){f:FuncId}{fn:Func}{x:Code}{args:List Value}{w:World}{R:Value->World->Prop}(hf:c.g.P.funcs[f]? =some fn)(hb:fn.body=some x)(hN:⟨fn.ntmps,[]⟩=c.N)
  (hl:Nat.ble args.length c.N.n=true) (h:lD [0,1,2,3,4,5,6,7,8,9,10,11,12,13,14,15] args [] (λS=>VG c x S w (BL c fn.results.toList R))):Fn c.g.P f args w R:=by
 unfold Fn;obtain⟨S,hS,hx⟩:=xr _ args [] 0 args (λj t ht=>by
  match j,ht with
  | 0,ht | 1,ht | 2,ht | 3,ht | 4,ht | 5,ht | 6,ht | 7,ht | 8,ht | 9,ht | 10,ht | 11,ht | 12,ht | 13,ht | 14,ht | 15,ht=>simp at ht;omega
  | j+16,ht=>simp at ht) (by simp) (λk x hk=>by simp[Env.ent] at hk) h
 refine calls_of_wp hf hb ?_;have hn:fn.ntmps=c.N.n:=QC Slots.n hN;have Kl:=gQ (N:=c.N.n) args (iN hl) S hS;rw[<-hn,hN] at Kl;refine wp_mono (j9 hg x S w _ _ hx Kl) (λe a w' hq=>?_);obtain⟨S',Q1,hq⟩:=hq;have ZQ:a.defers=[]:=by rw[Q1.defers,<-hN]
 cases e with
 | normal=>obtain⟨v,h1,h2⟩:=kc hg Q1 hq;exact⟨ZQ,v,h1,h2⟩
 | ret=>obtain⟨v,h1,h2⟩:=kc hg Q1 hq;exact⟨ZQ,v,h1,h2⟩
 | exit i=>exact hq.elim
 | goto l=>exact hq.elim
 | panic ch=>exact hq.elim
 | outgrown=>exact hq.elim
@[irreducible] def FnP (P:Program) (f:FuncId) (l:List Value) (w:World) (R:Value->World->Prop) (Xj:List PanicEntry->World->Prop):Prop:=Calls P f l.toArray w fun
 | .returned v,w'=>R v w'
 | .panicked ch,w'=>Xj ch w'
 | .outgrown,_=>False
def dQ4 (c:Cx)(rs:List ResultVar)(R:Value->World->Prop)(Xj:List PanicEntry->World->Prop):Zs
 | .panic ch,_,w=>Xj ch w
 | e,S,w=>BL c rs R e S w
theorem bQ {c:Cx}(hg:c.g.Ok){f:FuncId}{fn:Func}{x:Code}{args:List Value}{w:World}{R:Value->World->Prop}{Xj:List PanicEntry->World->Prop}(hf:c.g.P.funcs[f]? =some fn)(hb:fn.body=some x)(hN:⟨fn.ntmps,[]⟩=c.N)
  (hl:Nat.ble args.length c.N.n=true) (h:lD [0,1,2,3,4,5,6,7,8,9,10,11,12,13,14,15] args [] (λS=>VG c x S w (dQ4 c fn.results.toList R Xj))):FnP c.g.P f args w R Xj:=by
 unfold FnP;obtain⟨S,hS,hx⟩:=xr _ args [] 0 args (λj t ht=>by
  match j,ht with
  | 0,ht | 1,ht | 2,ht | 3,ht | 4,ht | 5,ht | 6,ht | 7,ht | 8,ht | 9,ht | 10,ht | 11,ht | 12,ht | 13,ht | 14,ht | 15,ht=>simp at ht;omega
  | j+16,ht=>simp at ht) (by simp) (λk x hk=>by simp[Env.ent] at hk) h
 refine calls_of_wp hf hb ?_;have hn:fn.ntmps=c.N.n:=QC Slots.n hN;have Kl:=gQ (N:=c.N.n) args (iN hl) S hS;rw[<-hn,hN] at Kl;refine wp_mono (j9 hg x S w _ _ hx Kl) (λe a w' hq=>?_);obtain⟨S',Q1,hq⟩:=hq;have ZQ:a.defers=[]:=by rw[Q1.defers,<-hN]
 cases e with
 | normal=>obtain⟨v,h1,h2⟩:=kc hg Q1 hq;exact⟨ZQ,v,h1,h2⟩
 | ret=>obtain⟨v,h1,h2⟩:=kc hg Q1 hq;exact⟨ZQ,v,h1,h2⟩
 | exit i=>exact hq.elim
 | goto l=>exact hq.elim
 | panic ch=>exact⟨ZQ,hq⟩
 | outgrown=>exact hq.elim
theorem FnP.mono {P:Program}{f:FuncId}{l:List Value}{w:World}{R R':Value->World->Prop}{p p':List PanicEntry->World->Prop}(h:FnP P f l w R p)(hr:∀v w',R v w'->R' v w')(hp:∀ch w',p ch w'->p' ch w'):FnP P f l w R' p':=by
 unfold FnP at*;exact Calls.mono h λe w' he=>by cases e<;>first | exact hr _ _ he | exact hp _ _ he | exact he
theorem Fn.toP {P:Program}{f:FuncId}{l:List Value}{w:World}{R:Value->World->Prop}{p:List PanicEntry->World->Prop}(h:Fn P f l w R):FnP P f l w R p:=by
 unfold Fn at h;unfold FnP;exact Calls.mono h λe w' he=>by cases e<;>first | exact he | exact he.elim
theorem XU {P:Program}{f:FuncId}{l:List Value}{w:World}{R:Value->World->Prop}{p:List PanicEntry->World->Prop}{K:Value->World->Prop}{Xj:List PanicEntry->World->Prop}(h:FnP P f l w R p)(k:∀v w',R v w'->K v w')(kp:∀ch w',p ch w'->Xj ch w'):iQ P f l w K Xj:=by
 unfold FnP at h;unfold iQ;exact Calls.mono h λe w' he=>by cases e<;>first | exact k _ _ he | exact kp _ _ he | exact he
theorem Fn.mono {P:Program}{f:FuncId}{l:List Value}{w:World}{R R':Value->World->Prop}(h:Fn P f l w R)(hr:∀v w',R v w'->R' v w'):Fn P f l w R':=by
 unfold Fn at*;exact Calls.mono h λe w' he=>by cases e<;>first | exact hr _ _ he | exact he
theorem call {P:Program}{f:FuncId}{l:List Value}{w:World}{R:Value->World->Prop}{K:Value->World->Prop}{Xj:List PanicEntry->World->Prop}(h:Fn P f l w R)(k:∀v w',R v w'->K v w'):iQ P f l w K Xj:=by
 unfold Fn at h;unfold iQ;exact Calls.mono h λe w' he=>by cases e<;>first | exact k _ _ he | exact he.elim
def GC:List Oper->List Nat->List Nat
 | [],QW=>QW
 | o::l,QW=>match o.dst with
  | some d=>GC l (d::QW)
  | none=>GC l QW
def kf:Code->List Nat->List Nat
 | .region _ ops _,QW=>GC ops.toList QW
 | .seq x y,QW=>kf y (kf x QW)
 | .cond _ x y,QW=>kf y (kf x QW)
 | .block _ x,QW=>kf x QW
 | .loop x,QW=>kf x QW
 | .scope x,QW=>kf x QW
 | .rangeFunc _ _ x y,QW=>kf y (kf x QW)
 | _,QW=>QW
def fI (x:Code)(t:Nat):Bool:=match gL t (kf x [])with
 | true=>false
 | false=>true
def eJ:List Nat->List Value->Env->(Env->Prop)->Prop
 | [],[],S,K=>K S
 | t::ts,v::vs,S,K=>eJ ts vs ((t,.v v)::S) K
 | _,_,_,_=>False
def Has (T S:Env):Prop:=T.map (λp=>S.get p.1)=T.map (λp=>some p.2.val)
theorem dQ5 {T:Env}{k:Nat}{x:Ent}(h:T.ent k=some x):(k,x)∈T:=by
 induction T with
 | nil=>cases h
 | cons p T ih=>
  obtain⟨t,y⟩:=p;simp only[Env.ent] at h;split at h
  ·rename_i hb;cases h;rw[VW hb];simp
  ·simp[ih h]
theorem Has.fits {T S:Env}{N:Slots}{a:Act}(h:Has T S)(hf:Fits N S a):Fits N T a:=by
 refine⟨hf.size,hf.defers,λk x hk=>?_⟩;have hm:=dQ5 hk;exact hf.get ((List.map_inj_left.1 h) (k,x) hm)
theorem GD {ts:List Nat}{vs:List Value}{S:Env}{K:Env->Prop}(h:eJ ts vs S K):∃T,T=(ts.zip (vs.map Ent.v)).reverse++S/\K T:=by
 induction ts generalizing vs S with
 | nil=>
  cases vs with
  | nil=>exact⟨S,rfl,h⟩
  | cons v vs=>exact h.elim
 | cons t ts ih=>
  cases vs with
  | nil=>exact h.elim
  | cons v vs=>
   obtain⟨T,rfl,hk⟩:=ih h;exact⟨_,by simp,hk⟩
def od (p:Nat->Bool):Env->Env->Env
 | [],QW=>QW
 | (t,x)::S,QW=>match p t with
  | true=>(match lz t QW with
   | true=>od p S QW
   | false=>od p S ((t,x)::QW))
  | false=>od p S QW
theorem BP (p:Nat->Bool)(S QW:Env)(K:Env->Prop):ao p S QW K=K (od p S QW):=by
 induction S generalizing QW with
 | nil=>rfl
 | cons q S ih=>
  obtain⟨t,x⟩:=q;simp only[ao,od];split
  ·split<;>exact ih _
  ·exact ih _
section
variable {c:Cx} {S:Env} {w:World} {Q:Zs} {α:Type}
theorem dQ6 {x:Code}(J:α->Act->World->Prop)(μ:α->World->Nat){a:Act}(s0:α)(h0:J s0 a w)
  (hr:∀s a w,J s a w->x.wp c.g.P (λe a' w'=>match e with
   | .normal=>∃s2,J s2 a' w'/\μ s2 w'<μ s w
   | e=>Up c Q e a' w') a w):(Code.loop x).wp c.g.P (Up c Q) a w:=by
 intro b k cs;have key:∀n s a w,μ s w=n->J s a w->∃e a' w',Up c Q e a' w'/\Arrives c.g.P (lone (b.at a (.code x:: .inLoop x::k)) cs w) b k cs e a' w':=by
  intro n;induction n using Nat.strongRecOn with
  | _ n ih=>
   intro s a w hn hJ;obtain⟨e,a1,w1,hq,pW⟩:=hr s a w hJ b (.inLoop x::k) cs;cases e with
   | normal=>
    obtain⟨s2,hJ2,Xa⟩:=hq;obtain⟨e2,a2,w2,yO,mQx⟩:=ih (μ s2 w1) (hn▸Xa) s2 a1 w1 rfl hJ2;exact⟨e2,a2,w2,yO,.of_steps (Steps.trans pW (.one step_inLoop)) mQx⟩
   | exit id=>exact⟨_,a1,w1,hq,.pass (x:=.inLoop x) rfl (λ_ _=>.inl (by simp)) pW⟩
   | goto l=>exact⟨_,a1,w1,hq,.pass (x:=.inLoop x) rfl (λ_ _=>.inl (by simp)) pW⟩
   | ret=>exact⟨_,a1,w1,hq,.pass (x:=.inLoop x) rfl (λ_ _=>.inl (by simp)) pW⟩
   | panic ch=>exact⟨_,a1,w1,hq,.pass (x:=.inLoop x) rfl (λ_ _=>.inl (by simp)) pW⟩
   | outgrown=>exact⟨_,a1,w1,hq,.pass (x:=.inLoop x) rfl (λ_ _=>.inl (by simp)) pW⟩
 obtain⟨e,a',w',hq,pW⟩:=key _ s0 a w rfl h0;exact⟨e,a',w',hq,.of_steps (.one step_loop) pW⟩
def dQ7 (sl:List Nat)(val:α->List Value)(S0:Env)(I:α->World->Prop)(μ:α->World->Nat)(m:Nat)(S2:Env)(w2:World):Prop:=
 ∃s2,eJ sl (val s2) S0 (λT=>Has T S2)/\I s2 w2/\μ s2 w2<m
theorem loop (hg:c.g.Ok){x:Code}(sl:List Nat)(val:α->List Value)(I:α->World->Prop)(μ:α->World->Nat)(s0:α)
  (h0:ao (fI x) S [] (λS0=>eJ sl (val s0) S0 (λT=>Has T S))) (hI:I s0 w)
  (hr:ao (fI x) S [] (λS0=>∀s w',I s w'->eJ sl (val s) S0 (λS1=>VG c x S1 w' (λe S2 w2=>match e with
   | .normal=>dQ7 sl val S0 I μ (μ s w') S2 w2
   | e=>Q e S2 w2)))):BD c x S w Q:=by
 rw[BP] at h0 hr;unfold BD;intro a hf;generalize od (fI x) S []=S0 at*;have nv:∀s (K:Env->Prop),eJ sl (val s) S0 K->K ((sl.zip ((val s).map Ent.v)).reverse++S0):=λs K h=>by
  obtain⟨T,rfl,hk⟩:=GD h;exact hk
 refine dQ6 (c:=c) (x:=x) (Q:=Q) (J:=λs a' w'=>Fits c.N ((sl.zip ((val s).map Ent.v)).reverse++S0) a'/\I s w') (μ:=μ) s0 ⟨(nv s0 _ h0).fits hf,hI⟩ ?_;intro s a' w' ⟨Q1,hI'⟩;have h1:=j9 hg x _ w' _ a' (nv s _ (hr s w' hI')) Q1;refine wp_mono h1 (λe a2 w2 hq=>?_);obtain⟨S2,Z5,hq⟩:=hq;cases e with
 | normal=>
  obtain⟨s2,hz,hI2,hm⟩:=hq;exact⟨s2,⟨(nv s2 _ hz).fits Z5,hI2⟩,hm⟩
 | exit i=>exact⟨S2,Z5,hq⟩
 | goto l=>exact⟨S2,Z5,hq⟩
 | ret=>exact⟨S2,Z5,hq⟩
 | panic ch=>exact⟨S2,Z5,hq⟩
 | outgrown=>exact⟨S2,Z5,hq⟩
theorem gR (cs:List Nat)(hg:c.g.Ok){x y:Code}(sl:List Nat)(val:α->List Value)(R:α->World->Prop)
  (hx:ao (fI x) S [] (λS0=>VG {c with cuts:=cs} x S w (λe S2 w2=>match e with
   | .normal=>∃s,eJ sl (val s) S0 (λT=>Has T S2)/\R s w2
   | e=>Q e S2 w2)))
  (hy:ao (fI x) S [] (λS0=>∀s w',R s w'->eJ sl (val s) S0 (λS1=>VG c y S1 w' Q))):lw c (.seq x y) S w Q:=by
 rw[BP] at hx hy;unfold lw;intro a hf;generalize od (fI x) S []=S0 at*;have nv:∀s (K:Env->Prop),eJ sl (val s) S0 K->K ((sl.zip ((val s).map Ent.v)).reverse++S0):=λs K h=>by
  obtain⟨T,rfl,hk⟩:=GD h;exact hk
 refine wp_seq (wp_mono (j9 (c:={c with cuts:=cs}) hg x S w _ a hx hf) (λe a2 w2 hq=>?_));obtain⟨S2,Z5,hq⟩:=hq;cases e with
 | normal=>
  obtain⟨s,hz,hR⟩:=hq;exact j9 hg y _ w2 Q a2 (nv s _ (hy s w2 hR)) ((nv s _ hz).fits Z5)
 | exit i=>exact⟨S2,Z5,hq⟩
 | goto l=>exact⟨S2,Z5,hq⟩
 | ret=>exact⟨S2,Z5,hq⟩
 | panic ch=>exact⟨S2,Z5,hq⟩
 | outgrown=>exact⟨S2,Z5,hq⟩
theorem Rn (hg:c.g.Ok){x y:Code}(sl:List Nat)(val:α->List Value)(R:α->World->Prop)
  (hx:ao (fI x) S [] (λS0=>VG {c with cuts:=[]} x S w (λe S2 w2=>match e with
   | .normal=>∃s,eJ sl (val s) S0 (λT=>Has T S2)/\R s w2
   | e=>Q e S2 w2)))
  (hy:ao (fI x) S [] (λS0=>∀s w',R s w'->eJ sl (val s) S0 (λS1=>VG c y S1 w' Q))):lw c (.seq x y) S w Q:=
 gR [] hg sl val R hx hy
end
@[irreducible] def ug (C:World->Prop) (p:Addr) (K:Value->Prop):Prop:=∃v,(∀w,C w->w.cell? p=some v)/\K v
@[irreducible] def ui (C:World->Prop) (p:Addr) (n:Nat) (K:List Value->Prop):Prop:=∃vs:List Value,vs.length=n/\(∀w,C w->∀j v,vs[j]? =some v->w.cell? (p.add j)=some v)/\K vs
@[irreducible] def Ro (P:Program) (f:FuncId) (l:List Value) (C:World->Prop) (K:Value->Prop):Prop:=∃v,(∀w,C w->Fn P f l w (λu w'=>u=v/\C w'))/\K v
@[irreducible] def lF (c:Cx) (o:Oper) (S:Env) (C:World->Prop) (K:Env->Prop):Prop:=∃v,(∀a w,Fits c.N S a->C w->o.quietAt c.g.P a C w v)/\Xf c S o.dst (.v v) K
def GE (
     c:Cx) (o:Oper) (S:Env) (C:World->Prop) (K:Env->Prop):Prop:=
 match o.op with
 | .load t x=>(match Q0 c.g.tys t,S.ev x with
  | some r,some (.pointer (some p))=>(match qU r.d with
   | false=>ug C p (λv=>Xf c S o.dst (.v v) K)
   | true=>ui C p r.sz (λvs=>Xf c S o.dst (.v (.agg vs.toArray)) K))
  | _,_=>lF c o S C K)
 | .indexAddr t x i=>(match Q0 c.g.tys t,S.ev x,S.ev i with
  | some ⟨_,.slice e,_,_,_⟩,some (.slice b n _),some (.int _ i)=>(match Q0 c.g.tys e with
   | some r=>WU b n i r.sz (λp=>Xf c S o.dst (.v (.pointer (some p))) K)
   | none=>lF c o S C K)
  | _,_,_=>lF c o S C K)
 | .index t x i=>(match Q0 c.g.tys t,S.ev x,S.ev i with
  | some ⟨_,.string,_,_,_⟩,some (.string s),some (.int _ i)=>fH s i (λb=>Xf c S o.dst (.v (.int .u8 b)) K)
  | _,_,_=>lF c o S C K)
 | .call ⟨.value f,xs,_⟩=>(match S.ev f with
  | some (.func (.func n) first cap)=>(match gL n c.g.fns with
   | true=>gO first.toList [] (λQW=>qY S xs.toList QW (λQW=>gO cap.toList QW (λQW=>gO QW [] (λl=>
     Ro c.g.P n l C (λv=>Xf c S o.dst (.v v) K)))))
   | false=>lF c o S C K)
  | _=>lF c o S C K)
 | _=>lF c o S C K
def oe (c:Cx)(o:Oper)(S:Env)(C:World->Prop)(K:Env->Prop):Prop:=
 match uf c.g S o.op with
 | .val v=>Xf c S o.dst (.v v) K
 | .ent e=>Xf c S o.dst e K
 | .norm k n=>eF n (λm=>Xf c S o.dst (.v (.int k m)) K)
 | .normIf p k n=>gM p n (λm=>Xf c S o.dst (.v (.int k m)) K)
 | .need p v=>j6 p v (λv=>Xf c S o.dst (.v v) K)
 | .no=>GE c o S C K
def aU (
      c:Cx) (all:List Oper):List Oper->Env->(World->Prop)->(Env->Prop)->Prop
 | [],S,_,K=>ao (BH c) S [] K
 | o::rest,S,C,K=>match o.guard with
  | none=>oe c o S C (λS=>aU c all rest S C K)
  | some (
      j,want)=>match Vg all j with
   | some oj=>(match oj.dst with
    | some d=>(match S.ent d with
     | some .t=>(match want with
      | true=>oe c o S C (λS=>aU c all rest S C K)
      | false=>Xf c S o.dst (.v undef) (λS=>aU c all rest S C K))
     | some .f=>(match want with
      | false=>oe c o S C (λS=>aU c all rest S C K)
      | true=>Xf c S o.dst (.v undef) (λS=>aU c all rest S C K))
     | some (.v (.bool b))=>(match want with
      | true=>KY b (oe c o ((d,.t)::S) C (λS=>aU c all rest S C K)) (Xf c ((d,.f)::S) o.dst (.v undef) (λS=>aU c all rest S C K))
      | false=>KY b (Xf c ((d,.t)::S) o.dst (.v undef) (λS=>aU c all rest S C K)) (oe c o ((d,.f)::S) C (λS=>aU c all rest S C K)))
     | some (.v (.tuple _))=>Xf c S o.dst (.v undef) (λS=>aU c all rest S C K)
     | _=>False)
    | none=>False)
   | none=>False
section
variable {c:Cx} {a:Act} {S:Env} {C:World->Prop} {K:Env->Prop}
abbrev uj (c:Cx)(K:Env->Prop):Act->Prop:=λa'=>∃S',Fits c.N S' a'/\K S'
theorem q9 {o:Oper}{v:Value}{N:Act->Prop}(hr:∀w,(execOp a.eval o).run c.g.P w= .ok (.value v) w)(h:N (a.put o.dst v)):o.quiet c.g.P a C N:=
 ⟨v,λw _=>by unfold Oper.quietAt;rw[hr w];exact⟨rfl,rfl⟩,h⟩
theorem Rp {o:Oper}{v:Value}{N:Act->Prop}(hr:∀w,C w->(execOp a.eval o).run c.g.P w= .ok (.value v) w)(h:N (a.put o.dst v)):o.quiet c.g.P a C N:=
 ⟨v,λw hw=>by unfold Oper.quietAt;rw[hr w hw];exact⟨rfl,rfl⟩,h⟩
theorem dQ8 (hg:c.g.Ok){o:Oper}(h:GE c o S C K)(hf:Fits c.N S a):o.quiet c.g.P a C (uj c K):=by
 have KV:lF c o S C K->o.quiet c.g.P a C (uj c K):=λh=>by
  unfold lF at h;obtain⟨v,h1,h2⟩:=h;exact⟨v,λw hw=>h1 a w hf hw,ZH (e:=.v v) h2 hf⟩
 obtain⟨dst,op,ty,pos,aft,gd⟩:=o;unfold GE at h;split at h
 ·rename_i t x X7;simp only at X7;subst X7;split at h
  ·rename_i r p hr hx;have e1:=hf.ev hx;split at h
   ·rename_i hd;unfold ug at h;obtain⟨v,hv,hk⟩:=h;refine Rp (v:=v) (λw hw=>?_) (ZH (e:=.v v) hk hf);simp[execOp,e1,Instr.loadAt,Instr.sureAddr,loadVar,nZ hg hr,hd,load,Sem.run,hv w hw]
   ·rename_i hd;unfold ui at h;obtain⟨vs,hl,hv,hk⟩:=h;refine Rp (v:=.agg vs.toArray) (λw hw=>?_) (ZH (e:=.v (.agg vs.toArray)) hk hf);have h2:=run_loadCells_list (P:=c.g.P) (w:=w) p vs (hv w hw);rw[hl] at h2;simp[execOp,e1,Instr.loadAt,Instr.sureAddr,loadVar,nZ hg hr,hd,run_sizeOf hg hr,h2]
  ·exact KV h
 ·rename_i t x ix X7;simp only at X7;subst X7;split at h
  ·rename_i e b n k i hr hx hi;split at h
   ·rename_i r Zc;unfold WU at h;obtain⟨p,rfl,h0,h1,hk⟩:=h;have e1:=hf.ev hx;have e2:=hf.ev hi;refine q9 (v:=.pointer (some (p.add (i.toNat*r.sz)))) (λw=>?_) (ZH (e:=.v _) hk hf);simp[execOp,e1,e2,Instr.indexAt,asIntOf,Wp hg hr,run_sizeOf hg Zc,h0,h1]
   ·exact KV h
  ·exact KV h
 ·rename_i t x ix X7;simp only at X7;subst X7;split at h
  ·rename_i s k i hr hx hi;unfold fH at h;obtain⟨b,h0,h1,hk⟩:=h;have e1:=hf.ev hx;have e2:=hf.ev hi;refine q9 (v:=.int .u8 b.toNat) (λw=>?_) (ZH (e:=.v _) hk hf);simp[execOp,e1,e2,Instr.index,asIntOf,Wp hg hr,h0,h1]
  ·exact KV h
 ·rename_i f xs ts X7;simp only at X7;subst X7;split at h
  ·rename_i n first cap hv;split at h
   ·rename_i hm;have hc:=hg.fns n (BC hm);rw[nY] at h;have h2:=Gz h hf;rw[nY,nY] at h2;simp only[KE,List.reverse_append,List.reverse_reverse,ZG] at h2;unfold Ro at h2;obtain⟨v,h3,hk⟩:=h2;have e1:=hf.ev hv;refine⟨v,λw hw=>?_,ZH (e:=.v v) hk hf⟩;unfold Oper.quietAt;have:(execOp a.eval {dst:=dst,op:=.call ⟨.value f,xs,ts⟩,type:=ty,pos:=pos,after:=aft,guard:=gd}).run c.g.P w=
      .ok (.enter n (first.toList++(List.map a.eval xs.toList++cap.toList)).toArray) w:=by
     simp[execOp,resolve,e1,Deferred.ofValue,invoke,BK hc]
    rw[this];refine⟨rfl,?_⟩;have h4:=h3 w hw;unfold Fn at h4;refine h4.mono λe w' he=>?_
    cases e with
    | returned u=>exact⟨by rw[he.1],he.2⟩
    | panicked ch=>exact he.elim
    | outgrown=>exact he.elim
   ·exact KV h
  ·exact KV h
 ·exact KV h
theorem dQ9 (hg:c.g.Ok){o:Oper}(h:oe c o S C K)(hf:Fits c.N S a):o.quiet c.g.P a C (uj c K):=by
 unfold oe at h;split at h
 ·rename_i v hp;exact q9 (λw=>dD (w:=w) hg hf hp) (ZH (e:=.v v) h hf)
 ·rename_i e hp;exact q9 (λw=>dD (w:=w) hg hf hp) (ZH (e:=e) h hf)
 ·rename_i k n hp;unfold eF at h;exact q9 (λw=>dD (w:=w) hg hf hp) (ZH (e:=.v (.int k n)) h hf)
 ·rename_i p k n hp;unfold gM at h;exact q9 (λw=>dD (w:=w) hg hf hp h.1) (ZH (e:=.v (.int k n)) h.2 hf)
 ·rename_i p v hp;unfold j6 at h;exact q9 (λw=>dD (w:=w) hg hf hp h.1) (ZH (e:=.v v) h.2 hf)
 ·exact dQ8 hg h hf
theorem BQ (hg:c.g.Ok)(all:List Oper):∀(l:List Oper)(S:Env)(a:Act),aU c all l S C K->Fits c.N S a->wpQuiet c.g.P all.toArray C (uj c K) l a
 | [],S,a,h,hf=>by
  simp only[aU] at h;exact xq (p:=BH c) hf.size hf.defers S [] (λk x hk=>by simp[Env.ent] at hk) (λk x _ hk=>hf.has k x hk) h
 | o::rest,S,a,h,hf=>by
  have go:∀(S:Env),oe c o S C (λS=>aU c all rest S C K)->Fits c.N S a->o.quiet c.g.P a C (wpQuiet c.g.P all.toArray C (uj c K) rest):=λS h hf=>
   Oper.quiet_mono (λa' ⟨S',Q1,hk⟩=>BQ hg all rest S' a' hk Q1) (dQ9 hg h hf)
  have no:∀(S:Env),Xf c S o.dst (.v undef) (λS=>aU c all rest S C K)->Fits c.N S a->wpQuiet c.g.P all.toArray C (uj c K) rest (a.put o.dst undef):=λS h hf=>by
   obtain⟨S',Q1,hk⟩:=ZH h hf;exact BQ hg all rest S' _ hk Q1
  have fit:∀(d:Nat) (b:Bool) (e:Ent),S.ent d=some (.v (.bool b))->e.val= .bool b->Fits c.N ((d,e)::S) a:=λd b e hd he=>by
   refine⟨hf.size,hf.defers,λk x hk=>?_⟩;simp only[Env.ent] at hk;split at hk
   ·rename_i hb;have:=VW hb;subst this;cases hk;rw[he];exact hf.has _ _ hd
   ·exact hf.has _ _ hk
  simp only[aU] at h;unfold wpQuiet;split at h
  ·rename_i KU;rw[Qf (by simp[Region.wanted,KU])];exact go S h hf
  ·rename_i j want KU;split at h
   ·rename_i oj hj;split at h
    ·rename_i d hd;split at h
     ·rename_i ZQ;have hw:=lB KU hj hd (hf.has _ _ ZQ);split at h
      ·rw[Qf (by rw[hw];rfl)];exact go S h hf
      ·rw[if_neg (by rw[hw];decide)];exact no S h hf
     ·rename_i ZQ;have hw:=lB KU hj hd (hf.has _ _ ZQ);split at h
      ·rw[Qf (by rw[hw];rfl)];exact go S h hf
      ·rw[if_neg (by rw[hw];decide)];exact no S h hf
     ·rename_i b ZQ;have hw:=lB KU hj hd (hf.has _ _ ZQ);split at h
      ·unfold KY at h;cases b with
       | true=>rw[Qf (by rw[hw];rfl)];exact go _ (h.1 rfl) (fit d true .t ZQ rfl)
       | false=>rw[if_neg (by rw[hw];decide)];exact no _ (h.2 rfl) (fit d false .f ZQ rfl)
      ·unfold KY at h;cases b with
       | true=>rw[if_neg (by rw[hw];decide)];exact no _ (h.1 rfl) (fit d true .t ZQ rfl)
       | false=>rw[Qf (by rw[hw];rfl)];exact go _ (h.2 rfl) (fit d false .f ZQ rfl)
     ·rename_i ZQ;rw[if_neg (by rw[GA KU hj hd (hf.has _ _ ZQ)];decide)];exact no S h hf
     ·exact h.elim
    ·exact h.elim
   ·exact h.elim
end
theorem GF {P:Program}{ops:Array Oper}{C:World->Prop}{Q Q':Act->Prop}(h:∀a,Q a->Q' a):∀{l:List Oper}{a:Act},wpQuiet P ops C Q l a->wpQuiet P ops C Q' l a
 | [],a,hh=>h a hh
 | o::l,a,hh=>by
  unfold wpQuiet at*;split
  ·rename_i hw;rw[Qf hw] at hh;exact Oper.quiet_mono (λa' h'=>GF h h') hh
  ·rename_i hw;rw[if_neg hw] at hh;exact GF h hh
theorem eQa {c:Cx}(hg:c.g.Ok){id:Nat}{ops:List Oper}{S:Env}{w:World}{Q:Zs}(C:World->Prop)(hC:C w.drew)(hB:Region.lexB .any ops.toArray=true)
  (h:aU c ops ops S C (λS=>∀w',C w'->Q .normal S w')):WV c id ops S w Q:=by
 unfold WV;intro a hf;refine wp_region_quiet (C:=C) hg.mixed hB hC ?_;have:=BQ hg ops ops S a h hf;refine GF ?_ this;intro a' ⟨S',Q1,hk⟩ w' Qb;exact⟨S',Q1,hk w' Qb⟩
theorem xu {P:Program}{ops:Array Oper}{w:World}{Q:Act->Prop}:∀{l:List Oper}{a:Act},wpQuiet P ops (λw'=>w'=w) Q l a->wpStill P ops w Q l a
 | [],a,h=>h
 | o::l,a,h=>by
  unfold wpQuiet at h;unfold wpStill;split
  ·rename_i hw;rw[Qf hw] at h;obtain⟨v,h1,h2⟩:=h;have h3:=h1 w rfl;unfold Oper.quietAt at h3;unfold Oper.still;generalize (execOp a.eval o).run P w=r at*;cases r with
   | ok n w'=>
    cases n<;>simp only[Oper.quietUpon] at h3<;>simp only[Oper.stillUpon]
    case value u=>obtain⟨rfl,rfl⟩:=h3;exact⟨rfl,xu h2⟩
    case skip=>obtain⟨rfl,rfl⟩:=h3;exact⟨rfl,xu h2⟩
    case enter f args=>exact⟨h3.1,v,h3.2,xu h2⟩
   | halt x w'=>simp only[Oper.quietUpon] at h3
  ·rename_i hw;rw[if_neg hw] at h;exact xu h
theorem xv {P:Program}{ops:Array Oper}{w:World}{Q Q':Act->Prop}(h:∀a,Q a->Q' a):∀{l:List Oper}{a:Act},wpStill P ops w Q l a->wpStill P ops w Q' l a
 | [],a,hh=>h a hh
 | o::l,a,hh=>by
  unfold wpStill at*;split
  ·rename_i hw;rw[Qf hw] at hh;unfold Oper.still at*;generalize (execOp a.eval o).run P w=r at*;cases r with
   | ok n w'=>
    cases n<;>simp only[Oper.stillUpon] at hh ⊢
    case value u=>exact⟨hh.1,xv h hh.2⟩
    case skip=>exact⟨hh.1,xv h hh.2⟩
    case enter f args=>obtain⟨h1,v,h2,h3⟩:=hh;exact⟨h1,v,h2,xv h h3⟩
   | halt x w'=>simp only[Oper.stillUpon] at hh
  ·rename_i hw;rw[if_neg hw] at hh;exact xv h hh
theorem lG {P:Program}{ops:Array Oper}{Q Q':Exit->Act->World->Prop}(h:∀e a w,Q e a w->Q' e a w):∀{l:List Oper}{a:Act}{w:World},wpList P ops Q l a w->wpList P ops Q' l a w
 | [],a,w,hh=>h _ a w hh
 | o::l,a,w,hh=>by
  unfold wpList at*;split
  ·rename_i hw;rw[Qf hw] at hh;rcases hh with hh | ⟨h1,a0,w0,h2⟩
   ·refine .inl ?_;have h2:=Oper.wp_mono (K':=wpList P ops Q' l) (λa w=>lG h) hh;unfold Oper.wp at h2 ⊢;generalize (execOp a.eval o).run P w=r at*;cases r with
    | ok n w'=>
     cases n<;>simp only[Oper.upon] at h2 ⊢ <;> try exact h2
     exact h2.mono λe Vq he=>by
      cases e with
      | returned v=>exact he
      | panicked ch=>exact h _ _ _ he
      | outgrown=>obtain⟨a0,w0,h0⟩:=he;exact⟨a0,w0,h _ _ _ h0⟩
    | halt x w'=>cases x<;>simp only[Oper.upon] at h2 ⊢ <;> first | exact h2 | exact h _ _ _ h2
   ·exact .inr ⟨h1,a0,w0,h _ _ _ h2⟩
  ·rename_i hw;rw[if_neg hw] at hh;exact lG h hh
theorem rg {c:Cx}(hg:c.g.Ok){id:Nat}{ops:List Oper}{S:Env}{w:World}{Q:Zs}(n:Nat)(hB:Region.lexTailB .any ops.toArray n=true)
  (h:aU {c with named:=1000000} ops (ops.take n) S (λw'=>w'=w.drew) (λS=>YJ c ops (ops.drop n) S w.drew (λS w=>Q .normal S w) Q)):WV c id ops S w Q:=by
 unfold WV;intro a hf;refine wp_region_still_tail n hg.mixed hB ?_;have h1:=BQ (c:={c with named:=1000000}) hg ops (ops.take n) S a h hf;refine xv ?_ (xu h1);intro a' ⟨S',Q1,hk⟩;have h2:=j8 (c:=c) hg ops _ _ _ _ hk Q1;refine lG (λe a w hq=>?_) h2;cases e<;>exact hq
end
section
def Ext (w w':World):Prop:=w.grownBy w' none
theorem Ext.refl (w:World):Ext w w:=⟨rfl,rfl,rfl,QB _,λ_ _ _=>rfl⟩
theorem Ext.trans {a b c:World}(h:Ext a b)(k:Ext b c):Ext a c:=
 ⟨k.os.trans h.os,k.tape.trans h.tape,k.output.trans h.output,X3 h.size k.size,λi hi hn=>(k.block i (Yq hi h.size) hn).trans (h.block i hi hn)⟩
theorem Ext.drew (w:World):Ext w w.drew:=⟨rfl,rfl,rfl,QB _,λ_ _ _=>rfl⟩
theorem Ext.alloc (w:World)(o:Obj):Ext w (w.alloc o):=World.grownBy_alloc w o none
theorem Ext.own {w0 w w1:World}{g:Nat}(h:Ext w0 w)(k:w.grownBy w1 (some g))(hg:w0.heap.size<=g):Ext w0 w1:=
 ⟨k.os.trans h.os,k.tape.trans h.tape,k.output.trans h.output,X3 h.size k.size,λi hi hn=>(k.block i (Yq hi h.size) (λe=>by cases e;omega)).trans (h.block i hi hn)⟩
theorem Ext.cell {w w':World}(h:Ext w w'){a:Addr}{v:Value}(hc:w.cell? a=some v):w'.cell? a=some v:=World.grownBy.cell h hc (by simp)
theorem Ext.below {w w':World}(h:Ext w w'):Below w.heap.size w w':=⟨h.os,h.tape,h.output,h.size,λk hk=>h.block k hk (by simp)⟩
theorem Ext.grown {w w':World}(h:Ext w w')(row:Option Nat):w.grownBy w' row:=⟨h.os,h.tape,h.output,h.size,λk hk _=>h.block k hk (by simp)⟩
theorem eQb {a b c:World}{row:Option Nat}(h:a.grownBy b row)(k:b.grownBy c row):a.grownBy c row:=
 ⟨k.os.trans h.os,k.tape.trans h.tape,k.output.trans h.output,X3 h.size k.size,λi hi hn=>(k.block i (Yq hi h.size) hn).trans (h.block i hi hn)⟩
def Blk (w:World)(g:Nat)(t:TypeId)(cs:List Value):Prop:=w.heap[g]? =some (.cells cs.toArray t (0,0))
theorem Blk.lt {w:World}{g t:Nat}{cs:List Value}(h:Blk w g t cs):g<w.heap.size:=(gF.1 h).1
theorem Blk.ext {w w':World}{g t:Nat}{cs:List Value}(h:Blk w g t cs)(k:Ext w w'):Blk w' g t cs:=(k.block g h.lt (by simp)).trans h
theorem rh (g j:Nat):(⟨g,0,none⟩:Addr).add j=⟨g,j,none⟩:=by unfold Addr.add;split<;>simp_all
theorem Blk.cell {w:World}{g t:Nat}{cs:List Value}(h:Blk w g t cs)(j:Nat):w.cell? ((⟨g,0,none⟩:Addr).add j)=cs[j]? :=by
 rw[rh,cell_of_row w g j _ t _ h];simp
theorem Blk.frozen {w:World}{g t:Nat}{cs:List Value}(h:Blk w g t cs)(j:Nat):w.frozen? ((⟨g,0,none⟩:Addr).add j)=false:=by
 rw[rh];exact frozen_of_row w g j _ t h
theorem Blk.new (w:World)(t:TypeId)(cs:List Value):Blk (w.alloc (.cells cs.toArray t)) w.heap.size t cs:=heap_alloc_new w _
theorem eQc (w:World)(a:Addr)(v:Value):w.grownBy (w.setCell a v) (some a.block):=
 ⟨rfl,rfl,rfl,by simp,λk _ hn=>Below.heap_setCell w a v k (λe=>hn (by rw[e]))⟩
theorem Blk.set {w:World}{g t:Nat}{cs:List Value}(h:Blk w g t cs)(j:Nat)(v:Value):Blk (w.setCell ((⟨g,0,none⟩:Addr).add j) v) g t (cs.set j v):=by
 rw[rh];have:=heap_setCell_same w g j cs.toArray t v h;unfold Blk;rw[this];simp
structure Sl (w:World) (sz:Nat) (A:Option Addr) (n c:Nat) (cs:List Value):Prop where
 len:cs.length=n*sz
 le:n<=c
 cap:c<=maxLen
 at_:0<n->∃ad,A=some ad/\∀j u,cs[j]? =some u->w.cell? (ad.add j)=some u
theorem Sl.ext {w w':World}{sz n c:Nat}{A:Option Addr}{cs:List Value}(h:Sl w sz A n c cs)(k:Ext w w'):Sl w' sz A n c cs:=
 ⟨h.len,h.le,h.cap,λhn=>let ⟨ad,e,hc⟩:=h.at_ hn;⟨ad,e,λj u hu=>k.cell (hc j u hu)⟩⟩
theorem Sl.nil (w:World)(sz:Nat):Sl w sz none 0 0 []:=⟨by simp,QB _,by simp[maxLen],λh=>Xc h (by omega)⟩
theorem Sl.take {w:World}{sz n c:Nat}{A:Option Addr}{cs:List Value}(h:Sl w sz A n c cs){m:Nat}(hm:m<=n):Sl w sz A m c (cs.take (m*sz)):=
 ⟨by rw[Kx,h.len];exact nN (WN _ hm),X3 hm h.le,h.cap,λhn=>let ⟨ad,e,hc⟩:=h.at_ (by omega);⟨ad,e,λj u hu=>hc j u (by
  rw[F5] at hu;split at hu<;>simp_all)⟩⟩
theorem Sl.own {w:World}{g t sz n c:Nat}{cs:List Value}(h:Blk w g t cs)(hn:n<=c)(hc:c<=maxLen)(hl:n*sz<=cs.length):Sl w sz (some ⟨g,0,none⟩) n c (cs.take (n*sz)):=
 ⟨by rw[Kx];exact nN hl,hn,hc,λ_=>⟨_,rfl,λj u hu=>by
  rw[h.cell];rw[F5] at hu;split at hu<;>simp_all⟩⟩
theorem Sl.own' {w:World}{g t n:Nat}{cs:List Value}(h:Blk w g t cs)(hl:cs.length=n)(hn:n<=maxLen):Sl w 1 (some ⟨g,0,none⟩) n n cs:=by
 have:=Sl.own (sz:=1) h (QB n) hn (by omega)
 rwa [ZS (by omega)] at this
def Fresh (w w':World)(A:Option Addr):Prop:=∀ad,A=some ad->w.heap.size<=ad.block/\ad.block<w'.heap.size
theorem Fresh.ext {w w' w2:World}{A:Option Addr}(h:Fresh w w' A)(k:Ext w' w2):Fresh w w2 A:=λad e=>⟨(h ad e).1,Yq (h ad e).2 k.size⟩
theorem YK {b:Bool}{p q:Prop}(hp:b=true->p)(hq:b=false->q):KY b p q:=by unfold KY;exact⟨hp,hq⟩
theorem Qw {c p q:Prop} [Decidable c](hp:c->p)(hq:¬c->q):KY (decide c) p q:=YK (λh=>hp (Y2 h)) (λh=>hq (of_decide_eq_false h))
theorem Xd {b:Bool}{p q:Prop}(hb:b=true)(hp:p):KY b p q:=YK (λ_=>hp) (λh=>by rw[hb] at h;cases h)
theorem Q9 {b:Bool}{p q:Prop}(hb:b=false)(hq:q):KY b p q:=YK (λh=>by rw[hb] at h;cases h) (λ_=>hq)
theorem Zy {c p q:Prop} [Decidable c](hc:c)(hp:p):KY (decide c) p q:=Xd (Zx hc) hp
theorem XJ {c p q:Prop} [Decidable c](hc:¬c)(hq:q):KY (decide c) p q:=Q9 (Zr hc) hq
theorem X8 {x y:Int}{p q:Prop}(hp:x=y->p)(hq:x≠y->q):KY (x==y) p q:=YK (λh=>hp (by simpa using h)) (λh=>hq (by simpa using h))
theorem J0 {x y:Int}{p q:Prop}(h:x=y)(hp:p):KY (x==y) p q:=Xd (by simpa using h) hp
theorem XK {x y:Int}{p q:Prop}(h:x≠y)(hq:q):KY (x==y) p q:=Q9 (by simpa using h) hq
theorem WW {x y:Int}{p q:Prop}(hp:x≠y->p)(hq:x=y->q):KY (x !=y) p q:=YK (λh=>hp (by simpa using h)) (λh=>hq (by simpa using h))
theorem ri {x y:Int}{p q:Prop}(h:x≠y)(hp:p):KY (x !=y) p q:=Xd (by simpa using h) hp
theorem WX {x y:Int}{p q:Prop}(h:x=y)(hq:q):KY (x !=y) p q:=Q9 (by simpa using h) hq
theorem kg {b:Bool}{p q:Prop}(h:KY b q p):KY (!b) p q:=by unfold KY at*;cases b<;>simp_all
theorem norm {n m:Int}{K:Int->Prop}(h:n=m)(k:K m):eF n K:=by unfold eF;rw[h];exact k
theorem eQd {n:Int}{K:Int->Prop}(h: -9223372036854775808<=n/\n<=9223372036854775807)(k:K n):eF (IntKind.i64.wrap n) K:=norm (IntWalk.i64_in n h) k
theorem BR {n:Int}{K:Int->Prop}(h:0<=n/\n<=18446744073709551615)(k:K n):eF (IntKind.u64.wrap n) K:=norm (IntWalk.u64_in n h) k
theorem Qj {n:Int}{K:Int->Prop}(m:Int)(hm:n=m)(h: -9223372036854775808<=m/\m<=9223372036854775807)(k:K m):eF (IntKind.i64.wrap n) K:=by subst hm;exact eQd h k
theorem GG {n:Int}{K:Int->Prop}(m:Int)(hm:n=m)(h:0<=m/\m<=18446744073709551615)(k:K m):eF (IntKind.u64.wrap n) K:=by subst hm;exact BR h k
theorem normIf {p:Prop}{n m:Int}{K:Int->Prop}(hp:p)(h:n=m)(k:K m):gM p n K:=by unfold gM;rw[h];exact⟨hp,k⟩
theorem need {p:Prop}{v:Value}{K:Value->Prop}(hp:p)(k:K v):j6 p v K:=by unfold j6;exact⟨hp,k⟩
theorem Rq {a b s:Nat}{K:Int->Prop}(hs:a ||| b=s)(ha:a<18446744073709551616)(hb:b<18446744073709551616)(k:K (s:Int)):eF (IntKind.u64.wrap ((BitVec.ofInt IntKind.u64.bits (a:Int) ||| BitVec.ofInt IntKind.u64.bits (b:Int)).toNat:Int)) K:=by
 have Xa:a ||| b<2^64:=Nat.or_lt_two_pow (by omega) (by omega)
 refine norm ?_ k;rw[BitVec.toNat_or,BitVec.ofInt_natCast,BitVec.ofInt_natCast,BitVec.toNat_ofNat,BitVec.toNat_ofNat];simp only[IntKind.bits];rw[jY (by omega),jY (by omega),hs];rw[hs] at Xa;exact IntWalk.u64_in _ (by omega)
theorem eQe (x:Nat)(n:Nat):(x:Int).fdiv (2^n)=((x/2^n:Nat):Int):=by
 rw[Int.fdiv_eq_ediv_of_nonneg _ (Int.le_of_lt (Int.pow_pos (by decide)))]
 norm_cast
theorem eQf (n:Nat):IntKind.u32.wrap (n:Int)=((n % 4294967296:Nat):Int):=by rw[IntKind.wrap_u32];omega
theorem uk (n:Nat):IntKind.u8.wrap (n:Int)=((n % 256:Nat):Int):=by rw[IntKind.wrap_u8];omega
theorem eK (a b:Nat):(a:Int).tmod (b:Int)=((a % b:Nat):Int):=by rw[Int.tmod_eq_emod_of_nonneg (by omega)];norm_cast
theorem eQg (a b:Nat):(a:Int).tdiv (b:Int)=((a/b:Nat):Int):=by rw[Int.tdiv_eq_ediv_of_nonneg (by omega)];norm_cast
theorem xw {x:Nat}{k:IntKind}{y:Int}{K:Int->Prop}(n d:Nat)(hy:0<=y)(hn:min y.toNat k.bits=n)(hd:2^n=d)(h:K ((x/d:Nat):Int)):gM (0<=y) ((x:Int).fdiv (2^(min y.toNat k.bits))) K:=by
 subst hd;rw[hn];exact(by unfold gM;exact⟨hy,by rw[eQe];exact h⟩)
theorem BT {n:Nat}{K:Int->Prop}(k:K ((n % 4294967296:Nat):Int)):eF (IntKind.u32.wrap (n:Int)) K:=norm (eQf n) k
theorem Rs {x:Nat}{d:Nat}{K:Int->Prop}(hd:0<d)(k:K ((x % d:Nat):Int)):gM ((d:Int)≠0) ((x:Int).tmod d) K:=normIf (by omega) (eK x d) k
theorem load {w:World}{p:Addr}{v:Value}{K:Value->Prop}(h:w.cell? p=some v)(k:K v):iP w p K:=by unfold iP;exact⟨v,h,k⟩
theorem Qo {w:World}{g t:Nat}{cs:List Value}{j:Nat}{v:Value}{K:Value->Prop}(h:Blk w g t cs)(hv:cs[j]? =some v)(k:K v):iP w ((⟨g,0,none⟩:Addr).add j) K:=load (by rw[h.cell];exact hv) k
theorem xx {w:World}{g t:Nat}{cs:List Value}{j:Nat}{v:Value}{K:World->Prop}(h:Blk w g t cs)(hj:j<cs.length)(k:∀w1,w.grownBy w1 (some g)->Blk w1 g t (cs.set j v)->K w1):fG w ((⟨g,0,none⟩:Addr).add j) v K:=by
 unfold fG;refine⟨⟨cs[j],by rw[h.cell];simp[hj]⟩,h.frozen j,k _ ?_ (h.set j v)⟩;have:=eQc w ((⟨g,0,none⟩:Addr).add j) v;rw[rh] at this ⊢;exact this
theorem index {a:Addr}{n j:Nat}{K:Addr->Prop}(hj:j<n)(k:K (a.add j)):WU (some a) n (j:Int) 1 K:=by
 unfold WU;exact⟨a,rfl,by omega,by omega,by simpa using k⟩
theorem Kc {a:Addr}{n j sz:Nat}{K:Addr->Prop}(hj:j<n)(k:K (a.add (j*sz))):WU (some a) n (j:Int) sz K:=by
 unfold WU;exact⟨a,rfl,by omega,by omega,by simpa using k⟩
theorem KF {w:World}{A:Option Addr}{n c j:Nat}{cs:List Value}{K:Addr->Prop}(h:Sl w 1 A n c cs)(hj:j<n)(k:∀ad u,A=some ad->cs[j]? =some u->w.cell? (ad.add j)=some u->K (ad.add j)):WU A n (j:Int) 1 K:=by
 obtain⟨ad,rfl,hc⟩:=h.at_ (by omega);have hl:j<cs.length:=by have:=h.len;omega
 exact index hj (k ad cs[j] rfl (by simp[hl]) (hc j _ (by simp[hl])))
theorem eQh {s:ByteArray}{j:Nat}{K:Int->Prop}(hj:j<s.size)(k:K (s[j].toNat:Int)):fH s (j:Int) K:=by
 unfold fH;exact⟨s[j],by omega,by simp[hj],k⟩
theorem QN {C:World->Prop}{p:Addr}{v:Value}{K:Value->Prop}(h:∀w,C w->w.cell? p=some v)(k:K v):ug C p K:=by unfold ug;exact⟨v,h,k⟩
theorem xy {c:Cx}(hg:c.g.Ok){id:Nat}{ops:List Oper}{S:Env}{w:World}{Q:Zs}(hB:Region.lexB .any ops.toArray=true)
  (h:aU c ops ops S (Ext w) (λS=>∀w',Ext w w'->Q .normal S w')):WV c id ops S w Q:=eQa hg (Ext w) (Ext.drew w) hB h
theorem JT {c:Cx}{o:Oper}{S:Env}{w w':World}{K:Env->World->Prop}{Q:Zs}{v:Value}(h:∀a,Fits c.N S a->(execOp a.eval o).run c.g.P w= .ok (.value v) w')(k:Xf c S o.dst (.v v) (λS=>K S w')):Zh c o S w K Q:=by
 unfold Zh;intro a hf;exact cJ (h a hf) (ZH (e:=.v v) k hf)
theorem Rt (z:Value)(n:Nat):madeCells #[z] n=Array.replicate n z:=by
 apply Array.ext
 ·simp[madeCells]
 ·intro i h1 h2;simp[madeCells,Nat.mod_one]
theorem BU {c:Cx}(hg:c.g.Ok){o:Oper}{S:Env}{w:World}{K:Env->World->Prop}{Q:Zs}{t e:Nat}{x y:Operand}{n:Nat}{r re:TyRow}(ho:o.op= .makeSlice t x y)(hr:Q0 c.g.tys t=some r)(hd:r.d= .slice e)(Zc:Q0 c.g.tys e=some re)(hz:re.z.cells= #[re.z])
  (hs:re.sz=1) (hx:S.ev x=some (.int .i64 n)) (hy:S.ev y=some (.int .i64 n)) (hb:re.by_*n<=281474976710656) (hn:n<=maxLen)
  (k:∀w1,Ext w w1->w1.heap.size=w.heap.size+1->Blk w1 w.heap.size e (List.replicate n re.z)->Xf c S o.dst (.v (.slice (some ⟨w.heap.size,0,none⟩) n n)) (λS=>K S w1)):Zh c o S w K Q:=by
 obtain⟨_,i,hi,XQ,du,dv⟩:=hg.row Zc;have Q5:=(hg.row hr).1;rw[hd] at Q5;have cY:=run_make (P:=c.g.P) w t e i re.z Q5 hi dv .i64 .i64 n n (by omega) (by omega) (by rw[du];omega) (by unfold maxLen at hn;omega);rw[hz,XQ,hs,Rt] at cY;refine JT (w':=w.alloc (.cells (Array.replicate n re.z) e)) (v:=.slice (some ⟨w.heap.size,0,none⟩) n n) (λa hf=>?_) (k _ (Ext.alloc w _) (by simp) ?_)
 ·have e1:=hf.ev hx;have e2:=hf.ev hy;simp only[execOp,ho,e1,e2];simp at cY ⊢;rw[cY]<;>rfl
 ·have:=Blk.new w e (List.replicate n re.z);simpa using this
theorem kh {c:Cx}(hg:c.g.Ok){o:Oper}{S:Env}{w:World}{K:Env->World->Prop}{Q:Zs}{t e:Nat}{x y:Operand}{A:Option Addr}{n cp:Nat}{h:Nat}{r:TyRow}(ho:o.op= .slice t x none (some y) none)(hr:Q0 c.g.tys t=some r)(hd:r.d= .slice e){re:TyRow}(Zc:Q0 c.g.tys e=some re)
  (hx:S.ev x=some (.slice A n cp)) (hy:S.ev y=some (.int .i64 h)) (hh:h<=cp)
  (k:Xf c S o.dst (.v (.slice A h cp)) (λS=>K S w)):Zh c o S w K Q:=by
 have Q5:=(hg.row hr).1;rw[hd] at Q5;refine JT (w':=w) (λa hf=>?_) k;have e1:=hf.ev hx;have e2:=hf.ev hy;simp[execOp,ho,e1,e2,Instr.sliceAt,Instr.slice,Ja Q5,Instr.sliceBounds,Instr.sliceBound,asIntOf,hh,run_sizeOf hg Zc];intro _;cases A<;>simp[Addr.add]
theorem GH {c:Cx}(hg:c.g.Ok){o:Oper}{S:Env}{w:World}{K:Env->World->Prop}{Q:Zs}{t e:Nat}{x y:Operand}{A:Option Addr}{n cp:Nat}{l:Nat}{r:TyRow}(ho:o.op= .slice t x (some y) none none)(hr:Q0 c.g.tys t=some r)(hd:r.d= .slice e){re:TyRow}(Zc:Q0 c.g.tys e=some re)
  (hx:S.ev x=some (.slice A n cp)) (hy:S.ev y=some (.int .i64 l)) (hl:l<=n)
  (k:Xf c S o.dst (.v (.slice (if cp=l then A else A.map (·.add (l*re.sz))) (n-l) (cp-l))) (λS=>K S w)):Zh c o S w K Q:=by
 have Q5:=(hg.row hr).1;rw[hd] at Q5;refine JT (w':=w) (λa hf=>?_) k;have e1:=hf.ev hx;have e2:=hf.ev hy;simp[execOp,ho,e1,e2,Instr.sliceAt,Instr.slice,Ja Q5,Instr.sliceBounds,Instr.sliceBound,asIntOf,hl,run_sizeOf hg Zc]
structure Own (w:World) (base e sz:Nat) (A:Option Addr) (n c:Nat) (cs:List Value):Prop where
 row:w.ownsRow base e sz (.slice A n c) n cs
theorem qQ0 {w:World}{base e sz:Nat}{v:Value}{n:Nat}{cs:List Value}(h:w.ownsRow base e sz v n cs):∃A c,v= .slice A n c/\Own w base e sz A n c cs:=by
 rcases h.2 with⟨rfl,rfl⟩ | ⟨g,cap,ZR,rfl,r⟩
 ·exact⟨none,0,rfl,⟨h⟩⟩
 ·exact⟨_,cap,rfl,⟨h⟩⟩
theorem Own.sl {w:World}{base e sz n c:Nat}{A:Option Addr}{cs:List Value}(h:Own w base e sz A n c cs):Sl w sz A n c cs:=by
 have h:=h.row;have h1:=h.1;rcases h.2 with⟨hv,rfl⟩ | ⟨g,cap,ZR,hv,hb,hg,hn,hm,hs,ht⟩
 ·cases hv;exact⟨h1,QB _,by simp[maxLen],λh=>Xc h (by omega)⟩
 ·cases hv;refine⟨h1,hn,hm,λ_=>⟨_,rfl,λj u hu=>?_⟩⟩;exact World.ownsRow.cells h (g:=g) rfl j u hu
theorem Own.ext {w w':World}{base e sz n c:Nat}{A:Option Addr}{cs:List Value}(h:Own w base e sz A n c cs)(k:Ext w w'):Own w' base e sz A n c cs:=
 ⟨h.row.kept k (by cases hv:(Value.slice A n c).ownBlock<;>simp)⟩
theorem Own.empty {w:World}{g e sz:Nat}{base:Nat}(h:Blk w g e [])(hb:base<=g):Own w base e sz (some ⟨g,0,none⟩) 0 0 []:=
 ⟨⟨by simp,.inr ⟨g,0,_,rfl,hb,h,QB _,by simp[maxLen],by simp,by simp⟩⟩⟩
theorem Own.nil (w:World)(base e sz:Nat):Own w base e sz none 0 0 []:=⟨World.ownsRow_nil w base e sz⟩
theorem Own.blk {w:World}{base e n c:Nat}{A:Option Addr}{cs:List Value}(h:Own w base e 1 A n c cs)(hn:0<n):∃g sp,A=some ⟨g,0,none⟩/\base<=g/\Blk w g e (cs++sp)/\(cs++sp).length=c:=by
 have h:=h.row;rcases h.2 with⟨hv,rfl⟩ | ⟨g,cap,ZR,hv,hb,hg,KJ,hm,hs,ht⟩
 ·omega
 ·cases hv;refine⟨g,ZR.toList.drop n,rfl,hb,?_⟩;rw[Wm] at ht;rw[<-ht,aQ];exact⟨by simpa [Blk] using hg,by simpa using hs⟩
theorem qQ3 {w:World}{base e n c g:Nat}{cs sp:List Value}(h:Blk w g e (cs++sp))(hb:base<=g)(hl:cs.length=n)(hc:(cs++sp).length=c)(hm:c<=maxLen):Own w base e 1 (some ⟨g,0,none⟩) n c cs:=
 ⟨⟨by omega,.inr ⟨g,c,_,rfl,hb,h,by rw[Qq] at hc;omega,hm,by simpa using hc,by rw[Wm];simp[<-hl]⟩⟩⟩
theorem eQi {w:World}{base e n c j:Nat}{a:Addr}{xs:List Value}{v:Value}{K:World->Prop}(h:Own w base e 1 (some a) n c xs)(hj:j<n)
  (k:∀w1,w.grownBy w1 (Value.slice (some a) n c).ownBlock->Own w1 base e 1 (some a) n c (xs.set j v)->K w1):fG w (a.add j) v K:=by
 obtain⟨g,sp,hA,hb,hB,hl⟩:=h.blk (by omega);cases hA;have QZ:xs.length=n:=by have:=h.sl.len;omega
 refine xx hB (by rw[Qq];omega) (λw1 ti Qh=>k w1 ti ?_);rw[List.set_append_left _ _ (by omega)] at Qh;exact qQ3 Qh hb (by rw[gG];exact QZ) (by rw[Qq,gG];rw[Qq] at hl;exact hl) h.sl.cap
theorem og (a:Addr)(j:Nat):(a.add j).block=a.block:=by unfold Addr.add;split<;>rfl
theorem BV {u:Value}(h:JS u=true):u.oneCell'=true:=by cases u<;>first | rfl | (simp[JS] at h)
theorem eQj (z v:Value)(h:JS v=true):Instr.fill (λi=>some (i*1,1)) #[z] [(0,v)]=some #[v]:=by
 have hc:v.cells= #[v]:=by cases v<;>first | rfl | (simp[JS] at h)
 simp[Instr.fill,hc]
theorem eQk (z v u:Value)(h:JS v=true)(h':JS u=true):Instr.fill (λi=>some (i*1,1)) #[z,z] [(0,v),(1,u)]=some #[v,u]:=by
 have hc:v.cells= #[v]:=by cases v<;>first | rfl | (simp[JS] at h)
 have ZZ:u.cells= #[u]:=by cases u<;>first | rfl | (simp[JS] at h')
 simp[Instr.fill,hc,ZZ]
section
variable {c:Cx} (hg:c.g.Ok) {o:Oper} {S:Env} {w:World} {K:Env->World->Prop} {Q:Zs} {t e:Nat} {r re:TyRow}
include hg
theorem GI (hr:Q0 c.g.tys t=some r)(hd:r.d= .slice e)(Zc:Q0 c.g.tys e=some re)(hs:re.sz=1)(hz:re.z.cells= #[re.z])(n:Nat)(hn:n<=1000)(parts:Array (Nat×Value))(cs:List Value)
  (hf:Instr.fill (λi=>some (i*1,1)) (Array.replicate n re.z) parts.toList=some cs.toArray):
  (Instr.buildSlice t n parts).run c.g.P w= .ok (.slice (some ⟨w.heap.size,0,none⟩) n n) (w.alloc (.cells cs.toArray e)):=by
 obtain⟨_,i,hi,XQ,pX,dv⟩:=hg.row Zc;have Q5:=(hg.row hr).1;rw[hd] at Q5;have e1:(Array.range n).map (λj=>(#[re.z]:Array Value)[j % (#[re.z]:Array Value).size]!)=Array.replicate n re.z:=Rt re.z n;have jl:¬(16777216<n):=by omega
 by_cases h0:n=0
 ·subst h0;simp[Instr.buildSlice,Ja Q5,sizeOf,typeInfo,hi,XQ,hs,newRow] at hf ⊢;rw[show Array.map (λ_=>(default:Value)) (Array.range 0)= #[] by simp[Array.range_zero'],hf];simp
 ·simp[Instr.buildSlice,Ja Q5,sizeOf,typeInfo,hi,XQ,hs,newRow,jl,h0,zeroValue,dv,hz];simp at e1 hf;rw[e1,hf];simp
theorem eQl (ho:o.op= .buildSlice t 0 #[])(hr:Q0 c.g.tys t=some r)(hd:r.d= .slice e)(Zc:Q0 c.g.tys e=some re)(hs:re.sz=1)(hz:re.z.cells= #[re.z])
  (k:∀w1,Ext w w1->w1.heap.size=w.heap.size+1->Blk w1 w.heap.size e []->Xf c S o.dst (.v (.slice (some ⟨w.heap.size,0,none⟩) 0 0)) (λS=>K S w1)):Zh c o S w K Q:=by
 have Jm:=GI (w:=w) hg hr hd Zc hs hz 0 (by omega) #[] [] (by simp[Instr.fill]);refine JT (w':=w.alloc (.cells #[] e)) (λa hf=>?_) (k _ (Ext.alloc w _) (by simp) (Blk.new w e []));simp only[execOp,ho];simp[Jm]
theorem Ru {x:Operand}{v:Value}(ho:o.op= .buildSlice t 1 #[(0,x)])(hr:Q0 c.g.tys t=some r)(hd:r.d= .slice e)(Zc:Q0 c.g.tys e=some re)(hs:re.sz=1)(hz:re.z.cells= #[re.z])(hx:S.ev x=some v)(hv:JS v=true)
  (k:∀w1,Ext w w1->w1.heap.size=w.heap.size+1->Blk w1 w.heap.size e [v]->Xf c S o.dst (.v (.slice (some ⟨w.heap.size,0,none⟩) 1 1)) (λS=>K S w1)):Zh c o S w K Q:=by
 have Jm:=GI (w:=w) hg hr hd Zc hs hz 1 (by omega) #[(0,v)] [v] (eQj re.z v hv);refine JT (w':=w.alloc (.cells #[v] e)) (λa hf=>?_) (k _ (Ext.alloc w _) (by simp) (Blk.new w e [v]));have e1:=hf.ev hx;simp only[execOp,ho];simp[e1,Jm]
theorem um {x y:Operand}{v u:Value}(ho:o.op= .buildSlice t 2 #[(0,x),(1,y)])(hr:Q0 c.g.tys t=some r)(hd:r.d= .slice e)(Zc:Q0 c.g.tys e=some re)(hs:re.sz=1)(hz:re.z.cells= #[re.z])(hx:S.ev x=some v)(hy:S.ev y=some u)(hv:JS v=true)(hu:JS u=true)
  (k:∀w1,Ext w w1->w1.heap.size=w.heap.size+1->Blk w1 w.heap.size e [v,u]->Xf c S o.dst (.v (.slice (some ⟨w.heap.size,0,none⟩) 2 2)) (λS=>K S w1)):Zh c o S w K Q:=by
 have Jm:=GI (w:=w) hg hr hd Zc hs hz 2 (by omega) #[(0,v),(1,u)] [v,u] (eQk re.z v u hv hu);refine JT (w':=w.alloc (.cells #[v,u] e)) (λa hf=>?_) (k _ (Ext.alloc w _) (by simp) (Blk.new w e [v,u]));have e1:=hf.ev hx;have e2:=hf.ev hy;simp only[execOp,ho];simp[e1,e2,Jm]
end
theorem eQm {c:Cx}(hg:c.g.Ok){o:Oper}{S:Env}{w:World}{K:Env->World->Prop}{Q:Zs}{t t2 e:Nat}{x y:Operand}{g n cp:Nat}{A:Option Addr}{m c2:Nat}{xs ys:List Value}{r re:TyRow}
  (ho:o.op= .call ⟨.builtin .copy, #[x,y], #[t,t2]⟩) (hr:Q0 c.g.tys t=some r) (hd:r.d= .slice e) (Zc:Q0 c.g.tys e=some re) (hs:re.sz=1)
  (hx:S.ev x=some (.slice (some ⟨g,0,none⟩) n cp)) (hy:S.ev y=some (.slice A m c2)) (hb:Blk w g e xs) (iy:Sl w 1 A m c2 ys) (Fk:m<=n) (eo:n<=xs.length) (iz:∀u∈ys,JS u=true)
  (k:∀w1,w.grownBy w1 (some g)->w1.heap.size=w.heap.size->Blk w1 g e (ys++xs.drop m)->Xf c S o.dst (.v (.int .i64 m)) (λS=>K S w1)):Zh c o S w K Q:=by
 obtain⟨_,i,hi,XQ,pX,dv⟩:=hg.row Zc;have Q5:=(hg.row hr).1;rw[hd] at Q5;have QZ:ys.length=m:=by have:=iy.len;omega
 have hfc:(Builtin.firstCells 1 m (.slice A m c2)).run c.g.P w= .ok ys.toArray w:=by
  by_cases h0:m=0
  ·subst h0;have:ys=[]:=WO QZ;subst this;cases A<;>simp[Builtin.firstCells,loadCells,loadCellsFrom]
  ·obtain⟨ad,rfl,hc⟩:=iy.at_ (by omega);have:=run_loadCells_list (P:=c.g.P) (w:=w) ad ys hc;rw[QZ] at this;simpa [Builtin.firstCells] using this
 have bH:=run_storeCells_at c.g.P g 0 e ys 0 xs.toArray w hb (by simp;omega) (λu hu=>BV (iz u hu));simp only[WQ,Nat.add_zero] at bH;have pY:Nat.min m n=m:=nN Fk;refine JT (w':=w.setRow g (ys++xs.drop m).toArray) (v:=.int .i64 m) (λa hf=>?_) (k _ ?_ (by simp) ?_)
 ·have e1:=hf.ev hx;have e2:=hf.ev hy;have Fl:(storeCells (⟨g,0,none⟩:Addr) ys).run c.g.P w= .ok () (w.setRow g (ys++xs.drop m).toArray):=by
   have:=bH;rw[QZ] at this;simpa [rh] using this
  simp only[execOp,ho,resolve,invoke];simp[builtin,e1,e2,Builtin.copy_,Ja Q5,sizeOf,typeInfo,hi,XQ,hs,Builtin.lenOf,pY,hfc,Fl,goInt]
 ·exact⟨rfl,rfl,rfl,by simp,λj _ hj=>setRow_other w g j _ (λe=>hj (by rw[e]))⟩
 ·exact setRow_heap w g xs.toArray _ e _ hb
def VH (l:List Nat):List Value:=l.map λ(x:Nat)=>.int .u8 x
def Qd (l:List Nat):ByteArray:=⟨(l.map UInt8.ofNat).toArray⟩
theorem rj {l:List Nat}{j x:Nat}(h:l[j]? =some x):(VH l)[j]? =some (.int .u8 (x:Int)):=by simp[VH,h]
theorem BW (l m:List Nat):VH (l++m)=VH l++VH m:=by simp[VH]
theorem uo (l:List Nat):(VH l).length=l.length:=by simp[VH]
theorem ZM (l m:List Nat):Qd l++Qd m=Qd (l++m):=by
 apply ByteArray.ext;simp[Qd,ByteArray.data_append]
theorem Q8 (l:List Nat):(Qd l).size=l.length:=by simp[Qd,ByteArray.size]
def Wq (s:ByteArray):List Nat:=s.data.toList.map UInt8.toNat
theorem xz (s:ByteArray):(Wq s).length=s.size:=by simp[Wq]
theorem eQn (s:ByteArray):∀x∈Wq s,x<256:=by
 intro x hx;simp only[Wq,Zk] at hx;obtain⟨b,_,rfl⟩:=hx;exact b.toNat_lt
theorem Rv {s:ByteArray}{j:Nat}(hj:j<s.size):(Wq s)[j]? =some s[j].toNat:=by
 have h':j<s.data.size:=hj;have:s[j]=s.data[j]:=rfl;rw[this];simp only[Wq,aR,Array.getElem?_toList];rw[Array.getElem?_eq_getElem h']<;>rfl
theorem dE {s:ByteArray}{j:Nat}{K:Int->Prop}(hj:j<s.size)(k:∀x,(Wq s)[j]? =some x->x<256->K (x:Int)):fH s (j:Int) K:=
 eQh hj (k _ (Rv hj) (s[j]).toNat_lt)
theorem eQo (s:ByteArray):Qd (Wq s)=s:=by
 apply ByteArray.ext;simp[Qd,Wq,Function.comp_def]
theorem Ws {l:List Nat}(h:∀x∈l,x<256):Wq (Qd l)=l:=by
 simp only[Wq,Qd,nP]
 conv=>rhs;rw[<-List.map_id l]
 apply List.map_congr_left;intro x hx;simp[jY (h x hx)]
theorem Kn {l m:List Nat}(hl:∀x∈l,x<256)(hm:∀x∈m,x<256)(h:Qd l=Qd m):l=m:=by
 rw[<-Ws hl,<-Ws hm,h]
end
section
section
variable {P:Program} {ops:Array Oper} {md:Region.Mode} {C:World->Prop} {Q:Exit->Act->World->Prop}
def NoPan (Q:Exit->Act->World->Prop):Exit->Act->World->Prop
 | .panic _,_,_=>False
 | e,a,w=>Q e a w
theorem NoPan.imp {Q:Exit->Act->World->Prop}:∀(e:Exit)(a:Act)(w:World),NoPan Q e a w->Q e a w:=λe a w h=>by
 cases e<;>first | exact h | exact(h:False).elim
def Yr (P:Program)(md:Region.Mode)(ops:Array Oper)(Q:Exit->Act->World->Prop)(C:World->Prop)(n:Nat)(L:Array Bool->Act->World->Prop):Nat->Array Bool->Act->World->Prop
 | 0,listed,a,w=>L listed a w
 | f+1,listed,a,w=>
  Region.ready md ops listed≠ []/\∀i∈Region.ready md ops listed,i<n/\wpOp P ops Q i (λa' w'=>C w'/\Yr P md ops Q C n L f (listed.setIfInBounds i true) a' w') a w
theorem uq {n g:Nat}{L:Array Bool->Act->World->Prop}(hL:∀listed a w,L listed a w->wpAny P md ops Q g listed a w):
  ∀(f:Nat) (listed:Array Bool) (a:Act) (w:World),Yr P md ops Q C n L f listed a w->wpAny P md ops Q (f+g) listed a w
 | 0,listed,a,w,h=>by rw[WQ];exact hL _ _ _ h
 | f+1,listed,a,w,h=>by
  rw[show f+1+g=(f+g)+1 by omega];exact⟨λh0=>Xc h0 h.1,λi hi=>wpOp_mono (λa' w' h'=>uq hL f _ a' w' h'.2) (h.2 i hi).2⟩
def ki (md:Region.Mode)(ops:Array Oper)(n:Nat):Prop:=n=ops.size∨(n<ops.size/\Region.sinkB md ops n=true/\Region.chainB md ops n=true)
theorem ur {n i:Nat}{listed:Array Bool}(hs:ki md ops n)(inv:HeadInv md ops n listed)(Q4:i<n)(J9:listed.getD i true=false):∀j∈Region.ready md ops listed,j<n:=by
 intro j hj;rcases hs with hs | ⟨h1,h2,h3⟩
 ·obtain⟨_,oj,gv,_⟩:=mem_ready.1 hj;rw[hs];exact(gF.1 gv).1
 ·rcases Nat.lt_or_ge j n with h | h
  ·exact h
  ·exact Xc hj (tail_waits h2 h3 h1 inv _ i rfl Q4 J9 j h)
theorem GJ {n i:Nat}{oi:Oper}{v:Value}{L:Array Bool->Act->World->Prop}(hi:ops[i]? =some oi)(jK:∀(j:Nat)(o:Oper) cs b,ops[j]? =some o->o.op≠ .select cs b)
  (hs:ki md ops n) (Q4:i<n) (Ak:∀listed a w,L listed a w->∀j∈Region.ready md ops listed,n<=j):
  ∀(f:Nat) (listed:Array Bool) (a:Act) (w:World),HeadInv md ops n listed->
   (∀j oj,ops[j]? =some oj->j≠i->listed.getD j true=false->(∀e∈oj.after,Region.binds md e=true->e.on≠i)->oi.apart ops oj=true)->
   i∈Region.ready md ops listed->YieldsIf P ops C oi v a->C w->
   Yr P md ops (NoPan Q) C n L f (listed.setIfInBounds i true) (a.put oi.dst v) w->Yr P md ops (NoPan Q) C n L (f+1) listed a w:=by
 intro f;induction f with
 | zero=>
  intro listed a w inv _ hr hy hC H;have J9:=(mem_ready.1 hr).1;refine⟨λh=>(by rw[h] at hr;cases hr),λj hj=>?_⟩;have KB:=ur hs inv Q4 J9 j hj;refine⟨KB,?_⟩;by_cases Vr:j=i
  ·subst Vr;exact hy.wpOp hi hC ⟨hC,H⟩
  ·have:=Ak _ _ _ H j (ready_mono hj Vr);omega
 | succ f ih=>
  intro listed a w inv pZ hr hy hC H;have J9:=(mem_ready.1 hr).1;refine⟨λh=>(by rw[h] at hr;cases hr),λj hj=>?_⟩;have KB:=ur hs inv Q4 J9 j hj;refine⟨KB,?_⟩;by_cases Vr:j=i
  ·subst Vr;exact hy.wpOp hi hC ⟨hC,H⟩
  ·have h1:=(H.2 j (ready_mono hj Vr)).2;obtain⟨p7,oj,gv,hall⟩:=mem_ready.1 hj;have ny:∀e∈oj.after,Region.binds md e=true->e.on≠i:=λe he hb heq=>by
    have h1:=hall e he hb;rw[heq,getD_both J9] at h1;cases h1
   have h2:=wpOp_putIf gv (pZ j oj gv Vr p7 ny) (λcs b=>jK i oi cs b hi) (λcs b=>jK j oj cs b gv) (λ_ _ _ h=>h) hy h1;have Am:∀k ok,ops[k]? =some ok->k≠i->(listed.setIfInBounds j true).getD k true=false->
     (∀e∈ok.after,Region.binds md e=true->e.on≠i)->oi.apart ops ok=true:=λk ok hk An J9 Xi=>by
    refine pZ k ok hk An ?_ Xi;by_cases p8:j=k
    ·subst p8;exact p7
    ·rw[getD_set_ne true p8] at J9;exact J9
   refine wpOp_mono (λa' w' h3=>⟨h3.2.1,ih (listed.setIfInBounds j true) a' w' (inv.set hj KB) Am (ready_mono hr (Ne.symm Vr)) h3.1 h3.2.1 ?_⟩) h2;rw[dQG _ _ Vr];exact h3.2.2
def eL (md:Region.Mode)(ops:Array Oper)(n:Nat):List (Bool×Nat)->Array Bool->Bool
 | [],listed=>Region.seqB md ops (ops.size-n) n listed
 | (true,k)::l,listed=>Nat.blt k n&&(Region.ready md ops listed).contains k&&Region.free md ops listed k&&eL md ops n l (listed.setIfInBounds k true)
 | (false,k)::l,listed=>Nat.blt k n&&decide (Region.ready md ops listed=[k])&&eL md ops n l (listed.setIfInBounds k true)
def rm (md:Region.Mode)(ops:Array Oper)(n:Nat):Bool:=Nat.beq n ops.size||(Nat.blt n ops.size&&Region.sinkB md ops n&&Region.chainB md ops n)
theorem xA {n:Nat}(h:rm md ops n=true):ki md ops n:=by
 simp only[rm,Bool.or_eq_true,Z9] at h;rcases h with h | ⟨⟨h1,h2⟩,h3⟩
 ·exact .inl (VW h)
 ·exact .inr ⟨by rw[iM] at h1;exact h1,h2,h3⟩
end
section
variable {c:Cx} {S:Env} {a:Act}
@[irreducible] def dF (c:Cx) (o:Oper) (S:Env) (C:World->Prop) (K:Env->Prop):Prop:=∃v,(∀a w,Fits c.N S a->C w->(execOp a.eval o).run c.g.P w= .ok (.value v) w)/\Xf c S o.dst (.v v) K
def ro (c:Cx)(o:Oper)(S:Env)(C:World->Prop)(K:Env->Prop):Prop:=
 match uf c.g S o.op with
 | .val v=>Xf c S o.dst (.v v) K
 | .ent e=>Xf c S o.dst e K
 | .norm k n=>eF n (λm=>Xf c S o.dst (.v (.int k m)) K)
 | .normIf p k n=>gM p n (λm=>Xf c S o.dst (.v (.int k m)) K)
 | .need p v=>j6 p v (λv=>Xf c S o.dst (.v v) K)
 | .no=>match o.op with
  | .load t x=>(match Q0 c.g.tys t,S.ev x with
   | some r,some (.pointer (some p))=>(match qU r.d with
    | false=>ug C p (λv=>Xf c S o.dst (.v v) K)
    | true=>ui C p r.sz (λvs=>Xf c S o.dst (.v (.agg vs.toArray)) K))
   | _,_=>dF c o S C K)
  | .indexAddr t x i=>(match Q0 c.g.tys t,S.ev x,S.ev i with
   | some ⟨_,.slice e,_,_,_⟩,some (.slice b n _),some (.int _ i)=>(match Q0 c.g.tys e with
    | some r=>WU b n i r.sz (λp=>Xf c S o.dst (.v (.pointer (some p))) K)
    | none=>dF c o S C K)
   | some ⟨_,.array n e,_,_,_⟩,some (.pointer (some p)),some (.int _ i)=>(match Q0 c.g.tys e with
    | some r=>WU (some p) n i r.sz (λp=>Xf c S o.dst (.v (.pointer (some p))) K)
    | none=>dF c o S C K)
   | _,_,_=>dF c o S C K)
  | .index t x i=>(match Q0 c.g.tys t,S.ev x,S.ev i with
   | some ⟨_,.string,_,_,_⟩,some (.string s),some (.int _ i)=>fH s i (λb=>Xf c S o.dst (.v (.int .u8 b)) K)
   | _,_,_=>dF c o S C K)
  | _=>dF c o S C K
def gS (all:List Oper)(o:Oper)(S:Env)(yes no:Env->Prop):Prop:=match o.guard with
 | none=>yes S
 | some (
     j,want)=>match Vg all j with
  | some oj=>(match oj.dst with
   | some d=>(match S.ent d with
    | some .t=>(match want with
     | true=>yes S
     | false=>no S)
    | some .f=>(match want with
     | false=>yes S
     | true=>no S)
    | some (.v (.bool b))=>(match want with
     | true=>KY b (yes ((d,.t)::S)) (no ((d,.f)::S))
     | false=>KY b (no ((d,.t)::S)) (yes ((d,.f)::S)))
    | some (.v (.tuple _))=>no S
    | _=>False)
   | none=>False)
  | none=>False
def lH (c:Cx)(all:List Oper)(C:World->Prop):List (Bool×Nat)->Env->World->(Env->World->Prop)->Prop
 | [],S,w,K=>K S w
 | (true,k)::l,S,w,K=>match Vg all k with
  | some o=>gS all o S (λS=>ro c o S C (λS=>lH c all C l S w K)) (λS=>Xf c S o.dst (.v undef) (λS=>lH c all C l S w K))
  | none=>False
 | (false,k)::l,S,w,K=>match Vg all k with
  | some o=>gS all o S (λS=>eH c o S w (λS w=>C w/\lH c all C l S w K) (λ_ _ _=>False)) (λS=>Xf c S o.dst (.v undef) (λS=>lH c all C l S w K))
  | none=>False
theorem kj {all:List Oper}{o:Oper}{yes no:Env->Prop}(h:gS all o S yes no)(hf:Fits c.N S a):
  (Region.wanted o (yielded all.toArray a.tmps)=true/\∃S',Fits c.N S' a/\yes S')∨(Region.wanted o (yielded all.toArray a.tmps)=false/\∃S',Fits c.N S' a/\no S'):=by
 have fit:∀(d:Nat) (b:Bool) (e:Ent),S.ent d=some (.v (.bool b))->e.val= .bool b->Fits c.N ((d,e)::S) a:=λd b e hd he=>by
  refine⟨hf.size,hf.defers,λk x hk=>?_⟩;simp only[Env.ent] at hk;split at hk
  ·rename_i hb;have:=VW hb;subst this;cases hk;rw[he];exact hf.has _ _ hd
  ·exact hf.has _ _ hk
 unfold gS at h;split at h
 ·rename_i KU;exact .inl ⟨by simp[Region.wanted,KU],S,hf,h⟩
 ·rename_i j want KU;split at h
  ·rename_i oj hj;split at h
   ·rename_i d hd;split at h
    ·rename_i ZQ;have hw:=lB KU hj hd (hf.has _ _ ZQ);split at h
     ·exact .inl ⟨by rw[hw];rfl,S,hf,h⟩
     ·exact .inr ⟨by rw[hw];rfl,S,hf,h⟩
    ·rename_i ZQ;have hw:=lB KU hj hd (hf.has _ _ ZQ);split at h
     ·exact .inl ⟨by rw[hw];rfl,S,hf,h⟩
     ·exact .inr ⟨by rw[hw];rfl,S,hf,h⟩
    ·rename_i b ZQ;have hw:=lB KU hj hd (hf.has _ _ ZQ);split at h
     ·unfold KY at h;cases b with
      | true=>exact .inl ⟨by rw[hw];rfl,_,fit d true .t ZQ rfl,h.1 rfl⟩
      | false=>exact .inr ⟨by rw[hw];rfl,_,fit d false .f ZQ rfl,h.2 rfl⟩
     ·unfold KY at h;cases b with
      | true=>exact .inr ⟨by rw[hw];rfl,_,fit d true .t ZQ rfl,h.1 rfl⟩
      | false=>exact .inl ⟨by rw[hw];rfl,_,fit d false .f ZQ rfl,h.2 rfl⟩
    ·rename_i ZQ;exact .inr ⟨GA KU hj hd (hf.has _ _ ZQ),S,hf,h⟩
    ·exact h.elim
   ·exact h.elim
  ·exact h.elim
theorem xB (hg:c.g.Ok){o:Oper}{C:World->Prop}{K:Env->Prop}(h:ro c o S C K)(hf:Fits c.N S a):
  ∃v,(∀w,C w->(execOp a.eval o).run c.g.P w= .ok (.value v) w)/\∃S',Fits c.N S' (a.put o.dst v)/\K S':=by
 have KV:dF c o S C K->∃v,(∀w,C w->(execOp a.eval o).run c.g.P w= .ok (.value v) w)/\∃S',Fits c.N S' (a.put o.dst v)/\K S':=λh=>by
  unfold dF at h;obtain⟨v,h1,h2⟩:=h;exact⟨v,λw hw=>h1 a w hf hw,ZH (e:=.v v) h2 hf⟩
 unfold ro at h;split at h
 ·rename_i v hp;exact⟨v,λw _=>dD (w:=w) hg hf hp,ZH (e:=.v v) h hf⟩
 ·rename_i e hp;exact⟨e.val,λw _=>dD (w:=w) hg hf hp,ZH (e:=e) h hf⟩
 ·rename_i k n hp;unfold eF at h;exact⟨_,λw _=>dD (w:=w) hg hf hp,ZH (e:=.v (.int k n)) h hf⟩
 ·rename_i p k n hp;unfold gM at h;exact⟨_,λw _=>dD (w:=w) hg hf hp h.1,ZH (e:=.v (.int k n)) h.2 hf⟩
 ·rename_i p v hp;unfold j6 at h;exact⟨_,λw _=>dD (w:=w) hg hf hp h.1,ZH (e:=.v v) h.2 hf⟩
 ·obtain⟨dst,op,ty,pos,aft,gd⟩:=o;simp only at h KV ⊢;split at h
  ·rename_i t x;split at h
   ·rename_i r p hr hx;have e1:=hf.ev hx;split at h
    ·rename_i hd;unfold ug at h;obtain⟨v,hv,hk⟩:=h;refine⟨v,λw hw=>?_,ZH (e:=.v v) hk hf⟩;simp[execOp,e1,Instr.loadAt,Instr.sureAddr,loadVar,nZ hg hr,hd,hv w hw]
    ·rename_i hd;unfold ui at h;obtain⟨vs,hl,hv,hk⟩:=h;refine⟨.agg vs.toArray,λw hw=>?_,ZH (e:=.v (.agg vs.toArray)) hk hf⟩;have h2:=run_loadCells_list (P:=c.g.P) (w:=w) p vs (hv w hw);rw[hl] at h2;simp[execOp,e1,Instr.loadAt,Instr.sureAddr,loadVar,nZ hg hr,hd,run_sizeOf hg hr,h2]
   ·exact KV h
  ·rename_i t x ix;split at h
   ·rename_i e b n k i hr hx hi;split at h
    ·rename_i r Zc;unfold WU at h;obtain⟨p,rfl,h0,h1,hk⟩:=h;have e1:=hf.ev hx;have e2:=hf.ev hi;refine⟨.pointer (some (p.add (i.toNat*r.sz))),λw _=>?_,ZH (e:=.v _) hk hf⟩;simp[execOp,e1,e2,Instr.indexAt,asIntOf,Wp hg hr,run_sizeOf hg Zc,h0,h1]
    ·exact KV h
   ·rename_i n e p k i hr hx hi;split at h
    ·rename_i r Zc;unfold WU at h;obtain⟨p',hp,h0,h1,hk⟩:=h;cases hp;have e1:=hf.ev hx;have e2:=hf.ev hi;refine⟨.pointer (some (p.add (i.toNat*r.sz))),λw _=>?_,ZH (e:=.v _) hk hf⟩;simp[execOp,e1,e2,Instr.indexAt,Instr.sureAddr,asIntOf,Wp hg hr,run_sizeOf hg Zc,h0,h1]
    ·exact KV h
   ·exact KV h
  ·rename_i t x ix;split at h
   ·rename_i s k i hr hx hi;unfold fH at h;obtain⟨b,h0,h1,hk⟩:=h;have e1:=hf.ev hx;have e2:=hf.ev hi;refine⟨.int .u8 b.toNat,λw _=>?_,ZH (e:=.v _) hk hf⟩;simp[execOp,e1,e2,Instr.index,asIntOf,Wp hg hr,h0,h1]
   ·exact KV h
  ·exact KV h
theorem BX (hg:c.g.Ok){md:Region.Mode}{ops:List Oper}{C:World->Prop}{Q:Exit->Act->World->Prop}{n:Nat}(hs:Region.noSelect ops.toArray=true)(hk:ki md ops.toArray n){K:Env->World->Prop}:
  ∀(l:List (Bool×Nat)) (listed:Array Bool) (S:Env) (a:Act) (w:World),HeadInv md ops.toArray n listed->eL md ops.toArray n l listed=true->lH c ops C l S w K->Fits c.N S a->C w->
  Yr c.g.P md ops.toArray (NoPan Q) C n (λJw a' w'=>Region.seqB md ops.toArray (ops.toArray.size-n) n Jw=true/\∃S',Fits c.N S' a'/\K S' w') l.length listed a w
 | [],listed,S,a,w,inv,hB,h,hf,hC=>⟨hB,S,hf,h⟩
 | (true,k)::l,listed,S,a,w,inv,hB,h,hf,hC=>by
  simp only[eL,Z9] at hB;obtain⟨⟨⟨Xk,hr⟩,iw⟩,Vb⟩:=hB;have Xk:k<n:=by rw[iM] at Xk;exact Xk
  have Q5:k∈Region.ready md ops.toArray listed:=by simpa using hr
  obtain⟨_,o,ho,_⟩:=mem_ready.1 Q5;have hn:Vg ops k=some o:=by rw[gP];simpa using ho
  simp only[lH,hn] at h;have key:∃v,YieldsIf c.g.P ops.toArray C o v a/\∃S',Fits c.N S' (a.put o.dst v)/\lH c ops C l S' w K:=by
   rcases kj h hf with⟨hw,S1,Zp,h1⟩ | ⟨hw,S1,Zp,h1⟩
   ·obtain⟨v,h2,h3⟩:=xB hg h1 Zp;exact⟨v,.inl ⟨hw,h2⟩,h3⟩
   ·exact⟨undef,.inr ⟨hw,rfl⟩,ZH (e:=.v undef) h1 Zp⟩
  obtain⟨v,hy,S',Q1,h'⟩:=key;exact GJ ho (Region.noSelect_spec hs) hk Xk (λJw a' w' hL=>seqB_ready hL.1) l.length listed a w inv (Region.free_spec ho iw) Q5 hy hC
   (BX hg hs hk l _ S' _ w (inv.set Q5 Xk) Vb h' Q1 hC)
 | (false,k)::l,listed,S,a,w,inv,hB,h,hf,hC=>by
  simp only[eL,Z9,VX] at hB;obtain⟨⟨Xk,hr⟩,Vb⟩:=hB;have Xk:k<n:=by rw[iM] at Xk;exact Xk
  have Q5:k∈Region.ready md ops.toArray listed:=by rw[hr];simp
  obtain⟨_,o,ho,_⟩:=mem_ready.1 Q5;have hn:Vg ops k=some o:=by rw[gP];simpa using ho
  simp only[lH,hn] at h;have fq:=inv.set Q5 Xk;refine⟨λh0=>(by rw[hr] at h0;cases h0),λi hi=>?_⟩;rw[hr] at hi;have Ao:i=k:=by simpa using hi
  subst Ao;refine⟨Xk,?_⟩;unfold wpOp;simp only[ho];rcases kj h hf with⟨hw,S1,Zp,h1⟩ | ⟨hw,S1,Zp,h1⟩
  ·rw[Qf hw];refine .inl ?_;have h2:=qZ hg h1 Zp;have h3:=Oper.wp_mono (K':=λa' w'=>C w'/\Yr c.g.P md ops.toArray (NoPan Q) C n (λJw a' w'=>Region.seqB md ops.toArray (ops.toArray.size-n) n Jw=true/\∃S',Fits c.N S' a'/\K S' w') l.length (listed.setIfInBounds i true) a' w')
    (λa' w' ⟨S',Q1,ZZ,YX⟩=>⟨ZZ,BX hg hs hk l _ S' a' w' fq Vb YX Q1 ZZ⟩) h2
   unfold Oper.wp at h3 ⊢;generalize (execOp a.eval o).run c.g.P w=r at*;cases r with
   | ok nx w'=>
    cases nx<;>simp only[Oper.upon] at h3 ⊢ <;> try exact h3
    exact h3.mono λe Vq he=>by
     cases e with
     | returned v=>exact he
     | panicked ch=>obtain⟨_,_,he⟩:=he;exact he.elim
     | outgrown=>obtain⟨_,_,_,_,he⟩:=he;exact he.elim
   | halt x w'=>cases x<;>simp only[Oper.upon] at h3 ⊢ <;> first | exact h3 | (obtain⟨_,_,h3⟩:=h3;exact h3.elim)
  ·rw[if_neg (by rw[hw];decide)];obtain⟨S',Q1,h'⟩:=ZH (e:=.v undef) h1 Zp;exact⟨hC,BX hg hs hk l _ S' _ w fq Vb h' Q1 hC⟩
theorem eQp {o:Oper}{C:World->Prop}{K:Env->Prop}{v:Value}(h:∀a w,Fits c.N S a->C w->(execOp a.eval o).run c.g.P w= .ok (.value v) w)(k:Xf c S o.dst (.v v) K):dF c o S C K:=by
 unfold dF;exact⟨v,h,k⟩
theorem XR (hg:c.g.Ok){id:Nat}{ops:List Oper}{w:World}{Q:Zs}(C:World->Prop)(n:Nat)(plan:List (Bool×Nat))
  (hB:(Region.noSelect ops.toArray&&Nat.beq plan.length n&&rm .any ops.toArray n&&eL .any ops.toArray n plan (Array.replicate ops.toArray.size false))=true) (hC:C w.drew)
  (h:lH {c with named:=1000000} ops C plan S w.drew (λS w=>YJ c ops (ops.drop n) S w (λS w=>Q .normal S w) (λ_ _ _=>False))):WV c id ops S w Q:=by
 unfold WV;intro a hf;simp only[Z9] at hB;obtain⟨⟨⟨hs,hl⟩,bJ⟩,JF⟩:=hB;have hl:=VW hl;have hk:=xA bJ;have Fo:n<=ops.length:=by
  rcases hk with hk | hk
  ·rw[hk];simp
  ·have:=hk.1;simp at this;omega
 refine Code.wp_mono NoPan.imp (wp_region_any hg.mixed ?_);have mJ:HeadInv .any ops.toArray n (Array.replicate ops.toArray.size false):=
  ⟨by simp,λj oj _ hl=>(by rw[getD_replicate_false] at hl;cases hl),λt _ ht=>getD_in (by simpa using ht) (getD_replicate_false _ _)⟩
 have H:=BX (c:={c with named:=1000000}) hg (Q:=Up c Q) hs hk plan _ S a _ mJ JF h hf hC;have Yb:(ops.drop n).length=ops.toArray.size-n:=by simp
 have H2:=uq (Q:=NoPan (Up c Q)) (g:=ops.toArray.size-n) (λJw a' w' hL=>by
  obtain⟨hq,S',Q1,YX⟩:=hL;have h2:=j8 (c:=c) hg ops _ _ _ _ YX Q1;have:=wpAny_of_seq (P:=c.g.P) (md:=.any) (ops:=ops.toArray) (Q':=NoPan (Up c Q)) (ops.drop n) n Jw a' w' (λj=>by simp) (by rw[Yb];exact hq) (lG (λe a w hq=>by
   cases e with
   | normal=>exact hq
   | _=>exact Xc hq (by rintro⟨_,_,h⟩;exact h)) h2)
  rwa [Yb] at this) _ _ _ _ H
 rw[hl,show n+(ops.toArray.size-n)=ops.toArray.size by simp;omega] at H2;exact H2
end
end
section
theorem Rw (cs:List Nat){c:Cx}{S:Env}{w:World}{Q:Zs}(hg:c.g.Ok){x y:Code}(R:World->Prop)
  (hx:ao (fI x) S [] (λS0=>VG {c with cuts:=cs} x S w (λe S2 w2=>match e with
   | .normal=>Has S0 S2/\R w2
   | e=>Q e S2 w2)))
  (hy:ao (fI x) S [] (λS0=>∀w',R w'->VG c y S0 w' Q)):lw c (.seq x y) S w Q:=by
 rw[BP] at hx hy;unfold lw;intro a hf;refine wp_seq (wp_mono (j9 (c:={c with cuts:=cs}) hg x S w _ a hx hf) (λe a2 w2 hq=>?_));obtain⟨S2,Z5,hq⟩:=hq;cases e with
 | normal=>exact j9 hg y _ w2 Q a2 (hy w2 hq.2) (hq.1.fits Z5)
 | exit i=>exact⟨S2,Z5,hq⟩
 | goto l=>exact⟨S2,Z5,hq⟩
 | ret=>exact⟨S2,Z5,hq⟩
 | panic ch=>exact⟨S2,Z5,hq⟩
 | outgrown=>exact⟨S2,Z5,hq⟩
theorem BY {a:Addr}{n j:Nat}{i:Int}{K:Addr->Prop}(hi:i=j)(hj:j<n)(k:K (a.add j)):WU (some a) n i 1 K:=by subst hi;exact index hj k
theorem named {a b:String}{K:Prop}(h:a=b)(k:K):P5 a b K:=by unfold P5;exact⟨h,k⟩
theorem new {w:World}{t:TypeId}{cs:List Value}{K:Addr->World->Prop}(k:∀w1,Ext w w1->w1.heap.size=w.heap.size+1->Blk w1 w.heap.size t cs->K ⟨w.heap.size,0,none⟩ w1):qR w t cs K:=by
 unfold qR;exact k _ (Ext.alloc w _) (by simp) (Blk.new w t cs)
theorem add_add (a:Addr)(n m:Nat):(a.add n).add m=a.add (n+m):=by
 unfold Addr.add;split
 ·rename_i h;subst h;simp
 ·split
  ·rename_i h1 h2;subst h2;simp[h1]
  ·rename_i h1 h2;simp[h1,lq]
theorem Rx:∀(vs cs:List Value),vs.length<=cs.length->xm vs cs=vs++cs.drop vs.length
 | [],_,_=>rfl
 | v::vs,[],h=>by simp at h
 | v::vs,c::cs,h=>by
  show v::xm vs cs=_;rw[Rx vs cs (by simpa using h)]<;>rfl
theorem kn:∀(n:Nat)(vs cs:List Value),n+vs.length<=cs.length->Vs n vs cs=cs.take n++vs++cs.drop (n+vs.length)
 | 0,vs,cs,h=>by
  have e:Vs 0 vs cs=xm vs cs:=by cases cs<;>rfl
  rw[e,Rx vs cs (by omega)];simp
 | n+1,vs,[],h=>by simp at h
 | n+1,vs,c::cs,h=>by
  show c::Vs n vs cs=_;rw[kn n vs cs (by simp at h;omega)];rw[show n+1+vs.length=(n+vs.length)+1 by omega];simp
theorem Ry:∀(n:Nat)(vs cs:List Value),n+vs.length<=cs.length->(Vs n vs cs).length=cs.length:=λn vs cs h=>by
 rw[kn n vs cs h];simp;omega
theorem ko {P:Program}{w:World}{g t:Nat}{cs vs:List Value}{j:Nat}{K:World->Prop}(h:Blk w g t cs)(hj:j+vs.length<=cs.length)(iz:∀u∈vs,JS u=true)
  (k:∀w1,w.grownBy w1 (some g)->w1.heap.size=w.heap.size->Blk w1 g t (Vs j vs cs)->K w1):nW P w ((⟨g,0,none⟩:Addr).add j) vs K:=by
 unfold nW;have bH:=run_storeCells_at P g j t vs 0 cs.toArray w h (by simpa using hj) (λu hu=>BV (iz u hu));rw[rh];refine⟨_,bH,?_⟩;refine k _ ⟨rfl,rfl,rfl,by simp,λi _ hi=>setRow_other w g i _ (λe=>hi (by rw[e]))⟩ (by simp) ?_;have:=setRow_heap w g cs.toArray (cs.toArray.toList.take (j+0)++vs++cs.toArray.toList.drop (j+0+vs.length)).toArray t _ h;unfold Blk;rw[this,kn j vs cs hj]<;>rfl
theorem Qv {P:Program}{w:World}{g t:Nat}{cs vs:List Value}{K:World->Prop}(h:Blk w g t cs)(hl:vs.length=cs.length)(iz:∀u∈vs,JS u=true)
  (k:∀w1,w.grownBy w1 (some g)->w1.heap.size=w.heap.size->Blk w1 g t vs->K w1):nW P w ⟨g,0,none⟩ vs K:=by
 have:=ko (P:=P) (j:=0) (K:=K) h (by omega) iz (λw1 h1 h2 h3=>k w1 h1 h2 (by
  rw[kn 0 vs cs (by omega),hl] at h3;simpa using h3))
 simpa [Addr.add] using this
theorem eM {w:World}{g t:Nat}{cs vs:List Value}{j n:Nat}{K:List Value->Prop}(h:Blk w g t cs)(hn:vs.length=n)(hv:∀i v,vs[i]? =some v->cs[j+i]? =some v)(k:K vs):lv w ((⟨g,0,none⟩:Addr).add j) n K:=by
 unfold lv;exact⟨vs,hn,λi v hi=>by rw[add_add,h.cell];exact hv i v hi,k⟩
theorem Qt {w:World}{g t:Nat}{cs:List Value}{n:Nat}{K:List Value->Prop}(h:Blk w g t cs)(hn:cs.length=n)(k:K cs):lv w ⟨g,0,none⟩ n K:=by
 have:=eM (j:=0) (vs:=cs) (K:=K) h hn (λi v hi=>by simpa using hi) k;simpa [Addr.add] using this
theorem Qz {w:World}{g t:Nat}{cs:List Value}{v:Value}{K:Value->Prop}(h:Blk w g t cs)(hv:cs[0]? =some v)(k:K v):iP w ⟨g,0,none⟩ K:=by
 have:=Qo (j:=0) (K:=K) h hv k;simpa [Addr.add] using this
theorem eQq {w:World}{g t:Nat}{cs:List Value}{v:Value}{K:World->Prop}(h:Blk w g t cs)(hj:0<cs.length)(k:∀w1,w.grownBy w1 (some g)->Blk w1 g t (cs.set 0 v)->K w1):fG w ⟨g,0,none⟩ v K:=by
 have:=xx (j:=0) (v:=v) (K:=K) h hj k;simpa [Addr.add] using this
section
variable {α:Type} {f:α->List Value} {sz:Nat}
theorem eN (hf:∀x,(f x).length=sz):∀(l:List α),(l.flatMap f).length=l.length*sz
 | []=>by simp
 | x::l=>by simp[hf,eN hf l,gH,Bj]
theorem kr (hf:∀x,(f x).length=sz):∀(l:List α)(j:Nat)(x:α)(i:Nat)(v:Value),l[j]? =some x->(f x)[i]? =some v->(l.flatMap f)[j*sz+i]? =some v
 | [],j,x,i,v,h,_=>by simp at h
 | y::l,0,x,i,v,h,hi=>by
  simp at h;subst h;have:i<(f y).length:=(Jd.1 hi).1;rw[Vf,gI (by simpa using this)];simpa using hi
 | y::l,j+1,x,i,v,h,hi=>by
  rw[Vf,aS (by rw[hf];rw[gH];omega),hf];rw[show(j+1)*sz+i-sz=j*sz+i by rw[gH];omega];exact kr hf l j x i v (by simpa using h) hi
theorem Rz (hf:∀x,(f x).length=sz):∀(l:List α)(n:Nat),(l.take n).flatMap f=(l.flatMap f).take (n*sz)
 | [],n=>by simp
 | y::l,0=>by simp
 | y::l,n+1=>by
  rw[fy,Vf,Vf,Rz hf l n,gH,Bj,qF,hf];rw[ZS (show(f y).length<=sz+n*sz by rw[hf];omega)];rw[show sz+n*sz-sz=n*sz by omega]
def SlS (f:α->List Value)(sz:Nat)(w:World)(A:Option Addr)(n c:Nat)(l:List α):Prop:=Sl w sz A n c (l.flatMap f)/\l.length=n
theorem SlS.len {w:World}{A:Option Addr}{n c:Nat}{l:List α}(h:SlS f sz w A n c l):l.length=n:=h.2
theorem SlS.ext {w w':World}{A:Option Addr}{n c:Nat}{l:List α}(h:SlS f sz w A n c l)(k:Ext w w'):SlS f sz w' A n c l:=⟨h.1.ext k,h.2⟩
theorem SlS.nil (w:World):SlS f sz w none 0 0 []:=⟨Sl.nil w sz,rfl⟩
theorem SlS.cell (hf:∀x,(f x).length=sz){w:World}{A:Option Addr}{n c:Nat}{l:List α}(h:SlS f sz w A n c l){j:Nat}{x:α}(hj:l[j]? =some x):
  ∃ad,A=some ad/\∀i v,(f x)[i]? =some v->w.cell? ((ad.add (j*sz)).add i)=some v:=by
 have Xa:j<l.length:=(Jd.1 hj).1;obtain⟨ad,rfl,hc⟩:=h.1.at_ (by have:=h.2;omega);exact⟨ad,rfl,λi v hi=>by rw[add_add];exact hc _ _ (kr hf l j x i v hj hi)⟩
theorem Zt (hf:∀x,(f x).length=sz){w:World}{A:Option Addr}{n c:Nat}{l:List α}{i:Int}{j:Nat}{K:Addr->Prop}(h:SlS f sz w A n c l)(hi:i=j)(hj:j<n)
  (k:∀p x,l[j]? =some x->(∀i v,(f x)[i]? =some v->w.cell? (p.add i)=some v)->K p):WU A n i sz K:=by
 subst hi;have Xa:j<l.length:=by rw[h.2];exact hj
 have hx:l[j]? =some l[j]:=Xu Xa;obtain⟨ad,rfl,hc⟩:=h.cell hf hx;unfold WU;exact⟨ad,rfl,by omega,by omega,by simpa using k _ _ hx hc⟩
theorem Jz {w:World}{p:Addr}{vs:List Value}{n:Nat}{K:List Value->Prop}(hn:vs.length=n)(h:∀i v,vs[i]? =some v->w.cell? (p.add i)=some v)(k:K vs):lv w p n K:=by
 unfold lv;exact⟨vs,hn,h,k⟩
end
theorem eQr {P:Program}{w w1:World}{t ty e:TypeId}{i:TypeInfo}{z:Value}{bytes base n m cc sz:Nat}{v v':Value}{xs ys:List Value}(ht:P.underlying t=some (.slice e))(hi:P.info? e=some i)(hz:i.zero=some z)(hs:i.size=sz)(du:i.bytes=bytes)
  (WI:w.ownsRow base e sz v n xs) (b:Addr) (hm:0<m) (hl:ys.length=m*sz) (Xq:∀j u,ys[j]? =some u->w.cell? (b.add j)=some u) (h1:∀u∈ys,u.oneCell'=true) (jm:n+m<=maxLen) (Ov:(n+m)*bytes<=140737488355328)
  (Jm:(Builtin.append_ #[t,t] ty #[v,.slice (some b) m cc]).run P w= .ok v' w1):∀g',v'.ownBlock=some g'->v.ownBlock=some g'∨w.heap.size<=g':=by
 intro g' Yc;subst du;have qQk:n+m<=9223372036854775807:=by simp only[maxLen] at jm;omega
 rcases WI.2 with⟨rfl,rfl⟩ | ⟨g,cap,ZR,rfl,hbg,hg,p9,nu,XN,tj⟩
 ·have hr:=run_append_nil (P:=P) w t ty e i z ht hi hz b m cc ys (by rw[hl,hs]) Xq (by omega) (by omega) (by have hb:=Ov;simp only[WQ] at hb;omega);rw[hr] at Jm;cases Jm;simp[Value.ownBlock] at Yc;exact .inr (by omega)
 ·by_cases Fp:n+m<=cap
  ·have hr:=run_append_room (P:=P) w t ty e i ht hi g n cap ZR hg b m cc ys (by rw[hl,hs]) Xq h1 Fp (by rw[hl,hs,XN,<-lr];exact WN _ Fp);rw[hr] at Jm;cases Jm;exact .inl Yc
  ·have holds:∀j u,xs[j]? =some u->w.cell? ((⟨g,0,none⟩:Addr).add j)=some u:=WI.cells (g:=g) rfl
   have hr:=run_append_grow (P:=P) w t ty e i z ht hi hz ⟨g,0,none⟩ n cap xs (by rw[hs];exact WI.1) holds b m cc ys (by rw[hl,hs]) Xq (by omega) (by omega) (growslice_fits (by omega) Ov);rw[hr] at Jm;cases Jm;simp[Value.ownBlock] at Yc;exact .inr (by omega)
theorem eQs {c:Cx}(hg:c.g.Ok){o:Oper}{S:Env}{w:World}{K:Env->World->Prop}{Q:Zs}{t t2 e sz:Nat}{x y:Operand}{A B:Option Addr}{n cp:Nat}{m c2:Nat}{xs ys:List Value}{base:Nat}{r re r2:TyRow}
  (ho:o.op= .call ⟨.builtin .append, #[x,y], #[t,t2]⟩) (hr:Q0 c.g.tys t=some r) (hd:r.d= .slice e) (Zc:Q0 c.g.tys e=some re) (hs:re.sz=sz) (Lv:0<sz) (kZ:re.z.cells.size=sz) (WA:Q0 c.g.tys t2=some r2) (br:∃e2,r2.d= .slice e2)
  (hx:S.ev x=some (.slice A n cp)) (hy:S.ev y=some (.slice B m c2)) (WI:Own w base e sz A n cp xs) (iy:Sl w sz B m c2 ys) (iz:∀u∈ys,JS u=true)
  (jm:n+m<=maxLen) (du:(n+m)*re.by_<=140737488355328) (tk:base<=w.heap.size)
  (k:∀A' c' w1,w.grownBy w1 (Value.slice A n cp).ownBlock->Own w1 base e sz A' (n+m) c' (xs++ys)->(∀ad,A'=some ad->A=some ad∨w.heap.size<=ad.block)->Xf c S o.dst (.v (.slice A' (n+m) c')) (λS=>K S w1)):Zh c o S w K Q:=by
 obtain⟨_,i,hi,XQ,pX,dv⟩:=hg.row Zc;have Q5:=(hg.row hr).1;rw[hd] at Q5;obtain⟨e2,br⟩:=br;have vI:=(hg.row WA).1;rw[br] at vI;have QZ:ys.length=m*sz:=iy.len;unfold Zh;intro a hf;have e1:=hf.ev hx;have yM:=hf.ev hy;have key:∃v' w1,(Builtin.append_ #[t,t] o.type #[.slice A n cp,.slice B m c2]).run c.g.P w= .ok v' w1/\w1.ownsRow base e sz v' (n+m) (xs++ys)/\w.grownBy w1 (Value.slice A n cp).ownBlock/\(∀g',v'.ownBlock=some g'->(Value.slice A n cp).ownBlock=some g'∨w.heap.size<=g'):=by
  by_cases h0:m=0
  ·subst h0;have Aq:ys=[]:=WO (by omega);subst Aq;have ZF:n<=cp:=WI.sl.le;refine⟨.slice A n cp,w,?_,by simpa using WI.row,⟨rfl,rfl,rfl,QB _,λ_ _ _=>rfl⟩,λ_ h=>.inl h⟩;cases A<;>cases B<;>simp[Builtin.append_,Ja Q5,sizeOf,typeInfo,hi,Builtin.lenOf,ZF,Builtin.firstCells,loadCells,loadCellsFrom,storeCells]
  ·obtain⟨b,rfl,Xq⟩:=iy.at_ (by omega);obtain⟨v',w1,Jm,Km,ti,_⟩:=run_append_own (P:=c.g.P) (w:=w) base t o.type e i re.z sz re.by_ Q5 hi dv (by rw[XQ,hs]) pX kZ Lv _ n xs WI.row b m c2 ys QZ Xq (λu hu=>BV (iz u hu)) jm du tk;exact⟨v',w1,Jm,Km,ti,eQr Q5 hi dv (by rw[XQ,hs]) pX WI.row b (by omega) QZ Xq (λu hu=>BV (iz u hu)) jm du Jm⟩
 obtain⟨v',w1,Jm,Km,ti,Ow⟩:=key;obtain⟨A',c',rfl,Ox⟩:=qQ0 Km;have Oy:∀ad,A'=some ad->A=some ad∨w.heap.size<=ad.block:=λad e=>by
  subst e;rcases Ow ad.block rfl with h | h
  ·left
   rcases WI.row.2 with⟨hv,_⟩ | ⟨g,cap,ZR,hv,_⟩
   ·cases hv;simp[Value.ownBlock] at h
   ·cases hv;rcases Km.2 with⟨hv,_⟩ | ⟨g2,mQy,mQz,Kr,_⟩
    ·cases hv
    ·cases Kr;simp[Value.ownBlock] at h;rw[h]
  ·exact .inr h
 refine cJ (v:=.slice A' (n+m) c') (w':=w1) ?_ (ZH (e:=.v _) (k A' c' w1 ti Ox Oy) hf);have oQC:(Builtin.append_ #[t,t2] o.type #[.slice A n cp,.slice B m c2]).run c.g.P w=(Builtin.append_ #[t,t] o.type #[.slice A n cp,.slice B m c2]).run c.g.P w:=by
  simp[Builtin.append_,Ja Q5,Ja vI]
 simp only[execOp,ho,resolve,invoke];simp[builtin,e1,yM,oQC,Jm]
theorem eQt {P:Program}{w w1:World}{t u ty e:TypeId}{i:TypeInfo}{base n:Nat}{v v':Value}{xs:List Value}(ht:P.underlying t=some (.slice e))(hu:P.underlying u=some .string)(hi:P.info? e=some i)(hz:i.zero=some (.int .u8 0))(hs:i.size=1)(du:i.bytes=1)
  (WI:w.ownsRow base e 1 v n xs) (s:ByteArray) (Ov:n+s.size<=140737488355328)
  (Jm:(Builtin.append_ #[t,u] ty #[v,.string s]).run P w= .ok v' w1):∀g',v'.ownBlock=some g'->v.ownBlock=some g'∨w.heap.size<=g':=by
 intro g' Yc;have iA:xs.length=n:=by simpa using WI.1
 rcases WI.2 with⟨rfl,rfl⟩ | ⟨g,cap,ZR,rfl,hbg,hg,p9,nu,XN,tj⟩
 ·by_cases hm:s.size=0
  ·have hf:=Lib.run_firstCells_string (P:=P) w 1 s;rw[hm] at hf;have:(Builtin.append_ #[t,u] ty #[.slice none 0 0,.string s]).run P w= .ok (.slice none 0 0) w:=by
    simp[Builtin.append_,Ja ht,Ja hu,sizeOf,typeInfo,hi,hs,Builtin.lenOf,hm,hf]
   rw[this] at Jm;cases Jm;simp[Value.ownBlock] at Yc
  ·have hr:=run_append_nil_string (P:=P) w t u ty e i (.int .u8 0) ht hu hi hz s (by omega) (by omega) (by rw[du];omega);rw[hr] at Jm;cases Jm;simp[Value.ownBlock] at Yc;exact .inr (by omega)
 ·by_cases Fp:n+s.size<=cap
  ·have qQl:ZR.size=cap:=by simpa using XN
   have hr:=Lib.run_append_room_string (P:=P) w t u ty e i ht hu hi hs g n cap ZR hg s Fp (by omega);rw[hr] at Jm;cases Jm;exact .inl Yc
  ·have holds:∀j u,xs[j]? =some u->w.cell? ((⟨g,0,none⟩:Addr).add j)=some u:=WI.cells (g:=g) rfl
   have hr:=Lib.run_append_grow_string (P:=P) w t u ty e i (.int .u8 0) ht hu hi hz ⟨g,0,none⟩ n cap xs (by rw[hs];simpa using iA) holds s (by omega) (by omega) (by rw[du];exact growslice_fits (by omega) (by omega));rw[hr] at Jm;cases Jm;simp[Value.ownBlock] at Yc;exact .inr (by omega)
theorem eQu {c:Cx}(hg:c.g.Ok){o:Oper}{S:Env}{w:World}{K:Env->World->Prop}{Q:Zs}{t t2 e:Nat}{x y:Operand}{A:Option Addr}{n cp:Nat}{s:ByteArray}{xs:List Value}{base:Nat}{r re r2:TyRow}
  (ho:o.op= .call ⟨.builtin .append, #[x,y], #[t,t2]⟩) (hr:Q0 c.g.tys t=some r) (hd:r.d= .slice e) (Zc:Q0 c.g.tys e=some re) (hs:re.sz=1) (kZ:re.z= .int .u8 0) (Fq:re.by_=1) (WA:Q0 c.g.tys t2=some r2) (br:r2.d= .string)
  (hx:S.ev x=some (.slice A n cp)) (hy:S.ev y=some (.string s)) (WI:Own w base e 1 A n cp xs)
  (jm:n+s.size<=140737488355328) (tk:base<=w.heap.size)
  (k:∀A' c' w1,w.grownBy w1 (Value.slice A n cp).ownBlock->Own w1 base e 1 A' (n+s.size) c' (xs++Lib.strCells s)->(∀ad,A'=some ad->A=some ad∨w.heap.size<=ad.block)->Xf c S o.dst (.v (.slice A' (n+s.size) c')) (λS=>K S w1)):Zh c o S w K Q:=by
 obtain⟨_,i,hi,XQ,pX,dv⟩:=hg.row Zc;have Q5:=(hg.row hr).1;rw[hd] at Q5;have vI:=(hg.row WA).1;rw[br] at vI;unfold Zh;intro a hf;have e1:=hf.ev hx;have yM:=hf.ev hy;obtain⟨v',w1,Jm,Km,ti,_⟩:=Lib.run_append_own_string (P:=c.g.P) (w:=w) base t t2 o.type e i Q5 vI hi (by rw[dv,kZ]) (by rw[XQ,hs]) (by rw[pX,Fq]) _ n xs WI.row s (by unfold maxLen;omega) jm tk;have Ow:=eQt Q5 vI hi (by rw[dv,kZ]) (by rw[XQ,hs]) (by rw[pX,Fq]) WI.row s jm Jm;obtain⟨A',c',rfl,Ox⟩:=qQ0 Km;have Oy:∀ad,A'=some ad->A=some ad∨w.heap.size<=ad.block:=λad e=>by
  subst e;rcases Ow ad.block rfl with h | h
  ·left
   rcases WI.row.2 with⟨hv,_⟩ | ⟨g,cap,ZR,hv,_⟩
   ·cases hv;simp[Value.ownBlock] at h
   ·cases hv;rcases Km.2 with⟨hv,_⟩ | ⟨g2,mQy,mQz,Kr,_⟩
    ·cases hv
    ·cases Kr;simp[Value.ownBlock] at h;rw[h]
  ·exact .inr h
 refine cJ (v:=.slice A' (n+s.size) c') (w':=w1) ?_ (ZH (e:=.v _) (k A' c' w1 ti Ox Oy) hf);simp only[execOp,ho,resolve,invoke];simp[builtin,e1,yM,Jm]
def GK:Nat->List (List Value)->List (Nat×Value)->Prop
 | _,[],[]=>True
 | n,cs::l,(i,v)::r=>i=n/\Kb v=cs/\GK (n+1) l r
 | _,_,_=>False
theorem RB {sz:Nat}{z:List Value}(hz:z.length=sz):∀(parts:List (Nat×Value))(n:Nat)(l:List (List Value))(pre:List Value),GK n l parts->(∀cs∈l,cs.length=sz)->pre.length=n*sz->
  Instr.fill (λi=>some (i*sz,sz)) (pre++(List.replicate l.length z).flatten).toArray parts=some (pre++l.flatten).toArray
 | [],n,[],pre,_,_,_=>by simp[Instr.fill]
 | [],n,_::_,pre,h,_,_=>h.elim
 | _::_,n,[],pre,h,_,_=>h.elim
 | (i,v)::parts,n,cs::l,pre,h,hl,hp=>by
  obtain⟨rfl,rfl,h'⟩:=h;have hc:(Kb v).length=sz:=hl _ (by simp);have XN:v.cells.size=sz:=by rw[<-hc,<-qW];simp
  have hcond:¬((v.cells.size≠sz||i*sz+v.cells.size>(pre++(List.replicate (Kb v::l).length z).flatten).toArray.size)=true):=by
   rw[XN];simp[hp,PF,hz]
  unfold Instr.fill;simp only;rw[if_neg hcond];have e:(v.cells.zipIdx.foldl (λcs (c,j)=>cs.setIfInBounds (i*sz+j) c) (pre++(List.replicate (Kb v::l).length z).flatten).toArray)=((pre++Kb v)++(List.replicate l.length z).flatten).toArray:=by
   apply Array.ext';rw[Ri,qW,kn _ _ _ (by simp[hp,PF,hz,hc])];simp only[Q2,PF,PG];rw[qF,List.drop_append,hp];simp only[Bk,List.take_zero,KE];rw[ZS (by omega),tU (by omega),bO];rw[show i*sz+(Kb v).length-i*sz=sz by omega,List.drop_append,hz,Bk,tV,tU (by omega)];simp
  rw[e];have:=RB hz parts (i+1) l (pre++Kb v) h' (λcs XN=>hl cs (by simp[XN])) (by rw[Qq,hp,hc,gH]);rw[this];simp
theorem RC (z:List Value)(hz:0<z.length):∀(n:Nat),(List.range (n*z.length)).map (λj=>z.toArray[j % z.length]!)=(List.replicate n z).flatten
 | 0=>by simp
 | n+1=>by
  rw[gH,List.range_add,WR,RC z hz n,List.replicate_succ',List.flatten_append];congr 1;simp only[nP,PG,List.flatten_nil,KE];apply List.ext_getElem
  ·simp
  ·intro i h1 h2;simp at h1;simp[jY h1,h1]
theorem Xg {c:Cx}(hg:c.g.Ok){o:Oper}{S:Env}{w:World}{K:Env->World->Prop}{Q:Zs}{t e n:Nat}{r re:TyRow}{ps:Array (Nat×Operand)}{vs:List (Nat×Value)}(l:List (List Value))
  (ho:o.op= .buildSlice t n ps) (hr:Q0 c.g.tys t=some r) (hd:r.d= .slice e) (Zc:Q0 c.g.tys e=some re) (hv:ue S ps.toList=some vs) (hb:GK 0 l vs) (hn:l.length=n) (hl:∀cs∈l,cs.length=re.sz) (hz:(Kb re.z).length=re.sz) (XQ:0<re.sz) (tm:n*re.sz<=16777216)
  (k:∀w1,Ext w w1->w1.heap.size=w.heap.size+1->Blk w1 w.heap.size e l.flatten->Xf c S o.dst (.v (.slice (some ⟨w.heap.size,0,none⟩) n n)) (λS=>K S w1)):Zh c o S w K Q:=by
 obtain⟨_,i,hi,hsi,pX,dv⟩:=hg.row Zc;have Q5:=(hg.row hr).1;rw[hd] at Q5;subst hn;refine JT (w':=w.alloc (.cells l.flatten.toArray e)) (λa hf=>?_) (k _ (Ext.alloc w _) (by simp) (Blk.new w e l.flatten));have pV:=Gw (ρ:=a.eval) (λx v h=>hf.ev h) _ _ hv;have dQi:(ps.map λ(x:Nat×Operand)=>(x.1,a.eval x.2)).toList=vs:=by rw[PE];exact pV
 have kZ:re.z.cells=(Kb re.z).toArray:=by rw[<-qW]
 have wA:=RB hz vs 0 l [] hb hl (by simp);simp only[bO] at wA;have Fr:=RC (Kb re.z) (by rw[hz];exact XQ) l.length;rw[hz] at Fr;simp only[execOp,ho,Instr.buildSlice];rw[show(ps.map λ(x:Nat×Operand)=>(x.1,a.eval x.2)).toList=vs from dQi];have jl:¬l.length*re.sz>2^24:=by omega
 by_cases h0:l.length=0
 ·have Aq:l=[]:=WO h0;subst Aq;cases vs with
  | cons p vs=>exact hb.elim
  | nil=>simp[Ja Q5,sizeOf,typeInfo,hi,Instr.fill,newRow,Array.range_zero']
 ·have h1:¬(l.length*re.sz=0):=by
   intro h;rcases Nat.mul_eq_zero.1 h with h | h<;>omega
  have Aj:(Array.range (l.length*re.sz)).map (λj=>(Kb re.z).toArray[j % (Kb re.z).toArray.size]!)=(List.replicate l.length (Kb re.z)).flatten.toArray:=by
   apply Array.ext';rw[PE,Array.toList_range];simpa [hz] using Fr
  simp only[Sem.run_bind,Ja Q5,Result.andThen_ok,sizeOf,typeInfo,run_program,hi,Sem.run_pure,hsi,if_neg jl,if_neg h1,zeroValue,dv,kZ];rw[Aj];simp only[wA];simp[newRow]
def ut:TypeDesc->Nat
 | .int _=>0
 | .string=>1
 | .bool=>2
 | _=>1000
structure KeyV {α:Type} [DecidableEq α] (d:TypeDesc) (kv:α->Value):Prop where
 same:∀a b,Instr.sameNow d (kv a) (kv b)=some (decide (a=b))
 bits:∀a n,Instr.sameBits n (kv a) (kv a)=true
 plain:ut d<3
theorem KeyV.int (k:IntKind):KeyV (.int k) (λn:Int=>.int k n):=⟨λa b=>by simp[Instr.sameNow];rfl,λa n=>by cases n<;>simp[Instr.sameBits],by simp[ut]⟩
theorem qQM:KeyV .string (λs:ByteArray=>.string s):=⟨λa b=>by
  simp only[Instr.sameNow,Option.some.injEq];rw[beq_toListBytes,xp],λa n=>by cases n<;>(simp only[Instr.sameBits];rw[beq_toListBytes,xp];simp),by simp[ut]⟩
theorem KeyV.bool:KeyV .bool (λb:Bool=>.bool b):=⟨λa b=>by simp only[Instr.sameNow];cases a<;>cases b<;>rfl,λa n=>by cases n<;>simp[Instr.sameBits],by simp[ut]⟩
def XG {α:Type} [DecidableEq α](a:α):List (α×Value)->Option Value
 | []=>none
 | (b,v)::l=>if a=b then some v else XG a l
def Zo {α:Type} [DecidableEq α](a:α)(v:Value):List (α×Value)->List (α×Value)
 | []=>[(a,v)]
 | (b,u)::l=>if a=b then(b,v)::l else(b,u)::Zo a v l
theorem bR {α:Type} [DecidableEq α](a b:α)(v:Value):∀l,XG b (Zo a v l)=if b=a then some v else XG b l
 | []=>by simp[Zo,XG]
 | (d,u)::l=>by
  simp only[Zo];split
  ·rename_i h;subst h;simp only[XG];split<;>rfl
  ·rename_i h;simp only[XG,bR a b v l];by_cases h1:b=d
   ·subst h1;rw[Qf rfl,if_neg (λe=>h e.symm)];simp
   ·rw[if_neg h1,if_neg h1]
def X2 {α:Type}(kv:α->Value)(m:List (α×Value))(bs:List Nat):List MapEntry:=(m.zip bs).map λp=>{key:=kv p.1.1,val:=p.1.2,born:=p.2}
structure MapAt {α:Type} (kv:α->Value) (w:World) (r:Nat) (m:List (α×Value)):Prop where
 ex:∃bs ck,bs.length=m.length/\w.heap[r]? =some (.map (X2 kv m bs).toArray ck)
theorem MapAt.ext {α:Type}{kv:α->Value}{w w':World}{r:Nat}{m:List (α×Value)}(h:MapAt kv w r m)(k:Ext w w'):MapAt kv w' r m:=by
 obtain⟨bs,ck,hl,hb⟩:=h.ex;exact⟨bs,ck,hl,(k.block r (gF.1 hb).1 (by simp)).trans hb⟩
theorem MapAt.lt {α:Type}{kv:α->Value}{w:World}{r:Nat}{m:List (α×Value)}(h:MapAt kv w r m):r<w.heap.size:=by
 obtain⟨bs,ck,hl,hb⟩:=h.ex;exact(gF.1 hb).1
section
variable {α:Type} [DecidableEq α] {d:TypeDesc} {kv:α->Value}
theorem xC {α:Type}{c:Cx}(_:c.g.Ok){o:Oper}{S:Env}{w:World}{K:Env->World->Prop}{Q:Zs}{t:Nat}(kv:α->Value)(ho:o.op= .makeMap t none)
  (k:∀w1,Ext w w1->w1.heap.size=w.heap.size+1->MapAt kv w1 w.heap.size []->Xf c S o.dst (.v (.map (some w.heap.size))) (λS=>K S w1)):Zh c o S w K Q:=by
 refine JT (w':=w.alloc (.map #[] 0)) (λa hf=>?_) (k _ (Ext.alloc w _) (by simp) ⟨[],0,rfl,heap_alloc_new w _⟩);simp[execOp,ho,Instr.makeMap]
theorem xD {P:Program}{t:TypeId}(hu:P.underlying t=some d)(hd:ut d<3)(b:Bool)(n:Nat)(v:Value)(w:World):(Instr.checkKey b (n+1) t v).run P w= .ok () w:=by
 simp only[Instr.checkKey,Sem.run_bind,Ja hu,Result.andThen_ok];cases d<;>first | (simp[ut] at hd;done) | rfl
theorem GL (hk:KeyV d kv)(a:α):∀(m:List (α×Value))(bs:List Nat)(i:Nat),bs.length=m.length->
  ∃r,Instr.findNow d (kv a) (X2 kv m bs) i=some r/\r.map (·.2)=XG a m/\(∀j v,r=some (j,v)->i<=j/\j<i+m.length/\∀v',X2 kv (Zo a v' m) bs=(X2 kv m bs).modify (j-i) (λe=>{e with key:=kv a,val:=v'})/\((X2 kv m bs)[j-i]?).map (·.key)=some (kv a))/\(r=none->∀v',Zo a v' m=m++ [(a,v')])
 | [],bs,i,h=>⟨none,rfl,rfl,(λj v h=>by cases h),λ_ v'=>rfl⟩
 | (b,u)::m,[],i,h=>by simp at h
 | (b,u)::m,s::bs,i,h=>by
  have e:X2 kv ((b,u)::m) (s::bs)={key:=kv b,val:=u,born:=s}::X2 kv m bs:=rfl;rw[e];unfold Instr.findNow;simp only[hk.same];by_cases Vz:a=b
  ·subst Vz;simp only[decide_true];refine⟨some (i,u),rfl,by simp[XG],λj v hj=>?_,λh=>by cases h⟩;cases hj;refine⟨QB _,by simp,λv'=>?_⟩;simp[Zo,X2]
  ·simp only[Vz,decide_false];obtain⟨r,h1,h2,h3,h4⟩:=GL hk a m bs (i+1) (by simpa using h);refine⟨r,h1,by simp[XG,Vz,h2],λj v hj=>?_,λhn v'=>by simp[Zo,Vz,h4 hn v']⟩;obtain⟨h5,h6,h7⟩:=h3 j v hj;refine⟨by omega,by simp;omega,λv'=>?_⟩;obtain⟨h8,h9⟩:=h7 v';rw[show j-i=(j-(i+1))+1 by omega];refine⟨?_,by simpa using h9⟩;simp only[Zo,Vz,if_false];rw[show X2 kv ((b,u)::Zo a v' m) (s::bs)={key:=kv b,val:=u,born:=s}::X2 kv (Zo a v' m) bs from rfl,h8];simp
variable {c:Cx} (hg:c.g.Ok) {o:Oper} {S:Env} {w:World} {K:Env->World->Prop} {Q:Zs} {t ke e:Nat} {r rk re:TyRow} {x y:Operand} {q:Nat} {m:List (α×Value)} {a:α}
include hg
theorem GN (hr:Q0 c.g.tys t=some r)(hd:r.d= .map ke e)(cv:Q0 c.g.tys ke=some rk)(Zc:Q0 c.g.tys e=some re)(hk:KeyV rk.d kv)(hm:MapAt kv w q m)(ok:Bool):
  (Instr.lookup t (.map (some q)) (kv a) ok).run c.g.P w= .ok (match XG a m with
   | some v=>if ok then .tuple #[v,.bool true] else v
   | none=>if ok then .tuple #[re.z,.bool false] else re.z) w:=by
 have Q5:=(hg.row hr).1;rw[hd] at Q5;have iB:=(hg.row cv).1;obtain⟨_,i,hi,_,_,hz⟩:=hg.row Zc;obtain⟨bs,ck,hl,hb⟩:=hm.ex;obtain⟨res,h1,h2,_,_⟩:=GL hk a m bs 0 hl;have fu:(getObj q).run c.g.P w= .ok (.map (X2 kv m bs).toArray ck) w:=by simp[getObj,Sem.run,hb]
 simp only[Instr.lookup,Sem.run_bind,Ja Q5,Result.andThen_ok,fu];simp only[Sem.run_pure,Result.andThen_ok,xD iB hk.plain,Instr.findKey,Sem.run_bind,Ja iB,h1];cases res with
 | none=>
  have:XG a m=none:=by simpa using h2.symm
  rw[this];cases ok<;>simp[zeroValue,typeInfo,hi,hz]
 | some p=>
  have:XG a m=some p.2:=by simpa using h2.symm
  rw[this];cases ok<;>simp
theorem eQv (ho:o.op= .lookup t x y false)(hr:Q0 c.g.tys t=some r)(hd:r.d= .map ke e)(cv:Q0 c.g.tys ke=some rk)(Zc:Q0 c.g.tys e=some re)(hk:KeyV rk.d kv)
  (hx:S.ev x=some (.map (some q))) (hy:S.ev y=some (kv a)) (hm:MapAt kv w q m) (k:Xf c S o.dst (.v ((XG a m).getD re.z)) (λS=>K S w)):Zh c o S w K Q:=by
 refine JT (w':=w) (v:=(XG a m).getD re.z) (λb hf=>?_) k;have e1:=hf.ev hx;have e2:=hf.ev hy;have:=GN (w:=w) (a:=a) hg hr hd cv Zc hk hm false;simp only[execOp,ho,e1,e2];simp only[Sem.run_bind,this,Result.andThen_ok];cases XG a m<;>simp
theorem eQw (ho:o.op= .lookup t x y true)(hr:Q0 c.g.tys t=some r)(hd:r.d= .map ke e)(cv:Q0 c.g.tys ke=some rk)(Zc:Q0 c.g.tys e=some re)(hk:KeyV rk.d kv)
  (hx:S.ev x=some (.map (some q))) (hy:S.ev y=some (kv a)) (hm:MapAt kv w q m) (k:Xf c S o.dst (.v (.tuple #[(XG a m).getD re.z,.bool (XG a m).isSome])) (λS=>K S w)):Zh c o S w K Q:=by
 refine JT (w':=w) (v:=.tuple #[(XG a m).getD re.z,.bool (XG a m).isSome]) (λb hf=>?_) k;have e1:=hf.ev hx;have e2:=hf.ev hy;have:=GN (w:=w) (a:=a) hg hr hd cv Zc hk hm true;simp only[execOp,ho,e1,e2];simp only[Sem.run_bind,this,Result.andThen_ok];cases XG a m<;>simp
theorem lI {v:Value}{z:Operand}(ho:o.op= .mapUpdate t x y z)(jL:o.dst=none)(hr:Q0 c.g.tys t=some r)(hd:r.d= .map ke e)(cv:Q0 c.g.tys ke=some rk)(hk:KeyV rk.d kv)
  (hx:S.ev x=some (.map (some q))) (hy:S.ev y=some (kv a)) (hz:S.ev z=some v) (hm:MapAt kv w q m)
  (k:∀w1,w.grownBy w1 (some q)->w1.heap.size=w.heap.size->MapAt kv w1 q (Zo a v m)->K S w1):Zh c o S w K Q:=by
 have Q5:=(hg.row hr).1;rw[hd] at Q5;have iB:=(hg.row cv).1;obtain⟨bs,ck,hl,hb⟩:=hm.ex;have Xa:q<w.heap.size:=(gF.1 hb).1;obtain⟨res,h1,h2,h3,h4⟩:=GL hk a m bs 0 hl;have fu:(getObj q).run c.g.P w= .ok (.map (X2 kv m bs).toArray ck) w:=by simp[getObj,Sem.run,hb]
 have gw:∀ob,(setObj q ob).run c.g.P w= .ok () {w with heap:=w.heap.setIfInBounds q ob}:=λob=>by simp[setObj,Sem.run,hb]
 have main:∃ob,(Instr.mapUpdate t (.map (some q)) (kv a) v).run c.g.P w= .ok () {w with heap:=w.heap.setIfInBounds q ob}/\∃aI ck',aI.length=(Zo a v m).length/\ob= .map (X2 kv (Zo a v m) aI).toArray ck':=by
  cases res with
  | none=>
   refine⟨_,?_,bs++ [ck],ck+1,?_,rfl⟩
   ·simp only[Instr.mapUpdate,Sem.run_bind,Ja Q5,Result.andThen_ok,fu,xD iB hk.plain,Instr.findKey,Ja iB,h1,Sem.run_pure,gw];rw[h4 rfl v];congr 4;simp only[X2];rw[List.zip_append hl.symm,WR];simp
   ·rw[h4 rfl v];simp[hl]
  | some p=>
   obtain⟨j,u⟩:=p;obtain⟨_,hj,h7⟩:=h3 j u rfl;obtain⟨h8,h9⟩:=h7 v;simp only[Nat.sub_zero] at h8 h9;have Oz:(((X2 kv m bs).toArray[j]?).map (·.key)).getD (kv a)=kv a:=by
    rw[show(X2 kv m bs).toArray[j]? =(X2 kv m bs)[j]? from by simp,h9]<;>rfl
   refine⟨_,?_,bs,ck,?_,rfl⟩
   ·simp only[Instr.mapUpdate,Sem.run_bind,Ja Q5,Result.andThen_ok,fu,xD iB hk.plain,Instr.findKey,Ja iB,h1,Sem.run_pure,Oz,Instr.keyThatStays,hk.bits,if_true,gw];rw[h8];congr 4;simp
   ·have:=QC List.length h8;simp only[X2,JL,List.length_zip,List.length_modify] at this;have QZ:(Zo a v m).length=m.length:=by
     have pY:∀(m:List (α×Value)),(XG a m).isSome->(Zo a v m).length=m.length:=by
      intro m;induction m with
      | nil=>intro h;simp[XG] at h
      | cons p m ih=>
       obtain⟨b,x⟩:=p;intro h;simp only[Zo];split
       ·simp
       ·rename_i Vz;simp[ih (by simpa [XG,Vz] using h)]
     exact pY m (by rw[<-h2];rfl)
    rw[QZ,hl]
 obtain⟨ob,Jm,aI,ck',ep,rfl⟩:=main;unfold Zh;intro b hf;have e1:=hf.ev hx;have e2:=hf.ev hy;have e3:=hf.ev hz;unfold Oper.wp;have:(execOp b.eval o).run c.g.P w= .ok .skip {w with heap:=w.heap.setIfInBounds q (.map (X2 kv (Zo a v m) aI).toArray ck')}:=by
  simp only[execOp,ho,e1,e2,e3];simp[Jm]
 rw[this];refine⟨S,by rw[jL];simpa [Act.put] using hf,k _ ⟨rfl,rfl,rfl,by simp,λi _ hi=>?_⟩ (by simp) ⟨aI,ck',ep,?_⟩⟩
 ·simp only[F6];rw[if_neg (λe=>hi (by rw[e]))]
 ·simp[Xa]
end
end
noncomputable section
def gx:Gx where
 P:=Tryz.prog
 tys:=[
  ⟨1,.func #[] #[] false,1,8,.nilFunc⟩,
  ⟨3,.int .i64,1,8,.int .i64 0⟩,
  ⟨4,.bool,1,1,.bool false⟩,
  ⟨5,.int .u8,1,1,.int .u8 0⟩,
  ⟨9,.string,1,16,.string ByteArray.empty⟩,
  ⟨20,.interface #[],1,16,.nilIface⟩,
  ⟨21,.int .i32,1,4,.int .i32 0⟩,
  ⟨22,.slice 83,1,24,.slice none 0 0⟩,
  ⟨23,.slice 89,1,24,.slice none 0 0⟩,
  ⟨25,.struct #[⟨ "Family",5,0,false,"","",0⟩,⟨ "Lines",22,1,false,"","",8⟩,⟨ "Edits",23,2,false,"","",32⟩],3,56,.agg #[.int .u8 0,.slice none 0 0,.slice none 0 0]⟩,
  ⟨28,.slice 58,1,24,.slice none 0 0⟩,
  ⟨30,.slice 105,1,24,.slice none 0 0⟩,
  ⟨32,.struct #[⟨ "Nodes",30,0,false,"","",0⟩,⟨ "Root",3,1,false,"","",24⟩],2,32,.agg #[.slice none 0 0,.int .i64 0]⟩,
  ⟨34,.int .i64,1,8,.int .i64 0⟩,
  ⟨37,.slice 9,1,24,.slice none 0 0⟩,
  ⟨39,.slice 48,1,24,.slice none 0 0⟩,
  ⟨41,.struct #[⟨ "Text",9,0,false,"","",0⟩,⟨ "Segments",39,1,false,"","",16⟩],2,40,.agg #[.string ByteArray.empty,.slice none 0 0]⟩,
  ⟨44,.int .u64,1,8,.int .u64 0⟩,
  ⟨45,.int .u64,1,8,.int .u64 0⟩,
  ⟨48,.struct #[⟨ "From",3,0,false,"","",0⟩,⟨ "To",3,1,false,"","",8⟩,⟨ "File",3,2,false,"","",16⟩,⟨ "At",3,3,false,"","",24⟩,⟨ "If",32,4,false,"","",32⟩],6,64,.agg #[.int .i64 0,.int .i64 0,.int .i64 0,.int .i64 0,.slice none 0 0,.int .i64 0]⟩,
  ⟨54,.slice 56,1,24,.slice none 0 0⟩,
  ⟨56,.struct #[⟨ "If",32,0,false,"","",0⟩,⟨ "Text",9,2,false,"","",32⟩],3,48,.agg #[.slice none 0 0,.int .i64 0,.string ByteArray.empty]⟩,
  ⟨58,.struct #[⟨ "From",3,0,false,"","",0⟩,⟨ "To",3,1,false,"","",8⟩,⟨ "Text",9,2,false,"","",16⟩,⟨ "If",32,3,false,"","",32⟩],5,64,.agg #[.int .i64 0,.int .i64 0,.string ByteArray.empty,.slice none 0 0,.int .i64 0]⟩,
  ⟨62,.slice 5,1,24,.slice none 0 0⟩,
  ⟨63,.slice 62,1,24,.slice none 0 0⟩,
  ⟨65,.struct #[⟨ "Family",5,0,false,"","",0⟩,⟨ "Class",62,1,false,"","",8⟩,⟨ "Texts",63,2,false,"","",32⟩],3,56,.agg #[.int .u8 0,.slice none 0 0,.slice none 0 0]⟩,
  ⟨74,.func #[9] #[4] false,1,8,.nilFunc⟩,
  ⟨83,.struct #[⟨ "Kind",5,0,false,"","",0⟩,⟨ "If",5,1,false,"","",1⟩,⟨ "Words",62,2,false,"","",8⟩],3,32,.agg #[.int .u8 0,.int .u8 0,.slice none 0 0]⟩,
  ⟨85,.struct #[⟨ "Name",9,0,false,"","",0⟩,⟨ "Text",9,1,false,"","",16⟩],2,32,.agg #[.string ByteArray.empty,.string ByteArray.empty]⟩,
  ⟨86,.slice 85,1,24,.slice none 0 0⟩,
  ⟨89,.struct #[⟨ "Line",5,0,false,"","",0⟩,⟨ "From",5,1,false,"","",1⟩,⟨ "To",5,2,false,"","",2⟩,⟨ "Text",5,3,false,"","",3⟩,⟨ "If",5,4,false,"","",4⟩],5,5,.agg #[.int .u8 0,.int .u8 0,.int .u8 0,.int .u8 0,.int .u8 0]⟩,
  ⟨93,.struct #[⟨ "E",34,0,false,"","",0⟩,⟨ "File",3,1,false,"","",8⟩,⟨ "Line",3,2,false,"","",16⟩],3,24,.agg #[.int .i64 0,.int .i64 0,.int .i64 0]⟩,
  ⟨97,.pointer 99,1,8,.pointer none⟩,
  ⟨99,.struct #[⟨ "names",37,0,false,"","koine/patch",0⟩,⟨ "family",32,1,false,"","koine/patch",24⟩,⟨ "text",9,3,false,"","koine/patch",56⟩,⟨ "edits",28,4,false,"","koine/patch",72⟩],5,96,.agg #[.slice none 0 0,.slice none 0 0,.int .i64 0,.string ByteArray.empty,.slice none 0 0]⟩,
  ⟨105,.struct #[⟨ "Var",3,0,false,"","",0⟩,⟨ "Low",3,1,false,"","",8⟩,⟨ "High",3,2,false,"","",16⟩],3,24,.agg #[.int .i64 0,.int .i64 0,.int .i64 0]⟩,
  ⟨107,.pointer 109,1,8,.pointer none⟩,
  ⟨109,.struct #[⟨ "addr",107,0,false,"","strings",0⟩,⟨ "buf",62,1,false,"","strings",8⟩],2,32,.agg #[.pointer none,.slice none 0 0]⟩,
  ⟨112,.interface #[("Error",115)],1,16,.nilIface⟩,
  ⟨121,.int .u64,1,8,.int .u64 0⟩,
  ⟨122,.slice 45,1,24,.slice none 0 0⟩,
  ⟨127,.slice 3,1,24,.slice none 0 0⟩,
  ⟨129,.slice 132,1,24,.slice none 0 0⟩,
  ⟨132,.struct #[⟨ "from",3,0,false,"","koine/koineref29",0⟩,⟨ "to",3,1,false,"","koine/koineref29",8⟩,⟨ "in",32,2,false,"","koine/koineref29",16⟩],4,48,.agg #[.int .i64 0,.int .i64 0,.slice none 0 0,.int .i64 0]⟩,
  ⟨139,.func #[4,4] #[4] false,1,8,.nilFunc⟩,
  ⟨143,.slice 219,1,24,.slice none 0 0⟩,
  ⟨149,.slice 280,1,24,.slice none 0 0⟩,
  ⟨153,.pointer 157,1,8,.pointer none⟩,
  ⟨154,.map 9 3,1,8,.map none⟩,
  ⟨155,.map 3 4,1,8,.map none⟩,
  ⟨157,.struct #[⟨ "names",37,0,false,"","koine/source",0⟩,⟨ "files",86,1,false,"","koine/source",24⟩,⟨ "numbers",154,2,false,"","koine/source",48⟩,⟨ "reading",155,3,false,"","koine/source",56⟩,⟨ "depth",3,4,false,"","koine/source",64⟩,⟨ "text",109,5,false,"","koine/source",72⟩,⟨ "out",39,7,false,"","koine/source",104⟩,⟨ "fresh",4,8,false,"","koine/source",128⟩,⟨ "file",3,9,false,"","koine/source",136⟩,⟨ "line",3,10,false,"","koine/source",144⟩],11,152,.agg #[.slice none 0 0,.slice none 0 0,.map none,.map none,.int .i64 0,.pointer none,.slice none 0 0,.slice none 0 0,.bool false,.int .i64 0,.int .i64 0]⟩,
  ⟨160,.struct #[⟨ "place",93,0,false,"","koine/source",0⟩],3,24,.agg #[.int .i64 0,.int .i64 0,.int .i64 0]⟩,
  ⟨166,.struct #[⟨ "in",32,0,false,"","koine/patch",0⟩,⟨ "done",9,2,false,"","koine/patch",32⟩,⟨ "at",3,3,false,"","koine/patch",48⟩],4,56,.agg #[.slice none 0 0,.int .i64 0,.string ByteArray.empty,.int .i64 0]⟩,
  ⟨167,.slice 166,1,24,.slice none 0 0⟩,
  ⟨169,.func #[56] #[4] false,1,8,.nilFunc⟩,
  ⟨172,.map 105 4,1,8,.map none⟩,
  ⟨174,.pointer 177,1,8,.pointer none⟩,
  ⟨175,.map 105 3,1,8,.map none⟩,
  ⟨177,.struct #[⟨ "nodes",30,0,false,"","koine/diagram",0⟩,⟨ "known",175,1,false,"","koine/diagram",24⟩],2,32,.agg #[.slice none 0 0,.map none]⟩,
  ⟨179,.pointer 5,1,8,.pointer none⟩,
  ⟨180,.pointer 183,1,8,.pointer none⟩,
  ⟨181,.slice 242,1,24,.slice none 0 0⟩,
  ⟨183,.struct #[⟨ "a",32,0,false,"","koine/koineref02",0⟩,⟨ "b",32,2,false,"","koine/koineref02",32⟩,⟨ "op",3,4,false,"","koine/koineref02",64⟩,⟨ "nodes",30,5,false,"","koine/koineref02",72⟩,⟨ "seen",181,6,false,"","koine/koineref02",96⟩],7,120,.agg #[.slice none 0 0,.int .i64 0,.slice none 0 0,.int .i64 0,.int .i64 0,.slice none 0 0,.slice none 0 0]⟩,
  ⟨187,.func #[105] #[4] false,1,8,.nilFunc⟩,
  ⟨192,.func #[32,3] #[37] false,1,8,.nilFunc⟩,
  ⟨197,.slice 32,1,24,.slice none 0 0⟩,
  ⟨199,.pointer 201,1,8,.pointer none⟩,
  ⟨201,.struct #[⟨ "names",37,0,false,"","koine/koineref07",0⟩,⟨ "files",86,1,false,"","koine/koineref07",24⟩,⟨ "depth",3,2,false,"","koine/koineref07",48⟩,⟨ "reading",127,3,false,"","koine/koineref07",56⟩,⟨ "out",41,4,false,"","koine/koineref07",80⟩,⟨ "fresh",4,6,false,"","koine/koineref07",120⟩,⟨ "bad",93,7,false,"","koine/koineref07",128⟩],10,152,.agg #[.slice none 0 0,.slice none 0 0,.int .i64 0,.slice none 0 0,.string ByteArray.empty,.slice none 0 0,.bool false,.int .i64 0,.int .i64 0,.int .i64 0]⟩,
  ⟨204,.array 3 32,6,96,.agg #[.slice none 0 0,.int .i64 0,.slice none 0 0,.int .i64 0,.slice none 0 0,.int .i64 0]⟩,
  ⟨205,.func #[4,4,4] #[4] false,1,8,.nilFunc⟩,
  ⟨206,.slice 4,1,24,.slice none 0 0⟩,
  ⟨213,.slice 143,1,24,.slice none 0 0⟩,
  ⟨215,.func #[3] #[3] false,1,8,.nilFunc⟩,
  ⟨217,.func #[3,3] #[143,34] false,1,8,.nilFunc⟩,
  ⟨219,.int .u32,1,4,.int .u32 0⟩,
  ⟨220,.pointer 222,1,8,.pointer none⟩,
  ⟨222,.struct #[⟨ "names",154,0,false,"","koine/formula",0⟩,⟨ "rest",9,1,false,"","koine/formula",8⟩,⟨ "f",149,2,false,"","koine/formula",24⟩,⟨ "unknown",4,3,false,"","koine/formula",48⟩],4,56,.agg #[.map none,.string ByteArray.empty,.slice none 0 0,.bool false]⟩,
  ⟨223,.func #[] #[3] false,1,8,.nilFunc⟩,
  ⟨224,.map 9 4,1,8,.map none⟩,
  ⟨225,.slice 232,1,24,.slice none 0 0⟩,
  ⟨232,.struct #[⟨ "outer",32,0,false,"","koine/source",0⟩,⟨ "rest",32,2,false,"","koine/source",32⟩,⟨ "other",4,4,false,"","koine/source",64⟩,⟨ "line",3,5,false,"","koine/source",72⟩],6,80,.agg #[.slice none 0 0,.int .i64 0,.slice none 0 0,.int .i64 0,.bool false,.int .i64 0]⟩,
  ⟨233,.pointer 232,1,8,.pointer none⟩,
  ⟨238,.map 3 3,1,8,.map none⟩,
  ⟨240,.unsafePointer,1,8,.pointer none⟩,
  ⟨242,.array 3 3,3,24,.agg #[.int .i64 0,.int .i64 0,.int .i64 0]⟩,
  ⟨247,.pointer 249,1,8,.pointer none⟩,
  ⟨249,.struct #[⟨ "nodes",30,0,false,"","koine/koineref02",0⟩,⟨ "number",127,1,false,"","koine/koineref02",24⟩,⟨ "out",30,2,false,"","koine/koineref02",48⟩],3,72,.agg #[.slice none 0 0,.slice none 0 0,.slice none 0 0]⟩,
  ⟨251,.map 253 4,1,8,.map none⟩,
  ⟨252,.func #[3,3] #[4] false,1,8,.nilFunc⟩,
  ⟨253,.array 2 3,2,16,.agg #[.int .i64 0,.int .i64 0]⟩,
  ⟨259,.array 2 122,2,48,.agg #[.slice none 0 0,.slice none 0 0]⟩,
  ⟨260,.array 2 37,2,48,.agg #[.slice none 0 0,.slice none 0 0]⟩,
  ⟨261,.slice 266,1,24,.slice none 0 0⟩,
  ⟨266,.struct #[⟨ "outer",32,0,false,"","koine/koineref07",0⟩,⟨ "rest",32,2,false,"","koine/koineref07",32⟩,⟨ "other",4,4,false,"","koine/koineref07",64⟩,⟨ "line",3,5,false,"","koine/koineref07",72⟩],6,80,.agg #[.slice none 0 0,.int .i64 0,.slice none 0 0,.int .i64 0,.bool false,.int .i64 0]⟩,
  ⟨272,.map 242 3,1,8,.map none⟩,
  ⟨273,.func #[242] #[3] false,1,8,.nilFunc⟩,
  ⟨275,.pointer 277,1,8,.pointer none⟩,
  ⟨277,.struct #[⟨ "d",32,0,false,"","koine/formula",0⟩,⟨ "f",149,2,false,"","koine/formula",32⟩],3,56,.agg #[.slice none 0 0,.int .i64 0,.slice none 0 0]⟩,
  ⟨280,.struct #[⟨ "Op",3,0,false,"","",0⟩,⟨ "Var",3,1,false,"","",8⟩,⟨ "A",3,2,false,"","",16⟩,⟨ "B",3,3,false,"","",24⟩],4,32,.agg #[.int .i64 0,.int .i64 0,.int .i64 0,.int .i64 0]⟩,
  ⟨294,.func #[21] #[4] false,1,8,.nilFunc⟩,
  ⟨297,.array 512 4,512,512,.agg (Array.replicate 512 (.bool false))⟩,
  ⟨302,.array 256 4,256,256,.agg (Array.replicate 256 (.bool false))⟩,
  ⟨306,.pointer 302,1,8,.pointer none⟩,
  ⟨312,.pointer 314,1,8,.pointer none⟩,
  ⟨314,.struct #[⟨ "names",37,0,false,"","koine/koineref03",0⟩,⟨ "l",37,1,false,"","koine/koineref03",24⟩,⟨ "at",3,2,false,"","koine/koineref03",48⟩,⟨ "f",149,3,false,"","koine/koineref03",56⟩,⟨ "bad",4,4,false,"","koine/koineref03",80⟩,⟨ "unknown",4,5,false,"","koine/koineref03",81⟩],6,88,.agg #[.slice none 0 0,.slice none 0 0,.int .i64 0,.slice none 0 0,.bool false,.bool false]⟩,
  ⟨322,.array 256 5,256,256,.agg (Array.replicate 256 (.int .u8 0))⟩,
  ⟨324,.struct #[⟨ "lo",5,0,false,"","unicode/utf8",0⟩,⟨ "hi",5,1,false,"","unicode/utf8",1⟩],2,2,.agg #[.int .u8 0,.int .u8 0]⟩,
  ⟨325,.array 16 324,32,32,.agg (Array.replicate 32 (.int .u8 0))⟩]
 fns:=[3,4,5,6,7,8,9,10,11,12,13,14,15,16,17,18,19,20,21,22,23,24,25,26,27,28,29,30,31,32,33,34,35,36,37,38,39,40,41,42,43,44,45,46,47,48,49,50,51,52,53,54,55,56,57,58,59,60,61,62,63,64,65,66,67,68,69,70,71,72,73,74,75,76,77,78,79,80,81,82,83,84,85,86,87,88,89,90,91,92,93,94,95,96,97,98,99,100,101,102,103,104,105,106,107,108,109,110,111,112,113,114,115,116,117,118,119,120,121,122,123,124,125,126,127,128,129,130,131,132,133,134,135,136,137,138,139,140,141,142,143,144,145,146,147,148,149,150,151,152,153,154,155,156,157,158,160,161,162,163,164,165,166,167,168,169,170,171,172,173,174,175,176,177,178,179,180,181,182,183,184,185,186,187,188,189,190,191,192,193,194,195,196,197,198,199,200,201,202,203,204,205,206,208,209,210,211,212,213,214,215,216,217,218,219,220,221,222,223,224,225,226,227,228,229,230,231,232,233,235,237,238,239,240,241,242,243,244,245,246,248,249,250,251,252,253,254,255,256,257,258,259,260,261]
 ms:=[]
 eqs:=[⟨105,[0,0,0]⟩,⟨280,[0,0,0,0]⟩]
theorem eQx:Bz Tryz.prog gx.tys:=by
 refine⟨⟨?_,?_⟩,⟨?_,?_⟩,⟨?_,?_⟩,⟨?_,?_⟩,⟨?_,?_⟩,⟨?_,?_⟩,⟨?_,?_⟩,⟨?_,?_⟩,⟨?_,?_⟩,⟨?_,?_⟩,⟨?_,?_⟩,⟨?_,?_⟩,⟨?_,?_⟩,⟨?_,?_⟩,⟨?_,?_⟩,⟨?_,?_⟩,⟨?_,?_⟩,⟨?_,?_⟩,⟨?_,?_⟩,⟨?_,?_⟩,⟨?_,?_⟩,⟨?_,?_⟩,⟨?_,?_⟩,⟨?_,?_⟩,⟨?_,?_⟩,⟨?_,?_⟩,⟨?_,?_⟩,⟨?_,?_⟩,⟨?_,?_⟩,⟨?_,?_⟩,⟨?_,?_⟩,⟨?_,?_⟩,⟨?_,?_⟩,⟨?_,?_⟩,⟨?_,?_⟩,⟨?_,?_⟩,⟨?_,?_⟩,⟨?_,?_⟩,⟨?_,?_⟩,⟨?_,?_⟩,⟨?_,?_⟩,⟨?_,?_⟩,⟨?_,?_⟩,⟨?_,?_⟩,⟨?_,?_⟩,⟨?_,?_⟩,⟨?_,?_⟩,⟨?_,?_⟩,⟨?_,?_⟩,⟨?_,?_⟩,⟨?_,?_⟩,⟨?_,?_⟩,⟨?_,?_⟩,⟨?_,?_⟩,⟨?_,?_⟩,⟨?_,?_⟩,⟨?_,?_⟩,⟨?_,?_⟩,⟨?_,?_⟩,⟨?_,?_⟩,⟨?_,?_⟩,⟨?_,?_⟩,⟨?_,?_⟩,⟨?_,?_⟩,⟨?_,?_⟩,⟨?_,?_⟩,⟨?_,?_⟩,⟨?_,?_⟩,⟨?_,?_⟩,⟨?_,?_⟩,⟨?_,?_⟩,⟨?_,?_⟩,⟨?_,?_⟩,⟨?_,?_⟩,⟨?_,?_⟩,⟨?_,?_⟩,⟨?_,?_⟩,⟨?_,?_⟩,⟨?_,?_⟩,⟨?_,?_⟩,⟨?_,?_⟩,⟨?_,?_⟩,⟨?_,?_⟩,⟨?_,?_⟩,⟨?_,?_⟩,⟨?_,?_⟩,⟨?_,?_⟩,⟨?_,?_⟩,⟨?_,?_⟩,⟨?_,?_⟩,⟨?_,?_⟩,⟨?_,?_⟩,⟨?_,?_⟩,⟨?_,?_⟩,⟨?_,?_⟩,⟨?_,?_⟩,⟨?_,?_⟩,⟨?_,?_⟩,⟨?_,?_⟩,⟨?_,?_⟩,⟨?_,?_⟩,⟨?_,?_⟩,⟨?_,?_⟩,⟨?_,?_⟩,⟨?_,?_⟩,⟨?_,?_⟩,⟨?_,?_⟩,trivial⟩<;>kernel_rfl
set_option maxRecDepth 100000 in
theorem eQy:BB Tryz.prog gx.fns:=by
 refine⟨⟨_,Tryz.func3,?_,?_⟩,⟨_,Tryz.func4,?_,?_⟩,⟨_,Tryz.func5,?_,?_⟩,⟨_,Tryz.func6,?_,?_⟩,⟨_,Tryz.func7,?_,?_⟩,⟨_,Tryz.func8,?_,?_⟩,⟨_,Tryz.func9,?_,?_⟩,⟨_,Tryz.func10,?_,?_⟩,⟨_,Tryz.func11,?_,?_⟩,⟨_,Tryz.func12,?_,?_⟩,⟨_,Tryz.func13,?_,?_⟩,⟨_,Tryz.func14,?_,?_⟩,⟨_,Tryz.func15,?_,?_⟩,⟨_,Tryz.func16,?_,?_⟩,⟨_,Tryz.func17,?_,?_⟩,⟨_,Tryz.func18,?_,?_⟩,⟨_,Tryz.func19,?_,?_⟩,⟨_,Tryz.func20,?_,?_⟩,⟨_,Tryz.func21,?_,?_⟩,⟨_,Tryz.func22,?_,?_⟩,⟨_,Tryz.func23,?_,?_⟩,⟨_,Tryz.func24,?_,?_⟩,⟨_,Tryz.func25,?_,?_⟩,⟨_,Tryz.func26,?_,?_⟩,⟨_,Tryz.func27,?_,?_⟩,⟨_,Tryz.func28,?_,?_⟩,⟨_,Tryz.func29,?_,?_⟩,⟨_,Tryz.func30,?_,?_⟩,⟨_,Tryz.func31,?_,?_⟩,⟨_,Tryz.func32,?_,?_⟩,⟨_,Tryz.func33,?_,?_⟩,⟨_,Tryz.func34,?_,?_⟩,⟨_,Tryz.func35,?_,?_⟩,⟨_,Tryz.func36,?_,?_⟩,⟨_,Tryz.func37,?_,?_⟩,⟨_,Tryz.func38,?_,?_⟩,⟨_,Tryz.func39,?_,?_⟩,⟨_,Tryz.func40,?_,?_⟩,⟨_,Tryz.func41,?_,?_⟩,⟨_,Tryz.func42,?_,?_⟩,⟨_,Tryz.func43,?_,?_⟩,⟨_,Tryz.func44,?_,?_⟩,⟨_,Tryz.func45,?_,?_⟩,⟨_,Tryz.func46,?_,?_⟩,⟨_,Tryz.func47,?_,?_⟩,⟨_,Tryz.func48,?_,?_⟩,⟨_,Tryz.func49,?_,?_⟩,⟨_,Tryz.func50,?_,?_⟩,⟨_,Tryz.func51,?_,?_⟩,⟨_,Tryz.func52,?_,?_⟩,⟨_,Tryz.func53,?_,?_⟩,⟨_,Tryz.func54,?_,?_⟩,⟨_,Tryz.func55,?_,?_⟩,⟨_,Tryz.func56,?_,?_⟩,⟨_,Tryz.func57,?_,?_⟩,⟨_,Tryz.func58,?_,?_⟩,⟨_,Tryz.func59,?_,?_⟩,⟨_,Tryz.func60,?_,?_⟩,⟨_,Tryz.func61,?_,?_⟩,⟨_,Tryz.func62,?_,?_⟩,⟨_,Tryz.func63,?_,?_⟩,⟨_,Tryz.func64,?_,?_⟩,⟨_,Tryz.func65,?_,?_⟩,⟨_,Tryz.func66,?_,?_⟩,⟨_,Tryz.func67,?_,?_⟩,⟨_,Tryz.func68,?_,?_⟩,⟨_,Tryz.func69,?_,?_⟩,⟨_,Tryz.func70,?_,?_⟩,⟨_,Tryz.func71,?_,?_⟩,⟨_,Tryz.func72,?_,?_⟩,⟨_,Tryz.func73,?_,?_⟩,⟨_,Tryz.func74,?_,?_⟩,⟨_,Tryz.func75,?_,?_⟩,⟨_,Tryz.func76,?_,?_⟩,⟨_,Tryz.func77,?_,?_⟩,⟨_,Tryz.func78,?_,?_⟩,⟨_,Tryz.func79,?_,?_⟩,⟨_,Tryz.func80,?_,?_⟩,⟨_,Tryz.func81,?_,?_⟩,⟨_,Tryz.func82,?_,?_⟩,⟨_,Tryz.func83,?_,?_⟩,⟨_,Tryz.func84,?_,?_⟩,⟨_,Tryz.func85,?_,?_⟩,⟨_,Tryz.func86,?_,?_⟩,⟨_,Tryz.func87,?_,?_⟩,⟨_,Tryz.func88,?_,?_⟩,⟨_,Tryz.func89,?_,?_⟩,⟨_,Tryz.func90,?_,?_⟩,⟨_,Tryz.func91,?_,?_⟩,⟨_,Tryz.func92,?_,?_⟩,⟨_,Tryz.func93,?_,?_⟩,⟨_,Tryz.func94,?_,?_⟩,⟨_,Tryz.func95,?_,?_⟩,⟨_,Tryz.func96,?_,?_⟩,⟨_,Tryz.func97,?_,?_⟩,⟨_,Tryz.func98,?_,?_⟩,⟨_,Tryz.func99,?_,?_⟩,⟨_,Tryz.func100,?_,?_⟩,⟨_,Tryz.func101,?_,?_⟩,⟨_,Tryz.func102,?_,?_⟩,⟨_,Tryz.func103,?_,?_⟩,⟨_,Tryz.func104,?_,?_⟩,⟨_,Tryz.func105,?_,?_⟩,⟨_,Tryz.func106,?_,?_⟩,⟨_,Tryz.func107,?_,?_⟩,⟨_,Tryz.func108,?_,?_⟩,⟨_,Tryz.func109,?_,?_⟩,⟨_,Tryz.func110,?_,?_⟩,⟨_,Tryz.func111,?_,?_⟩,⟨_,Tryz.func112,?_,?_⟩,⟨_,Tryz.func113,?_,?_⟩,⟨_,Tryz.func114,?_,?_⟩,⟨_,Tryz.func115,?_,?_⟩,⟨_,Tryz.func116,?_,?_⟩,⟨_,Tryz.func117,?_,?_⟩,⟨_,Tryz.func118,?_,?_⟩,⟨_,Tryz.func119,?_,?_⟩,⟨_,Tryz.func120,?_,?_⟩,⟨_,Tryz.func121,?_,?_⟩,⟨_,Tryz.func122,?_,?_⟩,⟨_,Tryz.func123,?_,?_⟩,⟨_,Tryz.func124,?_,?_⟩,⟨_,Tryz.func125,?_,?_⟩,⟨_,Tryz.func126,?_,?_⟩,⟨_,Tryz.func127,?_,?_⟩,⟨_,Tryz.func128,?_,?_⟩,⟨_,Tryz.func129,?_,?_⟩,⟨_,Tryz.func130,?_,?_⟩,⟨_,Tryz.func131,?_,?_⟩,⟨_,Tryz.func132,?_,?_⟩,⟨_,Tryz.func133,?_,?_⟩,⟨_,Tryz.func134,?_,?_⟩,⟨_,Tryz.func135,?_,?_⟩,⟨_,Tryz.func136,?_,?_⟩,⟨_,Tryz.func137,?_,?_⟩,⟨_,Tryz.func138,?_,?_⟩,⟨_,Tryz.func139,?_,?_⟩,⟨_,Tryz.func140,?_,?_⟩,⟨_,Tryz.func141,?_,?_⟩,⟨_,Tryz.func142,?_,?_⟩,⟨_,Tryz.func143,?_,?_⟩,⟨_,Tryz.func144,?_,?_⟩,⟨_,Tryz.func145,?_,?_⟩,⟨_,Tryz.func146,?_,?_⟩,⟨_,Tryz.func147,?_,?_⟩,⟨_,Tryz.func148,?_,?_⟩,⟨_,Tryz.func149,?_,?_⟩,⟨_,Tryz.func150,?_,?_⟩,⟨_,Tryz.func151,?_,?_⟩,⟨_,Tryz.func152,?_,?_⟩,⟨_,Tryz.func153,?_,?_⟩,⟨_,Tryz.func154,?_,?_⟩,⟨_,Tryz.func155,?_,?_⟩,⟨_,Tryz.func156,?_,?_⟩,⟨_,Tryz.func157,?_,?_⟩,⟨_,Tryz.func158,?_,?_⟩,⟨_,Tryz.func160,?_,?_⟩,⟨_,Tryz.func161,?_,?_⟩,⟨_,Tryz.func162,?_,?_⟩,⟨_,Tryz.func163,?_,?_⟩,⟨_,Tryz.func164,?_,?_⟩,⟨_,Tryz.func165,?_,?_⟩,⟨_,Tryz.func166,?_,?_⟩,⟨_,Tryz.func167,?_,?_⟩,⟨_,Tryz.func168,?_,?_⟩,⟨_,Tryz.func169,?_,?_⟩,⟨_,Tryz.func170,?_,?_⟩,⟨_,Tryz.func171,?_,?_⟩,⟨_,Tryz.func172,?_,?_⟩,⟨_,Tryz.func173,?_,?_⟩,⟨_,Tryz.func174,?_,?_⟩,⟨_,Tryz.func175,?_,?_⟩,⟨_,Tryz.func176,?_,?_⟩,⟨_,Tryz.func177,?_,?_⟩,⟨_,Tryz.func178,?_,?_⟩,⟨_,Tryz.func179,?_,?_⟩,⟨_,Tryz.func180,?_,?_⟩,⟨_,Tryz.func181,?_,?_⟩,⟨_,Tryz.func182,?_,?_⟩,⟨_,Tryz.func183,?_,?_⟩,⟨_,Tryz.func184,?_,?_⟩,⟨_,Tryz.func185,?_,?_⟩,⟨_,Tryz.func186,?_,?_⟩,⟨_,Tryz.func187,?_,?_⟩,⟨_,Tryz.func188,?_,?_⟩,⟨_,Tryz.func189,?_,?_⟩,⟨_,Tryz.func190,?_,?_⟩,⟨_,Tryz.func191,?_,?_⟩,⟨_,Tryz.func192,?_,?_⟩,⟨_,Tryz.func193,?_,?_⟩,⟨_,Tryz.func194,?_,?_⟩,⟨_,Tryz.func195,?_,?_⟩,⟨_,Tryz.func196,?_,?_⟩,⟨_,Tryz.func197,?_,?_⟩,⟨_,Tryz.func198,?_,?_⟩,⟨_,Tryz.func199,?_,?_⟩,⟨_,Tryz.func200,?_,?_⟩,⟨_,Tryz.func201,?_,?_⟩,⟨_,Tryz.func202,?_,?_⟩,⟨_,Tryz.func203,?_,?_⟩,⟨_,Tryz.func204,?_,?_⟩,⟨_,Tryz.func205,?_,?_⟩,⟨_,Tryz.func206,?_,?_⟩,⟨_,Tryz.func208,?_,?_⟩,⟨_,Tryz.func209,?_,?_⟩,⟨_,Tryz.func210,?_,?_⟩,⟨_,Tryz.func211,?_,?_⟩,⟨_,Tryz.func212,?_,?_⟩,⟨_,Tryz.func213,?_,?_⟩,⟨_,Tryz.func214,?_,?_⟩,⟨_,Tryz.func215,?_,?_⟩,⟨_,Tryz.func216,?_,?_⟩,⟨_,Tryz.func217,?_,?_⟩,⟨_,Tryz.func218,?_,?_⟩,⟨_,Tryz.func219,?_,?_⟩,⟨_,Tryz.func220,?_,?_⟩,⟨_,Tryz.func221,?_,?_⟩,⟨_,Tryz.func222,?_,?_⟩,⟨_,Tryz.func223,?_,?_⟩,⟨_,Tryz.func224,?_,?_⟩,⟨_,Tryz.func225,?_,?_⟩,⟨_,Tryz.func226,?_,?_⟩,⟨_,Tryz.func227,?_,?_⟩,⟨_,Tryz.func228,?_,?_⟩,⟨_,Tryz.func229,?_,?_⟩,⟨_,Tryz.func230,?_,?_⟩,⟨_,Tryz.func231,?_,?_⟩,⟨_,Tryz.func232,?_,?_⟩,⟨_,Tryz.func233,?_,?_⟩,⟨_,Tryz.func235,?_,?_⟩,⟨_,Tryz.func237,?_,?_⟩,⟨_,Tryz.func238,?_,?_⟩,⟨_,Tryz.func239,?_,?_⟩,⟨_,Tryz.func240,?_,?_⟩,⟨_,Tryz.func241,?_,?_⟩,⟨_,Tryz.func242,?_,?_⟩,⟨_,Tryz.func243,?_,?_⟩,⟨_,Tryz.func244,?_,?_⟩,⟨_,Tryz.func245,?_,?_⟩,⟨_,Tryz.func246,?_,?_⟩,⟨_,Tryz.func248,?_,?_⟩,⟨_,Tryz.func249,?_,?_⟩,⟨_,Tryz.func250,?_,?_⟩,⟨_,Tryz.func251,?_,?_⟩,⟨_,Tryz.func252,?_,?_⟩,⟨_,Tryz.func253,?_,?_⟩,⟨_,Tryz.func254,?_,?_⟩,⟨_,Tryz.func255,?_,?_⟩,⟨_,Tryz.func256,?_,?_⟩,⟨_,Tryz.func257,?_,?_⟩,⟨_,Tryz.func258,?_,?_⟩,⟨_,Tryz.func259,?_,?_⟩,⟨_,Tryz.func260,?_,?_⟩,⟨_,Tryz.func261,?_,?_⟩,trivial⟩<;>kernel_rfl
theorem eQz:Bx Tryz.prog gx.ms:=
 trivial
theorem eQA:By Tryz.prog gx.eqs:=
 ⟨⟨by kernel_rfl,by kernel_rfl,by kernel_rfl⟩,
  ⟨by kernel_rfl,by kernel_rfl,by kernel_rfl⟩,trivial⟩
theorem Qa:gx.Ok:=⟨eQx,eQy,by kernel_rfl,eQz,eQA⟩
abbrev c3:Cx:=⟨gx,128,1,[1,2,3,4,5,6,7,8,9,10,11,12,13,14,15,16,17,18,19,37,58,60,66,71,83,97,126],[]⟩
abbrev c4:Cx:=⟨gx,146,2,[2,4,5,6,7,8,9,10,11,12,13,14,15,16,17,18,19,20,21,22,37,45,83,92,97,128,130,144],[]⟩
abbrev c5:Cx:=⟨gx,181,3,[3,6,7,8,9,10,11,12,13,14,15,16,19,21,25,60,72,80,87,96,101,110,115,122],[]⟩
abbrev c6:Cx:=⟨gx,137,3,[3,5,6,7,8,9,10,11,12,13,14,15,16,66],[]⟩
abbrev c7:Cx:=⟨gx,100,2,[2,4,5,6,7,8,9,10,11,12,13,14,15,23],[]⟩
abbrev c8:Cx:=⟨gx,179,1,[1,2,3,4,5,6,7,8,9,10,11,12,13,26,32,48,58,61,78,89,100,131,133,177],[]⟩
abbrev c9:Cx:=⟨gx,80,1,[1,2,3,4,5,6,7,8,9,10,19],[]⟩
abbrev uu:Cx:=⟨gx,53,2,[2,4,5,6,7,8,9,10,33,35,51],[]⟩
abbrev xE:Cx:=⟨gx,179,1,[1,3,5,7,9,11,13,14,15,16,17,18,19,21,23,25,26,27,28,30],[]⟩
abbrev c12:Cx:=⟨gx,32,1,[1,2,3,4,12,21],[]⟩
abbrev c13:Cx:=⟨gx,135,1,[1,2,3,4,5,6,7,8,9,10,11,12,13,14,15,34,50,102,118],[]⟩
abbrev c14:Cx:=⟨gx,12,2,[2,3,9],[]⟩
abbrev c15:Cx:=⟨gx,118,5,[5,8,9,10,11,12,13,14,15,17,19,44,45,46,47,51,81,115],[]⟩
abbrev c16:Cx:=⟨gx,2,1,[],[]⟩
abbrev c17:Cx:=⟨gx,18,2,[2,3,4,5],[]⟩
abbrev c18:Cx:=⟨gx,32,2,[2,4,5,6,9,13,25],[]⟩
abbrev RD:Cx:=⟨gx,38,6,[10,16,30],[]⟩
abbrev c20:Cx:=⟨gx,61,14,[14,19,41],[]⟩
abbrev c21:Cx:=⟨gx,29,2,[2,4,5,7,10,13,14,15,16],[]⟩
abbrev c22:Cx:=⟨gx,8,2,[2,3,4],[]⟩
abbrev c23:Cx:=⟨gx,9,2,[2,3,4],[]⟩
abbrev c24:Cx:=⟨gx,65,4,[4,6,7,8,10,16,17,18,19,46,55,59],[]⟩
abbrev c28:Cx:=⟨gx,11,4,[4],[]⟩
abbrev c29:Cx:=⟨gx,6,2,[2,3],[]⟩
abbrev c30:Cx:=⟨gx,15,2,[2,3,9],[]⟩
abbrev c34:Cx:=⟨gx,15,2,[2,3,9],[]⟩
abbrev c35:Cx:=⟨gx,9,1,[1,2,3],[]⟩
abbrev c36:Cx:=⟨gx,11,2,[2,3,4,5],[]⟩
abbrev c37:Cx:=⟨gx,6,2,[2,3],[]⟩
abbrev c38:Cx:=⟨gx,42,7,[7,9,11,12],[]⟩
abbrev c39:Cx:=⟨gx,25,4,[4,6,7,8],[]⟩
abbrev c40:Cx:=⟨gx,16,7,[],[]⟩
abbrev cK:Cx:=⟨gx,11,4,[9],[]⟩
abbrev c42:Cx:=⟨gx,47,3,[3,5,6,7,8,9,24,45],[]⟩
abbrev c43:Cx:=⟨gx,81,6,[6,7,9,10,11,12,13,14,15,22,29,38,39,40,41,63],[]⟩
abbrev RE:Cx:=⟨gx,6,2,[3],[]⟩
abbrev c45:Cx:=⟨gx,107,3,[3,4,5,9,10,11,12,70,104],[]⟩
abbrev c46:Cx:=⟨gx,19,4,[12],[]⟩
abbrev c47:Cx:=⟨gx,21,5,[5,6,7,8,13],[]⟩
abbrev c48:Cx:=⟨gx,222,7,[7,8,9,11,12,13,15,16,18,19,21,22,23,25,26,27,31,32,33,34,56,64,67,68,69,70,77,78,79,80,97,105,106,107,108,111,112,113,114,124,155,163,164,165,166,185,191],[]⟩
abbrev c49:Cx:=⟨gx,11,2,[2,3,4],[]⟩
abbrev RF:Cx:=⟨gx,22,6,[6,7,8,9,17],[]⟩
abbrev c51:Cx:=⟨gx,6,3,[],[]⟩
abbrev c52:Cx:=⟨gx,106,1,[1,2,3,4,5,6,10,13,14,15,16,63,79,94,105],[]⟩
abbrev c53:Cx:=⟨gx,30,2,[2,4,5,6,10,23],[]⟩
abbrev c54:Cx:=⟨gx,83,1,[1,2,3,5,15,17,18,19,20,55,74,82],[]⟩
abbrev c55:Cx:=⟨gx,25,2,[2,4,5,7,9,10,11,12,18],[]⟩
abbrev RG:Cx:=⟨gx,19,6,[],[]⟩
abbrev RH:Cx:=⟨gx,14,3,[],[]⟩
abbrev c58:Cx:=⟨gx,26,3,[3,4,6,7,8],[]⟩
abbrev c59:Cx:=⟨gx,6,1,[1,2],[]⟩
abbrev cL:Cx:=⟨gx,11,4,[9],[]⟩
abbrev c61:Cx:=⟨gx,15,2,[2,3,4],[]⟩
abbrev c62:Cx:=⟨gx,16,2,[2,3,4],[]⟩
abbrev c63:Cx:=⟨gx,15,3,[],[]⟩
abbrev c64:Cx:=⟨gx,12,2,[2,3,4],[]⟩
abbrev c65:Cx:=⟨gx,12,3,[3,4,5,6,7],[]⟩
abbrev c66:Cx:=⟨gx,8,2,[2,3,4],[]⟩
abbrev RI:Cx:=⟨gx,59,8,[8,9,13],[]⟩
abbrev c82:Cx:=⟨gx,26,3,[3,4,5,6,7,8,14],[]⟩
abbrev c83:Cx:=⟨gx,7,5,[],[]⟩
abbrev c84:Cx:=⟨gx,9,5,[],[]⟩
abbrev c85:Cx:=⟨gx,139,12,[12,13,14,15,25,42,73,96,108,120,133],[]⟩
abbrev c86:Cx:=⟨gx,30,3,[3,4,5,7,8,9,16,23],[]⟩
abbrev c87:Cx:=⟨gx,107,2,[2,3,4,5,6,8,9,10,11,12,13,14,15,16,17,18,19,20,24,31,33,34,35,36,42,55,56,57,58,93],[]⟩
abbrev c88:Cx:=⟨gx,31,6,[13,15,16,17],[]⟩
abbrev c89:Cx:=⟨gx,50,4,[4,5,6,7,8,15,25,32,38],[]⟩
abbrev c90:Cx:=⟨gx,87,2,[2,3,4,5,6,7,10,13,14,15,16,46,47,48,73,79],[]⟩
abbrev aV:Cx:=⟨gx,13,2,[2,3,9],[]⟩
abbrev c92:Cx:=⟨gx,230,5,[5,6,7,8,9,10,11,12,13,14,16,17,18,19,20,21,56,96,125,147,163,172,201],[]⟩
abbrev c95:Cx:=⟨gx,10,5,[],[]⟩
abbrev c96:Cx:=⟨gx,8,5,[],[]⟩
abbrev c97:Cx:=⟨gx,16,2,[2,3,4],[]⟩
abbrev c98:Cx:=⟨gx,19,6,[7,8,9,16],[]⟩
abbrev c99:Cx:=⟨gx,8,2,[2,3],[]⟩
abbrev eQB:Cx:=⟨gx,8,2,[2,4],[]⟩
abbrev eQC:Cx:=⟨gx,11,2,[2,3,4,5],[]⟩
abbrev eQD:Cx:=⟨gx,75,8,[8,10,12,13,15,22,29,39,40,41,42,49,63,64,65,66],[]⟩
abbrev eQE:Cx:=⟨gx,14,2,[2,4,6],[]⟩
abbrev eQF:Cx:=⟨gx,17,2,[2,4,5,6,7],[]⟩
abbrev eQG:Cx:=⟨gx,17,2,[2,3,4],[]⟩
abbrev RJ:Cx:=⟨gx,20,2,[6,19],[]⟩
abbrev eQH:Cx:=⟨gx,137,17,[22,33,57],[]⟩
abbrev eQI:Cx:=⟨gx,22,4,[4,5,6],[]⟩
abbrev eQJ:Cx:=⟨gx,9,5,[],[]⟩
abbrev eQK:Cx:=⟨gx,8,2,[2,3],[]⟩
abbrev eQL:Cx:=⟨gx,18,4,[4,5,6,7,8,9,15],[]⟩
abbrev RK:Cx:=⟨gx,17,3,[3,4,5,6,7,8],[]⟩
abbrev eQM:Cx:=⟨gx,8,5,[],[]⟩
abbrev eQN:Cx:=⟨gx,9,5,[],[]⟩
abbrev eQO:Cx:=⟨gx,26,3,[3,4,5,6,7,8,15],[]⟩
abbrev eQP:Cx:=⟨gx,77,5,[5,7,9,10,11,12,13,14,15,16,17,18,24,42,50,68],[]⟩
abbrev eQQ:Cx:=⟨gx,26,6,[10,12,13,14,24],[]⟩
abbrev eQR:Cx:=⟨gx,77,11,[47,66],[]⟩
abbrev eQS:Cx:=⟨gx,10,1,[1,2,3,7],[]⟩
abbrev RN:Cx:=⟨gx,25,2,[2,3,4,5,6,7],[]⟩
abbrev GO:Cx:=⟨gx,12,8,[],[]⟩
abbrev eQT:Cx:=⟨gx,75,7,[9,39,40,44,48,54,60,68],[]⟩
abbrev eQU:Cx:=⟨gx,43,1,[1,2,3,4,19,23,40],[]⟩
abbrev eQV:Cx:=⟨gx,47,7,[8,9,10,11,31],[]⟩
abbrev eQW:Cx:=⟨gx,28,1,[1,2,3,4,5,9,23],[]⟩
abbrev eQX:Cx:=⟨gx,45,9,[9,10,17,20,21,22,23,24,36],[]⟩
abbrev eQY:Cx:=⟨gx,16,5,[],[]⟩
abbrev eQZ:Cx:=⟨gx,10,5,[],[]⟩
abbrev eQ0:Cx:=⟨gx,34,11,[19,20,21,29],[]⟩
abbrev eQ1:Cx:=⟨gx,72,9,[16,21,32,33,34,46],[]⟩
abbrev eQ2:Cx:=⟨gx,20,3,[],[]⟩
abbrev BZ:Cx:=⟨gx,17,5,[7,14],[]⟩
abbrev eQ3:Cx:=⟨gx,6,1,[1,2],[]⟩
abbrev eQ4:Cx:=⟨gx,29,7,[],[]⟩
abbrev eQ5:Cx:=⟨gx,13,7,[],[]⟩
abbrev eQ6:Cx:=⟨gx,32,4,[4,5,6,16,17,25],[]⟩
abbrev eQ7:Cx:=⟨gx,16,2,[6],[]⟩
abbrev eQ8:Cx:=⟨gx,29,4,[4,5,6,7],[]⟩
abbrev eQ9:Cx:=⟨gx,56,7,[27,52],[]⟩
abbrev fQa:Cx:=⟨gx,16,4,[],[]⟩
abbrev fQb:Cx:=⟨gx,42,8,[8,9,13,25],[]⟩
abbrev fQc:Cx:=⟨gx,80,7,[7,8,31,37],[]⟩
abbrev fQd:Cx:=⟨gx,66,12,[13,15,20,36,41],[]⟩
abbrev fQe:Cx:=⟨gx,18,5,[],[]⟩
abbrev fQf:Cx:=⟨gx,9,5,[],[]⟩
abbrev fQg:Cx:=⟨gx,55,9,[9,10,11,18],[]⟩
abbrev fQh:Cx:=⟨gx,26,6,[10,12,13,14,24],[]⟩
abbrev fQi:Cx:=⟨gx,25,7,[10,11,16],[]⟩
abbrev fQj:Cx:=⟨gx,14,2,[2,4,6],[]⟩
abbrev fQk:Cx:=⟨gx,29,3,[3,6,7,12],[]⟩
abbrev fQl:Cx:=⟨gx,38,3,[3,4,5,6,11,18,26],[]⟩
abbrev fQm:Cx:=⟨gx,77,5,[5,6,7,9,19],[]⟩
abbrev fQn:Cx:=⟨gx,19,6,[7,8,9,16],[]⟩
abbrev RO:Cx:=⟨gx,67,15,[16,24,26,31],[]⟩
abbrev fQo:Cx:=⟨gx,29,3,[3,6,7,12],[]⟩
abbrev fQp:Cx:=⟨gx,21,5,[],[]⟩
abbrev fQq:Cx:=⟨gx,19,6,[7,8,9,16],[]⟩
abbrev fQr:Cx:=⟨gx,18,7,[],[]⟩
abbrev fQs:Cx:=⟨gx,64,12,[16,17,18,28,47,48,53,59],[]⟩
abbrev fQt:Cx:=⟨gx,8,3,[4],[]⟩
abbrev fQu:Cx:=⟨gx,4,1,[],[]⟩
abbrev RQ:Cx:=⟨gx,97,6,[6,7,8,9,10,11,12,13,14,15,28,39,46,64,65],[]⟩
abbrev fQv:Cx:=⟨gx,54,9,[9,10,11,14,30],[]⟩
abbrev fQw:Cx:=⟨gx,13,4,[],[]⟩
abbrev fQx:Cx:=⟨gx,23,4,[7,21],[]⟩
abbrev fQy:Cx:=⟨gx,89,5,[5,6,7,17,32,42,52,62],[]⟩
abbrev fQz:Cx:=⟨gx,63,3,[3,4,5,6,8,9,17,18,19,20,21,29,36,37,38,39,44,54,55,56,61],[]⟩
abbrev fQA:Cx:=⟨gx,75,10,[10,11,21,26,48,52,56,65],[]⟩
abbrev fQB:Cx:=⟨gx,24,5,[16,20],[]⟩
abbrev RR:Cx:=⟨gx,25,11,[15],[]⟩
abbrev fQC:Cx:=⟨gx,6,2,[],[]⟩
abbrev fQD:Cx:=⟨gx,84,9,[10,18,23,32,49,50,55],[]⟩
abbrev fQE:Cx:=⟨gx,37,5,[5,6,12,21,31],[]⟩
abbrev fQF:Cx:=⟨gx,11,6,[],[]⟩
abbrev fQG:Cx:=⟨gx,23,8,[12],[]⟩
abbrev fQH:Cx:=⟨gx,13,4,[4,6,8],[]⟩
abbrev fQI:Cx:=⟨gx,108,2,[2,3,4,5,6,7,10,15,16,17,18,23,24,34,45,59,78,98],[]⟩
abbrev fQJ:Cx:=⟨gx,8,3,[],[]⟩
abbrev fQK:Cx:=⟨gx,9,1,[1,2],[]⟩
abbrev fQL:Cx:=⟨gx,8,5,[],[]⟩
abbrev fQM:Cx:=⟨gx,79,2,[2,4,5,6,50,66,69,78],[]⟩
abbrev fQN:Cx:=⟨gx,8,5,[],[]⟩
abbrev fQO:Cx:=⟨gx,29,3,[],[]⟩
abbrev fQP:Cx:=⟨gx,27,3,[3,4,10],[]⟩
abbrev fQQ:Cx:=⟨gx,39,13,[18,28],[]⟩
abbrev fQR:Cx:=⟨gx,69,2,[2,4,5,6,11,12,15,27,28,33,67],[]⟩
abbrev fQS:Cx:=⟨gx,8,3,[3,4,6],[]⟩
abbrev RT:Cx:=⟨gx,17,5,[],[]⟩
abbrev fQT:Cx:=⟨gx,21,3,[3,4],[]⟩
abbrev fQU:Cx:=⟨gx,21,2,[2,3,4,5,9,16],[]⟩
abbrev fQV:Cx:=⟨gx,16,5,[7,12],[]⟩
abbrev fQW:Cx:=⟨gx,15,6,[9],[]⟩
abbrev fQX:Cx:=⟨gx,10,5,[],[]⟩
end
end Go.Proofs.YtjabbbcdgmlojaaGreatDoor
namespace Go.Proofs
open Go Go.RowKit
section
open Go.Shelf
def Tryz.lays156_ren:Go.Shelf.Ren:=⟨fun | 156=>102 | 165=>156 | 166=>56 | 169=>57 | 240=>106 | 241=>210 | 276=>159 | 277=>236 | n=>n,fun | 31=>37 | 9=>9 | 3=>3 | 4=>4 | 0=>0 | 20=>20 | 72=>109 | 76=>113 | 70=>107 | 37=>62 | 75=>112 | 127=>179 | 164=>240 | 5=>5 | 80=>115 | n=>n,fun | n=>n⟩
theorem qQY:Go.Proofs.Lays.n156 Tryz.prog Tryz.lays156_ren:={
 mixed:=by kernel_rfl
 f156:=Tryz.func102.trans (congrArg some (by kernel_rfl))
 f165:=Tryz.func156.trans (congrArg some (by kernel_rfl))
 f166:=Tryz.func56.trans (congrArg some (by kernel_rfl))
 f169:=Tryz.func57.trans (congrArg some (by kernel_rfl))
 f240:=Tryz.func106.trans (congrArg some (by kernel_rfl))
 f241:=Tryz.func210.trans (congrArg some (by kernel_rfl))
 f276:=Tryz.func159.trans (congrArg some (by kernel_rfl))
 f277:=Tryz.func236.trans (congrArg some (by kernel_rfl))
 t0:=Tryz.underlying0
 a0:=Tryz.isAgg0
 z0:=Tryz.sizeOf0
 v0:=Tryz.zeroValue0
 t3:=Tryz.underlying3
 a3:=Tryz.isAgg3
 z3:=Tryz.sizeOf3
 v3:=Tryz.zeroValue3
 t4:=Tryz.underlying4
 a4:=Tryz.isAgg4
 z4:=Tryz.sizeOf4
 v4:=Tryz.zeroValue4
 t9:=Tryz.underlying9
 a9:=Tryz.isAgg9
 z9:=Tryz.sizeOf9
 v9:=Tryz.zeroValue9
 t20:=Tryz.underlying20
 a20:=Tryz.isAgg20
 z20:=Tryz.sizeOf20
 v20:=Tryz.zeroValue20
 t31:=Tryz.underlying37
 a31:=Tryz.isAgg37
 z31:=Tryz.sizeOf37
 v31:=Tryz.zeroValue37
 t37:=Tryz.underlying62
 a37:=Tryz.isAgg62
 z37:=Tryz.sizeOf62
 v37:=Tryz.zeroValue62
 t70:=Tryz.underlying107
 a70:=Tryz.isAgg107
 z70:=Tryz.sizeOf107
 v70:=Tryz.zeroValue107
 t72:=Tryz.underlying109
 a72:=Tryz.isAgg109
 z72:=Tryz.sizeOf109
 v72:=Tryz.zeroValue109
 t75:=Tryz.underlying112
 a75:=Tryz.isAgg112
 z75:=Tryz.sizeOf112
 v75:=Tryz.zeroValue112
 t76:=Tryz.underlying113
 a76:=Tryz.isAgg113
 z76:=Tryz.sizeOf113
 v76:=Tryz.zeroValue113
 t127:=Tryz.underlying179
 a127:=Tryz.isAgg179
 z127:=Tryz.sizeOf179
 v127:=Tryz.zeroValue179
 t164:=Tryz.underlying240
 a164:=Tryz.isAgg240
 z164:=Tryz.sizeOf240
 v164:=Tryz.zeroValue240}
theorem qQO:Builder.Extra Tryz.prog Tryz.lays156_ren:={
 sizeBuilder:=by kernel_rfl
 liesBuilder:=by kernel_rfl
 t5:=Tryz.underlying5
 a5:=Tryz.isAgg5
 z5:=Tryz.sizeOf5
 v5:=Tryz.zeroValue5
 infoByte:=by kernel_rfl
 cellsByte:=by kernel_rfl
 sizeByte:=by kernel_rfl
 neB5:=by decide}
open Go.RowKit in
theorem Tryz.strings_Join (bk o c:Nat)(xs:List ByteArray)(sep:ByteArray)(w:World)(oQD:∀(j:Nat) x,xs[j]? =some x->w.cell? ⟨bk,o+j,none⟩=some (.string x))(iC:bk<w.heap.size)(hN:xs.length<=140737488355328)(cw:xs.length<=c)(QZ:(Lib.join (xs.map (·.data.toList)) sep.data.toList).length<=140737488355328):
  Calls Tryz.prog 102 #[.slice (some ⟨bk,o,none⟩) xs.length c,.string sep] w λe w'=>e= .returned (.string ⟨(Lib.join (xs.map (·.data.toList)) sep.data.toList).toArray⟩)/\Below w.heap.size w w':=Any.strings_Join qQY qQO bk o c xs sep w oQD iC hN cw QZ
def Tryz.lays137_ren:Go.Shelf.Ren:=⟨fun | 137=>94 | 217=>152 | 266=>207 | n=>n,fun | 9=>9 | 5=>5 | 3=>3 | n=>n,fun | n=>n⟩
theorem qQV:Go.Proofs.Lays.n137 Tryz.prog Tryz.lays137_ren:={
 mixed:=by kernel_rfl
 f137:=Tryz.func94.trans (congrArg some (by kernel_rfl))
 f217:=Tryz.func152.trans (congrArg some (by kernel_rfl))
 f266:=Tryz.func207.trans (congrArg some (by kernel_rfl))
 t3:=Tryz.underlying3
 a3:=Tryz.isAgg3
 z3:=Tryz.sizeOf3
 v3:=Tryz.zeroValue3
 t5:=Tryz.underlying5
 a5:=Tryz.isAgg5
 z5:=Tryz.sizeOf5
 v5:=Tryz.zeroValue5
 t9:=Tryz.underlying9
 a9:=Tryz.isAgg9
 z9:=Tryz.sizeOf9
 v9:=Tryz.zeroValue9}
open Go.RowKit in
theorem Tryz.strings_IndexByte (s:ByteArray)(c:Int)(w:World):
  Calls Tryz.prog 94 #[.string s,.int .u8 c] w λe w'=>e= .returned (.int .i64 (Lib.indexByte s.data.toList c.toNat.toUInt8))/\w'=w:=Any.strings_IndexByte qQV s c w
def Tryz.lays219_ren:Go.Shelf.Ren:=⟨fun | 219=>232 | 217=>152 | 225=>247 | 224=>248 | 267=>249 | 266=>207 | 314=>259 | n=>n,fun | 9=>9 | 3=>3 | 4=>4 | 5=>5 | 46=>121 | 146=>320 | 51=>219 | n=>n,fun | 1=>0 | n=>n⟩
theorem qQX:Go.Proofs.Lays.n219 Tryz.prog Tryz.lays219_ren:={
 mixed:=by kernel_rfl
 f217:=Tryz.func152.trans (congrArg some (by kernel_rfl))
 f219:=Tryz.func232.trans (congrArg some (by kernel_rfl))
 f224:=Tryz.func248.trans (congrArg some (by kernel_rfl))
 f225:=Tryz.func247.trans (congrArg some (by kernel_rfl))
 f266:=Tryz.func207.trans (congrArg some (by kernel_rfl))
 f267:=Tryz.func249.trans (congrArg some (by kernel_rfl))
 f314:=Tryz.func259.trans (congrArg some (by kernel_rfl))
 t3:=Tryz.underlying3
 a3:=Tryz.isAgg3
 z3:=Tryz.sizeOf3
 v3:=Tryz.zeroValue3
 t4:=Tryz.underlying4
 a4:=Tryz.isAgg4
 z4:=Tryz.sizeOf4
 v4:=Tryz.zeroValue4
 t5:=Tryz.underlying5
 a5:=Tryz.isAgg5
 z5:=Tryz.sizeOf5
 v5:=Tryz.zeroValue5
 t9:=Tryz.underlying9
 a9:=Tryz.isAgg9
 z9:=Tryz.sizeOf9
 v9:=Tryz.zeroValue9
 t46:=Tryz.underlying121
 a46:=Tryz.isAgg121
 z46:=Tryz.sizeOf121
 v46:=Tryz.zeroValue121
 t51:=Tryz.underlying219
 a51:=Tryz.isAgg219
 z51:=Tryz.sizeOf219
 v51:=Tryz.zeroValue219
 t146:=Tryz.underlying320
 a146:=Tryz.isAgg320
 z146:=Tryz.sizeOf320
 v146:=Tryz.zeroValue320
 g1:=by kernel_rfl}
open Go.RowKit Go.Lib in
theorem Tryz.stringslite_Index_one (s:ByteArray)(c:UInt8)(w:World):
  Calls Tryz.prog 232 #[.string s,.string ⟨#[c]⟩] w λe w'=>e= .returned (.int .i64 (Lib.indexByte s.data.toList c))/\w'=w:=Any.stringslite_Index_one qQX s c w
def Tryz.lays138_ren:Go.Shelf.Ren:=⟨fun | 138=>204 | 195=>233 | 218=>234 | 143=>209 | 219=>232 | 217=>152 | 225=>247 | 224=>248 | 267=>249 | 266=>207 | 314=>259 | n=>n,fun | 9=>9 | 3=>3 | 4=>4 | 5=>5 | 0=>0 | 46=>121 | 146=>320 | 51=>219 | n=>n,fun | 1=>0 | n=>n⟩
theorem qQT:Go.Proofs.Lays.n138 Tryz.prog Tryz.lays138_ren:={
 mixed:=by kernel_rfl
 f138:=Tryz.func204.trans (congrArg some (by kernel_rfl))
 f143:=Tryz.func209.trans (congrArg some (by kernel_rfl))
 f195:=Tryz.func233.trans (congrArg some (by kernel_rfl))
 f217:=Tryz.func152.trans (congrArg some (by kernel_rfl))
 f218:=Tryz.func234.trans (congrArg some (by kernel_rfl))
 f219:=Tryz.func232.trans (congrArg some (by kernel_rfl))
 f224:=Tryz.func248.trans (congrArg some (by kernel_rfl))
 f225:=Tryz.func247.trans (congrArg some (by kernel_rfl))
 f266:=Tryz.func207.trans (congrArg some (by kernel_rfl))
 f267:=Tryz.func249.trans (congrArg some (by kernel_rfl))
 f314:=Tryz.func259.trans (congrArg some (by kernel_rfl))
 t0:=Tryz.underlying0
 a0:=Tryz.isAgg0
 z0:=Tryz.sizeOf0
 v0:=Tryz.zeroValue0
 t3:=Tryz.underlying3
 a3:=Tryz.isAgg3
 z3:=Tryz.sizeOf3
 v3:=Tryz.zeroValue3
 t4:=Tryz.underlying4
 a4:=Tryz.isAgg4
 z4:=Tryz.sizeOf4
 v4:=Tryz.zeroValue4
 t5:=Tryz.underlying5
 a5:=Tryz.isAgg5
 z5:=Tryz.sizeOf5
 v5:=Tryz.zeroValue5
 t9:=Tryz.underlying9
 a9:=Tryz.isAgg9
 z9:=Tryz.sizeOf9
 v9:=Tryz.zeroValue9
 t46:=Tryz.underlying121
 a46:=Tryz.isAgg121
 z46:=Tryz.sizeOf121
 v46:=Tryz.zeroValue121
 t51:=Tryz.underlying219
 a51:=Tryz.isAgg219
 z51:=Tryz.sizeOf219
 v51:=Tryz.zeroValue219
 t146:=Tryz.underlying320
 a146:=Tryz.isAgg320
 z146:=Tryz.sizeOf320
 v146:=Tryz.zeroValue320
 g1:=by kernel_rfl}
open Go.RowKit Go.Lib in
theorem Tryz.strings_Count_one (s:ByteArray)(c:UInt8)(w:World):
  Calls Tryz.prog 204 #[.string s,.string ⟨#[c]⟩] w λe w'=>e= .returned (.int .i64 (Lib.countByte s.data.toList c))/\w'=w:=Any.strings_Count_one qQT s c w
def Tryz.lays149_ren:Go.Shelf.Ren:=⟨fun | 149=>93 | 222=>151 | n=>n,fun | 9=>9 | 5=>5 | 3=>3 | 4=>4 | n=>n,fun | n=>n⟩
theorem qQU:Go.Proofs.Lays.n149 Tryz.prog Tryz.lays149_ren:={
 mixed:=by kernel_rfl
 f149:=Tryz.func93.trans (congrArg some (by kernel_rfl))
 f222:=Tryz.func151.trans (congrArg some (by kernel_rfl))
 t3:=Tryz.underlying3
 a3:=Tryz.isAgg3
 z3:=Tryz.sizeOf3
 v3:=Tryz.zeroValue3
 t4:=Tryz.underlying4
 a4:=Tryz.isAgg4
 z4:=Tryz.sizeOf4
 v4:=Tryz.zeroValue4
 t5:=Tryz.underlying5
 a5:=Tryz.isAgg5
 z5:=Tryz.sizeOf5
 v5:=Tryz.zeroValue5
 t9:=Tryz.underlying9
 a9:=Tryz.isAgg9
 z9:=Tryz.sizeOf9
 v9:=Tryz.zeroValue9}
open Go.RowKit Go.Lib in
theorem Tryz.strings_LastIndexByte (s:ByteArray)(c:Int)(hs:s.size<4611686018427387904)(w:World):
  Calls Tryz.prog 93 #[.string s,.int .u8 c] w λe w'=>e= .returned (.int .i64 (Lib.lastIndexByte s c))/\w'=w:=Any.strings_LastIndexByte qQU s c hs w
def Tryz.lays315_ren:Go.Shelf.Ren:=⟨fun | 315=>244 | n=>n,fun | 9=>9 | 40=>294 | 4=>4 | 3=>3 | 0=>0 | 21=>21 | n=>n,fun | n=>n⟩
theorem qQW:Go.Proofs.Lays.n315 Tryz.prog Tryz.lays315_ren:={
 mixed:=by kernel_rfl
 f315:=Tryz.func244.trans (congrArg some (by kernel_rfl))
 t0:=Tryz.underlying0
 a0:=Tryz.isAgg0
 z0:=Tryz.sizeOf0
 v0:=Tryz.zeroValue0
 t3:=Tryz.underlying3
 a3:=Tryz.isAgg3
 z3:=Tryz.sizeOf3
 v3:=Tryz.zeroValue3
 t4:=Tryz.underlying4
 a4:=Tryz.isAgg4
 z4:=Tryz.sizeOf4
 v4:=Tryz.zeroValue4
 t9:=Tryz.underlying9
 a9:=Tryz.isAgg9
 z9:=Tryz.sizeOf9
 v9:=Tryz.zeroValue9
 t21:=Tryz.underlying21
 a21:=Tryz.isAgg21
 z21:=Tryz.sizeOf21
 v21:=Tryz.zeroValue21
 t40:=Tryz.underlying294
 a40:=Tryz.isAgg294
 z40:=Tryz.sizeOf294
 v40:=Tryz.zeroValue294}
open Go.RowKit Go.Lib in
theorem Tryz.strings_indexFunc (g:Nat)(lb:Array Value)(eg:∀args w,(callFunc g args).run Tryz.prog w= .ok (.enter g args) w)(p:Nat->Bool)(truth:Bool)(s:ByteArray)(w:World)(hp:PredAt Tryz.prog g lb encR p w):
  Calls Tryz.prog 244 #[.string s,.func (.func g) #[] lb,.bool truth] w λe w'=>e= .returned (.int .i64 (Lib.idxFunc p truth s))/\Below w.heap.size w w':=Any.strings_indexFunc qQW g lb eg p truth s w hp
end
end Go.Proofs
namespace Go.Proofs.YtjabbbcdgmlojaaGreatDoor
open Go Go.RowKit
section
structure Mod (S:Nat->Prop) (w w':World):Prop where
 os:w'.os=w.os
 tape:w'.tape=w.tape
 output:w'.output=w.output
 size:w.heap.size<=w'.heap.size
 block:∀k,k<w.heap.size->¬S k->w'.heap[k]? =w.heap[k]?
theorem Mod.refl (S:Nat->Prop)(w:World):Mod S w w:=⟨rfl,rfl,rfl,QB _,λ_ _ _=>rfl⟩
theorem Mod.of_ext {w w':World}(S:Nat->Prop)(h:Ext w w'):Mod S w w':=⟨h.os,h.tape,h.output,h.size,λk hk _=>h.block k hk (by simp)⟩
theorem qQL {w w':World}{S:Nat->Prop}{g:Nat}(h:w.grownBy w' (some g))(hS:S g):Mod S w w':=⟨h.os,h.tape,h.output,h.size,λk hk hn=>h.block k hk (λe=>by cases e;exact hn hS)⟩
theorem Mod.trans {S S':Nat->Prop}{a b c:World}(h:Mod S a b)(k:Mod S' b c)(hs:∀i,S' i->S i∨a.heap.size<=i):Mod S a c:=
 ⟨k.os.trans h.os,k.tape.trans h.tape,k.output.trans h.output,X3 h.size k.size,λi hi hn=>(k.block i (Yq hi h.size) (λhS=>by rcases hs i hS with h | h;exact hn h;omega)).trans (h.block i hi hn)⟩
theorem Mod.mono {S S':Nat->Prop}{a b:World}(h:Mod S a b)(hs:∀i,S i->S' i∨a.heap.size<=i):Mod S' a b:=
 ⟨h.os,h.tape,h.output,h.size,λi hi hn=>h.block i hi (λhS=>by rcases hs i hS with h | h;exact hn h;omega)⟩
theorem Mod.ext {S:Nat->Prop}{w0 w w':World}(h:Mod S w w')(k:Ext w0 w)(hs:∀i,S i->w0.heap.size<=i):Ext w0 w':=
 ⟨h.os.trans k.os,h.tape.trans k.tape,h.output.trans k.output,X3 k.size h.size,λi hi _=>(h.block i (Yq hi k.size) (λhS=>by have:=hs i hS;omega)).trans (k.block i hi (by simp))⟩
theorem Blk.mod {S:Nat->Prop}{w w':World}{g t:Nat}{cs:List Value}(h:Blk w g t cs)(k:Mod S w w')(hn:¬S g):Blk w' g t cs:=(k.block g h.lt hn).trans h
theorem Mod.grown {S:Nat->Prop}{w w':World}(h:Mod S w w'){row:Option Nat}(hs:∀i,S i->row=some i):w.grownBy w' row:=⟨h.os,h.tape,h.output,h.size,λk hk hn=>h.block k hk (λhS=>hn (hs k hS).symm)⟩
def Qk (A:Option Addr):Nat->Prop:=λk=>∃ad,A=some ad/\ad.block=k
theorem fQY {A:Option Addr}{n c k:Nat}(h:(Value.slice A n c).ownBlock=some k):Qk A k:=by
 cases A with
 | none=>simp[Value.ownBlock] at h
 | some ad=>exact⟨ad,rfl,by simpa [Value.ownBlock] using h⟩
theorem qQQ {w w':World}{A:Option Addr}{n c:Nat}(h:w.grownBy w' (Value.slice A n c).ownBlock):Mod (Qk A) w w':=
 ⟨h.os,h.tape,h.output,h.size,λk hk hn=>h.block k hk (λe=>hn (fQY e.symm))⟩
theorem Own.rows {w:World}{base e sz n c:Nat}{A:Option Addr}{cs:List Value}(h:Own w base e sz A n c cs):∀k,Qk A k->base<=k/\k<w.heap.size:=by
 rintro k ⟨ad,rfl,rfl⟩;have h:=h.row;rcases h.2 with⟨hv,_⟩ | ⟨g,cap,ZR,hv,hb,hg,_⟩
 ·cases hv
 ·cases hv;exact⟨hb,(gF.1 hg).1⟩
theorem Own.mod {S:Nat->Prop}{w w':World}{base e sz n c:Nat}{A:Option Addr}{cs:List Value}(h:Own w base e sz A n c cs)(k:Mod S w w')(hn:∀i,Qk A i->¬S i):Own w' base e sz A n c cs:=by
 have hr:=h.row;refine⟨⟨hr.1,?_⟩⟩;rcases hr.2 with⟨hv,hx⟩ | ⟨g,cap,ZR,hv,hb,hg,Ai⟩
 ·exact .inl ⟨hv,hx⟩
 ·refine .inr ⟨g,cap,ZR,hv,hb,(k.block g (gF.1 hg).1 (hn g ?_)).trans hg,Ai⟩;cases hv;exact⟨_,rfl,rfl⟩
theorem Own.up {w:World}{base base' e sz n c:Nat}{A:Option Addr}{cs:List Value}(h:Own w base e sz A n c cs)(hb:base'<=base):Own w base' e sz A n c cs:=by
 have hr:=h.row;refine⟨⟨hr.1,?_⟩⟩;rcases hr.2 with hv | ⟨g,cap,ZR,hv,hb',Ai⟩
 ·exact .inl hv
 ·exact .inr ⟨g,cap,ZR,hv,X3 hb hb',Ai⟩
def Moved (w:World)(A A':Option Addr):Prop:=∀ad,A'=some ad->A=some ad∨w.heap.size<=ad.block
theorem Moved.refl (w:World)(A:Option Addr):Moved w A A:=λ_ h=>.inl h
theorem Moved.rows {w:World}{A A':Option Addr}(h:Moved w A A'):∀k,Qk A' k->Qk A k∨w.heap.size<=k:=by
 rintro k ⟨ad,rfl,rfl⟩;rcases h ad rfl with h | h
 ·exact .inl ⟨ad,h,rfl⟩
 ·exact .inr h
theorem Moved.trans {w w1:World}{A B C:Option Addr}(h:Moved w A B)(k:Moved w1 B C)(hs:w.heap.size<=w1.heap.size):Moved w A C:=λad e=>by
 rcases k ad e with h1 | h1
 ·exact h ad h1
 ·exact .inr (by omega)
theorem Moved.back {w w1:World}{A B:Option Addr}(h:Moved w1 A B)(hs:w.heap.size<=w1.heap.size):Moved w A B:=(Moved.refl w A).trans h hs
theorem Je {c:Cx}(hg:c.g.Ok){o:Oper}{S:Env}{w:World}{K:Env->World->Prop}{Q:Zs}{t t2 e sz:Nat}{x y:Operand}{A B:Option Addr}{n cp:Nat}{m c2:Nat}{xs ys:List Value}{base:Nat}{r re r2:TyRow}
  (ho:o.op= .call ⟨.builtin .append, #[x,y], #[t,t2]⟩) (hr:Q0 c.g.tys t=some r) (hd:r.d= .slice e) (Zc:Q0 c.g.tys e=some re) (hs:re.sz=sz) (Lv:0<sz) (kZ:re.z.cells.size=sz) (WA:Q0 c.g.tys t2=some r2) (br:∃e2,r2.d= .slice e2)
  (hx:S.ev x=some (.slice A n cp)) (hy:S.ev y=some (.slice B m c2)) (WI:Own w base e sz A n cp xs) (iy:Sl w sz B m c2 ys) (iz:∀u∈ys,JS u=true)
  (jm:n+m<=maxLen) (du:(n+m)*re.by_<=140737488355328) (tk:base<=w.heap.size)
  (k:∀A' c' w1,Mod (Qk A) w w1->Own w1 base e sz A' (n+m) c' (xs++ys)->Moved w A A'->Xf c S o.dst (.v (.slice A' (n+m) c')) (λS=>K S w1)):Zh c o S w K Q:=
 eQs hg ho hr hd Zc hs Lv kZ WA br hx hy WI iy iz jm du tk (λA' c' w1 h1 h2 h3=>k A' c' w1 (qQQ h1) h2 h3)
theorem RU {c:Cx}(hg:c.g.Ok){o:Oper}{S:Env}{w:World}{K:Env->World->Prop}{Q:Zs}{t t2 e:Nat}{x y:Operand}{A:Option Addr}{n cp:Nat}{s:ByteArray}{xs:List Value}{base:Nat}{r re r2:TyRow}
  (ho:o.op= .call ⟨.builtin .append, #[x,y], #[t,t2]⟩) (hr:Q0 c.g.tys t=some r) (hd:r.d= .slice e) (Zc:Q0 c.g.tys e=some re) (hs:re.sz=1) (kZ:re.z= .int .u8 0) (Fq:re.by_=1) (WA:Q0 c.g.tys t2=some r2) (br:r2.d= .string)
  (hx:S.ev x=some (.slice A n cp)) (hy:S.ev y=some (.string s)) (WI:Own w base e 1 A n cp xs)
  (jm:n+s.size<=140737488355328) (tk:base<=w.heap.size)
  (k:∀A' c' w1,Mod (Qk A) w w1->Own w1 base e 1 A' (n+s.size) c' (xs++Lib.strCells s)->Moved w A A'->Xf c S o.dst (.v (.slice A' (n+s.size) c')) (λS=>K S w1)):Zh c o S w K Q:=
 eQu hg ho hr hd Zc hs kZ Fq WA br hx hy WI jm tk (λA' c' w1 h1 h2 h3=>k A' c' w1 (qQQ h1) h2 h3)
theorem KZ {w:World}{g t:Nat}{cs:List Value}{v:Value}{K:World->Prop}(h:Blk w g t cs)(hj:0<cs.length)(k:∀w1,Mod (·=g) w w1->Blk w1 g t (cs.set 0 v)->K w1):fG w ⟨g,0,none⟩ v K:=
 eQq h hj (λw1 h1 h2=>k w1 (qQL h1 rfl) h2)
theorem XV {w:World}{g t:Nat}{cs:List Value}{j:Nat}{v:Value}{K:World->Prop}(h:Blk w g t cs)(hj:j<cs.length)(k:∀w1,Mod (·=g) w w1->Blk w1 g t (cs.set j v)->K w1):fG w ((⟨g,0,none⟩:Addr).add j) v K:=
 xx h hj (λw1 h1 h2=>k w1 (qQL h1 rfl) h2)
theorem sc {vs:List Value}(h:vs.all JS=true):∀u∈vs,JS u=true:=by simpa using h
theorem XT {w w5 w6:World}{t:Nat}{cs:List Value}(Qx:Ext w w5)(_:Blk w5 w.heap.size t cs)(WB:w5.grownBy w6 (some w.heap.size)):Ext w w6:=
 (Ext.refl w).own (eQb (Qx.grown (some w.heap.size)) WB) (QB _)
theorem RW (s:ByteArray):Lib.strCells s=VH (Wq s):=by
 simp only[Lib.strCells,VH,Wq,nP];rfl
structure Bld (w:World) (base g t:Nat) (rest:List Value) (A:Option Addr) (c:Nat) (out:List Nat):Prop where
 g1:g<base
 top:base<=w.heap.size
 blk:∃pa,(pa= .pointer none∨pa= .pointer (some ⟨g,0,none⟩))/\Blk w g t (pa:: .slice A out.length c::rest)
 own:Own w base 5 1 A out.length c (VH out)
theorem Bld.grow {w w':World}{base g t:Nat}{rest:List Value}{A:Option Addr}{c:Nat}{out:List Nat}(h:Bld w base g t rest A c out)(k:Ext w w'):Bld w' base g t rest A c out:=
 ⟨h.g1,X3 h.top k.size,let ⟨pa,h1,h2⟩:=h.blk;⟨pa,h1,h2.ext k⟩,h.own.ext k⟩
def BldS (g:Nat)(A:Option Addr):Nat->Prop:=λk=>k=g∨Qk A k
theorem BldS.moved {w:World}{g:Nat}{A A':Option Addr}(h:Moved w A A'):∀k,BldS g A' k->BldS g A k∨w.heap.size<=k:=by
 rintro k (rfl | hk)
 ·exact .inl (.inl rfl)
 ·rcases h.rows k hk with h | h
  ·exact .inl (.inr h)
  ·exact .inr h
def rp (t m:Nat):Prop:=liesAt Tryz.prog Tryz.prog.depth t (m/Tryz.prog.cellsOf t) 0 109 1=true
theorem Blk.shape {w:World}{g t:Nat}{cs:List Value}(h:Blk w g t cs):w.shape? g=some (t,cs.length):=by
 unfold World.shape?;rw[h];simp
theorem cM:gx.P=Tryz.prog:=rfl
theorem RX:∃j,Tryz.prog.info? 109=some j/\j.size≠0:=by
 obtain⟨_,i,hi,hs,_⟩:=Qa.row (t:=109) rfl;exact⟨i,hi,by rw[hs];decide⟩
theorem GP (g t:Nat)(pa sl:Value)(rest:List Value)(w:World)(hl:rp t (rest.length+2))(hp:pa= .pointer none∨pa= .pointer (some ⟨g,0,none⟩))(hB:Blk w g t (pa::sl::rest)):
  Fn Tryz.prog 106 [.pointer (some ⟨g,0,none⟩)] w (λ_ w'=>Mod (·=g) w w'/\Blk w' g t (.pointer (some ⟨g,0,none⟩)::sl::rest)):=by
 obtain⟨j,hj,o9⟩:=RX;refine QJ (c:=RJ) Qa Tryz.func106 rfl rfl rfl ?_;have er:=hB.shape;have ucs:=Tryz.underlying107;have uus:=Tryz.underlying240;rcases hp with rfl | rfl
 ·refine Qo hB rfl ?_;refine Xd rfl ?_;refine JT (w':=w) (v:=.pointer (some ⟨g,0,none⟩)) (λa hf=>?_) ?_
  ·have e1:=hf.ev (show Env.ev _ (.tmp 8)=some (.pointer (some ⟨g,0,none⟩)) from rfl);have:=Lib.run_to_unsafe (P:=Tryz.prog) (src:=107) (dst:=240) w ⟨g,0,none⟩ ucs uus hj o9 er (by simp);simp only[execOp,e1];simp[cM,this]
  refine JT (w':=w) (v:=.pointer (some ⟨g,0,none⟩)) (λa hf=>?_) ?_
  ·have e1:=hf.ev (show Env.ev _ (.tmp 9)=some (.pointer (some ⟨g,0,none⟩)) from rfl);have:=run_callFunc_extern (P:=Tryz.prog) (e:=Extern.AbiNoEscape.same) Tryz.func159 (by kernel_rfl) (by kernel_rfl) (by kernel_rfl) (by kernel_rfl) #[.pointer (some ⟨g,0,none⟩)] w;rw[Lib.run_noEscape] at this;simp only[execOp,resolve,invoke];simp[Deferred.ofValue,Act.eval] at e1 ⊢;simp[e1,cM,this]
  refine JT (w':=w) (v:=.pointer (some ⟨g,0,none⟩)) (λa hf=>?_) ?_
  ·have e1:=hf.ev (show Env.ev _ (.tmp 10)=some (.pointer (some ⟨g,0,none⟩)) from rfl);have:=Lib.run_from_unsafe (P:=Tryz.prog) (src:=240) (dst:=107) (u:=109) w ⟨g,0,none⟩ uus ucs hj er (by simpa [rp] using hl);simp only[execOp,e1];simp[cM,this]
  refine XV hB (by simp) (λw1 hm Qh=>?_);exact⟨hm,Qh⟩
 ·refine Qo hB rfl ?_;refine Q9 rfl ?_;refine Qo hB rfl ?_;refine JT (w':=w) (v:=.bool false) (λa hf=>?_) ?_
  ·have e1:=hf.ev (show Env.ev _ (.tmp 17)=some (.pointer (some ⟨g,0,none⟩)) from rfl);have e2:=hf.ev (show Env.ev _ (.tmp 18)=some (.pointer (some ⟨g,0,none⟩)) from rfl);have:=Lib.run_neq_ptr_same (P:=Tryz.prog) (tp:=107) w ⟨g,0,none⟩ ucs hj;simp only[execOp,e1,e2,eqGuard];simp[cM,this]
  refine Q9 rfl ?_;exact⟨Mod.refl _ _,hB⟩
theorem iR (base g t:Nat)(rest:List Value)(A:Option Addr)(c:Nat)(out:List Nat)(s:ByteArray)(w:World)(hl:rp t (rest.length+2))(hb:Bld w base g t rest A c out)(hs:out.length+s.size<=140737488355328):
  Fn Tryz.prog 56 [.pointer (some ⟨g,0,none⟩),.string s] w (λ_ w'=>∃A' c',Bld w' base g t rest A' c' (out++Wq s)/\Mod (BldS g A) w w'/\Moved w A A'):=by
 refine QJ (c:=RG) Qa Tryz.func56 rfl rfl rfl ?_;obtain⟨pa,Jn,hB⟩:=hb.blk;refine call (GP g t pa _ rest w hl Jn hB) ?_;rintro v w1 ⟨ZE,Qh⟩;have Yo:=hb.own.rows;have fV:=hb.g1;have hn:¬Qk A g:=λh=>by have:=(Yo g h).1;omega
 have r5:=hb.own.mod ZE (λk hk e=>hn (e▸hk));refine Qo Qh rfl ?_;refine RU Qa rfl rfl rfl rfl rfl rfl rfl rfl rfl rfl rfl r5 hs (by have:=ZE.size;have:=hb.top;omega) ?_;intro A' c' w2 XW fd pf;refine XV (Qh.mod XW hn) (by simp) (λw3 XI Qu=>?_);have QZ:(out++Wq s).length=out.length+s.size:=by rw[Qq,xz]
 have r6:=fd.rows;refine⟨A',c',⟨fV,by have:=ZE.size;have:=XW.size;have:=XI.size;have:=hb.top;omega,⟨_,.inr rfl,by rw[QZ];exact Qu⟩,?_⟩,?_,pf.back ZE.size⟩
 ·rw[QZ,BW,<-RW];exact fd.mod XI (λk hk e=>by have:=(r6 k hk).1;omega)
 ·exact((ZE.mono (S':=BldS g A) (λi hi=>.inl (.inl hi))).trans XW (λi hi=>.inl (.inr hi))).trans XI (λi hi=>.inl (.inl hi))
theorem GQ (base g t:Nat)(rest:List Value)(A:Option Addr)(c:Nat)(out:List Nat)(b:Nat)(w:World)(hl:rp t (rest.length+2))(hb:Bld w base g t rest A c out)(hs:out.length+1<=140737488355328):
  Fn Tryz.prog 225 [.pointer (some ⟨g,0,none⟩),.int .u8 b] w (λ_ w'=>∃A' c',Bld w' base g t rest A' c' (out++ [b])/\Mod (BldS g A) w w'/\Moved w A A'):=by
 refine QJ (c:=RT) Qa Tryz.func225 rfl rfl rfl ?_;obtain⟨pa,Jn,hB⟩:=hb.blk;refine call (GP g t pa _ rest w hl Jn hB) ?_;rintro v w1 ⟨ZE,Qh⟩;have Yo:=hb.own.rows;have fV:=hb.g1;have nz:=hb.top;have hn:¬Qk A g:=λh=>by have:=(Yo g h).1;omega
 have r5:=hb.own.mod ZE (λk hk e=>hn (e▸hk));refine Qo Qh rfl ?_;refine Ru Qa rfl rfl rfl rfl rfl rfl rfl rfl ?_;intro w7 Xh mQA Q3;have jn:Sl w7 1 (some ⟨w1.heap.size,0,none⟩) 1 1 [.int .u8 (b:Int)]:=Sl.own' Q3 rfl (by simp[maxLen]);have mQB:=ZE.size;have mQC:=Xh.size;refine Je Qa rfl rfl rfl rfl rfl (by decide) rfl rfl ⟨_,rfl⟩ rfl rfl (r5.ext Xh) jn (by simp[JS]) (by unfold maxLen;omega) (by show _*1<=_;omega) (by omega) ?_;intro A' c' w2 XW fd pf;refine XV ((Qh.ext Xh).mod XW hn) (by simp) (λw3 XI Qu=>?_);have r6:=fd.rows;refine⟨A',c',⟨fV,by have:=XW.size;have:=XI.size;omega,⟨_,.inr rfl,by rw[Qq];exact Qu⟩,?_⟩,?_,pf.back (by omega)⟩
 ·rw[Qq,BW];exact fd.mod XI (λk hk e=>by have:=(r6 k hk).1;omega)
 ·exact(((ZE.mono (S':=BldS g A) (λi hi=>.inl (.inl hi))).trans (Mod.of_ext (λ_=>False) Xh) (λi hi=>hi.elim)).trans XW (λi hi=>.inl (.inr hi))).trans XI (λi hi=>.inl (.inl hi))
theorem RY (w:World)(g n:Nat){S:Nat->Prop}(h:S g):Mod S w (w.freeze ⟨g,0,none⟩ n):=by
 unfold World.freeze;split
 ·exact Mod.refl _ _
 ·refine⟨rfl,rfl,rfl,by simp,λk hk hn=>?_⟩;simp only[Array.getElem?_modify];rw[if_neg (λ(e:g=k)=>hn (e▸h))]
theorem RZ (base g t:Nat)(rest:List Value)(A:Option Addr)(c:Nat)(out:List Nat)(w:World)(hb:Bld w base g t rest A c out)(h8:∀x∈out,x<256)(hs:out.length<=140737488355328):
  Fn Tryz.prog 57 [.pointer (some ⟨g,0,none⟩)] w (λv w'=>v= .string (Qd out)/\Mod (Qk A) w w'):=by
 obtain⟨pa,Jn,hB⟩:=hb.blk;refine QJ (c:=RH) Qa Tryz.func57 rfl rfl rfl ?_;have QZ:(VH out).length=out.length:=uo out;refine XR Qa (Ext w) 10 [(true,0),(true,1),(true,2),(true,3),(true,5),(true,6),(true,7),(true,8),(true,9),(false,4)] (by kernel_rfl) (Ext.drew w) ?_;refine QN (v:=.slice A out.length c) (λw' Qb=>by rw[(hB.ext Qb).cell];rfl) ?_;refine QN (v:=.slice A out.length c) (λw' Qb=>by rw[(hB.ext Qb).cell];rfl) ?_;have Lw:out.length=0->Value.string ByteArray.empty=Value.string (Qd out):=λh0=>by
  have:out=[]:=WO h0;subst this;rfl
 by_cases h0:out.length=0
 ·have key:∃p w1,(Builtin.unsafeSliceData_ #[62] 179 #[.slice A out.length c]).run Tryz.prog w.drew= .ok (.pointer p) w1/\Ext w w1:=by
   rcases hb.own.row.2 with⟨hv,_⟩ | ⟨g',cap,ZR,hv,hb',Yc,_⟩
   ·simp only[Value.slice.injEq] at hv;obtain⟨rfl,_,rfl⟩:=hv;exact⟨none,w.drew,Lib.run_unsafeSliceData_nil _ _ _ _ _,Ext.drew w⟩
   ·simp only[Value.slice.injEq] at hv;obtain⟨rfl,_,rfl⟩:=hv;by_cases yP:c=0
    ·subst yP;have er:w.drew.shape? g'=some (5,ZR.size):=by
      unfold World.shape?;rw[show w.drew.heap[g']? =_ from Yc]
     exact⟨_,_,Lib.run_unsafeSliceData_zero (P:=Tryz.prog) w.drew _ _ 5 Tryz.underlying179 ⟨g',0,none⟩ _ _ er,(Ext.drew w).trans (Ext.alloc _ _)⟩
    ·exact⟨_,w.drew,Lib.run_unsafeSliceData_row (P:=Tryz.prog) w.drew _ _ ⟨g',0,none⟩ _ _ yP,Ext.drew w⟩
  obtain⟨p,w1,Jm,Qe⟩:=key;refine JT (w':=w1) (v:=.pointer p) (λa hf=>?_) ⟨Qe,?_⟩
  ·have e1:=hf.ev (show Env.ev _ (.tmp 6)=some (.slice A out.length c) from rfl);simp only[execOp,resolve,invoke,builtin];simp[cM,e1,Jm]
  refine JT (w':=w1) (v:=.string ByteArray.empty) (λa hf=>?_) ?_
  ·have e1:=hf.ev (show Env.ev _ (.tmp 7)=some (.pointer p) from rfl);have e2:=hf.ev (show Env.ev _ (.tmp 12)=some (.int .i64 out.length) from rfl);have:=Lib.run_unsafeString_none (P:=Tryz.prog) w1 179 3 9 p;rw[h0] at e2;simp only[execOp,resolve,invoke,builtin];simp[cM,e1,e2];rw[this]<;>rfl
  exact⟨Lw h0,Mod.of_ext _ Qe⟩
 ·obtain⟨g',sp,rfl,hb',Vb,ep⟩:=hb.own.blk (by omega);have ZF:=hb.own.sl.le;refine JT (w':=w.drew) (v:=.pointer (some ⟨g',0,none⟩)) (λa hf=>?_) ⟨Ext.drew w,?_⟩
  ·have e1:=hf.ev (show Env.ev _ (.tmp 6)=some (.slice (some ⟨g',0,none⟩) out.length c) from rfl);have:=Lib.run_unsafeSliceData_row (P:=Tryz.prog) w.drew #[62] 179 ⟨g',0,none⟩ out.length c (by omega);simp only[execOp,resolve,invoke,builtin];simp[cM,e1,this]
  refine JT (w':=w.drew.freeze ⟨g',0,none⟩ out.length) (v:=.string (Qd out)) (λa hf=>?_) ?_
  ·have e1:=hf.ev (show Env.ev _ (.tmp 7)=some (.pointer (some ⟨g',0,none⟩)) from rfl);have e2:=hf.ev (show Env.ev _ (.tmp 12)=some (.int .i64 out.length) from rfl);have er:w.drew.shape? g'=some (5,(VH out++sp).length):=(Vb.ext (Ext.drew w)).shape;have Ki:(out.map UInt8.ofNat).length=out.length:=by simp
   have:=Lib.run_unsafeString_row (P:=Tryz.prog) w.drew 179 3 9 5 Tryz.underlying179 (by kernel_rfl) g' _ er (out.map UInt8.ofNat) (by intro e;apply h0;rw[<-Ki,e];rfl) (by simp[uo]) (by rw[Ki];omega) (λj x hj=>by
    rw[(Vb.ext (Ext.drew w)).cell];simp only[aR,F7] at hj;obtain⟨y,hy,rfl⟩:=hj;have aJ:j<out.length:=(Jd.1 hy).1;rw[gI (by rw[QZ];exact aJ),rj hy];have:=h8 y (Xl hy);simp[jY this])
   rw[Ki] at this;simp only[execOp,resolve,invoke,builtin];simp[cM,e1,e2];rw[this]<;>rfl
  exact⟨rfl,(Mod.of_ext (Qk _) (Ext.drew w)).trans (RY w.drew g' out.length (S:=Qk (some ⟨g',0,none⟩)) ⟨_,rfl,rfl⟩) (λi hi=>.inl hi)⟩
section
structure Fz where
 o:Int
 v:Int
 a:Int
 b:Int
deriving DecidableEq
def Fz.cells (x:Fz):List Value:=[.int .i64 x.o,.int .i64 x.v,.int .i64 x.a,.int .i64 x.b]
theorem B0 (x:Fz):x.cells.length=4:=rfl
def isDig (b:Nat):Bool:=decide (48<=b)&&decide (b<=57)
def bS (b:Nat):Bool:=b==95||(decide (97<=b)&&decide (b<=122))||(decide (65<=b)&&decide (b<=90))
def Zi (b:Nat):Bool:=bS b||isDig b
def VY:List Nat->Nat
 | []=>0
 | b::l=>if isDig b then 0 else((b::l).takeWhile Zi).length
def ZT (l:List Nat):List Nat:=l.dropWhile λb=>b==32||b==9
structure Ps where
 r:List Nat
 f:List Fz
 u:Bool
def Ky (sym:List Nat)(p:Ps):Bool×Ps:=if sym.isPrefixOf (ZT p.r)then(true,{p with r:=(ZT p.r).drop sym.length})else(false,{p with r:=ZT p.r})
def Ys (x:Fz)(p:Ps):Nat×Ps:=(p.f.length,{p with f:=p.f++ [x]})
def gT (sym:List Nat)(op:Int)(opd:Ps->Option (Nat×Ps)):Nat->Nat->Ps->Option (Nat×Ps)
 | 0,_,_=>none
 | m+1,a,p=>match Ky sym p with
  | (true,p1)=>match opd p1 with
   | none=>none
   | some (b,p2)=>gT sym op opd m p2.f.length {p2 with f:=p2.f++ [⟨op,0,a,b⟩]}
  | (false,p1)=>some (a,p1)
def VZ (sym:List Nat)(op:Int)(opd:Ps->Option (Nat×Ps))(p:Ps):Option (Nat×Ps):=match opd p with
 | none=>none
 | some (a,p1)=>gT sym op opd (p1.r.length+1) a p1
def dG (
     ix:List Nat->Option Nat):Nat->Ps->Option (Nat×Ps)
 | 0,_=>none
 | n+1,p=>match Ky [33] p with
  | (true,p1)=>match dG ix n p1 with
   | none=>none
   | some (a,p2)=>some (Ys ⟨3,0,a,0⟩ p2)
  | (false,p1)=>match Ky [40] p1 with
   | (true,p2)=>match VZ [124,124] 5 (VZ [38,38] 4 (dG ix n)) p2 with
    | none=>none
    | some (a,p3)=>match Ky [41] p3 with
     | (true,p4)=>some (a,p4)
     | (false,_)=>none
   | (false,p2)=>if VY p2.r=0 then none else
     let word:=p2.r.take (VY p2.r)
     let p3:Ps:={p2 with r:=p2.r.drop (VY p2.r)}
     if word=[116,114,117,101] then some (Ys ⟨1,0,0,0⟩ p3)else if word=[102,97,108,115,101] then some (Ys ⟨0,0,0,0⟩ p3)else
      some (Ys ⟨2,((ix word).getD 0:Nat),0,0⟩ {p3 with u:=p3.u||(ix word).isNone})
def iS (ix:List Nat->Option Nat)(n:Nat)(p:Ps):Option (Nat×Ps):=VZ [124,124] 5 (VZ [38,38] 4 (dG ix n)) p
end
section
theorem KN (l:List Nat)(a b:Nat):(Qd l).extract a b=Qd ((l.take b).drop a):=by
 apply ByteArray.ext;apply Array.ext';simp[Qd,fA]
theorem B8.drop {l:List Nat}(h:∀x∈l,x<256)(k:Nat):∀x∈l.drop k,x<256:=λx hx=>h x (WT hx)
theorem B8.take {l:List Nat}(h:∀x∈l,x<256)(k:Nat):∀x∈l.take k,x<256:=λx hx=>h x (Wn hx)
theorem GR (p l:List Nat):p.isPrefixOf l=decide (p.length<=l.length/\l.take p.length=p):=by
 rw[qE,dQH,VX];constructor
 ·rintro⟨t,rfl⟩;exact⟨by simp,by simp⟩
 ·rintro⟨h1,h2⟩;refine⟨l.drop p.length,?_⟩;have:=aQ p.length l;rw[h2] at this;exact this
theorem R0 (l p:List Nat)(w:World)(hl:∀x∈l,x<256)(hp:∀x∈p,x<256):
  Fn Tryz.prog 154 [.string (Qd l),.string (Qd p)] w (λv w'=>v= .bool (p.isPrefixOf l)/\w=w'):=by
 refine QJ (c:=fQe) Qa Tryz.func154 rfl rfl rfl ?_;refine Qw (λh1=>?_) (λh1=>?_)
 ·rw[Q8,Q8] at h1;refine need ⟨by omega,by omega,by rw[Q8,Q8];omega⟩ ?_;refine⟨?_,rfl⟩;rw[GR];congr 1;refine xj.2 ?_;simp only[iO,Int.toNat_zero];rw[KN,tV,Q8];exact⟨λh=>⟨by omega,Kn (B8.take hl _) hp h⟩,λh=>by rw[h.2]⟩
 ·rw[Q8,Q8] at h1;exact⟨by rw[GR,Zr (λh=>h1 (by omega))],rfl⟩
def xF (l p:List Nat):Value:=if p.isPrefixOf l then .tuple #[.string (Qd (l.drop p.length)),.bool true] else .tuple #[.string (Qd l),.bool false]
theorem fQZ (l p:List Nat)(w:World)(hl:∀x∈l,x<256)(hp:∀x∈p,x<256):
  Fn Tryz.prog 231 [.string (Qd l),.string (Qd p)] w (λv w'=>v=xF l p/\w=w'):=by
 refine QJ (c:=fQW) Qa Tryz.func231 rfl rfl rfl ?_;refine call (R0 l p w hl hp) ?_;rintro v w1 ⟨rfl,rfl⟩;unfold xF;cases wC:p.isPrefixOf l with
 | false=>
  refine Xd rfl ?_;exact⟨rfl,rfl⟩
 | true=>
  refine Q9 rfl ?_;have ZF:p.length<=l.length:=by rw[GR] at wC;exact(Y2 wC).1
  refine need ⟨by omega,by rw[Q8,Q8];omega,by omega⟩ ?_;refine⟨?_,rfl⟩;simp only[iO,Q8];rw[KN,ZS (QB _)]<;>rfl
theorem fQ0 (l p:List Nat)(w:World)(hl:∀x∈l,x<256)(hp:∀x∈p,x<256):
  Fn Tryz.prog 200 [.string (Qd l),.string (Qd p)] w (λv w'=>v=xF l p/\w=w'):=by
 refine QJ (c:=fQF) Qa Tryz.func200 rfl rfl rfl ?_;refine call (fQZ l p w hl hp) ?_;rintro v w1 ⟨rfl,rfl⟩;unfold xF;split
 ·exact⟨rfl,rfl⟩
 ·exact⟨rfl,rfl⟩
def fJ (k:Nat):List Value:=(List.range 256).map λj=>.bool (decide (0<k/\j=32)||decide (1<k/\j=9))
theorem rq (k:Nat):(fJ k).length=256:=by simp[fJ]
theorem GS {k j:Nat}(h:j<256):(fJ k)[j]? =some (.bool (decide (0<k/\j=32)||decide (1<k/\j=9))):=by
 unfold fJ;rw[aR,List.getElem?_range h]<;>rfl
theorem R2 (k:Nat):∀u∈fJ k,JS u=true:=λu hu=>by
 unfold fJ at hu;simp only[Zk] at hu;obtain⟨j,_,rfl⟩:=hu;rfl
theorem fQ1 {k x:Nat}(hk:k<2)(hx: [32,9][k]? =some x):(fJ k).set x (.bool true)=fJ (k+1):=by
 apply Bl;intro j;by_cases hj:j<256
 ·rw[List.getElem?_set,GS hj,GS hj,rq];have Yj:k=0∨k=1:=by omega
  rcases Yj with rfl | rfl
  ·simp at hx;subst hx;split
   ·rename_i e;subst e;simp
   ·rename_i e;have:¬j=32:=λh=>e h.symm
    simp[this]
  ·simp at hx;subst hx;split
   ·rename_i e;subst e;simp
   ·rename_i e;have:¬j=9:=λh=>e h.symm
    simp[this]
 ·rw[qG (by rw[gG,rq];omega),qG (by rw[rq];omega)]
set_option maxRecDepth 20000 in
theorem fQ2 (w:World):Fn Tryz.prog 228 [.string (Qd [32,9])] w (λv w'=>v= .tuple #[.agg (fJ 2).toArray,.bool true]/\Ext w w'):=by
 refine QJ (c:=fQU) Qa Tryz.func228 rfl rfl rfl ?_;refine new (λw1 Qe Q6 Qh=>?_);have vJ:Blk w1 w.heap.size 302 (fJ 0):=Qh;clear Qh;refine loop Qa [4] (λk:Nat=>[.int .i64 k]) (λk w'=>k<=2/\Ext w w'/\Blk w' w.heap.size 302 (fJ k)) (λk _=>2-k) 0 rfl ⟨by omega,Qe,vJ⟩ ?_;rintro k w2 ⟨hk,Qg,Qy⟩;refine Qw (λh1=>?_) (λh1=>?_)
 ·have Yj:k<2:=by
   have:((Qd [32,9]).size:Int)=2:=rfl;omega
  refine dE (s:=Qd [32,9]) (by show k<2;exact Yj) (λx hx Ly=>?_);have KW: [32,9][k]? =some x:=by rw[Ws (by decide)] at hx;exact hx
  have iA:x<128:=by
   have:k=0∨k=1:=by omega
   rcases this with rfl | rfl
   ·simp at KW;omega
   ·simp at KW;omega
  refine XJ (by omega) ?_;refine BY (j:=x) rfl (by omega) ?_;refine XV Qy (by rw[rq];omega) (λw3 XI Qu=>?_);rw[fQ1 Yj KW] at Qu;refine Qj ((k+1:Nat):Int) (by omega) (by omega) ?_;exact⟨k+1,rfl,⟨by omega,XI.ext Qg (λi hi=>by omega),Qu⟩,by show 2-(k+1)<2-k;omega⟩
 ·have Yj:k=2:=by
   have:((Qd [32,9]).size:Int)=2:=rfl;omega
  subst Yj;refine Qt Qy (rq 2) ?_;refine Qv Qy rfl (R2 2) (λw3 Jc _ Qu=>?_);refine Qt Qu (rq 2) ?_;exact⟨rfl,Qg.own Jc (QB _)⟩
theorem fQ3 (g x:Nat)(w:World)(hB:Blk w g 302 (fJ 2))(hx:x<256):
  Fn Tryz.prog 245 [.pointer (some ⟨g,0,none⟩),.int .u8 x] w (λv w'=>v= .bool (x==32||x==9)/\w=w'):=by
 refine QJ (c:=fQX) Qa Tryz.func245 rfl rfl rfl ?_;refine BY (j:=x) rfl (by omega) ?_;refine Qo hB (GS hx) ?_;refine⟨?_,rfl⟩;have e:∀y:Nat,(x==y)=decide (x=y):=λy=>rfl
 simp[e]
theorem fQ4 (g:Nat)(l:List Nat)(w:World)(hB:Blk w g 302 (fJ 2))(hl:∀x∈l,x<256)(_:l.length<=9223372036854775807):
  Fn Tryz.prog 229 [.string (Qd l),.pointer (some ⟨g,0,none⟩)] w (λv w'=>v= .string (Qd (ZT l))/\Ext w w'):=by
 refine QJ (c:=fQV) Qa Tryz.func229 rfl rfl rfl ?_;refine loop Qa [0] (λm:List Nat=>[.string (Qd m)]) (λm w'=>Ext w w'/\ZT m=ZT l/\(∀x∈m,x<256)) (λm _=>m.length) l rfl ⟨Ext.refl _,rfl,hl⟩ ?_;rintro m w1 ⟨Qe,hm,JD⟩;refine Qw (λh1=>?_) (λh1=>?_)
 ·cases m with
  | nil=>simp[Q8] at h1
  | cons x m=>
   refine dE (s:=Qd (x::m)) (by rw[Q8];simp) (λy hy Lz=>?_);have jM:y=x:=by rw[Ws JD] at hy;simpa using hy.symm
   subst jM;refine call (fQ3 g y w1 (hB.ext Qe) Lz) ?_;rintro v w2 ⟨rfl,rfl⟩;cases hb:(y==32||y==9)with
   | false=>
    refine Xd rfl ?_;refine⟨?_,Qe⟩;rw[<-hm];unfold ZT;rw[qH,hb]<;>rfl
   | true=>
    refine Q9 rfl ?_;refine need ⟨by omega,by omega,by omega⟩ ?_;refine⟨m,?_,⟨Qe,?_,λz hz=>JD z (by simp[hz])⟩,by simp⟩
    ·have e:(Qd (y::m)).extract (Int.toNat 1) (((Qd (y::m)).size:Int)).toNat=Qd m:=by
      rw[KN,Q8,iO,ZS (QB _)]<;>rfl
     rw[e]<;>rfl
    ·rw[<-hm];unfold ZT;rw[qH,hb]<;>rfl
 ·cases m with
  | nil=>exact⟨by rw[<-hm];rfl,Qe⟩
  | cons x m=>rw[Q8] at h1;simp at h1
set_option maxRecDepth 20000 in
theorem fQ5 (l:List Nat)(w:World)(hl:∀x∈l,x<256)(QZ:l.length<=9223372036854775807):
  Fn Tryz.prog 199 [.string (Qd l),.string (Qd [32,9])] w (λv w'=>v= .string (Qd (ZT l))/\Ext w w'):=by
 refine QJ (c:=fQE) Qa Tryz.func199 rfl rfl rfl ?_;refine Qw (λh1=>?_) (λh1=>?_)
 ·have:l=[]:=Kn hl (by simp) (h1.trans rfl);subst this;exact⟨rfl,Ext.refl _⟩
 refine XJ (by decide) ?_;refine XK (by decide) ?_;refine call (fQ2 w) ?_;rintro v w1 ⟨rfl,Qe⟩;refine new (λw2 Qg Ze Qy=>?_);refine Qv Qy (rq 2) (R2 2) (λw3 Jc _ Qu=>?_);have XF:=XT Qg Qy Jc;refine Xd rfl ?_;refine call (fQ4 w1.heap.size l w3 Qu hl QZ) ?_;rintro v w4 ⟨rfl,Qs⟩;exact⟨rfl,Qe.trans (XF.trans Qs)⟩
end
section
theorem fQ6 {P:Program}{f:FuncId}{l:List Value}{w:World}{v:Value}{R:World->Prop}(h:Calls P f l.toArray w λe w'=>e= .returned v/\R w'):Fn P f l w (λu w'=>u=v/\R w'):=by
 unfold Fn;exact h.mono λe w' he=>by obtain⟨rfl,h⟩:=he;exact⟨rfl,h⟩
theorem qQR {w w':World}(h:Below w.heap.size w w'):Ext w w':=⟨h.os,h.tape,h.output,h.size,λk hk _=>h.block k hk⟩
theorem GT (r:Nat):Zi r=true↔(r=95∨(97<=r/\r<=122)∨(65<=r/\r<=90)∨(48<=r/\r<=57)):=by
 unfold Zi bS isDig;simp;omega
theorem fQ7 (r:Nat)(w:World):Fn Tryz.prog 220 [.int .i32 r] w (λv w'=>v= .bool (!Zi r)/\w=w'):=by
 have hb:Zi r=decide (r=95∨(97<=r/\r<=122)∨(65<=r/\r<=90)∨(48<=r/\r<=57)):=by rw[qE,GT,VX]
 rw[hb];refine QJ (c:=fQO) Qa Tryz.func220 rfl rfl rfl ?_;have oQE:r=95∨(97<=r/\r<=122)∨(65<=r/\r<=90)∨(48<=r/\r<=57)∨r<48∨(57<r/\r<65)∨(90<r/\r<95)∨r=96∨122<r:=by omega
 rcases oQE with h | h | h | h | h | h | h | h | h <;>
  repeat (first | refine ri (by omega) ?_ | refine WX (by omega) ?_ | refine Zy (by omega) ?_ | refine XJ (by omega) ?_ | refine Xd rfl ?_ | refine Q9 rfl ?_)
 all_goals refine⟨?_,rfl⟩
 all_goals congr 1
 all_goals first
  | (
    have hP:(r=95∨(97<=r/\r<=122)∨(65<=r/\r<=90)∨(48<=r/\r<=57)):=by omega
    rw[Zx hP];first | rfl | exact Zr (by omega) | exact Zx (by omega))
  | (
    have hP:¬(r=95∨(97<=r/\r<=122)∨(65<=r/\r<=90)∨(48<=r/\r<=57)):=by omega
    rw[Zr hP];first | rfl | exact Zx (by omega) | exact Zr (by omega))
theorem R3 {s:ByteArray}{pos:Nat}(h:pos<s.size):s.get! pos=s[pos]:=by
 simp[ByteArray.get!,ByteArray.getElem_eq_getElem_data,getElem!_pos s.data pos h]
theorem fQ8 {s:ByteArray}{pos:Nat}(h:pos<s.size)(ha:s[pos].toNat<128):Utf8.decode s pos=(s[pos].toNat,1):=by
 unfold Utf8.decode;simp only[Nat.add_zero,R3 h];rw[Qf ha]
theorem fQ9 {s:ByteArray}{pos:Nat}(h:pos<s.size)(ha:¬s[pos].toNat<128):128<=(Utf8.decode s pos).1:=by
 unfold Utf8.decode;simp only[Nat.add_zero,R3 h];rw[if_neg ha];have he:128<=Utf8.runeError:=by decide
 split
 ·split
  ·assumption
  ·exact he
 split
 ·split
  ·rename_i h1;simp at h1;exact X3 (by decide) h1.1
  ·exact he
 split
 ·split
  ·rename_i h1;simp at h1;exact X3 (by decide) h1.1
  ·exact he
 ·exact he
theorem R4 (s:ByteArray):∀(f pos:Nat),s.size<=pos+f->pos<=s.size->
  Lib.idxFuncFrom (λr=> !Zi r) true s f pos=if((Wq s).drop pos).all Zi then -1 else((pos+(((Wq s).drop pos).takeWhile Zi).length:Nat):Int)
 | 0,pos,h,hp=>by
  rw[tU (by rw[xz];omega)];rfl
 | f+1,pos,h,hp=>by
  unfold Lib.idxFuncFrom;by_cases bG:pos<s.size
  ·rw[Qf bG];have hg:(Wq s).drop pos=s[pos].toNat::(Wq s).drop (pos+1):=by
    rw[am (by rw[xz];exact bG)];congr 1;have:=Rv bG;exact(Jd.1 this).2
   rw[hg];by_cases ha:s[pos].toNat<128
   ·have hd:=fQ8 bG ha;rw[hd]
    dsimp only
    cases hi:Zi s[pos].toNat with
    | true=>
     rw[if_neg (by simp),R4 s f (pos+1) (by omega) (by omega)];simp only[Bm,hi,dB,an,if_true,Q2];split
     ·rfl
     ·congr 1;omega
    | false=>
     rw[Qf (by simp)];simp[hi]
   ·have hi:Zi s[pos].toNat=false:=by
     cases e:Zi s[pos].toNat with
     | false=>rfl
     | true=>have:=(GT _).1 e;omega
    have hd:Zi (Utf8.decode s pos).1=false:=by
     have pQq:=fQ9 bG ha;cases e:Zi (Utf8.decode s pos).1 with
     | false=>rfl
     | true=>have:=(GT _).1 e;omega
    rw[Qf (by rw[hd];rfl)];simp[hi]
  ·rw[if_neg bG,tU (by rw[xz];omega)];rfl
theorem gQa (l:List Nat)(w:World)(hl:∀x∈l,x<256):Fn Tryz.prog 219 [.string (Qd l),.func (.func 220) #[] #[]] w (λv w'=>v= .int .i64 (if l.all Zi then -1 else((l.takeWhile Zi).length:Nat))/\Ext w w'):=by
 refine QJ (c:=fQN) Qa Tryz.func219 rfl rfl rfl ?_;have hp:Go.Proofs.PredAt Tryz.prog 220 #[] Go.Proofs.encR (λr=> !Zi r) w:=λW r _=>by
  have h:=fQ7 r W;unfold Fn at h;exact h.mono λe w' he=>by
   cases e with
   | returned v=>obtain⟨rfl,rfl⟩:=he;exact⟨rfl,0,rfl⟩
   | panicked ch=>exact he.elim
   | outgrown=>exact he.elim
 have hc:=Tryz.strings_indexFunc 220 #[] (Go.Proofs.enters_of Tryz.func220 rfl rfl) (λr=> !Zi r) true (Qd l) w hp;refine call (fQ6 hc) ?_;rintro v w1 ⟨rfl,hb⟩;refine⟨?_,qQR hb⟩;unfold Lib.idxFunc;rw[R4 (Qd l) _ 0 (by omega) (Xo _),Ws hl,tV,WQ]
end
end
section
structure KeyQ {α:Type} [DecidableEq α] (P:Program) (ke:Nat) (kv:α->Value):Prop where
 find:∀(a:α) (m:List (α×Value)) (bs:List Nat) (w:World),bs.length=m.length->
  ∃r,(Instr.findKey ke (kv a) (X2 kv m bs)).run P w= .ok r w/\r.map (·.2)=XG a m/\(∀j v,r=some (j,v)->∀v',X2 kv (Zo a v' m) bs=(X2 kv m bs).modify j (λe=>{e with key:=kv a,val:=v'})/\((X2 kv m bs)[j]?).map (·.key)=some (kv a))/\(r=none->∀v',Zo a v' m=m++ [(a,v')])
 check:∀b a w,(Instr.checkKey b 10000 ke (kv a)).run P w= .ok () w
 bits:∀a,Instr.sameBits 10000 (kv a) (kv a)=true
theorem GU {α:Type} [DecidableEq α]{P:Program}{ke:Nat}{kv:α->Value}(a:α)(w:World)(heq:∀b:α,(Op.equal ke (kv a) (kv b)).run P w= .ok (decide (a=b)) w):∀(m:List (α×Value))(bs:List Nat)(i:Nat),bs.length=m.length->
  ∃r,(Instr.findAsking ke (kv a) (X2 kv m bs) i).run P w= .ok r w/\r.map (·.2)=XG a m/\(∀j v,r=some (j,v)->i<=j/\∀v',X2 kv (Zo a v' m) bs=(X2 kv m bs).modify (j-i) (λe=>{e with key:=kv a,val:=v'})/\((X2 kv m bs)[j-i]?).map (·.key)=some (kv a))/\(r=none->∀v',Zo a v' m=m++ [(a,v')])
 | [],bs,i,h=>⟨none,by simp[X2,Instr.findAsking],rfl,(λj v h=>by cases h),λ_ v'=>rfl⟩
 | (b,u)::m,[],i,h=>by simp at h
 | (b,u)::m,s::bs,i,h=>by
  have e:X2 kv ((b,u)::m) (s::bs)={key:=kv b,val:=u,born:=s}::X2 kv m bs:=rfl;rw[e];unfold Instr.findAsking;simp only[Sem.run_bind,heq,Result.andThen_ok];by_cases Vz:a=b
  ·subst Vz;simp only[decide_true,if_true];refine⟨some (i,u),by simp,by simp[XG],λj v hj=>?_,λh=>by cases h⟩;cases hj;refine⟨QB _,λv'=>?_⟩;simp[Zo,X2]
  ·simp only[Vz,decide_false,PH,if_false];obtain⟨r,h1,h2,h3,h4⟩:=GU a w heq m bs (i+1) (by simpa using h);refine⟨r,h1,by simp[XG,Vz,h2],λj v hj=>?_,λhn v'=>by simp[Zo,Vz,h4 hn v']⟩;obtain⟨h5,h7⟩:=h3 j v hj;refine⟨by omega,λv'=>?_⟩;obtain⟨h8,h9⟩:=h7 v';rw[show j-i=(j-(i+1))+1 by omega];refine⟨?_,by simpa using h9⟩;simp only[Zo,Vz,if_false];rw[show X2 kv ((b,u)::Zo a v' m) (s::bs)={key:=kv b,val:=u,born:=s}::X2 kv (Zo a v' m) bs from rfl,h8];simp
theorem qQZ {α:Type} [DecidableEq α]{P:Program}{ke:Nat}{kv:α->Value}{fs:Array Field}(hu:P.underlying ke=some (.struct fs))
  (heq:∀(a b:α) (w:World),(Op.equal ke (kv a) (kv b)).run P w= .ok (decide (a=b)) w) (hc:∀b a w,(Instr.checkKey b 10000 ke (kv a)).run P w= .ok () w) (hb:∀a,Instr.sameBits 10000 (kv a) (kv a)=true):KeyQ P ke kv:=by
 refine⟨λa m bs w hl=>?_,hc,hb⟩;have key:=GU (P:=P) (ke:=ke) (kv:=kv) a w (λb=>heq a b w) m bs 0 hl;obtain⟨r,h1,h2,h3,h4⟩:=key;refine⟨r,?_,h2,λj v hj v'=>by simpa using (h3 j v hj).2 v',h4⟩;unfold Instr.findKey;simp only[Sem.run_bind,Ja hu,Result.andThen_ok];cases m with
 | nil=>
  simp only[X2,List.zip_nil_left,Bn,Instr.findNow,Sem.run_pure];simp[X2,Instr.findAsking] at h1;rw[h1]
 | cons p m=>
  cases bs with
  | nil=>simp at hl
  | cons s bs=>
   have e:X2 kv (p::m) (s::bs)={key:=kv p.1,val:=p.2,born:=s}::X2 kv m bs:=rfl;rw[e] at h1 ⊢;have hn:Instr.findNow (.struct fs) (kv a) ({key:=kv p.1,val:=p.2,born:=s}::X2 kv m bs) 0=none:=by
    simp[Instr.findNow,Instr.sameNow]
   rw[hn];exact h1
structure MapQ {α:Type} (kv:α->Value) (w:World) (r:Nat) (m:List (α×Value)):Prop where
 ex:∃bs ck,bs.length=m.length/\bs.Nodup/\(∀b∈bs,b<ck)/\w.heap[r]? =some (.map (X2 kv m bs).toArray ck)
theorem MapQ.ext {α:Type}{kv:α->Value}{w w':World}{r:Nat}{m:List (α×Value)}(h:MapQ kv w r m)(k:Ext w w'):MapQ kv w' r m:=by
 obtain⟨bs,ck,hl,h1,h2,hb⟩:=h.ex;exact⟨bs,ck,hl,h1,h2,(k.block r (gF.1 hb).1 (by simp)).trans hb⟩
theorem MapQ.mod {α:Type}{kv:α->Value}{S:Nat->Prop}{w w':World}{r:Nat}{m:List (α×Value)}(h:MapQ kv w r m)(k:Mod S w w')(hn:¬S r):MapQ kv w' r m:=by
 obtain⟨bs,ck,hl,h1,h2,hb⟩:=h.ex;exact⟨bs,ck,hl,h1,h2,(k.block r (gF.1 hb).1 hn).trans hb⟩
theorem uv {α:Type}{c:Cx}(_:c.g.Ok){o:Oper}{S:Env}{w:World}{K:Env->World->Prop}{Q:Zs}{t:Nat}(kv:α->Value)(ho:o.op= .makeMap t none)
  (k:∀w1,Ext w w1->w1.heap.size=w.heap.size+1->MapQ kv w1 w.heap.size []->Xf c S o.dst (.v (.map (some w.heap.size))) (λS=>K S w1)):Zh c o S w K Q:=by
 refine JT (w':=w.alloc (.map #[] 0)) (λa hf=>?_) (k _ (Ext.alloc w _) (by simp) ⟨[],0,rfl,List.nodup_nil,by simp,heap_alloc_new w _⟩);simp[execOp,ho,Instr.makeMap]
section
variable {α:Type} [DecidableEq α] {kv:α->Value} {c:Cx} {o:Oper} {S:Env} {w:World} {K:Env->World->Prop} {Q:Zs} {t ke e:Nat} {r re:TyRow} {x y:Operand} {q:Nat} {m:List (α×Value)} {a:α}
theorem R5 (hg:c.g.Ok)(hr:Q0 c.g.tys t=some r)(hd:r.d= .map ke e)(Zc:Q0 c.g.tys e=some re)(hk:KeyQ c.g.P ke kv)(hm:MapQ kv w q m)(ok:Bool):
  (Instr.lookup t (.map (some q)) (kv a) ok).run c.g.P w= .ok (if ok then .tuple #[(XG a m).getD re.z,.bool (XG a m).isSome] else(XG a m).getD re.z) w:=by
 have Q5:=(hg.row hr).1;rw[hd] at Q5;obtain⟨_,i,hi,_,_,dv⟩:=hg.row Zc;obtain⟨bs,ck,hl,_,_,hb⟩:=hm.ex;obtain⟨res,h1,h2,_,_⟩:=hk.find a m bs w hl;have fu:(getObj q).run c.g.P w= .ok (.map (X2 kv m bs).toArray ck) w:=by simp[getObj,Sem.run,hb]
 have hz:(zeroValue e).run c.g.P w= .ok re.z w:=by simp[zeroValue,typeInfo,hi,dv]
 simp only[Instr.lookup,Sem.run_bind,Ja Q5,Result.andThen_ok,fu,Sem.run_pure,hk.check,h1];rw[<-h2];cases res with
 | none=>cases ok<;>simp[hz]
 | some p=>cases ok<;>simp
theorem GV (hg:c.g.Ok)(ho:o.op= .lookup t x y true)(hr:Q0 c.g.tys t=some r)(hd:r.d= .map ke e)(Zc:Q0 c.g.tys e=some re)(hk:KeyQ c.g.P ke kv)
  (hx:S.ev x=some (.map (some q))) (hy:S.ev y=some (kv a)) (hm:MapQ kv w q m)
  (k:Xf c S o.dst (.v (.tuple #[(XG a m).getD re.z,.bool (XG a m).isSome])) (λS=>K S w)):Zh c o S w K Q:=by
 refine JT (w':=w) (λb hf=>?_) k;have e1:=hf.ev hx;have e2:=hf.ev hy;have:=R5 (w:=w) (a:=a) hg hr hd Zc hk hm true;simp only[execOp,ho,e1,e2];simp only[Sem.run_bind,this,Result.andThen_ok];simp
theorem R6 {α:Type} [DecidableEq α](a:α)(v:Value):∀(m:List (α×Value)),(XG a m).isSome->(Zo a v m).length=m.length
 | [],h=>by simp[XG] at h
 | (b,x)::m,h=>by
  simp only[Zo];split
  ·simp
  ·rename_i Vz;simp[R6 a v m (by simpa [XG,Vz] using h)]
theorem uw {v:Value}{z:Operand}(hg:c.g.Ok)(ho:o.op= .mapUpdate t x y z)(jL:o.dst=none)(hr:Q0 c.g.tys t=some r)(hd:r.d= .map ke e)(hk:KeyQ c.g.P ke kv)
  (hx:S.ev x=some (.map (some q))) (hy:S.ev y=some (kv a)) (hz:S.ev z=some v) (hm:MapQ kv w q m)
  (k:∀w1,Mod (·=q) w w1->w1.heap.size=w.heap.size->MapQ kv w1 q (Zo a v m)->K S w1):Zh c o S w K Q:=by
 have Q5:=(hg.row hr).1;rw[hd] at Q5;obtain⟨bs,ck,hl,hnd,OB,hb⟩:=hm.ex;have Xa:q<w.heap.size:=(gF.1 hb).1;obtain⟨res,h1,h2,h3,h4⟩:=hk.find a m bs w hl;have fu:(getObj q).run c.g.P w= .ok (.map (X2 kv m bs).toArray ck) w:=by simp[getObj,Sem.run,hb]
 have gw:∀ob,(setObj q ob).run c.g.P w= .ok () {w with heap:=w.heap.setIfInBounds q ob}:=λob=>by simp[setObj,Sem.run,hb]
 have main:∃ob,(Instr.mapUpdate t (.map (some q)) (kv a) v).run c.g.P w= .ok () {w with heap:=w.heap.setIfInBounds q ob}/\∃aI ck',aI.length=(Zo a v m).length/\aI.Nodup/\(∀b∈aI,b<ck')/\ob= .map (X2 kv (Zo a v m) aI).toArray ck':=by
  cases res with
  | none=>
   refine⟨_,?_,bs++ [ck],ck+1,?_,?_,?_,rfl⟩
   ·simp only[Instr.mapUpdate,Sem.run_bind,Ja Q5,Result.andThen_ok,fu,hk.check,h1,gw];rw[h4 rfl v];congr 4;simp only[X2];rw[List.zip_append hl.symm,WR];simp
   ·rw[h4 rfl v];simp[hl]
   ·rw[PI];refine⟨hnd,by simp,λx hx y hy=>?_⟩;simp at hy;have:=OB x hx;omega
   ·intro b hb';simp only[XP,QO] at hb';rcases hb' with hb' | rfl
    ·have:=OB b hb';omega
    ·omega
  | some p=>
   obtain⟨j,u⟩:=p;obtain⟨h8,h9⟩:=h3 j u rfl v;have Oz:(((X2 kv m bs).toArray[j]?).map (·.key)).getD (kv a)=kv a:=by
    rw[show(X2 kv m bs).toArray[j]? =(X2 kv m bs)[j]? from by simp,h9]<;>rfl
   refine⟨_,?_,bs,ck,?_,hnd,OB,rfl⟩
   ·simp only[Instr.mapUpdate,Sem.run_bind,Ja Q5,Result.andThen_ok,fu,hk.check,h1,Oz,Instr.keyThatStays,hk.bits,if_true,Sem.run_pure,gw];rw[h8];congr 4;simp
   ·rw[R6 a v m (by rw[<-h2];rfl),hl]
 obtain⟨ob,Jm,aI,ck',ep,oQF,oQG,rfl⟩:=main;unfold Zh;intro b hf;have e1:=hf.ev hx;have e2:=hf.ev hy;have e3:=hf.ev hz;unfold Oper.wp;have:(execOp b.eval o).run c.g.P w= .ok .skip {w with heap:=w.heap.setIfInBounds q (.map (X2 kv (Zo a v m) aI).toArray ck')}:=by
  simp only[execOp,ho,e1,e2,e3];simp[Jm]
 rw[this];refine⟨S,by rw[jL];simpa [Act.put] using hf,k _ ⟨rfl,rfl,rfl,by simp,λi _ hi=>?_⟩ (by simp) ⟨aI,ck',ep,oQF,oQG,?_⟩⟩
 ·simp only[F6];rw[if_neg (λe=>hi e.symm)]
 ·simp[Xa]
structure RangeQ {α:Type} (kv:α->Value) (w:World) (r q:Nat) (m L:List (α×Value)) (ZR:Option (α×Value)):Prop where
 ex:∃bs ck seen since,bs.length=m.length/\bs.Nodup/\(∀b∈bs,b<since)/\since<=ck/\w.heap[q]? =some (.map (X2 kv m bs).toArray ck)/\w.heap[r]? =some (.mapIter (some q) since seen ck)/\
  L=((m.zip bs).filter λp=> !seen.contains p.2).map (·.1)/\(∀p,ZR=some p->∃(b:Nat) (s:Array Nat),seen=s.push b/\(p,b)∈m.zip bs)
theorem RangeQ.mod {α:Type}{kv:α->Value}{S:Nat->Prop}{w w':World}{r q:Nat}{m L:List (α×Value)}{ZR:Option (α×Value)}(h:RangeQ kv w r q m L ZR)(k:Mod S w w')(hr:¬S r)(hq:¬S q):RangeQ kv w' r q m L ZR:=by
 obtain⟨bs,ck,seen,since,h1,h2,h3,h4,h5,h6,h7⟩:=h.ex;exact⟨bs,ck,seen,since,h1,h2,h3,h4,(k.block q (gF.1 h5).1 hq).trans h5,(k.block r (gF.1 h6).1 hr).trans h6,h7⟩
theorem RangeQ.ext {α:Type}{kv:α->Value}{w w':World}{r q:Nat}{m L:List (α×Value)}{ZR:Option (α×Value)}(h:RangeQ kv w r q m L ZR)(k:Ext w w'):RangeQ kv w' r q m L ZR:=
 h.mod (Mod.of_ext (λ_=>False) k) (λh=>h) (λh=>h)
end
section
variable {α:Type} {kv:α->Value} {c:Cx} {o:Oper} {S:Env} {w:World} {K:Env->World->Prop} {Q:Zs} {t ke e:Nat} {r:TyRow} {x:Operand} {q it:Nat} {m L:List (α×Value)} {ZR:Option (α×Value)}
end
end
section
section
theorem gQb {p:Nat->Bool}{l:List Nat}(h:l.all p=true):l.takeWhile p=l:=by
 induction l with
 | nil=>rfl
 | cons x l ih=>
  simp only[Bm,Z9] at h;rw[an,Qf h.1,ih h.2]
theorem GW (b:Nat)(l:List Nat):VY (b::l)=if isDig b then 0 else((b::l).takeWhile Zi).length:=rfl
theorem R7 (l:List Nat):VY l<=l.length:=by
 cases l with
 | nil=>exact QB _
 | cons b l=>
  rw[GW];split
  ·exact Xo _
  ·exact(xa _).length_le
theorem R8 (l:List Nat)(w:World)(hl:∀x∈l,x<256)(QZ:l.length<=9223372036854775807):
  Fn Tryz.prog 191 [.string (Qd l)] w (λv w'=>v= .int .i64 (VY l:Nat)/\Ext w w'):=by
 refine QJ (c:={fQx with cuts:=[2]}) Qa Tryz.func191 rfl rfl rfl ?_;refine call (gQa l w hl) ?_;rintro v w1 ⟨rfl,Qe⟩;have hT:(l.takeWhile Zi).length<=l.length:=(xa _).length_le;refine gR [] Qa [3] (λn:Nat=>[.int .i64 n]) (λn w'=>w1=w'/\n=(l.takeWhile Zi).length) ?_ ?_
 ·cases ha:l.all Zi with
  | true=>
   rw[Qf rfl];refine Zy (by omega) ?_;exact⟨(Qd l).size,rfl,rfl,by rw[Q8,gQb ha]⟩
  | false=>
   rw[if_neg (by simp)];refine XJ (by omega) ?_;exact⟨(l.takeWhile Zi).length,rfl,rfl,rfl⟩
 rintro n _ ⟨rfl,hn⟩;cases l with
 | nil=>
  have:n=0:=by simpa using hn
  subst this;refine XJ (by omega) ?_;exact⟨rfl,Qe⟩
 | cons b l=>
  have LB:=hl b (by simp);have hS:(Qd (b::l)).size=l.length+1:=by rw[Q8]<;>rfl
  by_cases hd:isDig b=true
  ·have la:Zi b=true:=by unfold Zi;rw[hd,Bool.or_true]
   have Fs:48<=b/\b<=57:=by unfold isDig at hd;simpa using hd
   have kM:0<n:=by rw[hn,an,Qf la];simp
   refine Zy (by omega) ?_;refine dE (s:=Qd (b::l)) (j:=0) (by rw[hS];omega) (λx hx Ly=>?_);have JG:x=b:=by rw[Ws hl] at hx;simpa using hx.symm
   subst JG;refine Zy (by omega) ?_;refine dE (s:=Qd (x::l)) (j:=0) (by rw[hS];omega) (λy hy Lz=>?_);have fw:y=x:=by rw[Ws hl] at hy;simpa using hy.symm
   subst fw;refine Zy (by omega) ?_;exact⟨by rw[GW,Qf hd];rfl,Qe⟩
  ·have la:VY (b::l)=n:=by rw[GW,if_neg hd,hn]
   rw[la];by_cases kM:0<n
   ·have Fs:¬(48<=b/\b<=57):=λh=>hd (by unfold isDig;simpa using h)
    refine Zy (by omega) ?_;refine dE (s:=Qd (b::l)) (j:=0) (by rw[hS];omega) (λx hx Ly=>?_);have JG:x=b:=by rw[Ws hl] at hx;simpa using hx.symm
    subst JG;refine Qw (λh1=>?_) (λh1=>?_)
    ·refine dE (s:=Qd (x::l)) (j:=0) (by rw[hS];omega) (λy hy Lz=>?_);have fw:y=x:=by rw[Ws hl] at hy;simpa using hy.symm
     subst fw;refine XJ (by omega) ?_;exact⟨rfl,Qe⟩
    ·exact⟨rfl,Qe⟩
   ·refine XJ (by omega) ?_;exact⟨rfl,Qe⟩
def XH (l:List (List Nat)):List Value:=l.map λs=>.string (Qd s)
theorem lJ {l:List (List Nat)}{j:Nat}{s:List Nat}(h:l[j]? =some s):(XH l)[j]? =some (.string (Qd s)):=by simp[XH,h]
theorem bT (l:List (List Nat)):(XH l).length=l.length:=by simp[XH]
def WY:List Nat:=[116,114,117,101]
def dH:List Nat:=[102,97,108,115,101]
def aW (s:List Nat):Bool:=decide (s≠ []/\VY s=s.length/\s≠WY/\s≠dH)
def Y3:List (List Nat)->Nat->List (ByteArray×Value)->List (ByteArray×Value)
 | [],_,m=>m
 | s::l,i,m=>Y3 l (i+1) (Zo (Qd s) (.int .i64 (i:Nat)) m)
theorem R9:∀(l:List (List Nat))(s:List Nat)(i:Nat)(m:List (ByteArray×Value)),Y3 (l++ [s]) i m=Zo (Qd s) (.int .i64 ((i+l.length:Nat):Int)) (Y3 l i m)
 | [],s,i,m=>rfl
 | t::l,s,i,m=>by
  simp only[Jo,Y3];rw[R9 l s (i+1)];congr 3;simp only[Q2];omega
end
section
theorem gQc {α:Type}{kv:α->Value}{c:Cx}(hg:c.g.Ok){o:Oper}{S:Env}{w:World}{K:Env->World->Prop}{Q:Zs}{t q ke e:Nat}{x:Operand}{m:List (α×Value)}{r:TyRow}
  (ho:o.op= .call ⟨.builtin .len, #[x], #[t]⟩) (hr:Q0 c.g.tys t=some r) (hd:r.d= .map ke e) (hx:S.ev x=some (.map (some q))) (hm:MapAt kv w q m)
  (k:Xf c S o.dst (.v (.int .i64 m.length)) (λS=>K S w)):Zh c o S w K Q:=by
 have Q5:=(hg.row hr).1;rw[hd] at Q5;obtain⟨bs,ck,hl,hb⟩:=hm.ex;refine JT (w':=w) (v:=.int .i64 m.length) (λa hf=>?_) k;have e1:=hf.ev hx;have fu:(getObj q).run c.g.P w= .ok (.map (X2 kv m bs).toArray ck) w:=by simp[getObj,Sem.run,hb]
 have ZF:(X2 kv m bs).length=m.length:=by simp[X2,hl]
 simp only[execOp,ho,resolve,invoke];simp[builtin,e1,Builtin.len_,Ja Q5,fu,goInt,ZF]
abbrev Yt:ByteArray->Value:=λs=>.string s
def Z1 (names:List (List Nat)):Bool:=decide (names.all aW=true/\(Y3 names 0 []).length=names.length/\names.length<=64)
theorem gQd {names:List (List Nat)}{j:Nat}{s:List Nat}(h:(names.take j).all aW=true)(hj:names[j]? =some s)(hs:aW s=true):(names.take (j+1)).all aW=true:=by
 rw[VF,hj];simp[List.all_append,h,hs]
theorem Sa {names:List (List Nat)}{j:Nat}{s:List Nat}(hj:names[j]? =some s)(hs:aW s≠true):Z1 names=false:=by
 unfold Z1;refine Zr (λh=>hs ?_);exact Ka.1 h.1 s (Xl hj)
theorem Sb {names:List (List Nat)}{j:Nat}{s:List Nat}(hj:names[j]? =some s):Y3 (names.take (j+1)) 0 []=Zo (Qd s) (.int .i64 (j:Nat)) (Y3 (names.take j) 0 []):=by
 have Xa:j<names.length:=(Jd.1 hj).1;rw[VF,hj];show Y3 (names.take j++ [s]) 0 []=_;rw[R9,Kx,nN (by omega),WQ]
def KO (names:List (List Nat)):Prop:=∀s∈names,(∀x∈s,x<256)/\s.length<=9223372036854775807
theorem GX (names:List (List Nat))(A:Option Addr)(n c:Nat)(w:World)(h:Sl w 1 A n c (XH names))(hb:KO names):
  Fn Tryz.prog 132 [.slice A n c] w (λv w'=>∃v1,v= .tuple #[v1,.bool (Z1 names)]/\Ext w w'/\(Z1 names=true->∃r,v1= .map (some r)/\w.heap.size<=r/\MapAt Yt w' r (Y3 names 0 []))):=by
 have hn:names.length=n:=by have:=h.len;rw[bT] at this;omega
 have LC:n<=9223372036854775807:=by have:=h.le;have:=h.cap;simp only[maxLen] at this;omega
 refine QJ (c:={eQV with cuts:=[]}) Qa Tryz.func132 rfl rfl rfl ?_;refine xC Qa Yt rfl ?_;intro w1 Qe Q6 ZE;refine loop Qa [10] (λs:Nat=>[.int .i64 s]) (λs w'=>Ext w w'/\s<=n/\(names.take s).all aW=true/\MapAt Yt w' w.heap.size (Y3 (names.take s) 0 [])) (λs _=>n-s) 0 rfl ⟨Qe,Xo _,rfl,ZE⟩ ?_;rintro s w3 ⟨Qi,bK,hall,XI⟩;refine Qw (λh3=>?_) (λh3=>?_)
 ·have qa:names[s]? =some names[s]:=Xu (by omega);generalize names[s]=t at qa;obtain⟨fe,Wd⟩:=hb t (Xl qa);refine KF (h.ext Qi) (by omega) (λad u hA hu Xq=>?_);rw[lJ qa] at hu;cases hu;refine load Xq ?_;have pQr:=Qi;have bad:aW t≠true->∀w',Ext w w'->∃v1,(.tuple #[.map none,.bool false]:Value)= .tuple #[v1,.bool (Z1 names)]/\Ext w w'/\(Z1 names=true->∃r,v1= .map (some r)/\w.heap.size<=r/\MapAt Yt w' r (Y3 names 0 [])):=λhb w' hE=>by
   refine⟨.map none,?_,hE,λh=>?_⟩
   ·rw[Sa qa hb]
   ·rw[Sa qa hb] at h;cases h
  have e0:((Qd t=(⟨#[]⟩:ByteArray))↔t=[]):=⟨λh=>Kn fe (by simp) h,λh=>by rw[h];rfl⟩
  have e1:((Qd t=(⟨#[116,114,117,101]⟩:ByteArray))↔t=WY):=⟨λh=>Kn fe (by decide) h,λh=>by rw[h];rfl⟩
  have e2:((Qd t=(⟨#[102,97,108,115,101]⟩:ByteArray))↔t=dH):=⟨λh=>Kn fe (by decide) h,λh=>by rw[h];rfl⟩
  by_cases h4:t=[]
  ·refine Zy (e0.2 h4) ?_;exact bad (by unfold aW;simp[h4]) _ Qi
  refine XJ (λh=>h4 (e0.1 h)) ?_;refine call (R8 t w3 fe Wd) ?_;rintro v w4 ⟨rfl,Qs⟩;have hs4:((Qd t).size:Int)=(t.length:Nat):=by rw[Q8]
  by_cases h5:¬VY t=t.length
  ·refine ri (λh=>h5 (by omega)) ?_;exact bad (by unfold aW;simp[h5]) _ (Qi.trans Qs)
  replace h5:=Decidable.not_not.1 h5;refine WX (by omega) ?_;by_cases h6:t=WY
  ·refine Zy (e1.2 h6) ?_;exact bad (by unfold aW;simp[h6]) _ (Qi.trans Qs)
  refine XJ (λh=>h6 (e1.1 h)) ?_;by_cases h7:t=dH
  ·refine Zy (e2.2 h7) ?_;exact bad (by unfold aW;simp[h7]) _ (Qi.trans Qs)
  refine XJ (λh=>h7 (e2.1 h)) ?_;have X5:aW t=true:=by unfold aW;simp[h4,h5,h6,h7]
  refine lI (kv:=Yt) (a:=Qd t) Qa rfl rfl rfl rfl rfl qQM rfl rfl rfl (XI.ext Qs) (λw5 JE _ XZ=>?_);refine Qj ((s+1:Nat):Int) (by omega) (by omega) ?_;refine⟨s+1,rfl,⟨(Qi.trans Qs).own JE (QB _),by omega,gQd hall qa X5,by rw[Sb qa];exact XZ⟩,by show n-(s+1)<n-s;omega⟩
 ·have:s=n:=by omega
  subst this;have ht:names.take s=names:=ZS (by omega);rw[ht] at hall XI;refine gQc (kv:=Yt) Qa rfl rfl rfl rfl XI ?_;refine X8 (λh4=>?_) (λh4=>?_)
  ·refine⟨.map (some w.heap.size),?_,Qi,λ_=>⟨_,rfl,QB _,XI⟩⟩;have:decide ((names.length:Int)<=64)=Z1 names:=by unfold Z1;exact xj.2 ⟨λh=>⟨hall,by omega,by omega⟩,λh=>by omega⟩
   rw[<-this,hn]
  ·refine⟨.map (some w.heap.size),?_,Qi,λ_=>⟨_,rfl,QB _,XI⟩⟩;have:Z1 names=false:=by unfold Z1;exact Zr (λh=>by omega)
   rw[this]
end
end
end Go.Proofs.YtjabbbcdgmlojaaGreatDoor
