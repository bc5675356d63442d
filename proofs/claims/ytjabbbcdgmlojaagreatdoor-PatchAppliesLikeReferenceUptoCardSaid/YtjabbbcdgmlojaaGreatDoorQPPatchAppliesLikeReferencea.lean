/-
  What PPatchAppliesLikeReference rests on, part 1 (wip/shake.py).
  Conditions: none.
-/
import Derived.Test.YtjabbbcdgmlojaaGreatDoorProg
import Derived.Test.YtjabbbcdgmlojaaGreatDoorRows
import Derived.WalkKit
import Derived.Deep.QuietTactic
import Derived.Laws.CopyOwn
import Derived.StillTail
import Derived.OrdersHeld
import Derived.Laws.StructEq
import Derived.Lib.AppendStr
import Derived.Shelf.Strings.Builder1
import Derived.Shelf.Strings.Builder2
import Derived.Shelf.Strings.OnBuilder
import Derived.Shelf.Small.Utf8
import Derived.Shelf.Small.Strs
import Derived.Shelf.Strings.BuilderF
import Derived.Shelf.Strings.Search1
import Derived.Shelf.Strings.Search2
import Derived.Shelf.Strings.Search3
import Derived.Shelf.Strings.Cut
import Derived.Shelf.Strings.Count
import Derived.Shelf.LaysM
import Derived.Shelf.Strings.Shaped
import Derived.Shelf.Strings.LastIndex
import Derived.Shelf.GgClosure.StringsIndexFunc
import Derived.Shelf.Strings.Prefix
import Derived.Shelf.Strings.Runes
import Derived.Shelf.Strings.AsciiSet
import Derived.Shelf.Unicode.DecodeSlow
import Derived.Lib.Builder
import Derived.Lib.UnsafeStr
import Derived.Maps.RangeRun
import Derived.Recover
import Derived.ChangeKeysEq
import Derived.Deep.Grids
import Derived.Below
import Derived.ProofKit
import Derived.OpenShut
import Derived.ShutString
import Derived.ChangeOld
import Derived.Deep.Slices
import Derived.ChangeSame
import Derived.WideShapes
import Derived.Deep.DeepHandedRow
import Derived.LaidLaws
import Derived.Lay
import Derived.SevenTiedAt
set_option linter.all false
set_option linter.deprecated false
set_option maxHeartbeats 12800000
namespace Go.Proofs.YtjabbbcdgmlojaaGreatDoor
open Go Go.RowKit
theorem ω{p:Prop}(h:p:=by omega):p:=h
theorem δ{p:Prop}(h:p:=by decide):p:=h
theorem κ{p:Prop}(h:p:=by kernel_rfl):p:=h
abbrev Θ:=Option Addr
abbrev Λ:=List (List Nat)
abbrev Γ:=List Nat
abbrev θ:=World
abbrev τ:=Value
abbrev χ:=List
noncomputable abbrev ψ:=Tryz.prog
abbrev φ:=@if_neg
section
abbrev Qf:=@if_pos
abbrev Qw:=@Nat.le_refl
abbrev Qy:=@List.length_append
abbrev QG:=@congrArg
abbrev Q6:=@List.getElem?_eq_getElem
abbrev Q9:=@Nat.zero_le
abbrev Xa:=@List.length_cons
abbrev Xd:=@List.mem_of_getElem?
abbrev Xg:=@absurd
abbrev Xx:=@List.mem_singleton
abbrev XI:=@List.mem_cons
abbrev XU:=@Nat.le_trans
abbrev XZ:=@decide_eq_false
abbrev X2:=@List.mem_append
abbrev Zg:=@decide_eq_true
abbrev ZJ:=@List.take_of_length_le
abbrev ZK:=@List.getElem?_eq_some_iff
abbrev Z4:=@Bool.and_eq_true
abbrev Z5:=@List.mem_map
abbrev Jz:=@List.length_nil
abbrev JB:=@run_underlying
abbrev JS:=@List.length_map
abbrev JT:=@List.take_add_one
abbrev JZ:=@Nat.lt_of_lt_of_le
abbrev KG:=@Int.min_def
abbrev KR:=@List.length_take
abbrev Vb:=@List.all_eq_true
abbrev VC:=@Nat.mul_one
abbrev VE:=@List.mem_filter
abbrev VT:=@List.eq_nil_of_length_eq_zero
abbrev VU:=@List.drop_eq_getElem_cons
abbrev YD:=@List.map_cons
abbrev YE:=@List.append_nil
abbrev YF:=@Bool.true_and
abbrev YV:=@Nat.eq_of_beq_eq_true
abbrev YW:=@Nat.zero_add
abbrev YX:=@decide_eq_true_eq
abbrev Wy:=@List.getElem?_map
abbrev Wz:=@List.length_drop
abbrev WW:=@List.append_assoc
abbrev WX:=@Int.toNat_natCast
abbrev WY:=@of_decide_eq_true
abbrev aw:=@List.mem_of_mem_take
abbrev ay:=@List.mem_flatMap
abbrev aY:=@Nat.mul_le_mul_right
abbrev aZ:=@List.getElem?_append_right
abbrev a8:=@List.mem_of_mem_drop
abbrev bZ:=@Nat.pow_le_pow_right
abbrev cI:=@List.takeWhile_cons
abbrev cJ:=@List.flatMap_append
abbrev dk:=@List.flatMap_cons
abbrev dm:=@List.drop_take
abbrev dq:=@Nat.mod_lt
abbrev dt:=@Bool.eq_false_iff
abbrev dZ:=@List.cons_append
abbrev d4:=@List.nil_append
abbrev d5:=@List.not_mem_nil
abbrev eW:=@List.getElem?_append_left
abbrev eX:=@or_false
abbrev fK:=@List.drop_of_length_le
abbrev fL:=@List.map_append
abbrev iU:=@Nat.lt_succ_self
abbrev jK:=@List.take_append_drop
abbrev jL:=@List.length_set
abbrev jM:=@Nat.succ_mul
abbrev jN:=@List.getElem?_set_ne
abbrev kQ:=@Nat.blt_eq
abbrev kR:=@Option.getD_some
abbrev kS:=@List.eq_nil_or_concat
abbrev mN:=@Bool.eq_iff_iff
abbrev mO:=@Nat.le_of_ble_eq_true
abbrev mP:=@List.drop_drop
abbrev mQ:=@Array.getElem?_eq_some_iff
abbrev mR:=@Nat.mod_eq_of_lt
abbrev mS:=@List.getElem?_set_self
abbrev mT:=@List.getElem?_take_of_lt
abbrev mU:=@List.length_pos_iff
abbrev mV:=@List.length_singleton
abbrev oV:=@Nat.min_eq_left
abbrev oW:=@List.getLast?_eq_getElem?
abbrev oY:=@List.mem_range
abbrev oZ:=@List.length_filter_le
abbrev o0:=@decide_eq_decide
abbrev rx:=@List.foldl_cons
abbrev ry:=@List.take_length
abbrev rz:=@Option.toList_some
abbrev rB:=@Int.le_refl
abbrev rC:=@Nat.pow_succ
abbrev rD:=@List.any_eq_true
abbrev ur:=@Nat.add_assoc
abbrev ut:=@List.reverse_cons
abbrev uu:=@List.getElem?_eq_none
abbrev uv:=@List.dropWhile_cons
abbrev uw:=@List.take_left'
abbrev ux:=@List.drop_eq_nil_of_le
abbrev uy:=@List.getLast?_cons_cons
abbrev xP:=@List.map_map
abbrev xQ:=@List.take_succ_cons
abbrev xR:=@Nat.add_mul
abbrev xS:=@List.isPrefixOf_iff_prefix
abbrev xT:=@List.all_cons
abbrev xU:=@List.mem_iff_getElem
abbrev xV:=@List.getElem?_drop
abbrev xW:=@List.mem_cons_of_mem
abbrev xX:=@List.filter_cons
abbrev xY:=@List.filter_append
abbrev AJ:=@List.drop_zero
abbrev AK:=@List.takeWhile_sublist
abbrev AL:=@Option.map_some
abbrev AM:=@List.count_cons
abbrev AN:=@Nat.mul_comm
abbrev AO:=@List.length_tail
abbrev AP:=@Bool.false_or
abbrev AQ:=@List.nodup_cons
abbrev AR:=@List.count_append
abbrev AT:=@List.head?_drop
abbrev AU:=@List.drop_left
abbrev AW:=@List.mem_iff_getElem?
abbrev AX:=@List.filter_nil
abbrev Fe:=@Nat.add_comm
abbrev Ff:=@Nat.add_zero
abbrev Fg:=@Nat.sub_self
abbrev Fh:=@List.ext_getElem?
abbrev Fi:=@List.eq_of_mem_replicate
abbrev Fj:=@List.take_append_of_le_length
abbrev Fk:=@List.count_le_length
abbrev Fl:=@List.head?_cons
abbrev Fo:=@Bool.or_assoc
abbrev Fp:=@List.getElem_mem
abbrev Fq:=@Bool.and_true
abbrev Fr:=@Nat.mul_le_mul
abbrev Fs:=@List.set_append_right
abbrev Ft:=@List.drop_length
abbrev Fu:=@List.filter_eq_nil_iff
abbrev Fv:=@List.append_cancel_right
abbrev Fw:=@List.flatMap_nil
abbrev Fx:=@List.foldl_append
abbrev Mp:=@List.getElem?_take
abbrev Mq:=@List.take_append
abbrev Mr:=@List.flatten_cons
abbrev Ms:=@List.ext_getElem
abbrev Mt:=@Array.getElem?_setIfInBounds
abbrev Mu:=@Option.map_eq_some_iff
abbrev Mv:=@List.nodup_append
abbrev Mw:=@List.all_append
abbrev Mx:=@Int.toNat_of_nonneg
abbrev My:=@List.find?_eq_none
abbrev Mz:=@Bool.not_eq_true
abbrev MB:=@List.take_take
abbrev MC:=@Nat.testBit_lt_two_pow
abbrev MD:=@Int.eq_ofNat_of_zero_le
abbrev ME:=@List.exists_mem_of_ne_nil
abbrev MF:=@List.filter_congr
abbrev UU:=@Array.toList_map
abbrev UV:=@List.replicate_succ
abbrev UW:=@Bool.false_eq_true
abbrev UX:=@List.dropWhile_suffix
abbrev UY:=@List.getElem?_toArray
abbrev UZ:=@List.count_pos_iff
abbrev U0:=@List.set_cons_zero
abbrev U4:=@List.count_cons_of_ne
abbrev U5:=@List.drop_succ_cons
abbrev U6:=@List.takeWhile_prefix
abbrev U7:=@Option.isSome_iff_exists
abbrev U8:=@List.length_reverse
abbrev U9:=@List.cons_ne_nil
abbrev aQa:=@List.mem_cons_self
abbrev aQb:=@List.mem_or_eq_of_mem_set
abbrev aQc:=@List.length_range
abbrev hQn:=@Array.setIfInBounds_comm
abbrev hQo:=@List.find?_cons_of_neg
abbrev hQp:=@List.mem_of_find?_eq_some
abbrev hQq:=@Nat.testBit_eq_decide_div_mod_eq
abbrev hQr:=@List.takeWhile_append_dropWhile
end
section
inductive Ent where
 |v (x:Value)
 |t
 |f
def Ent.val:Ent->τ|.v x=>x|.t=>.bool true|.f=>.bool false
abbrev Env:=List (Nat×Ent)
def Env.ent:Env->Nat->Option Ent|[],_=>none|(t,x)::S,k=>match Nat.beq t k with|true=>some x|false=>Env.ent S k
def Env.get (S:Env)(k:Nat):Option τ:=
 match S.ent k with|some (.v x)=>some x|some .t=>some (.bool true)|some .f=>some (.bool false)|none=>none
def Env.ev (S:Env):Operand->Option τ|.tmp t=>S.get t|.const v=>some v|.global g=>some (.pointer (some ⟨g,0,none⟩))|.func f=>some (.func (.func f) #[] #[])
theorem vQR (S:Env)(k:Nat):S.get k=(S.ent k).map Ent.val:=by unfold Env.get;cases S.ent k with|none=>rfl|some e=>cases e<;>rfl
structure Slots where
 n:Nat
 ds:List Deferred:=[]
instance (k:Nat):OfNat Slots k:=⟨⟨k,[]⟩⟩
structure Fits (N:Slots) (S:Env) (a:Act):Prop where
 size:a.tmps.size=N.n
 defers:a.defers=N.ds
 has:∀k x,S.ent k=some x->a.tmps[k]? =some x.val
theorem Fits.get {N:Slots}{S:Env}{a:Act}(h:Fits N S a){k:Nat}{v:τ}(b:S.get k=some v):a.tmps[k]? =some v:=by rw[vQR] at b;cases c:S.ent k with|none=>simp[c] at b|some e=>simp[c] at b;subst b;exact h.has k e c
theorem Fits.ev {N:Slots}{S:Env}{a:Act}(h:Fits N S a){x:Operand}{v:τ}(b:S.ev x=some v):a.eval x=v:=by cases x with|tmp t=>have:=h.get b;simp[Act.eval,this]|const u=>simp[Env.ev] at b;simp[Act.eval,b]|global g=>simp[Env.ev] at b;simp[Act.eval,b]|func f=>simp[Env.ev] at b;simp[Act.eval,b]
theorem Fits.put {N:Slots}{S:Env}{a:Act}(h:Fits N S a){d:Nat}(f:d<N.n)(e:Ent):Fits N ((d,e)::S) (a.put (some d) e.val):=by
 refine⟨by simp[Act.put,h.size],by simp[Act.put,h.defers],λk x b=>?_⟩;simp only[Env.ent] at b;cases c:Nat.beq d k with
 |true=>
  have:d=k:=YV c;subst this;simp only[c] at b;cases b;have:d<a.tmps.size:=by rw[h.size];exact f
  simp[Act.put,this]
 |false=>
  have f:d≠k:=λe=>by subst e;simp at c
  simp only[c] at b;simp[Act.put,f,h.has k x b]
structure TyRow where
 t:Nat
 d:TypeDesc
 sz:Nat
 by_:Nat
 z:Value
def aQd (P:Program)(r:TyRow):Prop:=P.underlying r.t=some r.d/\(P.info? r.t).map (λi=>(i.size,i.bytes,i.zero))=some (r.sz,r.by_,some r.z)
def Fy (P:Program)(f:FuncId):Prop:=∃a,P.funcs[f]? =some a/\a.body.isNone=false/\(a.name== "runtime.NumGoroutine")=false
structure MRow where
 t:Nat
 name:String
 f:Nat
 ptr:Bool
def MG:TypeDesc->Bool|.pointer _=>true|_=>false
def MOk (P:Program)(r:MRow):Prop:=
 (P.info? r.t).bind (λi=>(i.methods.find? (·.name==r.name)).map λm=>(m.path.isEmpty,m.func))=some (true,some (r.f,r.ptr))/\(P.underlying r.t).map MG=some r.ptr
structure ERow where
 t:Nat
 ks:Γ
def iV:Option TypeDesc->Nat|some (.int _)=>0|some .string=>1|some .bool=>2|_=>1000
def uz (P:Program):Nat->χ Field->Γ->Bool
 |_,[],[]=>true|n,f::l,k::ks=>f.name != "_" && Nat.beq f.offset n&&Nat.beq (iV (P.underlying f.type)) k&&Nat.blt k 3&&uz P (n+1) l ks
 |_,_,_=>false
def EOk (P:Program)(r:ERow):Prop:=
 P.stoodInHeld r.t=false/\P.eqGuardType P.depth r.t=false/\(match P.underlying r.t with|some (.struct a)=>uz P 0 a.toList r.ks|_=>false)=true
structure Gx where
 P:Program
 tys:List TyRow
 fns:Γ
 ms:List MRow:=[]
 eqs:List ERow:=[]
def FB (P:Program):χ MRow->Prop|[]=>True|r::l=>MOk P r/\FB P l
def FC (P:Program):χ ERow->Prop|[]=>True|r::l=>EOk P r/\FC P l
def AY:χ MRow->Nat->Option MRow|[],_=>none|r::l,t=>match Nat.beq r.t t with|true=>some r|false=>AY l t
def uA:χ ERow->Nat->Option ERow|[],_=>none|r::l,t=>match Nat.beq r.t t with|true=>some r|false=>uA l t
theorem hQs {P:Program}{l:χ MRow}{t:Nat}{r:MRow}(h:AY l t=some r)(b:FB P l):MOk P r/\r.t=t:=by
 induction l with
 |nil=>cases h
 |cons x l c=>simp only[AY] at h;cases a:Nat.beq x.t t with|true=>simp only[a] at h;cases h;exact⟨b.1,YV a⟩|false=>simp only[a] at h;exact c h b.2
theorem aQe {P:Program}{l:χ ERow}{t:Nat}{r:ERow}(h:uA l t=some r)(b:FC P l):EOk P r/\r.t=t:=by
 induction l with
 |nil=>cases h
 |cons x l c=>simp only[uA] at h;cases a:Nat.beq x.t t with|true=>simp only[a] at h;cases h;exact⟨b.1,YV a⟩|false=>simp only[a] at h;exact c h b.2
def FD (P:Program):χ TyRow->Prop|[]=>True|r::l=>aQd P r/\FD P l
def FE (P:Program):Γ->Prop|[]=>True|f::l=>Fy P f/\FE P l
structure Gx.Ok (g:Gx):Prop where
 tys:FD g.P g.tys
 fns':FE g.P g.fns
 mixed:g.P.follows .mixedOrders=true
 ms:FB g.P g.ms
 eqs:FC g.P g.eqs
def Q8:χ TyRow->Nat->Option TyRow|[],_=>none|r::l,t=>match Nat.beq r.t t with|true=>some r|false=>Q8 l t
theorem hQt {l:χ TyRow}{t:Nat}{r:TyRow}(h:Q8 l t=some r):r∈l/\r.t=t:=by
 induction l with
 |nil=>cases h
 |cons x l b=>simp only[Q8] at h;cases a:Nat.beq x.t t with|true=>simp only[a] at h;cases h;exact⟨by simp,YV a⟩|false=>simp only[a] at h;have:=b h;exact⟨by simp[this.1],this.2⟩
theorem Gx.Ok.row {g:Gx}(h:g.Ok){t:Nat}{r:TyRow}(b:Q8 g.tys t=some r):g.P.underlying t=some r.d/\∃i,g.P.info? t=some i/\i.size=r.sz/\i.bytes=r.by_/\i.zero=some r.z:=by
 obtain⟨a,rfl⟩:=hQt b;have c:∀l,FD g.P l->r∈l->aQd g.P r:=by
  intro l;induction l with
  |nil=>intro _ h;cases h
  |cons x l b=>intro h a;cases a with|head=>exact h.1|tail _ a=>exact b h.2 a
 obtain⟨d,b⟩:=c _ h.tys a;refine⟨d,?_⟩;cases a:g.P.info? r.t with|none=>simp[a] at b|some i=>simp[a] at b;exact⟨i,rfl,b.1,b.2.1,b.2.2⟩
theorem Gx.Ok.fns {g:Gx}(h:g.Ok):∀f∈g.fns,Fy g.P f:=by
 intro f;have a:∀l,FE g.P l->f∈l->Fy g.P f:=by
  intro l;induction l with
  |nil=>intro _ h;cases h
  |cons x l c=>intro h b;cases b with|head=>exact h.1|tail _ b=>exact c h.2 b
 exact a _ h.fns'
def jO (n:Nat):Γ->Bool|[]=>false|x::l=>match Nat.beq x n with|true=>true|false=>jO n l
theorem FF {n:Nat}{l:Γ}(h:jO n l=true):n∈l:=by
 induction l with
 |nil=>cases h
 |cons x l b=>simp only[jO] at h;cases a:Nat.beq x n with|true=>have:=YV a;simp[this]|false=>simp only[a] at h;simp[b h]
structure Cx where
 g:Gx
 N:Slots
 named:Nat
 keep:Γ
 cuts:Γ:=[]
abbrev ZD:=Exit->Env->World->Prop
def Up (c:Cx)(Q:ZD):Exit->Act->θ->Prop:=λe a w=>∃S,Fits c.N S a/\Q e S w
@[irreducible] def VV (b:Bool) (p q:Prop):Prop:=(b=true->p)/\(b=false->q)
@[irreducible] def d6 (n:Int) (K:Int->Prop):Prop:=K n
@[irreducible] def jP (p:Prop) (n:Int) (K:Int->Prop):Prop:=p/\K n
@[irreducible] def mW (p:Prop) (v:τ) (K:τ->Prop):Prop:=p/\K v
@[irreducible] def kT (w:θ) (p:Addr) (K:τ->Prop):Prop:=∃v,w.cell? p=some v/\K v
@[irreducible] def mX (w:θ) (p:Addr) (n:Nat) (K:χ τ->Prop):Prop:=∃a:χ τ,a.length=n/\(∀j v,a[j]? =some v->w.cell? (p.add j)=some v)/\K a
@[irreducible] def eY (w:θ) (p:Addr) (v:τ) (K:θ->Prop):Prop:=(∃u,w.cell? p=some u)/\w.frozen? p=false/\K (w.setCell p v)
@[irreducible] def uB (w:θ) (t:TypeId) (a:χ τ) (K:Addr->θ->Prop):Prop:=K ⟨w.heap.size,0,none⟩ (w.alloc (.cells a.toArray t))
@[irreducible] def o6 (P:Program) (w:θ) (p:Addr) (b:χ τ) (K:θ->Prop):Prop:=∃a,(storeCells p b).run P w= .ok () a/\K a
@[irreducible] def aQf (a b:String) (K:Prop):Prop:=a=b/\K
@[irreducible] def be (b:Θ) (n:Nat) (i:Int) (c:Nat) (K:Addr->Prop):Prop:=∃a,b=some a/\0<=i/\i<n/\K (a.add (i.toNat*c))
@[irreducible] def fM (s:ByteArray) (i:Int) (K:Int->Prop):Prop:=∃b,0<=i/\s[i.toNat]? =some b/\K (b.toNat:Int)
@[irreducible] def Fn (P:Program) (f:FuncId) (l:χ τ) (w:θ) (R:τ->θ->Prop):Prop:=Calls P f l.toArray w fun|.returned v,a=>R v a|_,_=>False
@[irreducible] def kU (P:Program) (f:FuncId) (l:χ τ) (w:θ) (K:τ->θ->Prop) (b:χ PanicEntry->θ->Prop):Prop:=Calls P f l.toArray w fun|.returned v,a=>K v a|.panicked c,a=>b c a|.outgrown,_=>False
@[irreducible] def aQg (c:Cx) (a:String) (t:Nat) (l:χ τ) (w:θ) (K:τ->θ->Prop) (b:χ PanicEntry->θ->Prop):Prop:=
 ∃r,AY c.g.ms t=some r/\a=r.name/\jO r.f c.g.fns=true/\kU c.g.P r.f l w K b
@[irreducible] def Zv (c:Cx) (o:Oper) (S:Env) (w:θ) (K:Env->θ->Prop) (Q:ZD):Prop:=
 ∀a,Fits c.N S a->o.wp c.g.P a w (λd e=>∃b,Fits c.N b d/\K b e) (Up c Q)
@[irreducible] def bf (c:Cx) (id:Nat) (b:χ Oper) (S:Env) (w:θ) (Q:ZD):Prop:=
 ∀a,Fits c.N S a->(Code.region id b.toArray true).wp c.g.P (Up c Q) a w
@[irreducible] def FG (c:Cx) (x:Code) (S:Env) (w:θ) (Q:ZD):Prop:=
 ∀a,Fits c.N S a->(Code.loop x).wp c.g.P (Up c Q) a w
@[irreducible] def o7 (c:Cx) (x:Code) (S:Env) (w:θ) (Q:ZD):Prop:=
 ∀a,Fits c.N S a->x.wp c.g.P (Up c Q) a w
inductive PR where
 |val (v:Value)
 |ent (e:Ent)
 |norm (k:IntKind) (n:Int)
 |normIf (p:Prop) (k:IntKind) (n:Int)
 |need (p:Prop) (v:Value)
 |no
def xZ:χ τ->Nat->Option τ|[],_=>none|x::_,0=>some x|_::l,n+1=>xZ l n
theorem aQh (l:χ τ)(n:Nat):xZ l n=l[n]? :=by induction l generalizing n with|nil=>simp[xZ]|cons x l a=>cases n<;>simp[xZ,a]
def uC:IntKind->Nat|.i8=>0|.i16=>1|.i32=>2|.i64=>3|.u8=>4|.u16=>5|.u32=>6|.u64=>7
theorem aQi {a b:IntKind}(h:Nat.beq (uC a) (uC b)=true):a=b:=by have:=YV h;cases a<;>cases b<;>first|rfl|(simp[uC] at this)
def MH (a:BinOp)(k:IntKind)(x y:Int):PR:=
 match a with|.add=>.norm k (k.wrap (x+y))|.sub=>.norm k (k.wrap (x-y))|.mul=>.norm k (k.wrap (x*y))|.quo=>.normIf (y≠0) k (k.wrap (x.tdiv y))|.rem=>.normIf (y≠0) k (x.tmod y)|.and=>.norm k (k.wrap ((BitVec.ofInt k.bits x &&& BitVec.ofInt k.bits y).toNat))|.or=>.norm k (k.wrap ((BitVec.ofInt k.bits x ||| BitVec.ofInt k.bits y).toNat))|.xor=>.norm k (k.wrap ((BitVec.ofInt k.bits x^^^BitVec.ofInt k.bits y).toNat))|.andNot=>.norm k (k.wrap ((BitVec.ofInt k.bits x &&& ~~~ BitVec.ofInt k.bits y).toNat))|.eql=>.val (.bool (x==y))|.neq=>.val (.bool (x !=y))|.lss=>.val (.bool (decide (x<y)))|.leq=>.val (.bool (decide (x<=y)))|.gtr=>.val (.bool (decide (x>y)))|.geq=>.val (.bool (decide (x≥y)))|_=>.no
def MI (op:BinOp)(k:IntKind)(x:Int)(a:IntKind)(y:Int):PR:=
 match op with|.shl=>.normIf (0<=y) k (k.wrap (x*2^(min y.toNat k.bits)))|.shr=>.normIf (0<=y) k (x.fdiv (2^(min y.toNat k.bits)))|op=>match Nat.beq (uC k) (uC a)with|true=>MH op k x y|false=>.no
def MJ (a:BinOp)(x y:ByteArray):PR:=
 match a with|.add=>.need (x.size+y.size<=maxLen) (.string (x++y))|.eql=>.val (.bool (decide (x=y)))|.neq=>.val (.bool (!decide (x=y)))|.lss=>.val (.bool (Op.bytesLess x.data.toList y.data.toList))|_=>.no
def ML:TypeDesc->τ->PR|.string,.string s=>.val (.int .i64 s.size)|.slice _,.slice _ n _=>.val (.int .i64 n)|_,_=>.no
def mY:TypeDesc->τ->τ->Option Bool|.bool,.bool a,.bool b=>some (a==b)|.slice _,.slice none _ _,.slice b _ _=>some b.isNone|.slice _,.slice (some _) _ _,.slice none _ _=>some false|.map _ _,.map none,.map b=>some b.isNone|.map _ _,.map (some _),.map none=>some false|.pointer _,.pointer none,.pointer b=>some b.isNone|.pointer _,.pointer (some _),.pointer none=>some false|.interface _,.nilIface,.iface _ _=>some false|.interface _,.iface _ _,.nilIface=>some false|.func _ _ _,.nilFunc,.nilFunc=>some true|.func _ _ _,.nilFunc,.func _ _ _=>some false|.func _ _ _,.func _ _ _,.nilFunc=>some false|_,_,_=>none
def gE:Γ->χ τ->χ τ->Option Bool
 |[],[],[]=>some true|0::ks,.int k a::xs,.int k' b::ys=>match Nat.beq (uC k) (uC k'),gE ks xs ys with
  |true,some r=>some (a==b&&r)
  |_,_=>none
 |1::ks,.string a::xs,.string b::ys=>match gE ks xs ys with
  |some r=>some (decide (a=b)&&r)
  |none=>none
 |2::ks,.bool a::xs,.bool b::ys=>match gE ks xs ys with
  |some r=>some (a==b&&r)
  |none=>none
 |_,_,_=>none
def uD (a:BinOp)(r:Option Bool):PR:=
 match a,r with|.eql,some b=>.val (.bool b)|.neq,some b=>.val (.bool (!b))|_,_=>.no
def rF {α:Type}:χ α->Nat->Option α|[],_=>none|x::_,0=>some x|_::l,n+1=>rF l n
def uE:TypeDesc->Bool|.struct _=>true|.array _ _=>true|_=>false
def aQj:TypeDesc->Bool|.interface _=>true|_=>false
def Ki:τ->χ τ|.agg a=>a.toList|v=>[v]
def AZ:χ τ->χ τ->χ τ|[],a=>a|v::vs,_::a=>v::AZ vs a|_::_,[]=>[]
def Ym:Nat->χ τ->χ τ->χ τ|0,a,b=>AZ a b|n+1,a,c::b=>c::Ym n a b|_+1,_,[]=>[]
def A6 (g:Gx):χ Field->Option (χ (Nat×Nat))|[]=>some []|f::l=>match Q8 g.tys f.type,A6 g l with|some r,some m=>some ((f.offset,r.sz)::m)|_,_=>none
def x9 (b:Nat->Option (Nat×Nat)):χ τ->χ (Nat×τ)->Option (χ τ)
 |cells,[]=>some cells
 |cells,(i,v)::rest=>match b i with
  |some (a,c)=>(match Nat.beq (Ki v).length c,Nat.ble (a+(Ki v).length) cells.length with
   |true,true=>x9 b (Ym a (Ki v) cells) rest
   |_,_=>none)
  |none=>none
def uF (S:Env):χ Operand->Option (χ τ)|[]=>some []|x::l=>match S.ev x,uF S l with|some v,some m=>some (v::m)|_,_=>none
def mZ (S:Env):χ (Nat×Operand)->Option (χ (Nat×τ))|[]=>some []|(i,x)::l=>match S.ev x,mZ S l with|some v,some m=>some ((i,v)::m)|_,_=>none
def o8 (S:Env)(d:Int):Option Operand->Option Int|none=>some d|some x=>match S.ev x with|some (.int _ n)=>some n|_=>none
def ya (g:Gx)(S:Env):Op->PR
 |.move (.const (.bool true))|.assign (.const (.bool true))=>.ent .t|.move (.const (.bool false))|.assign (.const (.bool false))=>.ent .f|.move (.tmp t)|.assign (.tmp t)=>match S.ent t with
  |some e=>.ent e
  |none=>.no
 |.move x|.assign x=>match S.ev x with
  |some v=>.val v
  |none=>.no
 |.pick (.tmp t) a b=>match S.ent t with
  |some .t=>(match a with
   |.const (.bool true)=>.ent .t
   |.const (.bool false)=>.ent .f
   |.tmp u=>(match S.ent u with
    |some e=>.ent e
    |none=>.no)
   |a=>match S.ev a with
    |some v=>.val v
    |none=>.no)
  |some .f=>(match b with
   |.const (.bool true)=>.ent .t
   |.const (.bool false)=>.ent .f
   |.tmp u=>(match S.ent u with
    |some e=>.ent e
    |none=>.no)
   |b=>match S.ev b with
    |some v=>.val v
    |none=>.no)
  |_=>.no
 |.binOp op t x y _=>match S.ev x,S.ev y with
  |some (.int k a),some (.int k' b)=>MI op k a k' b
  |some (.string a),some (.string b)=>MJ op a b
  |some (.agg a),some (.agg b)=>(match uA g.eqs t with
   |some r=>uD op (gE r.ks a.toList b.toList)
   |none=>.no)
  |some a,some b=>(match Q8 g.tys t with
   |some r=>uD op (mY r.d a b)
   |none=>.no)
  |_,_=>.no
 |.unOp .not _ (.tmp t)=>match S.ent t with
  |some .t=>.ent .f
  |some .f=>.ent .t
  |some (.v (.bool b))=>.val (.bool (!b))
  |_=>.no
 |.unOp .neg _ x=>match S.ev x with
  |some (.int k n)=>.norm k (k.wrap (0-n))
  |_=>.no
 |.convert s t x=>match Q8 g.tys s,Q8 g.tys t,S.ev x with
  |some _,some ⟨_,.int k,_,_,_⟩,some (.int _ n)=>.norm k (k.wrap n)
  |some _,some ⟨_,.string,_,_,_⟩,some (.string s)=>.val (.string s)
  |_,_,_=>.no
 |.extract x i=>match S.ev x with
  |some (.tuple d)=>(match xZ d.toList i with
   |some v=>.val v
   |none=>.no)
  |_=>.no
 |.call ⟨.builtin .len,xs,d⟩=>match xs.toList,d.toList with
  |[x],[t]=>(match Q8 g.tys t,S.ev x with
   |some r,some v=>ML r.d v
   |_,_=>.no)
  |_,_=>.no
 |.call ⟨.builtin .min,xs,_⟩=>match xs.toList with
  |[x,y]=>(match S.ev x,S.ev y with
   |some (.int k a),some (.int _ b)=>.norm k (if b<a then b else a)
   |_,_=>.no)
  |[x,y,z]=>(match S.ev x,S.ev y,S.ev z with
   |some (.int k a),some (.int _ b),some (.int _ c)=>.norm k (if c<(if b<a then b else a)then c else(if b<a then b else a))
   |_,_,_=>.no)
  |_=>.no
 |.call ⟨.builtin .max,xs,_⟩=>match xs.toList with
  |[x,y]=>(match S.ev x,S.ev y with
   |some (.int k a),some (.int _ b)=>.norm k (if b>a then b else a)
   |_,_=>.no)
  |_=>.no
 |.nilCheck x=>match S.ev x with
  |some (.pointer (some p))=>.val (.pointer (some p))
  |some (.iface t v)=>.val (.iface t v)
  |some (.func (.func n) a b)=>.val (.func (.func n) a b)
  |_=>.no
 |.fieldAddr t x k=>match Q8 g.tys t,S.ev x with
  |some r,some (.pointer (some p))=>(match r.d with
   |.struct m=>(match rF m.toList k with
    |some f=>(match Q8 g.tys f.type with
     |some d=>(match Nat.beq d.sz 0 with
      |false=>.val (.pointer (some (p.add f.offset)))
      |true=>.no)
     |none=>.no)
    |none=>.no)
   |_=>.no)
  |_,_=>.no
 |.field t x k=>match Q8 g.tys t,S.ev x with
  |some r,some (.agg j)=>(match r.d with
   |.struct m=>(match rF m.toList k with
    |some f=>(match Q8 g.tys f.type with
     |some d=>(match uE d.d with
      |true=>.val (.agg ((j.toList.drop f.offset).take d.sz).toArray)
      |false=>(match xZ j.toList f.offset with
       |some v=>.val v
       |none=>.no))
     |none=>.no)
    |none=>.no)
   |_=>.no)
  |_,_=>.no
 |.build t d=>match Q8 g.tys t,mZ S d.toList with
  |some r,some d=>(match r.d with
   |.struct m=>(match A6 g m.toList with
    |some m=>(match x9 (rF m) r.z.cells.toList d with
     |some j=>.val (.agg j.toArray)
     |none=>.no)
    |none=>.no)
   |.array _ e=>(match Q8 g.tys e with
    |some m=>(match x9 (λi=>some (i*m.sz,m.sz)) r.z.cells.toList d with
     |some j=>.val (.agg j.toArray)
     |none=>.no)
    |none=>.no)
   |_=>.no)
  |_,_=>.no
 |.makeInterface t x=>match Q8 g.tys t,S.ev x with
  |some r,some v=>(match aQj r.d with
   |false=>.val (.iface t v)
   |true=>.no)
  |_,_=>.no
 |.makeFunc f xs d=>match uF S xs.toList,uF S d.toList with
  |some a,some b=>.val (.func f a.toArray b.toArray)
  |_,_=>.no
 |.slice t x lo hi none=>match Q8 g.tys t,S.ev x with
  |some ⟨_,.string,_,_,_⟩,some (.string s)=>(match o8 S 0 lo,o8 S s.size hi with
   |some l,some h=>.need (0<=l/\l<=h/\h<=s.size) (.string (s.extract l.toNat h.toNat))
   |_,_=>.no)
  |_,_=>.no
 |_=>.no
def PR.Means (w:θ)(r:Result Next):PR->Prop|.val v=>r= .ok (.value v) w|.ent e=>r= .ok (.value e.val) w|.norm k n=>r= .ok (.value (.int k n)) w|.normIf p k n=>p->r= .ok (.value (.int k n)) w|.need p v=>p->r= .ok (.value v) w|.no=>True
section
variable {g:Gx} {S:Env} {w:World} {ρ:Operand->Value}
theorem hQu (a:BinOp)(t:TypeId)(k:IntKind)(x y:Int)(b:a≠ .shl)(c:a≠ .shr):(MH a k x y).Means w (((binOp a t (.int k x) (.int k y)).run g.P w).andThen λv w=>.ok (.value v) w):=by
 cases a<;>first|(exact Xg rfl b)|(exact Xg rfl c)|skip
 all_goals simp[MH,PR.Means,binOp,Op.intArith,Op.intBits,Op.intCmp,Op.intDiv]
 all_goals (intro h;simp[h])
theorem hQv (a:BinOp)(t:TypeId)(k b:IntKind)(x y:Int):(MI a k x b y).Means w (((binOp a t (.int k x) (.int b y)).run g.P w).andThen λv w=>.ok (.value v) w):=by unfold MI;split;intro h;simp only[binOp,Op.shift];rw[φ ω];simp;intro h;simp only[binOp,Op.shift];rw[φ ω];simp;rename_i c d;split;rename_i e;have:=aQi e;subst this;exact hQu a t k x y c d;trivial
theorem A9 (a b:ByteArray):(a.toList==b.toList)=decide (a=b):=by rw[mN];simp[ByteArray.toList_eq];constructor;intro h;cases a;cases b;simp_all;intro h;rw[h]
theorem hQw (a:BinOp)(t:TypeId)(x y:ByteArray):(MJ a x y).Means w (((binOp a t (.string x) (.string y)).run g.P w).andThen λv w=>.ok (.value v) w):=by
 unfold MJ;split<;>simp only[PR.Means]
 intro h;have:¬((x.size+y.size:Nat):Int)>IntKind.i64.max:=by
  have a:IntKind.i64.max=9223372036854775807:=by decide
  rw[a];unfold maxLen at h;omega
 simp only[binOp,Op.stringOp];rw[φ this];simp;simp[binOp,Op.stringOp,A9];simp[binOp,Op.stringOp,A9];simp[binOp,Op.stringOp,ByteArray.toList_eq]
theorem bi (a:g.Ok){t:Nat}{r:TyRow}(b:Q8 g.tys t=some r)(w:θ):(underlying t).run g.P w= .ok r.d w:=
 JB (a.row b).1 w
theorem hQx (b:g.Ok){t:Nat}{r:TyRow}(c:Q8 g.tys t=some r)(d:TypeId)(v:τ):(ML r.d v).Means w (((Builtin.len_ #[t] d #[v]).run g.P w).andThen λv w=>.ok (.value v) w):=by
 have a:=bi b c w;unfold ML;split<;>simp only[PR.Means]
 rename_i h;simp[Builtin.len_,a,h,goInt];rename_i h;simp[Builtin.len_,a,h,goInt]
theorem hQy (c:g.Ok){t:Nat}{r:TyRow}(d:Q8 g.tys t=some r){x y:τ}{b:Bool}(h:mY r.d x y=some b)(n:Nat):(Op.equalIn (n+1) t x y).run g.P w= .ok b w:=by have e:=bi c d w;unfold mY at h;split at h<;>first|(simp only[Option.some.injEq] at h;subst h;rename_i a;simp[Op.equalIn,e,a];done)|cases h
theorem aQk (a:g.Ok){t:Nat}{r:TyRow}(c:Q8 g.tys t=some r){x y:τ}{b:Bool}(h:mY r.d x y=some b):(Op.equal t x y).run g.P w= .ok b w:=hQy a c h 9999
theorem hQz (c:BinOp)(t:TypeId)(x y:Operand){d:TypeDesc}{a b:τ}{r:Bool}(h:mY d a b=some r):eqGuard c t x y a b=pure ():=by unfold mY at h;split at h<;>first|(simp only[eqGuard];split<;>rfl)|cases h
theorem hQA (c:g.Ok)(f:BinOp){t:Nat}{r:TyRow}(d:Q8 g.tys t=some r)(x y:τ):(uD f (mY r.d x y)).Means w (((binOp f t x y).run g.P w).andThen λv w=>.ok (.value v) w):=by
 unfold uD;split;rename_i b a;have h:=aQk (w:=w) c d a;have e:binOp .eql t x y=(do pure (.bool (<-Op.equal t x y))):=by unfold mY at a;split at a<;>first|rfl|cases a
 simp[PR.Means,e,h];rename_i b a;have h:=aQk (w:=w) c d a;have e:binOp .neq t x y=(do pure (.bool (!(<-Op.equal t x y)))):=by unfold mY at a;split at a<;>first|rfl|cases a
 simp[PR.Means,e,h];trivial
theorem hQB {P:Program}{t:TypeId}(h:iV (P.underlying t)<3)(w:θ):(isAgg t).run P w= .ok false w:=by cases a:P.underlying t with|none=>rw[a] at h;simp[iV] at h|some d=>simp only[isAgg,Sem.run_bind,JB a,Result.andThen_ok];rw[a] at h;cases d<;>first|rfl|(simp[iV] at h)
theorem fN {P:Program}{t:TypeId}(h:iV (P.underlying t)<3){cs:Array τ}{n:Nat}{v:τ}(a:cs[n]? =some v)(w:θ):(part t cs n).run P w= .ok v w:=by simp[part,hQB h,a]
theorem MN {P:Program}{A C:Array τ}:∀(q:χ Field)(t:Γ)(n:Nat)(z B:χ τ)(b:Bool),uz P n q t=true->gE t z B=some b->(∀j,z[j]? =A[n+j]?)->(∀j,B[j]? =C[n+j]?)->∀(d:Nat) (w:θ),(Op.eqFields (d+1) A C q).run P w= .ok b w
 |[],[],n,[],[],b,_,h,_,_,d,w=>by simp only[gE,Option.some.injEq] at h;subst h;simp[Op.eqFields]|[],[],_,[],_::_,_,_,h,_,_,_,_=>by simp[gE] at h|[],[],_,_::_,_,_,_,h,_,_,_,_=>by simp[gE] at h|[],_::_,_,_,_,_,hb,_,_,_,_,_=>by simp[uz] at hb|_::_,[],_,_,_,_,hb,_,_,_,_,_=>by simp[uz] at hb
 |f::q,k::t,n,z,B,b,hb,h,hx,hy,d,w=>by
  simp only[uz,Z4,bne_iff_ne,ne_eq] at hb;obtain⟨⟨⟨⟨L,y⟩,c⟩,D⟩,M⟩:=hb;have y:=YV y;have c:=YV c;have D:k<3:=by rw[kQ] at D;exact D
  have E:iV (P.underlying f.type)<3:=by omega
  have i:∀(u v:τ) (m o:χ τ) (e r:Bool),z=u::m->B=v::o->gE t m o=some r->(Op.equalIn (d+1) f.type u v).run P w= .ok e w->
    (Op.eqFields (d+1) A C (f::q)).run P w= .ok (e&&r) w:=by
   rintro u v m o e r rfl rfl I H;have g:A[f.offset]? =some u:=by rw[y];simpa using (hx 0).symm
   have J:C[f.offset]? =some v:=by rw[y];simpa using (hy 0).symm
   have K:=MN q t (n+1) m o r M I (λj=>by have:=hx (j+1);simpa [ur,Fe 1 j] using this) (λj=>by have:=hy (j+1);simpa [ur,Fe 1 j] using this) d w;simp only[Op.eqFields,ne_eq,L,not_false_eq_true,if_true,Sem.run_bind,fN E g,fN E J,Result.andThen_ok,H];cases e with|true=>simpa using K|false=>simp
  unfold gE at h;split at h;simp at*;rename_i x N a m O F o l;simp only[List.cons.injEq] at l;obtain⟨rfl,rfl⟩:=l;split at h;rename_i r G s;have:=aQi G;subst this;simp only[Option.some.injEq] at h;subst h;cases g:P.underlying f.type with|none=>rw[g] at c;simp[iV] at c|some p=>rw[g] at c;cases p<;>first|(exact i _ _ _ _ _ _ rfl rfl s (run_equalIn_int w d f.type _ _ _ _ g))|(simp[iV] at c)
  cases h;rename_i x a m F o l;simp only[List.cons.injEq] at l;obtain⟨rfl,rfl⟩:=l;split at h;rename_i r s;simp only[Option.some.injEq] at h;subst h;cases g:P.underlying f.type with|none=>rw[g] at c;simp[iV] at c|some p=>rw[g] at c;cases p<;>first|(refine i _ _ _ _ _ _ rfl rfl s ?_;rw[run_equalIn_string w d f.type _ _ g,A9];done)|(simp[iV] at c)
  cases h;rename_i x a m F o l;simp only[List.cons.injEq] at l;obtain⟨rfl,rfl⟩:=l;split at h;rename_i r s;simp only[Option.some.injEq] at h;subst h;cases g:P.underlying f.type with|none=>rw[g] at c;simp[iV] at c|some p=>rw[g] at c;cases p<;>first|(exact i _ _ _ _ _ _ rfl rfl s (run_equalIn_bool' w d f.type _ _ g))|(simp[iV] at c)
  cases h;cases h
theorem aQl (k:g.Ok){t:Nat}{r:ERow}(l:uA g.eqs t=some r){c d:Array τ}{b:Bool}(h:gE r.ks c.toList d.toList=some b)(n:Nat):(Op.equalIn (n+2) t (.agg c) (.agg d)).run g.P w= .ok b w:=by
 obtain⟨⟨i,_,a⟩,rfl⟩:=aQe l k.eqs;split at a;rename_i fs f;have e:g.P.fieldsOf r.t=fs:=by simp[Program.fieldsOf,f]
 rw[run_equalIn_struct w (n+1) r.t c d (by rw[e];exact f) i,e];exact MN fs.toList r.ks 0 _ _ b a h (λj=>by simp) (λj=>by simp) n w;cases a
theorem hQC (f:g.Ok)(a:BinOp){t:Nat}{r:ERow}(i:uA g.eqs t=some r)(x y:Operand)(c d:Array τ):(uD a (gE r.ks c.toList d.toList)).Means w (((eqGuard a t x y (.agg c) (.agg d)).run g.P w).andThen λ_ w=>((binOp a t (.agg c) (.agg d)).run g.P w).andThen λv w=>.ok (.value v) w):=by
 have j:∀a,(eqGuard a t x y (.agg c) (.agg d)).run g.P w= .ok () w:=λa=>by obtain⟨⟨_,k,_⟩,rfl⟩:=aQe i f.eqs;exact run_eqGuard_agg w a r.t x y c d k
 unfold uD;split;rename_i b e;have h:=aQl (w:=w) f i e 9998;simp only[PR.Means,j,Result.andThen_ok,run_eql_struct];rw[h]<;>rfl
 rename_i b e;have h:=aQl (w:=w) f i e 9998;simp only[PR.Means,j,Result.andThen_ok,run_neq_struct];rw[h]<;>rfl
 trivial
theorem aQm {α:Type}{a:Array α}{x:α}(h:a.toList=[x]):a= #[x]:=by cases a;simp_all
theorem aQn {α:Type}{a:Array α}{x y:α}(h:a.toList=[x,y]):a= #[x,y]:=by cases a;simp_all
theorem hQD {α:Type}{a:Array α}{x y z:α}(h:a.toList=[x,y,z]):a= #[x,y,z]:=by cases a;simp_all
theorem MO {α:Type}(l:χ α)(n:Nat):rF l n=l[n]? :=by induction l generalizing n with|nil=>simp[rF]|cons x l a=>cases n<;>simp[rF,a]
theorem uG (v:τ):v.cells.toList=Ki v:=by cases v<;>rfl
theorem aQo (a:χ τ)(v:τ):∀(n:Nat)(l:χ τ),Ym (n+1) a (l.set n v)=Ym n (v::a) l|0,[]=>rfl|0,_::_=>rfl|_+1,[]=>rfl|n+1,c::l=>by show c::Ym (n+1) a (l.set n v)=c::Ym n (v::a) l;rw[aQo a v n l]
theorem aQp:∀(n:Nat)(l:χ τ),Ym n [] l=l|0,_=>rfl|_+1,[]=>rfl|n+1,c::l=>by show c::Ym n [] l=c::l;rw[aQp n l]
theorem aQq (a:Nat):∀(b:χ τ)(k:Nat)(l:χ τ),(b.zipIdx k).foldl (λc (p:τ×Nat)=>c.set (a+p.2) p.1) l=Ym (a+k) b l|[],_,_=>(aQp _ _).symm|v::b,k,l=>by rw[List.zipIdx_cons,rx,aQq a b (k+1)];exact aQo b v (a+k) l
theorem aQr (a:Nat)(b cells:Array τ):(b.zipIdx.foldl (λd (c,j)=>d.setIfInBounds (a+j) c) cells).toList=Ym a b.toList cells.toList:=by have h:=aQq a b.toList 0 cells.toList;rw[Ff] at h;rw[<-Array.foldl_toList,Array.toList_zipIdx,<-h];clear h;generalize b.toList.zipIdx 0=l;induction l generalizing cells with|nil=>rfl|cons p l a=>simp only[rx];rw[a];simp
theorem MQ (f:Nat->Option (Nat×Nat)):∀(b:χ (Nat×τ))(cells:Array τ)(a:χ τ),x9 f cells.toList b=some a->Instr.fill f cells b=some a.toArray
 |[],cells,a,h=>by simp only[x9,Option.some.injEq] at h;subst h;simp[Instr.fill]
 |(i,v)::rest,cells,a,h=>by
  simp only[x9] at h;split at h;rename_i e sz j;split at h;rename_i c d;have c:=YV c;have d:=mO d;have g:v.cells.size=sz:=by rw[<-c,<-uG];simp
  have k:e+v.cells.size<=cells.size:=by rw[g,<-c];simpa using d
  simp only[Instr.fill,j];rw[φ (by simp;omega)];refine MQ f rest _ a ?_;rw[aQr,uG];exact h;cases h;cases h
theorem aQs (a:g.Ok):∀(l:χ Field)(m:χ (Nat×Nat)),A6 g l=some m->(l.mapM (m:=Sem) λf=>Prod.mk f.offset <$> sizeOf f.type).run g.P w= .ok m w
 |[],m,h=>by simp only[A6,Option.some.injEq] at h;subst h;simp
 |f::l,m,h=>by
  simp only[A6] at h;split at h;rename_i r n d c;simp only[Option.some.injEq] at h;subst h;obtain⟨_,i,b,e,_⟩:=a.row d;have k:=aQs a l n c;have j:(sizeOf f.type).run g.P w= .ok r.sz w:=by simp[sizeOf,typeInfo,b,e]
  rw[List.mapM_cons];simp[j,k];cases h
theorem FH {ρ:Operand->τ}(a:∀x v,S.ev x=some v->ρ x=v):∀(l:χ Operand)(m:χ τ),uF S l=some m->l.map ρ=m|[],m,h=>by simp only[uF,Option.some.injEq] at h;subst h;rfl|x::l,m,h=>by simp only[uF] at h;split at h;rename_i v d c b;simp only[Option.some.injEq] at h;subst h;rw[YD,a _ _ c,FH a l d b];cases h
theorem MR {ρ:Operand->τ}(a:∀x v,S.ev x=some v->ρ x=v):∀(l:χ (Nat×Operand))(m:χ (Nat×τ)),mZ S l=some m->l.map (λ(i,x)=>(i,ρ x))=m|[],m,h=>by simp only[mZ,Option.some.injEq] at h;subst h;rfl|(i,x)::l,m,h=>by simp only[mZ] at h;split at h;rename_i v b d c;simp only[Option.some.injEq] at h;subst h;rw[YD,MR a l b c];show(i,ρ x)::b=_;rw[a _ _ d];cases h
theorem aQt {ρ:Operand->τ}(e:∀x v,S.ev x=some v->ρ x=v){x:Operand}{n:Int}{d:Int}(h:o8 S d (some x)=some n)(y:Nat)(b:0<=n/\n<=y)(a:BoundsCode):(Instr.sliceBound (ρ x) y a).run g.P w= .ok n.toNat w:=by unfold o8 at h;simp only at h;split at h;rename_i k m c;simp only[Option.some.injEq] at h;subst h;rw[e _ _ c];simp[Instr.sliceBound,asIntOf,b];cases h
theorem hQE {ρ:Operand->τ}(i:∀x v,S.ev x=some v->ρ x=v){c b:Option Operand}{l h:Int}{n:Nat}(j:o8 S 0 c=some l)(e:o8 S n b=some h)(k:0<=l/\l<=h/\h<=n):(Instr.sliceBounds false n n (c.map ρ) (b.map ρ) none).run g.P w= .ok (l.toNat,h.toNat,n) w:=by
 have m:∀x,c=some x->∀y:Nat,h=(y:Int)->∀a,(Instr.sliceBound (ρ x) y a).run g.P w= .ok l.toNat w:=λx f y o a=>aQt i (d:=0) (by rw[<-f];exact j) y ⟨k.1,ω⟩ a;have o:∀x,b=some x->∀a,(Instr.sliceBound (ρ x) n a).run g.P w= .ok h.toNat w:=λx f a=>aQt i (d:=n) (by rw[<-f];exact e) n ⟨ω,k.2.2⟩ a
 have a:h=((h.toNat:Nat):Int):=by omega
 cases c with
 |none=>
  have:l=0:=by simpa [o8] using j.symm
  subst this;cases b with
  |none=>
   have:h=n:=by simpa [o8] using e.symm
   subst this;simp[Instr.sliceBounds]
  |some y=>simp[Instr.sliceBounds,o y rfl]
 |some x=>
  cases b with
  |none=>
   have:h=n:=by simpa [o8] using e.symm
   subst this;simp[Instr.sliceBounds,m x rfl n rfl]
  |some y=>simp[Instr.sliceBounds,o y rfl,m x rfl _ a]
theorem hQF (p:g.Ok)(c:∀x v,S.ev x=some v->ρ x=v)(o:Oper):(ya g S o.op).Means w ((execOp ρ o).run g.P w):=by
 obtain⟨dst,N,ty,pos,aft,gd⟩:=o;simp only;have F:∀t e,S.ent t=some e->ρ (.tmp t)=e.val:=λt e h=>c _ _ (by
  simp only[Env.ev,Env.get];rw[h];cases e<;>rfl)
 unfold ya;split;have:=c (.const (.bool true)) _ rfl;simp[PR.Means,execOp,this,Ent.val];have:=c (.const (.bool true)) _ rfl;simp[PR.Means,execOp,this,Ent.val];have:=c (.const (.bool false)) _ rfl;simp[PR.Means,execOp,this,Ent.val];have:=c (.const (.bool false)) _ rfl;simp[PR.Means,execOp,this,Ent.val];split;rename_i e h;simp[PR.Means,execOp,F _ _ h];trivial;split;rename_i e h;simp[PR.Means,execOp,F _ _ h];trivial;split;rename_i e h;simp[PR.Means,execOp,c _ _ h];trivial;split;rename_i e h;simp[PR.Means,execOp,c _ _ h];trivial;rename_i t a b;split;rename_i h;have s:=F _ _ h;split;have:=c (.const (.bool true)) _ rfl;simp[PR.Means,execOp,s,this,Ent.val,asBool];have:=c (.const (.bool false)) _ rfl;simp[PR.Means,execOp,s,this,Ent.val,asBool];split;rename_i E;simp[PR.Means,execOp,s,F _ _ E,Ent.val,asBool];trivial;split;rename_i E;simp[PR.Means,execOp,s,c _ _ E,Ent.val,asBool];trivial;rename_i h;have s:=F _ _ h;split;have:=c (.const (.bool true)) _ rfl;simp[PR.Means,execOp,s,this,Ent.val,asBool];have:=c (.const (.bool false)) _ rfl;simp[PR.Means,execOp,s,this,Ent.val,asBool];split;rename_i E;simp[PR.Means,execOp,s,F _ _ E,Ent.val,asBool];trivial;split;rename_i E;simp[PR.Means,execOp,s,c _ _ E,Ent.val,asBool];trivial;trivial;split;rename_i d C;have:=hQv (g:=g) (w:=w);simp only[execOp,c _ _ d,c _ _ C,eqGuard];split<;>simpa using this _ _ _ _ _ _
 rename_i d C;have:=hQw (g:=g) (w:=w);simp only[execOp,c _ _ d,c _ _ C,eqGuard];split<;>simpa using this _ _ _ _
 rename_i N t x y _ _ _ a b d C;cases u:uA g.eqs t with|none=>trivial|some r=>have:=hQC (w:=w) p N u x y a b;simp only[execOp,c _ _ d,c _ _ C];simpa using this
 rename_i N t x y _ _ _ a b _ _ _ d C;cases u:Q8 g.tys t with|none=>trivial|some r=>
  have:=hQA (w:=w) p N u a b;generalize ho:mY r.d a b=o at this;simp only[ho];cases o with
  |none=>unfold uD;split<;>first|trivial|(rename_i hn;cases hn)
  |some q=>simp only[execOp,c _ _ d,c _ _ C,hQz N t x y ho];simpa using this
 trivial;split;rename_i h;simp[PR.Means,execOp,F _ _ h,Ent.val,Op.unary];rename_i h;simp[PR.Means,execOp,F _ _ h,Ent.val,Op.unary];rename_i h;simp[PR.Means,execOp,F _ _ h,Ent.val,Op.unary];trivial;split;rename_i h;simp[PR.Means,execOp,c _ _ h,Op.unary,Op.intArith];trivial;split;rename_i G Y d;simp only[PR.Means,execOp,c _ _ d,convert];simp[bi p G,bi p Y,Conv.intToInt];rename_i G Y d;simp only[PR.Means,execOp,c _ _ d,convert];simp[bi p G,bi p Y];trivial;split;rename_i vs d;split;rename_i v H;rw[aQh,Array.getElem?_toList] at H;simp[PR.Means,execOp,c _ _ d,Instr.extract,H];trivial;trivial;split;rename_i x t B Yv;have s:=aQm B;have E:=aQm Yv;subst s E;split;rename_i r v u H;have:=hQx (w:=w) p u ty v;simpa [execOp,resolve,invoke,builtin,c _ _ H] using this;trivial;trivial;split;rename_i x y B;have s:=aQn B;subst s;split;rename_i d C;simp[PR.Means,execOp,resolve,invoke,builtin,c _ _ d,c _ _ C,Builtin.min_,Builtin.min2];trivial;rename_i x y z B;have s:=hQD B;subst s;split;rename_i d C J;simp[PR.Means,execOp,resolve,invoke,builtin,c _ _ d,c _ _ C,c _ _ J,Builtin.min_,Builtin.min2];trivial;trivial;split;rename_i x y B;have s:=aQn B;subst s;split;rename_i d C;simp[PR.Means,execOp,resolve,invoke,builtin,c _ _ d,c _ _ C,Builtin.max_,Builtin.max2];trivial;trivial;split;rename_i h;simp[PR.Means,execOp,c _ _ h];rename_i h;simp[PR.Means,execOp,c _ _ h];rename_i h;simp[PR.Means,execOp,c _ _ h];trivial;rename_i t x k;split;rename_i u d;split;rename_i L D;split;rename_i f M;split;rename_i rf R;split;rename_i J;have A:=bi p u w;rw[D] at A;obtain⟨_,i,I,G,_⟩:=p.row R;have aS:i.size≠0:=by rw[G];exact Nat.ne_of_beq_eq_false J
 rw[MO] at M;have O:L[k]? =some f:=by simpa using M
 simp[PR.Means,execOp,c _ _ d,Instr.fieldAt,A,O,Instr.sureAddr,fieldPlace,sizeOf,typeInfo,I,aS];trivial;trivial;trivial;trivial;trivial;rename_i t x k;split;rename_i K u d;split;rename_i L D;split;rename_i f M;have A:=bi p u w;rw[D] at A;rw[MO] at M;have O:L[k]? =some f:=by simpa using M
 split;rename_i rf R;have vD:=bi p R w;obtain⟨_,i,I,G,_⟩:=p.row R;have P:(isAgg f.type).run g.P w= .ok (uE rf.d) w:=by simp only[isAgg,Sem.run_bind,vD,Result.andThen_ok];cases rf.d<;>rfl
 split;rename_i U;simp[PR.Means,execOp,c _ _ d,Instr.field,A,O,asAgg,part,P,U,sizeOf,typeInfo,I,G];apply Array.ext';simp[List.take_drop];rename_i U;split;rename_i v H;rw[aQh] at H;have Z:K[f.offset]? =some v:=by simpa using H
 simp[PR.Means,execOp,c _ _ d,Instr.field,A,O,asAgg,part,P,U,Z];trivial;trivial;trivial;trivial;trivial;rename_i t j;split;rename_i r ps u fE;have tH:=MR c _ _ fE;have A:=bi p u w;obtain⟨_,i,I,G,Q,J⟩:=p.row u;have gQZ:(j.map λ(x:Nat×Operand)=>(x.1,ρ x.2)).toList=ps:=by rw[UU];exact tH
 split;rename_i L D;rw[D] at A;split;rename_i pl Jd;have XC:=aQs (w:=w) p _ _ Jd;split;rename_i K W;have T:=MQ _ _ _ _ W;have Eu:(L.mapM (m:=Sem) λf=>Prod.mk f.offset <$> sizeOf f.type).run g.P w= .ok pl.toArray w:=by rw[Array.mapM_eq_mapM_toList];simp[XC]
 have LK:(λi=>pl[i]?)=rF pl:=by funext i;rw[MO]
 have V:Instr.fill (λi=>pl[i]?) r.z.cells (j.toList.map λ(x:Nat×Operand)=>(x.1,ρ x.2))=some K.toArray:=by rw[LK];rw[show(j.toList.map λ(x:Nat×Operand)=>(x.1,ρ x.2))=ps from tH];exact T
 simp only[PR.Means,execOp,Instr.build,zeroValue,typeInfo];simp[I,J,A,Eu,V];trivial;trivial;rename_i n e D;rw[D] at A;split;rename_i re Za;obtain⟨_,i2,jj,cR,_⟩:=p.row Za;split;rename_i K W;have T:=MQ _ _ _ _ W;have V:Instr.fill (λi=>some (i*re.sz,re.sz)) r.z.cells (j.toList.map λ(x:Nat×Operand)=>(x.1,ρ x.2))=some K.toArray:=by rw[show(j.toList.map λ(x:Nat×Operand)=>(x.1,ρ x.2))=ps from tH];exact T
 simp only[PR.Means,execOp,Instr.build,zeroValue,typeInfo,sizeOf];simp[I,J,A,jj,cR,V];trivial;trivial;trivial;trivial;split;rename_i r v u d;split;rename_i D;have A:=bi p u w;simp only[PR.Means,execOp,c _ _ d,Instr.makeInterface];simp only[Sem.run_bind,A,Result.andThen_ok];cases hk:r.d<;>rw[hk] at D<;>first|(simp[aQj] at D;done)|simp
 trivial;trivial;rename_i f xs ys;split;rename_i a b P Q;have e1:=FH c _ _ P;have e2:=FH c _ _ Q;have X:xs.map ρ=a.toArray:=by apply Array.ext';simpa using e1
 have CW:ys.map ρ=b.toArray:=by apply Array.ext';simpa using e2
 simp[PR.Means,execOp,Instr.makeFunc,X,CW];trivial;split;rename_i u d;split;rename_i l h hl hh;intro hp;have Q:=hQE (g:=g) (w:=w) c hl hh hp;have A:=bi p u w;simp only[execOp,c _ _ d,Instr.sliceAt,Instr.slice];simp[A,Q];trivial;trivial;trivial
end
def XD (c:Cx)(S:Env)(a:Option Tmp)(e:Ent)(K:Env->Prop):Prop:=
 match a with|none=>K S|some d=>match Nat.blt d c.N.n with|true=>K ((d,e)::S)|false=>False
def jQ:χ τ->χ τ->(χ τ->Prop)->Prop|[],a,K=>K a|x::l,a,K=>jQ l (x::a) K
def uH (S:Env):χ Operand->χ τ->(χ τ->Prop)->Prop|[],a,K=>K a|x::xs,a,K=>match S.ev x with|some v=>uH S xs (v::a) K|none=>False
def o9 (t:Nat):Env->Bool|[]=>false|(k,_)::S=>match Nat.beq k t with|true=>true|false=>o9 t S
def FI (c:Cx)(t:Nat):Bool:=match Nat.blt t c.named with|true=>true|false=>jO t c.keep
def cK (p:Nat->Bool):Env->Env->(Env->Prop)->Prop
 |[],a,K=>K a
 |(t,x)::S,a,K=>match p t with
  |true=>(match o9 t a with
   |true=>cK p S a K
   |false=>cK p S ((t,x)::a) K)
  |false=>cK p S a K
def Kb:τ->Bool|.agg _=>false|.tuple _=>false|_=>true
def MS (c:Cx)(o:Oper)(S:Env)(w:θ)(K:Env->θ->Prop)(Q:ZD):Prop:=
 match o.op with
 |.load t x=>(match Q8 c.g.tys t,S.ev x with
  |some r,some (.pointer (some p))=>(match uE r.d with
   |false=>kT w p λv=>XD c S o.dst (.v v) λS=>K S w
   |true=>mX w p r.sz λa=>XD c S o.dst (.v (.agg a.toArray)) λS=>K S w)
  |_,_=>Zv c o S w K Q)
 |.store t x y=>(match Q8 c.g.tys t,S.ev x,S.ev y with
  |some r,some (.pointer (some p)),some v=>(match Kb v,Nat.beq r.sz 1,o.dst with
   |true,true,none=>eY w p v λw=>K S w
   |false,_,none=>(match v with
    |.agg a=>(match Nat.beq a.toList.length r.sz with
     |true=>o6 c.g.P w p a.toList λw=>K S w
     |false=>Zv c o S w K Q)
    |_=>Zv c o S w K Q)
   |_,_,_=>Zv c o S w K Q)
  |_,_,_=>Zv c o S w K Q)
 |.alloc e=>(match Q8 c.g.tys e with
  |some r=>uB w e (Ki r.z) λp w=>XD c S o.dst (.v (.pointer (some p))) λS=>K S w
  |none=>Zv c o S w K Q)
 |.box e x=>(match S.ev x with
  |some v=>uB w e (Ki v) λp w=>XD c S o.dst (.v (.pointer (some p))) λS=>K S w
  |none=>Zv c o S w K Q)
 |.indexAddr t x i=>(match Q8 c.g.tys t,S.ev x,S.ev i with
  |some ⟨_,.slice e,_,_,_⟩,some (.slice b n _),some (.int _ i)=>(match Q8 c.g.tys e with
   |some r=>be b n i r.sz λp=>XD c S o.dst (.v (.pointer (some p))) λS=>K S w
   |none=>Zv c o S w K Q)
  |some ⟨_,.array n e,_,_,_⟩,some (.pointer (some p)),some (.int _ i)=>(match Q8 c.g.tys e with
   |some r=>be (some p) n i r.sz λp=>XD c S o.dst (.v (.pointer (some p))) λS=>K S w
   |none=>Zv c o S w K Q)
  |_,_,_=>Zv c o S w K Q)
 |.index t x i=>(match Q8 c.g.tys t,S.ev x,S.ev i with
  |some ⟨_,.string,_,_,_⟩,some (.string s),some (.int _ i)=>fM s i λb=>XD c S o.dst (.v (.int .u8 b)) λS=>K S w
  |_,_,_=>Zv c o S w K Q)
 |.call ⟨.value f,d,_⟩=>(match S.ev f with
  |some (.func (.func n) first g)=>(match jO n c.g.fns with
   |true=>jQ first.toList [] (λa=>uH S d.toList a (λa=>jQ g.toList a (λa=>jQ a [] (λl=>
     kU c.g.P n l w (λv w=>XD c S o.dst (.v v) λS=>K S w) λg w=>Q (.panic g) S w))))
   |false=>Zv c o S w K Q)
  |_=>Zv c o S w K Q)
 |.call ⟨.invoke x h,d,_⟩=>(match S.ev x with
  |some (.iface t v)=>uH S d.toList [v] (λa=>jQ a [] (λl=>
    aQg c h t l w (λv w=>XD c S o.dst (.v v) λS=>K S w) λg w=>Q (.panic g) S w))
  |_=>Zv c o S w K Q)
 |_=>Zv c o S w K Q
def gF (c:Cx)(o:Oper)(S:Env)(w:θ)(K:Env->θ->Prop)(Q:ZD):Prop:=
 match ya c.g S o.op with|.val v=>XD c S o.dst (.v v) (λS=>K S w)|.ent e=>XD c S o.dst e (λS=>K S w)|.norm k n=>d6 n (λm=>XD c S o.dst (.v (.int k m)) λS=>K S w)|.normIf p k n=>jP p n (λm=>XD c S o.dst (.v (.int k m)) λS=>K S w)|.need p v=>mW p v (λv=>XD c S o.dst (.v v) λS=>K S w)|.no=>MS c o S w K Q
def V9:χ Oper->Nat->Option Oper|[],_=>none|x::_,0=>some x|_::l,n+1=>V9 l n
def WA (c:Cx)(a:χ Oper):χ Oper->Env->θ->(Env->θ->Prop)->ZD->Prop
 |[],S,w,K,_=>cK (FI c) S [] λS=>K S w
 |o::rest,S,w,K,Q=>match o.guard with
  |none=>gF c o S w (λS w=>WA c a rest S w K Q) Q
  |some (
      j,e)=>match V9 a j with
   |some f=>(match f.dst with
    |some d=>(match S.ent d with
     |some .t=>(match e with
      |true=>gF c o S w (λS w=>WA c a rest S w K Q) Q
      |false=>XD c S o.dst (.v undef) λS=>WA c a rest S w K Q)
     |some .f=>(match e with
      |false=>gF c o S w (λS w=>WA c a rest S w K Q) Q
      |true=>XD c S o.dst (.v undef) λS=>WA c a rest S w K Q)
     |some (.v (.bool b))=>(match e with
      |true=>VV b (gF c o ((d,.t)::S) w (λS w=>WA c a rest S w K Q) Q) (XD c ((d,.f)::S) o.dst (.v undef) λS=>WA c a rest S w K Q)
      |false=>VV b (XD c ((d,.t)::S) o.dst (.v undef) λS=>WA c a rest S w K Q) (gF c o ((d,.f)::S) w (λS w=>WA c a rest S w K Q) Q))
     |some (.v (.tuple _))=>XD c S o.dst (.v undef) λS=>WA c a rest S w K Q
     |_=>False)
    |none=>False)
   |none=>False
def FJ:Code->Nat|.region id _ _=>id|.seq x _=>FJ x|.block _ x=>FJ x|.loop x=>FJ x|_=>1000000
def hQG (c:Cx):Code->Bool|.region _ _ _=>false|x=>jO (FJ x) c.cuts
def YG (c:Cx):Code->Env->θ->ZD->Prop
 |.skip,S,w,Q=>Q .normal S w|.label _,S,w,Q=>Q .normal S w|.region id ops Bh,S,w,Q=>(match Bh with
  |false=>WA c ops.toList ops.toList S w (λS w=>Q .normal S w) Q
  |true=>bf c id ops.toList S w Q)
 |.seq x y,S,w,Q=>(match hQG c x with
  |true=>o7 c (.seq x y) S w Q
  |false=>YG c x S w (λe S w=>match e with
   |.normal=>YG c y S w Q
   |e=>Q e S w))
 |.cond b x y,S,w,Q=>(match b with
  |.tmp t=>(match S.ent t with
   |some .t=>YG c x S w Q
   |some .f=>YG c y S w Q
   |some (.v (.bool b))=>VV b (YG c x ((t,.t)::S) w Q) (YG c y ((t,.f)::S) w Q)
   |_=>False)
  |.const (.bool true)=>YG c x S w Q
  |.const (.bool false)=>YG c y S w Q
  |_=>False)
 |.block id x,S,w,Q=>YG c x S w (λe S w=>match e with
  |.exit i=>(match Nat.beq i id with
   |true=>Q .normal S w
   |false=>Q (.exit i) S w)
  |e=>Q e S w)
 |.loop x,S,w,Q=>FG c x S w Q|.exit id,S,w,Q=>Q (.exit id) S w|.ret,S,w,Q=>Q .ret S w|x,S,w,Q=>o7 c x S w Q
section
variable {c:Cx} {a:Act} {S:Env} {w:World} {K:Env->World->Prop} {Q:ZD}
theorem Jf {b:Option Tmp}{e:Ent}{K:Env->Prop}(h:XD c S b e K)(g:Fits c.N S a):∃S',Fits c.N S' (a.put b e.val)/\K S':=by unfold XD at h;split at h;exact⟨S,by simpa [Act.put] using g,h⟩;rename_i d;split at h;rename_i f;exact⟨_,g.put (by rw[kQ] at f;exact f) e,h⟩;exact h.elim
theorem rG (l a:χ τ)(K:χ τ->Prop):jQ l a K=K (l.reverse++a):=by induction l generalizing a with|nil=>simp[jQ]|cons x l b=>simp[jQ,b]
theorem MT {xs:χ Operand}{b:χ τ}{K:χ τ->Prop}(h:uH S xs b K)(d:Fits c.N S a):K ((xs.map a.eval).reverse++b):=by induction xs generalizing b with|nil=>simpa [uH] using h|cons x xs f=>simp only[uH] at h;split at h;rename_i v e;have:=f h;simp only[YD,ut,WW,List.singleton_append];rw[d.ev e];exact this;exact h.elim
theorem aQu {t:Nat}{S:Env}(h:o9 t S=false):S.ent t=none:=by induction S with|nil=>rfl|cons p S b=>obtain⟨k,x⟩:=p;simp only[o9] at h;split at h;cases h;rename_i a;simp[Env.ent,a,b h]
theorem hQH {t:Nat}{S:Env}(h:o9 t S=true):∃x,S.ent t=some x:=by
 induction S with
 |nil=>cases h
 |cons p S b=>obtain⟨k,x⟩:=p;simp only[o9] at h;split at h;rename_i a;exact⟨x,by simp[Env.ent,a]⟩;rename_i a;simp[Env.ent,a,b h]
theorem FK (S T:Env)(k:Nat):Env.ent (S++T) k=(S.ent k).or (Env.ent T k):=by induction S with|nil=>simp[Env.ent]|cons p S a=>obtain⟨t,x⟩:=p;simp only[dZ,Env.ent];split<;>simp[a]
theorem Bc {p:Nat->Bool}{N:Slots}{a:Act}(l:a.tmps.size=N.n)(m:a.defers=N.ds){K:Env->Prop}:∀(T d:Env),(∀k x,d.ent k=some x->p k=true)->(∀k x,p k=true->Env.ent (d++T) k=some x->a.tmps[k]? =some x.val)->cK p T d K->∃n,Fits N n a/\K n
 |[],d,i,g,h=>⟨d,⟨l,m,λk x f=>g k x (i k x f) (by simpa using f)⟩,h⟩
 |(t,x)::T,d,i,g,h=>by
  simp only[cK] at h;split at h;rename_i j;split at h;rename_i f;refine Bc l m T d i (λk y e b=>g k y e ?_) h;rw[FK] at b ⊢;cases c:Nat.beq t k with|true=>have:=YV c;subst this;obtain⟨z,o⟩:=hQH f;simp only[o,Option.some_or] at b ⊢;exact b|false=>simpa [Env.ent,c] using b
  rename_i f;refine Bc l m T ((t,x)::d) (λk y b=>?_) (λk y e b=>g k y e ?_) h;simp only[Env.ent] at b;split at b;rename_i c;rw[<-YV c];exact j;exact i k y b;rw[dZ] at b;simp only[Env.ent] at b;rw[FK];split at b;rename_i c;have:=YV c;subst this;rw[aQu f];simpa [Env.ent] using b;rename_i c;rw[FK] at b;simpa [Env.ent,c] using b;rename_i j;refine Bc l m T d i (λk y e b=>g k y e ?_) h;rw[FK] at b ⊢;have c:Nat.beq t k=false:=by cases c:Nat.beq t k with|false=>rfl|true=>have:=YV c;subst this;rw[e] at j;cases j
  simpa [Env.ent,c] using b
abbrev pf (c:Cx)(K:Env->World->Prop):Act->World->Prop:=λb d=>∃a,Fits c.N a b/\K a d
theorem eZ {o:Oper}{v:τ}{w':θ}{N:Act->θ->Prop}{Q':Exit->Act->θ->Prop}(b:(execOp a.eval o).run c.g.P w= .ok (.value v) w') (h:N (a.put o.dst v) w'):o.wp c.g.P a w N Q':=by unfold Oper.wp;rw[b];exact h
theorem fO (b:c.g.Ok){o:Oper}(d:Fits c.N S a){r:PR}(e:ya c.g S o.op=r):r.Means w ((execOp a.eval o).run c.g.P w):=by rw[<-e];exact hQF b (λx v h=>d.ev h) o
theorem hQI {P:Program}(t:TypeId)(i:TypeInfo)(a:P.info? t=some i)(b:i.size=1)(p:Addr)(v:τ)(c:Kb v=true)(w:θ):(storeVar t p v).run P w=(store p v).run P w:=by
 have d:v.cells= #[v]:=by cases v<;>first|rfl|(simp[Kb] at c)
 simp[storeVar,d,sizeOf,typeInfo,a,b,storeCells,Addr.add]
theorem rH (a:c.g.Ok){t:Nat}{r:TyRow}(b:Q8 c.g.tys t=some r)(w:θ):(isAgg t).run c.g.P w= .ok (uE r.d) w:=by simp only[isAgg,Sem.run_bind,bi a b,Result.andThen_ok];cases r.d<;>rfl
theorem run_sizeOf (a:c.g.Ok){t:Nat}{r:TyRow}(b:Q8 c.g.tys t=some r)(w:θ):(sizeOf t).run c.g.P w= .ok r.sz w:=by obtain⟨_,i,d,e,_⟩:=a.row b;simp[sizeOf,typeInfo,d,e]
theorem FL {P:Program}{n:Nat}(b:Fy P n)(a:Array τ)(w:θ):(callFunc n a).run P w= .ok (.enter n a) w:=by
 obtain⟨a,c,d,f⟩:=b;have b:a.body≠none:=λe=>by simp[e] at d
 have d:a.name≠ "runtime.NumGoroutine" :=by simpa using f
 simp[callFunc,c,b,d]
theorem hQJ (e:c.g.Ok){t:Nat}{r:MRow}(f:AY c.g.ms t=some r)(v:τ)(n:Nat)(w:θ):(method (n+1) t v r.name).run c.g.P w= .ok (r.f,v) w:=by
 obtain⟨⟨a,b⟩,rfl⟩:=hQs f e.ms;cases e:c.g.P.info? r.t with|none=>simp[e] at a|some i=>
  cases f:i.methods.find? (λm=>m.name==r.name)with|none=>simp[e,f] at a|some m=>
   simp[e,f] at a;cases g:c.g.P.underlying r.t with|none=>simp[g] at b|some d=>
    simp[g] at b;have j:m.path.toList=[]:=by rw[a.1]
    cases k:r.ptr with
    |false=>
     rw[k] at a b;have h:(receiverAt r.t (.val v) false (if m.path.isEmpty=true then some ((r.name.splitOn ".").getLastD r.name)else none)).run c.g.P w= .ok v w:=by unfold receiverAt;rw[Sem.run_bind,JB g];cases d<;>first|(simp[MG] at b;done)|simp[Place.get]
     unfold method;simp only[typeInfo,Sem.run_bind,run_program,Result.andThen_ok,e,Sem.run_pure,f,j,follow,a.2];simp only[h,Result.andThen_ok]
    |true=>
     rw[k] at a b;have h:(receiverAt r.t (.val v) true (if m.path.isEmpty=true then some ((r.name.splitOn ".").getLastD r.name)else none)).run c.g.P w= .ok v w:=by unfold receiverAt;rw[Sem.run_bind,JB g];cases d<;>first|(simp[MG] at b;done)|simp[Place.get]
     unfold method;simp only[typeInfo,Sem.run_bind,run_program,Result.andThen_ok,e,Sem.run_pure,f,j,follow,a.2];simp only[h,Result.andThen_ok]
theorem hQK (z:c.g.Ok){o:Oper}(h:MS c o S w K Q)(d:Fits c.N S a):o.wp c.g.P a w (pf c K) (Up c Q):=by
 have l:Zv c o S w K Q->o.wp c.g.P a w (pf c K) (Up c Q):=λh=>by unfold Zv at h;exact h a d
 obtain⟨dst,op,N,pos,C,M⟩:=o;unfold MS at h;split at h;rename_i t x g;simp only at g;subst g;split at h;rename_i r p j B;split at h;rename_i E;unfold kT at h;obtain⟨v,J,A⟩:=h;refine eZ (v:=v) (w':=w) ?_ (Jf (e:=.v v) A d);have:=d.ev B;simp[execOp,this,Instr.loadAt,Instr.sureAddr,loadVar,rH z j,E,load,Sem.run,J];rename_i E;unfold mX at h;obtain⟨X,hl,J,A⟩:=h;refine eZ (v:=.agg X.toArray) (w':=w) ?_ (Jf (e:=.v (.agg X.toArray)) A d);have:=d.ev B;have q:=run_loadCells_list (P:=c.g.P) (w:=w) p X J;rw[hl] at q;simp[execOp,this,Instr.loadAt,Instr.sureAddr,loadVar,rH z j,E,run_sizeOf z j,q];exact l h;rename_i t x y g;simp only at g;subst g;split at h;rename_i r p v j B Y;split at h;rename_i V G E;unfold eY at h;obtain⟨⟨u,hu⟩,gt,A⟩:=h;obtain⟨_,i,F,XC,_⟩:=z.row j;have m:=d.ev B;have D:=d.ev Y;have zg:i.size=1:=by rw[XC];exact YV G
 have K2:=hQI t i F zg p v V w;simp only at E;subst E;unfold Oper.wp;have:(execOp a.eval {dst:=none,op:=.store t x y,type:=N,pos:=pos,after:=C,guard:=M}).run c.g.P w= .ok .skip (w.setCell p v):=by simp[execOp,m,D,Instr.storeAt,Instr.sureAddr,K2,store];cases v<;>first|(simp[Kb] at V;done)|simp[Sem.run,hu,gt]
 rw[this];exact⟨S,by simpa [Act.put] using d,A⟩;rename_i V E;split at h;rename_i cs;split at h;rename_i U;unfold o6 at h;obtain⟨w',Z,A⟩:=h;have U:=YV U;have m:=d.ev B;have D:=d.ev Y;simp only at E;subst E;unfold Oper.wp;have:(execOp a.eval {dst:=none,op:=.store t x y,type:=N,pos:=pos,after:=C,guard:=M}).run c.g.P w= .ok .skip w':=by simp only[execOp,m,D,Instr.storeAt,Instr.sureAddr,storeVar,Value.cells];simp only[Sem.run_bind,Sem.run_pure,run_sizeOf z j,Result.andThen_ok];rw[φ (by simpa using U)];simp[Z]
 rw[this];exact⟨S,by simpa [Act.put] using d,A⟩;exact l h;exact l h;exact l h;exact l h;rename_i e g;simp only at g;subst g;split at h;rename_i r j;obtain⟨_,i,F,_,_,hz⟩:=z.row j;unfold uB at h;refine eZ (v:=.pointer (some ⟨w.heap.size,0,none⟩)) (w':=w.alloc (.cells (Ki r.z).toArray e)) ?_ (Jf (e:=.v _) h d);have H:r.z.cells=(Ki r.z).toArray:=by rw[<-uG]
 simp[execOp,Instr.alloc,zeroValue,typeInfo,F,hz,newVar,newRow,H];exact l h;rename_i e x g;simp only at g;subst g;split at h;rename_i v B;unfold uB at h;have m:=d.ev B;refine eZ (v:=.pointer (some ⟨w.heap.size,0,none⟩)) (w':=w.alloc (.cells (Ki v).toArray e)) ?_ (Jf (e:=.v _) h d);have H:v.cells=(Ki v).toArray:=by rw[<-uG]
 simp[execOp,m,Instr.box,newVar,newRow,H];exact l h;rename_i t x ix g;simp only at g;subst g;split at h;rename_i e b n k i j B F;split at h;rename_i r O;unfold be at h;obtain⟨p,rfl,L,G,A⟩:=h;refine eZ (v:=.pointer (some (p.add (i.toNat*r.sz)))) (w':=w) ?_ (Jf (e:=.v _) A d);have m:=d.ev B;have D:=d.ev F;simp[execOp,m,D,Instr.indexAt,asIntOf,bi z j,run_sizeOf z O,L,G];exact l h;rename_i n e p k i j B F;split at h;rename_i r O;unfold be at h;obtain⟨p',hp,L,G,A⟩:=h;cases hp;refine eZ (v:=.pointer (some (p.add (i.toNat*r.sz)))) (w':=w) ?_ (Jf (e:=.v _) A d);have m:=d.ev B;have D:=d.ev F;simp[execOp,m,D,Instr.indexAt,Instr.sureAddr,asIntOf,bi z j,run_sizeOf z O,L,G];exact l h;exact l h;rename_i t x ix g;simp only at g;subst g;split at h;rename_i s k i j B F;unfold fM at h;obtain⟨b,L,G,A⟩:=h;refine eZ (v:=.int .u8 b.toNat) (w':=w) ?_ (Jf (e:=.v _) A d);have m:=d.ev B;have D:=d.ev F;simp[execOp,m,D,Instr.index,asIntOf,bi z j,L,G];exact l h;rename_i f xs W g;simp only at g;subst g;split at h;rename_i n first R J;split at h;rename_i T;have H:=z.fns n (FF T);rw[rG] at h;have q:=MT h d;rw[rG,rG] at q;simp only[YE,List.reverse_append,List.reverse_reverse,WW] at q;unfold kU at q;have m:=d.ev J;unfold Oper.wp;have:(execOp a.eval {dst:=dst,op:=.call ⟨.value f,xs,W⟩,type:=N,pos:=pos,after:=C,guard:=M}).run c.g.P w=
   .ok (.enter n (first.toList++(List.map a.eval xs.toList++R.toList)).toArray) w:=by
  simp[execOp,resolve,m,Deferred.ofValue,invoke,FL H]
 rw[this];unfold Oper.upon;refine q.mono λe w' I=>?_;cases e with|returned v=>exact Jf (e:=.v v) I d|panicked ch=>exact⟨S,d,I⟩|outgrown=>exact I.elim
 exact l h;exact l h;rename_i x nm xs W g;simp only at g;subst g;split at h;rename_i t v J;have q:=MT h d;rw[rG] at q;simp only[YE,List.reverse_append,List.reverse_reverse,ut,List.reverse_nil,d4] at q;unfold aQg at q;obtain⟨r,j,rfl,T,q⟩:=q;have H:=z.fns r.f (FF T);unfold kU at q;have m:=d.ev J;unfold Oper.wp;have wX:=hQJ z j v (c.g.P.types.size+99) w;have:(execOp a.eval {dst:=dst,op:=.call ⟨.invoke x r.name,xs,W⟩,type:=N,pos:=pos,after:=C,guard:=M}).run c.g.P w=
   .ok (.enter r.f ([v]++List.map a.eval xs.toList).toArray) w:=by
  have oI:(#[Value.iface t v]++Array.map a.eval xs).extract 1 (#[Value.iface t v]++Array.map a.eval xs).size=Array.map a.eval xs:=by apply Array.ext';simp;exact ZJ (by simp)
  have kx:(callMethod (.iface t v) r.name (Array.map a.eval xs)).run c.g.P w= .ok (.enter r.f ([v]++List.map a.eval xs.toList).toArray) w:=by simp only[callMethod,Sem.run_bind,run_program,Result.andThen_ok];rw[show c.g.P.types.size+Made.depth=c.g.P.types.size+99+1 from rfl,wX];simp[FL H]
  simp only[execOp,resolve,m,Sem.run_bind,Sem.run_pure,Result.andThen_ok,invoke];rw[oI,show(#[Value.iface t v]++Array.map a.eval xs)[0]? =some (Value.iface t v) from (Array.getElem?_append_left (show 0<1 by decide)).trans rfl];exact kx
 rw[this];unfold Oper.upon;refine q.mono λe w' I=>?_;cases e with|returned v=>exact Jf (e:=.v v) I d|panicked ch=>exact⟨S,d,I⟩|outgrown=>exact I.elim
 exact l h;exact l h
theorem uI (g:c.g.Ok){o:Oper}(h:gF c o S w K Q)(b:Fits c.N S a):o.wp c.g.P a w (pf c K) (Up c Q):=by unfold gF at h;split at h;rename_i v f;have d:=fO (w:=w) g b f;exact eZ d (Jf (e:=.v v) h b);rename_i e f;have d:=fO (w:=w) g b f;exact eZ d (Jf (e:=e) h b);rename_i k n f;have d:=fO (w:=w) g b f;unfold d6 at h;exact eZ d (Jf (e:=.v (.int k n)) h b);rename_i p k n f;have d:=fO (w:=w) g b f;unfold jP at h;exact eZ (d h.1) (Jf (e:=.v (.int k n)) h.2 b);rename_i p v f;have d:=fO (w:=w) g b f;unfold mW at h;exact eZ (d h.1) (Jf (e:=.v v) h.2 b);exact hQK g h b
theorem jR (l:χ Oper)(n:Nat):V9 l n=l[n]? :=by induction l generalizing n with|nil=>simp[V9]|cons x l a=>cases n<;>simp[V9,a]
theorem ph {e:χ Oper}{o f:Oper}{j d:Nat}{c b:Bool}(h:o.guard=some (j,c))(g:V9 e j=some f)(i:f.dst=some d)(k:a.tmps[d]? =some (.bool b)):Region.wanted o (yielded e.toArray a.tmps)=(b==c):=by rw[jR] at g;simp[Region.wanted,h,yielded,g,i,k]
theorem MU {b:χ Oper}{o e:Oper}{j d:Nat}{c:Bool}{g:Array τ}(h:o.guard=some (j,c))(f:V9 b j=some e)(i:e.dst=some d)(k:a.tmps[d]? =some (.tuple g)):Region.wanted o (yielded b.toArray a.tmps)=false:=by rw[jR] at f;simp[Region.wanted,h,yielded,f,i,k]
theorem m7 (D:c.g.Ok)(g:χ Oper):∀(l:χ Oper)(S:Env)(w:θ)(a:Act),WA c g l S w K Q->Fits c.N S a->wpList c.g.P g.toArray (λe a w=>Exit.then (pf c K) (Up c Q) e a w) l a w
 |[],S,w,a,h,f=>by simp only[WA] at h;exact Bc (p:=FI c) f.size f.defers S [] (λk x i=>by simp[Env.ent] at i) (λk x _ i=>f.has k x i) h
 |o::rest,S,w,a,h,f=>by
  have v:∀(S:Env),gF c o S w (λS w=>WA c g rest S w K Q) Q->Fits c.N S a->o.wp c.g.P a w (wpList c.g.P g.toArray (λe a w=>Exit.then (pf c K) (Up c Q) e a w) rest) (λe a w=>Exit.then (pf c K) (Up c Q) e a w):=λS h f=>by have H:=uI D h f;have y:=Oper.wp_mono (K':=wpList c.g.P g.toArray (λe a w=>Exit.then (pf c K) (Up c Q) e a w) rest) (λG E ⟨B,C,i⟩=>m7 D g rest B E G i C) H;unfold Oper.wp at y ⊢;generalize (execOp a.eval o).run c.g.P w=r at*;cases r with|ok n E=>cases n<;>simp only[Oper.upon] at y ⊢ <;> exact y|halt x E=>cases x<;>simp only[Oper.upon] at y ⊢ <;> exact y
  have z:∀(S:Env),XD c S o.dst (.v undef) (λS=>WA c g rest S w K Q)->Fits c.N S a->wpList c.g.P g.toArray (λe a w=>Exit.then (pf c K) (Up c Q) e a w) rest (a.put o.dst undef) w:=λS h f=>by obtain⟨B,C,i⟩:=Jf h f;exact m7 D g rest B w _ i C
  have s:∀(d:Nat) (b:Bool) (e:Ent),S.ent d=some (.v (.bool b))->e.val= .bool b->Fits c.N ((d,e)::S) a:=λd b e u J=>by refine⟨f.size,f.defers,λk x i=>?_⟩;simp only[Env.ent] at i;split at i;rename_i I;have:=YV I;subst this;cases i;rw[J];exact f.has _ _ u;exact f.has _ _ i
  simp only[WA] at h;unfold wpList;split at h;rename_i t;rw[Qf (by simp[Region.wanted,t])];exact .inl (v S h f);rename_i j F t;split at h;rename_i L A;split at h;rename_i d u;split at h;rename_i m;have q:=ph t A u (f.has _ _ m);split at h;rw[Qf (by rw[q];rfl)];exact .inl (v S h f);rw[φ (by rw[q];decide)];exact z S h f;rename_i m;have q:=ph t A u (f.has _ _ m);split at h;rw[Qf (by rw[q];rfl)];exact .inl (v S h f);rw[φ (by rw[q];decide)];exact z S h f;rename_i b m;have q:=ph t A u (f.has _ _ m);split at h;unfold VV at h;cases b with|true=>rw[Qf (by rw[q];rfl)];exact .inl (v _ (h.1 rfl) (s d true .t m rfl))|false=>rw[φ (by rw[q];decide)];exact z _ (h.2 rfl) (s d false .f m rfl)
  unfold VV at h;cases b with|true=>rw[φ (by rw[q];decide)];exact z _ (h.1 rfl) (s d true .t m rfl)|false=>rw[Qf (by rw[q];rfl)];exact .inl (v _ (h.2 rfl) (s d false .f m rfl))
  rename_i m;rw[φ (by rw[MU t A u (f.has _ _ m)];decide)];exact z S h f;exact h.elim;exact h.elim;exact h.elim
theorem pi (B:c.g.Ok):∀(x:Code)(S:Env)(w:θ)(Q:ZD)(a:Act),YG c x S w Q->Fits c.N S a->x.wp c.g.P (Up c Q) a w:=by
 intro x;have r:∀(x:Code) (S:Env) (w:θ) (Q:ZD) (a:Act),o7 c x S w Q->Fits c.N S a->x.wp c.g.P (Up c Q) a w:=λx S w Q a h d=>by unfold o7 at h;exact h a d
 induction x with
 |skip=>exactλS w Q a h d=>wp_skip ⟨S,d,h⟩|label l=>exactλS w Q a h d=>wp_label ⟨S,d,h⟩|region id ops Bh=>
  intro S w Q a h d;simp only[YG] at h;cases Bh with
  |false=>have z:=m7 B _ _ _ _ _ h d;refine wp_mono (wp_region_list ?_) (Q:=λe a w=>Exit.then (pf c λS w=>Q .normal S w) (Up c Q) e a w) λe a w g=>?_;simpa using z;cases e<;>exact g
  |true=>unfold bf at h;simpa using h a d
 |seq x y ihx j=>intro S w Q a h d;simp only[YG] at h;split at h;exact r _ _ _ _ _ h d;refine wp_seq (wp_mono (ihx _ _ _ _ h d) λe a w g=>?_);obtain⟨n,m,g⟩:=g;cases e<;>first|exact j _ _ _ _ g m|exact⟨n,m,g⟩
 |cond b x y ihx j=>
  intro S w Q a h d;simp only[YG] at h;split at h;rename_i t;split at h;rename_i o;exact wp_cond_true (by have:=d.has _ _ o;simp[Act.eval,this,Ent.val]) (ihx _ _ _ _ h d);rename_i o;exact wp_cond_false (by have:=d.has _ _ o;simp[Act.eval,this,Ent.val]) (j _ _ _ _ h d);rename_i b o;have v:a.eval (.tmp t)= .bool b:=by have:=d.has _ _ o;simp[Act.eval,this,Ent.val]
  have p:∀(e:Ent),e.val= .bool b->Fits c.N ((t,e)::S) a:=λe A=>by refine⟨d.size,d.defers,λk x s=>?_⟩;simp only[Env.ent] at s;split at s;rename_i q;have:=YV q;subst this;cases s;rw[A];exact d.has _ _ o;exact d.has _ _ s
  unfold VV at h;cases b with
  |true=>exact wp_cond_true v (ihx _ _ _ _ (h.1 rfl) (p .t rfl))
  |false=>exact wp_cond_false v (j _ _ _ _ (h.2 rfl) (p .f rfl))
  exact h.elim;exact wp_cond_true rfl (ihx _ _ _ _ h d);exact wp_cond_false rfl (j _ _ _ _ h d);exact h.elim
 |block id x u=>
  intro S w Q a h d;simp only[YG] at h;refine wp_block (wp_mono (u _ _ _ _ h d) λe a w g=>?_);obtain⟨n,m,g⟩:=g;cases e with
  |exit i=>simp only at g;simp only[Exit.inBlock];split at g;rename_i q;rw[Qf (YV q)];exact⟨n,m,g⟩;rename_i q;rw[φ λe=>by subst e;simp at q];exact⟨n,m,g⟩
  |normal=>exact⟨n,m,g⟩
  |goto l=>exact⟨n,m,g⟩
  |ret=>exact⟨n,m,g⟩
  |panic D=>exact⟨n,m,g⟩
  |outgrown=>exact⟨n,m,g⟩
 |loop x u=>intro S w Q a h d;simp only[YG] at h;unfold FG at h;exact h a d|exit id=>exactλS w Q a h d=>wp_exit ⟨S,d,h⟩|ret=>exactλS w Q a h d=>wp_ret ⟨S,d,h⟩|rangeFunc f ps as_ b ih1 C=>exactλS w Q a h d=>r _ _ _ _ _ h d|scope x u=>exactλS w Q a h d=>r _ _ _ _ _ h d|goto l=>exactλS w Q a h d=>r _ _ _ _ _ h d|refuse y=>exactλS w Q a h d=>r _ _ _ _ _ h d
end
def pj:Γ->χ τ->Env->(Env->Prop)->Prop|_,[],S,K=>K S|t::ts,v::vs,S,K=>pj ts vs ((t,.v v)::S) K|[],_::_,_,_=>False
def aQv (w:θ)(R:τ->θ->Prop):χ τ->Prop|[v]=>R v w|vs=>R (.tuple vs.toArray) w
def gG (c:Cx)(S:Env)(w:θ)(R:τ->θ->Prop):χ ResultVar->χ τ->Prop
 |[],a=>jQ a [] (λl=>aQv w R l)|.tmp t::rs,a=>(match S.get t with
  |some v=>gG c S w R rs (v::a)
  |none=>False)
 |.cell t b::rs,a=>(match Q8 c.g.tys b,S.get t with
  |some r,some (.pointer (some p))=>(match uE r.d with
   |false=>kT w p λv=>gG c S w R rs (v::a)
   |true=>mX w p r.sz λb=>gG c S w R rs (.agg b.toArray::a))
  |_,_=>False)
def FM (c:Cx)(a:χ ResultVar)(R:τ->θ->Prop):ZD:=λe S w=>match e with|.normal=>gG c S w R a []|.ret=>gG c S w R a []|_=>False
def FN (a:Array τ):ResultVar->Sem τ|.tmp t=>pure (a.getD t undef)|.cell t b=>do loadVar b (<-asAddr (a.getD t undef))
theorem hQL (c:Func)(a:Array τ):results c a=(do let b<-c.results.mapM (FN a)pure (if h:b.size=1 then b[0] else .tuple b)):=by unfold results;congr 2
theorem FO {c:Cx}(e:c.g.Ok){S:Env}{a:Act}{w:θ}(j:Fits c.N S a)(R:τ->θ->Prop):∀(d:χ ResultVar)(f:χ τ),gG c S w R d f->∃b:χ τ,(d.mapM (FN a.tmps)).run c.g.P w= .ok b w/\aQv w R (f.reverse++b)
 |[],f,h=>by simp only[gG,rG,YE] at h;exact⟨[],by simp,by simpa using h⟩|.tmp t::d,f,h=>by simp only[gG] at h;split at h;rename_i v k;obtain⟨b,g,i⟩:=FO e j R d _ h;have:=j.get k;refine⟨v::b,?_,by simpa using i⟩;simp only[List.mapM_cons,Sem.run_bind];rw[show(FN a.tmps (.tmp t)).run c.g.P w= .ok v w by simp[FN,this]];simp only[Result.andThen_ok];rw[g];simp;exact h.elim
 |.cell t m::d,f,h=>by
  simp only[gG] at h;split at h;rename_i r p s l;have l:=j.get l;split at h;rename_i q;unfold kT at h;obtain⟨v,k,h⟩:=h;obtain⟨b,g,i⟩:=FO e j R d _ h;refine⟨v::b,?_,by simpa using i⟩;have o:(do loadVar m (<-asAddr (a.tmps.getD t undef)):Sem τ).run c.g.P w= .ok v w:=by simp[l,asAddr,loadVar,rH e s,q,load,Sem.run,k]
  rw[List.mapM_cons,Sem.run_bind];show Result.andThen ((do loadVar m (<-asAddr (a.tmps.getD t undef)):Sem τ).run c.g.P w) _=_;rw[o];simp only[Result.andThen_ok,Sem.run_bind];rw[g];simp;rename_i q;unfold mX at h;obtain⟨n,x,k,h⟩:=h;obtain⟨b,g,i⟩:=FO e j R d _ h;have u:=run_loadCells_list (P:=c.g.P) (w:=w) p n k;rw[x] at u;refine⟨.agg n.toArray::b,?_,by simpa using i⟩;have o:(do loadVar m (<-asAddr (a.tmps.getD t undef)):Sem τ).run c.g.P w= .ok (.agg n.toArray) w:=by simp[l,asAddr,loadVar,rH e s,q,run_sizeOf e s,u]
  rw[List.mapM_cons,Sem.run_bind];show Result.andThen ((do loadVar m (<-asAddr (a.tmps.getD t undef)):Sem τ).run c.g.P w) _=_;rw[o];simp only[Result.andThen_ok,Sem.run_bind];rw[g];simp;exact h.elim
theorem rI {c:Cx}(g:c.g.Ok){S:Env}{a:Act}{w:θ}(i:Fits c.N S a){R:τ->θ->Prop}{d:Func}(h:gG c S w R d.results.toList []):∃v,(results d a.tmps).run c.g.P w= .ok v w/\R v w:=by
 obtain⟨f,j,b⟩:=FO g i R _ _ h;have e:d.results=d.results.toList.toArray:=by simp
 rw[hQL,e,List.mapM_toArray];simp only[Sem.run_bind,Sem.run_map];rw[j];simp only[Result.andThen_ok,Sem.run_pure,List.size_toArray,d4,List.reverse_nil] at b ⊢;match f,b with|[],b=>exact⟨_,rfl,b⟩|[v],b=>exact⟨_,rfl,b⟩|v::u::f,b=>exact⟨_,rfl,b⟩
theorem kV {N:Nat}(a:χ τ)(b:a.length<=N)(S:Env)(c:∀k x,S.ent k=some x->a[k]? =some x.val):Fits ⟨N,[]⟩ S {tmps:=a.toArray++Array.replicate (N-a.toArray.size) undef,defers:=[]}:=by refine⟨by simp;omega,rfl,λk x d=>?_⟩;have b:=c k x d;have:k<a.length:=(ZK.1 b).1;rw[Array.getElem?_append_left (by simpa using this)];simpa using b
theorem FP {K:Env->Prop}:∀(c:Γ)(d:χ τ)(S:Env)(m:Nat)(a:χ τ),(∀j t,c[j]? =some t->t=m+j)->a.drop m=d->(∀k x,S.ent k=some x->a[k]? =some x.val)->pj c d S K->∃f,(∀k x,Env.ent f k=some x->a[k]? =some x.val)/\K f
 |_,[],S,_,_,_,_,e,h=>⟨S,e,by unfold pj at h;exact h⟩|[],_::_,_,_,_,_,_,_,h=>by simp[pj] at h
 |t::c,v::d,S,m,a,ht,hd,e,h=>by
  simp only[pj] at h;have g:t=m:=by have:=ht 0 t rfl;omega
  subst g;have o:a[t]? =some v:=by have:=QG (λl=>l[0]?) hd;simpa using this
  refine FP c d _ (t+1) a (λj u n=>by have:=ht (j+1) u n;omega) ?_ (λk x b=>?_) h;rw[<-mP,hd]<;>rfl
  simp only[Env.ent] at b;split at b;rename_i i;have:=YV i;subst this;cases b;exact o;exact e k x b
theorem KS {c:Cx}(m:c.g.Ok){f:FuncId}{g:Func}{x:Code}{b:χ τ}{w:θ}{R:τ->θ->Prop}(o:c.g.P.funcs[f]? =some g)(p:g.body=some x)(n:⟨g.ntmps,[]⟩=c.N)(q:Nat.ble b.length c.N.n=true) (h:pj [0,1,2,3,4,5,6,7,8,9,10,11,12,13,14,15] b [] λS=>YG c x S w (FM c g.results.toList R)):Fn c.g.P f b w R:=by
 unfold Fn;obtain⟨S,r,s⟩:=FP _ b [] 0 b (λj t d=>by
  match j,d with|0,d|1,d|2,d|3,d|4,d|5,d|6,d|7,d|8,d|9,d|10,d|11,d|12,d|13,d|14,d|15,d=>simp at d;omega|j+16,d=>simp at d) (by simp) (λk x u=>by simp[Env.ent] at u) h
 refine calls_of_wp o p ?_;have o:g.ntmps=c.N.n:=QG Slots.n n;have d:=kV (N:=c.N.n) b (mO q) S r;rw[<-o,n] at d;refine wp_mono (pi m x S w _ _ s d) λe a g b=>?_;obtain⟨g,d,b⟩:=b;have o:a.defers=[]:=by rw[d.defers,<-n]
 cases e with|normal=>obtain⟨v,g,n⟩:=rI m d b;exact⟨o,v,g,n⟩|ret=>obtain⟨v,g,n⟩:=rI m d b;exact⟨o,v,g,n⟩|exit i=>exact b.elim|goto l=>exact b.elim|panic d=>exact b.elim|outgrown=>exact b.elim
@[irreducible] def FnP (P:Program) (f:FuncId) (l:χ τ) (w:θ) (R:τ->θ->Prop) (b:χ PanicEntry->θ->Prop):Prop:=Calls P f l.toArray w fun|.returned v,a=>R v a|.panicked c,a=>b c a|.outgrown,_=>False
def hQM (c:Cx)(a:χ ResultVar)(R:τ->θ->Prop)(b:χ PanicEntry->θ->Prop):ZD|.panic d,_,w=>b d w|e,S,w=>FM c a R e S w
theorem d7 {c:Cx}(m:c.g.Ok){f:FuncId}{g:Func}{x:Code}{b:χ τ}{w:θ}{R:τ->θ->Prop}{XK:χ PanicEntry->θ->Prop}(o:c.g.P.funcs[f]? =some g)(p:g.body=some x)(n:⟨g.ntmps,[]⟩=c.N)(q:Nat.ble b.length c.N.n=true) (h:pj [0,1,2,3,4,5,6,7,8,9,10,11,12,13,14,15] b [] λS=>YG c x S w (hQM c g.results.toList R XK)):FnP c.g.P f b w R XK:=by
 unfold FnP;obtain⟨S,r,s⟩:=FP _ b [] 0 b (λj t d=>by
  match j,d with|0,d|1,d|2,d|3,d|4,d|5,d|6,d|7,d|8,d|9,d|10,d|11,d|12,d|13,d|14,d|15,d=>simp at d;omega|j+16,d=>simp at d) (by simp) (λk x u=>by simp[Env.ent] at u) h
 refine calls_of_wp o p ?_;have o:g.ntmps=c.N.n:=QG Slots.n n;have d:=kV (N:=c.N.n) b (mO q) S r;rw[<-o,n] at d;refine wp_mono (pi m x S w _ _ s d) λe a g b=>?_;obtain⟨g,d,b⟩:=b;have g:a.defers=[]:=by rw[d.defers,<-n]
 cases e with|normal=>obtain⟨v,n,o⟩:=rI m d b;exact⟨g,v,n,o⟩|ret=>obtain⟨v,n,o⟩:=rI m d b;exact⟨g,v,n,o⟩|exit i=>exact b.elim|goto l=>exact b.elim|panic d=>exact⟨g,b⟩|outgrown=>exact b.elim
theorem FnP.mono {P:Program}{f:FuncId}{l:χ τ}{w:θ}{R b:τ->θ->Prop}{p p':χ PanicEntry->θ->Prop}(h:FnP P f l w R p)(d:∀v a,R v a->b v a)(g:∀c a,p c a->p' c a):FnP P f l w b p':=by unfold FnP at*;exact Calls.mono h λe a b=>by cases e<;>first|exact d _ _ b|exact g _ _ b|exact b
theorem Fn.toP {P:Program}{f:FuncId}{l:χ τ}{w:θ}{R:τ->θ->Prop}{p:χ PanicEntry->θ->Prop}(h:Fn P f l w R):FnP P f l w R p:=by unfold Fn at h;unfold FnP;exact Calls.mono h λe b a=>by cases e<;>first|exact a|exact a.elim
theorem Zl {P:Program}{f:FuncId}{l:χ τ}{w:θ}{R:τ->θ->Prop}{p:χ PanicEntry->θ->Prop}{K:τ->θ->Prop}{XK:χ PanicEntry->θ->Prop}(h:FnP P f l w R p)(k:∀v a,R v a->K v a)(c:∀b a,p b a->XK b a):kU P f l w K XK:=by unfold FnP at h;unfold kU;exact Calls.mono h λe a b=>by cases e<;>first|exact k _ _ b|exact c _ _ b|exact b
theorem Fn.mono {P:Program}{f:FuncId}{l:χ τ}{w:θ}{R R':τ->θ->Prop}(h:Fn P f l w R)(c:∀v a,R v a->R' v a):Fn P f l w R':=by unfold Fn at*;exact Calls.mono h λe a b=>by cases e<;>first|exact c _ _ b|exact b
theorem call {P:Program}{f:FuncId}{l:χ τ}{w:θ}{R:τ->θ->Prop}{K:τ->θ->Prop}{XK:χ PanicEntry->θ->Prop}(h:Fn P f l w R)(k:∀v a,R v a->K v a):kU P f l w K XK:=by unfold Fn at h;unfold kU;exact Calls.mono h λe a b=>by cases e<;>first|exact k _ _ b|exact b.elim
def MV:χ Oper->Γ->Γ|[],a=>a|o::l,a=>match o.dst with|some d=>MV l (d::a)|none=>MV l a
def nh:Code->Γ->Γ|.region _ ops _,a=>MV ops.toList a|.seq x y,a=>nh y (nh x a)|.cond _ x y,a=>nh y (nh x a)|.block _ x,a=>nh x a|.loop x,a=>nh x a|.scope x,a=>nh x a|.rangeFunc _ _ x y,a=>nh y (nh x a)|_,a=>a
def iW (x:Code)(t:Nat):Bool:=match jO t (nh x [])with|true=>false|false=>true
def gH:Γ->χ τ->Env->(Env->Prop)->Prop|[],[],S,K=>K S|t::ts,v::vs,S,K=>gH ts vs ((t,.v v)::S) K|_,_,_,_=>False
def Has (T S:Env):Prop:=T.map (λp=>S.get p.1)=T.map λp=>some p.2.val
theorem hQN {T:Env}{k:Nat}{x:Ent}(h:T.ent k=some x):(k,x)∈T:=by
 induction T with
 |nil=>cases h
 |cons p T b=>obtain⟨t,y⟩:=p;simp only[Env.ent] at h;split at h;rename_i a;cases h;rw[YV a];simp;simp[b h]
theorem Has.fits {T S:Env}{N:Slots}{a:Act}(h:Has T S)(b:Fits N S a):Fits N T a:=by refine⟨b.size,b.defers,λk x c=>?_⟩;have d:=hQN c;exact b.get ((List.map_inj_left.1 h) (k,x) d)
theorem MW {ts:Γ}{a:χ τ}{S:Env}{K:Env->Prop}(h:gH ts a S K):∃T,T=(ts.zip (a.map Ent.v)).reverse++S/\K T:=by
 induction ts generalizing a S with
 |nil=>
  cases a with
  |nil=>exact⟨S,rfl,h⟩
  |cons v a=>exact h.elim
 |cons t ts b=>cases a with|nil=>exact h.elim|cons v a=>obtain⟨T,rfl,c⟩:=b h;exact⟨_,by simp,c⟩
def rJ (p:Nat->Bool):Env->Env->Env
 |[],a=>a
 |(t,x)::S,a=>match p t with
  |true=>(match o9 t a with
   |true=>rJ p S a
   |false=>rJ p S ((t,x)::a))
  |false=>rJ p S a
theorem FQ (p:Nat->Bool)(S a:Env)(K:Env->Prop):cK p S a K=K (rJ p S a):=by
 induction S generalizing a with|nil=>rfl|cons q S b=>
  obtain⟨t,x⟩:=q;simp only[cK,rJ];split;split<;>exact b _
  exact b _
section
variable {c:Cx} {S:Env} {w:World} {Q:ZD} {α:Type}
theorem hQO {x:Code}(J:α->Act->θ->Prop)(μ:α->θ->Nat){a:Act}(q:α)(r:J q a w)
  (hr:∀s a w,J s a w->x.wp c.g.P (λe g w'=>match e with|.normal=>∃j,J j g w'/\μ j w'<μ s w|e=>Up c Q e g w') a w):(Code.loop x).wp c.g.P (Up c Q) a w:=by
 intro b k m;have o:∀n s a w,μ s w=n->J s a w->∃e g w',Up c Q e g w'/\Arrives c.g.P (lone (b.at a (.code x:: .inLoop x::k)) m w) b k m e g w':=by intro n;induction n using Nat.strongRecOn with|_ n t=>intro s a w u p;obtain⟨e,i,h,d,f⟩:=hr s a w p b (.inLoop x::k) m;cases e with|normal=>obtain⟨j,m,v⟩:=d;obtain⟨y,z,A,B,p⟩:=t (μ j h) (u▸v) j i h rfl m;exact⟨y,z,A,B,.of_steps (Steps.trans f (.one step_inLoop)) p⟩|exit id=>exact⟨_,i,h,d,.pass (x:=.inLoop x) rfl (λ_ _=>.inl (by simp)) f⟩|goto l=>exact⟨_,i,h,d,.pass (x:=.inLoop x) rfl (λ_ _=>.inl (by simp)) f⟩|ret=>exact⟨_,i,h,d,.pass (x:=.inLoop x) rfl (λ_ _=>.inl (by simp)) f⟩|panic j=>exact⟨_,i,h,d,.pass (x:=.inLoop x) rfl (λ_ _=>.inl (by simp)) f⟩|outgrown=>exact⟨_,i,h,d,.pass (x:=.inLoop x) rfl (λ_ _=>.inl (by simp)) f⟩
 obtain⟨e,g,w',d,f⟩:=o _ q a w rfl r;exact⟨e,g,w',d,.of_steps (.one step_loop) f⟩
def hQP (c:Γ)(val:α->χ τ)(d:Env)(I:α->θ->Prop)(μ:α->θ->Nat)(m:Nat)(e:Env)(b:θ):Prop:=
 ∃a,gH c (val a) d (λT=>Has T e)/\I a b/\μ a b<m
theorem loop (o:c.g.Ok){x:Code}(g:Γ)(val:α->χ τ)(I:α->θ->Prop)(μ:α->θ->Nat)(j:α)
  (h0:cK (iW x) S [] λb=>gH g (val j) b λT=>Has T S) (hI:I j w)
  (hr:cK (iW x) S [] λb=>∀s d,I s d->gH g (val s) b λm=>YG c x m d λe f k=>match e with|.normal=>hQP g val b I μ (μ s d) f k|e=>Q e f k):FG c x S w Q:=by
 rw[FQ] at h0 hr;unfold FG;intro a p;generalize rJ (iW x) S []=b at*;have m:∀s (K:Env->Prop),gH g (val s) b K->K ((g.zip ((val s).map Ent.v)).reverse++b):=λs K h=>by obtain⟨T,rfl,n⟩:=MW h;exact n
 refine hQO (c:=c) (x:=x) (Q:=Q) (J:=λs n d=>Fits c.N ((g.zip ((val s).map Ent.v)).reverse++b) n/\I s d) (μ:=μ) j ⟨(m j _ h0).fits p,hI⟩ ?_;intro s n d ⟨g,b⟩;have j:=pi o x _ d _ n (m s _ (hr s d b)) g;refine wp_mono j λe d k b=>?_;obtain⟨f,d,b⟩:=b;cases e with|normal=>obtain⟨j,k,g,n⟩:=b;exact⟨j,⟨(m j _ k).fits d,g⟩,n⟩|exit i=>exact⟨f,d,b⟩|goto l=>exact⟨f,d,b⟩|ret=>exact⟨f,d,b⟩|panic g=>exact⟨f,d,b⟩|outgrown=>exact⟨f,d,b⟩
theorem cL (j:Γ)(k:c.g.Ok){x y:Code}(f:Γ)(val:α->χ τ)(R:α->θ->Prop)
  (hx:cK (iW x) S [] λd=>YG {c with cuts:=j} x S w λe b g=>match e with|.normal=>∃s,gH f (val s) d (λT=>Has T b)/\R s g|e=>Q e b g)
  (hy:cK (iW x) S [] λd=>∀s m,R s m->gH f (val s) d λn=>YG c y n m Q):o7 c (.seq x y) S w Q:=by
 rw[FQ] at hx hy;unfold o7;intro a n;generalize rJ (iW x) S []=d at*;have m:∀s (K:Env->Prop),gH f (val s) d K->K ((f.zip ((val s).map Ent.v)).reverse++d):=λs K h=>by obtain⟨T,rfl,d⟩:=MW h;exact d
 refine wp_seq (wp_mono (pi (c:={c with cuts:=j}) k x S w _ a hx n) λe o g d=>?_);obtain⟨b,f,d⟩:=d;cases e with|normal=>obtain⟨s,j,n⟩:=d;exact pi k y _ g Q o (m s _ (hy s g n)) ((m s _ j).fits f)|exit i=>exact⟨b,f,d⟩|goto l=>exact⟨b,f,d⟩|ret=>exact⟨b,f,d⟩|panic g=>exact⟨b,f,d⟩|outgrown=>exact⟨b,f,d⟩
theorem cut (g:c.g.Ok){x y:Code}(a:Γ)(val:α->χ τ)(R:α->θ->Prop)
  (hx:cK (iW x) S [] λb=>YG {c with cuts:=[]} x S w λe d f=>match e with|.normal=>∃s,gH a (val s) b (λT=>Has T d)/\R s f|e=>Q e d f)
  (hy:cK (iW x) S [] λb=>∀s d,R s d->gH a (val s) b λf=>YG c y f d Q):o7 c (.seq x y) S w Q:=
 cL [] g a val R hx hy
end
@[irreducible] def yb (C:θ->Prop) (p:Addr) (K:τ->Prop):Prop:=∃v,(∀w,C w->w.cell? p=some v)/\K v
@[irreducible] def yd (C:θ->Prop) (p:Addr) (n:Nat) (K:χ τ->Prop):Prop:=∃a:χ τ,a.length=n/\(∀w,C w->∀j v,a[j]? =some v->w.cell? (p.add j)=some v)/\K a
@[irreducible] def aQw (P:Program) (f:FuncId) (l:χ τ) (C:θ->Prop) (K:τ->Prop):Prop:=∃v,(∀w,C w->Fn P f l w λu a=>u=v/\C a)/\K v
@[irreducible] def pk (c:Cx) (o:Oper) (S:Env) (C:θ->Prop) (K:Env->Prop):Prop:=∃v,(∀a w,Fits c.N S a->C w->o.quietAt c.g.P a C w v)/\XD c S o.dst (.v v) K
def MY (c:Cx) (o:Oper) (S:Env) (C:θ->Prop) (K:Env->Prop):Prop:=
 match o.op with
 |.load t x=>(match Q8 c.g.tys t,S.ev x with
  |some r,some (.pointer (some p))=>(match uE r.d with
   |false=>yb C p λv=>XD c S o.dst (.v v) K
   |true=>yd C p r.sz λa=>XD c S o.dst (.v (.agg a.toArray)) K)
  |_,_=>pk c o S C K)
 |.indexAddr t x i=>(match Q8 c.g.tys t,S.ev x,S.ev i with
  |some ⟨_,.slice e,_,_,_⟩,some (.slice b n _),some (.int _ i)=>(match Q8 c.g.tys e with
   |some r=>be b n i r.sz λp=>XD c S o.dst (.v (.pointer (some p))) K
   |none=>pk c o S C K)
  |_,_,_=>pk c o S C K)
 |.index t x i=>(match Q8 c.g.tys t,S.ev x,S.ev i with
  |some ⟨_,.string,_,_,_⟩,some (.string s),some (.int _ i)=>fM s i λb=>XD c S o.dst (.v (.int .u8 b)) K
  |_,_,_=>pk c o S C K)
 |.call ⟨.value f,g,_⟩=>(match S.ev f with
  |some (.func (.func n) first d)=>(match jO n c.g.fns with
   |true=>jQ first.toList [] (λa=>uH S g.toList a (λa=>jQ d.toList a (λa=>jQ a [] (λl=>
     aQw c.g.P n l C λv=>XD c S o.dst (.v v) K))))
   |false=>pk c o S C K)
  |_=>pk c o S C K)
 |_=>pk c o S C K
def rK (c:Cx)(o:Oper)(S:Env)(C:θ->Prop)(K:Env->Prop):Prop:=
 match ya c.g S o.op with|.val v=>XD c S o.dst (.v v) K|.ent e=>XD c S o.dst e K|.norm k n=>d6 n (λm=>XD c S o.dst (.v (.int k m)) K)|.normIf p k n=>jP p n (λm=>XD c S o.dst (.v (.int k m)) K)|.need p v=>mW p v (λv=>XD c S o.dst (.v v) K)|.no=>MY c o S C K
def du (c:Cx) (a:χ Oper):χ Oper->Env->(θ->Prop)->(Env->Prop)->Prop
 |[],S,_,K=>cK (FI c) S [] K
 |o::rest,S,C,K=>match o.guard with
  |none=>rK c o S C λS=>du c a rest S C K
  |some (
      j,e)=>match V9 a j with
   |some f=>(match f.dst with
    |some d=>(match S.ent d with
     |some .t=>(match e with
      |true=>rK c o S C λS=>du c a rest S C K
      |false=>XD c S o.dst (.v undef) λS=>du c a rest S C K)
     |some .f=>(match e with
      |false=>rK c o S C λS=>du c a rest S C K
      |true=>XD c S o.dst (.v undef) λS=>du c a rest S C K)
     |some (.v (.bool b))=>(match e with
      |true=>VV b (rK c o ((d,.t)::S) C λS=>du c a rest S C K) (XD c ((d,.f)::S) o.dst (.v undef) λS=>du c a rest S C K)
      |false=>VV b (XD c ((d,.t)::S) o.dst (.v undef) λS=>du c a rest S C K) (rK c o ((d,.f)::S) C λS=>du c a rest S C K))
     |some (.v (.tuple _))=>XD c S o.dst (.v undef) λS=>du c a rest S C K
     |_=>False)
    |none=>False)
   |none=>False
section
variable {c:Cx} {a:Act} {S:Env} {C:World->Prop} {K:Env->Prop}
abbrev ye (c:Cx)(K:Env->Prop):Act->Prop:=λb=>∃a,Fits c.N a b/\K a
theorem uJ {o:Oper}{v:τ}{N:Act->Prop}(b:∀w,(execOp a.eval o).run c.g.P w= .ok (.value v) w)(h:N (a.put o.dst v)):o.quiet c.g.P a C N:=
 ⟨v,λw _=>by unfold Oper.quietAt;rw[b w];exact⟨rfl,rfl⟩,h⟩
theorem aQx {o:Oper}{v:τ}{N:Act->Prop}(b:∀w,C w->(execOp a.eval o).run c.g.P w= .ok (.value v) w)(h:N (a.put o.dst v)):o.quiet c.g.P a C N:=
 ⟨v,λw d=>by unfold Oper.quietAt;rw[b w d];exact⟨rfl,rfl⟩,h⟩
theorem hQQ (y:c.g.Ok){o:Oper}(h:MY c o S C K)(d:Fits c.N S a):o.quiet c.g.P a C (ye c K):=by
 have q:pk c o S C K->o.quiet c.g.P a C (ye c K):=λh=>by unfold pk at h;obtain⟨v,B,j⟩:=h;exact⟨v,λw A=>B a w d A,Jf (e:=.v v) j d⟩
 obtain⟨dst,op,ty,pos,G,T⟩:=o;unfold MY at h;split at h;rename_i t x g;simp only at g;subst g;split at h;rename_i r p z E;have m:=d.ev E;split at h;rename_i L;unfold yb at h;obtain⟨v,D,l⟩:=h;refine aQx (v:=v) (λw A=>?_) (Jf (e:=.v v) l d);simp[execOp,m,Instr.loadAt,Instr.sureAddr,loadVar,rH y z,L,load,Sem.run,D w A];rename_i L;unfold yd at h;obtain⟨N,W,D,l⟩:=h;refine aQx (v:=.agg N.toArray) (λw A=>?_) (Jf (e:=.v (.agg N.toArray)) l d);have j:=run_loadCells_list (P:=c.g.P) (w:=w) p N (D w A);rw[W] at j;simp[execOp,m,Instr.loadAt,Instr.sureAddr,loadVar,rH y z,L,run_sizeOf y z,j];exact q h;rename_i t x Y g;simp only at g;subst g;split at h;rename_i e b n k i z E M;split at h;rename_i r R;unfold be at h;obtain⟨p,rfl,J,B,l⟩:=h;have m:=d.ev E;have I:=d.ev M;refine uJ (v:=.pointer (some (p.add (i.toNat*r.sz)))) (λw=>?_) (Jf (e:=.v _) l d);simp[execOp,m,I,Instr.indexAt,asIntOf,bi y z,run_sizeOf y R,J,B];exact q h;exact q h;rename_i t x Y g;simp only at g;subst g;split at h;rename_i s k i z E M;unfold fM at h;obtain⟨b,J,B,l⟩:=h;have m:=d.ev E;have I:=d.ev M;refine uJ (v:=.int .u8 b.toNat) (λw=>?_) (Jf (e:=.v _) l d);simp[execOp,m,I,Instr.index,asIntOf,bi y z,J,B];exact q h;rename_i f Q Z g;simp only at g;subst g;split at h;rename_i n first H D;split at h;rename_i X;have V:=y.fns n (FF X);rw[rG] at h;have j:=MT h d;rw[rG,rG] at j;simp only[YE,List.reverse_append,List.reverse_reverse,WW] at j;unfold aQw at j;obtain⟨v,U,l⟩:=j;have m:=d.ev D;refine⟨v,λw A=>?_,Jf (e:=.v v) l d⟩;unfold Oper.quietAt;have:(execOp a.eval {dst:=dst,op:=.call ⟨.value f,Q,Z⟩,type:=ty,pos:=pos,after:=G,guard:=T}).run c.g.P w=
   .ok (.enter n (first.toList++(List.map a.eval Q.toList++H.toList)).toArray) w:=by
  simp[execOp,resolve,m,Deferred.ofValue,invoke,FL V]
 rw[this];refine⟨rfl,?_⟩;have O:=U w A;unfold Fn at O;refine O.mono λe w' F=>?_;cases e with|returned u=>exact⟨by rw[F.1],F.2⟩|panicked ch=>exact F.elim|outgrown=>exact F.elim
 exact q h;exact q h;exact q h
theorem hQS (f:c.g.Ok){o:Oper}(h:rK c o S C K)(b:Fits c.N S a):o.quiet c.g.P a C (ye c K):=by unfold rK at h;split at h;rename_i v d;exact uJ (λw=>fO (w:=w) f b d) (Jf (e:=.v v) h b);rename_i e d;exact uJ (λw=>fO (w:=w) f b d) (Jf (e:=e) h b);rename_i k n d;unfold d6 at h;exact uJ (λw=>fO (w:=w) f b d) (Jf (e:=.v (.int k n)) h b);rename_i p k n d;unfold jP at h;exact uJ (λw=>fO (w:=w) f b d h.1) (Jf (e:=.v (.int k n)) h.2 b);rename_i p v d;unfold mW at h;exact uJ (λw=>fO (w:=w) f b d h.1) (Jf (e:=.v v) h.2 b);exact hQQ f h b
theorem FR (z:c.g.Ok)(g:χ Oper):∀(l:χ Oper)(S:Env)(a:Act),du c g l S C K->Fits c.N S a->wpQuiet c.g.P g.toArray C (ye c K) l a
 |[],S,a,h,f=>by simp only[du] at h;exact Bc (p:=FI c) f.size f.defers S [] (λk x i=>by simp[Env.ent] at i) (λk x _ i=>f.has k x i) h
 |o::rest,S,a,h,f=>by
  have t:∀(S:Env),rK c o S C (λS=>du c g rest S C K)->Fits c.N S a->o.quiet c.g.P a C (wpQuiet c.g.P g.toArray C (ye c K) rest):=λS h f=>Oper.quiet_mono (λB ⟨w,y,i⟩=>FR z g rest w B i y) (hQS z h f);have u:∀(S:Env),XD c S o.dst (.v undef) (λS=>du c g rest S C K)->Fits c.N S a->wpQuiet c.g.P g.toArray C (ye c K) rest (a.put o.dst undef):=λS h f=>by obtain⟨w,y,i⟩:=Jf h f;exact FR z g rest w _ i y
  have q:∀(d:Nat) (b:Bool) (e:Ent),S.ent d=some (.v (.bool b))->e.val= .bool b->Fits c.N ((d,e)::S) a:=λd b e s E=>by refine⟨f.size,f.defers,λk x i=>?_⟩;simp only[Env.ent] at i;split at i;rename_i D;have:=YV D;subst this;cases i;rw[E];exact f.has _ _ s;exact f.has _ _ i
  simp only[du] at h;unfold wpQuiet;split at h;rename_i r;rw[Qf (by simp[Region.wanted,r])];exact t S h f;rename_i j A r;split at h;rename_i F v;split at h;rename_i d s;split at h;rename_i m;have n:=ph r v s (f.has _ _ m);split at h;rw[Qf (by rw[n];rfl)];exact t S h f;rw[φ (by rw[n];decide)];exact u S h f;rename_i m;have n:=ph r v s (f.has _ _ m);split at h;rw[Qf (by rw[n];rfl)];exact t S h f;rw[φ (by rw[n];decide)];exact u S h f;rename_i b m;have n:=ph r v s (f.has _ _ m);split at h;unfold VV at h;cases b with|true=>rw[Qf (by rw[n];rfl)];exact t _ (h.1 rfl) (q d true .t m rfl)|false=>rw[φ (by rw[n];decide)];exact u _ (h.2 rfl) (q d false .f m rfl)
  unfold VV at h;cases b with|true=>rw[φ (by rw[n];decide)];exact u _ (h.1 rfl) (q d true .t m rfl)|false=>rw[Qf (by rw[n];rfl)];exact t _ (h.2 rfl) (q d false .f m rfl)
  rename_i m;rw[φ (by rw[MU r v s (f.has _ _ m)];decide)];exact u S h f;exact h.elim;exact h.elim;exact h.elim
end
theorem MZ {P:Program}{c:Array Oper}{C:θ->Prop}{Q e:Act->Prop}(h:∀a,Q a->e a):∀{l:χ Oper}{a:Act},wpQuiet P c C Q l a->wpQuiet P c C e l a|[],a,b=>h a b|o::l,a,b=>by unfold wpQuiet at*;split;rename_i d;rw[Qf d] at b;exact Oper.quiet_mono (λg f=>MZ h f) b;rename_i d;rw[φ d] at b;exact MZ h b
theorem hQT {c:Cx}(e:c.g.Ok){id:Nat}{b:χ Oper}{S:Env}{w:θ}{Q:ZD}(C:θ->Prop)(f:C w.drew)(g:Region.lexB .any b.toArray=true)(h:du c b b S C λS=>∀d,C d->Q .normal S d):bf c id b S w Q:=by unfold bf;intro a i;refine wp_region_quiet (C:=C) e.mixed g f ?_;have:=FR e b b S a h i;refine MZ ?_ this;intro i ⟨b,e,f⟩ d g;exact⟨b,e,f d g⟩
theorem Be {P:Program}{c:Array Oper}{w:θ}{Q:Act->Prop}:∀{l:χ Oper}{a:Act},wpQuiet P c (λg=>g=w) Q l a->wpStill P c w Q l a
 |[],a,h=>h
 |o::l,a,h=>by
  unfold wpQuiet at h;unfold wpStill;split
  ·rename_i e;rw[Qf e] at h;obtain⟨v,j,d⟩:=h;have b:=j w rfl;unfold Oper.quietAt at b;unfold Oper.still;generalize (execOp a.eval o).run P w=r at*;cases r with
   |ok n g=>
    cases n<;>simp only[Oper.quietUpon] at b<;>simp only[Oper.stillUpon]
    case value u=>obtain⟨rfl,rfl⟩:=b;exact⟨rfl,Be d⟩
    case skip=>obtain⟨rfl,rfl⟩:=b;exact⟨rfl,Be d⟩
    case enter f i=>exact⟨b.1,v,b.2,Be d⟩
   |halt x g=>simp only[Oper.quietUpon] at b
  rename_i e;rw[φ e] at h;exact Be h
theorem Bf {P:Program}{c:Array Oper}{w:θ}{Q e:Act->Prop}(h:∀a,Q a->e a):∀{l:χ Oper}{a:Act},wpStill P c w Q l a->wpStill P c w e l a
 |[],a,b=>h a b
 |o::l,a,b=>by
  unfold wpStill at*;split
  ·rename_i d;rw[Qf d] at b;unfold Oper.still at*;generalize (execOp a.eval o).run P w=r at*;cases r with
   |ok n m=>
    cases n<;>simp only[Oper.stillUpon] at b ⊢
    case value u=>exact⟨b.1,Bf h b.2⟩
    case skip=>exact⟨b.1,Bf h b.2⟩
    case enter f g=>obtain⟨i,v,j,k⟩:=b;exact⟨i,v,j,Bf h k⟩
   |halt x m=>simp only[Oper.stillUpon] at b
  rename_i d;rw[φ d] at b;exact Bf h b
theorem pm {P:Program}{d:Array Oper}{Q f:Exit->Act->θ->Prop}(h:∀e a w,Q e a w->f e a w):∀{l:χ Oper}{a:Act}{w:θ},wpList P d Q l a w->wpList P d f l a w
 |[],a,w,c=>h _ a w c
 |o::l,a,w,c=>by
  unfold wpList at*;split;rename_i j;rw[Qf j] at c;obtain c|⟨p,g,k,b⟩:=c;refine .inl ?_;have b:=Oper.wp_mono (K':=wpList P d f l) (λa w=>pm h) c;unfold Oper.wp at b ⊢;generalize (execOp a.eval o).run P w=r at*;cases r with
  |ok n q=>
   cases n<;>simp only[Oper.upon] at b ⊢ <;> try exact b
   exact b.mono λe s i=>by
    cases e with
    |returned v=>exact i
    |panicked t=>exact h _ _ _ i
    |outgrown=>obtain⟨g,k,m⟩:=i;exact⟨g,k,h _ _ _ m⟩
  |halt x q=>cases x<;>simp only[Oper.upon] at b ⊢ <;> first|exact b|exact h _ _ _ b
  exact .inr ⟨p,g,k,h _ _ _ b⟩;rename_i j;rw[φ j] at c;exact pm h c
theorem rL {c:Cx}(d:c.g.Ok){id:Nat}{b:χ Oper}{S:Env}{w:θ}{Q:ZD}(n:Nat)(f:Region.lexTailB .any b.toArray n=true)
  (h:du {c with named:=1000000} b (b.take n) S (λg=>g=w.drew) λS=>WA c b (b.drop n) S w.drew (λS w=>Q .normal S w) Q):bf c id b S w Q:=by
 unfold bf;intro a g;refine wp_region_still_tail n d.mixed f ?_;have f:=FR (c:={c with named:=1000000}) d b (b.take n) S a h g;refine Bf ?_ (Be f);intro i ⟨j,f,g⟩;have i:=m7 (c:=c) d b _ _ _ _ g f;refine pm (λe a w b=>?_) i;cases e<;>exact b
end
section
def Ext (w a:θ):Prop:=w.grownBy a none
theorem Ext.refl (w:θ):Ext w w:=⟨rfl,rfl,rfl,Qw _,λ_ _ _=>rfl⟩
theorem Ext.trans {a b c:θ}(h:Ext a b)(k:Ext b c):Ext a c:=
 ⟨k.os.trans h.os,k.tape.trans h.tape,k.output.trans h.output,XU h.size k.size,λi d e=>(k.block i (JZ d h.size) e).trans (h.block i d e)⟩
theorem Ext.drew (w:θ):Ext w w.drew:=⟨rfl,rfl,rfl,Qw _,λ_ _ _=>rfl⟩
theorem Ext.alloc (w:θ)(o:Obj):Ext w (w.alloc o):=World.grownBy_alloc w o none
theorem Ext.own {a w w1:θ}{g:Nat}(h:Ext a w)(k:w.grownBy w1 (some g))(b:a.heap.size<=g):Ext a w1:=
 ⟨k.os.trans h.os,k.tape.trans h.tape,k.output.trans h.output,XU h.size k.size,λi a b=>(k.block i (JZ a h.size) λe=>by cases e;omega).trans (h.block i a b)⟩
theorem Ext.cell {w b:θ}(h:Ext w b){a:Addr}{v:τ}(c:w.cell? a=some v):b.cell? a=some v:=World.grownBy.cell h c (by simp)
theorem Ext.below {w w':θ}(h:Ext w w'):Below w.heap.size w w':=⟨h.os,h.tape,h.output,h.size,λk a=>h.block k a (by simp)⟩
theorem Ext.grown {w a:θ}(h:Ext w a)(row:Option Nat):w.grownBy a row:=⟨h.os,h.tape,h.output,h.size,λk a _=>h.block k a (by simp)⟩
theorem hQU {a b c:θ}{row:Option Nat}(h:a.grownBy b row)(k:b.grownBy c row):a.grownBy c row:=
 ⟨k.os.trans h.os,k.tape.trans h.tape,k.output.trans h.output,XU h.size k.size,λi d e=>(k.block i (JZ d h.size) e).trans (h.block i d e)⟩
def Blk (w:θ)(g:Nat)(t:TypeId)(a:χ τ):Prop:=w.heap[g]? =some (.cells a.toArray t (0,0))
theorem Blk.lt {w:θ}{g t:Nat}{a:χ τ}(h:Blk w g t a):g<w.heap.size:=(mQ.1 h).1
theorem Blk.ext {w a:θ}{g t:Nat}{cs:χ τ}(h:Blk w g t cs)(k:Ext w a):Blk a g t cs:=(k.block g h.lt (by simp)).trans h
theorem uK (g j:Nat):(⟨g,0,none⟩:Addr).add j=⟨g,j,none⟩:=by unfold Addr.add;split<;>simp_all
theorem Blk.cell {w:θ}{g t:Nat}{a:χ τ}(h:Blk w g t a)(j:Nat):w.cell? ((⟨g,0,none⟩:Addr).add j)=a[j]? :=by rw[uK,cell_of_row w g j _ t _ h];simp
theorem Blk.frozen {w:θ}{g t:Nat}{a:χ τ}(h:Blk w g t a)(j:Nat):w.frozen? ((⟨g,0,none⟩:Addr).add j)=false:=by rw[uK];exact frozen_of_row w g j _ t h
theorem Blk.new (w:θ)(t:TypeId)(cs:χ τ):Blk (w.alloc (.cells cs.toArray t)) w.heap.size t cs:=heap_alloc_new w _
theorem hQV (w:θ)(a:Addr)(v:τ):w.grownBy (w.setCell a v) (some a.block):=
 ⟨rfl,rfl,rfl,by simp,λk _ b=>Below.heap_setCell w a v k λe=>b (by rw[e])⟩
theorem Blk.set {w:θ}{g t:Nat}{a:χ τ}(h:Blk w g t a)(j:Nat)(v:τ):Blk (w.setCell ((⟨g,0,none⟩:Addr).add j) v) g t (a.set j v):=by rw[uK];have:=heap_setCell_same w g j a.toArray t v h;unfold Blk;rw[this];simp
structure Sl (w:World) (sz:Nat) (A:Θ) (n c:Nat) (cs:List Value):Prop where
 len:cs.length=n*sz
 le:n<=c
 cap:c<=maxLen
 at_:0<n->∃ad,A=some ad/\∀j u,cs[j]? =some u->w.cell? (ad.add j)=some u
theorem Sl.ext {w a:θ}{b n c:Nat}{A:Θ}{cs:χ τ}(h:Sl w b A n c cs)(k:Ext w a):Sl a b A n c cs:=
 ⟨h.len,h.le,h.cap,λa=>let ⟨b,e,d⟩:=h.at_ a;⟨b,e,λj u a=>k.cell (d j u a)⟩⟩
theorem Sl.nil (w:θ)(a:Nat):Sl w a none 0 0 []:=⟨by simp,Qw _,by simp[maxLen],λh=>Xg h ω⟩
theorem Sl.take {w:θ}{a n c:Nat}{A:Θ}{b:χ τ}(h:Sl w a A n c b){m:Nat}(d:m<=n):Sl w a A m c (b.take (m*a)):=
 ⟨by rw[KR,h.len];exact oV (aY _ d),XU d h.le,h.cap,λa=>let ⟨b,e,d⟩:=h.at_ ω;⟨b,e,λj u a=>d j u (by
  rw[Mp] at a;split at a<;>simp_all)⟩⟩
theorem Sl.own {w:θ}{g t sz n c:Nat}{a:χ τ}(h:Blk w g t a)(b:n<=c)(d:c<=maxLen)(e:n*sz<=a.length):Sl w sz (some ⟨g,0,none⟩) n c (a.take (n*sz)):=
 ⟨by rw[KR];exact oV e,b,d,λ_=>⟨_,rfl,λj u a=>by
  rw[h.cell];rw[Mp] at a;split at a<;>simp_all⟩⟩
theorem Sl.own' {w:θ}{g t n:Nat}{cs:χ τ}(h:Blk w g t cs)(b:cs.length=n)(a:n<=maxLen):Sl w 1 (some ⟨g,0,none⟩) n n cs:=by have:=Sl.own (sz:=1) h (Qw n) a ω;rwa [ZJ ω] at this
theorem Z0 {b:Bool}{p q:Prop}(a:b=true->p)(c:b=false->q):VV b p q:=by unfold VV;exact⟨a,c⟩
theorem Ql {c p q:Prop} [Decidable c](a:c->p)(b:¬c->q):VV (decide c) p q:=Z0 (λh=>a (WY h)) λh=>b (of_decide_eq_false h)
theorem Q3 {b:Bool}{p q:Prop}(a:b=true)(c:p):VV b p q:=Z0 (λ_=>c) (λh=>by rw[a] at h;cases h)
theorem QX {b:Bool}{p q:Prop}(a:b=false)(c:q):VV b p q:=Z0 (λh=>by rw[a] at h;cases h) λ_=>c
theorem Zm {c p q:Prop} [Decidable c](a:c)(b:p):VV (decide c) p q:=Q3 (Zg a) b
theorem XB {c p q:Prop} [Decidable c](a:¬c)(b:q):VV (decide c) p q:=QX (XZ a) b
theorem X0 {x y:Int}{p q:Prop}(a:x=y->p)(b:x≠y->q):VV (x==y) p q:=Z0 (λh=>a (by simpa using h)) λh=>b (by simpa using h)
theorem JF {x y:Int}{p q:Prop}(h:x=y)(a:p):VV (x==y) p q:=Q3 (by simpa using h) a
theorem X6 {x y:Int}{p q:Prop}(h:x≠y)(a:q):VV (x==y) p q:=QX (by simpa using h) a
theorem Ya {x y:Int}{p q:Prop}(a:x≠y->p)(b:x=y->q):VV (x !=y) p q:=Z0 (λh=>a (by simpa using h)) λh=>b (by simpa using h)
theorem iX {x y:Int}{p q:Prop}(h:x≠y)(a:p):VV (x !=y) p q:=Q3 (by simpa using h) a
theorem KT {x y:Int}{p q:Prop}(h:x=y)(a:q):VV (x !=y) p q:=QX (by simpa using h) a
theorem bj {b:Bool}{p q:Prop}(h:VV b q p):VV (!b) p q:=by unfold VV at*;cases b<;>simp_all
theorem norm {n m:Int}{K:Int->Prop}(h:n=m)(k:K m):d6 n K:=by unfold d6;rw[h];exact k
theorem hQW {n:Int}{K:Int->Prop}(h: -9223372036854775808<=n/\n<=9223372036854775807)(k:K n):d6 (IntKind.i64.wrap n) K:=norm (IntWalk.i64_in n h) k
theorem jZk {n:Int}{K:Int->Prop}(h:0<=n/\n<=18446744073709551615)(k:K n):d6 (IntKind.u64.wrap n) K:=norm (IntWalk.u64_in n h) k
theorem Ky {n:Int}{K:Int->Prop}(m:Int)(a:n=m)(h: -9223372036854775808<=m/\m<=9223372036854775807)(k:K m):d6 (IntKind.i64.wrap n) K:=by subst a;exact hQW h k
theorem uL {n:Int}{K:Int->Prop}(m:Int)(a:n=m)(h:0<=m/\m<=18446744073709551615)(k:K m):d6 (IntKind.u64.wrap n) K:=by subst a;exact jZk h k
theorem normIf {p:Prop}{n m:Int}{K:Int->Prop}(a:p)(h:n=m)(k:K m):jP p n K:=by unfold jP;rw[h];exact⟨a,k⟩
theorem need {p:Prop}{v:τ}{K:τ->Prop}(a:p)(k:K v):mW p v K:=by unfold mW;exact⟨a,k⟩
theorem aQy {a b s:Nat}{K:Int->Prop}(c:a ||| b=s)(d:a<18446744073709551616)(e:b<18446744073709551616)(k:K (s:Int)):d6 (IntKind.u64.wrap ((BitVec.ofInt IntKind.u64.bits (a:Int) ||| BitVec.ofInt IntKind.u64.bits (b:Int)).toNat:Int)) K:=by
 have d:a ||| b<2^64:=Nat.or_lt_two_pow ω ω
 refine norm ?_ k;rw[BitVec.toNat_or,BitVec.ofInt_natCast,BitVec.ofInt_natCast,BitVec.toNat_ofNat,BitVec.toNat_ofNat];simp only[IntKind.bits];rw[mR ω,mR ω,c];rw[c] at d;exact IntWalk.u64_in _ ω
theorem hQX (x:Nat)(n:Nat):(x:Int).fdiv (2^n)=((x/2^n:Nat):Int):=by rw[Int.fdiv_eq_ediv_of_nonneg _ (Int.le_of_lt (Int.pow_pos δ))];norm_cast
theorem hQY (n:Nat):IntKind.u32.wrap (n:Int)=((n % 4294967296:Nat):Int):=by rw[IntKind.wrap_u32];omega
theorem yf (n:Nat):IntKind.u8.wrap (n:Int)=((n % 256:Nat):Int):=by rw[IntKind.wrap_u8];omega
theorem gI (a b:Nat):(a:Int).tmod (b:Int)=((a % b:Nat):Int):=by rw[Int.tmod_eq_emod_of_nonneg ω];norm_cast
theorem hQZ (a b:Nat):(a:Int).tdiv (b:Int)=((a/b:Nat):Int):=by rw[Int.tdiv_eq_ediv_of_nonneg ω];norm_cast
theorem Bg {x:Nat}{k:IntKind}{y:Int}{K:Int->Prop}(n d:Nat)(a:0<=y)(b:min y.toNat k.bits=n)(c:2^n=d)(h:K ((x/d:Nat):Int)):jP (0<=y) ((x:Int).fdiv (2^(min y.toNat k.bits))) K:=by subst c;rw[b];exact(by unfold jP;exact⟨a,by rw[hQX];exact h⟩)
theorem FT {n:Nat}{K:Int->Prop}(k:K ((n % 4294967296:Nat):Int)):d6 (IntKind.u32.wrap (n:Int)) K:=norm (hQY n) k
theorem aQz {x:Nat}{d:Nat}{K:Int->Prop}(a:0<d)(k:K ((x % d:Nat):Int)):jP ((d:Int)≠0) ((x:Int).tmod d) K:=normIf ω (gI x d) k
theorem load {w:θ}{p:Addr}{v:τ}{K:τ->Prop}(h:w.cell? p=some v)(k:K v):kT w p K:=by unfold kT;exact⟨v,h,k⟩
theorem Qp {w:θ}{g t:Nat}{a:χ τ}{j:Nat}{v:τ}{K:τ->Prop}(h:Blk w g t a)(b:a[j]? =some v)(k:K v):kT w ((⟨g,0,none⟩:Addr).add j) K:=load (by rw[h.cell];exact b) k
theorem uM {w:θ}{g t:Nat}{a:χ τ}{j:Nat}{v:τ}{K:θ->Prop}(h:Blk w g t a)(c:j<a.length)(k:∀b,w.grownBy b (some g)->Blk b g t (a.set j v)->K b):eY w ((⟨g,0,none⟩:Addr).add j) v K:=by unfold eY;refine⟨⟨a[j],by rw[h.cell];simp[c]⟩,h.frozen j,k _ ?_ (h.set j v)⟩;have:=hQV w ((⟨g,0,none⟩:Addr).add j) v;rw[uK] at this ⊢;exact this
theorem index {a:Addr}{n j:Nat}{K:Addr->Prop}(b:j<n)(k:K (a.add j)):be (some a) n (j:Int) 1 K:=by unfold be;exact⟨a,rfl,ω,ω,by simpa using k⟩
theorem KU {a:Addr}{n j b:Nat}{K:Addr->Prop}(c:j<n)(k:K (a.add (j*b))):be (some a) n (j:Int) b K:=by unfold be;exact⟨a,rfl,ω,ω,by simpa using k⟩
theorem Zq {w:θ}{A:Θ}{n c j:Nat}{cs:χ τ}{K:Addr->Prop}(h:Sl w 1 A n c cs)(d:j<n)(k:∀a u,A=some a->cs[j]? =some u->w.cell? (a.add j)=some u->K (a.add j)):be A n (j:Int) 1 K:=by
 obtain⟨a,rfl,e⟩:=h.at_ ω;have b:j<cs.length:=by have:=h.len;omega
 exact index d (k a cs[j] rfl (by simp[b]) (e j _ (by simp[b])))
theorem hQ1 {s:ByteArray}{j:Nat}{K:Int->Prop}(a:j<s.size)(k:K (s[j].toNat:Int)):fM s (j:Int) K:=by unfold fM;exact⟨s[j],ω,by simp[a],k⟩
theorem Qx {C:θ->Prop}{p:Addr}{v:τ}{K:τ->Prop}(h:∀w,C w->w.cell? p=some v)(k:K v):yb C p K:=by unfold yb;exact⟨v,h,k⟩
theorem Bh {c:Cx}(d:c.g.Ok){id:Nat}{a:χ Oper}{S:Env}{w:θ}{Q:ZD}(e:Region.lexB .any a.toArray=true)(h:du c a a S (Ext w) λS=>∀b,Ext w b->Q .normal S b):bf c id a S w Q:=hQT d (Ext w) (Ext.drew w) e h
theorem Kr {c:Cx}{o:Oper}{S:Env}{w w':θ}{K:Env->θ->Prop}{Q:ZD}{v:τ}(h:∀a,Fits c.N S a->(execOp a.eval o).run c.g.P w= .ok (.value v) w')(k:XD c S o.dst (.v v) λS=>K S w'):Zv c o S w K Q:=by unfold Zv;intro a b;exact eZ (h a b) (Jf (e:=.v v) k b)
theorem aQA (z:τ)(n:Nat):madeCells #[z] n=Array.replicate n z:=by apply Array.ext;simp[madeCells];intro i a b;simp[madeCells,Nat.mod_one]
theorem yg {c:Cx}(f:c.g.Ok){o:Oper}{S:Env}{w:θ}{K:Env->θ->Prop}{Q:ZD}{t e:Nat}{x y:Operand}{n:Nat}{r b:TyRow}(h:o.op= .makeSlice t x y)(j:Q8 c.g.tys t=some r)(l:r.d= .slice e)(g:Q8 c.g.tys e=some b)(m:b.z.cells= #[b.z])(p:b.sz=1) (q:S.ev x=some (.int .i64 n)) (s:S.ev y=some (.int .i64 n)) (z:b.by_*n<=281474976710656) (u:n<=maxLen)(k:∀d,Ext w d->d.heap.size=w.heap.size+1->Blk d w.heap.size e (List.replicate n b.z)->XD c S o.dst (.v (.slice (some ⟨w.heap.size,0,none⟩) n n)) λS=>K S d):Zv c o S w K Q:=by
 obtain⟨_,i,z,A,B,C⟩:=f.row g;have g:=(f.row j).1;rw[l] at g;have d:=run_make (P:=c.g.P) w t e i b.z g z C .i64 .i64 n n ω ω (by rw[B];omega) (by unfold maxLen at u;omega);rw[m,A,p,aQA] at d;refine Kr (w':=w.alloc (.cells (Array.replicate n b.z) e)) (v:=.slice (some ⟨w.heap.size,0,none⟩) n n) (λa f=>?_) (k _ (Ext.alloc w _) (by simp) ?_);have g:=f.ev q;have j:=f.ev s;simp only[execOp,h,g,j];simp at d ⊢;rw[d]<;>rfl
 have:=Blk.new w e (List.replicate n b.z);simpa using this
theorem bm {c:Cx}(d:c.g.Ok){o:Oper}{S:Env}{w:θ}{K:Env->θ->Prop}{Q:ZD}{t e:Nat}{x y:Operand}{A:Θ}{n b:Nat}{h:Nat}{r:TyRow}(g:o.op= .slice t x none (some y) none)(f:Q8 c.g.tys t=some r)(i:r.d= .slice e){j:TyRow}(l:Q8 c.g.tys e=some j)(m:S.ev x=some (.slice A n b)) (p:S.ev y=some (.int .i64 h)) (q:h<=b)(k:XD c S o.dst (.v (.slice A h b)) λS=>K S w):Zv c o S w K Q:=by have b:=(d.row f).1;rw[i] at b;refine Kr (w':=w) (λa f=>?_) k;have i:=f.ev m;have j:=f.ev p;simp[execOp,g,i,j,Instr.sliceAt,Instr.slice,JB b,Instr.sliceBounds,Instr.sliceBound,asIntOf,q,run_sizeOf d l];intro _;cases A<;>simp[Addr.add]
theorem uN {c:Cx}(d:c.g.Ok){o:Oper}{S:Env}{w:θ}{K:Env->θ->Prop}{Q:ZD}{t e:Nat}{x y:Operand}{A:Θ}{n b:Nat}{l:Nat}{r:TyRow}(g:o.op= .slice t x (some y) none none)(h:Q8 c.g.tys t=some r)(i:r.d= .slice e){f:TyRow}(j:Q8 c.g.tys e=some f)(m:S.ev x=some (.slice A n b)) (p:S.ev y=some (.int .i64 l)) (q:l<=n)(k:XD c S o.dst (.v (.slice (if b=l then A else A.map (·.add (l*f.sz))) (n-l) (b-l))) λS=>K S w):Zv c o S w K Q:=by have b:=(d.row h).1;rw[i] at b;refine Kr (w':=w) (λa f=>?_) k;have h:=f.ev m;have i:=f.ev p;simp[execOp,g,h,i,Instr.sliceAt,Instr.slice,JB b,Instr.sliceBounds,Instr.sliceBound,asIntOf,q,run_sizeOf d j]
structure Own (w:World) (base e sz:Nat) (A:Θ) (n c:Nat) (cs:List Value):Prop where
 row:w.ownsRow base e sz (.slice A n c) n cs
theorem vQQ {w:θ}{a e b:Nat}{v:τ}{n:Nat}{cs:χ τ}(h:w.ownsRow a e b v n cs):∃A c,v= .slice A n c/\Own w a e b A n c cs:=by obtain⟨rfl,rfl⟩|⟨g,a,b,rfl,r⟩:=h.2;exact⟨none,0,rfl,⟨h⟩⟩;exact⟨_,a,rfl,⟨h⟩⟩
theorem Own.sl {w:θ}{a e b n c:Nat}{A:Θ}{cs:χ τ}(h:Own w a e b A n c cs):Sl w b A n c cs:=by have h:=h.row;have b:=h.1;obtain⟨a,rfl⟩|⟨g,d,k,a,l,m,f,i,o,p⟩:=h.2;cases a;exact⟨b,Qw _,by simp[maxLen],λh=>Xg h ω⟩;cases a;refine⟨b,f,i,λ_=>⟨_,rfl,λj u a=>?_⟩⟩;exact World.ownsRow.cells h (g:=g) rfl j u a
theorem Own.ext {w b:θ}{a e d n c:Nat}{A:Θ}{cs:χ τ}(h:Own w a e d A n c cs)(k:Ext w b):Own b a e d A n c cs:=
 ⟨h.row.kept k (by cases a:(Value.slice A n c).ownBlock<;>simp)⟩
theorem Own.empty {w:θ}{g e b:Nat}{a:Nat}(h:Blk w g e [])(c:a<=g):Own w a e b (some ⟨g,0,none⟩) 0 0 []:=
 ⟨⟨by simp,.inr ⟨g,0,_,rfl,c,h,Qw _,by simp[maxLen],by simp,by simp⟩⟩⟩
theorem Own.nil (w:θ)(a e b:Nat):Own w a e b none 0 0 []:=⟨World.ownsRow_nil w a e b⟩
theorem Own.blk {w:θ}{a e n c:Nat}{A:Θ}{b:χ τ}(h:Own w a e 1 A n c b)(f:0<n):∃g d,A=some ⟨g,0,none⟩/\a<=g/\Blk w g e (b++d)/\(b++d).length=c:=by have h:=h.row;obtain⟨a,rfl⟩|⟨g,d,f,a,i,j,l,m,k,b⟩:=h.2;omega;cases a;refine⟨g,f.toList.drop n,rfl,i,?_⟩;rw[VC] at b;rw[<-b,jK];exact⟨by simpa [Blk] using j,by simpa using k⟩
theorem vQS {w:θ}{a e n c g:Nat}{cs b:χ τ}(h:Blk w g e (cs++b))(f:a<=g)(i:cs.length=n)(d:(cs++b).length=c)(j:c<=maxLen):Own w a e 1 (some ⟨g,0,none⟩) n c cs:=
 ⟨⟨ω,.inr ⟨g,c,_,rfl,f,h,by rw[Qy] at d;omega,j,by simpa using d,by rw[VC];simp[<-i]⟩⟩⟩
theorem hQ2 {w:θ}{b e n c j:Nat}{a:Addr}{f:χ τ}{v:τ}{K:θ->Prop}(h:Own w b e 1 (some a) n c f)(i:j<n)(k:∀d,w.grownBy d (Value.slice (some a) n c).ownBlock->Own d b e 1 (some a) n c (f.set j v)->K d):eY w (a.add j) v K:=by
 obtain⟨g,o,i,l,m,b⟩:=h.blk ω;cases i;have i:f.length=n:=by have:=h.sl.len;omega
 refine uM m (by rw[Qy];omega) λd m f=>k d m ?_;rw[List.set_append_left _ _ ω] at f;exact vQS f l (by rw[jL];exact i) (by rw[Qy,jL];rw[Qy] at b;exact b) h.sl.cap
theorem fQ (a:Addr)(j:Nat):(a.add j).block=a.block:=by unfold Addr.add;split<;>rfl
theorem FU {u:τ}(h:Kb u=true):u.oneCell'=true:=by cases u<;>first|rfl|(simp[Kb] at h)
theorem hQ3 (z v:τ)(h:Kb v=true):Instr.fill (λi=>some (i*1,1)) #[z] [(0,v)]=some #[v]:=by
 have a:v.cells= #[v]:=by cases v<;>first|rfl|(simp[Kb] at h)
 simp[Instr.fill,a]
theorem hQ5 (z v u:τ)(h:Kb v=true)(a:Kb u=true):Instr.fill (λi=>some (i*1,1)) #[z,z] [(0,v),(1,u)]=some #[v,u]:=by
 have b:v.cells= #[v]:=by cases v<;>first|rfl|(simp[Kb] at h)
 have c:u.cells= #[u]:=by cases u<;>first|rfl|(simp[Kb] at a)
 simp[Instr.fill,b,c]
section
variable {c:Cx} (hg:c.g.Ok) {o:Oper} {S:Env} {w:World} {K:Env->World->Prop} {Q:ZD} {t e:Nat} {r re:TyRow}
include hg
theorem M1 (s:Q8 c.g.tys t=some r)(q:r.d= .slice e)(o:Q8 c.g.tys e=some re)(m:re.sz=1)(u:re.z.cells= #[re.z])(n:Nat)(x:n<=1000)(a:Array (Nat×τ))(g:χ τ)(b:Instr.fill (λi=>some (i*1,1)) (Array.replicate n re.z) a.toList=some g.toArray):(Instr.buildSlice t n a).run c.g.P w= .ok (.slice (some ⟨w.heap.size,0,none⟩) n n) (w.alloc (.cells g.toArray e)):=by
 obtain⟨_,i,l,f,y,p⟩:=hg.row o;have d:=(hg.row s).1;rw[q] at d;have h:(Array.range n).map (λj=>(#[re.z]:Array τ)[j % (#[re.z]:Array τ).size]!)=Array.replicate n re.z:=aQA re.z n;have v:¬(16777216<n):=by omega
 by_cases k:n=0;subst k;simp[Instr.buildSlice,JB d,sizeOf,typeInfo,l,f,m,newRow] at b ⊢;rw[show Array.map (λ_=>(default:τ)) (Array.range 0)= #[] by simp[Array.range_zero'],b];simp;simp[Instr.buildSlice,JB d,sizeOf,typeInfo,l,f,m,newRow,v,k,zeroValue,p,u];simp at h b;rw[h,b];simp
theorem hQ6 (d:o.op= .buildSlice t 0 #[])(f:Q8 c.g.tys t=some r)(g:r.d= .slice e)(h:Q8 c.g.tys e=some re)(i:re.sz=1)(j:re.z.cells= #[re.z])(k:∀b,Ext w b->b.heap.size=w.heap.size+1->Blk b w.heap.size e []->XD c S o.dst (.v (.slice (some ⟨w.heap.size,0,none⟩) 0 0)) λS=>K S b):Zv c o S w K Q:=by have b:=M1 (w:=w) hg f g h i j 0 ω #[] [] (by simp[Instr.fill]);refine Kr (w':=w.alloc (.cells #[] e)) (λa f=>?_) (k _ (Ext.alloc w _) (by simp) (Blk.new w e []));simp only[execOp,d];simp[b]
theorem hQ7 {x:Operand}{v:τ}(d:o.op= .buildSlice t 1 #[(0,x)])(f:Q8 c.g.tys t=some r)(g:r.d= .slice e)(h:Q8 c.g.tys e=some re)(i:re.sz=1)(j:re.z.cells= #[re.z])(l:S.ev x=some v)(m:Kb v=true)(k:∀b,Ext w b->b.heap.size=w.heap.size+1->Blk b w.heap.size e [v]->XD c S o.dst (.v (.slice (some ⟨w.heap.size,0,none⟩) 1 1)) λS=>K S b):Zv c o S w K Q:=by have b:=M1 (w:=w) hg f g h i j 1 ω #[(0,v)] [v] (hQ3 re.z v m);refine Kr (w':=w.alloc (.cells #[v] e)) (λa f=>?_) (k _ (Ext.alloc w _) (by simp) (Blk.new w e [v]));have g:=f.ev l;simp only[execOp,d];simp[g,b]
theorem M2 {x y:Operand}{v u:τ}(d:o.op= .buildSlice t 2 #[(0,x),(1,y)])(f:Q8 c.g.tys t=some r)(g:r.d= .slice e)(h:Q8 c.g.tys e=some re)(i:re.sz=1)(j:re.z.cells= #[re.z])(l:S.ev x=some v)(m:S.ev y=some u)(n:Kb v=true)(p:Kb u=true)(k:∀b,Ext w b->b.heap.size=w.heap.size+1->Blk b w.heap.size e [v,u]->XD c S o.dst (.v (.slice (some ⟨w.heap.size,0,none⟩) 2 2)) λS=>K S b):Zv c o S w K Q:=by have q:=M1 (w:=w) hg f g h i j 2 ω #[(0,v),(1,u)] [v,u] (hQ5 re.z v u n p);refine Kr (w':=w.alloc (.cells #[v,u] e)) (λa b=>?_) (k _ (Ext.alloc w _) (by simp) (Blk.new w e [v,u]));have f:=b.ev l;have g:=b.ev m;simp only[execOp,d];simp[f,g,q]
end
theorem iQa {c:Cx}(l:c.g.Ok){o:Oper}{S:Env}{w:θ}{K:Env->θ->Prop}{Q:ZD}{t z e:Nat}{x y:Operand}{g n B:Nat}{A:Θ}{m h:Nat}{d b:χ τ}{r p:TyRow}(C:o.op= .call ⟨.builtin .copy, #[x,y], #[t,z]⟩) (D:Q8 c.g.tys t=some r) (E:r.d= .slice e) (F:Q8 c.g.tys e=some p) (G:p.sz=1)(H:S.ev x=some (.slice (some ⟨g,0,none⟩) n B)) (I:S.ev y=some (.slice A m h)) (q:Blk w g e d) (s:Sl w 1 A m h b) (J:m<=n) (M:n<=d.length) (L:∀u∈b,Kb u=true)(k:∀f,w.grownBy f (some g)->f.heap.size=w.heap.size->Blk f g e (b++d.drop m)->XD c S o.dst (.v (.int .i64 m)) λS=>K S f):Zv c o S w K Q:=by
 obtain⟨_,i,z,B,f,p⟩:=l.row F;have p:=(l.row D).1;rw[E] at p;have f:b.length=m:=by have:=s.len;omega
 have D:(Builtin.firstCells 1 m (.slice A m h)).run c.g.P w= .ok b.toArray w:=by
  by_cases h:m=0;subst h;have:b=[]:=VT f;subst this;cases A<;>simp[Builtin.firstCells,loadCells,loadCellsFrom]
  obtain⟨h,rfl,l⟩:=s.at_ ω;have:=run_loadCells_list (P:=c.g.P) (w:=w) h b l;rw[f] at this;simpa [Builtin.firstCells] using this
 have h:=run_storeCells_at c.g.P g 0 e b 0 d.toArray w q (by simp;omega) λu l=>FU (L u l);simp only[YW,Ff] at h;have s:Nat.min m n=m:=oV J;refine Kr (w':=w.setRow g (b++d.drop m).toArray) (v:=.int .i64 m) (λa l=>?_) (k _ ?_ (by simp) ?_);have E:=l.ev H;have F:=l.ev I;have l:(storeCells (⟨g,0,none⟩:Addr) b).run c.g.P w= .ok () (w.setRow g (b++d.drop m).toArray):=by have:=h;rw[f] at this;simpa [uK] using this
 simp only[execOp,C,resolve,invoke];simp[builtin,E,F,Builtin.copy_,JB p,sizeOf,typeInfo,z,B,G,Builtin.lenOf,s,D,l,goInt];exact⟨rfl,rfl,rfl,by simp,λj _ b=>setRow_other w g j _ λe=>b (by rw[e])⟩;exact setRow_heap w g d.toArray _ e _ q
def YH (l:Γ):χ τ:=l.map λ(x:Nat)=>.int .u8 x
def Qb (l:Γ):ByteArray:=⟨(l.map UInt8.ofNat).toArray⟩
theorem uO {l:Γ}{j x:Nat}(h:l[j]? =some x):(YH l)[j]? =some (.int .u8 (x:Int)):=by simp[YH,h]
theorem aQB (l m:Γ):YH (l++m)=YH l++YH m:=by simp[YH]
theorem yh (l:Γ):(YH l).length=l.length:=by simp[YH]
theorem tQ1 (l:Γ):∀u∈YH l,Kb u=true:=by intro u a;simp only[YH,Z5] at a;obtain⟨x,_,rfl⟩:=a;rfl
theorem ZR (l m:Γ):Qb l++Qb m=Qb (l++m):=by apply ByteArray.ext;simp[Qb,ByteArray.data_append]
theorem QZ (l:Γ):(Qb l).size=l.length:=by simp[Qb,ByteArray.size]
def Yn (s:ByteArray):Γ:=s.data.toList.map UInt8.toNat
theorem uP (s:ByteArray):(Yn s).length=s.size:=by simp[Yn]
theorem FW (s:ByteArray):∀x∈Yn s,x<256:=by intro x a;simp only[Yn,Z5] at a;obtain⟨b,_,rfl⟩:=a;exact b.toNat_lt
theorem aQC {s:ByteArray}{j:Nat}(a:j<s.size):(Yn s)[j]? =some s[j].toNat:=by have b:j<s.data.size:=a;have:s[j]=s.data[j]:=rfl;rw[this];simp only[Yn,Wy,Array.getElem?_toList];rw[Array.getElem?_eq_getElem b]<;>rfl
theorem Wd {s:ByteArray}{j:Nat}{K:Int->Prop}(a:j<s.size)(k:∀x,(Yn s)[j]? =some x->x<256->K (x:Int)):fM s (j:Int) K:=
 hQ1 a (k _ (aQC a) (s[j]).toNat_lt)
theorem M3 (s:ByteArray):Qb (Yn s)=s:=by apply ByteArray.ext;simp[Qb,Yn,Function.comp_def]
theorem We {l:Γ}(h:∀x∈l,x<256):Yn (Qb l)=l:=by
 simp only[Yn,Qb,xP]
 conv=>rhs;rw[<-List.map_id l]
 apply List.map_congr_left;intro x a;simp[mR (h x a)]
theorem Jl {l m:Γ}(a:∀x∈l,x<256)(b:∀x∈m,x<256)(h:Qb l=Qb m):l=m:=by rw[<-We a,<-We b,h]
end
section
section
variable {P:Program} {ops:Array Oper} {md:Region.Mode} {C:World->Prop} {Q:Exit->Act->World->Prop}
def NoPan (Q:Exit->Act->θ->Prop):Exit->Act->θ->Prop|.panic _,_,_=>False|e,a,w=>Q e a w
theorem NoPan.imp {Q:Exit->Act->θ->Prop}:∀(e:Exit)(a:Act)(w:θ),NoPan Q e a w->Q e a w:=λe a w h=>by cases e<;>first|exact h|exact(h:False).elim
def WB (P:Program)(d:Region.Mode)(c:Array Oper)(Q:Exit->Act->θ->Prop)(C:θ->Prop)(n:Nat)(L:Array Bool->Act->θ->Prop):Nat->Array Bool->Act->θ->Prop|0,b,a,w=>L b a w|f+1,b,a,w=>Region.ready d c b≠ []/\∀i∈Region.ready d c b,i<n/\wpOp P c Q i (λg e=>C e/\WB P d c Q C n L f (b.setIfInBounds i true) g e) a w
theorem yi {n g:Nat}{L:Array Bool->Act->θ->Prop}(c:∀b a w,L b a w->wpAny P md ops Q g b a w):∀(f:Nat) (b:Array Bool) (a:Act) (w:θ),WB P md ops Q C n L f b a w->wpAny P md ops Q (f+g) b a w|0,b,a,w,h=>by rw[YW];exact c _ _ _ h|f+1,b,a,w,h=>by rw[show f+1+g=(f+g)+1 by omega];exact⟨λb=>Xg b h.1,λi d=>wpOp_mono (λb e j=>yi c f _ b e j.2) (h.2 i d).2⟩
def ni (b:Region.Mode)(a:Array Oper)(n:Nat):Prop:=n=a.size∨(n<a.size/\Region.sinkB b a n=true/\Region.chainB b a n=true)
theorem yj {n i:Nat}{a:Array Bool}(b:ni md ops n)(c:HeadInv md ops n a)(d:i<n)(e:a.getD i true=false):∀j∈Region.ready md ops a,j<n:=by intro j a;obtain b|⟨f,g,k⟩:=b;obtain⟨_,m,l,_⟩:=mem_ready.1 a;rw[b];exact(mQ.1 l).1;obtain h|h:=Nat.lt_or_ge j n;exact h;exact Xg a (tail_waits g k f c _ i rfl d e j h)
theorem M4 {n i:Nat}{r:Oper}{v:τ}{L:Array Bool->Act->θ->Prop}(z:ops[i]? =some r)(D:∀(j:Nat)(o:Oper) s b,ops[j]? =some o->o.op≠ .select s b)(y:ni md ops n) (A:i<n) (B:∀c a w,L c a w->∀j∈Region.ready md ops c,n<=j):∀(f:Nat) (c:Array Bool) (a:Act) (w:θ),HeadInv md ops n c->(∀j m,ops[j]? =some m->j≠i->c.getD j true=false->(∀e∈m.after,Region.binds md e=true->e.on≠i)->r.apart ops m=true)->i∈Region.ready md ops c->YieldsIf P ops C r v a->C w->WB P md ops (NoPan Q) C n L f (c.setIfInBounds i true) (a.put r.dst v) w->WB P md ops (NoPan Q) C n L (f+1) c a w:=by
 intro f;induction f with|zero=>intro c a w d _ g u t H;have p:=(mem_ready.1 g).1;refine⟨λh=>(by rw[h] at g;cases g),λj q=>?_⟩;have x:=yj y d A p j q;refine⟨x,?_⟩;by_cases l:j=i;subst l;exact u.wpOp z t ⟨t,H⟩;have:=B _ _ _ H j (ready_mono q l);omega|succ f G=>
  intro c a w d E g u t H;have p:=(mem_ready.1 g).1;refine⟨λh=>(by rw[h] at g;cases g),λj q=>?_⟩;have x:=yj y d A p j q;refine⟨x,?_⟩;by_cases l:j=i;subst l;exact u.wpOp z t ⟨t,H⟩;have y:=(H.2 j (ready_mono q l)).2;obtain⟨F,m,A,t⟩:=mem_ready.1 q;have I:∀e∈m.after,Region.binds md e=true->e.on≠i:=λe J K B=>by have y:=t e J K;rw[B,getD_both p] at y;cases y
  have t:=wpOp_putIf A (E j m A l F I) (λs b=>D i r s b z) (λs b=>D j m s b A) (λ_ _ _ h=>h) u y;have s:∀k ok,ops[k]? =some ok->k≠i->(c.setIfInBounds j true).getD k true=false->
    (∀e∈ok.after,Region.binds md e=true->e.on≠i)->r.apart ops ok=true:=λk ok m r p u=>by
   refine E k ok m r ?_ u;by_cases m:j=k;subst m;exact F;rw[getD_set_ne true m] at p;exact p
  refine wpOp_mono (λp r m=>⟨m.2.1,G (c.setIfInBounds j true) p r (d.set q x) s (ready_mono g (Ne.symm l)) m.1 m.2.1 ?_⟩) t;rw[hQn _ _ l];exact m.2.2
def fR (c:Region.Mode)(b:Array Oper)(n:Nat):χ (Bool×Nat)->Array Bool->Bool|[],a=>Region.seqB c b (b.size-n) n a|(true,k)::l,a=>Nat.blt k n&&(Region.ready c b a).contains k&&Region.free c b a k&&fR c b n l (a.setIfInBounds k true)|(false,k)::l,a=>Nat.blt k n&&decide (Region.ready c b a=[k])&&fR c b n l (a.setIfInBounds k true)
def rM (b:Region.Mode)(a:Array Oper)(n:Nat):Bool:=Nat.beq n a.size||(Nat.blt n a.size&&Region.sinkB b a n&&Region.chainB b a n)
theorem Bi {n:Nat}(h:rM md ops n=true):ni md ops n:=by simp only[rM,Bool.or_eq_true,Z4] at h;obtain h|⟨⟨a,b⟩,c⟩:=h;exact .inl (YV h);exact .inr ⟨by rw[kQ] at a;exact a,b,c⟩
end
section
variable {c:Cx} {S:Env} {a:Act}
@[irreducible] def fa (c:Cx) (o:Oper) (S:Env) (C:θ->Prop) (K:Env->Prop):Prop:=∃v,(∀a w,Fits c.N S a->C w->(execOp a.eval o).run c.g.P w= .ok (.value v) w)/\XD c S o.dst (.v v) K
def uQ (c:Cx)(o:Oper)(S:Env)(C:θ->Prop)(K:Env->Prop):Prop:=
 match ya c.g S o.op with
 |.val v=>XD c S o.dst (.v v) K|.ent e=>XD c S o.dst e K|.norm k n=>d6 n (λm=>XD c S o.dst (.v (.int k m)) K)|.normIf p k n=>jP p n (λm=>XD c S o.dst (.v (.int k m)) K)|.need p v=>mW p v λv=>XD c S o.dst (.v v) K
 |.no=>match o.op with
  |.load t x=>(match Q8 c.g.tys t,S.ev x with
   |some r,some (.pointer (some p))=>(match uE r.d with
    |false=>yb C p λv=>XD c S o.dst (.v v) K
    |true=>yd C p r.sz λa=>XD c S o.dst (.v (.agg a.toArray)) K)
   |_,_=>fa c o S C K)
  |.indexAddr t x i=>(match Q8 c.g.tys t,S.ev x,S.ev i with
   |some ⟨_,.slice e,_,_,_⟩,some (.slice b n _),some (.int _ i)=>(match Q8 c.g.tys e with
    |some r=>be b n i r.sz λp=>XD c S o.dst (.v (.pointer (some p))) K
    |none=>fa c o S C K)
   |some ⟨_,.array n e,_,_,_⟩,some (.pointer (some p)),some (.int _ i)=>(match Q8 c.g.tys e with
    |some r=>be (some p) n i r.sz λp=>XD c S o.dst (.v (.pointer (some p))) K
    |none=>fa c o S C K)
   |_,_,_=>fa c o S C K)
  |.index t x i=>(match Q8 c.g.tys t,S.ev x,S.ev i with
   |some ⟨_,.string,_,_,_⟩,some (.string s),some (.int _ i)=>fM s i λb=>XD c S o.dst (.v (.int .u8 b)) K
   |_,_,_=>fa c o S C K)
  |_=>fa c o S C K
def jS (f:χ Oper)(o:Oper)(S:Env)(a e:Env->Prop):Prop:=match o.guard with
 |none=>a S
 |some (
     j,c)=>match V9 f j with
  |some f=>(match f.dst with
   |some d=>(match S.ent d with
    |some .t=>(match c with
     |true=>a S
     |false=>e S)
    |some .f=>(match c with
     |false=>a S
     |true=>e S)
    |some (.v (.bool b))=>(match c with
     |true=>VV b (a ((d,.t)::S)) (e ((d,.f)::S))
     |false=>VV b (e ((d,.t)::S)) (a ((d,.f)::S)))
    |some (.v (.tuple _))=>e S
    |_=>False)
   |none=>False)
  |none=>False
def nj (c:Cx)(a:χ Oper)(C:θ->Prop):χ (Bool×Nat)->Env->θ->(Env->θ->Prop)->Prop
 |[],S,w,K=>K S w|(true,k)::l,S,w,K=>match V9 a k with
  |some o=>jS a o S (λS=>uQ c o S C λS=>nj c a C l S w K) λS=>XD c S o.dst (.v undef) λS=>nj c a C l S w K
  |none=>False
 |(false,k)::l,S,w,K=>match V9 a k with|some o=>jS a o S (λS=>gF c o S w (λS w=>C w/\nj c a C l S w K) λ_ _ _=>False) (λS=>XD c S o.dst (.v undef) λS=>nj c a C l S w K)|none=>False
theorem np {m:χ Oper}{o:Oper}{r u:Env->Prop}(h:jS m o S r u)(f:Fits c.N S a):(Region.wanted o (yielded m.toArray a.tmps)=true/\∃q,Fits c.N q a/\r q)∨(Region.wanted o (yielded m.toArray a.tmps)=false/\∃q,Fits c.N q a/\u q):=by
 have l:∀(d:Nat) (b:Bool) (e:Ent),S.ent d=some (.v (.bool b))->e.val= .bool b->Fits c.N ((d,e)::S) a:=λd b e p y=>by refine⟨f.size,f.defers,λk x t=>?_⟩;simp only[Env.ent] at t;split at t;rename_i w;have:=YV w;subst this;cases t;rw[y];exact f.has _ _ p;exact f.has _ _ t
 unfold jS at h;split at h;rename_i n;exact .inl ⟨by simp[Region.wanted,n],S,f,h⟩;rename_i j v n;split at h;rename_i z s;split at h;rename_i d p;split at h;rename_i g;have i:=ph n s p (f.has _ _ g);split at h;exact .inl ⟨by rw[i];rfl,S,f,h⟩;exact .inr ⟨by rw[i];rfl,S,f,h⟩;rename_i g;have i:=ph n s p (f.has _ _ g);split at h;exact .inl ⟨by rw[i];rfl,S,f,h⟩;exact .inr ⟨by rw[i];rfl,S,f,h⟩;rename_i b g;have i:=ph n s p (f.has _ _ g);split at h;unfold VV at h;cases b with|true=>exact .inl ⟨by rw[i];rfl,_,l d true .t g rfl,h.1 rfl⟩|false=>exact .inr ⟨by rw[i];rfl,_,l d false .f g rfl,h.2 rfl⟩
 unfold VV at h;cases b with|true=>exact .inr ⟨by rw[i];rfl,_,l d true .t g rfl,h.1 rfl⟩|false=>exact .inl ⟨by rw[i];rfl,_,l d false .f g rfl,h.2 rfl⟩
 rename_i g;exact .inr ⟨MU n s p (f.has _ _ g),S,f,h⟩;exact h.elim;exact h.elim;exact h.elim
theorem Bj (f:c.g.Ok){o:Oper}{C:θ->Prop}{K:Env->Prop}(h:uQ c o S C K)(d:Fits c.N S a):∃v,(∀w,C w->(execOp a.eval o).run c.g.P w= .ok (.value v) w)/\∃S',Fits c.N S' (a.put o.dst v)/\K S':=by
 have q:fa c o S C K->∃v,(∀w,C w->(execOp a.eval o).run c.g.P w= .ok (.value v) w)/\∃S',Fits c.N S' (a.put o.dst v)/\K S':=λh=>by unfold fa at h;obtain⟨v,u,E⟩:=h;exact⟨v,λw D=>u a w d D,Jf (e:=.v v) E d⟩
 unfold uQ at h;split at h;rename_i v g;exact⟨v,λw _=>fO (w:=w) f d g,Jf (e:=.v v) h d⟩;rename_i e g;exact⟨e.val,λw _=>fO (w:=w) f d g,Jf (e:=e) h d⟩;rename_i k n g;unfold d6 at h;exact⟨_,λw _=>fO (w:=w) f d g,Jf (e:=.v (.int k n)) h d⟩;rename_i p k n g;unfold jP at h;exact⟨_,λw _=>fO (w:=w) f d g h.1,Jf (e:=.v (.int k n)) h.2 d⟩;rename_i p v g;unfold mW at h;exact⟨_,λw _=>fO (w:=w) f d g h.1,Jf (e:=.v v) h.2 d⟩;obtain⟨L,R,U,O,J,Q⟩:=o;simp only at h q ⊢;split at h;rename_i t x;split at h;rename_i r p l y;have m:=d.ev y;split at h;rename_i G;unfold yb at h;obtain⟨v,H,j⟩:=h;refine⟨v,λw D=>?_,Jf (e:=.v v) j d⟩;simp[execOp,m,Instr.loadAt,Instr.sureAddr,loadVar,rH f l,G,H w D];rename_i G;unfold yd at h;obtain⟨I,M,H,j⟩:=h;refine⟨.agg I.toArray,λw D=>?_,Jf (e:=.v (.agg I.toArray)) j d⟩;have E:=run_loadCells_list (P:=c.g.P) (w:=w) p I (H w D);rw[M] at E;simp[execOp,m,Instr.loadAt,Instr.sureAddr,loadVar,rH f l,G,run_sizeOf f l,E];exact q h;rename_i t x N;split at h;rename_i e b n k i l y B;split at h;rename_i r F;unfold be at h;obtain⟨p,rfl,A,u,j⟩:=h;have m:=d.ev y;have z:=d.ev B;refine⟨.pointer (some (p.add (i.toNat*r.sz))),λw _=>?_,Jf (e:=.v _) j d⟩;simp[execOp,m,z,Instr.indexAt,asIntOf,bi f l,run_sizeOf f F,A,u];exact q h;rename_i n e p k i l y B;split at h;rename_i r F;unfold be at h;obtain⟨T,g,A,u,j⟩:=h;cases g;have m:=d.ev y;have z:=d.ev B;refine⟨.pointer (some (p.add (i.toNat*r.sz))),λw _=>?_,Jf (e:=.v _) j d⟩;simp[execOp,m,z,Instr.indexAt,Instr.sureAddr,asIntOf,bi f l,run_sizeOf f F,A,u];exact q h;exact q h;rename_i t x N;split at h;rename_i s k i l y B;unfold fM at h;obtain⟨b,A,u,j⟩:=h;have m:=d.ev y;have z:=d.ev B;refine⟨.int .u8 b.toNat,λw _=>?_,Jf (e:=.v _) j d⟩;simp[execOp,m,z,Instr.index,asIntOf,bi f l,A,u];exact q h;exact q h
theorem FX (D:c.g.Ok){p:Region.Mode}{b:χ Oper}{C:θ->Prop}{Q:Exit->Act->θ->Prop}{n:Nat}(H:Region.noSelect b.toArray=true)(I:ni p b.toArray n){K:Env->θ->Prop}:∀(l:χ (Bool×Nat)) (listed:Array Bool) (S:Env) (a:Act) (w:θ),HeadInv p b.toArray n listed->fR p b.toArray n l listed=true->nj c b C l S w K->Fits c.N S a->C w->WB c.g.P p b.toArray (NoPan Q) C n (λJ q f=>Region.seqB p b.toArray (b.toArray.size-n) n J=true/\∃d,Fits c.N d q/\K d f) l.length listed a w
 |[],listed,S,a,w,g,s,h,E,z=>⟨s,S,E,h⟩|(true,k)::l,listed,S,a,w,g,s,h,E,z=>by
  simp only[fR,Z4] at s;obtain⟨⟨⟨j,F⟩,T⟩,L⟩:=s;have j:k<n:=by rw[kQ] at j;exact j
  have A:k∈Region.ready p b.toArray listed:=by simpa using F
  obtain⟨_,o,B,_⟩:=mem_ready.1 A;have M:V9 b k=some o:=by rw[jR];simpa using B
  simp only[nj,M] at h;have N:∃v,YieldsIf c.g.P b.toArray C o v a/\∃d,Fits c.N d (a.put o.dst v)/\nj c b C l d w K:=by obtain⟨t,O,u,y⟩|⟨t,O,u,y⟩:=np h E;obtain⟨v,P,m⟩:=Bj D y u;exact⟨v,.inl ⟨t,P⟩,m⟩;exact⟨undef,.inr ⟨t,rfl⟩,Jf (e:=.v undef) y u⟩
  obtain⟨v,U,d,G,R⟩:=N;exact M4 B (Region.noSelect_spec H) I j (λJ q f N=>seqB_ready N.1) l.length listed a w g (Region.free_spec B T) A U z
   (FX D H I l _ d _ w (g.set A j) L R G z)
 |(false,k)::l,listed,S,a,w,g,s,h,E,z=>by
  simp only[fR,Z4,YX] at s;obtain⟨⟨j,F⟩,L⟩:=s;have j:k<n:=by rw[kQ] at j;exact j
  have A:k∈Region.ready p b.toArray listed:=by rw[F];simp
  obtain⟨_,o,B,_⟩:=mem_ready.1 A;have M:V9 b k=some o:=by rw[jR];simpa using B
  simp only[nj,M] at h;have s:=g.set A j;refine⟨λg=>(by rw[F] at g;cases g),λi A=>?_⟩;rw[F] at A;have g:i=k:=by simpa using A
  subst g;refine⟨j,?_⟩;unfold wpOp;simp only[B];obtain⟨t,O,u,y⟩|⟨t,O,u,y⟩:=np h E;rw[Qf t];refine .inl ?_;have P:=uI D y u;have m:=Oper.wp_mono (K':=λq f=>C f/\WB c.g.P p b.toArray (NoPan Q) C n (λJ q f=>Region.seqB p b.toArray (b.toArray.size-n) n J=true/\∃d,Fits c.N d q/\K d f) l.length (listed.setIfInBounds i true) q f)
   (λq f ⟨d,G,b,g⟩=>⟨b,FX D H I l _ d q f s L g G b⟩) P
  unfold Oper.wp at m ⊢;generalize (execOp a.eval o).run c.g.P w=r at*;cases r with
  |ok nx f=>
   cases nx<;>simp only[Oper.upon] at m ⊢ <;> try exact m
   exact m.mono λe g b=>by
    cases e with
    |returned v=>exact b
    |panicked g=>obtain⟨_,_,b⟩:=b;exact b.elim
    |outgrown=>obtain⟨_,_,_,_,b⟩:=b;exact b.elim
  |halt x f=>cases x<;>simp only[Oper.upon] at m ⊢ <;> first|exact m|(obtain⟨_,_,m⟩:=m;exact m.elim)
  rw[φ (by rw[t];decide)];obtain⟨d,G,R⟩:=Jf (e:=.v undef) y u;exact⟨z,FX D H I l _ d _ w s L R G z⟩
theorem aQD {o:Oper}{C:θ->Prop}{K:Env->Prop}{v:τ}(h:∀a w,Fits c.N S a->C w->(execOp a.eval o).run c.g.P w= .ok (.value v) w)(k:XD c S o.dst (.v v) K):fa c o S C K:=by unfold fa;exact⟨v,h,k⟩
theorem iQb (i:c.g.Ok){id:Nat}{ops:χ Oper}{w:θ}{Q:ZD}(C:θ->Prop)(n:Nat)(b:χ (Bool×Nat))
  (hB:(Region.noSelect ops.toArray&&Nat.beq b.length n&&rM .any ops.toArray n&&fR .any ops.toArray n b (Array.replicate ops.toArray.size false))=true) (hC:C w.drew)
  (h:nj {c with named:=1000000} ops C b S w.drew λS w=>WA c ops (ops.drop n) S w (λS w=>Q .normal S w) λ_ _ _=>False):bf c id ops S w Q:=by
 unfold bf;intro a k;simp only[Z4] at hB;obtain⟨⟨⟨l,d⟩,m⟩,o⟩:=hB;have d:=YV d;have f:=Bi m;have m:n<=ops.length:=by obtain f|f:=f;rw[f];simp;have:=f.1;simp at this;omega
 refine Code.wp_mono NoPan.imp (wp_region_any i.mixed ?_);have m:HeadInv .any ops.toArray n (Array.replicate ops.toArray.size false):=
  ⟨by simp,λj p _ d=>(by rw[getD_replicate_false] at d;cases d),λt _ p=>getD_in (by simpa using p) (getD_replicate_false _ _)⟩
 have H:=FX (c:={c with named:=1000000}) i (Q:=Up c Q) l f b _ S a _ m o h k hC;have f:(ops.drop n).length=ops.toArray.size-n:=by simp
 have k:=yi (Q:=NoPan (Up c Q)) (g:=ops.toArray.size-n) (λl m o p=>by
  obtain⟨b,s,q,r⟩:=p;have p:=m7 (c:=c) i ops _ _ _ _ r q;have:=wpAny_of_seq (P:=c.g.P) (md:=.any) (ops:=ops.toArray) (Q':=NoPan (Up c Q)) (ops.drop n) n l m o (λj=>by simp) (by rw[f];exact b) (pm (λe a w b=>by
   cases e with|normal=>exact b|_=>exact Xg b (by rintro⟨_,_,h⟩;exact h)) p)
  rwa [f] at this) _ _ _ _ H
 rw[d,show n+(ops.toArray.size-n)=ops.toArray.size by simp;omega] at k;exact k
end
end
section
theorem M5 (f:Γ){c:Cx}{S:Env}{w:θ}{Q:ZD}(h:c.g.Ok){x y:Code}(R:θ->Prop)
  (hx:cK (iW x) S [] λb=>YG {c with cuts:=f} x S w λe d g=>match e with|.normal=>Has b d/\R g|e=>Q e d g)
  (hy:cK (iW x) S [] λb=>∀j,R j->YG c y b j Q):o7 c (.seq x y) S w Q:=by
 rw[FQ] at hx hy;unfold o7;intro a j;refine wp_seq (wp_mono (pi (c:={c with cuts:=f}) h x S w _ a hx j) λe k g b=>?_);obtain⟨d,f,b⟩:=b;cases e with|normal=>exact pi h y _ g Q k (hy g b.2) (b.1.fits f)|exit i=>exact⟨d,f,b⟩|goto l=>exact⟨d,f,b⟩|ret=>exact⟨d,f,b⟩|panic g=>exact⟨d,f,b⟩|outgrown=>exact⟨d,f,b⟩
theorem nu {a:Addr}{n j:Nat}{i:Int}{K:Addr->Prop}(b:i=j)(c:j<n)(k:K (a.add j)):be (some a) n i 1 K:=by subst b;exact index c k
theorem named {a b:String}{K:Prop}(h:a=b)(k:K):aQf a b K:=by unfold aQf;exact⟨h,k⟩
theorem new {w:θ}{t:TypeId}{a:χ τ}{K:Addr->θ->Prop}(k:∀w1,Ext w w1->w1.heap.size=w.heap.size+1->Blk w1 w.heap.size t a->K ⟨w.heap.size,0,none⟩ w1):uB w t a K:=by unfold uB;exact k _ (Ext.alloc w _) (by simp) (Blk.new w t a)
theorem add_add (a:Addr)(n m:Nat):(a.add n).add m=a.add (n+m):=by unfold Addr.add;split;rename_i h;subst h;simp;split;rename_i b c;subst c;simp[b];rename_i b c;simp[b,ur]
theorem aQE:∀(a b:χ τ),a.length<=b.length->AZ a b=a++b.drop a.length|[],_,_=>rfl|v::a,[],h=>by simp at h|v::a,c::b,h=>by show v::AZ a b=_;rw[aQE a b (by simpa using h)]<;>rfl
theorem nv:∀(n:Nat)(a cs:χ τ),n+a.length<=cs.length->Ym n a cs=cs.take n++a++cs.drop (n+a.length)
 |0,a,cs,h=>by
  have e:Ym 0 a cs=AZ a cs:=by cases cs<;>rfl
  rw[e,aQE a cs ω];simp
 |n+1,a,[],h=>by simp at h|n+1,a,c::cs,h=>by show c::Ym n a cs=_;rw[nv n a cs (by simp at h;omega)];rw[show n+1+a.length=(n+a.length)+1 by omega];simp
theorem aQF:∀(n:Nat)(b a:χ τ),n+b.length<=a.length->(Ym n b a).length=a.length:=λn b a h=>by rw[nv n b a h];simp;omega
theorem iY {P:Program}{w:θ}{g t:Nat}{a vs:χ τ}{j:Nat}{K:θ->Prop}(h:Blk w g t a)(c:j+vs.length<=a.length)(d:∀u∈vs,Kb u=true)(k:∀b,w.grownBy b (some g)->b.heap.size=w.heap.size->Blk b g t (Ym j vs a)->K b):o6 P w ((⟨g,0,none⟩:Addr).add j) vs K:=by unfold o6;have b:=run_storeCells_at P g j t vs 0 a.toArray w h (by simpa using c) λu f=>FU (d u f);rw[uK];refine⟨_,b,?_⟩;refine k _ ⟨rfl,rfl,rfl,by simp,λi _ b=>setRow_other w g i _ λe=>b (by rw[e])⟩ (by simp) ?_;have:=setRow_heap w g a.toArray (a.toArray.toList.take (j+0)++vs++a.toArray.toList.drop (j+0+vs.length)).toArray t _ h;unfold Blk;rw[this,nv j vs a c]<;>rfl
theorem uR {P:Program}{w:θ}{g t:Nat}{c b:χ τ}{K:θ->Prop}(h:Blk w g t c)(e:b.length=c.length)(f:∀u∈b,Kb u=true)(k:∀a,w.grownBy a (some g)->a.heap.size=w.heap.size->Blk a g t b->K a):o6 P w ⟨g,0,none⟩ b K:=by
 have:=iY (P:=P) (j:=0) (K:=K) h ω f (λa i l d=>k a i l (by
  rw[nv 0 b c ω,e] at d;simpa using d))
 simpa [Addr.add] using this
theorem fS {w:θ}{g t:Nat}{a vs:χ τ}{j n:Nat}{K:χ τ->Prop}(h:Blk w g t a)(b:vs.length=n)(c:∀i v,vs[i]? =some v->a[j+i]? =some v)(k:K vs):mX w ((⟨g,0,none⟩:Addr).add j) n K:=by unfold mX;exact⟨vs,b,λi v a=>by rw[add_add,h.cell];exact c i v a,k⟩
theorem M6 {w:θ}{g t:Nat}{a:χ τ}{n:Nat}{K:χ τ->Prop}(h:Blk w g t a)(b:a.length=n)(k:K a):mX w ⟨g,0,none⟩ n K:=by have:=fS (j:=0) (vs:=a) (K:=K) h b (λi v a=>by simpa using a) k;simpa [Addr.add] using this
theorem QQ {w:θ}{g t:Nat}{a:χ τ}{v:τ}{K:τ->Prop}(h:Blk w g t a)(b:a[0]? =some v)(k:K v):kT w ⟨g,0,none⟩ K:=by have:=Qp (j:=0) (K:=K) h b k;simpa [Addr.add] using this
theorem iQc {w:θ}{g t:Nat}{a:χ τ}{v:τ}{K:θ->Prop}(h:Blk w g t a)(c:0<a.length)(k:∀b,w.grownBy b (some g)->Blk b g t (a.set 0 v)->K b):eY w ⟨g,0,none⟩ v K:=by have:=uM (j:=0) (v:=v) (K:=K) h c k;simpa [Addr.add] using this
section
variable {α:Type} {f:α->List Value} {sz:Nat}
theorem gJ (a:∀x,(f x).length=sz):∀(l:χ α),(l.flatMap f).length=l.length*sz|[]=>by simp|x::l=>by simp[a,gJ a l,jM,Fe]
theorem gK (a:∀x,(f x).length=sz):∀(l:χ α)(j:Nat)(x:α)(i:Nat)(v:τ),l[j]? =some x->(f x)[i]? =some v->(l.flatMap f)[j*sz+i]? =some v|[],j,x,i,v,h,_=>by simp at h|y::l,0,x,i,v,h,hi=>by simp at h;subst h;have:i<(f y).length:=(ZK.1 hi).1;rw[dk,eW (by simpa using this)];simpa using hi|y::l,j+1,x,i,v,h,hi=>by rw[dk,aZ (by rw[a];rw[jM];omega),a];rw[show(j+1)*sz+i-sz=j*sz+i by rw[jM];omega];exact gK a l j x i v (by simpa using h) hi
theorem aQG (a:∀x,(f x).length=sz):∀(l:χ α)(n:Nat),(l.take n).flatMap f=(l.flatMap f).take (n*sz)|[],n=>by simp|y::l,0=>by simp|y::l,n+1=>by rw[xQ,dk,dk,aQG a l n,jM,Fe,Mq,a];rw[ZJ (show(f y).length<=sz+n*sz by rw[a];omega)];rw[show sz+n*sz-sz=n*sz by omega]
def SlS (f:α->χ τ)(a:Nat)(w:θ)(A:Θ)(n c:Nat)(l:χ α):Prop:=Sl w a A n c (l.flatMap f)/\l.length=n
theorem SlS.ext {w a:θ}{A:Θ}{n c:Nat}{l:χ α}(h:SlS f sz w A n c l)(k:Ext w a):SlS f sz a A n c l:=⟨h.1.ext k,h.2⟩
theorem SlS.nil (w:θ):SlS f sz w none 0 0 []:=⟨Sl.nil w sz,rfl⟩
theorem SlS.cell (d:∀x,(f x).length=sz){w:θ}{A:Θ}{n c:Nat}{l:χ α}(h:SlS f sz w A n c l){j:Nat}{x:α}(b:l[j]? =some x):∃a,A=some a/\∀i v,(f x)[i]? =some v->w.cell? ((a.add (j*sz)).add i)=some v:=by have e:j<l.length:=(ZK.1 b).1;obtain⟨a,rfl,e⟩:=h.1.at_ (by have:=h.2;omega);exact⟨a,rfl,λi v g=>by rw[add_add];exact e _ _ (gK d l j x i v b g)⟩
theorem XG (b:∀x,(f x).length=sz){w:θ}{A:Θ}{n c:Nat}{l:χ α}{i:Int}{j:Nat}{K:Addr->Prop}(h:SlS f sz w A n c l)(a:i=j)(d:j<n)(k:∀p x,l[j]? =some x->(∀i v,(f x)[i]? =some v->w.cell? (p.add i)=some v)->K p):be A n i sz K:=by
 subst a;have e:j<l.length:=by rw[h.2];exact d
 have a:l[j]? =some l[j]:=Q6 e;obtain⟨d,rfl,e⟩:=h.cell b a;unfold be;exact⟨d,rfl,ω,ω,by simpa using k _ _ a e⟩
theorem Jm {w:θ}{p:Addr}{vs:χ τ}{n:Nat}{K:χ τ->Prop}(a:vs.length=n)(h:∀i v,vs[i]? =some v->w.cell? (p.add i)=some v)(k:K vs):mX w p n K:=by unfold mX;exact⟨vs,a,h,k⟩
end
theorem iQd {P:Program}{w D:θ}{t l e:TypeId}{i:TypeInfo}{z:τ}{a c n m o k:Nat}{v A:τ}{q d:χ τ}(r:P.underlying t=some (.slice e))(s:P.info? e=some i)(B:i.zero=some z)(h:i.size=k)(E:i.bytes=a)(x:w.ownsRow c e k v n q) (b:Addr) (H:0<m) (p:d.length=m*k) (y:∀j u,d[j]? =some u->w.cell? (b.add j)=some u) (F:∀u∈d,u.oneCell'=true) (G:n+m<=maxLen) (C:(n+m)*a<=140737488355328)(f:(Builtin.append_ #[t,t] l #[v,.slice (some b) m o]).run P w= .ok A D):∀g',A.ownBlock=some g'->v.ownBlock=some g'∨w.heap.size<=g':=by
 intro g' A;subst E;have a:n+m<=9223372036854775807:=by simp only[maxLen] at G;omega
 obtain⟨rfl,rfl⟩|⟨g,a,D,rfl,c,E,k,H,G,I⟩:=x.2;have k:=run_append_nil (P:=P) w t l e i z r s B b m o d (by rw[p,h]) y ω ω (by have c:=C;simp only[YW] at c;omega);rw[k] at f;cases f;simp[Value.ownBlock] at A;exact .inr ω;by_cases c:n+m<=a;have k:=run_append_room (P:=P) w t l e i r s g n a D E b m o d (by rw[p,h]) y F c (by rw[p,h,G,<-xR];exact aY _ c);rw[k] at f;cases f;exact .inl A;have c:∀j u,q[j]? =some u->w.cell? ((⟨g,0,none⟩:Addr).add j)=some u:=x.cells (g:=g) rfl;have k:=run_append_grow (P:=P) w t l e i z r s B ⟨g,0,none⟩ n a q (by rw[h];exact x.1) c b m o d (by rw[p,h]) y ω ω (growslice_fits ω C);rw[k] at f;cases f;simp[Value.ownBlock] at A;exact .inr ω
theorem iQe {c:Cx}(z:c.g.Ok){o:Oper}{S:Env}{w:θ}{K:Env->θ->Prop}{Q:ZD}{t I e sz:Nat}{x y:Operand}{A B:Θ}{n cp:Nat}{m q:Nat}{F l:χ τ}{d:Nat}{r s E:TyRow}(ho:o.op= .call ⟨.builtin .append, #[x,y], #[t,I]⟩) (L:Q8 c.g.tys t=some r) (M:r.d= .slice e) (O:Q8 c.g.tys e=some s) (R:s.sz=sz) (CY:0<sz) (ky:s.z.cells.size=sz) (YO:Q8 c.g.tys I=some E) (G:∃H,E.d= .slice H)(hx:S.ev x=some (.slice A n cp)) (hy:S.ev y=some (.slice B m q)) (C:Own w d e sz A n cp F) (N:Sl w sz B m q l) (T:∀u∈l,Kb u=true)(U:n+m<=maxLen) (V:(n+m)*s.by_<=140737488355328) (oK:d<=w.heap.size)(k:∀p D f,w.grownBy f (Value.slice A n cp).ownBlock->Own f d e sz p (n+m) D (F++l)->(∀j,p=some j->A=some j∨w.heap.size<=j.block)->XD c S o.dst (.v (.slice p (n+m) D)) λS=>K S f):Zv c o S w K Q:=by
 obtain⟨_,i,J,W,X,Y⟩:=z.row O;have E:=(z.row L).1;rw[M] at E;obtain⟨H,G⟩:=G;have Z:=(z.row YO).1;rw[G] at Z;have Xr:l.length=m*sz:=N.len;unfold Zv;intro a L;have e1:=L.ev hx;have CW:=L.ev hy;have M:∃z f,(Builtin.append_ #[t,t] o.type #[.slice A n cp,.slice B m q]).run c.g.P w= .ok z f/\f.ownsRow d e sz z (n+m) (F++l)/\w.grownBy f (Value.slice A n cp).ownBlock/\(∀G,z.ownBlock=some G->(Value.slice A n cp).ownBlock=some G∨w.heap.size<=G):=by
  by_cases G:m=0;subst G;have G:l=[]:=VT ω;subst G;have G:n<=cp:=C.sl.le;refine⟨.slice A n cp,w,?_,by simpa using C.row,⟨rfl,rfl,rfl,Qw _,λ_ _ _=>rfl⟩,λ_ h=>.inl h⟩;cases A<;>cases B<;>simp[Builtin.append_,JB E,sizeOf,typeInfo,J,Builtin.lenOf,G,Builtin.firstCells,loadCells,loadCellsFrom,storeCells]
  obtain⟨b,rfl,QO⟩:=N.at_ ω;obtain⟨z,f,G,H,N,_⟩:=run_append_own (P:=c.g.P) (w:=w) d t o.type e i s.z sz s.by_ E J Y (by rw[W,R]) X ky CY _ n F C.row b m q l Xr QO (λu O=>FU (T u O)) U V oK;exact⟨z,f,G,H,N,iQd E J Y (by rw[W,R]) X C.row b ω Xr QO (λu O=>FU (T u O)) U V G⟩
 obtain⟨z,f,G,H,N,d⟩:=M;obtain⟨p,D,rfl,l⟩:=vQQ H;have s:∀j,p=some j->A=some j∨w.heap.size<=j.block:=λj e=>by subst e;obtain h|h:=d j.block rfl;left;obtain⟨d,_⟩|⟨g,j,z,d,_⟩:=C.row.2;cases d;simp[Value.ownBlock] at h;cases d;obtain⟨d,_⟩|⟨F,j,z,C,_⟩:=H.2;cases d;cases C;simp[Value.ownBlock] at h;rw[h];exact .inr h
 refine eZ (v:=.slice p (n+m) D) (w':=f) ?_ (Jf (e:=.v _) (k p D f N l s) L);have d:(Builtin.append_ #[t,I] o.type #[.slice A n cp,.slice B m q]).run c.g.P w=(Builtin.append_ #[t,t] o.type #[.slice A n cp,.slice B m q]).run c.g.P w:=by simp[Builtin.append_,JB E,JB Z]
 simp only[execOp,ho,resolve,invoke];simp[builtin,e1,CW,d,G]
theorem iQf {P:Program}{w m:θ}{t u c e:TypeId}{i:TypeInfo}{b n:Nat}{v d:τ}{f:χ τ}(h:P.underlying t=some (.slice e))(k:P.underlying u=some .string)(l:P.info? e=some i)(q:i.zero=some (.int .u8 0))(o:i.size=1)(r:i.bytes=1)(p:w.ownsRow b e 1 v n f) (s:ByteArray) (x:n+s.size<=140737488355328)(a:(Builtin.append_ #[t,u] c #[v,.string s]).run P w= .ok d m):∀g',d.ownBlock=some g'->v.ownBlock=some g'∨w.heap.size<=g':=by
 intro g' m;have y:f.length=n:=by simpa using p.1
 obtain⟨rfl,rfl⟩|⟨g,cap,b,rfl,d,z,x,B,A,C⟩:=p.2;by_cases d:s.size=0;have x:=Lib.run_firstCells_string (P:=P) w 1 s;rw[d] at x;have:(Builtin.append_ #[t,u] c #[.slice none 0 0,.string s]).run P w= .ok (.slice none 0 0) w:=by simp[Builtin.append_,JB h,JB k,sizeOf,typeInfo,l,o,Builtin.lenOf,d,x]
 rw[this] at a;cases a;simp[Value.ownBlock] at m;have d:=run_append_nil_string (P:=P) w t u c e i (.int .u8 0) h k l q s ω ω (by rw[r];omega);rw[d] at a;cases a;simp[Value.ownBlock] at m;exact .inr ω;by_cases x:n+s.size<=cap;have B:b.size=cap:=by simpa using A
 have d:=Lib.run_append_room_string (P:=P) w t u c e i h k l o g n cap b z s x ω;rw[d] at a;cases a;exact .inl m;have b:∀j u,f[j]? =some u->w.cell? ((⟨g,0,none⟩:Addr).add j)=some u:=p.cells (g:=g) rfl;have d:=Lib.run_append_grow_string (P:=P) w t u c e i (.int .u8 0) h k l q ⟨g,0,none⟩ n cap f (by rw[o];simpa using y) b s ω ω (by rw[r];exact growslice_fits ω ω);rw[d] at a;cases a;simp[Value.ownBlock] at m;exact .inr ω
theorem iQg {c:Cx}(p:c.g.Ok){o:Oper}{S:Env}{w:θ}{K:Env->θ->Prop}{Q:ZD}{t q e:Nat}{x y:Operand}{A:Θ}{n u:Nat}{s:ByteArray}{z:χ τ}{b:Nat}{r m C:TyRow}(N:o.op= .call ⟨.builtin .append, #[x,y], #[t,q]⟩) (L:Q8 c.g.tys t=some r) (M:r.d= .slice e) (O:Q8 c.g.tys e=some m) (D:m.sz=1) (E:m.z= .int .u8 0) (F:m.by_=1) (R:Q8 c.g.tys q=some C) (T:C.d= .string)(U:S.ev x=some (.slice A n u)) (V:S.ev y=some (.string s)) (B:Own w b e 1 A n u z)(G:n+s.size<=140737488355328) (W:b<=w.heap.size)(k:∀f l j,w.grownBy j (Value.slice A n u).ownBlock->Own j b e 1 f (n+s.size) l (z++Lib.strCells s)->(∀d,f=some d->A=some d∨w.heap.size<=d.block)->XD c S o.dst (.v (.slice f (n+s.size) l)) λS=>K S j):Zv c o S w K Q:=by
 obtain⟨_,i,C,H,I,J⟩:=p.row O;have m:=(p.row L).1;rw[M] at m;have u:=(p.row R).1;rw[T] at u;unfold Zv;intro a p;have O:=p.ev U;have R:=p.ev V;obtain⟨U,j,L,M,T,_⟩:=Lib.run_append_own_string (P:=c.g.P) (w:=w) b t q o.type e i m u C (by rw[J,E]) (by rw[H,D]) (by rw[I,F]) _ n z B.row s (by unfold maxLen;omega) G W;have b:=iQf m u C (by rw[J,E]) (by rw[H,D]) (by rw[I,F]) B.row s G L;obtain⟨f,l,rfl,m⟩:=vQQ M;have q:∀d,f=some d->A=some d∨w.heap.size<=d.block:=λd e=>by subst e;obtain h|h:=b d.block rfl;left;obtain⟨b,_⟩|⟨g,d,u,b,_⟩:=B.row.2;cases b;simp[Value.ownBlock] at h;cases b;obtain⟨b,_⟩|⟨B,d,u,z,_⟩:=M.2;cases b;cases z;simp[Value.ownBlock] at h;rw[h];exact .inr h
 refine eZ (v:=.slice f (n+s.size) l) (w':=j) ?_ (Jf (e:=.v _) (k f l j T m q) p);simp only[execOp,N,resolve,invoke];simp[builtin,O,R,L]
def uS:Nat->χ (χ τ)->χ (Nat×τ)->Prop|_,[],[]=>True|n,a::l,(i,v)::r=>i=n/\Ki v=a/\uS (n+1) l r|_,_,_=>False
theorem aQH {sz:Nat}{z:χ τ}(g:z.length=sz):∀(a:χ (Nat×τ))(n:Nat)(l:χ (χ τ))(b:χ τ),uS n l a->(∀f∈l,f.length=sz)->b.length=n*sz->Instr.fill (λi=>some (i*sz,sz)) (b++(List.replicate l.length z).flatten).toArray a=some (b++l.flatten).toArray
 |[],n,[],b,_,_,_=>by simp[Instr.fill]|[],n,_::_,b,h,_,_=>h.elim|_::_,n,[],b,h,_,_=>h.elim
 |(i,v)::a,n,f::l,b,h,hl,hp=>by
  obtain⟨rfl,rfl,o⟩:=h;have k:(Ki v).length=sz:=hl _ (by simp);have m:v.cells.size=sz:=by rw[<-k,<-uG];simp
  have d:¬((v.cells.size≠sz||i*sz+v.cells.size>(b++(List.replicate (Ki v::l).length z).flatten).toArray.size)=true):=by rw[m];simp[hp,UV,g]
  unfold Instr.fill;simp only;rw[φ d];have e:(v.cells.zipIdx.foldl (λf (c,j)=>f.setIfInBounds (i*sz+j) c) (b++(List.replicate (Ki v::l).length z).flatten).toArray)=((b++Ki v)++(List.replicate l.length z).flatten).toArray:=by apply Array.ext';rw[aQr,uG,nv _ _ _ (by simp[hp,UV,g,k])];simp only[Xa,UV,Mr];rw[Mq,List.drop_append,hp];simp only[Fg,List.take_zero,YE];rw[ZJ ω,fK ω,d4];rw[show i*sz+(Ki v).length-i*sz=sz by omega,List.drop_append,g,Fg,AJ,fK ω];simp
  rw[e];have:=aQH g a (i+1) l (b++Ki v) o (λf m=>hl f (by simp[m])) (by rw[Qy,hp,k,jM]);rw[this];simp
theorem aQI (z:χ τ)(a:0<z.length):∀(n:Nat),(List.range (n*z.length)).map (λj=>z.toArray[j % z.length]!)=(List.replicate n z).flatten|0=>by simp|n+1=>by rw[jM,List.range_add,fL,aQI z a n,List.replicate_succ',List.flatten_append];congr 1;simp only[xP,Mr,List.flatten_nil,YE];apply Ms;simp;intro i a b;simp at a;simp[mR a,a]
theorem ny {c:Cx}(A:c.g.Ok){o:Oper}{S:Env}{w:θ}{K:Env->θ->Prop}{Q:ZD}{t e n:Nat}{r b:TyRow}{f:Array (Nat×Operand)}{vs:χ (Nat×τ)}(l:χ (χ τ))(P:o.op= .buildSlice t n f) (R:Q8 c.g.tys t=some r) (L:r.d= .slice e) (F:Q8 c.g.tys e=some b) (T:mZ S f.toList=some vs) (z:uS 0 l vs) (O:l.length=n) (N:∀G∈l,G.length=b.sz) (d:(Ki b.z).length=b.sz) (E:0<b.sz) (X:n*b.sz<=16777216)(k:∀g,Ext w g->g.heap.size=w.heap.size+1->Blk g w.heap.size e l.flatten->XD c S o.dst (.v (.slice (some ⟨w.heap.size,0,none⟩) n n)) λS=>K S g):Zv c o S w K Q:=by
 obtain⟨_,i,B,s,Y,H⟩:=A.row F;have m:=(A.row R).1;rw[L] at m;subst O;refine Kr (w':=w.alloc (.cells l.flatten.toArray e)) (λa M=>?_) (k _ (Ext.alloc w _) (by simp) (Blk.new w e l.flatten));have W:=MR (ρ:=a.eval) (λx v h=>M.ev h) _ _ T;have q:(f.map λ(x:Nat×Operand)=>(x.1,a.eval x.2)).toList=vs:=by rw[UU];exact W
 have U:b.z.cells=(Ki b.z).toArray:=by rw[<-uG]
 have u:=aQH d vs 0 l [] z N (by simp);simp only[d4] at u;have y:=aQI (Ki b.z) (by rw[d];exact E) l.length;rw[d] at y;simp only[execOp,P,Instr.buildSlice];rw[show(f.map λ(x:Nat×Operand)=>(x.1,a.eval x.2)).toList=vs from q];have V:¬l.length*b.sz>2^24:=by omega
 by_cases I:l.length=0;have D:l=[]:=VT I;subst D;cases vs with|cons p vs=>exact z.elim|nil=>simp[JB m,sizeOf,typeInfo,B,Instr.fill,newRow,Array.range_zero']
 have J:¬(l.length*b.sz=0):=by intro h;obtain h|h:=Nat.mul_eq_zero.1 h <;>omega
 have C:(Array.range (l.length*b.sz)).map (λj=>(Ki b.z).toArray[j % (Ki b.z).toArray.size]!)=(List.replicate l.length (Ki b.z)).flatten.toArray:=by apply Array.ext';rw[UU,Array.toList_range];simpa [d] using y
 simp only[Sem.run_bind,JB m,Result.andThen_ok,sizeOf,typeInfo,run_program,B,Sem.run_pure,s,φ V,φ J,zeroValue,H,U];rw[C];simp only[u];simp[newRow]
def Bk:TypeDesc->Nat|.int _=>0|.string=>1|.bool=>2|_=>1000
structure KeyV {α:Type} [DecidableEq α] (d:TypeDesc) (kv:α->Value):Prop where
 same:∀a b,Instr.sameNow d (kv a) (kv b)=some (decide (a=b))
 bits:∀a n,Instr.sameBits n (kv a) (kv a)=true
 plain:Bk d<3
theorem KeyV.int (k:IntKind):KeyV (.int k) (λn:Int=>.int k n):=⟨λa b=>by simp[Instr.sameNow];rfl,λa n=>by cases n<;>simp[Instr.sameBits],by simp[Bk]⟩
theorem vQD:KeyV .string (λs:ByteArray=>.string s):=⟨λa b=>by
  simp only[Instr.sameNow,Option.some.injEq];rw[beq_toListBytes,A9],λa n=>by cases n<;>(simp only[Instr.sameBits];rw[beq_toListBytes,A9];simp),by simp[Bk]⟩
def Zc {α:Type} [DecidableEq α](a:α):χ (α×τ)->Option τ|[]=>none|(b,v)::l=>if a=b then some v else Zc a l
def ZP {α:Type} [DecidableEq α](a:α)(v:τ):χ (α×τ)->χ (α×τ)|[]=>[(a,v)]|(b,u)::l=>if a=b then(b,v)::l else(b,u)::ZP a v l
theorem fc {α:Type} [DecidableEq α](a b:α)(v:τ):∀l,Zc b (ZP a v l)=if b=a then some v else Zc b l
 |[]=>by simp[ZP,Zc]
 |(d,u)::l=>by
  simp only[ZP];split;rename_i h;subst h;simp only[Zc];split<;>rfl
  rename_i h;simp only[Zc,fc a b v l];by_cases c:b=d;subst c;rw[Qf rfl,φ λe=>h e.symm];simp;rw[φ c,φ c]
def Zw {α:Type}(a:α->τ)(m:χ (α×τ))(b:Γ):χ MapEntry:=(m.zip b).map λp=>{key:=a p.1.1,val:=p.1.2,born:=p.2}
structure MapAt {α:Type} (kv:α->Value) (w:World) (r:Nat) (m:List (α×Value)):Prop where
 ex:∃bs ck,bs.length=m.length/\w.heap[r]? =some (.map (Zw kv m bs).toArray ck)
theorem MapAt.ext {α:Type}{a:α->τ}{w b:θ}{r:Nat}{m:χ (α×τ)}(h:MapAt a w r m)(k:Ext w b):MapAt a b r m:=by obtain⟨b,c,d,a⟩:=h.ex;exact⟨b,c,d,(k.block r (mQ.1 a).1 (by simp)).trans a⟩
theorem MapAt.lt {α:Type}{a:α->τ}{w:θ}{r:Nat}{m:χ (α×τ)}(h:MapAt a w r m):r<w.heap.size:=by obtain⟨b,c,d,a⟩:=h.ex;exact(mQ.1 a).1
section
variable {α:Type} [DecidableEq α] {d:TypeDesc} {kv:α->Value}
theorem Bl {α:Type}{c:Cx}(_:c.g.Ok){o:Oper}{S:Env}{w:θ}{K:Env->θ->Prop}{Q:ZD}{t:Nat}(d:α->τ)(e:o.op= .makeMap t none)(k:∀b,Ext w b->b.heap.size=w.heap.size+1->MapAt d b w.heap.size []->XD c S o.dst (.v (.map (some w.heap.size))) λS=>K S b):Zv c o S w K Q:=by refine Kr (w':=w.alloc (.map #[] 0)) (λa b=>?_) (k _ (Ext.alloc w _) (by simp) ⟨[],0,rfl,heap_alloc_new w _⟩);simp[execOp,e,Instr.makeMap]
theorem Bm {P:Program}{t:TypeId}(a:P.underlying t=some d)(c:Bk d<3)(b:Bool)(n:Nat)(v:τ)(w:θ):(Instr.checkKey b (n+1) t v).run P w= .ok () w:=by simp only[Instr.checkKey,Sem.run_bind,JB a,Result.andThen_ok];cases d<;>first|(simp[Bk] at c;done)|rfl
theorem M7 (k:KeyV d kv)(a:α):∀(m:χ (α×τ))(bs:Γ)(i:Nat),bs.length=m.length->
  ∃r,Instr.findNow d (kv a) (Zw kv m bs) i=some r/\r.map (·.2)=Zc a m/\(∀j v,r=some (j,v)->i<=j/\j<i+m.length/\∀c,Zw kv (ZP a c m) bs=(Zw kv m bs).modify (j-i) (λe=>{e with key:=kv a,val:=c})/\((Zw kv m bs)[j-i]?).map (·.key)=some (kv a))/\(r=none->∀c,ZP a c m=m++ [(a,c)])
 |[],bs,i,h=>⟨none,rfl,rfl,(λj v h=>by cases h),λ_ c=>rfl⟩|(b,u)::m,[],i,h=>by simp at h|(b,u)::m,s::bs,i,h=>by have e:Zw kv ((b,u)::m) (s::bs)={key:=kv b,val:=u,born:=s}::Zw kv m bs:=rfl;rw[e];unfold Instr.findNow;simp only[k.same];by_cases f:a=b;subst f;simp only[decide_true];refine⟨some (i,u),rfl,by simp[Zc],λj v g=>?_,λh=>by cases h⟩;cases g;refine⟨Qw _,by simp,λc=>?_⟩;simp[ZP,Zw];simp only[f,decide_false];obtain⟨r,l,n,o,p⟩:=M7 k a m bs (i+1) (by simpa using h);refine⟨r,l,by simp[Zc,f,n],λj v g=>?_,λk c=>by simp[ZP,f,p k c]⟩;obtain⟨l,n,k⟩:=o j v g;refine⟨ω,by simp;omega,λc=>?_⟩;obtain⟨g,l⟩:=k c;rw[show j-i=(j-(i+1))+1 by omega];refine⟨?_,by simpa using l⟩;simp only[ZP,f,if_false];rw[show Zw kv ((b,u)::ZP a c m) (s::bs)={key:=kv b,val:=u,born:=s}::Zw kv (ZP a c m) bs from rfl,g];simp
variable {c:Cx} (hg:c.g.Ok) {o:Oper} {S:Env} {w:World} {K:Env->World->Prop} {Q:ZD} {t ke e:Nat} {r rk re:TyRow} {x y:Operand} {q:Nat} {m:List (α×Value)} {a:α}
include hg
theorem M8 (b:Q8 c.g.tys t=some r)(g:r.d= .map ke e)(h:Q8 c.g.tys ke=some rk)(j:Q8 c.g.tys e=some re)(d:KeyV rk.d kv)(k:MapAt kv w q m)(ok:Bool):
  (Instr.lookup t (.map (some q)) (kv a) ok).run c.g.P w= .ok (match Zc a m with
   |some v=>if ok then .tuple #[v,.bool true] else v
   |none=>if ok then .tuple #[re.z,.bool false] else re.z) w:=by
 have f:=(hg.row b).1;rw[g] at f;have g:=(hg.row h).1;obtain⟨_,i,l,_,_,n⟩:=hg.row j;obtain⟨h,o,s,u⟩:=k.ex;obtain⟨b,k,j,_,_⟩:=M7 d a m h 0 s;have s:(getObj q).run c.g.P w= .ok (.map (Zw kv m h).toArray o) w:=by simp[getObj,Sem.run,u]
 simp only[Instr.lookup,Sem.run_bind,JB f,Result.andThen_ok,s];simp only[Sem.run_pure,Result.andThen_ok,Bm g d.plain,Instr.findKey,Sem.run_bind,JB g,k];cases b with
 |none=>
  have:Zc a m=none:=by simpa using j.symm
  rw[this];cases ok<;>simp[zeroValue,typeInfo,l,n]
 |some p=>
  have:Zc a m=some p.2:=by simpa using j.symm
  rw[this];cases ok<;>simp
theorem iQh (f:o.op= .lookup t x y false)(g:Q8 c.g.tys t=some r)(h:r.d= .map ke e)(i:Q8 c.g.tys ke=some rk)(j:Q8 c.g.tys e=some re)(l:KeyV rk.d kv)(n:S.ev x=some (.map (some q))) (p:S.ev y=some (kv a)) (s:MapAt kv w q m) (k:XD c S o.dst (.v ((Zc a m).getD re.z)) λS=>K S w):Zv c o S w K Q:=by refine Kr (w':=w) (v:=(Zc a m).getD re.z) (λb d=>?_) k;have u:=d.ev n;have n:=d.ev p;have:=M8 (w:=w) (a:=a) hg g h i j l s false;simp only[execOp,f,u,n];simp only[Sem.run_bind,this,Result.andThen_ok];cases Zc a m<;>simp
theorem iQi (f:o.op= .lookup t x y true)(g:Q8 c.g.tys t=some r)(h:r.d= .map ke e)(i:Q8 c.g.tys ke=some rk)(j:Q8 c.g.tys e=some re)(l:KeyV rk.d kv)(n:S.ev x=some (.map (some q))) (p:S.ev y=some (kv a)) (s:MapAt kv w q m) (k:XD c S o.dst (.v (.tuple #[(Zc a m).getD re.z,.bool (Zc a m).isSome])) λS=>K S w):Zv c o S w K Q:=by refine Kr (w':=w) (v:=.tuple #[(Zc a m).getD re.z,.bool (Zc a m).isSome]) (λb d=>?_) k;have u:=d.ev n;have n:=d.ev p;have:=M8 (w:=w) (a:=a) hg g h i j l s true;simp only[execOp,f,u,n];simp only[Sem.run_bind,this,Result.andThen_ok];cases Zc a m<;>simp
theorem po {v:τ}{z:Operand}(ho:o.op= .mapUpdate t x y z)(l6:o.dst=none)(hr:Q8 c.g.tys t=some r)(hd:r.d= .map ke e)(Y:Q8 c.g.tys ke=some rk)(A:KeyV rk.d kv)(hx:S.ev x=some (.map (some q))) (hy:S.ev y=some (kv a)) (hz:S.ev z=some v) (hm:MapAt kv w q m)(k:∀D,w.grownBy D (some q)->D.heap.size=w.heap.size->MapAt kv D q (ZP a v m)->K S D):Zv c o S w K Q:=by
 have E:=(hg.row hr).1;rw[hd] at E;have C:=(hg.row Y).1;obtain⟨d,n,B,G⟩:=hm.ex;have R:q<w.heap.size:=(mQ.1 G).1;obtain⟨H,J,Z,h3,L⟩:=M7 A a m d 0 B;have N:(getObj q).run c.g.P w= .ok (.map (Zw kv m d).toArray n) w:=by simp[getObj,Sem.run,G]
 have I:∀f,(setObj q f).run c.g.P w= .ok () {w with heap:=w.heap.setIfInBounds q f}:=λf=>by simp[setObj,Sem.run,G]
 have l:∃f,(Instr.mapUpdate t (.map (some q)) (kv a) v).run c.g.P w= .ok () {w with heap:=w.heap.setIfInBounds q f}/\∃g ck',g.length=(ZP a v m).length/\f= .map (Zw kv (ZP a v m) g).toArray ck':=by
  cases H with|none=>refine⟨_,?_,d++ [n],n+1,?_,rfl⟩;simp only[Instr.mapUpdate,Sem.run_bind,JB E,Result.andThen_ok,N,Bm C A.plain,Instr.findKey,JB C,J,Sem.run_pure,I];rw[L rfl v];congr 4;simp only[Zw];rw[List.zip_append B.symm,fL];simp;rw[L rfl v];simp[B]|some p=>
   obtain⟨j,u⟩:=p;obtain⟨_,hj,h7⟩:=h3 j u rfl;obtain⟨F,M⟩:=h7 v;simp only[Nat.sub_zero] at F M;have P:(((Zw kv m d).toArray[j]?).map (·.key)).getD (kv a)=kv a:=by rw[show(Zw kv m d).toArray[j]? =(Zw kv m d)[j]? from by simp,M]<;>rfl
   refine⟨_,?_,d,n,?_,rfl⟩;simp only[Instr.mapUpdate,Sem.run_bind,JB E,Result.andThen_ok,N,Bm C A.plain,Instr.findKey,JB C,J,Sem.run_pure,P,Instr.keyThatStays,A.bits,if_true,I];rw[F];congr 4;simp;have:=QG List.length F;simp only[Zw,JS,List.length_zip,List.length_modify] at this;have T:(ZP a v m).length=m.length:=by
    have tL:∀(m:χ (α×τ)),(Zc a m).isSome->(ZP a v m).length=m.length:=by intro m;induction m with|nil=>intro h;simp[Zc] at h|cons p m ih=>obtain⟨b,x⟩:=p;intro h;simp only[ZP];split;simp;rename_i U;simp[ih (by simpa [Zc,U] using h)]
    exact tL m (by rw[<-Z];rfl)
   rw[T,B]
 obtain⟨f,O,g,ck',kA,rfl⟩:=l;unfold Zv;intro b s;have V:=s.ev hx;have W:=s.ev hy;have X:=s.ev hz;unfold Oper.wp;have:(execOp b.eval o).run c.g.P w= .ok .skip {w with heap:=w.heap.setIfInBounds q (.map (Zw kv (ZP a v m) g).toArray ck')}:=by simp only[execOp,ho,V,W,X];simp[O]
 rw[this];refine⟨S,by rw[l6];simpa [Act.put] using s,k _ ⟨rfl,rfl,rfl,by simp,λi _ hi=>?_⟩ (by simp) ⟨g,ck',kA,?_⟩⟩;simp only[Mt];rw[φ λe=>hi (by rw[e])];simp[R]
end
end
noncomputable section
def gx:Gx where
 P:=Tryz.prog
 tys:=[
  ⟨1,.func #[] #[] false,1,8,.nilFunc⟩,
  ⟨3,.int .i64,1,8,.int .i64 0⟩,
  ⟨4,.bool,1,1,.bool false⟩,
  ⟨5,.int .u8,1,1,.int .u8 0⟩,
  ⟨9,.string,1,16,.string ByteArray.empty⟩,
  ⟨20,.interface #[],1,16,.nilIface⟩,
  ⟨21,.int .i32,1,4,.int .i32 0⟩,
  ⟨22,.slice 83,1,24,.slice none 0 0⟩,
  ⟨23,.slice 89,1,24,.slice none 0 0⟩,
  ⟨25,.struct #[⟨ "Family",5,0,false,"","",0⟩,⟨ "Lines",22,1,false,"","",8⟩,⟨ "Edits",23,2,false,"","",32⟩],3,56,.agg #[.int .u8 0,.slice none 0 0,.slice none 0 0]⟩,
  ⟨28,.slice 58,1,24,.slice none 0 0⟩,
  ⟨30,.slice 105,1,24,.slice none 0 0⟩,
  ⟨32,.struct #[⟨ "Nodes",30,0,false,"","",0⟩,⟨ "Root",3,1,false,"","",24⟩],2,32,.agg #[.slice none 0 0,.int .i64 0]⟩,
  ⟨34,.int .i64,1,8,.int .i64 0⟩,
  ⟨37,.slice 9,1,24,.slice none 0 0⟩,
  ⟨39,.slice 48,1,24,.slice none 0 0⟩,
  ⟨41,.struct #[⟨ "Text",9,0,false,"","",0⟩,⟨ "Segments",39,1,false,"","",16⟩],2,40,.agg #[.string ByteArray.empty,.slice none 0 0]⟩,
  ⟨44,.int .u64,1,8,.int .u64 0⟩,
  ⟨45,.int .u64,1,8,.int .u64 0⟩,
  ⟨48,.struct #[⟨ "From",3,0,false,"","",0⟩,⟨ "To",3,1,false,"","",8⟩,⟨ "File",3,2,false,"","",16⟩,⟨ "At",3,3,false,"","",24⟩,⟨ "If",32,4,false,"","",32⟩],6,64,.agg #[.int .i64 0,.int .i64 0,.int .i64 0,.int .i64 0,.slice none 0 0,.int .i64 0]⟩,
  ⟨54,.slice 56,1,24,.slice none 0 0⟩,
  ⟨56,.struct #[⟨ "If",32,0,false,"","",0⟩,⟨ "Text",9,2,false,"","",32⟩],3,48,.agg #[.slice none 0 0,.int .i64 0,.string ByteArray.empty]⟩,
  ⟨58,.struct #[⟨ "From",3,0,false,"","",0⟩,⟨ "To",3,1,false,"","",8⟩,⟨ "Text",9,2,false,"","",16⟩,⟨ "If",32,3,false,"","",32⟩],5,64,.agg #[.int .i64 0,.int .i64 0,.string ByteArray.empty,.slice none 0 0,.int .i64 0]⟩,
  ⟨62,.slice 5,1,24,.slice none 0 0⟩,
  ⟨63,.slice 62,1,24,.slice none 0 0⟩,
  ⟨65,.struct #[⟨ "Family",5,0,false,"","",0⟩,⟨ "Class",62,1,false,"","",8⟩,⟨ "Texts",63,2,false,"","",32⟩],3,56,.agg #[.int .u8 0,.slice none 0 0,.slice none 0 0]⟩,
  ⟨74,.func #[9] #[4] false,1,8,.nilFunc⟩,
  ⟨83,.struct #[⟨ "Kind",5,0,false,"","",0⟩,⟨ "If",5,1,false,"","",1⟩,⟨ "Words",62,2,false,"","",8⟩],3,32,.agg #[.int .u8 0,.int .u8 0,.slice none 0 0]⟩,
  ⟨85,.struct #[⟨ "Name",9,0,false,"","",0⟩,⟨ "Text",9,1,false,"","",16⟩],2,32,.agg #[.string ByteArray.empty,.string ByteArray.empty]⟩,
  ⟨86,.slice 85,1,24,.slice none 0 0⟩,
  ⟨89,.struct #[⟨ "Line",5,0,false,"","",0⟩,⟨ "From",5,1,false,"","",1⟩,⟨ "To",5,2,false,"","",2⟩,⟨ "Text",5,3,false,"","",3⟩,⟨ "If",5,4,false,"","",4⟩],5,5,.agg #[.int .u8 0,.int .u8 0,.int .u8 0,.int .u8 0,.int .u8 0]⟩,
  ⟨93,.struct #[⟨ "E",34,0,false,"","",0⟩,⟨ "File",3,1,false,"","",8⟩,⟨ "Line",3,2,false,"","",16⟩],3,24,.agg #[.int .i64 0,.int .i64 0,.int .i64 0]⟩,
  ⟨97,.pointer 99,1,8,.pointer none⟩,
  ⟨99,.struct #[⟨ "names",37,0,false,"","koine/patch",0⟩,⟨ "family",32,1,false,"","koine/patch",24⟩,⟨ "text",9,3,false,"","koine/patch",56⟩,⟨ "edits",28,4,false,"","koine/patch",72⟩],5,96,.agg #[.slice none 0 0,.slice none 0 0,.int .i64 0,.string ByteArray.empty,.slice none 0 0]⟩,
  ⟨105,.struct #[⟨ "Var",3,0,false,"","",0⟩,⟨ "Low",3,1,false,"","",8⟩,⟨ "High",3,2,false,"","",16⟩],3,24,.agg #[.int .i64 0,.int .i64 0,.int .i64 0]⟩,
  ⟨107,.pointer 109,1,8,.pointer none⟩,
  ⟨109,.struct #[⟨ "addr",107,0,false,"","strings",0⟩,⟨ "buf",62,1,false,"","strings",8⟩],2,32,.agg #[.pointer none,.slice none 0 0]⟩,
  ⟨112,.interface #[("Error",115)],1,16,.nilIface⟩,
  ⟨121,.int .u64,1,8,.int .u64 0⟩,
  ⟨122,.slice 45,1,24,.slice none 0 0⟩,
  ⟨127,.slice 3,1,24,.slice none 0 0⟩,
  ⟨129,.slice 132,1,24,.slice none 0 0⟩,
  ⟨132,.struct #[⟨ "from",3,0,false,"","koine/koineref29",0⟩,⟨ "to",3,1,false,"","koine/koineref29",8⟩,⟨ "in",32,2,false,"","koine/koineref29",16⟩],4,48,.agg #[.int .i64 0,.int .i64 0,.slice none 0 0,.int .i64 0]⟩,
  ⟨139,.func #[4,4] #[4] false,1,8,.nilFunc⟩,
  ⟨143,.slice 219,1,24,.slice none 0 0⟩,
  ⟨149,.slice 280,1,24,.slice none 0 0⟩,
  ⟨153,.pointer 157,1,8,.pointer none⟩,
  ⟨154,.map 9 3,1,8,.map none⟩,
  ⟨155,.map 3 4,1,8,.map none⟩,
  ⟨157,.struct #[⟨ "names",37,0,false,"","koine/source",0⟩,⟨ "files",86,1,false,"","koine/source",24⟩,⟨ "numbers",154,2,false,"","koine/source",48⟩,⟨ "reading",155,3,false,"","koine/source",56⟩,⟨ "depth",3,4,false,"","koine/source",64⟩,⟨ "text",109,5,false,"","koine/source",72⟩,⟨ "out",39,7,false,"","koine/source",104⟩,⟨ "fresh",4,8,false,"","koine/source",128⟩,⟨ "file",3,9,false,"","koine/source",136⟩,⟨ "line",3,10,false,"","koine/source",144⟩],11,152,.agg #[.slice none 0 0,.slice none 0 0,.map none,.map none,.int .i64 0,.pointer none,.slice none 0 0,.slice none 0 0,.bool false,.int .i64 0,.int .i64 0]⟩,
  ⟨160,.struct #[⟨ "place",93,0,false,"","koine/source",0⟩],3,24,.agg #[.int .i64 0,.int .i64 0,.int .i64 0]⟩,
  ⟨166,.struct #[⟨ "in",32,0,false,"","koine/patch",0⟩,⟨ "done",9,2,false,"","koine/patch",32⟩,⟨ "at",3,3,false,"","koine/patch",48⟩],4,56,.agg #[.slice none 0 0,.int .i64 0,.string ByteArray.empty,.int .i64 0]⟩,
  ⟨167,.slice 166,1,24,.slice none 0 0⟩,
  ⟨169,.func #[56] #[4] false,1,8,.nilFunc⟩,
  ⟨172,.map 105 4,1,8,.map none⟩,
  ⟨174,.pointer 177,1,8,.pointer none⟩,
  ⟨175,.map 105 3,1,8,.map none⟩,
  ⟨177,.struct #[⟨ "nodes",30,0,false,"","koine/diagram",0⟩,⟨ "known",175,1,false,"","koine/diagram",24⟩],2,32,.agg #[.slice none 0 0,.map none]⟩,
  ⟨179,.pointer 5,1,8,.pointer none⟩,
  ⟨180,.pointer 183,1,8,.pointer none⟩,
  ⟨181,.slice 242,1,24,.slice none 0 0⟩,
  ⟨183,.struct #[⟨ "a",32,0,false,"","koine/koineref02",0⟩,⟨ "b",32,2,false,"","koine/koineref02",32⟩,⟨ "op",3,4,false,"","koine/koineref02",64⟩,⟨ "nodes",30,5,false,"","koine/koineref02",72⟩,⟨ "seen",181,6,false,"","koine/koineref02",96⟩],7,120,.agg #[.slice none 0 0,.int .i64 0,.slice none 0 0,.int .i64 0,.int .i64 0,.slice none 0 0,.slice none 0 0]⟩,
  ⟨187,.func #[105] #[4] false,1,8,.nilFunc⟩,
  ⟨192,.func #[32,3] #[37] false,1,8,.nilFunc⟩,
  ⟨197,.slice 32,1,24,.slice none 0 0⟩,
  ⟨199,.pointer 201,1,8,.pointer none⟩,
  ⟨201,.struct #[⟨ "names",37,0,false,"","koine/koineref07",0⟩,⟨ "files",86,1,false,"","koine/koineref07",24⟩,⟨ "depth",3,2,false,"","koine/koineref07",48⟩,⟨ "reading",127,3,false,"","koine/koineref07",56⟩,⟨ "out",41,4,false,"","koine/koineref07",80⟩,⟨ "fresh",4,6,false,"","koine/koineref07",120⟩,⟨ "bad",93,7,false,"","koine/koineref07",128⟩],10,152,.agg #[.slice none 0 0,.slice none 0 0,.int .i64 0,.slice none 0 0,.string ByteArray.empty,.slice none 0 0,.bool false,.int .i64 0,.int .i64 0,.int .i64 0]⟩,
  ⟨204,.array 3 32,6,96,.agg #[.slice none 0 0,.int .i64 0,.slice none 0 0,.int .i64 0,.slice none 0 0,.int .i64 0]⟩,
  ⟨205,.func #[4,4,4] #[4] false,1,8,.nilFunc⟩,
  ⟨206,.slice 4,1,24,.slice none 0 0⟩,
  ⟨213,.slice 143,1,24,.slice none 0 0⟩,
  ⟨215,.func #[3] #[3] false,1,8,.nilFunc⟩,
  ⟨217,.func #[3,3] #[143,34] false,1,8,.nilFunc⟩,
  ⟨219,.int .u32,1,4,.int .u32 0⟩,
  ⟨220,.pointer 222,1,8,.pointer none⟩,
  ⟨222,.struct #[⟨ "names",154,0,false,"","koine/formula",0⟩,⟨ "rest",9,1,false,"","koine/formula",8⟩,⟨ "f",149,2,false,"","koine/formula",24⟩,⟨ "unknown",4,3,false,"","koine/formula",48⟩],4,56,.agg #[.map none,.string ByteArray.empty,.slice none 0 0,.bool false]⟩,
  ⟨223,.func #[] #[3] false,1,8,.nilFunc⟩,
  ⟨224,.map 9 4,1,8,.map none⟩,
  ⟨225,.slice 232,1,24,.slice none 0 0⟩,
  ⟨232,.struct #[⟨ "outer",32,0,false,"","koine/source",0⟩,⟨ "rest",32,2,false,"","koine/source",32⟩,⟨ "other",4,4,false,"","koine/source",64⟩,⟨ "line",3,5,false,"","koine/source",72⟩],6,80,.agg #[.slice none 0 0,.int .i64 0,.slice none 0 0,.int .i64 0,.bool false,.int .i64 0]⟩,
  ⟨233,.pointer 232,1,8,.pointer none⟩,
  ⟨238,.map 3 3,1,8,.map none⟩,
  ⟨240,.unsafePointer,1,8,.pointer none⟩,
  ⟨242,.array 3 3,3,24,.agg #[.int .i64 0,.int .i64 0,.int .i64 0]⟩,
  ⟨247,.pointer 249,1,8,.pointer none⟩,
  ⟨249,.struct #[⟨ "nodes",30,0,false,"","koine/koineref02",0⟩,⟨ "number",127,1,false,"","koine/koineref02",24⟩,⟨ "out",30,2,false,"","koine/koineref02",48⟩],3,72,.agg #[.slice none 0 0,.slice none 0 0,.slice none 0 0]⟩,
  ⟨251,.map 253 4,1,8,.map none⟩,
  ⟨252,.func #[3,3] #[4] false,1,8,.nilFunc⟩,
  ⟨253,.array 2 3,2,16,.agg #[.int .i64 0,.int .i64 0]⟩,
  ⟨259,.array 2 122,2,48,.agg #[.slice none 0 0,.slice none 0 0]⟩,
  ⟨260,.array 2 37,2,48,.agg #[.slice none 0 0,.slice none 0 0]⟩,
  ⟨261,.slice 266,1,24,.slice none 0 0⟩,
  ⟨266,.struct #[⟨ "outer",32,0,false,"","koine/koineref07",0⟩,⟨ "rest",32,2,false,"","koine/koineref07",32⟩,⟨ "other",4,4,false,"","koine/koineref07",64⟩,⟨ "line",3,5,false,"","koine/koineref07",72⟩],6,80,.agg #[.slice none 0 0,.int .i64 0,.slice none 0 0,.int .i64 0,.bool false,.int .i64 0]⟩,
  ⟨272,.map 242 3,1,8,.map none⟩,
  ⟨273,.func #[242] #[3] false,1,8,.nilFunc⟩,
  ⟨275,.pointer 277,1,8,.pointer none⟩,
  ⟨277,.struct #[⟨ "d",32,0,false,"","koine/formula",0⟩,⟨ "f",149,2,false,"","koine/formula",32⟩],3,56,.agg #[.slice none 0 0,.int .i64 0,.slice none 0 0]⟩,
  ⟨280,.struct #[⟨ "Op",3,0,false,"","",0⟩,⟨ "Var",3,1,false,"","",8⟩,⟨ "A",3,2,false,"","",16⟩,⟨ "B",3,3,false,"","",24⟩],4,32,.agg #[.int .i64 0,.int .i64 0,.int .i64 0,.int .i64 0]⟩,
  ⟨294,.func #[21] #[4] false,1,8,.nilFunc⟩,
  ⟨297,.array 512 4,512,512,.agg (Array.replicate 512 (.bool false))⟩,
  ⟨302,.array 256 4,256,256,.agg (Array.replicate 256 (.bool false))⟩,
  ⟨306,.pointer 302,1,8,.pointer none⟩,
  ⟨312,.pointer 314,1,8,.pointer none⟩,
  ⟨314,.struct #[⟨ "names",37,0,false,"","koine/koineref03",0⟩,⟨ "l",37,1,false,"","koine/koineref03",24⟩,⟨ "at",3,2,false,"","koine/koineref03",48⟩,⟨ "f",149,3,false,"","koine/koineref03",56⟩,⟨ "bad",4,4,false,"","koine/koineref03",80⟩,⟨ "unknown",4,5,false,"","koine/koineref03",81⟩],6,88,.agg #[.slice none 0 0,.slice none 0 0,.int .i64 0,.slice none 0 0,.bool false,.bool false]⟩,
  ⟨322,.array 256 5,256,256,.agg (Array.replicate 256 (.int .u8 0))⟩,
  ⟨324,.struct #[⟨ "lo",5,0,false,"","unicode/utf8",0⟩,⟨ "hi",5,1,false,"","unicode/utf8",1⟩],2,2,.agg #[.int .u8 0,.int .u8 0]⟩,
  ⟨325,.array 16 324,32,32,.agg (Array.replicate 32 (.int .u8 0))⟩]
 fns:=[3,4,5,6,7,8,9,10,11,12,13,14,15,16,17,18,19,20,21,22,23,24,25,26,27,28,29,30,31,32,33,34,35,36,37,38,39,40,41,42,43,44,45,46,47,48,49,50,51,52,53,54,55,56,57,58,59,60,61,62,63,64,65,66,67,68,69,70,71,72,73,74,75,76,77,78,79,80,81,82,83,84,85,86,87,88,89,90,91,92,93,94,95,96,97,98,99,100,101,102,103,104,105,106,107,108,109,110,111,112,113,114,115,116,117,118,119,120,121,122,123,124,125,126,127,128,129,130,131,132,133,134,135,136,137,138,139,140,141,142,143,144,145,146,147,148,149,150,151,152,153,154,155,156,157,158,160,161,162,163,164,165,166,167,168,169,170,171,172,173,174,175,176,177,178,179,180,181,182,183,184,185,186,187,188,189,190,191,192,193,194,195,196,197,198,199,200,201,202,203,204,205,206,208,209,210,211,212,213,214,215,216,217,218,219,220,221,222,223,224,225,226,227,228,229,230,231,232,233,235,237,238,239,240,241,242,243,244,245,246,248,249,250,251,252,253,254,255,256,257,258,259,260,261]
 ms:=[]
 eqs:=[⟨105,[0,0,0]⟩,⟨280,[0,0,0,0]⟩]
theorem iQj:FD ψ gx.tys:=by
 iterate 107 refine⟨⟨κ,κ⟩,?_⟩
 trivial
set_option maxRecDepth 100000 in
theorem iQk:FE ψ gx.fns:=by refine⟨⟨_,Tryz.func3,?_,?_⟩,⟨_,Tryz.func4,?_,?_⟩,⟨_,Tryz.func5,?_,?_⟩,⟨_,Tryz.func6,?_,?_⟩,⟨_,Tryz.func7,?_,?_⟩,⟨_,Tryz.func8,?_,?_⟩,⟨_,Tryz.func9,?_,?_⟩,⟨_,Tryz.func10,?_,?_⟩,⟨_,Tryz.func11,?_,?_⟩,⟨_,Tryz.func12,?_,?_⟩,⟨_,Tryz.func13,?_,?_⟩,⟨_,Tryz.func14,?_,?_⟩,⟨_,Tryz.func15,?_,?_⟩,⟨_,Tryz.func16,?_,?_⟩,⟨_,Tryz.func17,?_,?_⟩,⟨_,Tryz.func18,?_,?_⟩,⟨_,Tryz.func19,?_,?_⟩,⟨_,Tryz.func20,?_,?_⟩,⟨_,Tryz.func21,?_,?_⟩,⟨_,Tryz.func22,?_,?_⟩,⟨_,Tryz.func23,?_,?_⟩,⟨_,Tryz.func24,?_,?_⟩,⟨_,Tryz.func25,?_,?_⟩,⟨_,Tryz.func26,?_,?_⟩,⟨_,Tryz.func27,?_,?_⟩,⟨_,Tryz.func28,?_,?_⟩,⟨_,Tryz.func29,?_,?_⟩,⟨_,Tryz.func30,?_,?_⟩,⟨_,Tryz.func31,?_,?_⟩,⟨_,Tryz.func32,?_,?_⟩,⟨_,Tryz.func33,?_,?_⟩,⟨_,Tryz.func34,?_,?_⟩,⟨_,Tryz.func35,?_,?_⟩,⟨_,Tryz.func36,?_,?_⟩,⟨_,Tryz.func37,?_,?_⟩,⟨_,Tryz.func38,?_,?_⟩,⟨_,Tryz.func39,?_,?_⟩,⟨_,Tryz.func40,?_,?_⟩,⟨_,Tryz.func41,?_,?_⟩,⟨_,Tryz.func42,?_,?_⟩,⟨_,Tryz.func43,?_,?_⟩,⟨_,Tryz.func44,?_,?_⟩,⟨_,Tryz.func45,?_,?_⟩,⟨_,Tryz.func46,?_,?_⟩,⟨_,Tryz.func47,?_,?_⟩,⟨_,Tryz.func48,?_,?_⟩,⟨_,Tryz.func49,?_,?_⟩,⟨_,Tryz.func50,?_,?_⟩,⟨_,Tryz.func51,?_,?_⟩,⟨_,Tryz.func52,?_,?_⟩,⟨_,Tryz.func53,?_,?_⟩,⟨_,Tryz.func54,?_,?_⟩,⟨_,Tryz.func55,?_,?_⟩,⟨_,Tryz.func56,?_,?_⟩,⟨_,Tryz.func57,?_,?_⟩,⟨_,Tryz.func58,?_,?_⟩,⟨_,Tryz.func59,?_,?_⟩,⟨_,Tryz.func60,?_,?_⟩,⟨_,Tryz.func61,?_,?_⟩,⟨_,Tryz.func62,?_,?_⟩,⟨_,Tryz.func63,?_,?_⟩,⟨_,Tryz.func64,?_,?_⟩,⟨_,Tryz.func65,?_,?_⟩,⟨_,Tryz.func66,?_,?_⟩,⟨_,Tryz.func67,?_,?_⟩,⟨_,Tryz.func68,?_,?_⟩,⟨_,Tryz.func69,?_,?_⟩,⟨_,Tryz.func70,?_,?_⟩,⟨_,Tryz.func71,?_,?_⟩,⟨_,Tryz.func72,?_,?_⟩,⟨_,Tryz.func73,?_,?_⟩,⟨_,Tryz.func74,?_,?_⟩,⟨_,Tryz.func75,?_,?_⟩,⟨_,Tryz.func76,?_,?_⟩,⟨_,Tryz.func77,?_,?_⟩,⟨_,Tryz.func78,?_,?_⟩,⟨_,Tryz.func79,?_,?_⟩,⟨_,Tryz.func80,?_,?_⟩,⟨_,Tryz.func81,?_,?_⟩,⟨_,Tryz.func82,?_,?_⟩,⟨_,Tryz.func83,?_,?_⟩,⟨_,Tryz.func84,?_,?_⟩,⟨_,Tryz.func85,?_,?_⟩,⟨_,Tryz.func86,?_,?_⟩,⟨_,Tryz.func87,?_,?_⟩,⟨_,Tryz.func88,?_,?_⟩,⟨_,Tryz.func89,?_,?_⟩,⟨_,Tryz.func90,?_,?_⟩,⟨_,Tryz.func91,?_,?_⟩,⟨_,Tryz.func92,?_,?_⟩,⟨_,Tryz.func93,?_,?_⟩,⟨_,Tryz.func94,?_,?_⟩,⟨_,Tryz.func95,?_,?_⟩,⟨_,Tryz.func96,?_,?_⟩,⟨_,Tryz.func97,?_,?_⟩,⟨_,Tryz.func98,?_,?_⟩,⟨_,Tryz.func99,?_,?_⟩,⟨_,Tryz.func100,?_,?_⟩,⟨_,Tryz.func101,?_,?_⟩,⟨_,Tryz.func102,?_,?_⟩,⟨_,Tryz.func103,?_,?_⟩,⟨_,Tryz.func104,?_,?_⟩,⟨_,Tryz.func105,?_,?_⟩,⟨_,Tryz.func106,?_,?_⟩,⟨_,Tryz.func107,?_,?_⟩,⟨_,Tryz.func108,?_,?_⟩,⟨_,Tryz.func109,?_,?_⟩,⟨_,Tryz.func110,?_,?_⟩,⟨_,Tryz.func111,?_,?_⟩,⟨_,Tryz.func112,?_,?_⟩,⟨_,Tryz.func113,?_,?_⟩,⟨_,Tryz.func114,?_,?_⟩,⟨_,Tryz.func115,?_,?_⟩,⟨_,Tryz.func116,?_,?_⟩,⟨_,Tryz.func117,?_,?_⟩,⟨_,Tryz.func118,?_,?_⟩,⟨_,Tryz.func119,?_,?_⟩,⟨_,Tryz.func120,?_,?_⟩,⟨_,Tryz.func121,?_,?_⟩,⟨_,Tryz.func122,?_,?_⟩,⟨_,Tryz.func123,?_,?_⟩,⟨_,Tryz.func124,?_,?_⟩,⟨_,Tryz.func125,?_,?_⟩,⟨_,Tryz.func126,?_,?_⟩,⟨_,Tryz.func127,?_,?_⟩,⟨_,Tryz.func128,?_,?_⟩,⟨_,Tryz.func129,?_,?_⟩,⟨_,Tryz.func130,?_,?_⟩,⟨_,Tryz.func131,?_,?_⟩,⟨_,Tryz.func132,?_,?_⟩,⟨_,Tryz.func133,?_,?_⟩,⟨_,Tryz.func134,?_,?_⟩,⟨_,Tryz.func135,?_,?_⟩,⟨_,Tryz.func136,?_,?_⟩,⟨_,Tryz.func137,?_,?_⟩,⟨_,Tryz.func138,?_,?_⟩,⟨_,Tryz.func139,?_,?_⟩,⟨_,Tryz.func140,?_,?_⟩,⟨_,Tryz.func141,?_,?_⟩,⟨_,Tryz.func142,?_,?_⟩,⟨_,Tryz.func143,?_,?_⟩,⟨_,Tryz.func144,?_,?_⟩,⟨_,Tryz.func145,?_,?_⟩,⟨_,Tryz.func146,?_,?_⟩,⟨_,Tryz.func147,?_,?_⟩,⟨_,Tryz.func148,?_,?_⟩,⟨_,Tryz.func149,?_,?_⟩,⟨_,Tryz.func150,?_,?_⟩,⟨_,Tryz.func151,?_,?_⟩,⟨_,Tryz.func152,?_,?_⟩,⟨_,Tryz.func153,?_,?_⟩,⟨_,Tryz.func154,?_,?_⟩,⟨_,Tryz.func155,?_,?_⟩,⟨_,Tryz.func156,?_,?_⟩,⟨_,Tryz.func157,?_,?_⟩,⟨_,Tryz.func158,?_,?_⟩,⟨_,Tryz.func160,?_,?_⟩,⟨_,Tryz.func161,?_,?_⟩,⟨_,Tryz.func162,?_,?_⟩,⟨_,Tryz.func163,?_,?_⟩,⟨_,Tryz.func164,?_,?_⟩,⟨_,Tryz.func165,?_,?_⟩,⟨_,Tryz.func166,?_,?_⟩,⟨_,Tryz.func167,?_,?_⟩,⟨_,Tryz.func168,?_,?_⟩,⟨_,Tryz.func169,?_,?_⟩,⟨_,Tryz.func170,?_,?_⟩,⟨_,Tryz.func171,?_,?_⟩,⟨_,Tryz.func172,?_,?_⟩,⟨_,Tryz.func173,?_,?_⟩,⟨_,Tryz.func174,?_,?_⟩,⟨_,Tryz.func175,?_,?_⟩,⟨_,Tryz.func176,?_,?_⟩,⟨_,Tryz.func177,?_,?_⟩,⟨_,Tryz.func178,?_,?_⟩,⟨_,Tryz.func179,?_,?_⟩,⟨_,Tryz.func180,?_,?_⟩,⟨_,Tryz.func181,?_,?_⟩,⟨_,Tryz.func182,?_,?_⟩,⟨_,Tryz.func183,?_,?_⟩,⟨_,Tryz.func184,?_,?_⟩,⟨_,Tryz.func185,?_,?_⟩,⟨_,Tryz.func186,?_,?_⟩,⟨_,Tryz.func187,?_,?_⟩,⟨_,Tryz.func188,?_,?_⟩,⟨_,Tryz.func189,?_,?_⟩,⟨_,Tryz.func190,?_,?_⟩,⟨_,Tryz.func191,?_,?_⟩,⟨_,Tryz.func192,?_,?_⟩,⟨_,Tryz.func193,?_,?_⟩,⟨_,Tryz.func194,?_,?_⟩,⟨_,Tryz.func195,?_,?_⟩,⟨_,Tryz.func196,?_,?_⟩,⟨_,Tryz.func197,?_,?_⟩,⟨_,Tryz.func198,?_,?_⟩,⟨_,Tryz.func199,?_,?_⟩,⟨_,Tryz.func200,?_,?_⟩,⟨_,Tryz.func201,?_,?_⟩,⟨_,Tryz.func202,?_,?_⟩,⟨_,Tryz.func203,?_,?_⟩,⟨_,Tryz.func204,?_,?_⟩,⟨_,Tryz.func205,?_,?_⟩,⟨_,Tryz.func206,?_,?_⟩,⟨_,Tryz.func208,?_,?_⟩,⟨_,Tryz.func209,?_,?_⟩,⟨_,Tryz.func210,?_,?_⟩,⟨_,Tryz.func211,?_,?_⟩,⟨_,Tryz.func212,?_,?_⟩,⟨_,Tryz.func213,?_,?_⟩,⟨_,Tryz.func214,?_,?_⟩,⟨_,Tryz.func215,?_,?_⟩,⟨_,Tryz.func216,?_,?_⟩,⟨_,Tryz.func217,?_,?_⟩,⟨_,Tryz.func218,?_,?_⟩,⟨_,Tryz.func219,?_,?_⟩,⟨_,Tryz.func220,?_,?_⟩,⟨_,Tryz.func221,?_,?_⟩,⟨_,Tryz.func222,?_,?_⟩,⟨_,Tryz.func223,?_,?_⟩,⟨_,Tryz.func224,?_,?_⟩,⟨_,Tryz.func225,?_,?_⟩,⟨_,Tryz.func226,?_,?_⟩,⟨_,Tryz.func227,?_,?_⟩,⟨_,Tryz.func228,?_,?_⟩,⟨_,Tryz.func229,?_,?_⟩,⟨_,Tryz.func230,?_,?_⟩,⟨_,Tryz.func231,?_,?_⟩,⟨_,Tryz.func232,?_,?_⟩,⟨_,Tryz.func233,?_,?_⟩,⟨_,Tryz.func235,?_,?_⟩,⟨_,Tryz.func237,?_,?_⟩,⟨_,Tryz.func238,?_,?_⟩,⟨_,Tryz.func239,?_,?_⟩,⟨_,Tryz.func240,?_,?_⟩,⟨_,Tryz.func241,?_,?_⟩,⟨_,Tryz.func242,?_,?_⟩,⟨_,Tryz.func243,?_,?_⟩,⟨_,Tryz.func244,?_,?_⟩,⟨_,Tryz.func245,?_,?_⟩,⟨_,Tryz.func246,?_,?_⟩,⟨_,Tryz.func248,?_,?_⟩,⟨_,Tryz.func249,?_,?_⟩,⟨_,Tryz.func250,?_,?_⟩,⟨_,Tryz.func251,?_,?_⟩,⟨_,Tryz.func252,?_,?_⟩,⟨_,Tryz.func253,?_,?_⟩,⟨_,Tryz.func254,?_,?_⟩,⟨_,Tryz.func255,?_,?_⟩,⟨_,Tryz.func256,?_,?_⟩,⟨_,Tryz.func257,?_,?_⟩,⟨_,Tryz.func258,?_,?_⟩,⟨_,Tryz.func259,?_,?_⟩,⟨_,Tryz.func260,?_,?_⟩,⟨_,Tryz.func261,?_,?_⟩,trivial⟩<;>kernel_rfl
theorem iQl:FB ψ gx.ms:=
 trivial
theorem iQm:FC ψ gx.eqs:=
 ⟨⟨κ,κ,κ⟩,
  ⟨κ,κ,κ⟩,trivial⟩
theorem Qe:gx.Ok:=⟨iQj,iQk,κ,iQl,iQm⟩
abbrev c6:Cx:=⟨gx,137,3,[3,5,6,7,8,9,10,11,12,13,14,15,16,66],[]⟩
abbrev Bn:Cx:=⟨gx,179,1,[1,3,5,7,9,11,13,14,15,16,17,18,19,21,23,25,26,27,28,30],[]⟩
abbrev c12:Cx:=⟨gx,32,1,[1,2,3,4,12,21],[]⟩
abbrev c13:Cx:=⟨gx,135,1,[1,2,3,4,5,6,7,8,9,10,11,12,13,14,15,34,50,102,118],[]⟩
abbrev c14:Cx:=⟨gx,12,2,[2,3,9],[]⟩
abbrev c15:Cx:=⟨gx,118,5,[5,8,9,10,11,12,13,14,15,17,19,44,45,46,47,51,81,115],[]⟩
abbrev c16:Cx:=⟨gx,2,1,[],[]⟩
abbrev c19:Cx:=⟨gx,38,6,[10,16,30],[]⟩
abbrev c20:Cx:=⟨gx,61,14,[14,19,41],[]⟩
abbrev c22:Cx:=⟨gx,8,2,[2,3,4],[]⟩
abbrev c23:Cx:=⟨gx,9,2,[2,3,4],[]⟩
abbrev c24:Cx:=⟨gx,65,4,[4,6,7,8,10,16,17,18,19,46,55,59],[]⟩
abbrev c28:Cx:=⟨gx,11,4,[4],[]⟩
abbrev c29:Cx:=⟨gx,6,2,[2,3],[]⟩
abbrev c30:Cx:=⟨gx,15,2,[2,3,9],[]⟩
abbrev c31:Cx:=⟨gx,247,5,[5,8,9,11,12,13,14,15,16,17,18,19,20,21,22,23,24,26,34,46,53,108,124,138,156,166,188,197,225,234,245],[]⟩
abbrev c32:Cx:=⟨gx,21,3,[],[]⟩
abbrev c34:Cx:=⟨gx,15,2,[2,3,9],[]⟩
abbrev c35:Cx:=⟨gx,9,1,[1,2,3],[]⟩
abbrev c36:Cx:=⟨gx,11,2,[2,3,4,5],[]⟩
abbrev c37:Cx:=⟨gx,6,2,[2,3],[]⟩
abbrev c38:Cx:=⟨gx,42,7,[7,9,11,12],[]⟩
abbrev c39:Cx:=⟨gx,25,4,[4,6,7,8],[]⟩
abbrev c40:Cx:=⟨gx,16,7,[],[]⟩
abbrev fd:Cx:=⟨gx,11,4,[9],[]⟩
abbrev c42:Cx:=⟨gx,47,3,[3,5,6,7,8,9,24,45],[]⟩
abbrev c43:Cx:=⟨gx,81,6,[6,7,9,10,11,12,13,14,15,22,29,38,39,40,41,63],[]⟩
abbrev c44:Cx:=⟨gx,6,2,[3],[]⟩
abbrev c45:Cx:=⟨gx,107,3,[3,4,5,9,10,11,12,70,104],[]⟩
abbrev c46:Cx:=⟨gx,19,4,[12],[]⟩
abbrev c47:Cx:=⟨gx,21,5,[5,6,7,8,13],[]⟩
abbrev c48:Cx:=⟨gx,222,7,[7,8,9,11,12,13,15,16,18,19,21,22,23,25,26,27,31,32,33,34,56,64,67,68,69,70,77,78,79,80,97,105,106,107,108,111,112,113,114,124,155,163,164,165,166,185,191],[]⟩
abbrev c49:Cx:=⟨gx,11,2,[2,3,4],[]⟩
abbrev c50:Cx:=⟨gx,22,6,[6,7,8,9,17],[]⟩
abbrev c51:Cx:=⟨gx,6,3,[],[]⟩
abbrev c52:Cx:=⟨gx,106,1,[1,2,3,4,5,6,10,13,14,15,16,63,79,94,105],[]⟩
abbrev c53:Cx:=⟨gx,30,2,[2,4,5,6,10,23],[]⟩
abbrev c56:Cx:=⟨gx,19,6,[],[]⟩
abbrev c57:Cx:=⟨gx,14,3,[],[]⟩
abbrev c58:Cx:=⟨gx,26,3,[3,4,6,7,8],[]⟩
abbrev c59:Cx:=⟨gx,6,1,[1,2],[]⟩
abbrev fe:Cx:=⟨gx,11,4,[9],[]⟩
abbrev c61:Cx:=⟨gx,15,2,[2,3,4],[]⟩
abbrev c62:Cx:=⟨gx,16,2,[2,3,4],[]⟩
abbrev c63:Cx:=⟨gx,15,3,[],[]⟩
abbrev c64:Cx:=⟨gx,12,2,[2,3,4],[]⟩
abbrev c65:Cx:=⟨gx,12,3,[3,4,5,6,7],[]⟩
abbrev c66:Cx:=⟨gx,8,2,[2,3,4],[]⟩
abbrev c67:Cx:=⟨gx,25,3,[3,4,5,6,16,23],[]⟩
abbrev c68:Cx:=⟨gx,24,2,[2,4,5,8,13,23],[]⟩
abbrev c70:Cx:=⟨gx,32,5,[10,31],[]⟩
abbrev c71:Cx:=⟨gx,15,7,[9],[]⟩
abbrev c72:Cx:=⟨gx,59,8,[8,9,13],[]⟩
abbrev c73:Cx:=⟨gx,54,6,[6,7,8,9,10,13,20,31,43],[]⟩
abbrev c74:Cx:=⟨gx,55,3,[3,4,5,6,7,13,46],[]⟩
abbrev c75:Cx:=⟨gx,82,3,[3,4,5,6,7,8,9,10,11,18,43,66],[]⟩
abbrev c76:Cx:=⟨gx,17,2,[2,3,4],[]⟩
abbrev c77:Cx:=⟨gx,61,5,[5,6,7,8,12,20,60],[]⟩
abbrev c78:Cx:=⟨gx,23,2,[2,4,5,6,12,17],[]⟩
abbrev c79:Cx:=⟨gx,18,5,[],[]⟩
abbrev c82:Cx:=⟨gx,26,3,[3,4,5,6,7,8,14],[]⟩
abbrev c83:Cx:=⟨gx,7,5,[],[]⟩
abbrev c84:Cx:=⟨gx,9,5,[],[]⟩
abbrev c85:Cx:=⟨gx,139,12,[12,13,14,15,25,42,73,96,108,120,133],[]⟩
abbrev c86:Cx:=⟨gx,30,3,[3,4,5,7,8,9,16,23],[]⟩
abbrev c87:Cx:=⟨gx,107,2,[2,3,4,5,6,8,9,10,11,12,13,14,15,16,17,18,19,20,24,31,33,34,35,36,42,55,56,57,58,93],[]⟩
abbrev c88:Cx:=⟨gx,31,6,[13,15,16,17],[]⟩
abbrev c89:Cx:=⟨gx,50,4,[4,5,6,7,8,15,25,32,38],[]⟩
abbrev c90:Cx:=⟨gx,87,2,[2,3,4,5,6,7,10,13,14,15,16,46,47,48,73,79],[]⟩
abbrev dv:Cx:=⟨gx,13,2,[2,3,9],[]⟩
abbrev c92:Cx:=⟨gx,230,5,[5,6,7,8,9,10,11,12,13,14,16,17,18,19,20,21,56,96,125,147,163,172,201],[]⟩
abbrev c95:Cx:=⟨gx,10,5,[],[]⟩
abbrev c96:Cx:=⟨gx,8,5,[],[]⟩
abbrev c97:Cx:=⟨gx,16,2,[2,3,4],[]⟩
abbrev c98:Cx:=⟨gx,19,6,[7,8,9,16],[]⟩
abbrev c99:Cx:=⟨gx,8,2,[2,3],[]⟩
abbrev iQn:Cx:=⟨gx,8,2,[2,4],[]⟩
abbrev iQo:Cx:=⟨gx,11,2,[2,3,4,5],[]⟩
abbrev iQp:Cx:=⟨gx,75,8,[8,10,12,13,15,22,29,39,40,41,42,49,63,64,65,66],[]⟩
abbrev iQq:Cx:=⟨gx,14,2,[2,4,6],[]⟩
abbrev iQr:Cx:=⟨gx,17,2,[2,4,5,6,7],[]⟩
abbrev iQs:Cx:=⟨gx,17,2,[2,3,4],[]⟩
abbrev aQJ:Cx:=⟨gx,20,2,[6,19],[]⟩
abbrev iQt:Cx:=⟨gx,137,17,[22,33,57],[]⟩
abbrev iQu:Cx:=⟨gx,22,4,[4,5,6],[]⟩
abbrev iQv:Cx:=⟨gx,9,5,[],[]⟩
abbrev iQw:Cx:=⟨gx,8,2,[2,3],[]⟩
abbrev iQx:Cx:=⟨gx,18,4,[4,5,6,7,8,9,15],[]⟩
abbrev aQK:Cx:=⟨gx,17,3,[3,4,5,6,7,8],[]⟩
abbrev iQy:Cx:=⟨gx,8,5,[],[]⟩
abbrev iQz:Cx:=⟨gx,9,5,[],[]⟩
abbrev iQA:Cx:=⟨gx,26,3,[3,4,5,6,7,8,15],[]⟩
abbrev iQB:Cx:=⟨gx,77,5,[5,7,9,10,11,12,13,14,15,16,17,18,24,42,50,68],[]⟩
abbrev iQC:Cx:=⟨gx,26,6,[10,12,13,14,24],[]⟩
abbrev iQD:Cx:=⟨gx,77,11,[47,66],[]⟩
abbrev iQE:Cx:=⟨gx,44,4,[7,40],[]⟩
abbrev iQF:Cx:=⟨gx,10,1,[1,2,6,9],[]⟩
abbrev iQG:Cx:=⟨gx,19,5,[8,17],[]⟩
abbrev iQH:Cx:=⟨gx,18,5,[8],[]⟩
abbrev iQI:Cx:=⟨gx,127,11,[11,12,13,14,15,16,20,40,50,93,118],[]⟩
abbrev iQJ:Cx:=⟨gx,72,2,[2,3,4,5,6,9,14,46,64,68],[]⟩
abbrev iQK:Cx:=⟨gx,26,6,[12,24],[]⟩
abbrev iQL:Cx:=⟨gx,159,5,[5,6,7,8,9,10,11,12,46,51,62,75,99,131],[]⟩
abbrev iQM:Cx:=⟨gx,10,1,[1,2,3,7],[]⟩
abbrev iQN:Cx:=⟨gx,25,2,[2,3,4,5,6,7],[]⟩
abbrev M9:Cx:=⟨gx,12,8,[],[]⟩
abbrev iQO:Cx:=⟨gx,75,7,[9,39,40,44,48,54,60,68],[]⟩
abbrev iQP:Cx:=⟨gx,43,1,[1,2,3,4,19,23,40],[]⟩
abbrev iQQ:Cx:=⟨gx,47,7,[8,9,10,11,31],[]⟩
abbrev iQR:Cx:=⟨gx,28,1,[1,2,3,4,5,9,23],[]⟩
abbrev iQS:Cx:=⟨gx,45,9,[9,10,17,20,21,22,23,24,36],[]⟩
abbrev iQT:Cx:=⟨gx,16,5,[],[]⟩
abbrev iQU:Cx:=⟨gx,10,5,[],[]⟩
abbrev iQV:Cx:=⟨gx,34,11,[19,20,21,29],[]⟩
abbrev iQW:Cx:=⟨gx,72,9,[16,21,32,33,34,46],[]⟩
abbrev iQX:Cx:=⟨gx,20,3,[],[]⟩
abbrev FY:Cx:=⟨gx,17,5,[7,14],[]⟩
abbrev iQY:Cx:=⟨gx,6,1,[1,2],[]⟩
abbrev iQZ:Cx:=⟨gx,29,7,[],[]⟩
abbrev iQ0:Cx:=⟨gx,13,7,[],[]⟩
abbrev iQ1:Cx:=⟨gx,32,4,[4,5,6,16,17,25],[]⟩
abbrev iQ2:Cx:=⟨gx,16,2,[6],[]⟩
abbrev iQ3:Cx:=⟨gx,29,4,[4,5,6,7],[]⟩
abbrev iQ4:Cx:=⟨gx,56,7,[27,52],[]⟩
abbrev iQ5:Cx:=⟨gx,16,4,[],[]⟩
abbrev iQ6:Cx:=⟨gx,42,8,[8,9,13,25],[]⟩
abbrev iQ7:Cx:=⟨gx,80,7,[7,8,31,37],[]⟩
abbrev iQ8:Cx:=⟨gx,66,12,[13,15,20,36,41],[]⟩
abbrev iQ9:Cx:=⟨gx,18,5,[],[]⟩
abbrev jQa:Cx:=⟨gx,9,5,[],[]⟩
abbrev jQb:Cx:=⟨gx,55,9,[9,10,11,18],[]⟩
abbrev jQc:Cx:=⟨gx,26,6,[10,12,13,14,24],[]⟩
abbrev jQd:Cx:=⟨gx,25,7,[10,11,16],[]⟩
abbrev jQe:Cx:=⟨gx,14,2,[2,4,6],[]⟩
abbrev jQf:Cx:=⟨gx,29,3,[3,6,7,12],[]⟩
abbrev jQg:Cx:=⟨gx,38,3,[3,4,5,6,11,18,26],[]⟩
abbrev jQh:Cx:=⟨gx,77,5,[5,6,7,9,19],[]⟩
abbrev jQi:Cx:=⟨gx,19,6,[7,8,9,16],[]⟩
abbrev aQL:Cx:=⟨gx,67,15,[16,24,26,31],[]⟩
abbrev jQj:Cx:=⟨gx,29,3,[3,6,7,12],[]⟩
abbrev jQk:Cx:=⟨gx,21,5,[],[]⟩
abbrev jQl:Cx:=⟨gx,19,6,[7,8,9,16],[]⟩
abbrev jQm:Cx:=⟨gx,18,7,[],[]⟩
abbrev jQn:Cx:=⟨gx,64,12,[16,17,18,28,47,48,53,59],[]⟩
abbrev jQo:Cx:=⟨gx,8,3,[4],[]⟩
abbrev jQp:Cx:=⟨gx,34,4,[7,30],[]⟩
abbrev jQq:Cx:=⟨gx,19,6,[9,17],[]⟩
abbrev jQr:Cx:=⟨gx,34,1,[1,2,3,15,20,26],[]⟩
abbrev jQs:Cx:=⟨gx,26,6,[10,14,25],[]⟩
abbrev jQt:Cx:=⟨gx,78,11,[48,67],[]⟩
abbrev jQu:Cx:=⟨gx,28,4,[7,25],[]⟩
abbrev jQv:Cx:=⟨gx,21,3,[],[]⟩
abbrev jQw:Cx:=⟨gx,99,8,[8,12,38,46],[]⟩
abbrev jQx:Cx:=⟨gx,18,5,[],[]⟩
abbrev jQy:Cx:=⟨gx,42,8,[8,9,10,11,23,30],[]⟩
abbrev jQz:Cx:=⟨gx,22,6,[10],[]⟩
abbrev jQA:Cx:=⟨gx,87,7,[7,10,11,12,28,41,47,61,75],[]⟩
abbrev Bo:Cx:=⟨gx,90,11,[11,12,13,14,15,18,37,49,59],[]⟩
abbrev jQB:Cx:=⟨gx,21,8,[13],[]⟩
abbrev jQC:Cx:=⟨gx,4,1,[],[]⟩
abbrev jQD:Cx:=⟨gx,97,6,[6,7,8,9,10,11,12,13,14,15,28,39,46,64,65],[]⟩
abbrev jQE:Cx:=⟨gx,54,9,[9,10,11,14,30],[]⟩
abbrev jQF:Cx:=⟨gx,13,4,[],[]⟩
abbrev jQG:Cx:=⟨gx,23,4,[7,21],[]⟩
abbrev jQH:Cx:=⟨gx,89,5,[5,6,7,17,32,42,52,62],[]⟩
abbrev aQM:Cx:=⟨gx,63,3,[3,4,5,6,8,9,17,18,19,20,21,29,36,37,38,39,44,54,55,56,61],[]⟩
abbrev jQI:Cx:=⟨gx,75,10,[10,11,21,26,48,52,56,65],[]⟩
abbrev jQJ:Cx:=⟨gx,24,5,[16,20],[]⟩
abbrev aQN:Cx:=⟨gx,25,11,[15],[]⟩
abbrev jQK:Cx:=⟨gx,6,2,[],[]⟩
abbrev jQL:Cx:=⟨gx,84,9,[10,18,23,32,49,50,55],[]⟩
abbrev jQM:Cx:=⟨gx,37,5,[5,6,12,21,31],[]⟩
abbrev jQN:Cx:=⟨gx,11,6,[],[]⟩
abbrev jQO:Cx:=⟨gx,23,8,[12],[]⟩
abbrev jQP:Cx:=⟨gx,13,4,[4,6,8],[]⟩
abbrev jQQ:Cx:=⟨gx,108,2,[2,3,4,5,6,7,10,15,16,17,18,23,24,34,45,59,78,98],[]⟩
abbrev jQR:Cx:=⟨gx,8,3,[],[]⟩
abbrev jQS:Cx:=⟨gx,9,1,[1,2],[]⟩
abbrev jQT:Cx:=⟨gx,8,5,[],[]⟩
abbrev jQU:Cx:=⟨gx,21,3,[],[]⟩
abbrev jQV:Cx:=⟨gx,79,2,[2,4,5,6,50,66,69,78],[]⟩
abbrev jQW:Cx:=⟨gx,38,2,[2,3,4,5,19,24,37],[]⟩
abbrev jQX:Cx:=⟨gx,38,7,[29,35],[]⟩
abbrev jQY:Cx:=⟨gx,45,7,[33,42],[]⟩
abbrev jQZ:Cx:=⟨gx,58,9,[11,18,25,42,47],[]⟩
abbrev jQ0:Cx:=⟨gx,94,2,[2,3,4,5,6,7,8,11,16,28,29,37,48,64,81],[]⟩
abbrev jQ1:Cx:=⟨gx,24,6,[12,23],[]⟩
abbrev jQ2:Cx:=⟨gx,8,5,[],[]⟩
abbrev jQ3:Cx:=⟨gx,29,3,[],[]⟩
abbrev jQ4:Cx:=⟨gx,27,3,[3,4,10],[]⟩
abbrev aQO:Cx:=⟨gx,69,2,[2,4,5,6,11,12,15,27,28,33,67],[]⟩
abbrev jQ5:Cx:=⟨gx,8,3,[3,4,6],[]⟩
abbrev jQ6:Cx:=⟨gx,21,3,[3,4],[]⟩
abbrev jQ7:Cx:=⟨gx,21,2,[2,3,4,5,9,16],[]⟩
abbrev jQ8:Cx:=⟨gx,16,5,[7,12],[]⟩
abbrev jQ9:Cx:=⟨gx,15,6,[9],[]⟩
abbrev kQa:Cx:=⟨gx,27,5,[8,15,22],[]⟩
abbrev kQb:Cx:=⟨gx,99,7,[10,11,24,41,63,83],[]⟩
abbrev kQc:Cx:=⟨gx,24,5,[15],[]⟩
abbrev kQd:Cx:=⟨gx,79,7,[14,21,30,38,50,64,78],[]⟩
abbrev kQe:Cx:=⟨gx,16,1,[1,2,3,4,8],[]⟩
abbrev kQf:Cx:=⟨gx,11,2,[2,3,4,5],[]⟩
abbrev kQg:Cx:=⟨gx,11,2,[2,3,4,5],[]⟩
abbrev kQh:Cx:=⟨gx,10,5,[],[]⟩
abbrev kQi:Cx:=⟨gx,24,5,[15],[]⟩
abbrev kQj:Cx:=⟨gx,36,5,[28],[]⟩
abbrev kQk:Cx:=⟨gx,21,3,[3,4],[]⟩
abbrev kQl:Cx:=⟨gx,75,2,[2,4,5,30,46,74],[]⟩
abbrev kQm:Cx:=⟨gx,13,3,[3,4,8,10],[]⟩
abbrev kQn:Cx:=⟨gx,10,1,[1,2,3,7],[]⟩
abbrev kQo:Cx:=⟨gx,24,3,[3,4,6,7,8,14],[]⟩
abbrev kQp:Cx:=⟨gx,97,7,[15,21,27,34,39,86],[]⟩
end
end Go.Proofs.YtjabbbcdgmlojaaGreatDoor
namespace Go.Proofs
open Go Go.RowKit
section
open Go.Shelf
def Tryz.lays156_ren:Go.Shelf.Ren:=⟨fun|156=>102|165=>156|166=>56|169=>57|240=>106|241=>210|276=>159|277=>236|n=>n,fun|31=>37|9=>9|3=>3|4=>4|0=>0|20=>20|72=>109|76=>113|70=>107|37=>62|75=>112|127=>179|164=>240|5=>5|80=>115|n=>n,fun|n=>n⟩
theorem vQJ:Go.Proofs.Lays.n156 Tryz.prog Tryz.lays156_ren:={
 mixed:=by kernel_rfl
 f156:=Tryz.func102.trans (congrArg some (by kernel_rfl))
 f165:=Tryz.func156.trans (congrArg some (by kernel_rfl))
 f166:=Tryz.func56.trans (congrArg some (by kernel_rfl))
 f169:=Tryz.func57.trans (congrArg some (by kernel_rfl))
 f240:=Tryz.func106.trans (congrArg some (by kernel_rfl))
 f241:=Tryz.func210.trans (congrArg some (by kernel_rfl))
 f276:=Tryz.func159.trans (congrArg some (by kernel_rfl))
 f277:=Tryz.func236.trans (congrArg some (by kernel_rfl))
 t0:=Tryz.underlying0
 a0:=Tryz.isAgg0
 z0:=Tryz.sizeOf0
 v0:=Tryz.zeroValue0
 t3:=Tryz.underlying3
 a3:=Tryz.isAgg3
 z3:=Tryz.sizeOf3
 v3:=Tryz.zeroValue3
 t4:=Tryz.underlying4
 a4:=Tryz.isAgg4
 z4:=Tryz.sizeOf4
 v4:=Tryz.zeroValue4
 t9:=Tryz.underlying9
 a9:=Tryz.isAgg9
 z9:=Tryz.sizeOf9
 v9:=Tryz.zeroValue9
 t20:=Tryz.underlying20
 a20:=Tryz.isAgg20
 z20:=Tryz.sizeOf20
 v20:=Tryz.zeroValue20
 t31:=Tryz.underlying37
 a31:=Tryz.isAgg37
 z31:=Tryz.sizeOf37
 v31:=Tryz.zeroValue37
 t37:=Tryz.underlying62
 a37:=Tryz.isAgg62
 z37:=Tryz.sizeOf62
 v37:=Tryz.zeroValue62
 t70:=Tryz.underlying107
 a70:=Tryz.isAgg107
 z70:=Tryz.sizeOf107
 v70:=Tryz.zeroValue107
 t72:=Tryz.underlying109
 a72:=Tryz.isAgg109
 z72:=Tryz.sizeOf109
 v72:=Tryz.zeroValue109
 t75:=Tryz.underlying112
 a75:=Tryz.isAgg112
 z75:=Tryz.sizeOf112
 v75:=Tryz.zeroValue112
 t76:=Tryz.underlying113
 a76:=Tryz.isAgg113
 z76:=Tryz.sizeOf113
 v76:=Tryz.zeroValue113
 t127:=Tryz.underlying179
 a127:=Tryz.isAgg179
 z127:=Tryz.sizeOf179
 v127:=Tryz.zeroValue179
 t164:=Tryz.underlying240
 a164:=Tryz.isAgg240
 z164:=Tryz.sizeOf240
 v164:=Tryz.zeroValue240}
theorem vQF:Builder.Extra Tryz.prog Tryz.lays156_ren:={
 sizeBuilder:=by kernel_rfl
 liesBuilder:=by kernel_rfl
 t5:=Tryz.underlying5
 a5:=Tryz.isAgg5
 z5:=Tryz.sizeOf5
 v5:=Tryz.zeroValue5
 infoByte:=by kernel_rfl
 cellsByte:=by kernel_rfl
 sizeByte:=by kernel_rfl
 neB5:=by decide}
open Go.RowKit in
theorem Tryz.strings_Join (d o c:Nat)(b:List ByteArray)(a:ByteArray)(w:World)(f:∀(j:Nat) x,b[j]? =some x->w.cell? ⟨d,o+j,none⟩=some (.string x))(g:d<w.heap.size)(h:b.length<=140737488355328)(i:b.length<=c)(k:(Lib.join (b.map (·.data.toList)) a.data.toList).length<=140737488355328):Calls Tryz.prog 102 #[.slice (some ⟨d,o,none⟩) b.length c,.string a] w λe w'=>e= .returned (.string ⟨(Lib.join (b.map (·.data.toList)) a.data.toList).toArray⟩)/\Below w.heap.size w w':=Any.strings_Join vQJ vQF d o c b a w f g h i k
def Tryz.lays137_ren:Go.Shelf.Ren:=⟨fun|137=>94|217=>152|266=>207|n=>n,fun|9=>9|5=>5|3=>3|n=>n,fun|n=>n⟩
theorem vQO:Go.Proofs.Lays.n137 Tryz.prog Tryz.lays137_ren:={
 mixed:=by kernel_rfl
 f137:=Tryz.func94.trans (congrArg some (by kernel_rfl))
 f217:=Tryz.func152.trans (congrArg some (by kernel_rfl))
 f266:=Tryz.func207.trans (congrArg some (by kernel_rfl))
 t3:=Tryz.underlying3
 a3:=Tryz.isAgg3
 z3:=Tryz.sizeOf3
 v3:=Tryz.zeroValue3
 t5:=Tryz.underlying5
 a5:=Tryz.isAgg5
 z5:=Tryz.sizeOf5
 v5:=Tryz.zeroValue5
 t9:=Tryz.underlying9
 a9:=Tryz.isAgg9
 z9:=Tryz.sizeOf9
 v9:=Tryz.zeroValue9}
open Go.RowKit in
theorem Tryz.strings_IndexByte (s:ByteArray)(c:Int)(w:World):Calls Tryz.prog 94 #[.string s,.int .u8 c] w λe a=>e= .returned (.int .i64 (Lib.indexByte s.data.toList c.toNat.toUInt8))/\a=w:=Any.strings_IndexByte vQO s c w
def Tryz.lays219_ren:Go.Shelf.Ren:=⟨fun|219=>232|217=>152|225=>247|224=>248|267=>249|266=>207|314=>259|n=>n,fun|9=>9|3=>3|4=>4|5=>5|46=>121|146=>320|51=>219|n=>n,fun|1=>0|n=>n⟩
theorem vQM:Go.Proofs.Lays.n219 Tryz.prog Tryz.lays219_ren:={
 mixed:=by kernel_rfl
 f217:=Tryz.func152.trans (congrArg some (by kernel_rfl))
 f219:=Tryz.func232.trans (congrArg some (by kernel_rfl))
 f224:=Tryz.func248.trans (congrArg some (by kernel_rfl))
 f225:=Tryz.func247.trans (congrArg some (by kernel_rfl))
 f266:=Tryz.func207.trans (congrArg some (by kernel_rfl))
 f267:=Tryz.func249.trans (congrArg some (by kernel_rfl))
 f314:=Tryz.func259.trans (congrArg some (by kernel_rfl))
 t3:=Tryz.underlying3
 a3:=Tryz.isAgg3
 z3:=Tryz.sizeOf3
 v3:=Tryz.zeroValue3
 t4:=Tryz.underlying4
 a4:=Tryz.isAgg4
 z4:=Tryz.sizeOf4
 v4:=Tryz.zeroValue4
 t5:=Tryz.underlying5
 a5:=Tryz.isAgg5
 z5:=Tryz.sizeOf5
 v5:=Tryz.zeroValue5
 t9:=Tryz.underlying9
 a9:=Tryz.isAgg9
 z9:=Tryz.sizeOf9
 v9:=Tryz.zeroValue9
 t46:=Tryz.underlying121
 a46:=Tryz.isAgg121
 z46:=Tryz.sizeOf121
 v46:=Tryz.zeroValue121
 t51:=Tryz.underlying219
 a51:=Tryz.isAgg219
 z51:=Tryz.sizeOf219
 v51:=Tryz.zeroValue219
 t146:=Tryz.underlying320
 a146:=Tryz.isAgg320
 z146:=Tryz.sizeOf320
 v146:=Tryz.zeroValue320
 g1:=by kernel_rfl}
open Go.RowKit Go.Lib in
theorem Tryz.stringslite_Index_one (s:ByteArray)(c:UInt8)(w:World):Calls Tryz.prog 232 #[.string s,.string ⟨#[c]⟩] w λe a=>e= .returned (.int .i64 (Lib.indexByte s.data.toList c))/\a=w:=Any.stringslite_Index_one vQM s c w
def Tryz.lays138_ren:Go.Shelf.Ren:=⟨fun|138=>204|195=>233|218=>234|143=>209|219=>232|217=>152|225=>247|224=>248|267=>249|266=>207|314=>259|n=>n,fun|9=>9|3=>3|4=>4|5=>5|0=>0|46=>121|146=>320|51=>219|n=>n,fun|1=>0|n=>n⟩
theorem vQL:Go.Proofs.Lays.n138 Tryz.prog Tryz.lays138_ren:={
 mixed:=by kernel_rfl
 f138:=Tryz.func204.trans (congrArg some (by kernel_rfl))
 f143:=Tryz.func209.trans (congrArg some (by kernel_rfl))
 f195:=Tryz.func233.trans (congrArg some (by kernel_rfl))
 f217:=Tryz.func152.trans (congrArg some (by kernel_rfl))
 f218:=Tryz.func234.trans (congrArg some (by kernel_rfl))
 f219:=Tryz.func232.trans (congrArg some (by kernel_rfl))
 f224:=Tryz.func248.trans (congrArg some (by kernel_rfl))
 f225:=Tryz.func247.trans (congrArg some (by kernel_rfl))
 f266:=Tryz.func207.trans (congrArg some (by kernel_rfl))
 f267:=Tryz.func249.trans (congrArg some (by kernel_rfl))
 f314:=Tryz.func259.trans (congrArg some (by kernel_rfl))
 t0:=Tryz.underlying0
 a0:=Tryz.isAgg0
 z0:=Tryz.sizeOf0
 v0:=Tryz.zeroValue0
 t3:=Tryz.underlying3
 a3:=Tryz.isAgg3
 z3:=Tryz.sizeOf3
 v3:=Tryz.zeroValue3
 t4:=Tryz.underlying4
 a4:=Tryz.isAgg4
 z4:=Tryz.sizeOf4
 v4:=Tryz.zeroValue4
 t5:=Tryz.underlying5
 a5:=Tryz.isAgg5
 z5:=Tryz.sizeOf5
 v5:=Tryz.zeroValue5
 t9:=Tryz.underlying9
 a9:=Tryz.isAgg9
 z9:=Tryz.sizeOf9
 v9:=Tryz.zeroValue9
 t46:=Tryz.underlying121
 a46:=Tryz.isAgg121
 z46:=Tryz.sizeOf121
 v46:=Tryz.zeroValue121
 t51:=Tryz.underlying219
 a51:=Tryz.isAgg219
 z51:=Tryz.sizeOf219
 v51:=Tryz.zeroValue219
 t146:=Tryz.underlying320
 a146:=Tryz.isAgg320
 z146:=Tryz.sizeOf320
 v146:=Tryz.zeroValue320
 g1:=by kernel_rfl}
open Go.RowKit Go.Lib in
theorem Tryz.strings_Count_one (s:ByteArray)(c:UInt8)(w:World):Calls Tryz.prog 204 #[.string s,.string ⟨#[c]⟩] w λe a=>e= .returned (.int .i64 (Lib.countByte s.data.toList c))/\a=w:=Any.strings_Count_one vQL s c w
def Tryz.lays149_ren:Go.Shelf.Ren:=⟨fun|149=>93|222=>151|n=>n,fun|9=>9|5=>5|3=>3|4=>4|n=>n,fun|n=>n⟩
theorem vQN:Go.Proofs.Lays.n149 Tryz.prog Tryz.lays149_ren:={
 mixed:=by kernel_rfl
 f149:=Tryz.func93.trans (congrArg some (by kernel_rfl))
 f222:=Tryz.func151.trans (congrArg some (by kernel_rfl))
 t3:=Tryz.underlying3
 a3:=Tryz.isAgg3
 z3:=Tryz.sizeOf3
 v3:=Tryz.zeroValue3
 t4:=Tryz.underlying4
 a4:=Tryz.isAgg4
 z4:=Tryz.sizeOf4
 v4:=Tryz.zeroValue4
 t5:=Tryz.underlying5
 a5:=Tryz.isAgg5
 z5:=Tryz.sizeOf5
 v5:=Tryz.zeroValue5
 t9:=Tryz.underlying9
 a9:=Tryz.isAgg9
 z9:=Tryz.sizeOf9
 v9:=Tryz.zeroValue9}
open Go.RowKit Go.Lib in
theorem Tryz.strings_LastIndexByte (s:ByteArray)(c:Int)(a:s.size<4611686018427387904)(w:World):Calls Tryz.prog 93 #[.string s,.int .u8 c] w λe b=>e= .returned (.int .i64 (Lib.lastIndexByte s c))/\b=w:=Any.strings_LastIndexByte vQN s c a w
def Tryz.lays315_ren:Go.Shelf.Ren:=⟨fun|315=>244|n=>n,fun|9=>9|40=>294|4=>4|3=>3|0=>0|21=>21|n=>n,fun|n=>n⟩
theorem vQK:Go.Proofs.Lays.n315 Tryz.prog Tryz.lays315_ren:={
 mixed:=by kernel_rfl
 f315:=Tryz.func244.trans (congrArg some (by kernel_rfl))
 t0:=Tryz.underlying0
 a0:=Tryz.isAgg0
 z0:=Tryz.sizeOf0
 v0:=Tryz.zeroValue0
 t3:=Tryz.underlying3
 a3:=Tryz.isAgg3
 z3:=Tryz.sizeOf3
 v3:=Tryz.zeroValue3
 t4:=Tryz.underlying4
 a4:=Tryz.isAgg4
 z4:=Tryz.sizeOf4
 v4:=Tryz.zeroValue4
 t9:=Tryz.underlying9
 a9:=Tryz.isAgg9
 z9:=Tryz.sizeOf9
 v9:=Tryz.zeroValue9
 t21:=Tryz.underlying21
 a21:=Tryz.isAgg21
 z21:=Tryz.sizeOf21
 v21:=Tryz.zeroValue21
 t40:=Tryz.underlying294
 a40:=Tryz.isAgg294
 z40:=Tryz.sizeOf294
 v40:=Tryz.zeroValue294}
open Go.RowKit Go.Lib in
theorem Tryz.strings_indexFunc (g:Nat)(c:Array Value)(d:∀b w,(callFunc g b).run Tryz.prog w= .ok (.enter g b) w)(p:Nat->Bool)(a:Bool)(s:ByteArray)(w:World)(f:PredAt Tryz.prog g c encR p w):Calls Tryz.prog 244 #[.string s,.func (.func g) #[] c,.bool a] w λe w'=>e= .returned (.int .i64 (Lib.idxFunc p a s))/\Below w.heap.size w w':=Any.strings_indexFunc vQK g c d p a s w f
end
end Go.Proofs
namespace Go.Proofs.YtjabbbcdgmlojaaGreatDoor
open Go Go.RowKit
section
structure Mod (S:Nat->Prop) (w w':World):Prop where
 os:w'.os=w.os
 tape:w'.tape=w.tape
 output:w'.output=w.output
 size:w.heap.size<=w'.heap.size
 block:∀k,k<w.heap.size->¬S k->w'.heap[k]? =w.heap[k]?
theorem Mod.refl (S:Nat->Prop)(w:θ):Mod S w w:=⟨rfl,rfl,rfl,Qw _,λ_ _ _=>rfl⟩
theorem Mod.of_ext {w w':θ}(S:Nat->Prop)(h:Ext w w'):Mod S w w':=⟨h.os,h.tape,h.output,h.size,λk a _=>h.block k a (by simp)⟩
theorem vQB {w w':θ}{S:Nat->Prop}{g:Nat}(h:w.grownBy w' (some g))(a:S g):Mod S w w':=⟨h.os,h.tape,h.output,h.size,λk b c=>h.block k b λe=>by cases e;exact c a⟩
theorem Mod.trans {S d:Nat->Prop}{a b c:θ}(h:Mod S a b)(k:Mod d b c)(f:∀i,d i->S i∨a.heap.size<=i):Mod S a c:=
 ⟨k.os.trans h.os,k.tape.trans h.tape,k.output.trans h.output,XU h.size k.size,λi d e=>(k.block i (JZ d h.size) λg=>by obtain h|h:=f i g;exact e h;omega).trans (h.block i d e)⟩
theorem Mod.mono {S S':Nat->Prop}{a b:θ}(h:Mod S a b)(c:∀i,S i->S' i∨a.heap.size<=i):Mod S' a b:=
 ⟨h.os,h.tape,h.output,h.size,λi d e=>h.block i d λf=>by obtain h|h:=c i f;exact e h;omega⟩
theorem Mod.ext {S:Nat->Prop}{a w w':θ}(h:Mod S w w')(k:Ext a w)(b:∀i,S i->a.heap.size<=i):Ext a w':=
 ⟨h.os.trans k.os,h.tape.trans k.tape,h.output.trans k.output,XU k.size h.size,λi a _=>(h.block i (JZ a k.size) λc=>by have:=b i c;omega).trans (k.block i a (by simp))⟩
theorem Blk.mod {S:Nat->Prop}{w a:θ}{g t:Nat}{cs:χ τ}(h:Blk w g t cs)(k:Mod S w a)(b:¬S g):Blk a g t cs:=(k.block g h.lt b).trans h
theorem Mod.grown {S:Nat->Prop}{w a:θ}(h:Mod S w a){row:Option Nat}(b:∀i,S i->row=some i):w.grownBy a row:=⟨h.os,h.tape,h.output,h.size,λk a c=>h.block k a λd=>c (b k d).symm⟩
def Qj (A:Θ):Nat->Prop:=λk=>∃a,A=some a/\a.block=k
theorem kQq {A:Θ}{n c k:Nat}(h:(Value.slice A n c).ownBlock=some k):Qj A k:=by cases A with|none=>simp[Value.ownBlock] at h|some a=>exact⟨a,rfl,by simpa [Value.ownBlock] using h⟩
theorem vQG {w w':θ}{A:Θ}{n c:Nat}(h:w.grownBy w' (Value.slice A n c).ownBlock):Mod (Qj A) w w':=
 ⟨h.os,h.tape,h.output,h.size,λk a b=>h.block k a λe=>b (kQq e.symm)⟩
theorem Own.rows {w:θ}{a e b n c:Nat}{A:Θ}{d:χ τ}(h:Own w a e b A n c d):∀k,Qj A k->a<=k/\k<w.heap.size:=by rintro k ⟨a,rfl,rfl⟩;have h:=h.row;obtain⟨a,_⟩|⟨g,b,i,a,d,f,_⟩:=h.2;cases a;cases a;exact⟨d,(mQ.1 f).1⟩
theorem Own.mod {S:Nat->Prop}{w b:θ}{a e d n c:Nat}{A:Θ}{cs:χ τ}(h:Own w a e d A n c cs)(k:Mod S w b)(j:∀i,Qj A i->¬S i):Own b a e d A n c cs:=by have d:=h.row;refine⟨⟨d.1,?_⟩⟩;obtain⟨a,l⟩|⟨g,b,m,a,o,f,p⟩:=d.2;exact .inl ⟨a,l⟩;refine .inr ⟨g,b,m,a,o,(k.block g (mQ.1 f).1 (j g ?_)).trans f,p⟩;cases a;exact⟨_,rfl,rfl⟩
theorem Own.up {w:θ}{b a e d n c:Nat}{A:Θ}{cs:χ τ}(h:Own w b e d A n c cs)(i:a<=b):Own w a e d A n c cs:=by have f:=h.row;refine⟨⟨f.1,?_⟩⟩;obtain a|⟨g,b,j,a,d,k⟩:=f.2;exact .inl a;exact .inr ⟨g,b,j,a,XU i d,k⟩
def Moved (w:θ)(A b:Θ):Prop:=∀a,b=some a->A=some a∨w.heap.size<=a.block
theorem Moved.refl (w:θ)(A:Θ):Moved w A A:=λ_ h=>.inl h
theorem Moved.rows {w:θ}{A a:Θ}(h:Moved w A a):∀k,Qj a k->Qj A k∨w.heap.size<=k:=by rintro k ⟨a,rfl,rfl⟩;obtain h|h:=h a rfl;exact .inl ⟨a,h,rfl⟩;exact .inr h
theorem Moved.trans {w a:θ}{A B C:Θ}(h:Moved w A B)(k:Moved a B C)(b:w.heap.size<=a.heap.size):Moved w A C:=λa e=>by obtain b|b:=k a e;exact h a b;exact .inr ω
theorem Moved.back {w a:θ}{A B:Θ}(h:Moved a A B)(b:w.heap.size<=a.heap.size):Moved w A B:=(Moved.refl w A).trans h b
theorem Na {c:Cx}(v:c.g.Ok){o:Oper}{S:Env}{w:θ}{K:Env->θ->Prop}{Q:ZD}{t j e b:Nat}{x y:Operand}{A B:Θ}{n l:Nat}{m p:Nat}{q i:χ τ}{a:Nat}{r g s:TyRow}(z:o.op= .call ⟨.builtin .append, #[x,y], #[t,j]⟩) (C:Q8 c.g.tys t=some r) (D:r.d= .slice e) (E:Q8 c.g.tys e=some g) (F:g.sz=b) (G:0<b) (H:g.z.cells.size=b) (I:Q8 c.g.tys j=some s) (J:∃L,s.d= .slice L)(M:S.ev x=some (.slice A n l)) (N:S.ev y=some (.slice B m p)) (O:Own w a e b A n l q) (P:Sl w b B m p i) (R:∀u∈i,Kb u=true)(T:n+m<=maxLen) (U:(n+m)*g.by_<=140737488355328) (V:a<=w.heap.size)(k:∀d h f,Mod (Qj A) w f->Own f a e b d (n+m) h (q++i)->Moved w A d->XD c S o.dst (.v (.slice d (n+m) h)) λS=>K S f):Zv c o S w K Q:=
 iQe v z C D E F G H I J M N O P R T U V λd h f a b g=>k d h f (vQG a) b g
theorem aQP {c:Cx}(m:c.g.Ok){o:Oper}{S:Env}{w:θ}{K:Env->θ->Prop}{Q:ZD}{t h e:Nat}{x y:Operand}{A:Θ}{n i:Nat}{s:ByteArray}{j:χ τ}{a:Nat}{r f l:TyRow}(p:o.op= .call ⟨.builtin .append, #[x,y], #[t,h]⟩) (q:Q8 c.g.tys t=some r) (u:r.d= .slice e) (v:Q8 c.g.tys e=some f) (z:f.sz=1) (B:f.z= .int .u8 0) (C:f.by_=1) (D:Q8 c.g.tys h=some l) (E:l.d= .string)(F:S.ev x=some (.slice A n i)) (G:S.ev y=some (.string s)) (H:Own w a e 1 A n i j)(I:n+s.size<=140737488355328) (J:a<=w.heap.size)(k:∀b g d,Mod (Qj A) w d->Own d a e 1 b (n+s.size) g (j++Lib.strCells s)->Moved w A b->XD c S o.dst (.v (.slice b (n+s.size) g)) λS=>K S d):Zv c o S w K Q:=
 iQg m p q u v z B C D E F G H I J λb g d a f h=>k b g d (vQG a) f h
theorem VW {w:θ}{g t:Nat}{b:χ τ}{v:τ}{K:θ->Prop}(h:Blk w g t b)(c:0<b.length)(k:∀a,Mod (·=g) w a->Blk a g t (b.set 0 v)->K a):eY w ⟨g,0,none⟩ v K:=
 iQc h c λa b d=>k a (vQB b rfl) d
theorem Xv {w:θ}{g t:Nat}{b:χ τ}{j:Nat}{v:τ}{K:θ->Prop}(h:Blk w g t b)(c:j<b.length)(k:∀a,Mod (·=g) w a->Blk a g t (b.set j v)->K a):eY w ((⟨g,0,none⟩:Addr).add j) v K:=
 uM h c λa b d=>k a (vQB b rfl) d
theorem sc {vs:χ τ}(h:vs.all Kb=true):∀u∈vs,Kb u=true:=by simpa using h
theorem X1 {w a w6:θ}{t:Nat}{b:χ τ}(c:Ext w a)(_:Blk a w.heap.size t b)(d:a.grownBy w6 (some w.heap.size)):Ext w w6:=
 (Ext.refl w).own (hQU (c.grown (some w.heap.size)) d) (Qw _)
def oz:Nat->Nat->χ (Bool×Nat)->χ (Bool×Nat)|0,_,l=>l|n+1,i,l=>(true,i)::oz n (i+1) l
theorem QF (i:Nat){K:Int->Prop}(k:K ((i+1:Nat):Int))(h:i+1<=9223372036854775807:=by omega):d6 (IntKind.i64.wrap ((i:Int)+1)) K:=Ky _ rfl ⟨ω,ω⟩ k
theorem QL {n i:Nat}(h:i<n:=by omega):n-(i+1)<n-i:=by omega
theorem Qm {w:θ}{g t:Nat}{a:χ τ}{n:Nat}{K:χ τ->Prop}(h:Blk w g t a)(k:K a)(b:a.length=n:=by rfl):mX w ⟨g,0,none⟩ n K:=M6 h b k
theorem Qo {P:Program}{w:θ}{g t:Nat}{c a:χ τ}{K:θ->Prop}(h:Blk w g t c)(k:∀b,w.grownBy b (some g)->b.heap.size=w.heap.size->Blk b g t a->K b)(d:a.length=c.length:=by rfl)(b:a.all Kb=true:=by rfl):o6 P w ⟨g,0,none⟩ a K:=uR h d (sc b) k
theorem Qz {n:Int}{K:Int->Prop}(m:Int)(k:K m)(hm:n=m:=by omega)(h: -9223372036854775808<=m/\m<=9223372036854775807:=by omega):d6 (IntKind.i64.wrap n) K:=Ky m hm h k
theorem Xw {c:Cx}{S:Env}{id:Nat}{a:χ Oper}{w:θ}{Q:ZD}(C:θ->Prop)(n:Nat)(b:χ (Bool×Nat))(d:C w.drew)
  (h:nj {c with named:=1000000} a C b S w.drew λS w=>WA c a (a.drop n) S w (λS w=>Q .normal S w) λ_ _ _=>False) (hg:c.g.Ok:=by exact Qe)
  (hB:(Region.noSelect a.toArray&&Nat.beq b.length n&&rM .any a.toArray n&&fR .any a.toArray n b (Array.replicate a.toArray.size false))=true:=by kernel_rfl):bf c id a S w Q:=iQb hg C n b hB d h
theorem WC {c:Cx}{o:Oper}{S:Env}{w:θ}{K:Env->θ->Prop}{Q:ZD}{t e:Nat}{r re:TyRow}{ps:Array (Nat×Operand)}{vs:χ (Nat×τ)}(x y:χ τ)(k:∀a,Ext w a->a.heap.size=w.heap.size+1->Blk a w.heap.size e [x,y].flatten->XD c S o.dst (.v (.slice (some ⟨w.heap.size,0,none⟩) 2 2)) λS=>K S a)(b:c.g.Ok:=by exact Qe) (a:o.op= .buildSlice t 2 ps:=by rfl) (d:Q8 c.g.tys t=some r:=by rfl) (f:r.d= .slice e:=by rfl) (g:Q8 c.g.tys e=some re:=by rfl) (i:mZ S ps.toList=some vs:=by rfl) (j:uS 0 [x,y] vs:=by exact⟨rfl,rfl,rfl,rfl,⟨⟩⟩) (l:x.length=re.sz:=by rfl) (m:y.length=re.sz:=by rfl) (n:(Ki re.z).length=re.sz:=by rfl) (p:0<re.sz:=by decide) (q:2*re.sz<=16777216:=by decide):Zv c o S w K Q:=
 ny b [x,y] a d f g i j rfl (λs h=>by simp only[XI,d5,eX] at h;obtain rfl|rfl:=h;exact l;exact m) n p q k
theorem XM {c:Cx}{o:Oper}{S:Env}{w:θ}{K:Env->θ->Prop}{Q:ZD}{t e:Nat}{r re:TyRow}{ps:Array (Nat×Operand)}{vs:χ (Nat×τ)}(x:χ τ)(k:∀a,Ext w a->a.heap.size=w.heap.size+1->Blk a w.heap.size e [x].flatten->XD c S o.dst (.v (.slice (some ⟨w.heap.size,0,none⟩) 1 1)) λS=>K S a)(b:c.g.Ok:=by exact Qe) (a:o.op= .buildSlice t 1 ps:=by rfl) (d:Q8 c.g.tys t=some r:=by rfl) (f:r.d= .slice e:=by rfl) (g:Q8 c.g.tys e=some re:=by rfl) (i:mZ S ps.toList=some vs:=by rfl) (j:uS 0 [x] vs:=by exact⟨rfl,rfl,⟨⟩⟩) (l:x.length=re.sz:=by rfl) (m:(Ki re.z).length=re.sz:=by rfl) (n:0<re.sz:=by decide) (p:1*re.sz<=16777216:=by decide):Zv c o S w K Q:=
 ny b [x] a d f g i j rfl (λq h=>by rw[Xx.1 h];exact l) m n p k
theorem d8 {c:Cx}{o:Oper}{S:Env}{w:θ}{K:Env->θ->Prop}{Q:ZD}{t e:Nat}{r re:TyRow}{ps:Array (Nat×Operand)}{vs:χ (Nat×τ)}(k:∀a,Ext w a->a.heap.size=w.heap.size+1->Blk a w.heap.size e []->XD c S o.dst (.v (.slice (some ⟨w.heap.size,0,none⟩) 0 0)) λS=>K S a)(b:c.g.Ok:=by exact Qe) (a:o.op= .buildSlice t 0 ps:=by rfl) (d:Q8 c.g.tys t=some r:=by rfl) (f:r.d= .slice e:=by rfl) (g:Q8 c.g.tys e=some re:=by rfl) (i:mZ S ps.toList=some vs:=by rfl) (j:uS 0 [] vs:=by exact⟨⟩) (l:(Ki re.z).length=re.sz:=by rfl) (m:0<re.sz:=by decide) (n:0*re.sz<=16777216:=by decide):Zv c o S w K Q:=
 ny b [] a d f g i j rfl (λp h=>by cases h) l m n k
theorem XV {c:Cx}{o:Oper}{S:Env}{w:θ}{K:Env->θ->Prop}{Q:ZD}{t g e sz:Nat}{x y:Operand}{A B:Θ}{n h:Nat}{m i:Nat}{j a:χ τ}{base:Nat}{r re r2:TyRow}(p:Own w base e sz A n h j) (q:Sl w sz B m i a) (s:∀u∈a,Kb u=true) (v:n+m<=maxLen) (z:base<=w.heap.size)(k:∀d l f,Mod (Qj A) w f->Own f base e sz d (n+m) l (j++a)->Moved w A d->XD c S o.dst (.v (.slice d (n+m) l)) λS=>K S f)(a:c.g.Ok:=by exact Qe) (d:o.op= .call ⟨.builtin .append, #[x,y], #[t,g]⟩:=by rfl) (f:Q8 c.g.tys t=some r:=by rfl) (j:r.d= .slice e:=by rfl) (l:Q8 c.g.tys e=some re:=by rfl) (C:re.sz=sz:=by rfl) (D:0<sz:=by decide) (E:re.z.cells.size=sz:=by rfl) (F:Q8 c.g.tys g=some r2:=by rfl) (g:∃e2,r2.d= .slice e2:=by exact⟨_,rfl⟩)(G:S.ev x=some (.slice A n h):=by rfl) (h:S.ev y=some (.slice B m i):=by rfl) (b:(n+m)*re.by_<=140737488355328:=by omega):Zv c o S w K Q:=
 Na a d f j l C D E F g G h p q s v b z k
theorem QK (c:Cx)(d:Γ){f:FuncId}{b:Func}{x:Code}{a:χ τ}{w:θ}{R:τ->θ->Prop}(e:c.g.P.funcs[f]? =some b)
  (h:pj [0,1,2,3,4,5,6,7,8,9,10,11,12,13,14,15] a [] λS=>YG {c with cuts:=d} x S w (FM {c with cuts:=d} b.results.toList R))
  (hg:c.g.Ok:=by exact Qe) (hb:b.body=some x:=by rfl) (hN:⟨b.ntmps,[]⟩=c.N:=by rfl) (hl:Nat.ble a.length c.N.n=true:=by rfl):Fn c.g.P f a w R:=
 KS (c:={c with cuts:=d}) hg e hb hN hl h
theorem aQQ (s:ByteArray):Lib.strCells s=YH (Yn s):=by simp only[Lib.strCells,YH,Yn,xP];rfl
structure Bld (w:World) (base g t:Nat) (rest:List Value) (A:Θ) (c:Nat) (out:Γ):Prop where
 g1:g<base
 top:base<=w.heap.size
 blk:∃pa,(pa= .pointer none∨pa= .pointer (some ⟨g,0,none⟩))/\Blk w g t (pa:: .slice A out.length c::rest)
 own:Own w base 5 1 A out.length c (YH out)
theorem Bld.grow {w d:θ}{a g t:Nat}{b:χ τ}{A:Θ}{c:Nat}{out:Γ}(h:Bld w a g t b A c out)(k:Ext w d):Bld d a g t b A c out:=
 ⟨h.g1,XU h.top k.size,let ⟨a,b,d⟩:=h.blk;⟨a,b,d.ext k⟩,h.own.ext k⟩
def Bp (g:Nat)(A:Θ):Nat->Prop:=λk=>k=g∨Qj A k
def Bq (t m:Nat):Prop:=liesAt Tryz.prog Tryz.prog.depth t (m/Tryz.prog.cellsOf t) 0 109 1=true
theorem Blk.shape {w:θ}{g t:Nat}{a:χ τ}(h:Blk w g t a):w.shape? g=some (t,a.length):=by unfold World.shape?;rw[h];simp
theorem ff:gx.P=ψ:=rfl
theorem aQR:∃j,ψ.info? 109=some j/\j.size≠0:=by obtain⟨_,i,a,b,_⟩:=Qe.row (t:=109) rfl;exact⟨i,a,by rw[b];decide⟩
theorem kQr (g t:Nat)(d f:τ)(b:χ τ)(w:θ)(m:Bq t (b.length+2))(n:d= .pointer none∨d= .pointer (some ⟨g,0,none⟩))(h:Blk w g t (d::f::b)):Fn ψ 106 [.pointer (some ⟨g,0,none⟩)] w (λ_ w'=>Mod (·=g) w w'/\Blk w' g t (.pointer (some ⟨g,0,none⟩)::f::b)):=by obtain⟨j,k,o⟩:=aQR;refine KS (c:=aQJ) Qe Tryz.func106 rfl rfl rfl ?_;have l:=h.shape;have f:=Tryz.underlying107;have i:=Tryz.underlying240;obtain rfl|rfl:=n;refine Qp h rfl ?_;refine Q3 rfl ?_;refine Kr (w':=w) (v:=.pointer (some ⟨g,0,none⟩)) (λa b=>?_) ?_;have d:=b.ev (show Env.ev _ (.tmp 8)=some (.pointer (some ⟨g,0,none⟩)) from rfl);have:=Lib.run_to_unsafe (P:=ψ) (src:=107) (dst:=240) w ⟨g,0,none⟩ f i k o l (by simp);simp only[execOp,d];simp[ff,this];refine Kr (w':=w) (v:=.pointer (some ⟨g,0,none⟩)) (λa b=>?_) ?_;have d:=b.ev (show Env.ev _ (.tmp 9)=some (.pointer (some ⟨g,0,none⟩)) from rfl);have:=run_callFunc_extern (P:=ψ) (e:=Extern.AbiNoEscape.same) Tryz.func159 κ κ κ κ #[.pointer (some ⟨g,0,none⟩)] w;rw[Lib.run_noEscape] at this;simp only[execOp,resolve,invoke];simp[Deferred.ofValue,Act.eval] at d ⊢;simp[d,ff,this];refine Kr (w':=w) (v:=.pointer (some ⟨g,0,none⟩)) (λa b=>?_) ?_;have d:=b.ev (show Env.ev _ (.tmp 10)=some (.pointer (some ⟨g,0,none⟩)) from rfl);have:=Lib.run_from_unsafe (P:=ψ) (src:=240) (dst:=107) (u:=109) w ⟨g,0,none⟩ i f k l (by simpa [Bq] using m);simp only[execOp,d];simp[ff,this];refine Xv h (by simp) λm i l=>?_;exact⟨i,l⟩;refine Qp h rfl ?_;refine QX rfl ?_;refine Qp h rfl ?_;refine Kr (w':=w) (v:=.bool false) (λa b=>?_) ?_;have d:=b.ev (show Env.ev _ (.tmp 17)=some (.pointer (some ⟨g,0,none⟩)) from rfl);have i:=b.ev (show Env.ev _ (.tmp 18)=some (.pointer (some ⟨g,0,none⟩)) from rfl);have:=Lib.run_neq_ptr_same (P:=ψ) (tp:=107) w ⟨g,0,none⟩ f k;simp only[execOp,d,i,eqGuard];simp[ff,this];refine QX rfl ?_;exact⟨Mod.refl _ _,h⟩
theorem kQs (d g t:Nat)(a:χ τ)(A:Θ)(c:Nat)(b:Γ)(s:ByteArray)(w:θ)(n:Bq t (a.length+2))(f:Bld w d g t a A c b)(q:b.length+s.size<=140737488355328):Fn ψ 56 [.pointer (some ⟨g,0,none⟩),.string s] w (λ_ m=>∃j l,Bld m d g t a j l (b++Yn s)/\Mod (Bp g A) w m/\Moved w A j):=by
 refine KS (c:=c56) Qe Tryz.func56 rfl rfl rfl ?_;obtain⟨d,m,o⟩:=f.blk;refine call (kQr g t d _ a w n m o) ?_;rintro v d ⟨a,o⟩;have d:=f.own.rows;have r:=f.g1;have p:¬Qj A g:=λh=>by have:=(d g h).1;omega
 have m:=f.own.mod a λk d e=>p (e▸d);refine Qp o rfl (aQP Qe rfl rfl rfl rfl rfl rfl rfl rfl rfl rfl rfl m q (by have:=a.size;have:=f.top;omega) ?_);intro j l n m q u;refine Xv (o.mod m p) (by simp) λy n x=>?_;have o:(b++Yn s).length=b.length+s.size:=by rw[Qy,uP]
 have b:=q.rows;refine⟨j,l,⟨r,by have:=a.size;have:=m.size;have:=n.size;have:=f.top;omega,⟨_,.inr rfl,by rw[o];exact x⟩,?_⟩,?_,u.back a.size⟩;rw[o,aQB,<-aQQ];exact q.mod n (λk d e=>by have:=(b k d).1;omega);exact((a.mono (S':=Bp g A) λi a=>.inl (.inl a)).trans m λi a=>.inl (.inr a)).trans n λi a=>.inl (.inl a)
theorem aQS (w:θ)(g n:Nat){S:Nat->Prop}(h:S g):Mod S w (w.freeze ⟨g,0,none⟩ n):=by unfold World.freeze;split;exact Mod.refl _ _;refine⟨rfl,rfl,rfl,by simp,λk b a=>?_⟩;simp only[Array.getElem?_modify];rw[φ λ(e:g=k)=>a (e▸h)]
theorem kQt (d g t:Nat)(f:χ τ)(A:Θ)(c:Nat)(b:Γ)(w:θ)(k:Bld w d g t f A c b)(q:∀x∈b,x<256)(h:b.length<=140737488355328):Fn ψ 57 [.pointer (some ⟨g,0,none⟩)] w (λv w'=>v= .string (Qb b)/\Mod (Qj A) w w'):=by
 obtain⟨d,h,f⟩:=k.blk;refine KS (c:=c57) Qe Tryz.func57 rfl rfl rfl ?_;have r:(YH b).length=b.length:=yh b;refine Xw (Ext w) 10 (oz 4 0 (oz 5 5 [(false,4)])) (Ext.drew w) (Qx (v:=.slice A b.length c) (λw' d=>by rw[(f.ext d).cell];rfl) (Qx (v:=.slice A b.length c) (λw' d=>by rw[(f.ext d).cell];rfl) ?_));have s:b.length=0->Value.string ByteArray.empty=Value.string (Qb b):=λi=>by have:b=[]:=VT i;subst this;rfl
 by_cases i:b.length=0;have h:∃p w1,(Builtin.unsafeSliceData_ #[62] 179 #[.slice A b.length c]).run ψ w.drew= .ok (.pointer p) w1/\Ext w w1:=by
  obtain⟨f,_⟩|⟨d,l,o,f,m,u,_⟩:=k.own.row.2;simp only[Value.slice.injEq] at f;obtain⟨rfl,_,rfl⟩:=f;exact⟨none,w.drew,Lib.run_unsafeSliceData_nil _ _ _ _ _,Ext.drew w⟩;simp only[Value.slice.injEq] at f;obtain⟨rfl,_,rfl⟩:=f;by_cases f:c=0;subst f;have n:w.drew.shape? d=some (5,o.size):=by unfold World.shape?;rw[show w.drew.heap[d]? =_ from u]
  exact⟨_,_,Lib.run_unsafeSliceData_zero (P:=ψ) w.drew _ _ 5 Tryz.underlying179 ⟨d,0,none⟩ _ _ n,(Ext.drew w).trans (Ext.alloc _ _)⟩;exact⟨_,w.drew,Lib.run_unsafeSliceData_row (P:=ψ) w.drew _ _ ⟨d,0,none⟩ _ _ f,Ext.drew w⟩
 obtain⟨p,w1,l,o⟩:=h;refine Kr (w':=w1) (v:=.pointer p) (λa f=>?_) ⟨o,?_⟩;have h:=f.ev (show Env.ev _ (.tmp 6)=some (.slice A b.length c) from rfl);simp only[execOp,resolve,invoke,builtin];simp[ff,h,l];refine Kr (w':=w1) (v:=.string ByteArray.empty) (λa f=>?_) ?_;have h:=f.ev (show Env.ev _ (.tmp 7)=some (.pointer p) from rfl);have l:=f.ev (show Env.ev _ (.tmp 12)=some (.int .i64 b.length) from rfl);have:=Lib.run_unsafeString_none (P:=ψ) w1 179 3 9 p;rw[i] at l;simp only[execOp,resolve,invoke,builtin];simp[ff,h,l];rw[this]<;>rfl
 exact⟨s i,Mod.of_ext _ o⟩;obtain⟨d,s,rfl,m,o,u⟩:=k.own.blk ω;have m:=k.own.sl.le;refine Kr (w':=w.drew) (v:=.pointer (some ⟨d,0,none⟩)) (λa f=>?_) ⟨Ext.drew w,?_⟩;have h:=f.ev (show Env.ev _ (.tmp 6)=some (.slice (some ⟨d,0,none⟩) b.length c) from rfl);have:=Lib.run_unsafeSliceData_row (P:=ψ) w.drew #[62] 179 ⟨d,0,none⟩ b.length c ω;simp only[execOp,resolve,invoke,builtin];simp[ff,h,this];refine Kr (w':=w.drew.freeze ⟨d,0,none⟩ b.length) (v:=.string (Qb b)) (λa f=>?_) ?_;have h:=f.ev (show Env.ev _ (.tmp 7)=some (.pointer (some ⟨d,0,none⟩)) from rfl);have l:=f.ev (show Env.ev _ (.tmp 12)=some (.int .i64 b.length) from rfl);have n:w.drew.shape? d=some (5,(YH b++s).length):=(o.ext (Ext.drew w)).shape;have f:(b.map UInt8.ofNat).length=b.length:=by simp
 have:=Lib.run_unsafeString_row (P:=ψ) w.drew 179 3 9 5 Tryz.underlying179 κ d _ n (b.map UInt8.ofNat) (by intro e;apply i;rw[<-f,e];rfl) (by simp[yh]) (by rw[f];omega) (λj x k=>by
  rw[(o.ext (Ext.drew w)).cell];simp only[Wy,Mu] at k;obtain⟨y,i,rfl⟩:=k;have k:j<b.length:=(ZK.1 i).1;rw[eW (by rw[r];exact k),uO i];have:=q y (Xd i);simp[mR this])
 rw[f] at this;simp only[execOp,resolve,invoke,builtin];simp[ff,h,l];rw[this]<;>rfl
 exact⟨rfl,(Mod.of_ext (Qj _) (Ext.drew w)).trans (aQS w.drew d b.length (S:=Qj (some ⟨d,0,none⟩)) ⟨_,rfl,rfl⟩) λ_=>.inl⟩
section
structure Fz where
 o:Int
 v:Int
 a:Int
 b:Int
deriving DecidableEq
def Fz.cells (x:Fz):χ τ:=[.int .i64 x.o,.int .i64 x.v,.int .i64 x.a,.int .i64 x.b]
theorem kW (x:Fz):x.cells.length=4:=rfl
def isDig (b:Nat):Bool:=decide (48<=b)&&decide (b<=57)
def Yb (b:Nat):Bool:=b==95||(decide (97<=b)&&decide (b<=122))||(decide (65<=b)&&decide (b<=90))
def Zr (b:Nat):Bool:=Yb b||isDig b
def YY:Γ->Nat|[]=>0|b::l=>if isDig b then 0 else((b::l).takeWhile Zr).length
def Js (l:Γ):Γ:=l.dropWhile λb=>b==32||b==9
structure Ps where
 r:Γ
 f:List Fz
 u:Bool
def Vc (a:Γ)(p:Ps):Bool×Ps:=if a.isPrefixOf (Js p.r)then(true,{p with r:=(Js p.r).drop a.length})else(false,{p with r:=Js p.r})
def WD (x:Fz)(p:Ps):Nat×Ps:=(p.f.length,{p with f:=p.f++ [x]})
def jT (c:Γ)(h:Int)(d:Ps->Option (Nat×Ps)):Nat->Nat->Ps->Option (Nat×Ps)
 |0,_,_=>none
 |m+1,a,p=>match Vc c p with
  |(true,e)=>match d e with
   |none=>none
   |some (b,g)=>jT c h d m g.f.length {g with f:=g.f++ [⟨h,0,a,b⟩]}
  |(false,e)=>some (a,e)
def YZ (c:Γ)(e:Int)(b:Ps->Option (Nat×Ps))(p:Ps):Option (Nat×Ps):=match b p with|none=>none|some (a,d)=>jT c e b (d.r.length+1) a d
def fT (e:Γ->Option Nat):Nat->Ps->Option (Nat×Ps)
 |0,_=>none
 |n+1,p=>match Vc [33] p with
  |(true,b)=>match fT e n b with
   |none=>none
   |some (a,c)=>some (WD ⟨3,0,a,0⟩ c)
  |(false,b)=>match Vc [40] b with
   |(true,c)=>match YZ [124,124] 5 (YZ [38,38] 4 (fT e n)) c with
    |none=>none
    |some (a,d)=>match Vc [41] d with
     |(true,b)=>some (a,b)
     |(false,_)=>none
   |(false,c)=>if YY c.r=0 then none else
     let b:=c.r.take (YY c.r)
     let d:Ps:={c with r:=c.r.drop (YY c.r)}
     if b=[116,114,117,101] then some (WD ⟨1,0,0,0⟩ d)else if b=[102,97,108,115,101] then some (WD ⟨0,0,0,0⟩ d)else
      some (WD ⟨2,((e b).getD 0:Nat),0,0⟩ {d with u:=d.u||(e b).isNone})
def kX (a:Γ->Option Nat)(n:Nat)(p:Ps):Option (Nat×Ps):=YZ [124,124] 5 (YZ [38,38] 4 (fT a n)) p
end
section
theorem Kj (l:Γ)(a b:Nat):(Qb l).extract a b=Qb ((l.take b).drop a):=by apply ByteArray.ext;apply Array.ext';simp[Qb,dm]
theorem rN {l m:Γ}(a:∀x∈l,x<256)(b:∀x∈m,x<256):decide (Qb l=Qb m)=decide (l=m):=by by_cases h:l=m;subst h;simp;rw[XZ h,XZ λe=>h (Jl a b e)]
theorem B8.drop {l:Γ}(h:∀x∈l,x<256)(k:Nat):∀x∈l.drop k,x<256:=λx a=>h x (a8 a)
theorem B8.take {l:Γ}(h:∀x∈l,x<256)(k:Nat):∀x∈l.take k,x<256:=λx a=>h x (aw a)
theorem Bs (p l:Γ):p.isPrefixOf l=decide (p.length<=l.length/\l.take p.length=p):=by rw[mN,xS,YX];constructor;rintro⟨t,rfl⟩;exact⟨by simp,by simp⟩;rintro⟨b,a⟩;refine⟨l.drop p.length,?_⟩;have:=jK p.length l;rw[a] at this;exact this
theorem aQT (l p:Γ)(w:θ)(b:∀x∈l,x<256)(d:∀x∈p,x<256):Fn ψ 154 [.string (Qb l),.string (Qb p)] w (λv a=>v= .bool (p.isPrefixOf l)/\w=a):=by refine KS (c:=iQ9) Qe Tryz.func154 rfl rfl rfl ?_;refine Ql (λa=>?_) λa=>?_;rw[QZ,QZ] at a;refine need ⟨ω,ω,by rw[QZ,QZ];omega⟩ ?_;refine⟨?_,rfl⟩;rw[Bs];congr 1;refine o0.2 ?_;simp only[WX,Int.toNat_zero];rw[Kj,AJ,QZ];exact⟨λh=>⟨ω,Jl (B8.take b _) d h⟩,λh=>by rw[h.2]⟩;rw[QZ,QZ] at a;exact⟨by rw[Bs,XZ λh=>a ω],rfl⟩
def Bt (l p:Γ):τ:=if p.isPrefixOf l then .tuple #[.string (Qb (l.drop p.length)),.bool true] else .tuple #[.string (Qb l),.bool false]
theorem kQu (l p:Γ)(w:θ)(a:∀x∈l,x<256)(b:∀x∈p,x<256):Fn ψ 231 [.string (Qb l),.string (Qb p)] w (λv d=>v=Bt l p/\w=d):=by
 refine KS (c:=jQ9) Qe Tryz.func231 rfl rfl rfl ?_;refine call (aQT l p w a b) ?_;rintro v a ⟨rfl,rfl⟩;unfold Bt;cases a:p.isPrefixOf l with|false=>refine Q3 rfl ?_;exact⟨rfl,rfl⟩|true=>
  refine QX rfl ?_;have b:p.length<=l.length:=by rw[Bs] at a;exact(WY a).1
  refine need ⟨ω,by rw[QZ,QZ];omega,ω⟩ ?_;refine⟨?_,rfl⟩;simp only[WX,QZ];rw[Kj,ZJ (Qw _)]<;>rfl
theorem kQv (l p:Γ)(w:θ)(a:∀x∈l,x<256)(b:∀x∈p,x<256):Fn ψ 200 [.string (Qb l),.string (Qb p)] w (λv d=>v=Bt l p/\w=d):=by refine KS (c:=jQN) Qe Tryz.func200 rfl rfl rfl ?_;refine call (kQu l p w a b) ?_;rintro v a ⟨rfl,rfl⟩;unfold Bt;split;exact⟨rfl,rfl⟩;exact⟨rfl,rfl⟩
def iZ (k:Nat):χ τ:=(List.range 256).map λj=>.bool (decide (0<k/\j=32)||decide (1<k/\j=9))
theorem uT (k:Nat):(iZ k).length=256:=by simp[iZ]
theorem Nb {k j:Nat}(h:j<256):(iZ k)[j]? =some (.bool (decide (0<k/\j=32)||decide (1<k/\j=9))):=by unfold iZ;rw[Wy,List.getElem?_range h]<;>rfl
theorem aQU (k:Nat):∀u∈iZ k,Kb u=true:=λu a=>by unfold iZ at a;simp only[Z5] at a;obtain⟨j,_,rfl⟩:=a;rfl
theorem kQw {k x:Nat}(d:k<2)(a: [32,9][k]? =some x):(iZ k).set x (.bool true)=iZ (k+1):=by
 apply Fh;intro j;by_cases b:j<256;rw[List.getElem?_set,Nb b,Nb b,uT];have c:k=0∨k=1:=by omega
 obtain rfl|rfl:=c;simp at a;subst a;split;rename_i e;subst e;simp;rename_i e;have:¬j=32:=λh=>e h.symm;simp[this]
 simp at a;subst a;split;rename_i e;subst e;simp;rename_i e;have:¬j=9:=λh=>e h.symm;simp[this]
 rw[uu (by rw[jL,uT];omega),uu (by rw[uT];omega)]
set_option maxRecDepth 20000 in
theorem kQx (w:θ):Fn ψ 228 [.string (Qb [32,9])] w (λv a=>v= .tuple #[.agg (iZ 2).toArray,.bool true]/\Ext w a):=by
 refine KS (c:=jQ7) Qe Tryz.func228 rfl rfl rfl ?_;refine new λd e f b=>?_;have f:Blk d w.heap.size 302 (iZ 0):=b;clear b;refine loop Qe [4] (λk:Nat=>[.int .i64 k]) (λk a=>k<=2/\Ext w a/\Blk a w.heap.size 302 (iZ k)) (λk _=>2-k) 0 rfl ⟨ω,e,f⟩ ?_;rintro k a ⟨b,f,d⟩;refine Ql (λa=>?_) λa=>?_;have a:k<2:=by have:((Qb [32,9]).size:Int)=2:=rfl;omega
 refine Wd (s:=Qb [32,9]) (by show k<2;exact a) λx b e=>?_;have e: [32,9][k]? =some x:=by rw[We δ] at b;exact b
 have b:x<128:=by
  have:k=0∨k=1:=by omega
  obtain rfl|rfl:=this;simp at e;omega;simp at e;omega
 refine XB ω (nu (j:=x) rfl ω (Xv d (by rw[uT];omega) λg h b=>?_));rw[kQw a e] at b;refine Qz ((k+1:Nat):Int) ?_;exact⟨k+1,rfl,⟨ω,h.ext f λi e=>ω,b⟩,QL⟩;have a:k=2:=by have:((Qb [32,9]).size:Int)=2:=rfl;omega
 subst a;refine M6 d (uT 2) (uR d rfl (aQU 2) λg a _ b=>?_);refine M6 b (uT 2) ?_;exact⟨rfl,f.own a (Qw _)⟩
theorem kQy (g x:Nat)(w:θ)(a:Blk w g 302 (iZ 2))(b:x<256):Fn ψ 245 [.pointer (some ⟨g,0,none⟩),.int .u8 x] w (λv d=>v= .bool (x==32||x==9)/\w=d):=by refine KS (c:=kQh) Qe Tryz.func245 rfl rfl rfl ?_;refine nu (j:=x) rfl ω ?_;refine Qp a (Nb b) ?_;refine⟨?_,rfl⟩;have e:∀y:Nat,(x==y)=decide (x=y):=λy=>rfl;simp[e]
theorem kQz (g:Nat)(l:Γ)(w:θ)(i:Blk w g 302 (iZ 2))(b:∀x∈l,x<256)(_:l.length<=9223372036854775807):Fn ψ 229 [.string (Qb l),.pointer (some ⟨g,0,none⟩)] w (λv a=>v= .string (Qb (Js l))/\Ext w a):=by
 refine KS (c:=jQ8) Qe Tryz.func229 rfl rfl rfl ?_;refine loop Qe [0] (λm:Γ=>[.string (Qb m)]) (λm a=>Ext w a/\Js m=Js l/\(∀x∈m,x<256)) (λm _=>m.length) l rfl ⟨Ext.refl _,rfl,b⟩ ?_;rintro m j ⟨a,d,f⟩;refine Ql (λb=>?_) λb=>?_;cases m with|nil=>simp[QZ] at b|cons x m=>
  refine Wd (s:=Qb (x::m)) (by rw[QZ];simp) λy h k=>?_;have n:y=x:=by rw[We f] at h;simpa using h.symm
  subst n;refine call (kQy g y j (i.ext a) k) ?_;rintro v h ⟨rfl,rfl⟩;cases h:(y==32||y==9)with|false=>refine Q3 rfl ?_;refine⟨?_,a⟩;rw[<-d];unfold Js;rw[uv,h]<;>rfl|true=>
   refine QX rfl (need ⟨ω,ω,ω⟩ ?_);refine⟨m,?_,⟨a,?_,λz i=>f z (by simp[i])⟩,by simp⟩;have e:(Qb (y::m)).extract (Int.toNat 1) (((Qb (y::m)).size:Int)).toNat=Qb m:=by rw[Kj,QZ,WX,ZJ (Qw _)]<;>rfl
   rw[e]<;>rfl
   rw[<-d];unfold Js;rw[uv,h]<;>rfl
 cases m with|nil=>exact⟨by rw[<-d];rfl,a⟩|cons x m=>rw[QZ] at b;simp at b
set_option maxRecDepth 20000 in
theorem kQA (l:Γ)(w:θ)(a:∀x∈l,x<256)(d:l.length<=9223372036854775807):Fn ψ 199 [.string (Qb l),.string (Qb [32,9])] w (λv b=>v= .string (Qb (Js l))/\Ext w b):=by refine KS (c:=jQM) Qe Tryz.func199 rfl rfl rfl ?_;refine Ql (λb=>?_) λb=>?_;have:l=[]:=Jl a (by simp) (b.trans rfl);subst this;exact⟨rfl,Ext.refl _⟩;refine XB δ ?_;refine X6 δ ?_;refine call (kQx w) ?_;rintro v e ⟨rfl,f⟩;refine new λh g i b=>?_;refine uR b (uT 2) (aQU 2) λh i _ j=>?_;have k:=X1 g b i;refine Q3 rfl ?_;refine call (kQz e.heap.size l h j a d) ?_;rintro v b ⟨rfl,a⟩;exact⟨rfl,f.trans (k.trans a)⟩
end
section
theorem kQB {P:Program}{f:FuncId}{l:χ τ}{w:θ}{v:τ}{R:θ->Prop}(h:Calls P f l.toArray w λe a=>e= .returned v/\R a):Fn P f l w (λu a=>u=v/\R a):=by unfold Fn;exact h.mono λe a b=>by obtain⟨rfl,h⟩:=b;exact⟨rfl,h⟩
theorem vQI {w w':θ}(h:Below w.heap.size w w'):Ext w w':=⟨h.os,h.tape,h.output,h.size,λk a _=>h.block k a⟩
theorem Nc (r:Nat):Zr r=true↔(r=95∨(97<=r/\r<=122)∨(65<=r/\r<=90)∨(48<=r/\r<=57)):=by unfold Zr Yb isDig;simp;omega
theorem kQC (r:Nat)(w:θ):Fn ψ 220 [.int .i32 r] w (λv a=>v= .bool (!Zr r)/\w=a):=by
 have a:Zr r=decide (r=95∨(97<=r/\r<=122)∨(65<=r/\r<=90)∨(48<=r/\r<=57)):=by rw[mN,Nc,YX]
 rw[a];refine KS (c:=jQ3) Qe Tryz.func220 rfl rfl rfl ?_;have a:r=95∨(97<=r/\r<=122)∨(65<=r/\r<=90)∨(48<=r/\r<=57)∨r<48∨(57<r/\r<65)∨(90<r/\r<95)∨r=96∨122<r:=by omega
 obtain h|h|h|h|h|h|h|h|h:=a <;>
  repeat (first|refine iX ω ?_|refine KT ω ?_|refine Zm ω ?_|refine XB ω ?_|refine Q3 rfl ?_|refine QX rfl ?_)
 all_goals refine⟨?_,rfl⟩
 all_goals congr 1
 all_goals first
  |(
    have a:(r=95∨(97<=r/\r<=122)∨(65<=r/\r<=90)∨(48<=r/\r<=57)):=by omega
    rw[Zg a];first|rfl|exact XZ ω|exact Zg ω)
  |(
    have a:¬(r=95∨(97<=r/\r<=122)∨(65<=r/\r<=90)∨(48<=r/\r<=57)):=by omega
    rw[XZ a];first|rfl|exact Zg ω|exact XZ ω)
theorem aQV {s:ByteArray}{a:Nat}(h:a<s.size):s.get! a=s[a]:=by simp[ByteArray.get!,ByteArray.getElem_eq_getElem_data,getElem!_pos s.data a h]
theorem kQD {s:ByteArray}{a:Nat}(h:a<s.size)(b:s[a].toNat<128):Utf8.decode s a=(s[a].toNat,1):=by unfold Utf8.decode;simp only[Ff,aQV h];rw[Qf b]
theorem kQE {s:ByteArray}{a:Nat}(h:a<s.size)(d:¬s[a].toNat<128):128<=(Utf8.decode s a).1:=by
 unfold Utf8.decode;simp only[Ff,aQV h];rw[φ d];have c:128<=Utf8.runeError:=by decide
 split;split;assumption;exact c;split;split;rename_i b;simp at b;exact XU δ b.1;exact c;split;split;rename_i b;simp at b;exact XU δ b.1;exact c;exact c
theorem aQW (s:ByteArray):∀(f a:Nat),s.size<=a+f->a<=s.size->Lib.idxFuncFrom (λr=> !Zr r) true s f a=if((Yn s).drop a).all Zr then -1 else((a+(((Yn s).drop a).takeWhile Zr).length:Nat):Int)
 |0,a,h,b=>by rw[fK (by rw[uP];omega)];rfl
 |f+1,a,h,b=>by
  unfold Lib.idxFuncFrom;by_cases b:a<s.size;rw[Qf b];have c:(Yn s).drop a=s[a].toNat::(Yn s).drop (a+1):=by rw[VU (by rw[uP];exact b)];congr 1;have:=aQC b;exact(ZK.1 this).2
  rw[c];by_cases g:s[a].toNat<128;have d:=kQD b g;rw[d]
  dsimp only
  cases c:Zr s[a].toNat with|true=>rw[φ (by simp),aQW s f (a+1) ω ω];simp only[xT,c,YF,cI,if_true,Xa];split;rfl;congr 1;omega|false=>rw[Qf (by simp)];simp[c]
  have c:Zr s[a].toNat=false:=by cases e:Zr s[a].toNat with|false=>rfl|true=>have:=(Nc _).1 e;omega
  have d:Zr (Utf8.decode s a).1=false:=by have i:=kQE b g;cases e:Zr (Utf8.decode s a).1 with|false=>rfl|true=>have:=(Nc _).1 e;omega
  rw[Qf (by rw[d];rfl)];simp[c];rw[φ b,fK (by rw[uP];omega)];rfl
theorem kQF (l:Γ)(w:θ)(d:∀x∈l,x<256):Fn ψ 219 [.string (Qb l),.func (.func 220) #[] #[]] w (λv b=>v= .int .i64 (if l.all Zr then -1 else((l.takeWhile Zr).length:Nat))/\Ext w b):=by
 refine KS (c:=jQ2) Qe Tryz.func219 rfl rfl rfl ?_;have f:Go.Proofs.PredAt ψ 220 #[] Go.Proofs.encR (λr=> !Zr r) w:=λW r _=>by have h:=kQC r W;unfold Fn at h;exact h.mono λe b a=>by cases e with|returned v=>obtain⟨rfl,rfl⟩:=a;exact⟨rfl,0,rfl⟩|panicked b=>exact a.elim|outgrown=>exact a.elim
 have a:=Tryz.strings_indexFunc 220 #[] (Go.Proofs.enters_of Tryz.func220 rfl rfl) (λr=> !Zr r) true (Qb l) w f;refine call (kQB a) ?_;rintro v b ⟨rfl,a⟩;refine⟨?_,vQI a⟩;unfold Lib.idxFunc;rw[aQW (Qb l) _ 0 ω (Q9 _),We d,AJ,YW]
end
end
section
structure KeyQ {α:Type} [DecidableEq α] (P:Program) (ke:Nat) (kv:α->Value):Prop where
 find:∀(a:α) (m:List (α×Value)) (bs:Γ) (w:World),bs.length=m.length->
  ∃r,(Instr.findKey ke (kv a) (Zw kv m bs)).run P w= .ok r w/\r.map (·.2)=Zc a m/\(∀j v,r=some (j,v)->∀v',Zw kv (ZP a v' m) bs=(Zw kv m bs).modify j (λe=>{e with key:=kv a,val:=v'})/\((Zw kv m bs)[j]?).map (·.key)=some (kv a))/\(r=none->∀v',ZP a v' m=m++ [(a,v')])
 check:∀b a w,(Instr.checkKey b 10000 ke (kv a)).run P w= .ok () w
 bits:∀a,Instr.sameBits 10000 (kv a) (kv a)=true
theorem Nd {α:Type} [DecidableEq α]{P:Program}{ke:Nat}{kv:α->τ}(a:α)(w:θ)(d:∀b:α,(Op.equal ke (kv a) (kv b)).run P w= .ok (decide (a=b)) w):∀(m:χ (α×τ))(bs:Γ)(i:Nat),bs.length=m.length->
  ∃r,(Instr.findAsking ke (kv a) (Zw kv m bs) i).run P w= .ok r w/\r.map (·.2)=Zc a m/\(∀j v,r=some (j,v)->i<=j/\∀c,Zw kv (ZP a c m) bs=(Zw kv m bs).modify (j-i) (λe=>{e with key:=kv a,val:=c})/\((Zw kv m bs)[j-i]?).map (·.key)=some (kv a))/\(r=none->∀c,ZP a c m=m++ [(a,c)])
 |[],bs,i,h=>⟨none,by simp[Zw,Instr.findAsking],rfl,(λj v h=>by cases h),λ_ c=>rfl⟩|(b,u)::m,[],i,h=>by simp at h|(b,u)::m,s::bs,i,h=>by have e:Zw kv ((b,u)::m) (s::bs)={key:=kv b,val:=u,born:=s}::Zw kv m bs:=rfl;rw[e];unfold Instr.findAsking;simp only[Sem.run_bind,d,Result.andThen_ok];by_cases f:a=b;subst f;simp only[decide_true,if_true];refine⟨some (i,u),by simp,by simp[Zc],λj v g=>?_,λh=>by cases h⟩;cases g;refine⟨Qw _,λc=>?_⟩;simp[ZP,Zw];simp only[f,decide_false,UW,if_false];obtain⟨r,k,l,n,o⟩:=Nd a w d m bs (i+1) (by simpa using h);refine⟨r,k,by simp[Zc,f,l],λj v g=>?_,λd c=>by simp[ZP,f,o d c]⟩;obtain⟨k,d⟩:=n j v g;refine⟨ω,λc=>?_⟩;obtain⟨g,k⟩:=d c;rw[show j-i=(j-(i+1))+1 by omega];refine⟨?_,by simpa using k⟩;simp only[ZP,f,if_false];rw[show Zw kv ((b,u)::ZP a c m) (s::bs)={key:=kv b,val:=u,born:=s}::Zw kv (ZP a c m) bs from rfl,g];simp
theorem vQP {α:Type} [DecidableEq α]{P:Program}{ke:Nat}{kv:α->τ}{d:Array Field}(g:P.underlying ke=some (.struct d))(c:∀(a b:α) (w:θ),(Op.equal ke (kv a) (kv b)).run P w= .ok (decide (a=b)) w) (h:∀b a w,(Instr.checkKey b 10000 ke (kv a)).run P w= .ok () w) (i:∀a,Instr.sameBits 10000 (kv a) (kv a)=true):KeyQ P ke kv:=by
 refine⟨λa m bs w f=>?_,h,i⟩;have key:=Nd (P:=P) (ke:=ke) (kv:=kv) a w (λb=>c a b w) m bs 0 f;obtain⟨r,c,h,i,k⟩:=key;refine⟨r,?_,h,λj v l n=>by simpa using (i j v l).2 n,k⟩;unfold Instr.findKey;simp only[Sem.run_bind,JB g,Result.andThen_ok];cases m with|nil=>simp only[Zw,List.zip_nil_left,List.map_nil,Instr.findNow,Sem.run_pure];simp[Zw,Instr.findAsking] at c;rw[c]|cons p m=>
  cases bs with|nil=>simp at f|cons s bs=>
   have e:Zw kv (p::m) (s::bs)={key:=kv p.1,val:=p.2,born:=s}::Zw kv m bs:=rfl;rw[e] at c ⊢;have f:Instr.findNow (.struct d) (kv a) ({key:=kv p.1,val:=p.2,born:=s}::Zw kv m bs) 0=none:=by simp[Instr.findNow,Instr.sameNow]
   rw[f];exact c
structure MapQ {α:Type} (kv:α->Value) (w:World) (r:Nat) (m:List (α×Value)):Prop where
 ex:∃bs ck,bs.length=m.length/\bs.Nodup/\(∀b∈bs,b<ck)/\w.heap[r]? =some (.map (Zw kv m bs).toArray ck)
theorem MapQ.ext {α:Type}{a:α->τ}{w b:θ}{r:Nat}{m:χ (α×τ)}(h:MapQ a w r m)(k:Ext w b):MapQ a b r m:=by obtain⟨b,c,d,e,f,a⟩:=h.ex;exact⟨b,c,d,e,f,(k.block r (mQ.1 a).1 (by simp)).trans a⟩
theorem MapQ.mod {α:Type}{a:α->τ}{S:Nat->Prop}{w b:θ}{r:Nat}{m:χ (α×τ)}(h:MapQ a w r m)(k:Mod S w b)(c:¬S r):MapQ a b r m:=by obtain⟨b,d,e,f,g,a⟩:=h.ex;exact⟨b,d,e,f,g,(k.block r (mQ.1 a).1 c).trans a⟩
theorem Bu {α:Type}{c:Cx}(_:c.g.Ok){o:Oper}{S:Env}{w:θ}{K:Env->θ->Prop}{Q:ZD}{t:Nat}(d:α->τ)(e:o.op= .makeMap t none)(k:∀b,Ext w b->b.heap.size=w.heap.size+1->MapQ d b w.heap.size []->XD c S o.dst (.v (.map (some w.heap.size))) λS=>K S b):Zv c o S w K Q:=by refine Kr (w':=w.alloc (.map #[] 0)) (λa b=>?_) (k _ (Ext.alloc w _) (by simp) ⟨[],0,rfl,List.nodup_nil,by simp,heap_alloc_new w _⟩);simp[execOp,e,Instr.makeMap]
section
variable {α:Type} [DecidableEq α] {kv:α->Value} {c:Cx} {o:Oper} {S:Env} {w:World} {K:Env->World->Prop} {Q:ZD} {t ke e:Nat} {r re:TyRow} {x y:Operand} {q:Nat} {m:List (α×Value)} {a:α}
theorem aQX (b:c.g.Ok)(g:Q8 c.g.tys t=some r)(h:r.d= .map ke e)(j:Q8 c.g.tys e=some re)(d:KeyQ c.g.P ke kv)(k:MapQ kv w q m)(ok:Bool):(Instr.lookup t (.map (some q)) (kv a) ok).run c.g.P w= .ok (if ok then .tuple #[(Zc a m).getD re.z,.bool (Zc a m).isSome] else(Zc a m).getD re.z) w:=by
 have f:=(b.row g).1;rw[h] at f;obtain⟨_,i,h,_,_,l⟩:=b.row j;obtain⟨g,j,n,_,_,o⟩:=k.ex;obtain⟨b,k,s,_,_⟩:=d.find a m g w n;have n:(getObj q).run c.g.P w= .ok (.map (Zw kv m g).toArray j) w:=by simp[getObj,Sem.run,o]
 have g:(zeroValue e).run c.g.P w= .ok re.z w:=by simp[zeroValue,typeInfo,h,l]
 simp only[Instr.lookup,Sem.run_bind,JB f,Result.andThen_ok,n,Sem.run_pure,d.check,k];rw[<-s];cases b with|none=>cases ok<;>simp[g]|some p=>cases ok<;>simp
theorem aQY (f:c.g.Ok)(g:o.op= .lookup t x y true)(h:Q8 c.g.tys t=some r)(i:r.d= .map ke e)(j:Q8 c.g.tys e=some re)(l:KeyQ c.g.P ke kv)(n:S.ev x=some (.map (some q))) (p:S.ev y=some (kv a)) (s:MapQ kv w q m)(k:XD c S o.dst (.v (.tuple #[(Zc a m).getD re.z,.bool (Zc a m).isSome])) λS=>K S w):Zv c o S w K Q:=by refine Kr (w':=w) (λb d=>?_) k;have u:=d.ev n;have n:=d.ev p;have:=aQX (w:=w) (a:=a) f h i j l s true;simp only[execOp,g,u,n];simp only[Sem.run_bind,this,Result.andThen_ok];simp
theorem aQZ {α:Type} [DecidableEq α](a:α)(v:τ):∀(m:χ (α×τ)),(Zc a m).isSome->(ZP a v m).length=m.length|[],h=>by simp[Zc] at h|(b,x)::m,h=>by simp only[ZP];split;simp;rename_i c;simp[aQZ a v m (by simpa [Zc,c] using h)]
theorem Bv {v:τ}{z:Operand}(f:c.g.Ok)(M:o.op= .mapUpdate t x y z)(N:o.dst=none)(g:Q8 c.g.tys t=some r)(h:r.d= .map ke e)(s:KeyQ c.g.P ke kv)(C:S.ev x=some (.map (some q))) (D:S.ev y=some (kv a)) (O:S.ev z=some v) (n:MapQ kv w q m)(k:∀d,Mod (·=q) w d->d.heap.size=w.heap.size->MapQ kv d q (ZP a v m)->K S d):Zv c o S w K Q:=by
 have E:=(f.row g).1;rw[h] at E;obtain⟨f,A,B,l,F,d⟩:=n.ex;have P:q<w.heap.size:=(mQ.1 d).1;obtain⟨G,H,R,T,I⟩:=s.find a m f w B;have J:(getObj q).run c.g.P w= .ok (.map (Zw kv m f).toArray A) w:=by simp[getObj,Sem.run,d]
 have L:∀g,(setObj q g).run c.g.P w= .ok () {w with heap:=w.heap.setIfInBounds q g}:=λg=>by simp[setObj,Sem.run,d]
 have n:∃g,(Instr.mapUpdate t (.map (some q)) (kv a) v).run c.g.P w= .ok () {w with heap:=w.heap.setIfInBounds q g}/\∃h ck',h.length=(ZP a v m).length/\h.Nodup/\(∀b∈h,b<ck')/\g= .map (Zw kv (ZP a v m) h).toArray ck':=by
  cases G with|none=>refine⟨_,?_,f++ [A],A+1,?_,?_,?_,rfl⟩;simp only[Instr.mapUpdate,Sem.run_bind,JB E,Result.andThen_ok,J,s.check,H,L];rw[I rfl v];congr 4;simp only[Zw];rw[List.zip_append B.symm,fL];simp;rw[I rfl v];simp[B];rw[Mv];refine⟨l,by simp,λx C y D=>?_⟩;simp at D;have:=F x C;omega;intro b d;simp only[X2,Xx] at d;obtain d|rfl:=d;have:=F b d;omega;omega|some p=>
   obtain⟨j,u⟩:=p;obtain⟨d,G⟩:=T j u rfl v;have I:(((Zw kv m f).toArray[j]?).map (·.key)).getD (kv a)=kv a:=by rw[show(Zw kv m f).toArray[j]? =(Zw kv m f)[j]? from by simp,G]<;>rfl
   refine⟨_,?_,f,A,?_,l,F,rfl⟩;simp only[Instr.mapUpdate,Sem.run_bind,JB E,Result.andThen_ok,J,s.check,H,I,Instr.keyThatStays,s.bits,if_true,Sem.run_pure,L];rw[d];congr 4;simp;rw[aQZ a v m (by rw[<-R];rfl),B]
 obtain⟨g,l,h,ck',s,A,f,rfl⟩:=n;unfold Zv;intro b d;have g:=d.ev C;have n:=d.ev D;have B:=d.ev O;unfold Oper.wp;have:(execOp b.eval o).run c.g.P w= .ok .skip {w with heap:=w.heap.setIfInBounds q (.map (Zw kv (ZP a v m) h).toArray ck')}:=by simp only[execOp,M,g,n,B];simp[l]
 rw[this];refine⟨S,by rw[N];simpa [Act.put] using d,k _ ⟨rfl,rfl,rfl,by simp,λi _ g=>?_⟩ (by simp) ⟨h,ck',s,A,f,?_⟩⟩;simp only[Mt];rw[φ λe=>g e.symm];simp[P]
end
section
variable {α:Type} {kv:α->Value} {c:Cx} {o:Oper} {S:Env} {w:World} {K:Env->World->Prop} {Q:ZD} {t ke e:Nat} {r:TyRow} {x:Operand} {q it:Nat} {m L:List (α×Value)} {J9:Option (α×Value)}
end
end
section
section
theorem aQ0 {p:Nat->Bool}{l:Γ}(h:l.all p=true):l.takeWhile p=l:=by induction l with|nil=>rfl|cons x l a=>simp only[xT,Z4] at h;rw[cI,Qf h.1,a h.2]
theorem Nf (b:Nat)(l:Γ):YY (b::l)=if isDig b then 0 else((b::l).takeWhile Zr).length:=rfl
theorem aQ1 (l:Γ):YY l<=l.length:=by cases l with|nil=>exact Qw _|cons b l=>rw[Nf];split;exact Q9 _;exact(AK _).length_le
theorem aQ2 (l:χ Nat)(w:θ)(c:∀x∈l,x<256)(D:l.length<=9223372036854775807):Fn ψ 191 [.string (Qb l)] w (λv p=>v= .int .i64 (YY l:Nat)/\Ext w p):=by
 refine QK jQG [2] Tryz.func191 ?_;refine call (kQF l w c) ?_;rintro v C ⟨rfl,d⟩;have E:(l.takeWhile Zr).length<=l.length:=(AK _).length_le;refine cL [] Qe [3] (λn:Nat=>[.int .i64 n]) (λn p=>C=p/\n=(l.takeWhile Zr).length) ?_ ?_;cases u:l.all Zr with|true=>rw[Qf rfl];refine Zm (by omega) ?_;exact⟨(Qb l).size,rfl,rfl,by rw[QZ,aQ0 u]⟩|false=>rw[φ (by simp)];refine XB (by omega) ?_;exact⟨(l.takeWhile Zr).length,rfl,rfl,rfl⟩
 rintro n _ ⟨rfl,o⟩;cases l with
 |nil=>
  have:n=0:=by simpa using o
  subst this;refine XB (by omega) ?_;exact⟨rfl,d⟩
 |cons b l=>
  have z:=c b (by simp);have g:(Qb (b::l)).size=l.length+1:=by rw[QZ]<;>rfl
  by_cases a:isDig b=true;have i:Zr b=true:=by unfold Zr;rw[a,Bool.or_true]
  have r:48<=b/\b<=57:=by unfold isDig at a;simpa using a
  have A:0<n:=by rw[o,cI,Qf i];simp
  refine Zm (by omega) ?_;refine Wd (s:=Qb (b::l)) (j:=0) (by rw[g];omega) λx e q=>?_;have k:x=b:=by rw[We c] at e;simpa using e.symm
  subst k;refine Zm (by omega) ?_;refine Wd (s:=Qb (x::l)) (j:=0) (by rw[g];omega) λy f B=>?_;have m:y=x:=by rw[We c] at f;simpa using f.symm
  subst m;refine Zm (by omega) ?_;exact⟨by rw[Nf,Qf a];rfl,d⟩;have i:YY (b::l)=n:=by rw[Nf,φ a,o]
  rw[i];by_cases A:0<n;have r:¬(48<=b/\b<=57):=λh=>a (by unfold isDig;simpa using h);refine Zm (by omega) ?_;refine Wd (s:=Qb (b::l)) (j:=0) (by rw[g];omega) λx e q=>?_;have k:x=b:=by rw[We c] at e;simpa using e.symm
  subst k;refine Ql (λt=>?_) λt=>?_;refine Wd (s:=Qb (x::l)) (j:=0) (by rw[g];omega) λy f B=>?_;have m:y=x:=by rw[We c] at f;simpa using f.symm
  subst m;refine XB (by omega) ?_;exact⟨rfl,d⟩;exact⟨rfl,d⟩;refine XB (by omega) ?_;exact⟨rfl,d⟩
def Xb (l:Λ):χ τ:=l.map λs=>.string (Qb s)
theorem dw {l:Λ}{j:Nat}{s:Γ}(h:l[j]? =some s):(Xb l)[j]? =some (.string (Qb s)):=by simp[Xb,h]
theorem az (l:Λ):(Xb l).length=l.length:=by simp[Xb]
def dx:Γ:=[116,114,117,101]
def fg:Γ:=[102,97,108,115,101]
def Wf (s:Γ):Bool:=decide (s≠ []/\YY s=s.length/\s≠dx/\s≠fg)
def aB:Λ->Nat->χ (ByteArray×τ)->χ (ByteArray×τ)|[],_,m=>m|s::l,i,m=>aB l (i+1) (ZP (Qb s) (.int .i64 (i:Nat)) m)
theorem aQ3:∀(l:Λ)(s:Γ)(i:Nat)(m:χ (ByteArray×τ)),aB (l++ [s]) i m=ZP (Qb s) (.int .i64 ((i+l.length:Nat):Int)) (aB l i m)|[],s,i,m=>rfl|t::l,s,i,m=>by simp only[dZ,aB];rw[aQ3 l s (i+1)];congr 3;simp only[Xa];omega
end
section
theorem kQG {α:Type}{kv:α->τ}{c:Cx}(d:c.g.Ok){o:Oper}{S:Env}{w:θ}{K:Env->θ->Prop}{Q:ZD}{t q b e:Nat}{x:Operand}{m:χ (α×τ)}{r:TyRow}(f:o.op= .call ⟨.builtin .len, #[x], #[t]⟩) (g:Q8 c.g.tys t=some r) (h:r.d= .map b e) (i:S.ev x=some (.map (some q))) (j:MapAt kv w q m)(k:XD c S o.dst (.v (.int .i64 m.length)) λS=>K S w):Zv c o S w K Q:=by
 have b:=(d.row g).1;rw[h] at b;obtain⟨d,g,h,l⟩:=j.ex;refine Kr (w':=w) (v:=.int .i64 m.length) (λa j=>?_) k;have n:=j.ev i;have i:(getObj q).run c.g.P w= .ok (.map (Zw kv m d).toArray g) w:=by simp[getObj,Sem.run,l]
 have g:(Zw kv m d).length=m.length:=by simp[Zw,h]
 simp only[execOp,f,resolve,invoke];simp[builtin,n,Builtin.len_,JB b,i,goInt,g]
abbrev WE:ByteArray->Value:=λs=>.string s
def JG (a:Λ):Bool:=decide (a.all Wf=true/\(aB a 0 []).length=a.length/\a.length<=64)
theorem aQ4 {a:Λ}{j:Nat}{s:Γ}(h:(a.take j).all Wf=true)(b:a[j]? =some s)(c:Wf s=true):(a.take (j+1)).all Wf=true:=by rw[JT,b];simp[Mw,h,c]
theorem Ng {a:Λ}{j:Nat}{s:Γ}(b:a[j]? =some s)(c:Wf s≠true):JG a=false:=by unfold JG;refine XZ λh=>c ?_;exact Vb.1 h.1 s (Xd b)
theorem aQ5 {a:Λ}{j:Nat}{s:Γ}(b:a[j]? =some s):aB (a.take (j+1)) 0 []=ZP (Qb s) (.int .i64 (j:Nat)) (aB (a.take j) 0 []):=by have c:j<a.length:=(ZK.1 b).1;rw[JT,b];show aB (a.take j++ [s]) 0 []=_;rw[aQ3,KR,oV ω,YW]
def KH (a:Λ):Prop:=∀s∈a,(∀x∈s,x<256)/\s.length<=9223372036854775807
theorem Ni (names:χ (χ Nat))(A:Option Addr)(n c:Nat)(w:θ)(h:Sl w 1 A n c (Xb names))(x:KH names):Fn ψ 132 [.slice A n c] w (λv d=>∃m,v= .tuple #[m,.bool (JG names)]/\Ext w d/\(JG names=true->∃r,m= .map (some r)/\w.heap.size<=r/\MapAt WE d r (aB names 0 []))):=by
 have M:names.length=n:=by have:=h.len;rw[az] at this;omega
 have Q:n<=9223372036854775807:=by have:=h.le;have:=h.cap;simp only[maxLen] at this;omega
 refine QK iQQ [] Tryz.func132 ?_;refine Bl Qe WE rfl ?_;intro W G T E;refine loop Qe [10] (λs:Nat=>[.int .i64 s]) (λs d=>Ext w d/\s<=n/\(names.take s).all Wf=true/\MapAt WE d w.heap.size (aB (names.take s) 0 [])) (λs _=>n-s) 0 rfl ⟨G,Q9 _,rfl,E⟩ ?_;rintro s P ⟨e,R,b,k⟩;refine Ql (λK=>?_) λK=>?_;have g:names[s]? =some names[s]:=Q6 (by omega);generalize names[s]=t at g;obtain⟨o,H⟩:=x t (Xd g);refine Zq (h.ext e) (by omega) λU u V C F=>?_;rw[dw g] at C;cases C;refine load F ?_;have O:=e;have f:Wf t≠true->∀d,Ext w d->∃m,(.tuple #[.map none,.bool false]:τ)= .tuple #[m,.bool (JG names)]/\Ext w d/\(JG names=true->∃r,m= .map (some r)/\w.heap.size<=r/\MapAt WE d r (aB names 0 [])):=λx d L=>by refine⟨.map none,?_,L,λh=>?_⟩;rw[Ng g x];rw[Ng g x] at h;cases h
 have y:((Qb t=(⟨#[]⟩:ByteArray))↔t=[]):=⟨λh=>Jl o (by simp) h,λh=>by rw[h];rfl⟩
 have z:((Qb t=(⟨#[116,114,117,101]⟩:ByteArray))↔t=dx):=⟨λh=>Jl o (by decide) h,λh=>by rw[h];rfl⟩
 have B:((Qb t=(⟨#[102,97,108,115,101]⟩:ByteArray))↔t=fg):=⟨λh=>Jl o (by decide) h,λh=>by rw[h];rfl⟩
 by_cases i:t=[]
 refine Zm (y.2 i) ?_;exact f (by unfold Wf;simp[i]) _ e;refine XB (λh=>i (y.1 h)) ?_;refine call (aQ2 t P o H) ?_;rintro v X ⟨rfl,j⟩;have S:((Qb t).size:Int)=(t.length:Nat):=by rw[QZ]
 by_cases l:¬YY t=t.length;refine iX (λh=>l (by omega)) ?_;exact f (by unfold Wf;simp[l]) _ (e.trans j);replace l:=Decidable.not_not.1 l;refine KT (by omega) ?_;by_cases p:t=dx;refine Zm (z.2 p) ?_;exact f (by unfold Wf;simp[p]) _ (e.trans j);refine XB (λh=>p (z.1 h)) ?_;by_cases q:t=fg;refine Zm (B.2 q) ?_;exact f (by unfold Wf;simp[q]) _ (e.trans j);refine XB (λh=>q (B.1 h)) ?_;have I:Wf t=true:=by unfold Wf;simp[i,l,p,q]
 refine po (kv:=WE) (a:=Qb t) Qe rfl rfl rfl rfl rfl vQD rfl rfl rfl (k.ext j) λY J _ D=>?_;refine Qz ((s+1:Nat):Int) ?_;refine⟨s+1,rfl,⟨(e.trans j).own J (Qw _),by omega,aQ4 b g I,by rw[aQ5 g];exact D⟩,QL⟩;have:s=n:=by omega
 subst this;have N:names.take s=names:=ZJ (by omega);rw[N] at b k;refine kQG (kv:=WE) Qe rfl rfl rfl rfl k ?_;refine X0 (λi=>?_) λi=>?_;refine⟨.map (some w.heap.size),?_,e,λ_=>⟨_,rfl,Qw _,k⟩⟩;have:decide ((names.length:Int)<=64)=JG names:=by unfold JG;exact o0.2 ⟨λh=>⟨b,by omega,by omega⟩,λh=>by omega⟩
 rw[<-this,M];refine⟨.map (some w.heap.size),?_,e,λ_=>⟨_,rfl,Qw _,k⟩⟩;have:JG names=false:=by unfold JG;exact XZ (λh=>by omega)
 rw[this]
end
end
end Go.Proofs.YtjabbbcdgmlojaaGreatDoor
