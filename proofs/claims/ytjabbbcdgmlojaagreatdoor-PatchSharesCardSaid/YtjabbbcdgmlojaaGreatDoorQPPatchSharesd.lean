/-
  What PPatchShares rests on, part 4 (wip/shake.py).
  Conditions: none.
-/
import Derived.Test.YtjabbbcdgmlojaaGreatDoorQPPatchSharesc
set_option linter.all false
set_option linter.deprecated false
set_option maxHeartbeats 12800000
namespace Go.Proofs.YtjabbbcdgmlojaaGreatDoor
open Go Go.RowKit
section
section
def ChG:Nat->List Sg->Nat->Prop
 | a,[],b=>a=b
 | a,s::l,b=>s.f=a/\ChG s.t l b
theorem ChG.snoc {x:Sg}:∀{l:List Sg}{a b:Nat},ChG a (l++ [x]) b↔ChG a l x.f/\x.t=b
 | [],a,b=>by simp only[bP,ChG];exact⟨λh=>⟨h.1.symm,h.2⟩,λh=>⟨h.1.symm,h.2⟩⟩
 | s::l,a,b=>by
  simp only[Jb,ChG];rw[ChG.snoc (l:=l)];exact⟨λh=>⟨⟨h.1,h.2.1⟩,h.2.2⟩,λh=>⟨h.1.1,h.1.2,h.2⟩⟩
structure SgOk (fs:List (List Nat×List Nat)) (tx:List Nat) (s:Sg):Prop where
 ft:s.f<s.t
 tl:s.t<=tx.length
 nl:tx[s.t-1]? =some 10
 src:∃x,fs[s.fl]? =some x/\s.at_+(s.t-s.f)<=x.2.length/\(x.2.drop s.at_).take (s.t-s.f)=(tx.take s.t).drop s.f
theorem SgOk.app {fs:List (List Nat×List Nat)}{tx:List Nat}{s:Sg}(h:SgOk fs tx s)(l:List Nat):SgOk fs (tx++l) s:=by
 obtain⟨h1,h2,h3,x,h4,h5,h6⟩:=h;refine⟨h1,by rw[Qu];omega,by rw[Wh (by omega)];exact h3,x,h4,h5,?_⟩;rw[Mw h2];exact h6
structure GInv (fs:List (List Nat×List Nat)) (g:Gs):Prop where
 ch:ChG 0 g.sg g.tx.length
 ok:∀s∈g.sg,SgOk fs g.tx s
theorem GInv.fr {fs:List (List Nat×List Nat)}{g:Gs}(h:GInv fs g)(b:Bool):GInv fs {g with fr:=b}:=⟨h.ch,h.ok⟩
def mH (n p:Nat)(k:BF)(g:Gs):Prop:=g.fr=false->∃l x,g.sg=l++ [x]/\x.fl=n/\x.at_+(x.t-x.f)=p/\x.o=k
theorem Rn {fs:List (List Nat×List Nat)}{n p:Nat}{k:BF}{g g':Gs}{s:List Nat}(h:GInv fs g)(hc:mH n p k g){x:List Nat×List Nat}(hx:fs[n]? =some x)(hs:x.2.drop p=s++x.2.drop (p+s.length))(hp:p+s.length<=x.2.length)(hl:s.getLast? =some 10)
  (ha:VZ s n p k g=some g'):GInv fs g'/\mH n (p+s.length) k g':=by
 unfold VZ at ha;split at ha
 ·cases ha
 cases ha;have A6:0<s.length:=by
  cases s with
  | nil=>cases hl
  | cons _ _=>simp
 have KB:(g.tx++s)[g.tx.length+s.length-1]? =some 10:=by
  rw[YI (by omega),show g.tx.length+s.length-1-g.tx.length=s.length-1 by omega,<-lP];exact hl
 cases hf:g.fr with
 | true=>
  rw[Qf rfl,kc];refine⟨⟨?_,λy hy=>?_⟩,λ_=>⟨_,_,rfl,rfl,?_,rfl⟩⟩
  ·simp only;rw[ChG.snoc];exact⟨h.ch,by simp⟩
  ·simp only[Xw,QL] at hy;rcases hy with hy | rfl
   ·exact(h.ok y hy).app s
   ·refine⟨by simp only;omega,by simp,KB,x,hx,by simp only;omega,?_⟩;simp only;rw[show g.tx.length+s.length-g.tx.length=s.length by omega,hs,List.take_left,Jm (by simp),rB]
  ·simp only;omega
 | false=>
  rw[if_neg (by decide)];obtain⟨l,y,e,e1,e2,e3⟩:=hc hf;have Jy:=h.ch;have Zq:=h.ok;rw[e] at Jy Zq;rw[ChG.snoc] at Jy;obtain⟨q1,q2,q3,z,q4,q5,q6⟩:=Zq y (by simp);rw[e,kc];have hz:z=x:=by rw[e1,hx] at q4;exact(Option.some.inj q4).symm
  subst hz;refine⟨⟨?_,λu hu=>?_⟩,λ_=>⟨_,_,rfl,e1,?_,e3⟩⟩
  ·simp only;rw[ChG.snoc];exact⟨Jy.1,by simp⟩
  ·simp only[Xw,QL] at hu;rcases hu with hu | rfl
   ·exact(Zq u (by simp[hu])).app s
   ·refine⟨by simp only;omega,by simp,KB,z,q4,by simp only;omega,?_⟩;simp only;rw[show g.tx.length+s.length-y.f=(y.t-y.f)+s.length by omega,Jm (l:=g.tx++s) (by simp),List.drop_append_of_le_length (by omega)];rw[List.take_add,oG,e2,hs,List.take_left,q6,Jy.2,rA]
  ·simp only;omega
theorem Ro {nm:List (List Nat)}{fs:List (List Nat×List Nat)}{n d0:Nat}{inc:pz}{x:List Nat×List Nat}(hx:fs[n]? =some x)
  (hi:∀r ln d k g g',inc r ln d k g= .ok g'->GInv fs g->GInv fs g'):∀(ls:List (List Nat)) (ln at_:Nat) (k:BF) (op:List Se) (g g':Gs),
  x.2.drop at_=Qo ls->at_<=x.2.length->GInv fs g->mH n at_ k g->ZS nm n d0 inc ls ln at_ k op g= .ok g'->GInv fs g'/\g'.fr=true
 | [],ln,at_,k,op,g,g',_,_,hg,_,hr=>by
  cases op with
  | nil=>simp only[ZS,Except.ok.injEq] at hr;subst hr;exact⟨hg.fr true,rfl⟩
  | cons _ _=>simp[ZS] at hr
 | s::ls,ln,at_,k,op,g,g',hd,dE,hg,hc,hr=>by
  have Xy:x.2.drop at_=(s++ [10])++Qo ls:=by rw[hd,Wu];simp
  have hL:(s++ [10]).length=s.length+1:=by simp
  have Xd:x.2.length-at_=s.length+1+(Qo ls).length:=by
   have:=QN List.length Xy;simp only[Y3,Qu,Xj,Z5] at this;omega
  have aj:x.2.drop (at_+s.length+1)=Qo ls:=by
   rw[show at_+s.length+1=at_+(s++ [10]).length by simp;omega,<-oG,Xy,rB]
  have ih:=λk op g g' h1 h2 h3=>Ro (nm:=nm) (d0:=d0) hx hi ls (ln+1) (at_+s.length+1) k op g g' aj (by omega) h1 h2 h3
  have cf:∀k' (g:Gs),mH n (at_+s.length+1) k' {g with fr:=true}:=λk' g h=>by cases h
  rw[ZS.eq_def] at hr;simp only at hr;cases X3:ZN s with
  | txt=>
   rw[X3] at hr;simp only at hr;cases ha:VZ (s++ [10]) n at_ k g with
   | none=>rw[ha] at hr;cases hr
   | some g1=>
    rw[ha] at hr;simp only at hr;obtain⟨i1,i2⟩:=Rn hg hc hx (by rw[hL,<-oF,aj];exact Xy) (by rw[hL];omega) (by simp) ha;exact ih k op g1 g' i1 (by rw[hL,<-oF] at i2;exact i2) hr
  | ifd r=>
   rw[X3] at hr;simp only at hr;cases hs:Yu nm r with
   | error e=>rw[hs] at hr;cases hr
   | ok d=>
    rw[hs] at hr;simp only at hr;split at hr
    ·cases hr
    ·exact ih _ _ _ _ (hg.fr true) (cf _ _) hr
  | inc r=>
   rw[X3] at hr;simp only at hr;cases hs:inc r (ln+1) (d0+op.length) k g with
   | error e=>rw[hs] at hr;cases hr
   | ok g1=>
    rw[hs] at hr;exact ih _ _ _ _ ((hi _ _ _ _ _ _ hs hg).fr true) (cf _ _) hr
  | elif r=>
   rw[X3] at hr;cases op with
   | nil=>cases hr
   | cons y op=>
    simp only at hr;split at hr
    ·cases hr
    ·cases hs:Yu nm r with
     | error e=>rw[hs] at hr;cases hr
     | ok d=>rw[hs] at hr;exact ih _ _ _ _ (hg.fr true) (cf _ _) hr
  | els=>
   rw[X3] at hr;cases op with
   | nil=>cases hr
   | cons y op=>
    simp only at hr;split at hr
    ·cases hr
    ·exact ih _ _ _ _ (hg.fr true) (cf _ _) hr
  | en=>
   rw[X3] at hr;cases op with
   | nil=>cases hr
   | cons y op=>exact ih _ _ _ _ (hg.fr true) (cf _ _) hr
theorem Rp {nm:List (List Nat)}{fs:List (List Nat×List Nat)}(hf:∀x∈fs,cd x.2):∀(f:Nat)(rd:List Nat)(d n:Nat)(k:BF)(g g':Gs),n<fs.length->GInv fs g->aF nm fs f rd d n k g= .ok g'->GInv fs g'/\g'.fr=true
 | 0,_,_,_,_,_,_,_,_,hr=>by cases hr
 | f+1,rd,d,n,k,g,g',hn,hg,hr=>by
  have hx:fs[n]? =some fs[n]:=Xn hn;rw[aF,hx] at hr;simp only[yJ,iu] at hr;refine Ro hx ?_ (QT fs[n].2) 0 0 k [] {g with fr:=true} g' (by rw[rz,W6 (hf _ (My hn))]) (XJ _) (hg.fr true) (λh=>by cases h) hr;intro r ln d' k' g1 g2 hi kH;cases he:cY (Jo (fs.map (·.1))) (n::rd) r with
  | error e=>rw[he] at hi;cases hi
  | ok m=>
   rw[he] at hi;simp only at hi;split at hi
   ·cases hi
   ·have hm:m<fs.length:=by
     obtain⟨_,tn,yg⟩:=Fr he;have:=j8 yg;simpa using this
    exact(Rp hf f _ _ m _ g1 g2 hm kH hi).1
theorem gQF {nm:List (List Nat)}{fs:List (List Nat×List Nat)}{root:List Nat}{g:Gs}(hr:Ww nm fs root= .ok g):GInv fs g/\fs.length<=256/\∀x∈fs,x.2.length<=1048576:=by
 unfold Ww at hr;split at hr
 ·cases hr
 cases K8:Wv fs with
 | some p=>rw[K8] at hr;cases hr
 | none=>
  rw[K8] at hr;simp only at hr;have kQk:fs.length<=256:=by
   unfold Wv at K8;split at K8
   ·cases K8
   ·omega
  have hall:∀x∈fs,pw x.1=true/\aG x.2=true/\x.2.length<=1048576:=by
   unfold Wv at K8;rw[if_neg (by omega)] at K8;exact Aq fs [] 0 K8
  cases Kb:Jo (fs.map (·.1)) root with
  | none=>rw[Kb] at hr;cases hr
  | some n=>
   rw[Kb] at hr;simp only at hr;have hn:n<fs.length:=by have:=j8 Kb;simpa using this
   exact⟨(Rp (λx hx=>mF (hall x hx).2.1) 65 [] 0 n _ _ g hn (⟨rfl,λs hs=>by cases hs⟩:GInv fs ⟨[],[],false⟩) hr).1,kQk,λx hx=>(hall x hx).2.2⟩
end
section
def mkX (s:Sg)(x:DV):Sx:=⟨s.f,s.t,s.fl,s.at_,x⟩
def AllS (k:Nat):List Sg->List Sx->Prop
 | [],[]=>True
 | s::l,y::m=>(y.f=s.f/\y.t=s.t/\y.fl=s.fl/\y.at_=s.at_/\Set1 k y.x.nd y.x.r s.o)/\AllS k l m
 | _,_=>False
theorem AllS.len {k:Nat}:∀{l:List Sg}{m:List Sx},AllS k l m->l.length=m.length
 | [],[],_=>rfl
 | _::_,_::_,h=>by simp[AllS.len h.2]
theorem AllS.get {k:Nat}:∀{l:List Sg}{m:List Sx}{i:Nat}{s:Sg}{y:Sx},AllS k l m->l[i]? =some s->m[i]? =some y->y.f=s.f/\y.t=s.t/\y.fl=s.fl/\y.at_=s.at_/\Set1 k y.x.nd y.x.r s.o
 | _::_,_::_,0,_,_,h,h1,h2=>by cases h1;cases h2;exact h.1
 | _::_,_::_,i+1,_,_,h,h1,h2=>AllS.get (i:=i) h.2 (by simpa using h1) (by simpa using h2)
theorem gQG {w:World}{k:Nat}{A:Option Addr}{n c:Nat}{sg:List Sg}{L:List DV}(h:SgIn w k A n c sg L):∃M,SX w A n c M/\AllS k sg M:=by
 have key:∀(sg:List Sg) (L:List DV),L.length=sg.length->(∀(j:Nat) (s:Sg) (x:DV),sg[j]? =some s->L[j]? =some x->SB w x.A x.n x.c x.nd/\Set1 k x.nd x.r s.o)->
   ∃M:List Sx,M.flatMap Sx.cells=cg sg L/\M.length=sg.length/\(∀y∈M,SB w y.x.A y.x.n y.x.c y.x.nd)/\AllS k sg M:=by
  intro sg;induction sg with
  | nil=>
   intro L hl _;have:L=[]:=aA hl;subst this;exact⟨[],rfl,rfl,(λy hy=>by cases hy),⟨⟩⟩
  | cons s sg ih=>
   intro L hl hd;cases L with
   | nil=>cases hl
   | cons x L=>
    obtain⟨M,h1,h2,h3,h4⟩:=ih L (by simpa using hl) (λj s x h1 h2=>hd (j+1) s x (by simpa using h1) (by simpa using h2));obtain⟨d1,d2⟩:=hd 0 s x rfl rfl;refine⟨mkX s x::M,?_,by simp[h2],?_,⟨⟨rfl,rfl,rfl,rfl,d2⟩,h4⟩⟩
    ·rw[cK,h1]<;>rfl
    ·intro y hy;rcases QZ.1 hy with rfl | hy
     ·exact d1
     ·exact h3 y hy
 obtain⟨M,h1,h2,h3,h4⟩:=key sg L h.len h.dg;exact⟨M,⟨⟨by rw[h1];exact h.sl,by rw[h2];exact h.n⟩,h3⟩,h4⟩
def ac (tx:List Nat)(s:Sg):List Nat:=(tx.take s.t).drop s.f
structure SrcIn (w:World) (k:Nat) (A:Option Addr) (c:Nat) (g:Gs):Prop where
 ok:GsOk g
 kl:k<=12
 ex:∃M,SX w A g.sg.length c M/\AllS k g.sg M/\gQk g.tx M=0
theorem SrcIn.ext {w w':World}{k:Nat}{A:Option Addr}{c:Nat}{g:Gs}(h:SrcIn w k A c g)(hE:Ext w w'):SrcIn w' k A c g:=⟨h.ok,h.kl,let ⟨M,h1,h2,h3⟩:=h.ex;⟨M,h1.ext hE,h2,h3⟩⟩
section
variable {w:World} {k:Nat} {A:Option Addr} {c:Nat} {g:Gs}
end
end
section
end
end
section
theorem gQH (A:Option Addr)(n c:Nat)(nd:List Br)(root:Int)(jr:Nat)(hcf:jr<=18446744073709551615)(w:World)(h:SB w A n c nd)(hc:XG nd root=0):
  Fn Tryz.prog 53 [Xm A n c root,.int .u64 jr] w (λv w'=>v= .bool (ev nd root (gt jr))/\Ext w w'):=by
 have Xd:=h.2;obtain⟨fS,hv⟩:=fw.1 hc;refine QD (c:={c53 with cuts:=[]}) Qa Tryz.func53 rfl rfl rfl ?_;refine new (λw1 Qd Q3 Qh=>?_);refine Qp Qh rfl ?_;refine loop Qa [5] (λs:Int=>[.int .i64 s]) (λs w'=>Ext w1 w'/\0<=s/\s<n+2/\ev nd s (gt jr)=ev nd root (gt jr)) (λs _=>s.toNat) root rfl ⟨Ext.refl _,hv.2.1,by have:=hv.2.2.1;omega,rfl⟩ ?_;rintro s w3 ⟨Qk,s0,s1,hs⟩;have QW:=Qd.trans Qk;refine Qy (λh1=>?_) (λh1=>?_)
 ·refine Qx (Qh.ext Qk) rfl ?_;refine Qi (((s-2).toNat:Nat):Int) (by omega) (by omega) ?_;refine Zw Ws (h.ext QW) rfl (by omega) (λp x hx LE=>?_);refine Kr (vs:=x.cells) rfl LE ?_;refine new (λw4 Qq KY Q4=>?_);refine Qz Q4 rfl (sc rfl) (λw5 Jw KJ QK=>?_);have J6:Ext w3 w5:=X9 Qq Q4 Jw;obtain⟨b1,b2,b3,b4,b5,b6,b7,b8,b9,aM⟩:=hv.1 _ _ hx;have lm:=bZ hv.wf (n:=s) (e:=gt jr) (by omega) hx;refine Qx QK rfl ?_;refine o0 (x.v.toNat:Int) (by omega) (by omega) ?_;refine zk x.v.toNat (2^x.v.toNat) (by omega) (by show min _ 64=_;omega) rfl ?_;have Xc:jr/2^x.v.toNat<18446744073709551616:=Nat.lt_of_le_of_lt (Nat.div_le_self _ _) (by omega);refine norm (m:=((jr/2^x.v.toNat % 2:Nat):Int)) (gQf _ Xc) ?_;refine Zh (λh2=>?_) (λh2=>?_)
  ·have hb:gt jr x.v.toNat=true:=XR (by omega);rw[hb,Qf rfl] at lm;refine Qp QK rfl ?_;exact⟨x.h,rfl,⟨Qk.trans J6,b5,by omega,by rw[<-lm];exact hs⟩,by show x.h.toNat<s.toNat;omega⟩
  ·have hb:gt jr x.v.toNat=false:=X4 (by omega);rw[hb,if_neg (by decide)] at lm;refine Qp QK rfl ?_;exact⟨x.l,rfl,⟨Qk.trans J6,b3,by omega,by rw[<-lm];exact hs⟩,by show x.l.toNat<s.toNat;omega⟩
 ·refine⟨?_,QW⟩;rw[<-hs,JD (by omega)]<;>rfl
theorem gQI (x:Nat)(hx:x<256):IntKind.u8.wrap ((BitVec.ofInt 8 (x:Int) &&& BitVec.ofInt 8 1).toNat)=((x % 2:Nat):Int):=by
 have e:(BitVec.ofInt 8 (x:Int) &&& BitVec.ofInt 8 1).toNat=x % 2:=by
  rw[BitVec.ofInt_natCast,show BitVec.ofInt 8 1=BitVec.ofNat 8 1 from rfl,BitVec.toNat_and,BitVec.toNat_ofNat,BitVec.toNat_ofNat];rw[iq (by omega),show 1 % 2^8=1 by decide,Nat.and_one_is_mod]
 rw[e];rcases(show x % 2=0∨x % 2=1 by omega)with h | h<;>rw[h]<;>decide
theorem gQJ (q:Nat):(((q:Nat):Int)==1)=decide (q=1):=by
 by_cases h:q=1
 ·subst h;rfl
 ·rw[X4 h];exact beq_eq_false_iff_ne.2 (by omega)
theorem Rq (k:Nat)(hk:k<=1000000):IntKind.i64.wrap ((k:Int).tdiv 8)=((k/8:Nat):Int):=by
 rw[show(8:Int)=((8:Nat):Int) from rfl,bQC];exact IntWalk.i64_in _ (by omega)
theorem gQK (v:Nat)(hv:v<=6):IntKind.i64.wrap (1*2^(min ((v:Nat):Int).toNat IntKind.i64.bits))=((2^v:Nat):Int):=by
 rcases(show v=0∨v=1∨v=2∨v=3∨v=4∨v=5∨v=6 by omega)with rfl | rfl | rfl | rfl | rfl | rfl | rfl<;>decide
theorem Rs (l:List Nat)(A:Option Addr)(n c N:Nat)(w0:World)(h:Sl w0 1 A n c (Jt l))(h8:∀x∈l,x<=255)(hN:N<=6):∀(d v k:Nat)(w:World),Ext w0 w->v+d=N->k<2^v->
  Fn Tryz.prog 72 [.slice A n c,.int .i64 N,.int .i64 v,.int .i64 k] w (fz w N (ci l d v k))
 | 0,v,k,w,hE,hv,hk=>by
  have hn:l.length=n:=by have:=h.len;rw[uT] at this;omega
  have p6:2^v<=2^6:=Wl (by decide) (by omega);have Gv:n<=9223372036854775807:=by have:=h.le;have:=h.cap;simp only[maxLen] at this;omega
  refine QD (c:={Nr with cuts:=[]}) Qa Tryz.func72 rfl rfl rfl ?_;refine new (λw1 Qd Q3 Qh=>?_);refine Kc (by omega) ?_;refine normIf (m:=((k/8:Nat):Int)) (by decide) (Rq k (by omega)) ?_;have fin:∀b:Bool,b=As l k->∀w2,Ext w1 w2->∀w3,w2.grownBy w3 (some w.heap.size)->fz w N (ci l 0 v k) (Xm none 0 0 (if b then 1 else 0)) w3:=λb hb w2 Qg w3 ZY=>by
   have ZU:Mod (·=w.heap.size) w2 w3:=mQW ZY rfl;exact⟨none,0,0,[],_,rfl,ZU.ext (Qd.trans Qg) (λi hi=>by omega),SlS.nil _,(br N b).congr (λ_=>by rw[hb];rfl),λi hi=>by obtain⟨_,e,_⟩:=hi;cases e⟩
  refine Qy (λh1=>?_) (λh1=>?_)
  ·refine normIf (m:=((k/8:Nat):Int)) (by decide) (Rq k (by omega)) ?_;have hg:=Xn (show k/8<l.length by omega);generalize l[k/8]=x at hg;have Gt:=h8 x (QO hg);refine X5 ((h.ext hE).ext Qd) (by omega) (λad u hA hu QE=>?_);rw[Ec hg] at hu;cases hu;refine load QE ?_;have m8:k % 8<8:=oJ _ (by decide);refine Eb (d:=8) (by decide) ?_;refine norm (m:=((k % 8:Nat):Int)) (IntWalk.u64_in _ (by omega)) ?_;refine zk (k % 8) (2^(k % 8)) (by omega) (by show min ((k % 8:Nat):Int).toNat 8=_;omega) rfl ?_;have Xc:x/2^(k % 8)<256:=Nat.lt_of_le_of_lt (Nat.div_le_self _ _) (by omega);refine norm (m:=((x/2^(k % 8) % 2:Nat):Int)) (gQI _ Xc) ?_;refine call (Av (((x/2^(k % 8) % 2:Nat):Int)==1) w1) ?_;rintro _ w2 ⟨rfl,Qg⟩;refine Qz (Qh.ext Qg) rfl (sc rfl) (λw3 ZY _ Qt=>?_);refine Qs Qt rfl ?_;refine fin _ ?_ w2 Qg w3 ZY;unfold As;rw[XR (show k/8<l.length by omega),hg];simp only[iu,dH];exact gQJ _
  ·refine call (Av false w1) ?_;rintro _ w2 ⟨rfl,Qg⟩;refine Qz (Qh.ext Qg) rfl (sc rfl) (λw3 ZY _ Qt=>?_);refine Qs Qt rfl ?_;refine fin false ?_ w2 Qg w3 ZY;unfold As;rw[X4 (show¬k/8<l.length by omega)]<;>rfl
 | d+1,v,k,w,hE,hv,hk=>by
  have p6:2^v<=2^6:=Wl (by decide) (by omega);have ps:2^(v+1)=2^v+2^v:=by rw[lO];omega
  have ih:=Rs l A n c N w0 h h8 hN d;refine QD (c:={Nr with cuts:=[]}) Qa Tryz.func72 rfl rfl rfl ?_;refine new (λw1 Qd Q3 Qh=>?_);refine XB (by omega) ?_;refine call (eQq (v:Nat) w1 (by omega) (by omega)) ?_;rintro _ w2 ⟨XA,xn,xc,rfl,Qg,Ku,_⟩;refine new (λw3 Qk JI Qt=>?_);refine Qz Qt rfl (sc rfl) (λw4 cq _ Q4=>?_);have Jj:Ext w2 w4:=X9 Qk Qt cq;have J7:=Qg.trans Jj;have XL:=Qd.trans J7;have Yx:=Ku.ext Jj;have sv:=Ft (k:=N) (v:=v) (by omega) (by omega);have qB:∀w',Ext w4 w'->∀(j:Nat) (u:Value),[Value.slice XA xn xc,.int .i64 2][j]? =some u->w'.cell? ((⟨w2.heap.size,0,none⟩:Addr).add j)=some u:=λw' Qb j u hj=>by rw[(Q4.ext Qb).cell];exact hj
  refine XC Qa (Ext w4) 21 [(true,0),(true,1),(true,2),(true,3),(true,4),(true,5),(true,6),(true,7),(true,8),(true,9),(true,12),(true,13),(true,14),(true,15),(true,16),(true,18),(false,10),(false,11),(false,17),(false,19),(false,20)] (by kernel_rfl) (Ext.drew w4) ?_;refine Xq (vs:=[.slice XA xn xc,.int .i64 2]) rfl (λw' Qb j u hj=>qB w' Qb j u hj) ?_;refine Qi ((v+1:Nat):Int) (by omega) (by omega) ?_;refine norm (m:=((v:Nat):Int)) (IntWalk.u64_in _ (by omega)) ?_;refine normIf (m:=((2^v:Nat):Int)) (by omega) (gQK v (by omega)) ?_;refine Qi ((k+2^v:Nat):Int) (by omega) (by omega) ?_;refine Qi ((v+1:Nat):Int) (by omega) (by omega) ?_;refine Xq (vs:=[.slice XA xn xc,.int .i64 2]) rfl (λw' Qb j u hj=>qB w' Qb j u hj) ?_;refine call (ih (v+1) (k+2^v) _ ((hE.trans XL).trans (Ext.drew w4)) (by omega) (by omega)) ?_;rintro _ w5 ⟨T1,t1n,t1c,nd1,r1,rfl,Qv,hT1,KR,_⟩;have an:=(Ext.drew w4).trans Qv;refine⟨an,?_⟩;refine call (P6 (by omega) XA xn xc T1 t1n t1c w5 (Yx.ext an) hT1 sv KR) ?_;rintro _ w6 ⟨U1,u1n,u1c,ud1,q1,rfl,Xh,hU1,qr,_⟩;have Xz:=an.trans Xh;refine⟨Xz,?_⟩;refine call (ih (v+1) k _ ((hE.trans XL).trans Xz) (by omega) (by omega)) ?_;rintro _ w7 ⟨T2,t2n,t2c,i5,r2,rfl,Q2,Wb,GK,_⟩;have V7:=Xz.trans Q2;refine⟨V7,?_⟩;refine call (gQi (by omega) T2 t2n t2c XA xn xc w7 Wb (Yx.ext V7) GK sv) ?_;rintro _ w8 ⟨U2,u2n,u2c,ud2,q2,rfl,Q0,mW,BK,_⟩;have jd:=V7.trans Q0;refine⟨jd,?_⟩;refine call (P5 (by omega) U1 u1n u1c U2 u2n u2c w8 ((hU1.ext Q2).ext Q0) mW qr BK) ?_;rintro _ w9 ⟨U3,u3n,u3c,ud3,q3,rfl,XE,hU3,kK,gL⟩;have tP:=jd.trans XE;refine⟨tP,?_⟩;have VJ:=(XL.trans jd).size;have jQz:=(J7.trans jd).size;refine Qz ((Qh.ext J7).ext tP) rfl (sc rfl) (λQJ kZ _ Km=>?_);have Zp:Mod (·=w.heap.size) w9 QJ:=mQW kZ rfl;refine Qs Km rfl ?_;refine⟨U3,u3n,u3c,ud3,q3,rfl,Zp.ext (XL.trans tP) (λi hi=>by omega),hU3.mod Zp (λi hi e=>by have:=gL i hi;omega),kK.congr (λe=>?_),λi hi=>by have:=gL i hi;omega⟩;show Ki 1 (Ki 0 (e v) (ci l d (v+1) (k+2^v) e)) (ci l d (v+1) k e && !e v)=if e v then ci l d (v+1) (k+2^v) e else ci l d (v+1) k e
  cases e v<;>simp[Ki]
theorem Rt (l:List Nat)(A:Option Addr)(n c N:Nat)(w:World)(h:Sl w 1 A n c (Jt l))(h8:∀x∈l,x<=255)(hN:N<=6):
  Fn Tryz.prog 28 [.slice A n c,.int .i64 N] w (fz w N (ci l N 0 0)):=by
 refine QD (c:={c28 with cuts:=[]}) Qa Tryz.func28 rfl rfl rfl ?_;refine new (λw1 Qd Q3 Qh=>?_);refine norm (m:=((N:Nat):Int)) (by split<;>omega) ?_;refine norm (m:=((N:Nat):Int)) (by split<;>omega) ?_;refine call (Rs l A n c N w1 (h.ext Qd) h8 hN N 0 0 w1 (Ext.refl _) (by omega) (by decide)) ?_;rintro _ w2 ⟨U,un,uc,nd,r,rfl,Qg,hU,hS,hR⟩;refine Qz (Qh.ext Qg) rfl (sc rfl) (λw3 ZY _ Qt=>?_);have ZU:Mod (·=w.heap.size) w2 w3:=mQW ZY rfl;refine Qs Qt rfl ?_;exact⟨U,un,uc,nd,r,rfl,ZU.ext (Qd.trans Qg) (λi hi=>by omega),hU.mod ZU (λi hi e=>by have:=hR i hi;omega),hS,λi hi=>by have:=hR i hi;omega⟩
theorem gQL (ls:List (List Nat)):aG (Qo ls)=true:=by
 unfold aG;rcases E2 ls with h | h
 ·rw[h]<;>rfl
 ·rw[h];simp
theorem Ru {ls:List (List Nat)}(h:∀s∈ls,∀x∈s,x<256):∀x∈Qo ls,x<256:=λx hx=>by
 unfold Qo at hx;obtain⟨s,hs,hxs⟩:=ga.1 hx;rcases Xw.1 hxs with hxs | hxs
 ·exact h s hs x hxs
 ·simp only[QL] at hxs;subst hxs;decide
theorem Fy (ls:List (List Nat))(s:List Nat):Qo (ls++ [s])=Qo ls++(s++ [10]):=by simp[Qo]
theorem gQM {tx s:List Nat}{x:Sg}(h:x.t<=tx.length):ac (tx++s) x=ac tx x:=by
 unfold ac;rw[Mw h]
structure TxOk (s:List Nat):Prop where
 nl:10∉s
 dr:ZN s= .txt
 b8:∀x∈s,x<256
abbrev Rv (op:List Se):List (BF×BF):=op.map (λx=>(x.ou,x.re))
end
section
open Go Go.RowKit Go.ChangeShapes
variable {H:Type} {enc:TypeId×Value->H}
theorem law_of {P:Program}{f:FuncId}{l:List Value}{w:World}(h:Fn P f l w (λv w'=>v= .bool true/\Ext w w')):
  Calls P f l.toArray w λe w'=>e= .returned (.bool true)/\Below w.heap.size w w':=by
 unfold Fn at h;exact h.mono λe w' he=>by
  cases e with
  | returned v=>exact⟨by rw[he.1],he.2.below⟩
  | panicked ch=>exact he.elim
  | outgrown=>exact he.elim
theorem lQH {W:World}{a:Option Addr}{len cap:Nat}{d:DataW H}{p:List MemPlace}(h:DataW.Trod enc Tryz.prog W 0 (λ_=>true) true 37 (.slice a len cap) d p):∃l,Sl W 1 a len cap (XW l)/\Ks l:=by
 obtain⟨fU,hf⟩:=h;rcases Go.Deep.open_slice Tryz.underlying37 hf with⟨Zc,_⟩ | ⟨x,l,c,m,n,D,Pl,Zc,_,hl,hm,ZQ,_,hx⟩
 ·simp[Value.cells] at Zc;obtain⟨rfl,rfl,rfl⟩:=Zc;exact⟨[],Sl.nil W 1,λs hs=>by cases hs⟩
 ·simp[Value.cells] at Zc;obtain⟨rfl,rfl,rfl⟩:=Zc;simp only[if_true] at ZQ;subst ZQ;have hc9:Tryz.prog.cellsOf 9=1:=by kernel_rfl
  have each:∀i,i<m->∃y:ByteArray,y.size<=maxLen/\W.cell? (x.add i)=some (.string y):=by
   intro i hi;obtain⟨cs,h1,h2⟩:=hx i hi;rw[hc9] at h1;obtain⟨_,Xd,QE⟩:=World.cells?_some h1
   match cs,Xd with
   | [v],_=>
    obtain⟨s,e1,_,bF⟩:=DataW.trod_string Tryz.underlying9 h2;simp at e1;subst e1;refine⟨s,bF,?_⟩;have:=QE 0 (by decide);rw[ir] at this;simpa [add_add] using this
  have Xe:Inhabited ByteArray:=⟨⟨#[]⟩⟩
  obtain⟨Y,hY⟩:=Go.Deep.choose_lt each;refine⟨(List.range len).map (λi=>YK (Y i)),⟨by simp[XW],hl,hm,λ_=>⟨x,rfl,λj u hu=>?_⟩⟩,?_⟩
  ·simp only[XW,yF,VR,Dz] at hu;obtain⟨k,hk,rfl⟩:=hu;have hj:=(Z0.1 hk).1;simp at hj;have:k=j:=by rw[List.getElem?_range hj] at hk;exact(Option.some.inj hk).symm
   subst this;rw[(hY k (by omega)).2];simp[bQI]
  ·intro y hy;simp only[Z4,fe] at hy;obtain⟨i,hi,rfl⟩:=hy;have:=(hY i (by omega)).1;exact⟨bQH _,by rw[uU];simpa [maxLen] using this⟩
theorem Rw {W:World}{a:Option Addr}{len cap:Nat}{d:DataW H}{p:List MemPlace}(h:DataW.Trod enc Tryz.prog W 0 (λ_=>true) true 62 (.slice a len cap) d p):∃l,Sl W 1 a len cap (Jt l)/\∀b∈l,b<=255:=by
 obtain⟨fU,hf⟩:=h;rcases open_ints Tryz.underlying62 Tryz.underlying5 (by kernel_rfl) hf with⟨Zc,_⟩ | ⟨x,l,c,zs,Zc,_,hl,hm,hz,_,QE,xT⟩
 ·simp[Value.cells] at Zc;obtain⟨rfl,rfl,rfl⟩:=Zc;exact⟨[],Sl.nil W 1,by simp⟩
 ·simp[Value.cells] at Zc;obtain⟨rfl,rfl,rfl⟩:=Zc;simp at hz;have hr:∀n∈zs,0<=n/\n<=255:=λn hn=>by
   have:=xT n hn;simp[Lit.wf,IntKind.min,IntKind.max,IntKind.signed,IntKind.bits] at this;omega
  refine⟨(zs.take len).map Int.toNat,⟨by simp[Jt];omega,hl,hm,λ_=>⟨x,rfl,λj u hu=>?_⟩⟩,?_⟩
  ·simp only[Jt,yF,VR,Dz] at hu;obtain⟨y,hy,rfl⟩:=hu;rw[Dx] at hy;split at hy
   ·rename_i hj;have Dn:j<zs.length:=by omega
    rw[Xn Dn] at hy;cases hy;have h2:=hr zs[j] (My Dn);rw[QE j Dn];have:zs.getD j 0=zs[j]:=by simp[Dn]
    rw[this];show some (Value.int .u8 _)=some (Value.int .u8 ((zs[j].toNat:Nat):Int));congr 2;omega
   ·cases hy
  ·intro y hy;simp only[Z4] at hy;obtain⟨z,Q3,rfl⟩:=hy;have:=hr z (fa Q3);omega
theorem u8_of {a:Int}(w:(Lit.int .u8 a).wf=true):∃n:Nat,a=n/\n<=255:=by
 simp[Lit.wf,IntKind.min,IntKind.max,IntKind.signed,IntKind.bits] at w;exact⟨a.toNat,by omega,by omega⟩
end
section
open Go Go.RowKit Go.ChangeShapes
variable {H:Type} {enc:TypeId×Value->H}
theorem Rx {α:Type}{l:List α}(h:l.length=3):∃a b c,l=[a,b,c]:=by
 match l,h with
 | [a,b,c],_=>exact⟨a,b,c,rfl⟩
theorem gQN {W:World}{α:Type}{cells:α->List Value}{e:Nat}(yo:∀x,(cells x).length=e)(he:0<e){t te:TypeId}{fU:Nat}{cs:List Value}{z:DataW H×List MemPlace}
  (ht:Tryz.prog.underlying t=some (.slice te)) (hc5:Tryz.prog.cellsOf te=e) (Xe:Inhabited α)
  (one:∀(cs:List Value) (fU:Nat) (D:DataW H×List MemPlace),cs.length=e->DataW.trod enc Tryz.prog W 0 (λ_=>true) true fU te cs=some D->∃y,cells y=cs)
  {a:Option Addr} {len cap:Nat} (Zc:cs=[.slice a len cap]) (hf:DataW.trod enc Tryz.prog W 0 (λ_=>true) true fU t cs=some z):∃l,SlS cells e W a len cap l:=by
 subst Zc;rcases Go.Deep.open_slice ht hf with⟨Zc,_⟩ | ⟨x,l,c,m,n,D,Pl,Zc,_,hl,hm,ZQ,_,hx⟩
 ·simp at Zc;obtain⟨rfl,rfl,rfl⟩:=Zc;exact⟨[],SlS.nil W⟩
 ·simp at Zc;obtain⟨rfl,rfl,rfl⟩:=Zc;simp only[if_true] at ZQ;subst ZQ;have each:∀i,i<m->∃y:α,∀j v,(cells y)[j]? =some v->W.cell? (x.add (i*e+j))=some v:=by
   intro i hi;obtain⟨cs,h1,h2⟩:=hx i hi;rw[hc5] at h1;obtain⟨_,Xd,QE⟩:=World.cells?_some h1;obtain⟨y,rfl⟩:=one _ _ _ Xd h2;refine⟨y,λj v hj=>?_⟩;have hj5:j<e:=by have:=(Z0.1 hj).1;rw[yo] at this;exact this
   have:=QE j hj5;rw[add_add] at this;rw[this];exact hj
  obtain⟨Y,hY⟩:=Go.Deep.choose_lt each;refine⟨(List.range len).map Y,⟨⟨?_,hl,hm,λ_=>⟨x,rfl,λj u hu=>?_⟩⟩,by simp⟩⟩
  ·rw[cQ yo];simp
  ·have lw:=(Z0.1 hu).1;rw[cQ yo] at lw;simp at lw;have hi:j/e<len:=Nat.div_lt_of_lt_mul (by rw[uD];exact lw);have hr:j % e<e:=oJ _ he;have Df:j/e*e+j % e=j:=by rw[uD];exact Nat.div_add_mod j e
   have hg:((List.range len).map Y)[j/e]? =some (Y (j/e)):=by simp[hi]
   have hc:=Xn (l:=cells (Y (j/e))) (i:=j % e) (by rw[yo];exact hr);have h1:=fm yo _ _ _ _ _ hg hc;rw[Df,hu] at h1;have h2:=hY (j/e) (VQ hi hl) _ _ hc;rw[Df] at h2;rw[h2,<-Option.some.inj h1]
end
section
open Go Go.RowKit Go.ChangeShapes
variable {H:Type} {enc:TypeId×Value->H}
theorem gQO {α:Type}{p:α->Prop}{f:α->List Value}{sz:Nat}{W:World}{a:Option Addr}{len cap:Nat}(h:∃l:List {x:α // p x},SlS (λy=>f y.1) sz W a len cap l):∃l:List α,SlS f sz W a len cap l/\∀x∈l,p x:=by
 obtain⟨l,h1,h2⟩:=h;refine⟨l.map Subtype.val,⟨?_,by simpa using h2⟩,λx hx=>?_⟩
 ·rw[List.flatMap_map];exact h1
 ·obtain⟨y,_,rfl⟩:=Z4.1 hx;exact y.2
structure Lx where
 k:Nat
 i:Nat
 ws:List Nat
 A:Option Addr
 n:Nat
 c:Nat
structure LxOk (W:World) (x:Lx):Prop where
 k8:x.k<=255
 i8:x.i<=255
 sl:Sl W 1 x.A x.n x.c (Jt x.ws)
 w8:∀b∈x.ws,b<=255
theorem LxOk.ext {W W':World}{x:Lx}(h:LxOk W x)(k:Ext W W'):LxOk W' x:=⟨h.k8,h.i8,h.sl.ext k,h.w8⟩
end
noncomputable section
def AB (k v v':Nat)(ng ng':Bool):Bool:=decide (ZA (VY.take k) v ng=ZA (VY.take k) v' ng'->v=v'/\ng=ng')
theorem gQP:((List.range 5).all λk=>(List.range k).all λv=>(List.range k).all λv'=>AB k v v' true true&&AB k v v' true false&&AB k v v' false true&&AB k v v' false false)=true:=by decide+kernel
theorem gQQ {k:Nat}(hk:k<=4):vP (VY.take k) k:=λv v' ng ng' hv IZ=>by
 have h1:=Y2.1 gQP k (fe.2 (by omega));have h2:=Y2.1 h1 v (fe.2 hv);have h3:=Y2.1 h2 v' (fe.2 IZ);simp only[JL] at h3;obtain⟨⟨⟨a1,a2⟩,a3⟩,a4⟩:=h3;cases ng<;>cases ng'
 ·exact a8 a4
 ·exact a8 a3
 ·exact a8 a2
 ·exact a8 a1
def cj (k:Nat):List Nat:=(([[120],[121],[122],[120,32,121],[],[35],[35,105,102,102],[101,110,100]]:List (List Nat))[k % 8]?).getD []
theorem AC (k:Nat):TxOk (cj k)/\(cj k).length<=4:=by
 have h:k % 8<8:=oJ _ (by decide);unfold cj;generalize k % 8=r at h;rcases(show r=0∨r=1∨r=2∨r=3∨r=4∨r=5∨r=6∨r=7 by omega)with rfl | rfl | rfl | rfl | rfl | rfl | rfl | rfl <;>
  exact⟨⟨by decide,by rfl,by decide⟩,by decide⟩
def bw (l:List Nat):List (List Nat):=(l.take 6).map cj
theorem Ry (l:List Nat):(∀s∈bw l,TxOk s/\s.length<=4)/\(bw l).length<=6:=by
 refine⟨λs hs=>?_,?_⟩
 ·obtain⟨k,_,rfl⟩:=Z4.1 hs;exact AC k
 ·unfold bw;simp;omega
def dY (cls:List Nat)(texts:List (List Nat))(c:Nat):List (List Nat):=
 match texts[(cls[c]?).elim 0 (· % 4)]? with
 | some t=>bw t
 | none=>[cj ((cls[c]?).elim 0 (· % 4))]
theorem mI (cls:List Nat)(texts:List (List Nat))(c:Nat):(∀s∈dY cls texts c,TxOk s/\s.length<=4)/\(dY cls texts c).length<=6:=by
 unfold dY;split
 ·exact Ry _
 ·refine⟨λs hs=>?_,(by show 1<=6;decide)⟩;rw[QL.1 hs];exact AC _
theorem Rz (cls:List Nat)(texts:List (List Nat))(c:Nat):QT (Qo (dY cls texts c))=dY cls texts c:=
 j9 (λs hs=>((mI cls texts c).1 s hs).1.nl)
theorem gQR {c c':Nat}(h:c<8)(h':c'<8)(hb:∀i,i<3->c.testBit i=c'.testBit i):c=c':=by
 refine Nat.eq_of_testBit_eq (λi=>?_);by_cases hi:i<3
 ·exact hb i hi
 ·have e:8<=2^i:=Zf (by decide) (Wl (by decide) (show 3<=i by omega));rw[uF (by omega),uF (by omega)]
def kr (b c:Nat):Bool:=decide (b % 256=0)||b.testBit c
def WC (b:Nat):List Nat:=(List.range 8).filter (kr b)
theorem gQS {b c:Nat}(h:c∈WC b):c<8:=fe.1 (JZ.1 h).1
theorem RB (b:Nat):(WC b).length<=8:=Zf (uG _ _) (by simp)
theorem sU {b:Nat}(hb:b<=255):WC b≠ []:=by
 intro e;have h:=yQ.1 e;have h0:∀c,c<8->kr b c=false:=λc hc=>by have:=h c (fe.2 hc);simpa using this
 unfold kr at h0;have gQ:b≠0:=λe=>by subst e;have:=h0 0 (by decide);simp at this
 refine gQ (Nat.eq_of_testBit_eq (λi=>?_));rw[Nat.zero_testBit];by_cases hi:i<8
 ·have:=h0 i hi;rw[Bool.or_eq_false_iff] at this;exact this.2
 ·exact uF (VQ (show b<2^8 by omega) (Wl (by decide) (by omega)))
abbrev Pt:=List Nat×List (List Nat)
def kt:List Pt->Nat->List (List Nat)->List Pt
 | [],c,s=>[([c],s)]
 | p::ps,c,s=>if p.2=s then(p.1++ [c],p.2)::ps else p::kt ps c s
def ku (single:Bool)(f:Nat->List (List Nat))(ps:List Pt)(c:Nat):List Pt:=if single then ps++ [([c],f c)] else kt ps c (f c)
def YN (single:Bool)(f:Nat->List (List Nat))(S:List Nat):List Pt:=S.foldl (ku single f) []
structure PtOk (f:Nat->List (List Nat)) (S:List Nat) (ps:List Pt):Prop where
 cov:∀c∈S,∃p∈ps,c∈p.1
 tx:∀p∈ps,∀c∈p.1,c∈S/\f c=p.2
 ne:∀p∈ps,p.1≠ []
 dj:∀(i j:Nat) (p q:Pt) (c:Nat),ps[i]? =some p->ps[j]? =some q->c∈p.1->c∈q.1->i=j
theorem PtOk.snoc {f:Nat->List (List Nat)}{S:List Nat}{ps:List Pt}(h:PtOk f S ps){c:Nat}(hc:c∉S):PtOk f (S++ [c]) (ps++ [([c],f c)]):=by
 refine⟨λd hd=>?_,λp hp d hd=>?_,λp hp=>?_,λi j p q d hi hj hp hq=>?_⟩
 ·rcases Xw.1 hd with hd | hd
  ·obtain⟨p,h1,h2⟩:=h.cov d hd;exact⟨p,DM _ h1,h2⟩
  ·exact⟨([c],f c),by simp,hd⟩
 ·rcases Xw.1 hp with hp | hp
  ·exact⟨DM _ (h.tx p hp d hd).1,(h.tx p hp d hd).2⟩
  ·rw[QL.1 hp] at hd ⊢;have:d=c:=QL.1 hd;subst this;exact⟨by simp,rfl⟩
 ·rcases Xw.1 hp with hp | hp
  ·exact h.ne p hp
  ·rw[QL.1 hp];simp
 ·have key:∀i p,(ps++ [([c],f c)])[i]? =some p->d∈p.1->(i<ps.length/\ps[i]? =some p/\d≠c)∨(i=ps.length/\d=c):=λi p hi hp=>by
   by_cases hl:i<ps.length
   ·rw[Wh hl] at hi;exact .inl ⟨hl,hi,λe=>hc (e▸(h.tx p (QO hi) d hp).1)⟩
   ·rw[YI (by omega)] at hi;have:i-ps.length=0:=by
     by_cases e:i-ps.length=0
     ·exact e
     ·rw[lM (by simp;omega)] at hi;cases hi
    rw[this] at hi;cases hi;exact .inr ⟨by omega,QL.1 hp⟩
  rcases key i p hi hp with⟨_,a2,a3⟩ | ⟨a1,a2⟩<;>rcases key j q hj hq with⟨_,b2,b3⟩ | ⟨b1,b2⟩
  ·exact h.dj i j p q d a2 b2 hp hq
  ·exact Q8 b2 a3
  ·exact Q8 a2 b3
  ·omega
theorem PtOk.set {f:Nat->List (List Nat)}{S:List Nat}{ps:List Pt}(h:PtOk f S ps){c k:Nat}{p0:Pt}(hc:c∉S)(hk:ps[k]? =some p0)(hf:f c=p0.2):PtOk f (S++ [c]) (ps.set k (p0.1++ [c],p0.2)):=by
 have Jl:k<ps.length:=(Z0.1 hk).1;have qt:=QO hk;have get:∀i p,(ps.set k (p0.1++ [c],p0.2))[i]? =some p->(i=k/\p=(p0.1++ [c],p0.2))∨(i≠k/\ps[i]? =some p):=λi p hi=>by
  rw[Mt] at hi;by_cases e:k=i
  ·rw[Qf e,Qf (by omega)] at hi;exact .inl ⟨e.symm,(Option.some.inj hi).symm⟩
  ·rw[if_neg e] at hi;exact .inr ⟨λe'=>e e'.symm,hi⟩
 have mem:∀p∈ps.set k (p0.1++ [c],p0.2),p=(p0.1++ [c],p0.2)∨p∈ps:=λp hp=>by
  obtain⟨i,hi⟩:=ff.1 hp;rcases get i p hi with⟨_,e⟩ | ⟨_,e⟩
  ·exact .inl e
  ·exact .inr (QO e)
 refine⟨λd hd=>?_,λp hp d hd=>?_,λp hp=>?_,λi j p q d hi hj hp hq=>?_⟩
 ·have YD:(p0.1++ [c],p0.2)∈ps.set k (p0.1++ [c],p0.2):=ff.2 ⟨k,by rw[Mt,Qf rfl,Qf Jl]⟩;rcases Xw.1 hd with hd | hd
  ·obtain⟨p,h1,h2⟩:=h.cov d hd;obtain⟨i,hi⟩:=ff.1 h1;by_cases e:i=k
   ·subst e;rw[hk] at hi;cases hi;exact⟨_,YD,DM _ h2⟩
   ·exact⟨p,ff.2 ⟨i,by rw[Mt,if_neg (λe'=>e e'.symm),hi]⟩,h2⟩
  ·exact⟨_,YD,List.mem_append_right _ hd⟩
 ·rcases mem p hp with rfl | hp
  ·rcases Xw.1 hd with hd | hd
   ·exact⟨DM _ (h.tx p0 qt d hd).1,(h.tx p0 qt d hd).2⟩
   ·rw[QL.1 hd];exact⟨by simp,hf⟩
  ·exact⟨DM _ (h.tx p hp d hd).1,(h.tx p hp d hd).2⟩
 ·rcases mem p hp with rfl | hp
  ·simp
  ·exact h.ne p hp
 ·have nc:∀(i:Nat) (p:Pt),ps[i]? =some p->c∉p.1:=λi p hi hm=>hc (h.tx p (QO hi) c hm).1
  rcases get i p hi with⟨rfl,rfl⟩ | ⟨e1,ig⟩<;>rcases get j q hj with⟨rfl,rfl⟩ | ⟨e2,fR⟩
  ·rfl
  ·rcases Xw.1 hp with hp | hp
   ·exact h.dj _ _ _ _ d hk fR hp hq
   ·rw[QL.1 hp] at hq;exact Q8 hq (nc j q fR)
  ·rcases Xw.1 hq with hq | hq
   ·exact h.dj _ _ _ _ d ig hk hp hq
   ·rw[QL.1 hq] at hp;exact Q8 hp (nc i p ig)
  ·exact h.dj _ _ _ _ d ig fR hp hq
def gw (ps:List Pt)(s:List (List Nat)):Nat:=(ps.takeWhile (λp=>decide (p.2≠s))).length
theorem gQT (ps:List Pt)(s:List (List Nat)):gw ps s<=ps.length:=(DD _).length_le
theorem AE (c:Nat)(s:List (List Nat)):∀ps:List Pt,(∃p,ps[gw ps s]? =some p/\p.2=s/\kt ps c s=ps.set (gw ps s) (p.1++ [c],p.2))∨(gw ps s=ps.length/\kt ps c s=ps++ [([c],s)])
 | []=>.inr ⟨rfl,rfl⟩
 | p::ps=>by
  by_cases h:p.2=s
  ·have e:gw (p::ps) s=0:=by unfold gw;simp[h]
   rw[e,kt,Qf h];exact .inl ⟨p,rfl,h,rfl⟩
  ·have e:gw (p::ps) s=gw ps s+1:=by unfold gw;simp[h]
   rw[e,kt,if_neg h];rcases AE c s ps with⟨q,h1,h2,h3⟩ | ⟨h1,h2⟩
   ·exact .inl ⟨q,by simpa using h1,h2,by rw[h3];rfl⟩
   ·exact .inr ⟨by simp[h1],by rw[h2];rfl⟩
theorem gQU (single:Bool){f:Nat->List (List Nat)}{S:List Nat}{ps:List Pt}(h:PtOk f S ps){c:Nat}(hc:c∉S):PtOk f (S++ [c]) (ku single f ps c):=by
 cases single with
 | true=>exact h.snoc hc
 | false=>
  show PtOk f (S++ [c]) (kt ps c (f c));rcases AE c (f c) ps with⟨p,h1,h2,h3⟩ | ⟨_,h2⟩
  ·rw[h3];exact h.set hc h1 h2.symm
  ·rw[h2];exact h.snoc hc
theorem gQV (single:Bool)(f:Nat->List (List Nat))(S:List Nat)(c:Nat):YN single f (S++ [c])=ku single f (YN single f S) c:=by
 unfold YN;rw[MC]<;>rfl
theorem FB (single:Bool)(f:Nat->List (List Nat)):∀(S:List Nat),S.Nodup->PtOk f S (YN single f S):=by
 have key:∀(T S:List Nat) (ps:List Pt),(S++T).Nodup->PtOk f S ps->PtOk f (S++T) (T.foldl (ku single f) ps):=by
  intro T;induction T with
  | nil=>intro S ps _ h;simpa using h
  | cons c T ih=>
   intro S ps hn h;have hc:c∉S:=λhm=>by
    have:=(DC.1 hn).2.2 c hm c (by simp);exact this rfl
   have:=ih (S++ [c]) (ku single f ps c) (by simpa using hn) (gQU single h hc);simpa using this
 intro S hn;have h0:PtOk f [] []:=⟨(λc hc=>by cases hc),(λp hp=>by cases hp),(λp hp=>by cases hp),λi j p q c hi=>by simp at hi⟩
 have:=key S [] [] (by simpa using hn) h0;rw[bP] at this;exact this
theorem gQW (b:Nat):(WC b).Nodup:=(List.nodup_range).sublist (List.filter_sublist)
theorem FC (c:Nat):gt c=λi=>c.testBit i:=by
 funext i;unfold gt;rw[Nat.testBit_eq_decide_div_mod_eq]
def QF (n:Nat)(o:BF):List Nat:=(List.range (2^n)).filter (λc=>o (λi=>c.testBit i))
theorem Z7 {n:Nat}{o:BF}{c:Nat}:c∈QF n o↔c<2^n/\o (λi=>c.testBit i)=true:=by
 unfold QF;rw[JZ,fe]
def AF (n:Nat)(o:BF):Prop:=∀e e',(∀i,i<n->e i=e' i)->o e=o e'
theorem AG:∀(n:Nat)(e:Nat->Bool),∃c,c<2^n/\∀i,i<n->c.testBit i=e i
 | 0,e=>⟨0,by decide,λi hi=>Q8 hi (by omega)⟩
 | n+1,e=>by
  obtain⟨c,hc,hb⟩:=AG n e;cases he:e n with
  | false=>
   refine⟨c,Nat.lt_trans hc (Nat.pow_lt_pow_right (by decide) (by omega)),λi hi=>?_⟩;by_cases h:i<n
   ·exact hb i h
   ·have:i=n:=by omega
    subst this;rw[he];exact uF hc
  | true=>
   refine⟨2^n+c,by rw[lO];omega,λi hi=>?_⟩;by_cases h:i<n
   ·rw[Nat.testBit_two_pow_add_gt h,hb i h]
   ·have:i=n:=by omega
    subst this;rw[he,Nat.testBit_two_pow_add_eq,uF hc]<;>rfl
theorem Set1.dep {k:Nat}{nd:List Br}{r:Int}{o:BF}(h:Set1 k nd r o):AF k o:=λe e' he=>by
 rw[<-h.mean,<-h.mean];exact At h.vd.wf h.vin (λb hb=>by
  obtain⟨j,hj⟩:=ff.1 hb;have:=h.vd.1 j b hj;exact this.1) he (r.toNat+1) r (by omega) h.vd.2.2.1
theorem RC {n:Nat}{o:BF}(h:AF n o){p:BF}(hp:AF n p):(∀e,o e=true->p e=true)↔∀c∈QF n o,p (λi=>c.testBit i)=true:=by
 constructor
 ·exactλk c hc=>k _ (Z7.1 hc).2
 ·intro k e he;obtain⟨c,hc,hb⟩:=AG n e;rw[<-hp _ e hb];exact k c (Z7.2 ⟨hc,by rw[h _ e hb];exact he⟩)
theorem gQX {n:Nat}{o:BF}(h:AF n o):QF n o=[]↔∀e,o e=false:=by
 constructor
 ·intro k e;cases he:o e with
  | false=>rfl
  | true=>
   obtain⟨c,hc,hb⟩:=AG n e;have:c∈QF n o:=Z7.2 ⟨hc,by rw[h _ e hb];exact he⟩;rw[k] at this;cases this
 ·intro k;refine List.eq_nil_iff_forall_not_mem.2 (λc hc=>?_);have:=(Z7.1 hc).2;rw[k] at this;cases this
theorem Set1.root0 {k:Nat}{nd:List Br}{r:Int}{o:BF}(h:Set1 k nd r o):r=0↔QF k o=[]:=by
 rw[gQX h.dep];constructor
 ·rintro rfl e;rw[<-h.mean,JD (by decide)]<;>rfl
 ·intro h0;have:=h.unique (br k false) h0;exact QN Prod.snd this
theorem RD {n:Nat}{o p:BF}{v:Nat}(b:Bool)(hp:∀e,p e=(o e&&(e v==b))):QF n p=(QF n o).filter (λc=>c.testBit v==b):=by
 unfold QF;rw[List.filter_filter];congr 1;funext c;rw[hp,Bool.and_comm]
theorem gQY {n:Nat}{o:BF}:Apt (QF n o) 0 n:=λc hc c' Z2 hb=>by
 have h1:=(Z7.1 hc).1;have h2:=(Z7.1 Z2).1;refine Nat.eq_of_testBit_eq (λi=>?_);by_cases hi:i<n
 ·exact hb i (XJ _) (by omega)
 ·have e:2^n<=2^i:=Wl (by decide) (by omega);rw[uF (by omega),uF (by omega)]
structure Pr where
 o:BF
 t:List Nat
abbrev bits (c:Nat):Nat->Bool:=λi=>c.testBit i
def fP (ps:List Pr)(c:Nat):List Nat:=((ps.find? (λp=>p.o (bits c))).map (·.t)).getD []
structure PaOk (S:List Nat) (ps:List Pr):Prop where
 cov:∀c∈S,∃p∈ps,p.o (bits c)=true
 dj:∀c∈S,∀(i j:Nat) (p q:Pr),ps[i]? =some p->ps[j]? =some q->p.o (bits c)=true->q.o (bits c)=true->i=j
theorem PaOk.sub {S T:List Nat}{ps:List Pr}(h:PaOk S ps)(hT:∀c∈T,c∈S):PaOk T ps:=⟨λc hc=>h.cov c (hT c hc),λc hc=>h.dj c (hT c hc)⟩
theorem PaOk.get {S:List Nat}{ps:List Pr}(h:PaOk S ps){c:Nat}(hc:c∈S){p:Pr}(hp:p∈ps)(Kp:p.o (bits c)=true):fP ps c=p.t:=by
 unfold fP;cases hf:ps.find? (λp=>p.o (bits c))with
 | none=>
  have:=uC.1 hf p hp;exact Q8 Kp this
 | some q=>
  have hq:=List.find?_some hf;have cJ:=aQ2 hf;obtain⟨i,hi⟩:=ff.1 hp;obtain⟨j,hj⟩:=ff.1 cJ;have:=h.dj c hc i j p q hi hj Kp hq;subst this;rw[hi] at hj;cases hj;rfl
theorem gQZ {nm:List (List Nat)}{S:List Nat}{ps:List Pr}(h:PaOk S ps)(hS:S≠ []){p:Pr}(hp:p∈ps)(hw:∀c∈S,p.o (bits c)=true)(k v:Nat):XV nm (fP ps) k v S=QT p.t:=
 vS hS (λc hc=>h.get hc hp (hw c hc)) k v
theorem gQ0 {S:List Nat}{ps:List Pr}(h:PaOk S ps)(hS:S≠ []){v:Nat}(ha:Apt S v 0):∃p∈ps,∀c∈S,p.o (bits c)=true:=by
 obtain⟨c,hc⟩:∃c,c∈S:=⟨_,sS hS⟩
 obtain⟨p,hp,Kp⟩:=h.cov c hc;refine⟨p,hp,λd hd=>?_⟩;rw[ha d hd c hc (λi h1 h2=>by omega)];exact Kp
abbrev de (S:List Nat)(v:Nat):List Nat:=S.filter (λc=>c.testBit v)
abbrev fA (S:List Nat)(v:Nat):List Nat:=S.filter (λc=> !c.testBit v)
theorem RE {S:List Nat}{v:Nat}(h:fA S v=[]):de S v=S:=by
 rw[List.filter_eq_self];intro c hc;have:=yQ.1 h c hc;simpa using this
theorem gQ1 {S:List Nat}{v:Nat}(h:de S v=[]):fA S v=S:=by
 rw[List.filter_eq_self];intro c hc;have:=yQ.1 h c hc;simpa using this
theorem gQ2 {nm:List (List Nat)}{f:Nat->List Nat}{S:List Nat}(hS:S≠ []){k v:Nat}(h:fA S v=[]):XV nm f (k+1) v S=XV nm f k (v+1) (de S v):=by
 rw[pF hS,Qf (.inl h),RE h]
theorem gQ3 {nm:List (List Nat)}{f:Nat->List Nat}{S:List Nat}(hS:S≠ []){k v:Nat}(h:de S v=[]):XV nm f (k+1) v S=XV nm f k (v+1) (fA S v):=by
 rw[pF hS,Qf (.inr h),gQ1 h]
theorem gQ4 {nm:List (List Nat)}{f:Nat->List Nat}{S:List Nat}(hS:S≠ []){k v:Nat}(h:fA S v≠ [])(h':de S v≠ []):XV nm f (k+1) v S=if XV nm f k (v+1) (de S v)=XV nm f k (v+1) (fA S v)then XV nm f k (v+1) (de S v)else Wy nm v (XV nm f k (v+1) (de S v)) (XV nm f k (v+1) (fA S v)):=by
 rw[pF hS,if_neg (λe=>e.elim h h')]
theorem gQ5 {S:List Nat}{v k:Nat}(h:Apt S v (k+1)):Apt (de S v) (v+1) k:=h.sub (λc hc=>(JZ.1 hc).1) (λc hc c' Z2=>by
 rw[(JZ.1 hc).2,(JZ.1 Z2).2])
theorem gQ6 {S:List Nat}{v k:Nat}(h:Apt S v (k+1)):Apt (fA S v) (v+1) k:=h.sub (λc hc=>(JZ.1 hc).1) (λc hc c' Z2=>by
 have h1:=(JZ.1 hc).2;have h2:=(JZ.1 Z2).2;simp at h1 h2;rw[h1,h2])
def Kk (n:Nat)(nd:List Br)(r:Int):Bool:=open Classical in decide (XG nd r=0/\∀b∈nd,b.v<n)
def oD (x:DV):BF:=ev x.nd x.r
theorem sV {n:Nat}{nd:List Br}{r:Int}:Kk n nd r=true↔XG nd r=0/\VIn n nd:=by unfold Kk;exact decide_eq_true_iff
theorem gy {n:Nat}{x:DV}(h:Kk n x.nd x.r=true):Set1 n x.nd x.r (oD x):=by
 obtain⟨h1,h2⟩:=sV.1 h;exact⟨(fw.1 h1).2,h2,λe=>rfl⟩
theorem iQ {n:Nat}(hn:n<=12){x:DV}{o:BF}(h:Set1 n x.nd x.r o):Kk n x.nd x.r=true/\∀e,oD x e=o e:=
 ⟨sV.2 ⟨h.chk hn,h.vin⟩,λe=>h.mean e⟩
abbrev gz (n:Nat)(R:List Nat)(o:BF):List Nat:=R.filter (λc=> !o (bits c))
def ae (n:Nat):List Nat->List (DV×List Nat)->Bool
 | R,[]=>decide (R=[])
 | R,p::ps=>(Kk n p.1.nd p.1.r&&decide (QF n (oD p.1)≠ [])&&(QF n (oD p.1)).all (λc=>decide (c∈R))&&Ve p.2)&&ae n (gz n R (oD p.1)) ps
def Zn (ps:List (DV×List Nat)):List Pr:=ps.map (λp=>⟨oD p.1,p.2⟩)
def kx (nm:List (List Nat))(d:DV)(ps:List (DV×List Nat)):Except Int (List Nat):=
 if ZM nm=false∨Kk nm.length d.nd d.r=false then .error 1
 else if ae nm.length (QF nm.length (oD d)) ps=false then .error 290
 else if ps=[] then .ok []
 else if 1048576<(Qo (XV nm (fP (Zn ps)) nm.length 0 (QF nm.length (oD d)))).length then .error 2
 else .ok (Qo (XV nm (fP (Zn ps)) nm.length 0 (QF nm.length (oD d))))
theorem FD {n:Nat}{R:List Nat}{p:DV×List Nat}{ps:List (DV×List Nat)}:ae n R (p::ps)=true↔(Kk n p.1.nd p.1.r=true/\QF n (oD p.1)≠ []/\(∀c∈QF n (oD p.1),c∈R)/\Ve p.2=true)/\ae n (gz n R (oD p.1)) ps=true:=by
 rw[ae];simp only[JL,Vl,Y2];constructor
 ·rintro⟨⟨⟨⟨h1,h2⟩,h3⟩,h4⟩,h5⟩;exact⟨⟨h1,h2,h3,h4⟩,h5⟩
 ·rintro⟨⟨h1,h2,h3,h4⟩,h5⟩;exact⟨⟨⟨⟨h1,h2⟩,h3⟩,h4⟩,h5⟩
theorem RF {n:Nat}:∀{ps:List (DV×List Nat)}{R:List Nat},(∀c∈R,c<2^n)->ae n R ps=true->PaOk R (Zn ps)/\(∀p∈ps,Kk n p.1.nd p.1.r=true/\QF n (oD p.1)≠ []/\Ve p.2=true/\∀c∈QF n (oD p.1),c∈R)
 | [],R,hR,h=>by
  have:R=[]:=by simpa [ae] using h
  subst this;exact⟨⟨(λc hc=>by cases hc),λc hc=>by cases hc⟩,λp hp=>by cases hp⟩
 | p::ps,R,hR,h=>by
  obtain⟨⟨h1,h2,h3,h4⟩,h5⟩:=FD.1 h;obtain⟨⟨k1,k2⟩,k3⟩:=RF (R:=gz n R (oD p.1)) (λc hc=>hR c (JZ.1 hc).1) h5;have Xe:∀q∈ps,∀c,c<2^n->oD q.1 (bits c)=true->oD p.1 (bits c)=false:=λq hq c hc LF=>by
   have:=(k3 q hq).2.2.2 c (Z7.2 ⟨hc,LF⟩);have:=(JZ.1 this).2;simpa using this
  refine⟨⟨λc hc=>?_,λc hc i j a b hi hj ha hb=>?_⟩,λq hq=>?_⟩
  ·cases Kp:oD p.1 (bits c)with
   | true=>exact⟨_,MD,Kp⟩
   | false=>
    obtain⟨q,hq,LF⟩:=k1 c (JZ.2 ⟨hc,by simp[Kp]⟩);exact⟨q,uH _ hq,LF⟩
  ·have nv:=hR c hc;cases i with
   | zero=>
    cases j with
    | zero=>rfl
    | succ j=>
     have ea:a=⟨oD p.1,p.2⟩:=by simpa [Zn] using hi.symm
     have hjm:b∈Zn ps:=QO (by simpa [Zn] using hj);obtain⟨q,hq,rfl⟩:=Z4.1 hjm;subst ea;have:=Xe q hq c nv hb;exact Q8 (ha.symm.trans this) (by decide)
   | succ i=>
    have him:a∈Zn ps:=QO (by simpa [Zn] using hi);obtain⟨q,hq,rfl⟩:=Z4.1 him;have Kp:=Xe q hq c nv ha;cases j with
    | zero=>
     have eb:b=⟨oD p.1,p.2⟩:=by simpa [Zn] using hj.symm
     subst eb;exact Q8 (hb.symm.trans Kp) (by decide)
    | succ j=>
     have LG:c∈gz n R (oD p.1):=JZ.2 ⟨hc,by simp[Kp]⟩;have:=k2 c LG i j _ _ (by simpa [Zn] using hi) (by simpa [Zn] using hj) ha hb;rw[this]
  ·rcases QZ.1 hq with rfl | hq
   ·exact⟨h1,h2,h4,h3⟩
   ·obtain⟨a1,a2,a3,a4⟩:=k3 q hq;exact⟨a1,a2,a3,λc hc=>(JZ.1 (a4 c hc)).1⟩
theorem gQ7 (ls:List (List Nat))(A:Option Addr)(n c:Nat)(w:World)(h:Sl w 1 A n c (XW ls))(hb:∀s∈ls,∀x∈s,x<256):
  Fn Tryz.prog 169 [.slice A n c,.func (.func 47) #[] #[]] w (λu w'=>(∃k:Int,u= .int .i64 k/\(0<=k↔ls.any KW=true))/\Ext w w'):=by
 have hn:ls.length=n:=by have:=h.len;rw[bn] at this;omega
 have ZO:=h.le;have bN:=h.cap;refine QD (c:={cQI with cuts:=[]}) Qa Tryz.func169 rfl rfl rfl ?_;refine loop Qa [8] (λi:Nat=>[.int .i64 i]) (λi w'=>Ext w w'/\i<=n/\(ls.take i).any KW=false) (λi _=>n-i) 0 rfl ⟨Ext.refl _,XJ _,by simp⟩ ?_;rintro i w1 ⟨Qd,hi,Xf⟩;refine Qy (λc1=>?_) (λc1=>?_)
 ·have Xe:i<n:=by omega
  have hg:ls[i]? =some ls[i]:=Xn (by omega);have up:=hb _ (QO hg);generalize ls[i]=l at*;refine X5 (h.ext Qd) Xe (λad u hA hu QE=>?_);rw[lZ hg] at hu;cases hu;refine load QE ?_;refine call (Ay l w1 up) ?_;rintro _ w2 ⟨rfl,Qg⟩;have YX:(ls.take (i+1)).any KW=KW l:=by rw[VT,hg,List.any_append,Xf];simp
  refine Wn (λd1=>?_) (λd1=>?_)
  ·have d1:KW l=true:=d1;exact⟨⟨i,rfl,⟨λ_=>uI.2 ⟨l,QO hg,d1⟩,λ_=>by omega⟩⟩,Qd.trans Qg⟩
  ·have d1:KW l=false:=d1;simp only[maxLen] at bN;refine Qi ((i+1:Nat):Int) (by show((i:Nat):Int)+1=_;omega) (by omega) ?_;exact⟨i+1,rfl,⟨Qd.trans Qg,Xe,by rw[YX,d1]⟩,by show n-(i+1)<n-i;omega⟩
 ·have Xe:i=n:=by omega
  rw[Xe,Jm (by omega)] at Xf;exact⟨⟨-1,rfl,by rw[Xf];simp⟩,Qd⟩
theorem RG (ls:List (List Nat))(A:Option Addr)(n c:Nat)(w:World)(h:Sl w 1 A n c (XW ls))(hb:∀s∈ls,∀x∈s,x<256):
  Fn Tryz.prog 114 [.slice A n c,.func (.func 47) #[] #[]] w (λu w'=>u= .bool (ls.any KW)/\Ext w w'):=by
 refine QD (c:={bQ7 with cuts:=[]}) Qa Tryz.func114 rfl rfl rfl ?_;refine call (gQ7 ls A n c w h hb) ?_;rintro _ w1 ⟨⟨k,rfl,hk⟩,Qd⟩;refine⟨?_,Qd⟩;refine QN Value.bool ?_;cases ha:ls.any KW with
 | true=>exact XR (hk.2 ha)
 | false=>exact X4 (λhh=>by rw[hk.1 hh] at ha;cases ha)
theorem RH (l:List Nat)(w:World)(hl:∀x∈l,x<256)(Xd:l.length<=1000000000):
  Fn Tryz.prog 63 [.string (Qe l)] w (λu w'=>u= .bool (Ve l)/\Ext w w'):=by
 refine QD (c:={c63 with cuts:=[]}) Qa Tryz.func63 rfl rfl rfl ?_;have fin:∀w1,Ext w w1->aG l=true->∀ls,W8 l=ls->∀w2,Ext w1 w2->(Value.bool (!(ls.any KW))= .bool (Ve l)/\Ext w w2):=λw1 Qd ht ls KC w2 Qg=>by
  refine⟨?_,Qd.trans Qg⟩;rw[<-KC,vK (mF ht),fQC,Bool.not_not];unfold Ve;rw[ht,dH]
 by_cases h0:l=[]
 ·subst h0;refine Xa rfl ?_;refine call (Ai [] w hl Xd) ?_;rintro _ w1 ⟨A,c,rfl,Qd,KR⟩;refine call (RG _ A _ c w1 KR.1 (λs hs=>by simp[W8,ZT] at hs)) ?_;rintro _ w2 ⟨rfl,Qg⟩;exact fin w1 Qd rfl _ rfl w2 Qg
 ·refine Q9 (λe=>h0 (Jc hl (by simp) e)) ?_;refine call (gQu l w hl (by omega)) ?_;rintro _ _ ⟨rfl,rfl⟩;refine Wn (λd1=>?_) (λd1=>?_)
  ·have d1:(l.getLast? ==some 10)=true:=d1;have ht:aG l=true:=by unfold aG;rw[d1,Bool.or_true]
   refine call (Ai l w hl Xd) ?_;rintro _ w1 ⟨A,c,rfl,Qd,KR⟩;refine call (RG _ A _ c w1 KR.1 (λs hs x hx=>by
    rw[vK (mF ht)] at hs;obtain⟨r,hr,rfl⟩:=Z4.1 hs;rcases Xw.1 hx with hx | hx
    ·have hu:=W6 (mF ht);refine hl x ?_;rw[<-hu];exact ga.2 ⟨r,hr,by simp[hx]⟩
    ·rw[QL.1 hx];decide)) ?_
   rintro _ w2 ⟨rfl,Qg⟩;exact fin w1 Qd ht _ rfl w2 Qg
  ·have d1:(l.getLast? ==some 10)=false:=d1;refine⟨?_,Ext.refl _⟩;unfold Ve aG;rw[d1,X4 h0]<;>rfl
theorem gQ8 (b:Br)(n bx:Nat)(w:World)(hB:Blk w bx 3 [.int .i64 n]):
  Fn Tryz.prog 110 [.agg b.cells.toArray,.pointer (some ⟨bx,0,none⟩)] w (λu w'=>u= .bool (decide ((n:Int)<=b.v))/\Ext w w'):=by
 refine QD (c:={bQ4 with cuts:=[]}) Qa Tryz.func110 rfl rfl rfl ?_;refine new (λw1 Qd Q3 Qh=>?_);refine Qx Qh rfl ?_;refine Qx (hB.ext Qd) rfl ?_;exact⟨rfl,Qd⟩
theorem gQ9 (nd:List Br)(A:Option Addr)(m c n bx:Nat)(w:World)(h:SB w A m c nd)(hB:Blk w bx 3 [.int .i64 n]):
  Fn Tryz.prog 165 [.slice A m c,.func (.func 110) #[] #[.pointer (some ⟨bx,0,none⟩)]] w (λu w'=>(∃k:Int,u= .int .i64 k/\(0<=k↔∃b∈nd,(n:Int)<=b.v))/\Ext w w'):=by
 have hn:=h.2;have ZO:=h.1.le;have bN:=h.1.cap;refine QD (c:={cQF with cuts:=[]}) Qa Tryz.func165 rfl rfl rfl ?_;refine loop Qa [8] (λi:Nat=>[.int .i64 i]) (λi w'=>Ext w w'/\i<=m/\∀b∈nd.take i,¬(n:Int)<=b.v) (λi _=>m-i) 0 rfl ⟨Ext.refl _,XJ _,λb hb=>by simp at hb⟩ ?_;rintro i w1 ⟨Qd,hi,Xf⟩;refine Qy (λc1=>?_) (λc1=>?_)
 ·have Xe:i<m:=by omega
  refine Zw Ws (h.ext Qd) rfl Xe (λp b hb hc=>?_);refine Kr (vs:=b.cells) rfl hc ?_;refine call (gQ8 b n bx w1 (hB.ext Qd)) ?_;rintro _ w2 ⟨rfl,Qg⟩;have ur:=QO hb;refine Qy (λd1=>?_) (λd1=>?_)
  ·exact⟨⟨i,rfl,⟨λ_=>⟨b,ur,d1⟩,λ_=>by omega⟩⟩,Qd.trans Qg⟩
  ·simp only[maxLen] at bN;refine Qi ((i+1:Nat):Int) (by show((i:Nat):Int)+1=_;omega) (by omega) ?_;refine⟨i+1,rfl,⟨Qd.trans Qg,Xe,λb' hb'=>?_⟩,by show m-(i+1)<m-i;omega⟩;rw[VT,hb] at hb';rcases Xw.1 hb' with hb' | hb'
   ·exact Xf b' hb'
   ·have:b'=b:=by simpa using hb'
    rw[this];exact d1
 ·have Xe:i=m:=by omega
  rw[Xe,Jm (by omega)] at Xf;exact⟨⟨-1,rfl,⟨λhh=>Q8 hh (by decide),λ⟨b,hb,hh⟩=>Q8 hh (Xf b hb)⟩⟩,Qd⟩
theorem FE (A:Option Addr)(m c n:Nat)(nd:List Br)(r:Int)(w:World)(h:SB w A m c nd):
  Fn Tryz.prog 61 [Xm A m c r,.int .i64 n] w (λu w'=>u= .bool (Kk n nd r)/\Ext w w'):=by
 refine QD (c:={c61 with cuts:=[]}) Qa Tryz.func61 rfl rfl rfl ?_;refine new (λw1 Qd Q3 Qh=>?_);refine new (λw2 Qg Zb Qw=>?_);have Q7:=Qd.trans Qg;refine Qs (Qh.ext Qg) rfl ?_;refine call (zI A m c nd r w2 (h.ext Q7)) ?_;rintro _ w3 ⟨rfl,Qk⟩;have QW:=Q7.trans Qk;refine Zh (λc1=>?_) (λc1=>?_)
 ·refine Qx ((Qh.ext Qg).ext Qk) rfl ?_;refine call (QD (c:={bQ3 with cuts:=[]}) (R:=λu w'=>u= .bool (decide (∃b∈nd,(n:Int)<=b.v))/\Ext w3 w') Qa Tryz.func109 rfl rfl rfl ?_) ?_
  ·refine call (gQ9 nd A m c n w1.heap.size w3 (h.ext QW) (Qw.ext Qk)) ?_;rintro _ w4 ⟨⟨k,rfl,hk⟩,Qq⟩;refine⟨?_,Qq⟩;refine QN Value.bool ?_;by_cases hh:∃b∈nd,(n:Int)<=b.v
   ·rw[XR hh];exact XR (hk.2 hh)
   ·rw[X4 hh];exact X4 (λh2=>hh (hk.1 h2))
  rintro _ w4 ⟨rfl,Qq⟩;refine⟨?_,QW.trans Qq⟩;refine QN Value.bool ?_;by_cases hh:∃b∈nd,(n:Int)<=b.v
  ·rw[XR hh]
   symm;refine dK.2 (λho=>?_);obtain⟨b,hb,hv⟩:=hh;have:=(sV.1 ho).2 b hb;omega
  ·rw[X4 hh];exact(sV.2 ⟨c1,λb hb=>by
    apply Classical.byContradiction;intro hv;exact hh ⟨b,hb,by omega⟩⟩).symm
 ·refine⟨?_,QW⟩;refine QN Value.bool ?_;exact(dK.2 (λho=>c1 (sV.1 ho).1)).symm
theorem hQa {k:Nat}(hk:k<=12)(x y:DV){o o':BF}(w:World)(h:SB w x.A x.n x.c x.nd)(h':SB w y.A y.n y.c y.nd)(s:Set1 k x.nd x.r o)(s':Set1 k y.nd y.r o'):
  Fn Tryz.prog 115 [Xm x.A x.n x.c x.r,Xm none 0 0 0,Xm y.A y.n y.c y.r] w (vO w k (λe=> !o e&&o' e)):=by
 have nU:=h.2;have hyl:=h'.2;have l1:=s.len hk;have l2:=s'.len hk;refine QD (c:={bQ8 with cuts:=[]}) Qa Tryz.func115 rfl rfl rfl ?_;refine new (λw1 Qd Q3 Qh=>?_);refine new (λw2 Qg Zb Qw=>?_);refine new (λw3 Qk JI Qt=>?_);refine new (λw4 Qq KY Q4=>?_);have KQ:=Qk.trans Qq;have Jj:=Qg.trans KQ;have XL:=Qd.trans Jj;have JU:=Qh.ext Jj;have kU:=Qw.ext KQ;have iY:=Qt.ext Qq;refine Qs JU rfl ?_;refine Qs kU rfl ?_;refine Qs iY rfl ?_;refine XI Qa [x.cells,(⟨none,0,0,[],0⟩:DV).cells,y.cells] rfl rfl rfl rfl rfl ⟨rfl,rfl,rfl,rfl,rfl,rfl,⟨⟩⟩ rfl (λcs h=>by simp only[QZ,Jf,Jn] at h;rcases h with rfl | rfl | rfl<;>rfl) rfl (by decide) (by decide) ?_;intro w5 Qv KJ QK;have JV:=XL.trans Qv;have hL:SlS DV.cells 2 w5 (some ⟨w4.heap.size,0,none⟩) 3 3 [x,⟨none,0,0,[],0⟩,y]:=⟨Sl.own (sz:=2) (n:=3) QK (QC _) (by decide) (by simp[DV.cells]),rfl⟩
 refine call (zW _ 3 3 _ w5 hL (λz hz=>by
  simp only[QZ,Jf,Jn] at hz;rcases hz with rfl | rfl | rfl
  ·exact h.ext JV
  ·exact SlS.nil _
  ·exact h'.ext JV)) ?_
 rintro v w6 ⟨rfl,Xh⟩;have Xz:=Qv.trans Xh;have XM:=XL.trans Xz;have gW:bY [x,(⟨none,0,0,[],0⟩:DV),y]=0:=by
  have e1:XG x.nd x.r=0:=s.chk hk;have e2:XG y.nd y.r=0:=s'.chk hk;have e3:XG ([]:List Br) 0=0:=(br k false).chk hk;simp[bY,e1,e2,e3]
 rw[gW];refine Wo rfl ?_;refine Qs (JU.ext Xz) rfl ?_;refine Qs (kU.ext Xz) rfl ?_;refine Qs (iY.ext Xz) rfl ?_;have va:=s.vd;have vb:=s'.vd;have hb2:=EO va vb 4;have xW:(x.nd.length+2)*(y.nd.length+2)<=4098*4098:=Nat.mul_le_mul (by omega) (by omega);refine call (fQI x.A x.n x.c x.nd x.r y.A y.n y.c y.nd y.r w6 (h.ext XM) (h'.ext XM) va.dok vb.dok va.2.1 (by have:=va.2.2.1;omega) vb.2.1 (by have:=vb.2.2.1;omega) (by omega) (by omega) (by omega)) ?_;have c4:Set1 k _ _ (λe=> !o e&&o' e):=(dS s s' 4).congr (λe=>by simp[Ki]);have Jr:=gm hk s s' 4;have dD:iI (VE x.nd x.r y.nd y.r 4)=(VE x.nd x.r y.nd y.r 4,0):=by unfold iI;rw[if_neg (by have:=c4.len hk;omega)]
 generalize VE x.nd x.r y.nd y.r 4=D at*;obtain⟨D1,D2⟩:=D;rintro v w7 ⟨OA,m,oc,rfl,Q2,tI,Kt⟩;have V7:=Xz.trans Q2;have TH:=XM.size;refine call (Pi OA m oc _ _ w4 w7 tI (λi hi=>by have:=Kt i hi;have:=Xz.size;omega) V7) ?_;rw[dD];rintro v w8 ⟨PA,q,pc,rfl,Q0,wJ,nh⟩;refine Qz (Q4.ext Q0) rfl (sc rfl) (λw9 eC _ JT=>?_);have Ze:Mod (·=w3.heap.size) w8 w9:=mQW eC rfl;refine Qs JT rfl ?_;exact⟨PA,q,pc,D1,D2,rfl,Ze.ext (XL.trans Q0) (λi hi=>by omega),⟨wJ.1.modS Ze (λ_ i hi e=>by have:=nh i hi;omega),wJ.2⟩,c4,λi hi=>by have:=nh i hi;omega⟩
theorem FF (w:World):Fn Tryz.prog 44 [.int .i64 0] w (λ_ w'=>w=w'):=by
 refine QD (c:={Nm with cuts:=[]}) Qa Tryz.func44 rfl rfl rfl ?_;refine Wo rfl ?_;exact rfl
theorem AH (x:DV)(w:World):Fn Tryz.prog 100 [Xm x.A x.n x.c x.r,.int .i64 0] w (λu w'=>u=Xm x.A x.n x.c x.r/\Ext w w'):=by
 refine QD (c:={bQV with cuts:=[]}) Qa Tryz.func100 rfl rfl rfl ?_;refine new (λw1 Qd Q3 Qh=>?_);refine new (λw2 Qg Zb Qw=>?_);refine call (FF w2) ?_;rintro _ _ rfl;refine Qs (Qh.ext Qg) rfl ?_;refine Qz Qw rfl (sc rfl) (λw3 ZY _ Qt=>?_);have ZU:Mod (·=w1.heap.size) w2 w3:=mQW ZY rfl;refine Qs Qt rfl ?_;exact⟨rfl,ZU.ext (Qd.trans Qg) (λi hi=>by omega)⟩
theorem mJ {k:Nat}(hk:k<=12)(x y:DV){o o':BF}(w:World)(h:SB w x.A x.n x.c x.nd)(h':SB w y.A y.n y.c y.nd)(s:Set1 k x.nd x.r o)(s':Set1 k y.nd y.r o'):
  Fn Tryz.prog 49 [Xm x.A x.n x.c x.r,Xm y.A y.n y.c y.r] w (fz w k (λe=>o e&&o' e)):=by
 refine QD (c:={c49 with cuts:=[]}) Qa Tryz.func49 rfl rfl rfl ?_;refine new (λw1 Qd Q3 Qh=>?_);refine new (λw2 Qg Zb Qw=>?_);refine new (λw3 Qk JI Qt=>?_);have Vt:=Qg.trans Qk;have QW:=Qd.trans Vt;refine Qs (Qh.ext Vt) rfl ?_;refine Qs (Qw.ext Qk) rfl ?_;refine call (vE x.A x.n x.c x.nd x.r y.A y.n y.c y.nd y.r w3 (h.ext QW) (h'.ext QW)) ?_;rw[gm hk s s' 0];have c1:Set1 k _ _ (λe=>o e&&o' e):=(dS s s' 0).congr (λe=>by simp[Ki]);generalize VE x.nd x.r y.nd y.r 0=D at*;obtain⟨D1,D2⟩:=D;rintro _ w5 ⟨PA,pn,pc,rfl,Qv,p9,aO⟩;refine call (AH ⟨PA,pn,pc,D1,D2⟩ w5) ?_;rintro _ w6 ⟨rfl,Xh⟩;have KS:=Qv.trans Xh;refine Qz (Qt.ext KS) rfl (sc rfl) (λw7 Zu _ Q6=>?_);have Xb:Mod (·=w2.heap.size) w6 w7:=mQW Zu rfl;refine Qs Q6 rfl ?_;exact⟨PA,pn,pc,D1,D2,rfl,Xb.ext (QW.trans KS) (λi hi=>by omega),SB.mod (p9.ext Xh) Xb (λi hi e=>by have:=aO i hi;omega),c1,λi hi=>by have:=aO i hi;omega⟩
theorem dZ {k:Nat}(hk:k<=12)(x y:DV){o o':BF}(w:World)(h:SB w x.A x.n x.c x.nd)(h':SB w y.A y.n y.c y.nd)(s:Set1 k x.nd x.r o)(s':Set1 k y.nd y.r o'):
  Fn Tryz.prog 64 [Xm x.A x.n x.c x.r,Xm y.A y.n y.c y.r] w (fz w k (λe=>o e && !o' e)):=by
 refine QD (c:={c64 with cuts:=[]}) Qa Tryz.func64 rfl rfl rfl ?_;refine new (λw1 Qd Q3 Qh=>?_);refine new (λw2 Qg Zb Qw=>?_);refine new (λw3 Qk JI Qt=>?_);have Vt:=Qg.trans Qk;have QW:=Qd.trans Vt;refine Qs (Qw.ext Qk) rfl ?_;refine Qs (Qh.ext Vt) rfl ?_;refine call (hQa hk y x w3 (h'.ext QW) (h.ext QW) s' s) ?_;rintro _ w5 ⟨PA,pn,pc,D1,D2,rfl,Qv,p9,gI,aO⟩;refine call (AH ⟨PA,pn,pc,D1,D2⟩ w5) ?_;rintro _ w6 ⟨rfl,Xh⟩;have KS:=Qv.trans Xh;refine Qz (Qt.ext KS) rfl (sc rfl) (λw7 Zu _ Q6=>?_);have Xb:Mod (·=w2.heap.size) w6 w7:=mQW Zu rfl;refine Qs Q6 rfl ?_;exact⟨PA,pn,pc,D1,D2,rfl,Xb.ext (QW.trans KS) (λi hi=>by omega),SB.mod (p9.ext Xh) Xb (λi hi e=>by have:=aO i hi;omega),gI.congr (λe=>by rw[Bool.and_comm]),λi hi=>by have:=aO i hi;omega⟩
abbrev JG (ls:List (List Nat)):List Value:=XW (ls.map (·++ [10]))
theorem AI (ls:List (List Nat)):(JG ls).length=ls.length:=by rw[bn,JM]
theorem ZH {ls:List (List Nat)}{j:Nat}{s:List Nat}(h:ls[j]? =some s):(JG ls)[j]? =some (.string (Qe (s++ [10]))):=lZ (by rw[VR,h];rfl)
theorem Sl.from {w:World}{n c l:Nat}{A:Option Addr}{cs:List Value}(h:Sl w 1 A n c cs)(hl:l<=n):Sl w 1 (if c=l then A else A.map (·.add (l*1))) (n-l) (c-l) (cs.drop l):=by
 have h1:=h.len;have h2:=h.le;have h3:=h.cap;refine⟨by rw[Y3];omega,by omega,by omega,λh0=>?_⟩;obtain⟨ad,rfl,hc⟩:=h.at_ (by omega);refine⟨ad.add (l*1),by rw[if_neg (by omega)];rfl,λj u hu=>?_⟩;rw[Addr.add_add,ir];exact hc _ _ (by rw[DN] at hu;exact hu)
def ky (ls:List (List Nat)):Prop:=∀s∈ls,(∀x∈s,x<256)/\s.length<=1000000000
theorem YO {s:List Nat}(h:∀x∈s,x<256):∀x∈s++ [10],x<256:=λx hx=>by
 rcases Xw.1 hx with hx | hx
 ·exact h x hx
 ·rw[QL.1 hx];decide
def aI (back:Bool)(a:List (List Nat)):List (List Nat):=if back then a.reverse else a
theorem FG (back:Bool)(a:List (List Nat)):(aI back a).length=a.length:=by cases back<;>simp[aI]
theorem RI {back:Bool}{a:List (List Nat)}{k:Nat}{s:List Nat}(h:(aI back a)[k]? =some s):a[if back then a.length-1-k else k]? =some s:=by
 cases back with
 | false=>exact h
 | true=>
  have hk:k<a.length:=by have:=(Z0.1 h).1;rw[FG] at this;exact this
  rw[show aI true a=a.reverse from rfl,List.getElem?_reverse hk] at h;exact h
theorem hQb (b:List (List Nat))(k best:Nat)(o:Int):kh [] b k best o=best:=by cases b<;>rfl
theorem hQc (a:List (List Nat))(k best:Nat)(o:Int):kh a [] k best o=best:=by cases a<;>rfl
theorem RJ {α:Type}{l:List α}{k:Nat}{x:α}(h:l[k]? =some x):l.drop k=x::l.drop (k+1):=by
 obtain⟨hk,e⟩:=Z0.1 h;rw[bR hk,e]
theorem RK (a b:List (List Nat))(A B:Option Addr)(n c m d:Nat)(back:Bool)(w:World)(h:Sl w 1 A n c (JG a))(h':Sl w 1 B m d (JG b))(ha:ky a)(hb:ky b)(hn:n<=1000000000):
  Fn Tryz.prog 171 [.slice A n c,.slice B m d,.bool back] w (λu w'=>u= .int .i64 (V0 (aI back a) (aI back b))/\Ext w w'):=by
 have KU:a.length=n:=by have:=h.len;rw[AI] at this;omega
 have eU:b.length=m:=by have:=h'.len;rw[AI] at this;omega
 have LH:m<=9223372036854775807:=by have:=h'.le;have:=h'.cap;simp only[maxLen] at this;omega
 have hA:=FG back a;have hB:=FG back b;refine QD (c:={cQK with cuts:=[]}) Qa Tryz.func171 rfl rfl rfl ?_;refine norm (m:=((min n m:Nat):Int)) (by rw[Nat.min_def];split<;>split<;>omega) ?_;generalize C1:min n m=mn;have Zo:mn<=n:=by omega
 have XQ:mn<=m:=by omega
 have XD:mn=n∨mn=m:=by omega
 refine loop Qa [17,7,8] (λs:Nat×Nat×Int=>[.int .i64 s.1,.int .i64 s.2.1,.int .i64 s.2.2]) (λs w'=>Ext w w'/\s.1<=mn/\s.2.1<=s.1/\ -(s.1:Int)<=s.2.2/\s.2.2<=s.1/\kh ((aI back a).drop s.1) ((aI back b).drop s.1) s.1 s.2.1 s.2.2=V0 (aI back a) (aI back b)) (λs _=>mn-s.1) (0,0,0) rfl ⟨Ext.refl _,XJ _,QC _,by simp,by simp,rfl⟩ ?_;rintro⟨k,best,o⟩ w1 ⟨Qd,hk,ji,dq,fE,QX⟩;simp only at hk ji dq fE QX;refine Qy (λc1=>?_) (λc1=>?_)
 ·have Xl:k<mn:=by simp only at c1;omega
  obtain⟨x,hx⟩:∃x,(aI back a)[k]? =some x:=⟨_,Xn (by omega)⟩
  obtain⟨y,hy⟩:∃y,(aI back b)[k]? =some y:=⟨_,Xn (by omega)⟩
  rw[RJ hx,RJ hy,kh] at QX;have KA:=RI hx;have qW:=RI hy;have Ja:=ha x (QO KA);have jk:=hb y (QO qW);obtain⟨x0,fH⟩:∃x0,a[k]? =some x0:=⟨_,Xn (by omega)⟩
  obtain⟨y0,Ui⟩:∃y0,b[k]? =some y0:=⟨_,Xn (by omega)⟩
  refine XC Qa (Ext w1) 10 [(true,0),(true,1),(true,2),(true,3),(true,4),(true,5),(true,6),(true,7),(true,8),(true,9)] (by kernel_rfl) (Ext.drew w1) ?_;refine X5 (h.ext Qd) (by omega) (λad u LI hu QE=>?_);rw[ZH fH] at hu;cases hu;refine QH (v:=.string (Qe (x0++ [10]))) (λw' Qb=>Qb.cell QE) ?_;refine X5 (h'.ext Qd) (by omega) (λad u LI hu QE=>?_);rw[ZH Ui] at hu;cases hu;refine QH (v:=.string (Qe (y0++ [10]))) (λw' Qb=>Qb.cell QE) ?_;cases back with
  | false=>
   refine Q5 rfl ?_;have ex:x=x0:=(Option.some.inj (fH.symm.trans KA)).symm;have ey:y=y0:=(Option.some.inj (Ui.symm.trans qW)).symm;subst ex ey;have cw:=Qd.trans (Ext.drew w1);have az:(Qe (x++ [10])=Qe (y++ [10]))↔x=y:=⟨λhh=>by have:=Jc (YO Ja.1) (YO jk.1) hh;exact yR this,λhh=>by rw[hh]⟩
   by_cases Xr:x=y
   ·rw[Qf Xr] at QX;refine Q5 (by simp[az.2 Xr]) ?_;refine call (Fh (x++ [10]) Zl _ (YO Ja.1) (by decide)) ?_;rintro _ _ ⟨rfl,rfl⟩;rw[Fg];cases hp:Zl.isPrefixOf x with
    | true=>
     have hd:Vc x=1:=by unfold Vc;rw[Qf hp]
     refine Xa rfl ?_;refine Qi (o+1) rfl (by omega) ?_;have JX:=QX;rw[hd] at JX;by_cases h0:o+1=0
     ·rw[Qf h0] at JX;refine Kc h0 ?_;refine Qi ((k+1:Nat):Int) (by show((k:Nat):Int)+1=_;omega) (by omega) ?_;refine Qi ((k+1:Nat):Int) (by show((k:Nat):Int)+1=_;omega) (by omega) ?_;exact⟨(k+1,k+1,o+1),rfl,⟨cw,Xl,QC _,by show -((k+1:Nat):Int)<=o+1;omega,by show o+1<=((k+1:Nat):Int);omega,JX⟩,by show mn-(k+1)<mn-k;omega⟩
     ·rw[if_neg h0] at JX;refine XB h0 ?_;refine Qi ((k+1:Nat):Int) (by show((k:Nat):Int)+1=_;omega) (by omega) ?_;exact⟨(k+1,best,o+1),rfl,⟨cw,Xl,by show best<=k+1;omega,by show -((k+1:Nat):Int)<=o+1;omega,by show o+1<=((k+1:Nat):Int);omega,JX⟩,by show mn-(k+1)<mn-k;omega⟩
    | false=>
     refine Q5 rfl ?_;have QQ:(Qe (x++ [10])=Qe (Xx++ [10]))↔x=Xx:=⟨λhh=>by have:=Jc (YO Ja.1) (by decide) hh;exact yR this,λhh=>by rw[hh]⟩
     by_cases he:x=Xx
     ·have hd:Vc x= -1:=by unfold Vc;rw[if_neg (by rw[hp];decide),Qf he]
      refine XH (QQ.2 he) ?_;refine Qi (o-1) rfl (by omega) ?_;have JX:=QX;rw[hd,show o+(-1)=o-1 by omega] at JX;by_cases h0:o-1=0
      ·rw[Qf h0] at JX;refine Kc h0 ?_;refine Qi ((k+1:Nat):Int) (by show((k:Nat):Int)+1=_;omega) (by omega) ?_;refine Qi ((k+1:Nat):Int) (by show((k:Nat):Int)+1=_;omega) (by omega) ?_;exact⟨(k+1,k+1,o-1),rfl,⟨cw,Xl,QC _,by show -((k+1:Nat):Int)<=o-1;omega,by show o-1<=((k+1:Nat):Int);omega,JX⟩,by show mn-(k+1)<mn-k;omega⟩
      ·rw[if_neg h0] at JX;refine XB h0 ?_;refine Qi ((k+1:Nat):Int) (by show((k:Nat):Int)+1=_;omega) (by omega) ?_;exact⟨(k+1,best,o-1),rfl,⟨cw,Xl,by show best<=k+1;omega,by show -((k+1:Nat):Int)<=o-1;omega,by show o-1<=((k+1:Nat):Int);omega,JX⟩,by show mn-(k+1)<mn-k;omega⟩
     ·have hd:Vc x=0:=by unfold Vc;rw[if_neg (by rw[hp];decide),if_neg he]
      refine Q9 (λhh=>he (QQ.1 hh)) ?_;have JX:=QX;rw[hd,show o+0=o by omega] at JX;by_cases h0:o=0
      ·rw[Qf h0] at JX;refine Kc h0 ?_;refine Qi ((k+1:Nat):Int) (by show((k:Nat):Int)+1=_;omega) (by omega) ?_;refine Qi ((k+1:Nat):Int) (by show((k:Nat):Int)+1=_;omega) (by omega) ?_;exact⟨(k+1,k+1,o),rfl,⟨cw,Xl,QC _,by show -((k+1:Nat):Int)<=o;omega,by show o<=((k+1:Nat):Int);omega,JX⟩,by show mn-(k+1)<mn-k;omega⟩
      ·rw[if_neg h0] at JX;refine XB h0 ?_;refine Qi ((k+1:Nat):Int) (by show((k:Nat):Int)+1=_;omega) (by omega) ?_;exact⟨(k+1,best,o),rfl,⟨cw,Xl,by show best<=k+1;omega,by show -((k+1:Nat):Int)<=o;omega,by show o<=((k+1:Nat):Int);omega,JX⟩,by show mn-(k+1)<mn-k;omega⟩
   ·rw[if_neg Xr] at QX;refine Xa (by rw[X4 (λhh=>Xr (az.1 hh))];rfl) ?_;exact⟨by rw[<-QX],cw⟩
  | true=>
   refine Xa rfl ?_;refine XC Qa (Ext w1.drew) 18 [(true,0),(true,1),(true,2),(true,3),(true,4),(true,5),(true,6),(true,7),(true,8),(true,9),(true,10),(true,11),(true,12),(true,13),(true,14),(true,15),(true,16),(true,17)] (by kernel_rfl) (Ext.drew w1.drew) ?_;refine Qi ((a.length-1:Nat):Int) (by omega) (by omega) ?_;refine Qi ((a.length-1-k:Nat):Int) (by omega) (by omega) ?_;refine X5 ((h.ext Qd).ext (Ext.drew w1)) (by omega) (λad u LI hu QE=>?_);rw[ZH (show a[a.length-1-k]? =some x from KA)] at hu;cases hu;refine QH (v:=.string (Qe (x++ [10]))) (λw' Qb=>Qb.cell QE) ?_;refine Qi ((b.length-1:Nat):Int) (by omega) (by omega) ?_;refine Qi ((b.length-1-k:Nat):Int) (by omega) (by omega) ?_;refine X5 ((h'.ext Qd).ext (Ext.drew w1)) (by omega) (λad u LI hu QE=>?_);rw[ZH (show b[b.length-1-k]? =some y from qW)] at hu;cases hu;refine QH (v:=.string (Qe (y++ [10]))) (λw' Qb=>Qb.cell QE) ?_;have cw:=(Qd.trans (Ext.drew w1)).trans (Ext.drew _);have az:(Qe (x++ [10])=Qe (y++ [10]))↔x=y:=⟨λhh=>by have:=Jc (YO Ja.1) (YO jk.1) hh;exact yR this,λhh=>by rw[hh]⟩
   by_cases Xr:x=y
   ·rw[Qf Xr] at QX;refine Q5 (by simp[az.2 Xr]) ?_;refine call (Fh (x++ [10]) Zl _ (YO Ja.1) (by decide)) ?_;rintro _ _ ⟨rfl,rfl⟩;rw[Fg];cases hp:Zl.isPrefixOf x with
    | true=>
     have hd:Vc x=1:=by unfold Vc;rw[Qf hp]
     refine Xa rfl ?_;refine Qi (o+1) rfl (by omega) ?_;have JX:=QX;rw[hd] at JX;by_cases h0:o+1=0
     ·rw[Qf h0] at JX;refine Kc h0 ?_;refine Qi ((k+1:Nat):Int) (by show((k:Nat):Int)+1=_;omega) (by omega) ?_;refine Qi ((k+1:Nat):Int) (by show((k:Nat):Int)+1=_;omega) (by omega) ?_;exact⟨(k+1,k+1,o+1),rfl,⟨cw,Xl,QC _,by show -((k+1:Nat):Int)<=o+1;omega,by show o+1<=((k+1:Nat):Int);omega,JX⟩,by show mn-(k+1)<mn-k;omega⟩
     ·rw[if_neg h0] at JX;refine XB h0 ?_;refine Qi ((k+1:Nat):Int) (by show((k:Nat):Int)+1=_;omega) (by omega) ?_;exact⟨(k+1,best,o+1),rfl,⟨cw,Xl,by show best<=k+1;omega,by show -((k+1:Nat):Int)<=o+1;omega,by show o+1<=((k+1:Nat):Int);omega,JX⟩,by show mn-(k+1)<mn-k;omega⟩
    | false=>
     refine Q5 rfl ?_;have QQ:(Qe (x++ [10])=Qe (Xx++ [10]))↔x=Xx:=⟨λhh=>by have:=Jc (YO Ja.1) (by decide) hh;exact yR this,λhh=>by rw[hh]⟩
     by_cases he:x=Xx
     ·have hd:Vc x= -1:=by unfold Vc;rw[if_neg (by rw[hp];decide),Qf he]
      refine XH (QQ.2 he) ?_;refine Qi (o-1) rfl (by omega) ?_;have JX:=QX;rw[hd,show o+(-1)=o-1 by omega] at JX;by_cases h0:o-1=0
      ·rw[Qf h0] at JX;refine Kc h0 ?_;refine Qi ((k+1:Nat):Int) (by show((k:Nat):Int)+1=_;omega) (by omega) ?_;refine Qi ((k+1:Nat):Int) (by show((k:Nat):Int)+1=_;omega) (by omega) ?_;exact⟨(k+1,k+1,o-1),rfl,⟨cw,Xl,QC _,by show -((k+1:Nat):Int)<=o-1;omega,by show o-1<=((k+1:Nat):Int);omega,JX⟩,by show mn-(k+1)<mn-k;omega⟩
      ·rw[if_neg h0] at JX;refine XB h0 ?_;refine Qi ((k+1:Nat):Int) (by show((k:Nat):Int)+1=_;omega) (by omega) ?_;exact⟨(k+1,best,o-1),rfl,⟨cw,Xl,by show best<=k+1;omega,by show -((k+1:Nat):Int)<=o-1;omega,by show o-1<=((k+1:Nat):Int);omega,JX⟩,by show mn-(k+1)<mn-k;omega⟩
     ·have hd:Vc x=0:=by unfold Vc;rw[if_neg (by rw[hp];decide),if_neg he]
      refine Q9 (λhh=>he (QQ.1 hh)) ?_;have JX:=QX;rw[hd,show o+0=o by omega] at JX;by_cases h0:o=0
      ·rw[Qf h0] at JX;refine Kc h0 ?_;refine Qi ((k+1:Nat):Int) (by show((k:Nat):Int)+1=_;omega) (by omega) ?_;refine Qi ((k+1:Nat):Int) (by show((k:Nat):Int)+1=_;omega) (by omega) ?_;exact⟨(k+1,k+1,o),rfl,⟨cw,Xl,QC _,by show -((k+1:Nat):Int)<=o;omega,by show o<=((k+1:Nat):Int);omega,JX⟩,by show mn-(k+1)<mn-k;omega⟩
      ·rw[if_neg h0] at JX;refine XB h0 ?_;refine Qi ((k+1:Nat):Int) (by show((k:Nat):Int)+1=_;omega) (by omega) ?_;exact⟨(k+1,best,o),rfl,⟨cw,Xl,by show best<=k+1;omega,by show -((k+1:Nat):Int)<=o;omega,by show o<=((k+1:Nat):Int);omega,JX⟩,by show mn-(k+1)<mn-k;omega⟩
   ·rw[if_neg Xr] at QX;refine Xa (by rw[X4 (λhh=>Xr (az.1 hh))];rfl) ?_;exact⟨by rw[<-QX],cw⟩
 ·have Xl:k=mn:=by simp only at c1;omega
  subst Xl;refine⟨?_,Qd⟩;rcases XD with e | e
  ·rw[uJ (by omega),hQb] at QX;rw[<-QX]
  ·rw[uJ (show(aI back b).length<=k by omega),hQc] at QX;rw[<-QX]
theorem aJ (ls:List (List Nat)):∀u∈XW ls,Jz u=true:=λu hu=>by
 unfold XW at hu;obtain⟨s,_,rfl⟩:=Z4.1 hu;rfl
theorem hQd (ls:List (List Nat))(A:Option Addr)(n c:Nat)(w:World)(h:Sl w 1 A n c (XW ls))(hn:n<=1000000000):
  Fn Tryz.prog 172 [.slice A n c] w (λu w'=>∃A' c',u= .slice A' n c'/\Ext w w'/\Own w' w.heap.size 9 1 A' n c' (XW ls)):=by
 have hl:ls.length=n:=by have:=h.len;rw[bn] at this;omega
 refine QD (c:={cQL with cuts:=[]}) Qa Tryz.func172 rfl rfl rfl ?_;cases A with
 | none=>
  have h0:n=0:=Classical.byContradiction (λhh=>by obtain⟨ad,e,_⟩:=h.at_ (by omega);cases e);subst h0;have KC:ls=[]:=aA hl;subst KC;refine Xa rfl ?_;exact⟨none,0,rfl,Ext.refl _,Own.nil _ _ _ _⟩
 | some a=>
  refine Q5 rfl ?_;refine XI Qa [] rfl rfl rfl rfl rfl ⟨⟩ rfl (λcs h=>by cases h) rfl (by decide) (by decide) ?_;intro w1 Qd Q3 Qh;have Uj:Own w1 w.heap.size 9 1 (some ⟨w.heap.size,0,none⟩) 0 0 []:=Own.empty Qh (QC _);refine JB (n:=0) Qa rfl rfl rfl rfl rfl (by decide) rfl rfl ⟨_,rfl⟩ rfl rfl Uj (h.ext Qd) (aJ ls) (by unfold maxLen;omega) (by show(0+n)*16<=_;omega) (by omega) ?_;intro A' c' w2 XQ di mS;rw[bQ,bP] at di;refine⟨A',c',by rw[bQ],XQ.ext Qd (λk hk=>(Uj.rows k hk).1),di⟩
theorem FH (ls:List (List Nat))(k:Nat):(JG ls).take k=JG (ls.take k):=by simp[JG,XW,List.map_take]
theorem RL (ls:List (List Nat))(k:Nat):(JG ls).drop k=JG (ls.drop k):=by simp[JG,XW,List.map_drop]
theorem hQe (a b:List (List Nat)):JG (a++b)=JG a++JG b:=by simp[JG,XW]
theorem RN {c:Cx}(hg:c.g.Ok){o:Oper}{S:Env}{C:World->Prop}{K:Env->Prop}{t e:Nat}{x y:Operand}{A:Option Addr}{n cp:Nat}{h:Nat}{r:TyRow}(ho:o.op= .slice t x none (some y) none)(hr:QU c.g.tys t=some r)(hd:r.d= .slice e){re:TyRow}(X7:QU c.g.tys e=some re)
  (hx:S.ev x=some (.slice A n cp)) (hy:S.ev y=some (.int .i64 h)) (hh:h<=cp)
  (k:Xk c S o.dst (.v (.slice A h cp)) K):bU c o S C K:=by
 have Q1:=(hg.row hr).1;rw[hd] at Q1;unfold bU;refine⟨_,λa w hf _=>?_,k⟩;have e1:=hf.ev hx;have e2:=hf.ev hy;simp[execOp,ho,e1,e2,Instr.sliceAt,Instr.slice,ZL Q1,Instr.sliceBounds,Instr.sliceBound,asIntOf,hh,run_sizeOf hg X7];intro _;cases A<;>simp[Addr.add]
theorem RO {c:Cx}(hg:c.g.Ok){o:Oper}{S:Env}{C:World->Prop}{K:Env->Prop}{t e:Nat}{x y:Operand}{A:Option Addr}{n cp:Nat}{l:Nat}{r:TyRow}(ho:o.op= .slice t x (some y) none none)(hr:QU c.g.tys t=some r)(hd:r.d= .slice e){re:TyRow}(X7:QU c.g.tys e=some re)
  (hx:S.ev x=some (.slice A n cp)) (hy:S.ev y=some (.int .i64 l)) (hl:l<=n)
  (k:Xk c S o.dst (.v (.slice (if cp=l then A else A.map (·.add (l*re.sz))) (n-l) (cp-l))) K):bU c o S C K:=by
 have Q1:=(hg.row hr).1;rw[hd] at Q1;unfold bU;refine⟨_,λa w hf _=>?_,k⟩;have e1:=hf.ev hx;have e2:=hf.ev hy;simp[execOp,ho,e1,e2,Instr.sliceAt,Instr.slice,ZL Q1,Instr.sliceBounds,Instr.sliceBound,asIntOf,hl,run_sizeOf hg X7]
structure Lo (w0 w:World) (O:Option Addr) (n oc:Nat) (ls:List (List Nat)):Prop where
 e:Ext w0 w
 ow:Own w w0.heap.size 9 1 O n oc (JG ls)
theorem Lo.ext {w0 w w':World}{O:Option Addr}{n oc:Nat}{ls:List (List Nat)}(h:Lo w0 w O n oc ls)(k:Ext w w'):Lo w0 w' O n oc ls:=⟨h.e.trans k,h.ow.ext k⟩
theorem Lo.app {w0 w w':World}{O O':Option Addr}{n m oc oc':Nat}{ls ys:List (List Nat)}(h:Lo w0 w O n oc ls)(hm:Mod (Qj O) w w')(ho:Own w' w0.heap.size 9 1 O' (n+m) oc' (JG ls++JG ys)):Lo w0 w' O' (n+m) oc' (ls++ys):=
 ⟨hm.ext h.e (λk hk=>(h.ow.rows k hk).1),by rw[hQe];exact ho⟩
theorem Lo.len {w0 w:World}{O:Option Addr}{n oc:Nat}{ls:List (List Nat)}(h:Lo w0 w O n oc ls):ls.length=n:=by have:=h.ow.sl.len;rw[AI] at this;omega
theorem iR {w:World}{A:Option Addr}{n c:Nat}{ls:List (List Nat)}(h:Sl w 1 A n c (JG ls)):ls.length=n:=by have:=h.len;rw[AI] at this;omega
theorem Lo.fin {w w0 w1:World}{O:Option Addr}{n oc:Nat}{ls:List (List Nat)}(hE:Ext w w0)(h:Lo w0 w1 O n oc ls):sL w (.slice O n oc) (ls.map (·++ [10])) w1:=⟨O,oc,by rw[JM,h.len],hE.trans h.e,by rw[JM,h.len];exact⟨h.ow.sl,λh0=>by obtain⟨g,sp,hA,_⟩:=h.ow.blk h0;exact⟨g,0,hA⟩⟩⟩
def d4 (nm:List (List Nat))(v:Nat):List Nat:=(nm[v]?).getD []
theorem hQf (nm:List (List Nat))(v:Nat)(H L:List (List Nat))(A B:Option Addr)(n c m d:Nat)(w:World)(h:Sl w 1 A n c (JG H))(h':Sl w 1 B m d (JG L))(hH:ky H)(hL:ky L)(hv:(d4 nm v).length<=1000000000)(hn:n<=100000000)(hm:m<=100000000):
  Fn Tryz.prog 118 [.string (Qe (d4 nm v)),.slice A n c,.slice B m d] w (λu w'=>sL w u ((Wy nm v H L).map (·++ [10])) w'):=by
 have hHl:=iR h;have LJ:=iR h';refine QD (c:={cQb with cuts:=[]}) Qa Tryz.func118 rfl rfl rfl ?_;have KM:=RK H L A B n c m d false w h h' hH hL (by omega);have qt:V0 (aI false H) (aI false L)=V0 H L:=rfl;rw[qt] at KM;refine call KM ?_;rintro _ w1 ⟨rfl,Qd⟩;obtain⟨p1,p2,_,_,_⟩:=Ae H L;have Kh:Wy nm v H L=Wy nm v H L:=rfl;unfold Wy at Kh;simp only at Kh;generalize hp:V0 H L=p at*;have ZO:=h.le;have mQJ:=h'.le;refine jI Qa rfl rfl rfl rfl rfl rfl (by omega) ?_;have ht:=(h.ext Qd).take (m:=p) (by omega);rw[ir,FH] at ht;refine call (hQd ((H.take p).map (·++ [10])) A p c w1 ht (by omega)) ?_;rintro _ w2 ⟨O,oc,rfl,Qg,hO2⟩;have lo:Lo w1 w2 O p oc (H.take p):=⟨Qg,hO2⟩
 have q1:=(h.ext Qd).from (l:=p) (by omega)
 have q2:=(h'.ext Qd).from (l:=p) (by omega)
 rw[RL] at q1 q2;refine XC Qa (Ext w2) 8 [(true,0),(true,1),(true,2),(true,3),(true,4),(true,5),(true,6),(true,7)] (by kernel_rfl) (Ext.drew w2) ?_;refine RO Qa rfl rfl rfl rfl rfl rfl (by omega) ?_;refine RO Qa rfl rfl rfl rfl rfl rfl (by omega) ?_;have HX:=lo.ext (Ext.drew w2);have hDl:(H.drop p).length=n-p:=by rw[Y3];omega
 have hDm:(L.drop p).length=m-p:=by rw[Y3];omega
 have bD:∀{X:List (List Nat)} {k:Nat},ky X->ky (X.drop k):=λhX s hs=>hX s (aZ hs)
 have KK:=RK (H.drop p) (L.drop p) _ _ _ _ _ _ true w2.drew (q1.ext HX.e) (q2.ext HX.e) (bD hH) (bD hL) (by omega);have A6:V0 (aI true (H.drop p)) (aI true (L.drop p))=Wx (H.drop p) (L.drop p):=rfl;rw[A6] at KK;refine call KK ?_;rintro _ w3 ⟨rfl,Qk⟩;have lo3:=HX.ext Qk;obtain⟨s1,s2,_⟩:=Fd (H.drop p) (L.drop p);generalize hs:Wx (H.drop p) (L.drop p)=s at*;have hcA:p<=c:=by omega
 refine Qi ((n-p-s:Nat):Int) (by omega) (by omega) ?_;refine M8 Qa rfl rfl rfl rfl rfl rfl (by omega) ?_;refine XC Qa (Ext w3) 14 [(true,0),(true,1),(true,2),(true,3),(true,4),(true,5),(true,6),(true,7),(true,8),(true,9),(true,10),(true,11),(true,12),(true,13)] (by kernel_rfl) (Ext.drew w3) ?_;refine Qi ((n-p-s:Nat):Int) (by omega) (by omega) ?_;refine RN Qa rfl rfl rfl rfl rfl rfl (by omega) ?_;refine Qi ((m-p-s:Nat):Int) (by omega) (by omega) ?_;refine RN Qa rfl rfl rfl rfl rfl rfl (by omega) ?_;have Uk:=lo3.ext (Ext.drew w3);have r1:=q1.take (m:=n-p-s) (by omega);have r2:=q2.take (m:=m-p-s) (by omega);have rE:=q1.from (l:=n-p-s) (by omega)
 rw[ir (n-p-s),FH] at r1;rw[ir (m-p-s),FH] at r2;rw[RL] at rE;have hj:Wy nm v H L=H.take p++((if(H.drop p).take (n-p-s)=[] then ZA nm v true::(L.drop p).take (m-p-s)else ZA nm v false::((H.drop p).take (n-p-s)++if(L.drop p).take (m-p-s)=[] then [] else Jd::(L.drop p).take (m-p-s)))++Xx::(H.drop p).drop (n-p-s)):=by
  unfold Wy;simp only[hp,hs,hDl,hDm]
 have lH2:=iR r1;have lL2:=iR r2;have lE:=iR rE;generalize (H.drop p).take (n-p-s)=H2 at*;generalize (L.drop p).take (m-p-s)=L2 at*;generalize (H.drop p).drop (n-p-s)=E at*;have js:=XF (d4 nm v);have h1s:(Qe [10]).size=1:=rfl;refine Zh (λc7=>?_) (λc7=>?_)
 ·have e2:H2=[]:=aA (by omega);rw[Qf e2] at hj;have kM:=XF (Zl++(33::d4 nm v));refine Ke (v':=.string (Qe (Zl++(33::d4 nm v)))) (by show(Qe [35,105,102,32,33]).size+_<=_;rw[XF,js];show 5+_<=_;unfold maxLen;omega) (by show Value.string (Qe (Zl++ [33])++Qe (d4 nm v))=_;rw[jJ];rfl) ?_;refine Ke (v':=.string (Qe (ZA nm v true++ [10]))) (by rw[kM];show _+1<=_;simp[Zl];unfold maxLen;omega) (by show Value.string (Qe (Zl++(33::d4 nm v))++Qe [10])=_;rw[jJ];rfl) ?_;refine XI Qa [[Value.string (Qe (ZA nm v true++ [10]))]] rfl rfl rfl rfl rfl ⟨rfl,rfl,⟨⟩⟩ rfl (λcs h=>by simp only[QL] at h;subst h;rfl) rfl (by decide) (by decide) ?_;intro wxa LK lQm LL;have sxa:Sl wxa 1 _ 1 1 (JG [ZA nm v true]):=Sl.own' (n:=1) LL rfl (by decide);have lya:=Uk.ext LK;have lza:=lya.len;refine JB Qa rfl rfl rfl rfl rfl (by decide) rfl rfl ⟨_,rfl⟩ rfl rfl lya.ow sxa (aJ _) (by unfold maxLen;omega) (by show(_+1)*16<=_;omega) lya.e.size ?_;intro Oa oca wa LM LN _;have loa:=lya.app LM LN;refine JB Qa rfl rfl rfl rfl rfl (by decide) rfl rfl ⟨_,rfl⟩ rfl rfl loa.ow (r2.ext loa.e) (aJ _) (by unfold maxLen;omega) (by show(_+_)*16<=_;omega) loa.e.size ?_;intro Ob ocb wb LO LP _;have lob:=loa.app LO LP;refine XI Qa [[Value.string (Qe (Xx++ [10]))]] rfl rfl rfl rfl rfl ⟨rfl,rfl,⟨⟩⟩ rfl (λcs h=>by simp only[QL] at h;subst h;rfl) rfl (by decide) (by decide) ?_;intro wxc yp aQK yq;have sxc:Sl wxc 1 _ 1 1 (JG [Xx]):=Sl.own' (n:=1) yq rfl (by decide);have lyc:=lob.ext yp;have lzc:=lyc.len;refine JB Qa rfl rfl rfl rfl rfl (by decide) rfl rfl ⟨_,rfl⟩ rfl rfl lyc.ow sxc (aJ _) (by unfold maxLen;omega) (by show(_+1)*16<=_;omega) lyc.e.size ?_;intro Oc occ wc ut yr _;have loc:=lyc.app ut yr;refine JB Qa rfl rfl rfl rfl rfl (by decide) rfl rfl ⟨_,rfl⟩ rfl rfl loc.ow (rE.ext loc.e) (aJ _) (by unfold maxLen;omega) (by show(_+_)*16<=_;omega) loc.e.size ?_;intro Od ocd wd aX yu _;have lod:=loc.app aX yu;have fin:=lod.fin Qd;have e9:((((H.take p++ [ZA nm v true])++L2)++ [Xx])++E)=Wy nm v H L:=by rw[hj];simp
  rw[e9] at fin;exact fin
 ·have e2:H2≠ []:=λe=>c7 (by subst e;simp at lH2;omega)
  rw[if_neg e2] at hj;have kM:=XF (Zl++d4 nm v);refine Ke (v':=.string (Qe (Zl++d4 nm v))) (by show(Qe [35,105,102,32]).size+_<=_;rw[XF,js];show 4+_<=_;unfold maxLen;omega) (by show Value.string (Qe Zl++Qe (d4 nm v))=_;rw[jJ]) ?_;refine Ke (v':=.string (Qe (ZA nm v false++ [10]))) (by rw[kM];show _+1<=_;simp[Zl];unfold maxLen;omega) (by show Value.string (Qe (Zl++d4 nm v)++Qe [10])=_;rw[jJ];rfl) ?_;refine XI Qa [[Value.string (Qe (ZA nm v false++ [10]))]] rfl rfl rfl rfl rfl ⟨rfl,rfl,⟨⟩⟩ rfl (λcs h=>by simp only[QL] at h;subst h;rfl) rfl (by decide) (by decide) ?_;intro wxa LK lQm LL;have sxa:Sl wxa 1 _ 1 1 (JG [ZA nm v false]):=Sl.own' (n:=1) LL rfl (by decide);have lya:=Uk.ext LK;have lza:=lya.len;refine JB Qa rfl rfl rfl rfl rfl (by decide) rfl rfl ⟨_,rfl⟩ rfl rfl lya.ow sxa (aJ _) (by unfold maxLen;omega) (by show(_+1)*16<=_;omega) lya.e.size ?_;intro Oa oca wa LM LN _;have loa:=lya.app LM LN;refine JB Qa rfl rfl rfl rfl rfl (by decide) rfl rfl ⟨_,rfl⟩ rfl rfl loa.ow (r1.ext loa.e) (aJ _) (by unfold maxLen;omega) (by show(_+_)*16<=_;omega) loa.e.size ?_;intro Ob ocb wb LO LP _;have lob:=loa.app LO LP;refine Qy (λc8=>?_) (λc8=>?_)
  ·have e3:L2≠ []:=λe=>by subst e;simp at lL2;omega
   rw[if_neg e3] at hj;refine XI Qa [[Value.string (Qe (Jd++ [10]))]] rfl rfl rfl rfl rfl ⟨rfl,rfl,⟨⟩⟩ rfl (λcs h=>by simp only[QL] at h;subst h;rfl) rfl (by decide) (by decide) ?_;intro wxc yp aQK yq;have sxc:Sl wxc 1 _ 1 1 (JG [Jd]):=Sl.own' (n:=1) yq rfl (by decide);have lyc:=lob.ext yp;have lzc:=lyc.len;refine JB Qa rfl rfl rfl rfl rfl (by decide) rfl rfl ⟨_,rfl⟩ rfl rfl lyc.ow sxc (aJ _) (by unfold maxLen;omega) (by show(_+1)*16<=_;omega) lyc.e.size ?_;intro Oc occ wc ut yr _;have loc:=lyc.app ut yr;refine JB Qa rfl rfl rfl rfl rfl (by decide) rfl rfl ⟨_,rfl⟩ rfl rfl loc.ow (r2.ext loc.e) (aJ _) (by unfold maxLen;omega) (by show(_+_)*16<=_;omega) loc.e.size ?_;intro Od ocd wd aX yu _;have lod:=loc.app aX yu;refine XI Qa [[Value.string (Qe (Xx++ [10]))]] rfl rfl rfl rfl rfl ⟨rfl,rfl,⟨⟩⟩ rfl (λcs h=>by simp only[QL] at h;subst h;rfl) rfl (by decide) (by decide) ?_;intro wxe lQn mQK lQo;have sxe:Sl wxe 1 _ 1 1 (JG [Xx]):=Sl.own' (n:=1) lQo rfl (by decide);have lye:=lod.ext lQn;have lze:=lye.len;refine JB Qa rfl rfl rfl rfl rfl (by decide) rfl rfl ⟨_,rfl⟩ rfl rfl lye.ow sxe (aJ _) (by unfold maxLen;omega) (by show(_+1)*16<=_;omega) lye.e.size ?_;intro Oe oce we ov lQp _;have loe:=lye.app ov lQp;refine JB Qa rfl rfl rfl rfl rfl (by decide) rfl rfl ⟨_,rfl⟩ rfl rfl loe.ow (rE.ext loe.e) (aJ _) (by unfold maxLen;omega) (by show(_+_)*16<=_;omega) loe.e.size ?_;intro Of ocf wf hmf lQq _;have lof:=loe.app hmf lQq;have fin:=lof.fin Qd;have e9:((((((H.take p++ [ZA nm v false])++H2)++ [Jd])++L2)++ [Xx])++E)=Wy nm v H L:=by rw[hj];simp
   rw[e9] at fin;exact fin
  ·have e3:L2=[]:=aA (by omega);rw[Qf e3] at hj;refine XI Qa [[Value.string (Qe (Xx++ [10]))]] rfl rfl rfl rfl rfl ⟨rfl,rfl,⟨⟩⟩ rfl (λcs h=>by simp only[QL] at h;subst h;rfl) rfl (by decide) (by decide) ?_;intro wxc yp aQK yq;have sxc:Sl wxc 1 _ 1 1 (JG [Xx]):=Sl.own' (n:=1) yq rfl (by decide);have lyc:=lob.ext yp;have lzc:=lyc.len;refine JB Qa rfl rfl rfl rfl rfl (by decide) rfl rfl ⟨_,rfl⟩ rfl rfl lyc.ow sxc (aJ _) (by unfold maxLen;omega) (by show(_+1)*16<=_;omega) lyc.e.size ?_;intro Oc occ wc ut yr _;have loc:=lyc.app ut yr;refine JB Qa rfl rfl rfl rfl rfl (by decide) rfl rfl ⟨_,rfl⟩ rfl rfl loc.ow (rE.ext loc.e) (aJ _) (by unfold maxLen;omega) (by show(_+_)*16<=_;omega) loc.e.size ?_;intro Od ocd wd aX yu _;have lod:=loc.app aX yu;have fin:=lod.fin Qd;have e9:((((H.take p++ [ZA nm v false])++H2)++ [Xx])++E)=Wy nm v H L:=by rw[hj];simp
   rw[e9] at fin;exact fin
theorem hQg {a b:List Nat}(h:Qe (a++ [10])=Qe (b++ [10]))(ha:∀x∈a,x<256)(hb:∀x∈b,x<256):a=b:=yR (Jc (YO ha) (YO hb) h)
theorem hQh {α:Type}{l l':List α}{n:Nat}(h1:l.length=n)(h2:l'.length=n)(h:∀j,j<n->l[j]? =l'[j]?):l=l':=by
 refine DB (λj=>?_);by_cases hj:j<n
 ·exact h j hj
 ·rw[lM (by omega),lM (by omega)]
theorem hQi (A B:Option Addr)(n c m e:Nat)(l l':List (List Nat))(w:World)(h:Sl w 1 A n c (JG l))(h':Sl w 1 B m e (JG l'))(hb:ky l)(hb':ky l'):
  Fn Tryz.prog 117 [.slice A n c,.slice B m e] w (λv w'=>v= .bool (decide (l=l'))/\Ext w w'):=by
 have hl:=iR h;have cE:=iR h';have bN:n<=9223372036854775807:=by have:=h.le;have:=h.cap;simp only[maxLen] at this;omega
 refine QD (c:={cQa with cuts:=[]}) Qa Tryz.func117 rfl rfl rfl ?_;refine bg (λh1=>?_) (λh1=>?_)
 ·exact⟨by rw[X4 (λe=>by subst e;omega)],Ext.refl w⟩
 refine loop Qa [13] (λs:Nat=>[.int .i64 s]) (λs w'=>Ext w w'/\s<=n/\∀j,j<s->l[j]? =l'[j]?) (λs _=>n-s) 0 rfl ⟨Ext.refl w,XJ _,λj hj=>Q8 hj (by omega)⟩ ?_;rintro s w1 ⟨Qd,hs,hall⟩;refine Qy (λh2=>?_) (λh2=>?_)
 ·have aw:s<n:=by omega
  obtain⟨x,hx⟩:∃x,l[s]? =some x:=⟨_,Xn (by omega)⟩
  obtain⟨y,hy⟩:∃y,l'[s]? =some y:=⟨_,Xn (by omega)⟩
  refine XC Qa (Ext w1) 9 [(true,0),(true,1),(true,2),(true,3),(true,4),(true,5),(true,6),(true,7),(true,8)] (by kernel_rfl) (Ext.drew w1) ?_;refine X5 (h.ext Qd) aw (λad u hA hu QE=>?_);rw[ZH hx] at hu;cases hu;refine QH (v:=.string (Qe (x++ [10]))) (λw' Qb=>Qb.cell QE) ?_;refine X5 (h'.ext Qd) (by omega) (λad u hA hu QE=>?_);rw[ZH hy] at hu;cases hu;refine QH (v:=.string (Qe (y++ [10]))) (λw' Qb=>Qb.cell QE) ?_;have cH:=Qd.trans (Ext.drew w1);have Ja:=hb x (QO hx);have jk:=hb' y (QO hy);by_cases Xr:x=y
  ·refine Q5 (by rw[Xr];simp) ?_;refine Qi ((s+1:Nat):Int) (by show((s:Nat):Int)+1=_;omega) (by omega) ?_;refine⟨s+1,rfl,⟨cH,by omega,λj hj=>?_⟩,by show n-(s+1)<n-s;omega⟩;by_cases YF:j<s
   ·exact hall j YF
   ·have:j=s:=by omega
    subst this;rw[hx,hy,Xr]
  ·refine Xa (by rw[X4 (λhh=>Xr (hQg hh Ja.1 jk.1))];rfl) ?_;refine⟨?_,cH⟩;rw[X4 (λe=>Xr (by subst e;rw[hx] at hy;exact Option.some.inj hy))]
 ·refine⟨?_,Qd⟩;rw[XR (hQh hl (by omega) (λj hj=>hall j (by omega)))]
theorem hQj {nm:List (List Nat)}{v:Nat}{H L:List (List Nat)}{P:List Nat->Prop}(hH:∀s∈H,P s)(hL:∀s∈L,P s)(h1:∀ng,P (ZA nm v ng))(h2:P Jd)(h3:P Xx):∀s∈Wy nm v H L,P s:=by
 intro s hs;unfold Wy at hs;simp only at hs;have t:∀{X:List (List Nat)} {a b:Nat},(∀s∈X,P s)->∀s∈(X.drop a).take b,P s:=λh s hs=>h s (aZ (fa hs))
 generalize Wx (H.drop (V0 H L)) (L.drop (V0 H L))=q at*;generalize V0 H L=p at*;rcases Xw.1 hs with hs | hs
 ·exact hH s (fa hs)
 rcases Xw.1 hs with hs | hs
 ·split at hs
  ·rcases QZ.1 hs with rfl | hs
   ·exact h1 true
   ·exact t hL s hs
  ·rcases QZ.1 hs with rfl | hs
   ·exact h1 false
   rcases Xw.1 hs with hs | hs
   ·exact t hH s hs
   split at hs
   ·cases hs
   ·rcases QZ.1 hs with rfl | hs
    ·exact h2
    ·exact t hL s hs
 ·rcases QZ.1 hs with rfl | hs
  ·exact h3
  ·exact hH s (aZ (aZ hs))
theorem hQk (nm:List (List Nat))(v:Nat)(H L:List (List Nat)):(Wy nm v H L).length<=H.length+L.length+3:=by
 obtain⟨p1,p2,_⟩:=Ae H L;obtain⟨q1,q2,_⟩:=Fd (H.drop (V0 H L)) (L.drop (V0 H L));unfold Wy;simp only;generalize Wx (H.drop (V0 H L)) (L.drop (V0 H L))=q at*;generalize V0 H L=p at*;rw[Y3] at q1 q2;split
 ·simp only[Qu,Xj,Ye,Y3];omega
 ·split
  ·simp only[Qu,Xj,Ye,Y3,Z5];omega
  ·simp only[Qu,Xj,Ye,Y3];omega
theorem kz {nm:List (List Nat)}{f:Nat->List Nat}{P:List Nat->Prop}{M:Nat}(h1:∀v ng,P (ZA nm v ng))(h2:P Jd)(h3:P Xx):∀(k v:Nat)(l:List Nat),l≠ []->(∀c∈l,(∀s∈QT (f c),P s)/\(QT (f c)).length<=M)->
  (∀s∈XV nm f k v l,P s)/\(XV nm f k v l).length+3<=l.length*(M+3)
 | 0,v,l,hl,hp=>by
  have h0:=hp _ (sS hl);rw[XV];have:1<=l.length:=yO.2 hl;have:=Y1 (M+3) this;exact⟨h0.1,by have:=h0.2;omega⟩
 | k+1,v,l,hl,hp=>by
  rw[pF hl];split
  ·exact kz h1 h2 h3 k (v+1) l hl hp
  ·rename_i h;have n1:l.filter (λc=> !c.testBit v)≠ []:=λe=>h (.inl e)
   have n2:l.filter (λc=>c.testBit v)≠ []:=λe=>h (.inr e)
   have Xd:(l.filter (λc=>c.testBit v)).length+(l.filter (λc=> !c.testBit v)).length=l.length:=by
    clear h hl hp n1 n2;induction l with
    | nil=>rfl
    | cons a l ih=>by_cases e:a.testBit v=true<;>simp[uE,e]<;>omega
   obtain⟨a1,a2⟩:=kz h1 h2 h3 (P:=P) (M:=M) k (v+1) _ n1 (λc hc=>hp c (JZ.1 hc).1);obtain⟨b1,b2⟩:=kz h1 h2 h3 (P:=P) (M:=M) k (v+1) _ n2 (λc hc=>hp c (JZ.1 hc).1);have xW:l.length*(M+3)=(l.filter (λc=>c.testBit v)).length*(M+3)+(l.filter (λc=> !c.testBit v)).length*(M+3):=by rw[<-rv,Xd]
   split
   ·exact⟨b1,by omega⟩
   ·refine⟨hQj b1 a1 (h1 v) h2 h3,?_⟩;have:=hQk nm v (XV nm f k (v+1) (l.filter (λc=>c.testBit v))) (XV nm f k (v+1) (l.filter (λc=> !c.testBit v)));omega
end
section
inductive PT where
 | done
 | skip
 | quiet (k:Nat) (t:PT)
 | fork (k:Nat) (t o:PT)
def PT.alts:PT->List Nat
 | .fork k _ o=>k::o.alts
 | _=>[]
def WD (md:Region.Mode)(ops:Array Oper)(n:Nat):PT->Bool->Nat->Array Bool->Bool
 | .done,inch,m,listed=> !inch&&Nat.beq m 0&&Region.seqB md ops (ops.size-n) n listed
 | .skip,inch,_,_=>inch
 | .quiet _ _,_,0,_=>false
 | .quiet k t,inch,m+1,listed=> !inch&&(Nat.blt k n&&(Region.ready md ops listed).contains k&&Region.free md ops listed k&&WD md ops n t false m (listed.setIfInBounds k true))
 | .fork _ _ _,_,0,_=>false
 | .fork k t o,inch,m+1,listed=>(inch||decide (Region.ready md ops listed=k::o.alts))&&(Nat.blt k n&&WD md ops n t false m (listed.setIfInBounds k true))&&WD md ops n o true (m+1) listed
def kA (c:Cx)(all:List Oper)(C:World->Prop):PT->Env->World->(Env->World->Prop)->Prop
 | .done,S,w,K=>K S w
 | .skip,_,_,_=>True
 | .quiet k t,S,w,K=>match VC all k with
  | some o=>iE all o S (λS=>rP c o S C (λS=>kA c all C t S w K)) (λS=>Xk c S o.dst (.v undef) (λS=>kA c all C t S w K))
  | none=>False
 | .fork k t o,S,w,K=>(match VC all k with
  | some op=>iE all op S (λS=>dN c op S w (λS w=>C w/\kA c all C t S w K) (λ_ _ _=>False)) (λS=>Xk c S op.dst (.v undef) (λS=>kA c all C t S w K))
  | none=>False)/\kA c all C o S w K
section
variable {c:Cx} {S:Env} {a:Act}
theorem vT (hg:c.g.Ok){md:Region.Mode}{ops:List Oper}{C:World->Prop}{Q:Exit->Act->World->Prop}{n:Nat}(hs:Region.noSelect ops.toArray=true)(hk:jK md ops.toArray n){K:Env->World->Prop}:
  ∀(t:PT) (m:Nat) (listed:Array Bool) (S:Env) (a:Act) (w:World),HeadInv md ops.toArray n listed->kA c ops C t S w K->Fits c.N S a->C w->
  (WD md ops.toArray n t false m listed=true->WX c.g.P md ops.toArray (NoPan Q) C n (λKz a' w'=>Region.seqB md ops.toArray (ops.toArray.size-n) n Kz=true/\∃S',Fits c.N S' a'/\K S' w') m listed a w)/\
  (∀m',m=m'+1->WD md ops.toArray n t true m listed=true->(∀i∈t.alts,i∈Region.ready md ops.toArray listed)->∀i∈t.alts,i<n/\wpOp c.g.P ops.toArray (NoPan Q) i (λa' w'=>C w'/\WX c.g.P md ops.toArray (NoPan Q) C n (λKz a' w'=>Region.seqB md ops.toArray (ops.toArray.size-n) n Kz=true/\∃S',Fits c.N S' a'/\K S' w') m' (listed.setIfInBounds i true) a' w') a w)
 | .done,m,listed,S,a,w,inv,h,hf,hC=>by
  refine⟨λhB=>?_,λm' hm hB=>?_⟩
  ·simp only[WD,Bool.not_false,dH,JL] at hB;have:=Vz hB.1;subst this;exact⟨hB.2,S,hf,h⟩
  ·simp[WD] at hB
 | .skip,m,listed,S,a,w,inv,h,hf,hC=>by
  refine⟨λhB=>?_,λm' hm hB _ i hi=>?_⟩
  ·simp[WD] at hB
  ·simp[PT.alts] at hi
 | .quiet k t,0,listed,S,a,w,inv,h,hf,hC=>by
  refine⟨λhB=>?_,λm' hm hB=>?_⟩
  ·simp[WD] at hB
  ·simp[WD] at hB
 | .quiet k t,m+1,listed,S,a,w,inv,h,hf,hC=>by
  refine⟨λhB=>?_,λm' hm hB=>?_⟩
  ·simp only[WD,Bool.not_false,dH,JL] at hB;obtain⟨⟨⟨Xl,hr⟩,ll⟩,VM⟩:=hB;have Xl:k<n:=by rw[jv] at Xl;exact Xl
   have Q1:k∈Region.ready md ops.toArray listed:=by simpa using hr
   obtain⟨_,o,ho,_⟩:=mem_ready.1 Q1;have hn:VC ops k=some o:=by rw[iz];simpa using ho
   simp only[kA,hn] at h;have key:∃v,YieldsIf c.g.P ops.toArray C o v a/\∃S',Fits c.N S' (a.put o.dst v)/\kA c ops C t S' w K:=by
    rcases lY h hf with⟨hw,S1,ZB,h1⟩ | ⟨hw,S1,ZB,h1⟩
    ·obtain⟨v,h2,h3⟩:=zt hg h1 ZB;exact⟨v,.inl ⟨hw,h2⟩,h3⟩
    ·exact⟨undef,.inr ⟨hw,rfl⟩,Zs (e:=.v undef) h1 ZB⟩
   obtain⟨v,hy,S',QY,h'⟩:=key;exact Nc ho (Region.noSelect_spec hs) hk Xl (λKz a' w' hL=>seqB_ready hL.1) m listed a w inv (Region.free_spec ho ll) Q1 hy hC
    ((vT hg hs hk t m _ S' _ w (inv.set Q1 Xl) h' QY hC).1 VM)
  ·simp[WD] at hB
 | .fork k t o,0,listed,S,a,w,inv,h,hf,hC=>by
  refine⟨λhB=>?_,λm' hm hB=>?_⟩
  ·simp[WD] at hB
  ·simp[WD] at hB
 | .fork k t o,m+1,listed,S,a,w,inv,h,hf,hC=>by
  have key:(Nat.blt k n&&WD md ops.toArray n t false m (listed.setIfInBounds k true))=true->WD md ops.toArray n o true (m+1) listed=true->(∀i∈(PT.fork k t o).alts,i∈Region.ready md ops.toArray listed)->
    ∀i∈(PT.fork k t o).alts,i<n/\wpOp c.g.P ops.toArray (NoPan Q) i (λa' w'=>C w'/\WX c.g.P md ops.toArray (NoPan Q) C n (λKz a' w'=>Region.seqB md ops.toArray (ops.toArray.size-n) n Kz=true/\∃S',Fits c.N S' a'/\K S' w') m (listed.setIfInBounds i true) a' w') a w:=by
   intro hB lG hall i hi;simp only[JL] at hB;obtain⟨Xl,VM⟩:=hB;have Xl:k<n:=by rw[jv] at Xl;exact Xl
   simp only[PT.alts,QZ] at hi;have Q1:k∈Region.ready md ops.toArray listed:=hall k (by simp[PT.alts]);obtain⟨h1,h2⟩:=h;rcases hi with rfl | hi
   ·refine⟨Xl,?_⟩;obtain⟨_,op,ho,_⟩:=mem_ready.1 Q1;have hn:VC ops i=some op:=by rw[iz];simpa using ho
    simp only[hn] at h1;have hZ:=inv.set Q1 Xl;unfold wpOp;simp only[ho];rcases lY h1 hf with⟨hw,S1,ZB,h3⟩ | ⟨hw,S1,ZB,h3⟩
    ·rw[Qf hw];refine .inl ?_;have h4:=rH hg h3 ZB;have h5:=Oper.wp_mono (K':=λa' w'=>C w'/\WX c.g.P md ops.toArray (NoPan Q) C n (λKz a' w'=>Region.seqB md ops.toArray (ops.toArray.size-n) n Kz=true/\∃S',Fits c.N S' a'/\K S' w') m (listed.setIfInBounds i true) a' w')
      (λa' w' ⟨S',QY,Z2,YD⟩=>⟨Z2,(vT hg hs hk t m _ S' a' w' hZ YD QY Z2).1 VM⟩) h4
     unfold Oper.wp at h5 ⊢;generalize (execOp a.eval op).run c.g.P w=r at*;cases r with
     | ok nx w'=>
      cases nx<;>simp only[Oper.upon] at h5 ⊢ <;> try exact h5
      exact h5.mono λe K6 he=>by
       cases e with
       | returned v=>exact he
       | panicked ch=>obtain⟨_,_,he⟩:=he;exact he.elim
       | outgrown=>obtain⟨_,_,_,_,he⟩:=he;exact he.elim
     | halt x w'=>cases x<;>simp only[Oper.upon] at h5 ⊢ <;> first | exact h5 | (obtain⟨_,_,h5⟩:=h5;exact h5.elim)
    ·rw[if_neg (by rw[hw];decide)];obtain⟨S',QY,h'⟩:=Zs (e:=.v undef) h3 ZB;exact⟨hC,(vT hg hs hk t m _ S' _ w hZ h' QY hC).1 VM⟩
   ·exact(vT hg hs hk o (m+1) listed S a w inv h2 hf hC).2 m rfl lG (λj hj=>hall j (by simp[PT.alts,hj])) i hi
  refine⟨λhB=>?_,λm' hm hB hall=>?_⟩
  ·simp only[WD,Bool.false_or,JL,Vl] at hB;obtain⟨⟨hr,Qh⟩,Qw⟩:=hB;have ah:Region.ready md ops.toArray listed=(PT.fork k t o).alts:=hr;refine⟨λh0=>(by rw[hr] at h0;cases h0),λi hi=>?_⟩;exact key (by simpa using Qh) Qw (λj hj=>by rw[ah];exact hj) i (by rw[ah] at hi;exact hi)
  ·simp only[WD,Bool.true_or,dH] at hB;rw[JL] at hB;have ZQ:m'=m:=by omega
   subst ZQ;exact key hB.1 hB.2 hall
theorem FI (hg:c.g.Ok){id:Nat}{ops:List Oper}{w:World}{Q:Zg}(C:World->Prop)(n:Nat)(t:PT)
  (hB:(Region.noSelect ops.toArray&&rO .any ops.toArray n&&WD .any ops.toArray n t false n (Array.replicate ops.toArray.size false))=true) (hC:C w.drew)
  (h:kA {c with named:=1000000} ops C t S w.drew (λS w=>Yq c ops (ops.drop n) S w (λS w=>Q .normal S w) (λ_ _ _=>False))):WV c id ops S w Q:=by
 unfold WV;intro a hf;simp only[JL] at hB;obtain⟨⟨hs,bM⟩,Jq⟩:=hB;have hk:=zr bM;have I1:n<=ops.length:=by
  rcases hk with hk | hk
  ·rw[hk];simp
  ·have:=hk.1;simp at this;omega
 refine Code.wp_mono NoPan.imp (wp_region_any hg.mixed ?_);have pR:HeadInv .any ops.toArray n (Array.replicate ops.toArray.size false):=
  ⟨by simp,λj oj _ hl=>(by rw[getD_replicate_false] at hl;cases hl),λt _ ht=>getD_in (by simpa using ht) (getD_replicate_false _ _)⟩
 have H:=(vT (c:={c with named:=1000000}) hg (Q:=Up c Q) hs hk t n _ S a _ pR h hf hC).1 Jq;have Yp:(ops.drop n).length=ops.toArray.size-n:=by simp
 have H2:=uV (Q:=NoPan (Up c Q)) (g:=ops.toArray.size-n) (λKz a' w' hL=>by
  obtain⟨hq,S',QY,YD⟩:=hL;have h2:=jF (c:=c) hg ops _ _ _ _ YD QY;have:=wpAny_of_seq (P:=c.g.P) (md:=.any) (ops:=ops.toArray) (Q':=NoPan (Up c Q)) (ops.drop n) n Kz a' w' (λj=>by simp) (by rw[Yp];exact hq) (lW (λe a w hq=>by
   cases e with
   | normal=>exact hq
   | _=>exact Q8 hq (by rintro⟨_,_,h⟩;exact h)) h2)
  rwa [Yp] at this) _ _ _ _ H
 rw[show n+(ops.toArray.size-n)=ops.toArray.size by simp;omega] at H2;exact H2
theorem hQm {α:Type}{id:Nat}{ops:List Oper}{w:World}{Q:Zg}(sl:List Nat)(val:α->List Value)(R:α->World->Prop)
  (hx:Wm (dO (.region id ops.toArray true)) S [] (λS0=>WV c id ops S w (λe S2 w2=>match e with
   | .normal=>∃s,cN sl (val s) S0 (λT=>Has T S2)/\R s w2
   | e=>Q e S2 w2)))
  (hy:Wm (dO (.region id ops.toArray true)) S [] (λS0=>∀s w',R s w'->cN sl (val s) S0 (λS1=>Q .normal S1 w'))):WV c id ops S w Q:=by
 rw[zh] at hx hy;unfold WV at*;intro a hf;generalize lU (dO (.region id ops.toArray true)) S []=S0 at*;have lq:∀s (K:Env->Prop),cN sl (val s) S0 K->K ((sl.zip ((val s).map Ent.v)).reverse++S0):=λs K h=>by
  obtain⟨T,rfl,hk⟩:=D8 h;exact hk
 refine Code.wp_mono (λe a2 w2 hq=>?_) (hx a hf);obtain⟨S2,ZI,hq⟩:=hq;cases e with
 | normal=>
  obtain⟨s,hz,hR⟩:=hq;exact⟨_,(lq s _ hz).fits ZI,lq s _ (hy s w2 hR)⟩
 | exit i=>exact⟨S2,ZI,hq⟩
 | goto l=>exact⟨S2,ZI,hq⟩
 | ret=>exact⟨S2,ZI,hq⟩
 | panic ch=>exact⟨S2,ZI,hq⟩
 | outgrown=>exact⟨S2,ZI,hq⟩
end
end
section
def Ju (p:DV×List Nat):List Value:=[.slice p.1.A p.1.n p.1.c,.int .i64 p.1.r,.string (Qe p.2)]
theorem FJ (p:DV×List Nat):(Ju p).length=3:=rfl
structure WP where
 pb:Nat
 wb:Nat
 nb:Nat
 PA:Option Addr
 pn:Nat
 pc:Nat
 NA:Option Addr
 nn:Nat
 nc:Nat
 nm:List (List Nat)
 ps:List (DV×List Nat)
def WP.caps (p:WP):List Value:=[.pointer (some ⟨p.pb,0,none⟩),.pointer (some ⟨p.wb,0,none⟩),.pointer (some ⟨p.nb,0,none⟩)]
def WP.clo (p:WP):Value:=.func (.func 116) #[] #[.pointer (some ⟨p.pb,0,none⟩),.pointer (some ⟨p.wb,0,none⟩),.pointer (some ⟨p.nb,0,none⟩)]
structure WK (w:World) (p:WP):Prop where
 pbb:Blk w p.pb 54 [.slice p.PA p.pn p.pc]
 wbb:Blk w p.wb 192 [p.clo]
 nbb:Blk w p.nb 37 [.slice p.NA p.nn p.nc]
 pss:SlS Ju 3 w p.PA p.pn p.pc p.ps
 sbs:∀q∈p.ps,SB w q.1.A q.1.n q.1.c q.1.nd
 nms:Sl w 1 p.NA p.nn p.nc (XW p.nm)
theorem WK.ext {w w':World}{p:WP}(h:WK w p)(k:Ext w w'):WK w' p:=⟨h.pbb.ext k,h.wbb.ext k,h.nbb.ext k,h.pss.ext k,λq hq=>(h.sbs q hq).ext k,h.nms.ext k⟩
def hQn (k:Nat)(wR:World)(oh ol:BF)(t:DV×DV×Nat×Nat)(w':World):Prop:=Ext wR w'/\Blk w' t.2.2.1 32 t.1.cells/\Blk w' t.2.2.2 32 t.2.1.cells/\SB w' t.1.A t.1.n t.1.c t.1.nd/\Set1 k t.1.nd t.1.r oh/\SB w' t.2.1.A t.2.1.n t.2.1.c t.2.1.nd/\Set1 k t.2.1.nd t.2.1.r ol
theorem FK {k:Nat}(hk:k<=12){x y:DV}{o o':BF}(s:Set1 k x.nd x.r o)(s':Set1 k y.nd y.r o'):gv x.nd x.r y.nd y.r=true↔∀e,o e=true->o' e=true:=by
 rw[Fv];constructor
 ·rintro⟨_,_,hn⟩ e he;cases h:o' e with
  | true=>rfl
  | false=>exact Q8 ⟨e,by rw[s.mean];exact he,by rw[s'.mean];exact h⟩ hn
 ·intro h;refine⟨s.chk hk,s'.chk hk,λ⟨e,h1,h2⟩=>?_⟩;rw[s.mean] at h1;rw[s'.mean,h e h1] at h2;cases h2
theorem hQo (p:WP)(n:Nat)(la:n<=4)(xG:p.nm.length=n)(VO:Ks p.nm)(KB:∀s∈p.nm,s.length<=1000000)(Yd:∀q∈p.ps,Kk n q.1.nd q.1.r=true/\Ve q.2=true/\(∀b∈q.2,b<256)/\q.2.length<=1000000):
  ∀(k v:Nat) (x:DV) (o:BF) (w:World),v+k=n->WK w p->SB w x.A x.n x.c x.nd->Set1 n x.nd x.r o->QF n o≠ []->PaOk (QF n o) (Zn p.ps)->Apt (QF n o) v k->
  Fn Tryz.prog 116 (Xm x.A x.n x.c x.r:: .int .i64 v::p.caps) w (λu w'=>sL w u ((XV p.nm (fP (Zn p.ps)) k v (QF n o)).map (·++ [10])) w'):=by
 have hk:n<=12:=by omega
 intro k;induction k using Nat.strongRecOn with
 | ind k ih=>
 intro v x o w Db hK hx sx QQ ZP aW;have Jq:=hK.pss.2;refine QD (c:={bQ9 with cuts:=[]}) Qa Tryz.func116 rfl rfl rfl ?_;refine new (λw1 Qd Q3 Qh=>?_);have J8:=hK.ext Qd;refine Qx J8.pbb rfl ?_;refine loop Qa [17] (λi:Nat=>[.int .i64 i]) (λi w'=>Ext w1 w'/\i<=p.pn/\∀q∈p.ps.take i,¬∀e,o e=true->oD q.1 e=true) (λi _=>p.pn-i) 0 rfl ⟨Ext.refl _,XJ _,λq hq=>by simp at hq⟩ ?_;rintro i w2 ⟨Qg,hi,Xf⟩;have Q7:=Qd.trans Qg;have mQL:p.pn<=9223372036854775807:=by have:=hK.pss.1.le;have:=hK.pss.1.cap;simp only[maxLen] at this;omega
 refine Qy (λc1=>?_) (λc1=>?_)
 ·have Xe:i<p.pn:=by omega
  refine Zw FJ (hK.ext Q7).pss rfl Xe (λad q hq hc=>?_);have cJ:=QO hq;obtain⟨o1,o2,o3,o4⟩:=Yd q cJ;refine Kr (vs:=Ju q) rfl hc ?_;refine new (λw3 Qk JI Qt=>?_);refine Qz Qt rfl (sc rfl) (λw4 cq _ Q4=>?_);have Jj:Ext w2 w4:=X9 Qk Qt cq;have XL:=Q7.trans Jj;refine Qs (Qh.ext (Qg.trans Jj)) rfl ?_;refine fk (vs:=[.slice q.1.A q.1.n q.1.c,.int .i64 q.1.r]) Q4 rfl (λj u hj=>by match j,hj with | 0,hj=>exact hj | 1,hj=>exact hj) ?_;refine call (Rg x.A x.n x.c x.nd x.r q.1.A q.1.n q.1.c q.1.nd q.1.r w4 (hx.ext XL) ((hK.sbs q cJ).ext XL)) ?_;rintro _ w5 ⟨rfl,Qv⟩;have JV:=XL.trans Qv;refine Wn (λd1=>?_) (λd1=>?_)
  ·have d1:gv x.nd x.r q.1.nd q.1.r=true:=d1;have hw:=(FK hk sx (gy o1)).1 d1;refine Qp (Q4.ext Qv) rfl ?_;refine call (Ai q.2 w5 o3 (by omega)) ?_;rintro _ w6 ⟨A,c,rfl,Xh,i6⟩;have hwv:XV p.nm (fP (Zn p.ps)) k v (QF n o)=QT q.2:=gQZ ZP QQ (p:=⟨oD q.1,q.2⟩) (Z4.2 ⟨q,cJ,rfl⟩) (λc hc=>hw _ (Z7.1 hc).2) k v;have ht:aG q.2=true:=by unfold Ve at o2;rw[JL] at o2;exact o2.1
   have jo:W8 q.2=(XV p.nm (fP (Zn p.ps)) k v (QF n o)).map (·++ [10]):=by rw[hwv,vK (mF ht)]
   rw[jo] at i6 ⊢;exact⟨A,c,rfl,JV.trans Xh,i6⟩
  ·have d1:gv x.nd x.r q.1.nd q.1.r=false:=d1;refine Qi ((i+1:Nat):Int) (by show((i:Nat):Int)+1=_;omega) (by omega) ?_;refine⟨i+1,rfl,⟨(Qg.trans Jj).trans Qv,Xe,λq' hq' hall=>?_⟩,by show p.pn-(i+1)<p.pn-i;omega⟩;rw[VT,hq] at hq';rcases Xw.1 hq' with hq' | hq'
   ·exact Xf q' hq' hall
   ·have:q'=q:=by simpa using hq'
    subst this;rw[(FK hk sx (gy o1)).2 hall] at d1;cases d1
 have Xe:i=p.pn:=by omega
 rw[Xe,Jm (by omega)] at Xf;cases k with
 | zero=>
  obtain⟨q0,V9,hall⟩:=gQ0 ZP QQ aW;obtain⟨q,hq,rfl⟩:=Z4.1 V9;exact Q8 ((RC sx.dep (gy (Yd q hq).1).dep).2 hall) (Xf q hq)
 | succ k=>
 have Lt:v<n:=by omega
 refine call (E3 (v:Int) w2 (by omega) (by omega)) ?_;rintro _ w3 ⟨YA,yn,yc,rfl,Qk,hY3,_⟩;refine call (AH ⟨YA,yn,yc,[⟨(v:Int),0,1⟩],2⟩ w3) ?_;rintro _ w4 ⟨rfl,Qq⟩;refine new (λw5 Qv KJ QK=>?_);refine Qz QK rfl (sc rfl) (λwR hgR _ hBR=>?_);have aQL:Ext w4 wR:=X9 Qv QK hgR;have lQr:=(Qk.trans Qq).trans aQL;have aQM:=Qg.trans lQr;have LQ:=Qd.trans aQM;obtain⟨y,hy⟩:∃y:DV,y=⟨YA,yn,yc,[⟨(v:Int),0,1⟩],2⟩:=⟨_,rfl⟩
 have sy:Set1 n y.nd y.r (λe=>e v):=by rw[hy];exact Ft Lt (by omega)
 have jk:SB wR y.A y.n y.c y.nd:=by rw[hy];exact hY3.ext (Qq.trans aQL)
 have hBY:Blk wR w4.heap.size 32 y.cells:=by rw[hy];exact hBR
 have hBX:=Qh.ext aQM;have hxR:=hx.ext LQ;have hKR:=hK.ext LQ;clear hBR QK;refine hQm [11,12] (λt:DV×DV×Nat×Nat=>[.pointer (some ⟨t.2.2.1,0,none⟩),.pointer (some ⟨t.2.2.2,0,none⟩)]) (λt w'=>hQn n wR (λe=>o e&&e v) (λe=>o e && !e v) t w') ?_ ?_
 ·have eR:=Ext.drew wR;have hx:=hxR;have hy:=jk;refine FI Qa (Ext wR) 10 (.quiet 0 (.quiet 1 (.quiet 3 (.quiet 4 (.fork 2 (.fork 5 (.fork 6 (.fork 7 (.fork 8 (.fork 9 .done .skip) .skip) .skip) (.fork 7 (.fork 6 (.fork 8 (.fork 9 .done .skip) .skip) .skip) .skip)) (.fork 6 (.fork 5 (.fork 7 (.fork 8 (.fork 9 .done .skip) .skip) .skip) (.fork 7 (.fork 5 (.fork 8 (.fork 9 .done .skip) .skip) .skip) .skip)) (.fork 7 (.fork 5 (.fork 6 (.fork 8 (.fork 9 .done .skip) .skip) .skip) (.fork 6 (.fork 5 (.fork 8 (.fork 9 .done .skip) .skip) .skip) .skip)) .skip))) (.fork 6 (.fork 2 (.fork 5 (.fork 7 (.fork 8 (.fork 9 .done .skip) .skip) .skip) (.fork 7 (.fork 5 (.fork 8 (.fork 9 .done .skip) .skip) .skip) .skip)) (.fork 7 (.fork 2 (.fork 5 (.fork 8 (.fork 9 .done .skip) .skip) .skip) .skip) .skip)) (.fork 7 (.fork 2 (.fork 5 (.fork 6 (.fork 8 (.fork 9 .done .skip) .skip) .skip) (.fork 6 (.fork 5 (.fork 8 (.fork 9 .done .skip) .skip) .skip) .skip)) (.fork 6 (.fork 2 (.fork 5 (.fork 8 (.fork 9 .done .skip) .skip) .skip) .skip) .skip)) .skip))))))) (by kernel_rfl) (Ext.drew wR) ?_;refine Xq (vs:=x.cells) rfl (λw' Qb j u hj=>by rw[(hBX.ext Qb).cell];exact hj) ?_;refine Xq (vs:=y.cells) rfl (λw' Qb j u hj=>by rw[(hBY.ext Qb).cell];exact hj) ?_;refine Xq (vs:=x.cells) rfl (λw' Qb j u hj=>by rw[(hBX.ext Qb).cell];exact hj) ?_;refine Xq (vs:=y.cells) rfl (λw' Qb j u hj=>by rw[(hBY.ext Qb).cell];exact hj) ?_;refine⟨?_,?_⟩
  ·refine call (mJ hk x y wR.drew (hx.ext eR) (hy.ext eR) sx sy) ?_;rintro _ v1 ⟨HA,Hn,Hc,Hnd,Hr,rfl,g1,Hb,Hs,HR⟩;have e1:=eR.trans g1;refine⟨e1,?_⟩;have z1:=g1.size;have y1:=λad ea h0=>SB.lt Hb ad ea h0
   have r1:=λ(ad:Addr) (ea:HA=some ad)=>HR ad.block ⟨ad,ea,rfl⟩
   refine⟨?_,?_⟩
   ·refine call (dZ hk x y v1 (hx.ext e1) (hy.ext e1) sx sy) ?_;rintro _ v2 ⟨LA,Ln,Lc,Lnd,Lr,rfl,g2,Lb,Ls,LR⟩;have e2:=e1.trans g2;refine⟨e2,?_⟩;have z2:=g2.size;have y2:=λad ea h0=>SB.lt Lb ad ea h0
    have r2:=λ(ad:Addr) (ea:LA=some ad)=>LR ad.block ⟨ad,ea,rfl⟩
    refine⟨?_,?_⟩
    ·refine new (λv3 g3 z3 B3=>?_);have e3:=e2.trans g3;refine⟨e3,?_⟩;have l3:=e2.size;refine⟨?_,trivial⟩;refine new (λv4 g4 z4 B4=>?_);have e4:=e3.trans g4;refine⟨e4,?_⟩;have l4:=e3.size;refine⟨?_,trivial⟩;refine Qz (B3.ext g4) rfl (sc rfl) (λv5 h5 _ B5=>?_);have m5:Mod (·=v2.heap.size) v4 v5:=mQW h5 rfl;have e5:Ext wR v5:=m5.ext e4 (λi hi=>by omega);refine⟨e5,?_⟩;refine⟨?_,trivial⟩;refine Qz (B4.mod m5 (by show¬v3.heap.size=v2.heap.size;omega)) rfl (sc rfl) (λv6 h6 _ B6=>?_);have m6:Mod (·=v3.heap.size) v5 v6:=mQW h6 rfl;have e6:Ext wR v6:=m6.ext e5 (λi hi=>by omega);refine⟨e6,?_⟩;exact⟨(⟨HA,Hn,Hc,Hnd,Hr⟩,⟨LA,Ln,Lc,Lnd,Lr⟩,v2.heap.size,v3.heap.size),rfl,⟨e6,(B5.mod m6 (by show¬v2.heap.size=v3.heap.size;omega)),B6,(SB.modo (SB.modo (((Hb.ext g2).ext g3).ext g4) m5 (λad ea h0 hh=>by have q1:=y1 ad ea h0;have q2:=r1 ad ea;omega)) m6 (λad ea h0 hh=>by have q1:=y1 ad ea h0;have q2:=r1 ad ea;omega)),Hs,(SB.modo (SB.modo ((Lb.ext g3).ext g4) m5 (λad ea h0 hh=>by have q1:=y2 ad ea h0;have q2:=r2 ad ea;omega)) m6 (λad ea h0 hh=>by have q1:=y2 ad ea h0;have q2:=r2 ad ea;omega)),Ls⟩⟩
    ·refine⟨?_,trivial⟩;refine new (λv7 g7 z7 B7=>?_);have e7:=e2.trans g7;refine⟨e7,?_⟩;have l7:=e2.size;refine⟨?_,trivial⟩;refine new (λv8 g8 z8 B8=>?_);have e8:=e7.trans g8;refine⟨e8,?_⟩;have l8:=e7.size;refine⟨?_,trivial⟩;refine Qz B8 rfl (sc rfl) (λv9 h9 _ B9=>?_);have m9:Mod (·=v7.heap.size) v8 v9:=mQW h9 rfl;have e9:Ext wR v9:=m9.ext e8 (λi hi=>by omega);refine⟨e9,?_⟩;refine⟨?_,trivial⟩;refine Qz ((B7.ext g8).mod m9 (by show¬v2.heap.size=v7.heap.size;omega)) rfl (sc rfl) (λUl XN _ B10=>?_);have BL:Mod (·=v2.heap.size) v9 Ul:=mQW XN rfl;have Um:Ext wR Ul:=BL.ext e9 (λi hi=>by omega);refine⟨Um,?_⟩;exact⟨(⟨HA,Hn,Hc,Hnd,Hr⟩,⟨LA,Ln,Lc,Lnd,Lr⟩,v7.heap.size,v2.heap.size),rfl,⟨Um,(B9.mod BL (by show¬v7.heap.size=v2.heap.size;omega)),B10,(SB.modo (SB.modo (((Hb.ext g2).ext g7).ext g8) m9 (λad ea h0 hh=>by have q1:=y1 ad ea h0;have q2:=r1 ad ea;omega)) BL (λad ea h0 hh=>by have q1:=y1 ad ea h0;have q2:=r1 ad ea;omega)),Hs,(SB.modo (SB.modo ((Lb.ext g7).ext g8) m9 (λad ea h0 hh=>by have q1:=y2 ad ea h0;have q2:=r2 ad ea;omega)) BL (λad ea h0 hh=>by have q1:=y2 ad ea h0;have q2:=r2 ad ea;omega)),Ls⟩⟩
   ·refine⟨?_,?_⟩
    ·refine new (λxf wF Bk B11=>?_);have tQ:=e1.trans wF;refine⟨tQ,?_⟩;have l11:=e1.size;refine⟨?_,?_⟩
     ·refine call (dZ hk x y xf (hx.ext tQ) (hy.ext tQ) sx sy) ?_;rintro _ BM ⟨LA,Ln,Lc,Lnd,Lr,rfl,BO,Lb,Ls,LR⟩;have HY:=tQ.trans BO;refine⟨HY,?_⟩;have TG:=BO.size;have Un:=λad ea h0=>SB.lt Lb ad ea h0
      have Uo:=λ(ad:Addr) (ea:LA=some ad)=>LR ad.block ⟨ad,ea,rfl⟩
      refine⟨?_,trivial⟩;refine new (λv13 BP z13 B13=>?_);have Uq:=HY.trans BP;refine⟨Uq,?_⟩;have l13:=HY.size;refine⟨?_,trivial⟩;refine Qz ((B11.ext BO).ext BP) rfl (sc rfl) (λHZ Vv _ B14=>?_);have BQ:Mod (·=v1.heap.size) v13 HZ:=mQW Vv rfl;have xg:Ext wR HZ:=BQ.ext Uq (λi hi=>by omega);refine⟨xg,?_⟩;refine⟨?_,trivial⟩;refine Qz (B13.mod BQ (by show¬BM.heap.size=v1.heap.size;omega)) rfl (sc rfl) (λUr Wd _ B15=>?_);have BR:Mod (·=BM.heap.size) HZ Ur:=mQW Wd rfl;have Us:Ext wR Ur:=BR.ext xg (λi hi=>by omega);refine⟨Us,?_⟩;exact⟨(⟨HA,Hn,Hc,Hnd,Hr⟩,⟨LA,Ln,Lc,Lnd,Lr⟩,v1.heap.size,BM.heap.size),rfl,⟨Us,(B14.mod BR (by show¬v1.heap.size=BM.heap.size;omega)),B15,(SB.modo (SB.modo (((Hb.ext wF).ext BO).ext BP) BQ (λad ea h0 hh=>by have q1:=y1 ad ea h0;have q2:=r1 ad ea;omega)) BR (λad ea h0 hh=>by have q1:=y1 ad ea h0;have q2:=r1 ad ea;omega)),Hs,(SB.modo (SB.modo (Lb.ext BP) BQ (λad ea h0 hh=>by have q1:=Un ad ea h0;have q2:=Uo ad ea;omega)) BR (λad ea h0 hh=>by have q1:=Un ad ea h0;have q2:=Uo ad ea;omega)),Ls⟩⟩
     ·refine⟨?_,trivial⟩;refine new (λv16 H0 z16 B16=>?_);have BT:=tQ.trans H0;refine⟨BT,?_⟩;have l16:=tQ.size;refine⟨?_,trivial⟩;refine call (dZ hk x y v16 (hx.ext BT) (hy.ext BT) sx sy) ?_;rintro _ v17 ⟨LA,Ln,Lc,Lnd,Lr,rfl,xi,Lb,Ls,LR⟩;have Ut:=BT.trans xi;refine⟨Ut,?_⟩;have z17:=xi.size;have Uu:=λad ea h0=>SB.lt Lb ad ea h0
      have Uv:=λ(ad:Addr) (ea:LA=some ad)=>LR ad.block ⟨ad,ea,rfl⟩
      refine⟨?_,trivial⟩;refine Qz ((B11.ext H0).ext xi) rfl (sc rfl) (λH3 aq _ B18=>?_);have BU:Mod (·=v1.heap.size) v17 H3:=mQW aq rfl;have Uw:Ext wR H3:=BU.ext Ut (λi hi=>by omega);refine⟨Uw,?_⟩;refine⟨?_,trivial⟩;refine Qz ((B16.ext xi).mod BU (by show¬xf.heap.size=v1.heap.size;omega)) rfl (sc rfl) (λUx eH _ B19=>?_);have BV:Mod (·=xf.heap.size) H3 Ux:=mQW eH rfl;have Uy:Ext wR Ux:=BV.ext Uw (λi hi=>by omega);refine⟨Uy,?_⟩;exact⟨(⟨HA,Hn,Hc,Hnd,Hr⟩,⟨LA,Ln,Lc,Lnd,Lr⟩,v1.heap.size,xf.heap.size),rfl,⟨Uy,(B18.mod BV (by show¬v1.heap.size=xf.heap.size;omega)),B19,(SB.modo (SB.modo (((Hb.ext wF).ext H0).ext xi) BU (λad ea h0 hh=>by have q1:=y1 ad ea h0;have q2:=r1 ad ea;omega)) BV (λad ea h0 hh=>by have q1:=y1 ad ea h0;have q2:=r1 ad ea;omega)),Hs,(SB.modo (SB.modo Lb BU (λad ea h0 hh=>by have q1:=Uu ad ea h0;have q2:=Uv ad ea;omega)) BV (λad ea h0 hh=>by have q1:=Uu ad ea h0;have q2:=Uv ad ea;omega)),Ls⟩⟩
    ·refine⟨?_,trivial⟩;refine new (λv20 H4 z20 B20=>?_);have tR:=e1.trans H4;refine⟨tR,?_⟩;have l20:=e1.size;refine⟨?_,?_⟩
     ·refine call (dZ hk x y v20 (hx.ext tR) (hy.ext tR) sx sy) ?_;rintro _ v21 ⟨LA,Ln,Lc,Lnd,Lr,rfl,BW,Lb,Ls,LR⟩;have H5:=tR.trans BW;refine⟨H5,?_⟩;have z21:=BW.size;have Uz:=λad ea h0=>SB.lt Lb ad ea h0
      have UA:=λ(ad:Addr) (ea:LA=some ad)=>LR ad.block ⟨ad,ea,rfl⟩
      refine⟨?_,trivial⟩;refine new (λv22 BX z22 B22=>?_);have UB:=H5.trans BX;refine⟨UB,?_⟩;have l22:=H5.size;refine⟨?_,trivial⟩;refine Qz B22 rfl (sc rfl) (λH6 nC _ B23=>?_);have BY:Mod (·=v21.heap.size) v22 H6:=mQW nC rfl;have UC:Ext wR H6:=BY.ext UB (λi hi=>by omega);refine⟨UC,?_⟩;refine⟨?_,trivial⟩;refine Qz (((B20.ext BW).ext BX).mod BY (by show¬v1.heap.size=v21.heap.size;omega)) rfl (sc rfl) (λUD gB _ B24=>?_);have BZ:Mod (·=v1.heap.size) H6 UD:=mQW gB rfl;have UE:Ext wR UD:=BZ.ext UC (λi hi=>by omega);refine⟨UE,?_⟩;exact⟨(⟨HA,Hn,Hc,Hnd,Hr⟩,⟨LA,Ln,Lc,Lnd,Lr⟩,v21.heap.size,v1.heap.size),rfl,⟨UE,(B23.mod BZ (by show¬v21.heap.size=v1.heap.size;omega)),B24,(SB.modo (SB.modo (((Hb.ext H4).ext BW).ext BX) BY (λad ea h0 hh=>by have q1:=y1 ad ea h0;have q2:=r1 ad ea;omega)) BZ (λad ea h0 hh=>by have q1:=y1 ad ea h0;have q2:=r1 ad ea;omega)),Hs,(SB.modo (SB.modo (Lb.ext BX) BY (λad ea h0 hh=>by have q1:=Uz ad ea h0;have q2:=UA ad ea;omega)) BZ (λad ea h0 hh=>by have q1:=Uz ad ea h0;have q2:=UA ad ea;omega)),Ls⟩⟩
     ·refine⟨?_,trivial⟩;refine new (λv25 H7 z25 B25=>?_);have B0:=tR.trans H7;refine⟨B0,?_⟩;have l25:=tR.size;refine⟨?_,trivial⟩;refine call (dZ hk x y v25 (hx.ext B0) (hy.ext B0) sx sy) ?_;rintro _ v26 ⟨LA,Ln,Lc,Lnd,Lr,rfl,xj,Lb,Ls,LR⟩;have UF:=B0.trans xj;refine⟨UF,?_⟩;have z26:=xj.size;have UG:=λad ea h0=>SB.lt Lb ad ea h0
      have UH:=λ(ad:Addr) (ea:LA=some ad)=>LR ad.block ⟨ad,ea,rfl⟩
      refine⟨?_,trivial⟩;refine Qz (B25.ext xj) rfl (sc rfl) (λH8 h27 _ B27=>?_);have Ca:Mod (·=v20.heap.size) v26 H8:=mQW h27 rfl;have UI:Ext wR H8:=Ca.ext UF (λi hi=>by omega);refine⟨UI,?_⟩;refine⟨?_,trivial⟩;refine Qz (((B20.ext H7).ext xj).mod Ca (by show¬v1.heap.size=v20.heap.size;omega)) rfl (sc rfl) (λUJ h28 _ B28=>?_);have Cb:Mod (·=v1.heap.size) H8 UJ:=mQW h28 rfl;have UK:Ext wR UJ:=Cb.ext UI (λi hi=>by omega);refine⟨UK,?_⟩;exact⟨(⟨HA,Hn,Hc,Hnd,Hr⟩,⟨LA,Ln,Lc,Lnd,Lr⟩,v20.heap.size,v1.heap.size),rfl,⟨UK,(B27.mod Cb (by show¬v20.heap.size=v1.heap.size;omega)),B28,(SB.modo (SB.modo (((Hb.ext H4).ext H7).ext xj) Ca (λad ea h0 hh=>by have q1:=y1 ad ea h0;have q2:=r1 ad ea;omega)) Cb (λad ea h0 hh=>by have q1:=y1 ad ea h0;have q2:=r1 ad ea;omega)),Hs,(SB.modo (SB.modo Lb Ca (λad ea h0 hh=>by have q1:=UG ad ea h0;have q2:=UH ad ea;omega)) Cb (λad ea h0 hh=>by have q1:=UG ad ea h0;have q2:=UH ad ea;omega)),Ls⟩⟩
  ·refine⟨?_,?_⟩
   ·refine new (λxk g29 z29 B29=>?_);have tS:=eR.trans g29;refine⟨tS,?_⟩;have l29:=eR.size;refine⟨?_,?_⟩
    ·refine call (mJ hk x y xk (hx.ext tS) (hy.ext tS) sx sy) ?_;rintro _ xm ⟨HA,Hn,Hc,Hnd,Hr,rfl,Cc,Hb,Hs,HR⟩;have tT:=tS.trans Cc;refine⟨tT,?_⟩;have z30:=Cc.size;have Cd:=λad ea h0=>SB.lt Hb ad ea h0
     have Ce:=λ(ad:Addr) (ea:HA=some ad)=>HR ad.block ⟨ad,ea,rfl⟩
     refine⟨?_,?_⟩
     ·refine call (dZ hk x y xm (hx.ext tT) (hy.ext tT) sx sy) ?_;rintro _ v31 ⟨LA,Ln,Lc,Lnd,Lr,rfl,Cf,Lb,Ls,LR⟩;have H9:=tT.trans Cf;refine⟨H9,?_⟩;have z31:=Cf.size;have UL:=λad ea h0=>SB.lt Lb ad ea h0
      have UM:=λ(ad:Addr) (ea:LA=some ad)=>LR ad.block ⟨ad,ea,rfl⟩
      refine⟨?_,trivial⟩;refine new (λv32 Cg z32 B32=>?_);have UN:=H9.trans Cg;refine⟨UN,?_⟩;have l32:=H9.size;refine⟨?_,trivial⟩;refine Qz (((B29.ext Cc).ext Cf).ext Cg) rfl (sc rfl) (λIa h33 _ B33=>?_);have Ch:Mod (·=wR.drew.heap.size) v32 Ia:=mQW h33 rfl;have UO:Ext wR Ia:=Ch.ext UN (λi hi=>by omega);refine⟨UO,?_⟩;refine⟨?_,trivial⟩;refine Qz (B32.mod Ch (by show¬v31.heap.size=wR.drew.heap.size;omega)) rfl (sc rfl) (λUP h34 _ B34=>?_);have Ci:Mod (·=v31.heap.size) Ia UP:=mQW h34 rfl;have UQ:Ext wR UP:=Ci.ext UO (λi hi=>by omega);refine⟨UQ,?_⟩;exact⟨(⟨HA,Hn,Hc,Hnd,Hr⟩,⟨LA,Ln,Lc,Lnd,Lr⟩,wR.drew.heap.size,v31.heap.size),rfl,⟨UQ,(B33.mod Ci (by show¬wR.drew.heap.size=v31.heap.size;omega)),B34,(SB.modo (SB.modo ((Hb.ext Cf).ext Cg) Ch (λad ea h0 hh=>by have q1:=Cd ad ea h0;have q2:=Ce ad ea;omega)) Ci (λad ea h0 hh=>by have q1:=Cd ad ea h0;have q2:=Ce ad ea;omega)),Hs,(SB.modo (SB.modo (Lb.ext Cg) Ch (λad ea h0 hh=>by have q1:=UL ad ea h0;have q2:=UM ad ea;omega)) Ci (λad ea h0 hh=>by have q1:=UL ad ea h0;have q2:=UM ad ea;omega)),Ls⟩⟩
     ·refine⟨?_,trivial⟩;refine new (λv35 Ib z35 B35=>?_);have Cj:=tT.trans Ib;refine⟨Cj,?_⟩;have l35:=tT.size;refine⟨?_,trivial⟩;refine call (dZ hk x y v35 (hx.ext Cj) (hy.ext Cj) sx sy) ?_;rintro _ v36 ⟨LA,Ln,Lc,Lnd,Lr,rfl,xo,Lb,Ls,LR⟩;have UR:=Cj.trans xo;refine⟨UR,?_⟩;have Ic:=xo.size;have US:=λad ea h0=>SB.lt Lb ad ea h0
      have UT:=λ(ad:Addr) (ea:LA=some ad)=>LR ad.block ⟨ad,ea,rfl⟩
      refine⟨?_,trivial⟩;refine Qz (((B29.ext Cc).ext Ib).ext xo) rfl (sc rfl) (λv37 h37 _ B37=>?_);have Ck:Mod (·=wR.drew.heap.size) v36 v37:=mQW h37 rfl;have UU:Ext wR v37:=Ck.ext UR (λi hi=>by omega);refine⟨UU,?_⟩;refine⟨?_,trivial⟩;refine Qz ((B35.ext xo).mod Ck (by show¬xm.heap.size=wR.drew.heap.size;omega)) rfl (sc rfl) (λUV h38 _ B38=>?_);have Cl:Mod (·=xm.heap.size) v37 UV:=mQW h38 rfl;have UW:Ext wR UV:=Cl.ext UU (λi hi=>by omega);refine⟨UW,?_⟩;exact⟨(⟨HA,Hn,Hc,Hnd,Hr⟩,⟨LA,Ln,Lc,Lnd,Lr⟩,wR.drew.heap.size,xm.heap.size),rfl,⟨UW,(B37.mod Cl (by show¬wR.drew.heap.size=xm.heap.size;omega)),B38,(SB.modo (SB.modo ((Hb.ext Ib).ext xo) Ck (λad ea h0 hh=>by have q1:=Cd ad ea h0;have q2:=Ce ad ea;omega)) Cl (λad ea h0 hh=>by have q1:=Cd ad ea h0;have q2:=Ce ad ea;omega)),Hs,(SB.modo (SB.modo Lb Ck (λad ea h0 hh=>by have q1:=US ad ea h0;have q2:=UT ad ea;omega)) Cl (λad ea h0 hh=>by have q1:=US ad ea h0;have q2:=UT ad ea;omega)),Ls⟩⟩
    ·refine⟨?_,trivial⟩;refine new (λv39 UX z39 B39=>?_);have Cm:=tS.trans UX;refine⟨Cm,?_⟩;have l39:=tS.size;refine⟨?_,trivial⟩;refine call (mJ hk x y v39 (hx.ext Cm) (hy.ext Cm) sx sy) ?_;rintro _ v40 ⟨HA,Hn,Hc,Hnd,Hr,rfl,Co,Hb,Hs,HR⟩;have Cp:=Cm.trans Co;refine⟨Cp,?_⟩;have z40:=Co.size;have UY:=λad ea h0=>SB.lt Hb ad ea h0
     have UZ:=λ(ad:Addr) (ea:HA=some ad)=>HR ad.block ⟨ad,ea,rfl⟩
     refine⟨?_,trivial⟩;refine call (dZ hk x y v40 (hx.ext Cp) (hy.ext Cp) sx sy) ?_;rintro _ v41 ⟨LA,Ln,Lc,Lnd,Lr,rfl,xp,Lb,Ls,LR⟩;have U0:=Cp.trans xp;refine⟨U0,?_⟩;have z41:=xp.size;have U4:=λad ea h0=>SB.lt Lb ad ea h0
     have U5:=λ(ad:Addr) (ea:LA=some ad)=>LR ad.block ⟨ad,ea,rfl⟩
     refine⟨?_,trivial⟩;refine Qz (((B29.ext UX).ext Co).ext xp) rfl (sc rfl) (λId h42 _ B42=>?_);have Cq:Mod (·=wR.drew.heap.size) v41 Id:=mQW h42 rfl;have U6:Ext wR Id:=Cq.ext U0 (λi hi=>by omega);refine⟨U6,?_⟩;refine⟨?_,trivial⟩;refine Qz (((B39.ext Co).ext xp).mod Cq (by show¬xk.heap.size=wR.drew.heap.size;omega)) rfl (sc rfl) (λU7 h43 _ B43=>?_);have Cr:Mod (·=xk.heap.size) Id U7:=mQW h43 rfl;have U8:Ext wR U7:=Cr.ext U6 (λi hi=>by omega);refine⟨U8,?_⟩;exact⟨(⟨HA,Hn,Hc,Hnd,Hr⟩,⟨LA,Ln,Lc,Lnd,Lr⟩,wR.drew.heap.size,xk.heap.size),rfl,⟨U8,(B42.mod Cr (by show¬wR.drew.heap.size=xk.heap.size;omega)),B43,(SB.modo (SB.modo (Hb.ext xp) Cq (λad ea h0 hh=>by have q1:=UY ad ea h0;have q2:=UZ ad ea;omega)) Cr (λad ea h0 hh=>by have q1:=UY ad ea h0;have q2:=UZ ad ea;omega)),Hs,(SB.modo (SB.modo Lb Cq (λad ea h0 hh=>by have q1:=U4 ad ea h0;have q2:=U5 ad ea;omega)) Cr (λad ea h0 hh=>by have q1:=U4 ad ea h0;have q2:=U5 ad ea;omega)),Ls⟩⟩
   ·refine⟨?_,trivial⟩;refine new (λxq g44 z44 B44=>?_);have tU:=eR.trans g44;refine⟨tU,?_⟩;have l44:=eR.size;refine⟨?_,?_⟩
    ·refine call (mJ hk x y xq (hx.ext tU) (hy.ext tU) sx sy) ?_;rintro _ xr ⟨HA,Hn,Hc,Hnd,Hr,rfl,Cs,Hb,Hs,HR⟩;have tV:=tU.trans Cs;refine⟨tV,?_⟩;have z45:=Cs.size;have Ct:=λad ea h0=>SB.lt Hb ad ea h0
     have Cu:=λ(ad:Addr) (ea:HA=some ad)=>HR ad.block ⟨ad,ea,rfl⟩
     refine⟨?_,?_⟩
     ·refine call (dZ hk x y xr (hx.ext tV) (hy.ext tV) sx sy) ?_;rintro _ v46 ⟨LA,Ln,Lc,Lnd,Lr,rfl,Cv,Lb,Ls,LR⟩;have Ie:=tV.trans Cv;refine⟨Ie,?_⟩;have z46:=Cv.size;have U9:=λad ea h0=>SB.lt Lb ad ea h0
      have r46:=λ(ad:Addr) (ea:LA=some ad)=>LR ad.block ⟨ad,ea,rfl⟩
      refine⟨?_,trivial⟩;refine new (λv47 Cw z47 B47=>?_);have e47:=Ie.trans Cw;refine⟨e47,?_⟩;have l47:=Ie.size;refine⟨?_,trivial⟩;refine Qz B47 rfl (sc rfl) (λIf h48 _ B48=>?_);have Cy:Mod (·=v46.heap.size) v47 If:=mQW h48 rfl;have e48:Ext wR If:=Cy.ext e47 (λi hi=>by omega);refine⟨e48,?_⟩;refine⟨?_,trivial⟩;refine Qz ((((B44.ext Cs).ext Cv).ext Cw).mod Cy (by show¬wR.drew.heap.size=v46.heap.size;omega)) rfl (sc rfl) (λv49 h49 _ B49=>?_);have Cz:Mod (·=wR.drew.heap.size) If v49:=mQW h49 rfl;have e49:Ext wR v49:=Cz.ext e48 (λi hi=>by omega);refine⟨e49,?_⟩;exact⟨(⟨HA,Hn,Hc,Hnd,Hr⟩,⟨LA,Ln,Lc,Lnd,Lr⟩,v46.heap.size,wR.drew.heap.size),rfl,⟨e49,(B48.mod Cz (by show¬v46.heap.size=wR.drew.heap.size;omega)),B49,(SB.modo (SB.modo ((Hb.ext Cv).ext Cw) Cy (λad ea h0 hh=>by have q1:=Ct ad ea h0;have q2:=Cu ad ea;omega)) Cz (λad ea h0 hh=>by have q1:=Ct ad ea h0;have q2:=Cu ad ea;omega)),Hs,(SB.modo (SB.modo (Lb.ext Cw) Cy (λad ea h0 hh=>by have q1:=U9 ad ea h0;have q2:=r46 ad ea;omega)) Cz (λad ea h0 hh=>by have q1:=U9 ad ea h0;have q2:=r46 ad ea;omega)),Ls⟩⟩
     ·refine⟨?_,trivial⟩;refine new (λv50 Ig z50 B50=>?_);have CB:=tV.trans Ig;refine⟨CB,?_⟩;have l50:=tV.size;refine⟨?_,trivial⟩;refine call (dZ hk x y v50 (hx.ext CB) (hy.ext CB) sx sy) ?_;rintro _ v51 ⟨LA,Ln,Lc,Lnd,Lr,rfl,xu,Lb,Ls,LR⟩;have e51:=CB.trans xu;refine⟨e51,?_⟩;have z51:=xu.size;have y51:=λad ea h0=>SB.lt Lb ad ea h0
      have r51:=λ(ad:Addr) (ea:LA=some ad)=>LR ad.block ⟨ad,ea,rfl⟩
      refine⟨?_,trivial⟩;refine Qz (B50.ext xu) rfl (sc rfl) (λIh h52 _ B52=>?_);have CC:Mod (·=xr.heap.size) v51 Ih:=mQW h52 rfl;have e52:Ext wR Ih:=CC.ext e51 (λi hi=>by omega);refine⟨e52,?_⟩;refine⟨?_,trivial⟩;refine Qz ((((B44.ext Cs).ext Ig).ext xu).mod CC (by show¬wR.drew.heap.size=xr.heap.size;omega)) rfl (sc rfl) (λv53 h53 _ B53=>?_);have CD:Mod (·=wR.drew.heap.size) Ih v53:=mQW h53 rfl;have e53:Ext wR v53:=CD.ext e52 (λi hi=>by omega);refine⟨e53,?_⟩;exact⟨(⟨HA,Hn,Hc,Hnd,Hr⟩,⟨LA,Ln,Lc,Lnd,Lr⟩,xr.heap.size,wR.drew.heap.size),rfl,⟨e53,(B52.mod CD (by show¬xr.heap.size=wR.drew.heap.size;omega)),B53,(SB.modo (SB.modo ((Hb.ext Ig).ext xu) CC (λad ea h0 hh=>by have q1:=Ct ad ea h0;have q2:=Cu ad ea;omega)) CD (λad ea h0 hh=>by have q1:=Ct ad ea h0;have q2:=Cu ad ea;omega)),Hs,(SB.modo (SB.modo Lb CC (λad ea h0 hh=>by have q1:=y51 ad ea h0;have q2:=r51 ad ea;omega)) CD (λad ea h0 hh=>by have q1:=y51 ad ea h0;have q2:=r51 ad ea;omega)),Ls⟩⟩
    ·refine⟨?_,trivial⟩;refine new (λv54 g54 z54 B54=>?_);have CE:=tU.trans g54;refine⟨CE,?_⟩;have l54:=tU.size;refine⟨?_,trivial⟩;refine call (mJ hk x y v54 (hx.ext CE) (hy.ext CE) sx sy) ?_;rintro _ v55 ⟨HA,Hn,Hc,Hnd,Hr,rfl,CF,Hb,Hs,HR⟩;have CG:=CE.trans CF;refine⟨CG,?_⟩;have z55:=CF.size;have y55:=λad ea h0=>SB.lt Hb ad ea h0
     have r55:=λ(ad:Addr) (ea:HA=some ad)=>HR ad.block ⟨ad,ea,rfl⟩
     refine⟨?_,trivial⟩;refine call (dZ hk x y v55 (hx.ext CG) (hy.ext CG) sx sy) ?_;rintro _ v56 ⟨LA,Ln,Lc,Lnd,Lr,rfl,xv,Lb,Ls,LR⟩;have e56:=CG.trans xv;refine⟨e56,?_⟩;have z56:=xv.size;have y56:=λad ea h0=>SB.lt Lb ad ea h0
     have r56:=λ(ad:Addr) (ea:LA=some ad)=>LR ad.block ⟨ad,ea,rfl⟩
     refine⟨?_,trivial⟩;refine Qz ((B54.ext CF).ext xv) rfl (sc rfl) (λIi h57 _ B57=>?_);have CH:Mod (·=xq.heap.size) v56 Ii:=mQW h57 rfl;have e57:Ext wR Ii:=CH.ext e56 (λi hi=>by omega);refine⟨e57,?_⟩;refine⟨?_,trivial⟩;refine Qz ((((B44.ext g54).ext CF).ext xv).mod CH (by show¬wR.drew.heap.size=xq.heap.size;omega)) rfl (sc rfl) (λv58 h58 _ B58=>?_);have CI:Mod (·=wR.drew.heap.size) Ii v58:=mQW h58 rfl;have e58:Ext wR v58:=CI.ext e57 (λi hi=>by omega);refine⟨e58,?_⟩;exact⟨(⟨HA,Hn,Hc,Hnd,Hr⟩,⟨LA,Ln,Lc,Lnd,Lr⟩,xq.heap.size,wR.drew.heap.size),rfl,⟨e58,(B57.mod CI (by show¬xq.heap.size=wR.drew.heap.size;omega)),B58,(SB.modo (SB.modo (Hb.ext xv) CH (λad ea h0 hh=>by have q1:=y55 ad ea h0;have q2:=r55 ad ea;omega)) CI (λad ea h0 hh=>by have q1:=y55 ad ea h0;have q2:=r55 ad ea;omega)),Hs,(SB.modo (SB.modo Lb CH (λad ea h0 hh=>by have q1:=y56 ad ea h0;have q2:=r56 ad ea;omega)) CI (λad ea h0 hh=>by have q1:=y56 ad ea h0;have q2:=r56 ad ea;omega)),Ls⟩⟩
 rintro⟨xh,xl,b1,b2⟩ w6 ⟨Xh,Qh,Qw,hHb,LT,uu,io⟩;simp only at Qh Qw hHb LT uu io;have XM:=LQ.trans Xh;have bE:=hKR.ext Xh;have mh:QF n (λe=>o e&&e v)=de (QF n o) v:=by
  rw[RD (o:=o) (v:=v) true (λe=>by cases e v<;>rfl)];congr 1;funext c;cases c.testBit v<;>rfl
 have ml:QF n (λe=>o e && !e v)=fA (QF n o) v:=by
  rw[RD (o:=o) (v:=v) false (λe=>by cases e v<;>rfl)];congr 1;funext c;cases c.testBit v<;>rfl
 have h0:=LT.root0;have l0:=io.root0;rw[mh] at h0;rw[ml] at l0;have ihh:=λ(hq:de (QF n o) v≠ []) (w7:World) (Q2:Ext w6 w7)=>ih k (dI k) (v+1) xh (λe=>o e&&e v) w7 (by omega) (bE.ext Q2) (hHb.ext Q2) LT (by rw[mh];exact hq) (by rw[mh];exact ZP.sub (λc hc=>(JZ.1 hc).1)) (by rw[mh];exact gQ5 aW)
 rw[mh] at ihh;have ihl:=λ(hq:fA (QF n o) v≠ []) (w7:World) (Q2:Ext w6 w7)=>ih k (dI k) (v+1) xl (λe=>o e && !e v) w7 (by omega) (bE.ext Q2) (uu.ext Q2) io (by rw[ml];exact hq) (by rw[ml];exact ZP.sub (λc hc=>(JZ.1 hc).1)) (by rw[ml];exact gQ6 aW)
 rw[ml] at ihl;have kJ:((v+1:Nat):Int)=(v:Int)+1:=by omega
 refine Qp Qw rfl ?_;refine Zh (λc9=>?_) (λc9=>?_)
 ·have ik:=l0.1 c9;have lD:de (QF n o) v≠ []:=by rw[RE ik];exact QQ
  rw[gQ2 QQ ik];refine Qx bE.wbb rfl ?_;refine Qs Qh rfl ?_;refine Qi ((v+1:Nat):Int) (by omega) (by omega) ?_;refine call (ihh lD w6 (Ext.refl _)) ?_;rintro _ w7 ⟨A,c,rfl,Q2,XX⟩;exact⟨A,c,rfl,XM.trans Q2,XX⟩
 have ik:fA (QF n o) v≠ []:=λe=>c9 (l0.2 e)
 refine Qp Qh rfl ?_;refine Zh (λuY=>?_) (λuY=>?_)
 ·have lD:=h0.1 uY;rw[gQ3 QQ lD];refine Qx bE.wbb rfl ?_;refine Qs Qw rfl ?_;refine Qi ((v+1:Nat):Int) (by omega) (by omega) ?_;refine call (ihl ik w6 (Ext.refl _)) ?_;rintro _ w7 ⟨A,c,rfl,Q2,XX⟩;exact⟨A,c,rfl,XM.trans Q2,XX⟩
 have lD:de (QF n o) v≠ []:=λe=>uY (h0.2 e)
 rw[gQ4 QQ ik lD];have hb:∀s,s∈QF n o->(∀r∈QT (fP (Zn p.ps) s),(∀x∈r,x<256)/\r.length<=1000000000)/\(QT (fP (Zn p.ps) s)).length<=1000000:=λs hs=>by
  obtain⟨q0,V9,nA⟩:=ZP.cov s hs;obtain⟨q,hq,rfl⟩:=Z4.1 V9;rw[ZP.get hs V9 nA];obtain⟨_,o2,o3,o4⟩:=Yd q hq;have ht:aG q.2=true:=by unfold Ve at o2;rw[JL] at o2;exact o2.1
  have hu:=W6 (mF ht);have hul:=vy (QT q.2);rw[hu] at hul;refine⟨λr hr=>⟨λx hx=>o3 x (by rw[<-hu];exact ga.2 ⟨r,hr,by simp[hx]⟩),?_⟩,by show(QT q.2).length<=_;omega⟩;have:r.length<=(Qo (QT q.2)).length:=by
   have h5:∀(ls:List (List Nat)),r∈ls->r.length<=(Qo ls).length:=λls=>by
    induction ls with
    | nil=>intro h;cases h
    | cons a ls Tm=>
     intro h;rw[Wu,Qu,Xj];rcases QZ.1 h with rfl | h
     ·omega
     ·have:=Tm h;omega
   exact h5 _ hr
  rw[hu] at this;omega
 have hif:∀v ng,(∀x∈ZA p.nm v ng,x<256)/\(ZA p.nm v ng).length<=1000000000:=λv ng=>by
  unfold ZA;cases hg:p.nm[v]? with
  | none=>cases ng<;>exact⟨by simp[Zl],by simp[Zl]⟩
  | some s=>
   have fS:=QO hg;have ld:=(VO s fS).1;have C6:=KB s fS;refine⟨λx hx=>?_,?_⟩
   ·rcases Xw.1 hx with hx | hx
    ·exact(show∀y∈Zl,y<256 by decide) x hx
    ·rcases Xw.1 hx with hx | hx
     ·cases ng
      ·cases hx
      ·rw[QL.1 hx];decide
     ·exact ld x hx
   ·simp only[Qu,iu];cases ng<;>simp[Zl]<;>omega
 have uo:(QF n o).length<=16:=by
  have h1:(QF n o).length<=2^n:=Zf (uG _ _) (by simp);have h2:2^n<=2^4:=Wl (by decide) la;omega
 have bnd:∀S,S≠ []->(∀c∈S,c∈QF n o)->S.length<=16->ky (XV p.nm (fP (Zn p.ps)) k (v+1) S)/\(XV p.nm (fP (Zn p.ps)) k (v+1) S).length<=100000000:=λS hS hSm LU=>by
  obtain⟨a1,a2⟩:=kz (nm:=p.nm) (f:=fP (Zn p.ps)) (P:=λr=>(∀x∈r,x<256)/\r.length<=1000000000) (M:=1000000) hif (by decide) (by decide) k (v+1) S hS (λc hc=>hb c (hSm c hc));have:=Y1 (1000000+3) LU;exact⟨a1,by omega⟩
 obtain⟨bh1,bh2⟩:=bnd _ lD (λc hc=>(JZ.1 hc).1) (Zf (uG _ _) uo);obtain⟨bl1,bl2⟩:=bnd _ ik (λc hc=>(JZ.1 hc).1) (Zf (uG _ _) uo);generalize hWH:XV p.nm (fP (Zn p.ps)) k (v+1) (de (QF n o) v)=WH at*;generalize hWL:XV p.nm (fP (Zn p.ps)) k (v+1) (fA (QF n o) v)=WL at*;refine XC Qa (Ext w6) 12 [(true,0),(true,1),(true,2),(true,3),(true,5),(true,6),(true,7),(true,8),(false,4),(false,9),(true,10),(true,11)] (by kernel_rfl) (Ext.drew w6) ?_;refine QH (v:=p.clo) (λw' Qb=>by rw[(bE.wbb.ext Qb).cell0];rfl) ?_;refine Xq (vs:=xh.cells) rfl (λw' Qb j u hj=>by rw[(Qh.ext Qb).cell];exact hj) ?_;refine Qi ((v+1:Nat):Int) (by omega) (by omega) ?_;refine QH (v:=p.clo) (λw' Qb=>by rw[(bE.wbb.ext Qb).cell0];rfl) ?_;refine Xq (vs:=xl.cells) rfl (λw' Qb j u hj=>by rw[(Qw.ext Qb).cell];exact hj) ?_;refine Qi ((v+1:Nat):Int) (by omega) (by omega) ?_;have hd:=Ext.drew w6;refine call (ihh lD w6.drew hd) ?_;rintro _ w7 ⟨HA,hc,rfl,Q2,XX⟩;refine⟨hd.trans Q2,?_⟩;refine call (ihl ik w7 (hd.trans Q2)) ?_;rintro _ w8 ⟨LA,lc,rfl,Q0,gK⟩;refine⟨(hd.trans Q2).trans Q0,?_⟩;have aQ:=(hd.trans Q2).trans Q0;refine call (hQi HA LA _ hc _ lc WH WL w8 (XX.ext Q0).1 gK.1 bh1 bl1) ?_;rintro _ w9 ⟨rfl,XE⟩;have ny:=aQ.trans XE;by_cases heq:WH=WL
 ·rw[Qf heq];refine XH heq ?_;exact⟨HA,hc,rfl,XM.trans ny,(XX.ext Q0).ext XE⟩
 ·rw[if_neg heq];refine Q9 heq ?_;have kQl:v<p.nn:=by have:=hK.nms.len;rw[bn] at this;omega
  refine Qx (bE.ext ny).nbb rfl ?_;obtain⟨s,hs⟩:∃s,p.nm[v]? =some s:=⟨_,Xn (by omega)⟩
  refine X5 (bE.ext ny).nms kQl (λad u hA hu QE=>?_);rw[lZ hs] at hu;cases hu;refine load QE ?_;have es:d4 p.nm v=s:=by unfold d4;rw[hs]<;>rfl
  rw[<-es];refine call (hQf p.nm v WH WL HA LA _ hc _ lc w9 ((XX.ext Q0).ext XE).1 (gK.ext XE).1 bh1 bl1 (by rw[es];have:=KB s (QO hs);omega) (by rw[JM];exact bh2) (by rw[JM];exact bl2)) ?_;rintro _ QJ ⟨JA,jc,rfl,ZJ,wK⟩;exact⟨JA,jc,rfl,(XM.trans ny).trans ZJ,wK⟩
theorem RQ (NA:Option Addr)(nn nc:Nat)(nm:List (List Nat))(x:DV)(o:BF)(PA:Option Addr)(pn pc:Nat)(ps:List (DV×List Nat))(n:Nat)(la:n<=4)(xG:nm.length=n)(VO:Ks nm)(KB:∀s∈nm,s.length<=1000000)(Yd:∀q∈ps,Kk n q.1.nd q.1.r=true/\Ve q.2=true/\(∀b∈q.2,b<256)/\q.2.length<=1000000)(w:World)
  (hN:Sl w 1 NA nn nc (XW nm)) (hx:SB w x.A x.n x.c x.nd) (sx:Set1 n x.nd x.r o) (hP:SlS Ju 3 w PA pn pc ps) (yv:∀q∈ps,SB w q.1.A q.1.n q.1.c q.1.nd) (QQ:QF n o≠ []) (ZP:PaOk (QF n o) (Zn ps)):
  Fn Tryz.prog 65 [.slice NA nn nc,Xm x.A x.n x.c x.r,.slice PA pn pc] w (λu w'=>sL w u ((XV nm (fP (Zn ps)) n 0 (QF n o)).map (·++ [10])) w'):=by
 refine QD (c:={c65 with cuts:=[]}) Qa Tryz.func65 rfl rfl rfl ?_;refine new (λw1 Qd Q3 Qh=>?_);refine new (λw2 Qg Zb Qw=>?_);refine new (λw3 Qk JI Qt=>?_);refine new (λw4 Qq KY Q4=>?_);have KQ:=Qk.trans Qq;have Jj:=Qg.trans KQ;have XL:=Qd.trans Jj;refine KE Q4 (by decide) (λw5 Z1 QK=>?_);have an:Ext w3 w5:=Z1.ext Qq (λi hi=>by omega)
 let p:WP:=⟨w2.heap.size,w3.heap.size,w.heap.size,PA,pn,pc,NA,nn,nc,nm,ps⟩
 have JV:Ext w w5:=((Qd.trans Qg).trans Qk).trans an;have hK:WK w5 p:=⟨Qt.ext an,QK,Qh.ext ((Qg.trans Qk).trans an),hP.ext JV,λq hq=>(yv q hq).ext JV,hN.ext JV⟩
 refine Qx hK.wbb rfl ?_;refine Qs (Qw.ext (Qk.trans an)) rfl ?_;refine call (hQo p n la xG VO KB Yd n 0 x o w5 (by omega) hK (hx.ext JV) sx QQ ZP gQY) ?_;rintro _ w6 ⟨A,c,rfl,Xh,i6⟩;exact⟨A,c,rfl,JV.trans Xh,i6⟩
theorem RR:∀(xs:List (List UInt8)),([]:List UInt8).intercalate xs=xs.flatten
 | []=>rfl
 | [x]=>by simp[List.intercalate]
 | x::y::l=>by
  have ih:=RR (y::l);simp only[List.intercalate,List.intersperse_cons₂,Ms,bP] at ih ⊢;rw[ih]
theorem hQp (ls:List (List Nat)):Lib.join ((ls.map (λs=>Qe (s++ [10]))).map (·.data.toList)) []=(Qo ls).map UInt8.ofNat:=by
 unfold Lib.join;rw[RR];induction ls with
 | nil=>rfl
 | cons s ls ih=>
  rw[Y0,Y0,Ms,ih,Wu,vH];simp
theorem hQq (A:Option Addr)(n c:Nat)(ls:List (List Nat))(w:World)(h:Sn w A n c (JG ls))(Xc:∀ad,A=some ad->0<n->ad.block<w.heap.size)(hn:n<=1000000000)(Xd:(Qo ls).length<=1000000000):
  Fn Tryz.prog 102 [.slice A n c,.string ⟨#[]⟩] w (λu w'=>u= .string (Qe (Qo ls))/\Ext w w'):=by
 have hl:=iR h.1;by_cases h0:n=0
 ·subst h0;have:ls=[]:=aA hl;subst this;refine QD (c:={bQX with cuts:=[]}) Qa Tryz.func102 rfl rfl rfl ?_;refine Kc rfl ?_;exact⟨rfl,Ext.refl _⟩
 ·obtain⟨g,o,rfl⟩:=h.2 (by omega);obtain⟨ad,e,hc⟩:=h.1.at_ (by omega);cases e;have hx:(ls.map (λs=>Qe (s++ [10]))).length=n:=by rw[JM,hl]
  have hj:=hQp ls;have x9:=Tryz.strings_Join g o c (ls.map (λs=>Qe (s++ [10]))) ⟨#[]⟩ w (λj x hj=>by
   rw[VR] at hj;cases hs:ls[j]? with
   | none=>rw[hs] at hj;cases hj
   | some s=>
    rw[hs] at hj;cases hj;have:=hc j _ (ZH hs);have e3:(⟨g,o,none⟩:Addr).add j=⟨g,o+j,none⟩:=by
     unfold Addr.add;by_cases mR:j=0
     ·subst mR;simp
     ·simp[mR]
    rw[e3] at this;exact this) (Xc _ rfl (by omega)) (by omega) (by rw[hx];exact h.1.le) (by
   have:(⟨#[]⟩:ByteArray).data.toList=[]:=rfl;rw[this,hj,JM];omega)
  have e0:(⟨#[]⟩:ByteArray).data.toList=[]:=rfl;rw[e0,hj,hx] at x9;unfold Fn;refine x9.mono λe w' he=>?_
  obtain⟨rfl,hb⟩:=he;exact⟨rfl,mQ0 hb⟩
theorem RT (ls:List (List Nat))(s:List Nat):(Qo (ls++ [s])).length=(Qo ls).length+(s.length+1):=by simp[Qo]
theorem hQr (A:Option Addr)(n c:Nat)(ls:List (List Nat))(w:World)(h:Sn w A n c (JG ls))(Xd:(Qo ls).length<=1048576):
  Fn Tryz.prog 50 [.slice A n c] w (λu w'=>u= .string (Qe (Qo ls))/\Ext w w'):=by
 have hl:=iR h.1;have ly:=vy ls;refine QD (c:={Nn with cuts:=[]}) Qa Tryz.func50 rfl rfl rfl ?_;refine loop Qa [8,3] (λi:Nat=>[.int .i64 i,.int .i64 (Qo (ls.take i)).length]) (λi w'=>w=w'/\i<=n) (λi _=>n-i) 0 rfl ⟨rfl,XJ _⟩ ?_;rintro i _ ⟨rfl,hi⟩;refine Qy (λc1=>?_) (λc1=>?_)
 ·have Xe:i<n:=by omega
  obtain⟨s,hs⟩:∃s,ls[i]? =some s:=⟨_,Xn (by omega)⟩
  have YX:ls.take (i+1)=ls.take i++ [s]:=by rw[VT,hs]<;>rfl
  have hu:=RT (ls.take i) s;rw[<-YX] at hu;have ZO:(Qo (ls.take (i+1))).length<=(Qo ls).length:=by
   have e5:Qo ls=Qo (ls.take (i+1))++Qo (ls.drop (i+1)):=by
    have e6:∀a b:List (List Nat),Qo (a++b)=Qo a++Qo b:=λa b=>by simp[Qo]
    rw[<-e6,eZ]
   rw[e5,Qu];omega
  refine X5 h.1 Xe (λad u hA lA QE=>?_);rw[ZH hs] at lA;cases lA;refine load QE ?_;have Xu:=XF (s++ [10]);rw[Qu,oL] at Xu;refine Qi (((Qo (ls.take (i+1))).length:Nat):Int) (by rw[hu];omega) (by omega) ?_;refine Q9 (by omega) ?_;refine Qi ((i+1:Nat):Int) (by show((i:Nat):Int)+1=_;omega) (by omega) ?_;exact⟨i+1,rfl,⟨rfl,Xe⟩,by show n-(i+1)<n-i;omega⟩
 ·refine call (hQq A n c ls w h (λad e h0=>?_) (by omega) (by omega)) ?_
  ·obtain⟨ad',e',hc⟩:=h.1.at_ h0;rw[e] at e';cases e';obtain⟨s,hs⟩:∃s,ls[0]? =some s:=⟨_,Xn (by omega)⟩
   have:=hc 0 _ (ZH hs);have h6:=World.block_lt_of_cell? w _ this;rw[o6] at h6;exact h6
  rintro _ w1 ⟨rfl,Qd⟩;exact⟨rfl,Qd⟩
theorem FL (l p:List Nat)(w:World)(hl:∀x∈l,x<256)(hp:∀x∈p,x<256):
  Fn Tryz.prog 79 [.string (Qe l),.string (Qe p)] w (λv w'=>v= .bool (p.isPrefixOf l)/\w=w'):=by
 refine QD (c:=c79) Qa Tryz.func79 rfl rfl rfl ?_;refine Qy (λh1=>?_) (λh1=>?_)
 ·rw[XF,XF] at h1;refine need ⟨by omega,by omega,by rw[XF,XF];omega⟩ ?_;refine⟨?_,rfl⟩;rw[o8];congr 1;refine oM.2 ?_;simp only[fc,Int.toNat_zero];rw[KN,rz,XF];exact⟨λh=>⟨by omega,Jc (B8.take hl _) hp h⟩,λh=>by rw[h.2]⟩
 ·rw[XF,XF] at h1;exact⟨by rw[o8,X4 (λh=>h1 (by omega))],rfl⟩
theorem sW (l:List Nat)(w:World)(hl:∀x∈l,x<256):
  Fn Tryz.prog 32 [.string (Qe l)] w (λv w'=>v= .bool (KW l)/\w=w'):=by
 refine QD (c:={c32 with cuts:=[]}) Qa Tryz.func32 rfl rfl rfl ?_;refine call (FL l Zl w hl (by decide)) ?_;rintro _ _ ⟨rfl,rfl⟩;cases e1:Zl.isPrefixOf l with
 | true=>
  refine Xa rfl ?_;exact⟨by unfold KW;rw[e1];rfl,rfl⟩
 | false=>
 refine Q5 rfl ?_;refine call (FL l pElif w hl (by decide)) ?_;rintro _ _ ⟨rfl,rfl⟩;cases e2:pElif.isPrefixOf l with
 | true=>
  refine Xa rfl ?_;exact⟨by unfold KW;rw[e1,e2];rfl,rfl⟩
 | false=>
 refine Q5 rfl ?_;refine call (FL l pInc w hl (by decide)) ?_;rintro _ _ ⟨rfl,rfl⟩;cases e3:pInc.isPrefixOf l with
 | true=>
  refine Xa rfl ?_;exact⟨by unfold KW;rw[e1,e2,e3];rfl,rfl⟩
 | false=>
 refine Q5 rfl ?_;have q1:(Qe l=Qe (Jd++ [10]))↔l=Jd++ [10]:=⟨λhh=>Jc hl (by decide) hh,λhh=>by rw[hh]⟩
 have q2:(Qe l=Qe (Xx++ [10]))↔l=Xx++ [10]:=⟨λhh=>Jc hl (by decide) hh,λhh=>by rw[hh]⟩
 have e:KW l=(decide (l=Jd++ [10])||decide (l=Xx++ [10])):=by unfold KW;rw[e1,e2,e3]<;>rfl
 by_cases c1:l=Jd++ [10]
 ·refine XH (q1.2 c1) ?_;exact⟨by rw[e,XR c1];rfl,rfl⟩
 ·refine Q9 (λhh=>c1 (q1.1 hh)) ?_;refine⟨?_,rfl⟩;rw[e,X4 c1,Bool.false_or];by_cases c2:l=Xx++ [10]
  ·rw[XR c2];exact QN Value.bool (XR (q2.2 c2))
  ·rw[X4 c2];exact QN Value.bool (X4 (λhh=>c2 (q2.1 hh)))
theorem hQs {r:List Nat}{k:Nat}(h1:10∉r.take k)(h2:r[k]? =some 10):(Wz r).length=k/\10∈r:=by
 refine⟨?_,QO h2⟩;unfold Wz;induction r generalizing k with
 | nil=>simp at h2
 | cons b r ih=>
  cases k with
  | zero=>
   have:b=10:=by simpa using h2
   subst this;simp
  | succ k=>
   simp only[jx,QZ,not_or] at h1;have hb:(b !=10)=true:=by simpa using λe:b=10=>h1.1 e.symm
   rw[Wj,Qf hb,Xj,ih h1.2 (by simpa using h2)]
theorem hQt (l:List Nat)(w:World)(hl:∀x∈l,x<256)(Xd:l.length<=1000000000):
  Fn Tryz.prog 19 [.string (Qe l)] w (λu w'=>∃A c,u= .slice A (W8 l).length c/\Ext w w'/\Own w' w.heap.size 9 1 A (W8 l).length c (XW (W8 l))):=by
 have Xu:=XF l;refine QD (c:={Nk with cuts:=[]}) Qa Tryz.func19 rfl rfl rfl ?_;refine XI Qa [] rfl rfl rfl rfl rfl ⟨⟩ rfl (λcs h=>by cases h) rfl (by decide) (by decide) ?_;intro w1 Qd Q3 Qh;refine loop Qa [5,4,3] (λs:Nat×Nat×List (List Nat)×Option Addr×Nat=>[.int .i64 s.1,.int .i64 s.2.1,.slice s.2.2.2.1 s.2.2.1.length s.2.2.2.2]) (λs w'=>Ext w w'/\s.1<=l.length/\s.2.1<=s.1/\s.2.2.1.length<=s.1/\ZT l=s.2.2.1++ZT (l.drop s.2.1)/\10∉(l.drop s.2.1).take (s.1-s.2.1)/\Own w' w.heap.size 9 1 s.2.2.2.1 s.2.2.1.length s.2.2.2.2 (XW s.2.2.1)) (λs _=>l.length-s.1) (0,0,[],some ⟨w.heap.size,0,none⟩,0) rfl ⟨Qd,XJ _,QC _,QC _,rfl,by simp,Own.empty Qh (QC _)⟩ ?_;rintro⟨i,f,ds,O,oc⟩ w2 ⟨Qg,hi,hf,Yp,Kp,Xf,hO⟩;simp only at hi hf Yp Kp Xf hO;have Zb:=Qg.size;have ap1:∀(s:List Nat) (wb:World) (LV:Ext w2 wb) (hBb:Blk wb w2.heap.size 9 [.string (Qe s)]),Sl wb 1 (some ⟨w2.heap.size,0,none⟩) 1 1 (XW [s]):=λs wb LV hBb=>Sl.own' (n:=1) hBb rfl (by decide)
 refine Qy (λc1=>?_) (λc1=>?_)
 ·have oy:i<l.length:=by rw[Xu] at c1;simp only at c1;omega
  obtain⟨y,hy⟩:∃y,l[i]? =some y:=⟨_,Xn oy⟩
  refine cO (by rw[Xu];exact oy) (λz hz _=>?_);rw[Wp hl,hy] at hz;cases hz;refine Zh (λc2=>?_) (λc2=>?_)
  ·have kQm:y=10:=by omega
   subst kQm;have hk:(l.drop f)[i-f]? =some 10:=by rw[DN,show f+(i-f)=i by omega];exact hy
   obtain⟨h1,h2⟩:=hQs Xf hk;refine Qi ((i+1:Nat):Int) (by show((i:Nat):Int)+1=_;omega) (by omega) ?_;refine Ke (v':=.string (Qe ((l.drop f).take (i-f+1)))) ⟨by show(0:Int)<=(f:Int);omega,by show(f:Int)<=((i+1:Nat):Int);omega,by rw[Xu];omega⟩ (by
    rw[KN];show Value.string (Qe ((l.take (i+1)).drop f))=_;rw[f9,show i+1-f=i-f+1 by omega]) ?_
   refine XI Qa [[Value.string (Qe ((l.drop f).take (i-f+1)))]] rfl rfl rfl rfl rfl ⟨rfl,rfl,⟨⟩⟩ rfl (λcs hh=>by simp only[QL] at hh;subst hh;rfl) rfl (by decide) (by decide) ?_;intro w3 Qk JI Qt;refine JB (n:=ds.length) Qa rfl rfl rfl rfl rfl (by decide) rfl rfl ⟨_,rfl⟩ rfl rfl (hO.ext Qk) (ap1 _ w3 Qk Qt) (aJ _) (by unfold maxLen;omega) (by show(ds.length+1)*16<=_;omega) (by have:=Qk.size;omega) ?_;intro A' c' w4 X1 pZ Bt;refine Qi ((i+1:Nat):Int) (by show((i:Nat):Int)+1=_;omega) (by omega) ?_;refine Qi ((i+1:Nat):Int) (by show((i:Nat):Int)+1=_;omega) (by omega) ?_;refine⟨(i+1,i+1,ds++ [(l.drop f).take (i-f+1)],A',c'),by simp only[Qu];rfl,⟨X1.ext (Qg.trans Qk) (λk hk=>(hO.rows k hk).1),oy,QC _,by simp;omega,?_,by simp,?_⟩,by show l.length-(i+1)<l.length-i;omega⟩
   ·simp only;rw[Kp,Ff h2,h1,oG,show f+(i-f+1)=i+1 by omega];simp
   ·simp only;rw[Qu];simpa [XW] using pZ
  ·refine Qi ((i+1:Nat):Int) (by show((i:Nat):Int)+1=_;omega) (by omega) ?_;refine⟨(i+1,f,ds,O,oc),rfl,⟨Qg,oy,by show f<=i+1;omega,by show ds.length<=i+1;omega,Kp,?_,hO⟩,by show l.length-(i+1)<l.length-i;omega⟩;simp only;rw[show i+1-f=(i-f)+1 by omega,VT,DN,show f+(i-f)=i by omega,hy];simp only[Option.toList_some,Xw,QL,not_or];exact⟨Xf,λe=>c2 (by omega)⟩
 ·have oy:i=l.length:=by rw[Xu] at c1;simp only at c1;omega
  subst oy;rw[Jm (by simp)] at Xf;rw[Ag Xf] at Kp;refine Qy (λc2=>?_) (λc2=>?_)
  ·have Ka:f<l.length:=by rw[Xu] at c2;simp only at c2;omega
   refine Ke (v':=.string (Qe (l.drop f))) ⟨by show(0:Int)<=(f:Int);omega,by show(f:Int)<=_;rw[Xu];omega,by rw[Xu];omega⟩ (by
    rw[KN,Xu];show Value.string (Qe ((l.take l.length).drop f))=_;rw[Jm (QC _)]) ?_
   refine XI Qa [[Value.string (Qe (l.drop f))]] rfl rfl rfl rfl rfl ⟨rfl,rfl,⟨⟩⟩ rfl (λcs hh=>by simp only[QL] at hh;subst hh;rfl) rfl (by decide) (by decide) ?_;intro w3 Qk JI Qt;refine JB (n:=ds.length) Qa rfl rfl rfl rfl rfl (by decide) rfl rfl ⟨_,rfl⟩ rfl rfl (hO.ext Qk) (ap1 _ w3 Qk Qt) (aJ _) (by unfold maxLen;omega) (by show(ds.length+1)*16<=_;omega) (by have:=Qk.size;omega) ?_;intro A' c' w4 X1 pZ Bt;have e:W8 l=ds++ [l.drop f]:=by
    unfold W8;rw[Kp,if_neg];rw[List.getLast?_concat];intro hh;have:=QN List.length (Option.some.inj hh);simp at this;omega
   refine⟨A',c',by rw[e,Qu];rfl,X1.ext (Qg.trans Qk) (λk hk=>(hO.rows k hk).1),?_⟩;rw[e,Qu];simpa [XW] using pZ
  ·have Ka:l.drop f=[]:=uJ (by rw[Xu] at c2;simp only at c2;omega);have e:W8 l=ds:=by unfold W8;rw[Kp,Ka,Qf (by simp)];simp
   exact⟨O,oc,by rw[e],Qg,by rw[e];exact hO⟩
namespace Nt
def val:List Nat->Nat
 | []=>0
 | x::l=>x+4294967296*val l
def Limbs (l:List Nat):Prop:=∀x∈l,x<4294967296
def mK:Nat->Nat->List Nat
 | 0,_=>[]
 | f+1,n=>if n=0 then [] else(n % 4294967296)::mK f (n/4294967296)
def JR (n:Nat):List Nat:=mK n n
theorem hQu:∀(f g n:Nat),n<=f->n<=g->mK f n=mK g n:=by
 intro f;induction f with
 | zero=>
      intro g n h1 _;have:n=0:=by omega
      subst this;cases g<;>simp[mK]
 | succ f ih=>
  intro g n h1 h2;by_cases h0:n=0
  ·subst h0;cases g<;>simp[mK]
  ·cases g with
   | zero=>omega
   | succ g=>
    simp only[mK,if_neg h0];rw[ih g (n/4294967296) (by omega) (by omega)]
theorem vU:JR 0=[]:=rfl
theorem vV {n:Nat}(h:0<n):JR n=(n % 4294967296)::JR (n/4294967296):=by
 unfold JR;cases n with
 | zero=>omega
 | succ n=>
  rw[mK,if_neg (by omega)];rw[hQu n ((n+1)/4294967296) _ (by omega) (QC _)]
theorem AJ:Limbs []:=λx h=>by cases h
theorem pG {x:Nat}{l:List Nat}:Limbs (x::l)↔x<4294967296/\Limbs l:=by
 unfold Limbs;simp
theorem hQv {l m:List Nat}:Limbs (l++m)↔Limbs l/\Limbs m:=by
 unfold Limbs;constructor
 ·exactλh=>⟨λx hx=>h x (by simp[hx]),λx hx=>h x (by simp[hx])⟩
 ·intro h x hx;rcases Xw.1 hx with h1 | h1
  ·exact h.1 x h1
  ·exact h.2 x h1
theorem Limbs.get {l:List Nat}(h:Limbs l){j x:Nat}(hx:l[j]? =some x):x<4294967296:=h x (QO hx)
theorem Limbs.take {l:List Nat}(h:Limbs l)(n:Nat):Limbs (l.take n):=λx hx=>h x (fa hx)
theorem RU (l m:List Nat):val (l++m)=val l+4294967296^l.length*val m:=by
 induction l with
 | nil=>simp[val]
 | cons x l ih=>simp only[Jb,val,ih,Xj,lO];grind
theorem FM (l:List Nat)(x:Nat):val (l++ [x])=val l+4294967296^l.length*x:=by
 rw[RU];simp[val]
theorem RW {l:List Nat}(h:Limbs l):val l<4294967296^l.length:=by
 induction l with
 | nil=>simp[val]
 | cons x l ih=>
  have h1:=(pG.1 h).1;have h2:=ih (pG.1 h).2;simp only[val,Xj,lO];omega
theorem RX {l:List Nat}{i x:Nat}(h:l[i]? =some x):val (l.take (i+1))=val (l.take i)+4294967296^i*x:=by
 have hi:i<l.length:=(Z0.1 h).1;rw[VT,h,Option.toList_some,FM,Ye,oH (Nat.le_of_lt hi)]
theorem pH (n:Nat):val (JR n)=n:=by
 induction n using Nat.strongRecOn with
 | _ n ih=>
  by_cases h:n=0
  ·subst h;rfl
  ·rw[vV (by omega),val,ih _ (by omega)];omega
theorem AK (n:Nat):Limbs (JR n):=by
 induction n using Nat.strongRecOn with
 | _ n ih=>
  by_cases h:n=0
  ·subst h;exact AJ
  ·rw[vV (by omega),pG];exact⟨oJ _ (by omega),ih _ (by omega)⟩
theorem hQw (n:Nat):(JR n).getLast? ≠some 0:=by
 induction n using Nat.strongRecOn with
 | _ n ih=>
  by_cases h:n=0
  ·subst h;simp[vU]
  ·rw[vV (by omega)];by_cases h1:n/4294967296=0
   ·rw[h1,vU];simp;omega
   ·have:=ih (n/4294967296) (by omega);cases hl:JR (n/4294967296)with
    | nil=>have:=pH (n/4294967296);rw[hl] at this;simp[val] at this;omega
    | cons y m=>rw[hl] at this;rw[List.getLast?_cons_cons];exact this
theorem hQx {l:List Nat}(h:Limbs l)(hz:l.getLast? ≠some 0):JR (val l)=l:=by
 induction l with
 | nil=>rfl
 | cons x l ih=>
  obtain⟨hx,hl⟩:=pG.1 h;have WQ:l.getLast? ≠some 0:=by
   cases l with
   | nil=>simp
   | cons y m=>rwa [List.getLast?_cons_cons] at hz
  have ih':=ih hl WQ;have jl:0<x+4294967296*val l:=by
   rcases Nat.eq_zero_or_pos x with h0 | h0
   ·subst h0;cases l with
    | nil=>simp at hz
    | cons y m=>
     rcases Nat.eq_zero_or_pos (val (y::m))with h1 | h1
     ·rw[h1,vU] at ih';cases ih'
     ·omega
   ·omega
  rw[val,vV jl];have e1:(x+4294967296*val l) % 4294967296=x:=by omega
  have e2:(x+4294967296*val l)/4294967296=val l:=by omega
  rw[e1,e2,ih']
theorem FN (n k:Nat):(JR n).length<=k↔n<4294967296^k:=by
 constructor
 ·intro h;have:=RW (AK n);rw[pH] at this;exact VQ this (Wl (by omega) h)
 ·intro h;induction k generalizing n with
  | zero=>simp at h;subst h;simp[vU]
  | succ k ih=>
   by_cases h0:n=0
   ·subst h0;simp[vU]
   ·rw[vV (by omega),Xj];have:n/4294967296<4294967296^k:=by
     rw[lO] at h;exact Nat.div_lt_of_lt_mul (by omega)
    have:=ih _ this;omega
def Vd (l:List Nat):Prop:=l.length<=1024/\l.getLast? ≠some 0
instance (l:List Nat):Decidable (Vd l):=by unfold Vd;infer_instance
theorem sX {n:Nat}(h:n<4294967296^1024):Vd (JR n):=⟨(FN n 1024).2 h,hQw n⟩
def df (n:Nat):List Nat:=if(JR n).length<=1024 then JR n else []
def pI (n:Nat):Int:=if(JR n).length<=1024 then 0 else 2
theorem hQy {l:List Nat}{n:Nat}(h:∀x∈l.drop n,x=0):val (l.take n)=val l:=by
 have h1:val l=val (l.take n++l.drop n):=by rw[eZ]
 rw[h1,RU];have:∀m:List Nat,(∀x∈m,x=0)->val m=0:=by
  intro m;induction m with
  | nil=>intro _;rfl
  | cons x m ih=>intro h;rw[val,h x (by simp),ih (λy hy=>h y (by simp[hy]))]
 rw[this _ h];simp
theorem hQz {l:List Nat}(hl:Limbs l){n:Nat}(h:∀x∈l.drop n,x=0)(hn:n=0∨∃x,l[n-1]? =some x/\x≠0):l.take n=JR (val l):=by
 rw[<-hQy h,hQx (hl.take n)];rcases hn with rfl | ⟨x,hx,h0⟩
 ·simp
 ·have Xc:n-1<l.length:=(Z0.1 hx).1;rcases Nat.eq_zero_or_pos n with rfl | hp
  ·simp
  ·rw[lP,Ye,oH (by omega),Dx,Qf (by omega),hx];simpa using h0
theorem hQA {l:List Nat}(h:Limbs l)(i:Nat):val (l.take i)<4294967296^i:=
 VQ (RW (h.take i)) (Wl (by omega) (by rw[Ye];omega))
theorem lQI (l:List Nat)(i:Nat):val (l.drop i)=l[i]?.getD 0+4294967296*val (l.drop (i+1)):=by
 rcases Nat.lt_or_ge i l.length with h | h
 ·rw[bR h,val];simp[h]
 ·rw[ry h,ry (by omega)];simp[val,h]
theorem RY (l:List Nat)(i:Nat):val (l.take (i+1))=val (l.take i)+4294967296^i*l[i]?.getD 0:=by
 rcases Nat.lt_or_ge i l.length with h | h
 ·rw[RX (Xn h)];simp[h]
 ·rw[Jm h,Jm (by omega)];simp[h]
theorem hQB {l:List Nat}(h:Limbs l)(i:Nat):l[i]?.getD 0<4294967296:=by
 cases hi:l[i]? with
 | none=>simp
 | some x=>simpa using h.get hi
theorem hQC {p:List Nat}{i c:Nat}{a b:List Nat}(hp:p.length=i)(h:val p+c*4294967296^i=val (a.take i)+val (b.take i)){s:Nat}(hs:s=c+a[i]?.getD 0+b[i]?.getD 0):
  val (p++ [s % 4294967296])+s/4294967296*4294967296^(i+1)=val (a.take (i+1))+val (b.take (i+1)):=by
 rw[FM,hp,RY,RY,lO];have hd:s % 4294967296+4294967296*(s/4294967296)=s:=Nat.mod_add_div s 4294967296;generalize 4294967296^i=P at*;generalize s % 4294967296=r at*;generalize s/4294967296=q at*
 grind
theorem RZ {p:List Nat}(hp:Limbs p)(s:Nat):Limbs (p++ [s % 4294967296]):=hQv.2 ⟨hp,pG.2 ⟨oJ _ (by omega),AJ⟩⟩
theorem hQD {α:Type}(p:List α)(x y:α)(r:List α):(p++x::r).set p.length y=p++y::r:=by
 induction p with
 | nil=>rfl
 | cons z p ih=>simp[ih]
theorem R0 {α:Type}(p:List α)(x y:α)(r:List α){i:Nat}(hi:p.length=i):(p++x::r).set i y=(p++ [y])++r:=by
 subst hi;rw[hQD];simp
theorem hQE {α:Type}(p:List α)(x:α)(r:List α){i:Nat}(hi:p.length=i):(p++x::r)[i]? =some x:=by
 subst hi;simp
end Nt
namespace Nt
def cells (l:List Nat):List Value:=l.map λ(x:Nat)=>.int .u32 x
theorem AL {l:List Nat}{j:Nat}{u:Value}(h:(cells l)[j]? =some u):∃x,l[j]? =some x/\u= .int .u32 (x:Int):=by
 simp only[cells,VR,Dz] at h;obtain⟨x,hx,rfl⟩:=h;exact⟨x,hx,rfl⟩
theorem hQF {l:List Nat}{j x:Nat}(h:l[j]? =some x):(cells l)[j]? =some (.int .u32 (x:Int)):=by
 simp[cells,h]
theorem hQG (l m:List Nat):cells (l++m)=cells l++cells m:=by simp[cells]
theorem hQH (l:List Nat)(n:Nat):cells (l.take n)=(cells l).take n:=by simp[cells]
theorem R1 (l:List Nat)(i x:Nat):cells (l.set i x)=(cells l).set i (.int .u32 (x:Int)):=by simp[cells,List.map_set]
theorem hQI (l:List Nat):∀u∈cells l,Jz u=true:=by
 intro u hu;simp only[cells,Z4] at hu;obtain⟨x,_,rfl⟩:=hu;rfl
abbrev SN (w:World)(A:Option Addr)(n c:Nat)(l:List Nat):Prop:=Sl w 1 A n c (cells l)
theorem SN.length {w:World}{A:Option Addr}{n c:Nat}{l:List Nat}(h:SN w A n c l):l.length=n:=by have:=h.len;simpa [cells] using this
theorem SN.bd {w:World}{A:Option Addr}{n c:Nat}{l:List Nat}(h:SN w A n c l):n<=c/\(c:Int)<=9223372036854775807:=by
 have h1:=h.le;have h2:=h.cap;unfold maxLen at h2;omega
theorem hQJ (l:List Nat):decide (Vd l)=(decide (l.length<=1024)&&(decide (l.length=0)||(l.getLast? !=some 0))):=by
 unfold Vd;cases l with
 | nil=>simp
 | cons x l=>rw[oE];simp
theorem FO (A:Option Addr)(n c:Nat)(l:List Nat)(w:World)(h:SN w A n c l):
  Fn Tryz.prog 139 [.slice A n c] w (λv w'=>v= .bool (decide (Vd l))/\w'=w):=by
 have hl:=h.length;have hb:=h.bd;refine QD (c:=cQk) Qa Tryz.func139 rfl rfl rfl ?_;rw[hQJ];refine Qy (λh1=>?_) (λh1=>?_)
 ·refine Zh (λh2=>?_) (λh2=>?_)
  ·refine And.intro ?_ rfl;have:l=[]:=aA (by omega);subst this;simp
  ·refine Qi ((n-1:Nat):Int) (by omega) (by omega) ?_;refine X5 h (by omega) (λad u hA hu QE=>?_);obtain⟨x,hx,rfl⟩:=AL hu;refine load QE ?_;refine And.intro ?_ rfl;have od:l.getLast? =some x:=by rw[lP];rw[hl];exact hx
   congr 1;rw[od,XR (by omega:l.length<=1024),X4 (by omega:¬l.length=0)];show((x:Int) !=0)=_;rw[oE];simp
 ·refine And.intro ?_ rfl;rw[X4 (by omega:¬l.length<=1024)]<;>rfl
theorem hQK {l:List Nat}{k:Nat}(hk:0<k)(h:∀x∈l.drop k,x=0)(h0:l[k-1]? =some 0):∀x∈l.drop (k-1),x=0:=by
 have Xc:k-1<l.length:=(Z0.1 h0).1;rw[bR Xc];intro x hx;rcases QZ.1 hx with rfl | hx
 ·simpa [Xn Xc] using h0
 ·rw[show k-1+1=k by omega] at hx;exact h x hx
theorem hQL (A:Option Addr)(n c:Nat)(l:List Nat)(w:World)(h:SN w A n c l)(hL:Limbs l):
  Fn Tryz.prog 195 [.slice A n c] w (λv w'=>∃A' c',v= .tuple #[.slice A' (df (val l)).length c',.int .i64 (pI (val l))]/\SN w A' (df (val l)).length c' (df (val l))/\(A'=A∨A'=none)/\w'=w):=by
 have hl:=h.length;have hb:=h.bd;refine QD (c:=cQS) Qa Tryz.func195 rfl rfl rfl ?_;refine loop Qa [4] (λk:Nat=>[.int .i64 k]) (λk w'=>w'=w/\k<=n/\∀x∈l.drop k,x=0) (λk _=>k) n rfl ⟨rfl,QC n,by rw[<-hl];simp⟩ ?_;intro k w' hI;obtain⟨rfl,Xl,hz⟩:=hI;have done:(k=0∨∃x,l[k-1]? =some x/\x≠0)->∃A' c',(if k<=1024 then Value.tuple #[.slice A k c,.int .i64 0] else .tuple #[.slice none 0 0,.int .i64 2])= .tuple #[.slice A' (df (val l)).length c',.int .i64 (pI (val l))]/\SN w' A' (df (val l)).length c' (df (val l))/\(A'=A∨A'=none)/\w'=w':=by
  intro od;have hs:=hQz hL hz od;have Xd:(JR (val l)).length=k:=by rw[<-hs,Ye];omega
  unfold df pI;rw[Xd];split
  ·refine⟨A,c,by rw[Xd],?_,.inl rfl,rfl⟩;rw[Xd];have:=h.take Xl
   rwa [ir,<-hQH,hs] at this
  ·exact⟨none,0,rfl,Sl.nil w' 1,.inr rfl,rfl⟩
 refine Qy (λh1=>?_) (λh1=>?_)
 ·refine Qi ((k-1:Nat):Int) (by omega) (by omega) ?_;refine X5 h (by omega) (λad u hA hu QE=>?_);obtain⟨x,hx,rfl⟩:=AL hu;refine load QE ?_;refine Zh (λh2=>?_) (λh2=>?_)
  ·refine Qi ((k-1:Nat):Int) (by omega) (by omega) ?_;refine⟨k-1,rfl,⟨rfl,by omega,?_⟩,by show k-1<k;omega⟩;have:x=0:=by omega
   subst this;exact hQK (by omega) hz hx
  ·have hd:=done (.inr ⟨x,hx,by omega⟩);refine Qy (λh3=>?_) (λh3=>?_)
   ·rw[if_neg (by omega)] at hd;exact hd
   ·refine jI Qa rfl rfl rfl rfl rfl rfl (by omega) ?_;rw[Qf (by omega)] at hd;exact hd
 ·have hd:=done (.inl (by omega));refine Qy (λh3=>?_) (λh3=>?_)
  ·omega
  ·refine jI Qa rfl rfl rfl rfl rfl rfl (by omega) ?_;rw[Qf (by omega)] at hd;exact hd
theorem R2 (A:Option Addr)(n c:Nat)(l:List Nat)(w:World)(h:SN w A n c l)(hL:Limbs l):
  Fn Tryz.prog 195 [.slice A n c] w (λv w'=>∃A' c',v= .tuple #[.slice A' (df (val l)).length c',.int .i64 (pI (val l))]/\SN w A' (df (val l)).length c' (df (val l))/\w'=w):=
 (hQL A n c l w h hL).mono λ_ _ ⟨A',c',h1,h2,_,h4⟩=>⟨A',c',h1,h2,h4⟩
end Nt
namespace Nt
theorem FP {n:Nat}(h:(JR n).length<=1024):df n=JR n:=Qf h
theorem hQM {n:Nat}(h:(JR n).length<=1024):pI n=0:=Qf h
theorem hQN (N:Nat)(h:N<18446744073709551616):val [N % 4294967296,N/4294967296 % 4294967296]=N:=by
 simp[val];omega
theorem of_fn (N:Nat)(w:World)(hN:N<18446744073709551616):
  Fn Tryz.prog 135 [.int .u64 N] w (λv w'=>∃A c,v= .slice A (JR N).length c/\SN w' A (JR N).length c (JR N)/\Ext w w'):=by
 refine QD (c:=cQg) Qa Tryz.func135 rfl rfl rfl ?_;refine zl ?_;refine zk 32 4294967296 (by decide) rfl rfl ?_;refine zl ?_;refine rM Qa rfl rfl rfl rfl rfl rfl rfl rfl rfl rfl ?_;intro w1 hE Xu hB;have hs:SN w1 (some ⟨w.heap.size,0,none⟩) 2 2 [N % 4294967296,N/4294967296 % 4294967296]:=Sl.own' hB rfl (by simp[maxLen]);have hL:Limbs [N % 4294967296,N/4294967296 % 4294967296]:=pG.2 ⟨oJ _ (by omega),pG.2 ⟨oJ _ (by omega),AJ⟩⟩;refine call (R2 _ _ _ _ _ hs hL) ?_;rintro v w' ⟨A',c',rfl,uv,rfl⟩;rw[hQN N hN] at uv ⊢;have hr:df N=JR N:=FP (by have:=(FN N 2).2 (by omega);omega);rw[hr] at uv ⊢;exact⟨A',c',rfl,uv,hE⟩
end Nt
namespace Nt
def FQ (a b:List Nat)(n:Nat):List Nat:=if Vd a/\Vd b then df n else []
def FR (a b:List Nat)(n:Nat):Int:=if Vd a/\Vd b then pI n else 1
theorem R3 {a b:List Nat}{n:Nat}(h:¬(Vd a/\Vd b)):FQ a b n=[]:=if_neg h
theorem R4 {a b:List Nat}{n:Nat}(h:¬(Vd a/\Vd b)):FR a b n=1:=if_neg h
theorem jZk {a b:List Nat}{n:Nat}(ha:Vd a)(hb:Vd b):FQ a b n=df n:=Qf ⟨ha,hb⟩
theorem R5 {a b:List Nat}{n:Nat}(ha:Vd a)(hb:Vd b):FR a b n=pI n:=Qf ⟨ha,hb⟩
def R6 (w:World)(l:List Nat)(e:Int)(v:Value)(w':World):Prop:=
 ∃A c,v= .tuple #[.slice A l.length c,.int .i64 e]/\SN w' A l.length c l/\Ext w w'
theorem R7 (w w':World)(e:Int)(h:Ext w w'):R6 w [] e (.tuple #[.slice none 0 0,.int .i64 e]) w':=⟨none,0,rfl,Sl.nil _ 1,h⟩
theorem add_fn (A B:Option Addr)(n c m d:Nat)(a b:List Nat)(w:World)(ha:SN w A n c a)(hb:SN w B m d b)(LW:Limbs a)(uu:Limbs b):
  Fn Tryz.prog 138 [.slice A n c,.slice B m d] w (R6 w (FQ a b (val a+val b)) (FR a b (val a+val b))):=by
 refine QD (c:={cQj with cuts:=[3,12]}) Qa Tryz.func138 rfl rfl rfl ?_;refine call (FO _ _ _ _ _ ha) ?_;rintro v w' ⟨rfl,rfl⟩;refine lX (Qy (λjt=>?_) (λjt=>?_))
 case refine_2=>rw[R3 (λh=>jt h.1),R4 (λh=>jt h.1)];exact R7 _ _ _ (Ext.refl _)
 refine call (FO _ _ _ _ _ hb) ?_;rintro v w' ⟨rfl,rfl⟩;refine lX (Qy (λfV=>?_) (λfV=>?_))
 case refine_2=>rw[R3 (λh=>fV h.2),R4 (λh=>fV h.2)];exact R7 _ _ _ (Ext.refl _)
 rw[jZk jt fV,R5 jt fV];refine M2 Qa [0,1] (λs:(Option Addr×Nat×Nat×List Nat)×(Option Addr×Nat×Nat×List Nat)=>[.slice s.1.1 s.1.2.1 s.1.2.2.1,.slice s.2.1 s.2.2.1 s.2.2.2.1])
  (λs w2=>w2=w'/\SN w' s.1.1 s.1.2.1 s.1.2.2.1 s.1.2.2.2/\SN w' s.2.1 s.2.2.1 s.2.2.2.1 s.2.2.2.2/\Limbs s.1.2.2.2/\Limbs s.2.2.2.2/\s.2.2.1<=s.1.2.1/\s.1.2.1<=1024/\val a+val b=val s.1.2.2.2+val s.2.2.2.2) ?_ ?_
 ·have hla:=ha.length;have up:=hb.length;have h1:=jt.1;have h2:=fV.1;refine Qy (λh=>?_) (λh=>?_)
  ·exact⟨((B,m,d,b),(A,n,c,a)),rfl,rfl,hb,ha,uu,LW,by show n<=m;omega,by show m<=1024;omega,Nat.add_comm _ _⟩
  ·exact⟨((A,n,c,a),(B,m,d,b)),rfl,rfl,ha,hb,LW,uu,by show m<=n;omega,by show n<=1024;omega,rfl⟩
 rintro⟨⟨A,n,c,x⟩,⟨B,m,d,y⟩⟩ w2 ⟨rfl,hx,hy,oz,LX,C1,hn,hval⟩
 dsimp only at hx hy oz LX C1 hn hval ⊢
 rw[hval];clear hval jt fV ha hb LW uu;have hlx:=hx.length;have hly:=hy.length;refine Qi ((n+1:Nat):Int) (by omega) (by omega) ?_;refine zo Qa rfl rfl rfl rfl rfl rfl rfl rfl (by show 4*_<=_;omega) (by unfold maxLen;omega) ?_;intro w3 Qk mQb Qt;refine bQG Qa rfl rfl rfl rfl rfl rfl rfl Qt (hx.ext Qk) (by omega) (by simp) (hQI x) ?_;intro w4 kQn mQc Q4;have Qq:Ext w2 w4:=Qk.own kQn (QC _);have GO:Blk w4 w2.heap.size 219 (cells (x++ [0])):=by
  have e:cells x++(List.replicate (n+1) (Value.int .u32 0)).drop n=cells (x++ [0]):=by
   rw[hQG,List.drop_replicate,show n+1-n=1 by omega]<;>rfl
  rw[<-e];exact Q4
 refine loop Qa [33,7] (λs:Nat×Nat=>[.int .i64 s.1,.int .u64 s.2]) (λs w5=>Ext w2 w5/\s.1<=n/\s.2<2/\∃p,p.length=s.1/\Limbs p/\Blk w5 w2.heap.size 219 (cells (p++(x.drop s.1++ [0])))/\val p+s.2*4294967296^s.1=val (x.take s.1)+val (y.take s.1))
  (λs _=>n-s.1) (0,0) rfl ⟨Qq,XJ _,by decide,[],rfl,AJ,by simpa using GO,by simp[val]⟩ ?_
 rintro⟨i,k⟩ w5 ⟨Qv,hi,hk,p,hp,hLp,QK,hv⟩
 dsimp only at hi hk hp QK hv ⊢
 refine Qy (λh2=>?_) (λh2=>?_)
 ·have Do:x[i]? =some x[i]:=Xn (by omega);have LE:x.drop i=x[i]::x.drop (i+1):=bR (by omega);have nU:=oz.get Do;rw[LE,Jb] at QK;refine index (by omega) ?_;refine Qp QK (hQF (hQE p _ _ hp)) ?_;refine zj (by omega) ?_;refine o0 ((k+x[i]:Nat):Int) (by omega) (by omega) ?_;refine M2 Qa [7] (λs:Nat=>[.int .u64 s]) (λs w6=>w6=w5/\s=k+x[i]?.getD 0+y[i]?.getD 0) ?_ ?_
  ·refine Qy (λh3=>?_) (λh3=>?_)
   ·refine X5 (hy.ext Qv) (by omega) (λad u hA hu QE=>?_);obtain⟨z,hz,rfl⟩:=AL hu;have uq:=LX.get hz;refine load QE ?_;refine zj (by omega) ?_;refine o0 ((k+x[i]+z:Nat):Int) (by omega) (by omega) ?_;exact⟨k+x[i]+z,rfl,rfl,by rw[hz,Do];rfl⟩
   ·exact⟨k+x[i],rfl,rfl,by rw[Do,lM (by omega)];rfl⟩
  rintro s w6 ⟨rfl,hs⟩;have hyl:=hQB LX i;have C8:s<2*4294967296:=by rw[Do,iu] at hs;omega
  refine zl ?_;refine index (by omega) ?_;refine zm QK (by simp[cells];omega) ?_;intro w7 Ij Q6;refine zk 32 4294967296 (by decide) rfl rfl ?_;refine Qi ((i+1:Nat):Int) (by omega) (by omega) ?_;refine⟨(i+1,s/4294967296),rfl,⟨Qv.own Ij (QC _),by show i+1<=n;omega,by show s/4294967296<2;omega,p++ [s % 4294967296],by simp[hp],RZ hLp s,?_,hQC hp hv hs⟩,by show n-(i+1)<n-i;omega⟩;rw[<-R1,R0 _ _ _ _ hp] at Q6;exact Q6
 ·have:i=n:=by omega
  subst this;rw[ry (by omega),bP] at QK;rw[Jm (by omega),Jm (by omega)] at hv;refine zl ?_;refine index (by omega) ?_;refine zm QK (by simp[cells];omega) ?_;intro w7 Ij Q6;rw[<-R1,R0 _ _ _ _ hp,YH] at Q6;have hs:SN w7 (some ⟨w2.heap.size,0,none⟩) (i+1) (i+1) (p++ [k % 4294967296]):=Sl.own' Q6 (by simp[cells,hp]) (by unfold maxLen;omega);refine call (R2 _ _ _ _ _ hs (RZ hLp k)) ?_;rintro v w8 ⟨A',c',rfl,uv,rfl⟩;have e:val (p++ [k % 4294967296])=val x+val y:=by
   rw[FM,hp,iq (by omega),uD];exact hv
  rw[e] at uv ⊢;exact⟨A',c',rfl,uv,Qv.own Ij (QC _)⟩
end Nt
namespace Nt
def kB (l:List Nat):Bool:=decide (Vd l)&&decide (l.length<=2)
def sY (l:List Nat):Nat:=if kB l=true then val l else 0
theorem R8 {l:List Nat}(h:¬(Vd l/\l.length<=2)):sY l=0/\kB l=false:=by
 have hb:kB l=false:=by unfold kB;rw[dK];simpa using h
 exact⟨by unfold sY;rw[hb];rfl,hb⟩
theorem R9 {l:List Nat}(h1:Vd l)(h2:l.length<=2):sY l=val l/\kB l=true:=by
 have hb:kB l=true:=by unfold kB;simp[h1,h2]
 exact⟨by unfold sY;rw[hb];rfl,hb⟩
theorem Sa {x n d:Nat}{y:Int}{K:Int->Prop}(hy:0<=y)(hn:min y.toNat 64=n)(hd:2^n=d)(hx:x*d<=18446744073709551615)(k:K ((x*d:Nat):Int)):fh (0<=y) (IntKind.u64.wrap ((x:Int)*2^(min y.toNat IntKind.u64.bits))) K:=by
 refine normIf hy ?_ k;rw[show min y.toNat IntKind.u64.bits=n from hn];have e:(x:Int)*2^n=((x*d:Nat):Int):=by rw[<-hd];norm_cast
 rw[e];exact IntWalk.u64_in _ (by omega)
theorem hQO {a x:Nat}(ha:a<4294967296):a ||| (x*4294967296)=a+4294967296*x:=by
 have:=Nat.shiftLeft_add_eq_or_of_lt (b:=a) (i:=32) (by omega) x;rw[Nat.shiftLeft_eq,show(2:Nat)^32=4294967296 from rfl] at this;rw[Nat.or_comm];omega
theorem hQP (A:Option Addr)(n c:Nat)(l:List Nat)(w:World)(h:SN w A n c l)(hL:Limbs l):
  Fn Tryz.prog 88 [.slice A n c] w (λv w'=>v= .tuple #[.int .u64 (sY l),.bool (kB l)]/\w'=w):=by
 have hl:=h.length;refine QD (c:=c88) Qa Tryz.func88 rfl rfl rfl ?_;refine call (FO _ _ _ _ _ h) ?_;rintro v w' ⟨rfl,rfl⟩;refine lX (Qy (λhv=>?_) (λhv=>?_))
 ·refine Qy (λh2=>?_) (λh2=>?_)
  ·obtain⟨e1,e2⟩:=R8 (l:=l) (λk=>by omega);rw[e1,e2];exact And.intro rfl rfl
  ·obtain⟨e1,e2⟩:=R9 hv (by omega);rw[e1,e2];refine loop Qa [16,4] (λs:Nat=>[.int .i64 s,.int .u64 (val (l.take s):Nat)]) (λs w2=>w2=w'/\s<=n) (λs _=>n-s) 0 rfl ⟨rfl,XJ _⟩ ?_;rintro k w2 ⟨rfl,hk⟩
   dsimp only
   refine Qy (λh3=>?_) (λh3=>?_)
   ·refine X5 h (by omega) (λad u hA hu QE=>?_);obtain⟨x,hx,rfl⟩:=AL hu;have nU:=hL.get hx;refine load QE ?_;refine zj (by omega) ?_;have uw:=RX hx;have Xc:=hQA hL k;rcases(by omega:k=0∨k=1)with rfl | rfl
    ·refine Qi 0 (by omega) (by omega) ?_;refine Sa (n:=0) (d:=1) (by decide) (by decide) (by decide) (by omega) ?_;rw[ir];have e0:val (l.take 0)=0:=by simp[val]
     rw[e0];refine M6 (s:=x) (Nat.zero_or x) (by omega) (by omega) ?_;refine Qi ((1:Nat):Int) (by omega) (by omega) ?_;have bF:val (l.take 1)=x:=by have h9:=uw;rw[e0] at h9;simpa using h9
     refine⟨1,?_,⟨rfl,by omega⟩,by show n-1<n-0;omega⟩
     dsimp only
     rw[bF]<;>rfl
    ·refine Qi 32 (by omega) (by omega) ?_;refine Sa (n:=32) (d:=4294967296) (by decide) (by decide) (by decide) (by omega) ?_;refine M6 (hQO (by omega)) (by omega) (by omega) ?_;refine Qi ((2:Nat):Int) (by omega) (by omega) ?_;have kG:val (l.take 2)=val (l.take 1)+4294967296*x:=by have h9:=uw;simpa using h9
     refine⟨2,?_,⟨rfl,by omega⟩,by show n-2<n-1;omega⟩
     dsimp only
     rw[kG]<;>rfl
   ·rw[Jm (by omega)];exact And.intro rfl rfl
 ·obtain⟨e1,e2⟩:=R8 (l:=l) (λk=>hv k.1);rw[e1,e2];exact And.intro rfl rfl
theorem u8_of {a:Int}(h:(Lit.int .u8 a).wf=true):∃N:Nat,a=(N:Int)/\N<256:=by
 simp[Lit.wf,IntKind.min,IntKind.max,IntKind.signed,IntKind.bits] at h;exact⟨a.toNat,by omega,by omega⟩
end Nt
def NumIn (w:World)(b:Nat)(v:Value):Prop:=∃A m c N,v= .slice A m c/\Nt.SN w A m c (Nt.JR N)/\N<=b
theorem NumIn.ext {w w':World}{b:Nat}{v:Value}(h:NumIn w b v)(k:Ext w w'):NumIn w' b v:=by
 obtain⟨A,m,c,N,h1,h2,h3⟩:=h;exact⟨A,m,c,N,h1,h2.ext k,h3⟩
theorem NumIn.mod {w w':World}{b g t:Nat}{v:Value}{cs:List Value}(h:NumIn w b v)(hB:Blk w g t cs)(Zc:∀u∈cs,∃A m c,u= .slice A m c)(hm:Mod (·=g) w w'):NumIn w' b v:=by
 obtain⟨A,m,c,N,h1,h2,h3⟩:=h;refine⟨A,m,c,N,h1,h2.modS hm (λh0 i hi e=>?_),h3⟩;subst e;obtain⟨ad,rfl,hc⟩:=h2.at_ h0;obtain⟨ad',ea',hb⟩:=hi;cases ea';have Xd:=h2.length;obtain⟨x,hx⟩:∃x,(Nt.JR N)[0]? =some x:=⟨_,Xn (by omega)⟩
 have QE:=hc 0 _ (show(Nt.cells (Nt.JR N))[0]? =some (.int .u32 x) by unfold Nt.cells;rw[VR,hx];rfl);unfold World.cell? at QE;rw[o6,hb,show w.heap[i]? =_ from hB] at QE;simp only at QE;split at QE
 ·cases QE
 ·rw[Mv] at QE;obtain⟨_,_,_,hs⟩:=Zc _ (QO QE);cases hs
def dh (n:Nat)(nd:List Br)(x:Nat):Nat:=min n (Ql nd x).toNat
theorem hQQ (x:DV)(n nb ab m:Nat)(w:World)(hN:Blk w nb 3 [.int .i64 n])(hA:Blk w ab 32 x.cells)(hx:SB w x.A x.n x.c x.nd)(hm:m<x.n+2)(h0:0<=Ql x.nd m):
  Fn Tryz.prog 136 [.int .i64 m,.pointer (some ⟨nb,0,none⟩),.pointer (some ⟨ab,0,none⟩)] w (λu w'=>u= .int .i64 (dh n x.nd m)/\Ext w w'):=by
 refine QD (c:={cQh with cuts:=[]}) Qa Tryz.func136 rfl rfl rfl ?_;have hd:=Ext.drew w;refine XC Qa (Ext w) 6 [(true,0),(true,1),(true,2),(false,3),(true,4),(true,5)] (by kernel_rfl) hd ?_;refine QH (v:=.int .i64 n) (λw' Qb=>by rw[(hN.ext Qb).cell0];rfl) ?_;refine Xq (vs:=x.cells) rfl (λw' Qb j u hj=>by rw[(hA.ext Qb).cell];exact hj) ?_;refine call (cS x.A x.n x.c x.r m x.nd w.drew (hx.ext hd) (by omega)) ?_;rintro _ w2 ⟨rfl,Qg⟩;refine⟨hd.trans Qg,?_⟩;refine norm (m:=(dh n x.nd m:Int)) (by unfold dh;split<;>omega) ?_;exact⟨rfl,hd.trans Qg⟩
abbrev hQS (nb ab:Nat):Value:=.func (.func 136) #[] #[.pointer (some ⟨nb,0,none⟩),.pointer (some ⟨ab,0,none⟩)]
structure CtK (w:World) (x:DV) (n nb ab cb pb sb:Nat) (cs:List Value):Prop where
 hN:Blk w nb 3 [.int .i64 n]
 hA:Blk w ab 32 x.cells
 hx:SB w x.A x.n x.c x.nd
 hC:Blk w cb 213 [.slice (some ⟨sb,0,none⟩) (x.n+2) (x.n+2)]
 hP:Blk w pb 215 [hQS nb ab]
 hS:Blk w sb 143 cs
 len:cs.length=x.n+2
 sl:∀u∈cs,∃A m c,u= .slice A m c
 nums:∀(j:Nat) (v:Value),cs[j]? =some v->NumIn w (2^(n-dh n x.nd j)) v
theorem CtK.ext {w w':World}{x:DV}{n nb ab cb pb sb:Nat}{cs:List Value}(h:CtK w x n nb ab cb pb sb cs)(k:Ext w w'):CtK w' x n nb ab cb pb sb cs:=
 ⟨h.hN.ext k,h.hA.ext k,h.hx.ext k,h.hC.ext k,h.hP.ext k,h.hS.ext k,h.len,h.sl,λj v hv=>(h.nums j v hv).ext k⟩
theorem Sb {A B:Option Addr}{m c k d N M b:Nat}(hb:N+M<=b)(hb2:b<=4096)(w:World)(hA:Nt.SN w A m c (Nt.JR N))(hB:Nt.SN w B k d (Nt.JR M)):
  Fn Tryz.prog 138 [.slice A m c,.slice B k d] w (λu w'=>∃v,u= .tuple #[v,.int .i64 0]/\NumIn w' b v/\Ext w w'):=by
 have lim:∀x,x<=4096->x<4294967296^1024:=λx hx=>(show ∀k,0<k->x<4294967296^k from λk p=>VQ (show x<4294967296^1 by omega) (Wl (by decide) p)) 1024 (by decide)
 have vA:=Nt.sX (lim N (by omega));have vB:=Nt.sX (lim M (by omega));refine(Nt.add_fn A B m c k d _ _ w hA hB (Nt.AK N) (Nt.AK M)).mono ?_;rintro u w' ⟨A',c',hu,hS,hE⟩;rw[Nt.R5 vA vB,Nt.jZk vA vB,Nt.pH,Nt.pH,Nt.hQM (Nt.sX (lim (N+M) (by omega))).1,Nt.FP (Nt.sX (lim (N+M) (by omega))).1] at hu;rw[Nt.jZk vA vB,Nt.pH,Nt.pH,Nt.FP (Nt.sX (lim (N+M) (by omega))).1] at hS;subst hu;exact⟨_,rfl,⟨A',_,c',N+M,rfl,hS,hb⟩,hE⟩
theorem FT {w:World}{x:DV}{n nb ab cb pb sb:Nat}{cs:List Value}(hn:n<=12)(K:CtK w x n nb ab cb pb sb cs)(m f:Nat)(hm:m<x.n+2)(h0:0<=Ql x.nd m)(hf:f<=dh n x.nd m):
  Fn Tryz.prog 137 [.int .i64 m,.int .i64 f,.pointer (some ⟨cb,0,none⟩),.pointer (some ⟨pb,0,none⟩)] w (λu w'=>∃v,u= .tuple #[v,.int .i64 0]/\NumIn w' (2^(n-f)) v/\Ext w w'):=by
 have uj:dh n x.nd m<=n:=Nat.min_le_left _ _;have hmx:=K.hx.1.cap;have mQM:=K.hx.1.le;refine QD (c:={cQi with cuts:=[]}) Qa Tryz.func137 rfl rfl rfl ?_;refine Qx K.hC rfl ?_;obtain⟨v,hv⟩:∃v,cs[m]? =some v:=⟨_,Xn (by rw[K.len];omega)⟩
 refine index (j:=m) (by omega) ?_;refine Qp K.hS hv ?_;refine Qx K.hP rfl ?_;refine call (hQQ x n nb ab m w K.hN K.hA K.hx hm h0) ?_;rintro _ w1 ⟨rfl,Qd⟩;generalize hp:dh n x.nd m=p at*;refine Qi ((p-f:Nat):Int) (by omega) (by omega) ?_;have hN0:=(K.nums m v hv).ext Qd;rw[hp] at hN0;refine loop Qa [8,20] (λs:Value×Nat=>[s.1,.int .i64 s.2]) (λs w'=>Ext w w'/\s.2<=p-f/\NumIn w' (2^(n-p)*2^s.2) s.1) (λs _=>p-f-s.2) (v,0) rfl ⟨Qd,XJ _,by simpa using hN0⟩ ?_;rintro⟨u,i⟩ w2 ⟨Qg,hi,A,mm,c,N,rfl,hS,yw⟩;simp only at hi yw;refine Qy (λc1=>?_) (λc1=>?_)
 ·have LY:i<p-f:=by simp only at c1;omega
  have e2:2^(n-p)*2^(i+1)<=4096:=by
   rw[<-Nat.pow_add];exact Zf (Wl (by decide) (show n-p+(i+1)<=12 by omega)) (by decide)
  refine call (Sb (b:=2^(n-p)*2^(i+1)) (by rw[lO,<-Nat.mul_assoc];omega) e2 w2 hS hS) ?_;rintro _ w3 ⟨u,rfl,LZ,Qk⟩;refine Wo rfl ?_;refine Qi ((i+1:Nat):Int) (by show((i:Nat):Int)+1=_;omega) (by omega) ?_;exact⟨(u,i+1),rfl,⟨Qg.trans Qk,LY,LZ⟩,by show p-f-(i+1)<p-f-i;omega⟩
 ·have LY:i=p-f:=by simp only at c1;omega
  refine⟨_,rfl,⟨A,mm,c,N,rfl,hS,?_⟩,Qg⟩;rw[LY,<-Nat.pow_add,show n-p+(p-f)=n-f by omega] at yw;exact yw
theorem hQT {c:Cx}{o:Oper}{S:Env}{w:World}{K:Env->World->Prop}{Q:Zg}{x y z:Operand}{ts:Array TypeId}{k1 k2 k3:IntKind}(ho:o.op= .call ⟨.builtin .max, #[x,y,z],ts⟩)(hx:S.ev x=some (.int k1 0))(hy:S.ev y=some (.int k2 0))(hz:S.ev z=some (.int k3 0))
  (kk:Xk c S o.dst (.v (.int k1 0)) (λS=>K S w)):X8 c o S w K Q:=by
 refine Js (w':=w) (v:=.int k1 0) (λa hf=>?_) kk;have e1:=hf.ev hx;have e2:=hf.ev hy;have e3:=hf.ev hz;simp[execOp,ho,resolve,invoke,builtin,e1,e2,e3,Builtin.max_,Builtin.max2]
theorem hQU {n:Nat}{nd:List Br}{x:Nat}(h:(x:Int)<2)(hn:n<=12):dh n nd x=n:=by
 unfold dh Ql;rw[Qf h];show min n 64=n;omega
theorem hQV {n i:Nat}{nd:List Br}{b:Br}(hb:nd[i]? =some b)(h0:0<=b.v)(hv:b.v<n):dh n nd (i+2)=b.v.toNat:=by
 unfold dh Ql;rw[if_neg (by omega),show(((i+2:Nat):Int)-2).toNat=i by omega,hb];simp only[yJ,iu];omega
theorem FU {nd:List Br}{r:Int}(h:VD nd r){x:Int}:0<=Ql nd x:=by
 unfold Ql;split
 ·decide
 ·cases hb:nd[(x-2).toNat]? with
  | none=>simp
  | some b=>simpa using (h.1 _ b hb).1
theorem hQW (x:DV)(n:Nat)(hn:n<=12)(w:World)(hx:SB w x.A x.n x.c x.nd)(Yd:Kk n x.nd x.r=true):
  Fn Tryz.prog 87 [Xm x.A x.n x.c x.r,.int .i64 n] w (λu w'=>∃v,u= .tuple #[v,.int .i64 0]/\NumIn w' (2^n) v/\Ext w w'):=by
 obtain⟨lH,aQN⟩:=sV.1 Yd;have ux:=(fw.1 lH).2;have hl:=hx.2;have bN:=hx.1.cap;have ZO:=hx.1.le;have mQd:=(fw.1 lH).1;simp only[maxLen] at bN;refine QD (c:={c87 with cuts:=[]}) Qa Tryz.func87 rfl rfl rfl ?_;refine new (λw1 Qd Q3 Qh=>?_);refine new (λw2 Qg Zb Qw=>?_);have Q7:=Qd.trans Qg;have hA2:=Qh.ext Qg;refine Qs hA2 rfl ?_;refine call (zI x.A x.n x.c x.nd x.r w2 (hx.ext Q7)) ?_;rintro _ w3 ⟨rfl,Qk⟩;have QW:=Q7.trans Qk;refine Wo lH ?_;have hA3:=hA2.ext Qk;have dw:=Qw.ext Qk;refine Qx dw rfl ?_;refine Q9 (by omega) ?_;refine Qx dw rfl ?_;refine Q9 (by omega) ?_;refine Qp hA3 rfl ?_;refine loop Qa [35] (λi:Nat=>[.int .i64 i]) (λi w'=>Ext w3 w'/\i<=x.n) (λi _=>x.n-i) 0 rfl ⟨Ext.refl _,XJ _⟩ ?_;rintro i w4 ⟨Qq,hi⟩;refine Qy (λc1=>?_) (λc1=>?_)
 ·have Xe:i<x.n:=by omega
  refine Zw Ws ((hx.ext QW).ext Qq) rfl Xe (λp b hb hc=>?_);refine Kr (vs:=b.cells) rfl hc ?_;refine new (λw5 Qv KJ QK=>?_);refine Qz QK rfl (sc rfl) (λw6 WE _ Xo=>?_);have Xz:Ext w4 w6:=X9 Qv QK WE;have Vj:=aQN b (QO hb);refine Qx Xo rfl ?_;refine Qx ((dw.ext Qq).ext Xz) rfl ?_;refine Q9 (by omega) ?_;refine Qi ((i+1:Nat):Int) (by show((i:Nat):Int)+1=_;omega) (by omega) ?_;exact⟨i+1,rfl,⟨Qq.trans Xz,Xe⟩,by show x.n-(i+1)<x.n-i;omega⟩
 have XL:=QW.trans Qq;have hA4:=hA3.ext Qq;have Ik:=dw.ext Qq;refine Qp hA4 rfl ?_;refine Qi ((x.n+2:Nat):Int) (by omega) (by omega) ?_;refine zo Qa rfl rfl rfl rfl rfl rfl rfl rfl (by show 24*(x.n+2)<=_;omega) (by unfold maxLen;omega) (λw5 Qv KJ QK=>?_);refine new (λw6 Xh em Xo=>?_);refine KE Xo (by decide) (λw7 Xb Q6=>?_);have Vs:Ext w5 w7:=Xb.ext Xh (λi hi=>by omega);have WJ:=Xb.size;have kQo:=QK.ext Vs;have mQe:=Vs.size;refine XC Qa (λw'=>Mod (·=w4.heap.size) w7 w') 4 [(true,0),(false,1),(true,2),(false,3)] (by kernel_rfl) (Mod.of_ext _ (Ext.drew w7)) ?_;have ns:¬w5.heap.size=w4.heap.size:=by omega
 refine QH (v:=.slice (some ⟨w4.heap.size,0,none⟩) (x.n+2) (x.n+2)) (λw' Qb=>by rw[(Q6.mod Qb ns).cell0];rfl) ?_;refine call (Nt.of_fn 1 w7.drew (by decide)) ?_;rintro _ w8 ⟨A8,c8,rfl,gK,Q0⟩;have Kg:Ext w7 w8:=(Ext.drew w7).trans Q0;refine⟨Mod.of_ext _ Kg,?_⟩;refine index (j:=1) (by omega) ?_;have Xt:=kQo.ext Kg;refine XP Xt (by simp) (λw9 Ze JT=>?_);have K5:Mod (·=w4.heap.size) w7 w9:=(Mod.of_ext _ Kg).trans Ze (λi hi=>.inl hi);refine⟨K5,?_⟩;have tP:Ext w4 w9:=K5.ext (Qv.trans Vs) (λi hi=>by omega);have et:=K5.size;refine new (λQJ ZJ wv Km=>?_);refine KE Km (by decide) (λQG ZV ZZ=>?_);have fI:Ext w9 QG:=ZV.ext ZJ (λi hi=>by omega);have cv:=tP.trans fI;have tH:=ZV.size;have YS:=XL.trans cv;have kQp:∀u∈(List.replicate (x.n+2) (Value.slice none 0 0)).set 1 (.slice A8 (Nt.JR 1).length c8),∃A m c,u= .slice A m c:=λu hu=>by
  rcases DO hu with hu | rfl
  ·exact⟨none,0,0,DH hu⟩
  ·exact⟨_,_,_,rfl⟩
 have K0:CtK QG x n w1.heap.size w.heap.size w5.heap.size w9.heap.size w4.heap.size ((List.replicate (x.n+2) (Value.slice none 0 0)).set 1 (.slice A8 (Nt.JR 1).length c8)):=by
  refine⟨Ik.ext cv,hA4.ext cv,hx.ext YS,(Q6.mod K5 ns).ext fI,ZZ,JT.ext fI,by simp,kQp,λj v hv=>?_⟩;by_cases hj:1=j
  ·subst hj;rw[iv (by simp)] at hv;cases hv;rw[hQU (by decide) hn,yG];have h1:NumIn w8 (2^0) (.slice A8 (Nt.JR 1).length c8):=⟨A8,_,c8,1,rfl,gK,QC _⟩
   exact(h1.mod Xt (λu hu=>⟨none,0,0,DH hu⟩) Ze).ext fI
  ·rw[fd hj] at hv;have:=DH (QO hv);subst this;exact⟨none,0,0,0,rfl,Sl.nil _ _,XJ _⟩
 generalize (List.replicate (x.n+2) (Value.slice none 0 0)).set 1 (.slice A8 (Nt.JR 1).length c8)=cs0 at*;refine Qp K0.hA rfl ?_;refine loop Qa [57] (λi:Nat=>[.int .i64 i]) (λi w'=>Mod (·=w4.heap.size) QG w'/\i<=x.n/\∃cs,CtK w' x n w1.heap.size w.heap.size w5.heap.size w9.heap.size w4.heap.size cs) (λi _=>x.n-i) 0 rfl ⟨Mod.refl _ _,XJ _,cs0,K0⟩ ?_;rintro i Xg ⟨Vr,hi,cs,K⟩;have tJ:Ext w Xg:=Vr.ext YS (λj hj=>by have:=XL.size;omega);refine Qy (λc1=>?_) (λc1=>?_)
 ·have Xe:i<x.n:=by omega
  refine Zw Ws K.hx rfl Xe (λp b hb hc=>?_);obtain⟨k1,k2,k3,k4,k5,k6,k7,k8,k9,k10⟩:=ux.1 i b hb;have Vj:=aQN b (QO hb);obtain⟨bv,hbe⟩:=DP k1;obtain⟨bl,aQO⟩:=DP k3;obtain⟨bh,aQP⟩:=DP k5;refine Kr (vs:=b.cells) rfl hc ?_;refine new (λX2 XK Hy K2=>?_);refine Qz K2 rfl (sc rfl) (λZi ep _ JU=>?_);have qu:Ext Xg Zi:=X9 XK K2 ep;have K14:=K.ext qu;refine Qp JU rfl ?_;refine Qx JU rfl ?_;refine Qi ((bv+1:Nat):Int) (by show b.v+1=_;omega) (by omega) ?_;have Jq:∀y:Int,b.v<Ql x.nd y->∀m:Nat,y=m->bv+1<=dh n x.nd m:=λy hy m hm=>by
   subst hm;unfold dh;omega
  show gf _ _ [.int .i64 b.l,_,_,_] _ _ _;rw[aQO];refine call (FT hn K14 bl (bv+1) (by omega) (FU ux) (Jq b.l k9 bl aQO)) ?_;rintro _ Kw ⟨ul,rfl,hUl,V6⟩;refine Qp (JU.ext V6) rfl ?_;refine Qx (JU.ext V6) rfl ?_;refine Qi ((bv+1:Nat):Int) (by show b.v+1=_;omega) (by omega) ?_;show gf _ _ [.int .i64 b.h,_,_,_] _ _ _;rw[aQP];refine call (FT hn (K14.ext V6) bh (bv+1) (by omega) (FU ux) (Jq b.h k10 bh aQP)) ?_;rintro _ ao ⟨uh,rfl,⟨Ah,mh,ch,Nh,rfl,hSh,hNh⟩,V8⟩;obtain⟨Al,ml,cl,Nl,rfl,LU,hNl⟩:=hUl.ext V8;have hpw:2^(n-(bv+1))+2^(n-(bv+1))=2^(n-bv):=by
   rw[show n-bv=(n-(bv+1))+1 by omega,lO];omega
  refine call (Sb (b:=2^(n-bv)) (by omega) (Zf (Wl (by decide) (show n-bv<=12 by omega)) (by decide)) ao LU hSh) ?_;rintro _ Vu ⟨_,rfl,⟨Au,mu,cu,Nu,rfl,hSu,LZ⟩,tG⟩;have hUs:NumIn Vu (2^(n-bv)) (.slice Au mu cu):=⟨Au,mu,cu,Nu,rfl,hSu,LZ⟩
  have nj:=(V6.trans V8).trans tG;have K17:=K14.ext nj;refine hQT rfl rfl rfl rfl ?_;refine Wo rfl ?_;refine Qx K17.hC rfl ?_;refine Qi ((i+2:Nat):Int) (by show((i:Nat):Int)+2=_;omega) (by omega) ?_;refine index (j:=i+2) (by omega) ?_;refine XP (j:=i+2) K17.hS (by rw[K17.len];omega) (λVh wU qd=>?_);refine Qi ((i+1:Nat):Int) (by show((i:Nat):Int)+1=_;omega) (by omega) ?_;have aQa:=qu.trans nj;refine⟨i+1,rfl,⟨(Vr.trans (Mod.of_ext (·=w4.heap.size) aQa) (λj hj=>.inl hj)).trans wU (λj hj=>.inl hj),Xe,cs.set (i+2) (.slice Au mu cu),?_⟩,by show x.n-(i+1)<x.n-i;omega⟩;have V5:b.v=bv:=hbe;have ZP:dh n x.nd (i+2)=bv:=by rw[hQV hb k1 Vj];omega
  have K18:Ext Xg Vu:=aQa;have rm:Mod (·=w4.heap.size) Vu Vh:=wU;have n1:¬w1.heap.size=w4.heap.size:=by have:=Qk.size;have:=Qq.size;omega
  have n0:¬w.heap.size=w4.heap.size:=by have:=Qk.size;have:=Qq.size;omega
  have n9:¬w9.heap.size=w4.heap.size:=by have:=tP.size;omega
  have kQq:=K17.hx;refine⟨K17.hN.mod rm n1,K17.hA.mod rm n0,kQq.modo rm (λad ea h0=>by have:=SB.lt hx ad ea h0;have:=XL.size;omega),K17.hC.mod rm ns,K17.hP.mod rm n9,qd,by rw[dG];exact K17.len,λu hu=>?_,λj v hv=>?_⟩
  ·rcases DO hu with hu | rfl
   ·exact K17.sl u hu
   ·exact⟨_,_,_,rfl⟩
  ·by_cases hj:i+2=j
   ·subst hj;rw[iv (by rw[K17.len];omega)] at hv;cases hv;rw[ZP];exact hUs.mod K17.hS K17.sl rm
   ·rw[fd hj] at hv;exact(K17.nums j v hv).mod K17.hS K17.sl rm
 ·obtain⟨rt,hrt⟩:=DP ux.2.1;have ah:=ux.2.2.1;refine Qp K.hA rfl ?_;show gf _ _ [.int .i64 x.r,_,_,_] _ _ _;rw[hrt];refine call (FT hn K rt 0 (by omega) (FU ux) (XJ _)) ?_;rintro _ X2 ⟨u,rfl,hU,XK⟩;exact⟨u,rfl,hU,tJ.trans XK⟩
def Jv:Nat->List (List Nat)->List (Nat×List Nat)
 | _,[]=>[]
 | a,s::ls=>(a,s)::Jv (a+s.length+1) ls
theorem Sc:∀(a:Nat)(l m:List (List Nat)),Jv a (l++m)=Jv a l++Jv (a+(Qo l).length) m
 | a,[],m=>by simp[Jv,Qo]
 | a,s::l,m=>by
  rw[Jb,Jv,Jv,Sc (a+s.length+1) l m,Jb,Wu];congr 3;simp only[Qu,Xj];omega
theorem Sd {l:List Nat}(h:cd l)(s:List Nat)(hs:10∉s):QT (l++(s++ [10]))=QT l++ [s]:=by
 have h1:=W6 h;have h2:l++(s++ [10])=Qo (QT l++ [s]):=by rw[Fy,h1]
 rw[h2,j9 (λt ht=>by
  rcases Xw.1 ht with ht | ht
  ·exact mv l t ht
  ·rw[QL.1 ht];exact hs)]
def fB (nm:List (List Nat)):List (List Nat)->Nat->BF->List (BF×BF)->List (Nat×List Nat×BF)
 | [],_,_,_=>[]
 | s::ls,a,k,op=>match ZN s with
  | .txt=>(a,s,k)::fB nm ls (a+s.length+1) k op
  | .ifd r=>match Yu nm r with
   | .ok d=>fB nm ls (a+s.length+1) (JE k d) ((k,Yk k d)::op)
   | .error _=>[]
  | .elif r=>match op with
   | []=>[]
   | x::aT=>match Yu nm r with
    | .ok d=>fB nm ls (a+s.length+1) (JE x.2 d) ((x.1,Yk x.2 d)::aT)
    | .error _=>[]
  | .els=>match op with
   | []=>[]
   | x::aT=>fB nm ls (a+s.length+1) x.2 (x::aT)
  | .en=>match op with
   | []=>[]
   | x::aT=>fB nm ls (a+s.length+1) x.1 aT
  | .inc _=>[]
abbrev AM (tx:List Nat)(s:Sg):List (Nat×List Nat×BF):=(Jv s.at_ (QT (ac tx s))).map (λq=>(q.1,q.2,s.o))
def kC (g:Gs):List (Nat×List Nat×BF):=g.sg.flatMap (AM g.tx)
theorem Sf {fs:List (List Nat×List Nat)}{tx:List Nat}{s:Sg}(h:SgOk fs tx s):cd (ac tx s)/\(ac tx s).length=s.t-s.f:=by
 have h1:=h.ft;have h2:=h.tl;have hl:(ac tx s).length=s.t-s.f:=by unfold ac;simp;omega
 refine⟨.inr ?_,hl⟩;rw[lP,hl];unfold ac;rw[DN,uB (by omega),show s.f+(s.t-s.f-1)=s.t-1 by omega];exact h.nl
theorem FW {tx s:List Nat}:∀{l:List Sg},(∀x∈l,x.t<=tx.length)->l.flatMap (AM (tx++s))=l.flatMap (AM tx)
 | [],_=>rfl
 | x::l,h=>by rw[cK,cK,FW (λy hy=>h y (by simp[hy])),AM,gQM (h x (by simp))]
theorem hQX {fs:List (List Nat×List Nat)}{n p:Nat}{k:BF}{g g':Gs}{s:List Nat}(h:GInv fs g)(hc:mH n p k g)(hs:10∉s)(ha:VZ (s++ [10]) n p k g=some g'):kC g'=kC g++ [(p,s,k)]:=by
 unfold VZ at ha;split at ha
 ·cases ha
 cases ha;cases hf:g.fr with
 | true=>
  rw[Qf rfl,kc];unfold kC;simp only;rw[dJ,FW (λx hx=>(h.ok x hx).tl)];congr 1;simp only[cK,yS,YH];have e:ac (g.tx++(s++ [10])) ⟨g.tx.length,g.tx.length+(s++ [10]).length,n,p,k⟩=[]++(s++ [10]):=by
   unfold ac;simp only;rw[Jm (by simp),rB]<;>rfl
  show(Jv p (QT (ac _ _))).map _=_;rw[e,Sd (.inl rfl) s hs]<;>rfl
 | false=>
  rw[if_neg (by decide)];obtain⟨l,y,e,e1,e2,e3⟩:=hc hf;have Jy:=h.ch;have Zq:=h.ok;rw[e] at Jy Zq;rw[ChG.snoc] at Jy;have hy:=Zq y (by simp);rw[e,kc];unfold kC;simp only;rw[e,dJ,dJ,FW (λx hx=>(Zq x (by simp[hx])).tl),Je];congr 1;have h1:=hy.ft;have h2:=Jy.2;have hp:=Sf hy;have e4:ac (g.tx++(s++ [10])) {y with t:=g.tx.length+(s++ [10]).length}=ac g.tx y++(s++ [10]):=by
   unfold ac;simp only;rw[Jm (by simp),List.drop_append_of_le_length (by omega),h2,rA]
  simp only[cK,yS,YH];show(Jv y.at_ (QT (ac _ {y with t:=g.tx.length+(s++ [10]).length}))).map _=_;rw[e4,Sd hp.1 s hs,Sc,W6 hp.1,hp.2,e2,f0];show _=(Jv y.at_ (QT (ac g.tx y))).map (λq=>(q.1,q.2,y.o))++_;rw[e3]<;>rfl
def ChA:List Sg->Nat->Prop
 | [],_=>True
 | s::l,p=>(∀x∈l,s.at_+(s.t-s.f)<=x.at_)/\s.at_+(s.t-s.f)<=p/\ChA l p
theorem ChA.mono {p q:Nat}(h:p<=q):∀{l:List Sg},ChA l p->ChA l q
 | [],_=>trivial
 | _::_,⟨h1,h2,h3⟩=>⟨h1,by omega,h3.mono h⟩
theorem ChA.snoc {x:Sg}{p q:Nat}(hx:p<=x.at_)(hq:x.at_+(x.t-x.f)<=q):∀{l:List Sg},ChA l p->ChA (l++ [x]) q
 | [],_=>⟨(λ_ h=>by cases h),hq,trivial⟩
 | s::l,⟨h1,h2,h3⟩=>⟨λy hy=>by
   rcases Xw.1 hy with hy | hy
   ·exact h1 y hy
   ·rw[QL.1 hy];omega,by omega,ChA.snoc hx hq h3⟩
theorem nQa {x y:Sg}{p q:Nat}(hx:y.at_=x.at_)(hq:y.at_+(y.t-y.f)<=q)(ic:p<=q):∀{l:List Sg},ChA (l++ [x]) p->ChA (l++ [y]) q
 | [],_=>⟨(λ_ h=>by cases h),hq,trivial⟩
 | s::l,⟨h1,h2,h3⟩=>⟨λz hz=>by
   rcases Xw.1 hz with hz | hz
   ·exact h1 z (by simp[hz])
   ·rw[QL.1 hz,hx];exact h1 x (by simp),by omega,nQa hx hq ic h3⟩
theorem hQY {fs:List (List Nat×List Nat)}{n p:Nat}{k:BF}{g g':Gs}{s:List Nat}(h:GInv fs g)(hc:mH n p k g)(hp:ChA g.sg p)(ha:VZ (s++ [10]) n p k g=some g'):ChA g'.sg (p+s.length+1):=by
 unfold VZ at ha;split at ha
 ·cases ha
 cases ha;cases hf:g.fr with
 | true=>
  rw[Qf rfl,kc];exact hp.snoc (QC p) (by simp;omega)
 | false=>
  rw[if_neg (by decide)];obtain⟨l,y,e,e1,e2,e3⟩:=hc hf;have Jy:=h.ch;rw[e] at Jy hp;rw[ChG.snoc] at Jy;have hy:=(h.ok y (by rw[e];simp)).ft;rw[e,kc];exact nQa (p:=p) (q:=p+s.length+1) (x:=y) (y:={y with t:=g.tx.length+(s++ [10]).length}) rfl (by simp only[Qu,oL];omega) (by omega) hp
theorem Sh {nm:List (List Nat)}{fs:List (List Nat×List Nat)}{n d0:Nat}{inc:pz}{x:List Nat×List Nat}(hx:fs[n]? =some x)
  (hi:∀r ln d k g g',inc r ln d k g≠ .ok g'):∀(ls:List (List Nat)) (ln at_:Nat) (k:BF) (op:List Se) (g g':Gs),dU ls->
  x.2.drop at_=Qo ls->at_<=x.2.length->GInv fs g->mH n at_ k g->ChA g.sg at_->ZS nm n d0 inc ls ln at_ k op g= .ok g'->kC g'=kC g++fB nm ls at_ k (Rv op)/\ChA g'.sg (at_+(Qo ls).length)
 | [],ln,at_,k,op,g,g',_,_,_,hg,_,Jy,hr=>by
  cases op with
  | nil=>simp only[ZS,Except.ok.injEq] at hr;subst hr;exact⟨by rw[fB,YH];rfl,Jy⟩
  | cons _ _=>simp[ZS] at hr
 | s::ls,ln,at_,k,op,g,g',hL0,hd,dE,hg,hc,Jy,hr=>by
  have Xy:x.2.drop at_=(s++ [10])++Qo ls:=by rw[hd,Wu];simp
  have hL:(s++ [10]).length=s.length+1:=by simp
  have Xd:x.2.length-at_=s.length+1+(Qo ls).length:=by
   have:=QN List.length Xy;simp only[Y3,Qu,Xj,Z5] at this;omega
  have hu:at_+(Qo (s::ls)).length=at_+s.length+1+(Qo ls).length:=by rw[Wu];simp;omega
  have aj:x.2.drop (at_+s.length+1)=Qo ls:=by
   rw[show at_+s.length+1=at_+(s++ [10]).length by simp;omega,<-oG,Xy,rB]
  have kQr:10∉s:=hL0 s (by simp);have ih:=λk op g g' h1 h2 h3=>Sh (nm:=nm) (d0:=d0) hx hi ls (ln+1) (at_+s.length+1) k op g g' (λt ht=>hL0 t (by simp[ht])) aj (by omega) h1 h2 h3
  have cf:∀k' (g:Gs),mH n (at_+s.length+1) k' {g with fr:=true}:=λk' g h=>by cases h
  have Dp:ChA g.sg (at_+s.length+1):=Jy.mono (by omega);rw[ZS.eq_def] at hr;simp only at hr;rw[hu,fB.eq_def];simp only;cases X3:ZN s with
  | txt=>
   rw[X3] at hr;simp only at hr ⊢;cases ha:VZ (s++ [10]) n at_ k g with
   | none=>rw[ha] at hr;cases hr
   | some g1=>
    rw[ha] at hr;simp only at hr;obtain⟨i1,i2⟩:=Rn hg hc hx (by rw[hL,<-oF,aj];exact Xy) (by rw[hL];omega) (by simp) ha;obtain⟨j1,j2⟩:=ih k op g1 g' i1 (by rw[hL,<-oF] at i2;exact i2) (hQY hg hc Jy ha) hr;exact⟨by rw[j1,hQX hg hc kQr ha,Je];rfl,j2⟩
  | ifd r=>
   rw[X3] at hr;simp only at hr ⊢;cases hs:Yu nm r with
   | error e=>rw[hs] at hr;cases hr
   | ok d=>
    rw[hs] at hr;simp only at hr ⊢;split at hr
    ·cases hr
    ·exact ih _ _ _ _ (hg.fr true) (cf _ _) Dp hr
  | inc r=>
   rw[X3] at hr;simp only at hr;cases hs:inc r (ln+1) (d0+op.length) k g with
   | error e=>rw[hs] at hr;cases hr
   | ok g1=>exact Q8 hs (hi _ _ _ _ _ _)
  | elif r=>
   rw[X3] at hr;cases op with
   | nil=>cases hr
   | cons y op=>
    simp only at hr ⊢;split at hr
    ·cases hr
    ·cases hs:Yu nm r with
     | error e=>rw[hs] at hr;cases hr
     | ok d=>rw[hs] at hr;exact ih _ _ _ _ (hg.fr true) (cf _ _) Dp hr
  | els=>
   rw[X3] at hr;cases op with
   | nil=>cases hr
   | cons y op=>
    simp only at hr ⊢;split at hr
    ·cases hr
    ·exact ih y.re ({y with ot:=true}::op) {g with fr:=true} g' (hg.fr true) (cf _ _) Dp hr
  | en=>
   rw[X3] at hr;cases op with
   | nil=>cases hr
   | cons y op=>exact ih y.ou op {g with fr:=true} g' (hg.fr true) (cf _ _) Dp hr
def fF (t:List Nat):List (List Nat×List Nat):=[([102],t)]
theorem FX {rd s:List Nat}{e:Int}(t:List Nat)(h:0∈rd):∀m,cY (Jo ((fF t).map (·.1))) rd s≠ .ok m:=λm hm=>by
 obtain⟨h1,tn,yg⟩:=Fr hm;have:=j8 yg;have h0:m=0:=by simpa [fF] using this
 rw[h0] at h1;exact h1 h
theorem Si {nm:List (List Nat)}{t:List Nat}{g:Gs}(hr:Ww nm (fF t) [102]= .ok g):cd t/\kC g=fB nm (QT t) 0 (λ_=>true) []/\ChA g.sg t.length/\GInv (fF t) g:=by
 have lQs:=(gQF hr).1;unfold Ww at hr;split at hr
 ·cases hr
 cases K8:Wv (fF t)with
 | some p=>rw[K8] at hr;cases hr
 | none=>
  rw[K8] at hr;simp only at hr;have hall:∀x∈fF t,pw x.1=true/\aG x.2=true/\x.2.length<=1048576:=by
   unfold Wv at K8;rw[if_neg (by simp[fF])] at K8;exact Aq _ [] 0 K8
  have ht:cd t:=mF (hall _ (QL.2 rfl)).2.1;cases Kb:Jo ((fF t).map (·.1)) [102] with
  | none=>rw[Kb] at hr;cases hr
  | some n=>
   rw[Kb] at hr;simp only at hr;have hn:n<(fF t).length:=by have:=j8 Kb;simpa using this
   have h0:n=0:=by simpa [fF] using hn
   subst h0;have hx:(fF t)[0]? =some ([102],t):=rfl;rw[aF,hx] at hr;simp only[yJ,iu] at hr;obtain⟨a,b⟩:=Sh hx (λr ln d' k' g1 g2 hi=>by
    split at hi
    ·cases hi
    ·rename_i m he;exact FX t (by simp) (e:=0) _ he) (QT t) 0 0 (λ_=>true) [] ⟨[],[],true⟩ g (mv t) (by rw[rz,W6 ht]) (XJ _) (⟨rfl,λs hs=>by cases hs⟩:GInv (fF t) ⟨[],[],true⟩) (λh=>by cases h) trivial hr
   rw[W6 ht,bQ] at b;exact⟨ht,a,b,lQs⟩
structure Ed where
 fr:Int
 to_:Int
 tx:List Nat
 o:BF
structure EdV where
 fr:Int
 to_:Int
 tx:List Nat
 x:DV
def EdV.ed (e:EdV):Ed:=⟨e.fr,e.to_,e.tx,oD e.x⟩
def J1 (f:List Nat)(a b:Nat):List Nat:=(f.drop a).take (b-a)
def Yv (f:List Nat)(c:Nat)(st:List Nat×Nat)(e:Ed):List Nat×Nat:=
 if e.o (bits c)=true then(st.1++J1 f st.2 e.fr.toNat++e.tx,e.to_.toNat)else st
def bz (f:List Nat)(stop:Nat)(a:Nat)(es:List Ed)(c:Nat):List Nat:=
 (es.foldl (Yv f c) ([],a)).1++J1 f (es.foldl (Yv f c) ([],a)).2 stop
def pJ (a:Nat)(s:List Nat)(e:Ed):Bool:=decide ((a:Int)<=e.fr/\e.to_<=a+s.length)
def af (S:List Nat)(o:BF):Bool:=S.any (λc=>o (bits c))
def gA (es:List Ed)(S:List Nat)(a:Nat)(s:List Nat):List Ed:=es.filter (λe=>pJ a s e&&af S e.o)
def iS (S:List Nat)(e b:Ed):Bool:= !(decide (b.fr<e.to_)&&af S (λv=>e.o v&&b.o v))
def d5 (S:List Nat):List Ed->Bool
 | []=>true
 | e::es=>es.all (iS S e)&&d5 S es
def fC (nm:List (List Nat))(f:List Nat)(es:List Ed)(S:List Nat)(a:Nat)(s:List Nat):Option (List (List Nat)):=
 if gA es S a s=[] then some [s]
 else if d5 S (gA es S a s)=false then none
 else if S.all (λc=>Ve (bz f (a+s.length+1) a (gA es S a s) c))=false then none
 else some (XV nm (bz f (a+s.length+1) a (gA es S a s)) nm.length 0 S)
def sZ (g:Gs)(a:Nat):BF:=((g.sg.find? (λs=>decide (a<s.at_+(s.t-s.f)))).map (·.o)).getD (λ_=>false)
def d6 (nm:List (List Nat))(d:BF)(g:Gs)(f:List Nat)(es:List Ed):List (List Nat)->Nat->Option (List (List Nat))
 | [],_=>some []
 | s::ls,a=>match (if ZN s= .txt then fC nm f es (QF nm.length (JE d (sZ g a))) a s else some [s])with
  | none=>none
  | some l=>match d6 nm d g f es ls (a+s.length+1)with
   | none=>none
   | some m=>some (l++m)
def iT (e:Ed)(q:Nat×List Nat):Bool:=decide ((q.1:Int)<=e.fr/\e.to_<=q.1+q.2.length/\e.fr<=e.to_/\ZN q.2= .txt)
def FY (n:Nat)(f:List Nat)(e:Ed):Bool:=decide (QF n e.o≠ [])&&(Jv 0 (QT f)).any (iT e)
def kD (n:Nat)(f:List Nat):Int->List Ed->Bool
 | _,[]=>true
 | p,e::es=>FY n f e&&decide (p<=e.fr)&&kD n f e.fr es
def FZ (
      nm:List (List Nat)) (o:BF) (f:List Nat) (es:List Ed):Except Int (List Nat):=
 match Ww nm (fF f) [102] with
  | .error p=>.error p.e
  | .ok g=>if kD nm.length f 0 es=false then .error 291
   else match d6 nm o g f es (QT f) 0 with
    | none=>.error 291
    | some l=>if 1048576<(Qo l).length then .error 2
     else match Ww nm (fF (Qo l)) [102] with
      | .error p=>if p.e=2 then .error 2 else .ok (Qo l)
      | .ok _=>.ok (Qo l)
noncomputable def s6 (nm:List (List Nat))(x:DV)(f:List Nat)(es:List EdV):Except Int (List Nat):=
 if ZM nm=false∨Kk nm.length x.nd x.r=false then .error 1
 else if es.all (λe=>Kk nm.length e.x.nd e.x.r)=true then FZ nm (oD x) f (es.map EdV.ed)
 else match Ww nm (fF f) [102] with
  | .error p=>.error p.e
  | .ok _=>.error 291
theorem hQZ {g:Gs}{a:Nat}{s:List Nat}{k:BF}(h:(a,s,k)∈kC g):∃x∈g.sg,x.o=k/\(a,s)∈Jv x.at_ (QT (ac g.tx x)):=by
 obtain⟨x,hx,hm⟩:=ga.1 h;obtain⟨q,hq,e⟩:=Z4.1 hm;simp only[Prod.mk.injEq] at e;obtain⟨e1,e2,e3⟩:=e;refine⟨x,hx,e3,?_⟩;rw[<-e1,<-e2];exact hq
theorem mL:∀{ls:List (List Nat)}{p a:Nat}{s:List Nat},(a,s)∈Jv p ls->p<=a/\a+s.length+1<=p+(Qo ls).length
 | [],p,a,s,h=>by cases h
 | t::ls,p,a,s,h=>by
  rw[Wu];simp only[Qu,Xj];rcases QZ.1 h with h | h
  ·cases h;omega
  ·have:=mL h;omega
theorem ChA.later {x y:Sg}{p:Nat}:∀{l:List Sg}{i j:Nat},ChA l p->l[i]? =some x->l[j]? =some y->i<j->x.at_+(x.t-x.f)<=y.at_
 | [],i,j,_,h,_,_=>by simp at h
 | z::l,i,j+1,⟨h1,h2,h3⟩,hi,hj,Xc=>by
  have fR:l[j]? =some y:=by simpa using hj
  cases i with
  | zero=>
   have:z=x:=by simpa using hi
   subst this;exact h1 y (QO fR)
  | succ i=>exact ChA.later h3 (by simpa using hi) fR (by omega)
 | z::l,i,0,_,_,_,Xc=>by omega
structure SegAt (g:Gs) (a:Nat) (k:BF) (i:Nat) (x:Sg):Prop where
 get:g.sg[i]? =some x
 lo:x.at_<=a
 hi:a<x.at_+(x.t-x.f)
 o:x.o=k
 first:∀j y,g.sg[j]? =some y->j<i->y.at_+(y.t-y.f)<=a
 last:∀j y,g.sg[j]? =some y->i<j->a<y.at_
theorem hQ1 {fs:List (List Nat×List Nat)}{g:Gs}{p a:Nat}{s:List Nat}{k:BF}(hi:GInv fs g)(hc:ChA g.sg p)(h:(a,s,k)∈kC g):∃i x,SegAt g a k i x/\a+s.length+1<=x.at_+(x.t-x.f):=by
 obtain⟨x,hx,hk,hm⟩:=hQZ h;obtain⟨i,ig⟩:=ff.1 hx;have hp:=Sf (hi.ok x hx);have ho:=mL hm;rw[W6 hp.1,hp.2] at ho;refine⟨i,x,⟨ig,ho.1,by omega,hk,λj y hj Xc=>?_,λj y hj Xc=>?_⟩,ho.2⟩
 ·have:=hc.later hj ig Xc;omega
 ·have:=hc.later ig hj Xc;omega
theorem Sj {α:Type}{p:α->Bool}:∀{l:List α}{i:Nat}{x:α},l[i]? =some x->p x=true->(∀j y,l[j]? =some y->j<i->p y=false)->l.find? p=some x
 | [],i,x,h,_,_=>by simp at h
 | y::l,0,x,h,hp,_=>by
  have:y=x:=by simpa using h
  subst this;rw[aQ1 hp]
 | y::l,i+1,x,h,hp,hj=>by
  rw[DI (by rw[hj 0 y rfl (by omega)];decide)];exact Sj (by simpa using h) hp (λj z hz Xc=>hj (j+1) z (by simpa using hz) (by omega))
theorem SegAt.cnd {g:Gs}{a:Nat}{k:BF}{i:Nat}{x:Sg}(h:SegAt g a k i x):sZ g a=k:=by
 unfold sZ;rw[Sj (p:=λs:Sg=>decide (a<s.at_+(s.t-s.f))) h.get (XR h.hi) (λj y hj Xc=>X4 (by have:=h.first j y hj Xc;omega))];exact h.o
theorem Sk:∀{ls:List (List Nat)}{p a:Nat}{s:List Nat},(a,s)∈Jv p ls->∃i,ls[i]? =some s/\a=p+(Qo (ls.take i)).length
 | [],p,a,s,h=>by cases h
 | t::ls,p,a,s,h=>by
  rcases QZ.1 h with h | h
  ·cases h;exact⟨0,rfl,by simp[Qo]⟩
  ·obtain⟨i,h1,h2⟩:=Sk h;refine⟨i+1,by simpa using h1,?_⟩;rw[jx,Wu];simp only[Qu,Xj];omega
theorem Sm:∀{ls:List (List Nat)}{p a b:Nat}{s t:List Nat}{x:Nat},(a,s)∈Jv p ls->(b,t)∈Jv p ls->a<=x->x<=a+s.length->b<=x->x<=b+t.length->a=b/\s=t
 | [],p,a,b,s,t,x,h,_,_,_,_,_=>by cases h
 | u::ls,p,a,b,s,t,x,h,h',h1,h2,h3,h4=>by
  rcases QZ.1 h with h | h
  ·cases h;rcases QZ.1 h' with h' | h'
   ·cases h';exact⟨rfl,rfl⟩
   ·have:=mL h';omega
  ·rcases QZ.1 h' with h' | h'
   ·cases h';have:=mL h;omega
   ·exact Sm h h' h1 h2 h3 h4
theorem F0:∀{ls:List (List Nat)}{p x:Nat},p<=x->x<p+(Qo ls).length->∃a s,(a,s)∈Jv p ls/\a<=x/\x<=a+s.length
 | [],p,x,h1,h2=>by simp[Qo] at h2;omega
 | t::ls,p,x,h1,h2=>by
  rw[Wu] at h2;simp only[Qu,Xj] at h2;by_cases h:x<=p+t.length
  ·exact⟨p,t,MD,h1,h⟩
  ·obtain⟨a,s,hm,h3,h4⟩:=F0 (ls:=ls) (p:=p+t.length+1) (x:=x) (by omega) (by omega);exact⟨a,s,uH _ hm,h3,h4⟩
theorem So {ls:List (List Nat)}{a:Nat}{s:List Nat}{e:Ed}(hm:(a,s)∈Jv 0 ls)(h1:(a:Int)<=e.fr)(h2:e.fr<=a+s.length)(h3:e.fr<=e.to_):
  (Jv 0 ls).any (iT e)=decide (e.to_<=a+s.length/\ZN s= .txt):=by
 by_cases h:e.to_<=a+s.length/\ZN s= .txt
 ·rw[XR h];exact uI.2 ⟨(a,s),hm,XR ⟨h1,h.1,h3,h.2⟩⟩
 ·rw[X4 h];refine dK.2 (λha=>?_);obtain⟨⟨b,t⟩,hb,hp⟩:=uI.1 ha;have hp:=a8 hp;obtain⟨p1,p2,p3,p4⟩:=hp;simp only at p1 p2 p3 p4;obtain⟨x,hx⟩:=DP (a:=e.fr) (by omega);obtain⟨q1,q2⟩:=Sm (x:=x) hm hb (by omega) (by omega) (by omega) (by omega);subst q1;subst q2;exact h ⟨p2,p4⟩
theorem vW {nm:List (List Nat)}{f g:Nat->List Nat}:∀(k v:Nat)(l:List Nat),l≠ []->(∀c∈l,f c=g c)->XV nm f k v l=XV nm g k v l
 | 0,v,l,hl,h=>by rw[XV,XV,h _ (sS hl)]
 | k+1,v,l,hl,h=>by
  rw[pF hl,pF hl];split
  ·exact vW k (v+1) l hl h
  ·rename_i h0;have n1:l.filter (λc=> !c.testBit v)≠ []:=λe=>h0 (.inl e)
   have n2:l.filter (λc=>c.testBit v)≠ []:=λe=>h0 (.inr e)
   rw[vW k (v+1) _ n1 (λc hc=>h c (JZ.1 hc).1),vW k (v+1) _ n2 (λc hc=>h c (JZ.1 hc).1)]
structure AV where
 o:BF
 d:List Nat
 a:Nat
def V4 (n:Nat)(f:List Nat)(e:Ed)(v:AV):List AV:=
 if QF n (JE v.o e.o)=[] then(if QF n v.o=[] then [] else [v])
 else⟨JE v.o e.o,v.d++J1 f v.a e.fr.toNat++e.tx,e.to_.toNat⟩::(if QF n (Yk v.o (JE v.o e.o))=[] then [] else [⟨Yk v.o (JE v.o e.o),v.d,v.a⟩])
structure VI (n:Nat) (f:List Nat) (S:List Nat) (a:Nat) (es:List Ed) (vs:List AV):Prop where
 cov:∀c∈S,∃v∈vs,v.o (bits c)=true
 ne:∀v∈vs,QF n v.o≠ []
 st:∀v∈vs,∀c∈QF n v.o,c∈S/\es.foldl (Yv f c) ([],a)=(v.d,v.a)
theorem VI.start {n:Nat}{f:List Nat}{o:BF}{a:Nat}(h:QF n o≠ []):VI n f (QF n o) a [] [⟨o,[],a⟩]:=
 ⟨λc hc=>⟨_,QL.2 rfl,(Z7.1 hc).2⟩,λv hv=>by rw[QL.1 hv];exact h,λv hv c hc=>by rw[QL.1 hv] at hc ⊢;exact⟨hc,rfl⟩⟩
theorem VI.step {n:Nat}{f:List Nat}{S:List Nat}{a:Nat}{es:List Ed}{vs:List AV}(h:VI n f S a es vs)(hS:∀c∈S,c<2^n)(e:Ed):VI n f S a (es++ [e]) (vs.flatMap (V4 n f e)):=by
 have lQt:∀c,(es++ [e]).foldl (Yv f c) ([],a)=Yv f c (es.foldl (Yv f c) ([],a)) e:=λc=>by rw[MC]<;>rfl
 refine⟨λc hc=>?_,λv hv=>?_,λv hv c hc=>?_⟩
 ·obtain⟨v,hv,oA⟩:=h.cov c hc;have Lz:=hS c hc;have hm:c∈QF n v.o:=Z7.2 ⟨Lz,oA⟩;by_cases hb:QF n (JE v.o e.o)=[]
  ·refine⟨v,ga.2 ⟨v,hv,?_⟩,oA⟩;unfold V4;rw[Qf hb,if_neg (λe0=>by rw[e0] at hm;cases hm)];exact QL.2 rfl
  ·cases uy:e.o (bits c)with
   | true=>
    refine⟨⟨JE v.o e.o,v.d++J1 f v.a e.fr.toNat++e.tx,e.to_.toNat⟩,ga.2 ⟨v,hv,?_⟩,?_⟩
    ·unfold V4;rw[if_neg hb];exact MD
    ·show(v.o (bits c)&&e.o (bits c))=true;rw[oA,uy]<;>rfl
   | false=>
    have qQ:(Yk v.o (JE v.o e.o)) (bits c)=true:=by
     show(v.o (bits c) && !(v.o (bits c)&&e.o (bits c)))=true;rw[oA,uy]<;>rfl
    refine⟨⟨Yk v.o (JE v.o e.o),v.d,v.a⟩,ga.2 ⟨v,hv,?_⟩,qQ⟩;unfold V4;rw[if_neg hb,if_neg (λe0=>by
     have:c∈QF n (Yk v.o (JE v.o e.o)):=Z7.2 ⟨Lz,qQ⟩;rw[e0] at this;cases this)]
    simp
 ·obtain⟨v0,eu,hv⟩:=ga.1 hv;unfold V4 at hv;split at hv
  ·split at hv
   ·cases hv
   ·rename_i h1;rw[QL.1 hv];exact h1
  ·rename_i h1;rcases QZ.1 hv with rfl | hv
   ·exact h1
   ·split at hv
    ·cases hv
    ·rename_i h2;rw[QL.1 hv];exact h2
 ·obtain⟨v0,eu,hv⟩:=ga.1 hv;rw[lQt];unfold V4 at hv;split at hv
  ·rename_i h1;split at hv
   ·cases hv
   ·rw[QL.1 hv] at hc ⊢;obtain⟨q1,q2⟩:=h.st v0 eu c hc;refine⟨q1,?_⟩;rw[q2];unfold Yv;rw[if_neg];intro uy;have:c∈QF n (JE v0.o e.o):=Z7.2 ⟨(Z7.1 hc).1,by show(v0.o (bits c)&&e.o (bits c))=true;rw[show v0.o (bits c)=true from (Z7.1 hc).2,uy];rfl⟩;rw[h1] at this;cases this
  ·rcases QZ.1 hv with rfl | hv
   ·obtain⟨c1,c2⟩:=Z7.1 hc;have c2:(v0.o (bits c)&&e.o (bits c))=true:=c2;rw[JL] at c2;obtain⟨q1,q2⟩:=h.st v0 eu c (Z7.2 ⟨c1,c2.1⟩);refine⟨q1,?_⟩;rw[q2];unfold Yv;rw[Qf c2.2]
   ·split at hv
    ·cases hv
    ·rw[QL.1 hv] at hc ⊢;obtain⟨c1,c2⟩:=Z7.1 hc;have c2:(v0.o (bits c) && !(v0.o (bits c)&&e.o (bits c)))=true:=c2;have c3:v0.o (bits c)=true/\e.o (bits c)=false:=by
      cases h1:v0.o (bits c)<;>cases h2:e.o (bits c)<;>rw[h1,h2] at c2<;>simp_all
     obtain⟨q1,q2⟩:=h.st v0 eu c (Z7.2 ⟨c1,c3.1⟩);refine⟨q1,?_⟩;rw[q2];unfold Yv;rw[if_neg (by rw[c3.2];decide)]
theorem Sp (f:List Nat)(c:Nat):∀(es:List Ed)(st:List Nat×Nat),(es.foldl (Yv f c) st).2=st.2∨∃e∈es,e.o (bits c)=true/\(es.foldl (Yv f c) st).2=e.to_.toNat
 | [],st=>.inl rfl
 | e::es,st=>by
  rw[yE];rcases Sp f c es (Yv f c st e)with h | ⟨b,hb,h1,h2⟩
  ·by_cases he:e.o (bits c)=true
   ·refine .inr ⟨e,by simp,he,?_⟩;rw[h];unfold Yv;rw[Qf he]
   ·refine .inl ?_;rw[h];unfold Yv;rw[if_neg he]
  ·exact .inr ⟨b,by simp[hb],h1,h2⟩
theorem Sq {S:List Nat}:∀{es:List Ed}{i j:Nat}{e b:Ed},d5 S es=true->es[i]? =some e->es[j]? =some b->i<j->iS S e b=true
 | [],i,j,e,b,_,h,_,_=>by simp at h
 | x::es,i,j+1,e,b,ha,hi,hj,Xc=>by
  rw[d5,JL,Y2] at ha;have fR:es[j]? =some b:=by simpa using hj
  cases i with
  | zero=>
   have:x=e:=by simpa using hi
   subst this;exact ha.1 b (QO fR)
  | succ i=>exact Sq ha.2 (by simpa using hi) fR (by omega)
 | x::es,i,0,e,b,_,_,_,Xc=>by omega
theorem hQ2 {f:List Nat}{S:List Nat}{es:List Ed}(ha:d5 S es=true){a i c:Nat}{e:Ed}(hi:es[i]? =some e)(hc:c∈S)(uy:e.o (bits c)=true)(h0:(a:Int)<=e.fr)(hp:∀b∈es,0<=b.to_):
  (((es.take i).foldl (Yv f c) ([],a)).2:Int)<=e.fr:=by
 rcases Sp f c (es.take i) ([],a)with h | ⟨b,hb,h1,h2⟩
 ·rw[h];exact h0
 ·rw[h2];obtain⟨j,hj⟩:=ff.1 hb;have KT:j<i:=by
   apply Classical.byContradiction;intro hh;rw[Dx] at hj;rw[if_neg hh] at hj;cases hj
  rw[uB KT] at hj;have:=Sq ha hj hi KT;unfold iS at this;have hm:af S (λv=>b.o v&&e.o v)=true:=uI.2 ⟨c,hc,by show(b.o (bits c)&&e.o (bits c))=true;rw[h1,uy];rfl⟩;rw[hm,Bool.and_true,Bool.not_eq_true',decide_eq_false_iff_not] at this;have:=hp b (QO hj);omega
def Vp (ps:List Pr)(t:List Nat):Nat:=(ps.takeWhile (λp=>decide (p.t≠t))).length
def cm (ps:List Pr)(o:BF)(t:List Nat):List Pr:=match ps[Vp ps t]? with
 | some p=>ps.set (Vp ps t) ⟨λe=>p.o e||o e,p.t⟩
 | none=>ps++ [⟨o,t⟩]
theorem hQ3 (ps:List Pr)(t:List Nat):Vp ps t<=ps.length:=(DD _).length_le
theorem vX (t:List Nat):∀ps:List Pr,(∀p,ps[Vp ps t]? =some p->p.t=t)/\∀j p,ps[j]? =some p->j<Vp ps t->p.t≠t
 | []=>⟨λp h=>by simp at h,λj p h=>by simp at h⟩
 | q::ps=>by
  obtain⟨h1,h2⟩:=vX t ps;by_cases hq:q.t=t
  ·have e:Vp (q::ps) t=0:=by unfold Vp;rw[List.takeWhile_cons_of_neg (by simpa using hq)]<;>rfl
   rw[e];exact⟨λp h=>by
              have:q=p:=by simpa using h
              rw[<-this];exact hq,λj p _ hj=>by omega⟩
  ·have e:Vp (q::ps) t=Vp ps t+1:=by unfold Vp;rw[List.takeWhile_cons_of_pos (by simpa using hq)]<;>rfl
   rw[e];refine⟨λp h=>h1 p (by simpa using h),λj p h hj=>?_⟩;cases j with
   | zero=>
        have:q=p:=by simpa using h
        rw[<-this];exact hq
   | succ j=>exact h2 j p (by simpa using h) (by omega)
structure QI (n:Nat) (S:List Nat) (ver:Nat->List Nat) (vs:List AV) (ps:List Pr):Prop where
 cov:∀v∈vs,∀c∈QF n v.o,∃p∈ps,p.o (bits c)=true
 tx:∀(i j:Nat) (p q:Pr),ps[i]? =some p->ps[j]? =some q->p.t=q.t->i=j
 val:∀p∈ps,∀c∈QF n p.o,c∈S/\p.t=ver c
theorem QI.nil {n:Nat}{S:List Nat}{ver:Nat->List Nat}:QI n S ver [] []:=⟨(λv hv=>by cases hv),(λi j p q h=>by simp at h),(λp hp=>by cases hp)⟩
theorem QI.ins {n:Nat}{S:List Nat}{ver:Nat->List Nat}{vs:List AV}{ps:List Pr}(h:QI n S ver vs ps){v:AV}{t:List Nat}(hv:∀c∈QF n v.o,c∈S/\ver c=t):QI n S ver (vs++ [v]) (cm ps v.o t):=by
 obtain⟨s1,s2⟩:=vX t ps;unfold cm;cases hg:ps[Vp ps t]? with
 | none=>
  have ZO:=DQ.1 hg;simp only;refine⟨λu hu c hc=>?_,λi j p q hi hj he=>?_,λp hp c hc=>?_⟩
  ·rcases Xw.1 hu with hu | hu
   ·obtain⟨p,hp,Kp⟩:=h.cov u hu c hc;exact⟨p,by simp[hp],Kp⟩
   ·rw[QL.1 hu] at hc;exact⟨⟨v.o,t⟩,by simp,(Z7.1 hc).2⟩
  ·have key:∀i (p:Pr),(ps++ [⟨v.o,t⟩])[i]? =some p->(ps[i]? =some p/\i<ps.length)∨(i=ps.length/\p.t=t):=λi p hi=>by
    by_cases Xc:i<ps.length
    ·rw[Wh Xc] at hi;exact .inl ⟨hi,Xc⟩
    ·rw[YI (by omega)] at hi;have:=(Z0.1 hi).1;simp at this;have e:i=ps.length:=by omega
     subst e;simp at hi;exact .inr ⟨rfl,by rw[<-hi]⟩
   rcases key i p hi with⟨h1,l1⟩ | ⟨h1,t1⟩<;>rcases key j q hj with⟨h2,l2⟩ | ⟨h2,t2⟩
   ·exact h.tx i j p q h1 h2 he
   ·exact Q8 (he.trans t2) (s2 i p h1 (by omega))
   ·exact Q8 (he.symm.trans t1) (s2 j q h2 (by omega))
   ·omega
  ·rcases Xw.1 hp with hp | hp
   ·exact h.val p hp c hc
   ·rw[QL.1 hp] at hc ⊢;obtain⟨a,b⟩:=hv c hc;exact⟨a,b.symm⟩
 | some p0=>
  have ht:=s1 p0 hg;have Xc:=(Z0.1 hg).1;simp only;generalize Vp ps t=i0 at*;have key:∀i (p:Pr),(ps.set i0 ⟨λe=>p0.o e||v.o e,p0.t⟩)[i]? =some p->(i≠i0/\ps[i]? =some p)∨(i=i0/\p=⟨λe=>p0.o e||v.o e,p0.t⟩):=λi p hi=>by
   by_cases uz:i0=i
   ·subst uz;rw[iv Xc] at hi;exact .inr ⟨rfl,(Option.some.inj hi).symm⟩
   ·rw[fd uz] at hi;exact .inl ⟨λe=>uz e.symm,hi⟩
  refine⟨λu hu c hc=>?_,λi j p q hi hj he=>?_,λp hp c hc=>?_⟩
  ·rcases Xw.1 hu with hu | hu
   ·obtain⟨p,hp,Kp⟩:=h.cov u hu c hc;obtain⟨i,hi⟩:=ff.1 hp;by_cases uz:i0=i
    ·subst uz;rw[hg] at hi;cases hi;exact⟨_,QO (iv Xc),by simp only;rw[Kp];rfl⟩
    ·exact⟨p,QO (i:=i) (by rw[fd uz];exact hi),Kp⟩
   ·rw[QL.1 hu] at hc;refine⟨_,QO (iv Xc),?_⟩;simp only;rw[show v.o (bits c)=true from (Z7.1 hc).2,Bool.or_true]
  ·rcases key i p hi with⟨n1,h1⟩ | ⟨h1,e1⟩<;>rcases key j q hj with⟨n2,h2⟩ | ⟨h2,e2⟩
   ·exact h.tx i j p q h1 h2 he
   ·rw[h2];exact h.tx i i0 p p0 h1 hg (by rw[he,e2])
   ·rw[h1];exact h.tx i0 j p0 q hg h2 (by rw[<-he,e1])
   ·omega
  ·obtain⟨i,hi⟩:=ff.1 hp;rcases key i p hi with⟨_,h1⟩ | ⟨_,e1⟩
   ·exact h.val p (QO h1) c hc
   ·subst e1;obtain⟨c1,c2⟩:=Z7.1 hc;have c2:(p0.o (bits c)||v.o (bits c))=true:=c2;rw[Bool.or_eq_true] at c2;rcases c2 with c2 | c2
    ·exact h.val p0 (QO hg) c (Z7.2 ⟨c1,c2⟩)
    ·obtain⟨a,b⟩:=hv c (Z7.2 ⟨c1,c2⟩);exact⟨a,by rw[b];exact ht⟩
theorem QI.pa {n:Nat}{f:List Nat}{S:List Nat}{a:Nat}{es:List Ed}{ver:Nat->List Nat}{vs:List AV}{ps:List Pr}(h:QI n S ver vs ps)(hv:VI n f S a es vs)(hS:∀c∈S,c<2^n):PaOk S ps/\∀c∈S,fP ps c=ver c:=by
 have hp:PaOk S ps:=by
  refine⟨λc hc=>?_,λc hc i j p q hi hj h1 h2=>?_⟩
  ·obtain⟨v,lI,oA⟩:=hv.cov c hc;exact h.cov v lI c (Z7.2 ⟨hS c hc,oA⟩)
  ·refine h.tx i j p q hi hj ?_;rw[(h.val p (QO hi) c (Z7.2 ⟨hS c hc,h1⟩)).2,(h.val q (QO hj) c (Z7.2 ⟨hS c hc,h2⟩)).2]
 refine⟨hp,λc hc=>?_⟩;obtain⟨p,cA,Kp⟩:=hp.cov c hc;rw[hp.get hc cA Kp,(h.val p cA c (Z7.2 ⟨hS c hc,Kp⟩)).2]
def pK (n:Nat):List Nat->List Pr->Bool
 | R,[]=>decide (R=[])
 | R,p::ps=>(decide (QF n p.o≠ [])&&(QF n p.o).all (λc=>decide (c∈R))&&Ve p.t)&&pK n (gz n R p.o) ps
def d7 (nm:List (List Nat))(o:BF)(ps:List Pr):Except Int (List Nat):=
 if pK nm.length (QF nm.length o) ps=false then .error 290
 else if ps=[] then .ok []
 else if 1048576<(Qo (XV nm (fP ps) nm.length 0 (QF nm.length o))).length then .error 2
 else .ok (Qo (XV nm (fP ps) nm.length 0 (QF nm.length o)))
theorem Sr {n:Nat}:∀(ps:List (DV×List Nat))(R:List Nat),(∀p∈ps,Kk n p.1.nd p.1.r=true)->ae n R ps=pK n R (Zn ps)
 | [],R,_=>rfl
 | p::ps,R,h=>by
  have ih:=Sr ps (gz n R (oD p.1)) (λq hq=>h q (by simp[hq]));show(_&&ae n (gz n R (oD p.1)) ps)=_;rw[ih,h p (by simp),dH]<;>rfl
theorem F3 {nm:List (List Nat)}{x:DV}{ps:List (DV×List Nat)}(hn:ZM nm=true)(hx:Kk nm.length x.nd x.r=true)(h:∀p∈ps,Kk nm.length p.1.nd p.1.r=true):kx nm x ps=d7 nm (oD x) (Zn ps):=by
 unfold kx d7;rw[if_neg (by rw[hn,hx];simp),Sr ps _ h];by_cases h0:ps=[]
 ·subst h0;rfl
 ·have h1:Zn ps≠ []:=λe=>h0 (by simpa [Zn] using e)
  rw[if_neg h0,if_neg h1]
def PrM (n:Nat):List Pr->List Pt->Prop
 | [],[]=>True
 | q::qs,p::ps=>(q.t=Qo p.2/\∀c,c<2^n->q.o (bits c)=decide (c∈p.1))/\PrM n qs ps
 | _,_=>False
theorem Ss {n:Nat}:∀{qs:List Pr}{ps:List Pt}{R:List Nat},PrM n qs ps->(∀c∈R,c<2^n)->(∀p∈ps,p.1≠ []/\Ve (Qo p.2)=true/\∀c∈p.1,c∈R)->(∀c∈R,∃p∈ps,c∈p.1)->
  (∀(i j:Nat) (p q:Pt) (c:Nat),ps[i]? =some p->ps[j]? =some q->c∈p.1->c∈q.1->i=j)->pK n R qs=true
 | [],[],R,_,_,_,hc,_=>by
  cases R with
  | nil=>rfl
  | cons c R=>obtain⟨p,hp,_⟩:=hc c (by simp);cases hp
 | q::qs,p::ps,R,⟨⟨h1,h2⟩,hm⟩,hR,hp,hc,hd=>by
  obtain⟨p1,p2,p3⟩:=hp p (by simp);have K7:∀c,c∈QF n q.o↔c∈p.1:=λc=>by
   rw[Z7];constructor
   ·rintro⟨a,b⟩;have:=h2 c a;rw[show q.o (bits c)=true from b] at this;exact a8 this.symm
   ·intro a;have KK:=hR c (p3 c a);exact⟨KK,by show q.o (bits c)=true;rw[h2 c KK,XR a]⟩
  have ih:=Ss (R:=gz n R q.o) hm (λc cB=>hR c (JZ.1 cB).1) (λu hu=>by
   obtain⟨u1,u2,u3⟩:=hp u (by simp[hu]);refine⟨u1,u2,λc lJ=>JZ.2 ⟨u3 c lJ,?_⟩⟩;have LG:=u3 c lJ;obtain⟨j,hj⟩:=ff.1 hu;have Li:c∉p.1:=λyx=>by
    have:=hd 0 (j+1) p u c rfl (by simpa using hj) yx lJ;omega
   rw[h2 c (hR c LG),X4 Li];rfl) (λc cB=>by
   obtain⟨a,b⟩:=JZ.1 cB;obtain⟨u,hu,lJ⟩:=hc c a;rcases QZ.1 hu with rfl | hu
   ·rw[h2 c (hR c a),XR lJ] at b;cases b
   ·exact⟨u,hu,lJ⟩) (λi j u v c hi hj hu hv=>by
   have:=hd (i+1) (j+1) u v c (by simpa using hi) (by simpa using hj) hu hv;omega)
  rw[pK,ih,Bool.and_true,JL,JL];refine⟨⟨XR (λe=>?_),Y2.2 (λc cB=>XR (p3 c ((K7 c).1 cB)))⟩,by rw[h1];exact p2⟩;obtain⟨c,yx⟩:=lQ _ p1;have:=(K7 c).2 yx;rw[e] at this;cases this
theorem St {n:Nat}{f:Nat->List (List Nat)}{S:List Nat}(hS:∀c∈S,c<2^n):∀{qs:List Pr}{ps:List Pt},PrM n qs ps->(∀p∈ps,∀c∈p.1,f c=p.2)->∀c∈S,(∃p∈ps,c∈p.1)->fP qs c=Qo (f c)
 | [],[],_,_,c,_,⟨p,hp,_⟩=>by cases hp
 | q::qs,p::ps,⟨⟨h1,h2⟩,hm⟩,ht,c,hc,fM=>by
  unfold fP;cases hq:q.o (bits c)with
  | true=>
   rw[aQ1 (by exact hq)];have:=h2 c (hS c hc);rw[hq] at this;have yx:=a8 this.symm;show q.t=_;rw[h1,ht p (by simp) c yx]
  | false=>
   rw[DI (by rw[hq];decide)];refine St hS hm (λu hu=>ht u (by simp[hu])) c hc ?_;obtain⟨u,hu,lJ⟩:=fM;rcases QZ.1 hu with rfl | hu
   ·have:=h2 c (hS c hc);rw[hq,XR lJ] at this;cases this
   ·exact⟨u,hu,lJ⟩
theorem hQ6 {nm:List (List Nat)}{o:BF}{f:Nat->List (List Nat)}{qs:List Pr}{ps:List Pt}(hm:PrM nm.length qs ps)(hp:PtOk f (QF nm.length o) ps)(Jq:∀c,Ve (Qo (f c))=true)(QQ:QF nm.length o≠ [])
  (Xd:(Qo (XV nm (λc=>Qo (f c)) nm.length 0 (QF nm.length o))).length<=1048576):
  d7 nm o qs= .ok (Qo (XV nm (λc=>Qo (f c)) nm.length 0 (QF nm.length o))):=by
 have hS:∀c∈QF nm.length o,c<2^nm.length:=λc hc=>(Z7.1 hc).1
 have lH:pK nm.length (QF nm.length o) qs=true:=Ss hm hS (λp cA=>⟨hp.ne p cA,by
  obtain⟨c,hc⟩:=lQ _ (hp.ne p cA);rw[<-(hp.tx p cA c hc).2];exact Jq c,λc hc=>(hp.tx p cA c hc).1⟩) hp.cov hp.dj
 have hq:qs≠ []:=λe=>by
  subst e;have:=lH;rw[pK] at this;exact QQ (a8 this)
 have hw:=vW (nm:=nm) (f:=fP qs) (g:=λc=>Qo (f c)) nm.length 0 (QF nm.length o) QQ (λc hc=>St hS hm (λp cA c hc=>(hp.tx p cA c hc).2) c hc (hp.cov c hc));unfold d7;rw[if_neg (by rw[lH];decide),if_neg hq,hw,if_neg (by omega)]
def iU (k:Int):List PanicEntry:=[{v:=.iface 34 (.int .i64 k),recovered:=false}]
theorem Yw (k:Int)(hk:k≠0)(w:World):FnP Tryz.prog 44 [.int .i64 k] w (λ_ _=>False) (λch w'=>ch=iU k/\w=w'):=by
 refine aB (c:={Nm with cuts:=[]}) Qa Tryz.func44 rfl rfl rfl ?_;refine rL hk ?_;exact pf rfl rfl ⟨rfl,rfl⟩
theorem Su (A:Option Addr)(n c:Nat)(ls:List (List Nat))(w:World)(h:Sn w A n c (JG ls))(Xd:(Qo ls).length<=1000000000000000000):
  FnP Tryz.prog 50 [.slice A n c] w (λu w'=>(Qo ls).length<=1048576/\u= .string (Qe (Qo ls))/\Ext w w') (λch w'=>1048576<(Qo ls).length/\ch=iU 2/\w=w'):=by
 by_cases ZO:(Qo ls).length<=1048576
 ·exact(hQr A n c ls w h ZO).toP.mono (λv w' hh=>⟨ZO,hh.1,hh.2⟩) (λ_ _ hh=>hh)
 have hl:=iR h.1;have ly:=vy ls;refine aB (c:={Nn with cuts:=[]}) Qa Tryz.func50 rfl rfl rfl ?_;refine loop Qa [8,3] (λi:Nat=>[.int .i64 i,.int .i64 (Qo (ls.take i)).length]) (λi w'=>w=w'/\i<=n/\(Qo (ls.take i)).length<=1048576) (λi _=>n-i) 0 rfl ⟨rfl,XJ _,by simp[Qo]⟩ ?_;rintro i _ ⟨rfl,hi,hbd⟩;refine Qy (λc1=>?_) (λc1=>?_)
 ·have Xe:i<n:=by omega
  obtain⟨s,hs⟩:∃s,ls[i]? =some s:=⟨_,Xn (by omega)⟩
  have YX:ls.take (i+1)=ls.take i++ [s]:=by rw[VT,hs]<;>rfl
  have hu:=RT (ls.take i) s;rw[<-YX] at hu;have TD:(Qo (ls.take (i+1))).length<=(Qo ls).length:=by
   have e5:Qo ls=Qo (ls.take (i+1))++Qo (ls.drop (i+1)):=by
    have e6:∀a b:List (List Nat),Qo (a++b)=Qo a++Qo b:=λa b=>by simp[Qo]
    rw[<-e6,eZ]
   rw[e5,Qu];omega
  refine X5 h.1 Xe (λad u hA lA QE=>?_);rw[ZH hs] at lA;cases lA;refine load QE ?_;have Xu:=XF (s++ [10]);rw[Qu,oL] at Xu;refine Qi (((Qo (ls.take (i+1))).length:Nat):Int) (by rw[hu];omega) (by omega) ?_;refine Qy (λd1=>?_) (λd1=>?_)
  ·refine XO (Yw 2 (by decide) w) (λ_ _ hf=>hf.elim) ?_;rintro ch _ ⟨rfl,rfl⟩;exact⟨by omega,rfl,rfl⟩
  ·refine Qi ((i+1:Nat):Int) (by show((i:Nat):Int)+1=_;omega) (by omega) ?_;exact⟨i+1,rfl,⟨rfl,Xe,by omega⟩,by show n-(i+1)<n-i;omega⟩
 ·have:i=n:=by omega
  subst this;rw[Jm (by omega)] at hbd;exact Q8 hbd ZO
theorem hQ7 (nm:List (List Nat)):sG nm [] 1=if ZM nm=true then(Y5,0)else([],1):=by
 have h1:XG [] 1=0:=(br 0 true).chk (by decide);have h2:W5 [] 1=(X0 (.c true) 0,0):=by
  rw[Pb h1];have e:cf [] 1= .c true:=rfl;rw[e,if_neg (by decide)]
 unfold sG;rw[h2];by_cases h:ZM nm=true
 ·rw[Qf h,Qf h,Qf rfl,Oh h (O4 (show VarsIn 64 (.c true) from trivial) (by decide)) (λx hx ho=>by
   rw[QL.1 hx] at ho;exact Q8 ho (by decide)),EV]
  rfl
 ·rw[if_neg h,if_neg h]
abbrev F4 (nm:List (List Nat))(x:DV):Prop:=ZM nm=true/\Kk nm.length x.nd x.r=true
theorem iQa {l:List Nat}{N:Nat}(hl:l=Nt.JR N)(hN:N<=4096):Nt.sY l=N/\Nt.kB l=true:=by
 have dD:N<4294967296^1024:=(show ∀k,0<k->N<4294967296^k from λk p=>VQ (show N<4294967296^1 by omega) (Wl (by decide) p)) 1024 (by decide);have Xd:(Nt.JR N).length<=2:=(Nt.FN N 2).2 (by omega);obtain⟨e1,e2⟩:=Nt.R9 (l:=l) (by rw[hl];exact Nt.sX dD) (by rw[hl];exact Xd);exact⟨by rw[e1,hl,Nt.pH],e2⟩
theorem Sv (NA:Option Addr)(nn nc:Nat)(nm:List (List Nat))(x:DV)(aQb:nm.length<=12)(VO:Ks nm)(w:World)(hN:Sl w 1 NA nn nc (XW nm))(hx:SB w x.A x.n x.c x.nd):
  FnP Tryz.prog 42 [.slice NA nn nc,Xm x.A x.n x.c x.r] w (λ_ w'=>F4 nm x/\Ext w w') (λch w'=>¬F4 nm x/\ch=iU 1/\Ext w w'):=by
 have Xd:nm.length=nn:=by have:=hN.len;rw[bn] at this;omega
 refine aB (c:={c42 with cuts:=[]}) Qa Tryz.func42 rfl rfl rfl ?_;refine new (λw1 Qd Q3 Qh=>?_);refine call (ce true w1) ?_;rintro _ w2 ⟨rfl,Qg⟩;have Q7:=Qd.trans Qg;refine call (eQX nm NA none nn nc 0 0 [] 1 w2 (hN.ext Q7) VO (SlS.nil _) (by
  have h1:XG [] 1=0:=(br 0 true).chk (by decide);have h2:W5 [] 1=(X0 (.c true) 0,0):=by
   rw[Pb h1];have e:cf [] 1= .c true:=rfl;rw[e,if_neg (by decide)]
  rw[h2];show(ZG nm 0 (fu (X0 (.c true) 0))).length<=_;rw[EV];show Y5.length<=_;decide)) ?_
 rintro _ w3 ⟨rfl,Qk⟩;have QW:=Q7.trans Qk;rw[hQ7 nm];by_cases Zq:ZM nm=true
 ·rw[Qf Zq];refine Wo rfl ?_;refine Qs ((Qh.ext Qg).ext Qk) rfl ?_;rw[<-Xd];refine call (FE x.A x.n x.c nm.length x.nd x.r w3 (hx.ext QW)) ?_;rintro _ w4 ⟨rfl,Qq⟩;have XL:=QW.trans Qq;cases Yd:Kk nm.length x.nd x.r with
  | false=>
   refine Xa rfl ?_;refine XO (Yw 1 (by decide) w4) (λ_ _ hf=>hf.elim) ?_;rintro ch _ ⟨rfl,rfl⟩;exact⟨λhh=>(by have h2:=hh.2;rw[Yd] at h2;cases h2),rfl,XL⟩
  | true=>
   refine Q5 rfl ?_;refine Qs (((Qh.ext Qg).ext Qk).ext Qq) rfl ?_;refine call (hQW x nm.length aQb w4 (hx.ext XL) Yd) ?_;rintro _ w5 ⟨_,rfl,⟨A,m,c,N,rfl,hS,yw⟩,Qv⟩;have Ik:N<=4096:=Zf yw (Zf (Wl (by decide) aQb) (by decide));obtain⟨e1,e2⟩:=iQa rfl Ik;refine call (FF w5) ?_;rintro _ _ rfl;refine call (Nt.hQP A m c (Nt.JR N) w5 hS (Nt.AK N)) ?_;rintro _ _ ⟨rfl,rfl⟩;rw[e1,e2];refine Q5 rfl ?_;refine Q9 (by omega) ?_;exact⟨⟨Zq,Yd⟩,XL.trans Qv⟩
 ·rw[if_neg Zq];refine rL (by decide) ?_;refine XO (Yw 1 (by decide) w3) (λ_ _ hf=>hf.elim) ?_;rintro ch _ ⟨rfl,rfl⟩;exact⟨λhh=>Zq hh.1,rfl,QW⟩
theorem Sw {c:Cx}{o:Oper}{S:Env}{w:World}{K:Env->World->Prop}{Q:Zg}{x:Operand}{tx t:Nat}{k:IntKind}{r:TyRow}(hg:c.g.Ok)(ho:o.op= .typeAssert x tx t true)(hr:QU c.g.tys t=some r)(hd:r.d= .int k)(hx:S.ev x=some .nilIface)
  (kk:Xk c S o.dst (.v (.tuple #[r.z,.bool false])) (λS=>K S w)):X8 c o S w K Q:=by
 obtain⟨Q1,i,hi,_,_,hz⟩:=hg.row hr;rw[hd] at Q1;refine Js (w':=w) (v:=.tuple #[r.z,.bool false]) (λa hf=>?_) kk;have e1:=hf.ev hx;simp only[execOp,ho,e1];simp[Instr.typeAssert,ZL Q1,zeroValue,typeInfo,hi,hz]
def AN (f e:Nat)(k:Int)(w w':World):Prop:=Blk w' f 9 [.string ⟨#[]⟩]/\Blk w' e 34 [.int .i64 k]/\Mod (λi=>i=f∨i=e) w w'
theorem pL (f e:Nat)(k:Int)(w:World)(v1 v2:Value)(QQ:f≠e)(hf:Blk w f 9 [v1])(he:Blk w e 34 [v2]):
  CallsD Tryz.prog 60 #[.pointer (some ⟨f,0,none⟩),.pointer (some ⟨e,0,none⟩)] (.panicking (iU k)) w
   (λen u' w'=>∃v,en= .returned v/\settle u'= .returning/\AN f e k w w'):=by
 refine callsD_of_wpS Tryz.func60 rfl λc₀ cs hu=>?_
 have JY:=fj (N:=Tryz.f60.ntmps) [.pointer (some ⟨f,0,none⟩),.pointer (some ⟨e,0,none⟩)] (fZ rfl) [(0,.v (.pointer (some ⟨f,0,none⟩))),(1,.v (.pointer (some ⟨e,0,none⟩)))] (by
  intro k x hk
  match k,hk with
  | 0,hk=>cases hk;rfl
  | 1,hk=>cases hk;rfl
  | k+2,hk=>exact nomatch (show(none:Option Ent)=some x from hk))
 have JS:=JY.put (d:=5) (by decide) (.v (.iface 34 (.int .i64 k)));refine wpS_seq (wpS_region ?_);show wpOpsS _ _ _ [0,1,2,3,4,5,6] _ _ _;refine sM (o:=_) (cs':={c₀ with mode:=.panicking [{v:=.iface 34 (.int .i64 k),recovered:=true}]}::cs) (v:=.iface 34 (.int .i64 k)) (d:=5) rfl rfl rfl rfl (.inl (by simp[recoverD,hu,iU])) ?_;generalize aV:Act.put _ (some 5) _=act;have gT:Fits bj.N [(5,.v (.iface 34 (.int .i64 k))),(0,.v (.pointer (some ⟨f,0,none⟩))),(1,.v (.pointer (some ⟨e,0,none⟩)))] act:=by rw[<-aV];exact JS
 clear aV JS JY;generalize Zr: #[_,_,_,_,_,_,_]=xa;have h1:=(QN (λ(x:Array Oper)=>x[1]?) Zr).symm;have h2:=(QN (λ(x:Array Oper)=>x[2]?) Zr).symm;have h3:=(QN (λ(x:Array Oper)=>x[3]?) Zr).symm;have h4:=(QN (λ(x:Array Oper)=>x[4]?) Zr).symm;have h5:=(QN (λ(x:Array Oper)=>x[5]?) Zr).symm;have h6:=(QN (λ(x:Array Oper)=>x[6]?) Zr).symm;clear Zr;refine Jp (c:=bj) Qa rfl h1 rfl gT (K:=λS' w'=>S'=[(6,Ent.v (.tuple #[.int .i64 k,.bool true])),(5,.v (.iface 34 (.int .i64 k))),(0,.v (.pointer (some ⟨f,0,none⟩))),(1,.v (.pointer (some ⟨e,0,none⟩)))]/\w=w') (Ev Qa rfl rfl rfl rfl ⟨rfl,rfl⟩) ?_;rintro _ a1 _ ZB ⟨rfl,rfl⟩;refine Jp (c:=bj) Qa rfl h2 rfl ZB (K:=λS' w'=>S'=_/\w=w') ⟨rfl,rfl⟩ ?_;rintro _ a2 _ ZI ⟨rfl,rfl⟩;refine Jp (c:=bj) Qa rfl h3 rfl ZI (K:=λS' w'=>S'=_/\w=w') ⟨rfl,rfl⟩ ?_;rintro _ a3 _ gU ⟨rfl,rfl⟩;refine Jp (c:=bj) Qa rfl h4 rfl gU (K:=λS' w'=>S'=_/\w=w') ⟨rfl,rfl⟩ ?_;rintro _ a4 _ gV ⟨rfl,rfl⟩;refine Jp (c:=bj) Qa rfl h5 rfl gV (K:=λS' w'=>S'=_/\w=w') ⟨rfl,rfl⟩ ?_;rintro _ a5 _ JS ⟨rfl,rfl⟩;refine Jp (c:=bj) Qa rfl h6 rfl JS (K:=λS' w'=>S'=_/\w=w') ⟨rfl,rfl⟩ ?_;rintro _ a6 _ bB ⟨rfl,rfl⟩;unfold wpOpsS;refine me (c:=bj) Qa rfl bB ?_;refine Xa rfl ?_;refine KE hf (by simp) (λw1 Zo Qh=>?_);refine KE (he.mod Zo (λh=>QQ h.symm)) (by simp) (λw2 XQ Qw=>?_);exact⟨_,rfl,rfl,Qh.mod XQ QQ,Qw,(Zo.mono (λi hi=>.inl (.inl hi))).trans XQ (λi hi=>.inl (.inr hi))⟩
theorem Sy (f e:Nat)(w:World):
  CallsD Tryz.prog 60 #[.pointer (some ⟨f,0,none⟩),.pointer (some ⟨e,0,none⟩)] .returning w
   (λen u' w'=>∃v,en= .returned v/\settle u'= .returning/\w=w'):=by
 refine callsD_of_wpS Tryz.func60 rfl λc₀ cs hu=>?_
 have JY:=fj (N:=Tryz.f60.ntmps) [.pointer (some ⟨f,0,none⟩),.pointer (some ⟨e,0,none⟩)] (fZ rfl) [(0,.v (.pointer (some ⟨f,0,none⟩))),(1,.v (.pointer (some ⟨e,0,none⟩)))] (by
  intro k x hk
  match k,hk with
  | 0,hk=>cases hk;rfl
  | 1,hk=>cases hk;rfl
  | k+2,hk=>exact nomatch (show(none:Option Ent)=some x from hk))
 have JS:=JY.put (d:=5) (by decide) (.v .nilIface);refine wpS_seq (wpS_region ?_);show wpOpsS _ _ _ [0,1,2,3,4,5,6] _ _ _;refine sM (o:=_) (cs':={c₀ with mode:=.returning}::cs) (v:=.nilIface) (d:=5) rfl rfl rfl rfl (.inr ⟨by simp[recoverD,hu],rfl,by rw[<-hu]⟩) ?_;generalize aV:Act.put _ (some 5) _=act;have gT:Fits bj.N [(5,.v .nilIface),(0,.v (.pointer (some ⟨f,0,none⟩))),(1,.v (.pointer (some ⟨e,0,none⟩)))] act:=by rw[<-aV];exact JS
 clear aV JS JY;generalize Zr: #[_,_,_,_,_,_,_]=xa;have h1:=(QN (λ(x:Array Oper)=>x[1]?) Zr).symm;have h2:=(QN (λ(x:Array Oper)=>x[2]?) Zr).symm;have h3:=(QN (λ(x:Array Oper)=>x[3]?) Zr).symm;have h4:=(QN (λ(x:Array Oper)=>x[4]?) Zr).symm;have h5:=(QN (λ(x:Array Oper)=>x[5]?) Zr).symm;have h6:=(QN (λ(x:Array Oper)=>x[6]?) Zr).symm;clear Zr;refine Jp (c:=bj) Qa rfl h1 rfl gT (K:=λS' w'=>S'=_/\w=w') (Sw Qa rfl rfl rfl rfl ⟨rfl,rfl⟩) ?_;rintro _ a1 _ ZB ⟨rfl,rfl⟩;refine Jp (c:=bj) Qa rfl h2 rfl ZB (K:=λS' w'=>S'=_/\w=w') ⟨rfl,rfl⟩ ?_;rintro _ a2 _ ZI ⟨rfl,rfl⟩;refine Jp (c:=bj) Qa rfl h3 rfl ZI (K:=λS' w'=>S'=_/\w=w') ⟨rfl,rfl⟩ ?_;rintro _ a3 _ gU ⟨rfl,rfl⟩;refine Jp (c:=bj) Qa rfl h4 rfl gU (K:=λS' w'=>S'=_/\w=w') ⟨rfl,rfl⟩ ?_;rintro _ a4 _ gV ⟨rfl,rfl⟩;refine Jp (c:=bj) Qa rfl h5 rfl gV (K:=λS' w'=>S'=_/\w=w') ⟨rfl,rfl⟩ ?_;rintro _ a5 _ JS ⟨rfl,rfl⟩;refine Jp (c:=bj) Qa rfl h6 rfl JS (K:=λS' w'=>S'=_/\w=w') ⟨rfl,rfl⟩ ?_;rintro _ a6 _ bB ⟨rfl,rfl⟩;unfold wpOpsS;refine me (c:=bj) Qa rfl bB ?_;refine Q5 rfl ?_;exact⟨_,rfl,rfl,rfl⟩
theorem s9 (f e:Nat)(k:Int)(w:World)(v1 v2:Value)(QQ:f≠e)(hf:Blk w f 9 [v1])(he:Blk w e 34 [v2]):
  CallsD Tryz.prog 41 #[.pointer (some ⟨f,0,none⟩),.pointer (some ⟨e,0,none⟩)] (.panicking (iU k)) w
   (λen u' w'=>∃v,en= .returned v/\settle u'= .returning/\AN f e k w w'):=by
 refine callsD_of_wpS Tryz.func41 rfl λc₀ cs hu=>?_
 have JY:=fj (N:=Tryz.f41.ntmps) [.pointer (some ⟨f,0,none⟩),.pointer (some ⟨e,0,none⟩)] (fZ rfl) [(0,.v (.pointer (some ⟨f,0,none⟩))),(1,.v (.pointer (some ⟨e,0,none⟩)))] (by
  intro k x hk
  match k,hk with
  | 0,hk=>cases hk;rfl
  | 1,hk=>cases hk;rfl
  | k+2,hk=>exact nomatch (show(none:Option Ent)=some x from hk))
 have JS:=JY.put (d:=5) (by decide) (.v (.iface 34 (.int .i64 k)));refine wpS_seq (wpS_region ?_);show wpOpsS _ _ _ [0,1,2,3,4,5,6] _ _ _;refine sM (o:=_) (cs':={c₀ with mode:=.panicking [{v:=.iface 34 (.int .i64 k),recovered:=true}]}::cs) (v:=.iface 34 (.int .i64 k)) (d:=5) rfl rfl rfl rfl (.inl (by simp[recoverD,hu,iU])) ?_;generalize aV:Act.put _ (some 5) _=act;have gT:Fits bi.N [(5,.v (.iface 34 (.int .i64 k))),(0,.v (.pointer (some ⟨f,0,none⟩))),(1,.v (.pointer (some ⟨e,0,none⟩)))] act:=by rw[<-aV];exact JS
 clear aV JS JY;generalize Zr: #[_,_,_,_,_,_,_]=xa;have h1:=(QN (λ(x:Array Oper)=>x[1]?) Zr).symm;have h2:=(QN (λ(x:Array Oper)=>x[2]?) Zr).symm;have h3:=(QN (λ(x:Array Oper)=>x[3]?) Zr).symm;have h4:=(QN (λ(x:Array Oper)=>x[4]?) Zr).symm;have h5:=(QN (λ(x:Array Oper)=>x[5]?) Zr).symm;have h6:=(QN (λ(x:Array Oper)=>x[6]?) Zr).symm;clear Zr;refine Jp (c:=bi) Qa rfl h1 rfl gT (K:=λS' w'=>S'=[(6,Ent.v (.tuple #[.int .i64 k,.bool true])),(5,.v (.iface 34 (.int .i64 k))),(0,.v (.pointer (some ⟨f,0,none⟩))),(1,.v (.pointer (some ⟨e,0,none⟩)))]/\w=w') (Ev Qa rfl rfl rfl rfl ⟨rfl,rfl⟩) ?_;rintro _ a1 _ ZB ⟨rfl,rfl⟩;refine Jp (c:=bi) Qa rfl h2 rfl ZB (K:=λS' w'=>S'=_/\w=w') ⟨rfl,rfl⟩ ?_;rintro _ a2 _ ZI ⟨rfl,rfl⟩;refine Jp (c:=bi) Qa rfl h3 rfl ZI (K:=λS' w'=>S'=_/\w=w') ⟨rfl,rfl⟩ ?_;rintro _ a3 _ gU ⟨rfl,rfl⟩;refine Jp (c:=bi) Qa rfl h4 rfl gU (K:=λS' w'=>S'=_/\w=w') ⟨rfl,rfl⟩ ?_;rintro _ a4 _ gV ⟨rfl,rfl⟩;refine Jp (c:=bi) Qa rfl h5 rfl gV (K:=λS' w'=>S'=_/\w=w') ⟨rfl,rfl⟩ ?_;rintro _ a5 _ JS ⟨rfl,rfl⟩;refine Jp (c:=bi) Qa rfl h6 rfl JS (K:=λS' w'=>S'=_/\w=w') ⟨rfl,rfl⟩ ?_;rintro _ a6 _ bB ⟨rfl,rfl⟩;unfold wpOpsS;refine me (c:=bi) Qa rfl bB ?_;refine Xa rfl ?_;refine KE hf (by simp) (λw1 Zo Qh=>?_);refine KE (he.mod Zo (λh=>QQ h.symm)) (by simp) (λw2 XQ Qw=>?_);exact⟨_,rfl,rfl,Qh.mod XQ QQ,Qw,(Zo.mono (λi hi=>.inl (.inl hi))).trans XQ (λi hi=>.inl (.inr hi))⟩
theorem Sz (f e:Nat)(w:World):
  CallsD Tryz.prog 41 #[.pointer (some ⟨f,0,none⟩),.pointer (some ⟨e,0,none⟩)] .returning w
   (λen u' w'=>∃v,en= .returned v/\settle u'= .returning/\w=w'):=by
 refine callsD_of_wpS Tryz.func41 rfl λc₀ cs hu=>?_
 have JY:=fj (N:=Tryz.f41.ntmps) [.pointer (some ⟨f,0,none⟩),.pointer (some ⟨e,0,none⟩)] (fZ rfl) [(0,.v (.pointer (some ⟨f,0,none⟩))),(1,.v (.pointer (some ⟨e,0,none⟩)))] (by
  intro k x hk
  match k,hk with
  | 0,hk=>cases hk;rfl
  | 1,hk=>cases hk;rfl
  | k+2,hk=>exact nomatch (show(none:Option Ent)=some x from hk))
 have JS:=JY.put (d:=5) (by decide) (.v .nilIface);refine wpS_seq (wpS_region ?_);show wpOpsS _ _ _ [0,1,2,3,4,5,6] _ _ _;refine sM (o:=_) (cs':={c₀ with mode:=.returning}::cs) (v:=.nilIface) (d:=5) rfl rfl rfl rfl (.inr ⟨by simp[recoverD,hu],rfl,by rw[<-hu]⟩) ?_;generalize aV:Act.put _ (some 5) _=act;have gT:Fits bi.N [(5,.v .nilIface),(0,.v (.pointer (some ⟨f,0,none⟩))),(1,.v (.pointer (some ⟨e,0,none⟩)))] act:=by rw[<-aV];exact JS
 clear aV JS JY;generalize Zr: #[_,_,_,_,_,_,_]=xa;have h1:=(QN (λ(x:Array Oper)=>x[1]?) Zr).symm;have h2:=(QN (λ(x:Array Oper)=>x[2]?) Zr).symm;have h3:=(QN (λ(x:Array Oper)=>x[3]?) Zr).symm;have h4:=(QN (λ(x:Array Oper)=>x[4]?) Zr).symm;have h5:=(QN (λ(x:Array Oper)=>x[5]?) Zr).symm;have h6:=(QN (λ(x:Array Oper)=>x[6]?) Zr).symm;clear Zr;refine Jp (c:=bi) Qa rfl h1 rfl gT (K:=λS' w'=>S'=_/\w=w') (Sw Qa rfl rfl rfl rfl ⟨rfl,rfl⟩) ?_;rintro _ a1 _ ZB ⟨rfl,rfl⟩;refine Jp (c:=bi) Qa rfl h2 rfl ZB (K:=λS' w'=>S'=_/\w=w') ⟨rfl,rfl⟩ ?_;rintro _ a2 _ ZI ⟨rfl,rfl⟩;refine Jp (c:=bi) Qa rfl h3 rfl ZI (K:=λS' w'=>S'=_/\w=w') ⟨rfl,rfl⟩ ?_;rintro _ a3 _ gU ⟨rfl,rfl⟩;refine Jp (c:=bi) Qa rfl h4 rfl gU (K:=λS' w'=>S'=_/\w=w') ⟨rfl,rfl⟩ ?_;rintro _ a4 _ gV ⟨rfl,rfl⟩;refine Jp (c:=bi) Qa rfl h5 rfl gV (K:=λS' w'=>S'=_/\w=w') ⟨rfl,rfl⟩ ?_;rintro _ a5 _ JS ⟨rfl,rfl⟩;refine Jp (c:=bi) Qa rfl h6 rfl JS (K:=λS' w'=>S'=_/\w=w') ⟨rfl,rfl⟩ ?_;rintro _ a6 _ bB ⟨rfl,rfl⟩;unfold wpOpsS;refine me (c:=bi) Qa rfl bB ?_;refine Q5 rfl ?_;exact⟨_,rfl,rfl,rfl⟩
end
section
structure QP where
 r:Nat
 NA:Option Addr
 nn:Nat
 nc:Nat
 nm:List (List Nat)
 FA:Option Addr
 nf:Nat
 cf:Nat
 fs:List (List Nat×List Nat)
structure QM where
 OA:Option Addr
 oc:Nat
 DA:Option Addr
 dc:Nat
 L:List DV
 T:Nat->Prop
structure QV where
 d:Nat
 rd:List Nat
 g:Gs
 b:Pl
abbrev qdC (p:QP)(m:QM)(v:QV):List Value:=[.slice p.NA p.nn p.nc,.slice p.FA p.nf p.cf,.int .i64 v.d,.slice m.DA v.rd.length m.dc,.string (Qe v.g.tx),.slice m.OA v.g.sg.length m.oc,.bool v.g.fr,.int .i64 v.b.e,.int .i64 v.b.f,.int .i64 v.b.l]
def QS (p:QP)(m:QM):Nat->Prop:=λk=>k=p.r∨Qj m.OA k∨Qj m.DA k
def TQ (p:QP)(m:QM):Nat->Prop:=λk=>QS p m k∨m.T k
structure Qr (w0 w:World) (base:Nat) (p:QP) (m:QM) (v:QV):Prop where
 e0:Ext w0 w
 lor:w0.heap.size<=p.r
 rb:p.r<base
 top:base<=w.heap.size
 blk:Blk w p.r 201 (qdC p m v)
 rdo:Own w base 3 1 m.DA v.rd.length m.dc (ixV v.rd.reverse)
 out:Own w base 48 6 m.OA v.g.sg.length m.oc (cg v.g.sg m.L)
 len:m.L.length=v.g.sg.length
 dgs:∀(j:Nat) (s:Sg) (x:DV),v.g.sg[j]? =some s->m.L[j]? =some x->DgO w (TQ p m) p.nm.length x s.o
 tl:v.g.tx.length<=1048576
 sl:v.g.sg.length<=65536
 b8:∀x∈v.g.tx,x<256
 nf:v.g.fr=false->v.g.sg≠ []∨v.rd=[]
 tt:∀i,m.T i->i<w.heap.size
 dl:v.d<=65
 rl:v.rd.length<=65+65
section
variable {w0 w w':World} {base:Nat} {p:QP} {m:QM} {v:QV}
theorem Qr.ext (h:Qr w0 w base p m v)(k:Ext w w'):Qr w0 w' base p m v:=
 ⟨h.e0.trans k,h.lor,h.rb,Zf h.top k.size,h.blk.ext k,h.rdo.ext k,h.out.ext k,h.len,λj s x h1 h2=>(h.dgs j s x h1 h2).ext k,h.tl,h.sl,h.b8,h.nf,λi hi=>VQ (h.tt i hi) k.size,h.dl,h.rl⟩
end
theorem F5 {w:World}{g t:Nat}{cs:List Value}{j i:Nat}{v:Value}{K:Value->Prop}(h:Blk w g t cs)(hv:cs[j+i]? =some v)(k:K v):gb w (((⟨g,0,none⟩:Addr).add j).add i) K:=by
 rw[add_add];exact Qp h hv k
section
variable {w0:World} {base:Nat} {p:QP} {m:QM} {v:QV}
end
end
end Go.Proofs.YtjabbbcdgmlojaaGreatDoor
