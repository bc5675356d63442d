/-
  What PPatchAppliesLikeReference rests on, part 4 (wip/shake.py).
  Conditions: none.
-/
import Derived.Test.YtjabbbcdgmlojaaGreatDoorQPPatchAppliesLikeReferencec
set_option linter.all false
set_option linter.deprecated false
set_option maxHeartbeats 12800000
namespace Go.Proofs.YtjabbbcdgmlojaaGreatDoor
open Go Go.RowKit
section
section
structure FileB (x:Γ×Γ):Prop where
 n8:∀b∈x.1,b<256
 t8:∀b∈x.2,b<256
 nl:x.1.length<=9223372036854775807
 tl:x.2.length<=9223372036854775807
def ja (q:Pl):χ τ:=[.int .i64 q.e,.int .i64 q.f,.int .i64 q.l]
def Ox (o:Option Pl):Pl:=o.getD ⟨0,0,0⟩
def badB (b:Nat):Bool:=decide (b<32)||b==34||b==127
theorem Oy (s:Γ):jX s=(decide (s≠ []) && !(s.any badB)):=by
 unfold jX;congr 1;rw[List.any_eq_not_all_not,Bool.not_not];congr 1;funext b;unfold badB;have e:decide (32<=b)= !decide (b<32):=by by_cases h:b<32<;>simp[h]<;>omega
 rw[e];by_cases a:b=34<;>by_cases c:b=127<;>by_cases d:b<32<;>simp[a,c,d,bne]
def dH (x:Γ×Γ)(a:Λ):Bool:=decide (x.1=[])||decide (x.1∈a)||(decide (x.2≠ [])&&x.2.getLast? !=some 10)
theorem GS (x:Γ×Γ)(a:Λ):(dH x a||x.1.any badB)=true↔¬(jX x.1=true/\x.1∉a/\bB x.2=true):=by rw[Oy];unfold dH bB;by_cases b:x.1=[]<;>by_cases c:x.1∈a<;>by_cases d:x.2=[]<;>by_cases e:x.2.getLast? =some 10<;>simp[b,c,d,e]
structure CkI (w0:World) (q:Nat) (fs:List (Γ×Γ)) (res:Option Pl) (i:Nat) (w:World):Prop where
 e:Ext w0 w
 mp:∃m,MapAt WE w q m/\∀s:Γ,(∀x∈s,x<256)->Zc (Qb s) m=if s∈(fs.take i).map (·.1)then some (.bool true)else none
 rs:dE (fs.drop i) ((fs.take i).map (·.1)) i=res
 le:i<=fs.length
 qo:w0.heap.size<=q
theorem CkI.ext {b w w':θ}{q:Nat}{c:χ (Γ×Γ)}{a:Option Pl}{i:Nat}(h:CkI b q c a i w)(k:Ext w w'):CkI b q c a i w':=⟨h.e.trans k,let ⟨m,a,b⟩:=h.mp;⟨m,a.ext k,b⟩,h.rs,h.le,h.qo⟩
theorem mQP (c:χ (Γ×Γ))(d:Θ)(nf cf:Nat)(w:θ)(h:SlS ci 2 w d nf cf c)(f:∀x∈c,FileB x)(g:nf<=1000000000000):Fn ψ 90 [.slice d nf cf] w (λu Q=>u= .agg (ja (Ox (V0 c))).toArray/\Ext w Q):=by
 have d:=h.2;refine QK c90 [] Tryz.func90 ?_;refine new λw1 R d Y=>?_;refine Ql (λd=>?_) λd=>?_;refine Qo Y λg d _ l=>?_;refine Qm l ?_;refine⟨?_,X1 R Y d⟩;unfold V0;rw[Qf ω]<;>rfl
 have l:V0 c=dE c [] 0:=by unfold V0;rw[φ ω]
 refine Bl Qe WE rfl λg d o n=>?_;have g:=R.trans d;refine loop Qe [15] (λi:Nat=>[.int .i64 i]) (λi Q=>CkI w1 w1.heap.size c (V0 c) i Q) (λi _=>c.length-i) 0 rfl ⟨d,⟨[],n,λs _=>by simp[Zc]⟩,by rw[l];rfl,Q9 _,Qw _⟩ ?_;rintro i w3 W;have QT:Ext w w3:=R.trans W.e;refine Ql (λd=>?_) λd=>?_;have D:i<nf:=by omega
 refine XG gU (h.ext QT) rfl D λg x X d=>?_;refine Jm (vs:=ci x) rfl d (new λw4 g l QU=>?_);refine Qo QU λw5 d _ N=>?_;have Jc:Ext w3 w5:=X1 g QU d;have Dy:=W.ext Jc;obtain⟨m,Jb,xo⟩:=Dy.mp;have L:=f x (Xd X);have P:=QZ x.1;have Yv:=QZ x.2;have d:=L.nl;refine Qp N rfl ?_;by_cases p1:x.1=[]
 refine Zm (by rw[p1];rfl) (Qp N rfl ?_);have Z:dH x ((c.take i).map (·.1))=true:=by simp[dH,p1]
 refine loop Qe [47,6] (λs:Nat×Bool=>[.int .i64 s.1,.bool s.2]) (λs Q=>Ext w5 Q/\s.1<=x.1.length/\s.2=(dH x ((c.take i).map (·.1))||(x.1.take s.1).any badB)) (λs _=>x.1.length-s.1) (0,true) rfl ⟨Ext.refl _,Q9 _,by rw[Z];simp⟩ ?_;rintro⟨k,b⟩ E ⟨l,hk,q⟩;simp only at hk q;have C:=Dy.ext l;have r:=N.ext l;refine Ql (λt=>?_) λt=>?_;have n:k<x.1.length:=by rw[P] at t;simp only at t;omega
 obtain⟨y,S⟩:∃y,x.1[k]? =some y:=⟨_,Q6 n⟩
 have bR:(x.1.take (k+1)).any badB=((x.1.take k).any badB||badB y):=by rw[JT,S];simp
 have d:∀F,F=(b||badB y)->F=(dH x ((c.take i).map (·.1))||(x.1.take (k+1)).any badB):=λF e=>by rw[e,q,bR,Fo]
 cases b with|true=>refine Q3 rfl ?_;refine QF k ?_;exact⟨(k+1,true),rfl,⟨l,n,d true rfl⟩,QL⟩|false=>
  have p:∀K:Int->Prop,K (y:Int)->fM (Qb x.1) ((k:Nat):Int) K:=λK hK=>by refine Wd (by rw[P];exact n) λz M _=>?_;rw[We L.n8,S] at M;cases M;exact hK
  refine QX rfl (Qp r rfl (p _ (Ql (λf=>?_) λf=>?_)));refine QF k ?_;exact⟨(k+1,true),rfl,⟨l,n,d true (by
                            have:y<32:=by omega
                            simp[badB,this])⟩,QL⟩
  refine Qp r rfl (p _ (X0 (λG=>?_) λG=>?_));refine QF k ?_;exact⟨(k+1,true),rfl,⟨l,n,d true (by
                            have:y=34:=by omega
                            simp[badB,this])⟩,QL⟩
  refine Qp r rfl (p _ (QF k ?_));refine⟨(k+1,((y:Int)==127)),rfl,⟨l,n,d _ ?_⟩,QL⟩;have n1:¬y<32:=by omega
  have n2:¬y=34:=by omega
  by_cases O:y=127;subst O;rfl;have:((y:Int)==127)=false:=by simp;omega
  rw[this];simp[badB,n1,n2,O]
 have n:k=x.1.length:=by rw[P] at t;simp only at t;omega
 subst n;rw[ry] at q;have o:=GS x ((c.take i).map (·.1));have gB:c.drop i=x::c.drop (i+1):=by rw[VU ω];congr 1;exact Option.some.inj ((Q6 ω).symm.trans X)
 have g:=C.rs;rw[gB,dE] at g;have T:=((Y.ext W.e).ext Jc).ext l;refine Z0 (λf=>?_) λf=>?_;have f:b=true:=f;rw[Qf (o.1 (by rw[<-q,f]))] at g;refine Qo T λw7 A _ H=>?_;refine Qm H ?_;have B:Mod (·=w.heap.size) E w7:=vQB A rfl;exact⟨by rw[<-g];rfl,B.ext (R.trans C.e) λi D=>ω⟩;have f:b=false:=f;have Zb:=λI=>(o.2 I).symm.trans (q.symm.trans f);rw[φ λI=>by have:=Zb I;cases this] at g;refine Qp r rfl (Ql (λG=>?_) λG=>?_)
 rw[Qf ω] at g;refine Qo T λw7 A _ H=>?_;refine Qm H ?_;have B:Mod (·=w.heap.size) E w7:=vQB A rfl;exact⟨by rw[<-g];rfl,B.ext (R.trans C.e) λi D=>ω⟩;rw[φ ω] at g;refine Qp r rfl ?_;have Kz:=Jb.ext l;refine po (kv:=WE) (a:=Qb x.1) Qe rfl rfl rfl rfl rfl vQD rfl rfl rfl Kz λw7 A aa cm=>?_;have B:Mod (·=w1.heap.size) E w7:=vQB A rfl;refine QF i ?_;have U:(c.take (i+1)).map (·.1)=(c.take i).map (·.1)++ [x.1]:=by rw[JT,X];simp
 refine⟨i+1,rfl,⟨B.ext C.e λi D=>ω,⟨_,cm,λs V=>?_⟩,by rw[U];exact g,ω,Qw _⟩,QL⟩;rw[fc,U];by_cases J:s=x.1;subst J;simp;rw[φ λe=>J (Jl V L.n8 e),xo s V];simp[J];refine XB (λe=>p1 (Jl L.n8 (by simp) e)) (Qp N rfl ?_);refine Ny (kv:=WE) (a:=Qb x.1) (v:=.bool (decide (x.1∈(c.take i).map (·.1)))) Qe rfl rfl rfl rfl rfl vQD rfl rfl Jb (by
  rw[xo x.1 L.n8];by_cases hm:x.1∈(c.take i).map (·.1);rw[Qf hm,Zg hm]<;>rfl
  rw[φ hm,XZ hm];rfl) ?_
 by_cases p2:x.1∈(c.take i).map (·.1);refine Zm p2 (Qp N rfl ?_);have Z:dH x ((c.take i).map (·.1))=true:=by unfold dH;rw[Zg p2];simp
 refine loop Qe [47,6] (λs:Nat×Bool=>[.int .i64 s.1,.bool s.2]) (λs Q=>Ext w5 Q/\s.1<=x.1.length/\s.2=(dH x ((c.take i).map (·.1))||(x.1.take s.1).any badB)) (λs _=>x.1.length-s.1) (0,true) rfl ⟨Ext.refl _,Q9 _,by rw[Z];simp⟩ ?_;rintro⟨k,b⟩ E ⟨l,hk,q⟩;simp only at hk q;have C:=Dy.ext l;have r:=N.ext l;refine Ql (λt=>?_) λt=>?_;have n:k<x.1.length:=by rw[P] at t;simp only at t;omega
 obtain⟨y,S⟩:∃y,x.1[k]? =some y:=⟨_,Q6 n⟩
 have bR:(x.1.take (k+1)).any badB=((x.1.take k).any badB||badB y):=by rw[JT,S];simp
 have d:∀F,F=(b||badB y)->F=(dH x ((c.take i).map (·.1))||(x.1.take (k+1)).any badB):=λF e=>by rw[e,q,bR,Fo]
 cases b with|true=>refine Q3 rfl ?_;refine QF k ?_;exact⟨(k+1,true),rfl,⟨l,n,d true rfl⟩,QL⟩|false=>
  have p:∀K:Int->Prop,K (y:Int)->fM (Qb x.1) ((k:Nat):Int) K:=λK hK=>by refine Wd (by rw[P];exact n) λz M _=>?_;rw[We L.n8,S] at M;cases M;exact hK
  refine QX rfl (Qp r rfl (p _ (Ql (λf=>?_) λf=>?_)));refine QF k ?_;exact⟨(k+1,true),rfl,⟨l,n,d true (by
                            have:y<32:=by omega
                            simp[badB,this])⟩,QL⟩
  refine Qp r rfl (p _ (X0 (λG=>?_) λG=>?_));refine QF k ?_;exact⟨(k+1,true),rfl,⟨l,n,d true (by
                            have:y=34:=by omega
                            simp[badB,this])⟩,QL⟩
  refine Qp r rfl (p _ (QF k ?_));refine⟨(k+1,((y:Int)==127)),rfl,⟨l,n,d _ ?_⟩,QL⟩;have n1:¬y<32:=by omega
  have n2:¬y=34:=by omega
  by_cases O:y=127;subst O;rfl;have:((y:Int)==127)=false:=by simp;omega
  rw[this];simp[badB,n1,n2,O]
 have n:k=x.1.length:=by rw[P] at t;simp only at t;omega
 subst n;rw[ry] at q;have o:=GS x ((c.take i).map (·.1));have gB:c.drop i=x::c.drop (i+1):=by rw[VU ω];congr 1;exact Option.some.inj ((Q6 ω).symm.trans X)
 have g:=C.rs;rw[gB,dE] at g;have T:=((Y.ext W.e).ext Jc).ext l;refine Z0 (λf=>?_) λf=>?_;have f:b=true:=f;rw[Qf (o.1 (by rw[<-q,f]))] at g;refine Qo T λw7 A _ H=>?_;refine Qm H ?_;have B:Mod (·=w.heap.size) E w7:=vQB A rfl;exact⟨by rw[<-g];rfl,B.ext (R.trans C.e) λi D=>ω⟩;have f:b=false:=f;have Zb:=λI=>(o.2 I).symm.trans (q.symm.trans f);rw[φ λI=>by have:=Zb I;cases this] at g;refine Qp r rfl (Ql (λG=>?_) λG=>?_)
 rw[Qf ω] at g;refine Qo T λw7 A _ H=>?_;refine Qm H ?_;have B:Mod (·=w.heap.size) E w7:=vQB A rfl;exact⟨by rw[<-g];rfl,B.ext (R.trans C.e) λi D=>ω⟩;rw[φ ω] at g;refine Qp r rfl ?_;have Kz:=Jb.ext l;refine po (kv:=WE) (a:=Qb x.1) Qe rfl rfl rfl rfl rfl vQD rfl rfl rfl Kz λw7 A aa cm=>?_;have B:Mod (·=w1.heap.size) E w7:=vQB A rfl;refine QF i ?_;have U:(c.take (i+1)).map (·.1)=(c.take i).map (·.1)++ [x.1]:=by rw[JT,X];simp
 refine⟨i+1,rfl,⟨B.ext C.e λi D=>ω,⟨_,cm,λs V=>?_⟩,by rw[U];exact g,ω,Qw _⟩,QL⟩;rw[fc,U];by_cases J:s=x.1;subst J;simp;rw[φ λe=>J (Jl V L.n8 e),xo s V];simp[J];refine XB p2 (Qp N rfl ?_);by_cases p3:x.2=[]
 refine QX (by rw[p3];rfl) (Qp N rfl ?_);have Z:dH x ((c.take i).map (·.1))=false:=by unfold dH;rw[XZ p1,XZ p2,p3]<;>rfl
 refine loop Qe [47,6] (λs:Nat×Bool=>[.int .i64 s.1,.bool s.2]) (λs Q=>Ext w5 Q/\s.1<=x.1.length/\s.2=(dH x ((c.take i).map (·.1))||(x.1.take s.1).any badB)) (λs _=>x.1.length-s.1) (0,false) rfl ⟨Ext.refl _,Q9 _,by rw[Z];simp⟩ ?_;rintro⟨k,b⟩ E ⟨l,hk,q⟩;simp only at hk q;have C:=Dy.ext l;have r:=N.ext l;refine Ql (λt=>?_) λt=>?_;have n:k<x.1.length:=by rw[P] at t;simp only at t;omega
 obtain⟨y,S⟩:∃y,x.1[k]? =some y:=⟨_,Q6 n⟩
 have bR:(x.1.take (k+1)).any badB=((x.1.take k).any badB||badB y):=by rw[JT,S];simp
 have d:∀F,F=(b||badB y)->F=(dH x ((c.take i).map (·.1))||(x.1.take (k+1)).any badB):=λF e=>by rw[e,q,bR,Fo]
 cases b with|true=>refine Q3 rfl ?_;refine QF k ?_;exact⟨(k+1,true),rfl,⟨l,n,d true rfl⟩,QL⟩|false=>
  have p:∀K:Int->Prop,K (y:Int)->fM (Qb x.1) ((k:Nat):Int) K:=λK hK=>by refine Wd (by rw[P];exact n) λz M _=>?_;rw[We L.n8,S] at M;cases M;exact hK
  refine QX rfl (Qp r rfl (p _ (Ql (λf=>?_) λf=>?_)));refine QF k ?_;exact⟨(k+1,true),rfl,⟨l,n,d true (by
                            have:y<32:=by omega
                            simp[badB,this])⟩,QL⟩
  refine Qp r rfl (p _ (X0 (λG=>?_) λG=>?_));refine QF k ?_;exact⟨(k+1,true),rfl,⟨l,n,d true (by
                            have:y=34:=by omega
                            simp[badB,this])⟩,QL⟩
  refine Qp r rfl (p _ (QF k ?_));refine⟨(k+1,((y:Int)==127)),rfl,⟨l,n,d _ ?_⟩,QL⟩;have n1:¬y<32:=by omega
  have n2:¬y=34:=by omega
  by_cases O:y=127;subst O;rfl;have:((y:Int)==127)=false:=by simp;omega
  rw[this];simp[badB,n1,n2,O]
 have n:k=x.1.length:=by rw[P] at t;simp only at t;omega
 subst n;rw[ry] at q;have o:=GS x ((c.take i).map (·.1));have gB:c.drop i=x::c.drop (i+1):=by rw[VU ω];congr 1;exact Option.some.inj ((Q6 ω).symm.trans X)
 have g:=C.rs;rw[gB,dE] at g;have T:=((Y.ext W.e).ext Jc).ext l;refine Z0 (λf=>?_) λf=>?_;have f:b=true:=f;rw[Qf (o.1 (by rw[<-q,f]))] at g;refine Qo T λw7 A _ H=>?_;refine Qm H ?_;have B:Mod (·=w.heap.size) E w7:=vQB A rfl;exact⟨by rw[<-g];rfl,B.ext (R.trans C.e) λi D=>ω⟩;have f:b=false:=f;have Zb:=λI=>(o.2 I).symm.trans (q.symm.trans f);rw[φ λI=>by have:=Zb I;cases this] at g;refine Qp r rfl (Ql (λG=>?_) λG=>?_)
 rw[Qf ω] at g;refine Qo T λw7 A _ H=>?_;refine Qm H ?_;have B:Mod (·=w.heap.size) E w7:=vQB A rfl;exact⟨by rw[<-g];rfl,B.ext (R.trans C.e) λi D=>ω⟩;rw[φ ω] at g;refine Qp r rfl ?_;have Kz:=Jb.ext l;refine po (kv:=WE) (a:=Qb x.1) Qe rfl rfl rfl rfl rfl vQD rfl rfl rfl Kz λw7 A aa cm=>?_;have B:Mod (·=w1.heap.size) E w7:=vQB A rfl;refine QF i ?_;have U:(c.take (i+1)).map (·.1)=(c.take i).map (·.1)++ [x.1]:=by rw[JT,X];simp
 refine⟨i+1,rfl,⟨B.ext C.e λi D=>ω,⟨_,cm,λs V=>?_⟩,by rw[U];exact g,ω,Qw _⟩,QL⟩;rw[fc,U];by_cases J:s=x.1;subst J;simp;rw[φ λe=>J (Jl V L.n8 e),xo s V];simp[J];have O:¬Qb x.2=(⟨#[]⟩:ByteArray):=λe=>p3 (Jl L.t8 (by simp) e);refine Q3 (by simp[O]) (Qp N rfl (Qp N rfl ?_));have VR:=L.tl;have Ww:0<x.2.length:=mU.2 p3;refine Qz ((x.2.length-1:Nat):Int) ?_ (hm:=by rw[Yv];omega);refine Wd (j:=x.2.length-1) ω λz M Wj=>?_;rw[We L.t8] at M;have eT:x.2.getLast? =some z:=by rw[oW];exact M
 refine Qp N rfl ?_;have Z:dH x ((c.take i).map (·.1))=((z:Int) !=10):=by
  unfold dH;rw[XZ p1,XZ p2,Zg p3,eT];by_cases Zs:z=10;subst Zs;decide;have e1:((z:Int) !=10)=true:=by simp;omega
  rw[e1];simp[Zs]
 refine loop Qe [47,6] (λs:Nat×Bool=>[.int .i64 s.1,.bool s.2]) (λs Q=>Ext w5 Q/\s.1<=x.1.length/\s.2=(dH x ((c.take i).map (·.1))||(x.1.take s.1).any badB)) (λs _=>x.1.length-s.1) (0,((z:Int) !=10)) rfl ⟨Ext.refl _,Q9 _,by rw[Z];simp⟩ ?_;rintro⟨k,b⟩ E ⟨l,hk,q⟩;simp only at hk q;have C:=Dy.ext l;have r:=N.ext l;refine Ql (λt=>?_) λt=>?_;have n:k<x.1.length:=by rw[P] at t;simp only at t;omega
 obtain⟨y,S⟩:∃y,x.1[k]? =some y:=⟨_,Q6 n⟩
 have bR:(x.1.take (k+1)).any badB=((x.1.take k).any badB||badB y):=by rw[JT,S];simp
 have d:∀F,F=(b||badB y)->F=(dH x ((c.take i).map (·.1))||(x.1.take (k+1)).any badB):=λF e=>by rw[e,q,bR,Fo]
 cases b with|true=>refine Q3 rfl ?_;refine QF k ?_;exact⟨(k+1,true),rfl,⟨l,n,d true rfl⟩,QL⟩|false=>
  have p:∀K:Int->Prop,K (y:Int)->fM (Qb x.1) ((k:Nat):Int) K:=λK hK=>by refine Wd (by rw[P];exact n) λz M _=>?_;rw[We L.n8,S] at M;cases M;exact hK
  refine QX rfl (Qp r rfl (p _ (Ql (λf=>?_) λf=>?_)));refine QF k ?_;exact⟨(k+1,true),rfl,⟨l,n,d true (by
                            have:y<32:=by omega
                            simp[badB,this])⟩,QL⟩
  refine Qp r rfl (p _ (X0 (λG=>?_) λG=>?_));refine QF k ?_;exact⟨(k+1,true),rfl,⟨l,n,d true (by
                            have:y=34:=by omega
                            simp[badB,this])⟩,QL⟩
  refine Qp r rfl (p _ (QF k ?_));refine⟨(k+1,((y:Int)==127)),rfl,⟨l,n,d _ ?_⟩,QL⟩;have n1:¬y<32:=by omega
  have n2:¬y=34:=by omega
  by_cases O:y=127;subst O;rfl;have:((y:Int)==127)=false:=by simp;omega
  rw[this];simp[badB,n1,n2,O]
 have n:k=x.1.length:=by rw[P] at t;simp only at t;omega
 subst n;rw[ry] at q;have o:=GS x ((c.take i).map (·.1));have gB:c.drop i=x::c.drop (i+1):=by rw[VU ω];congr 1;exact Option.some.inj ((Q6 ω).symm.trans X)
 have g:=C.rs;rw[gB,dE] at g;have T:=((Y.ext W.e).ext Jc).ext l;refine Z0 (λf=>?_) λf=>?_;have f:b=true:=f;rw[Qf (o.1 (by rw[<-q,f]))] at g;refine Qo T λw7 A _ H=>?_;refine Qm H ?_;have B:Mod (·=w.heap.size) E w7:=vQB A rfl;exact⟨by rw[<-g];rfl,B.ext (R.trans C.e) λi D=>ω⟩;have f:b=false:=f;have Zb:=λI=>(o.2 I).symm.trans (q.symm.trans f);rw[φ λI=>by have:=Zb I;cases this] at g;refine Qp r rfl (Ql (λG=>?_) λG=>?_)
 rw[Qf ω] at g;refine Qo T λw7 A _ H=>?_;refine Qm H ?_;have B:Mod (·=w.heap.size) E w7:=vQB A rfl;exact⟨by rw[<-g];rfl,B.ext (R.trans C.e) λi D=>ω⟩;rw[φ ω] at g;refine Qp r rfl ?_;have Kz:=Jb.ext l;refine po (kv:=WE) (a:=Qb x.1) Qe rfl rfl rfl rfl rfl vQD rfl rfl rfl Kz λw7 A aa cm=>?_;have B:Mod (·=w1.heap.size) E w7:=vQB A rfl;refine QF i ?_;have U:(c.take (i+1)).map (·.1)=(c.take i).map (·.1)++ [x.1]:=by rw[JT,X];simp
 refine⟨i+1,rfl,⟨B.ext C.e λi D=>ω,⟨_,cm,λs V=>?_⟩,by rw[U];exact g,ω,Qw _⟩,QL⟩;rw[fc,U];by_cases J:s=x.1;subst J;simp;rw[φ λe=>J (Jl V L.n8 e),xo s V];simp[J];have D:i=c.length:=by have:=W.le;omega
 have g:=W.rs;rw[D,Ft,dE] at g;refine Qo (Y.ext W.e) λw4 c _ QU=>?_;refine Qm QU ?_;have d:Mod (·=w.heap.size) w3 w4:=vQB c rfl;exact⟨by rw[<-g];rfl,d.ext QT λi D=>ω⟩
end
section
theorem yQ {P:Program}{c:Array Oper}{b:Γ}{i:Nat}{o:Oper}{Q:Exit->Act->χ Frame->θ->Prop}{a:Act}{e cs':χ Frame}{w:θ}{v:τ}{d:Nat}(f:c[i]? =some o)(g:o.op= .call ⟨.builtin .recover, #[], #[]⟩)(j:o.dst=some d)(k:o.guard=none)(l:recoverD e=some (v,cs')∨(recoverD e=none/\v= .nilIface/\cs'=e)) (h:wpOpsS P c Q b (a.put (some d) v) cs' w):wpOpsS P c Q (i::b) a e w:=by
 have b:(execOp a.eval o).run P w= .ok .recover w:=by simp only[execOp,g,resolve,invoke,builtin];simp
 unfold wpOpsS;rw[f];simp only;rw[Qf (by simp[Region.wanted,k]),b,j];obtain b|⟨b,rfl,rfl⟩:=l;simp only[b];exact h;simp only[b];exact h
theorem Ks {c:Cx}(b:c.g.Ok){P:Program}(m:c.g.P=P){f:Array Oper}{d:Γ}{i:Nat}{o:Oper}{Q:Exit->Act->χ Frame->θ->Prop}{a:Act}{k:χ Frame}{w:θ}{S:Env}{K:Env->θ->Prop}(p:f[i]? =some o)(q:o.guard=none)(s:Fits c.N S a)(h:gF c o S w K λ_ _ _=>False) (t:∀l j g,Fits c.N l j->K l g->wpOpsS P f Q d j k g):wpOpsS P f Q (i::d) a k w:=by
 subst m;have m:=uI b h s;unfold wpOpsS;rw[p];simp only;rw[Qf (by simp[Region.wanted,q])];have b:=Oper.wp_mono (K':=λj g=>wpOpsS c.g.P f Q d j k g) (λj g ⟨l,p,q⟩=>t _ _ _ p q) m;unfold Oper.wp at b;generalize (execOp a.eval o).run c.g.P w=r at*;cases r with
 |ok n g=>
  cases n<;>simp only[Oper.upon] at b ⊢ <;> first|exact b|exact b.elim|skip
  exact b.mono λe f d=>by
   cases e with
   |returned v=>exact d
   |panicked f=>obtain⟨_,_,d⟩:=d;exact d.elim
   |outgrown=>obtain⟨_,_,_,_,d⟩:=d;exact d.elim
 |halt x g=>cases x<;>simp only[Oper.upon] at b ⊢ <;> first|exact b|(obtain⟨_,_,b⟩:=b;exact b.elim)|(obtain⟨_,_,_,_,b⟩:=b;exact b.elim)
theorem mQQ {c:Cx}{o:Oper}{S:Env}{w:θ}{K:Env->θ->Prop}{Q:ZD}{x:Operand}{b t:Nat}{d:Array Field}{v:τ}{r:TyRow}(e:c.g.Ok)(f:o.op= .typeAssert x b t true)(g:Q8 c.g.tys t=some r)(h:r.d= .struct d)(i:S.ev x=some (.iface t v))(j:XD c S o.dst (.v (.tuple #[v,.bool true])) λS=>K S w):Zv c o S w K Q:=by have b:=(e.row g).1;rw[h] at b;refine Kr (w':=w) (v:=.tuple #[v,.bool true]) (λa d=>?_) j;have e:=d.ev i;simp only[execOp,f,e];simp[Instr.typeAssert,JB b]
theorem mQR {c:Cx}{o:Oper}{S:Env}{w:θ}{K:Env->θ->Prop}{Q:ZD}{x:Operand}{b t:Nat}{d:Array Field}{r:TyRow}(e:c.g.Ok)(f:o.op= .typeAssert x b t true)(g:Q8 c.g.tys t=some r)(h:r.d= .struct d)(j:S.ev x=some .nilIface)(k:XD c S o.dst (.v (.tuple #[r.z,.bool false])) λS=>K S w):Zv c o S w K Q:=by obtain⟨b,i,d,_,_,l⟩:=e.row g;rw[h] at b;refine Kr (w':=w) (v:=.tuple #[r.z,.bool false]) (λa e=>?_) k;have g:=e.ev j;simp only[execOp,f,g];simp[Instr.typeAssert,JB b,zeroValue,typeInfo,d,l]
def mQS (f e:Nat)(q:Pl)(w a:θ):Prop:=Blk a f 41 [.string (Qb []),.slice none 0 0]/\Blk a e 93 (ja q)/\Mod (λi=>i=f∨i=e) w a
theorem mQT (f e:Nat)(q:Pl)(w:θ)(a b:χ τ)(r:a.length=2)(s:b.length=3)(n:f≠e)(m:Blk w f 41 a)(p:Blk w e 93 b):
  CallsD ψ 91 #[.pointer (some ⟨f,0,none⟩),.pointer (some ⟨e,0,none⟩)] (.panicking (jZ q.e q.f q.l)) w
   (λb g a=>∃v,b= .returned v/\settle g= .returning/\mQS f e q w a):=by
 refine callsD_of_wpS Tryz.func91 rfl λl t y=>?_
 have h:=kV (N:=Tryz.f91.ntmps) [.pointer (some ⟨f,0,none⟩),.pointer (some ⟨e,0,none⟩)] (mO rfl) [(0,.v (.pointer (some ⟨f,0,none⟩))),(1,.v (.pointer (some ⟨e,0,none⟩)))] (by
  intro k x b
  match k,b with
  | 0,b=>cases b;rfl
  | 1,b=>cases b;rfl
  | k+2,b=>exact nomatch (show(none:Option Ent)=some x from b))
 have g:=h.put (d:=5) δ (.v (.iface 160 (.agg #[.int .i64 q.e,.int .i64 q.f,.int .i64 q.l])));refine wpS_seq (wpS_region ?_);show wpOpsS _ _ _ [0,1,2,3,4,5,6,7] _ _ _;refine yQ (o:=_) (cs':={l with mode:=.panicking [{v:=.iface 160 (.agg #[.int .i64 q.e,.int .i64 q.f,.int .i64 q.l]),recovered:=true}]}::t) (v:=.iface 160 (.agg #[.int .i64 q.e,.int .i64 q.f,.int .i64 q.l])) (d:=5) rfl rfl rfl rfl (.inl (by simp[recoverD,y,jZ])) ?_;generalize b:Act.put _ (some 5) _=act;have l:Fits dv.N [(5,.v (.iface 160 (.agg #[.int .i64 q.e,.int .i64 q.f,.int .i64 q.l]))),(0,.v (.pointer (some ⟨f,0,none⟩))),(1,.v (.pointer (some ⟨e,0,none⟩)))] act:=by rw[<-b];exact g
 clear b g h;generalize b: #[_,_,_,_,_,_,_,_]=h;have h:=(QG (λ(x:Array Oper)=>x[1]?) b).symm;have t:=(QG (λ(x:Array Oper)=>x[2]?) b).symm;have y:=(QG (λ(x:Array Oper)=>x[3]?) b).symm;have z:=(QG (λ(x:Array Oper)=>x[4]?) b).symm;have A:=(QG (λ(x:Array Oper)=>x[5]?) b).symm;have B:=(QG (λ(x:Array Oper)=>x[6]?) b).symm;have C:=(QG (λ(x:Array Oper)=>x[7]?) b).symm;clear b;refine Ks (c:=dv) Qe rfl h rfl l (K:=λb a=>b=[(6,Ent.v (.tuple #[.agg #[.int .i64 q.e,.int .i64 q.f,.int .i64 q.l],.bool true])),(5,.v (.iface 160 (.agg #[.int .i64 q.e,.int .i64 q.f,.int .i64 q.l]))),(0,.v (.pointer (some ⟨f,0,none⟩))),(1,.v (.pointer (some ⟨e,0,none⟩)))]/\w=a) (mQQ Qe rfl rfl rfl rfl ⟨rfl,rfl⟩) ?_;rintro _ l _ h ⟨rfl,rfl⟩;refine Ks (c:=dv) Qe rfl t rfl h (K:=λb a=>b=_/\w=a) ⟨rfl,rfl⟩ ?_;rintro _ l _ h ⟨rfl,rfl⟩;refine Ks (c:=dv) Qe rfl y rfl h (K:=λb a=>b=_/\w=a) ⟨rfl,rfl⟩ ?_;rintro _ l _ h ⟨rfl,rfl⟩;refine Ks (c:=dv) Qe rfl z rfl h (K:=λb a=>b=_/\w=a) ⟨rfl,rfl⟩ ?_;rintro _ l _ h ⟨rfl,rfl⟩;refine Ks (c:=dv) Qe rfl A rfl h (K:=λb a=>b=(2,.v (.pointer (some ⟨w.heap.size,0,none⟩)))::_/\Ext w a/\a.heap.size=w.heap.size+1/\∃h:χ τ,Blk a w.heap.size 160 h/\h.length=3) (new (λz l t y=>⟨rfl,l,t,_,y,rfl⟩)) ?_;rintro _ z A g ⟨rfl,t,D,h,l,y⟩;refine Ks (c:=dv) Qe rfl B rfl g (K:=λb a=>b=_/\Ext w a/\w.heap.size+1<=a.heap.size/\Blk a w.heap.size 160 (ja q)) (uR l (by rw[y];rfl) (sc rfl) (λg y z h=>⟨rfl,X1 t l y,ω,h⟩)) ?_;rintro _ y g t ⟨rfl,l,z,h⟩;refine Ks (c:=dv) Qe rfl C rfl t (K:=λb a=>b=_/\g=a) ⟨rfl,rfl⟩ ?_;rintro _ t _ b ⟨rfl,rfl⟩;unfold wpOpsS;refine rP (c:=dv) Qe rfl b (Q3 rfl ?_);have t:f≠w.heap.size:=λe=>by have:=m.lt;omega
 have y:e≠w.heap.size:=λe=>by have:=p.lt;omega
 have b:=m.ext l;have m:=p.ext l;refine Xw (λa=>Mod (λi=>i=f∨i=e) g a) 5 [(true,0),(true,1),(true,2),(false,3),(false,4)] (Mod.of_ext _ (Ext.drew g)) (Xe (vs:=ja q) rfl (λa p j u z=>by rw[add_add,(h.mod p (λa=>a.elim (λe=>t e.symm) (λe=>y e.symm))).cell];simpa using z) ?_);have h:=Ext.drew g;refine uR (b.ext h) (by rw[r];rfl) (sc rfl) (λw8 b _ t=>?_);have p:Mod (·=f) g.drew w8:=vQB b rfl;have r:Mod (λi=>i=f∨i=e) g w8:=(Mod.of_ext _ h).trans p (λi b=>.inl (.inl b));refine⟨r,?_⟩;refine uR ((m.ext h).mod p (λa=>n a.symm)) (by rw[s];rfl) (sc rfl) (λw9 a _ m=>?_);have h:Mod (·=e) w8 w9:=vQB a rfl;have a:Mod (λi=>i=f∨i=e) g w9:=r.trans h (λi b=>.inl (.inr b));refine⟨a,?_⟩;exact⟨_,rfl,rfl,t.mod h n,m,(Mod.of_ext _ l).trans a (λ_=>.inl)⟩
theorem mQU (f e:Nat)(w:θ):
  CallsD ψ 91 #[.pointer (some ⟨f,0,none⟩),.pointer (some ⟨e,0,none⟩)] .returning w
   (λb g a=>∃v,b= .returned v/\settle g= .returning/\Ext w a):=by
 refine callsD_of_wpS Tryz.func91 rfl λj l h=>?_
 have i:=kV (N:=Tryz.f91.ntmps) [.pointer (some ⟨f,0,none⟩),.pointer (some ⟨e,0,none⟩)] (mO rfl) [(0,.v (.pointer (some ⟨f,0,none⟩))),(1,.v (.pointer (some ⟨e,0,none⟩)))] (by
  intro k x b
  match k,b with
  | 0,b=>cases b;rfl
  | 1,b=>cases b;rfl
  | k+2,b=>exact nomatch (show(none:Option Ent)=some x from b))
 have g:=i.put (d:=5) δ (.v .nilIface);refine wpS_seq (wpS_region ?_);show wpOpsS _ _ _ [0,1,2,3,4,5,6,7] _ _ _;refine yQ (o:=_) (cs':={j with mode:=.returning}::l) (v:=.nilIface) (d:=5) rfl rfl rfl rfl (.inr ⟨by simp[recoverD,h],rfl,by rw[<-h]⟩) ?_;generalize b:Act.put _ (some 5) _=act;have h:Fits dv.N [(5,.v .nilIface),(0,.v (.pointer (some ⟨f,0,none⟩))),(1,.v (.pointer (some ⟨e,0,none⟩)))] act:=by rw[<-b];exact g
 clear b g i;generalize b: #[_,_,_,_,_,_,_,_]=i;have i:=(QG (λ(x:Array Oper)=>x[1]?) b).symm;have j:=(QG (λ(x:Array Oper)=>x[2]?) b).symm;have l:=(QG (λ(x:Array Oper)=>x[3]?) b).symm;have m:=(QG (λ(x:Array Oper)=>x[4]?) b).symm;have n:=(QG (λ(x:Array Oper)=>x[5]?) b).symm;have p:=(QG (λ(x:Array Oper)=>x[6]?) b).symm;have q:=(QG (λ(x:Array Oper)=>x[7]?) b).symm;clear b;refine Ks (c:=dv) Qe rfl i rfl h (K:=λb a=>b=_/\w=a) (mQR Qe rfl rfl rfl rfl ⟨rfl,rfl⟩) ?_;rintro _ i _ h ⟨rfl,rfl⟩;refine Ks (c:=dv) Qe rfl j rfl h (K:=λb a=>b=_/\w=a) ⟨rfl,rfl⟩ ?_;rintro _ i _ h ⟨rfl,rfl⟩;refine Ks (c:=dv) Qe rfl l rfl h (K:=λb a=>b=_/\w=a) ⟨rfl,rfl⟩ ?_;rintro _ i _ h ⟨rfl,rfl⟩;refine Ks (c:=dv) Qe rfl m rfl h (K:=λb a=>b=_/\w=a) ⟨rfl,rfl⟩ ?_;rintro _ i _ h ⟨rfl,rfl⟩;refine Ks (c:=dv) Qe rfl n rfl h (K:=λb a=>b=(2,.v (.pointer (some ⟨w.heap.size,0,none⟩)))::_/\Ext w a/\a.heap.size=w.heap.size+1/\∃h:χ τ,Blk a w.heap.size 160 h/\h.length=3) (new (λm i j l=>⟨rfl,i,j,_,l,rfl⟩)) ?_;rintro _ m n g ⟨rfl,j,r,h,i,l⟩;refine Ks (c:=dv) Qe rfl p rfl g (K:=λb a=>b=_/\Ext w a) (uR i (by rw[l];rfl) (sc rfl) (λg h l m=>⟨rfl,X1 j i h⟩)) ?_;rintro _ j g h ⟨rfl,i⟩;refine Ks (c:=dv) Qe rfl q rfl h (K:=λb a=>b=_/\g=a) ⟨rfl,rfl⟩ ?_;rintro _ b _ a ⟨rfl,rfl⟩;unfold wpOpsS;refine rP (c:=dv) Qe rfl a (QX rfl ?_);exact⟨_,rfl,rfl,i⟩
end
section
theorem mQV {nm:Λ}:(gL nm dx).2=if JG nm then 0 else 1:=by
 unfold gL;by_cases h:JG nm=true;rw[Qf h,Qf h]<;>rfl
 rw[φ h,φ h]
structure SgIn (w:World) (k:Nat) (A:Θ) (n c:Nat) (sg:List Sg) (L:List DV):Prop where
 sl:Sl w 6 A n c (cN sg L)
 n:sg.length=n
 len:L.length=sg.length
 dg:∀(j:Nat) (s:Sg) (x:DV),sg[j]? =some s->L[j]? =some x->SB w x.A x.n x.c x.nd/\Set1 k x.nd x.r s.o
theorem SgIn.ext {w a:θ}{k:Nat}{A:Θ}{n c:Nat}{b:χ Sg}{L:χ DV}(h:SgIn w k A n c b L)(d:Ext w a):SgIn a k A n c b L:=⟨h.sl.ext d,h.n,h.len,λj s x a b=>⟨(h.dg j s x a b).1.ext d,(h.dg j s x a b).2⟩⟩
structure GsOk (g:Gs):Prop where
 b8:∀x∈g.tx,x<256
 tl:g.tx.length<=1048576
 sl:g.sg.length<=65536
abbrev Oz (a:Γ)(A:Θ)(n c:Nat):Value:=.agg #[.string (Qb a),.slice A n c]
def cQW (k:Nat)(w:θ)(r:Except Pl Gs)(u:τ)(a:θ):Prop:=Ext w a/\match r with|.error q=>u= .tuple #[Oz [] none 0 0,.agg (ja q).toArray]|.ok g=>GsOk g/\∃A c L,u= .tuple #[Oz g.tx A g.sg.length c,.agg (ja ⟨0,0,0⟩).toArray]/\SgIn a k A g.sg.length c g.sg L
theorem cQX:∀(l:χ (Γ×Γ))(a:Λ)(i:Nat)(q:Pl),dE l a i=some q->q.e≠0
 |[],_,_,_,h=>by cases h
 |x::l,a,i,q,h=>by unfold dE at h;split at h;cases h;exact(by decide:(70:Int)≠0);split at h;cases h;exact(by decide:(2:Int)≠0);exact cQX l _ _ q h
theorem OB {a:χ (Γ×Γ)}{q:Pl}(h:V0 a=some q):q.e≠0:=by unfold V0 at h;split at h;cases h;decide;exact cQX _ _ _ _ h
theorem GT:∀(l:χ (Γ×Γ))(a:Λ)(i:Nat),dE l a i=none->∀x∈l,jX x.1=true/\bB x.2=true/\x.2.length<=1048576
 |[],_,_,_,x,b=>by cases b
 |y::l,a,i,h,x,b=>by unfold dE at h;split at h;cases h;split at h;cases h;rename_i c d;have c:=Decidable.not_not.1 c;obtain rfl|b:=XI.1 b;exact⟨c.1,c.2.2,ω⟩;exact GT l _ _ h x b
theorem nI {l:Γ}(h:bB l=true):Y1 l:=by unfold bB at h;rw[Bool.or_eq_true] at h;obtain h|h:=h;exact .inl (WY h);exact .inr (by simpa using h)
theorem cQY {a:χ (Γ×Γ)}(h:V0 a=none)(f:∀x∈a,FileB x):a.length<=256/\∀x∈a,FileOk x:=by unfold V0 at h;split at h;cases h;rename_i i;refine⟨ω,λx c=>?_⟩;obtain⟨g,d,e⟩:=GT _ _ _ h x c;have b:=f x c;exact⟨b.n8,b.t8,b.nl,e,nI d⟩
theorem mQW {b d:θ}{a:Nat}{m:χ (ByteArray×τ)}(h:b.heap.size=a+1)(c:Mod (·=a) b d)(j:MapAt WE d a m):∃w0,Ext w0 d/\w0.heap.size=a+1/\MapAt WE w0 a m/\∀w,Ext w b->w.heap.size<=a->Ext w w0:=by obtain⟨f,g,k,l⟩:=j.ex;refine⟨{b with heap:=b.heap.setIfInBounds a (.map (Zw WE m f).toArray g)},⟨c.os,c.tape,c.output,?_,λi d _=>?_⟩,by simp[h],⟨f,g,k,?_⟩,λw b j=>⟨b.os,b.tape,b.output,?_,λi d f=>?_⟩⟩;simpa using c.size;simp only[Array.size_setIfInBounds] at d;simp only[Mt];by_cases e:a=i;subst e;rw[Qf rfl,Qf ω,l];rw[φ e];exact c.block i d λa=>e a.symm;simp[h];simpa using b.size;simp only[Mt];rw[φ ω];exact b.block i d f
theorem cQZ (nm:Λ)(Z:Θ)(nn nc:Nat)(k:χ (Γ×Γ))(V:Θ)(nf cf:Nat)(f:Γ)(w:θ)(hN:Sl w 1 Z nn nc (Xb nm))(Kq:KH nm)(hk:nm.length<=12)(hF:SlS ci 2 w V nf cf k)(xv:∀x∈k,FileB x)(ES:nf<=1000000000000)(cr:∀x∈f,x<256):Fn ψ 43 [.slice Z nn nc,.slice V nf cf,.string (Qb f)] w (cQW nm.length w (W0 nm k f)):=by
 refine Bz (c:={c43 with cuts:=[]}) Qe Tryz.func43 rfl rfl rfl ?_;refine JN (JC Qe ?_);refine new λo Qd Q0 Qh=>?_;refine new λw2 Qg XR Qs=>?_;have Q1:=Qd.trans Qg;refine JN (JC Qe ?_);refine call (bQe nm Z nn nc dx w2 (hN.ext Q1) Kq δ δ) ?_;rintro _ w3 ⟨G,mg,cG,rfl,D,hG⟩;have QT:=Q1.trans D;have qZ:=(Qh.ext Qg).ext D;have ET:=Qs.ext D;have C:o.heap.size≠w.heap.size:=by omega
 have eL:=mQV (nm:=nm);have y:W0 nm k f=if JG nm=false then .error ⟨30, -1,0⟩else match V0 k with|some p=>.error p|none=>match ZS (k.map (·.1)) f with|none=>.error ⟨73, -1,0⟩|some n=>Yc nm k 65 [] 0 n (λ_=>true) ⟨[],[],false⟩:=rfl
 rw[eL];cases Zb:JG nm with|false=>rw[Qf Zb] at y;refine iX δ (Qo qZ λw4 Vt _ QU=>?_);have ZQ:Mod (·=w.heap.size) w3 w4:=vQB Vt rfl;refine Qo (ET.mod ZQ C) λw5 Zx _ QC=>?_;have Zu:Mod (·=o.heap.size) w4 w5:=vQB Zx rfl;refine BB Qe rfl (.inl rfl) (Qm (QU.mod Zu C.symm) (Qm QC ?_));rw[y];exact⟨Zu.ext (ZQ.ext QT λi d=>ω) λi d=>ω,rfl⟩|true=>
  rw[φ (by rw[Zb];decide)] at y;refine KT rfl (JN (JC Qe ?_));refine call (mQP k V nf cf w3 (hF.ext QT) xv ES) ?_;rintro _ w4 ⟨rfl,Qq⟩;refine new λw5 QH KA QC=>?_;refine Qo QC λw6 Vg _ Xi=>?_;have X7:Ext w4 w6:=X1 QH QC Vg;have H:=Qq.trans X7;have I:=QT.trans H;have DB:=qZ.ext H;have DC:=ET.ext H;refine Qp Xi rfl ?_;cases Y:V0 k with
  |some q=>
   rw[Y] at y Xi;refine iX (OB Y) ?_;have n4:¬w4.heap.size=w.heap.size:=by have:=D.size;have:=Qq.size;omega
   have RO:¬w4.heap.size=o.heap.size:=by have:=Qq.size;have:=D.size;omega
   have r:=Ext.drew w6;refine Xw (λz=>Mod (λi=>i=w.heap.size∨i=o.heap.size) w6 z) 4 [(true,0),(true,1),(false,2),(false,3)] (Mod.of_ext _ r) (Xe (vs:=ja q) rfl (λz F j u hj=>by rw[(Xi.mod F λh=>h.elim n4 RO).cell];exact hj) (Qo (DB.ext r) λw7 Zn _ Q2=>?_));have XH:Mod (·=w.heap.size) w6.drew w7:=vQB Zn rfl;have DD:Mod (λi=>i=w.heap.size∨i=o.heap.size) w6 w7:=(Mod.of_ext _ r).trans XH λi d=>.inl (.inl d);refine⟨DD,?_⟩;refine Qo ((DC.ext r).mod XH C) λw8 Vi _ XP=>?_;have ZB:Mod (·=o.heap.size) w7 w8:=vQB Vi rfl;have td:=DD.trans ZB λi d=>.inl (.inr d);refine⟨td,?_⟩;refine BB Qe rfl (.inl rfl) (Qm (Q2.mod ZB C.symm) (Qm XP ?_));rw[y];exact⟨td.ext I (λi d=>by obtain rfl|rfl:=d <;>omega),rfl⟩
  |none=>
  rw[Y] at y;refine KT rfl ?_;obtain⟨Zj,iR⟩:=cQY Y xv;have Xr:=hF.2;refine JN (JC Qe ?_);refine Bl Qe WE rfl λw7 Xq aa cm=>?_;refine Bl Qe d9 rfl λw8 QY Wj J0=>?_;refine new λw9 Xm VL XX=>?_;have Yg:=QY.trans Xm;have gk:=Xq.trans Yg;have DE:=I.trans gk;have Ii:=J0.ext Xm;have C0:=cm.ext Yg;have tQu:KH (k.map (·.1)):=λs hs=>by obtain⟨x,J,rfl⟩:=Z5.1 hs;exact⟨(xv x J).n8,(xv x J).nl⟩
  have T:¬w8.heap.size=w6.heap.size:=by omega
  refine JN (JC Qe ?_);refine loop Qe [40] (λi:Nat=>[.int .i64 i]) (λi z=>Mod (·=w6.heap.size) w9 z/\MapAt WE z w6.heap.size (aB ((k.map (·.1)).take i) 0 [])/\i<=k.length) (λi _=>k.length-i) 0 rfl ⟨Mod.refl _ _,C0,Q9 _⟩ ?_;rintro i Qu ⟨A,Z7,uQr⟩;refine Ql (λc2=>?_) λc2=>?_;have d:i<nf:=by omega
  have jt:Ext w Qu:=A.ext DE (λi d=>by have:=I.size;omega);refine XG gU (hF.ext jt) rfl d λpp x J hc=>?_;refine Jm (vs:=ci x) rfl hc (new λQJ B kl ZC=>?_);refine Qo ZC λXk qk _ Kn=>?_;have zF:Ext Qu Xk:=X1 B ZC qk;have r:=Ext.drew Xk;have bS:=((XX.mod A T).ext zF).ext r;refine rL Qe 7 κ (Qx (v:=.map (some w6.heap.size)) (λz F=>by subst F;rw[bS.cell];rfl) (Qx (v:=.string (Qb x.1)) (λz F=>by subst F;rw[(Kn.ext r).cell];rfl) (po (kv:=WE) (a:=Qb x.1) Qe rfl rfl rfl rfl rfl vQD rfl rfl rfl ((Z7.ext zF).ext r) λZy Dm sU K=>?_)));have VJ:Mod (·=w6.heap.size) Xk.drew Zy:=vQB Dm rfl;refine QF i ?_;refine⟨i+1,rfl,⟨(A.trans (Mod.of_ext (·=w6.heap.size) (zF.trans r)) λ_=>.inl).trans VJ λ_=>.inl,?_,ω⟩,QL⟩;rw[aQ5 (s:=x.1) (by rw[Wy,J];rfl)];exact K;have oP:i=k.length:=by omega
  rw[oP,ZJ (by simp)] at Z7;have HZ:Mod (·=w6.heap.size) w7 Qu:=(Mod.of_ext _ Yg).trans A λ_=>.inl;obtain⟨w0,R,hws,hwm,hwe⟩:=mQW aa HZ Z7;have L:=XX.mod A T;have cX:=Ns tQu f cr;have nr6:¬w.heap.size=w6.heap.size:=by have:=H.size;have:=D.size;omega
  have rQW:¬o.heap.size=w6.heap.size:=by have:=H.size;have:=D.size;omega
  have M:=(DB.ext gk).mod A nr6;have N:=(DC.ext gk).mod A rQW;have jt:Ext w Qu:=A.ext DE (λi d=>by have:=I.size;omega);refine JN (JC Qe ?_);refine Qp L rfl ?_;refine Bx (kv:=WE) (a:=Qb f) (v:=.int .i64 ((ZS (k.map (·.1)) f).getD 0:Nat)) (b:=(ZS (k.map (·.1)) f).isSome) Qe rfl rfl rfl rfl rfl vQD rfl rfl Z7 (by rw[cX];cases ZS (k.map (·.1)) f<;>rfl) (by rw[cX];cases ZS (k.map (·.1)) f<;>rfl) (JN (JC Qe ?_));cases JL:ZS (k.map (·.1)) f with|none=>rw[JL] at y;refine Q3 rfl (Qo M λQJ dS _ ZC=>?_);have ZH:Mod (·=w.heap.size) Qu QJ:=vQB dS rfl;refine Qo (N.mod ZH C) λXk qk _ Kn=>?_;have co:Mod (·=o.heap.size) QJ Xk:=vQB qk rfl;refine BB Qe rfl (.inl rfl) (Qm (ZC.mod co C.symm) (Qm Kn ?_));rw[y];exact⟨co.ext (ZH.ext jt λi d=>ω) λi d=>ω,rfl⟩|some n=>
  rw[JL] at y;simp only at y;refine QX rfl ?_;have JP:n<k.length:=by have:=ld JL;simpa using this
  refine JN (FZ Qe rfl rfl rfl rfl ⟨_,_,_,_,rfl,rfl,?_⟩);refine JN (JC Qe ?_);refine call (fW true Qu) ?_;rintro _ QJ ⟨rfl,B⟩;let p:RP:=⟨w8.heap.size,w7.heap.size,w6.heap.size,Z,nn,nc,nm,V,nf,cf,k⟩
  let m:RM:=⟨none,0,none,0,[],.pointer none,λi=>i=w.heap.size∨i=o.heap.size⟩
  let v:RV:=⟨0,0,0,[],⟨[],[],false⟩⟩
  have rQX:Ext w6 w0:=hwe w6 Xq (Qw _);have O:Ext w w0:=I.trans rQX;have hP:RPok w0 p:=⟨hN.ext O,Kq,hk,hF.ext O,iR,hwm⟩
  have kl:=B.size;have rQG:=A.size;have ZY:Rr w0 QJ QJ.heap.size p m v:=by
   refine⟨R.trans B,?_,?_,?_,?_,?_,Qw _,.inl rfl,L.ext B,Own.nil _ _ _ _,Own.nil _ _ _ _,rfl,(λj s x hs=>by simp[v] at hs),?_,(Q9 _),(Q9 _),(λx J=>by cases J),λ_=>.inr rfl,(λi d=>by
    have:=H.size;have:=D.size;obtain d|d:=d <;>rw[d]<;>omega)⟩
   show w0.heap.size<=w8.heap.size;omega;show w0.heap.size<=w7.heap.size;omega;show w8.heap.size<QJ.heap.size;omega;show w7.heap.size<QJ.heap.size;omega;show w8.heap.size≠w7.heap.size;omega;refine⟨[],(Ii.mod A (by show¬w7.heap.size=w6.heap.size;omega)).ext B,by simp,λn=>by simp[Zc,v]⟩
  have rQY:DgO QJ (TS p m) p.nm.length ⟨none,0,0,[],1⟩ (λ_=>true):=⟨SlS.nil _,Y0 _ true,λad e=>by cases e⟩
  have rQZ:w0.heap.size<=QJ.heap.size:=(R.trans B).size;have xg:∀i,RS p m i->i=w8.heap.size∨i=w7.heap.size:=λi d=>by obtain d|d|⟨_,e,_⟩|⟨_,e,_⟩:=d;exact .inl d;exact .inr d;cases e;cases e
  have rQ0:=M.ext B;have rQ1:=N.ext B;have uQs:=H.size;have qg:=D.size;have E:∀z,Mod (RS p m) QJ z->Ext w z/\Blk z w.heap.size 41 (Ki (.agg #[.string ByteArray.empty,.slice none 0 0]))/\Blk z o.heap.size 93 (ja ⟨0,0,0⟩):=λz hm=>by
   refine⟨hm.ext (jt.trans B) λi d=>?_,rQ0.mod hm λd=>?_,rQ1.mod hm λd=>?_⟩;have:=I.size;obtain rfl|rfl:=xg i d <;>omega
   obtain e|e:=xg _ d <;>omega
   obtain e|e:=xg _ d <;>omega
  refine Zl (cQV w0 QJ.heap.size p hP rQZ 65 m v n ⟨none,0,0,[],1⟩ (λ_=>true) QJ ZY rQY JP (λh=>by cases h) (Q9 _) (Qw _)) ?_ ?_;rotate_left;rintro ch Xk ⟨q,hq,rfl,Y8⟩;have hq:Yc nm k 65 [] 0 n (λ_=>true) ⟨[],[],false⟩= .error q:=hq;rw[hq] at y;obtain⟨XS,DF,RQ⟩:=E Xk Y8;refine dz Qe rfl rfl (args:= #[.pointer (some ⟨w.heap.size,0,none⟩),.pointer (some ⟨o.heap.size,0,none⟩)]) (by simp) ((mQT _ _ q Xk _ _ rfl rfl C.symm DF RQ).mono ?_);rintro e u' Zy ⟨v,rfl,DG,sJ⟩;refine⟨v,rfl,DG,?_⟩;refine Qm sJ.1 (Qm sJ.2.1 ?_);rw[y];exact⟨sJ.2.2.ext XS (λi d=>by obtain rfl|rfl:=d <;>omega),rfl⟩;rintro _ Xk ⟨g',Wb,t,iS,l,Y8,_,_⟩;have Wb:Yc nm k 65 [] 0 n (λ_=>true) ⟨[],[],false⟩= .ok g':=Wb;rw[Wb] at y;obtain⟨XS,DF,RQ⟩:=E Xk Y8;refine JN (JC Qe ?_);have nb:=l.nrow.2;have uQt:=l.rb;have uQu:=l.top;have kF:∀i,Qj t.BA i->QJ.heap.size<=i:=λi d=>(l.txt.rows i d).1;have S:¬(Qj t.BA w8.heap.size∨w8.heap.size=w.heap.size∨w8.heap.size=o.heap.size):=λh=>by obtain h|h|h:=h;exact nb h;omega;omega
  have r:=Ext.drew Xk;refine Xw (Mod (λi=>Qj t.BA i∨i=w.heap.size∨i=o.heap.size) Xk) 12 ((true,0)::(true,1)::(true,2)::(oz 4 4 [(true,9),(false,3),(true,8),(false,10),(false,11)])) (Mod.of_ext _ r) (Qx (v:=.slice t.OA g'.sg.length t.oc) (λz F=>by rw[(l.blk.mod F S).cell];rfl) ?_);have VR:=l.tl;refine call (mQk QJ.heap.size w8.heap.size 157 5 (pJ p t {v with g:=g'}) t.BA t.bc g'.tx Xk.drew (l.blk.ext r) rfl (l.txt.ext r) l.b8 (by simp only at VR;omega)) ?_;rintro _ Zy ⟨rfl,K⟩;have VJ:Mod (λi=>Qj t.BA i∨i=w.heap.size∨i=o.heap.size) Xk Zy:=(Mod.of_ext _ r).trans K λi d=>.inl (.inl d);refine⟨VJ,?_⟩;have nsB:¬Qj t.BA w.heap.size:=λh=>by have:=kF _ h;omega
  have npB:¬Qj t.BA o.heap.size:=λh=>by have:=kF _ h;omega
  refine Qo ((DF.ext r).mod K nsB) λZe lD _ Ko=>?_;have cq:Mod (·=w.heap.size) Zy Ze:=vQB lD rfl;have P:=VJ.trans cq λi d=>.inl (.inr (.inl d));refine⟨P,?_⟩;refine Qo (((RQ.ext r).mod K npB).mod cq C) λJu rQ2 _ kn=>?_;have Q:Mod (·=o.heap.size) Ze Ju:=vQB rQ2 rfl;have W:=P.trans Q λi d=>.inl (.inr (.inr d));refine⟨W,?_⟩;have RR:=Ko.mod Q C.symm;refine JC Qe (yq Qe rfl rfl (.inl rfl) (args:= #[.pointer (some ⟨w.heap.size,0,none⟩),.pointer (some ⟨o.heap.size,0,none⟩)]) (by simp) ((mQU _ _ Ju).mono ?_));rintro e u' KC ⟨u,rfl,RT,X⟩;refine⟨u,rfl,RT,?_⟩;refine Qm (RR.ext X) (Qm (kn.ext X) ?_);rw[y];have Zi:Ext w Ju:=W.ext XS (λi d=>by
   obtain d|rfl|rfl:=d;have:=kF _ d;omega;exact Qw _;omega)
  have nO:∀i,Qj t.OA i->¬(Qj t.BA i∨i=w.heap.size∨i=o.heap.size):=λi d h=>by have:=(l.out.rows i d).1;obtain h|rfl|rfl:=h;exact l.out.apart l.txt δ d h;omega;omega
  refine⟨Zi.trans X,⟨l.b8,l.tl,l.sl⟩,t.OA,t.oc,t.L,rfl,SgIn.ext ⟨(l.out.mod W nO).sl,rfl,l.len,λj s x h1 h2=>?_⟩ X⟩;have U:=l.dgs j s x h1 h2;refine⟨SB.modo U.sb W λad e h0 h=>?_,U.st⟩;obtain h|h|h:=h;exact U.off ad e h0 (.inl (.inr (.inr (.inr h))));exact U.off ad e h0 (.inr (by rw[iS];exact .inl h));exact U.off ad e h0 (.inr (by rw[iS];exact .inr h))
end
def jb (c:Nat):Nat->Bool:=λi=>decide (c/2^i % 2=1)
theorem cQ0 (x:Nat)(a:x<18446744073709551616):IntKind.u64.wrap ((BitVec.ofInt 64 (x:Int) &&& BitVec.ofInt 64 1).toNat)=((x % 2:Nat):Int):=by
 have e:(BitVec.ofInt 64 (x:Int) &&& BitVec.ofInt 64 1).toNat=x % 2:=by rw[BitVec.ofInt_natCast,show BitVec.ofInt 64 1=BitVec.ofNat 64 1 from rfl,BitVec.toNat_and,BitVec.toNat_ofNat,BitVec.toNat_ofNat];rw[mR ω,show 1 % 2^64=1 by decide,Nat.and_one_is_mod]
 rw[e];obtain h|h:=(show x % 2=0∨x % 2=1 by omega) <;>rw[h]<;>decide
def GU (l:Γ)(k:Nat):Bool:=decide (k/8<l.length)&&decide ((l[k/8]?.getD 0)/2^(k % 8) % 2=1)
def fk (l:Γ):Nat->Nat->Nat->(Nat->Bool)->Bool|0,_,k,_=>GU l k|d+1,v,k,e=>if e v then fk l d (v+1) (k+2^v) e else fk l d (v+1) k e
theorem OC {a:χ Br}(c:dB a){k:Nat}(f:VIn k a)(g:∀b∈a,0<=b.v){e d:Nat->Bool}(h:∀i,i<k->e i=d i):∀(m:Nat)(n:Int),n.toNat<m->n<a.length+2->ev a n e=ev a n d|0,n,j,_=>by omega|m+1,n,j,l=>by by_cases a:n<2;rw[VY a,VY a];obtain⟨b,d⟩:=em a l;obtain⟨j,l,o,p⟩:=c _ _ d;have j:=Xd d;have l:=f b j;have l:=g b j;rw[gR c a d,gR c a d,OC c f g h m b.h ω ω,OC c f g h m b.l ω ω,h b.v.toNat ω]
theorem mQX (x:Fz)(i:Nat)(w:θ):Fn ψ 254 [.agg x.cells.toArray,.int .i64 i] w (λv e=>v= .bool (decide (KI x i))/\Ext w e):=by
 refine QK kQl [2,4] Tryz.func254 ?_;refine new λw1 l b a=>?_;replace a:Blk w1 w.heap.size 280 x.cells:=a;refine QQ a rfl (call (cQf x.o w1) ?_);rintro _ _ ⟨rfl,rfl⟩;have d:¬KI x i->(Value.bool false= .bool (decide (KI x i)))/\Ext w w1:=λh=>⟨by rw[XZ h],l⟩
 have b:=rQ x.o;refine cL [] Qe [] (λ_:Unit=>[]) (λ_ e=>w1=e/\0<=Zt x.o/\(if x.o=2 then 0<=x.v/\x.v<64 else x.v=0)) ?_ ?_;refine Ql (λf=>?_) λf=>?_;exact d (λh=>by have:=h.1;omega);refine QQ a rfl (Ya (λc=>?_) λc=>?_);refine Qp a rfl (Ya (λb=>?_) λb=>?_);exact d (λh=>by have:=h.2.1;rw[φ c] at this;exact b this);refine Qp a rfl (XB ω (Qp a rfl (XB ω ?_)));exact⟨(),rfl,rfl,ω,by rw[φ c];exact b⟩;refine Qp a rfl (Ql (λb=>?_) λb=>?_);exact d (λh=>by have:=h.2.1;rw[Qf c] at this;omega);refine Qp a rfl (Ql (λg=>?_) λg=>?_);exact d (λh=>by have:=h.2.1;rw[Qf c] at this;omega);exact⟨(),rfl,rfl,ω,by rw[Qf c];omega⟩;rintro⟨⟩ _ ⟨rfl,j,k⟩;refine cL [] Qe [] (λ_:Unit=>[]) (λ_ e=>w1=e/\(Zt x.o<=0->x.a=0)/\(Zt x.o<=1->x.b=0)) ?_ ?_;refine Ql (λf=>?_) λf=>?_;refine Qp a rfl (Ya (λc=>?_) λc=>?_);exact d (λh=>by have:=h.2.2.1;rw[φ ω] at this;exact c this);refine Zm (show Zt x.o<2 by omega) (Qp a rfl (Ya (λb=>?_) λb=>?_));exact d (λh=>by have:=h.2.2.2;rw[φ ω] at this;exact b this);exact⟨(),rfl,rfl,λ_=>c,λ_=>b⟩;refine Ql (λc=>?_) λc=>?_;refine Qp a rfl (Ya (λb=>?_) λb=>?_);exact d (λh=>by have:=h.2.2.2;rw[φ ω] at this;exact b this);exact⟨(),rfl,rfl,λh=>ω,λ_=>b⟩;exact⟨(),rfl,rfl,λh=>ω,λh=>ω⟩;rintro⟨⟩ _ ⟨rfl,n,m⟩;have e:KI x i->(Value.bool true= .bool (decide (KI x i)))/\Ext w w1:=λh=>⟨by rw[Zg h],l⟩
 refine Ql (λf=>?_) λf=>?_;refine Qp a rfl (Ql (λc=>?_) λc=>?_);exact d (λh=>by have:=h.2.2.1;rw[Qf ω] at this;omega);refine Qp a rfl (Ql (λb=>?_) λb=>?_);exact d (λh=>by have:=h.2.2.1;rw[Qf ω] at this;omega);refine Ql (λg=>?_) λg=>?_;refine Qp a rfl (Ql (λb=>?_) λb=>?_);exact d (λh=>by have:=h.2.2.2;rw[Qf ω] at this;omega);refine Qp a rfl (Ql (λb=>?_) λb=>?_);exact d (λh=>by have:=h.2.2.2;rw[Qf ω] at this;omega);exact e ⟨j,k,by rw[Qf ω];omega,by rw[Qf ω];omega⟩;exact e ⟨j,k,by rw[Qf ω];omega,by rw[φ ω];exact m ω⟩;exact XB (show¬Zt x.o>1 by omega) (e ⟨j,k,by rw[φ ω];exact n ω,by rw[φ ω];exact m ω⟩)
def j0 (l:Γ)(n:Nat):Γ:=(List.range n).map λj=>l.count j
theorem GV (l:Γ){n j:Nat}(a:j<n):(j0 l n)[j]? =some (l.count j):=by simp[j0,a]
theorem OD (l:Γ)(n:Nat):(j0 l n).length=n:=by simp[j0]
theorem OE (l:Γ)(n k:Nat):(j0 l n).set k (l.count k+1)=j0 (l++ [k]) n:=by unfold j0;apply Ms;simp;intro i a b;simp at a;simp only[List.getElem_set,List.getElem_map,List.getElem_range,AR];split;rename_i h;subst h;simp;rename_i h;rw[U4 λe=>h e];simp
theorem mQY (n:Nat):gO (j0 [] n)=List.replicate n (.int .i64 0):=by unfold gO j0;apply Ms;simp;intro i a b;simp
theorem cQ1:∀l:χ Fz,(Z1 l).length<=2*l.length
 |[]=>by simp[Z1]
 |x::l=>by
  have a:=cQ1 l;have e:Z1 (x::l)=VF x++Z1 l:=by simp[Z1]
  have:(VF x).length<=2:=by
                   unfold VF;split;· simp
                   split<;>simp
  rw[e,Qy,Xa];omega
theorem mQZ (A:Θ)(n c:Nat)(f:χ Fz)(w:θ)(h:SF w A n c f):Fn ψ 240 [.slice A n c] w (λv l=>v= .int .i64 (BD f)/\Ext w l):=by
 have Xr:=h.2;refine QK kQd [4] Tryz.func240 ?_;refine Ql (λh1=>?_) λh1=>?_;exact⟨by rw[rR λu=>by have:=u.2.1;omega],Ext.refl w⟩;refine Ql (λh2=>?_) λh2=>?_;exact⟨by rw[rR λu=>by have:=u.1;omega],Ext.refl w⟩;refine yg Qe rfl rfl rfl rfl rfl rfl rfl rfl (by show 8*n<=_;omega) (by unfold maxLen;omega) λC J Q0 Qh=>?_;have Z:Blk C w.heap.size 3 (gO (j0 (Z1 (f.take 0)) n)):=by rw[show Z1 (f.take 0)=[] from rfl,mQY];exact Qh
 refine cL [] Qe [] (λ_:Unit=>[]) (λ_ l=>Mod (·=w.heap.size) C l/\Blk l w.heap.size 3 (gO (j0 (Z1 f) n))/\∀j x,j<n->f[j]? =some x->KI x j) ?_ ?_
 ·refine loop Qe [4] (λs:Nat=>[.int .i64 s]) (λs l=>Mod (·=w.heap.size) C l/\Blk l w.heap.size 3 (gO (j0 (Z1 (f.take s)) n))/\s<=n/\∀j x,j<s->f[j]? =some x->KI x j) (λs _=>n-s) 0 rfl ⟨Mod.refl _ _,Z,Q9 _,λj x q=>Xg q ω⟩ ?_;rintro s w2 ⟨B,z,hs,g⟩;have o:Ext w w2:=B.ext J λi R=>ω;refine Ql (λQ=>?_) λQ=>?_
  ·have t:s<n:=by omega
   refine XG kW (h.ext o) rfl t λp x d hc=>?_;refine Jm (vs:=x.cells) rfl hc (call (mQX x s w2) ?_);rintro _ w3 ⟨rfl,E⟩;by_cases F:KI x s;rotate_left;refine bj (XB F ?_);exact⟨by rw[rR (bQj d F)],o.trans E⟩;refine bj (Zm F ?_);have I:=o.trans E;have N:Mod (·=w.heap.size) C w3:=B.trans (Mod.of_ext (·=w.heap.size) E) λ_=>.inl;have D:=z.ext E;refine XG kW (h.ext I) rfl t λp' x' Yx JW=>?_;have m:x'=x:=Option.some.inj (Yx.symm.trans d);subst m;refine load (JW 0 _ rfl) (call (cQf x'.o w3) ?_);rintro _ _ ⟨rfl,rfl⟩;obtain⟨g0,g1,P,U⟩:=F;have G:∀j y,j<s+1->f[j]? =some y->KI y j:=λj y q W=>by
    by_cases M:j<s;exact g j y M W;have:j=s:=by omega
    subst this;rw[Option.some.inj (W.symm.trans d)];exact⟨g0,g1,P,U⟩
   have Zj:(Z1 (f.take s)).length<=1024:=by have:=cQ1 (f.take s);rw[KR] at this;omega
   have T:∀k,(Z1 (f.take s)).count k<=1024:=λk=>XU (Fk) Zj;have K:=bQh f d;obtain⟨_,e⟩|⟨_,e⟩|⟨_,e⟩|⟨e,_⟩:=rQ x'.o
   have DH:VF x'=[]:=by unfold VF;rw[e]<;>rfl
   refine XB (show¬Zt x'.o>0 by omega) (XB (show¬Zt x'.o>1 by omega) (Qz ((s+1:Nat):Int) ?_));exact⟨s+1,rfl,⟨N,by rw[K,DH,YE];exact D,ω,G⟩,QL⟩;have qm:VF x'=[x'.a.toNat]:=by unfold VF;rw[e]<;>rfl
   rw[Qf ω] at P;refine Zm (show Zt x'.o>0 by omega) (XG kW (h.ext I) rfl t λp2 x2 S L=>?_);have m:x2=x':=Option.some.inj (S.symm.trans d);subst m;refine load (L 2 _ rfl) (nu (j:=x2.a.toNat) ω ω (Qp D (yr (GV _ ω)) ?_));have nR:=T x2.a.toNat;refine Qz (((Z1 (f.take s)).count x2.a.toNat+1:Nat):Int) (nu (j:=x2.a.toNat) ω ω (Xv D (by rw[Ga,OD];omega) λw4 O r=>?_));rw[<-Gb,OE] at r;refine XB (show¬Zt x2.o>1 by omega) (Qz ((s+1:Nat):Int) ?_);exact⟨s+1,rfl,⟨N.trans O λ_=>.inl,by rw[K,qm];exact r,ω,G⟩,QL⟩;have V3:VF x'=[x'.a.toNat,x'.b.toNat]:=by unfold VF;rw[e]<;>rfl
   rw[Qf ω] at P U;refine Zm (show Zt x'.o>0 by omega) (XG kW (h.ext I) rfl t λp2 x2 S L=>?_);have m:x2=x':=Option.some.inj (S.symm.trans d);subst m;refine load (L 2 _ rfl) (nu (j:=x2.a.toNat) ω ω (Qp D (yr (GV _ ω)) ?_));have nR:=T x2.a.toNat;refine Qz (((Z1 (f.take s)).count x2.a.toNat+1:Nat):Int) (nu (j:=x2.a.toNat) ω ω (Xv D (by rw[Ga,OD];omega) λw4 O r=>?_));rw[<-Gb,OE] at r;have X:Mod (·=w.heap.size) C w4:=N.trans O λ_=>.inl;have X4:Ext w w4:=X.ext J λi R=>ω;refine Zm (show Zt x2.o>1 by omega) (XG kW (h.ext X4) rfl t λp3 b Dn gl=>?_);have m:b=x2:=Option.some.inj (Dn.symm.trans d);subst m;refine load (gl 3 _ rfl) (nu (j:=b.b.toNat) ω ω (Qp r (yr (GV _ ω)) ?_));have tf:(Z1 (f.take s)++ [b.a.toNat]).count b.b.toNat<=1025:=XU Fk (by simp;omega);refine Qz (((Z1 (f.take s)++ [b.a.toNat]).count b.b.toNat+1:Nat):Int) (nu (j:=b.b.toNat) ω ω (Xv r (by rw[Ga,OD];omega) λw5 Zu Y=>?_));rw[<-Gb,OE] at Y;refine Qz ((s+1:Nat):Int) ?_;exact⟨s+1,rfl,⟨X.trans Zu λ_=>.inl,by rw[K,V3,show Z1 (f.take s)++ [b.a.toNat,b.b.toNat]=Z1 (f.take s)++ [b.a.toNat]++ [b.b.toNat] by simp];exact Y,ω,G⟩,QL⟩;omega
  have:s=n:=by omega
  subst this;rw[ZJ ω] at z;exact⟨(),rfl,B,z,g⟩
 rintro⟨⟩ w2 ⟨B,z,g⟩;have o:Ext w w2:=B.ext J λi R=>ω;refine loop Qe [6] (λs:Nat=>[.int .i64 s]) (λs l=>w2=l/\s<=n/\∀j,j<s->j+1<n->(Z1 f).count j=1) (λs _=>n-s) 0 rfl ⟨rfl,Q9 _,λj q=>Xg q ω⟩ ?_;rintro s _ ⟨rfl,hs,a⟩;refine Ql (λQ=>?_) λQ=>?_;refine Qz ((n-1:Nat):Int) (Ql (λh4=>?_) λh4=>?_);refine index (j:=s) ω (Qp z (yr (GV _ ω)) (Ya (λV=>?_) λV=>?_));exact⟨by rw[rR λu=>V (by have:=u.2.2.2 s ω;omega)],o⟩;refine Qz ((s+1:Nat):Int) ?_;refine⟨s+1,rfl,⟨rfl,ω,λj q H=>?_⟩,QL⟩;by_cases M:j<s;exact a j M H;have:j=s:=by omega
 subst this;omega;refine Qz ((s+1:Nat):Int) ?_;exact⟨s+1,rfl,⟨rfl,ω,λj q H=>a j ω H⟩,QL⟩;refine⟨?_,o⟩;rw[F3 ⟨ω,ω,λi x d=>g i x (by have:=(ZK.1 d).1;omega) d,λi R=>a i ω ω⟩]
end
section
def jd (w:θ)(k:Nat)(o:(Nat->Bool)->Bool)(v:τ)(a:θ):Prop:=∃A n c b r,v=Q5 A n c r/\Ext w a/\SB a A n c b/\Set1 k b r o/\∀i,Qj A i->w.heap.size<=i
def r5 (w:θ)(k:Nat)(o:(Nat->Bool)->Bool)(v:τ)(a:θ):Prop:=∃A n c b r,v= .tuple #[Q5 A n c r,.int .i64 0]/\Ext w a/\SB a A n c b/\Set1 k b r o/\∀i,Qj A i->w.heap.size<=i
theorem vo (b:Bool)(w:θ):Fn ψ 29 [.bool b] w (λv a=>v=Q5 none 0 0 (if b then 1 else 0)/\Ext w a):=by refine QK c29 [] Tryz.func29 ?_;refine new λc e d a=>?_;cases b with|true=>refine Q3 rfl ?_;refine Qo a λf c _ d=>?_;refine Qm d ?_;exact⟨rfl,X1 e a c⟩|false=>refine QX rfl ?_;refine Qo a λf c _ d=>?_;refine Qm d ?_;exact⟨rfl,X1 e a c⟩
section
variable {k:Nat} (hk:k<=12)
include hk
theorem OF {a b:χ Br}{i j:Int}{o l:(Nat->Bool)->Bool}(A:Θ)(n c:Nat)(B:Θ)(m d:Nat)(f:Int)(r:f≠3/\f≠4)(w:θ)(h:SB w A n c a)(p:SB w B m d b)(s:Set1 k a i o)(g:Set1 k b j l):Fn ψ 58 [Q5 A n c i,Q5 B m d j,.int .i64 f] w (jd w k λe=>J5 f (o e) (l e)):=by have l:=s.len hk;have l:=g.len hk;have l:=h.2;have l:=p.2;have l:=yz s.vd g.vd f;have l:(a.length+2)*(b.length+2)<=4098*4098:=Fr ω ω;refine(NE A n c a i B m d b j f w h p s.vd.dok g.vd.dok s.vd.2.1 (by have:=s.vd.2.2.1;omega) g.vd.2.1 (by have:=g.vd.2.2.1;omega) ω ω ω ω r).mono ?_;rintro v t ⟨i,q,j,rfl,l,p,r⟩;exact⟨i,q,j,_,_,rfl,l,p,fj s g f,r⟩
theorem mQ0 {a b:χ Br}{f g:Int}{o j:(Nat->Bool)->Bool}(A:Θ)(n c:Nat)(B:Θ)(m d:Nat)(w:θ)(h:SB w A n c a)(l:SB w B m d b)(s:Set1 k a f o)(p:Set1 k b g j):Fn ψ 66 [Q5 A n c f,Q5 B m d g] w (jd w k λe=>J5 1 (o e) (j e)):=by refine QK c66 [] Tryz.func66 ?_;refine new λf t g u=>?_;refine new λv j f x=>?_;refine new λy f g z=>?_;have g:=(t.trans j).trans f;refine Qm ((u.ext j).ext f) ?_;refine Qm (x.ext f) ?_;refine call (OF hk A n c B m d 1 δ y (h.ext g) (l.ext g) s p) ?_;rintro _ f ⟨t,q,u,x,r,rfl,j,y,C,l⟩;refine Qo (z.ext j) λw5 D _ E=>?_;have p:Mod (·=v.heap.size) f w5:=vQB D rfl;refine Qm E ?_;exact⟨t,q,u,x,r,rfl,p.ext (g.trans j) λi f=>ω,y.mod p (λi f e=>by have:=l i f;omega),C,λi f=>by have:=l i f;omega⟩
theorem vp {a b:χ Br}{f g:Int}{o j:(Nat->Bool)->Bool}(A:Θ)(n c:Nat)(B:Θ)(m d:Nat)(w:θ)(h:SB w A n c a)(l:SB w B m d b)(s:Set1 k a f o)(p:Set1 k b g j):Fn ψ 22 [Q5 A n c f,Q5 B m d g] w (jd w k λe=>J5 0 (o e) (j e)):=by refine QK c22 [] Tryz.func22 ?_;refine new λf t g u=>?_;refine new λv j f x=>?_;refine new λy f g z=>?_;have g:=(t.trans j).trans f;refine Qm ((u.ext j).ext f) ?_;refine Qm (x.ext f) ?_;refine call (OF hk A n c B m d 0 δ y (h.ext g) (l.ext g) s p) ?_;rintro _ f ⟨t,q,u,x,r,rfl,j,y,C,l⟩;refine Qo (z.ext j) λw5 D _ E=>?_;have p:Mod (·=v.heap.size) f w5:=vQB D rfl;refine Qm E ?_;exact⟨t,q,u,x,r,rfl,p.ext (g.trans j) λi f=>ω,y.mod p (λi f e=>by have:=l i f;omega),C,λi f=>by have:=l i f;omega⟩
theorem cQ2 {a:χ Br}{b:Int}{o:(Nat->Bool)->Bool}(A:Θ)(n c:Nat)(w:θ)(h:SB w A n c a)(s:Set1 k a b o):Fn ψ 59 [Q5 A n c b] w (jd w k λe=> !o e):=by refine QK c59 [] Tryz.func59 ?_;refine new λm l d p=>?_;refine new λd g f t=>?_;have f:=l.trans g;have l:=p.ext g;refine Xw (Ext d) 3 [(true,0),(false,1),(false,2)] (Ext.drew d) ?_;refine Xe (vs:=[.slice A n c,.int .i64 b]) rfl (λu g j v p=>by have:=(l.ext g).cell j;rw[this];exact p) ?_;refine call (vo true _) ?_;rintro _ g ⟨rfl,l⟩;have b:=(Ext.drew d).trans l;refine⟨b,?_⟩;have d:Set1 k [] 1 (λ_=>true):=Y0 k true;refine call (OF hk A n c none 0 0 2 δ g (h.ext (f.trans b)) (SlS.nil _) s d) ?_;rintro _ p ⟨u,q,x,y,r,rfl,l,z,B,g⟩;have d:=b.trans l;refine⟨d,?_⟩;have l:=(f.trans b).size;refine Qo (t.ext d) λw5 C _ D=>?_;have l:Mod (·=m.heap.size) p w5:=vQB C rfl;refine Qm D ?_;have m:=b.size;exact⟨u,q,x,y,r,rfl,l.ext (f.trans d) λi b=>ω,z.mod l (λi b e=>by have:=g i b;omega),B.congr (λe=>by cases o e<;>rfl),λi b=>by have:=g i b;omega⟩
theorem OG {a b:χ Br}{g l:Int}{o f:(Nat->Bool)->Bool}(A:Θ)(n c:Nat)(B:Θ)(m d:Nat)(w:θ)(h:SB w A n c a)(x:SB w B m d b)(s:Set1 k a g o)(y:Set1 k b l f):Fn ψ 23 [Q5 A n c g,Q5 B m d l] w (jd w k λe=>o e && !f e):=by refine QK c23 [] Tryz.func23 ?_;refine new λf z p C=>?_;refine new λD u f E=>?_;refine new λf p t F=>?_;have t:=(z.trans u).trans p;have z:=(C.ext u).ext p;have C:=E.ext p;refine Xw (Ext f) 4 [(true,0),(true,1),(false,2),(false,3)] (Ext.drew f) ?_;refine Xe (vs:=[.slice A n c,.int .i64 g]) rfl (λE p j v u=>by have:=(z.ext p).cell j;rw[this];exact u) ?_;refine Xe (vs:=[.slice B m d,.int .i64 l]) rfl (λE p j v u=>by have:=(C.ext p).cell j;rw[this];exact u) ?_;refine call (cQ2 hk B m d _ (x.ext (t.trans (Ext.drew f))) y) ?_;rintro _ l ⟨p,u,x,g,E,rfl,y,z,C,_⟩;have g:=(Ext.drew f).trans y;refine⟨g,?_⟩;refine call (vp hk A n c p u x l (h.ext (t.trans g)) z s C) ?_;rintro _ f ⟨u,q,x,y,r,rfl,z,C,E,p⟩;have l:=g.trans z;refine⟨l,?_⟩;have z:=g.size;refine Qo (F.ext l) λw6 z _ G=>?_;have g:Mod (·=D.heap.size) f w6:=vQB z rfl;refine Qm G ?_;exact⟨u,q,x,y,r,rfl,g.ext (t.trans l) λi f=>ω,C.mod g (λi f e=>by have:=p i f;omega),E.congr (λe=>by simp[J5]),λi f=>by have:=p i f;omega⟩
theorem mQ1 {a:χ Br}{b:Int}{o:(Nat->Bool)->Bool}(A:Θ)(n c:Nat)(w:θ)(h:SB w A n c a)(s:Set1 k a b o):Fn ψ 241 [Q5 A n c b] w (r5 w k λe=> !o e):=by refine QK kQe [] Tryz.func241 ?_;refine new λr f d m=>?_;refine new λl d g p=>?_;have j:=f.trans d;have g:=m.ext d;refine Qm g ?_;refine call (NB A n c a b l (h.ext j)) ?_;rintro _ b ⟨rfl,f⟩;refine KT (s.chk hk) ?_;have d:=j.trans f;refine Qm (g.ext f) ?_;refine call (cQ2 hk A n c b (h.ext d) s) ?_;rintro _ t ⟨u,v,x,d,g,rfl,b,y,m,z⟩;have B:=f.trans b;have b:=m.len hk;refine call (bQx u v x d g l t y (λi b=>by have:=z i b;have:=f.size;omega) B) ?_;rw[show ei (d,g)=((d,g),0) from φ (by show¬4096<d.length;omega)];rintro _ t ⟨u,q,v,rfl,f,x,l⟩;refine Qo (p.ext f) λw6 y _ z=>?_;have p:Mod (·=r.heap.size) t w6:=vQB y rfl;refine Qm z ?_;exact⟨u,q,v,d,g,rfl,p.ext (j.trans f) λi b=>ω,SB.mod x p (λi b e=>by have:=l i b;omega),m,λi b=>by have:=l i b;omega⟩
theorem mQ2 {a b:χ Br}{g j:Int}{o l:(Nat->Bool)->Bool}(A:Θ)(n c:Nat)(B:Θ)(m d:Nat)(w:θ)(h:SB w A n c a)(t:SB w B m d b)(s:Set1 k a g o)(f:Set1 k b j l):Fn ψ 242 [Q5 A n c g,Q5 B m d j] w (r5 w k λe=>J5 0 (o e) (l e)):=by have l:=yz s.vd f.vd 0;have l:=s.len hk;have l:=f.len hk;have l:(a.length+2)*(b.length+2)<=4098*4098:=Fr ω ω;refine QK kQf [] Tryz.func242 ?_;refine new λl u p v=>?_;refine new λx r l y=>?_;refine new λz l p C=>?_;have p:=(u.trans r).trans l;refine Qm ((v.ext r).ext l) ?_;refine Qm (y.ext l) ?_;refine call (bQC A n c a g B m d b j 0 z (h.ext p) (t.ext p) (λ_ _=>ω) δ) ?_;rw[i9 hk s f 0];rintro _ g ⟨t,q,u,rfl,j,v,l⟩;refine Qo (C.ext j) λw5 y _ z=>?_;have r:Mod (·=x.heap.size) g w5:=vQB y rfl;refine Qm z ?_;exact⟨t,q,u,_,_,rfl,r.ext (p.trans j) λi g=>ω,SB.mod v r (λi g e=>by have:=l i g;omega),fj s f 0,λi g=>by have:=l i g;omega⟩
theorem mQ3 {a b:χ Br}{g j:Int}{o l:(Nat->Bool)->Bool}(A:Θ)(n c:Nat)(B:Θ)(m d:Nat)(w:θ)(h:SB w A n c a)(t:SB w B m d b)(s:Set1 k a g o)(f:Set1 k b j l):Fn ψ 243 [Q5 A n c g,Q5 B m d j] w (r5 w k λe=>J5 1 (o e) (l e)):=by have l:=yz s.vd f.vd 1;have l:=s.len hk;have l:=f.len hk;have l:(a.length+2)*(b.length+2)<=4098*4098:=Fr ω ω;refine QK kQg [] Tryz.func243 ?_;refine new λl u p v=>?_;refine new λx r l y=>?_;refine new λz l p C=>?_;have p:=(u.trans r).trans l;refine Qm ((v.ext r).ext l) ?_;refine Qm (y.ext l) ?_;refine call (bQC A n c a g B m d b j 1 z (h.ext p) (t.ext p) (λ_ _=>ω) δ) ?_;rw[i9 hk s f 1];rintro _ g ⟨t,q,u,rfl,j,v,l⟩;refine Qo (C.ext j) λw5 y _ z=>?_;have r:Mod (·=x.heap.size) g w5:=vQB y rfl;refine Qm z ?_;exact⟨t,q,u,_,_,rfl,r.ext (p.trans j) λi g=>ω,SB.mod v r (λi g e=>by have:=l i g;omega),fj s f 1,λi g=>by have:=l i g;omega⟩
end
theorem GW {k v:Nat}(a:v<k)(c:k<=64):Set1 k [⟨(v:Nat),0,1⟩] 2 (λe=>e v):=⟨Gn ω ω,λb a=>by simp only[Xx] at a;subst a;show((v:Nat):Int)<k;omega,λe=>by
 rw[gR (Gn (k:=((v:Nat):Int)) ω ω).wf δ (b:=⟨(v:Nat),0,1⟩) rfl,VY (by simp),VY (by simp)];cases h:e v<;>simp[h]⟩
end
noncomputable section
section
structure Sx where
 f:Int
 t:Int
 fl:Int
 at_:Int
 x:DV
def Sx.cells (y:Sx):χ τ:=[.int .i64 y.f,.int .i64 y.t,.int .i64 y.fl,.int .i64 y.at_,.slice y.x.A y.x.n y.x.c,.int .i64 y.x.r]
theorem Cu (y:Sx):y.cells.length=6:=rfl
structure SX (w:World) (A:Θ) (n c:Nat) (L:List Sx):Prop where
 sl:SlS Sx.cells 6 w A n c L
 dg:∀y∈L,SB w y.x.A y.x.n y.x.c y.x.nd
theorem SX.ext {w a:θ}{A:Θ}{n c:Nat}{L:χ Sx}(h:SX w A n c L)(k:Ext w a):SX a A n c L:=⟨h.sl.ext k,λy a=>(h.dg y a).ext k⟩
end
section
theorem OH {α:Type}{l:χ α}{i:Nat}{x:α}(h:l[i]? =some x):l.drop i=x::l.drop (i+1):=by obtain⟨a,rfl⟩:=ZK.1 h;exact VU a
end
section
abbrev I2:=Int×Int
abbrev lq:I2->Value:=λt=>.agg #[.int .i64 t.1,.int .i64 t.2]
theorem mQ4 (a b:I2)(n:Nat)(w:θ):(Op.equalIn (n+2) 253 (lq a) (lq b)).run ψ w= .ok (decide (a=b)) w:=by
 obtain⟨i,h⟩:=U7.1 (show(ψ.info? 3).isSome=true by kernel_rfl);obtain⟨c,d⟩:=a;obtain⟨f,g⟩:=b;have e:=run_equalIn_array (w:=w) (n+1) #[.int .i64 c,.int .i64 d] #[.int .i64 f,.int .i64 g] Tryz.underlying253 h;rw[GC,show List.range 2=[0,1] from rfl] at e;refine e.trans ?_;have k:∀x y:Int,(part 3 #[Value.int .i64 x,.int .i64 y] (0*1)).run ψ w= .ok (.int .i64 x) w:=λx y=>fN k3 rfl w;have l:∀x y:Int,(part 3 #[Value.int .i64 x,.int .i64 y] (1*1)).run ψ w= .ok (.int .i64 y) w:=λx y=>fN k3 rfl w
 have m:decide ((c,d)=(f,g))=(c==f&&d==g):=by by_cases h:c=f<;>by_cases j:d=g<;>simp[h,j]
 rw[m];simp only[Op.eqItems,Sem.run_bind,k,Result.andThen_ok,Cg];cases h:c==f with|false=>simp|true=>simp only[Bool.not_true,UW,if_false,Sem.run_bind,l,Result.andThen_ok,Cg,YF];cases j:d==g<;>simp
theorem mQ5 (b:Bool)(a:I2)(n:Nat)(w:θ):(Instr.checkKey b (n+2) 253 (lq a)).run ψ w= .ok () w:=by
 obtain⟨i,c⟩:=U7.1 (show(ψ.info? 3).isSome=true by kernel_rfl);have d:∀x y:Int,(part 3 #[Value.int .i64 x,.int .i64 y] 0).run ψ w= .ok (.int .i64 x) w:=λx y=>fN k3 rfl w;have e:∀x y:Int,(part 3 #[Value.int .i64 x,.int .i64 y] 1).run ψ w= .ok (.int .i64 y) w:=λx y=>fN k3 rfl w
 have f:(sizeOf 3).run ψ w= .ok 1 w:=by rw[<-GC];exact Go.run_sizeOf w c
 simp[Instr.checkKey,JB Tryz.underlying253,JB Tryz.underlying3,f,d,e,Std.Legacy.Range.forIn_eq_forIn_range',Std.Legacy.Range.size,List.range'_succ]
theorem GX:KeyQ ψ 253 lq:=
 vQH Tryz.underlying253 (λa b w=>mQ4 a b 9998 w) (λb a w=>mQ5 b a 9998 w) (λa=>by simp[Instr.sameBits])
def gW (a:χ Br)(x:Int)(b:χ Br)(y:Int):Prop:=∃e,ev a x e=true/\ev b y e=true
theorem cQ3 {a:χ Br}(h:Rd0 a){x:Int}(h0:0<=x)(h1:x<a.length+2)(hx:x≠0):∃e,ev a x e=true:=by
 apply Classical.byContradiction;intro hn;refine hx (inj h h0 δ h1 ω (λe=>?_));have e1:ev a 0 e=false:=by rw[VY δ]<;>rfl
 rw[e1];cases hc:ev a x e with
 | false=>rfl
 | true=>exact Xg ⟨e,hc⟩ hn
theorem mQ6 {a b:χ Br}(ha:Rd0 a)(hb:Rd0 b){x y:Int}(x0:0<=x)(x1:x<a.length+2)(y0:0<=y)(y1:y<b.length+2){v:Int}(hv:v=min (QB a x) (QB b y))(aQ:v<64):
  gW a x b y↔gW a (Qv a x v).1 b (Qv b y v).1∨gW a (Qv a x v).2 b (Qv b y v).2:=by
 have l1:v<=QB a x:=by rw[hv,KG];split<;>omega
 have l2:v<=QB b y:=by rw[hv,KG];split<;>omega
 obtain⟨p1,p2,p3,p4,p5⟩:=yy ha x0 x1 l1 aQ;obtain⟨q1,q2,q3,q4,q5⟩:=yy hb y0 y1 l2 aQ;have v0:0<=v:=by
  have:=ha.lvl0 x1;have:=hb.lvl0 y1;rw[hv,KG];split<;>omega
 constructor
 ·rintro⟨e,e1,e2⟩;rw[p1] at e1;rw[q1] at e2;cases he:e v.toNat with
  | true=>rw[he,Qf rfl] at e1 e2;exact .inr ⟨e,e1,e2⟩
  | false=>rw[he,φ δ] at e1 e2;exact .inl ⟨e,e1,e2⟩
 ·rintro(⟨e,e1,e2⟩ | ⟨e,e1,e2⟩)
  ·refine⟨WZ e v.toNat false,?_,?_⟩
   ·rw[p1,show WZ e v.toNat false v.toNat=false from Qf rfl,φ δ,gS ha v.toNat false e _ _ (iU _) p4 ω];exact e1
   ·rw[q1,show WZ e v.toNat false v.toNat=false from Qf rfl,φ δ,gS hb v.toNat false e _ _ (iU _) q4 ω];exact e2
  ·refine⟨WZ e v.toNat true,?_,?_⟩
   ·rw[p1,show WZ e v.toNat true v.toNat=true from Qf rfl,Qf rfl,gS ha v.toNat true e _ _ (iU _) p5 ω];exact e1
   ·rw[q1,show WZ e v.toNat true v.toNat=true from Qf rfl,Qf rfl,gS hb v.toNat true e _ _ (iU _) q5 ω];exact e2
structure MP where
 D:DV
 E:DV
 bo:Nat
 sx:Nat
 ax:Nat
 bx:Nat
 cx:Nat
 q:Nat
def MP.caps (p:MP):χ τ:=[VP.ptr p.bo,VP.ptr p.sx,VP.ptr p.ax,VP.ptr p.bx,VP.ptr p.cx]
def MP.clo (p:MP):τ:=.func (.func 166) #[] #[VP.ptr p.bo,VP.ptr p.sx,VP.ptr p.ax,VP.ptr p.bx,VP.ptr p.cx]
structure MK (w:World) (p:MP):Prop where
 bob:Blk w p.bo 4 [.bool true]
 sxb:Blk w p.sx 251 [.map (some p.q)]
 axb:Blk w p.ax 32 p.D.cells
 bxb:Blk w p.bx 32 p.E.cells
 cxb:Blk w p.cx 252 [p.clo]
 as_:SB w p.D.A p.D.n p.D.c p.D.nd
 bs:SB w p.E.A p.E.n p.E.c p.E.nd
 off:p.bo≠p.q/\p.sx≠p.q/\p.ax≠p.q/\p.bx≠p.q/\p.cx≠p.q
 rowA:∀ad,p.D.A=some ad->0<p.D.n->ad.block≠p.q
 rowB:∀ad,p.E.A=some ad->0<p.E.n->ad.block≠p.q
theorem MK.mod {w b:θ}{p:MP}(h:MK w p)(a:Mod (·=p.q) w b):MK b p:=by obtain⟨b,c,d,f,g⟩:=h.off;refine⟨h.bob.mod a b,h.sxb.mod a c,h.axb.mod a d,h.bxb.mod a f,h.cxb.mod a g,⟨h.as_.1.modS a ?_,h.as_.2⟩,⟨h.bs.1.modS a ?_,h.bs.2⟩,h.off,h.rowA,h.rowB⟩;rintro a i ⟨b,e,rfl⟩;exact h.rowA b e a;rintro a i ⟨b,e,rfl⟩;exact h.rowB b e a
theorem MK.ext {w a:θ}{p:MP}(h:MK w p)(k:Ext w a):MK a p:=h.mod (Mod.of_ext _ k)
def r6 (w:θ)(q:Nat)(S:χ I2):Prop:=∃m,MapQ lq w q m/\∀t,(Zc t m).getD (.bool false)= .bool (decide (t∈S))
def MtC (p:MP)(x y:Int)(S:χ I2)(w:θ)(v:τ)(a:θ):Prop:=
 Mod (·=p.q) w a/\∃r:Bool,v= .bool r/\(r=true->gW p.D.nd x p.E.nd y)/\(r=false->¬gW p.D.nd x p.E.nd y/\∃b,r6 a p.q b/\∀t∈b,t∈S∨¬gW p.D.nd t.1 p.E.nd t.2)
theorem cQ4 (p:MP)(ha:Rd0 p.D.nd)(hb:Rd0 p.E.nd):∀(k:Nat)(x y:Int)(S:χ I2)(w:θ),
  MK w p->r6 w p.q S->(∀t∈S,t.1+t.2<=x+y->¬gW p.D.nd t.1 p.E.nd t.2)->0<=x->0<=y->x<p.D.n+2->y<p.E.n+2->x+y<k->
  Fn ψ 166 (.int .i64 x:: .int .i64 y::p.caps) w (MtC p x y S w)
 | 0,x,y,_,_,_,_,_,x0,y0,_,_,hk=>by omega
 | k+1,x,y,S,w,hK,hS,Xo,x0,y0,hx,hy,hk=>by
  have ih:=cQ4 p ha hb k;have JM:p.D.nd.length=p.D.n:=hK.as_.2;have cZ:p.E.nd.length=p.E.n:=hK.bs.2;refine QK aQL [] Tryz.func166 ?_;refine X0 (λc1=>?_) (λc1=>?_)
  ·exact⟨Mod.refl _ _,false,rfl,λh=>(by cases h),λ_=>⟨(λ⟨e,e1,_⟩=>by rw[c1,VY δ] at e1;cases e1),S,hS,λt ht=>.inl ht⟩⟩
  refine Ql (λc2=>?_) (λc2=>?_)
  ·refine QQ hK.bob rfl ?_;by_cases y1:y=1
   ·subst y1;refine QX rfl ?_;refine Zm c2 ?_;refine⟨Mod.refl _ _,true,rfl,λ_=>?_,λh=>by cases h⟩;obtain⟨e,he⟩:=cQ3 ha x0 ω c1;exact⟨e,he,by rw[VY δ];rfl⟩
   ·have RW:y=0:=by omega
    subst RW;refine Q3 rfl ?_;exact⟨Mod.refl _ _,false,rfl,λh=>(by cases h),λ_=>⟨(λ⟨e,_,e1⟩=>by rw[VY δ] at e1;cases e1),S,hS,λt ht=>.inl ht⟩⟩
  refine XB c2 ?_;obtain⟨mq,kB,KP⟩:=hS;refine QQ hK.sxb rfl ?_;refine Nz (kv:=lq) (a:=((x,y):I2)) Qe rfl rfl rfl rfl GX rfl rfl kB (KP (x,y)) ?_;refine Ql (λc3=>?_) (λc3=>?_)
  ·exact⟨Mod.refl _ _,false,rfl,λh=>(by cases h),λ_=>⟨Xo (x,y) c3 (rB _),S,⟨mq,kB,KP⟩,λt ht=>.inl ht⟩⟩
  refine QQ hK.sxb rfl ?_;refine Bv (kv:=lq) (a:=((x,y):I2)) Qe rfl rfl rfl rfl GX rfl rfl rfl kB (λw1 jl Q0 tg=>?_);have WR:=hK.mod jl;have Yf:r6 w1 p.q ((x,y)::S):=⟨_,tg,λt=>by
   rw[fc];by_cases ht:t=(x,y)
   ·subst ht;simp
   ·rw[φ ht,KP t];simp[ht]⟩
  have Kp:min (QB p.D.nd x) (QB p.E.nd y)<64:=by
   have:=fi hb.dok (n:=y) c2 ω;rw[KG];split<;>omega
  have ip:=ha.lvl0 (n:=x) ω;have Vh:=hb.lvl0 (n:=y) ω;refine Xw (Ext w1) 8 [(true,0),(true,1),(true,3),(true,4),(false,2),(false,5),(true,6),(true,7)] (Ext.drew w1) ?_;refine Xe (vs:=p.D.cells) rfl (λw' Qa j v hj=>by rw[(WR.axb.ext Qa).cell];exact hj) ?_;refine Xe (vs:=p.E.cells) rfl (λw' Qa j v hj=>by rw[(WR.bxb.ext Qa).cell];exact hj) ?_;refine call (kZ p.D.A p.D.n p.D.c p.D.r x p.D.nd _ (WR.as_.ext (Ext.drew w1)) ω) ?_;rintro u w2 ⟨rfl,Qg⟩;have XS:=(Ext.drew w1).trans Qg;refine⟨XS,?_⟩;refine call (kZ p.E.A p.E.n p.E.c p.E.r y p.E.nd _ (WR.bs.ext XS) ω) ?_;rintro u w3 ⟨rfl,Qi⟩;have Xc:=XS.trans Qi;refine⟨Xc,?_⟩;have tL:(if QB p.E.nd y<QB p.D.nd x then QB p.E.nd y else QB p.D.nd x)=min (QB p.D.nd x) (QB p.E.nd y):=by
   rw[KG];split<;>split<;>omega
  refine norm (m:=min (QB p.D.nd x) (QB p.E.nd y)) tL ?_;have xw:=mQ6 ha hb x0 ω y0 ω (rfl:min (QB p.D.nd x) (QB p.E.nd y)=_) Kp;have iO:QB p.D.nd x=min (QB p.D.nd x) (QB p.E.nd y)∨QB p.E.nd y=min (QB p.D.nd x) (QB p.E.nd y):=by rw[KG];split<;>simp
  generalize TW:min (QB p.D.nd x) (QB p.E.nd y)=v at*;obtain⟨s1,s2,s3,s4,s5⟩:=dC ha.dok (n:=x) x0 Kp;obtain⟨t1,t2,t3,t4,t5⟩:=dC hb.dok (n:=y) y0 Kp;have dec:(Qv p.D.nd x v).1+(Qv p.E.nd y v).1<x+y/\(Qv p.D.nd x v).2+(Qv p.E.nd y v).2<x+y:=by
   rcases iO with e | e
   ·have:=s5 e;omega
   ·have:=t5 e;omega
  have jm:=WR.ext Xc;refine Qm jm.axb ?_;refine call (Cd p.D.A p.D.n p.D.c p.D.r x v p.D.nd _ jm.as_ ω Kp) ?_;rintro u w4 ⟨rfl,Qq⟩;have aP:=jm.ext Qq;refine Qm aP.bxb ?_;refine call (Cd p.E.A p.E.n p.E.c p.E.r y v p.E.nd _ aP.bs ω Kp) ?_;rintro u w5 ⟨rfl,QH⟩;have nW:=aP.ext QH;have Zi:=(Xc.trans Qq).trans QH;have Zu:Mod (·=p.q) w w5:=jl.trans (Mod.of_ext (·=p.q) Zi) (λ_=>.inl);have jn:r6 w5 p.q ((x,y)::S):=let ⟨m,k1,k2⟩:=Yf;⟨m,k1.ext Zi,k2⟩;refine QQ nW.cxb rfl ?_;refine call (ih (Qv p.D.nd x v).1 (Qv p.E.nd y v).1 ((x,y)::S) w5 nW jn (λt ht ZU=>by
   rcases XI.1 ht with rfl | ht
   ·exact Xg ZU (by simp only;omega)
   ·exact Xo t ht ω) s1 t1 ω ω ω) ?_
  rintro _ w6 ⟨Kf,r0,rfl,CX,iD⟩;have DI:Mod (·=p.q) w w6:=Zu.trans Kf (λ_=>.inl);cases r0 with
  | true=>
   refine Q3 rfl ?_;exact⟨DI,true,rfl,λ_=>xw.2 (.inl (CX rfl)),λh=>by cases h⟩
  | false=>
   obtain⟨n0,S6,eE,DJ⟩:=iD rfl;refine QX rfl ?_;have gg:=nW.mod Kf;refine QQ gg.cxb rfl ?_;refine call (ih (Qv p.D.nd x v).2 (Qv p.E.nd y v).2 S6 w6 gg eE (λt ht ZU=>by
    rcases DJ t ht with ht | ht
    ·rcases XI.1 ht with rfl | ht
     ·exact Xg ZU (by simp only;omega)
     ·exact Xo t ht ω
    ·exact ht) s3 t3 ω ω ω) ?_
   rintro _ w7 ⟨XH,r1,rfl,jp,ZN⟩;have RX:Mod (·=p.q) w w7:=DI.trans XH (λ_=>.inl);refine⟨RX,r1,rfl,λh=>xw.2 (.inr (jp h)),λh=>?_⟩;obtain⟨n1,S7,Yr,RY⟩:=ZN h;have nn:¬gW p.D.nd x p.E.nd y:=λhh=>(xw.1 hh).elim n0 n1
   refine⟨nn,S7,Yr,λt ht=>?_⟩;rcases RY t ht with ht | ht
   ·rcases DJ t ht with ht | ht
    ·rcases XI.1 ht with rfl | ht
     ·exact .inr nn
     ·exact .inl ht
    ·exact .inr ht
   ·exact .inr ht
theorem mQ7 (A:Θ)(n c:Nat)(a:χ Br)(f:Int)(B:Θ)(m d:Nat)(b:χ Br)(g:Int)(w:θ)(h:SB w A n c a)(q:SB w B m d b)(j:VD a f)(k:VD b g):Fn ψ 112 [Q5 A n c f,Q5 B m d g,.bool true] w (λu l=>∃r:Bool,u= .bool r/\Ext w l/\(r=true↔gW a f b g)):=by
 have l:=h.2;have l:=q.2;refine QK aQK [] Tryz.func112 ?_;refine new λz l o G=>?_;refine new λH C o I=>?_;refine new λJ s o K=>?_;have D:=(l.trans C).trans s;refine Bu Qe lq rfl ?_;intro o x l L;refine new λy l E v=>?_;refine VW v δ λw6 E M=>?_;have y:Ext o w6:=E.ext l λi v=>ω;refine new λF l N E=>?_;refine VW E δ λw8 F N=>?_;have E:Ext w6 w8:=F.ext l λi v=>ω;have F:=y.trans E;have l:=x.trans F;have x:=D.trans l;have O:=y.size;let p:MP:=⟨⟨A,n,c,a,f⟩,⟨B,m,d,b,g⟩,H.heap.size,o.heap.size,w.heap.size,z.heap.size,w6.heap.size,J.heap.size⟩
 have o:MK w8 p:=by refine⟨K.ext l,M.ext E,G.ext ((C.trans s).trans l),I.ext (s.trans l),N,h.ext x,q.ext x,?_,λy e z=>?_,λy e z=>?_⟩;simp only[p];omega;have:=SB.lt h y e z;simp only[p];omega;have:=SB.lt q y e z;simp only[p];omega
 refine QQ o.cxb rfl (Qp o.axb rfl (Qp o.bxb rfl (call (cQ4 p j.rd0 k.rd0 (f.toNat+g.toNat+1) f g [] w8 o ⟨[],L.ext F,λt=>rfl⟩ (λt f=>by cases f) j.2.1 k.2.1 (by have:=j.2.2.1;simp only[p];omega) (by have:=k.2.2.1;simp only[p];omega) (by have:=j.2.1;have:=k.2.1;omega)) ?_)));rintro _ k ⟨f,r,rfl,g,j⟩;refine⟨r,rfl,f.ext x (λi v=>by simp only[p] at v;have:=D.size;omega),⟨g,λf=>?_⟩⟩;cases r with|true=>rfl|false=>exact Xg f (j rfl).1
open Classical in
def pL (a:χ Br)(c:Int)(b:χ Br)(d:Int):Bool:=decide (XN a c=0/\XN b d=0/\¬gW a c b d)
open Classical in
theorem cQ5 {a:χ Br}{c:Int}{b:χ Br}{rb:Int}:pL a c b rb=true↔XN a c=0/\XN b rb=0/\¬gW a c b rb:=by unfold pL;exact decide_eq_true_iff
theorem OI {a:χ Br}{c:Int}{b:χ Br}{d:Int}(h:XN a c=0/\XN b d=0/\¬gW a c b d):pL a c b d=true:=cQ5.2 h
theorem Cv {a:χ Br}{c:Int}{b:χ Br}{d:Int}(h:¬(XN a c=0/\XN b d=0/\¬gW a c b d)):pL a c b d=false:=by cases e:pL a c b d with|false=>rfl|true=>exact Xg (cQ5.1 e) h
theorem cQ6 (A:Θ)(n c:Nat)(a:χ Br)(e:Int)(B:Θ)(m d:Nat)(b:χ Br)(f:Int)(w:θ)(h:SB w A n c a)(q:SB w B m d b):Fn ψ 97 [Q5 A n c e,Q5 B m d f] w (λu g=>u= .bool (pL a e b f)/\Ext w g):=by
 refine QK c97 [] Tryz.func97 ?_;refine new λi g j s=>?_;refine new λj l i t=>?_;have k:=g.trans l;refine Qm (s.ext l) (Qm t (WC (⟨A,n,c,a,e⟩:DV).cells (⟨B,m,d,b,f⟩:DV).cells ?_));intro i o g p;have g:=k.trans o;have k:SlS DV.cells 2 i (some ⟨j.heap.size,0,none⟩) 2 2 [⟨A,n,c,a,e⟩,⟨B,m,d,b,f⟩]:=⟨Sl.own (sz:=2) (n:=2) p (Qw _) δ (by simp[DV.cells]),rfl⟩
 refine call (GA _ 2 2 _ i k (λx j=>by
  simp only[XI,d5,eX] at j;obtain rfl|rfl:=j;exact h.ext g;exact q.ext g)) ?_
 rintro v C ⟨rfl,p⟩;have i:=g.trans p;have g:cg [(⟨A,n,c,a,e⟩:DV),⟨B,m,d,b,f⟩]=if XN a e≠0 then XN a e else if XN b f≠0 then XN b f else 0:=rfl
 have y:cg [(⟨A,n,c,a,e⟩:DV),⟨B,m,d,b,f⟩]=0↔XN a e=0/\XN b f=0:=by rw[g];by_cases j:XN a e=0;rw[φ λg=>g j];by_cases k:XN b f=0;rw[φ λg=>g k];simp[j,k];rw[Qf k];simp[k];rw[Qf j];simp[j]
 refine X0 (λj=>?_) λj=>?_;obtain⟨k,z⟩:=y.1 j;refine Qm ((s.ext l).ext (o.trans p)) (Qm (t.ext (o.trans p)) (call (mQ7 A n c a e B m d b f C (h.ext i) (q.ext i) (gM.1 k).2 (gM.1 z).2) ?_));rintro _ l ⟨r,rfl,f,e⟩;refine⟨?_,i.trans f⟩;cases r with|true=>rw[Cv λg=>g.2.2 (e.1 rfl)]<;>rfl|false=>rw[OI ⟨k,z,λg=>by have:=e.2 g;cases this⟩];rfl
 exact⟨by rw[Cv λg=>j (y.2 ⟨g.1,g.2.1⟩)],i⟩
def j5 (l:Γ):χ τ:=l.map λ(i:Nat)=>Value.int .i64 i
end
section
def je (a:χ Br)(x:Int)(b:χ Br)(y:Int):Prop:=∃e,ev a x e=true/\ev b y e=false
theorem mQ8 {a b:χ Br}(ha:Rd0 a)(hb:Rd0 b){x y:Int}(x0:0<=x)(x1:x<a.length+2)(y0:0<=y)(y1:y<b.length+2){v:Int}(hv:v=min (QB a x) (QB b y))(aQ:v<64):
  je a x b y↔je a (Qv a x v).1 b (Qv b y v).1∨je a (Qv a x v).2 b (Qv b y v).2:=by
 have l1:v<=QB a x:=by rw[hv,KG];split<;>omega
 have l2:v<=QB b y:=by rw[hv,KG];split<;>omega
 obtain⟨p1,p2,p3,p4,p5⟩:=yy ha x0 x1 l1 aQ;obtain⟨q1,q2,q3,q4,q5⟩:=yy hb y0 y1 l2 aQ;have v0:0<=v:=by
  have:=ha.lvl0 x1;have:=hb.lvl0 y1;rw[hv,KG];split<;>omega
 constructor
 ·rintro⟨e,e1,e2⟩;rw[p1] at e1;rw[q1] at e2;cases he:e v.toNat with
  | true=>rw[he,Qf rfl] at e1 e2;exact .inr ⟨e,e1,e2⟩
  | false=>rw[he,φ δ] at e1 e2;exact .inl ⟨e,e1,e2⟩
 ·rintro(⟨e,e1,e2⟩ | ⟨e,e1,e2⟩)
  ·refine⟨WZ e v.toNat false,?_,?_⟩
   ·rw[p1,show WZ e v.toNat false v.toNat=false from Qf rfl,φ δ,gS ha v.toNat false e _ _ (iU _) p4 ω];exact e1
   ·rw[q1,show WZ e v.toNat false v.toNat=false from Qf rfl,φ δ,gS hb v.toNat false e _ _ (iU _) q4 ω];exact e2
  ·refine⟨WZ e v.toNat true,?_,?_⟩
   ·rw[p1,show WZ e v.toNat true v.toNat=true from Qf rfl,Qf rfl,gS ha v.toNat true e _ _ (iU _) p5 ω];exact e1
   ·rw[q1,show WZ e v.toNat true v.toNat=true from Qf rfl,Qf rfl,gS hb v.toNat true e _ _ (iU _) q5 ω];exact e2
structure MPn where
 D:DV
 E:DV
 bo:Nat
 sx:Nat
 ax:Nat
 bx:Nat
 cx:Nat
 q:Nat
def MPn.caps (p:MPn):χ τ:=[VP.ptr p.bo,VP.ptr p.sx,VP.ptr p.ax,VP.ptr p.bx,VP.ptr p.cx]
def MPn.clo (p:MPn):τ:=.func (.func 166) #[] #[VP.ptr p.bo,VP.ptr p.sx,VP.ptr p.ax,VP.ptr p.bx,VP.ptr p.cx]
structure MKn (w:World) (p:MPn):Prop where
 bob:Blk w p.bo 4 [.bool false]
 sxb:Blk w p.sx 251 [.map (some p.q)]
 axb:Blk w p.ax 32 p.D.cells
 bxb:Blk w p.bx 32 p.E.cells
 cxb:Blk w p.cx 252 [p.clo]
 as_:SB w p.D.A p.D.n p.D.c p.D.nd
 bs:SB w p.E.A p.E.n p.E.c p.E.nd
 off:p.bo≠p.q/\p.sx≠p.q/\p.ax≠p.q/\p.bx≠p.q/\p.cx≠p.q
 rowA:∀ad,p.D.A=some ad->0<p.D.n->ad.block≠p.q
 rowB:∀ad,p.E.A=some ad->0<p.E.n->ad.block≠p.q
theorem MKn.mod {w b:θ}{p:MPn}(h:MKn w p)(a:Mod (·=p.q) w b):MKn b p:=by obtain⟨b,c,d,f,g⟩:=h.off;refine⟨h.bob.mod a b,h.sxb.mod a c,h.axb.mod a d,h.bxb.mod a f,h.cxb.mod a g,⟨h.as_.1.modS a ?_,h.as_.2⟩,⟨h.bs.1.modS a ?_,h.bs.2⟩,h.off,h.rowA,h.rowB⟩;rintro a i ⟨b,e,rfl⟩;exact h.rowA b e a;rintro a i ⟨b,e,rfl⟩;exact h.rowB b e a
theorem MKn.ext {w a:θ}{p:MPn}(h:MKn w p)(k:Ext w a):MKn a p:=h.mod (Mod.of_ext _ k)
def mQ9 (p:MPn)(x y:Int)(S:χ I2)(w:θ)(v:τ)(a:θ):Prop:=
 Mod (·=p.q) w a/\∃r:Bool,v= .bool r/\(r=true->je p.D.nd x p.E.nd y)/\(r=false->¬je p.D.nd x p.E.nd y/\∃b,r6 a p.q b/\∀t∈b,t∈S∨¬je p.D.nd t.1 p.E.nd t.2)
theorem cQ7 (p:MPn)(ha:Rd0 p.D.nd)(hb:Rd0 p.E.nd):∀(k:Nat)(x y:Int)(S:χ I2)(w:θ),
  MKn w p->r6 w p.q S->(∀t∈S,t.1+t.2<=x+y->¬je p.D.nd t.1 p.E.nd t.2)->0<=x->0<=y->x<p.D.n+2->y<p.E.n+2->x+y<k->
  Fn ψ 166 (.int .i64 x:: .int .i64 y::p.caps) w (mQ9 p x y S w)
 | 0,x,y,_,_,_,_,_,x0,y0,_,_,hk=>by omega
 | k+1,x,y,S,w,hK,hS,Xo,x0,y0,hx,hy,hk=>by
  have ih:=cQ7 p ha hb k;have JM:p.D.nd.length=p.D.n:=hK.as_.2;have cZ:p.E.nd.length=p.E.n:=hK.bs.2;refine QK aQL [] Tryz.func166 ?_;refine X0 (λc1=>?_) (λc1=>?_)
  ·exact⟨Mod.refl _ _,false,rfl,λh=>(by cases h),λ_=>⟨(λ⟨e,e1,_⟩=>by rw[c1,VY δ] at e1;cases e1),S,hS,λt ht=>.inl ht⟩⟩
  refine Ql (λc2=>?_) (λc2=>?_)
  ·refine QQ hK.bob rfl ?_;by_cases y1:y=1
   ·subst y1;refine Q3 rfl ?_;exact⟨Mod.refl _ _,false,rfl,λh=>(by cases h),λ_=>⟨(λ⟨e,_,e1⟩=>by rw[VY δ] at e1;cases e1),S,hS,λt ht=>.inl ht⟩⟩
   ·have RW:y=0:=by omega
    subst RW;refine QX rfl ?_;refine Zm c2 ?_;refine⟨Mod.refl _ _,true,rfl,λ_=>?_,λh=>by cases h⟩;obtain⟨e,he⟩:=cQ3 ha x0 ω c1;exact⟨e,he,by rw[VY δ];rfl⟩
  refine XB c2 ?_;obtain⟨mq,kB,KP⟩:=hS;refine QQ hK.sxb rfl ?_;refine Nz (kv:=lq) (a:=((x,y):I2)) Qe rfl rfl rfl rfl GX rfl rfl kB (KP (x,y)) ?_;refine Ql (λc3=>?_) (λc3=>?_)
  ·exact⟨Mod.refl _ _,false,rfl,λh=>(by cases h),λ_=>⟨Xo (x,y) c3 (rB _),S,⟨mq,kB,KP⟩,λt ht=>.inl ht⟩⟩
  refine QQ hK.sxb rfl ?_;refine Bv (kv:=lq) (a:=((x,y):I2)) Qe rfl rfl rfl rfl GX rfl rfl rfl kB (λw1 jl Q0 tg=>?_);have WR:=hK.mod jl;have Yf:r6 w1 p.q ((x,y)::S):=⟨_,tg,λt=>by
   rw[fc];by_cases ht:t=(x,y)
   ·subst ht;simp
   ·rw[φ ht,KP t];simp[ht]⟩
  have Kp:min (QB p.D.nd x) (QB p.E.nd y)<64:=by
   have:=fi hb.dok (n:=y) c2 ω;rw[KG];split<;>omega
  have ip:=ha.lvl0 (n:=x) ω;have Vh:=hb.lvl0 (n:=y) ω;refine Xw (Ext w1) 8 [(true,0),(true,1),(true,3),(true,4),(false,2),(false,5),(true,6),(true,7)] (Ext.drew w1) ?_;refine Xe (vs:=p.D.cells) rfl (λw' Qa j v hj=>by rw[(WR.axb.ext Qa).cell];exact hj) ?_;refine Xe (vs:=p.E.cells) rfl (λw' Qa j v hj=>by rw[(WR.bxb.ext Qa).cell];exact hj) ?_;refine call (kZ p.D.A p.D.n p.D.c p.D.r x p.D.nd _ (WR.as_.ext (Ext.drew w1)) ω) ?_;rintro u w2 ⟨rfl,Qg⟩;have XS:=(Ext.drew w1).trans Qg;refine⟨XS,?_⟩;refine call (kZ p.E.A p.E.n p.E.c p.E.r y p.E.nd _ (WR.bs.ext XS) ω) ?_;rintro u w3 ⟨rfl,Qi⟩;have Xc:=XS.trans Qi;refine⟨Xc,?_⟩;have tL:(if QB p.E.nd y<QB p.D.nd x then QB p.E.nd y else QB p.D.nd x)=min (QB p.D.nd x) (QB p.E.nd y):=by
   rw[KG];split<;>split<;>omega
  refine norm (m:=min (QB p.D.nd x) (QB p.E.nd y)) tL ?_;have xw:=mQ8 ha hb x0 ω y0 ω (rfl:min (QB p.D.nd x) (QB p.E.nd y)=_) Kp;have iO:QB p.D.nd x=min (QB p.D.nd x) (QB p.E.nd y)∨QB p.E.nd y=min (QB p.D.nd x) (QB p.E.nd y):=by rw[KG];split<;>simp
  generalize TW:min (QB p.D.nd x) (QB p.E.nd y)=v at*;obtain⟨s1,s2,s3,s4,s5⟩:=dC ha.dok (n:=x) x0 Kp;obtain⟨t1,t2,t3,t4,t5⟩:=dC hb.dok (n:=y) y0 Kp;have dec:(Qv p.D.nd x v).1+(Qv p.E.nd y v).1<x+y/\(Qv p.D.nd x v).2+(Qv p.E.nd y v).2<x+y:=by
   rcases iO with e | e
   ·have:=s5 e;omega
   ·have:=t5 e;omega
  have jm:=WR.ext Xc;refine Qm jm.axb ?_;refine call (Cd p.D.A p.D.n p.D.c p.D.r x v p.D.nd _ jm.as_ ω Kp) ?_;rintro u w4 ⟨rfl,Qq⟩;have aP:=jm.ext Qq;refine Qm aP.bxb ?_;refine call (Cd p.E.A p.E.n p.E.c p.E.r y v p.E.nd _ aP.bs ω Kp) ?_;rintro u w5 ⟨rfl,QH⟩;have nW:=aP.ext QH;have Zi:=(Xc.trans Qq).trans QH;have Zu:Mod (·=p.q) w w5:=jl.trans (Mod.of_ext (·=p.q) Zi) (λ_=>.inl);have jn:r6 w5 p.q ((x,y)::S):=let ⟨m,k1,k2⟩:=Yf;⟨m,k1.ext Zi,k2⟩;refine QQ nW.cxb rfl ?_;refine call (ih (Qv p.D.nd x v).1 (Qv p.E.nd y v).1 ((x,y)::S) w5 nW jn (λt ht ZU=>by
   rcases XI.1 ht with rfl | ht
   ·exact Xg ZU (by simp only;omega)
   ·exact Xo t ht ω) s1 t1 ω ω ω) ?_
  rintro _ w6 ⟨Kf,r0,rfl,CX,iD⟩;have DI:Mod (·=p.q) w w6:=Zu.trans Kf (λ_=>.inl);cases r0 with
  | true=>
   refine Q3 rfl ?_;exact⟨DI,true,rfl,λ_=>xw.2 (.inl (CX rfl)),λh=>by cases h⟩
  | false=>
   obtain⟨n0,S6,eE,DJ⟩:=iD rfl;refine QX rfl ?_;have gg:=nW.mod Kf;refine QQ gg.cxb rfl ?_;refine call (ih (Qv p.D.nd x v).2 (Qv p.E.nd y v).2 S6 w6 gg eE (λt ht ZU=>by
    rcases DJ t ht with ht | ht
    ·rcases XI.1 ht with rfl | ht
     ·exact Xg ZU (by simp only;omega)
     ·exact Xo t ht ω
    ·exact ht) s3 t3 ω ω ω) ?_
   rintro _ w7 ⟨XH,r1,rfl,jp,ZN⟩;have RX:Mod (·=p.q) w w7:=DI.trans XH (λ_=>.inl);refine⟨RX,r1,rfl,λh=>xw.2 (.inr (jp h)),λh=>?_⟩;obtain⟨n1,S7,Yr,RY⟩:=ZN h;have nn:¬je p.D.nd x p.E.nd y:=λhh=>(xw.1 hh).elim n0 n1
   refine⟨nn,S7,Yr,λt ht=>?_⟩;rcases RY t ht with ht | ht
   ·rcases DJ t ht with ht | ht
    ·rcases XI.1 ht with rfl | ht
     ·exact .inr nn
     ·exact .inl ht
    ·exact .inr ht
   ·exact .inr ht
theorem nQa (A:Θ)(n c:Nat)(a:χ Br)(f:Int)(B:Θ)(m d:Nat)(b:χ Br)(g:Int)(w:θ)(h:SB w A n c a)(q:SB w B m d b)(j:VD a f)(k:VD b g):Fn ψ 112 [Q5 A n c f,Q5 B m d g,.bool false] w (λu l=>∃r:Bool,u= .bool r/\Ext w l/\(r=true↔je a f b g)):=by
 have l:=h.2;have l:=q.2;refine QK aQK [] Tryz.func112 ?_;refine new λz l o G=>?_;refine new λH C o I=>?_;refine new λJ s o K=>?_;have D:=(l.trans C).trans s;refine Bu Qe lq rfl ?_;intro o x l L;refine new λy l E v=>?_;refine VW v δ λw6 E M=>?_;have y:Ext o w6:=E.ext l λi v=>ω;refine new λF l N E=>?_;refine VW E δ λw8 F N=>?_;have E:Ext w6 w8:=F.ext l λi v=>ω;have F:=y.trans E;have l:=x.trans F;have x:=D.trans l;have O:=y.size;let p:MPn:=⟨⟨A,n,c,a,f⟩,⟨B,m,d,b,g⟩,H.heap.size,o.heap.size,w.heap.size,z.heap.size,w6.heap.size,J.heap.size⟩
 have o:MKn w8 p:=by refine⟨K.ext l,M.ext E,G.ext ((C.trans s).trans l),I.ext (s.trans l),N,h.ext x,q.ext x,?_,λy e z=>?_,λy e z=>?_⟩;simp only[p];omega;have:=SB.lt h y e z;simp only[p];omega;have:=SB.lt q y e z;simp only[p];omega
 refine QQ o.cxb rfl (Qp o.axb rfl (Qp o.bxb rfl (call (cQ7 p j.rd0 k.rd0 (f.toNat+g.toNat+1) f g [] w8 o ⟨[],L.ext F,λt=>rfl⟩ (λt f=>by cases f) j.2.1 k.2.1 (by have:=j.2.2.1;simp only[p];omega) (by have:=k.2.2.1;simp only[p];omega) (by have:=j.2.1;have:=k.2.1;omega)) ?_)));rintro _ k ⟨f,r,rfl,g,j⟩;refine⟨r,rfl,f.ext x (λi v=>by simp only[p] at v;have:=D.size;omega),⟨g,λf=>?_⟩⟩;cases r with|true=>rfl|false=>exact Xg f (j rfl).1
open Classical in
def lr (a:χ Br)(c:Int)(b:χ Br)(d:Int):Bool:=decide (XN a c=0/\XN b d=0/\¬je a c b d)
open Classical in
theorem OJ {a:χ Br}{c:Int}{b:χ Br}{rb:Int}:lr a c b rb=true↔XN a c=0/\XN b rb=0/\¬je a c b rb:=by unfold lr;exact decide_eq_true_iff
theorem nQb {a:χ Br}{c:Int}{b:χ Br}{d:Int}(h:XN a c=0/\XN b d=0/\¬je a c b d):lr a c b d=true:=OJ.2 h
theorem cQ8 {a:χ Br}{c:Int}{b:χ Br}{d:Int}(h:¬(XN a c=0/\XN b d=0/\¬je a c b d)):lr a c b d=false:=by cases e:lr a c b d with|false=>rfl|true=>exact Xg (OJ.1 e) h
theorem cQ9 (A:Θ)(n c:Nat)(a:χ Br)(e:Int)(B:Θ)(m d:Nat)(b:χ Br)(f:Int)(w:θ)(h:SB w A n c a)(q:SB w B m d b):Fn ψ 62 [Q5 A n c e,Q5 B m d f] w (λu g=>u= .bool (lr a e b f)/\Ext w g):=by
 refine QK c62 [] Tryz.func62 ?_;refine new λi g j s=>?_;refine new λj l i t=>?_;have k:=g.trans l;refine Qm (s.ext l) (Qm t (WC (⟨A,n,c,a,e⟩:DV).cells (⟨B,m,d,b,f⟩:DV).cells ?_));intro i o g p;have g:=k.trans o;have k:SlS DV.cells 2 i (some ⟨j.heap.size,0,none⟩) 2 2 [⟨A,n,c,a,e⟩,⟨B,m,d,b,f⟩]:=⟨Sl.own (sz:=2) (n:=2) p (Qw _) δ (by simp[DV.cells]),rfl⟩
 refine call (GA _ 2 2 _ i k (λx j=>by
  simp only[XI,d5,eX] at j;obtain rfl|rfl:=j;exact h.ext g;exact q.ext g)) ?_
 rintro v C ⟨rfl,p⟩;have i:=g.trans p;have g:cg [(⟨A,n,c,a,e⟩:DV),⟨B,m,d,b,f⟩]=if XN a e≠0 then XN a e else if XN b f≠0 then XN b f else 0:=rfl
 have y:cg [(⟨A,n,c,a,e⟩:DV),⟨B,m,d,b,f⟩]=0↔XN a e=0/\XN b f=0:=by rw[g];by_cases j:XN a e=0;rw[φ λg=>g j];by_cases k:XN b f=0;rw[φ λg=>g k];simp[j,k];rw[Qf k];simp[k];rw[Qf j];simp[j]
 refine X0 (λj=>?_) λj=>?_;obtain⟨k,z⟩:=y.1 j;refine Qm ((s.ext l).ext (o.trans p)) (Qm (t.ext (o.trans p)) (call (nQa A n c a e B m d b f C (h.ext i) (q.ext i) (gM.1 k).2 (gM.1 z).2) ?_));rintro _ l ⟨r,rfl,f,e⟩;refine⟨?_,i.trans f⟩;cases r with|true=>rw[cQ8 λg=>g.2.2 (e.1 rfl)]<;>rfl|false=>rw[nQb ⟨k,z,λg=>by have:=e.2 g;cases this⟩];rfl
 exact⟨by rw[cQ8 λg=>j (y.2 ⟨g.1,g.2.1⟩)],i⟩
end
theorem GY (l:Γ)(w:θ)(d:∀x∈l,x<256):Fn ψ 47 [.string (Qb l)] w (λu a=>u= .bool (W4 l)/\Ext w a):=by
 refine QK c47 [] Tryz.func47 ?_;refine ny Qe ([Zd,pElif,pInc].map λs=>[Value.string (Qb s)]) rfl rfl rfl rfl rfl ⟨rfl,rfl,rfl,rfl,rfl,rfl,⟨⟩⟩ rfl (λb h=>by simp only[Z5] at h;obtain⟨s,_,rfl⟩:=h;rfl) rfl δ δ ?_;intro g f b k;refine loop Qe [7] (λi:Nat=>[.int .i64 i]) (λi a=>g=a/\i<=3/\([Zd,pElif,pInc].take i).any (λp=>p.isPrefixOf l)=false) (λi _=>3-i) 0 rfl ⟨rfl,Q9 _,rfl⟩ ?_;rintro i _ ⟨rfl,a,b⟩;by_cases a:i<3;refine Zm (show((i:Nat):Int)<3 by omega) ?_;obtain⟨p,c⟩:∃p,([Zd,pElif,pInc]:Λ)[i]? =some p:=⟨_,Q6 (show i<3 from a)⟩
 have m:∀x∈p,x<256:=by
  have:∀q∈([Zd,pElif,pInc]:Λ),∀x∈q,x<256:=by decide
  exact this p (Xd c)
 refine index (j:=i) a ?_;refine Qp (v:=.string (Qb p)) k (by
  obtain rfl|rfl|rfl:=(show i=0∨i=1∨i=2 by omega) <;>(cases c;rfl)) ?_
 refine call (Ou l p g d m) ?_;rintro _ _ ⟨rfl,rfl⟩;refine Z0 (λa=>?_) λa=>?_;refine⟨?_,f⟩;have a:p.isPrefixOf l=true:=a;have g:=Xd c;simp only[XI,d5,eX] at g;unfold W4;obtain rfl|rfl|rfl:=g <;>rw[a]<;>simp
 have a:p.isPrefixOf l=false:=a;refine QF i ?_;refine⟨i+1,rfl,⟨rfl,ω,?_⟩,QL⟩;rw[JT,c,List.any_append,b];simp[a];have a:i=3:=by omega
 subst a;refine XB δ ?_;have b:(Zd.isPrefixOf l||(pElif.isPrefixOf l||(pInc.isPrefixOf l||false)))=false:=b;simp only[Bool.or_eq_false_iff] at b;obtain⟨a,c,g,_⟩:=b;have e:W4 l=(decide (l=J6++ [10])||decide (l=X5++ [10])):=by unfold W4;rw[a,c,g]<;>rfl
 have c:(Qb l=(Qb (J6++ [10])))↔l=J6++ [10]:=⟨λa=>Jl d δ a,λa=>by rw[a]⟩
 have g:(Qb l=(Qb (X5++ [10])))↔l=X5++ [10]:=⟨λa=>Jl d δ a,λa=>by rw[a]⟩
 by_cases b:l=J6++ [10]
 refine Zm (c.2 b) ?_;exact⟨by rw[e,Zg b];rfl,f⟩;refine XB (λa=>b (c.1 a)) ?_;refine⟨?_,f⟩;rw[e,XZ b,AP];by_cases b:l=X5++ [10]
 rw[Zg b];exact QG Value.bool (Zg (g.2 b));rw[XZ b];exact QG Value.bool (XZ λa=>b (g.1 a))
theorem nQc (l:Γ)(w:θ)(f:∀x∈l,x<256)(g:l.length<=1000000000000):Fn ψ 168 [.string (Qb l),.string (Qb [10])] w (λv d=>v= .bool (l.getLast? ==some 10)/\w=d):=by
 have d:=QZ l;refine KS (c:=jQk) Qe Tryz.func168 rfl rfl rfl ?_;have g:(Qb [10]).size=1:=rfl;refine Ql (λg=>?_) λg=>?_;have g:1<=l.length:=by omega
 refine Qz ((l.length-1:Nat):Int) ?_;refine XF (v':=.string (Qb (l.drop (l.length-1)))) ⟨ω,by rw[d];omega,by rw[d];omega⟩ (by
  rw[Kj,d];show Value.string (Qb ((l.take l.length).drop _))=_;rw[ZJ (Qw _)];rfl) ?_
 refine⟨?_,rfl⟩;obtain⟨a,b,rfl⟩:∃a b,l=a++ [b]:=by obtain e|⟨a,b,e⟩:=kS l;subst e;simp at g;exact⟨a,b,by rw[e,List.concat_eq_append]⟩
 have d:(a++ [b]).drop ((a++ [b]).length-1)=[b]:=by simp
 rw[d];have g:b<256:=f b (by simp);rw[List.getLast?_concat];by_cases d:b=10;subst d;simp;have:¬Qb [b]=Qb [10]:=λf=>d (by
  have:=Jl (l:=[b]) (m:=[10]) (by simpa using g) δ f;simpa using this)
 simp[this,d];have d:l=[]:=VT ω;subst d;exact⟨rfl,rfl⟩
theorem nQd (l:Γ)(w:θ)(a:∀x∈l,x<256)(b:l.length<=1000000000000):Fn ψ 113 [.string (Qb l),.string (Qb [10])] w (λv d=>v= .bool (l.getLast? ==some 10)/\w=d):=by refine KS (c:=iQy) Qe Tryz.func113 rfl rfl rfl ?_;refine call (nQc l w a b) ?_;rintro _ _ ⟨rfl,rfl⟩;exact⟨rfl,rfl⟩
end
section
variable {nm:List (List Nat)} {n:Nat}
def XW (a:Λ)(f:Nat->Γ):Nat->Nat->Γ->Λ
 |0,_,l=>QN (f (l.headD 0))
 |k+1,v,l=>if∀c∈l,f c=f (l.headD 0)then QN (f (l.headD 0))else
  if l.filter (λc=> !c.testBit v)=[]∨l.filter (λc=>c.testBit v)=[] then XW a f k (v+1) l else
  if XW a f k (v+1) (l.filter λc=>c.testBit v)=XW a f k (v+1) (l.filter λc=> !c.testBit v)then XW a f k (v+1) (l.filter λc=>c.testBit v)else
  W3 a v (XW a f k (v+1) (l.filter λc=>c.testBit v)) (XW a f k (v+1) (l.filter λc=> !c.testBit v))
theorem GZ {l:Γ}(h:l≠ []):l.headD 0∈l:=by cases l with|nil=>exact Xg rfl h|cons a l=>simp
theorem yR {f:Nat->Γ}{l:Γ}(b:l≠ []){t:Γ}(h:∀c∈l,f c=t):∀k v,XW nm f k v l=QN t:=by have a:=h _ (GZ b);intro k v;cases k with|zero=>rw[XW,a]|succ k=>rw[XW,Qf (λc b=>by rw[h c b,a]),a]
theorem yS {f:Nat->Γ}{l:Γ}(d:l≠ [])(k v:Nat):XW nm f (k+1) v l=if l.filter (λc=> !c.testBit v)=[]∨l.filter (λc=>c.testBit v)=[] then XW nm f k (v+1) l else if XW nm f k (v+1) (l.filter λc=>c.testBit v)=XW nm f k (v+1) (l.filter λc=> !c.testBit v)then XW nm f k (v+1) (l.filter λc=>c.testBit v)else W3 nm v (XW nm f k (v+1) (l.filter λc=>c.testBit v)) (XW nm f k (v+1) (l.filter λc=> !c.testBit v)):=by
 by_cases a:∀c∈l,f c=f (l.headD 0);rw[yR d a,yR d a];split;rfl;rename_i h;have g:l.filter (λc=> !c.testBit v)≠ []:=λe=>h (.inl e);have i:l.filter (λc=>c.testBit v)≠ []:=λe=>h (.inr e)
 rw[yR g λc b=>a c (VE.1 b).1,yR i λc b=>a c (VE.1 b).1,Qf rfl];rw[XW,φ a]
def Apt (l:Γ)(v k:Nat):Prop:=∀c∈l,∀a∈l,(∀i,v<=i->i<v+k->c.testBit i=a.testBit i)->c=a
theorem Apt.sub {l m:Γ}{v k:Nat}(h:Apt l v (k+1))(b:∀c∈m,c∈l)(g:∀c∈m,∀a∈m,c.testBit v=a.testBit v):Apt m (v+1) k:=λc d a f j=>h c (b c d) a (b a f) (λi n o=>by
 by_cases e:i=v;subst e;exact g c d a f;exact j i ω ω)
end
section
section
def ChG:Nat->χ Sg->Nat->Prop|a,[],b=>a=b|a,s::l,b=>s.f=a/\ChG s.t l b
theorem ChG.snoc {x:Sg}:∀{l:χ Sg}{a b:Nat},ChG a (l++ [x]) b↔ChG a l x.f/\x.t=b|[],a,b=>by simp only[d4,ChG];exact⟨λh=>⟨h.1.symm,h.2⟩,λh=>⟨h.1.symm,h.2⟩⟩|s::l,a,b=>by simp only[dZ,ChG];rw[ChG.snoc (l:=l)];exact⟨λh=>⟨⟨h.1,h.2.1⟩,h.2.2⟩,λh=>⟨h.1.1,h.1.2,h.2⟩⟩
structure SgOk (fs:List (Γ×Γ)) (tx:Γ) (s:Sg):Prop where
 ft:s.f<s.t
 tl:s.t<=tx.length
 nl:tx[s.t-1]? =some 10
 src:∃x,fs[s.fl]? =some x/\s.at_+(s.t-s.f)<=x.2.length/\(x.2.drop s.at_).take (s.t-s.f)=(tx.take s.t).drop s.f
theorem SgOk.app {a:χ (Γ×Γ)}{b:Γ}{s:Sg}(h:SgOk a b s)(l:Γ):SgOk a (b++l) s:=by obtain⟨a,b,c,x,d,e,f⟩:=h;refine⟨a,by rw[Qy];omega,by rw[eW ω];exact c,x,d,e,?_⟩;rw[Fj b];exact f
structure GInv (fs:List (Γ×Γ)) (g:Gs):Prop where
 ch:ChG 0 g.sg g.tx.length
 ok:∀s∈g.sg,SgOk fs g.tx s
theorem GInv.fr {a:χ (Γ×Γ)}{g:Gs}(h:GInv a g)(b:Bool):GInv a {g with fr:=b}:=⟨h.ch,h.ok⟩
def r7 (n p:Nat)(k:BF)(g:Gs):Prop:=g.fr=false->∃l x,g.sg=l++ [x]/\x.fl=n/\x.at_+(x.t-x.f)=p/\x.o=k
theorem dQa {i:χ (Γ×Γ)}{n p:Nat}{k:BF}{g g':Gs}{s:Γ}(h:GInv i g)(A:r7 n p k g){x:Γ×Γ}(t:i[n]? =some x)(r:x.2.drop p=s++x.2.drop (p+s.length))(F:p+s.length<=x.2.length)(q:s.getLast? =some 10)(b:Yo s n p k g=some g'):GInv i g'/\r7 n (p+s.length) k g':=by
 unfold Yo at b;split at b;cases b;cases b;have E:0<s.length:=by
  cases s with
  |nil=>cases q
  |cons _ _=>simp
 have m:(g.tx++s)[g.tx.length+s.length-1]? =some 10:=by rw[aZ ω,show g.tx.length+s.length-1-g.tx.length=s.length-1 by omega,<-oW];exact q
 cases B:g.fr with|true=>rw[Qf rfl,jW];refine⟨⟨?_,λy d=>?_⟩,λ_=>⟨_,_,rfl,rfl,?_,rfl⟩⟩;simp only;rw[ChG.snoc];exact⟨h.ch,by simp⟩;simp only[X2,Xx] at d;obtain d|rfl:=d;exact(h.ok y d).app s;refine⟨by simp only;omega,by simp,m,x,t,by simp only;omega,?_⟩;simp only;rw[show g.tx.length+s.length-g.tx.length=s.length by omega,r,List.take_left,ZJ (by simp),AU];simp only;omega|false=>
  rw[φ δ];obtain⟨l,y,e,o,v,w⟩:=A B;have a:=h.ch;have f:=h.ok;rw[e] at a f;rw[ChG.snoc] at a;obtain⟨G,H,I,z,j,J,D⟩:=f y (by simp);rw[e,jW];have C:z=x:=by rw[o,t] at j;exact(Option.some.inj j).symm
  subst C;refine⟨⟨?_,λu c=>?_⟩,λ_=>⟨_,_,rfl,o,?_,w⟩⟩;simp only;rw[ChG.snoc];exact⟨a.1,by simp⟩;simp only[X2,Xx] at c;obtain c|rfl:=c;exact(f u (by simp[c])).app s;refine⟨by simp only;omega,by simp,m,z,j,by simp only;omega,?_⟩;simp only;rw[show g.tx.length+s.length-y.f=(y.t-y.f)+s.length by omega,ZJ (l:=g.tx++s) (by simp),List.drop_append_of_le_length ω];rw[List.take_add,mP,v,r,List.take_left,D,a.2,ry];simp only;omega
theorem dQb {nm:Λ}{a:χ (Γ×Γ)}{n d0:Nat}{inc:lm}{x:Γ×Γ}(t:a[n]? =some x)(u:∀r j d k g f,inc r j d k g= .ok f->GInv a g->GInv a f):∀(ls:Λ) (j b:Nat) (k:BF) (c:χ Se) (g f:Gs),x.2.drop b=Qk ls->b<=x.2.length->GInv a g->r7 n b k g->Z9 nm n d0 inc ls j b k c g= .ok f->GInv a f/\f.fr=true
 |[],j,b,k,c,g,f,_,_,i,_,a=>by
  cases c with
  |nil=>simp only[Z9,Except.ok.injEq] at a;subst a;exact⟨i.fr true,rfl⟩
  |cons _ _=>simp[Z9] at a
 |s::ls,j,b,k,c,g,f,hd,iQ,i,hc,a=>by
  have o:x.2.drop b=(s++ [10])++Qk ls:=by rw[hd,YJ];simp
  have p:(s++ [10]).length=s.length+1:=by simp
  have l:x.2.length-b=s.length+1+(Qk ls).length:=by have:=QG List.length o;simp only[Wz,Qy,Xa,Jz] at this;omega
  have v:x.2.drop (b+s.length+1)=Qk ls:=by rw[show b+s.length+1=b+(s++ [10]).length by simp;omega,<-mP,o,AU]
  have l:=λk c g f m q w=>dQb (nm:=nm) (d0:=d0) t u ls (j+1) (b+s.length+1) k c g f v ω m q w;have cf:∀m (g:Gs),r7 n (b+s.length+1) m {g with fr:=true}:=λm g h=>by cases h
  rw[Z9.eq_def] at a;simp only at a;cases m:X3 s with
  |txt=>
   rw[m] at a;simp only at a;cases q:Yo (s++ [10]) n b k g with
   |none=>rw[q] at a;cases a
   |some w=>rw[q] at a;simp only at a;obtain⟨z,b⟩:=dQa i hc t (by rw[p,<-ur,v];exact o) (by rw[p];omega) (by simp) q;exact l k c w f z (by rw[p,<-ur] at b;exact b) a
  |ifd r=>
   rw[m] at a;simp only at a;cases b:Jn nm r with
   |error e=>rw[b] at a;cases a
   |ok d=>rw[b] at a;simp only at a;split at a;cases a;exact l _ _ _ _ (i.fr true) (cf _ _) a
  |inc r=>
   rw[m] at a;simp only at a;cases b:inc r (j+1) (d0+c.length) k g with
   |error e=>rw[b] at a;cases a
   |ok w=>rw[b] at a;exact l _ _ _ _ ((u _ _ _ _ _ _ b i).fr true) (cf _ _) a
  |elif r=>
   rw[m] at a;cases c with
   |nil=>cases a
   |cons y c=>
    simp only at a;split at a;cases a;cases b:Jn nm r with
    |error e=>rw[b] at a;cases a
    |ok d=>rw[b] at a;exact l _ _ _ _ (i.fr true) (cf _ _) a
  |els=>
   rw[m] at a;cases c with
   |nil=>cases a
   |cons y c=>simp only at a;split at a;cases a;exact l _ _ _ _ (i.fr true) (cf _ _) a
  |en=>
   rw[m] at a;cases c with
   |nil=>cases a
   |cons y c=>exact l _ _ _ _ (i.fr true) (cf _ _) a
theorem dQc {c:Λ}{a:χ (Γ×Γ)}(j:∀x∈a,Y1 x.2):∀(f:Nat)(i:Γ)(d n:Nat)(k:BF)(g b:Gs),n<a.length->GInv a g->Yc c a f i d n k g= .ok b->GInv a b/\b.fr=true
 |0,_,_,_,_,_,_,_,_,c=>by cases c
 |f+1,i,d,n,k,g,b,l,p,c=>by
  have o:a[n]? =some a[n]:=Q6 l;rw[Yc,o] at c;simp only[AL,kR] at c;refine dQb o ?_ (QN a[n].2) 0 0 k [] {g with fr:=true} b (by rw[AJ,Wh (j _ (Fp l))]) (Q9 _) (p.fr true) (λh=>by cases h) c;intro r c q s l o b p;cases c:eo (ZS (a.map (·.1))) (n::i) r with
  |error e=>rw[c] at b;cases b
  |ok m=>
   rw[c] at b;simp only at b;split at b;cases b;have i:m<a.length:=by obtain⟨_,q,a⟩:=Ow c;have:=ld a;simpa using this
   exact(dQc j f _ _ m _ l o i p b).1
theorem nQe {d:Λ}{b:χ (Γ×Γ)}{c:Γ}{g:Gs}(a:W0 d b c= .ok g):GInv b g/\b.length<=256/\∀x∈b,x.2.length<=1048576:=by
 unfold W0 at a;split at a;cases a;cases d:V0 b with
 |some p=>rw[d] at a;cases a
 |none=>
  rw[d] at a;simp only at a;have f:b.length<=256:=by unfold V0 at d;split at d;cases d;omega
  have e:∀x∈b,jX x.1=true/\bB x.2=true/\x.2.length<=1048576:=by unfold V0 at d;rw[φ ω] at d;exact GT b [] 0 d
  cases d:ZS (b.map (·.1)) c with
  |none=>rw[d] at a;cases a
  |some n=>
   rw[d] at a;simp only at a;have h:n<b.length:=by have:=ld d;simpa using this
   exact⟨(dQc (λx c=>nI (e x c).2.1) 65 [] 0 n _ _ g h (⟨rfl,λs d=>by cases d⟩:GInv b ⟨[],[],false⟩) a).1,f,λx c=>(e x c).2.2⟩
end
section
def mkX (s:Sg)(x:DV):Sx:=⟨s.f,s.t,s.fl,s.at_,x⟩
def AllS (k:Nat):χ Sg->χ Sx->Prop|[],[]=>True|s::l,y::m=>(y.f=s.f/\y.t=s.t/\y.fl=s.fl/\y.at_=s.at_/\Set1 k y.x.nd y.x.r s.o)/\AllS k l m|_,_=>False
theorem AllS.len {k:Nat}:∀{l:χ Sg}{m:χ Sx},AllS k l m->l.length=m.length|[],[],_=>rfl|_::_,_::_,h=>by simp[AllS.len h.2]
theorem AllS.get {k:Nat}:∀{l:χ Sg}{m:χ Sx}{i:Nat}{s:Sg}{y:Sx},AllS k l m->l[i]? =some s->m[i]? =some y->y.f=s.f/\y.t=s.t/\y.fl=s.fl/\y.at_=s.at_/\Set1 k y.x.nd y.x.r s.o|_::_,_::_,0,_,_,h,h1,h2=>by cases h1;cases h2;exact h.1|_::_,_::_,i+1,_,_,h,h1,h2=>AllS.get (i:=i) h.2 (by simpa using h1) (by simpa using h2)
theorem dQd {w:θ}{k:Nat}{A:Θ}{n c:Nat}{sg:χ Sg}{L:χ DV}(h:SgIn w k A n c sg L):∃M,SX w A n c M/\AllS k sg M:=by
 have f:∀(sg:χ Sg) (L:χ DV),L.length=sg.length->(∀(j:Nat) (s:Sg) (x:DV),sg[j]? =some s->L[j]? =some x->SB w x.A x.n x.c x.nd/\Set1 k x.nd x.r s.o)->
   ∃M:χ Sx,M.flatMap Sx.cells=cN sg L/\M.length=sg.length/\(∀y∈M,SB w y.x.A y.x.n y.x.c y.x.nd)/\AllS k sg M:=by
  intro sg;induction sg with|nil=>intro L e _;have:L=[]:=VT e;subst this;exact⟨[],rfl,rfl,(λy a=>by cases a),⟨⟩⟩|cons s sg m=>
   intro L e l;cases L with
   |nil=>cases e
   |cons x L=>
    obtain⟨M,b,d,g,i⟩:=m L (by simpa using e) λj s x b d=>l (j+1) s x (by simpa using b) (by simpa using d);obtain⟨e,m⟩:=l 0 s x rfl rfl;refine⟨mkX s x::M,?_,by simp[d],?_,⟨⟨rfl,rfl,rfl,rfl,m⟩,i⟩⟩;rw[dk,b]<;>rfl
    intro y a;obtain rfl|a:=XI.1 a;exact e;exact g y a
 obtain⟨M,b,d,g,i⟩:=f sg L h.len h.dg;exact⟨M,⟨⟨by rw[b];exact h.sl,by rw[d];exact h.n⟩,g⟩,i⟩
def dI (a:Γ)(s:Sg):Γ:=(a.take s.t).drop s.f
section
variable {w:World} {k:Nat} {A:Option Addr} {c:Nat} {g:Gs}
end
end
section
end
end
section
theorem dQe (A:Θ)(n c:Nat)(d:χ Br)(a:Int)(b:Nat)(f:b<=18446744073709551615)(w:θ)(h:SB w A n c d)(i:XN d a=0):Fn ψ 53 [Q5 A n c a,.int .u64 b] w (λv g=>v= .bool (ev d a (jb b))/\Ext w g):=by have f:=h.2;obtain⟨j,f⟩:=gM.1 i;refine QK c53 [] Tryz.func53 ?_;refine new λj k l i=>?_;refine Qp i rfl ?_;refine loop Qe [5] (λs:Int=>[.int .i64 s]) (λs g=>Ext j g/\0<=s/\s<n+2/\ev d s (jb b)=ev d a (jb b)) (λs _=>s.toNat) a rfl ⟨Ext.refl _,f.2.1,by have:=f.2.2.1;omega,rfl⟩ ?_;rintro s o ⟨a,d,j,g⟩;have j:=k.trans a;refine Ql (λd=>?_) λd=>?_;refine QQ (i.ext a) rfl ?_;refine Qz (((s-2).toNat:Nat):Int) ?_;refine XG aD (h.ext j) rfl ω λp x k d=>?_;refine Jm (vs:=x.cells) rfl d ?_;refine new λi q l d=>?_;refine Qo d λw5 r l i=>?_;have l:Ext o w5:=X1 q d r;obtain⟨d,r,o,t,q,u,y,z,B,C⟩:=f.1 _ _ k;have d:=gR f.wf (n:=s) (e:=jb b) ω k;refine QQ i rfl ?_;refine uL (x.v.toNat:Int) ω ω ?_;refine Bg x.v.toNat (2^x.v.toNat) ω (by show min _ 64=_;omega) rfl ?_;have f:b/2^x.v.toNat<18446744073709551616:=Nat.lt_of_le_of_lt (Nat.div_le_self _ _) ω;refine norm (m:=((b/2^x.v.toNat % 2:Nat):Int)) (cQ0 _ f) ?_;refine X0 (λf=>?_) λf=>?_;have f:jb b x.v.toNat=true:=Zg ω;rw[f,Qf rfl] at d;refine Qp i rfl ?_;exact⟨x.h,rfl,⟨a.trans l,q,ω,by rw[<-d];exact g⟩,by show x.h.toNat<s.toNat;omega⟩;have f:jb b x.v.toNat=false:=XZ ω;rw[f,φ δ] at d;refine Qp i rfl ?_;exact⟨x.l,rfl,⟨a.trans l,o,ω,by rw[<-d];exact g⟩,by show x.l.toNat<s.toNat;omega⟩;refine⟨?_,j⟩;rw[<-g,VY ω]<;>rfl
theorem VD.set64 {a:χ Br}{r:Int}(h:VD a r):Set1 64 a r (ev a r):=⟨h,λb a=>by
 obtain⟨j,c,rfl⟩:=xU.1 a;have:=(h.1 j _ (Q6 c)).2.1;omega,λ_=>rfl⟩
theorem nQf {k:Nat}{a:χ Br}{r:Int}{o:BF}(h:Set1 k a r o):r=0↔∀e,o e=false:=by
 constructor;intro a e;rw[<-h.mean e,a,VY δ]<;>rfl
 intro a;have:=h.unique (Y0 k false) a;exact QG Prod.snd this
theorem nQg {a b:χ Br}{i j:Int}(A:Θ)(n c:Nat)(B:Θ)(m d:Nat)(f:Int)(l:f≠3/\f≠4)(w:θ)(h:SB w A n c a)(k:SB w B m d b)(s:VD a i)(g:VD b j)(o:a.length<=4096)(p:b.length<=4096):Fn ψ 58 [Q5 A n c i,Q5 B m d j,.int .i64 f] w (jd w 64 λe=>J5 f (ev a i e) (ev b j e)):=by have o:=h.2;have o:=k.2;have o:=yz s g f;have o:(a.length+2)*(b.length+2)<=4098*4098:=Fr ω ω;refine(NE A n c a i B m d b j f w h k s.dok g.dok s.2.1 (by have:=s.2.2.1;omega) g.2.1 (by have:=g.2.2.1;omega) ω ω ω ω l).mono ?_;rintro v p ⟨i,q,j,rfl,k,l,o⟩;exact⟨i,q,j,_,_,rfl,k,l,fj s.set64 g.set64 f,o⟩
theorem nQh {a b:χ Br}{f g:Int}(A:Θ)(n c:Nat)(B:Θ)(m d:Nat)(w:θ)(h:SB w A n c a)(k:SB w B m d b)(s:VD a f)(l:VD b g)(o:a.length<=4096)(p:b.length<=4096):Fn ψ 22 [Q5 A n c f,Q5 B m d g] w (jd w 64 λe=>J5 0 (ev a f e) (ev b g e)):=by refine QK c22 [] Tryz.func22 ?_;refine new λf t g u=>?_;refine new λv j f x=>?_;refine new λy f g z=>?_;have g:=(t.trans j).trans f;refine Qm ((u.ext j).ext f) ?_;refine Qm (x.ext f) ?_;refine call (nQg A n c B m d 0 δ y (h.ext g) (k.ext g) s l o p) ?_;rintro _ f ⟨o,q,p,t,r,rfl,j,u,x,k⟩;refine Qo (z.ext j) λw5 y _ C=>?_;have l:Mod (·=v.heap.size) f w5:=vQB y rfl;refine Qm C ?_;exact⟨o,q,p,t,r,rfl,l.ext (g.trans j) λi f=>ω,u.mod l (λi f e=>by have:=k i f;omega),x,λi f=>by have:=k i f;omega⟩
theorem dQf (A:Θ)(n c:Nat)(a:χ Br)(f:Int)(B:Θ)(m d:Nat)(b:χ Br)(g:Int)(w:θ)(h:SB w A n c a)(o:SB w B m d b):Fn ψ 76 [Q5 A n c f,Q5 B m d g] w (λu i=>u= .bool (pL a f b g)/\Ext w i):=by
 have i:=h.2;have i:=o.2;refine QK c76 [] Tryz.func76 ?_;refine new λj i k z=>?_;refine new λk p j C=>?_;have l:=i.trans p;refine Qm (z.ext p) (Qm C (WC (⟨A,n,c,a,f⟩:DV).cells (⟨B,m,d,b,g⟩:DV).cells ?_));intro j s i t;have i:=l.trans s;have l:SlS DV.cells 2 j (some ⟨k.heap.size,0,none⟩) 2 2 [⟨A,n,c,a,f⟩,⟨B,m,d,b,g⟩]:=⟨Sl.own (sz:=2) (n:=2) t (Qw _) δ (by simp[DV.cells]),rfl⟩
 refine call (bQB _ 2 2 _ j l (λx k=>by
  simp only[XI,d5,eX] at k;obtain rfl|rfl:=k;exact h.ext i;exact o.ext i)) ?_
 rintro v G ⟨rfl,t⟩;have l:=i.trans t;have i:cg [(⟨A,n,c,a,f⟩:DV),⟨B,m,d,b,g⟩]=if XN a f≠0 then XN a f else if XN b g≠0 then XN b g else 0:=rfl
 have D:cg [(⟨A,n,c,a,f⟩:DV),⟨B,m,d,b,g⟩]=0↔XN a f=0/\XN b g=0:=by rw[i];by_cases j:XN a f=0;rw[φ λi=>i j];by_cases k:XN b g=0;rw[φ λi=>i k];simp[j,k];rw[Qf k];simp[k];rw[Qf j];simp[j]
 refine X0 (λy=>?_) λy=>?_;obtain⟨E,F⟩:=D.1 y;obtain⟨I,H⟩:=gM.1 E;obtain⟨J,I⟩:=gM.1 F;refine Qm ((z.ext p).ext (s.trans t)) (Qm (C.ext (s.trans t)) (call (nQh A n c B m d G (h.ext l) (o.ext l) H I ω ω) ?_));rintro _ p ⟨t,q,z,C,r,rfl,o,G,s,H⟩;refine⟨?_,l.trans o⟩;have p:=nQf s;by_cases o:gW a f b g;rw[Cv λi=>i.2.2 o];have:r≠0:=λs=>by obtain⟨e,t,z⟩:=o;have:=p.1 s e;simp only[J5,t,z] at this;cases this
 show Value.bool (r==0)=_;rw[beq_false_of_ne this];rw[OI ⟨E,F,o⟩];have:r=0:=p.2 (λe=>by
  cases j:ev a f e with|false=>rfl|true=>cases k:ev b g e with|false=>rfl|true=>exact Xg ⟨e,j,k⟩ o)
 subst this;rfl;exact⟨by rw[Cv λi=>y (D.2 ⟨i.1,i.2.1⟩)],l⟩
theorem nQi {l:Γ}{j x:Nat}(h:l[j]? =some x):(j5 l)[j]? =some (.int .i64 (x:Nat)):=by simp[j5,h]
theorem j6 (a b:Γ)(h:a.length+b.length<=100000):(Qb a).size+(Qb b).size<=maxLen:=by rw[QZ,QZ];unfold maxLen;omega
def dQg (p q:Γ)(b:Nat):Γ:=
 if b=0∨b=1 then p else if b=2 then 33::p else if b=3 then p++ [32,38,38,32]++q else if b=4 then p++ [32,124,124,32,33]++q
 else if b=5 then [33,40]++p++ [32,38,38,32]++q++ [41] else if b=6 then [33]++p++ [38,38,33]++q else [116,114,117,101]
def W5 (a:Λ)(b:Nat):Γ:=
 if a=[] then([[116,114,117,101],[102,97,108,115,101],[33,102,97,108,115,101]][b % 3]?).getD []
 else dQg ((a[b/8 % a.length]?).getD []) ((a[(b/64+b/8+1) % a.length]?).getD []) (b % 8)
theorem dQh (a:Λ)(A:Θ)(n c:Nat)(b:Nat)(w:θ)(h:Sl w 1 A n c (Xb a))(l:∀s∈a,s.length<=100)(f:b<=255):Fn ψ 130 [.slice A n c,.int .u8 b] w (λv d=>v= .string (Qb (W5 a b))/\Ext w d):=by
 have f:a.length=n:=by have:=h.len;rw[az] at this;omega
 have d:n<=9223372036854775807:=by have:=h.le;have:=h.cap;simp only[maxLen] at this;omega
 refine QK iQO [] Tryz.func130 ?_;refine X0 (λd=>?_) λd=>?_;have g:a=[]:=VT ω;have d:W5 a b=([[116,114,117,101],[102,97,108,115,101],[33,102,97,108,115,101]][b % 3]?).getD []:=Qf g;have g:b % 3<3:=dq _ δ;refine ny Qe ([[116,114,117,101],[102,97,108,115,101],[33,102,97,108,115,101]].map λs=>[Value.string (Qb s)]) rfl rfl rfl rfl rfl ⟨rfl,rfl,rfl,rfl,rfl,rfl,⟨⟩⟩ rfl (λi h=>by simp only[Z5] at h;obtain⟨s,_,rfl⟩:=h;rfl) rfl δ δ ?_;intro o i t k;refine Qz ((b:Nat):Int) ?_ (hm:=rfl);refine normIf (m:=((b % 3:Nat):Int)) δ rfl (index (j:=b % 3) g ?_);refine Qp k (v:=.string (Qb (([[116,114,117,101],[102,97,108,115,101],[33,102,97,108,115,101]][b % 3]?).getD []))) (by
  generalize b % 3=r at g;obtain rfl|rfl|rfl:=(show r=0∨r=1∨r=2 by omega) <;>rfl) ?_
 exact⟨by rw[d],i⟩;have i:a≠ []:=λe=>by rw[e] at f;simp at f;omega
 have g:0<n:=by omega
 have d:W5 a b=dQg ((a[b/8 % a.length]?).getD []) ((a[(b/64+b/8+1) % a.length]?).getD []) (b % 8):=φ i;rw[f] at d;have o:b/8 % n<n:=dq _ g;have t:(b/64+b/8+1) % n<n:=dq _ g;have g:IntKind.u8.wrap (((b:Nat):Int).tdiv 8)=((b/8:Nat):Int):=by show IntKind.u8.wrap ((b/8:Nat):Int)=_;rw[yf];omega
 have f:IntKind.u8.wrap (((b:Nat):Int).tdiv 64)=((b/64:Nat):Int):=by show IntKind.u8.wrap ((b/64:Nat):Int)=_;rw[yf];omega
 have i:a[b/8 % n]? =some (a[b/8 % n]'ω):=Q6 _;have k:a[(b/64+b/8+1) % n]? =some (a[(b/64+b/8+1) % n]'ω):=Q6 _;have x:=l _ (Xd i);have x:=l _ (Xd k);rw[i,k] at d;simp only[kR] at d;generalize a[b/8 % n]'ω=p at*;generalize a[(b/64+b/8+1) % n]'ω=q at*;have a:=QZ p;have a:=QZ q;refine normIf (m:=((b/8:Nat):Int)) δ g (Qz ((b/8:Nat):Int) ?_ (hm:=rfl));refine normIf (m:=((b/8 % n:Nat):Int)) ω (gI _ _) (Zq h o λx u y a l=>?_);rw[dw i] at a;cases a;refine load l (normIf (m:=((b/64:Nat):Int)) δ f (normIf (m:=((b/8:Nat):Int)) δ g (norm (m:=((b/64+b/8:Nat):Int)) (by show IntKind.u8.wrap (((b/64:Nat):Int)+((b/8:Nat):Int))=_;rw[<-Int.natCast_add,yf];omega) ?_)));refine norm (m:=((b/64+b/8+1:Nat):Int)) (by show IntKind.u8.wrap (((b/64+b/8:Nat):Int)+((1:Nat):Int))=_;rw[<-Int.natCast_add,yf];omega) ?_;refine Qz ((b/64+b/8+1:Nat):Int) ?_ (hm:=rfl);refine normIf (m:=(((b/64+b/8+1) % n:Nat):Int)) ω (gI _ _) (Zq h t λl o x i a=>?_);rw[dw k] at i;cases i;refine load a ?_;have a:((b:Nat):Int).tmod 8=((b % 8:Nat):Int):=gI b 8;have i:b % 8<8:=dq _ δ;generalize b % 8=r at a i d;refine normIf (m:=((r:Nat):Int)) δ a ?_;clear a g f;rw[d];obtain rfl|rfl|rfl|rfl|rfl|rfl|rfl|rfl:=(show r=0∨r=1∨r=2∨r=3∨r=4∨r=5∨r=6∨r=7 by omega);refine Q3 rfl ?_;exact⟨rfl,Ext.refl _⟩;refine QX rfl (Q3 rfl ?_);exact⟨rfl,Ext.refl _⟩;refine QX rfl (QX rfl (Q3 rfl (XF (v':=.string (Qb ([33]++p))) (j6 [33] p (by simp;omega)) (QG Value.string (ZR [33] p)) ?_)));exact⟨rfl,Ext.refl _⟩;refine QX rfl (QX rfl (QX rfl (Q3 rfl (XF (v':=.string (Qb (p++ [32,38,38,32]))) (j6 p [32,38,38,32] (by simp;omega)) (QG Value.string (ZR p [32,38,38,32])) (XF (v':=.string (Qb ((p++ [32,38,38,32])++q))) (j6 (p++ [32,38,38,32]) q (by simp;omega)) (QG Value.string (ZR (p++ [32,38,38,32]) q)) ?_)))));exact⟨rfl,Ext.refl _⟩;refine QX rfl (QX rfl (QX rfl (QX rfl (Q3 rfl (XF (v':=.string (Qb (p++ [32,124,124,32,33]))) (j6 p [32,124,124,32,33] (by simp;omega)) (QG Value.string (ZR p [32,124,124,32,33])) (XF (v':=.string (Qb ((p++ [32,124,124,32,33])++q))) (j6 (p++ [32,124,124,32,33]) q (by simp;omega)) (QG Value.string (ZR (p++ [32,124,124,32,33]) q)) ?_))))));exact⟨rfl,Ext.refl _⟩;refine QX rfl (QX rfl (QX rfl (QX rfl (QX rfl (Q3 rfl (XF (v':=.string (Qb ([33,40]++p))) (j6 [33,40] p (by simp;omega)) (QG Value.string (ZR [33,40] p)) (XF (v':=.string (Qb (([33,40]++p)++ [32,38,38,32]))) (j6 ([33,40]++p) [32,38,38,32] (by simp;omega)) (QG Value.string (ZR ([33,40]++p) [32,38,38,32])) ?_)))))));refine XF (v':=.string (Qb (([33,40]++p++ [32,38,38,32])++q))) (j6 ([33,40]++p++ [32,38,38,32]) q (by simp;omega)) (QG Value.string (ZR ([33,40]++p++ [32,38,38,32]) q)) (XF (v':=.string (Qb (([33,40]++p++ [32,38,38,32]++q)++ [41]))) (j6 ([33,40]++p++ [32,38,38,32]++q) [41] (by simp;omega)) (QG Value.string (ZR ([33,40]++p++ [32,38,38,32]++q) [41])) ?_);exact⟨rfl,Ext.refl _⟩;refine QX rfl (QX rfl (QX rfl (QX rfl (QX rfl (QX rfl (Q3 rfl (XF (v':=.string (Qb ([33]++p))) (j6 [33] p (by simp;omega)) (QG Value.string (ZR [33] p)) ?_)))))));refine XF (v':=.string (Qb (([33]++p)++ [38,38,33]))) (j6 ([33]++p) [38,38,33] (by simp;omega)) (QG Value.string (ZR ([33]++p) [38,38,33])) (XF (v':=.string (Qb (([33]++p++ [38,38,33])++q))) (j6 ([33]++p++ [38,38,33]) q (by simp;omega)) (QG Value.string (ZR ([33]++p++ [38,38,33]) q)) ?_);exact⟨rfl,Ext.refl _⟩;refine QX rfl (QX rfl (QX rfl (QX rfl (QX rfl (QX rfl (QX rfl ?_))))));exact⟨rfl,Ext.refl _⟩
def nQj (p q:Fm)(b:Nat):Fm:=
 if b=0∨b=1 then p else if b=2 then .not p else if b=3 then .and p q else if b=4 then .or p (.not q)else if b=5 then .not (.and p q)else if b=6 then .and (.not p) (.not q)else .c true
def G0 (k b:Nat):Fm:=if k=0 then(if b % 3=0 then .c true else if b % 3=1 then .c false else .not (.c false))else nQj (.v (b/8 % k)) (.v ((b/64+b/8+1) % k)) (b % 8)
def vq (k b:Nat):Bool:=match gT (Jv.take k) (W5 (Jv.take k) b)with|.ok t=>decide (t=G0 k b)|.error _=>false
theorem Cw {k b:Nat}(h:vq k b=true):gT (Jv.take k) (W5 (Jv.take k) b)= .ok (G0 k b):=by unfold vq at h;split at h;rename_i t a;rw[a,WY h];cases h
theorem nQk:(List.range 256).all (vq 4)=true:=by decide+kernel
theorem nQl:(List.range 256).all (vq 3)=true:=by decide+kernel
theorem nQm:(List.range 256).all (vq 2)=true:=by decide+kernel
theorem nQn:(List.range 256).all (vq 1)=true:=by decide+kernel
theorem nQo:(List.range 256).all (vq 0)=true:=by decide+kernel
theorem nQp {k b:Nat}(d:k<=4)(c:b<=255):gT (Jv.take k) (W5 (Jv.take k) b)= .ok (G0 k b):=by have a:b∈List.range 256:=oY.2 ω;obtain rfl|rfl|rfl|rfl|rfl:=(show k=0∨k=1∨k=2∨k=3∨k=4 by omega);exact Cw (Vb.1 nQo b a);exact Cw (Vb.1 nQn b a);exact Cw (Vb.1 nQm b a);exact Cw (Vb.1 nQl b a);exact Cw (Vb.1 nQk b a)
def yT (k b:Nat):BF:=evF (G0 k b)
theorem nQq {k b:Nat}(a:k<=4)(c:b<=255):Jn (Jv.take k) (W5 (Jv.take k) b)= .ok (yT k b):=by unfold Jn;rw[nQp a c]<;>rfl
theorem nQr (x:Nat)(a:x<256):IntKind.u8.wrap ((BitVec.ofInt 8 (x:Int) &&& BitVec.ofInt 8 1).toNat)=((x % 2:Nat):Int):=by
 have e:(BitVec.ofInt 8 (x:Int) &&& BitVec.ofInt 8 1).toNat=x % 2:=by rw[BitVec.ofInt_natCast,show BitVec.ofInt 8 1=BitVec.ofNat 8 1 from rfl,BitVec.toNat_and,BitVec.toNat_ofNat,BitVec.toNat_ofNat];rw[mR ω,show 1 % 2^8=1 by decide,Nat.and_one_is_mod]
 rw[e];obtain h|h:=(show x % 2=0∨x % 2=1 by omega) <;>rw[h]<;>decide
theorem nQs (q:Nat):(((q:Nat):Int)==1)=decide (q=1):=by by_cases h:q=1;subst h;rfl;rw[XZ h];exact beq_eq_false_iff_ne.2 ω
theorem dQi (k:Nat)(a:k<=1000000):IntKind.i64.wrap ((k:Int).tdiv 8)=((k/8:Nat):Int):=by rw[show(8:Int)=((8:Nat):Int) from rfl,hQZ];exact IntWalk.i64_in _ ω
theorem nQt (v:Nat)(a:v<=6):IntKind.i64.wrap (1*2^(min ((v:Nat):Int).toNat IntKind.i64.bits))=((2^v:Nat):Int):=by obtain rfl|rfl|rfl|rfl|rfl|rfl|rfl:=(show v=0∨v=1∨v=2∨v=3∨v=4∨v=5∨v=6 by omega) <;>decide
theorem dQj (l:Γ)(A:Θ)(n c N:Nat)(B:θ)(h:Sl B 1 A n c (YH l))(C:∀x∈l,x<=255)(E:N<=6):∀(d v k:Nat)(w:θ),Ext B w->v+d=N->k<2^v->Fn ψ 72 [.slice A n c,.int .i64 N,.int .i64 v,.int .i64 k] w (jd w N (fk l d v k))
 |0,v,k,w,s,D,F=>by
  have a:l.length=n:=by have:=h.len;rw[yh] at this;omega
  have G:2^v<=2^6:=bZ δ ω;have a:n<=9223372036854775807:=by have:=h.le;have:=h.cap;simp only[maxLen] at this;omega
  refine QK c72 [] Tryz.func72 ?_;refine new λp t H y=>?_;refine JF ω (normIf (m:=((k/8:Nat):Int)) δ (dQi k ω) ?_);have q:∀b:Bool,b=GU l k->∀a,Ext p a->∀w3,a.grownBy w3 (some w.heap.size)->jd w N (fk l 0 v k) (Q5 none 0 0 (if b then 1 else 0)) w3:=λb o a f w3 r=>by have z:Mod (·=w.heap.size) a w3:=vQB r rfl;exact⟨none,0,0,[],_,rfl,z.ext (t.trans f) λi g=>ω,SlS.nil _,(Y0 N b).congr (λ_=>by rw[o];rfl),λi g=>by obtain⟨_,e,_⟩:=g;cases e⟩
  refine Ql (λo=>?_) λo=>?_;refine normIf (m:=((k/8:Nat):Int)) δ (dQi k ω) ?_;have z:=Q6 (show k/8<l.length by omega);generalize l[k/8]=x at z;have o:=C x (Xd z);refine Zq ((h.ext s).ext t) ω λJ u K o I=>?_;rw[uO z] at o;cases o;refine load I ?_;have o:k % 8<8:=dq _ δ;refine aQz (d:=8) δ (norm (m:=((k % 8:Nat):Int)) (IntWalk.u64_in _ ω) (Bg (k % 8) (2^(k % 8)) ω (by show min ((k % 8:Nat):Int).toNat 8=_;omega) rfl ?_));have o:x/2^(k % 8)<256:=Nat.lt_of_le_of_lt (Nat.div_le_self _ _) ω;refine norm (m:=((x/2^(k % 8) % 2:Nat):Int)) (nQr _ o) (call (vo (((x/2^(k % 8) % 2:Nat):Int)==1) p) ?_);rintro _ a ⟨rfl,f⟩;refine Qo (y.ext f) λw3 r _ o=>?_;refine Qm o (q _ ?_ a f w3 r);unfold GU;rw[Zg (show k/8<l.length by omega),z];simp only[kR,YF];exact nQs _;refine call (vo false p) ?_;rintro _ a ⟨rfl,f⟩;refine Qo (y.ext f) λw3 r _ o=>?_;refine Qm o (q false ?_ a f w3 r);unfold GU;rw[XZ (show¬k/8<l.length by omega)]<;>rfl
 |d+1,v,k,w,s,D,F=>by
  have G:2^v<=2^6:=bZ δ ω;have q:2^(v+1)=2^v+2^v:=by rw[rC];omega
  have D:=dQj l A n c N B h C E d;refine QK c72 [] Tryz.func72 ?_;refine new λp t H y=>?_;refine X6 ω (call (bQy (v:Nat) p ω ω) ?_);rintro _ a ⟨p,q,r,rfl,f,F,_⟩;refine new λw3 z B o=>?_;refine Qo o λw4 B _ G=>?_;have C:Ext a w4:=X1 z o B;have B:=f.trans C;have z:=t.trans B;have E:=F.ext C;have F:=GW (k:=N) (v:=v) ω ω;have t:∀f,Ext w4 f->∀(j:Nat) (u:τ),[Value.slice p q r,.int .i64 2][j]? =some u->f.cell? ((⟨a.heap.size,0,none⟩:Addr).add j)=some u:=λf a j u o=>by rw[(G.ext a).cell];exact o
  refine Xw (Ext w4) 21 (oz 10 0 (oz 5 12 [(true,18),(false,10),(false,11),(false,17),(false,19),(false,20)])) (Ext.drew w4) (Xe (vs:=[.slice p q r,.int .i64 2]) rfl (λf a j u o=>t f a j u o) (Qz ((v+1:Nat):Int) (norm (m:=((v:Nat):Int)) (IntWalk.u64_in _ ω) (normIf (m:=((2^v:Nat):Int)) ω (nQt v ω) (Qz ((k+2^v:Nat):Int) (Qz ((v+1:Nat):Int) (Xe (vs:=[.slice p q r,.int .i64 2]) rfl (λf a j u o=>t f a j u o) ?_)))))));refine call (D (v+1) (k+2^v) _ ((s.trans z).trans (Ext.drew w4)) ω ω) ?_;rintro _ t ⟨C,a,f,o,J,rfl,G,H,I,_⟩;have o:=(Ext.drew w4).trans G;refine⟨o,?_⟩;refine call (vp ω p q r C a f t (E.ext o) H F I) ?_;rintro _ J ⟨H,f,t,a,K,rfl,G,C,I,_⟩;have a:=o.trans G;refine⟨a,?_⟩;refine call (D (v+1) k _ ((s.trans z).trans a) ω ω) ?_;rintro _ J ⟨K,o,s,D,O,rfl,G,L,M,_⟩;have D:=a.trans G;refine⟨D,?_⟩;refine call (OG ω K o s p q r J L (E.ext D) M F) ?_;rintro _ r ⟨s,o,p,a,J,rfl,q,E,F,_⟩;have a:=D.trans q;refine⟨a,?_⟩;refine call (mQ0 ω H f t s o p r ((C.ext G).ext q) E I F) ?_;rintro _ s ⟨t,f,o,p,C,rfl,D,E,F,r⟩;have q:=a.trans D;refine⟨q,?_⟩;have D:=(z.trans a).size;have D:=(B.trans a).size;refine Qo ((y.ext B).ext q) λQu D _ G=>?_;have a:Mod (·=w.heap.size) s Qu:=vQB D rfl;refine Qm G ?_;refine⟨t,f,o,p,C,rfl,a.ext (z.trans q) λi g=>ω,E.mod a (λi g e=>by have:=r i g;omega),F.congr λe=>?_,λi g=>by have:=r i g;omega⟩;show J5 1 (J5 0 (e v) (fk l d (v+1) (k+2^v) e)) (fk l d (v+1) k e && !e v)=if e v then fk l d (v+1) (k+2^v) e else fk l d (v+1) k e
  cases e v<;>simp[J5]
theorem j7 (l:Γ)(A:Θ)(n c N:Nat)(w:θ)(h:Sl w 1 A n c (YH l))(d:∀x∈l,x<=255)(f:N<=6):Fn ψ 28 [.slice A n c,.int .i64 N] w (jd w N (fk l N 0 0)):=by refine QK c28 [] Tryz.func28 ?_;refine new λa b j g=>?_;refine norm (m:=((N:Nat):Int)) (by split<;>omega) ?_;refine norm (m:=((N:Nat):Int)) (by split<;>omega) ?_;refine call (dQj l A n c N a (h.ext b) d f N 0 0 a (Ext.refl _) ω δ) ?_;rintro _ a ⟨U,j,k,o,r,rfl,d,p,q,f⟩;refine Qo (g.ext d) λw3 s _ t=>?_;have g:Mod (·=w.heap.size) a w3:=vQB s rfl;refine Qm t ?_;exact⟨U,j,k,o,r,rfl,g.ext (b.trans d) λi a=>ω,p.mod g (λi a e=>by have:=f i a;omega),q,λi a=>by have:=f i a;omega⟩
theorem nQu {s:Γ}(h:s.head? ≠some 35):X3 s= .txt:=by
 unfold X3;cases s with|nil=>rfl|cons b t=>
  have a:b≠35:=λe=>h (by rw[e];rfl);have c:Zd.isPrefixOf (b::t)=false:=by simp[Zd,List.isPrefixOf,a.symm]
  have d:pInc.isPrefixOf (b::t)=false:=by simp[pInc,List.isPrefixOf,a.symm]
  have f:pElif.isPrefixOf (b::t)=false:=by simp[pElif,List.isPrefixOf,a.symm]
  rw[c,d,f,φ δ,φ δ,φ δ,φ (by simp[J6,a]),φ (by simp[X5,a])]
theorem nQv {a:Λ}(h:∀s∈a,∀x∈s,x<256):∀x∈Qk a,x<256:=λx b=>by unfold Qk at b;obtain⟨s,c,a⟩:=ay.1 b;obtain a|a:=X2.1 a;exact h s c x a;simp only[Xx] at a;subst a;decide
theorem dQk (a:Λ)(s:Γ):Qk (a++ [s])=Qk a++(s++ [10]):=by simp[Qk]
theorem nQw (F:Γ):X3 (Zd++F)= .ifd F:=by simp[X3,Zd,List.isPrefixOf]
theorem nQx (F:Γ):X3 (pElif++F)= .elif F:=by simp[X3,Zd,pElif,pInc,List.isPrefixOf]
theorem nQy {a s:Γ}{x:Sg}(h:x.t<=a.length):dI (a++s) x=dI a x:=by unfold dI;rw[Fj h]
inductive Mn where
 |tx (s:Γ)
 |ifd (F:Γ) (o:BF)
 |elif (F:Γ) (o:BF)
 |els
 |en
 |inc
def dQl:Γ:=[34,110,34]
def YM:Mn->Γ|.tx s=>s|.ifd F _=>Zd++F|.elif F _=>pElif++F|.els=>J6|.en=>X5|.inc=>pInc++dQl
structure TxOk (s:Γ):Prop where
 nl:10∉s
 dr:X3 s= .txt
 b8:∀x∈s,x<256
structure FOk (nm:Λ) (F:Γ) (o:BF):Prop where
 nl:10∉F
 st:Jn nm F= .ok o
 b8:∀x∈F,x<256
def cP (b:Λ)(c:Bool)(D:Nat):χ Bool->χ Mn->Prop|[],[]=>True|_::_,[]=>False|a,.tx s::l=>TxOk s/\cP b c D a l|a,.ifd F o::l=>FOk b F o/\a.length<D/\cP b c D (false::a) l|false::a,.elif F o::l=>FOk b F o/\cP b c D (false::a) l|false::a,.els::l=>cP b c D (true::a) l|_::a,.en::l=>cP b c D a l|a,.inc::l=>c=true/\cP b c D a l|_,_=>False
theorem nQz (F:Γ):X3 (pInc++F)= .inc F:=by simp[X3,Zd,pInc,List.isPrefixOf]
abbrev opM (a:List Se):List (BF×BF):=a.map λx=>(x.ou,x.re)
end
section
open Go Go.RowKit Go.ChangeShapes
variable {H:Type} {enc:TypeId×Value->H}
theorem law_of {P:Program}{f:FuncId}{l:χ τ}{w:θ}(h:Fn P f l w λv w'=>v= .bool true/\Ext w w'):Calls P f l.toArray w λe w'=>e= .returned (.bool true)/\Below w.heap.size w w':=by unfold Fn at h;exact h.mono λe w' a=>by cases e with|returned v=>exact⟨by rw[a.1],a.2.below⟩|panicked b=>exact a.elim|outgrown=>exact a.elim
theorem tQ2 {W:θ}{a:Θ}{b f:Nat}{d:DataW H}{p:χ MemPlace}(h:DataW.Trod enc ψ W 0 (λ_=>true) true 37 (.slice a b f) d p):∃l,Sl W 1 a b f (Xb l)/\KH l:=by
 obtain⟨R,L⟩:=h;obtain⟨e,_⟩|⟨x,l,c,m,n,D,Pl,e,_,M,N,r,_,P⟩:=Go.Deep.open_slice Tryz.underlying37 L;simp[Value.cells] at e;obtain⟨rfl,rfl,rfl⟩:=e;exact⟨[],Sl.nil W 1,λs O=>by cases O⟩;simp[Value.cells] at e;obtain⟨rfl,rfl,rfl⟩:=e;simp only[if_true] at r;subst r;have o:ψ.cellsOf 9=1:=by kernel_rfl
 have g:∀i,i<m->∃y:ByteArray,y.size<=maxLen/\W.cell? (x.add i)=some (.string y):=by intro i A;obtain⟨J,w,K⟩:=P i A;rw[o] at w;obtain⟨_,I,G⟩:=World.cells?_some w;match J,I with|[v],_=>obtain⟨s,t,_,F⟩:=DataW.trod_string Tryz.underlying9 K;simp at t;subst t;refine⟨s,F,?_⟩;have:=G 0 δ;rw[VC] at this;simpa [add_add] using this
 have Q:Inhabited ByteArray:=⟨⟨#[]⟩⟩
 obtain⟨Y,z⟩:=Go.Deep.choose_lt g;refine⟨(List.range b).map λi=>Yn (Y i),⟨by simp[Xb],M,N,λ_=>⟨x,rfl,λj u C=>?_⟩⟩,?_⟩;simp only[Xb,xP,Wy,Mu] at C;obtain⟨k,q,rfl⟩:=C;have B:=(ZK.1 q).1;simp at B;have:k=j:=by rw[List.getElem?_range B] at q;exact(Option.some.inj q).symm
 subst this;rw[(z k ω).2];simp[M3];intro y E;simp only[Z5,oY] at E;obtain⟨i,A,rfl⟩:=E;have:=(z i ω).1;exact⟨FW _,by rw[uP];simpa [maxLen] using this⟩
theorem nQA {W:θ}{a:Θ}{f k:Nat}{d:DataW H}{p:χ MemPlace}(h:DataW.Trod enc ψ W 0 (λ_=>true) true 62 (.slice a f k) d p):∃l,Sl W 1 a f k (YH l)/\∀b∈l,b<=255:=by
 obtain⟨D,v⟩:=h;obtain⟨i,_⟩|⟨x,l,c,g,i,_,w,A,C,_,s,t⟩:=open_ints Tryz.underlying62 Tryz.underlying5 κ v;simp[Value.cells] at i;obtain⟨rfl,rfl,rfl⟩:=i;exact⟨[],Sl.nil W 1,by simp⟩;simp[Value.cells] at i;obtain⟨rfl,rfl,rfl⟩:=i;simp at C;have o:∀n∈g,0<=n/\n<=255:=λn B=>by have:=t n B;simp[Lit.wf,IntKind.min,IntKind.max,IntKind.signed,IntKind.bits] at this;omega
 refine⟨(g.take f).map Int.toNat,⟨by simp[YH];omega,w,A,λ_=>⟨x,rfl,λj u q=>?_⟩⟩,?_⟩;simp only[YH,xP,Wy,Mu] at q;obtain⟨y,e,rfl⟩:=q;rw[Mp] at e;split at e;rename_i F;have m:j<g.length:=by omega
 rw[Q6 m] at e;cases e;have E:=o g[j] (Fp m);rw[s j m];have:g.getD j 0=g[j]:=by simp[m]
 rw[this];show some (Value.int .u8 _)=some (Value.int .u8 ((g[j].toNat:Nat):Int));congr 2;omega;cases e;intro y e;simp only[Z5] at e;obtain⟨z,r,rfl⟩:=e;have:=o z (aw r);omega
theorem r8 {a:Int}(w:(Lit.int .u8 a).wf=true):∃n:Nat,a=n/\n<=255:=by simp[Lit.wf,IntKind.min,IntKind.max,IntKind.signed,IntKind.bits] at w;exact⟨a.toNat,ω,ω⟩
theorem dQm {a:Int}(w:(Lit.int .i64 a).wf=true): -9223372036854775808<=a/\a<=9223372036854775807:=by simp[Lit.wf,IntKind.min,IntKind.max,IntKind.signed,IntKind.bits] at w;omega
end
section
open Go Go.RowKit Go.ChangeShapes
variable {H:Type} {enc:TypeId×Value->H}
theorem nQB {α:Type}{l:χ α}(h:l.length=2):∃a b,l=[a,b]:=by match l,h with|[a,b],_=>exact⟨a,b,rfl⟩
theorem yU {α:Type}{l:χ α}(h:l.length=3):∃a b c,l=[a,b,c]:=by match l,h with|[a,b,c],_=>exact⟨a,b,c,rfl⟩
theorem OK {W:θ}{α:Type}{cells:α->χ τ}{e:Nat}(f:∀x,(cells x).length=e)(r:0<e){t h:TypeId}{k:Nat}{b:χ τ}{z:DataW H×χ MemPlace}(s:ψ.underlying t=some (.slice h)) (o:ψ.cellsOf h=e) (d:Inhabited α)(p:∀(b:χ τ) (k:Nat) (D:DataW H×χ MemPlace),b.length=e->DataW.trod enc ψ W 0 (λ_=>true) true k h b=some D->∃y,cells y=b){a:Θ} {len g:Nat} (d:b=[.slice a len g]) (w:DataW.trod enc ψ W 0 (λ_=>true) true k t b=some z):∃l,SlS cells e W a len g l:=by
 subst d;obtain⟨d,_⟩|⟨x,l,c,m,n,D,Pl,d,_,q,A,g,_,B⟩:=Go.Deep.open_slice s w;simp at d;obtain⟨rfl,rfl,rfl⟩:=d;exact⟨[],SlS.nil W⟩;simp at d;obtain⟨rfl,rfl,rfl⟩:=d;simp only[if_true] at g;subst g;have d:∀i,i<m->∃y:α,∀j v,(cells y)[j]? =some v->W.cell? (x.add (i*e+j))=some v:=by
  intro i h;obtain⟨b,g,k⟩:=B i h;rw[o] at g;obtain⟨_,b,s⟩:=World.cells?_some g;obtain⟨y,rfl⟩:=p _ _ _ b k;refine⟨y,λj v o=>?_⟩;have b:j<e:=by have:=(ZK.1 o).1;rw[f] at this;exact this
  have:=s j b;rw[add_add] at this;rw[this];exact o
 obtain⟨Y,p⟩:=Go.Deep.choose_lt d;refine⟨(List.range len).map Y,⟨⟨?_,q,A,λ_=>⟨x,rfl,λj u d=>?_⟩⟩,by simp⟩⟩;rw[gJ f];simp;have b:=(ZK.1 d).1;rw[gJ f] at b;simp at b;have h:j/e<len:=Nat.div_lt_of_lt_mul (by rw[AN];exact b);have s:j % e<e:=dq _ r;have b:j/e*e+j % e=j:=by rw[AN];exact Nat.div_add_mod j e
 have r:((List.range len).map Y)[j/e]? =some (Y (j/e)):=by simp[h]
 have o:=Q6 (l:=cells (Y (j/e))) (i:=j % e) (by rw[f];exact s);have g:=gK f _ _ _ _ _ r o;rw[b,d] at g;have k:=p (j/e) (JZ h q) _ _ o;rw[b] at k;rw[k,<-Option.some.inj g]
theorem nQC {W:θ}(cs:χ τ)(i:Nat)(D:DataW H×χ MemPlace)(m:cs.length=3)(h:DataW.trod enc ψ W 0 (λ_=>true) true i 105 cs=some D):∃y:Br,y.cells=cs:=by
 have l:ψ.cellsOf 3=1:=by kernel_rfl
 obtain⟨q,k,_,_,_,j,a⟩:=DataW.trod_struct Tryz.underlying105 h;obtain⟨u,v,w,rfl⟩:=yU (show q.length=3 from j);obtain⟨r,s,t,rfl⟩:=yU m;have e:=a 0 _ rfl;have f:=a 1 _ rfl;have g:=a 2 _ rfl;simp[l] at e f g;obtain⟨n,b,_,_⟩:=DataW.trod_int Tryz.underlying3 e;obtain⟨o,c,_,_⟩:=DataW.trod_int Tryz.underlying3 f;obtain⟨p,d,_,_⟩:=DataW.trod_int Tryz.underlying3 g;simp at b c d;subst b c d;exact⟨⟨n,o,p⟩,rfl⟩
end
section
open Go Go.RowKit Go.ChangeShapes
variable {H:Type} {enc:TypeId×Value->H}
theorem dQn {α:Type}{p:α->Prop}{f:α->χ τ}{d:Nat}{W:θ}{a:Θ}{b c:Nat}(h:∃l:χ {x:α // p x},SlS (λy=>f y.1) d W a b c l):∃l:χ α,SlS f d W a b c l/\∀x∈l,p x:=by obtain⟨l,b,c⟩:=h;refine⟨l.map Subtype.val,⟨?_,by simpa using c⟩,λx d=>?_⟩;rw[List.flatMap_map];exact b;obtain⟨y,_,rfl⟩:=Z5.1 d;exact y.2
structure Lx where
 k:Nat
 i:Nat
 ws:Γ
 A:Θ
 n:Nat
 c:Nat
def Lx.cells (x:Lx):χ τ:=[.int .u8 (x.k:Nat),.int .u8 (x.i:Nat),.slice x.A x.n x.c]
structure LxOk (W:World) (x:Lx):Prop where
 k8:x.k<=255
 i8:x.i<=255
 sl:Sl W 1 x.A x.n x.c (YH x.ws)
 w8:∀b∈x.ws,b<=255
theorem LxOk.ext {W a:θ}{x:Lx}(h:LxOk W x)(k:Ext W a):LxOk a x:=⟨h.k8,h.i8,h.sl.ext k,h.w8⟩
theorem nQD {W:θ}(cs:χ τ)(q:Nat)(D:DataW H×χ MemPlace)(v:cs.length=3)(h:DataW.trod enc ψ W 0 (λ_=>true) true q 83 cs=some D):∃y:{x:Lx // LxOk W x},y.1.cells=cs:=by
 have s:ψ.cellsOf 5=1:=by kernel_rfl
 have p:ψ.cellsOf 62=1:=by kernel_rfl
 obtain⟨I,k,_,_,_,r,d⟩:=DataW.trod_struct Tryz.underlying83 h;obtain⟨N,O,P,rfl⟩:=yU (show I.length=3 from r);obtain⟨L,M,C,rfl⟩:=yU v;have j:=d 0 _ rfl;have o:=d 1 _ rfl;have e:=d 2 _ rfl;simp[s,p] at j o e;obtain⟨J,g,_,E⟩:=DataW.trod_int Tryz.underlying5 j;obtain⟨K,i,_,F⟩:=DataW.trod_int Tryz.underlying5 o;simp at g i;subst g i;have f:∃a n c,C= .slice a n c:=by obtain⟨b,_⟩|⟨x,l,c,m,n,D,Pl,b,_⟩:=Go.Deep.open_slice Tryz.underlying62 e;simp at b;exact⟨_,_,_,b⟩;simp at b;exact⟨_,_,_,b⟩
 obtain⟨a,n,c,rfl⟩:=f;obtain⟨G,u,t⟩:=nQA ⟨_,e⟩;obtain⟨w,rfl,A⟩:=r8 E;obtain⟨z,rfl,B⟩:=r8 F;exact⟨⟨⟨w,z,G,a,n,c⟩,⟨A,B,u,t⟩⟩,rfl⟩
theorem nQE {W:θ}{a:Θ}{b c:Nat}{d:DataW H}{p:χ MemPlace}(h:DataW.Trod enc ψ W 0 (λ_=>true) true 22 (.slice a b c) d p):∃l,SlS Lx.cells 3 W a b c l/\∀x∈l,LxOk W x:=by obtain⟨c,b⟩:=h;exact dQn (OK (cells:=λy:{x:Lx // LxOk W x}=>y.1.cells) (λ_=>rfl) δ Tryz.underlying22 κ ⟨⟨⟨0,0,[],none,0,0⟩,⟨by simp,by simp,Sl.nil W 1,by simp⟩⟩⟩ nQD rfl b)
end
noncomputable section
theorem okL:((List.range 5).all λk=>(List.range 256).all λb=>(W5 (Jv.take k) b).all (λx=>decide (x≠10/\x<256))&&decide ((W5 (Jv.take k) b).length<=20))=true:=by decide+kernel
theorem yV {k b:Nat}(a:k<=4)(c:b<=255):10∉W5 (Jv.take k) b/\(∀x∈W5 (Jv.take k) b,x<256)/\(W5 (Jv.take k) b).length<=20:=by have h:=Vb.1 (Vb.1 okL k (oY.2 ω)) b (oY.2 ω);rw[Z4] at h;have a:=Vb.1 h.1;exact⟨λc=>(WY (a 10 c)).1 rfl,λx d=>(WY (a x d)).2,WY h.2⟩
def aG (k:Nat):Γ:=([[120],[43],[121],[42],[40],[41],[105,102],[101,108,115,101],[59],[94],[122],[37,99]][k % 12]?).getD []
theorem dQo (k:Nat):10∉aG k/\35∉aG k/\(∀x∈aG k,x<256)/\(aG k).length<=4:=by
 unfold aG;have h:=dq k (show 12>0 by decide);generalize k % 12=r at h;have a:(List.range 12).all (λr=>decide (10∉(([[120],[43],[121],[42],[40],[41],[105,102],[101,108,115,101],[59],[94],[122],[37,99]]:Λ)[r]?).getD []/\35∉(([[120],[43],[121],[42],[40],[41],[105,102],[101,108,115,101],[59],[94],[122],[37,99]]:Λ)[r]?).getD []/\(∀x∈(([[120],[43],[121],[42],[40],[41],[105,102],[101,108,115,101],[59],[94],[122],[37,99]]:Λ)[r]?).getD [],x<256)/\((([[120],[43],[121],[42],[40],[41],[105,102],[101,108,115,101],[59],[94],[122],[37,99]]:Λ)[r]?).getD []).length<=4))=true:=by decide
 exact WY (Vb.1 a r (oY.2 h))
def dJ:Bool->Γ->Γ|_,[]=>[]|a,w::l=>(if a then [32] else [])++(aG w++(if w % 12=11 then [] else dJ true l))
theorem dQp:∀(b:Bool)(l:Γ),10∉dJ b l/\35∉dJ b l/\(∀x∈dJ b l,x<256)/\(dJ b l).length<=5*l.length
 |_,[]=>by simp[dJ]
 |b,w::l=>by
  obtain⟨d,e,f,a⟩:=dQo w;obtain⟨g,i,j,k⟩:=dQp true l;have c:∀x∈dJ b (w::l),x=32∨x∈aG w∨x∈dJ true l:=λx a=>by rw[dJ] at a;obtain a|a:=X2.1 a;cases b<;>simp at a;exact .inl a;obtain a|a:=X2.1 a;exact .inr (.inl a);split at a;cases a;exact .inr (.inr a)
  refine⟨λh=>?_,λh=>?_,λx a=>?_,?_⟩;obtain h|h|h:=c _ h;cases h;exact d h;exact g h;obtain h|h|h:=c _ h;cases h;exact e h;exact i h;obtain h|h|h:=c _ a;omega;exact f _ h;exact j _ h;rw[dJ,Qy,Qy,Xa];have a:(if b=true then [32] else []:Γ).length<=1:=by split<;>simp
  have a:(if w % 12=11 then [] else dJ true l).length<=5*l.length:=by split<;>simp[k]
  omega
def Vp (k:Nat)(a:Γ):Γ:=List.replicate (k/8 % 4) 32++dJ false (a.take 6)
theorem r9 (k:Nat)(a:Γ):10∉Vp k a/\35∉Vp k a/\(∀x∈Vp k a,x<256)/\(Vp k a).length<=33:=by
 obtain⟨c,d,e,b⟩:=dQp false (a.take 6);have b:(a.take 6).length<=6:=by rw[KR];omega
 have b:∀x∈Vp k a,x=32∨x∈dJ false (a.take 6):=λx a=>by obtain a|a:=X2.1 a;exact .inl (Fi a);exact .inr a
 refine⟨λh=>?_,λh=>?_,λx a=>?_,?_⟩;obtain h|h:=b _ h;cases h;exact c h;obtain h|h:=b _ h;cases h;exact d h;obtain h|h:=b _ a;omega;exact e _ h;unfold Vp;rw[Qy,List.length_replicate];omega
theorem nQF (k:Nat)(a:Γ):TxOk (Vp k a):=by obtain⟨b,c,d,_⟩:=r9 k a;exact⟨b,nQu λe=>c (List.mem_of_mem_head? e),d⟩
theorem dQq {k b:Nat}(a:k<=4)(c:b<=255):FOk (Jv.take k) (W5 (Jv.take k) b) (yT k b):=
 ⟨(yV a c).1,nQq a c,(yV a c).2.1⟩
def WF (b:Nat)(c:Bool)(x:Lx)(a:χ Bool):Mn×χ Bool:=
 if x.k % 8=4/\a.length<3 then(.ifd (W5 (Jv.take b) x.i) (yT b x.i),false::a)
 else if x.k % 8=5/\a.head? =some false/\x.i % 2=0 then(.elif (W5 (Jv.take b) (x.i/2)) (yT b (x.i/2)),a)
 else if x.k % 8=5/\a.head? =some false then(.els,true::a.tail)
 else if x.k % 8=6/\a≠ [] then(.en,a.tail)
 else if x.k % 8=7/\c=true then(.inc,a)
 else(.tx (Vp x.k x.ws),a)
def aH (b:Nat)(c:Bool):χ Lx->χ Bool->χ Mn|[],a=>a.map (λ_=>.en)|x::l,a=>(WF b c x a).1::aH b c l (WF b c x a).2
theorem dQr (c:Λ)(d:Bool)(D:Nat):∀(a:χ Bool),cP c d D a (a.map λ_=>.en)|[]=>trivial|b::a=>by have:=dQr c d D a;cases b<;>exact this
theorem nQG {c:Λ}{d:Bool}{D:Nat}{a:χ Bool}{s:Γ}{l:χ Mn}(h:TxOk s)(e:cP c d D a l):cP c d D a (.tx s::l):=by cases a with|nil=>exact⟨h,e⟩|cons b a=>cases b<;>exact⟨h,e⟩
theorem nQH {d:Λ}{c:Bool}{D:Nat}{a:χ Bool}{l:χ Mn}(h:c=true)(e:cP d c D a l):cP d c D a (.inc::l):=by cases a with|nil=>exact⟨h,e⟩|cons b a=>cases b<;>exact⟨h,e⟩
theorem nQI {b:Λ}{d:Bool}{D:Nat}{a:χ Bool}{F:Γ}{o:BF}{l:χ Mn}(e:FOk b F o)(h:a.length<D)(f:cP b d D (false::a) l):cP b d D a (.ifd F o::l):=by cases a with|nil=>exact⟨e,h,f⟩|cons c a=>cases c<;>exact⟨e,h,f⟩
theorem nQJ {a:Λ}{b:Bool}{D:Nat}{c:Bool}{d:χ Bool}{l:χ Mn}(e:cP a b D d l):cP a b D (c::d) (.en::l):=by cases c<;>exact e
theorem dQs {g:Nat}(f:g<=4)(d:Bool):∀(l:χ Lx)(a:χ Bool),(∀x∈l,x.i<=255)->a.length<=3->cP (Jv.take g) d 3 a (aH g d l a)
 |[],a,_,_=>dQr _ d 3 a
 |x::l,a,hx,Je=>by
  have i:=hx x (by simp);have c:=λa h=>dQs f d l a (λy j=>hx y (by simp[j])) h;rw[aH];unfold WF;split
  rename_i h;exact nQI (dQq f i) h.2 (c _ (by simp;omega));split;rename_i h;cases a with
  |nil=>cases h.2.1
  |cons b a=>
   have e:b=false:=by have:=h.2.1;simpa using this
   subst e;exact⟨dQq f ω,c _ Je⟩
  split;rename_i h;cases a with
  |nil=>cases h.2
  |cons b a=>
   have e:b=false:=by have:=h.2;simpa using this
   subst e;exact c (true::a) Je
  split;rename_i h;cases a with|nil=>exact Xg rfl h.2|cons b a=>exact nQJ (c a (by simp at Je;omega))
  split;rename_i h;exact nQH h.2 (c _ Je);exact nQG (nQF _ _) (c _ Je)
def G3 (a:Λ):Mn->Prop|.tx s=>TxOk s|.ifd F o=>FOk a F o|.elif F o=>FOk a F o|_=>True
theorem OL {e:Λ}{f:Bool}{D:Nat}:∀{l:χ Mn}{a:χ Bool},cP e f D a l->∀m∈l,G3 e m
 |[],_,_,m,c=>by cases c
 |x::l,a,h,m,c=>by
  have d:G3 e x/\∃g,cP e f D g l:=by
   cases x with
   |tx s=>cases a with
    |nil=>exact⟨h.1,_,h.2⟩
    |cons b a=>cases b<;>exact⟨h.1,_,h.2⟩
   |ifd F o=>cases a with
    |nil=>exact⟨h.1,_,h.2.2⟩
    |cons b a=>cases b<;>exact⟨h.1,_,h.2.2⟩
   |elif F o=>cases a with
    |nil=>exact h.elim
    |cons b a=>cases b with
     |false=>exact⟨h.1,_,h.2⟩
     |true=>exact h.elim
   |els=>cases a with
    |nil=>exact h.elim
    |cons b a=>cases b with
     |false=>exact⟨trivial,_,h⟩
     |true=>exact h.elim
   |en=>cases a with
    |nil=>exact h.elim
    |cons b a=>cases b<;>exact⟨trivial,_,h⟩
   |inc=>cases a with|nil=>exact⟨trivial,_,h.2⟩|cons b a=>cases b<;>exact⟨trivial,_,h.2⟩
  obtain rfl|c:=XI.1 c;exact d.1;obtain⟨g,a⟩:=d.2;exact OL a m c
theorem nQK {a:Λ}{m:Mn}(h:G3 a m):10∉YM m/\∀x∈YM m,x<256:=by cases m with|tx s=>exact⟨h.nl,h.b8⟩|ifd F o=>exact⟨by simp[YM,Zd,h.nl],yN δ h.b8⟩|elif F o=>exact⟨by simp[YM,pElif,h.nl],yN δ h.b8⟩|els=>exact⟨δ,δ⟩|en=>exact⟨δ,δ⟩|inc=>exact⟨δ,δ⟩
theorem dQt {a:Λ}{l:χ Mn}(h:∀m∈l,G3 a m):∀x∈Qk (l.map YM),x<256:=nQv (λs a=>by
 obtain⟨m,b,rfl⟩:=Z5.1 a;exact(nQK (h m b)).2)
def G4 (M:Nat)(l:χ Mn):Prop:=∀m∈l,(YM m).length<M
theorem dQu {M:Nat}:∀{l:χ Mn},G4 M l->(Qk (l.map YM)).length<=l.length*M
 | [],_=>by simp[Qk]
 | m::l,h=>by
  rw[YD,YJ,Qy,Xa,Xa];have a:=dQu (λx a=>h x (by simp[a]):G4 M l);have a:=h m (by simp);rw[xR,Nat.one_mul];omega
theorem OM {k0:Nat}{ic:Bool}{x:Lx}{a:χ Bool}(h:a.length<=3):(WF k0 ic x a).2.length<=3:=by
 unfold WF;split;rename_i h;simp;omega;split;exact h;split;rename_i c;cases a with
 |nil=>cases c.2
 |cons b a=>simpa using h
 split;simp;omega;split<;>exact h
theorem dQv (k0:Nat)(ic:Bool):∀(l:χ Lx)(a:χ Bool),a.length<=3->(aH k0 ic l a).length<=l.length+3|[],a,h=>by simp[aH];omega|x::l,a,h=>by rw[aH,Xa,Xa];have:=dQv k0 ic l _ (OM (k0:=k0) (ic:=ic) (x:=x) h);omega
theorem ON {a:Nat}(b:a<=4){ic:Bool}{x:Lx}(c:x.i<=255){op:χ Bool}:(YM (WF a ic x op).1).length<34:=by unfold WF;split;have:=(yV b c).2.2;simp[YM,Zd];omega;split;have:=(yV b (show x.i/2<=255 by omega)).2.2;simp[YM,pElif];omega;split;exact(by decide:(YM Mn.els).length<34);split;exact(by decide:(YM Mn.en).length<34);split;exact(by decide:(YM Mn.inc).length<34);have:=(r9 x.k x.ws).2.2.2;show(Vp x.k x.ws).length<34;omega
theorem dQw {a:Nat}(c:a<=4)(d:Bool):∀(l:χ Lx)(b:χ Bool),(∀x∈l,x.i<=255)->G4 34 (aH a d l b)|[],b,_=>λm a=>by obtain⟨_,_,rfl⟩:=Z5.1 a;decide|x::l,b,h=>λm a=>by rw[aH] at a;obtain rfl|a:=XI.1 a;exact ON c (h x (by simp));exact dQw c d l _ (λy b=>h y (by simp[b])) m a
def OO (b:Nat)(a:χ Lx):χ Mn:=aH b true (a.take 12) []
def nQL (a:Nat)(b:χ Lx):χ Mn:=aH a false (b.take 5) []
def OP (b:Nat)(a c:χ Lx):χ (Γ×Γ):=[([109],Qk ((OO b a).map YM)),([110],Qk ((nQL b c).map YM))]
def Cy (b c:Nat):Bool:=decide (b % 256=0)||b.testBit c
def OQ (b:Nat):Γ:=(List.range 8).filter (Cy b)
theorem nQM {b:Nat}(a:b<=255):OQ b≠ []:=by
 intro e;have h:=Fu.1 e;have a:∀c,c<8->Cy b c=false:=λc d=>by have:=h c (oY.2 d);simpa using this
 unfold Cy at a;have d:b≠0:=λe=>by subst e;have:=a 0 δ;simp at this
 refine d (Nat.eq_of_testBit_eq λi=>?_);rw[Nat.zero_testBit];by_cases d:i<8;have:=a i d;rw[Bool.or_eq_false_iff] at this;exact this.2;exact MC (JZ (show b<2^8 by omega) (bZ δ ω))
theorem nQN (c:Nat):jb c=λi=>c.testBit i:=by funext i;unfold jb;rw[hQq]
def QW (n:Nat)(o:BF):Γ:=(List.range (2^n)).filter λc=>o λi=>c.testBit i
theorem Kd {n:Nat}{o:BF}{c:Nat}:c∈QW n o↔c<2^n/\o (λi=>c.testBit i)=true:=by unfold QW;rw[VE,oY]
def G5 (n:Nat)(o:BF):Prop:=∀e a,(∀i,i<n->e i=a i)->o e=o a
theorem G6:∀(n:Nat)(e:Nat->Bool),∃c,c<2^n/\∀i,i<n->c.testBit i=e i
 |0,e=>⟨0,δ,λi a=>Xg a ω⟩
 |n+1,e=>by
  obtain⟨c,b,d⟩:=G6 n e;cases f:e n with
  |false=>
   refine⟨c,Nat.lt_trans b (Nat.pow_lt_pow_right δ ω),λi a=>?_⟩;by_cases h:i<n;exact d i h;have:i=n:=by omega
   subst this;rw[f];exact MC b
  |true=>
   refine⟨2^n+c,by rw[rC];omega,λi a=>?_⟩;by_cases h:i<n;rw[Nat.testBit_two_pow_add_gt h,d i h];have:i=n:=by omega
   subst this;rw[f,Nat.testBit_two_pow_add_eq,MC b]<;>rfl
theorem Set1.dep {k:Nat}{a:χ Br}{r:Int}{o:BF}(h:Set1 k a r o):G5 k o:=λe c a=>by
 rw[<-h.mean,<-h.mean];exact OC h.vd.wf h.vin (λb c=>by
  obtain⟨j,d⟩:=AW.1 c;have:=h.vd.1 j b d;exact this.1) a (r.toNat+1) r ω h.vd.2.2.1
theorem dQx {n:Nat}{o:BF}(h:G5 n o){p:BF}(d:G5 n p):(∀e,o e=true->p e=true)↔∀c∈QW n o,p (λi=>c.testBit i)=true:=by
 constructor
 exactλk c a=>k _ (Kd.1 a).2
 intro k e f;obtain⟨c,a,b⟩:=G6 n e;rw[<-d _ e b];exact k c (Kd.2 ⟨a,by rw[h _ e b];exact f⟩)
theorem nQO {n:Nat}{o:BF}(h:G5 n o):QW n o=[]↔∀e,o e=false:=by
 constructor;intro k e;cases b:o e with|false=>rfl|true=>obtain⟨c,a,d⟩:=G6 n e;have:c∈QW n o:=Kd.2 ⟨a,by rw[h _ e d];exact b⟩;rw[k] at this;cases this
 intro k;refine List.eq_nil_iff_forall_not_mem.2 λc a=>?_;have:=(Kd.1 a).2;rw[k] at this;cases this
theorem Set1.root0 {k:Nat}{a:χ Br}{r:Int}{o:BF}(h:Set1 k a r o):r=0↔QW k o=[]:=by
 rw[nQO h.dep];constructor;rintro rfl e;rw[<-h.mean,VY δ]<;>rfl
 intro a;have:=h.unique (Y0 k false) a;exact QG Prod.snd this
theorem dQy {n:Nat}{o p:BF}{v:Nat}(b:Bool)(a:∀e,p e=(o e&&(e v==b))):QW n p=(QW n o).filter (λc=>c.testBit v==b):=by unfold QW;rw[List.filter_filter];congr 1;funext c;rw[a,Bool.and_comm]
theorem nQP {n:Nat}{o:BF}:Apt (QW n o) 0 n:=λc a f b d=>by have f:=(Kd.1 a).1;have a:=(Kd.1 b).1;refine Nat.eq_of_testBit_eq λi=>?_;by_cases a:i<n;exact d i (Q9 _) ω;have e:2^n<=2^i:=bZ δ ω;rw[MC ω,MC ω]
structure Pr where
 o:BF
 t:Γ
abbrev bits (c:Nat):Nat->Bool:=λi=>c.testBit i
def fP (a:χ Pr)(c:Nat):Γ:=((a.find? λp=>p.o (bits c)).map (·.t)).getD []
structure PaOk (S:Γ) (ps:List Pr):Prop where
 cov:∀c∈S,∃p∈ps,p.o (bits c)=true
 dj:∀c∈S,∀(i j:Nat) (p q:Pr),ps[i]? =some p->ps[j]? =some q->p.o (bits c)=true->q.o (bits c)=true->i=j
theorem PaOk.sub {S T:Γ}{ps:χ Pr}(h:PaOk S ps)(b:∀c∈T,c∈S):PaOk T ps:=⟨λc a=>h.cov c (b c a),λc a=>h.dj c (b c a)⟩
theorem PaOk.get {S:Γ}{a:χ Pr}(h:PaOk S a){c:Nat}(f:c∈S){p:Pr}(d:p∈a)(e:p.o (bits c)=true):fP a c=p.t:=by unfold fP;cases b:a.find? (λp=>p.o (bits c))with|none=>have:=My.1 b p d;exact Xg e this|some q=>have g:=List.find?_some b;have k:=hQp b;obtain⟨i,b⟩:=AW.1 d;obtain⟨j,a⟩:=AW.1 k;have:=h.dj c f i j p q b a e g;subst this;rw[b] at a;cases a;rfl
theorem nQQ {b:Λ}{S:Γ}{a:χ Pr}(h:PaOk S a)(d:S≠ []){p:Pr}(e:p∈a)(f:∀c∈S,p.o (bits c)=true)(k v:Nat):XW b (fP a) k v S=QN p.t:=
 yR d (λc a=>h.get a e (f c a)) k v
theorem nQR {S:Γ}{a:χ Pr}(h:PaOk S a)(b:S≠ []){v:Nat}(e:Apt S v 0):∃p∈a,∀c∈S,p.o (bits c)=true:=by obtain⟨c,a⟩:∃c,c∈S:=⟨_,GZ b⟩;obtain⟨p,b,f⟩:=h.cov c a;refine⟨p,b,λd g=>?_⟩;rw[e d g c a λi b j=>ω];exact f
abbrev fY (S:Γ)(v:Nat):Γ:=S.filter λc=>c.testBit v
abbrev jf (S:Γ)(v:Nat):Γ:=S.filter λc=> !c.testBit v
theorem OR {S:Γ}{v:Nat}(h:jf S v=[]):fY S v=S:=by rw[List.filter_eq_self];intro c a;have:=Fu.1 h c a;simpa using this
theorem dQz {S:Γ}{v:Nat}(h:fY S v=[]):jf S v=S:=by rw[List.filter_eq_self];intro c a;have:=Fu.1 h c a;simpa using this
theorem dQA {a:Λ}{f:Nat->Γ}{S:Γ}(b:S≠ []){k v:Nat}(h:jf S v=[]):XW a f (k+1) v S=XW a f k (v+1) (fY S v):=by rw[yS b,Qf (.inl h),OR h]
theorem dQB {a:Λ}{f:Nat->Γ}{S:Γ}(b:S≠ []){k v:Nat}(h:fY S v=[]):XW a f (k+1) v S=XW a f k (v+1) (jf S v):=by rw[yS b,Qf (.inr h),dQz h]
theorem dQC {a:Λ}{f:Nat->Γ}{S:Γ}(b:S≠ []){k v:Nat}(h:jf S v≠ [])(c:fY S v≠ []):XW a f (k+1) v S=if XW a f k (v+1) (fY S v)=XW a f k (v+1) (jf S v)then XW a f k (v+1) (fY S v)else W3 a v (XW a f k (v+1) (fY S v)) (XW a f k (v+1) (jf S v)):=by rw[yS b,φ λe=>e.elim h c]
theorem nQS {S:Γ}{v k:Nat}(h:Apt S v (k+1)):Apt (fY S v) (v+1) k:=h.sub (λc a=>(VE.1 a).1) (λc a d b=>by
 rw[(VE.1 a).2,(VE.1 b).2])
theorem nQT {S:Γ}{v k:Nat}(h:Apt S v (k+1)):Apt (jf S v) (v+1) k:=h.sub (λc a=>(VE.1 a).1) (λc a b d=>by
 have b:=(VE.1 a).2;have a:=(VE.1 d).2;simp at b a;rw[b,a])
def Ke (n:Nat)(a:χ Br)(r:Int):Bool:=open Classical in decide (XN a r=0/\∀b∈a,b.v<n)
def oD (x:DV):BF:=ev x.nd x.r
theorem nJ {n:Nat}{nd:χ Br}{r:Int}:Ke n nd r=true↔XN nd r=0/\VIn n nd:=by unfold Ke;exact decide_eq_true_iff
theorem gY {n:Nat}{x:DV}(h:Ke n x.nd x.r=true):Set1 n x.nd x.r (oD x):=by obtain⟨a,b⟩:=nJ.1 h;exact⟨(gM.1 a).2,b,λe=>rfl⟩
theorem nK {n:Nat}(a:n<=12){x:DV}{o:BF}(h:Set1 n x.nd x.r o):Ke n x.nd x.r=true/\∀e,oD x e=o e:=
 ⟨nJ.2 ⟨h.chk a,h.vin⟩,λe=>h.mean e⟩
abbrev nL (n:Nat)(R:Γ)(o:BF):Γ:=R.filter λc=> !o (bits c)
def dK (n:Nat):Γ->χ (DV×Γ)->Bool|R,[]=>decide (R=[])|R,p::ps=>(Ke n p.1.nd p.1.r&&decide (QW n (oD p.1)≠ [])&&(QW n (oD p.1)).all (λc=>decide (c∈R))&&Ve p.2)&&dK n (nL n R (oD p.1)) ps
def Ja (a:χ (DV×Γ)):χ Pr:=a.map λp=>⟨oD p.1,p.2⟩
def pM (a:Λ)(d:DV)(b:χ (DV×Γ)):Except Int (Γ):=
 if JG a=false∨Ke a.length d.nd d.r=false then .error 1
 else if dK a.length (QW a.length (oD d)) b=false then .error 290
 else if b=[] then .ok []
 else if 1048576<(Qk (XW a (fP (Ja b)) a.length 0 (QW a.length (oD d)))).length then .error 2
 else .ok (Qk (XW a (fP (Ja b)) a.length 0 (QW a.length (oD d))))
theorem OS {n:Nat}{R:Γ}{p:DV×Γ}{ps:χ (DV×Γ)}:dK n R (p::ps)=true↔(Ke n p.1.nd p.1.r=true/\QW n (oD p.1)≠ []/\(∀c∈QW n (oD p.1),c∈R)/\Ve p.2=true)/\dK n (nL n R (oD p.1)) ps=true:=by rw[dK];simp only[Z4,YX,Vb];constructor;rintro⟨⟨⟨⟨a,b⟩,d⟩,e⟩,f⟩;exact⟨⟨a,b,d,e⟩,f⟩;rintro⟨⟨a,b,d,e⟩,f⟩;exact⟨⟨⟨⟨a,b⟩,d⟩,e⟩,f⟩
theorem dQD {n:Nat}:∀{ps:χ (DV×Γ)}{R:Γ},(∀c∈R,c<2^n)->dK n R ps=true->PaOk R (Ja ps)/\(∀p∈ps,Ke n p.1.nd p.1.r=true/\QW n (oD p.1)≠ []/\Ve p.2=true/\∀c∈QW n (oD p.1),c∈R)
 |[],R,g,h=>by
  have:R=[]:=by simpa [dK] using h
  subst this;exact⟨⟨(λc d=>by cases d),λc d=>by cases d⟩,λp e=>by cases e⟩
 |p::ps,R,g,h=>by
  obtain⟨⟨t,u,v,w⟩,e⟩:=OS.1 h;obtain⟨⟨x,y⟩,k3⟩:=dQD (R:=nL n R (oD p.1)) (λc d=>g c (VE.1 d).1) e;have s:∀q∈ps,∀c,c<2^n->oD q.1 (bits c)=true->oD p.1 (bits c)=false:=λq e c d k=>by have:=(k3 q e).2.2.2 c (Kd.2 ⟨d,k⟩);have:=(VE.1 this).2;simpa using this
  refine⟨⟨λc d=>?_,λc d i j a b l m o r=>?_⟩,λq e=>?_⟩;cases f:oD p.1 (bits c)with|true=>exact⟨_,aQa,f⟩|false=>obtain⟨q,e,k⟩:=x c (VE.2 ⟨d,by simp[f]⟩);exact⟨q,xW _ e,k⟩
  have k:=g c d;cases i with
  |zero=>
   cases j with
   |zero=>rfl
   |succ j=>
    have x:a=⟨oD p.1,p.2⟩:=by simpa [Ja] using l.symm
    have g:b∈Ja ps:=Xd (by simpa [Ja] using m);obtain⟨q,e,rfl⟩:=Z5.1 g;subst x;have:=s q e c k r;exact Xg (o.symm.trans this) δ
  |succ i=>
   have g:a∈Ja ps:=Xd (by simpa [Ja] using l);obtain⟨q,e,rfl⟩:=Z5.1 g;have f:=s q e c k o;cases j with
   |zero=>
    have g:b=⟨oD p.1,p.2⟩:=by simpa [Ja] using m.symm
    subst g;exact Xg (r.symm.trans f) δ
   |succ j=>have g:c∈nL n R (oD p.1):=VE.2 ⟨d,by simp[f]⟩;have:=y c g i j _ _ (by simpa [Ja] using l) (by simpa [Ja] using m) o r;rw[this]
  obtain rfl|e:=XI.1 e;exact⟨t,u,w,v⟩;obtain⟨f,g,k,l⟩:=k3 q e;exact⟨f,g,k,λc d=>(VE.1 (l c d)).1⟩
theorem nQU (a:Λ)(A:Θ)(n c:Nat)(w:θ)(h:Sl w 1 A n c (Xb a))(g:∀s∈a,∀x∈s,x<256):Fn ψ 169 [.slice A n c,.func (.func 47) #[] #[]] w (λu b=>(∃k:Int,u= .int .i64 k/\(0<=k↔a.any W4=true))/\Ext w b):=by
 have d:a.length=n:=by have:=h.len;rw[az] at this;omega
 have d:=h.le;have j:=h.cap;refine QK jQl [] Tryz.func169 ?_;refine loop Qe [8] (λi:Nat=>[.int .i64 i]) (λi b=>Ext w b/\i<=n/\(a.take i).any W4=false) (λi _=>n-i) 0 rfl ⟨Ext.refl _,Q9 _,by simp⟩ ?_;rintro i m ⟨b,d,f⟩;refine Ql (λd=>?_) λd=>?_;have d:i<n:=by omega
 have e:a[i]? =some a[i]:=Q6 ω;have o:=g _ (Xd e);generalize a[i]=l at*;refine Zq (h.ext b) d λq u r g p=>?_;rw[dw e] at g;cases g;refine load p (call (GY l m o) ?_);rintro _ m ⟨rfl,g⟩;have m:(a.take (i+1)).any W4=W4 l:=by rw[JT,e,List.any_append,f];simp
 refine Z0 (λa=>?_) λa=>?_;have a:W4 l=true:=a;exact⟨⟨i,rfl,⟨λ_=>rD.2 ⟨l,Xd e,a⟩,λ_=>ω⟩⟩,b.trans g⟩;have a:W4 l=false:=a;simp only[maxLen] at j;refine QF i ?_;exact⟨i+1,rfl,⟨b.trans g,d,by rw[m,a]⟩,QL⟩;have d:i=n:=by omega
 rw[d,ZJ ω] at f;exact⟨⟨-1,rfl,by rw[f];simp⟩,b⟩
theorem dQE (a:Λ)(A:Θ)(n c:Nat)(w:θ)(h:Sl w 1 A n c (Xb a))(b:∀s∈a,∀x∈s,x<256):Fn ψ 114 [.slice A n c,.func (.func 47) #[] #[]] w (λu d=>u= .bool (a.any W4)/\Ext w d):=by refine QK iQz [] Tryz.func114 ?_;refine call (nQU a A n c w h b) ?_;rintro _ e ⟨⟨k,rfl,d⟩,b⟩;refine⟨?_,b⟩;refine QG Value.bool ?_;cases b:a.any W4 with|true=>exact Zg (d.2 b)|false=>exact XZ (λa=>by rw[d.1 a] at b;cases b)
theorem dQF (l:Γ)(w:θ)(g:∀x∈l,x<256)(k:l.length<=1000000000):Fn ψ 63 [.string (Qb l)] w (λu a=>u= .bool (Ve l)/\Ext w a):=by
 refine QK c63 [] Tryz.func63 ?_;have h:∀a,Ext w a->bB l=true->∀d,Vo l=d->∀b,Ext a b->(Value.bool (!(d.any W4))= .bool (Ve l)/\Ext w b):=λa i f d m b j=>by refine⟨?_,i.trans j⟩;rw[<-m,nG (nI f),mQy,Bool.not_not];unfold Ve;rw[f,YF]
 by_cases n:l=[]
 subst n;refine Q3 rfl (call (GI [] w g k) ?_);rintro _ a ⟨A,c,rfl,i,o⟩;refine call (dQE _ A _ c a o.1 λs m=>by simp[Vo,ZT] at m) ?_;rintro _ b ⟨rfl,j⟩;exact h a i rfl _ rfl b j;refine XB (λe=>n (Jl g (by simp) e)) (call (nQd l w g ω) ?_);rintro _ _ ⟨rfl,rfl⟩;refine Z0 (λd=>?_) λd=>?_;have d:(l.getLast? ==some 10)=true:=d;have f:bB l=true:=by unfold bB;rw[d,Bool.or_true]
 refine call (GI l w g k) ?_;rintro _ a ⟨A,c,rfl,i,o⟩;refine call (dQE _ A _ c a o.1 (λs m x k=>by
  rw[nG (nI f)] at m;obtain⟨r,o,rfl⟩:=Z5.1 m;obtain k|k:=X2.1 k;have m:=Wh (nI f);refine g x ?_;rw[<-m];exact ay.2 ⟨r,o,by simp[k]⟩;rw[Xx.1 k];decide)) ?_
 rintro _ b ⟨rfl,j⟩;exact h a i f _ rfl b j;have d:(l.getLast? ==some 10)=false:=d;refine⟨?_,Ext.refl _⟩;unfold Ve bB;rw[d,XZ n]<;>rfl
theorem nQV (b:Br)(n a:Nat)(w:θ)(c:Blk w a 3 [.int .i64 n]):Fn ψ 110 [.agg b.cells.toArray,.pointer (some ⟨a,0,none⟩)] w (λu d=>u= .bool (decide ((n:Int)<=b.v))/\Ext w d):=by refine QK iQw [] Tryz.func110 ?_;refine new λe a f d=>?_;refine QQ d rfl ?_;refine QQ (c.ext a) rfl ?_;exact⟨rfl,a⟩
theorem nQW (a:χ Br)(A:Θ)(m c n g:Nat)(w:θ)(h:SB w A m c a)(l:Blk w g 3 [.int .i64 n]):Fn ψ 165 [.slice A m c,.func (.func 110) #[] #[.pointer (some ⟨g,0,none⟩)]] w (λu d=>(∃k:Int,u= .int .i64 k/\(0<=k↔∃b∈a,(n:Int)<=b.v))/\Ext w d):=by
 have e:=h.2;have e:=h.1.le;have o:=h.1.cap;refine QK jQi [] Tryz.func165 ?_;refine loop Qe [8] (λi:Nat=>[.int .i64 i]) (λi d=>Ext w d/\i<=m/\∀b∈a.take i,¬(n:Int)<=b.v) (λi _=>m-i) 0 rfl ⟨Ext.refl _,Q9 _,λb d=>by simp at d⟩ ?_;rintro i a ⟨e,f,j⟩;refine Ql (λf=>?_) λf=>?_;have f:i<m:=by omega
 refine XG aD (h.ext e) rfl f λp b d q=>?_;refine Jm (vs:=b.cells) rfl q (call (nQV b n g a (l.ext e)) ?_);rintro _ a ⟨rfl,l⟩;have a:=Xd d;refine Ql (λg=>?_) λg=>?_;exact⟨⟨i,rfl,⟨λ_=>⟨b,a,g⟩,λ_=>ω⟩⟩,e.trans l⟩;simp only[maxLen] at o;refine QF i ?_;refine⟨i+1,rfl,⟨e.trans l,f,λo a=>?_⟩,QL⟩;rw[JT,d] at a;obtain a|a:=X2.1 a;exact j o a;have:o=b:=by simpa using a
 rw[this];exact g;have f:i=m:=by omega
 rw[f,ZJ ω] at j;exact⟨⟨-1,rfl,⟨λa=>Xg a δ,λ⟨b,d,a⟩=>Xg a (j b d)⟩⟩,e⟩
theorem OT (A:Θ)(m c n:Nat)(d:χ Br)(r:Int)(w:θ)(h:SB w A m c d):Fn ψ 61 [Q5 A m c r,.int .i64 n] w (λu a=>u= .bool (Ke n d r)/\Ext w a):=by
 refine QK c61 [] Tryz.func61 ?_;refine new λo f e j=>?_;refine new λg e i p=>?_;have i:=f.trans e;refine Qm (j.ext e) (call (F9 A m c d r g (h.ext i)) ?_);rintro _ l ⟨rfl,f⟩;have g:=i.trans f;refine X0 (λi=>?_) λi=>?_;refine QQ ((j.ext e).ext f) rfl (call (KS (c:={iQv with cuts:=[]}) (R:=λu a=>u= .bool (decide (∃b∈d,(n:Int)<=b.v))/\Ext l a) Qe Tryz.func109 rfl rfl rfl ?_) ?_);refine call (nQW d A m c n o.heap.size l (h.ext g) (p.ext f)) ?_;rintro _ j ⟨⟨k,rfl,f⟩,e⟩;refine⟨?_,e⟩;refine QG Value.bool ?_;by_cases a:∃b∈d,(n:Int)<=b.v;rw[Zg a];exact Zg (f.2 a);rw[XZ a];exact XZ λl=>a (f.1 l);rintro _ j ⟨rfl,e⟩;refine⟨?_,g.trans e⟩;refine QG Value.bool ?_;by_cases a:∃b∈d,(n:Int)<=b.v;rw[Zg a];symm;refine dt.2 λd=>?_;obtain⟨b,e,f⟩:=a;have:=(nJ.1 d).2 b e;omega;rw[XZ a];exact(nJ.2 ⟨i,λb e=>by
  apply Classical.byContradiction;intro f;exact a ⟨b,e,ω⟩⟩).symm
 refine⟨?_,g⟩;refine QG Value.bool ?_;exact(dt.2 λd=>i (nJ.1 d).1).symm
theorem nQX {k:Nat}(a:k<=12)(x y:DV){o r:BF}(w:θ)(h:SB w x.A x.n x.c x.nd)(p:SB w y.A y.n y.c y.nd)(s:Set1 k x.nd x.r o)(d:Set1 k y.nd y.r r):Fn ψ 115 [Q5 x.A x.n x.c x.r,Q5 none 0 0 0,Q5 y.A y.n y.c y.r] w (r5 w k λe=> !o e&&r e):=by
 have eM:=h.2;have EM:=p.2;have l1:=s.len a;have l2:=d.len a;refine QK iQA [] Tryz.func115 ?_;refine new λw1 X Q0 Z=>?_;refine new λw2 Y XR Qs=>?_;refine new λw3 Qi JI Qt=>?_;refine new λM F Ku W=>?_;have G:=Qi.trans F;have u:=Y.trans G;have j:=X.trans u;have B:=Z.ext u;have L:=Qs.ext G;have K:=Qt.ext F;refine Qm B (Qm L (Qm K ?_));refine ny Qe [x.cells,(⟨none,0,0,[],0⟩:DV).cells,y.cells] rfl rfl rfl rfl rfl ⟨rfl,rfl,rfl,rfl,rfl,rfl,⟨⟩⟩ rfl (λcs h=>by simp only[XI,d5,eX] at h;obtain rfl|rfl|rfl:=h <;>rfl) rfl δ δ ?_;intro N C KA V;have A:=j.trans C;have hL:SlS DV.cells 2 N (some ⟨M.heap.size,0,none⟩) 3 3 [x,⟨none,0,0,[],0⟩,y]:=⟨Sl.own (sz:=2) (n:=3) V (Qw _) δ (by simp[DV.cells]),rfl⟩
 refine call (GA _ 3 3 _ N hL (λz J=>by
  simp only[XI,d5,eX] at J;obtain rfl|rfl|rfl:=J;exact h.ext A;exact SlS.nil _;exact p.ext A)) ?_
 rintro v w6 ⟨rfl,U⟩;have b:=C.trans U;have l:=j.trans b;have iD:cg [x,(⟨none,0,0,[],0⟩:DV),y]=0:=by have e1:XN x.nd x.r=0:=s.chk a;have e2:XN y.nd y.r=0:=d.chk a;have e3:XN ([]:χ Br) 0=0:=(Y0 k false).chk a;simp[cg,e1,e2,e3]
 rw[iD];refine KT rfl (Qm (B.ext b) (Qm (L.ext b) (Qm (K.ext b) ?_)));have f:=s.vd;have g:=d.vd;have hb2:=yz f g 4;have tV:(x.nd.length+2)*(y.nd.length+2)<=4098*4098:=Fr ω ω;refine call (cQs true x.A x.n x.c x.nd x.r y.A y.n y.c y.nd y.r 4 0 0 w6 rfl (h.ext l) (p.ext l) trivial f.dok g.dok f.2.1 (by have:=f.2.2.1;omega) g.2.1 (by have:=g.2.2.1;omega) ω ω ω) ?_;have I:Set1 k _ _ (λe=> !o e&&r e):=(fj s d 4).congr (λe=>by simp[J5]);have Je:=i9 a s d 4;have bO:ei (Wg x.nd x.r y.nd y.r 4)=(Wg x.nd x.r y.nd y.r 4,0):=by unfold ei;rw[φ (by have:=I.len a;omega)]
 generalize Wg x.nd x.r y.nd y.r 4=D at*;obtain⟨P,Q⟩:=D;rintro v w7 ⟨S,m,oc,rfl,Xq,qi,Ye⟩;have ag:=b.trans Xq;have z67:=l.size;refine call (cQo S m oc _ _ M w7 qi (λi c=>by have:=Ye i c;have:=b.size;omega) ag) ?_;rw[bO];rintro v w8 ⟨T,q,pc,rfl,E,t,O⟩;refine Qo (W.ext E) λw9 R _ XX=>?_;have H:Mod (·=w3.heap.size) w8 w9:=vQB R rfl;refine Qm XX ?_;exact⟨T,q,pc,P,Q,rfl,H.ext (j.trans E) λi c=>ω,⟨t.1.modS H (λ_ i c e=>by have:=O i c;omega),t.2⟩,I,λi c=>by have:=O i c;omega⟩
theorem OU (w:θ):Fn ψ 44 [.int .i64 0] w (λ_ a=>w=a):=by refine QK c44 [] Tryz.func44 ?_;refine KT rfl ?_;exact rfl
theorem G7 (x:DV)(w:θ):Fn ψ 100 [Q5 x.A x.n x.c x.r,.int .i64 0] w (λu a=>u=Q5 x.A x.n x.c x.r/\Ext w a):=by refine QK iQn [] Tryz.func100 ?_;refine new λc d a e=>?_;refine new λa b g f=>?_;refine call (OU a) ?_;rintro _ _ rfl;refine Qm (e.ext b) ?_;refine Qo f λw3 e _ g=>?_;have f:Mod (·=c.heap.size) a w3:=vQB e rfl;refine Qm g ?_;exact⟨rfl,f.ext (d.trans b) λi a=>ω⟩
theorem sf {k:Nat}(g:k<=12)(x y:DV){o a:BF}(w:θ)(h:SB w x.A x.n x.c x.nd)(j:SB w y.A y.n y.c y.nd)(s:Set1 k x.nd x.r o)(c:Set1 k y.nd y.r a):Fn ψ 49 [Q5 x.A x.n x.c x.r,Q5 y.A y.n y.c y.r] w (jd w k λe=>o e&&a e):=by refine QK c49 [] Tryz.func49 ?_;refine new λb l d m=>?_;refine new λq b d n=>?_;refine new λp d f r=>?_;have f:=b.trans d;have b:=l.trans f;refine Qm (m.ext f) ?_;refine Qm (n.ext d) ?_;refine call (Cj x.A x.n x.c x.nd x.r y.A y.n y.c y.nd y.r p (h.ext b) (j.ext b)) ?_;rw[i9 g s c 0];have t:Set1 k _ _ (λe=>o e&&a e):=(fj s c 0).congr (λe=>by simp[J5]);generalize Wg x.nd x.r y.nd y.r 0=D at*;obtain⟨c,d⟩:=D;rintro _ a ⟨f,g,j,rfl,p,u,l⟩;refine call (G7 ⟨f,g,j,c,d⟩ a) ?_;rintro _ a ⟨rfl,m⟩;have n:=p.trans m;refine Qo (r.ext n) λw7 v _ z=>?_;have p:Mod (·=q.heap.size) a w7:=vQB v rfl;refine Qm z ?_;exact⟨f,g,j,c,d,rfl,p.ext (b.trans n) λi a=>ω,SB.mod (u.ext m) p (λi a e=>by have:=l i a;omega),t,λi a=>by have:=l i a;omega⟩
theorem jg {k:Nat}(d:k<=12)(x y:DV){o a:BF}(w:θ)(h:SB w x.A x.n x.c x.nd)(f:SB w y.A y.n y.c y.nd)(s:Set1 k x.nd x.r o)(g:Set1 k y.nd y.r a):Fn ψ 64 [Q5 x.A x.n x.c x.r,Q5 y.A y.n y.c y.r] w (jd w k λe=>o e && !a e):=by refine QK c64 [] Tryz.func64 ?_;refine new λa j b l=>?_;refine new λq b a m=>?_;refine new λn a c p=>?_;have c:=b.trans a;have b:=j.trans c;refine Qm (m.ext a) ?_;refine Qm (l.ext c) ?_;refine call (nQX d y x n (f.ext b) (h.ext b) g s) ?_;rintro _ a ⟨c,d,f,g,j,rfl,r,t,u,l⟩;refine call (G7 ⟨c,d,f,g,j⟩ a) ?_;rintro _ a ⟨rfl,m⟩;have n:=r.trans m;refine Qo (p.ext n) λw7 r _ v=>?_;have p:Mod (·=q.heap.size) a w7:=vQB r rfl;refine Qm v ?_;exact⟨c,d,f,g,j,rfl,p.ext (b.trans n) λi a=>ω,SB.mod (t.ext m) p (λi a e=>by have:=l i a;omega),u.congr (λe=>by rw[Bool.and_comm]),λi a=>by have:=l i a;omega⟩
abbrev Z3 (a:Λ):List Value:=Xb (a.map (·++ [10]))
theorem G8 (a:Λ):(Z3 a).length=a.length:=by rw[az,JS]
theorem VH {a:Λ}{j:Nat}{s:Γ}(h:a[j]? =some s):(Z3 a)[j]? =some (.string (Qb (s++ [10]))):=dw (by rw[Wy,h];rfl)
theorem Sl.from {w:θ}{n c l:Nat}{A:Θ}{a:χ τ}(h:Sl w 1 A n c a)(b:l<=n):Sl w 1 (if c=l then A else A.map (·.add (l*1))) (n-l) (c-l) (a.drop l):=by have a:=h.len;have a:=h.le;have a:=h.cap;refine⟨by rw[Wz];omega,ω,ω,λa=>?_⟩;obtain⟨a,rfl,b⟩:=h.at_ ω;refine⟨a.add (l*1),by rw[φ ω];rfl,λj u a=>?_⟩;rw[Addr.add_add,VC];exact b _ _ (by rw[xV] at a;exact a)
def bC (a:Λ):Prop:=∀s∈a,(∀x∈s,x<256)/\s.length<=1000000000
theorem dL {s:Γ}(h:∀x∈s,x<256):∀x∈s++ [10],x<256:=λx a=>by obtain a|a:=X2.1 a;exact h x a;rw[Xx.1 a];decide
def er (b:Bool)(a:Λ):Λ:=if b then a.reverse else a
theorem OV (b:Bool)(a:Λ):(er b a).length=a.length:=by cases b<;>simp[er]
theorem dQG {b:Bool}{a:Λ}{k:Nat}{s:Γ}(h:(er b a)[k]? =some s):a[if b then a.length-1-k else k]? =some s:=by
 cases b with|false=>exact h|true=>
  have b:k<a.length:=by have:=(ZK.1 h).1;rw[OV] at this;exact this
  rw[show er true a=a.reverse from rfl,List.getElem?_reverse b] at h;exact h
theorem nQY (b:Λ)(k best:Nat)(o:Int):pH [] b k best o=best:=by cases b<;>rfl
theorem nQZ (a:Λ)(k best:Nat)(o:Int):pH a [] k best o=best:=by cases a<;>rfl
theorem dQH {α:Type}{l:χ α}{k:Nat}{x:α}(h:l[k]? =some x):l.drop k=x::l.drop (k+1):=by obtain⟨a,e⟩:=ZK.1 h;rw[VU a,e]
theorem nQ0 (s:Γ): -1<=Vn s/\Vn s<=1:=by unfold Vn;split<;>(try split)<;>omega
theorem dQI (a b:Λ)(A B:Θ)(n c m d:Nat)(f:Bool)(w:θ)(h:Sl w 1 A n c (Z3 a))(N:Sl w 1 B m d (Z3 b))(ha:bC a)(hb:bC b)(hn:n<=1000000000):Fn ψ 171 [.slice A n c,.slice B m d,.bool f] w (λu J=>u= .int .i64 (YL (er f a) (er f b))/\Ext w J):=by
 have JM:a.length=n:=by have:=h.len;rw[G8] at this;omega
 have cZ:b.length=m:=by have:=N.len;rw[G8] at this;omega
 have L1:m<=9223372036854775807:=by have:=N.le;have:=N.cap;simp only[maxLen] at this;omega
 have hA:=OV f a;have hB:=OV f b;refine QK jQn [] Tryz.func171 ?_;refine norm (m:=((min n m:Nat):Int)) (by rw[Nat.min_def];split<;>split<;>omega) ?_;generalize tK:min n m=mn;have Jo:mn<=n:=by omega
 have XO:mn<=m:=by omega
 have Y:mn=n∨mn=m:=by omega
 refine loop Qe [17,7,8] (λs:Nat×Nat×Int=>[.int .i64 s.1,.int .i64 s.2.1,.int .i64 s.2.2]) (λs J=>Ext w J/\s.1<=mn/\s.2.1<=s.1/\ -(s.1:Int)<=s.2.2/\s.2.2<=s.1/\pH ((er f a).drop s.1) ((er f b).drop s.1) s.1 s.2.1 s.2.2=YL (er f a) (er f b)) (λs _=>mn-s.1) (0,0,0) rfl ⟨Ext.refl _,Q9 _,Qw _,by simp,by simp,rfl⟩ ?_;rintro⟨k,g,o⟩ E ⟨H,hk,gv,zE,kh,p⟩;simp only at hk gv zE kh p;refine Ql (λS=>?_) λS=>?_;have r:k<mn:=by simp only at S;omega
 obtain⟨x,W⟩:∃x,(er f a)[k]? =some x:=⟨_,Q6 ω⟩
 obtain⟨y,X⟩:∃y,(er f b)[k]? =some y:=⟨_,Q6 ω⟩
 rw[dQH W,dQH X,pH] at p;have Q:=dQG W;have T:=dQG X;have K:=ha x (Xd Q);have U:=hb y (Xd T);obtain⟨x0,V⟩:∃x0,a[k]? =some x0:=⟨_,Q6 ω⟩
 obtain⟨y0,O⟩:∃y0,b[k]? =some y0:=⟨_,Q6 ω⟩
 refine Xw (Ext E) 10 (oz 10 0 []) (Ext.drew E) (Zq (h.ext H) ω λR u P z F=>?_);rw[VH V] at z;cases z;refine Qx (v:=.string (Qb (x0++ [10]))) (λJ G=>G.cell F) (Zq (N.ext H) ω λR u P z F=>?_);rw[VH O] at z;cases z;refine Qx (v:=.string (Qb (y0++ [10]))) (λJ G=>G.cell F) ?_;cases f with
 |false=>
  refine QX rfl ?_;have Z:x=x0:=(Option.some.inj (V.symm.trans Q)).symm;have ey:y=y0:=(Option.some.inj (O.symm.trans T)).symm;subst Z ey;have q:=H.trans (Ext.drew E);have M:(Qb (x++ [10])=Qb (y++ [10]))↔x=y:=⟨λl=>by have:=Jl (dL K.1) (dL U.1) l;exact Fv this,λl=>by rw[l]⟩
  by_cases C:x=y;rw[Qf C] at p;refine QX (by simp[M.2 C]) (call (Ou (x++ [10]) Zd _ (dL K.1) δ) ?_);rintro _ _ ⟨rfl,rfl⟩;rw[Ot];cases I:Zd.isPrefixOf x with
  |true=>
   have t:Vn x=1:=by unfold Vn;rw[Qf I]
   refine Q3 rfl (Qz (o+1) ?_ (hm:=rfl));have i:=p;rw[t] at i;by_cases j:o+1=0;rw[Qf j] at i;refine JF j (QF k (QF k ?_));exact⟨(k+1,k+1,o+1),rfl,⟨q,r,Qw _,by show -((k+1:Nat):Int)<=o+1;omega,by show o+1<=((k+1:Nat):Int);omega,i⟩,QL⟩;rw[φ j] at i;refine X6 j (QF k ?_);exact⟨(k+1,g,o+1),rfl,⟨q,r,by show g<=k+1;omega,by show -((k+1:Nat):Int)<=o+1;omega,by show o+1<=((k+1:Nat):Int);omega,i⟩,QL⟩
  |false=>
   refine QX rfl ?_;have L:(Qb (x++ [10])=Qb (X5++ [10]))↔x=X5:=⟨λl=>by have:=Jl (dL K.1) δ l;exact Fv this,λl=>by rw[l]⟩
   by_cases D:x=X5;have t:Vn x= -1:=by unfold Vn;rw[φ (by rw[I];decide),Qf D]
   refine Zm (L.2 D) (Qz (o-1) ?_ (hm:=rfl));have i:=p;rw[t,show o+(-1)=o-1 by omega] at i;by_cases j:o-1=0;rw[Qf j] at i;refine JF j (QF k (QF k ?_));exact⟨(k+1,k+1,o-1),rfl,⟨q,r,Qw _,by show -((k+1:Nat):Int)<=o-1;omega,by show o-1<=((k+1:Nat):Int);omega,i⟩,QL⟩;rw[φ j] at i;refine X6 j (QF k ?_);exact⟨(k+1,g,o-1),rfl,⟨q,r,by show g<=k+1;omega,by show -((k+1:Nat):Int)<=o-1;omega,by show o-1<=((k+1:Nat):Int);omega,i⟩,QL⟩;have t:Vn x=0:=by unfold Vn;rw[φ (by rw[I];decide),φ D]
   refine XB (λl=>D (L.1 l)) ?_;have i:=p;rw[t,show o+0=o by omega] at i;by_cases j:o=0;rw[Qf j] at i;refine JF j (QF k (QF k ?_));exact⟨(k+1,k+1,o),rfl,⟨q,r,Qw _,by show -((k+1:Nat):Int)<=o;omega,by show o<=((k+1:Nat):Int);omega,i⟩,QL⟩;rw[φ j] at i;refine X6 j (QF k ?_);exact⟨(k+1,g,o),rfl,⟨q,r,by show g<=k+1;omega,by show -((k+1:Nat):Int)<=o;omega,by show o<=((k+1:Nat):Int);omega,i⟩,QL⟩
  rw[φ C] at p;refine Q3 (by rw[XZ λl=>C (M.1 l)];rfl) ?_;exact⟨by rw[<-p],q⟩
 |true=>
  refine Q3 rfl (Xw (Ext E.drew) 18 (oz 18 0 []) (Ext.drew E.drew) (Qz ((a.length-1:Nat):Int) (Qz ((a.length-1-k:Nat):Int) (Zq ((h.ext H).ext (Ext.drew E)) ω λR u P z F=>?_))));rw[VH (show a[a.length-1-k]? =some x from Q)] at z;cases z;refine Qx (v:=.string (Qb (x++ [10]))) (λJ G=>G.cell F) (Qz ((b.length-1:Nat):Int) (Qz ((b.length-1-k:Nat):Int) (Zq ((N.ext H).ext (Ext.drew E)) ω λR u P z F=>?_)));rw[VH (show b[b.length-1-k]? =some y from T)] at z;cases z;refine Qx (v:=.string (Qb (y++ [10]))) (λJ G=>G.cell F) ?_;have q:=(H.trans (Ext.drew E)).trans (Ext.drew _);have M:(Qb (x++ [10])=Qb (y++ [10]))↔x=y:=⟨λl=>by have:=Jl (dL K.1) (dL U.1) l;exact Fv this,λl=>by rw[l]⟩
  by_cases C:x=y;rw[Qf C] at p;refine QX (by simp[M.2 C]) (call (Ou (x++ [10]) Zd _ (dL K.1) δ) ?_);rintro _ _ ⟨rfl,rfl⟩;rw[Ot];cases I:Zd.isPrefixOf x with
  |true=>
   have t:Vn x=1:=by unfold Vn;rw[Qf I]
   refine Q3 rfl (Qz (o+1) ?_ (hm:=rfl));have i:=p;rw[t] at i;by_cases j:o+1=0;rw[Qf j] at i;refine JF j (QF k (QF k ?_));exact⟨(k+1,k+1,o+1),rfl,⟨q,r,Qw _,by show -((k+1:Nat):Int)<=o+1;omega,by show o+1<=((k+1:Nat):Int);omega,i⟩,QL⟩;rw[φ j] at i;refine X6 j (QF k ?_);exact⟨(k+1,g,o+1),rfl,⟨q,r,by show g<=k+1;omega,by show -((k+1:Nat):Int)<=o+1;omega,by show o+1<=((k+1:Nat):Int);omega,i⟩,QL⟩
  |false=>
   refine QX rfl ?_;have L:(Qb (x++ [10])=Qb (X5++ [10]))↔x=X5:=⟨λl=>by have:=Jl (dL K.1) δ l;exact Fv this,λl=>by rw[l]⟩
   by_cases D:x=X5;have t:Vn x= -1:=by unfold Vn;rw[φ (by rw[I];decide),Qf D]
   refine Zm (L.2 D) (Qz (o-1) ?_ (hm:=rfl));have i:=p;rw[t,show o+(-1)=o-1 by omega] at i;by_cases j:o-1=0;rw[Qf j] at i;refine JF j (QF k (QF k ?_));exact⟨(k+1,k+1,o-1),rfl,⟨q,r,Qw _,by show -((k+1:Nat):Int)<=o-1;omega,by show o-1<=((k+1:Nat):Int);omega,i⟩,QL⟩;rw[φ j] at i;refine X6 j (QF k ?_);exact⟨(k+1,g,o-1),rfl,⟨q,r,by show g<=k+1;omega,by show -((k+1:Nat):Int)<=o-1;omega,by show o-1<=((k+1:Nat):Int);omega,i⟩,QL⟩;have t:Vn x=0:=by unfold Vn;rw[φ (by rw[I];decide),φ D]
   refine XB (λl=>D (L.1 l)) ?_;have i:=p;rw[t,show o+0=o by omega] at i;by_cases j:o=0;rw[Qf j] at i;refine JF j (QF k (QF k ?_));exact⟨(k+1,k+1,o),rfl,⟨q,r,Qw _,by show -((k+1:Nat):Int)<=o;omega,by show o<=((k+1:Nat):Int);omega,i⟩,QL⟩;rw[φ j] at i;refine X6 j (QF k ?_);exact⟨(k+1,g,o),rfl,⟨q,r,by show g<=k+1;omega,by show -((k+1:Nat):Int)<=o;omega,by show o<=((k+1:Nat):Int);omega,i⟩,QL⟩
  rw[φ C] at p;refine Q3 (by rw[XZ λl=>C (M.1 l)];rfl) ?_;exact⟨by rw[<-p],q⟩
 have r:k=mn:=by simp only at S;omega
 subst r;refine⟨?_,H⟩;obtain e|e:=Y;rw[ux ω,nQY] at p;rw[<-p];rw[ux (show(er f b).length<=k by omega),nQZ] at p;rw[<-p]
theorem Vq (a:Λ):∀u∈Xb a,Kb u=true:=λu a=>by unfold Xb at a;obtain⟨s,_,rfl⟩:=Z5.1 a;rfl
theorem nQ1 (d:Λ)(A:Θ)(n c:Nat)(w:θ)(h:Sl w 1 A n c (Xb d))(f:n<=1000000000):Fn ψ 172 [.slice A n c] w (λu i=>∃f g,u= .slice f n g/\Ext w i/\Own i w.heap.size 9 1 f n g (Xb d)):=by
 have i:d.length=n:=by have:=h.len;rw[az] at this;omega
 refine QK jQo [] Tryz.func172 ?_;cases A with|none=>have j:n=0:=Classical.byContradiction (λl=>by obtain⟨l,e,_⟩:=h.at_ ω;cases e);subst j;have j:d=[]:=VT i;subst j;refine Q3 rfl ?_;exact⟨none,0,rfl,Ext.refl _,Own.nil _ _ _ _⟩|some a=>refine QX rfl ?_;refine d8 ?_;intro l i j m;have j:Own l w.heap.size 9 1 (some ⟨w.heap.size,0,none⟩) 0 0 []:=Own.empty m (Qw _);refine XV (n:=0) j (h.ext i) (Vq d) (by unfold maxLen;omega) ω ?_ (b:=(by show(0+n)*16<=_;omega));intro f g m l d o;rw[YW,d4] at d;refine⟨f,g,by rw[YW],l.ext i λk m=>(j.rows k m).1,d⟩
theorem vr (a:Λ)(k:Nat):(Z3 a).take k=Z3 (a.take k):=by simp[Z3,Xb,List.map_take]
theorem Cz (a:Λ)(k:Nat):(Z3 a).drop k=Z3 (a.drop k):=by simp[Z3,Xb,List.map_drop]
theorem nQ2 (a b:Λ):Z3 (a++b)=Z3 a++Z3 b:=by simp[Z3,Xb]
theorem OW {c:Cx}(d:c.g.Ok){o:Oper}{S:Env}{C:θ->Prop}{K:Env->Prop}{t e:Nat}{x y:Operand}{A:Θ}{n b:Nat}{h:Nat}{r:TyRow}(g:o.op= .slice t x none (some y) none)(f:Q8 c.g.tys t=some r)(i:r.d= .slice e){j:TyRow}(l:Q8 c.g.tys e=some j)(m:S.ev x=some (.slice A n b)) (p:S.ev y=some (.int .i64 h)) (q:h<=b)(k:XD c S o.dst (.v (.slice A h b)) K):fa c o S C K:=by have b:=(d.row f).1;rw[i] at b;unfold fa;refine⟨_,λa w f _=>?_,k⟩;have i:=f.ev m;have j:=f.ev p;simp[execOp,g,i,j,Instr.sliceAt,Instr.slice,JB b,Instr.sliceBounds,Instr.sliceBound,asIntOf,q,run_sizeOf d l];intro _;cases A<;>simp[Addr.add]
theorem dQJ {c:Cx}(d:c.g.Ok){o:Oper}{S:Env}{C:θ->Prop}{K:Env->Prop}{t e:Nat}{x y:Operand}{A:Θ}{n b:Nat}{l:Nat}{r:TyRow}(g:o.op= .slice t x (some y) none none)(h:Q8 c.g.tys t=some r)(i:r.d= .slice e){f:TyRow}(j:Q8 c.g.tys e=some f)(m:S.ev x=some (.slice A n b)) (p:S.ev y=some (.int .i64 l)) (q:l<=n)(k:XD c S o.dst (.v (.slice (if b=l then A else A.map (·.add (l*f.sz))) (n-l) (b-l))) K):fa c o S C K:=by have b:=(d.row h).1;rw[i] at b;unfold fa;refine⟨_,λa w f _=>?_,k⟩;have h:=f.ev m;have i:=f.ev p;simp[execOp,g,h,i,Instr.sliceAt,Instr.slice,JB b,Instr.sliceBounds,Instr.sliceBound,asIntOf,q,run_sizeOf d j]
structure Lo (w0 w:World) (O:Θ) (n oc:Nat) (ls:Λ):Prop where
 e:Ext w0 w
 ow:Own w w0.heap.size 9 1 O n oc (Z3 ls)
theorem Lo.ext {a w b:θ}{O:Θ}{n c:Nat}{ls:Λ}(h:Lo a w O n c ls)(k:Ext w b):Lo a b O n c ls:=⟨h.e.trans k,h.ow.ext k⟩
theorem Lo.app {b w c:θ}{O e:Θ}{n m g a:Nat}{d f:Λ}(h:Lo b w O n g d)(i:Mod (Qj O) w c)(j:Own c b.heap.size 9 1 e (n+m) a (Z3 d++Z3 f)):Lo b c e (n+m) a (d++f):=
 ⟨i.ext h.e λk a=>(h.ow.rows k a).1,by rw[nQ2];exact j⟩
theorem Lo.len {b w:θ}{O:Θ}{n c:Nat}{a:Λ}(h:Lo b w O n c a):a.length=n:=by have:=h.ow.sl.len;rw[G8] at this;omega
theorem W6 {w:θ}{A:Θ}{n c:Nat}{a:Λ}(h:Sl w 1 A n c (Z3 a)):a.length=n:=by have:=h.len;rw[G8] at this;omega
theorem Lo.fin {w b w1:θ}{O:Θ}{n a:Nat}{c:Λ}(d:Ext w b)(h:Lo b w1 O n a c):nH w (.slice O n a) (c.map (·++ [10])) w1:=⟨O,a,by rw[JS,h.len],d.trans h.e,by rw[JS,h.len];exact⟨h.ow.sl,λa=>by obtain⟨g,c,b,_⟩:=h.ow.blk a;exact⟨g,0,b⟩⟩⟩
def Y2 (a:Λ)(v:Nat):Γ:=(a[v]?).getD []
theorem nQ3 (g:Λ)(v:Nat)(H L:Λ)(A B:Θ)(n c m d:Nat)(w:θ)(h:Sl w 1 A n c (Z3 H))(Z:Sl w 1 B m d (Z3 L))(hH:bC H)(hL:bC L)(hv:(Y2 g v).length<=1000000000)(hn:n<=100000000)(hm:m<=100000000):Fn ψ 118 [.string (Qb (Y2 g v)),.slice A n c,.slice B m d] w (λu w'=>nH w u ((W3 g v H L).map (·++ [10])) w'):=by
 have hHl:=W6 h;have rh:=W6 Z;refine QK iQD [] Tryz.func118 ?_;have tf:=dQI H L A B n c m d false w h Z hH hL ω;have hp0:YL (er false H) (er false L)=YL H L:=rfl;rw[hp0] at tf;refine call tf ?_;rintro _ w1 ⟨rfl,G⟩;obtain⟨p1,p2,_,_,_⟩:=Cp H L;have Jr:W3 g v H L=W3 g v H L:=rfl;unfold W3 at Jr;simp only at Jr;generalize hp:YL H L=p at*;have ZU:=h.le;have tQw:=Z.le;refine bm Qe rfl rfl rfl rfl rfl rfl ω ?_;have ht:=(h.ext G).take (m:=p) ω;rw[VC,vr] at ht;refine call (nQ1 ((H.take p).map (·++ [10])) A p c w1 ht ω) ?_;rintro _ V ⟨O,oc,rfl,Qg,qu⟩;have lo:Lo w1 V O p oc (H.take p):=⟨Qg,qu⟩
 have q1:=(h.ext G).from (l:=p) ω;have q2:=(Z.ext G).from (l:=p) ω;rw[Cz] at q1 q2;refine Xw (Ext V) 8 (oz 8 0 []) (Ext.drew V) (dQJ Qe rfl rfl rfl rfl rfl rfl ω (dQJ Qe rfl rfl rfl rfl rfl rfl ω ?_));have R1:=lo.ext (Ext.drew V);have Ua:(H.drop p).length=n-p:=by rw[Wz];omega
 have Ub:(L.drop p).length=m-p:=by rw[Wz];omega
 have bD:∀{X:Λ} {k:Nat},bC X->bC (X.drop k):=λhX s hs=>hX s (a8 hs);have Vj:=dQI (H.drop p) (L.drop p) _ _ _ _ _ _ true V.drew (q1.ext R1.e) (q2.ext R1.e) (bD hH) (bD hL) ω;have HI:YL (er true (H.drop p)) (er true (L.drop p))=fX (H.drop p) (L.drop p):=rfl;rw[HI] at Vj;refine call Vj ?_;rintro _ w3 ⟨rfl,Qi⟩;have lo3:=R1.ext Qi;obtain⟨s1,s2,_⟩:=Oo (H.drop p) (L.drop p);generalize hs:fX (H.drop p) (L.drop p)=s at*;have hcA:p<=c:=by omega
 refine Qz ((n-p-s:Nat):Int) (uN Qe rfl rfl rfl rfl rfl rfl ω (Xw (Ext w3) 14 (oz 14 0 []) (Ext.drew w3) (Qz ((n-p-s:Nat):Int) (OW Qe rfl rfl rfl rfl rfl rfl ω (Qz ((m-p-s:Nat):Int) (OW Qe rfl rfl rfl rfl rfl rfl ω ?_))))));have DK:=lo3.ext (Ext.drew w3);have r1:=q1.take (m:=n-p-s) ω;have r2:=q2.take (m:=m-p-s) ω;have U:=q1.from (l:=n-p-s) ω;rw[VC (n-p-s),vr] at r1;rw[VC (m-p-s),vr] at r2;rw[Cz] at U;have C:W3 g v H L=H.take p++((if(H.drop p).take (n-p-s)=[] then KK g v true::(L.drop p).take (m-p-s)else KK g v false::((H.drop p).take (n-p-s)++if(L.drop p).take (m-p-s)=[] then [] else J6::(L.drop p).take (m-p-s)))++X5::(H.drop p).drop (n-p-s)):=by unfold W3;simp only[hp,hs,Ua,Ub]
 have R2:=W6 r1;have R3:=W6 r2;have lE:=W6 U;generalize (H.drop p).take (n-p-s)=W at*;generalize (L.drop p).take (m-p-s)=Y at*;generalize (H.drop p).drop (n-p-s)=E at*;have jG:=QZ (Y2 g v);have h1s:(Qb [10]).size=1:=rfl;refine X0 (λc7=>?_) λc7=>?_;have e2:W=[]:=VT ω;rw[Qf e2] at C;have jo:=QZ (Zd++(33::Y2 g v));refine XF (v':=.string (Qb (Zd++(33::Y2 g v)))) (by show(Qb [35,105,102,32,33]).size+_<=_;rw[QZ,jG];show 5+_<=_;unfold maxLen;omega) (by show Value.string (Qb (Zd++ [33])++Qb (Y2 g v))=_;rw[ZR];rfl) (XF (v':=.string (Qb (KK g v true++ [10]))) (by rw[jo];show _+1<=_;simp[Zd];unfold maxLen;omega) (by show Value.string (Qb (Zd++(33::Y2 g v))++Qb [10])=_;rw[ZR];rfl) ?_);refine XM [Value.string (Qb (KK g v true++ [10]))] ?_;intro F xx Uc xy;have D:Sl F 1 _ 1 1 (Z3 [KK g v true]):=Sl.own' (n:=1) xy rfl δ;have j:=DK.ext xx;have lza:=j.len;refine XV j.ow D (Vq _) (by unfold maxLen;omega) j.e.size ?_ (b:=(by show(_+1)*16<=_;omega));intro Oa oca wa xz xA _;have i:=j.app xz xA;refine XV i.ow (r2.ext i.e) (Vq _) (by unfold maxLen;omega) i.e.size ?_ (b:=(by show(_+_)*16<=_;omega));intro Ob ocb wb xB xC _;have x:=i.app xB xC;refine XM [Value.string (Qb (X5++ [10]))] ?_;intro t R EV N;have r:Sl t 1 _ 1 1 (Z3 [X5]):=Sl.own' (n:=1) N rfl δ;have f:=x.ext R;have M:=f.len;refine XV f.ow r (Vq _) (by unfold maxLen;omega) f.e.size ?_ (b:=(by show(_+1)*16<=_;omega));intro Oc S wc K P _;have a:=f.app K P;refine XV a.ow (U.ext a.e) (Vq _) (by unfold maxLen;omega) a.e.size ?_ (b:=(by show(_+_)*16<=_;omega));intro Od T wd I Q _;have q:=a.app I Q;have o:=q.fin G;have J:((((H.take p++ [KK g v true])++Y)++ [X5])++E)=W3 g v H L:=by rw[C];simp
 rw[J] at o;exact o;have e2:W≠ []:=λe=>c7 (by subst e;simp at R2;omega);rw[φ e2] at C;have jo:=QZ (Zd++Y2 g v);refine XF (v':=.string (Qb (Zd++Y2 g v))) (by show(Qb [35,105,102,32]).size+_<=_;rw[QZ,jG];show 4+_<=_;unfold maxLen;omega) (by show Value.string (Qb Zd++Qb (Y2 g v))=_;rw[ZR]) (XF (v':=.string (Qb (KK g v false++ [10]))) (by rw[jo];show _+1<=_;simp[Zd];unfold maxLen;omega) (by show Value.string (Qb (Zd++Y2 g v)++Qb [10])=_;rw[ZR];rfl) (XM [Value.string (Qb (KK g v false++ [10]))] ?_));intro F xx Uc xy;have D:Sl F 1 _ 1 1 (Z3 [KK g v false]):=Sl.own' (n:=1) xy rfl δ;have j:=DK.ext xx;have lza:=j.len;refine XV j.ow D (Vq _) (by unfold maxLen;omega) j.e.size ?_ (b:=(by show(_+1)*16<=_;omega));intro Oa oca wa xz xA _;have i:=j.app xz xA;refine XV i.ow (r1.ext i.e) (Vq _) (by unfold maxLen;omega) i.e.size ?_ (b:=(by show(_+_)*16<=_;omega));intro Ob ocb wb xB xC _;have x:=i.app xB xC;refine Ql (λc8=>?_) λc8=>?_
 have e3:Y≠ []:=λe=>by subst e;simp at R3;omega
 rw[φ e3] at C;refine XM [Value.string (Qb (J6++ [10]))] ?_;intro t R EV N;have r:Sl t 1 _ 1 1 (Z3 [J6]):=Sl.own' (n:=1) N rfl δ;have f:=x.ext R;have M:=f.len;refine XV f.ow r (Vq _) (by unfold maxLen;omega) f.e.size ?_ (b:=(by show(_+1)*16<=_;omega));intro Oc S wc K P _;have a:=f.app K P;refine XV a.ow (r2.ext a.e) (Vq _) (by unfold maxLen;omega) a.e.size ?_ (b:=(by show(_+_)*16<=_;omega));intro Od T wd I Q _;have q:=a.app I Q;refine XM [Value.string (Qb (X5++ [10]))] ?_;intro wxe Ud tQx Ue;have sxe:Sl wxe 1 _ 1 1 (Z3 [X5]):=Sl.own' (n:=1) Ue rfl δ;have z:=q.ext Ud;have lze:=z.len;refine XV z.ow sxe (Vq _) (by unfold maxLen;omega) z.e.size ?_ (b:=(by show(_+1)*16<=_;omega));intro Oe oce we oS Uf _;have y:=z.app oS Uf;refine XV y.ow (U.ext y.e) (Vq _) (by unfold maxLen;omega) y.e.size ?_ (b:=(by show(_+_)*16<=_;omega));intro Of ocf wf Ug Uh _;have lof:=y.app Ug Uh;have o:=lof.fin G;have J:((((((H.take p++ [KK g v false])++W)++ [J6])++Y)++ [X5])++E)=W3 g v H L:=by rw[C];simp
 rw[J] at o;exact o;have e3:Y=[]:=VT ω;rw[Qf e3] at C;refine XM [Value.string (Qb (X5++ [10]))] ?_;intro t R EV N;have r:Sl t 1 _ 1 1 (Z3 [X5]):=Sl.own' (n:=1) N rfl δ;have f:=x.ext R;have M:=f.len;refine XV f.ow r (Vq _) (by unfold maxLen;omega) f.e.size ?_ (b:=(by show(_+1)*16<=_;omega));intro Oc S wc K P _;have a:=f.app K P;refine XV a.ow (U.ext a.e) (Vq _) (by unfold maxLen;omega) a.e.size ?_ (b:=(by show(_+_)*16<=_;omega));intro Od T wd I Q _;have q:=a.app I Q;have o:=q.fin G;have J:((((H.take p++ [KK g v false])++W)++ [X5])++E)=W3 g v H L:=by rw[C];simp
 rw[J] at o;exact o
theorem nQ4 {a b:Γ}(h:Qb (a++ [10])=Qb (b++ [10]))(c:∀x∈a,x<256)(d:∀x∈b,x<256):a=b:=Fv (Jl (dL c) (dL d) h)
theorem nQ5 {α:Type}{l l':χ α}{n:Nat}(a:l.length=n)(b:l'.length=n)(h:∀j,j<n->l[j]? =l'[j]?):l=l':=by refine Fh λj=>?_;by_cases a:j<n;exact h j a;rw[uu ω,uu ω]
theorem nQ6 (A B:Θ)(n c m e:Nat)(l b:Λ)(w:θ)(h:Sl w 1 A n c (Z3 l))(t:Sl w 1 B m e (Z3 b))(z:bC l)(k:bC b):Fn ψ 117 [.slice A n c,.slice B m e] w (λv d=>v= .bool (decide (l=b))/\Ext w d):=by
 have C:=W6 h;have a:=W6 t;have a:n<=9223372036854775807:=by have:=h.le;have:=h.cap;simp only[maxLen] at this;omega
 refine QK iQC [] Tryz.func117 ?_;refine Ya (λa=>?_) λa=>?_;exact⟨by rw[XZ λe=>by subst e;omega],Ext.refl w⟩;refine loop Qe [13] (λs:Nat=>[.int .i64 s]) (λs d=>Ext w d/\s<=n/\∀j,j<s->l[j]? =b[j]?) (λs _=>n-s) 0 rfl ⟨Ext.refl w,Q9 _,λj o=>Xg o ω⟩ ?_;rintro s p ⟨g,f,a⟩;refine Ql (λf=>?_) λf=>?_;have r:s<n:=by omega
 obtain⟨x,i⟩:∃x,l[s]? =some x:=⟨_,Q6 ω⟩
 obtain⟨y,f⟩:∃y,b[s]? =some y:=⟨_,Q6 ω⟩
 refine Xw (Ext p) 9 (oz 9 0 []) (Ext.drew p) (Zq (h.ext g) r λD u E b q=>?_);rw[VH i] at b;cases b;refine Qx (v:=.string (Qb (x++ [10]))) (λd r=>r.cell q) (Zq (t.ext g) ω λD u E b q=>?_);rw[VH f] at b;cases b;refine Qx (v:=.string (Qb (y++ [10]))) (λd r=>r.cell q) ?_;have d:=g.trans (Ext.drew p);have p:=z x (Xd i);have q:=k y (Xd f);by_cases b:x=y;refine QX (by rw[b];simp) (QF s ?_);refine⟨s+1,rfl,⟨d,ω,λj o=>?_⟩,QL⟩;by_cases k:j<s;exact a j k;have:j=s:=by omega
 subst this;rw[i,f,b];refine Q3 (by rw[XZ λk=>b (nQ4 k p.1 q.1)];rfl) ?_;refine⟨?_,d⟩;rw[XZ λe=>b (by subst e;rw[i] at f;exact Option.some.inj f)];refine⟨?_,g⟩;rw[Zg (nQ5 C ω λj o=>a j ω)]
theorem nQ7 {c:Λ}{v:Nat}{H L:Λ}{P:Γ->Prop}(d:∀s∈H,P s)(e:∀s∈L,P s)(f:∀g,P (KK c v g))(i:P J6)(j:P X5):∀s∈W3 c v H L,P s:=by
 intro s c;unfold W3 at c;simp only at c;have t:∀{X:Λ} {a b:Nat},(∀s∈X,P s)->∀s∈(X.drop a).take b,P s:=λh s c=>h s (a8 (aw c));generalize fX (H.drop (YL H L)) (L.drop (YL H L))=q at*;generalize YL H L=p at*;obtain c|c:=X2.1 c
 exact d s (aw c);obtain c|c:=X2.1 c;split at c;obtain rfl|c:=XI.1 c;exact f true;exact t e s c;obtain rfl|c:=XI.1 c;exact f false;obtain c|c:=X2.1 c;exact t d s c;split at c;cases c;obtain rfl|c:=XI.1 c;exact i;exact t e s c;obtain rfl|c:=XI.1 c;exact j;exact d s (a8 (a8 c))
theorem nQ8 (a:Λ)(v:Nat)(H L:Λ):(W3 a v H L).length<=H.length+L.length+3:=by obtain⟨a,b,_⟩:=Cp H L;obtain⟨a,b,_⟩:=Oo (H.drop (YL H L)) (L.drop (YL H L));unfold W3;simp only;generalize fX (H.drop (YL H L)) (L.drop (YL H L))=q at*;generalize YL H L=p at*;rw[Wz] at a b;split;simp only[Qy,Xa,KR,Wz];omega;split;simp only[Qy,Xa,KR,Wz,Jz];omega;simp only[Qy,Xa,KR,Wz];omega
theorem sh {nm:Λ}{f:Nat->Γ}{P:Γ->Prop}{M:Nat}(g:∀v u,P (KK nm v u))(i:P J6)(j:P X5):∀(k v:Nat)(l:Γ),l≠ []->(∀c∈l,(∀s∈QN (f c),P s)/\(QN (f c)).length<=M)->(∀s∈XW nm f k v l,P s)/\(XW nm f k v l).length+3<=l.length*(M+3)
 |0,v,l,b,d=>by have o:=d _ (GZ b);rw[XW];have:1<=l.length:=mU.2 b;have:=aY (M+3) this;exact⟨o.1,by have:=o.2;omega⟩
 |k+1,v,l,b,d=>by
  rw[yS b];split;exact sh g i j k (v+1) l b d;rename_i h;have p:l.filter (λc=> !c.testBit v)≠ []:=λe=>h (.inl e);have q:l.filter (λc=>c.testBit v)≠ []:=λe=>h (.inr e)
  have r:(l.filter λc=>c.testBit v).length+(l.filter λc=> !c.testBit v).length=l.length:=by clear h b d p q;induction l with|nil=>rfl|cons a l y=>by_cases e:a.testBit v=true<;>simp[xX,e]<;>omega
  obtain⟨t,w⟩:=sh g i j (P:=P) (M:=M) k (v+1) _ p λc m=>d c (VE.1 m).1;obtain⟨n,x⟩:=sh g i j (P:=P) (M:=M) k (v+1) _ q λc m=>d c (VE.1 m).1;have z:l.length*(M+3)=(l.filter λc=>c.testBit v).length*(M+3)+(l.filter λc=> !c.testBit v).length*(M+3):=by rw[<-xR,r]
  split;exact⟨n,ω⟩;refine⟨nQ7 n t (g v) i j,?_⟩;have:=nQ8 nm v (XW nm f k (v+1) (l.filter λc=>c.testBit v)) (XW nm f k (v+1) (l.filter λc=> !c.testBit v));omega
end
section
inductive PT where
 |done
 |skip
 |quiet (k:Nat) (t:PT)
 |fork (k:Nat) (t o:PT)
def PT.alts:PT->Γ|.fork k _ o=>k::o.alts|_=>[]
def KW (d:Region.Mode)(c:Array Oper)(n:Nat):PT->Bool->Nat->Array Bool->Bool|.done,b,m,a=> !b&&Nat.beq m 0&&Region.seqB d c (c.size-n) n a|.skip,b,_,_=>b|.quiet _ _,_,0,_=>false|.quiet k t,b,m+1,a=> !b&&(Nat.blt k n&&(Region.ready d c a).contains k&&Region.free d c a k&&KW d c n t false m (a.setIfInBounds k true))|.fork _ _ _,_,0,_=>false|.fork k t o,b,m+1,a=>(b||decide (Region.ready d c a=k::o.alts))&&(Nat.blt k n&&KW d c n t false m (a.setIfInBounds k true))&&KW d c n o true (m+1) a
def pN (c:Cx)(a:χ Oper)(C:θ->Prop):PT->Env->θ->(Env->θ->Prop)->Prop
 |.done,S,w,K=>K S w|.skip,_,_,_=>True|.quiet k t,S,w,K=>match V9 a k with
  |some o=>jS a o S (λS=>uQ c o S C λS=>pN c a C t S w K) λS=>XD c S o.dst (.v undef) λS=>pN c a C t S w K
  |none=>False
 |.fork k t o,S,w,K=>(match V9 a k with|some b=>jS a b S (λS=>gF c b S w (λS w=>C w/\pN c a C t S w K) λ_ _ _=>False) (λS=>XD c S b.dst (.v undef) λS=>pN c a C t S w K)|none=>False)/\pN c a C o S w K
section
variable {c:Cx} {S:Env} {a:Act}
theorem CB (H:c.g.Ok){l:Region.Mode}{b:χ Oper}{C:θ->Prop}{Q:Exit->Act->θ->Prop}{n:Nat}(M:Region.noSelect b.toArray=true)(N:ni l b.toArray n){K:Env->θ->Prop}:∀(t:PT) (m:Nat) (listed:Array Bool) (S:Env) (a:Act) (w:θ),HeadInv l b.toArray n listed->pN c b C t S w K->Fits c.N S a->C w->(KW l b.toArray n t false m listed=true->WB c.g.P l b.toArray (NoPan Q) C n (λE q f=>Region.seqB l b.toArray (b.toArray.size-n) n E=true/\∃g,Fits c.N g q/\K g f) m listed a w)/\(∀z,m=z+1->KW l b.toArray n t true m listed=true->(∀i∈t.alts,i∈Region.ready l b.toArray listed)->∀i∈t.alts,i<n/\wpOp c.g.P b.toArray (NoPan Q) i (λq f=>C f/\WB c.g.P l b.toArray (NoPan Q) C n (λE q f=>Region.seqB l b.toArray (b.toArray.size-n) n E=true/\∃g,Fits c.N g q/\K g f) z (listed.setIfInBounds i true) q f) a w)
 |.done,m,listed,S,a,w,p,h,A,y=>by refine⟨λd=>?_,λz O d=>?_⟩;simp only[KW,Bool.not_false,YF,Z4] at d;have:=YV d.1;subst this;exact⟨d.2,S,A,h⟩;simp[KW] at d|.skip,m,listed,S,a,w,p,h,A,y=>by refine⟨λd=>?_,λz O d _ i B=>?_⟩;simp[KW] at d;simp[PT.alts] at B|.quiet k t,0,listed,S,a,w,p,h,A,y=>by refine⟨λd=>?_,λz O d=>?_⟩;simp[KW] at d;simp[KW] at d|.quiet k t,m+1,listed,S,a,w,p,h,A,y=>by
  refine⟨λd=>?_,λz O d=>?_⟩;simp only[KW,Bool.not_false,YF,Z4] at d;obtain⟨⟨⟨u,T⟩,s⟩,U⟩:=d;have u:k<n:=by rw[kQ] at u;exact u
  have I:k∈Region.ready l b.toArray listed:=by simpa using T
  obtain⟨_,o,J,_⟩:=mem_ready.1 I;have V:V9 b k=some o:=by rw[jR];simpa using J
  simp only[pN,V] at h;have D:∃v,YieldsIf c.g.P b.toArray C o v a/\∃g,Fits c.N g (a.put o.dst v)/\pN c b C t g w K:=by obtain⟨F,W,G,L⟩|⟨F,W,G,L⟩:=np h A;obtain⟨v,X,P⟩:=Bj H L G;exact⟨v,.inl ⟨F,X⟩,P⟩;exact⟨undef,.inr ⟨F,rfl⟩,Jf (e:=.v undef) L G⟩
  obtain⟨v,Z,g,R,Y⟩:=D;exact M4 J (Region.noSelect_spec M) N u (λE q f hL=>seqB_ready hL.1) m listed a w p (Region.free_spec J s) I Z y
   ((CB H M N t m _ g _ w (p.set I u) Y R y).1 U)
  simp[KW] at d
 |.fork k t o,0,listed,S,a,w,p,h,A,y=>by refine⟨λd=>?_,λz O d=>?_⟩;simp[KW] at d;simp[KW] at d
 |.fork k t o,m+1,listed,S,a,w,p,h,A,y=>by
  have D:(Nat.blt k n&&KW l b.toArray n t false m (listed.setIfInBounds k true))=true->KW l b.toArray n o true (m+1) listed=true->(∀i∈(PT.fork k t o).alts,i∈Region.ready l b.toArray listed)->
    ∀i∈(PT.fork k t o).alts,i<n/\wpOp c.g.P b.toArray (NoPan Q) i (λq f=>C f/\WB c.g.P l b.toArray (NoPan Q) C n (λE q f=>Region.seqB l b.toArray (b.toArray.size-n) n E=true/\∃g,Fits c.N g q/\K g f) m (listed.setIfInBounds i true) q f) a w:=by
   intro d Z s i B;simp only[Z4] at d;obtain⟨u,U⟩:=d;have u:k<n:=by rw[kQ] at u;exact u
   simp only[PT.alts,XI] at B;have I:k∈Region.ready l b.toArray listed:=s k (by simp[PT.alts]);obtain⟨L,X⟩:=h;obtain rfl|B:=B;refine⟨u,?_⟩;obtain⟨_,op,J,_⟩:=mem_ready.1 I;have V:V9 b i=some op:=by rw[jR];simpa using J
   simp only[V] at L;have V:=p.set I u;unfold wpOp;simp only[J];obtain⟨F,W,G,P⟩|⟨F,W,G,P⟩:=np L A;rw[Qf F];refine .inl ?_;have I:=uI H P G;have u:=Oper.wp_mono (K':=λq f=>C f/\WB c.g.P l b.toArray (NoPan Q) C n (λE q f=>Region.seqB l b.toArray (b.toArray.size-n) n E=true/\∃g,Fits c.N g q/\K g f) m (listed.setIfInBounds i true) q f)
    (λq f ⟨g,R,E,J⟩=>⟨E,(CB H M N t m _ g q f V J R E).1 U⟩) I
   unfold Oper.wp at u ⊢;generalize (execOp a.eval op).run c.g.P w=r at*;cases r with
   |ok nx f=>
    cases nx<;>simp only[Oper.upon] at u ⊢ <;> try exact u
    exact u.mono λe E q=>by
     cases e with
     |returned v=>exact q
     |panicked E=>obtain⟨_,_,q⟩:=q;exact q.elim
     |outgrown=>obtain⟨_,_,_,_,q⟩:=q;exact q.elim
   |halt x f=>cases x<;>simp only[Oper.upon] at u ⊢ <;> first|exact u|(obtain⟨_,_,u⟩:=u;exact u.elim)
   rw[φ (by rw[F];decide)];obtain⟨g,R,Y⟩:=Jf (e:=.v undef) P G;exact⟨y,(CB H M N t m _ g _ w V Y R y).1 U⟩;exact(CB H M N o (m+1) listed S a w p X A y).2 m rfl Z (λj f=>s j (by simp[PT.alts,f])) i B
  refine⟨λd=>?_,λz O d s=>?_⟩;simp only[KW,AP,Z4,YX] at d;obtain⟨⟨T,p⟩,q⟩:=d;have g:Region.ready l b.toArray listed=(PT.fork k t o).alts:=T;refine⟨λb=>(by rw[T] at b;cases b),λi B=>?_⟩;exact D (by simpa using p) q (λj f=>by rw[g];exact f) i (by rw[g] at B;exact B);simp only[KW,Bool.true_or,YF] at d;rw[Z4] at d;have b:z=m:=by omega
  subst b;exact D d.1 d.2 s
theorem nM (d:c.g.Ok){id:Nat}{ops:χ Oper}{w:θ}{Q:ZD}(C:θ->Prop)(n:Nat)(t:PT)
  (hB:(Region.noSelect ops.toArray&&rM .any ops.toArray n&&KW .any ops.toArray n t false n (Array.replicate ops.toArray.size false))=true) (hC:C w.drew)
  (h:pN {c with named:=1000000} ops C t S w.drew λS w=>WA c ops (ops.drop n) S w (λS w=>Q .normal S w) λ_ _ _=>False):bf c id ops S w Q:=by
 unfold bf;intro a i;simp only[Z4] at hB;obtain⟨⟨k,f⟩,l⟩:=hB;have b:=Bi f;have f:n<=ops.length:=by obtain b|b:=b;rw[b];simp;have:=b.1;simp at this;omega
 refine Code.wp_mono NoPan.imp (wp_region_any d.mixed ?_);have m:HeadInv .any ops.toArray n (Array.replicate ops.toArray.size false):=
  ⟨by simp,λj o _ f=>(by rw[getD_replicate_false] at f;cases f),λt _ o=>getD_in (by simpa using o) (getD_replicate_false _ _)⟩
 have H:=(CB (c:={c with named:=1000000}) d (Q:=Up c Q) k b t n _ S a _ m h i hC).1 l;have f:(ops.drop n).length=ops.toArray.size-n:=by simp
 have i:=yi (Q:=NoPan (Up c Q)) (g:=ops.toArray.size-n) (λk l m o=>by
  obtain⟨b,r,p,q⟩:=o;have o:=m7 (c:=c) d ops _ _ _ _ q p;have:=wpAny_of_seq (P:=c.g.P) (md:=.any) (ops:=ops.toArray) (Q':=NoPan (Up c Q)) (ops.drop n) n k l m (λj=>by simp) (by rw[f];exact b) (pm (λe a w b=>by
   cases e with|normal=>exact b|_=>exact Xg b (by rintro⟨_,_,h⟩;exact h)) o)
  rwa [f] at this) _ _ _ _ H
 rw[show n+(ops.toArray.size-n)=ops.toArray.size by simp;omega] at i;exact i
theorem si {α:Type}{id:Nat}{b:χ Oper}{w:θ}{Q:ZD}(g:Γ)(val:α->χ τ)(R:α->θ->Prop)
  (hx:cK (iW (.region id b.toArray true)) S [] λf=>bf c id b S w λe d j=>match e with|.normal=>∃s,gH g (val s) f (λT=>Has T d)/\R s j|e=>Q e d j)
  (hy:cK (iW (.region id b.toArray true)) S [] λf=>∀s k,R s k->gH g (val s) f λm=>Q .normal m k):bf c id b S w Q:=by
 rw[FQ] at hx hy;unfold bf at*;intro a m;generalize rJ (iW (.region id b.toArray true)) S []=f at*;have k:∀s (K:Env->Prop),gH g (val s) f K->K ((g.zip ((val s).map Ent.v)).reverse++f):=λs K h=>by obtain⟨T,rfl,b⟩:=MW h;exact b
 refine Code.wp_mono (λe f j b=>?_) (hx a m);obtain⟨d,f,b⟩:=b;cases e with|normal=>obtain⟨s,g,m⟩:=b;exact⟨_,(k s _ g).fits f,k s _ (hy s j m)⟩|exit i=>exact⟨d,f,b⟩|goto l=>exact⟨d,f,b⟩|ret=>exact⟨d,f,b⟩|panic g=>exact⟨d,f,b⟩|outgrown=>exact⟨d,f,b⟩
end
end
end Go.Proofs.YtjabbbcdgmlojaaGreatDoor
