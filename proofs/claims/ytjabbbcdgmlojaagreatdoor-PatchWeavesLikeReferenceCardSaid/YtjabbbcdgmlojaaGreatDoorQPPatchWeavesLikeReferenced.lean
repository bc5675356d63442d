/-
  What PPatchWeavesLikeReference rests on, part 4 (wip/shake.py).
  Conditions: none.
-/
import Derived.Test.YtjabbbcdgmlojaaGreatDoorQPPatchWeavesLikeReferencec
set_option linter.all false
set_option linter.deprecated false
set_option maxHeartbeats 12800000
namespace Go.Proofs.YtjabbbcdgmlojaaGreatDoor
open Go Go.RowKit
section
section
structure FileB (x:List Nat×List Nat):Prop where
 n8:∀b∈x.1,b<256
 t8:∀b∈x.2,b<256
 nl:x.1.length<=9223372036854775807
 tl:x.2.length<=9223372036854775807
def m0 (q:Pl):List Value:=[.int .i64 q.e,.int .i64 q.f,.int .i64 q.l]
def plO (o:Option Pl):Pl:=o.getD ⟨0,0,0⟩
def badB (b:Nat):Bool:=decide (b<32)||b==34||b==127
theorem gQ0 (s:List Nat):pU s=(decide (s≠ []) && !(s.any badB)):=by
 unfold pU;congr 1;rw[List.any_eq_not_all_not,Bool.not_not];congr 1;funext b;unfold badB;have e:decide (32<=b)= !decide (b<32):=by by_cases h:b<32<;>simp[h]<;>omega
 rw[e];by_cases h1:b=34<;>by_cases h2:b=127<;>by_cases h3:b<32<;>simp[h1,h2,h3,bne]
def aJ (x:List Nat×List Nat)(seen:List (List Nat)):Bool:=decide (x.1=[])||decide (x.1∈seen)||(decide (x.2≠ [])&&x.2.getLast? !=some 10)
theorem BD (x:List Nat×List Nat)(seen:List (List Nat)):(aJ x seen||x.1.any badB)=true↔¬(pU x.1=true/\x.1∉seen/\W3 x.2=true):=by
 rw[gQ0];unfold aJ W3;by_cases h1:x.1=[]<;>by_cases h2:x.1∈seen<;>by_cases h3:x.2=[]<;>by_cases h4:x.2.getLast? =some 10<;>simp[h1,h2,h3,h4]
structure CkI (w0:World) (q:Nat) (fs:List (List Nat×List Nat)) (res:Option Pl) (i:Nat) (w:World):Prop where
 e:Ext w0 w
 mp:∃m,MapAt V8 w q m/\∀s:List Nat,(∀x∈s,x<256)->XJ (Qe s) m=if s∈(fs.take i).map (·.1)then some (.bool true)else none
 rs:eM (fs.drop i) ((fs.take i).map (·.1)) i=res
 le:i<=fs.length
 qo:w0.heap.size<=q
theorem CkI.ext {w0 w w':World}{q:Nat}{fs:List (List Nat×List Nat)}{res:Option Pl}{i:Nat}(h:CkI w0 q fs res i w)(k:Ext w w'):CkI w0 q fs res i w':=⟨h.e.trans k,let ⟨m,h1,h2⟩:=h.mp;⟨m,h1.ext k,h2⟩,h.rs,h.le,h.qo⟩
theorem gQ1 (fs:List (List Nat×List Nat))(FA:Option Addr)(nf cf:Nat)(w:World)(h:SlS gX 2 w FA nf cf fs)(hb:∀x∈fs,FileB x)(hnf:nf<=1000000000000):
  Fn Tryz.prog 90 [.slice FA nf cf] w (λu w'=>u= .agg (m0 (plO (W4 fs))).toArray/\Ext w w'):=by
 have Xf:=h.2;refine Qx (c:={c90 with cuts:=[]}) Qa Tryz.func90 rfl rfl rfl ?_;refine new (λw1 Qd Q3 Qh=>?_);refine Qt (λc1=>?_) (λc1=>?_)
 ·refine QB Qh rfl (sc rfl) (λw2 ig _ Qv=>?_);refine Qs Qv rfl ?_;refine⟨?_,XY Qd Qh ig⟩;unfold W4;rw[Qf (by omega)]<;>rfl
 have Vh:W4 fs=eM fs [] 0:=by unfold W4;rw[if_neg (by omega)]
 refine vO Qa V8 rfl (λw2 Qg X0 XR=>?_);have QT:=Qd.trans Qg;refine loop Qa [15] (λi:Nat=>[.int .i64 i]) (λi w'=>CkI w1 w1.heap.size fs (W4 fs) i w') (λi _=>fs.length-i) 0 rfl ⟨Qg,⟨[],XR,λs _=>by simp[XJ]⟩,by rw[Vh];rfl,Xt _,QD _⟩ ?_;rintro i w3 hI;have QQ:Ext w w3:=Qd.trans hI.e;refine Qt (λc2=>?_) (λc2=>?_)
 ·have hi:i<nf:=by omega
  refine Zh Gu (h.ext QQ) rfl hi (λpp x hx hc=>?_);refine Kb (vs:=gX x) rfl hc ?_;refine new (λw4 Qq K5 Q6=>?_);refine QB Q6 rfl (sc rfl) (λw5 Jr _ QL=>?_);have JL:Ext w3 w5:=XY Qq Q6 Jr;have xT:=hI.ext JL;obtain⟨m,XV,rO⟩:=xT.mp;have ZP:=hb x (Q2 hx);have aT:=XC x.1;have gy:=XC x.2;have Je:=ZP.nl;refine Qp QL rfl ?_;by_cases p1:x.1=[]
  ·refine Zd (by rw[p1];rfl) ?_;refine Qp QL rfl ?_;have e0:aJ x ((fs.take i).map (·.1))=true:=by simp[aJ,p1]
   refine loop Qa [47,6] (λs:Nat×Bool=>[.int .i64 s.1,.bool s.2]) (λs w'=>Ext w5 w'/\s.1<=x.1.length/\s.2=(aJ x ((fs.take i).map (·.1))||(x.1.take s.1).any badB)) (λs _=>x.1.length-s.1) (0,true) rfl ⟨Ext.refl _,Xt _,by rw[e0];simp⟩ ?_;rintro⟨k,b⟩ w6 ⟨ZI,hk,Vq⟩;simp only at hk Vq;have JU:=xT.ext ZI;have Xj:=QL.ext ZI;refine Qt (λc3=>?_) (λc3=>?_)
   ·have ZL:k<x.1.length:=by rw[aT] at c3;simp only at c3;omega
    obtain⟨y,hy⟩:∃y,x.1[k]? =some y:=⟨_,Xb ZL⟩
    have dq:(x.1.take (k+1)).any badB=((x.1.take k).any badB||badB y):=by
     rw[KC,hy];simp
    have fin:∀b',b'=(b||badB y)->b'=(aJ x ((fs.take i).map (·.1))||(x.1.take (k+1)).any badB):=λb' e=>by rw[e,Vq,dq,EU]
    cases b with
    | true=>
     refine Xe rfl ?_;refine Qj ((k+1:Nat):Int) (by show((k:Nat):Int)+1=_;omega) (by omega) ?_;exact⟨(k+1,true),rfl,⟨ZI,ZL,fin true rfl⟩,by show x.1.length-(k+1)<x.1.length-k;omega⟩
    | false=>
     have idx:∀K:Int->Prop,K (y:Int)->eE (Qe x.1) ((k:Nat):Int) K:=λK hK=>by
      refine az (by rw[aT];exact ZL) (λz hz _=>?_);rw[Wa ZP.n8,hy] at hz;cases hz;exact hK
     refine Xv rfl ?_;refine Qp Xj rfl ?_;refine idx _ ?_;refine Qt (λd1=>?_) (λd1=>?_)
     ·refine Qj ((k+1:Nat):Int) (by show((k:Nat):Int)+1=_;omega) (by omega) ?_;exact⟨(k+1,true),rfl,⟨ZI,ZL,fin true (by
                                have:y<32:=by omega
                                simp[badB,this])⟩,by show x.1.length-(k+1)<x.1.length-k;omega⟩
     refine Qp Xj rfl ?_;refine idx _ ?_;refine XU (λd2=>?_) (λd2=>?_)
     ·refine Qj ((k+1:Nat):Int) (by show((k:Nat):Int)+1=_;omega) (by omega) ?_;exact⟨(k+1,true),rfl,⟨ZI,ZL,fin true (by
                                have:y=34:=by omega
                                simp[badB,this])⟩,by show x.1.length-(k+1)<x.1.length-k;omega⟩
     refine Qp Xj rfl ?_;refine idx _ ?_;refine Qj ((k+1:Nat):Int) (by show((k:Nat):Int)+1=_;omega) (by omega) ?_;refine⟨(k+1,((y:Int)==127)),rfl,⟨ZI,ZL,fin _ ?_⟩,by show x.1.length-(k+1)<x.1.length-k;omega⟩;have n1:¬y<32:=by omega
     have n2:¬y=34:=by omega
     by_cases n3:y=127
     ·subst n3;rfl
     ·have:((y:Int)==127)=false:=by simp;omega
      rw[this];simp[badB,n1,n2,n3]
   ·have ZL:k=x.1.length:=by rw[aT] at c3;simp only at c3;omega
    subst ZL;rw[sk] at Vq;have hall:=BD x ((fs.take i).map (·.1));have fO:fs.drop i=x::fs.drop (i+1):=by
     rw[bG (by omega)];congr 1;exact Option.some.inj ((Xb (by omega)).symm.trans hx)
    have Q1:=JU.rs;rw[fO,eM] at Q1;have Wo:=((Qh.ext hI.e).ext JL).ext ZI;refine Kq (λd1=>?_) (λd1=>?_)
    ·have d1:b=true:=d1;rw[Qf (hall.1 (by rw[<-Vq,d1]))] at Q1;refine QB Wo rfl (sc rfl) (λw7 ZC _ Q4=>?_);refine Qs Q4 rfl ?_;have Xi:Mod (·=w.heap.size) w6 w7:=oQh ZC rfl;exact⟨by rw[<-Q1];rfl,Xi.ext (Qd.trans JU.e) (λi hi=>by omega)⟩
    have d1:b=false:=d1;have Zm:=λhh=>(hall.2 hh).symm.trans (Vq.symm.trans d1)
    rw[if_neg (λhh=>by have:=Zm hh;cases this)] at Q1;refine Qp Xj rfl ?_;refine Qt (λd2=>?_) (λd2=>?_)
    ·rw[Qf (by omega)] at Q1;refine QB Wo rfl (sc rfl) (λw7 ZC _ Q4=>?_);refine Qs Q4 rfl ?_;have Xi:Mod (·=w.heap.size) w6 w7:=oQh ZC rfl;exact⟨by rw[<-Q1];rfl,Xi.ext (Qd.trans JU.e) (λi hi=>by omega)⟩
    rw[if_neg (by omega)] at Q1;refine Qp Xj rfl ?_;have VY:=XV.ext ZI;refine kr (kv:=V8) (a:=Qe x.1) Qa rfl rfl rfl rfl rfl oQi rfl rfl rfl VY (λw7 ZC WF Kg=>?_);have Xi:Mod (·=w1.heap.size) w6 w7:=oQh ZC rfl;refine Qj ((i+1:Nat):Int) (by show((i:Nat):Int)+1=_;omega) (by omega) ?_;have Wx:(fs.take (i+1)).map (·.1)=(fs.take i).map (·.1)++ [x.1]:=by rw[KC,hx];simp
    refine⟨i+1,rfl,⟨Xi.ext JU.e (λi hi=>by omega),⟨_,Kg,λs hs=>?_⟩,by rw[Wx];exact Q1,by omega,QD _⟩,by show fs.length-(i+1)<fs.length-i;omega⟩;rw[aY,Wx];by_cases dt:s=x.1
    ·subst dt;simp
    ·rw[if_neg (λe=>dt (Z6 hs ZP.n8 e)),rO s hs];simp[dt]
  refine Xx (λe=>p1 (Z6 ZP.n8 (by simp) e)) ?_;refine Qp QL rfl ?_;refine FK (kv:=V8) (a:=Qe x.1) (v:=.bool (decide (x.1∈(fs.take i).map (·.1)))) Qa rfl rfl rfl rfl rfl oQi rfl rfl XV (by
   rw[rO x.1 ZP.n8];by_cases hm:x.1∈(fs.take i).map (·.1)
   ·rw[Qf hm,XT hm]<;>rfl
   ·rw[if_neg hm,XS hm];rfl) ?_
  by_cases p2:x.1∈(fs.take i).map (·.1)
  ·refine Zd p2 ?_;refine Qp QL rfl ?_;have e0:aJ x ((fs.take i).map (·.1))=true:=by unfold aJ;rw[XT p2];simp
   refine loop Qa [47,6] (λs:Nat×Bool=>[.int .i64 s.1,.bool s.2]) (λs w'=>Ext w5 w'/\s.1<=x.1.length/\s.2=(aJ x ((fs.take i).map (·.1))||(x.1.take s.1).any badB)) (λs _=>x.1.length-s.1) (0,true) rfl ⟨Ext.refl _,Xt _,by rw[e0];simp⟩ ?_;rintro⟨k,b⟩ w6 ⟨ZI,hk,Vq⟩;simp only at hk Vq;have JU:=xT.ext ZI;have Xj:=QL.ext ZI;refine Qt (λc3=>?_) (λc3=>?_)
   ·have ZL:k<x.1.length:=by rw[aT] at c3;simp only at c3;omega
    obtain⟨y,hy⟩:∃y,x.1[k]? =some y:=⟨_,Xb ZL⟩
    have dq:(x.1.take (k+1)).any badB=((x.1.take k).any badB||badB y):=by
     rw[KC,hy];simp
    have fin:∀b',b'=(b||badB y)->b'=(aJ x ((fs.take i).map (·.1))||(x.1.take (k+1)).any badB):=λb' e=>by rw[e,Vq,dq,EU]
    cases b with
    | true=>
     refine Xe rfl ?_;refine Qj ((k+1:Nat):Int) (by show((k:Nat):Int)+1=_;omega) (by omega) ?_;exact⟨(k+1,true),rfl,⟨ZI,ZL,fin true rfl⟩,by show x.1.length-(k+1)<x.1.length-k;omega⟩
    | false=>
     have idx:∀K:Int->Prop,K (y:Int)->eE (Qe x.1) ((k:Nat):Int) K:=λK hK=>by
      refine az (by rw[aT];exact ZL) (λz hz _=>?_);rw[Wa ZP.n8,hy] at hz;cases hz;exact hK
     refine Xv rfl ?_;refine Qp Xj rfl ?_;refine idx _ ?_;refine Qt (λd1=>?_) (λd1=>?_)
     ·refine Qj ((k+1:Nat):Int) (by show((k:Nat):Int)+1=_;omega) (by omega) ?_;exact⟨(k+1,true),rfl,⟨ZI,ZL,fin true (by
                                have:y<32:=by omega
                                simp[badB,this])⟩,by show x.1.length-(k+1)<x.1.length-k;omega⟩
     refine Qp Xj rfl ?_;refine idx _ ?_;refine XU (λd2=>?_) (λd2=>?_)
     ·refine Qj ((k+1:Nat):Int) (by show((k:Nat):Int)+1=_;omega) (by omega) ?_;exact⟨(k+1,true),rfl,⟨ZI,ZL,fin true (by
                                have:y=34:=by omega
                                simp[badB,this])⟩,by show x.1.length-(k+1)<x.1.length-k;omega⟩
     refine Qp Xj rfl ?_;refine idx _ ?_;refine Qj ((k+1:Nat):Int) (by show((k:Nat):Int)+1=_;omega) (by omega) ?_;refine⟨(k+1,((y:Int)==127)),rfl,⟨ZI,ZL,fin _ ?_⟩,by show x.1.length-(k+1)<x.1.length-k;omega⟩;have n1:¬y<32:=by omega
     have n2:¬y=34:=by omega
     by_cases n3:y=127
     ·subst n3;rfl
     ·have:((y:Int)==127)=false:=by simp;omega
      rw[this];simp[badB,n1,n2,n3]
   ·have ZL:k=x.1.length:=by rw[aT] at c3;simp only at c3;omega
    subst ZL;rw[sk] at Vq;have hall:=BD x ((fs.take i).map (·.1));have fO:fs.drop i=x::fs.drop (i+1):=by
     rw[bG (by omega)];congr 1;exact Option.some.inj ((Xb (by omega)).symm.trans hx)
    have Q1:=JU.rs;rw[fO,eM] at Q1;have Wo:=((Qh.ext hI.e).ext JL).ext ZI;refine Kq (λd1=>?_) (λd1=>?_)
    ·have d1:b=true:=d1;rw[Qf (hall.1 (by rw[<-Vq,d1]))] at Q1;refine QB Wo rfl (sc rfl) (λw7 ZC _ Q4=>?_);refine Qs Q4 rfl ?_;have Xi:Mod (·=w.heap.size) w6 w7:=oQh ZC rfl;exact⟨by rw[<-Q1];rfl,Xi.ext (Qd.trans JU.e) (λi hi=>by omega)⟩
    have d1:b=false:=d1;have Zm:=λhh=>(hall.2 hh).symm.trans (Vq.symm.trans d1)
    rw[if_neg (λhh=>by have:=Zm hh;cases this)] at Q1;refine Qp Xj rfl ?_;refine Qt (λd2=>?_) (λd2=>?_)
    ·rw[Qf (by omega)] at Q1;refine QB Wo rfl (sc rfl) (λw7 ZC _ Q4=>?_);refine Qs Q4 rfl ?_;have Xi:Mod (·=w.heap.size) w6 w7:=oQh ZC rfl;exact⟨by rw[<-Q1];rfl,Xi.ext (Qd.trans JU.e) (λi hi=>by omega)⟩
    rw[if_neg (by omega)] at Q1;refine Qp Xj rfl ?_;have VY:=XV.ext ZI;refine kr (kv:=V8) (a:=Qe x.1) Qa rfl rfl rfl rfl rfl oQi rfl rfl rfl VY (λw7 ZC WF Kg=>?_);have Xi:Mod (·=w1.heap.size) w6 w7:=oQh ZC rfl;refine Qj ((i+1:Nat):Int) (by show((i:Nat):Int)+1=_;omega) (by omega) ?_;have Wx:(fs.take (i+1)).map (·.1)=(fs.take i).map (·.1)++ [x.1]:=by rw[KC,hx];simp
    refine⟨i+1,rfl,⟨Xi.ext JU.e (λi hi=>by omega),⟨_,Kg,λs hs=>?_⟩,by rw[Wx];exact Q1,by omega,QD _⟩,by show fs.length-(i+1)<fs.length-i;omega⟩;rw[aY,Wx];by_cases dt:s=x.1
    ·subst dt;simp
    ·rw[if_neg (λe=>dt (Z6 hs ZP.n8 e)),rO s hs];simp[dt]
  refine Xx p2 ?_;refine Qp QL rfl ?_;by_cases p3:x.2=[]
  ·refine Xv (by rw[p3];rfl) ?_;refine Qp QL rfl ?_;have e0:aJ x ((fs.take i).map (·.1))=false:=by unfold aJ;rw[XS p1,XS p2,p3]<;>rfl
   refine loop Qa [47,6] (λs:Nat×Bool=>[.int .i64 s.1,.bool s.2]) (λs w'=>Ext w5 w'/\s.1<=x.1.length/\s.2=(aJ x ((fs.take i).map (·.1))||(x.1.take s.1).any badB)) (λs _=>x.1.length-s.1) (0,false) rfl ⟨Ext.refl _,Xt _,by rw[e0];simp⟩ ?_;rintro⟨k,b⟩ w6 ⟨ZI,hk,Vq⟩;simp only at hk Vq;have JU:=xT.ext ZI;have Xj:=QL.ext ZI;refine Qt (λc3=>?_) (λc3=>?_)
   ·have ZL:k<x.1.length:=by rw[aT] at c3;simp only at c3;omega
    obtain⟨y,hy⟩:∃y,x.1[k]? =some y:=⟨_,Xb ZL⟩
    have dq:(x.1.take (k+1)).any badB=((x.1.take k).any badB||badB y):=by
     rw[KC,hy];simp
    have fin:∀b',b'=(b||badB y)->b'=(aJ x ((fs.take i).map (·.1))||(x.1.take (k+1)).any badB):=λb' e=>by rw[e,Vq,dq,EU]
    cases b with
    | true=>
     refine Xe rfl ?_;refine Qj ((k+1:Nat):Int) (by show((k:Nat):Int)+1=_;omega) (by omega) ?_;exact⟨(k+1,true),rfl,⟨ZI,ZL,fin true rfl⟩,by show x.1.length-(k+1)<x.1.length-k;omega⟩
    | false=>
     have idx:∀K:Int->Prop,K (y:Int)->eE (Qe x.1) ((k:Nat):Int) K:=λK hK=>by
      refine az (by rw[aT];exact ZL) (λz hz _=>?_);rw[Wa ZP.n8,hy] at hz;cases hz;exact hK
     refine Xv rfl ?_;refine Qp Xj rfl ?_;refine idx _ ?_;refine Qt (λd1=>?_) (λd1=>?_)
     ·refine Qj ((k+1:Nat):Int) (by show((k:Nat):Int)+1=_;omega) (by omega) ?_;exact⟨(k+1,true),rfl,⟨ZI,ZL,fin true (by
                                have:y<32:=by omega
                                simp[badB,this])⟩,by show x.1.length-(k+1)<x.1.length-k;omega⟩
     refine Qp Xj rfl ?_;refine idx _ ?_;refine XU (λd2=>?_) (λd2=>?_)
     ·refine Qj ((k+1:Nat):Int) (by show((k:Nat):Int)+1=_;omega) (by omega) ?_;exact⟨(k+1,true),rfl,⟨ZI,ZL,fin true (by
                                have:y=34:=by omega
                                simp[badB,this])⟩,by show x.1.length-(k+1)<x.1.length-k;omega⟩
     refine Qp Xj rfl ?_;refine idx _ ?_;refine Qj ((k+1:Nat):Int) (by show((k:Nat):Int)+1=_;omega) (by omega) ?_;refine⟨(k+1,((y:Int)==127)),rfl,⟨ZI,ZL,fin _ ?_⟩,by show x.1.length-(k+1)<x.1.length-k;omega⟩;have n1:¬y<32:=by omega
     have n2:¬y=34:=by omega
     by_cases n3:y=127
     ·subst n3;rfl
     ·have:((y:Int)==127)=false:=by simp;omega
      rw[this];simp[badB,n1,n2,n3]
   ·have ZL:k=x.1.length:=by rw[aT] at c3;simp only at c3;omega
    subst ZL;rw[sk] at Vq;have hall:=BD x ((fs.take i).map (·.1));have fO:fs.drop i=x::fs.drop (i+1):=by
     rw[bG (by omega)];congr 1;exact Option.some.inj ((Xb (by omega)).symm.trans hx)
    have Q1:=JU.rs;rw[fO,eM] at Q1;have Wo:=((Qh.ext hI.e).ext JL).ext ZI;refine Kq (λd1=>?_) (λd1=>?_)
    ·have d1:b=true:=d1;rw[Qf (hall.1 (by rw[<-Vq,d1]))] at Q1;refine QB Wo rfl (sc rfl) (λw7 ZC _ Q4=>?_);refine Qs Q4 rfl ?_;have Xi:Mod (·=w.heap.size) w6 w7:=oQh ZC rfl;exact⟨by rw[<-Q1];rfl,Xi.ext (Qd.trans JU.e) (λi hi=>by omega)⟩
    have d1:b=false:=d1;have Zm:=λhh=>(hall.2 hh).symm.trans (Vq.symm.trans d1)
    rw[if_neg (λhh=>by have:=Zm hh;cases this)] at Q1;refine Qp Xj rfl ?_;refine Qt (λd2=>?_) (λd2=>?_)
    ·rw[Qf (by omega)] at Q1;refine QB Wo rfl (sc rfl) (λw7 ZC _ Q4=>?_);refine Qs Q4 rfl ?_;have Xi:Mod (·=w.heap.size) w6 w7:=oQh ZC rfl;exact⟨by rw[<-Q1];rfl,Xi.ext (Qd.trans JU.e) (λi hi=>by omega)⟩
    rw[if_neg (by omega)] at Q1;refine Qp Xj rfl ?_;have VY:=XV.ext ZI;refine kr (kv:=V8) (a:=Qe x.1) Qa rfl rfl rfl rfl rfl oQi rfl rfl rfl VY (λw7 ZC WF Kg=>?_);have Xi:Mod (·=w1.heap.size) w6 w7:=oQh ZC rfl;refine Qj ((i+1:Nat):Int) (by show((i:Nat):Int)+1=_;omega) (by omega) ?_;have Wx:(fs.take (i+1)).map (·.1)=(fs.take i).map (·.1)++ [x.1]:=by rw[KC,hx];simp
    refine⟨i+1,rfl,⟨Xi.ext JU.e (λi hi=>by omega),⟨_,Kg,λs hs=>?_⟩,by rw[Wx];exact Q1,by omega,QD _⟩,by show fs.length-(i+1)<fs.length-i;omega⟩;rw[aY,Wx];by_cases dt:s=x.1
    ·subst dt;simp
    ·rw[if_neg (λe=>dt (Z6 hs ZP.n8 e)),rO s hs];simp[dt]
  ·have n3:¬Qe x.2=(⟨#[]⟩:ByteArray):=λe=>p3 (Z6 ZP.t8 (by simp) e)
   refine Xe (by simp[n3]) ?_;refine Qp QL rfl ?_;refine Qp QL rfl ?_;have V5:=ZP.tl;have Y1:0<x.2.length:=zV.2 p3;refine Qj ((x.2.length-1:Nat):Int) (by rw[gy];omega) (by omega) ?_;refine az (j:=x.2.length-1) (by omega) (λz hz Ve=>?_);rw[Wa ZP.t8] at hz;have iL:x.2.getLast? =some z:=by rw[pm];exact hz
   refine Qp QL rfl ?_;have e0:aJ x ((fs.take i).map (·.1))=((z:Int) !=10):=by
    unfold aJ;rw[XS p1,XS p2,XT p3,iL];by_cases XO:z=10
    ·subst XO;decide
    ·have e1:((z:Int) !=10)=true:=by simp;omega
     rw[e1];simp[XO]
   refine loop Qa [47,6] (λs:Nat×Bool=>[.int .i64 s.1,.bool s.2]) (λs w'=>Ext w5 w'/\s.1<=x.1.length/\s.2=(aJ x ((fs.take i).map (·.1))||(x.1.take s.1).any badB)) (λs _=>x.1.length-s.1) (0,((z:Int) !=10)) rfl ⟨Ext.refl _,Xt _,by rw[e0];simp⟩ ?_;rintro⟨k,b⟩ w6 ⟨ZI,hk,Vq⟩;simp only at hk Vq;have JU:=xT.ext ZI;have Xj:=QL.ext ZI;refine Qt (λc3=>?_) (λc3=>?_)
   ·have ZL:k<x.1.length:=by rw[aT] at c3;simp only at c3;omega
    obtain⟨y,hy⟩:∃y,x.1[k]? =some y:=⟨_,Xb ZL⟩
    have dq:(x.1.take (k+1)).any badB=((x.1.take k).any badB||badB y):=by
     rw[KC,hy];simp
    have fin:∀b',b'=(b||badB y)->b'=(aJ x ((fs.take i).map (·.1))||(x.1.take (k+1)).any badB):=λb' e=>by rw[e,Vq,dq,EU]
    cases b with
    | true=>
     refine Xe rfl ?_;refine Qj ((k+1:Nat):Int) (by show((k:Nat):Int)+1=_;omega) (by omega) ?_;exact⟨(k+1,true),rfl,⟨ZI,ZL,fin true rfl⟩,by show x.1.length-(k+1)<x.1.length-k;omega⟩
    | false=>
     have idx:∀K:Int->Prop,K (y:Int)->eE (Qe x.1) ((k:Nat):Int) K:=λK hK=>by
      refine az (by rw[aT];exact ZL) (λz hz _=>?_);rw[Wa ZP.n8,hy] at hz;cases hz;exact hK
     refine Xv rfl ?_;refine Qp Xj rfl ?_;refine idx _ ?_;refine Qt (λd1=>?_) (λd1=>?_)
     ·refine Qj ((k+1:Nat):Int) (by show((k:Nat):Int)+1=_;omega) (by omega) ?_;exact⟨(k+1,true),rfl,⟨ZI,ZL,fin true (by
                                have:y<32:=by omega
                                simp[badB,this])⟩,by show x.1.length-(k+1)<x.1.length-k;omega⟩
     refine Qp Xj rfl ?_;refine idx _ ?_;refine XU (λd2=>?_) (λd2=>?_)
     ·refine Qj ((k+1:Nat):Int) (by show((k:Nat):Int)+1=_;omega) (by omega) ?_;exact⟨(k+1,true),rfl,⟨ZI,ZL,fin true (by
                                have:y=34:=by omega
                                simp[badB,this])⟩,by show x.1.length-(k+1)<x.1.length-k;omega⟩
     refine Qp Xj rfl ?_;refine idx _ ?_;refine Qj ((k+1:Nat):Int) (by show((k:Nat):Int)+1=_;omega) (by omega) ?_;refine⟨(k+1,((y:Int)==127)),rfl,⟨ZI,ZL,fin _ ?_⟩,by show x.1.length-(k+1)<x.1.length-k;omega⟩;have n1:¬y<32:=by omega
     have n2:¬y=34:=by omega
     by_cases n3:y=127
     ·subst n3;rfl
     ·have:((y:Int)==127)=false:=by simp;omega
      rw[this];simp[badB,n1,n2,n3]
   ·have ZL:k=x.1.length:=by rw[aT] at c3;simp only at c3;omega
    subst ZL;rw[sk] at Vq;have hall:=BD x ((fs.take i).map (·.1));have fO:fs.drop i=x::fs.drop (i+1):=by
     rw[bG (by omega)];congr 1;exact Option.some.inj ((Xb (by omega)).symm.trans hx)
    have Q1:=JU.rs;rw[fO,eM] at Q1;have Wo:=((Qh.ext hI.e).ext JL).ext ZI;refine Kq (λd1=>?_) (λd1=>?_)
    ·have d1:b=true:=d1;rw[Qf (hall.1 (by rw[<-Vq,d1]))] at Q1;refine QB Wo rfl (sc rfl) (λw7 ZC _ Q4=>?_);refine Qs Q4 rfl ?_;have Xi:Mod (·=w.heap.size) w6 w7:=oQh ZC rfl;exact⟨by rw[<-Q1];rfl,Xi.ext (Qd.trans JU.e) (λi hi=>by omega)⟩
    have d1:b=false:=d1;have Zm:=λhh=>(hall.2 hh).symm.trans (Vq.symm.trans d1)
    rw[if_neg (λhh=>by have:=Zm hh;cases this)] at Q1;refine Qp Xj rfl ?_;refine Qt (λd2=>?_) (λd2=>?_)
    ·rw[Qf (by omega)] at Q1;refine QB Wo rfl (sc rfl) (λw7 ZC _ Q4=>?_);refine Qs Q4 rfl ?_;have Xi:Mod (·=w.heap.size) w6 w7:=oQh ZC rfl;exact⟨by rw[<-Q1];rfl,Xi.ext (Qd.trans JU.e) (λi hi=>by omega)⟩
    rw[if_neg (by omega)] at Q1;refine Qp Xj rfl ?_;have VY:=XV.ext ZI;refine kr (kv:=V8) (a:=Qe x.1) Qa rfl rfl rfl rfl rfl oQi rfl rfl rfl VY (λw7 ZC WF Kg=>?_);have Xi:Mod (·=w1.heap.size) w6 w7:=oQh ZC rfl;refine Qj ((i+1:Nat):Int) (by show((i:Nat):Int)+1=_;omega) (by omega) ?_;have Wx:(fs.take (i+1)).map (·.1)=(fs.take i).map (·.1)++ [x.1]:=by rw[KC,hx];simp
    refine⟨i+1,rfl,⟨Xi.ext JU.e (λi hi=>by omega),⟨_,Kg,λs hs=>?_⟩,by rw[Wx];exact Q1,by omega,QD _⟩,by show fs.length-(i+1)<fs.length-i;omega⟩;rw[aY,Wx];by_cases dt:s=x.1
    ·subst dt;simp
    ·rw[if_neg (λe=>dt (Z6 hs ZP.n8 e)),rO s hs];simp[dt]
 ·have hi:i=fs.length:=by have:=hI.le;omega
  have Q1:=hI.rs;rw[hi,List.drop_length,eM] at Q1;refine QB (Qh.ext hI.e) rfl (sc rfl) (λw4 bn _ Q6=>?_);refine Qs Q6 rfl ?_;have KR:Mod (·=w.heap.size) w3 w4:=oQh bn rfl;exact⟨by rw[<-Q1];rfl,KR.ext QQ (λi hi=>by omega)⟩
end
section
theorem tL {P:Program}{ops:Array Oper}{rest:List Nat}{i:Nat}{o:Oper}{Q:Exit->Act->List Frame->World->Prop}{a:Act}{cs cs':List Frame}{w:World}{v:Value}{d:Nat}(hi:ops[i]? =some o)(h1:o.op= .call ⟨.builtin .recover, #[], #[]⟩)(hd:o.dst=some d)(hg:o.guard=none)
  (Mx:recoverD cs=some (v,cs')∨(recoverD cs=none/\v= .nilIface/\cs'=cs)) (h:wpOpsS P ops Q rest (a.put (some d) v) cs' w):wpOpsS P ops Q (i::rest) a cs w:=by
 have e1:(execOp a.eval o).run P w= .ok .recover w:=by
  simp only[execOp,h1,resolve,invoke,builtin];simp
 unfold wpOpsS;rw[hi];simp only;rw[Qf (by simp[Region.wanted,hg]),e1,hd];rcases Mx with hr | ⟨hr,rfl,rfl⟩
 ·simp only[hr];exact h
 ·simp only[hr];exact h
theorem JE {c:Cx}(hg:c.g.Ok){P:Program}(hP:c.g.P=P){ops:Array Oper}{rest:List Nat}{i:Nat}{o:Oper}{Q:Exit->Act->List Frame->World->Prop}{a:Act}{cs:List Frame}{w:World}{S:Env}{K:Env->World->Prop}(hi:ops[i]? =some o)(KG:o.guard=none)(hf:Fits c.N S a)
  (h:eF c o S w K (λ_ _ _=>False)) (hk:∀S' a' w',Fits c.N S' a'->K S' w'->wpOpsS P ops Q rest a' cs w'):wpOpsS P ops Q (i::rest) a cs w:=by
 subst hP;have h1:=sw hg h hf;unfold wpOpsS;rw[hi];simp only;rw[Qf (by simp[Region.wanted,KG])];have h2:=Oper.wp_mono (K':=λa' w'=>wpOpsS c.g.P ops Q rest a' cs w') (λa' w' ⟨S',Q8,hK⟩=>hk _ _ _ Q8 hK) h1;unfold Oper.wp at h2;generalize (execOp a.eval o).run c.g.P w=r at*;cases r with
 | ok n w'=>
  cases n<;>simp only[Oper.upon] at h2 ⊢ <;> first | exact h2 | exact h2.elim | skip
  exact h2.mono λe KI he=>by
   cases e with
   | returned v=>exact he
   | panicked ch=>obtain⟨_,_,he⟩:=he;exact he.elim
   | outgrown=>obtain⟨_,_,_,_,he⟩:=he;exact he.elim
 | halt x w'=>cases x<;>simp only[Oper.upon] at h2 ⊢ <;> first | exact h2 | (obtain⟨_,_,h2⟩:=h2;exact h2.elim) | (obtain⟨_,_,_,_,h2⟩:=h2;exact h2.elim)
theorem gQ2 {c:Cx}{o:Oper}{S:Env}{w:World}{K:Env->World->Prop}{Q:Zj}{x:Operand}{tx t:Nat}{fs:Array Field}{v:Value}{r:TyRow}(hg:c.g.Ok)(ho:o.op= .typeAssert x tx t true)(hr:QX c.g.tys t=some r)(hd:r.d= .struct fs)(hx:S.ev x=some (.iface t v))
  (kk:Xn c S o.dst (.v (.tuple #[v,.bool true])) (λS=>K S w)):Zc c o S w K Q:=by
 have Xc:=(hg.row hr).1;rw[hd] at Xc;refine JJ (w':=w) (v:=.tuple #[v,.bool true]) (λa hf=>?_) kk;have e1:=hf.ev hx;simp only[execOp,ho,e1];simp[Instr.typeAssert,ZX Xc]
theorem gQ3 {c:Cx}{o:Oper}{S:Env}{w:World}{K:Env->World->Prop}{Q:Zj}{x:Operand}{tx t:Nat}{fs:Array Field}{r:TyRow}(hg:c.g.Ok)(ho:o.op= .typeAssert x tx t true)(hr:QX c.g.tys t=some r)(hd:r.d= .struct fs)(hx:S.ev x=some .nilIface)
  (kk:Xn c S o.dst (.v (.tuple #[r.z,.bool false])) (λS=>K S w)):Zc c o S w K Q:=by
 obtain⟨Xc,i,hi,_,_,hz⟩:=hg.row hr;rw[hd] at Xc;refine JJ (w':=w) (v:=.tuple #[r.z,.bool false]) (λa hf=>?_) kk;have e1:=hf.ev hx;simp only[execOp,ho,e1];simp[Instr.typeAssert,ZX Xc,zeroValue,typeInfo,hi,hz]
def gQ4 (f e:Nat)(q:Pl)(w w':World):Prop:=Blk w' f 41 [.string (Qe []),.slice none 0 0]/\Blk w' e 93 (m0 q)/\Mod (λi=>i=f∨i=e) w w'
theorem gQ5 (f e:Nat)(q:Pl)(w:World)(cs1 cs2:List Value)(XL:cs1.length=2)(Ke:cs2.length=3)(QK:f≠e)(hf:Blk w f 41 cs1)(he:Blk w e 93 cs2):
  CallsD Tryz.prog 91 #[.pointer (some ⟨f,0,none⟩),.pointer (some ⟨e,0,none⟩)] (.panicking (gh q.e q.f q.l)) w
   (λen u' w'=>∃v,en= .returned v/\settle u'= .returning/\gQ4 f e q w w'):=by
 refine callsD_of_wpS Tryz.func91 rfl λc₀ cs hu=>?_
 have J9:=fZ (N:=Tryz.f91.ntmps) [.pointer (some ⟨f,0,none⟩),.pointer (some ⟨e,0,none⟩)] (gK rfl) [(0,.v (.pointer (some ⟨f,0,none⟩))),(1,.v (.pointer (some ⟨e,0,none⟩)))] (by
  intro k x hk
  match k,hk with
  | 0,hk=>cases hk;rfl
  | 1,hk=>cases hk;rfl
  | k+2,hk=>exact nomatch (show(none:Option Ent)=some x from hk))
 have J4:=J9.put (d:=5) (by decide) (.v (.iface 160 (.agg #[.int .i64 q.e,.int .i64 q.f,.int .i64 q.l])));refine wpS_seq (wpS_region ?_);show wpOpsS _ _ _ [0,1,2,3,4,5,6,7] _ _ _;refine tL (o:=_) (cs':={c₀ with mode:=.panicking [{v:=.iface 160 (.agg #[.int .i64 q.e,.int .i64 q.f,.int .i64 q.l]),recovered:=true}]}::cs) (v:=.iface 160 (.agg #[.int .i64 q.e,.int .i64 q.f,.int .i64 q.l])) (d:=5) rfl rfl rfl rfl (.inl (by simp[recoverD,hu,gh])) ?_;generalize bE:Act.put _ (some 5) _=act;have iv:Fits aB.N [(5,.v (.iface 160 (.agg #[.int .i64 q.e,.int .i64 q.f,.int .i64 q.l]))),(0,.v (.pointer (some ⟨f,0,none⟩))),(1,.v (.pointer (some ⟨e,0,none⟩)))] act:=by rw[<-bE];exact J4
 clear bE J4 J9;generalize Zv: #[_,_,_,_,_,_,_,_]=xU;have h1:=(QO (λ(x:Array Oper)=>x[1]?) Zv).symm;have h2:=(QO (λ(x:Array Oper)=>x[2]?) Zv).symm;have h3:=(QO (λ(x:Array Oper)=>x[3]?) Zv).symm;have h4:=(QO (λ(x:Array Oper)=>x[4]?) Zv).symm;have h5:=(QO (λ(x:Array Oper)=>x[5]?) Zv).symm;have h6:=(QO (λ(x:Array Oper)=>x[6]?) Zv).symm;have h7:=(QO (λ(x:Array Oper)=>x[7]?) Zv).symm;clear Zv;refine JE (c:=aB) Qa rfl h1 rfl iv (K:=λS' w'=>S'=[(6,Ent.v (.tuple #[.agg #[.int .i64 q.e,.int .i64 q.f,.int .i64 q.l],.bool true])),(5,.v (.iface 160 (.agg #[.int .i64 q.e,.int .i64 q.f,.int .i64 q.l]))),(0,.v (.pointer (some ⟨f,0,none⟩))),(1,.v (.pointer (some ⟨e,0,none⟩)))]/\w=w') (gQ2 Qa rfl rfl rfl rfl ⟨rfl,rfl⟩) ?_;rintro _ a1 _ ZN ⟨rfl,rfl⟩;refine JE (c:=aB) Qa rfl h2 rfl ZN (K:=λS' w'=>S'=_/\w=w') ⟨rfl,rfl⟩ ?_;rintro _ a2 _ ZT ⟨rfl,rfl⟩;refine JE (c:=aB) Qa rfl h3 rfl ZT (K:=λS' w'=>S'=_/\w=w') ⟨rfl,rfl⟩ ?_;rintro _ a3 _ iw ⟨rfl,rfl⟩;refine JE (c:=aB) Qa rfl h4 rfl iw (K:=λS' w'=>S'=_/\w=w') ⟨rfl,rfl⟩ ?_;rintro _ a4 _ iy ⟨rfl,rfl⟩;refine JE (c:=aB) Qa rfl h5 rfl iy (K:=λS' w'=>S'=(2,.v (.pointer (some ⟨w.heap.size,0,none⟩)))::_/\Ext w w'/\w'.heap.size=w.heap.size+1/\∃ps:List Value,Blk w' w.heap.size 160 ps/\ps.length=3) (new (λw1 Qd Q3 Qh=>⟨rfl,Qd,Q3,_,Qh,rfl⟩)) ?_;rintro _ a5 w5 J4 ⟨rfl,Qz,Kw,ps,QL,WN⟩;refine JE (c:=aB) Qa rfl h6 rfl J4 (K:=λS' w'=>S'=_/\Ext w w'/\w.heap.size+1<=w'.heap.size/\Blk w' w.heap.size 160 (m0 q)) (QB QL (by rw[WN];rfl) (sc rfl) (λw6 Wg fa Xj=>⟨rfl,XY Qz QL Wg,by omega,Xj⟩)) ?_;rintro _ a6 w6 bU ⟨rfl,Xh,fa,Xj⟩;refine JE (c:=aB) Qa rfl h7 rfl bU (K:=λS' w'=>S'=_/\w6=w') ⟨rfl,rfl⟩ ?_;rintro _ a7 _ IP ⟨rfl,rfl⟩;unfold wpOpsS;refine mL (c:=aB) Qa rfl IP ?_;refine Xe rfl ?_;have nf:f≠w.heap.size:=λe=>by have:=hf.lt;omega
 have ne:e≠w.heap.size:=λe=>by have:=he.lt;omega
 have kQ5:=hf.ext Xh;have kQ6:=he.ext Xh;refine Xy Qa (λw'=>Mod (λi=>i=f∨i=e) w6 w') 5 [(true,0),(true,1),(true,2),(false,3),(false,4)] (by kernel_rfl) (Mod.of_ext _ (Ext.drew w6)) ?_;refine Xr (vs:=m0 q) rfl (λw' Qb j u hj=>by rw[add_add,(Xj.mod Qb (λhh=>hh.elim (λe=>nf e.symm) (λe=>ne e.symm))).cell];simpa using hj) ?_;have hd:=Ext.drew w6;refine QB (kQ5.ext hd) (by rw[XL];rfl) (sc rfl) (λw8 Yh _ XB=>?_);have Zo:Mod (·=f) w6.drew w8:=oQh Yh rfl;have xV:Mod (λi=>i=f∨i=e) w6 w8:=(Mod.of_ext _ hd).trans Zo (λi hi=>.inl (.inl hi));refine⟨xV,?_⟩;refine QB ((kQ6.ext hd).mod Zo (λhh=>QK hh.symm)) (by rw[Ke];rfl) (sc rfl) (λw9 bt _ Z8=>?_);have X4:Mod (·=e) w8 w9:=oQh bt rfl;have aQy:Mod (λi=>i=f∨i=e) w6 w9:=xV.trans X4 (λi hi=>.inl (.inr hi));refine⟨aQy,?_⟩;exact⟨_,rfl,rfl,XB.mod X4 QK,Z8,(Mod.of_ext _ Xh).trans aQy (λi hi=>.inl hi)⟩
theorem gQ6 (f e:Nat)(w:World):
  CallsD Tryz.prog 91 #[.pointer (some ⟨f,0,none⟩),.pointer (some ⟨e,0,none⟩)] .returning w
   (λen u' w'=>∃v,en= .returned v/\settle u'= .returning/\Ext w w'):=by
 refine callsD_of_wpS Tryz.func91 rfl λc₀ cs hu=>?_
 have J9:=fZ (N:=Tryz.f91.ntmps) [.pointer (some ⟨f,0,none⟩),.pointer (some ⟨e,0,none⟩)] (gK rfl) [(0,.v (.pointer (some ⟨f,0,none⟩))),(1,.v (.pointer (some ⟨e,0,none⟩)))] (by
  intro k x hk
  match k,hk with
  | 0,hk=>cases hk;rfl
  | 1,hk=>cases hk;rfl
  | k+2,hk=>exact nomatch (show(none:Option Ent)=some x from hk))
 have J4:=J9.put (d:=5) (by decide) (.v .nilIface);refine wpS_seq (wpS_region ?_);show wpOpsS _ _ _ [0,1,2,3,4,5,6,7] _ _ _;refine tL (o:=_) (cs':={c₀ with mode:=.returning}::cs) (v:=.nilIface) (d:=5) rfl rfl rfl rfl (.inr ⟨by simp[recoverD,hu],rfl,by rw[<-hu]⟩) ?_;generalize bE:Act.put _ (some 5) _=act;have iv:Fits aB.N [(5,.v .nilIface),(0,.v (.pointer (some ⟨f,0,none⟩))),(1,.v (.pointer (some ⟨e,0,none⟩)))] act:=by rw[<-bE];exact J4
 clear bE J4 J9;generalize Zv: #[_,_,_,_,_,_,_,_]=xU;have h1:=(QO (λ(x:Array Oper)=>x[1]?) Zv).symm;have h2:=(QO (λ(x:Array Oper)=>x[2]?) Zv).symm;have h3:=(QO (λ(x:Array Oper)=>x[3]?) Zv).symm;have h4:=(QO (λ(x:Array Oper)=>x[4]?) Zv).symm;have h5:=(QO (λ(x:Array Oper)=>x[5]?) Zv).symm;have h6:=(QO (λ(x:Array Oper)=>x[6]?) Zv).symm;have h7:=(QO (λ(x:Array Oper)=>x[7]?) Zv).symm;clear Zv;refine JE (c:=aB) Qa rfl h1 rfl iv (K:=λS' w'=>S'=_/\w=w') (gQ3 Qa rfl rfl rfl rfl ⟨rfl,rfl⟩) ?_;rintro _ a1 _ ZN ⟨rfl,rfl⟩;refine JE (c:=aB) Qa rfl h2 rfl ZN (K:=λS' w'=>S'=_/\w=w') ⟨rfl,rfl⟩ ?_;rintro _ a2 _ ZT ⟨rfl,rfl⟩;refine JE (c:=aB) Qa rfl h3 rfl ZT (K:=λS' w'=>S'=_/\w=w') ⟨rfl,rfl⟩ ?_;rintro _ a3 _ iw ⟨rfl,rfl⟩;refine JE (c:=aB) Qa rfl h4 rfl iw (K:=λS' w'=>S'=_/\w=w') ⟨rfl,rfl⟩ ?_;rintro _ a4 _ iy ⟨rfl,rfl⟩;refine JE (c:=aB) Qa rfl h5 rfl iy (K:=λS' w'=>S'=(2,.v (.pointer (some ⟨w.heap.size,0,none⟩)))::_/\Ext w w'/\w'.heap.size=w.heap.size+1/\∃ps:List Value,Blk w' w.heap.size 160 ps/\ps.length=3) (new (λw1 Qd Q3 Qh=>⟨rfl,Qd,Q3,_,Qh,rfl⟩)) ?_;rintro _ a5 w5 J4 ⟨rfl,Qz,Kw,ps,QL,WN⟩;refine JE (c:=aB) Qa rfl h6 rfl J4 (K:=λS' w'=>S'=_/\Ext w w') (QB QL (by rw[WN];rfl) (sc rfl) (λw6 Wg fa Xj=>⟨rfl,XY Qz QL Wg⟩)) ?_;rintro _ a6 w6 bU ⟨rfl,Xh⟩;refine JE (c:=aB) Qa rfl h7 rfl bU (K:=λS' w'=>S'=_/\w6=w') ⟨rfl,rfl⟩ ?_;rintro _ a7 _ IP ⟨rfl,rfl⟩;unfold wpOpsS;refine mL (c:=aB) Qa rfl IP ?_;refine Xv rfl ?_;exact⟨_,rfl,rfl,Xh⟩
end
section
theorem gQ7 {nm:List (List Nat)}(hb:Jy nm):(dE nm Yv).2=if Zx nm then 0 else 1:=by
 by_cases h:Zx nm=true
 ·rw[Qf h,show Yv=ZS nm 0 (.c true) from rfl,fQH h (fQI hb h) (.c true) trivial (by decide)]
 ·rw[if_neg h];unfold dE;rw[if_neg h]
structure SgIn (w:World) (k:Nat) (A:Option Addr) (n c:Nat) (sg:List Sg) (L:List DV):Prop where
 sl:Sl w 6 A n c (cJ sg L)
 n:sg.length=n
 len:L.length=sg.length
 dg:∀(j:Nat) (s:Sg) (x:DV),sg[j]? =some s->L[j]? =some x->SB w x.A x.n x.c x.nd/\Set1 k x.nd x.r s.o
theorem SgIn.ext {w w':World}{k:Nat}{A:Option Addr}{n c:Nat}{sg:List Sg}{L:List DV}(h:SgIn w k A n c sg L)(hE:Ext w w'):SgIn w' k A n c sg L:=⟨h.sl.ext hE,h.n,h.len,λj s x h1 h2=>⟨(h.dg j s x h1 h2).1.ext hE,(h.dg j s x h1 h2).2⟩⟩
structure GsOk (g:Gs):Prop where
 b8:∀x∈g.tx,x<256
 tl:g.tx.length<=1048576
 sl:g.sg.length<=65536
abbrev SJ (tx:List Nat)(A:Option Addr)(n c:Nat):Value:=.agg #[.string (Qe tx),.slice A n c]
def gQ8 (k:Nat)(w:World)(r:Except Pl Gs)(u:Value)(w':World):Prop:=Ext w w'/\match r with
 | .error q=>u= .tuple #[SJ [] none 0 0,.agg (m0 q).toArray]
 | .ok g=>GsOk g/\∃A c L,u= .tuple #[SJ g.tx A g.sg.length c,.agg (m0 ⟨0,0,0⟩).toArray]/\SgIn w' k A g.sg.length c g.sg L
theorem SK:∀(l:List (List Nat×List Nat))(seen:List (List Nat))(i:Nat)(q:Pl),eM l seen i=some q->q.e≠0
 | [],_,_,_,h=>by cases h
 | x::l,seen,i,q,h=>by
  unfold eM at h;split at h
  ·cases h;exact(by decide:(70:Int)≠0)
  split at h
  ·cases h;exact(by decide:(2:Int)≠0)
  ·exact SK l _ _ q h
theorem SM {fs:List (List Nat×List Nat)}{q:Pl}(h:W4 fs=some q):q.e≠0:=by
 unfold W4 at h;split at h
 ·cases h;decide
 ·exact SK _ _ _ _ h
theorem BG:∀(l:List (List Nat×List Nat))(seen:List (List Nat))(i:Nat),eM l seen i=none->∀x∈l,pU x.1=true/\W3 x.2=true/\x.2.length<=1048576
 | [],_,_,_,x,hx=>by cases hx
 | y::l,seen,i,h,x,hx=>by
  unfold eM at h;split at h
  ·cases h
  split at h
  ·cases h
  ·rename_i h1 h2;have h1:=Decidable.not_not.1 h1;rcases Q0.1 hx with rfl | hx
   ·exact⟨h1.1,h1.2.2,by omega⟩
   ·exact BG l _ _ h x hx
theorem jn {l:List Nat}(h:W3 l=true):YC l:=by
 unfold W3 at h;rw[Bool.or_eq_true] at h;rcases h with h | h
 ·exact .inl (eB h)
 ·exact .inr (by simpa using h)
theorem gQ9 {fs:List (List Nat×List Nat)}(h:W4 fs=none)(hb:∀x∈fs,FileB x):fs.length<=256/\∀x∈fs,FileOk x:=by
 unfold W4 at h;split at h
 ·cases h
 ·rename_i hl;refine⟨by omega,λx hx=>?_⟩;obtain⟨h1,h2,h3⟩:=BG _ _ _ h x hx;have lR:=hb x hx;exact⟨lR.n8,lR.t8,lR.nl,h3,jn h2⟩
theorem hQa {w7 w':World}{nq:Nat}{m:List (ByteArray×Value)}(h:w7.heap.size=nq+1)(hm:Mod (·=nq) w7 w')(hq:MapAt V8 w' nq m):∃w0,Ext w0 w'/\w0.heap.size=nq+1/\MapAt V8 w0 nq m/\∀w,Ext w w7->w.heap.size<=nq->Ext w w0:=by
 obtain⟨bs,ck,hl,hb⟩:=hq.ex;refine⟨{w7 with heap:=w7.heap.setIfInBounds nq (.map (XX V8 m bs).toArray ck)},⟨hm.os,hm.tape,hm.output,?_,λi hi _=>?_⟩,by simp[h],⟨bs,ck,hl,?_⟩,λw hE ZO=>⟨hE.os,hE.tape,hE.output,?_,λi hi hn=>?_⟩⟩
 ·simpa using hm.size
 ·simp only[Array.size_setIfInBounds] at hi;simp only[EL];by_cases e:nq=i
  ·subst e;rw[Qf rfl,Qf (by omega),hb]
  ·rw[if_neg e];exact hm.block i hi (λe2=>e e2.symm)
 ·simp[h]
 ·simpa using hE.size
 ·simp only[EL];rw[if_neg (by omega)];exact hE.block i hi hn
theorem SO (nm:List (List Nat))(NA:Option Addr)(nn nc:Nat)(fs:List (List Nat×List Nat))(FA:Option Addr)(nf cf:Nat)(root:List Nat)(w:World)(hN:Sl w 1 NA nn nc (Q9 nm))(JX:Jy nm)(hk:nm.length<=12)(hF:SlS gX 2 w FA nf cf fs)(Ev:∀x∈fs,FileB x)(hnf:nf<=1000000000000)(jD:∀x∈root,x<256):
  Fn Tryz.prog 43 [.slice NA nn nc,.slice FA nf cf,.string (Qe root)] w (gQ8 nm.length w (W5 nm fs root)):=by
 refine vX (c:={c43 with cuts:=[]}) Qa Tryz.func43 rfl rfl rfl ?_;refine ZQ (ZB Qa ?_);refine new (λw1 Qd Q3 Qh=>?_);refine new (λw2 Qg X0 Qv=>?_);have QT:=Qd.trans Qg;refine ZQ (ZB Qa ?_);refine call (PD nm NA nn nc Yv w2 (hN.ext QT) JX (by decide) (by decide)) ?_;rintro _ w3 ⟨G,mg,cG,rfl,Qi,hG⟩;have QQ:=QT.trans Qi;have Ew:=(Qh.ext Qg).ext Qi;have hBp:=Qv.ext Qi;have QK:w1.heap.size≠w.heap.size:=by omega
 have bA:=gQ7 JX;have WU:W5 nm fs root=if Zx nm=false then .error ⟨30, -1,0⟩else match W4 fs with
  | some p=>.error p
  | none=>match JB (fs.map (·.1)) root with
   | none=>.error ⟨73, -1,0⟩
   | some n=>be nm fs 65 [] 0 n (λ_=>true) ⟨[],[],false⟩:=rfl
 rw[bA];cases Zm:Zx nm with
 | false=>
  rw[Qf Zm] at WU;refine pG (by decide) ?_;refine QB Ew rfl (sc rfl) (λw4 bn _ Q6=>?_);have KR:Mod (·=w.heap.size) w3 w4:=oQh bn rfl;refine QB (hBp.mod KR QK) rfl (sc rfl) (λw5 Jr _ QL=>?_);have Z9:Mod (·=w1.heap.size) w4 w5:=oQh Jr rfl;refine jh Qa rfl (.inl rfl) ?_;refine Qs (Q6.mod Z9 QK.symm) rfl ?_;refine Qs QL rfl ?_;rw[WU];exact⟨Z9.ext (KR.ext QQ (λi hi=>by omega)) (λi hi=>by omega),rfl⟩
 | true=>
  rw[if_neg (by rw[Zm];decide)] at WU;refine Y9 rfl ?_;refine ZQ (ZB Qa ?_);refine call (gQ1 fs FA nf cf w3 (hF.ext QQ) Ev hnf) ?_;rintro _ w4 ⟨rfl,Qq⟩;refine new (λw5 Qz Kw QL=>?_);refine QB QL rfl (sc rfl) (λw6 Wg _ Xj=>?_);have XF:Ext w4 w6:=XY Qz QL Wg;have Ky:=Qq.trans XF;have XD:=QQ.trans Ky;have aQz:=Ew.ext Ky;have aQA:=hBp.ext Ky;refine Qp Xj rfl ?_;cases Vh:W4 fs with
  | some q=>
   rw[Vh] at WU Xj;refine pG (SM Vh) ?_;have n4:¬w4.heap.size=w.heap.size:=by have:=Qi.size;have:=Qq.size;omega
   have n41:¬w4.heap.size=w1.heap.size:=by have:=Qq.size;have:=Qi.size;omega
   have hd:=Ext.drew w6;refine Xy Qa (λw'=>Mod (λi=>i=w.heap.size∨i=w1.heap.size) w6 w') 4 [(true,0),(true,1),(false,2),(false,3)] (by kernel_rfl) (Mod.of_ext _ hd) ?_;refine Xr (vs:=m0 q) rfl (λw' Qb j u hj=>by rw[(Xj.mod Qb (λhh=>hh.elim n4 n41)).cell];exact hj) ?_;refine QB (aQz.ext hd) rfl (sc rfl) (λw7 ZC _ Q4=>?_);have Xi:Mod (·=w.heap.size) w6.drew w7:=oQh ZC rfl;have aQB:Mod (λi=>i=w.heap.size∨i=w1.heap.size) w6 w7:=(Mod.of_ext _ hd).trans Xi (λi hi=>.inl (.inl hi));refine⟨aQB,?_⟩;refine QB ((aQA.ext hd).mod Xi QK) rfl (sc rfl) (λw8 Yh _ XB=>?_);have Zo:Mod (·=w1.heap.size) w7 w8:=oQh Yh rfl;have xV:=aQB.trans Zo (λi hi=>.inl (.inr hi));refine⟨xV,?_⟩;refine jh Qa rfl (.inl rfl) ?_;refine Qs (Q4.mod Zo QK.symm) rfl ?_;refine Qs XB rfl ?_;rw[WU];exact⟨xV.ext XD (λi hi=>by rcases hi with rfl | rfl<;>omega),rfl⟩
  | none=>
  rw[Vh] at WU;refine Y9 rfl ?_;obtain⟨Kk,rN⟩:=gQ9 Vh Ev;have Xf:=hF.2;refine ZQ (ZB Qa ?_);refine vO Qa V8 rfl (λw7 QY WF Kg=>?_);refine vO Qa aZ rfl (λw8 Q7 Ve Jq=>?_);refine new (λw9 Xo ff Z8=>?_);have VG:=Q7.trans Xo;have fw:=QY.trans VG;have aQC:=XD.trans fw;have nX:=Jq.ext Xo;have xg:=Kg.ext VG;have mQx:Jy (fs.map (·.1)):=λs hs=>by
   obtain⟨x,hx,rfl⟩:=ZM.1 hs;exact⟨(Ev x hx).n8,(Ev x hx).nl⟩
  have nrq:¬w8.heap.size=w6.heap.size:=by omega
  refine ZQ (ZB Qa ?_);refine loop Qa [40] (λi:Nat=>[.int .i64 i]) (λi w'=>Mod (·=w6.heap.size) w9 w'/\MapAt V8 w' w6.heap.size (YP ((fs.map (·.1)).take i) 0 [])/\i<=fs.length) (λi _=>fs.length-i) 0 rfl ⟨Mod.refl _ _,xg,Xt _⟩ ?_;rintro i QE ⟨Zu,Js,nQi⟩;refine Qt (λc2=>?_) (λc2=>?_)
  ·have hi:i<nf:=by omega
   have cY:Ext w QE:=Zu.ext aQC (λi hi=>by have:=XD.size;omega);refine Zh Gu (hF.ext cY) rfl hi (λpp x hx hc=>?_);refine Kb (vs:=gX x) rfl hc ?_;refine new (λQH Z4 qC ZJ=>?_);refine QB ZJ rfl (sc rfl) (λQW lD _ Ji=>?_);have fp:Ext QE QW:=XY Z4 ZJ lD;have hd:=Ext.drew QW;have hBr:=((Z8.mod Zu nrq).ext fp).ext hd;refine pE Qa 7 (by kernel_rfl) ?_;refine QJ (v:=.map (some w6.heap.size)) (λw' Qb=>by subst Qb;rw[hBr.cell];rfl) ?_;refine QJ (v:=.string (Qe x.1)) (λw' Qb=>by subst Qb;rw[(Ji.ext hd).cell];rfl) ?_;refine kr (kv:=V8) (a:=Qe x.1) Qa rfl rfl rfl rfl rfl oQi rfl rfl rfl ((Js.ext fp).ext hd) (λXM xI up Yj=>?_);have J3:Mod (·=w6.heap.size) QW.drew XM:=oQh xI rfl;refine Qj ((i+1:Nat):Int) (by show((i:Nat):Int)+1=_;omega) (by omega) ?_;refine⟨i+1,rfl,⟨(Zu.trans (Mod.of_ext (·=w6.heap.size) (fp.trans hd)) (λi hi=>.inl hi)).trans J3 (λi hi=>.inl hi),?_,by omega⟩,by show fs.length-(i+1)<fs.length-i;omega⟩;rw[Pp (s:=x.1) (by rw[Vi,hx];rfl)];exact Yj
  have MV:i=fs.length:=by omega
  rw[MV,Zz (by simp)] at Js;have ae:Mod (·=w6.heap.size) w7 QE:=(Mod.of_ext _ VG).trans Zu (λi hi=>.inl hi);obtain⟨w0,ud,hws,hwm,hwe⟩:=hQa WF ae Js;have aQD:=Z8.mod Zu nrq;have ao:=FH mQx root jD;have nr6:¬w.heap.size=w6.heap.size:=by have:=Ky.size;have:=Qi.size;omega
  have kQ7:¬w1.heap.size=w6.heap.size:=by have:=Ky.size;have:=Qi.size;omega
  have aQE:=(aQz.ext fw).mod Zu nr6;have aQF:=(aQA.ext fw).mod Zu kQ7;have cY:Ext w QE:=Zu.ext aQC (λi hi=>by have:=XD.size;omega);refine ZQ (ZB Qa ?_);refine Qp aQD rfl ?_;refine vU (kv:=V8) (a:=Qe root) (v:=.int .i64 ((JB (fs.map (·.1)) root).getD 0:Nat)) (b:=(JB (fs.map (·.1)) root).isSome) Qa rfl rfl rfl rfl rfl oQi rfl rfl Js (by rw[ao];cases JB (fs.map (·.1)) root<;>rfl) (by rw[ao];cases JB (fs.map (·.1)) root<;>rfl) ?_;refine ZQ (ZB Qa ?_);cases Km:JB (fs.map (·.1)) root with
  | none=>
   rw[Km] at WU;refine Xe rfl ?_;refine QB aQE rfl (sc rfl) (λQH xS _ ZJ=>?_);have Zy:Mod (·=w.heap.size) QE QH:=oQh xS rfl;refine QB (aQF.mod Zy QK) rfl (sc rfl) (λQW lD _ Ji=>?_);have VC:Mod (·=w1.heap.size) QH QW:=oQh lD rfl;refine jh Qa rfl (.inl rfl) ?_;refine Qs (ZJ.mod VC QK.symm) rfl ?_;refine Qs Ji rfl ?_;rw[WU];exact⟨VC.ext (Zy.ext cY (λi hi=>by omega)) (λi hi=>by omega),rfl⟩
  | some n=>
  rw[Km] at WU;simp only at WU;refine Xv rfl ?_;have Je:n<fs.length:=by have:=kN Km;simpa using this
  refine ZQ (vW Qa rfl rfl rfl rfl ⟨_,_,_,_,rfl,rfl,?_⟩);refine ZQ (ZB Qa ?_);refine call (cH true QE) ?_;rintro _ QH ⟨rfl,Z4⟩
  let p:RP:=⟨w8.heap.size,w7.heap.size,w6.heap.size,NA,nn,nc,nm,FA,nf,cf,fs⟩
  let m:RM:=⟨none,0,none,0,[],.pointer none,λi=>i=w.heap.size∨i=w1.heap.size⟩
  let v:RV:=⟨0,0,0,[],⟨[],[],false⟩⟩
  have kQ8:Ext w6 w0:=hwe w6 QY (QD _);have aQG:Ext w w0:=XD.trans kQ8;have hP:RPok w0 p:=⟨hN.ext aQG,JX,hk,hF.ext aQG,rN,hwm⟩
  have qC:=Z4.size;have kQO:=Zu.size;have ZU:Rr w0 QH QH.heap.size p m v:=by
   refine⟨ud.trans Z4,?_,?_,?_,?_,?_,QD _,.inl rfl,aQD.ext Z4,Own.nil _ _ _ _,Own.nil _ _ _ _,rfl,(λj s x hs=>by simp[v] at hs),?_,(Xt _),(Xt _),(λx hx=>by cases hx),(λ_=>.inr rfl),(λi hi=>by
    have:=Ky.size;have:=Qi.size;rcases hi with hi | hi<;>rw[hi]<;>omega)⟩
   ·show w0.heap.size<=w8.heap.size;omega
   ·show w0.heap.size<=w7.heap.size;omega
   ·show w8.heap.size<QH.heap.size;omega
   ·show w7.heap.size<QH.heap.size;omega
   ·show w8.heap.size≠w7.heap.size;omega
   ·refine⟨[],(nX.mod Zu (by show¬w7.heap.size=w6.heap.size;omega)).ext Z4,by simp,λn=>by simp[XJ,v]⟩
  have kQ9:DgO QH (TS p m) p.nm.length ⟨none,0,0,[],1⟩ (λ_=>true):=⟨SlS.nil _,bO _ true,λad e=>by cases e⟩
  have lQa:w0.heap.size<=QH.heap.size:=(ud.trans Z4).size;have rH:∀i,RS p m i->i=w8.heap.size∨i=w7.heap.size:=λi hi=>by
   rcases hi with hi | hi | ⟨_,e,_⟩ | ⟨_,e,_⟩
   ·exact .inl hi
   ·exact .inr hi
   ·cases e
   ·cases e
  have lQb:=aQE.ext Z4;have lQc:=aQF.ext Z4;have nQj:=Ky.size;have qy:=Qi.size;have keep:∀w',Mod (RS p m) QH w'->Ext w w'/\Blk w' w.heap.size 41 (JY (.agg #[.string ByteArray.empty,.slice none 0 0]))/\Blk w' w1.heap.size 93 (m0 ⟨0,0,0⟩):=λw' hm=>by
   refine⟨hm.ext (cY.trans Z4) (λi hi=>?_),lQb.mod hm (λhi=>?_),lQc.mod hm (λhi=>?_)⟩
   ·have:=XD.size;rcases rH i hi with rfl | rfl<;>omega
   ·rcases rH _ hi with e | e<;>omega
   ·rcases rH _ hi with e | e<;>omega
  refine XP (SI w0 QH.heap.size p hP lQa 65 m v n ⟨none,0,0,[],1⟩ (λ_=>true) QH ZU kQ9 Je (λhh=>by cases hh) (Xt _) (QD _)) ?_ ?_
  rotate_left
  ·rintro ch QW ⟨q,hq,rfl,Yl⟩;have hq:be nm fs 65 [] 0 n (λ_=>true) ⟨[],[],false⟩= .error q:=hq;rw[hq] at WU;obtain⟨Xu,xW,IQ⟩:=keep QW Yl;refine aD Qa rfl rfl (args:= #[.pointer (some ⟨w.heap.size,0,none⟩),.pointer (some ⟨w1.heap.size,0,none⟩)]) (by simp) ((gQ5 _ _ q QW _ _ rfl rfl QK.symm xW IQ).mono ?_);rintro e u' XM ⟨v,rfl,IR,il⟩;refine⟨v,rfl,IR,?_⟩;refine Qs il.1 rfl ?_;refine Qs il.2.1 rfl ?_;rw[WU];exact⟨il.2.2.ext Xu (λi hi=>by rcases hi with rfl | rfl<;>omega),rfl⟩
  rintro _ QW ⟨g',VM,m',gE,X5,Yl,_,_⟩;have VM:be nm fs 65 [] 0 n (λ_=>true) ⟨[],[],false⟩= .ok g':=VM;rw[VM] at WU;obtain⟨Xu,xW,IQ⟩:=keep QW Yl;refine ZQ (ZB Qa ?_);have nb:=X5.nrow.2;have nQk:=X5.rb;have nQl:=X5.top;have jS:∀i,Qk m'.BA i->QH.heap.size<=i:=λi hi=>(X5.txt.rows i hi).1
  have nprs:¬(Qk m'.BA w8.heap.size∨w8.heap.size=w.heap.size∨w8.heap.size=w1.heap.size):=λhh=>by
   rcases hh with hh | hh | hh
   ·exact nb hh
   ·omega
   ·omega
  have hd:=Ext.drew QW;refine Xy Qa (Mod (λi=>Qk m'.BA i∨i=w.heap.size∨i=w1.heap.size) QW) 12 [(true,0),(true,1),(true,2),(true,4),(true,5),(true,6),(true,7),(true,9),(false,3),(true,8),(false,10),(false,11)] (by kernel_rfl) (Mod.of_ext _ hd) ?_;refine QJ (v:=.slice m'.OA g'.sg.length m'.oc) (λw' Qb=>by rw[(X5.blk.mod Qb nprs).cell];rfl) ?_;have V5:=X5.tl;refine call (gQk QH.heap.size w8.heap.size 157 5 (kT p m' {v with g:=g'}) m'.BA m'.bc g'.tx QW.drew (X5.blk.ext hd) rfl (X5.txt.ext hd) X5.b8 (by simp only at V5;omega)) ?_;rintro _ XM ⟨rfl,Yj⟩;have J3:Mod (λi=>Qk m'.BA i∨i=w.heap.size∨i=w1.heap.size) QW XM:=(Mod.of_ext _ hd).trans Yj (λi hi=>.inl (.inl hi));refine⟨J3,?_⟩;have nsB:¬Qk m'.BA w.heap.size:=λhh=>by have:=jS _ hh;omega
  have npB:¬Qk m'.BA w1.heap.size:=λhh=>by have:=jS _ hh;omega
  refine QB ((xW.ext hd).mod Yj nsB) rfl (sc rfl) (λX1 cS _ Jc=>?_);have Kx:Mod (·=w.heap.size) XM X1:=oQh cS rfl;have aQH:=J3.trans Kx (λi hi=>.inl (.inr (.inl hi)));refine⟨aQH,?_⟩;refine QB (((IQ.ext hd).mod Yj npB).mod Kx QK) rfl (sc rfl) (λJM xX _ jE=>?_);have qV:Mod (·=w1.heap.size) X1 JM:=oQh xX rfl;have C2:=aQH.trans qV (λi hi=>.inl (.inr (.inr hi)));refine⟨C2,?_⟩;have IS:=Jc.mod qV QK.symm;refine ZB Qa ?_;refine ga Qa rfl rfl (.inl rfl) (args:= #[.pointer (some ⟨w.heap.size,0,none⟩),.pointer (some ⟨w1.heap.size,0,none⟩)]) (by simp) ((gQ6 _ _ JM).mono ?_);rintro e u' ag ⟨u,rfl,IT,Yk⟩;refine⟨u,rfl,IT,?_⟩;refine Qs (IS.ext Yk) rfl ?_;refine Qs (jE.ext Yk) rfl ?_;rw[WU];have VF:Ext w JM:=C2.ext Xu (λi hi=>by
   rcases hi with hi | rfl | rfl
   ·have:=jS _ hi;omega
   ·exact QD _
   ·omega)
  have nO:∀i,Qk m'.OA i->¬(Qk m'.BA i∨i=w.heap.size∨i=w1.heap.size):=λi hi hh=>by
   have:=(X5.out.rows i hi).1;rcases hh with hh | rfl | rfl
   ·exact X5.out.apart X5.txt (by decide) hi hh
   ·omega
   ·omega
  refine⟨VF.trans Yk,⟨X5.b8,X5.tl,X5.sl⟩,m'.OA,m'.oc,m'.L,rfl,SgIn.ext ⟨(X5.out.mod C2 nO).sl,rfl,X5.len,λj s x h1 h2=>?_⟩ Yk⟩;have zp:=X5.dgs j s x h1 h2;refine⟨SB.modo zp.sb C2 (λad e h0 hh=>?_),zp.st⟩;rcases hh with hh | hh | hh
  ·exact zp.off ad e h0 (.inl (.inr (.inr (.inr hh))))
  ·exact zp.off ad e h0 (.inr (by rw[gE];exact .inl hh))
  ·exact zp.off ad e h0 (.inr (by rw[gE];exact .inr hh))
end
def cK (c:Nat):Nat->Bool:=λi=>decide (c/2^i % 2=1)
theorem SP (x:Nat)(hx:x<18446744073709551616):IntKind.u64.wrap ((BitVec.ofInt 64 (x:Int) &&& BitVec.ofInt 64 1).toNat)=((x % 2:Nat):Int):=by
 have e:(BitVec.ofInt 64 (x:Int) &&& BitVec.ofInt 64 1).toNat=x % 2:=by
  rw[BitVec.ofInt_natCast,show BitVec.ofInt 64 1=BitVec.ofNat 64 1 from rfl,BitVec.toNat_and,BitVec.toNat_ofNat,BitVec.toNat_ofNat];rw[iX (by omega),show 1 % 2^64=1 by decide,Nat.and_one_is_mod]
 rw[e];rcases(show x % 2=0∨x % 2=1 by omega)with h | h<;>rw[h]<;>decide
def BH (l:List Nat)(k:Nat):Bool:=decide (k/8<l.length)&&decide ((l[k/8]?.getD 0)/2^(k % 8) % 2=1)
def cL (l:List Nat):Nat->Nat->Nat->(Nat->Bool)->Bool
 | 0,_,k,_=>BH l k
 | d+1,v,k,e=>if e v then cL l d (v+1) (k+2^v) e else cL l d (v+1) k e
theorem GD {nd:List Br}(hw:WZ nd){k:Nat}(hk:VIn k nd)(h0:∀b∈nd,0<=b.v){e e':Nat->Bool}(h:∀i,i<k->e i=e' i):∀(m:Nat)(n:Int),n.toNat<m->n<nd.length+2->ev nd n e=ev nd n e'
 | 0,n,hm,_=>by omega
 | m+1,n,hm,hn=>by
  by_cases h2:n<2
  ·rw[JP h2,JP h2]
  obtain⟨b,hb⟩:=WD h2 hn;obtain⟨b3,b4,b5,b6⟩:=hw _ _ hb;have uU:=Q2 hb;have hv:=hk b uU;have fg:=h0 b uU;rw[cC hw h2 hb,cC hw h2 hb,GD hw hk h0 h m b.h (by omega) (by omega),GD hw hk h0 h m b.l (by omega) (by omega),h b.v.toNat (by omega)]
end
section
def gi (w:World)(k:Nat)(o:(Nat->Bool)->Bool)(v:Value)(w':World):Prop:=∃A n c nd r,v=Xg A n c r/\Ext w w'/\SB w' A n c nd/\Set1 k nd r o/\∀i,Qk A i->w.heap.size<=i
def wO (w:World)(k:Nat)(o:(Nat->Bool)->Bool)(v:Value)(w':World):Prop:=∃A n c nd r,v= .tuple #[Xg A n c r,.int .i64 0]/\Ext w w'/\SB w' A n c nd/\Set1 k nd r o/\∀i,Qk A i->w.heap.size<=i
theorem pZ (b:Bool)(w:World):Fn Tryz.prog 29 [.bool b] w (λv w'=>v=Xg none 0 0 (if b then 1 else 0)/\Ext w w'):=by
 refine Qx (c:={c29 with cuts:=[]}) Qa Tryz.func29 rfl rfl rfl ?_;refine new (λw1 Qd Q3 Qh=>?_);cases b with
 | true=>
  refine Xe rfl ?_;refine QB Qh rfl (sc rfl) (λw3 ZZ _ Qw=>?_);refine Qs Qw rfl ?_;exact⟨rfl,XY Qd Qh ZZ⟩
 | false=>
  refine Xv rfl ?_;refine QB Qh rfl (sc rfl) (λw3 ZZ _ Qw=>?_);refine Qs Qw rfl ?_;exact⟨rfl,XY Qd Qh ZZ⟩
section
variable {k:Nat} (hk:k<=12)
include hk
theorem GE {a b:List Br}{ra rb:Int}{o o':(Nat->Bool)->Bool}(A:Option Addr)(n c:Nat)(B:Option Addr)(m d:Nat)(op:Int)(ho:op≠3/\op≠4)(w:World)(h:SB w A n c a)(h':SB w B m d b)(s:Set1 k a ra o)(s':Set1 k b rb o'):
  Fn Tryz.prog 58 [Xg A n c ra,Xg B m d rb,.int .i64 op] w (gi w k (λe=>Kr op (o e) (o' e))):=by
 have l1:=s.len hk;have l2:=s'.len hk;have Ka:=h.2;have aR:=h'.2;have hb2:=FX s.vd s'.vd op;have Ep:(a.length+2)*(b.length+2)<=4098*4098:=Nat.mul_le_mul (by omega) (by omega);refine(fQk A n c a ra B m d b rb op w h h' s.vd.dok s'.vd.dok s.vd.2.1 (by have:=s.vd.2.2.1;omega) s'.vd.2.1 (by have:=s'.vd.2.2.1;omega) (by omega) (by omega) (by omega) (by omega) ho).mono ?_;rintro v w' ⟨OA,q,oc,rfl,hE,hO,hR⟩;exact⟨OA,q,oc,_,_,rfl,hE,hO,eL s s' op,hR⟩
theorem SQ {a b:List Br}{ra rb:Int}{o o':(Nat->Bool)->Bool}(A:Option Addr)(n c:Nat)(B:Option Addr)(m d:Nat)(w:World)(h:SB w A n c a)(h':SB w B m d b)(s:Set1 k a ra o)(s':Set1 k b rb o'):
  Fn Tryz.prog 66 [Xg A n c ra,Xg B m d rb] w (gi w k (λe=>Kr 1 (o e) (o' e))):=by
 refine Qx (c:={c66 with cuts:=[]}) Qa Tryz.func66 rfl rfl rfl ?_;refine new (λw1 Qd Q3 Qh=>?_);refine new (λw2 Qg X0 Qv=>?_);refine new (λw3 Qi JF Qw=>?_);have QQ:=(Qd.trans Qg).trans Qi;refine Qs ((Qh.ext Qg).ext Qi) rfl ?_;refine Qs (Qv.ext Qi) rfl ?_;refine call (GE hk A n c B m d 1 (by decide) w3 (h.ext QQ) (h'.ext QQ) s s') ?_;rintro _ w4 ⟨PA,q,pc,nd,r,rfl,Qq,eY,Wh,bV⟩;refine QB (Qw.ext Qq) rfl (sc rfl) (λw5 Jr _ QL=>?_);have Z9:Mod (·=w2.heap.size) w4 w5:=oQh Jr rfl;refine Qs QL rfl ?_;exact⟨PA,q,pc,nd,r,rfl,Z9.ext (QQ.trans Qq) (λi hi=>by omega),eY.mod Z9 (λi hi e=>by have:=bV i hi;omega),Wh,λi hi=>by have:=bV i hi;omega⟩
theorem SR {a b:List Br}{ra rb:Int}{o o':(Nat->Bool)->Bool}(A:Option Addr)(n c:Nat)(B:Option Addr)(m d:Nat)(w:World)(h:SB w A n c a)(h':SB w B m d b)(s:Set1 k a ra o)(s':Set1 k b rb o'):
  Fn Tryz.prog 22 [Xg A n c ra,Xg B m d rb] w (gi w k (λe=>Kr 0 (o e) (o' e))):=by
 refine Qx (c:={c22 with cuts:=[]}) Qa Tryz.func22 rfl rfl rfl ?_;refine new (λw1 Qd Q3 Qh=>?_);refine new (λw2 Qg X0 Qv=>?_);refine new (λw3 Qi JF Qw=>?_);have QQ:=(Qd.trans Qg).trans Qi;refine Qs ((Qh.ext Qg).ext Qi) rfl ?_;refine Qs (Qv.ext Qi) rfl ?_;refine call (GE hk A n c B m d 0 (by decide) w3 (h.ext QQ) (h'.ext QQ) s s') ?_;rintro _ w4 ⟨PA,q,pc,nd,r,rfl,Qq,eY,Wh,bV⟩;refine QB (Qw.ext Qq) rfl (sc rfl) (λw5 Jr _ QL=>?_);have Z9:Mod (·=w2.heap.size) w4 w5:=oQh Jr rfl;refine Qs QL rfl ?_;exact⟨PA,q,pc,nd,r,rfl,Z9.ext (QQ.trans Qq) (λi hi=>by omega),eY.mod Z9 (λi hi e=>by have:=bV i hi;omega),Wh,λi hi=>by have:=bV i hi;omega⟩
theorem hQb {a:List Br}{ra:Int}{o:(Nat->Bool)->Bool}(A:Option Addr)(n c:Nat)(w:World)(h:SB w A n c a)(s:Set1 k a ra o):
  Fn Tryz.prog 59 [Xg A n c ra] w (gi w k (λe=> !o e)):=by
 refine Qx (c:={c59 with cuts:=[]}) Qa Tryz.func59 rfl rfl rfl ?_;refine new (λw1 Qd Q3 Qh=>?_);refine new (λw2 Qg X0 Qv=>?_);have QT:=Qd.trans Qg;have Ji:=Qh.ext Qg;refine Xy Qa (Ext w2) 3 [(true,0),(false,1),(false,2)] (by kernel_rfl) (Ext.drew w2) ?_;refine Xr (vs:=[.slice A n c,.int .i64 ra]) rfl (λw' Qb j v hj=>by have:=(Ji.ext Qb).cell j;rw[this];exact hj) ?_;refine call (pZ true _) ?_;rintro _ w3 ⟨rfl,Qi⟩;have KU:=(Ext.drew w2).trans Qi;refine⟨KU,?_⟩;have s1:Set1 k [] 1 (λ_=>true):=bO k true;refine call (GE hk A n c none 0 0 2 (by decide) w3 (h.ext (QT.trans KU)) (SlS.nil _) s s1) ?_;rintro _ w4 ⟨PA,q,pc,nd,r,rfl,Qq,eY,Wh,bV⟩;have Ja:=KU.trans Qq;refine⟨Ja,?_⟩;have hz:=(QT.trans KU).size;refine QB (Qv.ext Ja) rfl (sc rfl) (λw5 Jr _ QL=>?_);have Z9:Mod (·=w1.heap.size) w4 w5:=oQh Jr rfl;refine Qs QL rfl ?_;have aQI:=KU.size;exact⟨PA,q,pc,nd,r,rfl,Z9.ext (QT.trans Ja) (λi hi=>by omega),eY.mod Z9 (λi hi e=>by have:=bV i hi;omega),Wh.congr (λe=>by cases o e<;>rfl),λi hi=>by have:=bV i hi;omega⟩
theorem GF {a b:List Br}{ra rb:Int}{o o':(Nat->Bool)->Bool}(A:Option Addr)(n c:Nat)(B:Option Addr)(m d:Nat)(w:World)(h:SB w A n c a)(h':SB w B m d b)(s:Set1 k a ra o)(s':Set1 k b rb o'):
  Fn Tryz.prog 23 [Xg A n c ra,Xg B m d rb] w (gi w k (λe=>o e && !o' e)):=by
 refine Qx (c:={c23 with cuts:=[]}) Qa Tryz.func23 rfl rfl rfl ?_;refine new (λw1 Qd Q3 Qh=>?_);refine new (λw2 Qg X0 Qv=>?_);refine new (λw3 Qi JF Qw=>?_);have QQ:=(Qd.trans Qg).trans Qi;have Kh:=(Qh.ext Qg).ext Qi;have nL:=Qv.ext Qi;refine Xy Qa (Ext w3) 4 [(true,0),(true,1),(false,2),(false,3)] (by kernel_rfl) (Ext.drew w3) ?_;refine Xr (vs:=[.slice A n c,.int .i64 ra]) rfl (λw' Qb j v hj=>by have:=(Kh.ext Qb).cell j;rw[this];exact hj) ?_;refine Xr (vs:=[.slice B m d,.int .i64 rb]) rfl (λw' Qb j v hj=>by have:=(nL.ext Qb).cell j;rw[this];exact hj) ?_;refine call (hQb hk B m d _ (h'.ext (QQ.trans (Ext.drew w3))) s') ?_;rintro _ w4 ⟨QA,q1,qc,nd1,r1,rfl,Qq,hQ4,hT4,_⟩;have K6:=(Ext.drew w3).trans Qq;refine⟨K6,?_⟩;refine call (SR hk A n c QA q1 qc w4 (h.ext (QQ.trans K6)) hQ4 s hT4) ?_;rintro _ w5 ⟨PA,q,pc,nd,r,rfl,Qz,qE,fd,bw⟩;have JL:=K6.trans Qz;refine⟨JL,?_⟩;have nQm:=K6.size;refine QB (Qw.ext JL) rfl (sc rfl) (λw6 Wg _ Xj=>?_);have J5:Mod (·=w2.heap.size) w5 w6:=oQh Wg rfl;refine Qs Xj rfl ?_;exact⟨PA,q,pc,nd,r,rfl,J5.ext (QQ.trans JL) (λi hi=>by omega),qE.mod J5 (λi hi e=>by have:=bw i hi;omega),fd.congr (λe=>by simp[Kr]),λi hi=>by have:=bw i hi;omega⟩
end
theorem GG {k v:Nat}(hv:v<k)(hk:k<=64):Set1 k [⟨(v:Nat),0,1⟩] 2 (λe=>e v):=⟨Bk (by omega) (by omega),λb hb=>by simp only[QF] at hb;subst hb;show((v:Nat):Int)<k;omega,λe=>by
 rw[cC (Bk (k:=((v:Nat):Int)) (by omega) (by omega)).wf (by decide) (b:=⟨(v:Nat),0,1⟩) rfl,JP (by simp),JP (by simp)];cases h:e v<;>simp[h]⟩
end
noncomputable section
section
structure Sx where
 f:Int
 t:Int
 fl:Int
 at_:Int
 x:DV
def Sx.cells (y:Sx):List Value:=[.int .i64 y.f,.int .i64 y.t,.int .i64 y.fl,.int .i64 y.at_,.slice y.x.A y.x.n y.x.c,.int .i64 y.x.r]
theorem BI (y:Sx):y.cells.length=6:=rfl
structure SX (w:World) (A:Option Addr) (n c:Nat) (L:List Sx):Prop where
 sl:SlS Sx.cells 6 w A n c L
 dg:∀y∈L,SB w y.x.A y.x.n y.x.c y.x.nd
theorem SX.ext {w w':World}{A:Option Addr}{n c:Nat}{L:List Sx}(h:SX w A n c L)(k:Ext w w'):SX w' A n c L:=⟨h.sl.ext k,λy hy=>(h.dg y hy).ext k⟩
end
section
end
section
abbrev I2:=Int×Int
abbrev gY:I2->Value:=λt=>.agg #[.int .i64 t.1,.int .i64 t.2]
theorem hQc (a b:I2)(n:Nat)(w:World):(Op.equalIn (n+2) 253 (gY a) (gY b)).run Tryz.prog w= .ok (decide (a=b)) w:=by
 obtain⟨i,hi⟩:=NT.1 (show(Tryz.prog.info? 3).isSome=true by kernel_rfl);obtain⟨a0,a1⟩:=a;obtain⟨b0,b1⟩:=b;have e:=run_equalIn_array (w:=w) (n+1) #[.int .i64 a0,.int .i64 a1] #[.int .i64 b0,.int .i64 b1] Tryz.underlying253 hi;rw[Bp,show List.range 2=[0,1] from rfl] at e;refine e.trans ?_;have p0:∀x y:Int,(part 3 #[Value.int .i64 x,.int .i64 y] (0*1)).run Tryz.prog w= .ok (.int .i64 x) w:=λx y=>co k3 rfl w
 have p1:∀x y:Int,(part 3 #[Value.int .i64 x,.int .i64 y] (1*1)).run Tryz.prog w= .ok (.int .i64 y) w:=λx y=>co k3 rfl w
 have dd:decide ((a0,a1)=(b0,b1))=(a0==b0&&a1==b1):=by
  by_cases h0:a0=b0<;>by_cases h1:a1=b1<;>simp[h0,h1]
 rw[dd];simp only[Op.eqItems,Sem.run_bind,p0,Result.andThen_ok,wB];cases h0:a0==b0 with
 | false=>simp
 | true=>
  simp only[Bool.not_true,NN,if_false,Sem.run_bind,p1,Result.andThen_ok,wB,aV];cases h1:a1==b1<;>simp
theorem hQd (b:Bool)(a:I2)(n:Nat)(w:World):(Instr.checkKey b (n+2) 253 (gY a)).run Tryz.prog w= .ok () w:=by
 obtain⟨i,hi⟩:=NT.1 (show(Tryz.prog.info? 3).isSome=true by kernel_rfl);have p0:∀x y:Int,(part 3 #[Value.int .i64 x,.int .i64 y] 0).run Tryz.prog w= .ok (.int .i64 x) w:=λx y=>co k3 rfl w
 have p1:∀x y:Int,(part 3 #[Value.int .i64 x,.int .i64 y] 1).run Tryz.prog w= .ok (.int .i64 y) w:=λx y=>co k3 rfl w
 have hz:(sizeOf 3).run Tryz.prog w= .ok 1 w:=by rw[<-Bp];exact Go.run_sizeOf w hi
 simp[Instr.checkKey,ZX Tryz.underlying253,ZX Tryz.underlying3,hz,p0,p1,Std.Legacy.Range.forIn_eq_forIn_range',Std.Legacy.Range.size,List.range'_succ]
theorem BJ:KeyQ Tryz.prog 253 gY:=
 oQl Tryz.underlying253 (λa b w=>hQc a b 9998 w) (λb a w=>hQd b a 9998 w) (λa=>by simp[Instr.sameBits])
def eN (a:List Br)(x:Int)(b:List Br)(y:Int):Prop:=∃e,ev a x e=true/\ev b y e=true
theorem SS {a:List Br}(h:Rd0 a){x:Int}(h0:0<=x)(h1:x<a.length+2)(hx:x≠0):∃e,ev a x e=true:=by
 apply Classical.byContradiction;intro hn;refine hx (inj h h0 (by decide) h1 (by omega) (λe=>?_));have e1:ev a 0 e=false:=by rw[JP (by decide)]<;>rfl
 rw[e1];cases hc:ev a x e with
 | false=>rfl
 | true=>exact Xd ⟨e,hc⟩ hn
theorem hQe {a b:List Br}(ha:Rd0 a)(hb:Rd0 b){x y:Int}(x0:0<=x)(x1:x<a.length+2)(y0:0<=y)(y1:y<b.length+2){v:Int}(hv:v=min (Ql a x) (Ql b y))(dS:v<64):
  eN a x b y↔eN a (Qm a x v).1 b (Qm b y v).1∨eN a (Qm a x v).2 b (Qm b y v).2:=by
 have l1:v<=Ql a x:=by rw[hv,Z5];split<;>omega
 have l2:v<=Ql b y:=by rw[hv,Z5];split<;>omega
 obtain⟨p1,p2,p3,p4,p5⟩:=ti ha x0 x1 l1 dS;obtain⟨q1,q2,q3,q4,q5⟩:=ti hb y0 y1 l2 dS;have v0:0<=v:=by
  have:=ha.lvl0 x1;have:=hb.lvl0 y1;rw[hv,Z5];split<;>omega
 constructor
 ·rintro⟨e,e1,e2⟩;rw[p1] at e1;rw[q1] at e2;cases he:e v.toNat with
  | true=>rw[he,Qf rfl] at e1 e2;exact .inr ⟨e,e1,e2⟩
  | false=>rw[he,if_neg (by decide)] at e1 e2;exact .inl ⟨e,e1,e2⟩
 ·rintro(⟨e,e1,e2⟩ | ⟨e,e1,e2⟩)
  ·refine⟨Yx e v.toNat false,?_,?_⟩
   ·rw[p1,show Yx e v.toNat false v.toNat=false from Qf rfl,if_neg (by decide),dJ ha v.toNat false e _ _ (ez _) p4 (by omega)];exact e1
   ·rw[q1,show Yx e v.toNat false v.toNat=false from Qf rfl,if_neg (by decide),dJ hb v.toNat false e _ _ (ez _) q4 (by omega)];exact e2
  ·refine⟨Yx e v.toNat true,?_,?_⟩
   ·rw[p1,show Yx e v.toNat true v.toNat=true from Qf rfl,Qf rfl,dJ ha v.toNat true e _ _ (ez _) p5 (by omega)];exact e1
   ·rw[q1,show Yx e v.toNat true v.toNat=true from Qf rfl,Qf rfl,dJ hb v.toNat true e _ _ (ez _) q5 (by omega)];exact e2
structure MP where
 D:DV
 E:DV
 bo:Nat
 sx:Nat
 ax:Nat
 bx:Nat
 cx:Nat
 q:Nat
def MP.caps (p:MP):List Value:=[VP.ptr p.bo,VP.ptr p.sx,VP.ptr p.ax,VP.ptr p.bx,VP.ptr p.cx]
def MP.clo (p:MP):Value:=.func (.func 166) #[] #[VP.ptr p.bo,VP.ptr p.sx,VP.ptr p.ax,VP.ptr p.bx,VP.ptr p.cx]
structure MK (w:World) (p:MP):Prop where
 bob:Blk w p.bo 4 [.bool true]
 sxb:Blk w p.sx 251 [.map (some p.q)]
 axb:Blk w p.ax 32 p.D.cells
 bxb:Blk w p.bx 32 p.E.cells
 cxb:Blk w p.cx 252 [p.clo]
 as_:SB w p.D.A p.D.n p.D.c p.D.nd
 bs:SB w p.E.A p.E.n p.E.c p.E.nd
 off:p.bo≠p.q/\p.sx≠p.q/\p.ax≠p.q/\p.bx≠p.q/\p.cx≠p.q
 rowA:∀ad,p.D.A=some ad->0<p.D.n->ad.block≠p.q
 rowB:∀ad,p.E.A=some ad->0<p.E.n->ad.block≠p.q
theorem MK.mod {w w':World}{p:MP}(h:MK w p)(hm:Mod (·=p.q) w w'):MK w' p:=by
 obtain⟨o1,o2,o3,o4,o5⟩:=h.off;refine⟨h.bob.mod hm o1,h.sxb.mod hm o2,h.axb.mod hm o3,h.bxb.mod hm o4,h.cxb.mod hm o5,⟨h.as_.1.modS hm ?_,h.as_.2⟩,⟨h.bs.1.modS hm ?_,h.bs.2⟩,h.off,h.rowA,h.rowB⟩
 ·rintro h0 i ⟨ad,e,rfl⟩;exact h.rowA ad e h0
 ·rintro h0 i ⟨ad,e,rfl⟩;exact h.rowB ad e h0
theorem MK.ext {w w':World}{p:MP}(h:MK w p)(k:Ext w w'):MK w' p:=h.mod (Mod.of_ext _ k)
def m3 (w:World)(q:Nat)(S:List I2):Prop:=∃m,MapQ gY w q m/\∀t,(XJ t m).getD (.bool false)= .bool (decide (t∈S))
def MtC (p:MP)(x y:Int)(S:List I2)(w:World)(v:Value)(w':World):Prop:=
 Mod (·=p.q) w w'/\∃r:Bool,v= .bool r/\(r=true->eN p.D.nd x p.E.nd y)/\(r=false->¬eN p.D.nd x p.E.nd y/\∃S',m3 w' p.q S'/\∀t∈S',t∈S∨¬eN p.D.nd t.1 p.E.nd t.2)
theorem ST (p:MP)(ha:Rd0 p.D.nd)(hb:Rd0 p.E.nd):∀(k:Nat)(x y:Int)(S:List I2)(w:World),
  MK w p->m3 w p.q S->(∀t∈S,t.1+t.2<=x+y->¬eN p.D.nd t.1 p.E.nd t.2)->0<=x->0<=y->x<p.D.n+2->y<p.E.n+2->x+y<k->
  Fn Tryz.prog 166 (.int .i64 x:: .int .i64 y::p.caps) w (MtC p x y S w)
 | 0,x,y,_,_,_,_,_,x0,y0,_,_,hk=>by omega
 | k+1,x,y,S,w,hK,hS,Xa,x0,y0,hx,hy,hk=>by
  have ih:=ST p ha hb k;have Ka:p.D.nd.length=p.D.n:=hK.as_.2;have aR:p.E.nd.length=p.E.n:=hK.bs.2;refine Qx (c:={O3 with cuts:=[]}) Qa Tryz.func166 rfl rfl rfl ?_;refine XU (λc1=>?_) (λc1=>?_)
  ·exact⟨Mod.refl _ _,false,rfl,λh=>(by cases h),λ_=>⟨(λ⟨e,e1,_⟩=>by rw[c1,JP (by decide)] at e1;cases e1),S,hS,λt ht=>.inl ht⟩⟩
  refine Qt (λc2=>?_) (λc2=>?_)
  ·refine QC hK.bob rfl ?_;by_cases y1:y=1
   ·subst y1;refine Xv rfl ?_;refine Zd c2 ?_;refine⟨Mod.refl _ _,true,rfl,λ_=>?_,λh=>by cases h⟩;obtain⟨e,he⟩:=SS ha x0 (by omega) c1;exact⟨e,he,by rw[JP (by decide)];rfl⟩
   ·have IU:y=0:=by omega
    subst IU;refine Xe rfl ?_;exact⟨Mod.refl _ _,false,rfl,λh=>(by cases h),λ_=>⟨(λ⟨e,_,e1⟩=>by rw[JP (by decide)] at e1;cases e1),S,hS,λt ht=>.inl ht⟩⟩
  refine Xx c2 ?_;obtain⟨mq,ei,Vg⟩:=hS;refine QC hK.sxb rfl ?_;refine FM (kv:=gY) (a:=((x,y):I2)) Qa rfl rfl rfl rfl BJ rfl rfl ei (Vg (x,y)) ?_;refine Qt (λc3=>?_) (λc3=>?_)
  ·exact⟨Mod.refl _ _,false,rfl,λh=>(by cases h),λ_=>⟨Xa (x,y) c3 (mv _),S,⟨mq,ei,Vg⟩,λt ht=>.inl ht⟩⟩
  refine QC hK.sxb rfl ?_;refine sS (kv:=gY) (a:=((x,y):I2)) Qa rfl rfl rfl rfl BJ rfl rfl rfl ei (λw1 eX Q3 nY=>?_);have Kj:=hK.mod eX;have J7:m3 w1 p.q ((x,y)::S):=⟨_,nY,λt=>by
   rw[aY];by_cases ht:t=(x,y)
   ·subst ht;simp
   ·rw[if_neg ht,Vg t];simp[ht]⟩
  have ZD:min (Ql p.D.nd x) (Ql p.E.nd y)<64:=by
   have:=aE hb.dok (n:=y) c2 (by omega);rw[Z5];split<;>omega
  have lm:=ha.lvl0 (n:=x) (by omega);have XL:=hb.lvl0 (n:=y) (by omega);refine Xy Qa (Ext w1) 8 [(true,0),(true,1),(true,3),(true,4),(false,2),(false,5),(true,6),(true,7)] (by kernel_rfl) (Ext.drew w1) ?_;refine Xr (vs:=p.D.cells) rfl (λw' Qb j v hj=>by rw[(Kj.axb.ext Qb).cell];exact hj) ?_;refine Xr (vs:=p.E.cells) rfl (λw' Qb j v hj=>by rw[(Kj.bxb.ext Qb).cell];exact hj) ?_;refine call (dF p.D.A p.D.n p.D.c p.D.r x p.D.nd _ (Kj.as_.ext (Ext.drew w1)) (by omega)) ?_;rintro u w2 ⟨rfl,Qg⟩;have Xu:=(Ext.drew w1).trans Qg;refine⟨Xu,?_⟩;refine call (dF p.E.A p.E.n p.E.c p.E.r y p.E.nd _ (Kj.bs.ext Xu) (by omega)) ?_;rintro u w3 ⟨rfl,Qi⟩;have Xq:=Xu.trans Qi;refine⟨Xq,?_⟩;have oJ:(if Ql p.E.nd y<Ql p.D.nd x then Ql p.E.nd y else Ql p.D.nd x)=min (Ql p.D.nd x) (Ql p.E.nd y):=by
   rw[Z5];split<;>split<;>omega
  refine norm (m:=min (Ql p.D.nd x) (Ql p.E.nd y)) oJ ?_;have rS:=hQe ha hb x0 (by omega) y0 (by omega) (rfl:min (Ql p.D.nd x) (Ql p.E.nd y)=_) ZD;have fL:Ql p.D.nd x=min (Ql p.D.nd x) (Ql p.E.nd y)∨Ql p.E.nd y=min (Ql p.D.nd x) (Ql p.E.nd y):=by rw[Z5];split<;>simp
  generalize yY:min (Ql p.D.nd x) (Ql p.E.nd y)=v at*;obtain⟨s1,s2,s3,s4,s5⟩:=WC ha.dok (n:=x) x0 ZD;obtain⟨t1,t2,t3,t4,t5⟩:=WC hb.dok (n:=y) y0 ZD;have dec:(Qm p.D.nd x v).1+(Qm p.E.nd y v).1<x+y/\(Qm p.D.nd x v).2+(Qm p.E.nd y v).2<x+y:=by
   rcases fL with e | e
   ·have:=s5 e;omega
   ·have:=t5 e;omega
  have fc:=Kj.ext Xq;refine Qs fc.axb rfl ?_;refine call (jk p.D.A p.D.n p.D.c p.D.r x v p.D.nd _ fc.as_ (by omega) ZD) ?_;rintro u w4 ⟨rfl,Qq⟩;have VZ:=fc.ext Qq;refine Qs VZ.bxb rfl ?_;refine call (jk p.E.A p.E.n p.E.c p.E.r y v p.E.nd _ VZ.bs (by omega) ZD) ?_;rintro u w5 ⟨rfl,Qz⟩;have jA:=VZ.ext Qz;have VF:=(Xq.trans Qq).trans Qz;have Z9:Mod (·=p.q) w w5:=eX.trans (Mod.of_ext (·=p.q) VF) (λi hi=>.inl hi);have fd:m3 w5 p.q ((x,y)::S):=let ⟨m,k1,k2⟩:=J7;⟨m,k1.ext VF,k2⟩;refine QC jA.cxb rfl ?_;refine call (ih (Qm p.D.nd x v).1 (Qm p.E.nd y v).1 ((x,y)::S) w5 jA fd (λt ht ZO=>by
   rcases Q0.1 ht with rfl | ht
   ·exact Xd ZO (by simp only;omega)
   ·exact Xa t ht (by omega)) s1 t1 (by omega) (by omega) (by omega)) ?_
  rintro _ w6 ⟨J5,r0,rfl,xe,iz⟩;have xY:Mod (·=p.q) w w6:=Z9.trans J5 (λi hi=>.inl hi);cases r0 with
  | true=>
   refine Xe rfl ?_;exact⟨xY,true,rfl,λ_=>rS.2 (.inl (xe rfl)),λh=>by cases h⟩
  | false=>
   obtain⟨n0,S6,jC,xZ⟩:=iz rfl;refine Xv rfl ?_;have bW:=jA.mod J5;refine QC bW.cxb rfl ?_;refine call (ih (Qm p.D.nd x v).2 (Qm p.E.nd y v).2 S6 w6 bW jC (λt ht ZO=>by
    rcases xZ t ht with ht | ht
    ·rcases Q0.1 ht with rfl | ht
     ·exact Xd ZO (by simp only;omega)
     ·exact Xa t ht (by omega)
    ·exact ht) s3 t3 (by omega) (by omega) (by omega)) ?_
   rintro _ w7 ⟨Xi,r1,rfl,fh,ZN⟩;have IV:Mod (·=p.q) w w7:=xY.trans Xi (λi hi=>.inl hi);refine⟨IV,r1,rfl,λh=>rS.2 (.inr (fh h)),λh=>?_⟩;obtain⟨n1,S7,KF,IW⟩:=ZN h;have nn:¬eN p.D.nd x p.E.nd y:=λhh=>(rS.1 hh).elim n0 n1
   refine⟨nn,S7,KF,λt ht=>?_⟩;rcases IW t ht with ht | ht
   ·rcases xZ t ht with ht | ht
    ·rcases Q0.1 ht with rfl | ht
     ·exact .inr nn
     ·exact .inl ht
    ·exact .inr ht
   ·exact .inr ht
theorem hQf (A:Option Addr)(n c:Nat)(a:List Br)(ra:Int)(B:Option Addr)(m d:Nat)(b:List Br)(rb:Int)(w:World)(h:SB w A n c a)(h':SB w B m d b)(ha:VD a ra)(hb:VD b rb):
  Fn Tryz.prog 112 [Xg A n c ra,Xg B m d rb,.bool true] w (λu w'=>∃r:Bool,u= .bool r/\Ext w w'/\(r=true↔eN a ra b rb)):=by
 have Ka:=h.2;have aR:=h'.2;refine Qx (c:={O0 with cuts:=[]}) Qa Tryz.func112 rfl rfl rfl ?_;refine new (λw1 Qd Q3 Qh=>?_);refine new (λw2 Qg X0 Qv=>?_);refine new (λw3 Qi JF Qw=>?_);have QQ:=(Qd.trans Qg).trans Qi;refine sN Qa gY rfl ?_;intro w4 Qq K5 IX;refine new (λw5 Qz Kw QL=>?_);refine KM QL (by decide) (λw6 J5 Xj=>?_);have XF:Ext w4 w6:=J5.ext Qz (λi hi=>by omega);refine new (λw7 QY WF Q4=>?_);refine KM Q4 (by decide) (λw8 Zo XB=>?_);have Wq:Ext w6 w8:=Zo.ext QY (λi hi=>by omega);have jH:=XF.trans Wq;have Ws:=Qq.trans jH;have V0:=QQ.trans Ws;have z6:=XF.size
 let p:MP:=⟨⟨A,n,c,a,ra⟩,⟨B,m,d,b,rb⟩,w2.heap.size,w4.heap.size,w.heap.size,w1.heap.size,w6.heap.size,w3.heap.size⟩
 have hK:MK w8 p:=by
  refine⟨Qw.ext Ws,Xj.ext Wq,Qh.ext ((Qg.trans Qi).trans Ws),Qv.ext (Qi.trans Ws),XB,h.ext V0,h'.ext V0,?_,λad e h0=>?_,λad e h0=>?_⟩
  ·simp only[p];omega
  ·have:=SB.lt h ad e h0;simp only[p];omega
  ·have:=SB.lt h' ad e h0;simp only[p];omega
 refine QC hK.cxb rfl ?_;refine Qp hK.axb rfl ?_;refine Qp hK.bxb rfl ?_;refine call (ST p ha.rd0 hb.rd0 (ra.toNat+rb.toNat+1) ra rb [] w8 hK ⟨[],IX.ext jH,λt=>rfl⟩ (λt ht=>by cases ht) ha.2.1 hb.2.1 (by have:=ha.2.2.1;simp only[p];omega) (by have:=hb.2.2.1;simp only[p];omega) (by have:=ha.2.1;have:=hb.2.1;omega)) ?_;rintro _ w9 ⟨X4,r,rfl,h1,h2⟩;refine⟨r,rfl,X4.ext V0 (λi hi=>by simp only[p] at hi;have:=QQ.size;omega),⟨h1,λhh=>?_⟩⟩;cases r with
 | true=>rfl
 | false=>exact Xd hh (h2 rfl).1
open Classical in
def p7 (a:List Br)(ra:Int)(b:List Br)(rb:Int):Bool:=decide (XK a ra=0/\XK b rb=0/\¬eN a ra b rb)
open Classical in
theorem SU {a:List Br}{ra:Int}{b:List Br}{rb:Int}:p7 a ra b rb=true↔XK a ra=0/\XK b rb=0/\¬eN a ra b rb:=by unfold p7;exact decide_eq_true_iff
theorem SV {a:List Br}{ra:Int}{b:List Br}{rb:Int}(h:XK a ra=0/\XK b rb=0/\¬eN a ra b rb):p7 a ra b rb=true:=SU.2 h
theorem GH {a:List Br}{ra:Int}{b:List Br}{rb:Int}(h:¬(XK a ra=0/\XK b rb=0/\¬eN a ra b rb)):p7 a ra b rb=false:=by
 cases hh:p7 a ra b rb with
 | false=>rfl
 | true=>exact Xd (SU.1 hh) h
theorem SW (A:Option Addr)(n c:Nat)(a:List Br)(ra:Int)(B:Option Addr)(m d:Nat)(b:List Br)(rb:Int)(w:World)(h:SB w A n c a)(h':SB w B m d b):
  Fn Tryz.prog 97 [Xg A n c ra,Xg B m d rb] w (λu w'=>u= .bool (p7 a ra b rb)/\Ext w w'):=by
 refine Qx (c:={c97 with cuts:=[]}) Qa Tryz.func97 rfl rfl rfl ?_;refine new (λw1 Qd Q3 Qh=>?_);refine new (λw2 Qg X0 Qv=>?_);have QT:=Qd.trans Qg;refine Qs (Qh.ext Qg) rfl ?_;refine Qs Qv rfl ?_;refine Xm Qa [(⟨A,n,c,a,ra⟩:DV).cells,(⟨B,m,d,b,rb⟩:DV).cells] rfl rfl rfl rfl rfl ⟨rfl,rfl,rfl,rfl,⟨⟩⟩ rfl (λcs h=>by simp only[Q0,Jk,Jm] at h;rcases h with rfl | rfl<;>rfl) rfl (by decide) (by decide) ?_;intro w5 Qz Kw QL;have J6:=QT.trans Qz;have hL:SlS DV.cells 2 w5 (some ⟨w2.heap.size,0,none⟩) 2 2 [⟨A,n,c,a,ra⟩,⟨B,m,d,b,rb⟩]:=⟨Sl.own (sz:=2) (n:=2) QL (QD _) (by decide) (by simp[DV.cells]),rfl⟩
 refine call (Bo _ 2 2 _ w5 hL (λx hx=>by
  simp only[Q0,Jk,Jm] at hx;rcases hx with rfl | rfl
  ·exact h.ext J6
  ·exact h'.ext J6)) ?_
 rintro v w6 ⟨rfl,Xh⟩;have XD:=J6.trans Xh;have ef:a8 [(⟨A,n,c,a,ra⟩:DV),⟨B,m,d,b,rb⟩]=if XK a ra≠0 then XK a ra else if XK b rb≠0 then XK b rb else 0:=rfl
 have iz:a8 [(⟨A,n,c,a,ra⟩:DV),⟨B,m,d,b,rb⟩]=0↔XK a ra=0/\XK b rb=0:=by
  rw[ef];by_cases h1:XK a ra=0
  ·rw[if_neg (λhh=>hh h1)];by_cases h2:XK b rb=0
   ·rw[if_neg (λhh=>hh h2)];simp[h1,h2]
   ·rw[Qf h2];simp[h2]
  ·rw[Qf h1];simp[h1]
 refine XU (λc1=>?_) (λc1=>?_)
 ·obtain⟨ca,cb⟩:=iz.1 c1;refine Qs ((Qh.ext Qg).ext (Qz.trans Xh)) rfl ?_;refine Qs (Qv.ext (Qz.trans Xh)) rfl ?_;refine call (hQf A n c a ra B m d b rb w6 (h.ext XD) (h'.ext XD) (gf.1 ca).2 (gf.1 cb).2) ?_;rintro _ w7 ⟨r,rfl,QY,hr⟩;refine⟨?_,XD.trans QY⟩;cases r with
  | true=>rw[GH (λhh=>hh.2.2 (hr.1 rfl))]<;>rfl
  | false=>rw[SV ⟨ca,cb,λhh=>by have:=hr.2 hh;cases this⟩];rfl
 ·exact⟨by rw[GH (λhh=>c1 (iz.2 ⟨hh.1,hh.2.1⟩))],XD⟩
def ixV (l:List Nat):List Value:=l.map (λ(i:Nat)=>Value.int .i64 i)
end
section
def eO (a:List Br)(x:Int)(b:List Br)(y:Int):Prop:=∃e,ev a x e=true/\ev b y e=false
theorem hQg {a b:List Br}(ha:Rd0 a)(hb:Rd0 b){x y:Int}(x0:0<=x)(x1:x<a.length+2)(y0:0<=y)(y1:y<b.length+2){v:Int}(hv:v=min (Ql a x) (Ql b y))(dS:v<64):
  eO a x b y↔eO a (Qm a x v).1 b (Qm b y v).1∨eO a (Qm a x v).2 b (Qm b y v).2:=by
 have l1:v<=Ql a x:=by rw[hv,Z5];split<;>omega
 have l2:v<=Ql b y:=by rw[hv,Z5];split<;>omega
 obtain⟨p1,p2,p3,p4,p5⟩:=ti ha x0 x1 l1 dS;obtain⟨q1,q2,q3,q4,q5⟩:=ti hb y0 y1 l2 dS;have v0:0<=v:=by
  have:=ha.lvl0 x1;have:=hb.lvl0 y1;rw[hv,Z5];split<;>omega
 constructor
 ·rintro⟨e,e1,e2⟩;rw[p1] at e1;rw[q1] at e2;cases he:e v.toNat with
  | true=>rw[he,Qf rfl] at e1 e2;exact .inr ⟨e,e1,e2⟩
  | false=>rw[he,if_neg (by decide)] at e1 e2;exact .inl ⟨e,e1,e2⟩
 ·rintro(⟨e,e1,e2⟩ | ⟨e,e1,e2⟩)
  ·refine⟨Yx e v.toNat false,?_,?_⟩
   ·rw[p1,show Yx e v.toNat false v.toNat=false from Qf rfl,if_neg (by decide),dJ ha v.toNat false e _ _ (ez _) p4 (by omega)];exact e1
   ·rw[q1,show Yx e v.toNat false v.toNat=false from Qf rfl,if_neg (by decide),dJ hb v.toNat false e _ _ (ez _) q4 (by omega)];exact e2
  ·refine⟨Yx e v.toNat true,?_,?_⟩
   ·rw[p1,show Yx e v.toNat true v.toNat=true from Qf rfl,Qf rfl,dJ ha v.toNat true e _ _ (ez _) p5 (by omega)];exact e1
   ·rw[q1,show Yx e v.toNat true v.toNat=true from Qf rfl,Qf rfl,dJ hb v.toNat true e _ _ (ez _) q5 (by omega)];exact e2
structure MPn where
 D:DV
 E:DV
 bo:Nat
 sx:Nat
 ax:Nat
 bx:Nat
 cx:Nat
 q:Nat
def MPn.caps (p:MPn):List Value:=[VP.ptr p.bo,VP.ptr p.sx,VP.ptr p.ax,VP.ptr p.bx,VP.ptr p.cx]
def MPn.clo (p:MPn):Value:=.func (.func 166) #[] #[VP.ptr p.bo,VP.ptr p.sx,VP.ptr p.ax,VP.ptr p.bx,VP.ptr p.cx]
structure MKn (w:World) (p:MPn):Prop where
 bob:Blk w p.bo 4 [.bool false]
 sxb:Blk w p.sx 251 [.map (some p.q)]
 axb:Blk w p.ax 32 p.D.cells
 bxb:Blk w p.bx 32 p.E.cells
 cxb:Blk w p.cx 252 [p.clo]
 as_:SB w p.D.A p.D.n p.D.c p.D.nd
 bs:SB w p.E.A p.E.n p.E.c p.E.nd
 off:p.bo≠p.q/\p.sx≠p.q/\p.ax≠p.q/\p.bx≠p.q/\p.cx≠p.q
 rowA:∀ad,p.D.A=some ad->0<p.D.n->ad.block≠p.q
 rowB:∀ad,p.E.A=some ad->0<p.E.n->ad.block≠p.q
theorem MKn.mod {w w':World}{p:MPn}(h:MKn w p)(hm:Mod (·=p.q) w w'):MKn w' p:=by
 obtain⟨o1,o2,o3,o4,o5⟩:=h.off;refine⟨h.bob.mod hm o1,h.sxb.mod hm o2,h.axb.mod hm o3,h.bxb.mod hm o4,h.cxb.mod hm o5,⟨h.as_.1.modS hm ?_,h.as_.2⟩,⟨h.bs.1.modS hm ?_,h.bs.2⟩,h.off,h.rowA,h.rowB⟩
 ·rintro h0 i ⟨ad,e,rfl⟩;exact h.rowA ad e h0
 ·rintro h0 i ⟨ad,e,rfl⟩;exact h.rowB ad e h0
theorem MKn.ext {w w':World}{p:MPn}(h:MKn w p)(k:Ext w w'):MKn w' p:=h.mod (Mod.of_ext _ k)
def hQh (p:MPn)(x y:Int)(S:List I2)(w:World)(v:Value)(w':World):Prop:=
 Mod (·=p.q) w w'/\∃r:Bool,v= .bool r/\(r=true->eO p.D.nd x p.E.nd y)/\(r=false->¬eO p.D.nd x p.E.nd y/\∃S',m3 w' p.q S'/\∀t∈S',t∈S∨¬eO p.D.nd t.1 p.E.nd t.2)
theorem SY (p:MPn)(ha:Rd0 p.D.nd)(hb:Rd0 p.E.nd):∀(k:Nat)(x y:Int)(S:List I2)(w:World),
  MKn w p->m3 w p.q S->(∀t∈S,t.1+t.2<=x+y->¬eO p.D.nd t.1 p.E.nd t.2)->0<=x->0<=y->x<p.D.n+2->y<p.E.n+2->x+y<k->
  Fn Tryz.prog 166 (.int .i64 x:: .int .i64 y::p.caps) w (hQh p x y S w)
 | 0,x,y,_,_,_,_,_,x0,y0,_,_,hk=>by omega
 | k+1,x,y,S,w,hK,hS,Xa,x0,y0,hx,hy,hk=>by
  have ih:=SY p ha hb k;have Ka:p.D.nd.length=p.D.n:=hK.as_.2;have aR:p.E.nd.length=p.E.n:=hK.bs.2;refine Qx (c:={O3 with cuts:=[]}) Qa Tryz.func166 rfl rfl rfl ?_;refine XU (λc1=>?_) (λc1=>?_)
  ·exact⟨Mod.refl _ _,false,rfl,λh=>(by cases h),λ_=>⟨(λ⟨e,e1,_⟩=>by rw[c1,JP (by decide)] at e1;cases e1),S,hS,λt ht=>.inl ht⟩⟩
  refine Qt (λc2=>?_) (λc2=>?_)
  ·refine QC hK.bob rfl ?_;by_cases y1:y=1
   ·subst y1;refine Xe rfl ?_;exact⟨Mod.refl _ _,false,rfl,λh=>(by cases h),λ_=>⟨(λ⟨e,_,e1⟩=>by rw[JP (by decide)] at e1;cases e1),S,hS,λt ht=>.inl ht⟩⟩
   ·have IU:y=0:=by omega
    subst IU;refine Xv rfl ?_;refine Zd c2 ?_;refine⟨Mod.refl _ _,true,rfl,λ_=>?_,λh=>by cases h⟩;obtain⟨e,he⟩:=SS ha x0 (by omega) c1;exact⟨e,he,by rw[JP (by decide)];rfl⟩
  refine Xx c2 ?_;obtain⟨mq,ei,Vg⟩:=hS;refine QC hK.sxb rfl ?_;refine FM (kv:=gY) (a:=((x,y):I2)) Qa rfl rfl rfl rfl BJ rfl rfl ei (Vg (x,y)) ?_;refine Qt (λc3=>?_) (λc3=>?_)
  ·exact⟨Mod.refl _ _,false,rfl,λh=>(by cases h),λ_=>⟨Xa (x,y) c3 (mv _),S,⟨mq,ei,Vg⟩,λt ht=>.inl ht⟩⟩
  refine QC hK.sxb rfl ?_;refine sS (kv:=gY) (a:=((x,y):I2)) Qa rfl rfl rfl rfl BJ rfl rfl rfl ei (λw1 eX Q3 nY=>?_);have Kj:=hK.mod eX;have J7:m3 w1 p.q ((x,y)::S):=⟨_,nY,λt=>by
   rw[aY];by_cases ht:t=(x,y)
   ·subst ht;simp
   ·rw[if_neg ht,Vg t];simp[ht]⟩
  have ZD:min (Ql p.D.nd x) (Ql p.E.nd y)<64:=by
   have:=aE hb.dok (n:=y) c2 (by omega);rw[Z5];split<;>omega
  have lm:=ha.lvl0 (n:=x) (by omega);have XL:=hb.lvl0 (n:=y) (by omega);refine Xy Qa (Ext w1) 8 [(true,0),(true,1),(true,3),(true,4),(false,2),(false,5),(true,6),(true,7)] (by kernel_rfl) (Ext.drew w1) ?_;refine Xr (vs:=p.D.cells) rfl (λw' Qb j v hj=>by rw[(Kj.axb.ext Qb).cell];exact hj) ?_;refine Xr (vs:=p.E.cells) rfl (λw' Qb j v hj=>by rw[(Kj.bxb.ext Qb).cell];exact hj) ?_;refine call (dF p.D.A p.D.n p.D.c p.D.r x p.D.nd _ (Kj.as_.ext (Ext.drew w1)) (by omega)) ?_;rintro u w2 ⟨rfl,Qg⟩;have Xu:=(Ext.drew w1).trans Qg;refine⟨Xu,?_⟩;refine call (dF p.E.A p.E.n p.E.c p.E.r y p.E.nd _ (Kj.bs.ext Xu) (by omega)) ?_;rintro u w3 ⟨rfl,Qi⟩;have Xq:=Xu.trans Qi;refine⟨Xq,?_⟩;have oJ:(if Ql p.E.nd y<Ql p.D.nd x then Ql p.E.nd y else Ql p.D.nd x)=min (Ql p.D.nd x) (Ql p.E.nd y):=by
   rw[Z5];split<;>split<;>omega
  refine norm (m:=min (Ql p.D.nd x) (Ql p.E.nd y)) oJ ?_;have rS:=hQg ha hb x0 (by omega) y0 (by omega) (rfl:min (Ql p.D.nd x) (Ql p.E.nd y)=_) ZD;have fL:Ql p.D.nd x=min (Ql p.D.nd x) (Ql p.E.nd y)∨Ql p.E.nd y=min (Ql p.D.nd x) (Ql p.E.nd y):=by rw[Z5];split<;>simp
  generalize yY:min (Ql p.D.nd x) (Ql p.E.nd y)=v at*;obtain⟨s1,s2,s3,s4,s5⟩:=WC ha.dok (n:=x) x0 ZD;obtain⟨t1,t2,t3,t4,t5⟩:=WC hb.dok (n:=y) y0 ZD;have dec:(Qm p.D.nd x v).1+(Qm p.E.nd y v).1<x+y/\(Qm p.D.nd x v).2+(Qm p.E.nd y v).2<x+y:=by
   rcases fL with e | e
   ·have:=s5 e;omega
   ·have:=t5 e;omega
  have fc:=Kj.ext Xq;refine Qs fc.axb rfl ?_;refine call (jk p.D.A p.D.n p.D.c p.D.r x v p.D.nd _ fc.as_ (by omega) ZD) ?_;rintro u w4 ⟨rfl,Qq⟩;have VZ:=fc.ext Qq;refine Qs VZ.bxb rfl ?_;refine call (jk p.E.A p.E.n p.E.c p.E.r y v p.E.nd _ VZ.bs (by omega) ZD) ?_;rintro u w5 ⟨rfl,Qz⟩;have jA:=VZ.ext Qz;have VF:=(Xq.trans Qq).trans Qz;have Z9:Mod (·=p.q) w w5:=eX.trans (Mod.of_ext (·=p.q) VF) (λi hi=>.inl hi);have fd:m3 w5 p.q ((x,y)::S):=let ⟨m,k1,k2⟩:=J7;⟨m,k1.ext VF,k2⟩;refine QC jA.cxb rfl ?_;refine call (ih (Qm p.D.nd x v).1 (Qm p.E.nd y v).1 ((x,y)::S) w5 jA fd (λt ht ZO=>by
   rcases Q0.1 ht with rfl | ht
   ·exact Xd ZO (by simp only;omega)
   ·exact Xa t ht (by omega)) s1 t1 (by omega) (by omega) (by omega)) ?_
  rintro _ w6 ⟨J5,r0,rfl,xe,iz⟩;have xY:Mod (·=p.q) w w6:=Z9.trans J5 (λi hi=>.inl hi);cases r0 with
  | true=>
   refine Xe rfl ?_;exact⟨xY,true,rfl,λ_=>rS.2 (.inl (xe rfl)),λh=>by cases h⟩
  | false=>
   obtain⟨n0,S6,jC,xZ⟩:=iz rfl;refine Xv rfl ?_;have bW:=jA.mod J5;refine QC bW.cxb rfl ?_;refine call (ih (Qm p.D.nd x v).2 (Qm p.E.nd y v).2 S6 w6 bW jC (λt ht ZO=>by
    rcases xZ t ht with ht | ht
    ·rcases Q0.1 ht with rfl | ht
     ·exact Xd ZO (by simp only;omega)
     ·exact Xa t ht (by omega)
    ·exact ht) s3 t3 (by omega) (by omega) (by omega)) ?_
   rintro _ w7 ⟨Xi,r1,rfl,fh,ZN⟩;have IV:Mod (·=p.q) w w7:=xY.trans Xi (λi hi=>.inl hi);refine⟨IV,r1,rfl,λh=>rS.2 (.inr (fh h)),λh=>?_⟩;obtain⟨n1,S7,KF,IW⟩:=ZN h;have nn:¬eO p.D.nd x p.E.nd y:=λhh=>(rS.1 hh).elim n0 n1
   refine⟨nn,S7,KF,λt ht=>?_⟩;rcases IW t ht with ht | ht
   ·rcases xZ t ht with ht | ht
    ·rcases Q0.1 ht with rfl | ht
     ·exact .inr nn
     ·exact .inl ht
    ·exact .inr ht
   ·exact .inr ht
theorem hQi (A:Option Addr)(n c:Nat)(a:List Br)(ra:Int)(B:Option Addr)(m d:Nat)(b:List Br)(rb:Int)(w:World)(h:SB w A n c a)(h':SB w B m d b)(ha:VD a ra)(hb:VD b rb):
  Fn Tryz.prog 112 [Xg A n c ra,Xg B m d rb,.bool false] w (λu w'=>∃r:Bool,u= .bool r/\Ext w w'/\(r=true↔eO a ra b rb)):=by
 have Ka:=h.2;have aR:=h'.2;refine Qx (c:={O0 with cuts:=[]}) Qa Tryz.func112 rfl rfl rfl ?_;refine new (λw1 Qd Q3 Qh=>?_);refine new (λw2 Qg X0 Qv=>?_);refine new (λw3 Qi JF Qw=>?_);have QQ:=(Qd.trans Qg).trans Qi;refine sN Qa gY rfl ?_;intro w4 Qq K5 IX;refine new (λw5 Qz Kw QL=>?_);refine KM QL (by decide) (λw6 J5 Xj=>?_);have XF:Ext w4 w6:=J5.ext Qz (λi hi=>by omega);refine new (λw7 QY WF Q4=>?_);refine KM Q4 (by decide) (λw8 Zo XB=>?_);have Wq:Ext w6 w8:=Zo.ext QY (λi hi=>by omega);have jH:=XF.trans Wq;have Ws:=Qq.trans jH;have V0:=QQ.trans Ws;have z6:=XF.size
 let p:MPn:=⟨⟨A,n,c,a,ra⟩,⟨B,m,d,b,rb⟩,w2.heap.size,w4.heap.size,w.heap.size,w1.heap.size,w6.heap.size,w3.heap.size⟩
 have hK:MKn w8 p:=by
  refine⟨Qw.ext Ws,Xj.ext Wq,Qh.ext ((Qg.trans Qi).trans Ws),Qv.ext (Qi.trans Ws),XB,h.ext V0,h'.ext V0,?_,λad e h0=>?_,λad e h0=>?_⟩
  ·simp only[p];omega
  ·have:=SB.lt h ad e h0;simp only[p];omega
  ·have:=SB.lt h' ad e h0;simp only[p];omega
 refine QC hK.cxb rfl ?_;refine Qp hK.axb rfl ?_;refine Qp hK.bxb rfl ?_;refine call (SY p ha.rd0 hb.rd0 (ra.toNat+rb.toNat+1) ra rb [] w8 hK ⟨[],IX.ext jH,λt=>rfl⟩ (λt ht=>by cases ht) ha.2.1 hb.2.1 (by have:=ha.2.2.1;simp only[p];omega) (by have:=hb.2.2.1;simp only[p];omega) (by have:=ha.2.1;have:=hb.2.1;omega)) ?_;rintro _ w9 ⟨X4,r,rfl,h1,h2⟩;refine⟨r,rfl,X4.ext V0 (λi hi=>by simp only[p] at hi;have:=QQ.size;omega),⟨h1,λhh=>?_⟩⟩;cases r with
 | true=>rfl
 | false=>exact Xd hh (h2 rfl).1
open Classical in
def gZ (a:List Br)(ra:Int)(b:List Br)(rb:Int):Bool:=decide (XK a ra=0/\XK b rb=0/\¬eO a ra b rb)
open Classical in
theorem GI {a:List Br}{ra:Int}{b:List Br}{rb:Int}:gZ a ra b rb=true↔XK a ra=0/\XK b rb=0/\¬eO a ra b rb:=by unfold gZ;exact decide_eq_true_iff
theorem hQj {a:List Br}{ra:Int}{b:List Br}{rb:Int}(h:XK a ra=0/\XK b rb=0/\¬eO a ra b rb):gZ a ra b rb=true:=GI.2 h
theorem SZ {a:List Br}{ra:Int}{b:List Br}{rb:Int}(h:¬(XK a ra=0/\XK b rb=0/\¬eO a ra b rb)):gZ a ra b rb=false:=by
 cases hh:gZ a ra b rb with
 | false=>rfl
 | true=>exact Xd (GI.1 hh) h
theorem S3 (A:Option Addr)(n c:Nat)(a:List Br)(ra:Int)(B:Option Addr)(m d:Nat)(b:List Br)(rb:Int)(w:World)(h:SB w A n c a)(h':SB w B m d b):
  Fn Tryz.prog 62 [Xg A n c ra,Xg B m d rb] w (λu w'=>u= .bool (gZ a ra b rb)/\Ext w w'):=by
 refine Qx (c:={c62 with cuts:=[]}) Qa Tryz.func62 rfl rfl rfl ?_;refine new (λw1 Qd Q3 Qh=>?_);refine new (λw2 Qg X0 Qv=>?_);have QT:=Qd.trans Qg;refine Qs (Qh.ext Qg) rfl ?_;refine Qs Qv rfl ?_;refine Xm Qa [(⟨A,n,c,a,ra⟩:DV).cells,(⟨B,m,d,b,rb⟩:DV).cells] rfl rfl rfl rfl rfl ⟨rfl,rfl,rfl,rfl,⟨⟩⟩ rfl (λcs h=>by simp only[Q0,Jk,Jm] at h;rcases h with rfl | rfl<;>rfl) rfl (by decide) (by decide) ?_;intro w5 Qz Kw QL;have J6:=QT.trans Qz;have hL:SlS DV.cells 2 w5 (some ⟨w2.heap.size,0,none⟩) 2 2 [⟨A,n,c,a,ra⟩,⟨B,m,d,b,rb⟩]:=⟨Sl.own (sz:=2) (n:=2) QL (QD _) (by decide) (by simp[DV.cells]),rfl⟩
 refine call (Bo _ 2 2 _ w5 hL (λx hx=>by
  simp only[Q0,Jk,Jm] at hx;rcases hx with rfl | rfl
  ·exact h.ext J6
  ·exact h'.ext J6)) ?_
 rintro v w6 ⟨rfl,Xh⟩;have XD:=J6.trans Xh;have ef:a8 [(⟨A,n,c,a,ra⟩:DV),⟨B,m,d,b,rb⟩]=if XK a ra≠0 then XK a ra else if XK b rb≠0 then XK b rb else 0:=rfl
 have iz:a8 [(⟨A,n,c,a,ra⟩:DV),⟨B,m,d,b,rb⟩]=0↔XK a ra=0/\XK b rb=0:=by
  rw[ef];by_cases h1:XK a ra=0
  ·rw[if_neg (λhh=>hh h1)];by_cases h2:XK b rb=0
   ·rw[if_neg (λhh=>hh h2)];simp[h1,h2]
   ·rw[Qf h2];simp[h2]
  ·rw[Qf h1];simp[h1]
 refine XU (λc1=>?_) (λc1=>?_)
 ·obtain⟨ca,cb⟩:=iz.1 c1;refine Qs ((Qh.ext Qg).ext (Qz.trans Xh)) rfl ?_;refine Qs (Qv.ext (Qz.trans Xh)) rfl ?_;refine call (hQi A n c a ra B m d b rb w6 (h.ext XD) (h'.ext XD) (gf.1 ca).2 (gf.1 cb).2) ?_;rintro _ w7 ⟨r,rfl,QY,hr⟩;refine⟨?_,XD.trans QY⟩;cases r with
  | true=>rw[SZ (λhh=>hh.2.2 (hr.1 rfl))]<;>rfl
  | false=>rw[hQj ⟨ca,cb,λhh=>by have:=hr.2 hh;cases this⟩];rfl
 ·exact⟨by rw[SZ (λhh=>c1 (iz.2 ⟨hh.1,hh.2.1⟩))],XD⟩
end
theorem BK (l:List Nat)(w:World)(hl:∀x∈l,x<256):
  Fn Tryz.prog 47 [.string (Qe l)] w (λu w'=>u= .bool (YF l)/\Ext w w'):=by
 refine Qx (c:={c47 with cuts:=[]}) Qa Tryz.func47 rfl rfl rfl ?_;refine Xm Qa ([ZH,pElif,pInc].map (λs=>[Value.string (Qe s)])) rfl rfl rfl rfl rfl ⟨rfl,rfl,rfl,rfl,rfl,rfl,⟨⟩⟩ rfl (λcs h=>by simp only[ZM] at h;obtain⟨s,_,rfl⟩:=h;rfl) rfl (by decide) (by decide) ?_;intro w1 Qd Q3 Qh;refine loop Qa [7] (λi:Nat=>[.int .i64 i]) (λi w'=>w1=w'/\i<=3/\([ZH,pElif,pInc].take i).any (λp=>p.isPrefixOf l)=false) (λi _=>3-i) 0 rfl ⟨rfl,Xt _,rfl⟩ ?_;rintro i _ ⟨rfl,hi,Xa⟩;by_cases h3:i<3
 ·refine Zd (show((i:Nat):Int)<3 by omega) ?_;obtain⟨p,hp⟩:∃p,([ZH,pElif,pInc]:List (List Nat))[i]? =some p:=⟨_,Xb (show i<3 from h3)⟩
  have hp8:∀x∈p,x<256:=by
   have:∀q∈([ZH,pElif,pInc]:List (List Nat)),∀x∈q,x<256:=by decide
   exact this p (Q2 hp)
  refine index (j:=i) h3 ?_;refine Qp (v:=.string (Qe p)) Qh (by
   rcases(show i=0∨i=1∨i=2 by omega)with rfl | rfl | rfl<;>(cases hp;rfl)) ?_
  refine call (Gt l p w1 hl hp8) ?_;rintro _ _ ⟨rfl,rfl⟩;refine Kq (λd1=>?_) (λd1=>?_)
  ·refine⟨?_,Qd⟩;have d1:p.isPrefixOf l=true:=d1;have hm:=Q2 hp;simp only[Q0,Jk,Jm] at hm;unfold YF;rcases hm with rfl | rfl | rfl<;>rw[d1]<;>simp
  ·have d1:p.isPrefixOf l=false:=d1;refine Qj ((i+1:Nat):Int) (by show((i:Nat):Int)+1=_;omega) (by omega) ?_;refine⟨i+1,rfl,⟨rfl,by omega,?_⟩,by show 3-(i+1)<3-i;omega⟩;rw[KC,hp,List.any_append,Xa];simp[d1]
 ·have hi3:i=3:=by omega
  subst hi3;refine Xx (by decide) ?_;have Xa:(ZH.isPrefixOf l||(pElif.isPrefixOf l||(pInc.isPrefixOf l||false)))=false:=Xa;simp only[Bool.or_eq_false_iff] at Xa;obtain⟨n1,n2,n3,_⟩:=Xa;have e:YF l=(decide (l=Vl++ [10])||decide (l=Zq++ [10])):=by unfold YF;rw[n1,n2,n3]<;>rfl
  have q1:(Qe l=(Qe (Vl++ [10])))↔l=Vl++ [10]:=⟨λhh=>Z6 hl (by decide) hh,λhh=>by rw[hh]⟩
  have q2:(Qe l=(Qe (Zq++ [10])))↔l=Zq++ [10]:=⟨λhh=>Z6 hl (by decide) hh,λhh=>by rw[hh]⟩
  by_cases c1:l=Vl++ [10]
  ·refine Zd (q1.2 c1) ?_;exact⟨by rw[e,XT c1];rfl,Qd⟩
  ·refine Xx (λhh=>c1 (q1.1 hh)) ?_;refine⟨?_,Qd⟩;rw[e,XS c1,Bool.false_or];by_cases c2:l=Zq++ [10]
   ·rw[XT c2];exact QO Value.bool (XT (q2.2 c2))
   ·rw[XS c2];exact QO Value.bool (XS (λhh=>c2 (q2.1 hh)))
theorem hQk (l:List Nat)(w:World)(hl:∀x∈l,x<256)(Xf:l.length<=1000000000000):
  Fn Tryz.prog 168 [.string (Qe l),.string (Qe [10])] w (λv w'=>v= .bool (l.getLast? ==some 10)/\w=w'):=by
 have XG:=XC l;refine Qx (c:=dQv) Qa Tryz.func168 rfl rfl rfl ?_;have h1:(Qe [10]).size=1:=rfl;refine Qt (λc1=>?_) (λc1=>?_)
 ·have Y1:1<=l.length:=by omega
  refine Qj ((l.length-1:Nat):Int) (by omega) (by omega) ?_;refine Jz (v':=.string (Qe (l.drop (l.length-1)))) ⟨by omega,by rw[XG];omega,by rw[XG];omega⟩ (by
   rw[Vc,XG];show Value.string (Qe ((l.take l.length).drop _))=_;rw[Zz (QD _)];rfl) ?_
  refine⟨?_,rfl⟩;obtain⟨a,b,rfl⟩:∃a b,l=a++ [b]:=by
   rcases vq l with e | ⟨a,b,e⟩
   ·subst e;simp at Y1
   ·exact⟨a,b,by rw[e,List.concat_eq_append]⟩
  have e1:(a++ [b]).drop ((a++ [b]).length-1)=[b]:=by simp
  rw[e1];have hb:b<256:=hl b (by simp);rw[List.getLast?_concat];by_cases qS:b=10
  ·subst qS;simp
  ·have:¬Qe [b]=Qe [10]:=λhh=>qS (by
    have:=Z6 (l:=[b]) (m:=[10]) (by simpa using hb) (by decide) hh;simpa using this)
   simp[this,qS]
 ·have lm:l=[]:=Ys (by omega);subst lm;exact⟨rfl,rfl⟩
theorem hQm (l:List Nat)(w:World)(hl:∀x∈l,x<256)(Xf:l.length<=1000000000000):
  Fn Tryz.prog 113 [.string (Qe l),.string (Qe [10])] w (λv w'=>v= .bool (l.getLast? ==some 10)/\w=w'):=by
 refine Qx (c:=cQP) Qa Tryz.func113 rfl rfl rfl ?_;refine call (hQk l w hl Xf) ?_;rintro _ _ ⟨rfl,rfl⟩;exact⟨rfl,rfl⟩
end
section
variable {nm:List (List Nat)} {n:Nat}
def Xw (nm:List (List Nat))(f:Nat->List Nat):Nat->Nat->List Nat->List (List Nat)
 | 0,_,l=>QZ (f (l.headD 0))
 | k+1,v,l=>if∀c∈l,f c=f (l.headD 0)then QZ (f (l.headD 0))else
  if l.filter (λc=> !c.testBit v)=[]∨l.filter (λc=>c.testBit v)=[] then Xw nm f k (v+1) l else
  if Xw nm f k (v+1) (l.filter (λc=>c.testBit v))=Xw nm f k (v+1) (l.filter (λc=> !c.testBit v))then Xw nm f k (v+1) (l.filter (λc=>c.testBit v))else
  YE nm v (Xw nm f k (v+1) (l.filter (λc=>c.testBit v))) (Xw nm f k (v+1) (l.filter (λc=> !c.testBit v)))
theorem BL {l:List Nat}(h:l≠ []):l.headD 0∈l:=by
 cases l with
 | nil=>exact Xd rfl h
 | cons a l=>simp
theorem tM {f:Nat->List Nat}{l:List Nat}(hl:l≠ []){t:List Nat}(h:∀c∈l,f c=t):∀k v,Xw nm f k v l=QZ t:=by
 have h0:=h _ (BL hl);intro k v;cases k with
 | zero=>rw[Xw,h0]
 | succ k=>rw[Xw,Qf (λc hc=>by rw[h c hc,h0]),h0]
theorem tN {f:Nat->List Nat}{l:List Nat}(hl:l≠ [])(k v:Nat):Xw nm f (k+1) v l=
  if l.filter (λc=> !c.testBit v)=[]∨l.filter (λc=>c.testBit v)=[] then Xw nm f k (v+1) l else
  if Xw nm f k (v+1) (l.filter (λc=>c.testBit v))=Xw nm f k (v+1) (l.filter (λc=> !c.testBit v))then Xw nm f k (v+1) (l.filter (λc=>c.testBit v))else
  YE nm v (Xw nm f k (v+1) (l.filter (λc=>c.testBit v))) (Xw nm f k (v+1) (l.filter (λc=> !c.testBit v))):=by
 by_cases hc:∀c∈l,f c=f (l.headD 0)
 ·rw[tM hl hc,tM hl hc];split
  ·rfl
  ·rename_i h;have h1:l.filter (λc=> !c.testBit v)≠ []:=λe=>h (.inl e)
   have h2:l.filter (λc=>c.testBit v)≠ []:=λe=>h (.inr e)
   rw[tM h1 (λc hm=>hc c (Va.1 hm).1),tM h2 (λc hm=>hc c (Va.1 hm).1),Qf rfl]
 ·rw[Xw,if_neg hc]
def Apt (l:List Nat)(v k:Nat):Prop:=∀c∈l,∀c'∈l,(∀i,v<=i->i<v+k->c.testBit i=c'.testBit i)->c=c'
theorem Apt.sub {l m:List Nat}{v k:Nat}(h:Apt l v (k+1))(hm:∀c∈m,c∈l)(he:∀c∈m,∀c'∈m,c.testBit v=c'.testBit v):Apt m (v+1) k:=λc hc c' Kl hb=>h c (hm c hc) c' (hm c' Kl) (λi h1 h2=>by
 by_cases e:i=v
 ·subst e;exact he c hc c' Kl
 ·exact hb i (by omega) (by omega))
end
section
section
def ChG:Nat->List Sg->Nat->Prop
 | a,[],b=>a=b
 | a,s::l,b=>s.f=a/\ChG s.t l b
theorem ChG.snoc {x:Sg}:∀{l:List Sg}{a b:Nat},ChG a (l++ [x]) b↔ChG a l x.f/\x.t=b
 | [],a,b=>by simp only[dw,ChG];exact⟨λh=>⟨h.1.symm,h.2⟩,λh=>⟨h.1.symm,h.2⟩⟩
 | s::l,a,b=>by
  simp only[YK,ChG];rw[ChG.snoc (l:=l)];exact⟨λh=>⟨⟨h.1,h.2.1⟩,h.2.2⟩,λh=>⟨h.1.1,h.1.2,h.2⟩⟩
structure SgOk (fs:List (List Nat×List Nat)) (tx:List Nat) (s:Sg):Prop where
 ft:s.f<s.t
 tl:s.t<=tx.length
 nl:tx[s.t-1]? =some 10
 src:∃x,fs[s.fl]? =some x/\s.at_+(s.t-s.f)<=x.2.length/\(x.2.drop s.at_).take (s.t-s.f)=(tx.take s.t).drop s.f
theorem SgOk.app {fs:List (List Nat×List Nat)}{tx:List Nat}{s:Sg}(h:SgOk fs tx s)(l:List Nat):SgOk fs (tx++l) s:=by
 obtain⟨h1,h2,h3,x,h4,h5,h6⟩:=h;refine⟨h1,by rw[Qy];omega,by rw[ew (by omega)];exact h3,x,h4,h5,?_⟩;rw[NP h2];exact h6
structure GInv (fs:List (List Nat×List Nat)) (g:Gs):Prop where
 ch:ChG 0 g.sg g.tx.length
 ok:∀s∈g.sg,SgOk fs g.tx s
theorem GInv.fr {fs:List (List Nat×List Nat)}{g:Gs}(h:GInv fs g)(b:Bool):GInv fs {g with fr:=b}:=⟨h.ch,h.ok⟩
def m7 (n p:Nat)(k:BF)(g:Gs):Prop:=g.fr=false->∃l x,g.sg=l++ [x]/\x.fl=n/\x.at_+(x.t-x.f)=p/\x.o=k
theorem S4 {fs:List (List Nat×List Nat)}{n p:Nat}{k:BF}{g g':Gs}{s:List Nat}(h:GInv fs g)(hc:m7 n p k g){x:List Nat×List Nat}(hx:fs[n]? =some x)(hs:x.2.drop p=s++x.2.drop (p+s.length))(hp:p+s.length<=x.2.length)(hl:s.getLast? =some 10)
  (ha:Yb s n p k g=some g'):GInv fs g'/\m7 n (p+s.length) k g':=by
 unfold Yb at ha;split at ha
 ·cases ha
 cases ha;have Cv:0<s.length:=by
  cases s with
  | nil=>cases hl
  | cons _ _=>simp
 have Je:(g.tx++s)[g.tx.length+s.length-1]? =some 10:=by
  rw[aU (by omega),show g.tx.length+s.length-1-g.tx.length=s.length-1 by omega,<-pm];exact hl
 cases hf:g.fr with
 | true=>
  rw[Qf rfl,kO];refine⟨⟨?_,λy hy=>?_⟩,λ_=>⟨_,_,rfl,rfl,?_,rfl⟩⟩
  ·simp only;rw[ChG.snoc];exact⟨h.ch,by simp⟩
  ·simp only[XH,QF] at hy;rcases hy with hy | rfl
   ·exact(h.ok y hy).app s
   ·refine⟨by simp only;omega,by simp,Je,x,hx,by simp only;omega,?_⟩;simp only;rw[show g.tx.length+s.length-g.tx.length=s.length by omega,hs,List.take_left,Zz (by simp),zW]
  ·simp only;omega
 | false=>
  rw[if_neg (by decide)];obtain⟨l,y,e,e1,e2,e3⟩:=hc hf;have ZV:=h.ch;have Zm:=h.ok;rw[e] at ZV Zm;rw[ChG.snoc] at ZV;obtain⟨q1,q2,q3,z,q4,q5,q6⟩:=Zm y (by simp);rw[e,kO];have hz:z=x:=by rw[e1,hx] at q4;exact(Option.some.inj q4).symm
  subst hz;refine⟨⟨?_,λu hu=>?_⟩,λ_=>⟨_,_,rfl,e1,?_,e3⟩⟩
  ·simp only;rw[ChG.snoc];exact⟨ZV.1,by simp⟩
  ·simp only[XH,QF] at hu;rcases hu with hu | rfl
   ·exact(Zm u (by simp[hu])).app s
   ·refine⟨by simp only;omega,by simp,Je,z,q4,by simp only;omega,?_⟩;simp only;rw[show g.tx.length+s.length-y.f=(y.t-y.f)+s.length by omega,Zz (l:=g.tx++s) (by simp),List.drop_append_of_le_length (by omega)];rw[List.take_add,sj,e2,hs,List.take_left,q6,ZV.2,sk]
  ·simp only;omega
theorem S5 {nm:List (List Nat)}{fs:List (List Nat×List Nat)}{n d0:Nat}{inc:pY}{x:List Nat×List Nat}(hx:fs[n]? =some x)
  (hi:∀r ln d k g g',inc r ln d k g= .ok g'->GInv fs g->GInv fs g'):∀(ls:List (List Nat)) (ln at_:Nat) (k:BF) (op:List Se) (g g':Gs),
  x.2.drop at_=Qo ls->at_<=x.2.length->GInv fs g->m7 n at_ k g->Z2 nm n d0 inc ls ln at_ k op g= .ok g'->GInv fs g'/\g'.fr=true
 | [],ln,at_,k,op,g,g',_,_,hg,_,hr=>by
  cases op with
  | nil=>simp only[Z2,Except.ok.injEq] at hr;subst hr;exact⟨hg.fr true,rfl⟩
  | cons _ _=>simp[Z2] at hr
 | s::ls,ln,at_,k,op,g,g',hd,eo,hg,hc,hr=>by
  have XL:x.2.drop at_=(s++ [10])++Qo ls:=by rw[hd,W0];simp
  have hL:(s++ [10]).length=s.length+1:=by simp
  have Xf:x.2.length-at_=s.length+1+(Qo ls).length:=by
   have:=QO List.length XL;simp only[Y5,Qy,Xs,JI] at this;omega
  have YW:x.2.drop (at_+s.length+1)=Qo ls:=by
   rw[show at_+s.length+1=at_+(s++ [10]).length by simp;omega,<-sj,XL,zW]
  have ih:=λk op g g' h1 h2 h3=>S5 (nm:=nm) (d0:=d0) hx hi ls (ln+1) (at_+s.length+1) k op g g' YW (by omega) h1 h2 h3
  have cf:∀k' (g:Gs),m7 n (at_+s.length+1) k' {g with fr:=true}:=λk' g h=>by cases h
  rw[Z2.eq_def] at hr;simp only at hr;cases Za:JC s with
  | txt=>
   rw[Za] at hr;simp only at hr;cases ha:Yb (s++ [10]) n at_ k g with
   | none=>rw[ha] at hr;cases hr
   | some g1=>
    rw[ha] at hr;simp only at hr;obtain⟨i1,i2⟩:=S4 hg hc hx (by rw[hL,<-pi,YW];exact XL) (by rw[hL];omega) (by simp) ha;exact ih k op g1 g' i1 (by rw[hL,<-pi] at i2;exact i2) hr
  | ifd r=>
   rw[Za] at hr;simp only at hr;cases hs:YT nm r with
   | error e=>rw[hs] at hr;cases hr
   | ok d=>
    rw[hs] at hr;simp only at hr;split at hr
    ·cases hr
    ·exact ih _ _ _ _ (hg.fr true) (cf _ _) hr
  | inc r=>
   rw[Za] at hr;simp only at hr;cases hs:inc r (ln+1) (d0+op.length) k g with
   | error e=>rw[hs] at hr;cases hr
   | ok g1=>
    rw[hs] at hr;exact ih _ _ _ _ ((hi _ _ _ _ _ _ hs hg).fr true) (cf _ _) hr
  | elif r=>
   rw[Za] at hr;cases op with
   | nil=>cases hr
   | cons y op=>
    simp only at hr;split at hr
    ·cases hr
    ·cases hs:YT nm r with
     | error e=>rw[hs] at hr;cases hr
     | ok d=>rw[hs] at hr;exact ih _ _ _ _ (hg.fr true) (cf _ _) hr
  | els=>
   rw[Za] at hr;cases op with
   | nil=>cases hr
   | cons y op=>
    simp only at hr;split at hr
    ·cases hr
    ·exact ih _ _ _ _ (hg.fr true) (cf _ _) hr
  | en=>
   rw[Za] at hr;cases op with
   | nil=>cases hr
   | cons y op=>exact ih _ _ _ _ (hg.fr true) (cf _ _) hr
theorem S8 {nm:List (List Nat)}{fs:List (List Nat×List Nat)}(hf:∀x∈fs,YC x.2):∀(f:Nat)(rd:List Nat)(d n:Nat)(k:BF)(g g':Gs),n<fs.length->GInv fs g->be nm fs f rd d n k g= .ok g'->GInv fs g'/\g'.fr=true
 | 0,_,_,_,_,_,_,_,_,hr=>by cases hr
 | f+1,rd,d,n,k,g,g',hn,hg,hr=>by
  have hx:fs[n]? =some fs[n]:=Xb hn;rw[be,hx] at hr;simp only[zP,iY] at hr;refine S5 hx ?_ (QZ fs[n].2) 0 0 k [] {g with fr:=true} g' (by rw[vk,aG (hf _ (EV hn))]) (Xt _) (hg.fr true) (λh=>by cases h) hr;intro r ln d' k' g1 g2 hi lk;cases he:dK (JB (fs.map (·.1))) (n::rd) r with
  | error e=>rw[he] at hi;cases hi
  | ok m=>
   rw[he] at hi;simp only at hi;split at hi
   ·cases hi
   ·have hm:m<fs.length:=by
     obtain⟨_,tn,zj⟩:=GC he;have:=kN zj;simpa using this
    exact(S8 hf f _ _ m _ g1 g2 hm lk hi).1
theorem hQn {nm:List (List Nat)}{fs:List (List Nat×List Nat)}{root:List Nat}{g:Gs}(hr:W5 nm fs root= .ok g):GInv fs g/\fs.length<=256/\∀x∈fs,x.2.length<=1048576:=by
 unfold W5 at hr;split at hr
 ·cases hr
 cases Vh:W4 fs with
 | some p=>rw[Vh] at hr;cases hr
 | none=>
  rw[Vh] at hr;simp only at hr;have lQd:fs.length<=256:=by
   unfold W4 at Vh;split at Vh
   ·cases Vh
   ·omega
  have hall:∀x∈fs,pU x.1=true/\W3 x.2=true/\x.2.length<=1048576:=by
   unfold W4 at Vh;rw[if_neg (by omega)] at Vh;exact BG fs [] 0 Vh
  cases Km:JB (fs.map (·.1)) root with
  | none=>rw[Km] at hr;cases hr
  | some n=>
   rw[Km] at hr;simp only at hr;have hn:n<fs.length:=by have:=kN Km;simpa using this
   exact⟨(S8 (λx hx=>jn (hall x hx).2.1) 65 [] 0 n _ _ g hn (⟨rfl,λs hs=>by cases hs⟩:GInv fs ⟨[],[],false⟩) hr).1,lQd,λx hx=>(hall x hx).2.2⟩
end
section
def mkX (s:Sg)(x:DV):Sx:=⟨s.f,s.t,s.fl,s.at_,x⟩
def AllS (k:Nat):List Sg->List Sx->Prop
 | [],[]=>True
 | s::l,y::m=>(y.f=s.f/\y.t=s.t/\y.fl=s.fl/\y.at_=s.at_/\Set1 k y.x.nd y.x.r s.o)/\AllS k l m
 | _,_=>False
theorem AllS.len {k:Nat}:∀{l:List Sg}{m:List Sx},AllS k l m->l.length=m.length
 | [],[],_=>rfl
 | _::_,_::_,h=>by simp[AllS.len h.2]
theorem AllS.get {k:Nat}:∀{l:List Sg}{m:List Sx}{i:Nat}{s:Sg}{y:Sx},AllS k l m->l[i]? =some s->m[i]? =some y->y.f=s.f/\y.t=s.t/\y.fl=s.fl/\y.at_=s.at_/\Set1 k y.x.nd y.x.r s.o
 | _::_,_::_,0,_,_,h,h1,h2=>by cases h1;cases h2;exact h.1
 | _::_,_::_,i+1,_,_,h,h1,h2=>AllS.get (i:=i) h.2 (by simpa using h1) (by simpa using h2)
theorem hQo {w:World}{k:Nat}{A:Option Addr}{n c:Nat}{sg:List Sg}{L:List DV}(h:SgIn w k A n c sg L):∃M,SX w A n c M/\AllS k sg M:=by
 have key:∀(sg:List Sg) (L:List DV),L.length=sg.length->(∀(j:Nat) (s:Sg) (x:DV),sg[j]? =some s->L[j]? =some x->SB w x.A x.n x.c x.nd/\Set1 k x.nd x.r s.o)->
   ∃M:List Sx,M.flatMap Sx.cells=cJ sg L/\M.length=sg.length/\(∀y∈M,SB w y.x.A y.x.n y.x.c y.x.nd)/\AllS k sg M:=by
  intro sg;induction sg with
  | nil=>
   intro L hl _;have:L=[]:=Ys hl;subst this;exact⟨[],rfl,rfl,(λy hy=>by cases hy),⟨⟩⟩
  | cons s sg ih=>
   intro L hl hd;cases L with
   | nil=>cases hl
   | cons x L=>
    obtain⟨M,h1,h2,h3,h4⟩:=ih L (by simpa using hl) (λj s x h1 h2=>hd (j+1) s x (by simpa using h1) (by simpa using h2));obtain⟨d1,d2⟩:=hd 0 s x rfl rfl;refine⟨mkX s x::M,?_,by simp[h2],?_,⟨⟨rfl,rfl,rfl,rfl,d2⟩,h4⟩⟩
    ·rw[au,h1]<;>rfl
    ·intro y hy;rcases Q0.1 hy with rfl | hy
     ·exact d1
     ·exact h3 y hy
 obtain⟨M,h1,h2,h3,h4⟩:=key sg L h.len h.dg;exact⟨M,⟨⟨by rw[h1];exact h.sl,by rw[h2];exact h.n⟩,h3⟩,h4⟩
def aK (tx:List Nat)(s:Sg):List Nat:=(tx.take s.t).drop s.f
section
variable {w:World} {k:Nat} {A:Option Addr} {c:Nat} {g:Gs}
end
end
section
end
end
section
theorem GJ (A:Option Addr)(n c:Nat)(nd:List Br)(root:Int)(jU:Nat)(hcf:jU<=18446744073709551615)(w:World)(h:SB w A n c nd)(hc:XK nd root=0):
  Fn Tryz.prog 53 [Xg A n c root,.int .u64 jU] w (λv w'=>v= .bool (ev nd root (cK jU))/\Ext w w'):=by
 have Xf:=h.2;obtain⟨dm,hv⟩:=gf.1 hc;refine Qx (c:={c53 with cuts:=[]}) Qa Tryz.func53 rfl rfl rfl ?_;refine new (λw1 Qd Q3 Qh=>?_);refine Qp Qh rfl ?_;refine loop Qa [5] (λs:Int=>[.int .i64 s]) (λs w'=>Ext w1 w'/\0<=s/\s<n+2/\ev nd s (cK jU)=ev nd root (cK jU)) (λs _=>s.toNat) root rfl ⟨Ext.refl _,hv.2.1,by have:=hv.2.2.1;omega,rfl⟩ ?_;rintro s w3 ⟨Qi,s0,s1,hs⟩;have QQ:=Qd.trans Qi;refine Qt (λh1=>?_) (λh1=>?_)
 ·refine QC (Qh.ext Qi) rfl ?_;refine Qj (((s-2).toNat:Nat):Int) (by omega) (by omega) ?_;refine Zh YR (h.ext QQ) rfl (by omega) (λp x hx MW=>?_);refine Kb (vs:=x.cells) rfl MW ?_;refine new (λw4 Qq K5 Q6=>?_);refine QB Q6 rfl (sc rfl) (λw5 Jr Kw QL=>?_);have JL:Ext w3 w5:=XY Qq Q6 Jr;obtain⟨b1,b2,b3,b4,b5,b6,b7,b8,b9,br⟩:=hv.1 _ _ hx;have fB:=cC hv.wf (n:=s) (e:=cK jU) (by omega) hx;refine QC QL rfl ?_;refine gP (x.v.toNat:Int) (by omega) (by omega) ?_;refine vJ x.v.toNat (2^x.v.toNat) (by omega) (by show min _ 64=_;omega) rfl ?_;have Q5:jU/2^x.v.toNat<18446744073709551616:=Nat.lt_of_le_of_lt (Nat.div_le_self _ _) (by omega);refine norm (m:=((jU/2^x.v.toNat % 2:Nat):Int)) (SP _ Q5) ?_;refine XU (λh2=>?_) (λh2=>?_)
  ·have hb:cK jU x.v.toNat=true:=XT (by omega);rw[hb,Qf rfl] at fB;refine Qp QL rfl ?_;exact⟨x.h,rfl,⟨Qi.trans JL,b5,by omega,by rw[<-fB];exact hs⟩,by show x.h.toNat<s.toNat;omega⟩
  ·have hb:cK jU x.v.toNat=false:=XS (by omega);rw[hb,if_neg (by decide)] at fB;refine Qp QL rfl ?_;exact⟨x.l,rfl,⟨Qi.trans JL,b3,by omega,by rw[<-fB];exact hs⟩,by show x.l.toNat<s.toNat;omega⟩
 ·refine⟨?_,QQ⟩;rw[<-hs,JP (by omega)]<;>rfl
theorem hQp (x:Nat)(hx:x<256):IntKind.u8.wrap ((BitVec.ofInt 8 (x:Int) &&& BitVec.ofInt 8 1).toNat)=((x % 2:Nat):Int):=by
 have e:(BitVec.ofInt 8 (x:Int) &&& BitVec.ofInt 8 1).toNat=x % 2:=by
  rw[BitVec.ofInt_natCast,show BitVec.ofInt 8 1=BitVec.ofNat 8 1 from rfl,BitVec.toNat_and,BitVec.toNat_ofNat,BitVec.toNat_ofNat];rw[iX (by omega),show 1 % 2^8=1 by decide,Nat.and_one_is_mod]
 rw[e];rcases(show x % 2=0∨x % 2=1 by omega)with h | h<;>rw[h]<;>decide
theorem hQq (q:Nat):(((q:Nat):Int)==1)=decide (q=1):=by
 by_cases h:q=1
 ·subst h;rfl
 ·rw[XS h];exact beq_eq_false_iff_ne.2 (by omega)
theorem S9 (k:Nat)(hk:k<=1000000):IntKind.i64.wrap ((k:Int).tdiv 8)=((k/8:Nat):Int):=by
 rw[show(8:Int)=((8:Nat):Int) from rfl,Ay];exact IntWalk.i64_in _ (by omega)
theorem hQr (v:Nat)(hv:v<=6):IntKind.i64.wrap (1*2^(min ((v:Nat):Int).toNat IntKind.i64.bits))=((2^v:Nat):Int):=by
 rcases(show v=0∨v=1∨v=2∨v=3∨v=4∨v=5∨v=6 by omega)with rfl | rfl | rfl | rfl | rfl | rfl | rfl<;>decide
theorem Ta (l:List Nat)(A:Option Addr)(n c N:Nat)(w0:World)(h:Sl w0 1 A n c (Jx l))(h8:∀x∈l,x<=255)(hN:N<=6):∀(d v k:Nat)(w:World),Ext w0 w->v+d=N->k<2^v->
  Fn Tryz.prog 72 [.slice A n c,.int .i64 N,.int .i64 v,.int .i64 k] w (gi w N (cL l d v k))
 | 0,v,k,w,hE,hv,hk=>by
  have hn:l.length=n:=by have:=h.len;rw[vL] at this;omega
  have p6:2^v<=2^6:=Y6 (by decide) (by omega);have xg:n<=9223372036854775807:=by have:=h.le;have:=h.cap;simp only[maxLen] at this;omega
  refine Qx (c:={OY with cuts:=[]}) Qa Tryz.func72 rfl rfl rfl ?_;refine new (λw1 Qd Q3 Qh=>?_);refine JN (by omega) ?_;refine normIf (m:=((k/8:Nat):Int)) (by decide) (S9 k (by omega)) ?_;have fin:∀b:Bool,b=BH l k->∀w2,Ext w1 w2->∀w3,w2.grownBy w3 (some w.heap.size)->gi w N (cL l 0 v k) (Xg none 0 0 (if b then 1 else 0)) w3:=λb hb w2 Qg w3 ZZ=>by
   have Z3:Mod (·=w.heap.size) w2 w3:=oQh ZZ rfl;exact⟨none,0,0,[],_,rfl,Z3.ext (Qd.trans Qg) (λi hi=>by omega),SlS.nil _,(bO N b).congr (λ_=>by rw[hb];rfl),λi hi=>by obtain⟨_,e,_⟩:=hi;cases e⟩
  refine Qt (λh1=>?_) (λh1=>?_)
  ·refine normIf (m:=((k/8:Nat):Int)) (by decide) (S9 k (by omega)) ?_;have hg:=Xb (show k/8<l.length by omega);generalize l[k/8]=x at hg;have Cs:=h8 x (Q2 hg);refine ZF ((h.ext hE).ext Qd) (by omega) (λad u hA hu QR=>?_);rw[Fj hg] at hu;cases hu;refine load QR ?_;have m8:k % 8<8:=j5 _ (by decide);refine AA (d:=8) (by decide) ?_;refine norm (m:=((k % 8:Nat):Int)) (IntWalk.u64_in _ (by omega)) ?_;refine vJ (k % 8) (2^(k % 8)) (by omega) (by show min ((k % 8:Nat):Int).toNat 8=_;omega) rfl ?_;have Q5:x/2^(k % 8)<256:=Nat.lt_of_le_of_lt (Nat.div_le_self _ _) (by omega);refine norm (m:=((x/2^(k % 8) % 2:Nat):Int)) (hQp _ Q5) ?_;refine call (pZ (((x/2^(k % 8) % 2:Nat):Int)==1) w1) ?_;rintro _ w2 ⟨rfl,Qg⟩;refine QB (Qh.ext Qg) rfl (sc rfl) (λw3 ZZ _ Qw=>?_);refine Qs Qw rfl ?_;refine fin _ ?_ w2 Qg w3 ZZ;unfold BH;rw[XT (show k/8<l.length by omega),hg];simp only[iY,aV];exact hQq _
  ·refine call (pZ false w1) ?_;rintro _ w2 ⟨rfl,Qg⟩;refine QB (Qh.ext Qg) rfl (sc rfl) (λw3 ZZ _ Qw=>?_);refine Qs Qw rfl ?_;refine fin false ?_ w2 Qg w3 ZZ;unfold BH;rw[XS (show¬k/8<l.length by omega)]<;>rfl
 | d+1,v,k,w,hE,hv,hk=>by
  have p6:2^v<=2^6:=Y6 (by decide) (by omega);have ps:2^(v+1)=2^v+2^v:=by rw[my];omega
  have ih:=Ta l A n c N w0 h h8 hN d;refine Qx (c:={OY with cuts:=[]}) Qa Tryz.func72 rfl rfl rfl ?_;refine new (λw1 Qd Q3 Qh=>?_);refine XW (by omega) ?_;refine call (P6 (v:Nat) w1 (by omega) (by omega)) ?_;rintro _ w2 ⟨XA,xn,xc,rfl,Qg,KD,_⟩;refine new (λw3 Qi JF Qw=>?_);refine QB Qw rfl (sc rfl) (λw4 bn _ Q6=>?_);have Ja:Ext w2 w4:=XY Qi Qw bn;have Jd:=Qg.trans Ja;have XI:=Qd.trans Jd;have YX:=KD.ext Ja;have sv:=GG (k:=N) (v:=v) (by omega) (by omega);have qB:∀w',Ext w4 w'->∀(j:Nat) (u:Value),[Value.slice XA xn xc,.int .i64 2][j]? =some u->w'.cell? ((⟨w2.heap.size,0,none⟩:Addr).add j)=some u:=λw' Qb j u hj=>by rw[(Q6.ext Qb).cell];exact hj
  refine Xy Qa (Ext w4) 21 [(true,0),(true,1),(true,2),(true,3),(true,4),(true,5),(true,6),(true,7),(true,8),(true,9),(true,12),(true,13),(true,14),(true,15),(true,16),(true,18),(false,10),(false,11),(false,17),(false,19),(false,20)] (by kernel_rfl) (Ext.drew w4) ?_;refine Xr (vs:=[.slice XA xn xc,.int .i64 2]) rfl (λw' Qb j u hj=>qB w' Qb j u hj) ?_;refine Qj ((v+1:Nat):Int) (by omega) (by omega) ?_;refine norm (m:=((v:Nat):Int)) (IntWalk.u64_in _ (by omega)) ?_;refine normIf (m:=((2^v:Nat):Int)) (by omega) (hQr v (by omega)) ?_;refine Qj ((k+2^v:Nat):Int) (by omega) (by omega) ?_;refine Qj ((v+1:Nat):Int) (by omega) (by omega) ?_;refine Xr (vs:=[.slice XA xn xc,.int .i64 2]) rfl (λw' Qb j u hj=>qB w' Qb j u hj) ?_;refine call (ih (v+1) (k+2^v) _ ((hE.trans XI).trans (Ext.drew w4)) (by omega) (by omega)) ?_;rintro _ w5 ⟨T1,t1n,t1c,nd1,r1,rfl,Qz,hT1,J7,_⟩;have aO:=(Ext.drew w4).trans Qz;refine⟨aO,?_⟩;refine call (SR (by omega) XA xn xc T1 t1n t1c w5 (YX.ext aO) hT1 sv J7) ?_;rintro _ w6 ⟨U1,u1n,u1c,ud1,q1,rfl,Xh,hU1,qW,_⟩;have XF:=aO.trans Xh;refine⟨XF,?_⟩;refine call (ih (v+1) k _ ((hE.trans XI).trans XF) (by omega) (by omega)) ?_;rintro _ w7 ⟨T2,t2n,t2c,jB,r2,rfl,QY,WG,HW,_⟩;have Yi:=XF.trans QY;refine⟨Yi,?_⟩;refine call (GF (by omega) T2 t2n t2c XA xn xc w7 WG (YX.ext Yi) HW sv) ?_;rintro _ w8 ⟨U2,u2n,u2c,ud2,q2,rfl,Q7,nF,C3,_⟩;have jH:=Yi.trans Q7;refine⟨jH,?_⟩;refine call (SQ (by omega) U1 u1n u1c U2 u2n u2c w8 ((hU1.ext QY).ext Q7) nF qW C3) ?_;rintro _ w9 ⟨U3,u3n,u3c,ud3,q3,rfl,Xo,hU3,lq,im⟩;have uv:=jH.trans Xo;refine⟨uv,?_⟩;have Ve:=(XI.trans jH).size;have kQv:=(Jd.trans jH).size;refine QB ((Qh.ext Jd).ext uv) rfl (sc rfl) (λQE lI _ Jb=>?_);have Zu:Mod (·=w.heap.size) w9 QE:=oQh lI rfl;refine Qs Jb rfl ?_;refine⟨U3,u3n,u3c,ud3,q3,rfl,Zu.ext (XI.trans uv) (λi hi=>by omega),hU3.mod Zu (λi hi e=>by have:=im i hi;omega),lq.congr (λe=>?_),λi hi=>by have:=im i hi;omega⟩;show Kr 1 (Kr 0 (e v) (cL l d (v+1) (k+2^v) e)) (cL l d (v+1) k e && !e v)=if e v then cL l d (v+1) (k+2^v) e else cL l d (v+1) k e
  cases e v<;>simp[Kr]
theorem BM (l:List Nat)(A:Option Addr)(n c N:Nat)(w:World)(h:Sl w 1 A n c (Jx l))(h8:∀x∈l,x<=255)(hN:N<=6):
  Fn Tryz.prog 28 [.slice A n c,.int .i64 N] w (gi w N (cL l N 0 0)):=by
 refine Qx (c:={c28 with cuts:=[]}) Qa Tryz.func28 rfl rfl rfl ?_;refine new (λw1 Qd Q3 Qh=>?_);refine norm (m:=((N:Nat):Int)) (by split<;>omega) ?_;refine norm (m:=((N:Nat):Int)) (by split<;>omega) ?_;refine call (Ta l A n c N w1 (h.ext Qd) h8 hN N 0 0 w1 (Ext.refl _) (by omega) (by decide)) ?_;rintro _ w2 ⟨U,un,uc,nd,r,rfl,Qg,hU,hS,hR⟩;refine QB (Qh.ext Qg) rfl (sc rfl) (λw3 ZZ _ Qw=>?_);have Z3:Mod (·=w.heap.size) w2 w3:=oQh ZZ rfl;refine Qs Qw rfl ?_;exact⟨U,un,uc,nd,r,rfl,Z3.ext (Qd.trans Qg) (λi hi=>by omega),hU.mod Z3 (λi hi e=>by have:=hR i hi;omega),hS,λi hi=>by have:=hR i hi;omega⟩
theorem hQs (ls:List (List Nat)):W3 (Qo ls)=true:=by
 unfold W3;rcases R2 ls with h | h
 ·rw[h]<;>rfl
 ·rw[h];simp
theorem hQt {ls:List (List Nat)}(h:∀s∈ls,∀x∈s,x<256):∀x∈Qo ls,x<256:=λx hx=>by
 unfold Qo at hx;obtain⟨s,hs,hxs⟩:=eA.1 hx;rcases XH.1 hxs with hxs | hxs
 ·exact h s hs x hxs
 ·simp only[QF] at hxs;subst hxs;decide
theorem GK (ls:List (List Nat))(s:List Nat):Qo (ls++ [s])=Qo ls++(s++ [10]):=by simp[Qo]
theorem hQu {tx s:List Nat}{x:Sg}(h:x.t<=tx.length):aK (tx++s) x=aK tx x:=by
 unfold aK;rw[NP h]
structure TxOk (s:List Nat):Prop where
 nl:10∉s
 dr:JC s= .txt
 b8:∀x∈s,x<256
abbrev Tb (op:List Se):List (BF×BF):=op.map (λx=>(x.ou,x.re))
end
section
open Go Go.RowKit Go.ChangeShapes
variable {H:Type} {enc:TypeId×Value->H}
theorem law_of {P:Program}{f:FuncId}{l:List Value}{w:World}(h:Fn P f l w (λv w'=>v= .bool true/\Ext w w')):
  Calls P f l.toArray w λe w'=>e= .returned (.bool true)/\Below w.heap.size w w':=by
 unfold Fn at h;exact h.mono λe w' he=>by
  cases e with
  | returned v=>exact⟨by rw[he.1],he.2.below⟩
  | panicked ch=>exact he.elim
  | outgrown=>exact he.elim
theorem mQT {W:World}{a:Option Addr}{len cap:Nat}{d:DataW H}{p:List MemPlace}(h:DataW.Trod enc Tryz.prog W 0 (λ_=>true) true 37 (.slice a len cap) d p):∃l,Sl W 1 a len cap (Q9 l)/\Jy l:=by
 obtain⟨gF,hf⟩:=h;rcases Go.Deep.open_slice Tryz.underlying37 hf with⟨Zf,_⟩ | ⟨x,l,c,m,n,D,Pl,Zf,_,hl,hm,Z0,_,hx⟩
 ·simp[Value.cells] at Zf;obtain⟨rfl,rfl,rfl⟩:=Zf;exact⟨[],Sl.nil W 1,λs hs=>by cases hs⟩
 ·simp[Value.cells] at Zf;obtain⟨rfl,rfl,rfl⟩:=Zf;simp only[if_true] at Z0;subst Z0;have hc9:Tryz.prog.cellsOf 9=1:=by kernel_rfl
  have each:∀i,i<m->∃y:ByteArray,y.size<=maxLen/\W.cell? (x.add i)=some (.string y):=by
   intro i hi;obtain⟨cs,h1,h2⟩:=hx i hi;rw[hc9] at h1;obtain⟨_,Xf,QR⟩:=World.cells?_some h1
   match cs,Xf with
   | [v],_=>
    obtain⟨s,e1,_,bX⟩:=DataW.trod_string Tryz.underlying9 h2;simp at e1;subst e1;refine⟨s,bX,?_⟩;have:=QR 0 (by decide);rw[WV] at this;simpa [add_add] using this
  have QN:Inhabited ByteArray:=⟨⟨#[]⟩⟩
  obtain⟨Y,hY⟩:=Go.Deep.choose_lt each;refine⟨(List.range len).map (λi=>Yu (Y i)),⟨by simp[Q9],hl,hm,λ_=>⟨x,rfl,λj u hu=>?_⟩⟩,?_⟩
  ·simp only[Q9,zM,Vi,EM] at hu;obtain⟨k,hk,rfl⟩:=hu;have hj:=(Zw.1 hk).1;simp at hj;have:k=j:=by rw[List.getElem?_range hj] at hk;exact(Option.some.inj hk).symm
   subst this;rw[(hY k (by omega)).2];simp[OL]
  ·intro y hy;simp only[ZM,mz] at hy;obtain⟨i,hi,rfl⟩:=hy;have:=(hY i (by omega)).1;exact⟨OJ _,by rw[sH];simpa [maxLen] using this⟩
theorem Td {W:World}{a:Option Addr}{len cap:Nat}{d:DataW H}{p:List MemPlace}(h:DataW.Trod enc Tryz.prog W 0 (λ_=>true) true 62 (.slice a len cap) d p):∃l,Sl W 1 a len cap (Jx l)/\∀b∈l,b<=255:=by
 obtain⟨gF,hf⟩:=h;rcases open_ints Tryz.underlying62 Tryz.underlying5 (by kernel_rfl) hf with⟨Zf,_⟩ | ⟨x,l,c,zs,Zf,_,hl,hm,hz,_,QR,yZ⟩
 ·simp[Value.cells] at Zf;obtain⟨rfl,rfl,rfl⟩:=Zf;exact⟨[],Sl.nil W 1,by simp⟩
 ·simp[Value.cells] at Zf;obtain⟨rfl,rfl,rfl⟩:=Zf;simp at hz;have hr:∀n∈zs,0<=n/\n<=255:=λn hn=>by
   have:=yZ n hn;simp[Lit.wf,IntKind.min,IntKind.max,IntKind.signed,IntKind.bits] at this;omega
  refine⟨(zs.take len).map Int.toNat,⟨by simp[Jx];omega,hl,hm,λ_=>⟨x,rfl,λj u hu=>?_⟩⟩,?_⟩
  ·simp only[Jx,zM,Vi,EM] at hu;obtain⟨y,hy,rfl⟩:=hu;rw[EI] at hy;split at hy
   ·rename_i hj;have Ex:j<zs.length:=by omega
    rw[Xb Ex] at hy;cases hy;have h2:=hr zs[j] (EV Ex);rw[QR j Ex];have:zs.getD j 0=zs[j]:=by simp[Ex]
    rw[this];show some (Value.int .u8 _)=some (Value.int .u8 ((zs[j].toNat:Nat):Int));congr 2;omega
   ·cases hy
  ·intro y hy;simp only[ZM] at hy;obtain⟨z,Q3,rfl⟩:=hy;have:=hr z (bF Q3);omega
theorem u8_of {a:Int}(w:(Lit.int .u8 a).wf=true):∃n:Nat,a=n/\n<=255:=by
 simp[Lit.wf,IntKind.min,IntKind.max,IntKind.signed,IntKind.bits] at w;exact⟨a.toNat,by omega,by omega⟩
end
section
open Go Go.RowKit Go.ChangeShapes
variable {H:Type} {enc:TypeId×Value->H}
theorem Te {α:Type}{l:List α}(h:l.length=3):∃a b c,l=[a,b,c]:=by
 match l,h with
 | [a,b,c],_=>exact⟨a,b,c,rfl⟩
theorem hQv {W:World}{α:Type}{cells:α->List Value}{e:Nat}(zq:∀x,(cells x).length=e)(he:0<e){t te:TypeId}{gF:Nat}{cs:List Value}{z:DataW H×List MemPlace}
  (ht:Tryz.prog.underlying t=some (.slice te)) (hc5:Tryz.prog.cellsOf te=e) (QN:Inhabited α)
  (one:∀(cs:List Value) (gF:Nat) (D:DataW H×List MemPlace),cs.length=e->DataW.trod enc Tryz.prog W 0 (λ_=>true) true gF te cs=some D->∃y,cells y=cs)
  {a:Option Addr} {len cap:Nat} (Zf:cs=[.slice a len cap]) (hf:DataW.trod enc Tryz.prog W 0 (λ_=>true) true gF t cs=some z):∃l,SlS cells e W a len cap l:=by
 subst Zf;rcases Go.Deep.open_slice ht hf with⟨Zf,_⟩ | ⟨x,l,c,m,n,D,Pl,Zf,_,hl,hm,Z0,_,hx⟩
 ·simp at Zf;obtain⟨rfl,rfl,rfl⟩:=Zf;exact⟨[],SlS.nil W⟩
 ·simp at Zf;obtain⟨rfl,rfl,rfl⟩:=Zf;simp only[if_true] at Z0;subst Z0;have each:∀i,i<m->∃y:α,∀j v,(cells y)[j]? =some v->W.cell? (x.add (i*e+j))=some v:=by
   intro i hi;obtain⟨cs,h1,h2⟩:=hx i hi;rw[hc5] at h1;obtain⟨_,Xf,QR⟩:=World.cells?_some h1;obtain⟨y,rfl⟩:=one _ _ _ Xf h2;refine⟨y,λj v hj=>?_⟩;have hj5:j<e:=by have:=(Zw.1 hj).1;rw[zq] at this;exact this
   have:=QR j hj5;rw[add_add] at this;rw[this];exact hj
  obtain⟨Y,hY⟩:=Go.Deep.choose_lt each;refine⟨(List.range len).map Y,⟨⟨?_,hl,hm,λ_=>⟨x,rfl,λj u hu=>?_⟩⟩,by simp⟩⟩
  ·rw[dD zq];simp
  ·have d9:=(Zw.1 hu).1;rw[dD zq] at d9;simp at d9;have hi:j/e<len:=Nat.div_lt_of_lt_mul (by rw[vp];exact d9);have hr:j % e<e:=j5 _ he;have Eq:j/e*e+j % e=j:=by rw[vp];exact Nat.div_add_mod j e
   have hg:((List.range len).map Y)[j/e]? =some (Y (j/e)):=by simp[hi]
   have hc:=Xb (l:=cells (Y (j/e))) (i:=j % e) (by rw[zq];exact hr);have h1:=eH zq _ _ _ _ _ hg hc;rw[Eq,hu] at h1;have h2:=hY (j/e) (YL hi hl) _ _ hc;rw[Eq] at h2;rw[h2,<-Option.some.inj h1]
end
section
open Go Go.RowKit Go.ChangeShapes
variable {H:Type} {enc:TypeId×Value->H}
theorem hQw {α:Type}{p:α->Prop}{f:α->List Value}{sz:Nat}{W:World}{a:Option Addr}{len cap:Nat}(h:∃l:List {x:α // p x},SlS (λy=>f y.1) sz W a len cap l):∃l:List α,SlS f sz W a len cap l/\∀x∈l,p x:=by
 obtain⟨l,h1,h2⟩:=h;refine⟨l.map Subtype.val,⟨?_,by simpa using h2⟩,λx hx=>?_⟩
 ·rw[List.flatMap_map];exact h1
 ·obtain⟨y,_,rfl⟩:=ZM.1 hx;exact y.2
structure Lx where
 k:Nat
 i:Nat
 ws:List Nat
 A:Option Addr
 n:Nat
 c:Nat
end
noncomputable section
def cM (k:Nat):List Nat:=(([[120],[121],[122],[120,32,121],[],[35],[35,105,102,102],[101,110,100]]:List (List Nat))[k % 8]?).getD []
theorem BO (k:Nat):TxOk (cM k)/\(cM k).length<=4:=by
 have h:k % 8<8:=j5 _ (by decide);unfold cM;generalize k % 8=r at h;rcases(show r=0∨r=1∨r=2∨r=3∨r=4∨r=5∨r=6∨r=7 by omega)with rfl | rfl | rfl | rfl | rfl | rfl | rfl | rfl <;>
  exact⟨⟨by decide,by rfl,by decide⟩,by decide⟩
def bQ (l:List Nat):List (List Nat):=(l.take 6).map cM
theorem Tf (l:List Nat):(∀s∈bQ l,TxOk s/\s.length<=4)/\(bQ l).length<=6:=by
 refine⟨λs hs=>?_,?_⟩
 ·obtain⟨k,_,rfl⟩:=ZM.1 hs;exact BO k
 ·unfold bQ;simp;omega
def kU (cls:List Nat)(texts:List (List Nat))(c:Nat):List (List Nat):=
 match texts[(cls[c]?).elim 0 (· % 4)]? with
 | some t=>bQ t
 | none=>[cM ((cls[c]?).elim 0 (· % 4))]
theorem BP (cls:List Nat)(texts:List (List Nat))(c:Nat):(∀s∈kU cls texts c,TxOk s/\s.length<=4)/\(kU cls texts c).length<=6:=by
 unfold kU;split
 ·exact Tf _
 ·refine⟨λs hs=>?_,(by show 1<=6;decide)⟩;rw[QF.1 hs];exact BO _
def kV (b c:Nat):Bool:=decide (b % 256=0)||b.testBit c
def bf (b:Nat):List Nat:=(List.range 8).filter (kV b)
theorem Tg (b:Nat):(bf b).length<=8:=X2 (j6 _ _) (by simp)
theorem BQ {b:Nat}(hb:b<=255):bf b≠ []:=by
 intro e;have h:=vt.1 e;have h0:∀c,c<8->kV b c=false:=λc hc=>by have:=h c (mz.2 hc);simpa using this
 unfold kV at h0;have ir:b≠0:=λe=>by subst e;have:=h0 0 (by decide);simp at this
 refine ir (Nat.eq_of_testBit_eq (λi=>?_));rw[Nat.zero_testBit];by_cases hi:i<8
 ·have:=h0 i hi;rw[Bool.or_eq_false_iff] at this;exact this.2
 ·exact EX (YL (show b<2^8 by omega) (Y6 (by decide) (by omega)))
abbrev Pt:=List Nat×List (List Nat)
def jo:List Pt->Nat->List (List Nat)->List Pt
 | [],c,s=>[([c],s)]
 | p::ps,c,s=>if p.2=s then(p.1++ [c],p.2)::ps else p::jo ps c s
def eP (single:Bool)(f:Nat->List (List Nat))(ps:List Pt)(c:Nat):List Pt:=if single then ps++ [([c],f c)] else jo ps c (f c)
def Yd (single:Bool)(f:Nat->List (List Nat))(S:List Nat):List Pt:=S.foldl (eP single f) []
structure PtOk (f:Nat->List (List Nat)) (S:List Nat) (ps:List Pt):Prop where
 cov:∀c∈S,∃p∈ps,c∈p.1
 tx:∀p∈ps,∀c∈p.1,c∈S/\f c=p.2
 ne:∀p∈ps,p.1≠ []
 dj:∀(i j:Nat) (p q:Pt) (c:Nat),ps[i]? =some p->ps[j]? =some q->c∈p.1->c∈q.1->i=j
theorem PtOk.snoc {f:Nat->List (List Nat)}{S:List Nat}{ps:List Pt}(h:PtOk f S ps){c:Nat}(hc:c∉S):PtOk f (S++ [c]) (ps++ [([c],f c)]):=by
 refine⟨λd hd=>?_,λp hp d hd=>?_,λp hp=>?_,λi j p q d hi hj hp hq=>?_⟩
 ·rcases XH.1 hd with hd | hd
  ·obtain⟨p,h1,h2⟩:=h.cov d hd;exact⟨p,EY _ h1,h2⟩
  ·exact⟨([c],f c),by simp,hd⟩
 ·rcases XH.1 hp with hp | hp
  ·exact⟨EY _ (h.tx p hp d hd).1,(h.tx p hp d hd).2⟩
  ·rw[QF.1 hp] at hd ⊢;have:d=c:=QF.1 hd;subst this;exact⟨by simp,rfl⟩
 ·rcases XH.1 hp with hp | hp
  ·exact h.ne p hp
  ·rw[QF.1 hp];simp
 ·have key:∀i p,(ps++ [([c],f c)])[i]? =some p->d∈p.1->(i<ps.length/\ps[i]? =some p/\d≠c)∨(i=ps.length/\d=c):=λi p hi hp=>by
   by_cases hl:i<ps.length
   ·rw[ew hl] at hi;exact .inl ⟨hl,hi,λe=>hc (e▸(h.tx p (Q2 hi) d hp).1)⟩
   ·rw[aU (by omega)] at hi;have:i-ps.length=0:=by
     by_cases e:i-ps.length=0
     ·exact e
     ·rw[mo (by simp;omega)] at hi;cases hi
    rw[this] at hi;cases hi;exact .inr ⟨by omega,QF.1 hp⟩
  rcases key i p hi hp with⟨_,a2,a3⟩ | ⟨a1,a2⟩<;>rcases key j q hj hq with⟨_,b2,b3⟩ | ⟨b1,b2⟩
  ·exact h.dj i j p q d a2 b2 hp hq
  ·exact Xd b2 a3
  ·exact Xd a2 b3
  ·omega
theorem PtOk.set {f:Nat->List (List Nat)}{S:List Nat}{ps:List Pt}(h:PtOk f S ps){c k:Nat}{p0:Pt}(hc:c∉S)(hk:ps[k]? =some p0)(hf:f c=p0.2):PtOk f (S++ [c]) (ps.set k (p0.1++ [c],p0.2)):=by
 have ZL:k<ps.length:=(Zw.1 hk).1;have gu:=Q2 hk;have get:∀i p,(ps.set k (p0.1++ [c],p0.2))[i]? =some p->(i=k/\p=(p0.1++ [c],p0.2))∨(i≠k/\ps[i]? =some p):=λi p hi=>by
  rw[NM] at hi;by_cases e:k=i
  ·rw[Qf e,Qf (by omega)] at hi;exact .inl ⟨e.symm,(Option.some.inj hi).symm⟩
  ·rw[if_neg e] at hi;exact .inr ⟨λe'=>e e'.symm,hi⟩
 have mem:∀p∈ps.set k (p0.1++ [c],p0.2),p=(p0.1++ [c],p0.2)∨p∈ps:=λp hp=>by
  obtain⟨i,hi⟩:=cm.1 hp;rcases get i p hi with⟨_,e⟩ | ⟨_,e⟩
  ·exact .inl e
  ·exact .inr (Q2 e)
 refine⟨λd hd=>?_,λp hp d hd=>?_,λp hp=>?_,λi j p q d hi hj hp hq=>?_⟩
 ·have Yn:(p0.1++ [c],p0.2)∈ps.set k (p0.1++ [c],p0.2):=cm.2 ⟨k,by rw[NM,Qf rfl,Qf ZL]⟩;rcases XH.1 hd with hd | hd
  ·obtain⟨p,h1,h2⟩:=h.cov d hd;obtain⟨i,hi⟩:=cm.1 h1;by_cases e:i=k
   ·subst e;rw[hk] at hi;cases hi;exact⟨_,Yn,EY _ h2⟩
   ·exact⟨p,cm.2 ⟨i,by rw[NM,if_neg (λe'=>e e'.symm),hi]⟩,h2⟩
  ·exact⟨_,Yn,List.mem_append_right _ hd⟩
 ·rcases mem p hp with rfl | hp
  ·rcases XH.1 hd with hd | hd
   ·exact⟨EY _ (h.tx p0 gu d hd).1,(h.tx p0 gu d hd).2⟩
   ·rw[QF.1 hd];exact⟨by simp,hf⟩
  ·exact⟨EY _ (h.tx p hp d hd).1,(h.tx p hp d hd).2⟩
 ·rcases mem p hp with rfl | hp
  ·simp
  ·exact h.ne p hp
 ·have nc:∀(i:Nat) (p:Pt),ps[i]? =some p->c∉p.1:=λi p hi hm=>hc (h.tx p (Q2 hi) c hm).1
  rcases get i p hi with⟨rfl,rfl⟩ | ⟨e1,iJ⟩<;>rcases get j q hj with⟨rfl,rfl⟩ | ⟨e2,gD⟩
  ·rfl
  ·rcases XH.1 hp with hp | hp
   ·exact h.dj _ _ _ _ d hk gD hp hq
   ·rw[QF.1 hp] at hq;exact Xd hq (nc j q gD)
  ·rcases XH.1 hq with hq | hq
   ·exact h.dj _ _ _ _ d iJ hk hp hq
   ·rw[QF.1 hq] at hp;exact Xd hp (nc i p iJ)
  ·exact h.dj _ _ _ _ d iJ gD hp hq
def g9 (ps:List Pt)(s:List (List Nat)):Nat:=(ps.takeWhile (λp=>decide (p.2≠s))).length
theorem hQx (ps:List Pt)(s:List (List Nat)):g9 ps s<=ps.length:=(EO _).length_le
theorem wP (c:Nat)(s:List (List Nat)):∀ps:List Pt,(∃p,ps[g9 ps s]? =some p/\p.2=s/\jo ps c s=ps.set (g9 ps s) (p.1++ [c],p.2))∨(g9 ps s=ps.length/\jo ps c s=ps++ [([c],s)])
 | []=>.inr ⟨rfl,rfl⟩
 | p::ps=>by
  by_cases h:p.2=s
  ·have e:g9 (p::ps) s=0:=by unfold g9;simp[h]
   rw[e,jo,Qf h];exact .inl ⟨p,rfl,h,rfl⟩
  ·have e:g9 (p::ps) s=g9 ps s+1:=by unfold g9;simp[h]
   rw[e,jo,if_neg h];rcases wP c s ps with⟨q,h1,h2,h3⟩ | ⟨h1,h2⟩
   ·exact .inl ⟨q,by simpa using h1,h2,by rw[h3];rfl⟩
   ·exact .inr ⟨by simp[h1],by rw[h2];rfl⟩
theorem hQy (single:Bool){f:Nat->List (List Nat)}{S:List Nat}{ps:List Pt}(h:PtOk f S ps){c:Nat}(hc:c∉S):PtOk f (S++ [c]) (eP single f ps c):=by
 cases single with
 | true=>exact h.snoc hc
 | false=>
  show PtOk f (S++ [c]) (jo ps c (f c));rcases wP c (f c) ps with⟨p,h1,h2,h3⟩ | ⟨_,h2⟩
  ·rw[h3];exact h.set hc h1 h2.symm
  ·rw[h2];exact h.snoc hc
theorem hQz (single:Bool)(f:Nat->List (List Nat))(S:List Nat)(c:Nat):Yd single f (S++ [c])=eP single f (Yd single f S) c:=by
 unfold Yd;rw[NY]<;>rfl
theorem GL (single:Bool)(f:Nat->List (List Nat)):∀(S:List Nat),S.Nodup->PtOk f S (Yd single f S):=by
 have key:∀(T S:List Nat) (ps:List Pt),(S++T).Nodup->PtOk f S ps->PtOk f (S++T) (T.foldl (eP single f) ps):=by
  intro T;induction T with
  | nil=>intro S ps _ h;simpa using h
  | cons c T ih=>
   intro S ps hn h;have hc:c∉S:=λhm=>by
    have:=(zO.1 hn).2.2 c hm c (by simp);exact this rfl
   have:=ih (S++ [c]) (eP single f ps c) (by simpa using hn) (hQy single h hc);simpa using this
 intro S hn;have h0:PtOk f [] []:=⟨(λc hc=>by cases hc),(λp hp=>by cases hp),(λp hp=>by cases hp),λi j p q c hi=>by simp at hi⟩
 have:=key S [] [] (by simpa using hn) h0;rw[dw] at this;exact this
theorem hQA (b:Nat):(bf b).Nodup:=(List.nodup_range).sublist (List.filter_sublist)
theorem GN (c:Nat):cK c=λi=>c.testBit i:=by
 funext i;unfold cK;rw[bQQ]
def Qu (n:Nat)(o:BF):List Nat:=(List.range (2^n)).filter (λc=>o (λi=>c.testBit i))
theorem ZY {n:Nat}{o:BF}{c:Nat}:c∈Qu n o↔c<2^n/\o (λi=>c.testBit i)=true:=by
 unfold Qu;rw[Va,mz]
def BR (n:Nat)(o:BF):Prop:=∀e e',(∀i,i<n->e i=e' i)->o e=o e'
theorem BT:∀(n:Nat)(e:Nat->Bool),∃c,c<2^n/\∀i,i<n->c.testBit i=e i
 | 0,e=>⟨0,by decide,λi hi=>Xd hi (by omega)⟩
 | n+1,e=>by
  obtain⟨c,hc,hb⟩:=BT n e;cases he:e n with
  | false=>
   refine⟨c,Nat.lt_trans hc (Nat.pow_lt_pow_right (by decide) (by omega)),λi hi=>?_⟩;by_cases h:i<n
   ·exact hb i h
   ·have:i=n:=by omega
    subst this;rw[he];exact EX hc
  | true=>
   refine⟨2^n+c,by rw[my];omega,λi hi=>?_⟩;by_cases h:i<n
   ·rw[Nat.testBit_two_pow_add_gt h,hb i h]
   ·have:i=n:=by omega
    subst this;rw[he,Nat.testBit_two_pow_add_eq,EX hc]<;>rfl
theorem Set1.dep {k:Nat}{nd:List Br}{r:Int}{o:BF}(h:Set1 k nd r o):BR k o:=λe e' he=>by
 rw[<-h.mean,<-h.mean];exact GD h.vd.wf h.vin (λb hb=>by
  obtain⟨j,hj⟩:=cm.1 hb;have:=h.vd.1 j b hj;exact this.1) he (r.toNat+1) r (by omega) h.vd.2.2.1
theorem Th {n:Nat}{o:BF}(h:BR n o){p:BF}(hp:BR n p):(∀e,o e=true->p e=true)↔∀c∈Qu n o,p (λi=>c.testBit i)=true:=by
 constructor
 ·exactλk c hc=>k _ (ZY.1 hc).2
 ·intro k e he;obtain⟨c,hc,hb⟩:=BT n e;rw[<-hp _ e hb];exact k c (ZY.2 ⟨hc,by rw[h _ e hb];exact he⟩)
theorem hQB {n:Nat}{o:BF}(h:BR n o):Qu n o=[]↔∀e,o e=false:=by
 constructor
 ·intro k e;cases he:o e with
  | false=>rfl
  | true=>
   obtain⟨c,hc,hb⟩:=BT n e;have:c∈Qu n o:=ZY.2 ⟨hc,by rw[h _ e hb];exact he⟩;rw[k] at this;cases this
 ·intro k;refine List.eq_nil_iff_forall_not_mem.2 (λc hc=>?_);have:=(ZY.1 hc).2;rw[k] at this;cases this
theorem Set1.root0 {k:Nat}{nd:List Br}{r:Int}{o:BF}(h:Set1 k nd r o):r=0↔Qu k o=[]:=by
 rw[hQB h.dep];constructor
 ·rintro rfl e;rw[<-h.mean,JP (by decide)]<;>rfl
 ·intro h0;have:=h.unique (bO k false) h0;exact QO Prod.snd this
theorem Ti {n:Nat}{o p:BF}{v:Nat}(b:Bool)(hp:∀e,p e=(o e&&(e v==b))):Qu n p=(Qu n o).filter (λc=>c.testBit v==b):=by
 unfold Qu;rw[List.filter_filter];congr 1;funext c;rw[hp,Bool.and_comm]
theorem hQC {n:Nat}{o:BF}:Apt (Qu n o) 0 n:=λc hc c' Kl hb=>by
 have h1:=(ZY.1 hc).1;have h2:=(ZY.1 Kl).1;refine Nat.eq_of_testBit_eq (λi=>?_);by_cases hi:i<n
 ·exact hb i (Xt _) (by omega)
 ·have e:2^n<=2^i:=Y6 (by decide) (by omega);rw[EX (by omega),EX (by omega)]
structure Pr where
 o:BF
 t:List Nat
abbrev bits (c:Nat):Nat->Bool:=λi=>c.testBit i
def fP (ps:List Pr)(c:Nat):List Nat:=((ps.find? (λp=>p.o (bits c))).map (·.t)).getD []
structure PaOk (S:List Nat) (ps:List Pr):Prop where
 cov:∀c∈S,∃p∈ps,p.o (bits c)=true
 dj:∀c∈S,∀(i j:Nat) (p q:Pr),ps[i]? =some p->ps[j]? =some q->p.o (bits c)=true->q.o (bits c)=true->i=j
theorem PaOk.sub {S T:List Nat}{ps:List Pr}(h:PaOk S ps)(hT:∀c∈T,c∈S):PaOk T ps:=⟨λc hc=>h.cov c (hT c hc),λc hc=>h.dj c (hT c hc)⟩
theorem PaOk.get {S:List Nat}{ps:List Pr}(h:PaOk S ps){c:Nat}(hc:c∈S){p:Pr}(hp:p∈ps)(KB:p.o (bits c)=true):fP ps c=p.t:=by
 unfold fP;cases hf:ps.find? (λp=>p.o (bits c))with
 | none=>
  have:=vo.1 hf p hp;exact Xd KB this
 | some q=>
  have hq:=List.find?_some hf;have KY:=bQP hf;obtain⟨i,hi⟩:=cm.1 hp;obtain⟨j,hj⟩:=cm.1 KY;have:=h.dj c hc i j p q hi hj KB hq;subst this;rw[hi] at hj;cases hj;rfl
theorem hQD {nm:List (List Nat)}{S:List Nat}{ps:List Pr}(h:PaOk S ps)(hS:S≠ []){p:Pr}(hp:p∈ps)(hw:∀c∈S,p.o (bits c)=true)(k v:Nat):Xw nm (fP ps) k v S=QZ p.t:=
 tM hS (λc hc=>h.get hc hp (hw c hc)) k v
theorem hQE {S:List Nat}{ps:List Pr}(h:PaOk S ps)(hS:S≠ []){v:Nat}(ha:Apt S v 0):∃p∈ps,∀c∈S,p.o (bits c)=true:=by
 obtain⟨c,hc⟩:∃c,c∈S:=⟨_,BL hS⟩
 obtain⟨p,hp,KB⟩:=h.cov c hc;refine⟨p,hp,λd hd=>?_⟩;rw[ha d hd c hc (λi h1 h2=>by omega)];exact KB
abbrev cN (S:List Nat)(v:Nat):List Nat:=S.filter (λc=>c.testBit v)
abbrev eQ (S:List Nat)(v:Nat):List Nat:=S.filter (λc=> !c.testBit v)
theorem GO {S:List Nat}{v:Nat}(h:eQ S v=[]):cN S v=S:=by
 rw[List.filter_eq_self];intro c hc;have:=vt.1 h c hc;simpa using this
theorem Tj {S:List Nat}{v:Nat}(h:cN S v=[]):eQ S v=S:=by
 rw[List.filter_eq_self];intro c hc;have:=vt.1 h c hc;simpa using this
theorem Tk {nm:List (List Nat)}{f:Nat->List Nat}{S:List Nat}(hS:S≠ []){k v:Nat}(h:eQ S v=[]):Xw nm f (k+1) v S=Xw nm f k (v+1) (cN S v):=by
 rw[tN hS,Qf (.inl h),GO h]
theorem Tl {nm:List (List Nat)}{f:Nat->List Nat}{S:List Nat}(hS:S≠ []){k v:Nat}(h:cN S v=[]):Xw nm f (k+1) v S=Xw nm f k (v+1) (eQ S v):=by
 rw[tN hS,Qf (.inr h),Tj h]
theorem Tm {nm:List (List Nat)}{f:Nat->List Nat}{S:List Nat}(hS:S≠ []){k v:Nat}(h:eQ S v≠ [])(h':cN S v≠ []):Xw nm f (k+1) v S=if Xw nm f k (v+1) (cN S v)=Xw nm f k (v+1) (eQ S v)then Xw nm f k (v+1) (cN S v)else YE nm v (Xw nm f k (v+1) (cN S v)) (Xw nm f k (v+1) (eQ S v)):=by
 rw[tN hS,if_neg (λe=>e.elim h h')]
theorem hQF {S:List Nat}{v k:Nat}(h:Apt S v (k+1)):Apt (cN S v) (v+1) k:=h.sub (λc hc=>(Va.1 hc).1) (λc hc c' Kl=>by
 rw[(Va.1 hc).2,(Va.1 Kl).2])
theorem hQG {S:List Nat}{v k:Nat}(h:Apt S v (k+1)):Apt (eQ S v) (v+1) k:=h.sub (λc hc=>(Va.1 hc).1) (λc hc c' Kl=>by
 have h1:=(Va.1 hc).2;have h2:=(Va.1 Kl).2;simp at h1 h2;rw[h1,h2])
def JT (n:Nat)(nd:List Br)(r:Int):Bool:=open Classical in decide (XK nd r=0/\∀b∈nd,b.v<n)
def oD (x:DV):BF:=ev x.nd x.r
theorem hZ {n:Nat}{nd:List Br}{r:Int}:JT n nd r=true↔XK nd r=0/\VIn n nd:=by unfold JT;exact decide_eq_true_iff
theorem eS {n:Nat}{x:DV}(h:JT n x.nd x.r=true):Set1 n x.nd x.r (oD x):=by
 obtain⟨h1,h2⟩:=hZ.1 h;exact⟨(gf.1 h1).2,h2,λe=>rfl⟩
theorem jp {n:Nat}(hn:n<=12){x:DV}{o:BF}(h:Set1 n x.nd x.r o):JT n x.nd x.r=true/\∀e,oD x e=o e:=
 ⟨hZ.2 ⟨h.chk hn,h.vin⟩,λe=>h.mean e⟩
abbrev gj (n:Nat)(R:List Nat)(o:BF):List Nat:=R.filter (λc=> !o (bits c))
def Vo (n:Nat):List Nat->List (DV×List Nat)->Bool
 | R,[]=>decide (R=[])
 | R,p::ps=>(JT n p.1.nd p.1.r&&decide (Qu n (oD p.1)≠ [])&&(Qu n (oD p.1)).all (λc=>decide (c∈R))&&JD p.2)&&Vo n (gj n R (oD p.1)) ps
def XN (ps:List (DV×List Nat)):List Pr:=ps.map (λp=>⟨oD p.1,p.2⟩)
def bR (nm:List (List Nat))(d:DV)(ps:List (DV×List Nat)):Except Int (List Nat):=
 if Zx nm=false∨JT nm.length d.nd d.r=false then .error 1
 else if Vo nm.length (Qu nm.length (oD d)) ps=false then .error 290
 else if ps=[] then .ok []
 else if 1048576<(Qo (Xw nm (fP (XN ps)) nm.length 0 (Qu nm.length (oD d)))).length then .error 2
 else .ok (Qo (Xw nm (fP (XN ps)) nm.length 0 (Qu nm.length (oD d))))
theorem BU {n:Nat}{R:List Nat}{p:DV×List Nat}{ps:List (DV×List Nat)}:Vo n R (p::ps)=true↔(JT n p.1.nd p.1.r=true/\Qu n (oD p.1)≠ []/\(∀c∈Qu n (oD p.1),c∈R)/\JD p.2=true)/\Vo n (gj n R (oD p.1)) ps=true:=by
 rw[Vo];simp only[Jv,Vb,VT];constructor
 ·rintro⟨⟨⟨⟨h1,h2⟩,h3⟩,h4⟩,h5⟩;exact⟨⟨h1,h2,h3,h4⟩,h5⟩
 ·rintro⟨⟨h1,h2,h3,h4⟩,h5⟩;exact⟨⟨⟨⟨h1,h2⟩,h3⟩,h4⟩,h5⟩
theorem GP {n:Nat}:∀{ps:List (DV×List Nat)}{R:List Nat},(∀c∈R,c<2^n)->Vo n R ps=true->PaOk R (XN ps)/\(∀p∈ps,JT n p.1.nd p.1.r=true/\Qu n (oD p.1)≠ []/\JD p.2=true/\∀c∈Qu n (oD p.1),c∈R)
 | [],R,hR,h=>by
  have:R=[]:=by simpa [Vo] using h
  subst this;exact⟨⟨(λc hc=>by cases hc),λc hc=>by cases hc⟩,λp hp=>by cases hp⟩
 | p::ps,R,hR,h=>by
  obtain⟨⟨h1,h2,h3,h4⟩,h5⟩:=BU.1 h;obtain⟨⟨k1,k2⟩,k3⟩:=GP (R:=gj n R (oD p.1)) (λc hc=>hR c (Va.1 hc).1) h5;have QN:∀q∈ps,∀c,c<2^n->oD q.1 (bits c)=true->oD p.1 (bits c)=false:=λq hq c hc iP=>by
   have:=(k3 q hq).2.2.2 c (ZY.2 ⟨hc,iP⟩);have:=(Va.1 this).2;simpa using this
  refine⟨⟨λc hc=>?_,λc hc i j a b hi hj ha hb=>?_⟩,λq hq=>?_⟩
  ·cases KB:oD p.1 (bits c)with
   | true=>exact⟨_,NZ,KB⟩
   | false=>
    obtain⟨q,hq,iP⟩:=k1 c (Va.2 ⟨hc,by simp[KB]⟩);exact⟨q,vu _ hq,iP⟩
  ·have nW:=hR c hc;cases i with
   | zero=>
    cases j with
    | zero=>rfl
    | succ j=>
     have ea:a=⟨oD p.1,p.2⟩:=by simpa [XN] using hi.symm
     have hjm:b∈XN ps:=Q2 (by simpa [XN] using hj);obtain⟨q,hq,rfl⟩:=ZM.1 hjm;subst ea;have:=QN q hq c nW hb;exact Xd (ha.symm.trans this) (by decide)
   | succ i=>
    have him:a∈XN ps:=Q2 (by simpa [XN] using hi);obtain⟨q,hq,rfl⟩:=ZM.1 him;have KB:=QN q hq c nW ha;cases j with
    | zero=>
     have eb:b=⟨oD p.1,p.2⟩:=by simpa [XN] using hj.symm
     subst eb;exact Xd (hb.symm.trans KB) (by decide)
    | succ j=>
     have MY:c∈gj n R (oD p.1):=Va.2 ⟨hc,by simp[KB]⟩;have:=k2 c MY i j _ _ (by simpa [XN] using hi) (by simpa [XN] using hj) ha hb;rw[this]
  ·rcases Q0.1 hq with rfl | hq
   ·exact⟨h1,h2,h4,h3⟩
   ·obtain⟨a1,a2,a3,a4⟩:=k3 q hq;exact⟨a1,a2,a3,λc hc=>(Va.1 (a4 c hc)).1⟩
theorem hQH (ls:List (List Nat))(A:Option Addr)(n c:Nat)(w:World)(h:Sl w 1 A n c (Q9 ls))(hb:∀s∈ls,∀x∈s,x<256):
  Fn Tryz.prog 169 [.slice A n c,.func (.func 47) #[] #[]] w (λu w'=>(∃k:Int,u= .int .i64 k/\(0<=k↔ls.any YF=true))/\Ext w w'):=by
 have hn:ls.length=n:=by have:=h.len;rw[YO] at this;omega
 have ZO:=h.le;have WQ:=h.cap;refine Qx (c:={dQw with cuts:=[]}) Qa Tryz.func169 rfl rfl rfl ?_;refine loop Qa [8] (λi:Nat=>[.int .i64 i]) (λi w'=>Ext w w'/\i<=n/\(ls.take i).any YF=false) (λi _=>n-i) 0 rfl ⟨Ext.refl _,Xt _,by simp⟩ ?_;rintro i w1 ⟨Qd,hi,Xa⟩;refine Qt (λc1=>?_) (λc1=>?_)
 ·have QN:i<n:=by omega
  have hg:ls[i]? =some ls[i]:=Xb (by omega);have uS:=hb _ (Q2 hg);generalize ls[i]=l at*;refine ZF (h.ext Qd) QN (λad u hA hu QR=>?_);rw[cz hg] at hu;cases hu;refine load QR ?_;refine call (BK l w1 uS) ?_;rintro _ w2 ⟨rfl,Qg⟩;have Wx:(ls.take (i+1)).any YF=YF l:=by rw[KC,hg,List.any_append,Xa];simp
  refine Kq (λd1=>?_) (λd1=>?_)
  ·have d1:YF l=true:=d1;exact⟨⟨i,rfl,⟨λ_=>vv.2 ⟨l,Q2 hg,d1⟩,λ_=>by omega⟩⟩,Qd.trans Qg⟩
  ·have d1:YF l=false:=d1;simp only[maxLen] at WQ;refine Qj ((i+1:Nat):Int) (by show((i:Nat):Int)+1=_;omega) (by omega) ?_;exact⟨i+1,rfl,⟨Qd.trans Qg,QN,by rw[Wx,d1]⟩,by show n-(i+1)<n-i;omega⟩
 ·have QN:i=n:=by omega
  rw[QN,Zz (by omega)] at Xa;exact⟨⟨-1,rfl,by rw[Xa];simp⟩,Qd⟩
theorem Tn (ls:List (List Nat))(A:Option Addr)(n c:Nat)(w:World)(h:Sl w 1 A n c (Q9 ls))(hb:∀s∈ls,∀x∈s,x<256):
  Fn Tryz.prog 114 [.slice A n c,.func (.func 47) #[] #[]] w (λu w'=>u= .bool (ls.any YF)/\Ext w w'):=by
 refine Qx (c:={cQQ with cuts:=[]}) Qa Tryz.func114 rfl rfl rfl ?_;refine call (hQH ls A n c w h hb) ?_;rintro _ w1 ⟨⟨k,rfl,hk⟩,Qd⟩;refine⟨?_,Qd⟩;refine QO Value.bool ?_;cases ha:ls.any YF with
 | true=>exact XT (hk.2 ha)
 | false=>exact XS (λhh=>by rw[hk.1 hh] at ha;cases ha)
theorem To (l:List Nat)(w:World)(hl:∀x∈l,x<256)(Xf:l.length<=1000000000):
  Fn Tryz.prog 63 [.string (Qe l)] w (λu w'=>u= .bool (JD l)/\Ext w w'):=by
 refine Qx (c:={c63 with cuts:=[]}) Qa Tryz.func63 rfl rfl rfl ?_;have fin:∀w1,Ext w w1->W3 l=true->∀ls,KP l=ls->∀w2,Ext w1 w2->(Value.bool (!(ls.any YF))= .bool (JD l)/\Ext w w2):=λw1 Qd ht ls K8 w2 Qg=>by
  refine⟨?_,Qd.trans Qg⟩;rw[<-K8,pX (jn ht),gQy,Bool.not_not];unfold JD;rw[ht,aV]
 by_cases h0:l=[]
 ·subst h0;refine Xe rfl ?_;refine call (Bw [] w hl Xf) ?_;rintro _ w1 ⟨A,c,rfl,Qd,J7⟩;refine call (Tn _ A _ c w1 J7.1 (λs hs=>by simp[KP,Zi] at hs)) ?_;rintro _ w2 ⟨rfl,Qg⟩;exact fin w1 Qd rfl _ rfl w2 Qg
 ·refine Xx (λe=>h0 (Z6 hl (by simp) e)) ?_;refine call (hQm l w hl (by omega)) ?_;rintro _ _ ⟨rfl,rfl⟩;refine Kq (λd1=>?_) (λd1=>?_)
  ·have d1:(l.getLast? ==some 10)=true:=d1;have ht:W3 l=true:=by unfold W3;rw[d1,Bool.or_true]
   refine call (Bw l w hl Xf) ?_;rintro _ w1 ⟨A,c,rfl,Qd,J7⟩;refine call (Tn _ A _ c w1 J7.1 (λs hs x hx=>by
    rw[pX (jn ht)] at hs;obtain⟨r,hr,rfl⟩:=ZM.1 hs;rcases XH.1 hx with hx | hx
    ·have hu:=aG (jn ht);refine hl x ?_;rw[<-hu];exact eA.2 ⟨r,hr,by simp[hx]⟩
    ·rw[QF.1 hx];decide)) ?_
   rintro _ w2 ⟨rfl,Qg⟩;exact fin w1 Qd ht _ rfl w2 Qg
  ·have d1:(l.getLast? ==some 10)=false:=d1;refine⟨?_,Ext.refl _⟩;unfold JD W3;rw[d1,XS h0]<;>rfl
theorem hQI (b:Br)(n bx:Nat)(w:World)(hB:Blk w bx 3 [.int .i64 n]):
  Fn Tryz.prog 110 [.agg b.cells.toArray,.pointer (some ⟨bx,0,none⟩)] w (λu w'=>u= .bool (decide ((n:Int)<=b.v))/\Ext w w'):=by
 refine Qx (c:={cQN with cuts:=[]}) Qa Tryz.func110 rfl rfl rfl ?_;refine new (λw1 Qd Q3 Qh=>?_);refine QC Qh rfl ?_;refine QC (hB.ext Qd) rfl ?_;exact⟨rfl,Qd⟩
theorem hQJ (nd:List Br)(A:Option Addr)(m c n bx:Nat)(w:World)(h:SB w A m c nd)(hB:Blk w bx 3 [.int .i64 n]):
  Fn Tryz.prog 165 [.slice A m c,.func (.func 110) #[] #[.pointer (some ⟨bx,0,none⟩)]] w (λu w'=>(∃k:Int,u= .int .i64 k/\(0<=k↔∃b∈nd,(n:Int)<=b.v))/\Ext w w'):=by
 have hn:=h.2;have ZO:=h.1.le;have WQ:=h.1.cap;refine Qx (c:={dQt with cuts:=[]}) Qa Tryz.func165 rfl rfl rfl ?_;refine loop Qa [8] (λi:Nat=>[.int .i64 i]) (λi w'=>Ext w w'/\i<=m/\∀b∈nd.take i,¬(n:Int)<=b.v) (λi _=>m-i) 0 rfl ⟨Ext.refl _,Xt _,λb hb=>by simp at hb⟩ ?_;rintro i w1 ⟨Qd,hi,Xa⟩;refine Qt (λc1=>?_) (λc1=>?_)
 ·have QN:i<m:=by omega
  refine Zh YR (h.ext Qd) rfl QN (λp b hb hc=>?_);refine Kb (vs:=b.cells) rfl hc ?_;refine call (hQI b n bx w1 (hB.ext Qd)) ?_;rintro _ w2 ⟨rfl,Qg⟩;have uU:=Q2 hb;refine Qt (λd1=>?_) (λd1=>?_)
  ·exact⟨⟨i,rfl,⟨λ_=>⟨b,uU,d1⟩,λ_=>by omega⟩⟩,Qd.trans Qg⟩
  ·simp only[maxLen] at WQ;refine Qj ((i+1:Nat):Int) (by show((i:Nat):Int)+1=_;omega) (by omega) ?_;refine⟨i+1,rfl,⟨Qd.trans Qg,QN,λb' hb'=>?_⟩,by show m-(i+1)<m-i;omega⟩;rw[KC,hb] at hb';rcases XH.1 hb' with hb' | hb'
   ·exact Xa b' hb'
   ·have:b'=b:=by simpa using hb'
    rw[this];exact d1
 ·have QN:i=m:=by omega
  rw[QN,Zz (by omega)] at Xa;exact⟨⟨-1,rfl,⟨λhh=>Xd hh (by decide),λ⟨b,hb,hh⟩=>Xd hh (Xa b hb)⟩⟩,Qd⟩
theorem GQ (A:Option Addr)(m c n:Nat)(nd:List Br)(r:Int)(w:World)(h:SB w A m c nd):
  Fn Tryz.prog 61 [Xg A m c r,.int .i64 n] w (λu w'=>u= .bool (JT n nd r)/\Ext w w'):=by
 refine Qx (c:={c61 with cuts:=[]}) Qa Tryz.func61 rfl rfl rfl ?_;refine new (λw1 Qd Q3 Qh=>?_);refine new (λw2 Qg X0 Qv=>?_);have QT:=Qd.trans Qg;refine Qs (Qh.ext Qg) rfl ?_;refine call (AU A m c nd r w2 (h.ext QT)) ?_;rintro _ w3 ⟨rfl,Qi⟩;have QQ:=QT.trans Qi;refine XU (λc1=>?_) (λc1=>?_)
 ·refine QC ((Qh.ext Qg).ext Qi) rfl ?_;refine call (Qx (c:={cQM with cuts:=[]}) (R:=λu w'=>u= .bool (decide (∃b∈nd,(n:Int)<=b.v))/\Ext w3 w') Qa Tryz.func109 rfl rfl rfl ?_) ?_
  ·refine call (hQJ nd A m c n w1.heap.size w3 (h.ext QQ) (Qv.ext Qi)) ?_;rintro _ w4 ⟨⟨k,rfl,hk⟩,Qq⟩;refine⟨?_,Qq⟩;refine QO Value.bool ?_;by_cases hh:∃b∈nd,(n:Int)<=b.v
   ·rw[XT hh];exact XT (hk.2 hh)
   ·rw[XS hh];exact XS (λh2=>hh (hk.1 h2))
  rintro _ w4 ⟨rfl,Qq⟩;refine⟨?_,QQ.trans Qq⟩;refine QO Value.bool ?_;by_cases hh:∃b∈nd,(n:Int)<=b.v
  ·rw[XT hh]
   symm;refine YM.2 (λho=>?_);obtain⟨b,hb,hv⟩:=hh;have:=(hZ.1 ho).2 b hb;omega
  ·rw[XS hh];exact(hZ.2 ⟨c1,λb hb=>by
    apply Classical.byContradiction;intro hv;exact hh ⟨b,hb,by omega⟩⟩).symm
 ·refine⟨?_,QQ⟩;refine QO Value.bool ?_;exact(YM.2 (λho=>c1 (hZ.1 ho).1)).symm
theorem hQK {k:Nat}(hk:k<=12)(x y:DV){o o':BF}(w:World)(h:SB w x.A x.n x.c x.nd)(h':SB w y.A y.n y.c y.nd)(s:Set1 k x.nd x.r o)(s':Set1 k y.nd y.r o'):
  Fn Tryz.prog 115 [Xg x.A x.n x.c x.r,Xg none 0 0 0,Xg y.A y.n y.c y.r] w (wO w k (λe=> !o e&&o' e)):=by
 have oP:=h.2;have hyl:=h'.2;have l1:=s.len hk;have l2:=s'.len hk;refine Qx (c:={cQR with cuts:=[]}) Qa Tryz.func115 rfl rfl rfl ?_;refine new (λw1 Qd Q3 Qh=>?_);refine new (λw2 Qg X0 Qv=>?_);refine new (λw3 Qi JF Qw=>?_);refine new (λw4 Qq K5 Q6=>?_);have K6:=Qi.trans Qq;have Ja:=Qg.trans K6;have XI:=Qd.trans Ja;have Jc:=Qh.ext Ja;have lA:=Qv.ext K6;have jz:=Qw.ext Qq;refine Qs Jc rfl ?_;refine Qs lA rfl ?_;refine Qs jz rfl ?_;refine Xm Qa [x.cells,(⟨none,0,0,[],0⟩:DV).cells,y.cells] rfl rfl rfl rfl rfl ⟨rfl,rfl,rfl,rfl,rfl,rfl,⟨⟩⟩ rfl (λcs h=>by simp only[Q0,Jk,Jm] at h;rcases h with rfl | rfl | rfl<;>rfl) rfl (by decide) (by decide) ?_;intro w5 Qz Kw QL;have J6:=XI.trans Qz;have hL:SlS DV.cells 2 w5 (some ⟨w4.heap.size,0,none⟩) 3 3 [x,⟨none,0,0,[],0⟩,y]:=⟨Sl.own (sz:=2) (n:=3) QL (QD _) (by decide) (by simp[DV.cells]),rfl⟩
 refine call (Bo _ 3 3 _ w5 hL (λz hz=>by
  simp only[Q0,Jk,Jm] at hz;rcases hz with rfl | rfl | rfl
  ·exact h.ext J6
  ·exact SlS.nil _
  ·exact h'.ext J6)) ?_
 rintro v w6 ⟨rfl,Xh⟩;have XF:=Qz.trans Xh;have XD:=XI.trans XF;have iz:a8 [x,(⟨none,0,0,[],0⟩:DV),y]=0:=by
  have e1:XK x.nd x.r=0:=s.chk hk;have e2:XK y.nd y.r=0:=s'.chk hk;have e3:XK ([]:List Br) 0=0:=(bO k false).chk hk;simp[a8,e1,e2,e3]
 rw[iz];refine Y9 rfl ?_;refine Qs (Jc.ext XF) rfl ?_;refine Qs (lA.ext XF) rfl ?_;refine Qs (jz.ext XF) rfl ?_;have va:=s.vd;have vb:=s'.vd;have hb2:=FX va vb 4;have Ep:(x.nd.length+2)*(y.nd.length+2)<=4098*4098:=Nat.mul_le_mul (by omega) (by omega);refine call (gQE x.A x.n x.c x.nd x.r y.A y.n y.c y.nd y.r w6 (h.ext XD) (h'.ext XD) va.dok vb.dok va.2.1 (by have:=va.2.2.1;omega) vb.2.1 (by have:=vb.2.2.1;omega) (by omega) (by omega) (by omega)) ?_;have c4:Set1 k _ _ (λe=> !o e&&o' e):=(eL s s' 4).congr (λe=>by simp[Kr]);have JH:=gV hk s s' 4;have em:ji (VV x.nd x.r y.nd y.r 4)=(VV x.nd x.r y.nd y.r 4,0):=by unfold ji;rw[if_neg (by have:=c4.len hk;omega)]
 generalize VV x.nd x.r y.nd y.r 4=D at*;obtain⟨D1,D2⟩:=D;rintro v w7 ⟨OA,m,oc,rfl,QY,IA,Kf⟩;have Yi:=XF.trans QY;have z67:=XD.size;refine call (R5 OA m oc _ _ w4 w7 IA (λi hi=>by have:=Kf i hi;have:=XF.size;omega) Yi) ?_;rw[em];rintro v w8 ⟨PA,q,pc,rfl,Q7,xH,nP⟩;refine QB (Q6.ext Q7) rfl (sc rfl) (λw9 bt _ Z8=>?_);have X4:Mod (·=w3.heap.size) w8 w9:=oQh bt rfl;refine Qs Z8 rfl ?_;exact⟨PA,q,pc,D1,D2,rfl,X4.ext (XI.trans Q7) (λi hi=>by omega),⟨xH.1.modS X4 (λ_ i hi e=>by have:=nP i hi;omega),xH.2⟩,c4,λi hi=>by have:=nP i hi;omega⟩
theorem GR (w:World):Fn Tryz.prog 44 [.int .i64 0] w (λ_ w'=>w=w'):=by
 refine Qx (c:={OU with cuts:=[]}) Qa Tryz.func44 rfl rfl rfl ?_;refine Y9 rfl ?_;exact rfl
theorem BV (x:DV)(w:World):Fn Tryz.prog 100 [Xg x.A x.n x.c x.r,.int .i64 0] w (λu w'=>u=Xg x.A x.n x.c x.r/\Ext w w'):=by
 refine Qx (c:={cQE with cuts:=[]}) Qa Tryz.func100 rfl rfl rfl ?_;refine new (λw1 Qd Q3 Qh=>?_);refine new (λw2 Qg X0 Qv=>?_);refine call (GR w2) ?_;rintro _ _ rfl;refine Qs (Qh.ext Qg) rfl ?_;refine QB Qv rfl (sc rfl) (λw3 ZZ _ Qw=>?_);have Z3:Mod (·=w1.heap.size) w2 w3:=oQh ZZ rfl;refine Qs Qw rfl ?_;exact⟨rfl,Z3.ext (Qd.trans Qg) (λi hi=>by omega)⟩
theorem nh {k:Nat}(hk:k<=12)(x y:DV){o o':BF}(w:World)(h:SB w x.A x.n x.c x.nd)(h':SB w y.A y.n y.c y.nd)(s:Set1 k x.nd x.r o)(s':Set1 k y.nd y.r o'):
  Fn Tryz.prog 49 [Xg x.A x.n x.c x.r,Xg y.A y.n y.c y.r] w (gi w k (λe=>o e&&o' e)):=by
 refine Qx (c:={c49 with cuts:=[]}) Qa Tryz.func49 rfl rfl rfl ?_;refine new (λw1 Qd Q3 Qh=>?_);refine new (λw2 Qg X0 Qv=>?_);refine new (λw3 Qi JF Qw=>?_);have KU:=Qg.trans Qi;have QQ:=Qd.trans KU;refine Qs (Qh.ext KU) rfl ?_;refine Qs (Qv.ext Qi) rfl ?_;refine call (wC x.A x.n x.c x.nd x.r y.A y.n y.c y.nd y.r w3 (h.ext QQ) (h'.ext QQ)) ?_;rw[gV hk s s' 0];have c1:Set1 k _ _ (λe=>o e&&o' e):=(eL s s' 0).congr (λe=>by simp[Kr]);generalize VV x.nd x.r y.nd y.r 0=D at*;obtain⟨D1,D2⟩:=D;rintro _ w5 ⟨PA,pn,pc,rfl,Qz,qE,bw⟩;refine call (BV ⟨PA,pn,pc,D1,D2⟩ w5) ?_;rintro _ w6 ⟨rfl,Xh⟩;have Ky:=Qz.trans Xh;refine QB (Qw.ext Ky) rfl (sc rfl) (λw7 ZC _ Q4=>?_);have Xi:Mod (·=w2.heap.size) w6 w7:=oQh ZC rfl;refine Qs Q4 rfl ?_;exact⟨PA,pn,pc,D1,D2,rfl,Xi.ext (QQ.trans Ky) (λi hi=>by omega),SB.mod (qE.ext Xh) Xi (λi hi e=>by have:=bw i hi;omega),c1,λi hi=>by have:=bw i hi;omega⟩
theorem eT {k:Nat}(hk:k<=12)(x y:DV){o o':BF}(w:World)(h:SB w x.A x.n x.c x.nd)(h':SB w y.A y.n y.c y.nd)(s:Set1 k x.nd x.r o)(s':Set1 k y.nd y.r o'):
  Fn Tryz.prog 64 [Xg x.A x.n x.c x.r,Xg y.A y.n y.c y.r] w (gi w k (λe=>o e && !o' e)):=by
 refine Qx (c:={c64 with cuts:=[]}) Qa Tryz.func64 rfl rfl rfl ?_;refine new (λw1 Qd Q3 Qh=>?_);refine new (λw2 Qg X0 Qv=>?_);refine new (λw3 Qi JF Qw=>?_);have KU:=Qg.trans Qi;have QQ:=Qd.trans KU;refine Qs (Qv.ext Qi) rfl ?_;refine Qs (Qh.ext KU) rfl ?_;refine call (hQK hk y x w3 (h'.ext QQ) (h.ext QQ) s' s) ?_;rintro _ w5 ⟨PA,pn,pc,D1,D2,rfl,Qz,qE,fd,bw⟩;refine call (BV ⟨PA,pn,pc,D1,D2⟩ w5) ?_;rintro _ w6 ⟨rfl,Xh⟩;have Ky:=Qz.trans Xh;refine QB (Qw.ext Ky) rfl (sc rfl) (λw7 ZC _ Q4=>?_);have Xi:Mod (·=w2.heap.size) w6 w7:=oQh ZC rfl;refine Qs Q4 rfl ?_;exact⟨PA,pn,pc,D1,D2,rfl,Xi.ext (QQ.trans Ky) (λi hi=>by omega),SB.mod (qE.ext Xh) Xi (λi hi e=>by have:=bw i hi;omega),fd.congr (λe=>by rw[Bool.and_comm]),λi hi=>by have:=bw i hi;omega⟩
abbrev Zs (ls:List (List Nat)):List Value:=Q9 (ls.map (·++ [10]))
theorem BW (ls:List (List Nat)):(Zs ls).length=ls.length:=by rw[YO,ZW]
theorem Wd {ls:List (List Nat)}{j:Nat}{s:List Nat}(h:ls[j]? =some s):(Zs ls)[j]? =some (.string (Qe (s++ [10]))):=cz (by rw[Vi,h];rfl)
theorem Sl.from {w:World}{n c l:Nat}{A:Option Addr}{cs:List Value}(h:Sl w 1 A n c cs)(hl:l<=n):Sl w 1 (if c=l then A else A.map (·.add (l*1))) (n-l) (c-l) (cs.drop l):=by
 have h1:=h.len;have h2:=h.le;have h3:=h.cap;refine⟨by rw[Y5];omega,by omega,by omega,λh0=>?_⟩;obtain⟨ad,rfl,hc⟩:=h.at_ (by omega);refine⟨ad.add (l*1),by rw[if_neg (by omega)];rfl,λj u hu=>?_⟩;rw[Addr.add_add,WV];exact hc _ _ (by rw[zX] at hu;exact hu)
def We (ls:List (List Nat)):Prop:=∀s∈ls,(∀x∈s,x<256)/\s.length<=1000000000
theorem cO {s:List Nat}(h:∀x∈s,x<256):∀x∈s++ [10],x<256:=λx hx=>by
 rcases XH.1 hx with hx | hx
 ·exact h x hx
 ·rw[QF.1 hx];decide
def bg (back:Bool)(a:List (List Nat)):List (List Nat):=if back then a.reverse else a
theorem GS (back:Bool)(a:List (List Nat)):(bg back a).length=a.length:=by cases back<;>simp[bg]
theorem Tp {back:Bool}{a:List (List Nat)}{k:Nat}{s:List Nat}(h:(bg back a)[k]? =some s):a[if back then a.length-1-k else k]? =some s:=by
 cases back with
 | false=>exact h
 | true=>
  have hk:k<a.length:=by have:=(Zw.1 h).1;rw[GS] at this;exact this
  rw[show bg true a=a.reverse from rfl,List.getElem?_reverse hk] at h;exact h
theorem hQL (b:List (List Nat))(k best:Nat)(o:Int):kR [] b k best o=best:=by cases b<;>rfl
theorem hQM (a:List (List Nat))(k best:Nat)(o:Int):kR a [] k best o=best:=by cases a<;>rfl
theorem Tq {α:Type}{l:List α}{k:Nat}{x:α}(h:l[k]? =some x):l.drop k=x::l.drop (k+1):=by
 obtain⟨hk,e⟩:=Zw.1 h;rw[bG hk,e]
theorem hQN (s:List Nat): -1<=Kt s/\Kt s<=1:=by unfold Kt;split<;>(try split)<;>omega
theorem Ts (a b:List (List Nat))(A B:Option Addr)(n c m d:Nat)(back:Bool)(w:World)(h:Sl w 1 A n c (Zs a))(h':Sl w 1 B m d (Zs b))(ha:We a)(hb:We b)(hn:n<=1000000000):
  Fn Tryz.prog 171 [.slice A n c,.slice B m d,.bool back] w (λu w'=>u= .int .i64 (Vn (bg back a) (bg back b))/\Ext w w'):=by
 have Ka:a.length=n:=by have:=h.len;rw[BW] at this;omega
 have aR:b.length=m:=by have:=h'.len;rw[BW] at this;omega
 have zr:m<=9223372036854775807:=by have:=h'.le;have:=h'.cap;simp only[maxLen] at this;omega
 have hA:=GS back a;have hB:=GS back b;refine Qx (c:={dQy with cuts:=[]}) Qa Tryz.func171 rfl rfl rfl ?_;refine norm (m:=((min n m:Nat):Int)) (by rw[Nat.min_def];split<;>split<;>omega) ?_;generalize Ef:min n m=mn;have Zr:mn<=n:=by omega
 have XR:mn<=m:=by omega
 have XE:mn=n∨mn=m:=by omega
 refine loop Qa [17,7,8] (λs:Nat×Nat×Int=>[.int .i64 s.1,.int .i64 s.2.1,.int .i64 s.2.2]) (λs w'=>Ext w w'/\s.1<=mn/\s.2.1<=s.1/\ -(s.1:Int)<=s.2.2/\s.2.2<=s.1/\kR ((bg back a).drop s.1) ((bg back b).drop s.1) s.1 s.2.1 s.2.2=Vn (bg back a) (bg back b)) (λs _=>mn-s.1) (0,0,0) rfl ⟨Ext.refl _,Xt _,QD _,by simp,by simp,rfl⟩ ?_;rintro⟨k,best,o⟩ w1 ⟨Qd,hk,jM,dR,gp,Q1⟩;simp only at hk jM dR gp Q1;refine Qt (λc1=>?_) (λc1=>?_)
 ·have Xp:k<mn:=by simp only at c1;omega
  obtain⟨x,hx⟩:∃x,(bg back a)[k]? =some x:=⟨_,Xb (by omega)⟩
  obtain⟨y,hy⟩:∃y,(bg back b)[k]? =some y:=⟨_,Xb (by omega)⟩
  rw[Tq hx,Tq hy,kR] at Q1;have VN:=Tp hx;have rI:=Tp hy;have ZP:=ha x (Q2 VN);have ci:=hb y (Q2 rI);obtain⟨x0,gq⟩:∃x0,a[k]? =some x0:=⟨_,Xb (by omega)⟩
  obtain⟨y0,hy0⟩:∃y0,b[k]? =some y0:=⟨_,Xb (by omega)⟩
  refine Xy Qa (Ext w1) 10 [(true,0),(true,1),(true,2),(true,3),(true,4),(true,5),(true,6),(true,7),(true,8),(true,9)] (by kernel_rfl) (Ext.drew w1) ?_;refine ZF (h.ext Qd) (by omega) (λad u MZ hu QR=>?_);rw[Wd gq] at hu;cases hu;refine QJ (v:=.string (Qe (x0++ [10]))) (λw' Qb=>Qb.cell QR) ?_;refine ZF (h'.ext Qd) (by omega) (λad u MZ hu QR=>?_);rw[Wd hy0] at hu;cases hu;refine QJ (v:=.string (Qe (y0++ [10]))) (λw' Qb=>Qb.cell QR) ?_;cases back with
  | false=>
   refine Xv rfl ?_;have ex:x=x0:=(Option.some.inj (gq.symm.trans VN)).symm;have ey:y=y0:=(Option.some.inj (hy0.symm.trans rI)).symm;subst ex ey;have K7:=Qd.trans (Ext.drew w1);have aT:(Qe (x++ [10])=Qe (y++ [10]))↔x=y:=⟨λhh=>by have:=Z6 (cO ZP.1) (cO ci.1) hh;exact zY this,λhh=>by rw[hh]⟩
   by_cases Xl:x=y
   ·rw[Qf Xl] at Q1;refine Xv (by simp[aT.2 Xl]) ?_;refine call (Gt (x++ [10]) ZH _ (cO ZP.1) (by decide)) ?_;rintro _ _ ⟨rfl,rfl⟩;rw[Gr];cases hp:ZH.isPrefixOf x with
    | true=>
     have hd:Kt x=1:=by unfold Kt;rw[Qf hp]
     refine Xe rfl ?_;refine Qj (o+1) rfl (by omega) ?_;have J8:=Q1;rw[hd] at J8;by_cases h0:o+1=0
     ·rw[Qf h0] at J8;refine JN h0 ?_;refine Qj ((k+1:Nat):Int) (by show((k:Nat):Int)+1=_;omega) (by omega) ?_;refine Qj ((k+1:Nat):Int) (by show((k:Nat):Int)+1=_;omega) (by omega) ?_;exact⟨(k+1,k+1,o+1),rfl,⟨K7,Xp,QD _,by show -((k+1:Nat):Int)<=o+1;omega,by show o+1<=((k+1:Nat):Int);omega,J8⟩,by show mn-(k+1)<mn-k;omega⟩
     ·rw[if_neg h0] at J8;refine XW h0 ?_;refine Qj ((k+1:Nat):Int) (by show((k:Nat):Int)+1=_;omega) (by omega) ?_;exact⟨(k+1,best,o+1),rfl,⟨K7,Xp,by show best<=k+1;omega,by show -((k+1:Nat):Int)<=o+1;omega,by show o+1<=((k+1:Nat):Int);omega,J8⟩,by show mn-(k+1)<mn-k;omega⟩
    | false=>
     refine Xv rfl ?_;have QK:(Qe (x++ [10])=Qe (Zq++ [10]))↔x=Zq:=⟨λhh=>by have:=Z6 (cO ZP.1) (by decide) hh;exact zY this,λhh=>by rw[hh]⟩
     by_cases he:x=Zq
     ·have hd:Kt x= -1:=by unfold Kt;rw[if_neg (by rw[hp];decide),Qf he]
      refine Zd (QK.2 he) ?_;refine Qj (o-1) rfl (by omega) ?_;have J8:=Q1;rw[hd,show o+(-1)=o-1 by omega] at J8;by_cases h0:o-1=0
      ·rw[Qf h0] at J8;refine JN h0 ?_;refine Qj ((k+1:Nat):Int) (by show((k:Nat):Int)+1=_;omega) (by omega) ?_;refine Qj ((k+1:Nat):Int) (by show((k:Nat):Int)+1=_;omega) (by omega) ?_;exact⟨(k+1,k+1,o-1),rfl,⟨K7,Xp,QD _,by show -((k+1:Nat):Int)<=o-1;omega,by show o-1<=((k+1:Nat):Int);omega,J8⟩,by show mn-(k+1)<mn-k;omega⟩
      ·rw[if_neg h0] at J8;refine XW h0 ?_;refine Qj ((k+1:Nat):Int) (by show((k:Nat):Int)+1=_;omega) (by omega) ?_;exact⟨(k+1,best,o-1),rfl,⟨K7,Xp,by show best<=k+1;omega,by show -((k+1:Nat):Int)<=o-1;omega,by show o-1<=((k+1:Nat):Int);omega,J8⟩,by show mn-(k+1)<mn-k;omega⟩
     ·have hd:Kt x=0:=by unfold Kt;rw[if_neg (by rw[hp];decide),if_neg he]
      refine Xx (λhh=>he (QK.1 hh)) ?_;have J8:=Q1;rw[hd,show o+0=o by omega] at J8;by_cases h0:o=0
      ·rw[Qf h0] at J8;refine JN h0 ?_;refine Qj ((k+1:Nat):Int) (by show((k:Nat):Int)+1=_;omega) (by omega) ?_;refine Qj ((k+1:Nat):Int) (by show((k:Nat):Int)+1=_;omega) (by omega) ?_;exact⟨(k+1,k+1,o),rfl,⟨K7,Xp,QD _,by show -((k+1:Nat):Int)<=o;omega,by show o<=((k+1:Nat):Int);omega,J8⟩,by show mn-(k+1)<mn-k;omega⟩
      ·rw[if_neg h0] at J8;refine XW h0 ?_;refine Qj ((k+1:Nat):Int) (by show((k:Nat):Int)+1=_;omega) (by omega) ?_;exact⟨(k+1,best,o),rfl,⟨K7,Xp,by show best<=k+1;omega,by show -((k+1:Nat):Int)<=o;omega,by show o<=((k+1:Nat):Int);omega,J8⟩,by show mn-(k+1)<mn-k;omega⟩
   ·rw[if_neg Xl] at Q1;refine Xe (by rw[XS (λhh=>Xl (aT.1 hh))];rfl) ?_;exact⟨by rw[<-Q1],K7⟩
  | true=>
   refine Xe rfl ?_;refine Xy Qa (Ext w1.drew) 18 [(true,0),(true,1),(true,2),(true,3),(true,4),(true,5),(true,6),(true,7),(true,8),(true,9),(true,10),(true,11),(true,12),(true,13),(true,14),(true,15),(true,16),(true,17)] (by kernel_rfl) (Ext.drew w1.drew) ?_;refine Qj ((a.length-1:Nat):Int) (by omega) (by omega) ?_;refine Qj ((a.length-1-k:Nat):Int) (by omega) (by omega) ?_;refine ZF ((h.ext Qd).ext (Ext.drew w1)) (by omega) (λad u MZ hu QR=>?_);rw[Wd (show a[a.length-1-k]? =some x from VN)] at hu;cases hu;refine QJ (v:=.string (Qe (x++ [10]))) (λw' Qb=>Qb.cell QR) ?_;refine Qj ((b.length-1:Nat):Int) (by omega) (by omega) ?_;refine Qj ((b.length-1-k:Nat):Int) (by omega) (by omega) ?_;refine ZF ((h'.ext Qd).ext (Ext.drew w1)) (by omega) (λad u MZ hu QR=>?_);rw[Wd (show b[b.length-1-k]? =some y from rI)] at hu;cases hu;refine QJ (v:=.string (Qe (y++ [10]))) (λw' Qb=>Qb.cell QR) ?_;have K7:=(Qd.trans (Ext.drew w1)).trans (Ext.drew _);have aT:(Qe (x++ [10])=Qe (y++ [10]))↔x=y:=⟨λhh=>by have:=Z6 (cO ZP.1) (cO ci.1) hh;exact zY this,λhh=>by rw[hh]⟩
   by_cases Xl:x=y
   ·rw[Qf Xl] at Q1;refine Xv (by simp[aT.2 Xl]) ?_;refine call (Gt (x++ [10]) ZH _ (cO ZP.1) (by decide)) ?_;rintro _ _ ⟨rfl,rfl⟩;rw[Gr];cases hp:ZH.isPrefixOf x with
    | true=>
     have hd:Kt x=1:=by unfold Kt;rw[Qf hp]
     refine Xe rfl ?_;refine Qj (o+1) rfl (by omega) ?_;have J8:=Q1;rw[hd] at J8;by_cases h0:o+1=0
     ·rw[Qf h0] at J8;refine JN h0 ?_;refine Qj ((k+1:Nat):Int) (by show((k:Nat):Int)+1=_;omega) (by omega) ?_;refine Qj ((k+1:Nat):Int) (by show((k:Nat):Int)+1=_;omega) (by omega) ?_;exact⟨(k+1,k+1,o+1),rfl,⟨K7,Xp,QD _,by show -((k+1:Nat):Int)<=o+1;omega,by show o+1<=((k+1:Nat):Int);omega,J8⟩,by show mn-(k+1)<mn-k;omega⟩
     ·rw[if_neg h0] at J8;refine XW h0 ?_;refine Qj ((k+1:Nat):Int) (by show((k:Nat):Int)+1=_;omega) (by omega) ?_;exact⟨(k+1,best,o+1),rfl,⟨K7,Xp,by show best<=k+1;omega,by show -((k+1:Nat):Int)<=o+1;omega,by show o+1<=((k+1:Nat):Int);omega,J8⟩,by show mn-(k+1)<mn-k;omega⟩
    | false=>
     refine Xv rfl ?_;have QK:(Qe (x++ [10])=Qe (Zq++ [10]))↔x=Zq:=⟨λhh=>by have:=Z6 (cO ZP.1) (by decide) hh;exact zY this,λhh=>by rw[hh]⟩
     by_cases he:x=Zq
     ·have hd:Kt x= -1:=by unfold Kt;rw[if_neg (by rw[hp];decide),Qf he]
      refine Zd (QK.2 he) ?_;refine Qj (o-1) rfl (by omega) ?_;have J8:=Q1;rw[hd,show o+(-1)=o-1 by omega] at J8;by_cases h0:o-1=0
      ·rw[Qf h0] at J8;refine JN h0 ?_;refine Qj ((k+1:Nat):Int) (by show((k:Nat):Int)+1=_;omega) (by omega) ?_;refine Qj ((k+1:Nat):Int) (by show((k:Nat):Int)+1=_;omega) (by omega) ?_;exact⟨(k+1,k+1,o-1),rfl,⟨K7,Xp,QD _,by show -((k+1:Nat):Int)<=o-1;omega,by show o-1<=((k+1:Nat):Int);omega,J8⟩,by show mn-(k+1)<mn-k;omega⟩
      ·rw[if_neg h0] at J8;refine XW h0 ?_;refine Qj ((k+1:Nat):Int) (by show((k:Nat):Int)+1=_;omega) (by omega) ?_;exact⟨(k+1,best,o-1),rfl,⟨K7,Xp,by show best<=k+1;omega,by show -((k+1:Nat):Int)<=o-1;omega,by show o-1<=((k+1:Nat):Int);omega,J8⟩,by show mn-(k+1)<mn-k;omega⟩
     ·have hd:Kt x=0:=by unfold Kt;rw[if_neg (by rw[hp];decide),if_neg he]
      refine Xx (λhh=>he (QK.1 hh)) ?_;have J8:=Q1;rw[hd,show o+0=o by omega] at J8;by_cases h0:o=0
      ·rw[Qf h0] at J8;refine JN h0 ?_;refine Qj ((k+1:Nat):Int) (by show((k:Nat):Int)+1=_;omega) (by omega) ?_;refine Qj ((k+1:Nat):Int) (by show((k:Nat):Int)+1=_;omega) (by omega) ?_;exact⟨(k+1,k+1,o),rfl,⟨K7,Xp,QD _,by show -((k+1:Nat):Int)<=o;omega,by show o<=((k+1:Nat):Int);omega,J8⟩,by show mn-(k+1)<mn-k;omega⟩
      ·rw[if_neg h0] at J8;refine XW h0 ?_;refine Qj ((k+1:Nat):Int) (by show((k:Nat):Int)+1=_;omega) (by omega) ?_;exact⟨(k+1,best,o),rfl,⟨K7,Xp,by show best<=k+1;omega,by show -((k+1:Nat):Int)<=o;omega,by show o<=((k+1:Nat):Int);omega,J8⟩,by show mn-(k+1)<mn-k;omega⟩
   ·rw[if_neg Xl] at Q1;refine Xe (by rw[XS (λhh=>Xl (aT.1 hh))];rfl) ?_;exact⟨by rw[<-Q1],K7⟩
 ·have Xp:k=mn:=by simp only at c1;omega
  subst Xp;refine⟨?_,Qd⟩;rcases XE with e | e
  ·rw[vw (by omega),hQL] at Q1;rw[<-Q1]
  ·rw[vw (show(bg back b).length<=k by omega),hQM] at Q1;rw[<-Q1]
theorem Ku (ls:List (List Nat)):∀u∈Q9 ls,Jw u=true:=λu hu=>by
 unfold Q9 at hu;obtain⟨s,_,rfl⟩:=ZM.1 hu;rfl
theorem hQO (ls:List (List Nat))(A:Option Addr)(n c:Nat)(w:World)(h:Sl w 1 A n c (Q9 ls))(hn:n<=1000000000):
  Fn Tryz.prog 172 [.slice A n c] w (λu w'=>∃A' c',u= .slice A' n c'/\Ext w w'/\Own w' w.heap.size 9 1 A' n c' (Q9 ls)):=by
 have hl:ls.length=n:=by have:=h.len;rw[YO] at this;omega
 refine Qx (c:={dQz with cuts:=[]}) Qa Tryz.func172 rfl rfl rfl ?_;cases A with
 | none=>
  have h0:n=0:=Classical.byContradiction (λhh=>by obtain⟨ad,e,_⟩:=h.at_ (by omega);cases e);subst h0;have K8:ls=[]:=Ys hl;subst K8;refine Xe rfl ?_;exact⟨none,0,rfl,Ext.refl _,Own.nil _ _ _ _⟩
 | some a=>
  refine Xv rfl ?_;refine Xm Qa [] rfl rfl rfl rfl rfl ⟨⟩ rfl (λcs h=>by cases h) rfl (by decide) (by decide) ?_;intro w1 Qd Q3 Qh;have C4:Own w1 w.heap.size 9 1 (some ⟨w.heap.size,0,none⟩) 0 0 []:=Own.empty Qh (QD _);refine Zk (n:=0) Qa rfl rfl rfl rfl rfl (by decide) rfl rfl ⟨_,rfl⟩ rfl rfl C4 (h.ext Qd) (Ku ls) (by unfold maxLen;omega) (by show(0+n)*16<=_;omega) (by omega) ?_;intro A' c' w2 XR dP nA;rw[aq,dw] at dP;refine⟨A',c',by rw[aq],XR.ext Qd (λk hk=>(C4.rows k hk).1),dP⟩
theorem p8 (ls:List (List Nat))(k:Nat):(Zs ls).take k=Zs (ls.take k):=by simp[Zs,Q9,List.map_take]
theorem wQ (ls:List (List Nat))(k:Nat):(Zs ls).drop k=Zs (ls.drop k):=by simp[Zs,Q9,List.map_drop]
theorem hQP (a b:List (List Nat)):Zs (a++b)=Zs a++Zs b:=by simp[Zs,Q9]
theorem Tt {c:Cx}(hg:c.g.Ok){o:Oper}{S:Env}{C:World->Prop}{K:Env->Prop}{t e:Nat}{x y:Operand}{A:Option Addr}{n cp:Nat}{h:Nat}{r:TyRow}(ho:o.op= .slice t x none (some y) none)(hr:QX c.g.tys t=some r)(hd:r.d= .slice e){re:TyRow}(Zb:QX c.g.tys e=some re)
  (hx:S.ev x=some (.slice A n cp)) (hy:S.ev y=some (.int .i64 h)) (hh:h<=cp)
  (k:Xn c S o.dst (.v (.slice A h cp)) K):cv c o S C K:=by
 have Xc:=(hg.row hr).1;rw[hd] at Xc;unfold cv;refine⟨_,λa w hf _=>?_,k⟩;have e1:=hf.ev hx;have e2:=hf.ev hy;simp[execOp,ho,e1,e2,Instr.sliceAt,Instr.slice,ZX Xc,Instr.sliceBounds,Instr.sliceBound,asIntOf,hh,run_sizeOf hg Zb];intro _;cases A<;>simp[Addr.add]
theorem Tu {c:Cx}(hg:c.g.Ok){o:Oper}{S:Env}{C:World->Prop}{K:Env->Prop}{t e:Nat}{x y:Operand}{A:Option Addr}{n cp:Nat}{l:Nat}{r:TyRow}(ho:o.op= .slice t x (some y) none none)(hr:QX c.g.tys t=some r)(hd:r.d= .slice e){re:TyRow}(Zb:QX c.g.tys e=some re)
  (hx:S.ev x=some (.slice A n cp)) (hy:S.ev y=some (.int .i64 l)) (hl:l<=n)
  (k:Xn c S o.dst (.v (.slice (if cp=l then A else A.map (·.add (l*re.sz))) (n-l) (cp-l))) K):cv c o S C K:=by
 have Xc:=(hg.row hr).1;rw[hd] at Xc;unfold cv;refine⟨_,λa w hf _=>?_,k⟩;have e1:=hf.ev hx;have e2:=hf.ev hy;simp[execOp,ho,e1,e2,Instr.sliceAt,Instr.slice,ZX Xc,Instr.sliceBounds,Instr.sliceBound,asIntOf,hl,run_sizeOf hg Zb]
structure Lo (w0 w:World) (O:Option Addr) (n oc:Nat) (ls:List (List Nat)):Prop where
 e:Ext w0 w
 ow:Own w w0.heap.size 9 1 O n oc (Zs ls)
theorem Lo.ext {w0 w w':World}{O:Option Addr}{n oc:Nat}{ls:List (List Nat)}(h:Lo w0 w O n oc ls)(k:Ext w w'):Lo w0 w' O n oc ls:=⟨h.e.trans k,h.ow.ext k⟩
theorem Lo.app {w0 w w':World}{O O':Option Addr}{n m oc oc':Nat}{ls ys:List (List Nat)}(h:Lo w0 w O n oc ls)(hm:Mod (Qk O) w w')(ho:Own w' w0.heap.size 9 1 O' (n+m) oc' (Zs ls++Zs ys)):Lo w0 w' O' (n+m) oc' (ls++ys):=
 ⟨hm.ext h.e (λk hk=>(h.ow.rows k hk).1),by rw[hQP];exact ho⟩
theorem Lo.len {w0 w:World}{O:Option Addr}{n oc:Nat}{ls:List (List Nat)}(h:Lo w0 w O n oc ls):ls.length=n:=by have:=h.ow.sl.len;rw[BW] at this;omega
theorem YG {w:World}{A:Option Addr}{n c:Nat}{ls:List (List Nat)}(h:Sl w 1 A n c (Zs ls)):ls.length=n:=by have:=h.len;rw[BW] at this;omega
theorem Lo.fin {w w0 w1:World}{O:Option Addr}{n oc:Nat}{ls:List (List Nat)}(hE:Ext w w0)(h:Lo w0 w1 O n oc ls):jm w (.slice O n oc) (ls.map (·++ [10])) w1:=⟨O,oc,by rw[ZW,h.len],hE.trans h.e,by rw[ZW,h.len];exact⟨h.ow.sl,λh0=>by obtain⟨g,sp,hA,_⟩:=h.ow.blk h0;exact⟨g,0,hA⟩⟩⟩
def Vx (nm:List (List Nat))(v:Nat):List Nat:=(nm[v]?).getD []
theorem hQQ (nm:List (List Nat))(v:Nat)(H L:List (List Nat))(A B:Option Addr)(n c m d:Nat)(w:World)(h:Sl w 1 A n c (Zs H))(h':Sl w 1 B m d (Zs L))(hH:We H)(hL:We L)(hv:(Vx nm v).length<=1000000000)(hn:n<=100000000)(hm:m<=100000000):
  Fn Tryz.prog 118 [.string (Qe (Vx nm v)),.slice A n c,.slice B m d] w (λu w'=>jm w u ((YE nm v H L).map (·++ [10])) w'):=by
 have hHl:=YG h;have lW:=YG h';refine Qx (c:={cQU with cuts:=[]}) Qa Tryz.func118 rfl rfl rfl ?_;have C5:=Ts H L A B n c m d false w h h' hH hL (by omega);have gu:Vn (bg false H) (bg false L)=Vn H L:=rfl;rw[gu] at C5;refine call C5 ?_;rintro _ w1 ⟨rfl,Qd⟩;obtain⟨p1,p2,_,_,_⟩:=wI H L;have JW:YE nm v H L=YE nm v H L:=rfl;unfold YE at JW;simp only at JW;generalize hp:Vn H L=p at*;have ZO:=h.le;have mQy:=h'.le;refine ct Qa rfl rfl rfl rfl rfl rfl (by omega) ?_;have ht:=(h.ext Qd).take (m:=p) (by omega);rw[WV,p8] at ht;refine call (hQO ((H.take p).map (·++ [10])) A p c w1 ht (by omega)) ?_;rintro _ w2 ⟨O,oc,rfl,Qg,qY⟩;have lo:Lo w1 w2 O p oc (H.take p):=⟨Qg,qY⟩
 have q1:=(h.ext Qd).from (l:=p) (by omega)
 have q2:=(h'.ext Qd).from (l:=p) (by omega)
 rw[wQ] at q1 q2;refine Xy Qa (Ext w2) 8 [(true,0),(true,1),(true,2),(true,3),(true,4),(true,5),(true,6),(true,7)] (by kernel_rfl) (Ext.drew w2) ?_;refine Tu Qa rfl rfl rfl rfl rfl rfl (by omega) ?_;refine Tu Qa rfl rfl rfl rfl rfl rfl (by omega) ?_;have IY:=lo.ext (Ext.drew w2);have M0:(H.drop p).length=n-p:=by rw[Y5];omega
 have M1:(L.drop p).length=m-p:=by rw[Y5];omega
 have bD:∀{X:List (List Nat)} {k:Nat},We X->We (X.drop k):=λhX s hs=>hX s (av hs)
 have KV:=Ts (H.drop p) (L.drop p) _ _ _ _ _ _ true w2.drew (q1.ext IY.e) (q2.ext IY.e) (bD hH) (bD hL) (by omega);have Cv:Vn (bg true (H.drop p)) (bg true (L.drop p))=cI (H.drop p) (L.drop p):=rfl;rw[Cv] at KV;refine call KV ?_;rintro _ w3 ⟨rfl,Qi⟩;have lo3:=IY.ext Qi;obtain⟨s1,s2,_⟩:=Gp (H.drop p) (L.drop p);generalize hs:cI (H.drop p) (L.drop p)=s at*;have hcA:p<=c:=by omega
 refine Qj ((n-p-s:Nat):Int) (by omega) (by omega) ?_;refine sF Qa rfl rfl rfl rfl rfl rfl (by omega) ?_;refine Xy Qa (Ext w3) 14 [(true,0),(true,1),(true,2),(true,3),(true,4),(true,5),(true,6),(true,7),(true,8),(true,9),(true,10),(true,11),(true,12),(true,13)] (by kernel_rfl) (Ext.drew w3) ?_;refine Qj ((n-p-s:Nat):Int) (by omega) (by omega) ?_;refine Tt Qa rfl rfl rfl rfl rfl rfl (by omega) ?_;refine Qj ((m-p-s:Nat):Int) (by omega) (by omega) ?_;refine Tt Qa rfl rfl rfl rfl rfl rfl (by omega) ?_;have x8:=lo3.ext (Ext.drew w3);have r1:=q1.take (m:=n-p-s) (by omega);have r2:=q2.take (m:=m-p-s) (by omega);have rE:=q1.from (l:=n-p-s) (by omega)
 rw[WV (n-p-s),p8] at r1;rw[WV (m-p-s),p8] at r2;rw[wQ] at rE;have hj:YE nm v H L=H.take p++((if(H.drop p).take (n-p-s)=[] then JS nm v true::(L.drop p).take (m-p-s)else JS nm v false::((H.drop p).take (n-p-s)++if(L.drop p).take (m-p-s)=[] then [] else Vl::(L.drop p).take (m-p-s)))++Zq::(H.drop p).drop (n-p-s)):=by
  unfold YE;simp only[hp,hs,M0,M1]
 have IZ:=YG r1;have I0:=YG r2;have lE:=YG rE;generalize (H.drop p).take (n-p-s)=H2 at*;generalize (L.drop p).take (m-p-s)=L2 at*;generalize (H.drop p).drop (n-p-s)=E at*;have fQ:=XC (Vx nm v);have h1s:(Qe [10]).size=1:=rfl;refine XU (λc7=>?_) (λc7=>?_)
 ·have e2:H2=[]:=Ys (by omega);rw[Qf e2] at hj;have fe:=XC (ZH++(33::Vx nm v));refine Jz (v':=.string (Qe (ZH++(33::Vx nm v)))) (by show(Qe [35,105,102,32,33]).size+_<=_;rw[XC,fQ];show 5+_<=_;unfold maxLen;omega) (by show Value.string (Qe (ZH++ [33])++Qe (Vx nm v))=_;rw[dB];rfl) ?_;refine Jz (v':=.string (Qe (JS nm v true++ [10]))) (by rw[fe];show _+1<=_;simp[ZH];unfold maxLen;omega) (by show Value.string (Qe (ZH++(33::Vx nm v))++Qe [10])=_;rw[dB];rfl) ?_;refine Xm Qa [[Value.string (Qe (JS nm v true++ [10]))]] rfl rfl rfl rfl rfl ⟨rfl,rfl,⟨⟩⟩ rfl (λcs h=>by simp only[QF] at h;subst h;rfl) rfl (by decide) (by decide) ?_;intro wxa rT M2 rU;have sxa:Sl wxa 1 _ 1 1 (Zs [JS nm v true]):=Sl.own' (n:=1) rU rfl (by decide);have lya:=x8.ext rT;have lza:=lya.len;refine Zk Qa rfl rfl rfl rfl rfl (by decide) rfl rfl ⟨_,rfl⟩ rfl rfl lya.ow sxa (Ku _) (by unfold maxLen;omega) (by show(_+1)*16<=_;omega) lya.e.size ?_;intro Oa oca wa rV rW _;have loa:=lya.app rV rW;refine Zk Qa rfl rfl rfl rfl rfl (by decide) rfl rfl ⟨_,rfl⟩ rfl rfl loa.ow (r2.ext loa.e) (Ku _) (by unfold maxLen;omega) (by show(_+_)*16<=_;omega) loa.e.size ?_;intro Ob ocb wb rX rY _;have lob:=loa.app rX rY;refine Xm Qa [[Value.string (Qe (Zq++ [10]))]] rfl rfl rfl rfl rfl ⟨rfl,rfl,⟨⟩⟩ rfl (λcs h=>by simp only[QF] at h;subst h;rfl) rfl (by decide) (by decide) ?_;intro wxc iQ zt iR;have sxc:Sl wxc 1 _ 1 1 (Zs [Zq]):=Sl.own' (n:=1) iR rfl (by decide);have lyc:=lob.ext iQ;have lzc:=lyc.len;refine Zk Qa rfl rfl rfl rfl rfl (by decide) rfl rfl ⟨_,rfl⟩ rfl rfl lyc.ow sxc (Ku _) (by unfold maxLen;omega) (by show(_+1)*16<=_;omega) lyc.e.size ?_;intro Oc occ wc gG iS _;have loc:=lyc.app gG iS;refine Zk Qa rfl rfl rfl rfl rfl (by decide) rfl rfl ⟨_,rfl⟩ rfl rfl loc.ow (rE.ext loc.e) (Ku _) (by unfold maxLen;omega) (by show(_+_)*16<=_;omega) loc.e.size ?_;intro Od ocd wd YJ iT _;have lod:=loc.app YJ iT;have fin:=lod.fin Qd;have e9:((((H.take p++ [JS nm v true])++L2)++ [Zq])++E)=YE nm v H L:=by rw[hj];simp
  rw[e9] at fin;exact fin
 ·have e2:H2≠ []:=λe=>c7 (by subst e;simp at IZ;omega)
  rw[if_neg e2] at hj;have fe:=XC (ZH++Vx nm v);refine Jz (v':=.string (Qe (ZH++Vx nm v))) (by show(Qe [35,105,102,32]).size+_<=_;rw[XC,fQ];show 4+_<=_;unfold maxLen;omega) (by show Value.string (Qe ZH++Qe (Vx nm v))=_;rw[dB]) ?_;refine Jz (v':=.string (Qe (JS nm v false++ [10]))) (by rw[fe];show _+1<=_;simp[ZH];unfold maxLen;omega) (by show Value.string (Qe (ZH++Vx nm v)++Qe [10])=_;rw[dB];rfl) ?_;refine Xm Qa [[Value.string (Qe (JS nm v false++ [10]))]] rfl rfl rfl rfl rfl ⟨rfl,rfl,⟨⟩⟩ rfl (λcs h=>by simp only[QF] at h;subst h;rfl) rfl (by decide) (by decide) ?_;intro wxa rT M2 rU;have sxa:Sl wxa 1 _ 1 1 (Zs [JS nm v false]):=Sl.own' (n:=1) rU rfl (by decide);have lya:=x8.ext rT;have lza:=lya.len;refine Zk Qa rfl rfl rfl rfl rfl (by decide) rfl rfl ⟨_,rfl⟩ rfl rfl lya.ow sxa (Ku _) (by unfold maxLen;omega) (by show(_+1)*16<=_;omega) lya.e.size ?_;intro Oa oca wa rV rW _;have loa:=lya.app rV rW;refine Zk Qa rfl rfl rfl rfl rfl (by decide) rfl rfl ⟨_,rfl⟩ rfl rfl loa.ow (r1.ext loa.e) (Ku _) (by unfold maxLen;omega) (by show(_+_)*16<=_;omega) loa.e.size ?_;intro Ob ocb wb rX rY _;have lob:=loa.app rX rY;refine Qt (λc8=>?_) (λc8=>?_)
  ·have e3:L2≠ []:=λe=>by subst e;simp at I0;omega
   rw[if_neg e3] at hj;refine Xm Qa [[Value.string (Qe (Vl++ [10]))]] rfl rfl rfl rfl rfl ⟨rfl,rfl,⟨⟩⟩ rfl (λcs h=>by simp only[QF] at h;subst h;rfl) rfl (by decide) (by decide) ?_;intro wxc iQ zt iR;have sxc:Sl wxc 1 _ 1 1 (Zs [Vl]):=Sl.own' (n:=1) iR rfl (by decide);have lyc:=lob.ext iQ;have lzc:=lyc.len;refine Zk Qa rfl rfl rfl rfl rfl (by decide) rfl rfl ⟨_,rfl⟩ rfl rfl lyc.ow sxc (Ku _) (by unfold maxLen;omega) (by show(_+1)*16<=_;omega) lyc.e.size ?_;intro Oc occ wc gG iS _;have loc:=lyc.app gG iS;refine Zk Qa rfl rfl rfl rfl rfl (by decide) rfl rfl ⟨_,rfl⟩ rfl rfl loc.ow (r2.ext loc.e) (Ku _) (by unfold maxLen;omega) (by show(_+_)*16<=_;omega) loc.e.size ?_;intro Od ocd wd YJ iT _;have lod:=loc.app YJ iT;refine Xm Qa [[Value.string (Qe (Zq++ [10]))]] rfl rfl rfl rfl rfl ⟨rfl,rfl,⟨⟩⟩ rfl (λcs h=>by simp only[QF] at h;subst h;rfl) rfl (by decide) (by decide) ?_;intro wxe M3 mQz M4;have sxe:Sl wxe 1 _ 1 1 (Zs [Zq]):=Sl.own' (n:=1) M4 rfl (by decide);have lye:=lod.ext M3;have lze:=lye.len;refine Zk Qa rfl rfl rfl rfl rfl (by decide) rfl rfl ⟨_,rfl⟩ rfl rfl lye.ow sxe (Ku _) (by unfold maxLen;omega) (by show(_+1)*16<=_;omega) lye.e.size ?_;intro Oe oce we jV M5 _;have loe:=lye.app jV M5;refine Zk Qa rfl rfl rfl rfl rfl (by decide) rfl rfl ⟨_,rfl⟩ rfl rfl loe.ow (rE.ext loe.e) (Ku _) (by unfold maxLen;omega) (by show(_+_)*16<=_;omega) loe.e.size ?_;intro Of ocf wf M6 M7 _;have lof:=loe.app M6 M7;have fin:=lof.fin Qd;have e9:((((((H.take p++ [JS nm v false])++H2)++ [Vl])++L2)++ [Zq])++E)=YE nm v H L:=by rw[hj];simp
   rw[e9] at fin;exact fin
  ·have e3:L2=[]:=Ys (by omega);rw[Qf e3] at hj;refine Xm Qa [[Value.string (Qe (Zq++ [10]))]] rfl rfl rfl rfl rfl ⟨rfl,rfl,⟨⟩⟩ rfl (λcs h=>by simp only[QF] at h;subst h;rfl) rfl (by decide) (by decide) ?_;intro wxc iQ zt iR;have sxc:Sl wxc 1 _ 1 1 (Zs [Zq]):=Sl.own' (n:=1) iR rfl (by decide);have lyc:=lob.ext iQ;have lzc:=lyc.len;refine Zk Qa rfl rfl rfl rfl rfl (by decide) rfl rfl ⟨_,rfl⟩ rfl rfl lyc.ow sxc (Ku _) (by unfold maxLen;omega) (by show(_+1)*16<=_;omega) lyc.e.size ?_;intro Oc occ wc gG iS _;have loc:=lyc.app gG iS;refine Zk Qa rfl rfl rfl rfl rfl (by decide) rfl rfl ⟨_,rfl⟩ rfl rfl loc.ow (rE.ext loc.e) (Ku _) (by unfold maxLen;omega) (by show(_+_)*16<=_;omega) loc.e.size ?_;intro Od ocd wd YJ iT _;have lod:=loc.app YJ iT;have fin:=lod.fin Qd;have e9:((((H.take p++ [JS nm v false])++H2)++ [Zq])++E)=YE nm v H L:=by rw[hj];simp
   rw[e9] at fin;exact fin
theorem hQS {a b:List Nat}(h:Qe (a++ [10])=Qe (b++ [10]))(ha:∀x∈a,x<256)(hb:∀x∈b,x<256):a=b:=zY (Z6 (cO ha) (cO hb) h)
theorem hQT {α:Type}{l l':List α}{n:Nat}(h1:l.length=n)(h2:l'.length=n)(h:∀j,j<n->l[j]? =l'[j]?):l=l':=by
 refine EN (λj=>?_);by_cases hj:j<n
 ·exact h j hj
 ·rw[mo (by omega),mo (by omega)]
theorem hQU (A B:Option Addr)(n c m e:Nat)(l l':List (List Nat))(w:World)(h:Sl w 1 A n c (Zs l))(h':Sl w 1 B m e (Zs l'))(hb:We l)(hb':We l'):
  Fn Tryz.prog 117 [.slice A n c,.slice B m e] w (λv w'=>v= .bool (decide (l=l'))/\Ext w w'):=by
 have hl:=YG h;have cg:=YG h';have WQ:n<=9223372036854775807:=by have:=h.le;have:=h.cap;simp only[maxLen] at this;omega
 refine Qx (c:={cQT with cuts:=[]}) Qa Tryz.func117 rfl rfl rfl ?_;refine Yt (λh1=>?_) (λh1=>?_)
 ·exact⟨by rw[XS (λe=>by subst e;omega)],Ext.refl w⟩
 refine loop Qa [13] (λs:Nat=>[.int .i64 s]) (λs w'=>Ext w w'/\s<=n/\∀j,j<s->l[j]? =l'[j]?) (λs _=>n-s) 0 rfl ⟨Ext.refl w,Xt _,λj hj=>Xd hj (by omega)⟩ ?_;rintro s w1 ⟨Qd,hs,hall⟩;refine Qt (λh2=>?_) (λh2=>?_)
 ·have KK:s<n:=by omega
  obtain⟨x,hx⟩:∃x,l[s]? =some x:=⟨_,Xb (by omega)⟩
  obtain⟨y,hy⟩:∃y,l'[s]? =some y:=⟨_,Xb (by omega)⟩
  refine Xy Qa (Ext w1) 9 [(true,0),(true,1),(true,2),(true,3),(true,4),(true,5),(true,6),(true,7),(true,8)] (by kernel_rfl) (Ext.drew w1) ?_;refine ZF (h.ext Qd) KK (λad u hA hu QR=>?_);rw[Wd hx] at hu;cases hu;refine QJ (v:=.string (Qe (x++ [10]))) (λw' Qb=>Qb.cell QR) ?_;refine ZF (h'.ext Qd) (by omega) (λad u hA hu QR=>?_);rw[Wd hy] at hu;cases hu;refine QJ (v:=.string (Qe (y++ [10]))) (λw' Qb=>Qb.cell QR) ?_;have WR:=Qd.trans (Ext.drew w1);have ZP:=hb x (Q2 hx);have ci:=hb' y (Q2 hy);by_cases Xl:x=y
  ·refine Xv (by rw[Xl];simp) ?_;refine Qj ((s+1:Nat):Int) (by show((s:Nat):Int)+1=_;omega) (by omega) ?_;refine⟨s+1,rfl,⟨WR,by omega,λj hj=>?_⟩,by show n-(s+1)<n-s;omega⟩;by_cases KX:j<s
   ·exact hall j KX
   ·have:j=s:=by omega
    subst this;rw[hx,hy,Xl]
  ·refine Xe (by rw[XS (λhh=>Xl (hQS hh ZP.1 ci.1))];rfl) ?_;refine⟨?_,WR⟩;rw[XS (λe=>Xl (by subst e;rw[hx] at hy;exact Option.some.inj hy))]
 ·refine⟨?_,Qd⟩;rw[XT (hQT hl (by omega) (λj hj=>hall j (by omega)))]
theorem hQV {nm:List (List Nat)}{v:Nat}{H L:List (List Nat)}{P:List Nat->Prop}(hH:∀s∈H,P s)(hL:∀s∈L,P s)(h1:∀ng,P (JS nm v ng))(h2:P Vl)(h3:P Zq):∀s∈YE nm v H L,P s:=by
 intro s hs;unfold YE at hs;simp only at hs;have t:∀{X:List (List Nat)} {a b:Nat},(∀s∈X,P s)->∀s∈(X.drop a).take b,P s:=λh s hs=>h s (av (bF hs))
 generalize cI (H.drop (Vn H L)) (L.drop (Vn H L))=q at*;generalize Vn H L=p at*;rcases XH.1 hs with hs | hs
 ·exact hH s (bF hs)
 rcases XH.1 hs with hs | hs
 ·split at hs
  ·rcases Q0.1 hs with rfl | hs
   ·exact h1 true
   ·exact t hL s hs
  ·rcases Q0.1 hs with rfl | hs
   ·exact h1 false
   rcases XH.1 hs with hs | hs
   ·exact t hH s hs
   split at hs
   ·cases hs
   ·rcases Q0.1 hs with rfl | hs
    ·exact h2
    ·exact t hL s hs
 ·rcases Q0.1 hs with rfl | hs
  ·exact h3
  ·exact hH s (av (av hs))
theorem hQW (nm:List (List Nat))(v:Nat)(H L:List (List Nat)):(YE nm v H L).length<=H.length+L.length+3:=by
 obtain⟨p1,p2,_⟩:=wI H L;obtain⟨q1,q2,_⟩:=Gp (H.drop (Vn H L)) (L.drop (Vn H L));unfold YE;simp only;generalize cI (H.drop (Vn H L)) (L.drop (Vn H L))=q at*;generalize Vn H L=p at*;rw[Y5] at q1 q2;split
 ·simp only[Qy,Xs,KZ,Y5];omega
 ·split
  ·simp only[Qy,Xs,KZ,Y5,JI];omega
  ·simp only[Qy,Xs,KZ,Y5];omega
theorem kW {nm:List (List Nat)}{f:Nat->List Nat}{P:List Nat->Prop}{M:Nat}(h1:∀v ng,P (JS nm v ng))(h2:P Vl)(h3:P Zq):∀(k v:Nat)(l:List Nat),l≠ []->(∀c∈l,(∀s∈QZ (f c),P s)/\(QZ (f c)).length<=M)->
  (∀s∈Xw nm f k v l,P s)/\(Xw nm f k v l).length+3<=l.length*(M+3)
 | 0,v,l,hl,hp=>by
  have h0:=hp _ (BL hl);rw[Xw];have:1<=l.length:=zV.2 hl;have:=Y4 (M+3) this;exact⟨h0.1,by have:=h0.2;omega⟩
 | k+1,v,l,hl,hp=>by
  rw[tN hl];split
  ·exact kW h1 h2 h3 k (v+1) l hl hp
  ·rename_i h;have n1:l.filter (λc=> !c.testBit v)≠ []:=λe=>h (.inl e)
   have n2:l.filter (λc=>c.testBit v)≠ []:=λe=>h (.inr e)
   have Xf:(l.filter (λc=>c.testBit v)).length+(l.filter (λc=> !c.testBit v)).length=l.length:=by
    clear h hl hp n1 n2;induction l with
    | nil=>rfl
    | cons a l ih=>by_cases e:a.testBit v=true<;>simp[po,e]<;>omega
   obtain⟨a1,a2⟩:=kW h1 h2 h3 (P:=P) (M:=M) k (v+1) _ n1 (λc hc=>hp c (Va.1 hc).1);obtain⟨b1,b2⟩:=kW h1 h2 h3 (P:=P) (M:=M) k (v+1) _ n2 (λc hc=>hp c (Va.1 hc).1);have Ep:l.length*(M+3)=(l.filter (λc=>c.testBit v)).length*(M+3)+(l.filter (λc=> !c.testBit v)).length*(M+3):=by rw[<-vj,Xf]
   split
   ·exact⟨b1,by omega⟩
   ·refine⟨hQV b1 a1 (h1 v) h2 h3,?_⟩;have:=hQW nm v (Xw nm f k (v+1) (l.filter (λc=>c.testBit v))) (Xw nm f k (v+1) (l.filter (λc=> !c.testBit v)));omega
end
section
inductive PT where
 | done
 | skip
 | quiet (k:Nat) (t:PT)
 | fork (k:Nat) (t o:PT)
def PT.alts:PT->List Nat
 | .fork k _ o=>k::o.alts
 | _=>[]
def W8 (md:Region.Mode)(ops:Array Oper)(n:Nat):PT->Bool->Nat->Array Bool->Bool
 | .done,inch,m,listed=> !inch&&Nat.beq m 0&&Region.seqB md ops (ops.size-n) n listed
 | .skip,inch,_,_=>inch
 | .quiet _ _,_,0,_=>false
 | .quiet k t,inch,m+1,listed=> !inch&&(Nat.blt k n&&(Region.ready md ops listed).contains k&&Region.free md ops listed k&&W8 md ops n t false m (listed.setIfInBounds k true))
 | .fork _ _ _,_,0,_=>false
 | .fork k t o,inch,m+1,listed=>(inch||decide (Region.ready md ops listed=k::o.alts))&&(Nat.blt k n&&W8 md ops n t false m (listed.setIfInBounds k true))&&W8 md ops n o true (m+1) listed
def kX (c:Cx)(all:List Oper)(C:World->Prop):PT->Env->World->(Env->World->Prop)->Prop
 | .done,S,w,K=>K S w
 | .skip,_,_,_=>True
 | .quiet k t,S,w,K=>match VU all k with
  | some o=>je all o S (λS=>sK c o S C (λS=>kX c all C t S w K)) (λS=>Xn c S o.dst (.v undef) (λS=>kX c all C t S w K))
  | none=>False
 | .fork k t o,S,w,K=>(match VU all k with
  | some op=>je all op S (λS=>eF c op S w (λS w=>C w/\kX c all C t S w K) (λ_ _ _=>False)) (λS=>Xn c S op.dst (.v undef) (λS=>kX c all C t S w K))
  | none=>False)/\kX c all C o S w K
section
variable {c:Cx} {S:Env} {a:Act}
theorem wS (hg:c.g.Ok){md:Region.Mode}{ops:List Oper}{C:World->Prop}{Q:Exit->Act->World->Prop}{n:Nat}(hs:Region.noSelect ops.toArray=true)(hk:kl md ops.toArray n){K:Env->World->Prop}:
  ∀(t:PT) (m:Nat) (listed:Array Bool) (S:Env) (a:Act) (w:World),HeadInv md ops.toArray n listed->kX c ops C t S w K->Fits c.N S a->C w->
  (W8 md ops.toArray n t false m listed=true->aA c.g.P md ops.toArray (NoPan Q) C n (λKJ a' w'=>Region.seqB md ops.toArray (ops.toArray.size-n) n KJ=true/\∃S',Fits c.N S' a'/\K S' w') m listed a w)/\
  (∀m',m=m'+1->W8 md ops.toArray n t true m listed=true->(∀i∈t.alts,i∈Region.ready md ops.toArray listed)->∀i∈t.alts,i<n/\wpOp c.g.P ops.toArray (NoPan Q) i (λa' w'=>C w'/\aA c.g.P md ops.toArray (NoPan Q) C n (λKJ a' w'=>Region.seqB md ops.toArray (ops.toArray.size-n) n KJ=true/\∃S',Fits c.N S' a'/\K S' w') m' (listed.setIfInBounds i true) a' w') a w)
 | .done,m,listed,S,a,w,inv,h,hf,hC=>by
  refine⟨λhB=>?_,λm' hm hB=>?_⟩
  ·simp only[W8,Bool.not_false,aV,Jv] at hB;have:=VR hB.1;subst this;exact⟨hB.2,S,hf,h⟩
  ·simp[W8] at hB
 | .skip,m,listed,S,a,w,inv,h,hf,hC=>by
  refine⟨λhB=>?_,λm' hm hB _ i hi=>?_⟩
  ·simp[W8] at hB
  ·simp[PT.alts] at hi
 | .quiet k t,0,listed,S,a,w,inv,h,hf,hC=>by
  refine⟨λhB=>?_,λm' hm hB=>?_⟩
  ·simp[W8] at hB
  ·simp[W8] at hB
 | .quiet k t,m+1,listed,S,a,w,inv,h,hf,hC=>by
  refine⟨λhB=>?_,λm' hm hB=>?_⟩
  ·simp only[W8,Bool.not_false,aV,Jv] at hB;obtain⟨⟨⟨Xp,hr⟩,lM⟩,V3⟩:=hB;have Xp:k<n:=by rw[j0] at Xp;exact Xp
   have Xc:k∈Region.ready md ops.toArray listed:=by simpa using hr
   obtain⟨_,o,ho,_⟩:=mem_ready.1 Xc;have hn:VU ops k=some o:=by rw[i9];simpa using ho
   simp only[kX,hn] at h;have key:∃v,YieldsIf c.g.P ops.toArray C o v a/\∃S',Fits c.N S' (a.put o.dst v)/\kX c ops C t S' w K:=by
    rcases mI h hf with⟨hw,S1,ZN,h1⟩ | ⟨hw,S1,ZN,h1⟩
    ·obtain⟨v,h2,h3⟩:=AG hg h1 ZN;exact⟨v,.inl ⟨hw,h2⟩,h3⟩
    ·exact⟨undef,.inr ⟨hw,rfl⟩,ZA (e:=.v undef) h1 ZN⟩
   obtain⟨v,hy,S',Q8,h'⟩:=key;exact OM ho (Region.noSelect_spec hs) hk Xp (λKJ a' w' hL=>seqB_ready hL.1) m listed a w inv (Region.free_spec ho lM) Xc hy hC
    ((wS hg hs hk t m _ S' _ w (inv.set Xc Xp) h' Q8 hC).1 V3)
  ·simp[W8] at hB
 | .fork k t o,0,listed,S,a,w,inv,h,hf,hC=>by
  refine⟨λhB=>?_,λm' hm hB=>?_⟩
  ·simp[W8] at hB
  ·simp[W8] at hB
 | .fork k t o,m+1,listed,S,a,w,inv,h,hf,hC=>by
  have key:(Nat.blt k n&&W8 md ops.toArray n t false m (listed.setIfInBounds k true))=true->W8 md ops.toArray n o true (m+1) listed=true->(∀i∈(PT.fork k t o).alts,i∈Region.ready md ops.toArray listed)->
    ∀i∈(PT.fork k t o).alts,i<n/\wpOp c.g.P ops.toArray (NoPan Q) i (λa' w'=>C w'/\aA c.g.P md ops.toArray (NoPan Q) C n (λKJ a' w'=>Region.seqB md ops.toArray (ops.toArray.size-n) n KJ=true/\∃S',Fits c.N S' a'/\K S' w') m (listed.setIfInBounds i true) a' w') a w:=by
   intro hB lX hall i hi;simp only[Jv] at hB;obtain⟨Xp,V3⟩:=hB;have Xp:k<n:=by rw[j0] at Xp;exact Xp
   simp only[PT.alts,Q0] at hi;have Xc:k∈Region.ready md ops.toArray listed:=hall k (by simp[PT.alts]);obtain⟨h1,h2⟩:=h;rcases hi with rfl | hi
   ·refine⟨Xp,?_⟩;obtain⟨_,op,ho,_⟩:=mem_ready.1 Xc;have hn:VU ops i=some op:=by rw[i9];simpa using ho
    simp only[hn] at h1;have iD:=inv.set Xc Xp;unfold wpOp;simp only[ho];rcases mI h1 hf with⟨hw,S1,ZN,h3⟩ | ⟨hw,S1,ZN,h3⟩
    ·rw[Qf hw];refine .inl ?_;have h4:=sw hg h3 ZN;have h5:=Oper.wp_mono (K':=λa' w'=>C w'/\aA c.g.P md ops.toArray (NoPan Q) C n (λKJ a' w'=>Region.seqB md ops.toArray (ops.toArray.size-n) n KJ=true/\∃S',Fits c.N S' a'/\K S' w') m (listed.setIfInBounds i true) a' w')
      (λa' w' ⟨S',Q8,Kl,Yn⟩=>⟨Kl,(wS hg hs hk t m _ S' a' w' iD Yn Q8 Kl).1 V3⟩) h4
     unfold Oper.wp at h5 ⊢;generalize (execOp a.eval op).run c.g.P w=r at*;cases r with
     | ok nx w'=>
      cases nx<;>simp only[Oper.upon] at h5 ⊢ <;> try exact h5
      exact h5.mono λe KI he=>by
       cases e with
       | returned v=>exact he
       | panicked ch=>obtain⟨_,_,he⟩:=he;exact he.elim
       | outgrown=>obtain⟨_,_,_,_,he⟩:=he;exact he.elim
     | halt x w'=>cases x<;>simp only[Oper.upon] at h5 ⊢ <;> first | exact h5 | (obtain⟨_,_,h5⟩:=h5;exact h5.elim)
    ·rw[if_neg (by rw[hw];decide)];obtain⟨S',Q8,h'⟩:=ZA (e:=.v undef) h3 ZN;exact⟨hC,(wS hg hs hk t m _ S' _ w iD h' Q8 hC).1 V3⟩
   ·exact(wS hg hs hk o (m+1) listed S a w inv h2 hf hC).2 m rfl lX (λj hj=>hall j (by simp[PT.alts,hj])) i hi
  refine⟨λhB=>?_,λm' hm hB hall=>?_⟩
  ·simp only[W8,Bool.false_or,Jv,Vb] at hB;obtain⟨⟨hr,Qh⟩,Qv⟩:=hB;have aM:Region.ready md ops.toArray listed=(PT.fork k t o).alts:=hr;refine⟨λh0=>(by rw[hr] at h0;cases h0),λi hi=>?_⟩;exact key (by simpa using Qh) Qv (λj hj=>by rw[aM];exact hj) i (by rw[aM] at hi;exact hi)
  ·simp only[W8,Bool.true_or,aV] at hB;rw[Jv] at hB;have Z0:m'=m:=by omega
   subst Z0;exact key hB.1 hB.2 hall
theorem GT (hg:c.g.Ok){id:Nat}{ops:List Oper}{w:World}{Q:Zj}(C:World->Prop)(n:Nat)(t:PT)
  (hB:(Region.noSelect ops.toArray&&sJ .any ops.toArray n&&W8 .any ops.toArray n t false n (Array.replicate ops.toArray.size false))=true) (hC:C w.drew)
  (h:kX {c with named:=1000000} ops C t S w.drew (λS w=>YN c ops (ops.drop n) S w (λS w=>Q .normal S w) (λ_ _ _=>False))):aw c id ops S w Q:=by
 unfold aw;intro a hf;simp only[Jv] at hB;obtain⟨⟨hs,ce⟩,Jt⟩:=hB;have hk:=AF ce;have Mn:n<=ops.length:=by
  rcases hk with hk | hk
  ·rw[hk];simp
  ·have:=hk.1;simp at this;omega
 refine Code.wp_mono NoPan.imp (wp_region_any hg.mixed ?_);have qp:HeadInv .any ops.toArray n (Array.replicate ops.toArray.size false):=
  ⟨by simp,λj oj _ hl=>(by rw[getD_replicate_false] at hl;cases hl),λt _ ht=>getD_in (by simpa using ht) (getD_replicate_false _ _)⟩
 have H:=(wS (c:={c with named:=1000000}) hg (Q:=Up c Q) hs hk t n _ S a _ qp h hf hC).1 Jt;have YI:(ops.drop n).length=ops.toArray.size-n:=by simp
 have H2:=vM (Q:=NoPan (Up c Q)) (g:=ops.toArray.size-n) (λKJ a' w' hL=>by
  obtain⟨hq,S',Q8,Yn⟩:=hL;have h2:=kh (c:=c) hg ops _ _ _ _ Yn Q8;have:=wpAny_of_seq (P:=c.g.P) (md:=.any) (ops:=ops.toArray) (Q':=NoPan (Up c Q)) (ops.drop n) n KJ a' w' (λj=>by simp) (by rw[YI];exact hq) (mH (λe a w hq=>by
   cases e with
   | normal=>exact hq
   | _=>exact Xd hq (by rintro⟨_,_,h⟩;exact h)) h2)
  rwa [YI] at this) _ _ _ _ H
 rw[show n+(ops.toArray.size-n)=ops.toArray.size by simp;omega] at H2;exact H2
theorem hQX {α:Type}{id:Nat}{ops:List Oper}{w:World}{Q:Zj}(sl:List Nat)(val:α->List Value)(R:α->World->Prop)
  (hx:WX (eG (.region id ops.toArray true)) S [] (λS0=>aw c id ops S w (λe S2 w2=>match e with
   | .normal=>∃s,dA sl (val s) S0 (λT=>Has T S2)/\R s w2
   | e=>Q e S2 w2)))
  (hy:WX (eG (.region id ops.toArray true)) S [] (λS0=>∀s w',R s w'->dA sl (val s) S0 (λS1=>Q .normal S1 w'))):aw c id ops S w Q:=by
 rw[Av] at hx hy;unfold aw at*;intro a hf;generalize mF (eG (.region id ops.toArray true)) S []=S0 at*;have lN:∀s (K:Env->Prop),dA sl (val s) S0 K->K ((sl.zip ((val s).map Ent.v)).reverse++S0):=λs K h=>by
  obtain⟨T,rfl,hk⟩:=Ff h;exact hk
 refine Code.wp_mono (λe a2 w2 hq=>?_) (hx a hf);obtain⟨S2,ZT,hq⟩:=hq;cases e with
 | normal=>
  obtain⟨s,hz,hR⟩:=hq;exact⟨_,(lN s _ hz).fits ZT,lN s _ (hy s w2 hR)⟩
 | exit i=>exact⟨S2,ZT,hq⟩
 | goto l=>exact⟨S2,ZT,hq⟩
 | ret=>exact⟨S2,ZT,hq⟩
 | panic ch=>exact⟨S2,ZT,hq⟩
 | outgrown=>exact⟨S2,ZT,hq⟩
end
end
end Go.Proofs.YtjabbbcdgmlojaaGreatDoor
