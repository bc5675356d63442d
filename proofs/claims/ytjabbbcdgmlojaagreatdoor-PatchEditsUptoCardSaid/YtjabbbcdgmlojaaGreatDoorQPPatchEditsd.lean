/-
  What PPatchEdits rests on, part 4 (wip/shake.py).
  Conditions: none.
-/
import Derived.Test.YtjabbbcdgmlojaaGreatDoorQPPatchEditsc
set_option linter.all false
set_option linter.deprecated false
set_option maxHeartbeats 12800000
namespace Go.Proofs.YtjabbbcdgmlojaaGreatDoor
open Go Go.RowKit
section
section
structure FileB (x:List Nat×List Nat):Prop where
 n8:∀b∈x.1,b<256
 t8:∀b∈x.2,b<256
 nl:x.1.length<=9223372036854775807
 tl:x.2.length<=9223372036854775807
def oO (q:Pl):List Value:=[.int .i64 q.e,.int .i64 q.f,.int .i64 q.l]
def plO (o:Option Pl):Pl:=o.getD ⟨0,0,0⟩
def badB (b:Nat):Bool:=decide (b<32)||b==34||b==127
theorem iQP (s:List Nat):oH s=(decide (s≠ []) && !(s.any badB)):=by
 unfold oH;congr 1;rw[List.any_eq_not_all_not,Bool.not_not];congr 1;funext b;unfold badB;have e:decide (32<=b)= !decide (b<32):=by by_cases h:b<32<;>simp[h]<;>omega
 rw[e];by_cases h1:b=34<;>by_cases h2:b=127<;>by_cases h3:b<32<;>simp[h1,h2,h3,bne]
def bj (x:List Nat×List Nat)(seen:List (List Nat)):Bool:=decide (x.1=[])||decide (x.1∈seen)||(decide (x.2≠ [])&&x.2.getLast? !=some 10)
theorem CT (x:List Nat×List Nat)(seen:List (List Nat)):(bj x seen||x.1.any badB)=true↔¬(oH x.1=true/\x.1∉seen/\bW x.2=true):=by
 rw[iQP];unfold bj bW;by_cases h1:x.1=[]<;>by_cases h2:x.1∈seen<;>by_cases h3:x.2=[]<;>by_cases h4:x.2.getLast? =some 10<;>simp[h1,h2,h3,h4]
structure CkI (w0:World) (q:Nat) (fs:List (List Nat×List Nat)) (res:Option Pl) (i:Nat) (w:World):Prop where
 e:Ext w0 w
 mp:∃m,MapAt Yt w q m/\∀s:List Nat,(∀x∈s,x<256)->XG (Qd s) m=if s∈(fs.take i).map (·.1)then some (.bool true)else none
 rs:dL (fs.drop i) ((fs.take i).map (·.1)) i=res
 le:i<=fs.length
 qo:w0.heap.size<=q
theorem CkI.ext {w0 w w':World}{q:Nat}{fs:List (List Nat×List Nat)}{res:Option Pl}{i:Nat}(h:CkI w0 q fs res i w)(k:Ext w w'):CkI w0 q fs res i w':=⟨h.e.trans k,let ⟨m,h1,h2⟩:=h.mp;⟨m,h1.ext k,h2⟩,h.rs,h.le,h.qo⟩
theorem iQQ (fs:List (List Nat×List Nat))(FA:Option Addr)(nf cf:Nat)(w:World)(h:SlS bg 2 w FA nf cf fs)(hb:∀x∈fs,FileB x)(hnf:nf<=1000000000000):
  Fn Tryz.prog 90 [.slice FA nf cf] w (λu w'=>u= .agg (oO (plO (Y6 fs))).toArray/\Ext w w'):=by
 have QZ:=h.2;refine QJ (c:={c90 with cuts:=[]}) Qa Tryz.func90 rfl rfl rfl ?_;refine new (λw1 Qe Q6 Qh=>?_);refine Qw (λc1=>?_) (λc1=>?_)
 ·refine Qv Qh rfl (sc rfl) (λw2 de _ Qy=>?_);refine Qt Qy rfl ?_;refine⟨?_,XT Qe Qh de⟩;unfold Y6;rw[Qf (by omega)]<;>rfl
 have Ve:Y6 fs=dL fs [] 0:=by unfold Y6;rw[if_neg (by omega)]
 refine xC Qa Yt rfl (λw2 Qg Ze XW=>?_);have QT:=Qe.trans Qg;refine loop Qa [15] (λi:Nat=>[.int .i64 i]) (λi w'=>CkI w1 w1.heap.size fs (Y6 fs) i w') (λi _=>fs.length-i) 0 rfl ⟨Qg,⟨[],XW,λs _=>by simp[XG]⟩,by rw[Ve];rfl,Xo _,QB _⟩ ?_;rintro i w3 hI;have QU:Ext w w3:=Qe.trans hI.e;refine Qw (λc2=>?_) (λc2=>?_)
 ·have hi:i<nf:=by omega
  refine Zt HW (h.ext QU) rfl hi (λpp x hx hc=>?_);refine Jz (vs:=bg x) rfl hc ?_;refine new (λw4 Qs KR QR=>?_);refine Qv QR rfl (sc rfl) (λw5 JE _ QD=>?_);have K8:Ext w3 w5:=XT Qs QR JE;have zC:=hI.ext K8;obtain⟨m,XZ,tD⟩:=zC.mp;have JG:=hb x (Xl hx);have bM:=Q8 x.1;have dt:=Q8 x.2;have KC:=JG.nl;refine Qo QD rfl ?_;by_cases p1:x.1=[]
  ·refine Zy (by rw[p1];rfl) ?_;refine Qo QD rfl ?_;have e0:bj x ((fs.take i).map (·.1))=true:=by simp[bj,p1]
   refine loop Qa [47,6] (λs:Nat×Bool=>[.int .i64 s.1,.bool s.2]) (λs w'=>Ext w5 w'/\s.1<=x.1.length/\s.2=(bj x ((fs.take i).map (·.1))||(x.1.take s.1).any badB)) (λs _=>x.1.length-s.1) (0,true) rfl ⟨Ext.refl _,Xo _,by rw[e0];simp⟩ ?_;rintro⟨k,b⟩ w6 ⟨ZV,hk,VV⟩;simp only at hk VV;have J7:=zC.ext ZV;have Q7:=QD.ext ZV;refine Qw (λc3=>?_) (λc3=>?_)
   ·have Z8:k<x.1.length:=by rw[bM] at c3;simp only at c3;omega
    obtain⟨y,hy⟩:∃y,x.1[k]? =some y:=⟨_,Xu Z8⟩
    have ez:(x.1.take (k+1)).any badB=((x.1.take k).any badB||badB y):=by
     rw[VF,hy];simp
    have fin:∀b',b'=(b||badB y)->b'=(bj x ((fs.take i).map (·.1))||(x.1.take (k+1)).any badB):=λb' e=>by rw[e,VV,ez,Gc]
    cases b with
    | true=>
     refine Xd rfl ?_;refine Qj ((k+1:Nat):Int) (by show((k:Nat):Int)+1=_;omega) (by omega) ?_;exact⟨(k+1,true),rfl,⟨ZV,Z8,fin true rfl⟩,by show x.1.length-(k+1)<x.1.length-k;omega⟩
    | false=>
     have idx:∀K:Int->Prop,K (y:Int)->fH (Qd x.1) ((k:Nat):Int) K:=λK hK=>by
      refine dE (by rw[bM];exact Z8) (λz hz _=>?_);rw[Ws JG.n8,hy] at hz;cases hz;exact hK
     refine Q9 rfl ?_;refine Qo Q7 rfl ?_;refine idx _ ?_;refine Qw (λd1=>?_) (λd1=>?_)
     ·refine Qj ((k+1:Nat):Int) (by show((k:Nat):Int)+1=_;omega) (by omega) ?_;exact⟨(k+1,true),rfl,⟨ZV,Z8,fin true (by
                                have:y<32:=by omega
                                simp[badB,this])⟩,by show x.1.length-(k+1)<x.1.length-k;omega⟩
     refine Qo Q7 rfl ?_;refine idx _ ?_;refine X8 (λd2=>?_) (λd2=>?_)
     ·refine Qj ((k+1:Nat):Int) (by show((k:Nat):Int)+1=_;omega) (by omega) ?_;exact⟨(k+1,true),rfl,⟨ZV,Z8,fin true (by
                                have:y=34:=by omega
                                simp[badB,this])⟩,by show x.1.length-(k+1)<x.1.length-k;omega⟩
     refine Qo Q7 rfl ?_;refine idx _ ?_;refine Qj ((k+1:Nat):Int) (by show((k:Nat):Int)+1=_;omega) (by omega) ?_;refine⟨(k+1,((y:Int)==127)),rfl,⟨ZV,Z8,fin _ ?_⟩,by show x.1.length-(k+1)<x.1.length-k;omega⟩;have n1:¬y<32:=by omega
     have n2:¬y=34:=by omega
     by_cases n3:y=127
     ·subst n3;rfl
     ·have:((y:Int)==127)=false:=by simp;omega
      rw[this];simp[badB,n1,n2,n3]
   ·have Z8:k=x.1.length:=by rw[bM] at c3;simp only at c3;omega
    subst Z8;rw[qI] at VV;have hall:=CT x ((fs.take i).map (·.1));have aO:fs.drop i=x::fs.drop (i+1):=by
     rw[am (by omega)];congr 1;exact Option.some.inj ((Xu (by omega)).symm.trans hx)
    have QH:=J7.rs;rw[aO,dL] at QH;have WG:=((Qh.ext hI.e).ext K8).ext ZV;refine YK (λd1=>?_) (λd1=>?_)
    ·have d1:b=true:=d1;rw[Qf (hall.1 (by rw[<-VV,d1]))] at QH;refine Qv WG rfl (sc rfl) (λw7 Zv _ Q3=>?_);refine Qt Q3 rfl ?_;have Xe:Mod (·=w.heap.size) w6 w7:=qQL Zv rfl;exact⟨by rw[<-QH];rfl,Xe.ext (Qe.trans J7.e) (λi hi=>by omega)⟩
    have d1:b=false:=d1;have X5:=λhh=>(hall.2 hh).symm.trans (VV.symm.trans d1)
    rw[if_neg (λhh=>by have:=X5 hh;cases this)] at QH;refine Qo Q7 rfl ?_;refine Qw (λd2=>?_) (λd2=>?_)
    ·rw[Qf (by omega)] at QH;refine Qv WG rfl (sc rfl) (λw7 Zv _ Q3=>?_);refine Qt Q3 rfl ?_;have Xe:Mod (·=w.heap.size) w6 w7:=qQL Zv rfl;exact⟨by rw[<-QH];rfl,Xe.ext (Qe.trans J7.e) (λi hi=>by omega)⟩
    rw[if_neg (by omega)] at QH;refine Qo Q7 rfl ?_;have VQ:=XZ.ext ZV;refine lI (kv:=Yt) (a:=Qd x.1) Qa rfl rfl rfl rfl rfl qQM rfl rfl rfl VQ (λw7 Zv W8 J5=>?_);have Xe:Mod (·=w1.heap.size) w6 w7:=qQL Zv rfl;refine Qj ((i+1:Nat):Int) (by show((i:Nat):Int)+1=_;omega) (by omega) ?_;have KX:(fs.take (i+1)).map (·.1)=(fs.take i).map (·.1)++ [x.1]:=by rw[VF,hx];simp
    refine⟨i+1,rfl,⟨Xe.ext J7.e (λi hi=>by omega),⟨_,J5,λs hs=>?_⟩,by rw[KX];exact QH,by omega,QB _⟩,by show fs.length-(i+1)<fs.length-i;omega⟩;rw[bR,KX];by_cases eA:s=x.1
    ·subst eA;simp
    ·rw[if_neg (λe=>eA (Kn hs JG.n8 e)),tD s hs];simp[eA]
  refine XJ (λe=>p1 (Kn JG.n8 (by simp) e)) ?_;refine Qo QD rfl ?_;refine Ha (kv:=Yt) (a:=Qd x.1) (v:=.bool (decide (x.1∈(fs.take i).map (·.1)))) Qa rfl rfl rfl rfl rfl qQM rfl rfl XZ (by
   rw[tD x.1 JG.n8];by_cases hm:x.1∈(fs.take i).map (·.1)
   ·rw[Qf hm,Zx hm]<;>rfl
   ·rw[if_neg hm,Zr hm];rfl) ?_
  by_cases p2:x.1∈(fs.take i).map (·.1)
  ·refine Zy p2 ?_;refine Qo QD rfl ?_;have e0:bj x ((fs.take i).map (·.1))=true:=by unfold bj;rw[Zx p2];simp
   refine loop Qa [47,6] (λs:Nat×Bool=>[.int .i64 s.1,.bool s.2]) (λs w'=>Ext w5 w'/\s.1<=x.1.length/\s.2=(bj x ((fs.take i).map (·.1))||(x.1.take s.1).any badB)) (λs _=>x.1.length-s.1) (0,true) rfl ⟨Ext.refl _,Xo _,by rw[e0];simp⟩ ?_;rintro⟨k,b⟩ w6 ⟨ZV,hk,VV⟩;simp only at hk VV;have J7:=zC.ext ZV;have Q7:=QD.ext ZV;refine Qw (λc3=>?_) (λc3=>?_)
   ·have Z8:k<x.1.length:=by rw[bM] at c3;simp only at c3;omega
    obtain⟨y,hy⟩:∃y,x.1[k]? =some y:=⟨_,Xu Z8⟩
    have ez:(x.1.take (k+1)).any badB=((x.1.take k).any badB||badB y):=by
     rw[VF,hy];simp
    have fin:∀b',b'=(b||badB y)->b'=(bj x ((fs.take i).map (·.1))||(x.1.take (k+1)).any badB):=λb' e=>by rw[e,VV,ez,Gc]
    cases b with
    | true=>
     refine Xd rfl ?_;refine Qj ((k+1:Nat):Int) (by show((k:Nat):Int)+1=_;omega) (by omega) ?_;exact⟨(k+1,true),rfl,⟨ZV,Z8,fin true rfl⟩,by show x.1.length-(k+1)<x.1.length-k;omega⟩
    | false=>
     have idx:∀K:Int->Prop,K (y:Int)->fH (Qd x.1) ((k:Nat):Int) K:=λK hK=>by
      refine dE (by rw[bM];exact Z8) (λz hz _=>?_);rw[Ws JG.n8,hy] at hz;cases hz;exact hK
     refine Q9 rfl ?_;refine Qo Q7 rfl ?_;refine idx _ ?_;refine Qw (λd1=>?_) (λd1=>?_)
     ·refine Qj ((k+1:Nat):Int) (by show((k:Nat):Int)+1=_;omega) (by omega) ?_;exact⟨(k+1,true),rfl,⟨ZV,Z8,fin true (by
                                have:y<32:=by omega
                                simp[badB,this])⟩,by show x.1.length-(k+1)<x.1.length-k;omega⟩
     refine Qo Q7 rfl ?_;refine idx _ ?_;refine X8 (λd2=>?_) (λd2=>?_)
     ·refine Qj ((k+1:Nat):Int) (by show((k:Nat):Int)+1=_;omega) (by omega) ?_;exact⟨(k+1,true),rfl,⟨ZV,Z8,fin true (by
                                have:y=34:=by omega
                                simp[badB,this])⟩,by show x.1.length-(k+1)<x.1.length-k;omega⟩
     refine Qo Q7 rfl ?_;refine idx _ ?_;refine Qj ((k+1:Nat):Int) (by show((k:Nat):Int)+1=_;omega) (by omega) ?_;refine⟨(k+1,((y:Int)==127)),rfl,⟨ZV,Z8,fin _ ?_⟩,by show x.1.length-(k+1)<x.1.length-k;omega⟩;have n1:¬y<32:=by omega
     have n2:¬y=34:=by omega
     by_cases n3:y=127
     ·subst n3;rfl
     ·have:((y:Int)==127)=false:=by simp;omega
      rw[this];simp[badB,n1,n2,n3]
   ·have Z8:k=x.1.length:=by rw[bM] at c3;simp only at c3;omega
    subst Z8;rw[qI] at VV;have hall:=CT x ((fs.take i).map (·.1));have aO:fs.drop i=x::fs.drop (i+1):=by
     rw[am (by omega)];congr 1;exact Option.some.inj ((Xu (by omega)).symm.trans hx)
    have QH:=J7.rs;rw[aO,dL] at QH;have WG:=((Qh.ext hI.e).ext K8).ext ZV;refine YK (λd1=>?_) (λd1=>?_)
    ·have d1:b=true:=d1;rw[Qf (hall.1 (by rw[<-VV,d1]))] at QH;refine Qv WG rfl (sc rfl) (λw7 Zv _ Q3=>?_);refine Qt Q3 rfl ?_;have Xe:Mod (·=w.heap.size) w6 w7:=qQL Zv rfl;exact⟨by rw[<-QH];rfl,Xe.ext (Qe.trans J7.e) (λi hi=>by omega)⟩
    have d1:b=false:=d1;have X5:=λhh=>(hall.2 hh).symm.trans (VV.symm.trans d1)
    rw[if_neg (λhh=>by have:=X5 hh;cases this)] at QH;refine Qo Q7 rfl ?_;refine Qw (λd2=>?_) (λd2=>?_)
    ·rw[Qf (by omega)] at QH;refine Qv WG rfl (sc rfl) (λw7 Zv _ Q3=>?_);refine Qt Q3 rfl ?_;have Xe:Mod (·=w.heap.size) w6 w7:=qQL Zv rfl;exact⟨by rw[<-QH];rfl,Xe.ext (Qe.trans J7.e) (λi hi=>by omega)⟩
    rw[if_neg (by omega)] at QH;refine Qo Q7 rfl ?_;have VQ:=XZ.ext ZV;refine lI (kv:=Yt) (a:=Qd x.1) Qa rfl rfl rfl rfl rfl qQM rfl rfl rfl VQ (λw7 Zv W8 J5=>?_);have Xe:Mod (·=w1.heap.size) w6 w7:=qQL Zv rfl;refine Qj ((i+1:Nat):Int) (by show((i:Nat):Int)+1=_;omega) (by omega) ?_;have KX:(fs.take (i+1)).map (·.1)=(fs.take i).map (·.1)++ [x.1]:=by rw[VF,hx];simp
    refine⟨i+1,rfl,⟨Xe.ext J7.e (λi hi=>by omega),⟨_,J5,λs hs=>?_⟩,by rw[KX];exact QH,by omega,QB _⟩,by show fs.length-(i+1)<fs.length-i;omega⟩;rw[bR,KX];by_cases eA:s=x.1
    ·subst eA;simp
    ·rw[if_neg (λe=>eA (Kn hs JG.n8 e)),tD s hs];simp[eA]
  refine XJ p2 ?_;refine Qo QD rfl ?_;by_cases p3:x.2=[]
  ·refine Q9 (by rw[p3];rfl) ?_;refine Qo QD rfl ?_;have e0:bj x ((fs.take i).map (·.1))=false:=by unfold bj;rw[Zr p1,Zr p2,p3]<;>rfl
   refine loop Qa [47,6] (λs:Nat×Bool=>[.int .i64 s.1,.bool s.2]) (λs w'=>Ext w5 w'/\s.1<=x.1.length/\s.2=(bj x ((fs.take i).map (·.1))||(x.1.take s.1).any badB)) (λs _=>x.1.length-s.1) (0,false) rfl ⟨Ext.refl _,Xo _,by rw[e0];simp⟩ ?_;rintro⟨k,b⟩ w6 ⟨ZV,hk,VV⟩;simp only at hk VV;have J7:=zC.ext ZV;have Q7:=QD.ext ZV;refine Qw (λc3=>?_) (λc3=>?_)
   ·have Z8:k<x.1.length:=by rw[bM] at c3;simp only at c3;omega
    obtain⟨y,hy⟩:∃y,x.1[k]? =some y:=⟨_,Xu Z8⟩
    have ez:(x.1.take (k+1)).any badB=((x.1.take k).any badB||badB y):=by
     rw[VF,hy];simp
    have fin:∀b',b'=(b||badB y)->b'=(bj x ((fs.take i).map (·.1))||(x.1.take (k+1)).any badB):=λb' e=>by rw[e,VV,ez,Gc]
    cases b with
    | true=>
     refine Xd rfl ?_;refine Qj ((k+1:Nat):Int) (by show((k:Nat):Int)+1=_;omega) (by omega) ?_;exact⟨(k+1,true),rfl,⟨ZV,Z8,fin true rfl⟩,by show x.1.length-(k+1)<x.1.length-k;omega⟩
    | false=>
     have idx:∀K:Int->Prop,K (y:Int)->fH (Qd x.1) ((k:Nat):Int) K:=λK hK=>by
      refine dE (by rw[bM];exact Z8) (λz hz _=>?_);rw[Ws JG.n8,hy] at hz;cases hz;exact hK
     refine Q9 rfl ?_;refine Qo Q7 rfl ?_;refine idx _ ?_;refine Qw (λd1=>?_) (λd1=>?_)
     ·refine Qj ((k+1:Nat):Int) (by show((k:Nat):Int)+1=_;omega) (by omega) ?_;exact⟨(k+1,true),rfl,⟨ZV,Z8,fin true (by
                                have:y<32:=by omega
                                simp[badB,this])⟩,by show x.1.length-(k+1)<x.1.length-k;omega⟩
     refine Qo Q7 rfl ?_;refine idx _ ?_;refine X8 (λd2=>?_) (λd2=>?_)
     ·refine Qj ((k+1:Nat):Int) (by show((k:Nat):Int)+1=_;omega) (by omega) ?_;exact⟨(k+1,true),rfl,⟨ZV,Z8,fin true (by
                                have:y=34:=by omega
                                simp[badB,this])⟩,by show x.1.length-(k+1)<x.1.length-k;omega⟩
     refine Qo Q7 rfl ?_;refine idx _ ?_;refine Qj ((k+1:Nat):Int) (by show((k:Nat):Int)+1=_;omega) (by omega) ?_;refine⟨(k+1,((y:Int)==127)),rfl,⟨ZV,Z8,fin _ ?_⟩,by show x.1.length-(k+1)<x.1.length-k;omega⟩;have n1:¬y<32:=by omega
     have n2:¬y=34:=by omega
     by_cases n3:y=127
     ·subst n3;rfl
     ·have:((y:Int)==127)=false:=by simp;omega
      rw[this];simp[badB,n1,n2,n3]
   ·have Z8:k=x.1.length:=by rw[bM] at c3;simp only at c3;omega
    subst Z8;rw[qI] at VV;have hall:=CT x ((fs.take i).map (·.1));have aO:fs.drop i=x::fs.drop (i+1):=by
     rw[am (by omega)];congr 1;exact Option.some.inj ((Xu (by omega)).symm.trans hx)
    have QH:=J7.rs;rw[aO,dL] at QH;have WG:=((Qh.ext hI.e).ext K8).ext ZV;refine YK (λd1=>?_) (λd1=>?_)
    ·have d1:b=true:=d1;rw[Qf (hall.1 (by rw[<-VV,d1]))] at QH;refine Qv WG rfl (sc rfl) (λw7 Zv _ Q3=>?_);refine Qt Q3 rfl ?_;have Xe:Mod (·=w.heap.size) w6 w7:=qQL Zv rfl;exact⟨by rw[<-QH];rfl,Xe.ext (Qe.trans J7.e) (λi hi=>by omega)⟩
    have d1:b=false:=d1;have X5:=λhh=>(hall.2 hh).symm.trans (VV.symm.trans d1)
    rw[if_neg (λhh=>by have:=X5 hh;cases this)] at QH;refine Qo Q7 rfl ?_;refine Qw (λd2=>?_) (λd2=>?_)
    ·rw[Qf (by omega)] at QH;refine Qv WG rfl (sc rfl) (λw7 Zv _ Q3=>?_);refine Qt Q3 rfl ?_;have Xe:Mod (·=w.heap.size) w6 w7:=qQL Zv rfl;exact⟨by rw[<-QH];rfl,Xe.ext (Qe.trans J7.e) (λi hi=>by omega)⟩
    rw[if_neg (by omega)] at QH;refine Qo Q7 rfl ?_;have VQ:=XZ.ext ZV;refine lI (kv:=Yt) (a:=Qd x.1) Qa rfl rfl rfl rfl rfl qQM rfl rfl rfl VQ (λw7 Zv W8 J5=>?_);have Xe:Mod (·=w1.heap.size) w6 w7:=qQL Zv rfl;refine Qj ((i+1:Nat):Int) (by show((i:Nat):Int)+1=_;omega) (by omega) ?_;have KX:(fs.take (i+1)).map (·.1)=(fs.take i).map (·.1)++ [x.1]:=by rw[VF,hx];simp
    refine⟨i+1,rfl,⟨Xe.ext J7.e (λi hi=>by omega),⟨_,J5,λs hs=>?_⟩,by rw[KX];exact QH,by omega,QB _⟩,by show fs.length-(i+1)<fs.length-i;omega⟩;rw[bR,KX];by_cases eA:s=x.1
    ·subst eA;simp
    ·rw[if_neg (λe=>eA (Kn hs JG.n8 e)),tD s hs];simp[eA]
  ·have n3:¬Qd x.2=(⟨#[]⟩:ByteArray):=λe=>p3 (Kn JG.t8 (by simp) e)
   refine Xd (by simp[n3]) ?_;refine Qo QD rfl ?_;refine Qo QD rfl ?_;have Wd:=JG.tl;have aL:0<x.2.length:=tY.2 p3;refine Qj ((x.2.length-1:Nat):Int) (by rw[dt];omega) (by omega) ?_;refine dE (j:=x.2.length-1) (by omega) (λz hz YU=>?_);rw[Ws JG.t8] at hz;have qj:x.2.getLast? =some z:=by rw[tW];exact hz
   refine Qo QD rfl ?_;have e0:bj x ((fs.take i).map (·.1))=((z:Int) !=10):=by
    unfold bj;rw[Zr p1,Zr p2,Zx p3,qj];by_cases XO:z=10
    ·subst XO;decide
    ·have e1:((z:Int) !=10)=true:=by simp;omega
     rw[e1];simp[XO]
   refine loop Qa [47,6] (λs:Nat×Bool=>[.int .i64 s.1,.bool s.2]) (λs w'=>Ext w5 w'/\s.1<=x.1.length/\s.2=(bj x ((fs.take i).map (·.1))||(x.1.take s.1).any badB)) (λs _=>x.1.length-s.1) (0,((z:Int) !=10)) rfl ⟨Ext.refl _,Xo _,by rw[e0];simp⟩ ?_;rintro⟨k,b⟩ w6 ⟨ZV,hk,VV⟩;simp only at hk VV;have J7:=zC.ext ZV;have Q7:=QD.ext ZV;refine Qw (λc3=>?_) (λc3=>?_)
   ·have Z8:k<x.1.length:=by rw[bM] at c3;simp only at c3;omega
    obtain⟨y,hy⟩:∃y,x.1[k]? =some y:=⟨_,Xu Z8⟩
    have ez:(x.1.take (k+1)).any badB=((x.1.take k).any badB||badB y):=by
     rw[VF,hy];simp
    have fin:∀b',b'=(b||badB y)->b'=(bj x ((fs.take i).map (·.1))||(x.1.take (k+1)).any badB):=λb' e=>by rw[e,VV,ez,Gc]
    cases b with
    | true=>
     refine Xd rfl ?_;refine Qj ((k+1:Nat):Int) (by show((k:Nat):Int)+1=_;omega) (by omega) ?_;exact⟨(k+1,true),rfl,⟨ZV,Z8,fin true rfl⟩,by show x.1.length-(k+1)<x.1.length-k;omega⟩
    | false=>
     have idx:∀K:Int->Prop,K (y:Int)->fH (Qd x.1) ((k:Nat):Int) K:=λK hK=>by
      refine dE (by rw[bM];exact Z8) (λz hz _=>?_);rw[Ws JG.n8,hy] at hz;cases hz;exact hK
     refine Q9 rfl ?_;refine Qo Q7 rfl ?_;refine idx _ ?_;refine Qw (λd1=>?_) (λd1=>?_)
     ·refine Qj ((k+1:Nat):Int) (by show((k:Nat):Int)+1=_;omega) (by omega) ?_;exact⟨(k+1,true),rfl,⟨ZV,Z8,fin true (by
                                have:y<32:=by omega
                                simp[badB,this])⟩,by show x.1.length-(k+1)<x.1.length-k;omega⟩
     refine Qo Q7 rfl ?_;refine idx _ ?_;refine X8 (λd2=>?_) (λd2=>?_)
     ·refine Qj ((k+1:Nat):Int) (by show((k:Nat):Int)+1=_;omega) (by omega) ?_;exact⟨(k+1,true),rfl,⟨ZV,Z8,fin true (by
                                have:y=34:=by omega
                                simp[badB,this])⟩,by show x.1.length-(k+1)<x.1.length-k;omega⟩
     refine Qo Q7 rfl ?_;refine idx _ ?_;refine Qj ((k+1:Nat):Int) (by show((k:Nat):Int)+1=_;omega) (by omega) ?_;refine⟨(k+1,((y:Int)==127)),rfl,⟨ZV,Z8,fin _ ?_⟩,by show x.1.length-(k+1)<x.1.length-k;omega⟩;have n1:¬y<32:=by omega
     have n2:¬y=34:=by omega
     by_cases n3:y=127
     ·subst n3;rfl
     ·have:((y:Int)==127)=false:=by simp;omega
      rw[this];simp[badB,n1,n2,n3]
   ·have Z8:k=x.1.length:=by rw[bM] at c3;simp only at c3;omega
    subst Z8;rw[qI] at VV;have hall:=CT x ((fs.take i).map (·.1));have aO:fs.drop i=x::fs.drop (i+1):=by
     rw[am (by omega)];congr 1;exact Option.some.inj ((Xu (by omega)).symm.trans hx)
    have QH:=J7.rs;rw[aO,dL] at QH;have WG:=((Qh.ext hI.e).ext K8).ext ZV;refine YK (λd1=>?_) (λd1=>?_)
    ·have d1:b=true:=d1;rw[Qf (hall.1 (by rw[<-VV,d1]))] at QH;refine Qv WG rfl (sc rfl) (λw7 Zv _ Q3=>?_);refine Qt Q3 rfl ?_;have Xe:Mod (·=w.heap.size) w6 w7:=qQL Zv rfl;exact⟨by rw[<-QH];rfl,Xe.ext (Qe.trans J7.e) (λi hi=>by omega)⟩
    have d1:b=false:=d1;have X5:=λhh=>(hall.2 hh).symm.trans (VV.symm.trans d1)
    rw[if_neg (λhh=>by have:=X5 hh;cases this)] at QH;refine Qo Q7 rfl ?_;refine Qw (λd2=>?_) (λd2=>?_)
    ·rw[Qf (by omega)] at QH;refine Qv WG rfl (sc rfl) (λw7 Zv _ Q3=>?_);refine Qt Q3 rfl ?_;have Xe:Mod (·=w.heap.size) w6 w7:=qQL Zv rfl;exact⟨by rw[<-QH];rfl,Xe.ext (Qe.trans J7.e) (λi hi=>by omega)⟩
    rw[if_neg (by omega)] at QH;refine Qo Q7 rfl ?_;have VQ:=XZ.ext ZV;refine lI (kv:=Yt) (a:=Qd x.1) Qa rfl rfl rfl rfl rfl qQM rfl rfl rfl VQ (λw7 Zv W8 J5=>?_);have Xe:Mod (·=w1.heap.size) w6 w7:=qQL Zv rfl;refine Qj ((i+1:Nat):Int) (by show((i:Nat):Int)+1=_;omega) (by omega) ?_;have KX:(fs.take (i+1)).map (·.1)=(fs.take i).map (·.1)++ [x.1]:=by rw[VF,hx];simp
    refine⟨i+1,rfl,⟨Xe.ext J7.e (λi hi=>by omega),⟨_,J5,λs hs=>?_⟩,by rw[KX];exact QH,by omega,QB _⟩,by show fs.length-(i+1)<fs.length-i;omega⟩;rw[bR,KX];by_cases eA:s=x.1
    ·subst eA;simp
    ·rw[if_neg (λe=>eA (Kn hs JG.n8 e)),tD s hs];simp[eA]
 ·have hi:i=fs.length:=by have:=hI.le;omega
  have QH:=hI.rs;rw[hi,Gd,dL] at QH;refine Qv (Qh.ext hI.e) rfl (sc rfl) (λw4 aC _ QR=>?_);refine Qt QR rfl ?_;have K6:Mod (·=w.heap.size) w3 w4:=qQL aC rfl;exact⟨by rw[<-QH];rfl,K6.ext QU (λi hi=>by omega)⟩
end
section
theorem vf {P:Program}{ops:Array Oper}{rest:List Nat}{i:Nat}{o:Oper}{Q:Exit->Act->List Frame->World->Prop}{a:Act}{cs cs':List Frame}{w:World}{v:Value}{d:Nat}(hi:ops[i]? =some o)(h1:o.op= .call ⟨.builtin .recover, #[], #[]⟩)(hd:o.dst=some d)(hg:o.guard=none)
  (OD:recoverD cs=some (v,cs')∨(recoverD cs=none/\v= .nilIface/\cs'=cs)) (h:wpOpsS P ops Q rest (a.put (some d) v) cs' w):wpOpsS P ops Q (i::rest) a cs w:=by
 have e1:(execOp a.eval o).run P w= .ok .recover w:=by
  simp only[execOp,h1,resolve,invoke,builtin];simp
 unfold wpOpsS;rw[hi];simp only;rw[Qf (by simp[Region.wanted,hg]),e1,hd];rcases OD with hr | ⟨hr,rfl,rfl⟩
 ·simp only[hr];exact h
 ·simp only[hr];exact h
theorem JU {c:Cx}(hg:c.g.Ok){P:Program}(hP:c.g.P=P){ops:Array Oper}{rest:List Nat}{i:Nat}{o:Oper}{Q:Exit->Act->List Frame->World->Prop}{a:Act}{cs:List Frame}{w:World}{S:Env}{K:Env->World->Prop}(hi:ops[i]? =some o)(KU:o.guard=none)(hf:Fits c.N S a)
  (h:eH c o S w K (λ_ _ _=>False)) (hk:∀S' a' w',Fits c.N S' a'->K S' w'->wpOpsS P ops Q rest a' cs w'):wpOpsS P ops Q (i::rest) a cs w:=by
 subst hP;have h1:=qZ hg h hf;unfold wpOpsS;rw[hi];simp only;rw[Qf (by simp[Region.wanted,KU])];have h2:=Oper.wp_mono (K':=λa' w'=>wpOpsS c.g.P ops Q rest a' cs w') (λa' w' ⟨S',Q1,hK⟩=>hk _ _ _ Q1 hK) h1;unfold Oper.wp at h2;generalize (execOp a.eval o).run c.g.P w=r at*;cases r with
 | ok n w'=>
  cases n<;>simp only[Oper.upon] at h2 ⊢ <;> first | exact h2 | exact h2.elim | skip
  exact h2.mono λe Vq he=>by
   cases e with
   | returned v=>exact he
   | panicked ch=>obtain⟨_,_,he⟩:=he;exact he.elim
   | outgrown=>obtain⟨_,_,_,_,he⟩:=he;exact he.elim
 | halt x w'=>cases x<;>simp only[Oper.upon] at h2 ⊢ <;> first | exact h2 | (obtain⟨_,_,h2⟩:=h2;exact h2.elim) | (obtain⟨_,_,_,_,h2⟩:=h2;exact h2.elim)
theorem iQR {c:Cx}{o:Oper}{S:Env}{w:World}{K:Env->World->Prop}{Q:Zs}{x:Operand}{tx t:Nat}{fs:Array Field}{v:Value}{r:TyRow}(hg:c.g.Ok)(ho:o.op= .typeAssert x tx t true)(hr:Q0 c.g.tys t=some r)(hd:r.d= .struct fs)(hx:S.ev x=some (.iface t v))
  (kk:Xf c S o.dst (.v (.tuple #[v,.bool true])) (λS=>K S w)):Zh c o S w K Q:=by
 have Q5:=(hg.row hr).1;rw[hd] at Q5;refine JT (w':=w) (v:=.tuple #[v,.bool true]) (λa hf=>?_) kk;have e1:=hf.ev hx;simp only[execOp,ho,e1];simp[Instr.typeAssert,Ja Q5]
theorem iQS {c:Cx}{o:Oper}{S:Env}{w:World}{K:Env->World->Prop}{Q:Zs}{x:Operand}{tx t:Nat}{fs:Array Field}{r:TyRow}(hg:c.g.Ok)(ho:o.op= .typeAssert x tx t true)(hr:Q0 c.g.tys t=some r)(hd:r.d= .struct fs)(hx:S.ev x=some .nilIface)
  (kk:Xf c S o.dst (.v (.tuple #[r.z,.bool false])) (λS=>K S w)):Zh c o S w K Q:=by
 obtain⟨Q5,i,hi,_,_,hz⟩:=hg.row hr;rw[hd] at Q5;refine JT (w':=w) (v:=.tuple #[r.z,.bool false]) (λa hf=>?_) kk;have e1:=hf.ev hx;simp only[execOp,ho,e1];simp[Instr.typeAssert,Ja Q5,zeroValue,typeInfo,hi,hz]
def iQT (f e:Nat)(q:Pl)(w w':World):Prop:=Blk w' f 41 [.string (Qd []),.slice none 0 0]/\Blk w' e 93 (oO q)/\Mod (λi=>i=f∨i=e) w w'
theorem iQU (f e:Nat)(q:Pl)(w:World)(cs1 cs2:List Value)(XL:cs1.length=2)(Ki:cs2.length=3)(QX:f≠e)(hf:Blk w f 41 cs1)(he:Blk w e 93 cs2):
  CallsD Tryz.prog 91 #[.pointer (some ⟨f,0,none⟩),.pointer (some ⟨e,0,none⟩)] (.panicking (gZ q.e q.f q.l)) w
   (λen u' w'=>∃v,en= .returned v/\settle u'= .returning/\iQT f e q w w'):=by
 refine callsD_of_wpS Tryz.func91 rfl λc₀ cs hu=>?_
 have Kl:=gQ (N:=Tryz.f91.ntmps) [.pointer (some ⟨f,0,none⟩),.pointer (some ⟨e,0,none⟩)] (iN rfl) [(0,.v (.pointer (some ⟨f,0,none⟩))),(1,.v (.pointer (some ⟨e,0,none⟩)))] (by
  intro k x hk
  match k,hk with
  | 0,hk=>cases hk;rfl
  | 1,hk=>cases hk;rfl
  | k+2,hk=>exact nomatch (show(none:Option Ent)=some x from hk))
 have Kj:=Kl.put (d:=5) (by decide) (.v (.iface 160 (.agg #[.int .i64 q.e,.int .i64 q.f,.int .i64 q.l])));refine wpS_seq (wpS_region ?_);show wpOpsS _ _ _ [0,1,2,3,4,5,6,7] _ _ _;refine vf (o:=_) (cs':={c₀ with mode:=.panicking [{v:=.iface 160 (.agg #[.int .i64 q.e,.int .i64 q.f,.int .i64 q.l]),recovered:=true}]}::cs) (v:=.iface 160 (.agg #[.int .i64 q.e,.int .i64 q.f,.int .i64 q.l])) (d:=5) rfl rfl rfl rfl (.inl (by simp[recoverD,hu,gZ])) ?_;generalize cE:Act.put _ (some 5) _=act;have jB:Fits aV.N [(5,.v (.iface 160 (.agg #[.int .i64 q.e,.int .i64 q.f,.int .i64 q.l]))),(0,.v (.pointer (some ⟨f,0,none⟩))),(1,.v (.pointer (some ⟨e,0,none⟩)))] act:=by rw[<-cE];exact Kj
 clear cE Kj Kl;generalize ZI: #[_,_,_,_,_,_,_,_]=zD;have h1:=(QC (λ(x:Array Oper)=>x[1]?) ZI).symm;have h2:=(QC (λ(x:Array Oper)=>x[2]?) ZI).symm;have h3:=(QC (λ(x:Array Oper)=>x[3]?) ZI).symm;have h4:=(QC (λ(x:Array Oper)=>x[4]?) ZI).symm;have h5:=(QC (λ(x:Array Oper)=>x[5]?) ZI).symm;have h6:=(QC (λ(x:Array Oper)=>x[6]?) ZI).symm;have h7:=(QC (λ(x:Array Oper)=>x[7]?) ZI).symm;clear ZI;refine JU (c:=aV) Qa rfl h1 rfl jB (K:=λS' w'=>S'=[(6,Ent.v (.tuple #[.agg #[.int .i64 q.e,.int .i64 q.f,.int .i64 q.l],.bool true])),(5,.v (.iface 160 (.agg #[.int .i64 q.e,.int .i64 q.f,.int .i64 q.l]))),(0,.v (.pointer (some ⟨f,0,none⟩))),(1,.v (.pointer (some ⟨e,0,none⟩)))]/\w=w') (iQR Qa rfl rfl rfl rfl ⟨rfl,rfl⟩) ?_;rintro _ a1 _ Zp ⟨rfl,rfl⟩;refine JU (c:=aV) Qa rfl h2 rfl Zp (K:=λS' w'=>S'=_/\w=w') ⟨rfl,rfl⟩ ?_;rintro _ a2 _ Z5 ⟨rfl,rfl⟩;refine JU (c:=aV) Qa rfl h3 rfl Z5 (K:=λS' w'=>S'=_/\w=w') ⟨rfl,rfl⟩ ?_;rintro _ a3 _ jC ⟨rfl,rfl⟩;refine JU (c:=aV) Qa rfl h4 rfl jC (K:=λS' w'=>S'=_/\w=w') ⟨rfl,rfl⟩ ?_;rintro _ a4 _ jD ⟨rfl,rfl⟩;refine JU (c:=aV) Qa rfl h5 rfl jD (K:=λS' w'=>S'=(2,.v (.pointer (some ⟨w.heap.size,0,none⟩)))::_/\Ext w w'/\w'.heap.size=w.heap.size+1/\∃ps:List Value,Blk w' w.heap.size 160 ps/\ps.length=3) (new (λw1 Qe Q6 Qh=>⟨rfl,Qe,Q6,_,Qh,rfl⟩)) ?_;rintro _ a5 w5 Kj ⟨rfl,Qx,KI,ps,QD,bG⟩;refine JU (c:=aV) Qa rfl h6 rfl Kj (K:=λS' w'=>S'=_/\Ext w w'/\w.heap.size+1<=w'.heap.size/\Blk w' w.heap.size 160 (oO q)) (Qv QD (by rw[bG];rfl) (sc rfl) (λw6 WB bu Q7=>⟨rfl,XT Qx QD WB,by omega,Q7⟩)) ?_;rintro _ a6 w6 cZ ⟨rfl,QQ,bu,Q7⟩;refine JU (c:=aV) Qa rfl h7 rfl cZ (K:=λS' w'=>S'=_/\w6=w') ⟨rfl,rfl⟩ ?_;rintro _ a7 _ MO ⟨rfl,rfl⟩;unfold wpOpsS;refine ov (c:=aV) Qa rfl MO ?_;refine Xd rfl ?_;have nf:f≠w.heap.size:=λe=>by have:=hf.lt;omega
 have ne:e≠w.heap.size:=λe=>by have:=he.lt;omega
 have nQx:=hf.ext QQ;have nQy:=he.ext QQ;refine XR Qa (λw'=>Mod (λi=>i=f∨i=e) w6 w') 5 [(true,0),(true,1),(true,2),(false,3),(false,4)] (by kernel_rfl) (Mod.of_ext _ (Ext.drew w6)) ?_;refine Xv (vs:=oO q) rfl (λw' Qb j u hj=>by rw[add_add,(Q7.mod Qb (λhh=>hh.elim (λe=>nf e.symm) (λe=>ne e.symm))).cell];simpa using hj) ?_;have hd:=Ext.drew w6;refine Qv (nQx.ext hd) (by rw[XL];rfl) (sc rfl) (λw8 YV _ Xz=>?_);have ZL:Mod (·=f) w6.drew w8:=qQL YV rfl;have zE:Mod (λi=>i=f∨i=e) w6 w8:=(Mod.of_ext _ hd).trans ZL (λi hi=>.inl (.inl hi));refine⟨zE,?_⟩;refine Qv ((nQy.ext hd).mod ZL (λhh=>QX hh.symm)) (by rw[Ki];rfl) (sc rfl) (λw9 dZ _ JI=>?_);have Zg:Mod (·=e) w8 w9:=qQL dZ rfl;have cQs:Mod (λi=>i=f∨i=e) w6 w9:=zE.trans Zg (λi hi=>.inl (.inr hi));refine⟨cQs,?_⟩;exact⟨_,rfl,rfl,Xz.mod Zg QX,JI,(Mod.of_ext _ QQ).trans cQs (λi hi=>.inl hi)⟩
theorem iQV (f e:Nat)(w:World):
  CallsD Tryz.prog 91 #[.pointer (some ⟨f,0,none⟩),.pointer (some ⟨e,0,none⟩)] .returning w
   (λen u' w'=>∃v,en= .returned v/\settle u'= .returning/\Ext w w'):=by
 refine callsD_of_wpS Tryz.func91 rfl λc₀ cs hu=>?_
 have Kl:=gQ (N:=Tryz.f91.ntmps) [.pointer (some ⟨f,0,none⟩),.pointer (some ⟨e,0,none⟩)] (iN rfl) [(0,.v (.pointer (some ⟨f,0,none⟩))),(1,.v (.pointer (some ⟨e,0,none⟩)))] (by
  intro k x hk
  match k,hk with
  | 0,hk=>cases hk;rfl
  | 1,hk=>cases hk;rfl
  | k+2,hk=>exact nomatch (show(none:Option Ent)=some x from hk))
 have Kj:=Kl.put (d:=5) (by decide) (.v .nilIface);refine wpS_seq (wpS_region ?_);show wpOpsS _ _ _ [0,1,2,3,4,5,6,7] _ _ _;refine vf (o:=_) (cs':={c₀ with mode:=.returning}::cs) (v:=.nilIface) (d:=5) rfl rfl rfl rfl (.inr ⟨by simp[recoverD,hu],rfl,by rw[<-hu]⟩) ?_;generalize cE:Act.put _ (some 5) _=act;have jB:Fits aV.N [(5,.v .nilIface),(0,.v (.pointer (some ⟨f,0,none⟩))),(1,.v (.pointer (some ⟨e,0,none⟩)))] act:=by rw[<-cE];exact Kj
 clear cE Kj Kl;generalize ZI: #[_,_,_,_,_,_,_,_]=zD;have h1:=(QC (λ(x:Array Oper)=>x[1]?) ZI).symm;have h2:=(QC (λ(x:Array Oper)=>x[2]?) ZI).symm;have h3:=(QC (λ(x:Array Oper)=>x[3]?) ZI).symm;have h4:=(QC (λ(x:Array Oper)=>x[4]?) ZI).symm;have h5:=(QC (λ(x:Array Oper)=>x[5]?) ZI).symm;have h6:=(QC (λ(x:Array Oper)=>x[6]?) ZI).symm;have h7:=(QC (λ(x:Array Oper)=>x[7]?) ZI).symm;clear ZI;refine JU (c:=aV) Qa rfl h1 rfl jB (K:=λS' w'=>S'=_/\w=w') (iQS Qa rfl rfl rfl rfl ⟨rfl,rfl⟩) ?_;rintro _ a1 _ Zp ⟨rfl,rfl⟩;refine JU (c:=aV) Qa rfl h2 rfl Zp (K:=λS' w'=>S'=_/\w=w') ⟨rfl,rfl⟩ ?_;rintro _ a2 _ Z5 ⟨rfl,rfl⟩;refine JU (c:=aV) Qa rfl h3 rfl Z5 (K:=λS' w'=>S'=_/\w=w') ⟨rfl,rfl⟩ ?_;rintro _ a3 _ jC ⟨rfl,rfl⟩;refine JU (c:=aV) Qa rfl h4 rfl jC (K:=λS' w'=>S'=_/\w=w') ⟨rfl,rfl⟩ ?_;rintro _ a4 _ jD ⟨rfl,rfl⟩;refine JU (c:=aV) Qa rfl h5 rfl jD (K:=λS' w'=>S'=(2,.v (.pointer (some ⟨w.heap.size,0,none⟩)))::_/\Ext w w'/\w'.heap.size=w.heap.size+1/\∃ps:List Value,Blk w' w.heap.size 160 ps/\ps.length=3) (new (λw1 Qe Q6 Qh=>⟨rfl,Qe,Q6,_,Qh,rfl⟩)) ?_;rintro _ a5 w5 Kj ⟨rfl,Qx,KI,ps,QD,bG⟩;refine JU (c:=aV) Qa rfl h6 rfl Kj (K:=λS' w'=>S'=_/\Ext w w') (Qv QD (by rw[bG];rfl) (sc rfl) (λw6 WB bu Q7=>⟨rfl,XT Qx QD WB⟩)) ?_;rintro _ a6 w6 cZ ⟨rfl,QQ⟩;refine JU (c:=aV) Qa rfl h7 rfl cZ (K:=λS' w'=>S'=_/\w6=w') ⟨rfl,rfl⟩ ?_;rintro _ a7 _ MO ⟨rfl,rfl⟩;unfold wpOpsS;refine ov (c:=aV) Qa rfl MO ?_;refine Q9 rfl ?_;exact⟨_,rfl,rfl,QQ⟩
end
section
theorem iQW {nm:List (List Nat)}(hb:KO nm):(eP nm WY).2=if Z1 nm then 0 else 1:=by
 by_cases h:Z1 nm=true
 ·rw[Qf h,show WY=Z4 nm 0 (.c true) from rfl,hQw h (hQx hb h) (.c true) trivial (by decide)]
 ·rw[if_neg h];unfold eP;rw[if_neg h]
structure SgIn (w:World) (k:Nat) (A:Option Addr) (n c:Nat) (sg:List Sg) (L:List DV):Prop where
 sl:Sl w 6 A n c (dN sg L)
 n:sg.length=n
 len:L.length=sg.length
 dg:∀(j:Nat) (s:Sg) (x:DV),sg[j]? =some s->L[j]? =some x->SB w x.A x.n x.c x.nd/\Set1 k x.nd x.r s.o
theorem SgIn.ext {w w':World}{k:Nat}{A:Option Addr}{n c:Nat}{sg:List Sg}{L:List DV}(h:SgIn w k A n c sg L)(hE:Ext w w'):SgIn w' k A n c sg L:=⟨h.sl.ext hE,h.n,h.len,λj s x h1 h2=>⟨(h.dg j s x h1 h2).1.ext hE,(h.dg j s x h1 h2).2⟩⟩
structure GsOk (g:Gs):Prop where
 b8:∀x∈g.tx,x<256
 tl:g.tx.length<=1048576
 sl:g.sg.length<=65536
abbrev rL (tx:List Nat)(A:Option Addr)(n c:Nat):Value:=.agg #[.string (Qd tx),.slice A n c]
def iQX (k:Nat)(w:World)(r:Except Pl Gs)(u:Value)(w':World):Prop:=Ext w w'/\match r with
 | .error q=>u= .tuple #[rL [] none 0 0,.agg (oO q).toArray]
 | .ok g=>GsOk g/\∃A c L,u= .tuple #[rL g.tx A g.sg.length c,.agg (oO ⟨0,0,0⟩).toArray]/\SgIn w' k A g.sg.length c g.sg L
theorem Ui:∀(l:List (List Nat×List Nat))(seen:List (List Nat))(i:Nat)(q:Pl),dL l seen i=some q->q.e≠0
 | [],_,_,_,h=>by cases h
 | x::l,seen,i,q,h=>by
  unfold dL at h;split at h
  ·cases h;exact(by decide:(70:Int)≠0)
  split at h
  ·cases h;exact(by decide:(2:Int)≠0)
  ·exact Ui l _ _ q h
theorem Uj {fs:List (List Nat×List Nat)}{q:Pl}(h:Y6 fs=some q):q.e≠0:=by
 unfold Y6 at h;split at h
 ·cases h;decide
 ·exact Ui _ _ _ _ h
theorem CU:∀(l:List (List Nat×List Nat))(seen:List (List Nat))(i:Nat),dL l seen i=none->∀x∈l,oH x.1=true/\bW x.2=true/\x.2.length<=1048576
 | [],_,_,_,x,hx=>by cases hx
 | y::l,seen,i,h,x,hx=>by
  unfold dL at h;split at h
  ·cases h
  split at h
  ·cases h
  ·rename_i h1 h2;have h1:=Decidable.not_not.1 h1;rcases QY.1 hx with rfl | hx
   ·exact⟨h1.1,h1.2.2,by omega⟩
   ·exact CU l _ _ h x hx
theorem mr {l:List Nat}(h:bW l=true):cP l:=by
 unfold bW at h;rw[Bool.or_eq_true] at h;rcases h with h | h
 ·exact .inl (Y2 h)
 ·exact .inr (by simpa using h)
theorem iQY {fs:List (List Nat×List Nat)}(h:Y6 fs=none)(hb:∀x∈fs,FileB x):fs.length<=256/\∀x∈fs,FileOk x:=by
 unfold Y6 at h;split at h
 ·cases h
 ·rename_i hl;refine⟨by omega,λx hx=>?_⟩;obtain⟨h1,h2,h3⟩:=CU _ _ _ h x hx;have nC:=hb x hx;exact⟨nC.n8,nC.t8,nC.nl,h3,mr h2⟩
theorem iQZ {w7 w':World}{nq:Nat}{m:List (ByteArray×Value)}(h:w7.heap.size=nq+1)(hm:Mod (·=nq) w7 w')(hq:MapAt Yt w' nq m):∃w0,Ext w0 w'/\w0.heap.size=nq+1/\MapAt Yt w0 nq m/\∀w,Ext w w7->w.heap.size<=nq->Ext w w0:=by
 obtain⟨bs,ck,hl,hb⟩:=hq.ex;refine⟨{w7 with heap:=w7.heap.setIfInBounds nq (.map (X2 Yt m bs).toArray ck)},⟨hm.os,hm.tape,hm.output,?_,λi hi _=>?_⟩,by simp[h],⟨bs,ck,hl,?_⟩,λw hE ZF=>⟨hE.os,hE.tape,hE.output,?_,λi hi hn=>?_⟩⟩
 ·simpa using hm.size
 ·simp only[Array.size_setIfInBounds] at hi;simp only[F6];by_cases e:nq=i
  ·subst e;rw[Qf rfl,Qf (by omega),hb]
  ·rw[if_neg e];exact hm.block i hi (λe2=>e e2.symm)
 ·simp[h]
 ·simpa using hE.size
 ·simp only[F6];rw[if_neg (by omega)];exact hE.block i hi hn
theorem H5 (nm:List (List Nat))(NA:Option Addr)(nn nc:Nat)(fs:List (List Nat×List Nat))(FA:Option Addr)(nf cf:Nat)(root:List Nat)(w:World)(hN:Sl w 1 NA nn nc (XH nm))(Yp:KO nm)(hk:nm.length<=12)(hF:SlS bg 2 w FA nf cf fs)(FH:∀x∈fs,FileB x)(hnf:nf<=1000000000000)(fi:∀x∈root,x<256):
  Fn Tryz.prog 43 [.slice NA nn nc,.slice FA nf cf,.string (Qd root)] w (iQX nm.length w (Vh nm fs root)):=by
 refine xK (c:={c43 with cuts:=[]}) Qa Tryz.func43 rfl rfl rfl ?_;refine Z2 (ZN Qa ?_);refine new (λw1 Qe Q6 Qh=>?_);refine new (λw2 Qg Ze Qy=>?_);have QT:=Qe.trans Qg;refine Z2 (ZN Qa ?_);refine call (Sp nm NA nn nc WY w2 (hN.ext QT) Yp (by decide) (by decide)) ?_;rintro _ w3 ⟨G,mg,cG,rfl,Qi,hG⟩;have QU:=QT.trans Qi;have FI:=(Qh.ext Qg).ext Qi;have hBp:=Qy.ext Qi;have QX:w1.heap.size≠w.heap.size:=by omega
 have jJ:=iQW Yp;have ah:Vh nm fs root=if Z1 nm=false then .error ⟨30, -1,0⟩else match Y6 fs with
  | some p=>.error p
  | none=>match Jq (fs.map (·.1)) root with
   | none=>.error ⟨73, -1,0⟩
   | some n=>aq nm fs 65 [] 0 n (λ_=>true) ⟨[],[],false⟩:=rfl
 rw[jJ];cases X5:Z1 nm with
 | false=>
  rw[Qf X5] at ah;refine ri (by decide) ?_;refine Qv FI rfl (sc rfl) (λw4 aC _ QR=>?_);have K6:Mod (·=w.heap.size) w3 w4:=qQL aC rfl;refine Qv (hBp.mod K6 QX) rfl (sc rfl) (λw5 JE _ QD=>?_);have Jt:Mod (·=w1.heap.size) w4 w5:=qQL JE rfl;refine kt Qa rfl (.inl rfl) ?_;refine Qt (QR.mod Jt QX.symm) rfl ?_;refine Qt QD rfl ?_;rw[ah];exact⟨Jt.ext (K6.ext QU (λi hi=>by omega)) (λi hi=>by omega),rfl⟩
 | true=>
  rw[if_neg (by rw[X5];decide)] at ah;refine WX rfl ?_;refine Z2 (ZN Qa ?_);refine call (iQQ fs FA nf cf w3 (hF.ext QU) FH hnf) ?_;rintro _ w4 ⟨rfl,Qs⟩;refine new (λw5 Qx KI QD=>?_);refine Qv QD rfl (sc rfl) (λw6 WB _ Q7=>?_);have XM:Ext w4 w6:=XT Qx QD WB;have ct:=Qs.trans XM;have XX:=QU.trans ct;have cQt:=FI.ext ct;have cQu:=hBp.ext ct;refine Qo Q7 rfl ?_;cases Ve:Y6 fs with
  | some q=>
   rw[Ve] at ah Q7;refine ri (Uj Ve) ?_;have n4:¬w4.heap.size=w.heap.size:=by have:=Qi.size;have:=Qs.size;omega
   have n41:¬w4.heap.size=w1.heap.size:=by have:=Qs.size;have:=Qi.size;omega
   have hd:=Ext.drew w6;refine XR Qa (λw'=>Mod (λi=>i=w.heap.size∨i=w1.heap.size) w6 w') 4 [(true,0),(true,1),(false,2),(false,3)] (by kernel_rfl) (Mod.of_ext _ hd) ?_;refine Xv (vs:=oO q) rfl (λw' Qb j u hj=>by rw[(Q7.mod Qb (λhh=>hh.elim n4 n41)).cell];exact hj) ?_;refine Qv (cQt.ext hd) rfl (sc rfl) (λw7 Zv _ Q3=>?_);have Xe:Mod (·=w.heap.size) w6.drew w7:=qQL Zv rfl;have cQv:Mod (λi=>i=w.heap.size∨i=w1.heap.size) w6 w7:=(Mod.of_ext _ hd).trans Xe (λi hi=>.inl (.inl hi));refine⟨cQv,?_⟩;refine Qv ((cQu.ext hd).mod Xe QX) rfl (sc rfl) (λw8 YV _ Xz=>?_);have ZL:Mod (·=w1.heap.size) w7 w8:=qQL YV rfl;have zE:=cQv.trans ZL (λi hi=>.inl (.inr hi));refine⟨zE,?_⟩;refine kt Qa rfl (.inl rfl) ?_;refine Qt (Q3.mod ZL QX.symm) rfl ?_;refine Qt Xz rfl ?_;rw[ah];exact⟨zE.ext XX (λi hi=>by rcases hi with rfl | rfl<;>omega),rfl⟩
  | none=>
  rw[Ve] at ah;refine WX rfl ?_;obtain⟨Zq,AJ⟩:=iQY Ve FH;have QZ:=hF.2;refine Z2 (ZN Qa ?_);refine xC Qa Yt rfl (λw7 Xh W8 J5=>?_);refine xC Qa bU rfl (λw8 Xn YU JD=>?_);refine new (λw9 Xx gc JI=>?_);have Vn:=Xn.trans Xx;have pL:=Xh.trans Vn;have zF:=XX.trans pL;have D8:=JD.ext Xx;have LC:=J5.ext Vn;have OU:KO (fs.map (·.1)):=λs hs=>by
   obtain⟨x,hx,rfl⟩:=Zk.1 hs;exact⟨(FH x hx).n8,(FH x hx).nl⟩
  have nrq:¬w8.heap.size=w6.heap.size:=by omega
  refine Z2 (ZN Qa ?_);refine loop Qa [40] (λi:Nat=>[.int .i64 i]) (λi w'=>Mod (·=w6.heap.size) w9 w'/\MapAt Yt w' w6.heap.size (Y3 ((fs.map (·.1)).take i) 0 [])/\i<=fs.length) (λi _=>fs.length-i) 0 rfl ⟨Mod.refl _ _,LC,Xo _⟩ ?_;rintro i QE ⟨ZA,JQ,pQN⟩;refine Qw (λc2=>?_) (λc2=>?_)
  ·have hi:i<nf:=by omega
   have pM:Ext w QE:=ZA.ext zF (λi hi=>by have:=XX.size;omega);refine Zt HW (hF.ext pM) rfl hi (λpp x hx hc=>?_);refine Jz (vs:=bg x) rfl hc ?_;refine new (λQL Jv sn Z6=>?_);refine Qv Z6 rfl (sc rfl) (λXb mX _ Vj=>?_);have mZ:Ext QE Xb:=XT Jv Z6 mX;have hd:=Ext.drew Xb;have hBr:=((JI.mod ZA nrq).ext mZ).ext hd;refine rg Qa 7 (by kernel_rfl) ?_;refine QN (v:=.map (some w6.heap.size)) (λw' Qb=>by subst Qb;rw[hBr.cell];rfl) ?_;refine QN (v:=.string (Qd x.1)) (λw' Qb=>by subst Qb;rw[(Vj.ext hd).cell];rfl) ?_;refine lI (kv:=Yt) (a:=Qd x.1) Qa rfl rfl rfl rfl rfl qQM rfl rfl rfl ((JQ.ext mZ).ext hd) (λX9 zq My dm=>?_);have KA:Mod (·=w6.heap.size) Xb.drew X9:=qQL zq rfl;refine Qj ((i+1:Nat):Int) (by show((i:Nat):Int)+1=_;omega) (by omega) ?_;refine⟨i+1,rfl,⟨(ZA.trans (Mod.of_ext (·=w6.heap.size) (mZ.trans hd)) (λi hi=>.inl hi)).trans KA (λi hi=>.inl hi),?_,by omega⟩,by show fs.length-(i+1)<fs.length-i;omega⟩;rw[Sb (s:=x.1) (by rw[aR,hx];rfl)];exact dm
  have wJ:i=fs.length:=by omega
  rw[wJ,ZS (by simp)] at JQ;have aF:Mod (·=w6.heap.size) w7 QE:=(Mod.of_ext _ Vn).trans ZA (λi hi=>.inl hi);obtain⟨w0,vL,hws,hwm,hwe⟩:=iQZ W8 aF JQ;have cQw:=JI.mod ZA nrq;have aK:=G6 OU root fi;have nr6:¬w.heap.size=w6.heap.size:=by have:=ct.size;have:=Qi.size;omega
  have nQz:¬w1.heap.size=w6.heap.size:=by have:=ct.size;have:=Qi.size;omega
  have cQx:=(cQt.ext pL).mod ZA nr6;have cQy:=(cQu.ext pL).mod ZA nQz;have pM:Ext w QE:=ZA.ext zF (λi hi=>by have:=XX.size;omega);refine Z2 (ZN Qa ?_);refine Qo cQw rfl ?_;refine xH (kv:=Yt) (a:=Qd root) (v:=.int .i64 ((Jq (fs.map (·.1)) root).getD 0:Nat)) (b:=(Jq (fs.map (·.1)) root).isSome) Qa rfl rfl rfl rfl rfl qQM rfl rfl JQ (by rw[aK];cases Jq (fs.map (·.1)) root<;>rfl) (by rw[aK];cases Jq (fs.map (·.1)) root<;>rfl) ?_;refine Z2 (ZN Qa ?_);cases KK:Jq (fs.map (·.1)) root with
  | none=>
   rw[KK] at ah;refine Xd rfl ?_;refine Qv cQx rfl (sc rfl) (λQL zB _ Z6=>?_);have Jj:Mod (·=w.heap.size) QE QL:=qQL zB rfl;refine Qv (cQy.mod Jj QX) rfl (sc rfl) (λXb mX _ Vj=>?_);have V7:Mod (·=w1.heap.size) QL Xb:=qQL mX rfl;refine kt Qa rfl (.inl rfl) ?_;refine Qt (Z6.mod V7 QX.symm) rfl ?_;refine Qt Vj rfl ?_;rw[ah];exact⟨V7.ext (Jj.ext pM (λi hi=>by omega)) (λi hi=>by omega),rfl⟩
  | some n=>
  rw[KK] at ah;simp only at ah;refine Q9 rfl ?_;have KC:n<fs.length:=by have:=lZ KK;simpa using this
  refine Z2 (xJ Qa rfl rfl rfl rfl ⟨_,_,_,_,rfl,rfl,?_⟩);refine Z2 (ZN Qa ?_);refine call (dM true QE) ?_;rintro _ QL ⟨rfl,Jv⟩
  let p:RP:=⟨w8.heap.size,w7.heap.size,w6.heap.size,NA,nn,nc,nm,FA,nf,cf,fs⟩
  let m:RM:=⟨none,0,none,0,[],.pointer none,λi=>i=w.heap.size∨i=w1.heap.size⟩
  let v:RV:=⟨0,0,0,[],⟨[],[],false⟩⟩
  have nQA:Ext w6 w0:=hwe w6 Xh (QB _);have cQz:Ext w w0:=XX.trans nQA;have hP:RPok w0 p:=⟨hN.ext cQz,Yp,hk,hF.ext cQz,AJ,hwm⟩
  have sn:=Jv.size;have nQg:=ZA.size;have Z7:Rr w0 QL QL.heap.size p m v:=by
   refine⟨vL.trans Jv,?_,?_,?_,?_,?_,QB _,.inl rfl,cQw.ext Jv,Own.nil _ _ _ _,Own.nil _ _ _ _,rfl,(λj s x hs=>by simp[v] at hs),?_,(Xo _),(Xo _),(λx hx=>by cases hx),(λ_=>.inr rfl),(λi hi=>by
    have:=ct.size;have:=Qi.size;rcases hi with hi | hi<;>rw[hi]<;>omega)⟩
   ·show w0.heap.size<=w8.heap.size;omega
   ·show w0.heap.size<=w7.heap.size;omega
   ·show w8.heap.size<QL.heap.size;omega
   ·show w7.heap.size<QL.heap.size;omega
   ·show w8.heap.size≠w7.heap.size;omega
   ·refine⟨[],(D8.mod ZA (by show¬w7.heap.size=w6.heap.size;omega)).ext Jv,by simp,λn=>by simp[XG,v]⟩
  have nQB:DgO QL (TS p m) p.nm.length ⟨none,0,0,[],1⟩ (λ_=>true):=⟨SlS.nil _,bV _ true,λad e=>by cases e⟩
  have nQC:w0.heap.size<=QL.heap.size:=(vL.trans Jv).size;have tw:∀i,RS p m i->i=w8.heap.size∨i=w7.heap.size:=λi hi=>by
   rcases hi with hi | hi | ⟨_,e,_⟩ | ⟨_,e,_⟩
   ·exact .inl hi
   ·exact .inr hi
   ·cases e
   ·cases e
  have nQD:=cQx.ext Jv;have nQE:=cQy.ext Jv;have pQO:=ct.size;have sh:=Qi.size;have keep:∀w',Mod (RS p m) QL w'->Ext w w'/\Blk w' w.heap.size 41 (Kb (.agg #[.string ByteArray.empty,.slice none 0 0]))/\Blk w' w1.heap.size 93 (oO ⟨0,0,0⟩):=λw' hm=>by
   refine⟨hm.ext (pM.trans Jv) (λi hi=>?_),nQD.mod hm (λhi=>?_),nQE.mod hm (λhi=>?_)⟩
   ·have:=XX.size;rcases tw i hi with rfl | rfl<;>omega
   ·rcases tw _ hi with e | e<;>omega
   ·rcases tw _ hi with e | e<;>omega
  refine XU (Uh w0 QL.heap.size p hP nQC 65 m v n ⟨none,0,0,[],1⟩ (λ_=>true) QL Z7 nQB KC (λhh=>by cases hh) (Xo _) (QB _)) ?_ ?_
  rotate_left
  ·rintro ch Xb ⟨q,hq,rfl,V9⟩;have hq:aq nm fs 65 [] 0 n (λ_=>true) ⟨[],[],false⟩= .error q:=hq;rw[hq] at ah;obtain⟨XB,MQ,MR⟩:=keep Xb V9;refine aX Qa rfl rfl (args:= #[.pointer (some ⟨w.heap.size,0,none⟩),.pointer (some ⟨w1.heap.size,0,none⟩)]) (by simp) ((iQU _ _ q Xb _ _ rfl rfl QX.symm MQ MR).mono ?_);rintro e u' X9 ⟨v,rfl,MS,jt⟩;refine⟨v,rfl,MS,?_⟩;refine Qt jt.1 rfl ?_;refine Qt jt.2.1 rfl ?_;rw[ah];exact⟨jt.2.2.ext XB (λi hi=>by rcases hi with rfl | rfl<;>omega),rfl⟩
  rintro _ Xb ⟨g',Yc,m',iH,X0,V9,_,_⟩;have Yc:aq nm fs 65 [] 0 n (λ_=>true) ⟨[],[],false⟩= .ok g':=Yc;rw[Yc] at ah;obtain⟨XB,MQ,MR⟩:=keep Xb V9;refine Z2 (ZN Qa ?_);have nb:=X0.nrow.2;have pQP:=X0.rb;have pQQ:=X0.top;have lh:∀i,Qk m'.BA i->QL.heap.size<=i:=λi hi=>(X0.txt.rows i hi).1
  have nprs:¬(Qk m'.BA w8.heap.size∨w8.heap.size=w.heap.size∨w8.heap.size=w1.heap.size):=λhh=>by
   rcases hh with hh | hh | hh
   ·exact nb hh
   ·omega
   ·omega
  have hd:=Ext.drew Xb;refine XR Qa (Mod (λi=>Qk m'.BA i∨i=w.heap.size∨i=w1.heap.size) Xb) 12 [(true,0),(true,1),(true,2),(true,4),(true,5),(true,6),(true,7),(true,9),(false,3),(true,8),(false,10),(false,11)] (by kernel_rfl) (Mod.of_ext _ hd) ?_;refine QN (v:=.slice m'.OA g'.sg.length m'.oc) (λw' Qb=>by rw[(X0.blk.mod Qb nprs).cell];rfl) ?_;have Wd:=X0.tl;refine call (iQa QL.heap.size w8.heap.size 157 5 (mj p m' {v with g:=g'}) m'.BA m'.bc g'.tx Xb.drew (X0.blk.ext hd) rfl (X0.txt.ext hd) X0.b8 (by simp only at Wd;omega)) ?_;rintro _ X9 ⟨rfl,dm⟩;have KA:Mod (λi=>Qk m'.BA i∨i=w.heap.size∨i=w1.heap.size) Xb X9:=(Mod.of_ext _ hd).trans dm (λi hi=>.inl (.inl hi));refine⟨KA,?_⟩;have nsB:¬Qk m'.BA w.heap.size:=λhh=>by have:=lh _ hh;omega
  have npB:¬Qk m'.BA w1.heap.size:=λhh=>by have:=lh _ hh;omega
  refine Qv ((MQ.ext hd).mod dm nsB) rfl (sc rfl) (λZu ga _ JV=>?_);have Vk:Mod (·=w.heap.size) X9 Zu:=qQL ga rfl;have cQA:=KA.trans Vk (λi hi=>.inl (.inr (.inl hi)));refine⟨cQA,?_⟩;refine Qv (((MR.ext hd).mod dm npB).mod Vk QX) rfl (sc rfl) (λJ8 MT _ pE=>?_);have cQB:Mod (·=w1.heap.size) Zu J8:=qQL MT rfl;have D9:=cQA.trans cQB (λi hi=>.inl (.inr (.inr hi)));refine⟨D9,?_⟩;have MU:=JV.mod cQB QX.symm;refine ZN Qa ?_;refine gV Qa rfl rfl (.inl rfl) (args:= #[.pointer (some ⟨w.heap.size,0,none⟩),.pointer (some ⟨w1.heap.size,0,none⟩)]) (by simp) ((iQV _ _ J8).mono ?_);rintro e u' ac ⟨u,rfl,MV,Vo⟩;refine⟨u,rfl,MV,?_⟩;refine Qt (MU.ext Vo) rfl ?_;refine Qt (pE.ext Vo) rfl ?_;rw[ah];have JJ:Ext w J8:=D9.ext XB (λi hi=>by
   rcases hi with hi | rfl | rfl
   ·have:=lh _ hi;omega
   ·exact QB _
   ·omega)
  have nO:∀i,Qk m'.OA i->¬(Qk m'.BA i∨i=w.heap.size∨i=w1.heap.size):=λi hi hh=>by
   have:=(X0.out.rows i hi).1;rcases hh with hh | rfl | rfl
   ·exact X0.out.apart X0.txt (by decide) hi hh
   ·omega
   ·omega
  refine⟨JJ.trans Vo,⟨X0.b8,X0.tl,X0.sl⟩,m'.OA,m'.oc,m'.L,rfl,SgIn.ext ⟨(X0.out.mod D9 nO).sl,rfl,X0.len,λj s x h1 h2=>?_⟩ Vo⟩;have AQ:=X0.dgs j s x h1 h2;refine⟨SB.modo AQ.sb D9 (λad e h0 hh=>?_),AQ.st⟩;rcases hh with hh | hh | hh
  ·exact AQ.off ad e h0 (.inl (.inr (.inr (.inr hh))))
  ·exact AQ.off ad e h0 (.inr (by rw[iH];exact .inl hh))
  ·exact AQ.off ad e h0 (.inr (by rw[iH];exact .inr hh))
end
def Yh (c:Nat):Nat->Bool:=λi=>decide (c/2^i % 2=1)
theorem Uk (x:Nat)(hx:x<18446744073709551616):IntKind.u64.wrap ((BitVec.ofInt 64 (x:Int) &&& BitVec.ofInt 64 1).toNat)=((x % 2:Nat):Int):=by
 have e:(BitVec.ofInt 64 (x:Int) &&& BitVec.ofInt 64 1).toNat=x % 2:=by
  rw[BitVec.ofInt_natCast,show BitVec.ofInt 64 1=BitVec.ofNat 64 1 from rfl,BitVec.toNat_and,BitVec.toNat_ofNat,BitVec.toNat_ofNat];rw[jY (by omega),show 1 % 2^64=1 by decide,Nat.and_one_is_mod]
 rw[e];rcases(show x % 2=0∨x % 2=1 by omega)with h | h<;>rw[h]<;>decide
theorem H6 (A:Option Addr)(n c:Nat)(nd:List Br)(root:Int)(WM:Nat)(hcf:WM<=18446744073709551615)(w:World)(h:SB w A n c nd)(hc:XC nd root=0):
  Fn Tryz.prog 18 [Xm A n c root,.int .u64 WM] w (λv w'=>v= .bool (ev nd root (Yh WM))/\Ext w w'):=by
 have QZ:=h.2;obtain⟨Wf,hv⟩:=fL.1 hc;refine QJ (c:={c18 with cuts:=[]}) Qa Tryz.func18 rfl rfl rfl ?_;refine new (λw1 Qe Q6 Qh=>?_);refine Qt Qh rfl ?_;refine call (uG A n c nd root w1 (h.ext Qe)) ?_;rintro _ w2 ⟨rfl,Qg⟩;have QT:=Qe.trans Qg;have Qy:=Qh.ext Qg;refine WX hc ?_;refine Qo Qy rfl ?_;refine loop Qa [5] (λs:Int=>[.int .i64 s]) (λs w'=>Ext w2 w'/\0<=s/\s<n+2/\ev nd s (Yh WM)=ev nd root (Yh WM)) (λs _=>s.toNat) root rfl ⟨Ext.refl _,hv.2.1,by have:=hv.2.2.1;omega,rfl⟩ ?_;rintro s w3 ⟨Qi,s0,s1,hs⟩;have QU:=QT.trans Qi;refine Qw (λh1=>?_) (λh1=>?_)
 ·refine Qz (Qy.ext Qi) rfl ?_;refine Qj (((s-2).toNat:Nat):Int) (by omega) (by omega) ?_;refine Zt W3 (h.ext QU) rfl (by omega) (λp x hx AR=>?_);refine Jz (vs:=x.cells) rfl AR ?_;refine new (λw4 Qs KR QR=>?_);refine Qv QR rfl (sc rfl) (λw5 JE KI QD=>?_);have K8:Ext w3 w5:=XT Qs QR JE;obtain⟨b1,b2,b3,b4,b5,b6,b7,b8,b9,bz⟩:=hv.1 _ _ hx;have bI:=cO hv.wf (n:=s) (e:=Yh WM) (by omega) hx;refine Qz QD rfl ?_;refine xw x.v.toNat (2^x.v.toNat) b1 (by show min x.v.toNat 64=_;omega) rfl ?_;have Xa:WM/2^x.v.toNat<18446744073709551616:=Nat.lt_of_le_of_lt (Nat.div_le_self _ _) (by omega);refine norm (m:=((WM/2^x.v.toNat % 2:Nat):Int)) (Uk _ Xa) ?_;refine X8 (λh2=>?_) (λh2=>?_)
  ·have hb:Yh WM x.v.toNat=true:=Zx (by omega);rw[hb,Qf rfl] at bI;refine Qo QD rfl ?_;exact⟨x.h,rfl,⟨Qi.trans K8,b5,by omega,by rw[<-bI];exact hs⟩,by show x.h.toNat<s.toNat;omega⟩
  ·have hb:Yh WM x.v.toNat=false:=Zr (by omega);rw[hb,if_neg (by decide)] at bI;refine Qo QD rfl ?_;exact⟨x.l,rfl,⟨Qi.trans K8,b3,by omega,by rw[<-bI];exact hs⟩,by show x.l.toNat<s.toNat;omega⟩
 ·refine⟨?_,QU⟩;rw[<-hs,JX (by omega)]<;>rfl
def bvL (l:List Bool):List Value:=l.map Value.bool
structure FhI (w0:World) (g:Nat) (f:List Fz) (e:Nat->Bool) (n s:Nat) (L:List Bool) (w:World):Prop where
 m:Mod (·=g) w0 w
 blk:Blk w g 4 (bvL L)
 len:L.length=n
 got:∀j,j<s->∃t,RepF f t j/\L[j]? =some (evF t e)
 rest:∀j,s<=j->j<n->L[j]? =some false
theorem FhI.ext {w0 w w':World}{g:Nat}{f:List Fz}{e:Nat->Bool}{n s:Nat}{L:List Bool}(h:FhI w0 g f e n s L w)(k1:Ext w w'):FhI w0 g f e n s L w':=
 ⟨h.m.trans (Mod.of_ext (·=g) k1) (λ_ hi=>.inl hi),h.blk.ext k1,h.len,h.got,h.rest⟩
def CV (l:List Nat)(k:Nat):Bool:=decide (k/8<l.length)&&decide ((l[k/8]?.getD 0)/2^(k % 8) % 2=1)
def cT (l:List Nat):Nat->Nat->Nat->(Nat->Bool)->Bool
 | 0,_,k,_=>CV l k
 | d+1,v,k,e=>if e v then cT l d (v+1) (k+2^v) e else cT l d (v+1) k e
theorem CW {nd:List Br}(hw:aY nd){k:Nat}(hk:VIn k nd)(h0:∀b∈nd,0<=b.v){e e':Nat->Bool}(h:∀i,i<k->e i=e' i):∀(m:Nat)(n:Int),n.toNat<m->n<nd.length+2->ev nd n e=ev nd n e'
 | 0,n,hm,_=>by omega
 | m+1,n,hm,hn=>by
  by_cases h2:n<2
  ·rw[JX h2,JX h2]
  obtain⟨b,hb⟩:=W5 h2 hn;obtain⟨b3,b4,b5,b6⟩:=hw _ _ hb;have nH:=Xl hb;have hv:=hk b nH;have gf:=h0 b nH;rw[cO hw h2 hb,cO hw h2 hb,CW hw hk h0 h m b.h (by omega) (by omega),CW hw hk h0 h m b.l (by omega) (by omega),h b.v.toNat (by omega)]
theorem Set1.ext {k:Nat}{nd:List Br}{r:Int}{o:(Nat->Bool)->Bool}(hS:Set1 k nd r o){e e':Nat->Bool}(h:∀i,i<k->e i=e' i):o e=o e':=by
 rw[<-hS.mean e,<-hS.mean e'];refine CW hS.vd.wf hS.vin (λb hb=>?_) h (r.toNat+1) r (by omega) hS.vd.2.2.1;obtain⟨j,hj,rfl⟩:=F9.1 hb;exact(hS.vd.1 j _ (Xu hj)).1
end
section
def i9 (w:World)(k:Nat)(o:(Nat->Bool)->Bool)(v:Value)(w':World):Prop:=∃A n c nd r,v=Xm A n c r/\Ext w w'/\SB w' A n c nd/\Set1 k nd r o/\∀i,Qk A i->w.heap.size<=i
def yq (w:World)(k:Nat)(o:(Nat->Bool)->Bool)(v:Value)(w':World):Prop:=∃A n c nd r,v= .tuple #[Xm A n c r,.int .i64 0]/\Ext w w'/\SB w' A n c nd/\Set1 k nd r o/\∀i,Qk A i->w.heap.size<=i
theorem yr (b:Bool)(w:World):Fn Tryz.prog 29 [.bool b] w (λv w'=>v=Xm none 0 0 (if b then 1 else 0)/\Ext w w'):=by
 refine QJ (c:={c29 with cuts:=[]}) Qa Tryz.func29 rfl rfl rfl ?_;refine new (λw1 Qe Q6 Qh=>?_);cases b with
 | true=>
  refine Xd rfl ?_;refine Qv Qh rfl (sc rfl) (λw3 Jc _ Qu=>?_);refine Qt Qu rfl ?_;exact⟨rfl,XT Qe Qh Jc⟩
 | false=>
  refine Q9 rfl ?_;refine Qv Qh rfl (sc rfl) (λw3 Jc _ Qu=>?_);refine Qt Qu rfl ?_;exact⟨rfl,XT Qe Qh Jc⟩
section
variable {k:Nat} (hk:k<=12)
include hk
theorem H7 {a b:List Br}{ra rb:Int}{o o':(Nat->Bool)->Bool}(A:Option Addr)(n c:Nat)(B:Option Addr)(m d:Nat)(op:Int)(ho:op≠3/\op≠4)(w:World)(h:SB w A n c a)(h':SB w B m d b)(s:Set1 k a ra o)(s':Set1 k b rb o'):
  Fn Tryz.prog 58 [Xm A n c ra,Xm B m d rb,.int .i64 op] w (i9 w k (λe=>KP op (o e) (o' e))):=by
 have l1:=s.len hk;have l2:=s'.len hk;have Vc:=h.2;have ew:=h'.2;have hb2:=Ho s.vd s'.vd op;have qg:(a.length+2)*(b.length+2)<=4098*4098:=Nat.mul_le_mul (by omega) (by omega);refine(gQ6 A n c a ra B m d b rb op w h h' s.vd.dok s'.vd.dok s.vd.2.1 (by have:=s.vd.2.2.1;omega) s'.vd.2.1 (by have:=s'.vd.2.2.1;omega) (by omega) (by omega) (by omega) (by omega) ho).mono ?_;rintro v w' ⟨OA,q,oc,rfl,hE,hO,hR⟩;exact⟨OA,q,oc,_,_,rfl,hE,hO,fN s s' op,hR⟩
theorem iQ0 {a b:List Br}{ra rb:Int}{o o':(Nat->Bool)->Bool}(A:Option Addr)(n c:Nat)(B:Option Addr)(m d:Nat)(w:World)(h:SB w A n c a)(h':SB w B m d b)(s:Set1 k a ra o)(s':Set1 k b rb o'):
  Fn Tryz.prog 66 [Xm A n c ra,Xm B m d rb] w (i9 w k (λe=>KP 1 (o e) (o' e))):=by
 refine QJ (c:={c66 with cuts:=[]}) Qa Tryz.func66 rfl rfl rfl ?_;refine new (λw1 Qe Q6 Qh=>?_);refine new (λw2 Qg Ze Qy=>?_);refine new (λw3 Qi Jr Qu=>?_);have QU:=(Qe.trans Qg).trans Qi;refine Qt ((Qh.ext Qg).ext Qi) rfl ?_;refine Qt (Qy.ext Qi) rfl ?_;refine call (H7 hk A n c B m d 1 (by decide) w3 (h.ext QU) (h'.ext QU) s s') ?_;rintro _ w4 ⟨PA,q,pc,nd,r,rfl,Qs,fX,aD,df⟩;refine Qv (Qu.ext Qs) rfl (sc rfl) (λw5 JE _ QD=>?_);have Jt:Mod (·=w2.heap.size) w4 w5:=qQL JE rfl;refine Qt QD rfl ?_;exact⟨PA,q,pc,nd,r,rfl,Jt.ext (QU.trans Qs) (λi hi=>by omega),fX.mod Jt (λi hi e=>by have:=df i hi;omega),aD,λi hi=>by have:=df i hi;omega⟩
theorem Ul {a b:List Br}{ra rb:Int}{o o':(Nat->Bool)->Bool}(A:Option Addr)(n c:Nat)(B:Option Addr)(m d:Nat)(w:World)(h:SB w A n c a)(h':SB w B m d b)(s:Set1 k a ra o)(s':Set1 k b rb o'):
  Fn Tryz.prog 22 [Xm A n c ra,Xm B m d rb] w (i9 w k (λe=>KP 0 (o e) (o' e))):=by
 refine QJ (c:={c22 with cuts:=[]}) Qa Tryz.func22 rfl rfl rfl ?_;refine new (λw1 Qe Q6 Qh=>?_);refine new (λw2 Qg Ze Qy=>?_);refine new (λw3 Qi Jr Qu=>?_);have QU:=(Qe.trans Qg).trans Qi;refine Qt ((Qh.ext Qg).ext Qi) rfl ?_;refine Qt (Qy.ext Qi) rfl ?_;refine call (H7 hk A n c B m d 0 (by decide) w3 (h.ext QU) (h'.ext QU) s s') ?_;rintro _ w4 ⟨PA,q,pc,nd,r,rfl,Qs,fX,aD,df⟩;refine Qv (Qu.ext Qs) rfl (sc rfl) (λw5 JE _ QD=>?_);have Jt:Mod (·=w2.heap.size) w4 w5:=qQL JE rfl;refine Qt QD rfl ?_;exact⟨PA,q,pc,nd,r,rfl,Jt.ext (QU.trans Qs) (λi hi=>by omega),fX.mod Jt (λi hi e=>by have:=df i hi;omega),aD,λi hi=>by have:=df i hi;omega⟩
theorem iQ1 {a:List Br}{ra:Int}{o:(Nat->Bool)->Bool}(A:Option Addr)(n c:Nat)(w:World)(h:SB w A n c a)(s:Set1 k a ra o):
  Fn Tryz.prog 59 [Xm A n c ra] w (i9 w k (λe=> !o e)):=by
 refine QJ (c:={c59 with cuts:=[]}) Qa Tryz.func59 rfl rfl rfl ?_;refine new (λw1 Qe Q6 Qh=>?_);refine new (λw2 Qg Ze Qy=>?_);have QT:=Qe.trans Qg;have Vj:=Qh.ext Qg;refine XR Qa (Ext w2) 3 [(true,0),(false,1),(false,2)] (by kernel_rfl) (Ext.drew w2) ?_;refine Xv (vs:=[.slice A n c,.int .i64 ra]) rfl (λw' Qb j v hj=>by have:=(Vj.ext Qb).cell j;rw[this];exact hj) ?_;refine call (yr true _) ?_;rintro _ w3 ⟨rfl,Qi⟩;have VT:=(Ext.drew w2).trans Qi;refine⟨VT,?_⟩;have s1:Set1 k [] 1 (λ_=>true):=bV k true;refine call (H7 hk A n c none 0 0 2 (by decide) w3 (h.ext (QT.trans VT)) (SlS.nil _) s s1) ?_;rintro _ w4 ⟨PA,q,pc,nd,r,rfl,Qs,fX,aD,df⟩;have Jh:=VT.trans Qs;refine⟨Jh,?_⟩;have hz:=(QT.trans VT).size;refine Qv (Qy.ext Jh) rfl (sc rfl) (λw5 JE _ QD=>?_);have Jt:Mod (·=w1.heap.size) w4 w5:=qQL JE rfl;refine Qt QD rfl ?_;have nQF:=VT.size;exact⟨PA,q,pc,nd,r,rfl,Jt.ext (QT.trans Jh) (λi hi=>by omega),fX.mod Jt (λi hi e=>by have:=df i hi;omega),aD.congr (λe=>by cases o e<;>rfl),λi hi=>by have:=df i hi;omega⟩
theorem iQ2 {a b:List Br}{ra rb:Int}{o o':(Nat->Bool)->Bool}(A:Option Addr)(n c:Nat)(B:Option Addr)(m d:Nat)(w:World)(h:SB w A n c a)(h':SB w B m d b)(s:Set1 k a ra o)(s':Set1 k b rb o'):
  Fn Tryz.prog 23 [Xm A n c ra,Xm B m d rb] w (i9 w k (λe=>o e && !o' e)):=by
 refine QJ (c:={c23 with cuts:=[]}) Qa Tryz.func23 rfl rfl rfl ?_;refine new (λw1 Qe Q6 Qh=>?_);refine new (λw2 Qg Ze Qy=>?_);refine new (λw3 Qi Jr Qu=>?_);have QU:=(Qe.trans Qg).trans Qi;have Vw:=(Qh.ext Qg).ext Qi;have pu:=Qy.ext Qi;refine XR Qa (Ext w3) 4 [(true,0),(true,1),(false,2),(false,3)] (by kernel_rfl) (Ext.drew w3) ?_;refine Xv (vs:=[.slice A n c,.int .i64 ra]) rfl (λw' Qb j v hj=>by have:=(Vw.ext Qb).cell j;rw[this];exact hj) ?_;refine Xv (vs:=[.slice B m d,.int .i64 rb]) rfl (λw' Qb j v hj=>by have:=(pu.ext Qb).cell j;rw[this];exact hj) ?_;refine call (iQ1 hk B m d _ (h'.ext (QU.trans (Ext.drew w3))) s') ?_;rintro _ w4 ⟨QA,q1,qc,nd1,r1,rfl,Qs,hQ4,hT4,_⟩;have Vl:=(Ext.drew w3).trans Qs;refine⟨Vl,?_⟩;refine call (Ul hk A n c QA q1 qc w4 (h.ext (QU.trans Vl)) hQ4 s hT4) ?_;rintro _ w5 ⟨PA,q,pc,nd,r,rfl,Qx,ss,js,cr⟩;have K8:=Vl.trans Qx;refine⟨K8,?_⟩;have pQR:=Vl.size;refine Qv (Qu.ext K8) rfl (sc rfl) (λw6 WB _ Q7=>?_);have Vv:Mod (·=w2.heap.size) w5 w6:=qQL WB rfl;refine Qt Q7 rfl ?_;exact⟨PA,q,pc,nd,r,rfl,Vv.ext (QU.trans K8) (λi hi=>by omega),ss.mod Vv (λi hi e=>by have:=cr i hi;omega),js.congr (λe=>by simp[KP]),λi hi=>by have:=cr i hi;omega⟩
end
theorem H8 {k v:Nat}(hv:v<k)(hk:k<=64):Set1 k [⟨(v:Nat),0,1⟩] 2 (λe=>e v):=⟨Ct (by omega) (by omega),λb hb=>by simp only[QO] at hb;subst hb;show((v:Nat):Int)<k;omega,λe=>by
 rw[cO (Ct (k:=((v:Nat):Int)) (by omega) (by omega)).wf (by decide) (b:=⟨(v:Nat),0,1⟩) rfl,JX (by simp),JX (by simp)];cases h:e v<;>simp[h]⟩
end
noncomputable section
section
structure Sx where
 f:Int
 t:Int
 fl:Int
 at_:Int
 x:DV
def Sx.cells (y:Sx):List Value:=[.int .i64 y.f,.int .i64 y.t,.int .i64 y.fl,.int .i64 y.at_,.slice y.x.A y.x.n y.x.c,.int .i64 y.x.r]
theorem oP (y:Sx):y.cells.length=6:=rfl
structure SX (w:World) (A:Option Addr) (n c:Nat) (L:List Sx):Prop where
 sl:SlS Sx.cells 6 w A n c L
 dg:∀y∈L,SB w y.x.A y.x.n y.x.c y.x.nd
theorem SX.ext {w w':World}{A:Option Addr}{n c:Nat}{L:List Sx}(h:SX w A n c L)(k:Ext w w'):SX w' A n c L:=⟨h.sl.ext k,λy hy=>(h.dg y hy).ext k⟩
def H9 (tx:List Nat)(at_:Int)(y:Sx):Prop:=y.f=at_/\at_<y.t/\y.t<=tx.length/\tx[(y.t-1).toNat]? =some 10/\XC y.x.nd y.x.r=0/\0<=y.fl/\0<=y.at_/\y.at_<=1048576-(y.t-y.f)
def g9 (tx:List Nat):Int->List Sx->Prop
 | at_,[]=>at_=tx.length
 | at_,y::L=>H9 tx at_ y/\g9 tx y.t L
open Classical in
def ja (tx:List Nat)(L:List Sx):Int:=if 1048576<tx.length∨65536<L.length then 2 else if g9 tx 0 L then 0 else 70
theorem Um {tx:List Nat}{L:List Sx}:ja tx L=0↔tx.length<=1048576/\L.length<=65536/\g9 tx 0 L:=by
 unfold ja;by_cases h1:1048576<tx.length∨65536<L.length
 ·rw[Qf h1];constructor
  ·intro h;cases h
  ·rintro⟨a,b,_⟩;omega
 ·rw[if_neg h1];by_cases h2:g9 tx 0 L
  ·rw[Qf h2];exact⟨λ_=>⟨by omega,by omega,h2⟩,λ_=>rfl⟩
  ·rw[if_neg h2];constructor
   ·intro h;cases h
   ·rintro⟨_,_,h⟩;exact Xc h h2
structure ChkI (w0:World) (tx:List Nat) (L:List Sx) (i:Nat) (at_:Int) (w:World):Prop where
 e:Ext w0 w
 le:i<=L.length
 a0:0<=at_
 al:at_<=tx.length
 rs:g9 tx 0 L↔g9 tx at_ (L.drop i)
theorem iQ3 (tx:List Nat)(A:Option Addr)(n c:Nat)(L:List Sx)(w:World)(h:SX w A n c L)(h8:∀x∈tx,x<256):
  Fn Tryz.prog 54 [rL tx A n c] w (λu w'=>u= .int .i64 (ja tx L)/\Ext w w'):=by
 have QZ:=h.sl.2;have dt:=Q8 tx;refine QJ (c:={c54 with cuts:=[]}) Qa Tryz.func54 rfl rfl rfl ?_;refine new (λw1 Qe Q6 Qh=>?_);refine Qz Qh rfl ?_;refine Qw (λc1=>?_) (λc1=>?_)
 ·exact⟨by unfold ja;rw[Qf (.inl (by omega))],Qe⟩
 refine Qo Qh rfl ?_;refine Qw (λc2=>?_) (λc2=>?_)
 ·exact⟨by unfold ja;rw[Qf (.inr (by omega))],Qe⟩
 have XN:ja tx L=open Classical in if g9 tx 0 L then 0 else 70:=by unfold ja;rw[if_neg (by omega)]
 refine Qo Qh rfl ?_;refine loop Qa [19,3] (λs:Nat×Int=>[.int .i64 s.1,.int .i64 s.2]) (λs w'=>ChkI w1 tx L s.1 s.2 w') (λs _=>L.length-s.1) (0,0) rfl ⟨Ext.refl _,Xo _,j0 _,by omega,Iff.rfl⟩ ?_;rintro⟨i,at_⟩ w2 hI;have QT:=Qe.trans hI.e;have a0:=hI.a0;have al:=hI.al;simp only at a0 al;refine Qw (λc3=>?_) (λc3=>?_)
 ·have hi:i<n:=by omega
  refine Zt oP (h.sl.ext QT) rfl hi (λp y hy hc=>?_);refine Jz (vs:=y.cells) rfl hc ?_;refine new (λw3 Qi Jr Qu=>?_);refine Qv Qu rfl (sc rfl) (λw4 aC _ QR=>?_);have Jh:Ext w2 w4:=XT Qi Qu aC;have Xp:=QT.trans Jh;have vJ:=Qh.ext (hI.e.trans Jh);have aO:L.drop i=y::L.drop (i+1):=by
   rw[am (by omega)];congr 1;exact Option.some.inj ((Xu (by omega)).symm.trans hy)
  have QH:=hI.rs;simp only at QH;rw[aO,g9] at QH;have bad:¬H9 tx at_ y->∀w',Ext w w'->(Value.int .i64 70= .int .i64 (ja tx L))/\Ext w w':=λXi w' hE=>⟨by rw[XN,if_neg (λhh=>Xi (QH.1 hh).1)],hE⟩
  refine Qz QR rfl ?_;refine WW (λd1=>?_) (λd1=>?_)
  ·exact bad (λhb=>d1 hb.1) _ Xp
  refine Qo QR rfl ?_;refine Qw (λd2=>?_) (λd2=>?_)
  ·exact bad (λhb=>by have:=hb.2.1;omega) _ Xp
  refine Qo QR rfl ?_;refine Qz vJ rfl ?_;refine Qw (λd3=>?_) (λd3=>?_)
  ·exact bad (λhb=>by have:=hb.2.2.1;omega) _ Xp
  have hyt:y.t<=tx.length:=by omega
  refine Qz vJ rfl ?_;refine Qo QR rfl ?_;have hj:(y.t-1).toNat<tx.length:=by omega
  refine Qj (((y.t-1).toNat:Nat):Int) (by omega) (by omega) ?_;refine dE (by rw[dt];exact hj) (λb hb _=>?_);rw[Ws h8] at hb;refine WW (λd4=>?_) (λd4=>?_)
  ·exact bad (λhh=>by have:=hh.2.2.2.1;rw[hb] at this;exact d4 (by have:=Option.some.inj this;omega)) _ Xp
  have m7:tx[(y.t-1).toNat]? =some 10:=by rw[hb];congr 1;omega
  refine Jz (vs:=[.slice y.x.A y.x.n y.x.c,.int .i64 y.x.r]) rfl (λj v hj=>by rw[Addr.add_add];exact(QR.cell _).trans (by match j,hj with | 0,hj=>exact hj | 1,hj=>exact hj)) ?_;refine call (uG y.x.A y.x.n y.x.c y.x.nd y.x.r w4 ((h.dg y (Xl hy)).ext Xp)) ?_;rintro _ w5 ⟨rfl,Qx⟩;have JK:=Xp.trans Qx;have QD:=QR.ext Qx;refine WW (λd5=>?_) (λd5=>?_)
  ·exact bad (λhh=>d5 hh.2.2.2.2.1) _ JK
  refine Qo QD rfl ?_;refine Qw (λd6=>?_) (λd6=>?_)
  ·exact bad (λhh=>by have:=hh.2.2.2.2.2.1;omega) _ JK
  refine Qo QD rfl ?_;refine Qw (λd7=>?_) (λd7=>?_)
  ·exact bad (λhh=>by have:=hh.2.2.2.2.2.2.1;omega) _ JK
  refine Qo QD rfl ?_;refine Qo QD rfl ?_;refine Qz QD rfl ?_;refine Qj (y.t-y.f) rfl (by omega) ?_;refine Qj (1048576-(y.t-y.f)) rfl (by omega) ?_;refine Qw (λd8=>?_) (λd8=>?_)
  ·exact bad (λhh=>by have:=hh.2.2.2.2.2.2.2;omega) _ JK
  refine Qo QD rfl ?_;refine Qj ((i+1:Nat):Int) (by show((i:Nat):Int)+1=_;omega) (by omega) ?_;have X5:H9 tx at_ y:=⟨d1,by omega,hyt,m7,d5,by omega,by omega,by omega⟩
  exact⟨(i+1,y.t),rfl,⟨hI.e.trans (Jh.trans Qx),by show i+1<=L.length;omega,by show 0<=y.t;omega,hyt,by simp only;rw[QH];exact⟨λhh=>hh.2,λhh=>⟨X5,hh⟩⟩⟩,by show L.length-(i+1)<L.length-i;omega⟩
 ·have aO:L.drop i=[]:=nR (by omega);have QH:=hI.rs;simp only at QH;rw[aO,g9] at QH;refine Qz (Qh.ext hI.e) rfl ?_;refine Qw (λd1=>?_) (λd1=>?_)
  ·exact⟨by rw[XN,if_neg (λhh=>by have:=QH.1 hh;omega)],QT⟩
  ·exact⟨by rw[XN,Qf (QH.2 (by omega))],QT⟩
end
section
structure SegB (tx:List Nat) (y:Sx):Prop where
 f0:0<=y.f
 ft:y.f<y.t
 tl:y.t<=tx.length
 ck:XC y.x.nd y.x.r=0
 l0:0<=y.fl
 a0:0<=y.at_
 a1:y.at_<=1048576
theorem Un {tx:List Nat}:∀{L:List Sx}{a:Int},0<=a->g9 tx a L->∀y∈L,SegB tx y
 | [],_,_,_,y,hy=>by cases hy
 | z::L,a,ha,h,y,hy=>by
  obtain⟨⟨h1,h2,h3,h4,h5,h6,h7,h8⟩,hr⟩:=h;rcases QY.1 hy with rfl | hy
  ·exact⟨by omega,by omega,h3,h5,h6,h7,by omega⟩
  ·exact Un (by omega) hr y hy
def az (L:List Sx):Int:=(L.map (λy=>y.t-y.f)).sum
theorem vg (y:Sx)(L:List Sx):az (y::L)=(y.t-y.f)+az L:=by simp[az]
theorem Uo {tx:List Nat}:∀{L:List Sx},(∀y∈L,SegB tx y)->0<=az L
 | [],_=>by simp[az]
 | y::L,h=>by
  rw[vg];have:=(h y (by simp)).ft;have:0<=az L:=Uo (tx:=tx) (λz hz=>h z (j5 _ hz));omega
theorem Uq {tx:List Nat}:∀{L:List Sx}{a:Int},g9 tx a L->az L=tx.length-a
 | [],a,h=>by have:a=tx.length:=h;simp[az,this]
 | y::L,a,h=>by
  rw[vg,Uq h.2,h.1.1];omega
theorem Ur {tx:List Nat}(q:Sx->Bool):∀{L:List Sx},(∀y∈L,SegB tx y)->az (L.filter q)<=az L
 | [],_=>by simp[az]
 | y::L,h=>by
  have h1:=(h y (by simp)).ft;have h2:az (L.filter q)<=az L:=Ur (tx:=tx) q (λz hz=>h z (j5 _ hz));rw[fD];split
  ·rw[vg,vg];omega
  ·rw[vg];omega
def yu (c:Nat)(y:Sx):Bool:=ev y.x.nd y.x.r (Yh c)
def VN (c:Nat)(L:List Sx):List Sx:=L.filter (yu c)
def cU (tx:List Nat)(y:Sx):List Nat:=(tx.take y.t.toNat).drop y.f.toNat
def CX (tx:List Nat)(L:List Sx)(c:Nat):List Nat:=if ja tx L=0 then(VN c L).flatMap (cU tx)else []
theorem Ia {α:Type}{l:List α}{i:Nat}{x:α}(h:l[i]? =some x):l.drop i=x::l.drop (i+1):=by
 obtain⟨h1,rfl⟩:=Jd.1 h;exact am h1
theorem iQ4 (y:Sx):∀u∈y.cells,JS u=true:=by intro u hu;simp[Sx.cells] at hu;rcases hu with rfl | rfl | rfl | rfl | rfl | rfl<;>rfl
structure SelI (w0:World) (base:Nat) (c:Nat) (L:List Sx) (i:Nat) (O:Option Addr) (oc:Nat) (w:World):Prop where
 e:Ext w0 w
 le:i<=L.length
 own:Own w base 48 6 O (VN c (L.take i)).length oc ((VN c (L.take i)).flatMap Sx.cells)
theorem iQ5 (tx:List Nat)(A:Option Addr)(n cp:Nat)(L:List Sx)(c:Nat)(w:World)(h:SX w A n cp L)(hc:c<=18446744073709551615)(hv:∀y∈L,XC y.x.nd y.x.r=0)(hn:n<=65536):
  Fn Tryz.prog 55 [rL tx A n cp,.int .u64 c] w (λu w'=>∃O oc,u= .slice O (VN c L).length oc/\Ext w w'/\SX w' O (VN c L).length oc (VN c L)/\Own w' w.heap.size 48 6 O (VN c L).length oc ((VN c L).flatMap Sx.cells)):=by
 have QZ:=h.sl.2;refine QJ (c:={c55 with cuts:=[]}) Qa Tryz.func55 rfl rfl rfl ?_;refine new (λw1 Qe Q6 Qh=>?_);refine Qo Qh rfl ?_;refine loop Qa [11,5] (λs:Nat×Option Addr×Nat=>[.int .i64 s.1,.slice s.2.1 (VN c (L.take s.1)).length s.2.2]) (λs w'=>SelI w1 w1.heap.size c L s.1 s.2.1 s.2.2 w') (λs _=>L.length-s.1) (0,none,0) rfl ⟨Ext.refl _,Xo _,Own.nil _ _ _ _⟩ ?_;rintro⟨i,O,oc⟩ w2 hI;have QT:=Qe.trans hI.e;have ho:=hI.own;have ZF:=hI.le;simp only at ho ZF;refine Qw (λc3=>?_) (λc3=>?_)
 ·have hi:i<n:=by omega
  refine Zt oP (h.sl.ext QT) rfl hi (λp y hy cA=>?_);have KX:L.take (i+1)=L.take i++ [y]:=by rw[VF,hy]<;>rfl
  refine Jz (vs:=y.cells) rfl cA ?_;refine new (λw3 Qi Jr Qu=>?_);refine Qv Qu rfl (sc rfl) (λw4 aC _ QR=>?_);have Jh:Ext w2 w4:=XT Qi Qu aC;have Xp:=QT.trans Jh;refine Jz (vs:=[.slice y.x.A y.x.n y.x.c,.int .i64 y.x.r]) rfl (λj v hj=>by rw[Addr.add_add];exact(QR.cell _).trans (by match j,hj with | 0,hj=>exact hj | 1,hj=>exact hj)) ?_;have FJ:=Xl hy;refine call (H6 y.x.A y.x.n y.x.c y.x.nd y.x.r c hc w4 ((h.dg y FJ).ext Xp) (hv y FJ)) ?_;rintro _ w5 ⟨rfl,Qx⟩;have Ym:=Jh.trans Qx;have QD:=QR.ext Qx;refine YK (λd1=>?_) (λd1=>?_)
  ·have d1:yu c y=true:=d1;have jO:VN c (L.take (i+1))=VN c (L.take i)++ [y]:=by rw[KX];unfold VN;rw[qO];simp[d1]
   refine Qt QD rfl ?_;refine Xg Qa [y.cells] rfl rfl rfl rfl rfl ⟨rfl,rfl,⟨⟩⟩ rfl (λcs hh=>by simp only[QO] at hh;subst hh;rfl) rfl (by decide) (by decide) ?_;intro w6 QQ bu Q7;have sH:=Ym.trans QQ;have yT:Sl w6 6 (some ⟨w5.heap.size,0,none⟩) 1 1 y.cells:=Sl.own (sz:=6) (n:=1) Q7 (QB _) (by decide) (by simp[Sx.cells]);have Zq:(VN c (L.take i)).length<=i:=X3 (lu _ _) (by simp;omega);refine Je (n:=(VN c (L.take i)).length) Qa rfl rfl rfl rfl rfl (by decide) rfl rfl ⟨_,rfl⟩ rfl rfl (ho.ext sH) yT (iQ4 y) (by unfold maxLen;omega) (by show((VN c (L.take i)).length+1)*64<=_;omega) (by have:=hI.e.size;have:=sH.size;omega) ?_;intro A' c' w7 J5 pr nQG;refine Qj ((i+1:Nat):Int) (by show((i:Nat):Int)+1=_;omega) (by omega) ?_;refine⟨(i+1,A',c'),by simp only[jO,Qq];rfl,⟨J5.ext (hI.e.trans sH) (λk hk=>(ho.rows k hk).1),by show i+1<=L.length;omega,?_⟩,by show L.length-(i+1)<L.length-i;omega⟩;simp only;rw[jO,Yd,Qq];simpa using pr
  ·have d1:yu c y=false:=d1;have jO:VN c (L.take (i+1))=VN c (L.take i):=by rw[KX];unfold VN;rw[qO];simp[d1]
   refine Qj ((i+1:Nat):Int) (by show((i:Nat):Int)+1=_;omega) (by omega) ?_;refine⟨(i+1,O,oc),by simp only[jO];rfl,⟨hI.e.trans Ym,by show i+1<=L.length;omega,?_⟩,by show L.length-(i+1)<L.length-i;omega⟩;simp only;rw[jO];exact ho.ext Ym
 ·have hall:L.take i=L:=ZS (by omega);rw[hall] at ho;refine⟨O,oc,?_,QT,⟨⟨ho.sl,rfl⟩,λy hy=>(h.dg y (Jy.1 hy).1).ext QT⟩,ho.up (by omega)⟩;rw[hall]
theorem Us {tx:List Nat}:∀{L:List Sx},(∀y∈L,SegB tx y)->((L.flatMap (cU tx)).length:Int)=az L
 | [],_=>rfl
 | y::L,h=>by
  have h1:=h y (by simp);have h2:=Us (L:=L) (tx:=tx) (λz hz=>h z (j5 _ hz));have:=h1.f0;have:=h1.ft;have:=h1.tl;rw[Vf,Qq,vg,<-h2];have:(cU tx y).length=y.t.toNat-y.f.toNat:=by unfold cU;rw[Y1,Kx];omega
  rw[this];omega
theorem Ut {tx:List Nat}(h8:∀x∈tx,x<256)(y:Sx):∀x∈cU tx y,x<256:=λx hx=>h8 x (Wn (WT hx))
structure SelJ (w0:World) (base g:Nat) (tx:List Nat) (M:List Sx) (i:Nat) (w:World):Prop where
 e:Ext w0 w
 le:i<=M.length
 b:∃A c,Bld w base g 109 [] A c ((M.take i).flatMap (cU tx))
theorem iQ6 (tx:List Nat)(A:Option Addr)(n cp:Nat)(L:List Sx)(c:Nat)(w:World)(h:SX w A n cp L)(hc:c<=18446744073709551615)(h8:∀x∈tx,x<256):
  Fn Tryz.prog 21 [rL tx A n cp,.int .u64 c] w (λu w'=>u= .string (Qd (CX tx L c))/\Ext w w'):=by
 have QZ:=h.sl.2;refine QJ (c:={c21 with cuts:=[]}) Qa Tryz.func21 rfl rfl rfl ?_;refine new (λw1 Qe Q6 Qh=>?_);refine Qt Qh rfl ?_;refine call (iQ3 tx A n cp L w1 (h.ext Qe) h8) ?_;rintro _ w2 ⟨rfl,Qg⟩;have QT:=Qe.trans Qg;refine WW (λc1=>?_) (λc1=>?_)
 ·exact⟨by unfold CX;rw[if_neg c1];rfl,QT⟩
 obtain⟨t1,t2,t3⟩:=Um.1 c1;have hall:=Un (j0 0) t3;refine new (λw3 Qi Jr Qu=>?_);have QU:=QT.trans Qi;refine Qt (Qh.ext (Qg.trans Qi)) rfl ?_;refine call (iQ5 tx A n cp L c w3 (h.ext QU) hc (λy hy=>(hall y hy).ck) (by omega)) ?_;rintro _ w4 ⟨O,oc,rfl,Qs,Yn,cQC⟩;have Xp:=QU.trans Qs;have OV:∀y∈VN c L,SegB tx y:=λy hy=>hall y (Jy.1 hy).1
 have qQv:∀y∈VN c L,SB w y.x.A y.x.n y.x.c y.x.nd:=λy hy=>h.dg y (Jy.1 hy).1
 have dQp:az (VN c L)<=tx.length:=by
  have e1:=Ur (yu c) hall;have e2:=Uq t3;unfold VN;omega
 have wK:(VN c L).length<=65536:=X3 (lu _ _) t2;have lf:CX tx L c=(VN c L).flatMap (cU tx):=Qf c1;generalize hM:VN c L=M at*;have pQS:=Qs.size;have nQH:=cQC.rows;have LM:Bld w4 w4.heap.size w2.heap.size 109 [] none 0 (([]:List Sx).flatMap (cU tx)):=⟨by omega,QB _,⟨_,.inl rfl,Qu.ext Qs⟩,Own.nil _ _ _ _⟩
 have de:=QT.size;have JF:∀i,(((M.take i).flatMap (cU tx)).length:Int)<=tx.length:=λi=>by
  have e1:=Us (L:=M.take i) (tx:=tx) (λz hz=>OV z (Wn hz));have e2:=Uo (L:=M.drop i) (tx:=tx) (λz hz=>OV z (WT hz));have e3:az M=az (M.take i)+az (M.drop i):=by
   unfold az;rw[<-List.sum_append,<-WR,aQ]
  omega
 refine loop Qa [15] (λi:Nat=>[.int .i64 i]) (λi w'=>SelJ w2 w4.heap.size w2.heap.size tx M i w'/\Mod (λk=>k=w2.heap.size∨w4.heap.size<=k) w4 w') (λi _=>M.length-i) 0 rfl ⟨⟨Qi.trans Qs,Xo _,_,_,LM⟩,Mod.refl _ _⟩ ?_;rintro i w5 ⟨hI,cQD⟩;have JK:Ext w w5:=QT.trans hI.e;have nQI:Own w5 w3.heap.size 48 6 O M.length oc (M.flatMap Sx.cells):=cQC.mod cQD (λk hk hS=>by have:=nQH k hk;omega);obtain⟨BA,bc,Yk⟩:=hI.b;refine Qw (λc3=>?_) (λc3=>?_)
 ·have hi:i<M.length:=by omega
  refine Zt (l:=M) oP ⟨nQI.sl,rfl⟩ rfl hi (λp y hy cA=>?_);have FJ:=Xl hy;have fw:=OV y FJ;have KX:M.take (i+1)=M.take i++ [y]:=by rw[VF,hy]<;>rfl
  refine Jz (vs:=y.cells) rfl cA ?_;refine new (λw6 QQ bu Q7=>?_);refine Qv Q7 rfl (sc rfl) (λw7 Zv _ Q3=>?_);have Js:Ext w5 w7:=XT QQ Q7 Zv;refine Qz ((Qh.ext Qg).ext (hI.e.trans Js)) rfl ?_;refine Qz Q3 rfl ?_;refine Qo Q3 rfl ?_;have q1:=fw.f0;have q2:=fw.ft;have q3:=fw.tl;have dt:=Q8 tx;refine Xy (v':=.string (Qd (cU tx y))) ⟨q1,by omega,by rw[dt];omega⟩ (by rw[KN];rfl) ?_;have jQ:=JF (i+1);rw[KX,Yd,Qq] at jQ;have OW: [y].flatMap (cU tx)=cU tx y:=by simp
  rw[OW] at jQ;have bG:=Q8 (cU tx y);refine call (iR w4.heap.size w2.heap.size _ [] BA bc _ (Qd (cU tx y)) w7 W0 (Yk.grow Js) (by rw[bG];omega)) ?_;rintro _ w8 ⟨A8,c8,LB,JD,hv8⟩;have iG:=(Yk.own.rows)
  have io:∀k,BldS w2.heap.size BA k->k=w2.heap.size∨w4.heap.size<=k:=λk hk=>hk.elim .inl (λhk=>.inr (iG k hk).1)
  refine Qj ((i+1:Nat):Int) (by show((i:Nat):Int)+1=_;omega) (by omega) ?_;refine⟨i+1,rfl,⟨⟨JD.ext (hI.e.trans Js) (λk hk=>by rcases io k hk with e | e<;>omega),hi,A8,c8,?_⟩,?_⟩,by show M.length-(i+1)<M.length-i;omega⟩
  ·rw[KX,Yd,OW];rw[Ws (Ut h8 y)] at LB;exact LB
  ·exact(cQD.trans (Mod.of_ext (λk=>k=w2.heap.size∨w4.heap.size<=k) Js) (λk hk=>.inl hk)).trans (JD.mono (λk hk=>.inl (io k hk))) (λk hk=>.inl hk)
 ·have hall:M.take i=M:=ZS (by omega);rw[hall] at Yk;have jQ:=JF i;rw[hall] at jQ;refine call (RZ w4.heap.size w2.heap.size _ [] BA bc _ w5 Yk (λx hx=>by
   obtain⟨y,_,Xr⟩:=Wo.1 hx;exact Ut h8 y x Xr) (by omega)) ?_
  rintro _ w6 ⟨rfl,VQ⟩;have iG:=(Yk.own.rows)
  exact⟨by rw[lf],VQ.ext JK (λk hk=>by have:=iG k hk;omega)⟩
end
section
abbrev I2:=Int×Int
abbrev jb:I2->Value:=λt=>.agg #[.int .i64 t.1,.int .i64 t.2]
theorem iQ7 (a b:I2)(n:Nat)(w:World):(Op.equalIn (n+2) 253 (jb a) (jb b)).run Tryz.prog w= .ok (decide (a=b)) w:=by
 obtain⟨i,hi⟩:=PQ.1 (show(Tryz.prog.info? 3).isSome=true by kernel_rfl);obtain⟨a0,a1⟩:=a;obtain⟨b0,b1⟩:=b;have e:=run_equalIn_array (w:=w) (n+1) #[.int .i64 a0,.int .i64 a1] #[.int .i64 b0,.int .i64 b1] Tryz.underlying253 hi;rw[Cy,show List.range 2=[0,1] from rfl] at e;refine e.trans ?_;have p0:∀x y:Int,(part 3 #[Value.int .i64 x,.int .i64 y] (0*1)).run Tryz.prog w= .ok (.int .i64 x) w:=λx y=>dC k3 rfl w
 have p1:∀x y:Int,(part 3 #[Value.int .i64 x,.int .i64 y] (1*1)).run Tryz.prog w= .ok (.int .i64 y) w:=λx y=>dC k3 rfl w
 have dd:decide ((a0,a1)=(b0,b1))=(a0==b0&&a1==b1):=by
  by_cases h0:a0=b0<;>by_cases h1:a1=b1<;>simp[h0,h1]
 rw[dd];simp only[Op.eqItems,Sem.run_bind,p0,Result.andThen_ok,ye];cases h0:a0==b0 with
 | false=>simp
 | true=>
  simp only[Bool.not_true,PH,if_false,Sem.run_bind,p1,Result.andThen_ok,ye,dB];cases h1:a1==b1<;>simp
theorem iQ8 (b:Bool)(a:I2)(n:Nat)(w:World):(Instr.checkKey b (n+2) 253 (jb a)).run Tryz.prog w= .ok () w:=by
 obtain⟨i,hi⟩:=PQ.1 (show(Tryz.prog.info? 3).isSome=true by kernel_rfl);have p0:∀x y:Int,(part 3 #[Value.int .i64 x,.int .i64 y] 0).run Tryz.prog w= .ok (.int .i64 x) w:=λx y=>dC k3 rfl w
 have p1:∀x y:Int,(part 3 #[Value.int .i64 x,.int .i64 y] 1).run Tryz.prog w= .ok (.int .i64 y) w:=λx y=>dC k3 rfl w
 have hz:(sizeOf 3).run Tryz.prog w= .ok 1 w:=by rw[<-Cy];exact Go.run_sizeOf w hi
 simp[Instr.checkKey,Ja Tryz.underlying253,Ja Tryz.underlying3,hz,p0,p1,Std.Legacy.Range.forIn_eq_forIn_range',Std.Legacy.Range.size,List.range'_succ]
theorem CY:KeyQ Tryz.prog 253 jb:=
 qQS Tryz.underlying253 (λa b w=>iQ7 a b 9998 w) (λb a w=>iQ8 b a 9998 w) (λa=>by simp[Instr.sameBits])
def fQ (a:List Br)(x:Int)(b:List Br)(y:Int):Prop:=∃e,ev a x e=true/\ev b y e=true
theorem Uu {a:List Br}(h:Rd0 a){x:Int}(h0:0<=x)(h1:x<a.length+2)(hx:x≠0):∃e,ev a x e=true:=by
 apply Classical.byContradiction;intro hn;refine hx (inj h h0 (by decide) h1 (by omega) (λe=>?_));have e1:ev a 0 e=false:=by rw[JX (by decide)]<;>rfl
 rw[e1];cases hc:ev a x e with
 | false=>rfl
 | true=>exact Xc ⟨e,hc⟩ hn
theorem iQ9 {a b:List Br}(ha:Rd0 a)(hb:Rd0 b){x y:Int}(x0:0<=x)(x1:x<a.length+2)(y0:0<=y)(y1:y<b.length+2){v:Int}(hv:v=min (Ql a x) (Ql b y))(gb:v<64):
  fQ a x b y↔fQ a (Qm a x v).1 b (Qm b y v).1∨fQ a (Qm a x v).2 b (Qm b y v).2:=by
 have l1:v<=Ql a x:=by rw[hv,Jk];split<;>omega
 have l2:v<=Ql b y:=by rw[hv,Jk];split<;>omega
 obtain⟨p1,p2,p3,p4,p5⟩:=uL ha x0 x1 l1 gb;obtain⟨q1,q2,q3,q4,q5⟩:=uL hb y0 y1 l2 gb;have v0:0<=v:=by
  have:=ha.lvl0 x1;have:=hb.lvl0 y1;rw[hv,Jk];split<;>omega
 constructor
 ·rintro⟨e,e1,e2⟩;rw[p1] at e1;rw[q1] at e2;cases he:e v.toNat with
  | true=>rw[he,Qf rfl] at e1 e2;exact .inr ⟨e,e1,e2⟩
  | false=>rw[he,if_neg (by decide)] at e1 e2;exact .inl ⟨e,e1,e2⟩
 ·rintro(⟨e,e1,e2⟩ | ⟨e,e1,e2⟩)
  ·refine⟨YM e v.toNat false,?_,?_⟩
   ·rw[p1,show YM e v.toNat false v.toNat=false from Qf rfl,if_neg (by decide),eW ha v.toNat false e _ _ (fB _) p4 (by omega)];exact e1
   ·rw[q1,show YM e v.toNat false v.toNat=false from Qf rfl,if_neg (by decide),eW hb v.toNat false e _ _ (fB _) q4 (by omega)];exact e2
  ·refine⟨YM e v.toNat true,?_,?_⟩
   ·rw[p1,show YM e v.toNat true v.toNat=true from Qf rfl,Qf rfl,eW ha v.toNat true e _ _ (fB _) p5 (by omega)];exact e1
   ·rw[q1,show YM e v.toNat true v.toNat=true from Qf rfl,Qf rfl,eW hb v.toNat true e _ _ (fB _) q5 (by omega)];exact e2
structure MP where
 D:DV
 E:DV
 bo:Nat
 sx:Nat
 ax:Nat
 bx:Nat
 cx:Nat
 q:Nat
def MP.caps (p:MP):List Value:=[VP.ptr p.bo,VP.ptr p.sx,VP.ptr p.ax,VP.ptr p.bx,VP.ptr p.cx]
def MP.clo (p:MP):Value:=.func (.func 166) #[] #[VP.ptr p.bo,VP.ptr p.sx,VP.ptr p.ax,VP.ptr p.bx,VP.ptr p.cx]
structure MK (w:World) (p:MP):Prop where
 bob:Blk w p.bo 4 [.bool true]
 sxb:Blk w p.sx 251 [.map (some p.q)]
 axb:Blk w p.ax 32 p.D.cells
 bxb:Blk w p.bx 32 p.E.cells
 cxb:Blk w p.cx 252 [p.clo]
 as_:SB w p.D.A p.D.n p.D.c p.D.nd
 bs:SB w p.E.A p.E.n p.E.c p.E.nd
 off:p.bo≠p.q/\p.sx≠p.q/\p.ax≠p.q/\p.bx≠p.q/\p.cx≠p.q
 rowA:∀ad,p.D.A=some ad->0<p.D.n->ad.block≠p.q
 rowB:∀ad,p.E.A=some ad->0<p.E.n->ad.block≠p.q
theorem MK.mod {w w':World}{p:MP}(h:MK w p)(hm:Mod (·=p.q) w w'):MK w' p:=by
 obtain⟨o1,o2,o3,o4,o5⟩:=h.off;refine⟨h.bob.mod hm o1,h.sxb.mod hm o2,h.axb.mod hm o3,h.bxb.mod hm o4,h.cxb.mod hm o5,⟨h.as_.1.modS hm ?_,h.as_.2⟩,⟨h.bs.1.modS hm ?_,h.bs.2⟩,h.off,h.rowA,h.rowB⟩
 ·rintro h0 i ⟨ad,e,rfl⟩;exact h.rowA ad e h0
 ·rintro h0 i ⟨ad,e,rfl⟩;exact h.rowB ad e h0
theorem MK.ext {w w':World}{p:MP}(h:MK w p)(k:Ext w w'):MK w' p:=h.mod (Mod.of_ext _ k)
def oQ (w:World)(q:Nat)(S:List I2):Prop:=∃m,MapQ jb w q m/\∀t,(XG t m).getD (.bool false)= .bool (decide (t∈S))
def MtC (p:MP)(x y:Int)(S:List I2)(w:World)(v:Value)(w':World):Prop:=
 Mod (·=p.q) w w'/\∃r:Bool,v= .bool r/\(r=true->fQ p.D.nd x p.E.nd y)/\(r=false->¬fQ p.D.nd x p.E.nd y/\∃S',oQ w' p.q S'/\∀t∈S',t∈S∨¬fQ p.D.nd t.1 p.E.nd t.2)
theorem Uv (p:MP)(ha:Rd0 p.D.nd)(hb:Rd0 p.E.nd):∀(k:Nat)(x y:Int)(S:List I2)(w:World),
  MK w p->oQ w p.q S->(∀t∈S,t.1+t.2<=x+y->¬fQ p.D.nd t.1 p.E.nd t.2)->0<=x->0<=y->x<p.D.n+2->y<p.E.n+2->x+y<k->
  Fn Tryz.prog 166 (.int .i64 x:: .int .i64 y::p.caps) w (MtC p x y S w)
 | 0,x,y,_,_,_,_,_,x0,y0,_,_,hk=>by omega
 | k+1,x,y,S,w,hK,hS,Xi,x0,y0,hx,hy,hk=>by
  have ih:=Uv p ha hb k;have Vc:p.D.nd.length=p.D.n:=hK.as_.2;have ew:p.E.nd.length=p.E.n:=hK.bs.2;refine QJ (c:={RO with cuts:=[]}) Qa Tryz.func166 rfl rfl rfl ?_;refine X8 (λc1=>?_) (λc1=>?_)
  ·exact⟨Mod.refl _ _,false,rfl,λh=>(by cases h),λ_=>⟨(λ⟨e,e1,_⟩=>by rw[c1,JX (by decide)] at e1;cases e1),S,hS,λt ht=>.inl ht⟩⟩
  refine Qw (λc2=>?_) (λc2=>?_)
  ·refine Qz hK.bob rfl ?_;by_cases y1:y=1
   ·subst y1;refine Q9 rfl ?_;refine Zy c2 ?_;refine⟨Mod.refl _ _,true,rfl,λ_=>?_,λh=>by cases h⟩;obtain⟨e,he⟩:=Uu ha x0 (by omega) c1;exact⟨e,he,by rw[JX (by decide)];rfl⟩
   ·have MW:y=0:=by omega
    subst MW;refine Xd rfl ?_;exact⟨Mod.refl _ _,false,rfl,λh=>(by cases h),λ_=>⟨(λ⟨e,_,e1⟩=>by rw[JX (by decide)] at e1;cases e1),S,hS,λt ht=>.inl ht⟩⟩
  refine XJ c2 ?_;obtain⟨mq,fx,YY⟩:=hS;refine Qz hK.sxb rfl ?_;refine He (kv:=jb) (a:=((x,y):I2)) Qa rfl rfl rfl rfl CY rfl rfl fx (YY (x,y)) ?_;refine Qw (λc3=>?_) (λc3=>?_)
  ·exact⟨Mod.refl _ _,false,rfl,λh=>(by cases h),λ_=>⟨Xi (x,y) c3 (j0 _),S,⟨mq,fx,YY⟩,λt ht=>.inl ht⟩⟩
  refine Qz hK.sxb rfl ?_;refine uw (kv:=jb) (a:=((x,y):I2)) Qa rfl rfl rfl rfl CY rfl rfl rfl fx (λw1 fW Q6 pN=>?_);have Ks:=hK.mod fW;have Vm:oQ w1 p.q ((x,y)::S):=⟨_,pN,λt=>by
   rw[bR];by_cases ht:t=(x,y)
   ·subst ht;simp
   ·rw[if_neg ht,YY t];simp[ht]⟩
  have ZP:min (Ql p.D.nd x) (Ql p.E.nd y)<64:=by
   have:=aZ hb.dok (n:=y) c2 (by omega);rw[Jk];split<;>omega
  have mL:=ha.lvl0 (n:=x) (by omega);have XL:=hb.lvl0 (n:=y) (by omega);refine XR Qa (Ext w1) 8 [(true,0),(true,1),(true,3),(true,4),(false,2),(false,5),(true,6),(true,7)] (by kernel_rfl) (Ext.drew w1) ?_;refine Xv (vs:=p.D.cells) rfl (λw' Qb j v hj=>by rw[(Ks.axb.ext Qb).cell];exact hj) ?_;refine Xv (vs:=p.E.cells) rfl (λw' Qb j v hj=>by rw[(Ks.bxb.ext Qb).cell];exact hj) ?_;refine call (eQ p.D.A p.D.n p.D.c p.D.r x p.D.nd _ (Ks.as_.ext (Ext.drew w1)) (by omega)) ?_;rintro u w2 ⟨rfl,Qg⟩;have XB:=(Ext.drew w1).trans Qg;refine⟨XB,?_⟩;refine call (eQ p.E.A p.E.n p.E.c p.E.r y p.E.nd _ (Ks.bs.ext XB) (by omega)) ?_;rintro u w3 ⟨rfl,Qi⟩;have XF:=XB.trans Qi;refine⟨XF,?_⟩;have pY:(if Ql p.E.nd y<Ql p.D.nd x then Ql p.E.nd y else Ql p.D.nd x)=min (Ql p.D.nd x) (Ql p.E.nd y):=by
   rw[Jk];split<;>split<;>omega
  refine norm (m:=min (Ql p.D.nd x) (Ql p.E.nd y)) pY ?_;have tJ:=iQ9 ha hb x0 (by omega) y0 (by omega) (rfl:min (Ql p.D.nd x) (Ql p.E.nd y)=_) ZP;have dx:Ql p.D.nd x=min (Ql p.D.nd x) (Ql p.E.nd y)∨Ql p.E.nd y=min (Ql p.D.nd x) (Ql p.E.nd y):=by rw[Jk];split<;>simp
  generalize Ay:min (Ql p.D.nd x) (Ql p.E.nd y)=v at*;obtain⟨s1,s2,s3,s4,s5⟩:=W4 ha.dok (n:=x) x0 ZP;obtain⟨t1,t2,t3,t4,t5⟩:=W4 hb.dok (n:=y) y0 ZP;have dec:(Qm p.D.nd x v).1+(Qm p.E.nd y v).1<x+y/\(Qm p.D.nd x v).2+(Qm p.E.nd y v).2<x+y:=by
   rcases dx with e | e
   ·have:=s5 e;omega
   ·have:=t5 e;omega
  have f9:=Ks.ext XF;refine Qt f9.axb rfl ?_;refine call (kx p.D.A p.D.n p.D.c p.D.r x v p.D.nd _ f9.as_ (by omega) ZP) ?_;rintro u w4 ⟨rfl,Qs⟩;have Yl:=f9.ext Qs;refine Qt Yl.bxb rfl ?_;refine call (kx p.E.A p.E.n p.E.c p.E.r y v p.E.nd _ Yl.bs (by omega) ZP) ?_;rintro u w5 ⟨rfl,Qx⟩;have kP:=Yl.ext Qx;have JJ:=(XF.trans Qs).trans Qx;have Jt:Mod (·=p.q) w w5:=fW.trans (Mod.of_ext (·=p.q) JJ) (λi hi=>.inl hi);have js:oQ w5 p.q ((x,y)::S):=let ⟨m,k1,k2⟩:=Vm;⟨m,k1.ext JJ,k2⟩;refine Qz kP.cxb rfl ?_;refine call (ih (Qm p.D.nd x v).1 (Qm p.E.nd y v).1 ((x,y)::S) w5 kP js (λt ht ZF=>by
   rcases QY.1 ht with rfl | ht
   ·exact Xc ZF (by simp only;omega)
   ·exact Xi t ht (by omega)) s1 t1 (by omega) (by omega) (by omega)) ?_
  rintro _ w6 ⟨Vv,r0,rfl,yN,jE⟩;have zG:Mod (·=p.q) w w6:=Jt.trans Vv (λi hi=>.inl hi);cases r0 with
  | true=>
   refine Xd rfl ?_;exact⟨zG,true,rfl,λ_=>tJ.2 (.inl (yN rfl)),λh=>by cases h⟩
  | false=>
   obtain⟨n0,S6,bA,zH⟩:=jE rfl;refine Q9 rfl ?_;have dh:=kP.mod Vv;refine Qz dh.cxb rfl ?_;refine call (ih (Qm p.D.nd x v).2 (Qm p.E.nd y v).2 S6 w6 dh bA (λt ht ZF=>by
    rcases zH t ht with ht | ht
    ·rcases QY.1 ht with rfl | ht
     ·exact Xc ZF (by simp only;omega)
     ·exact Xi t ht (by omega)
    ·exact ht) s3 t3 (by omega) (by omega) (by omega)) ?_
   rintro _ w7 ⟨Xe,r1,rfl,pw,Zp⟩;have MY:Mod (·=p.q) w w7:=zG.trans Xe (λi hi=>.inl hi);refine⟨MY,r1,rfl,λh=>tJ.2 (.inr (pw h)),λh=>?_⟩;obtain⟨n1,S7,V8,MZ⟩:=Zp h;have nn:¬fQ p.D.nd x p.E.nd y:=λhh=>(tJ.1 hh).elim n0 n1
   refine⟨nn,S7,V8,λt ht=>?_⟩;rcases MZ t ht with ht | ht
   ·rcases zH t ht with ht | ht
    ·rcases QY.1 ht with rfl | ht
     ·exact .inr nn
     ·exact .inl ht
    ·exact .inr ht
   ·exact .inr ht
theorem jQa (A:Option Addr)(n c:Nat)(a:List Br)(ra:Int)(B:Option Addr)(m d:Nat)(b:List Br)(rb:Int)(w:World)(h:SB w A n c a)(h':SB w B m d b)(ha:VD a ra)(hb:VD b rb):
  Fn Tryz.prog 112 [Xm A n c ra,Xm B m d rb,.bool true] w (λu w'=>∃r:Bool,u= .bool r/\Ext w w'/\(r=true↔fQ a ra b rb)):=by
 have Vc:=h.2;have ew:=h'.2;refine QJ (c:={RK with cuts:=[]}) Qa Tryz.func112 rfl rfl rfl ?_;refine new (λw1 Qe Q6 Qh=>?_);refine new (λw2 Qg Ze Qy=>?_);refine new (λw3 Qi Jr Qu=>?_);have QU:=(Qe.trans Qg).trans Qi;refine uv Qa jb rfl ?_;intro w4 Qs KR M0;refine new (λw5 Qx KI QD=>?_);refine KZ QD (by decide) (λw6 Vv Q7=>?_);have XM:Ext w4 w6:=Vv.ext Qx (λi hi=>by omega);refine new (λw7 Xh W8 Q3=>?_);refine KZ Q3 (by decide) (λw8 ZL Xz=>?_);have ir:Ext w6 w8:=ZL.ext Xh (λi hi=>by omega);have fo:=XM.trans ir;have nh:=Qs.trans fo;have WC:=QU.trans nh;have z6:=XM.size
 let p:MP:=⟨⟨A,n,c,a,ra⟩,⟨B,m,d,b,rb⟩,w2.heap.size,w4.heap.size,w.heap.size,w1.heap.size,w6.heap.size,w3.heap.size⟩
 have hK:MK w8 p:=by
  refine⟨Qu.ext nh,Q7.ext ir,Qh.ext ((Qg.trans Qi).trans nh),Qy.ext (Qi.trans nh),Xz,h.ext WC,h'.ext WC,?_,λad e h0=>?_,λad e h0=>?_⟩
  ·simp only[p];omega
  ·have:=SB.lt h ad e h0;simp only[p];omega
  ·have:=SB.lt h' ad e h0;simp only[p];omega
 refine Qz hK.cxb rfl ?_;refine Qo hK.axb rfl ?_;refine Qo hK.bxb rfl ?_;refine call (Uv p ha.rd0 hb.rd0 (ra.toNat+rb.toNat+1) ra rb [] w8 hK ⟨[],M0.ext fo,λt=>rfl⟩ (λt ht=>by cases ht) ha.2.1 hb.2.1 (by have:=ha.2.2.1;simp only[p];omega) (by have:=hb.2.2.1;simp only[p];omega) (by have:=ha.2.1;have:=hb.2.1;omega)) ?_;rintro _ w9 ⟨Zg,r,rfl,h1,h2⟩;refine⟨r,rfl,Zg.ext WC (λi hi=>by simp only[p] at hi;have:=QU.size;omega),⟨h1,λhh=>?_⟩⟩;cases r with
 | true=>rfl
 | false=>exact Xc hh (h2 rfl).1
open Classical in
def rM (a:List Br)(ra:Int)(b:List Br)(rb:Int):Bool:=decide (XC a ra=0/\XC b rb=0/\¬fQ a ra b rb)
open Classical in
theorem Uw {a:List Br}{ra:Int}{b:List Br}{rb:Int}:rM a ra b rb=true↔XC a ra=0/\XC b rb=0/\¬fQ a ra b rb:=by unfold rM;exact decide_eq_true_iff
theorem Ux {a:List Br}{ra:Int}{b:List Br}{rb:Int}(h:XC a ra=0/\XC b rb=0/\¬fQ a ra b rb):rM a ra b rb=true:=Uw.2 h
theorem Ib {a:List Br}{ra:Int}{b:List Br}{rb:Int}(h:¬(XC a ra=0/\XC b rb=0/\¬fQ a ra b rb)):rM a ra b rb=false:=by
 cases hh:rM a ra b rb with
 | false=>rfl
 | true=>exact Xc (Uw.1 hh) h
theorem Uy (A:Option Addr)(n c:Nat)(a:List Br)(ra:Int)(B:Option Addr)(m d:Nat)(b:List Br)(rb:Int)(w:World)(h:SB w A n c a)(h':SB w B m d b):
  Fn Tryz.prog 97 [Xm A n c ra,Xm B m d rb] w (λu w'=>u= .bool (rM a ra b rb)/\Ext w w'):=by
 refine QJ (c:={c97 with cuts:=[]}) Qa Tryz.func97 rfl rfl rfl ?_;refine new (λw1 Qe Q6 Qh=>?_);refine new (λw2 Qg Ze Qy=>?_);have QT:=Qe.trans Qg;refine Qt (Qh.ext Qg) rfl ?_;refine Qt Qy rfl ?_;refine Xg Qa [(⟨A,n,c,a,ra⟩:DV).cells,(⟨B,m,d,b,rb⟩:DV).cells] rfl rfl rfl rfl rfl ⟨rfl,rfl,rfl,rfl,⟨⟩⟩ rfl (λcs h=>by simp only[QY,JM,JR] at h;rcases h with rfl | rfl<;>rfl) rfl (by decide) (by decide) ?_;intro w5 Qx KI QD;have JK:=QT.trans Qx;have hL:SlS DV.cells 2 w5 (some ⟨w2.heap.size,0,none⟩) 2 2 [⟨A,n,c,a,ra⟩,⟨B,m,d,b,rb⟩]:=⟨Sl.own (sz:=2) (n:=2) QD (QB _) (by decide) (by simp[DV.cells]),rfl⟩
 refine call (Cw _ 2 2 _ w5 hL (λx hx=>by
  simp only[QY,JM,JR] at hx;rcases hx with rfl | rfl
  ·exact h.ext JK
  ·exact h'.ext JK)) ?_
 rintro v w6 ⟨rfl,QQ⟩;have XX:=JK.trans QQ;have ef:dJ [(⟨A,n,c,a,ra⟩:DV),⟨B,m,d,b,rb⟩]=if XC a ra≠0 then XC a ra else if XC b rb≠0 then XC b rb else 0:=rfl
 have jE:dJ [(⟨A,n,c,a,ra⟩:DV),⟨B,m,d,b,rb⟩]=0↔XC a ra=0/\XC b rb=0:=by
  rw[ef];by_cases h1:XC a ra=0
  ·rw[if_neg (λhh=>hh h1)];by_cases h2:XC b rb=0
   ·rw[if_neg (λhh=>hh h2)];simp[h1,h2]
   ·rw[Qf h2];simp[h2]
  ·rw[Qf h1];simp[h1]
 refine X8 (λc1=>?_) (λc1=>?_)
 ·obtain⟨ca,cb⟩:=jE.1 c1;refine Qt ((Qh.ext Qg).ext (Qx.trans QQ)) rfl ?_;refine Qt (Qy.ext (Qx.trans QQ)) rfl ?_;refine call (jQa A n c a ra B m d b rb w6 (h.ext XX) (h'.ext XX) (fL.1 ca).2 (fL.1 cb).2) ?_;rintro _ w7 ⟨r,rfl,Xh,hr⟩;refine⟨?_,XX.trans Xh⟩;cases r with
  | true=>rw[Ib (λhh=>hh.2.2 (hr.1 rfl))]<;>rfl
  | false=>rw[Ux ⟨ca,cb,λhh=>by have:=hr.2 hh;cases this⟩];rfl
 ·exact⟨by rw[Ib (λhh=>c1 (jE.2 ⟨hh.1,hh.2.1⟩))],XX⟩
def ixV (l:List Nat):List Value:=l.map (λ(i:Nat)=>Value.int .i64 i)
end
section
def fR (a:List Br)(x:Int)(b:List Br)(y:Int):Prop:=∃e,ev a x e=true/\ev b y e=false
theorem jQb {a b:List Br}(ha:Rd0 a)(hb:Rd0 b){x y:Int}(x0:0<=x)(x1:x<a.length+2)(y0:0<=y)(y1:y<b.length+2){v:Int}(hv:v=min (Ql a x) (Ql b y))(gb:v<64):
  fR a x b y↔fR a (Qm a x v).1 b (Qm b y v).1∨fR a (Qm a x v).2 b (Qm b y v).2:=by
 have l1:v<=Ql a x:=by rw[hv,Jk];split<;>omega
 have l2:v<=Ql b y:=by rw[hv,Jk];split<;>omega
 obtain⟨p1,p2,p3,p4,p5⟩:=uL ha x0 x1 l1 gb;obtain⟨q1,q2,q3,q4,q5⟩:=uL hb y0 y1 l2 gb;have v0:0<=v:=by
  have:=ha.lvl0 x1;have:=hb.lvl0 y1;rw[hv,Jk];split<;>omega
 constructor
 ·rintro⟨e,e1,e2⟩;rw[p1] at e1;rw[q1] at e2;cases he:e v.toNat with
  | true=>rw[he,Qf rfl] at e1 e2;exact .inr ⟨e,e1,e2⟩
  | false=>rw[he,if_neg (by decide)] at e1 e2;exact .inl ⟨e,e1,e2⟩
 ·rintro(⟨e,e1,e2⟩ | ⟨e,e1,e2⟩)
  ·refine⟨YM e v.toNat false,?_,?_⟩
   ·rw[p1,show YM e v.toNat false v.toNat=false from Qf rfl,if_neg (by decide),eW ha v.toNat false e _ _ (fB _) p4 (by omega)];exact e1
   ·rw[q1,show YM e v.toNat false v.toNat=false from Qf rfl,if_neg (by decide),eW hb v.toNat false e _ _ (fB _) q4 (by omega)];exact e2
  ·refine⟨YM e v.toNat true,?_,?_⟩
   ·rw[p1,show YM e v.toNat true v.toNat=true from Qf rfl,Qf rfl,eW ha v.toNat true e _ _ (fB _) p5 (by omega)];exact e1
   ·rw[q1,show YM e v.toNat true v.toNat=true from Qf rfl,Qf rfl,eW hb v.toNat true e _ _ (fB _) q5 (by omega)];exact e2
structure MPn where
 D:DV
 E:DV
 bo:Nat
 sx:Nat
 ax:Nat
 bx:Nat
 cx:Nat
 q:Nat
def MPn.caps (p:MPn):List Value:=[VP.ptr p.bo,VP.ptr p.sx,VP.ptr p.ax,VP.ptr p.bx,VP.ptr p.cx]
def MPn.clo (p:MPn):Value:=.func (.func 166) #[] #[VP.ptr p.bo,VP.ptr p.sx,VP.ptr p.ax,VP.ptr p.bx,VP.ptr p.cx]
structure MKn (w:World) (p:MPn):Prop where
 bob:Blk w p.bo 4 [.bool false]
 sxb:Blk w p.sx 251 [.map (some p.q)]
 axb:Blk w p.ax 32 p.D.cells
 bxb:Blk w p.bx 32 p.E.cells
 cxb:Blk w p.cx 252 [p.clo]
 as_:SB w p.D.A p.D.n p.D.c p.D.nd
 bs:SB w p.E.A p.E.n p.E.c p.E.nd
 off:p.bo≠p.q/\p.sx≠p.q/\p.ax≠p.q/\p.bx≠p.q/\p.cx≠p.q
 rowA:∀ad,p.D.A=some ad->0<p.D.n->ad.block≠p.q
 rowB:∀ad,p.E.A=some ad->0<p.E.n->ad.block≠p.q
theorem MKn.mod {w w':World}{p:MPn}(h:MKn w p)(hm:Mod (·=p.q) w w'):MKn w' p:=by
 obtain⟨o1,o2,o3,o4,o5⟩:=h.off;refine⟨h.bob.mod hm o1,h.sxb.mod hm o2,h.axb.mod hm o3,h.bxb.mod hm o4,h.cxb.mod hm o5,⟨h.as_.1.modS hm ?_,h.as_.2⟩,⟨h.bs.1.modS hm ?_,h.bs.2⟩,h.off,h.rowA,h.rowB⟩
 ·rintro h0 i ⟨ad,e,rfl⟩;exact h.rowA ad e h0
 ·rintro h0 i ⟨ad,e,rfl⟩;exact h.rowB ad e h0
theorem MKn.ext {w w':World}{p:MPn}(h:MKn w p)(k:Ext w w'):MKn w' p:=h.mod (Mod.of_ext _ k)
def jQc (p:MPn)(x y:Int)(S:List I2)(w:World)(v:Value)(w':World):Prop:=
 Mod (·=p.q) w w'/\∃r:Bool,v= .bool r/\(r=true->fR p.D.nd x p.E.nd y)/\(r=false->¬fR p.D.nd x p.E.nd y/\∃S',oQ w' p.q S'/\∀t∈S',t∈S∨¬fR p.D.nd t.1 p.E.nd t.2)
theorem Uz (p:MPn)(ha:Rd0 p.D.nd)(hb:Rd0 p.E.nd):∀(k:Nat)(x y:Int)(S:List I2)(w:World),
  MKn w p->oQ w p.q S->(∀t∈S,t.1+t.2<=x+y->¬fR p.D.nd t.1 p.E.nd t.2)->0<=x->0<=y->x<p.D.n+2->y<p.E.n+2->x+y<k->
  Fn Tryz.prog 166 (.int .i64 x:: .int .i64 y::p.caps) w (jQc p x y S w)
 | 0,x,y,_,_,_,_,_,x0,y0,_,_,hk=>by omega
 | k+1,x,y,S,w,hK,hS,Xi,x0,y0,hx,hy,hk=>by
  have ih:=Uz p ha hb k;have Vc:p.D.nd.length=p.D.n:=hK.as_.2;have ew:p.E.nd.length=p.E.n:=hK.bs.2;refine QJ (c:={RO with cuts:=[]}) Qa Tryz.func166 rfl rfl rfl ?_;refine X8 (λc1=>?_) (λc1=>?_)
  ·exact⟨Mod.refl _ _,false,rfl,λh=>(by cases h),λ_=>⟨(λ⟨e,e1,_⟩=>by rw[c1,JX (by decide)] at e1;cases e1),S,hS,λt ht=>.inl ht⟩⟩
  refine Qw (λc2=>?_) (λc2=>?_)
  ·refine Qz hK.bob rfl ?_;by_cases y1:y=1
   ·subst y1;refine Xd rfl ?_;exact⟨Mod.refl _ _,false,rfl,λh=>(by cases h),λ_=>⟨(λ⟨e,_,e1⟩=>by rw[JX (by decide)] at e1;cases e1),S,hS,λt ht=>.inl ht⟩⟩
   ·have MW:y=0:=by omega
    subst MW;refine Q9 rfl ?_;refine Zy c2 ?_;refine⟨Mod.refl _ _,true,rfl,λ_=>?_,λh=>by cases h⟩;obtain⟨e,he⟩:=Uu ha x0 (by omega) c1;exact⟨e,he,by rw[JX (by decide)];rfl⟩
  refine XJ c2 ?_;obtain⟨mq,fx,YY⟩:=hS;refine Qz hK.sxb rfl ?_;refine He (kv:=jb) (a:=((x,y):I2)) Qa rfl rfl rfl rfl CY rfl rfl fx (YY (x,y)) ?_;refine Qw (λc3=>?_) (λc3=>?_)
  ·exact⟨Mod.refl _ _,false,rfl,λh=>(by cases h),λ_=>⟨Xi (x,y) c3 (j0 _),S,⟨mq,fx,YY⟩,λt ht=>.inl ht⟩⟩
  refine Qz hK.sxb rfl ?_;refine uw (kv:=jb) (a:=((x,y):I2)) Qa rfl rfl rfl rfl CY rfl rfl rfl fx (λw1 fW Q6 pN=>?_);have Ks:=hK.mod fW;have Vm:oQ w1 p.q ((x,y)::S):=⟨_,pN,λt=>by
   rw[bR];by_cases ht:t=(x,y)
   ·subst ht;simp
   ·rw[if_neg ht,YY t];simp[ht]⟩
  have ZP:min (Ql p.D.nd x) (Ql p.E.nd y)<64:=by
   have:=aZ hb.dok (n:=y) c2 (by omega);rw[Jk];split<;>omega
  have mL:=ha.lvl0 (n:=x) (by omega);have XL:=hb.lvl0 (n:=y) (by omega);refine XR Qa (Ext w1) 8 [(true,0),(true,1),(true,3),(true,4),(false,2),(false,5),(true,6),(true,7)] (by kernel_rfl) (Ext.drew w1) ?_;refine Xv (vs:=p.D.cells) rfl (λw' Qb j v hj=>by rw[(Ks.axb.ext Qb).cell];exact hj) ?_;refine Xv (vs:=p.E.cells) rfl (λw' Qb j v hj=>by rw[(Ks.bxb.ext Qb).cell];exact hj) ?_;refine call (eQ p.D.A p.D.n p.D.c p.D.r x p.D.nd _ (Ks.as_.ext (Ext.drew w1)) (by omega)) ?_;rintro u w2 ⟨rfl,Qg⟩;have XB:=(Ext.drew w1).trans Qg;refine⟨XB,?_⟩;refine call (eQ p.E.A p.E.n p.E.c p.E.r y p.E.nd _ (Ks.bs.ext XB) (by omega)) ?_;rintro u w3 ⟨rfl,Qi⟩;have XF:=XB.trans Qi;refine⟨XF,?_⟩;have pY:(if Ql p.E.nd y<Ql p.D.nd x then Ql p.E.nd y else Ql p.D.nd x)=min (Ql p.D.nd x) (Ql p.E.nd y):=by
   rw[Jk];split<;>split<;>omega
  refine norm (m:=min (Ql p.D.nd x) (Ql p.E.nd y)) pY ?_;have tJ:=jQb ha hb x0 (by omega) y0 (by omega) (rfl:min (Ql p.D.nd x) (Ql p.E.nd y)=_) ZP;have dx:Ql p.D.nd x=min (Ql p.D.nd x) (Ql p.E.nd y)∨Ql p.E.nd y=min (Ql p.D.nd x) (Ql p.E.nd y):=by rw[Jk];split<;>simp
  generalize Ay:min (Ql p.D.nd x) (Ql p.E.nd y)=v at*;obtain⟨s1,s2,s3,s4,s5⟩:=W4 ha.dok (n:=x) x0 ZP;obtain⟨t1,t2,t3,t4,t5⟩:=W4 hb.dok (n:=y) y0 ZP;have dec:(Qm p.D.nd x v).1+(Qm p.E.nd y v).1<x+y/\(Qm p.D.nd x v).2+(Qm p.E.nd y v).2<x+y:=by
   rcases dx with e | e
   ·have:=s5 e;omega
   ·have:=t5 e;omega
  have f9:=Ks.ext XF;refine Qt f9.axb rfl ?_;refine call (kx p.D.A p.D.n p.D.c p.D.r x v p.D.nd _ f9.as_ (by omega) ZP) ?_;rintro u w4 ⟨rfl,Qs⟩;have Yl:=f9.ext Qs;refine Qt Yl.bxb rfl ?_;refine call (kx p.E.A p.E.n p.E.c p.E.r y v p.E.nd _ Yl.bs (by omega) ZP) ?_;rintro u w5 ⟨rfl,Qx⟩;have kP:=Yl.ext Qx;have JJ:=(XF.trans Qs).trans Qx;have Jt:Mod (·=p.q) w w5:=fW.trans (Mod.of_ext (·=p.q) JJ) (λi hi=>.inl hi);have js:oQ w5 p.q ((x,y)::S):=let ⟨m,k1,k2⟩:=Vm;⟨m,k1.ext JJ,k2⟩;refine Qz kP.cxb rfl ?_;refine call (ih (Qm p.D.nd x v).1 (Qm p.E.nd y v).1 ((x,y)::S) w5 kP js (λt ht ZF=>by
   rcases QY.1 ht with rfl | ht
   ·exact Xc ZF (by simp only;omega)
   ·exact Xi t ht (by omega)) s1 t1 (by omega) (by omega) (by omega)) ?_
  rintro _ w6 ⟨Vv,r0,rfl,yN,jE⟩;have zG:Mod (·=p.q) w w6:=Jt.trans Vv (λi hi=>.inl hi);cases r0 with
  | true=>
   refine Xd rfl ?_;exact⟨zG,true,rfl,λ_=>tJ.2 (.inl (yN rfl)),λh=>by cases h⟩
  | false=>
   obtain⟨n0,S6,bA,zH⟩:=jE rfl;refine Q9 rfl ?_;have dh:=kP.mod Vv;refine Qz dh.cxb rfl ?_;refine call (ih (Qm p.D.nd x v).2 (Qm p.E.nd y v).2 S6 w6 dh bA (λt ht ZF=>by
    rcases zH t ht with ht | ht
    ·rcases QY.1 ht with rfl | ht
     ·exact Xc ZF (by simp only;omega)
     ·exact Xi t ht (by omega)
    ·exact ht) s3 t3 (by omega) (by omega) (by omega)) ?_
   rintro _ w7 ⟨Xe,r1,rfl,pw,Zp⟩;have MY:Mod (·=p.q) w w7:=zG.trans Xe (λi hi=>.inl hi);refine⟨MY,r1,rfl,λh=>tJ.2 (.inr (pw h)),λh=>?_⟩;obtain⟨n1,S7,V8,MZ⟩:=Zp h;have nn:¬fR p.D.nd x p.E.nd y:=λhh=>(tJ.1 hh).elim n0 n1
   refine⟨nn,S7,V8,λt ht=>?_⟩;rcases MZ t ht with ht | ht
   ·rcases zH t ht with ht | ht
    ·rcases QY.1 ht with rfl | ht
     ·exact .inr nn
     ·exact .inl ht
    ·exact .inr ht
   ·exact .inr ht
theorem jQd (A:Option Addr)(n c:Nat)(a:List Br)(ra:Int)(B:Option Addr)(m d:Nat)(b:List Br)(rb:Int)(w:World)(h:SB w A n c a)(h':SB w B m d b)(ha:VD a ra)(hb:VD b rb):
  Fn Tryz.prog 112 [Xm A n c ra,Xm B m d rb,.bool false] w (λu w'=>∃r:Bool,u= .bool r/\Ext w w'/\(r=true↔fR a ra b rb)):=by
 have Vc:=h.2;have ew:=h'.2;refine QJ (c:={RK with cuts:=[]}) Qa Tryz.func112 rfl rfl rfl ?_;refine new (λw1 Qe Q6 Qh=>?_);refine new (λw2 Qg Ze Qy=>?_);refine new (λw3 Qi Jr Qu=>?_);have QU:=(Qe.trans Qg).trans Qi;refine uv Qa jb rfl ?_;intro w4 Qs KR M0;refine new (λw5 Qx KI QD=>?_);refine KZ QD (by decide) (λw6 Vv Q7=>?_);have XM:Ext w4 w6:=Vv.ext Qx (λi hi=>by omega);refine new (λw7 Xh W8 Q3=>?_);refine KZ Q3 (by decide) (λw8 ZL Xz=>?_);have ir:Ext w6 w8:=ZL.ext Xh (λi hi=>by omega);have fo:=XM.trans ir;have nh:=Qs.trans fo;have WC:=QU.trans nh;have z6:=XM.size
 let p:MPn:=⟨⟨A,n,c,a,ra⟩,⟨B,m,d,b,rb⟩,w2.heap.size,w4.heap.size,w.heap.size,w1.heap.size,w6.heap.size,w3.heap.size⟩
 have hK:MKn w8 p:=by
  refine⟨Qu.ext nh,Q7.ext ir,Qh.ext ((Qg.trans Qi).trans nh),Qy.ext (Qi.trans nh),Xz,h.ext WC,h'.ext WC,?_,λad e h0=>?_,λad e h0=>?_⟩
  ·simp only[p];omega
  ·have:=SB.lt h ad e h0;simp only[p];omega
  ·have:=SB.lt h' ad e h0;simp only[p];omega
 refine Qz hK.cxb rfl ?_;refine Qo hK.axb rfl ?_;refine Qo hK.bxb rfl ?_;refine call (Uz p ha.rd0 hb.rd0 (ra.toNat+rb.toNat+1) ra rb [] w8 hK ⟨[],M0.ext fo,λt=>rfl⟩ (λt ht=>by cases ht) ha.2.1 hb.2.1 (by have:=ha.2.2.1;simp only[p];omega) (by have:=hb.2.2.1;simp only[p];omega) (by have:=ha.2.1;have:=hb.2.1;omega)) ?_;rintro _ w9 ⟨Zg,r,rfl,h1,h2⟩;refine⟨r,rfl,Zg.ext WC (λi hi=>by simp only[p] at hi;have:=QU.size;omega),⟨h1,λhh=>?_⟩⟩;cases r with
 | true=>rfl
 | false=>exact Xc hh (h2 rfl).1
open Classical in
def jd (a:List Br)(ra:Int)(b:List Br)(rb:Int):Bool:=decide (XC a ra=0/\XC b rb=0/\¬fR a ra b rb)
open Classical in
theorem Ic {a:List Br}{ra:Int}{b:List Br}{rb:Int}:jd a ra b rb=true↔XC a ra=0/\XC b rb=0/\¬fR a ra b rb:=by unfold jd;exact decide_eq_true_iff
theorem jQe {a:List Br}{ra:Int}{b:List Br}{rb:Int}(h:XC a ra=0/\XC b rb=0/\¬fR a ra b rb):jd a ra b rb=true:=Ic.2 h
theorem UA {a:List Br}{ra:Int}{b:List Br}{rb:Int}(h:¬(XC a ra=0/\XC b rb=0/\¬fR a ra b rb)):jd a ra b rb=false:=by
 cases hh:jd a ra b rb with
 | false=>rfl
 | true=>exact Xc (Ic.1 hh) h
theorem UB (A:Option Addr)(n c:Nat)(a:List Br)(ra:Int)(B:Option Addr)(m d:Nat)(b:List Br)(rb:Int)(w:World)(h:SB w A n c a)(h':SB w B m d b):
  Fn Tryz.prog 62 [Xm A n c ra,Xm B m d rb] w (λu w'=>u= .bool (jd a ra b rb)/\Ext w w'):=by
 refine QJ (c:={c62 with cuts:=[]}) Qa Tryz.func62 rfl rfl rfl ?_;refine new (λw1 Qe Q6 Qh=>?_);refine new (λw2 Qg Ze Qy=>?_);have QT:=Qe.trans Qg;refine Qt (Qh.ext Qg) rfl ?_;refine Qt Qy rfl ?_;refine Xg Qa [(⟨A,n,c,a,ra⟩:DV).cells,(⟨B,m,d,b,rb⟩:DV).cells] rfl rfl rfl rfl rfl ⟨rfl,rfl,rfl,rfl,⟨⟩⟩ rfl (λcs h=>by simp only[QY,JM,JR] at h;rcases h with rfl | rfl<;>rfl) rfl (by decide) (by decide) ?_;intro w5 Qx KI QD;have JK:=QT.trans Qx;have hL:SlS DV.cells 2 w5 (some ⟨w2.heap.size,0,none⟩) 2 2 [⟨A,n,c,a,ra⟩,⟨B,m,d,b,rb⟩]:=⟨Sl.own (sz:=2) (n:=2) QD (QB _) (by decide) (by simp[DV.cells]),rfl⟩
 refine call (Cw _ 2 2 _ w5 hL (λx hx=>by
  simp only[QY,JM,JR] at hx;rcases hx with rfl | rfl
  ·exact h.ext JK
  ·exact h'.ext JK)) ?_
 rintro v w6 ⟨rfl,QQ⟩;have XX:=JK.trans QQ;have ef:dJ [(⟨A,n,c,a,ra⟩:DV),⟨B,m,d,b,rb⟩]=if XC a ra≠0 then XC a ra else if XC b rb≠0 then XC b rb else 0:=rfl
 have jE:dJ [(⟨A,n,c,a,ra⟩:DV),⟨B,m,d,b,rb⟩]=0↔XC a ra=0/\XC b rb=0:=by
  rw[ef];by_cases h1:XC a ra=0
  ·rw[if_neg (λhh=>hh h1)];by_cases h2:XC b rb=0
   ·rw[if_neg (λhh=>hh h2)];simp[h1,h2]
   ·rw[Qf h2];simp[h2]
  ·rw[Qf h1];simp[h1]
 refine X8 (λc1=>?_) (λc1=>?_)
 ·obtain⟨ca,cb⟩:=jE.1 c1;refine Qt ((Qh.ext Qg).ext (Qx.trans QQ)) rfl ?_;refine Qt (Qy.ext (Qx.trans QQ)) rfl ?_;refine call (jQd A n c a ra B m d b rb w6 (h.ext XX) (h'.ext XX) (fL.1 ca).2 (fL.1 cb).2) ?_;rintro _ w7 ⟨r,rfl,Xh,hr⟩;refine⟨?_,XX.trans Xh⟩;cases r with
  | true=>rw[UA (λhh=>hh.2.2 (hr.1 rfl))]<;>rfl
  | false=>rw[jQe ⟨ca,cb,λhh=>by have:=hr.2 hh;cases this⟩];rfl
 ·exact⟨by rw[UA (λhh=>c1 (jE.2 ⟨hh.1,hh.2.1⟩))],XX⟩
end
theorem CZ (l:List Nat)(w:World)(hl:∀x∈l,x<256):
  Fn Tryz.prog 47 [.string (Qd l)] w (λu w'=>u= .bool (cS l)/\Ext w w'):=by
 refine QJ (c:={c47 with cuts:=[]}) Qa Tryz.func47 rfl rfl rfl ?_;refine Xg Qa ([ZJ,pElif,pInc].map (λs=>[Value.string (Qd s)])) rfl rfl rfl rfl rfl ⟨rfl,rfl,rfl,rfl,rfl,rfl,⟨⟩⟩ rfl (λcs h=>by simp only[Zk] at h;obtain⟨s,_,rfl⟩:=h;rfl) rfl (by decide) (by decide) ?_;intro w1 Qe Q6 Qh;refine loop Qa [7] (λi:Nat=>[.int .i64 i]) (λi w'=>w1=w'/\i<=3/\([ZJ,pElif,pInc].take i).any (λp=>p.isPrefixOf l)=false) (λi _=>3-i) 0 rfl ⟨rfl,Xo _,rfl⟩ ?_;rintro i _ ⟨rfl,hi,Xi⟩;by_cases h3:i<3
 ·refine Zy (show((i:Nat):Int)<3 by omega) ?_;obtain⟨p,hp⟩:∃p,([ZJ,pElif,pInc]:List (List Nat))[i]? =some p:=⟨_,Xu (show i<3 from h3)⟩
  have hp8:∀x∈p,x<256:=by
   have:∀q∈([ZJ,pElif,pInc]:List (List Nat)),∀x∈q,x<256:=by decide
   exact this p (Xl hp)
  refine index (j:=i) h3 ?_;refine Qo (v:=.string (Qd p)) Qh (by
   rcases(show i=0∨i=1∨i=2 by omega)with rfl | rfl | rfl<;>(cases hp;rfl)) ?_
  refine call (HV l p w1 hl hp8) ?_;rintro _ _ ⟨rfl,rfl⟩;refine YK (λd1=>?_) (λd1=>?_)
  ·refine⟨?_,Qe⟩;have d1:p.isPrefixOf l=true:=d1;have hm:=Xl hp;simp only[QY,JM,JR] at hm;unfold cS;rcases hm with rfl | rfl | rfl<;>rw[d1]<;>simp
  ·have d1:p.isPrefixOf l=false:=d1;refine Qj ((i+1:Nat):Int) (by show((i:Nat):Int)+1=_;omega) (by omega) ?_;refine⟨i+1,rfl,⟨rfl,by omega,?_⟩,by show 3-(i+1)<3-i;omega⟩;rw[VF,hp,List.any_append,Xi];simp[d1]
 ·have hi3:i=3:=by omega
  subst hi3;refine XJ (by decide) ?_;have Xi:(ZJ.isPrefixOf l||(pElif.isPrefixOf l||(pInc.isPrefixOf l||false)))=false:=Xi;simp only[Bool.or_eq_false_iff] at Xi;obtain⟨n1,n2,n3,_⟩:=Xi;have e:cS l=(decide (l=Kz++ [10])||decide (l=Zb++ [10])):=by unfold cS;rw[n1,n2,n3]<;>rfl
  have q1:(Qd l=(Qd (Kz++ [10])))↔l=Kz++ [10]:=⟨λhh=>Kn hl (by decide) hh,λhh=>by rw[hh]⟩
  have q2:(Qd l=(Qd (Zb++ [10])))↔l=Zb++ [10]:=⟨λhh=>Kn hl (by decide) hh,λhh=>by rw[hh]⟩
  by_cases c1:l=Kz++ [10]
  ·refine Zy (q1.2 c1) ?_;exact⟨by rw[e,Zx c1];rfl,Qe⟩
  ·refine XJ (λhh=>c1 (q1.1 hh)) ?_;refine⟨?_,Qe⟩;rw[e,Zr c1,Bool.false_or];by_cases c2:l=Zb++ [10]
   ·rw[Zx c2];exact QC Value.bool (Zx (q2.2 c2))
   ·rw[Zr c2];exact QC Value.bool (Zr (λhh=>c2 (q2.1 hh)))
theorem jQf (l:List Nat)(w:World)(hl:∀x∈l,x<256)(QZ:l.length<=1000000000000):
  Fn Tryz.prog 168 [.string (Qd l),.string (Qd [10])] w (λv w'=>v= .bool (l.getLast? ==some 10)/\w=w'):=by
 have XQ:=Q8 l;refine QJ (c:=fQp) Qa Tryz.func168 rfl rfl rfl ?_;have h1:(Qd [10]).size=1:=rfl;refine Qw (λc1=>?_) (λc1=>?_)
 ·have aL:1<=l.length:=by omega
  refine Qj ((l.length-1:Nat):Int) (by omega) (by omega) ?_;refine Xy (v':=.string (Qd (l.drop (l.length-1)))) ⟨by omega,by rw[XQ];omega,by rw[XQ];omega⟩ (by
   rw[KN,XQ];show Value.string (Qd ((l.take l.length).drop _))=_;rw[ZS (QB _)];rfl) ?_
  refine⟨?_,rfl⟩;obtain⟨a,b,rfl⟩:∃a b,l=a++ [b]:=by
   rcases qM l with e | ⟨a,b,e⟩
   ·subst e;simp at aL
   ·exact⟨a,b,by rw[e,List.concat_eq_append]⟩
  have e1:(a++ [b]).drop ((a++ [b]).length-1)=[b]:=by simp
  rw[e1];have hb:b<256:=hl b (by simp);rw[List.getLast?_concat];by_cases m7:b=10
  ·subst m7;simp
  ·have:¬Qd [b]=Qd [10]:=λhh=>m7 (by
    have:=Kn (l:=[b]) (m:=[10]) (by simpa using hb) (by decide) hh;simpa using this)
   simp[this,m7]
 ·have mL:l=[]:=WO (by omega);subst mL;exact⟨rfl,rfl⟩
theorem jQg (l:List Nat)(w:World)(hl:∀x∈l,x<256)(QZ:l.length<=1000000000000):
  Fn Tryz.prog 113 [.string (Qd l),.string (Qd [10])] w (λv w'=>v= .bool (l.getLast? ==some 10)/\w=w'):=by
 refine QJ (c:=eQM) Qa Tryz.func113 rfl rfl rfl ?_;refine call (jQf l w hl QZ) ?_;rintro _ _ ⟨rfl,rfl⟩;exact⟨rfl,rfl⟩
end
section
variable {nm:List (List Nat)} {n:Nat}
theorem jQh {l:Tr}(w:Wt n l):dp (Y7 nm l)=0/\∀k,0<=dp ((Y7 nm l).take k):=by
 obtain⟨b1,b2⟩:=kz nm w;cases l with
 | nil=>exact⟨rfl,λk=>by simp[Y7,dp]⟩
 | _=>
  rw[Y7]
  ·refine⟨by rw[bX,u7,b1];rfl,λk=>?_⟩;cases k with
   | zero=>simp[dp]
   | succ k=>rw[fy,bX,u7];have:=b2 k;omega
  ·exactλe=>by cases e
theorem jQi {h l:Tr}(w:Wt n h)(w':Wt n l):dp (fl nm h++Y7 nm l)=0/\∀k,0<=dp ((fl nm h++Y7 nm l).take k):=by
 obtain⟨a1,a2⟩:=kz nm w;obtain⟨b1,b2⟩:=jQh (nm:=nm) w';refine⟨by rw[i6,a1,b1];rfl,λk=>?_⟩;rw[qF,i6];have:=a2 k;have:=b2 (k-(fl nm h).length);omega
theorem vh:∀{t:Tr},Wt n t->∀A B,fl nm t=A++B->dp A=0->∃a b,t=ap a b/\fl nm a=A/\fl nm b=B
 | t,_,[],B,h,_=>⟨.nil,t,rfl,rfl,by simpa using h⟩
 | .nil,_,x::A,B,h,_=>by cases h
 | .ln s r,w,x::A,B,h,h0=>by
  rw[fl,Jo] at h;obtain⟨rfl,h'⟩:=List.cons.inj h;rw[bX,(oJ w.1).1] at h0;obtain⟨a,b,rfl,h1,h2⟩:=vh w.2 A B h' (by omega);exact⟨.ln s a,b,rfl,by rw[fl,h1],h2⟩
 | .sc v ng h l r,w,x::A,B,hf,h0=>by
  obtain⟨_,w1,w2,w3⟩:=w;rw[cR,Jo] at hf;obtain⟨rfl,Q1⟩:=List.cons.inj hf;rw[bX,rK] at h0;obtain⟨d1,d2⟩:=jQi (nm:=nm) w1 w2;rcases List.append_eq_append_iff.1 Q1 with⟨a',rfl,ha⟩ | ⟨c',hc,rfl⟩
  ·cases a' with
   | nil=>rw[KE] at h0;omega
   | cons y a'=>
    rw[Jo] at ha;obtain⟨rfl,tu⟩:=List.cons.inj ha;rw[i6,bX,yk] at h0;obtain⟨a,b,rfl,h1,h2⟩:=vh w3 a' B tu (by omega);exact⟨.sc v ng h l a,b,rfl,by rw[cR,h1],h2⟩
  ·have:=d2 A.length;rw[hc,List.take_left] at this;omega
def rN (nm:List (List Nat))(n:Nat):Prop:=∀v v' ng ng',v<n->v'<n->J4 nm v ng=J4 nm v' ng'->v=v'/\ng=ng'
theorem UC (l:Tr)(z:List (List Nat)):(l= .nil/\Y7 nm l++Zb::z=Zb::z)∨(l≠ .nil/\Y7 nm l++Zb::z=Kz::(fl nm l++Zb::z)):=by
 cases l with
 | nil=>exact .inl ⟨rfl,rfl⟩
 | _=>exact .inr ⟨(by intro e;cases e),by simp[Y7]⟩
theorem mt (hI:rN nm n):∀{a:Tr},Wt n a->∀{a':Tr},Wt n a'->∀{x x':List Nat}{y y':List (List Nat)},(x=Kz∨x=Zb)->(x'=Kz∨x'=Zb)->fl nm a++x::y=fl nm a'++x'::y'->a=a'/\x=x'/\y=y'
 | .nil,_,.nil,_,x,x',y,y',_,_,h=>by obtain⟨h1,h2⟩:=List.cons.inj h;exact⟨rfl,h1,h2⟩
 | .nil,_,.ln s r,w,x,x',y,y',hx,_,h=>by
  have h:=(List.cons.inj h).1;subst h;have:=oJ w.1;rcases hx with e | e
  ·exact Xc e this.2.2.1
  ·exact Xc e this.2.1
 | .nil,_,.sc v ng p q r,w,x,x',y,y',hx,_,h=>by
  rw[cR] at h;have h:=(List.cons.inj h).1;have e:=rK nm v ng;rw[<-h] at e;rcases hx with rfl | rfl
  ·rw[u7] at e;cases e
  ·rw[yk] at e;cases e
 | .ln s r,w,.nil,_,x,x',y,y',_,hx,h=>by
  have h:=(List.cons.inj h).1;subst h;have:=oJ w.1;rcases hx with e | e
  ·exact Xc e this.2.2.1
  ·exact Xc e this.2.1
 | .ln s r,w,.ln s' r',w',x,x',y,y',hx,KW,h=>by
  rw[fl,fl,Jo,Jo] at h;obtain⟨rfl,h'⟩:=List.cons.inj h;obtain⟨rfl,h1,h2⟩:=mt hI w.2 w'.2 hx KW h';exact⟨rfl,h1,h2⟩
 | .ln s r,w,.sc v ng p q r',w',x,x',y,y',_,_,h=>by
  rw[fl,cR] at h;have h:=(List.cons.inj h).1;have e:=(oJ w.1).1;rw[h,rK] at e;cases e
 | .sc v ng p q r,w,.nil,_,x,x',y,y',_,hx,h=>by
  rw[cR] at h;have h:=(List.cons.inj h).1;have e:=rK nm v ng;rw[h] at e;rcases hx with rfl | rfl
  ·rw[u7] at e;cases e
  ·rw[yk] at e;cases e
 | .sc v ng p q r',w,.ln s r,w',x,x',y,y',_,_,h=>by
  rw[fl,cR] at h;have h:=(List.cons.inj h).1;have e:=(oJ w'.1).1;rw[<-h,rK] at e;cases e
 | .sc v ng p q r,w,.sc v' ng' p' q' r',w',x,x',y,y',hx,KW,h=>by
  rw[cR,cR,Jo,Jo] at h;obtain⟨h0,hq⟩:=List.cons.inj h;obtain⟨e0,e0'⟩:=hI v v' ng ng' w.1 w'.1 h0;subst e0 e0';rw[ZG,ZG,ZG,ZG,Jo,Jo] at hq;rcases UC (nm:=nm) q (fl nm r++x::y)with⟨e1,e2⟩ | ⟨e1,e2⟩<;>rcases UC (nm:=nm) q' (fl nm r'++x'::y')with⟨f1,f2⟩ | ⟨f1,f2⟩<;>rw[e2,f2] at hq
  ·obtain⟨k1,_,k2⟩:=mt hI w.2.1 w'.2.1 (.inr rfl) (.inr rfl) hq;obtain⟨k3,h1,h2⟩:=mt hI w.2.2.2 w'.2.2.2 hx KW k2;exact⟨by rw[k1,k3,e1,f1],h1,h2⟩
  ·obtain⟨_,e,_⟩:=mt hI w.2.1 w'.2.1 (.inr rfl) (.inl rfl) hq;exact Xc e (by decide)
  ·obtain⟨_,e,_⟩:=mt hI w.2.1 w'.2.1 (.inl rfl) (.inr rfl) hq;exact Xc e (by decide)
  ·obtain⟨k1,_,k2⟩:=mt hI w.2.1 w'.2.1 (.inl rfl) (.inl rfl) hq;obtain⟨k3,_,k4⟩:=mt hI w.2.2.1 w'.2.2.1 (.inr rfl) (.inr rfl) k2;obtain⟨k5,h1,h2⟩:=mt hI w.2.2.2 w'.2.2.2 hx KW k4;exact⟨by rw[k1,k3,k5],h1,h2⟩
theorem Id (hI:rN nm n){a a':Tr}(w:Wt n a)(w':Wt n a')(h:fl nm a=fl nm a'):a=a':=
 (mt hI w w' (x:=Zb) (x':=Zb) (y:=[]) (y':=[]) (.inr rfl) (.inr rfl) (by rw[h])).1
def kA (v:Nat)(h l e:Tr):Tr:=match h with
 | .nil=>.sc v true l .nil e
 | h=>.sc v false h l e
theorem rO {v:Nat}{h l e:Tr}(hh:h≠ .nil):kA v h l e= .sc v false h l e:=by
 cases h with
 | nil=>exact Xc rfl hh
 | _=>rfl
theorem UD {l:Tr}(hh:l≠ .nil):Y7 nm l=Kz::fl nm l:=by
 cases l with
 | nil=>exact Xc rfl hh
 | _=>rfl
def Ie (a b:List (List Nat)):Prop:=∀s,XS s= .txt->¬(a.head? =some s/\b.head? =some s)/\¬(a.getLast? =some s/\b.getLast? =some s)
theorem C0 {t:Tr}:fl nm t=[]↔t= .nil:=by
 cases t with
 | nil=>simp[fl]
 | ln s r=>simp[fl]
 | sc v ng h l r=>rw[cR];simp
theorem jQj (hI:rN nm n){v:Nat}{H L:Tr}(wH:Wt n H)(wL:Wt n L)(QX:fl nm H≠fl nm L):
  ∃P H2 L2 E,H=ap P (ap H2 E)/\L=ap P (ap L2 E)/\av nm v (fl nm H) (fl nm L)=fl nm (ap P (kA v H2 L2 E))/\(H2≠ .nil∨L2≠ .nil)/\Ie (fl nm H2) (fl nm L2):=by
 obtain⟨p1,p2,p3,p4,p5⟩:=CE (fl nm H) (fl nm L);generalize hp:Yw (fl nm H) (fl nm L)=p at*;obtain⟨P,H1,rfl,a1,a2⟩:=vh wH _ _ (aQ p (fl nm H)).symm p4;obtain⟨P',L1,rfl,b1,b2⟩:=vh wL _ _ (aQ p (fl nm L)).symm (by rw[<-p3];exact p4);obtain⟨wP,M1⟩:=i7.1 wH;obtain⟨wP',M2⟩:=i7.1 wL;have hPP:P=P':=Id hI wP wP' (by rw[a1,b1,p3]);subst hPP;have hPl:(fl nm P).length=p:=by rw[a1,Kx];omega
 obtain⟨s1,s2,s3,s4,s5⟩:=HS (fl nm H1) (fl nm L1);have hj:av nm v (fl nm (ap P H1)) (fl nm (ap P L1))=fl nm P++((if(fl nm H1).take ((fl nm H1).length-au (fl nm H1) (fl nm L1))=[] then J4 nm v true::(fl nm L1).take ((fl nm L1).length-au (fl nm H1) (fl nm L1))else J4 nm v false::((fl nm H1).take ((fl nm H1).length-au (fl nm H1) (fl nm L1))++if(fl nm L1).take ((fl nm L1).length-au (fl nm H1) (fl nm L1))=[] then [] else Kz::(fl nm L1).take ((fl nm L1).length-au (fl nm H1) (fl nm L1))))++Zb::(fl nm H1).drop ((fl nm H1).length-au (fl nm H1) (fl nm L1))):=by
  unfold av;simp only[hp];rw[<-a1,<-a2,<-b2]
 generalize au (fl nm H1) (fl nm L1)=s at*;have e1:dp ((fl nm H1).take ((fl nm H1).length-s))=0:=by
  have:=(kz nm M1).1;rw[<-aQ ((fl nm H1).length-s) (fl nm H1),i6,s4] at this;omega
 have e2:dp ((fl nm L1).take ((fl nm L1).length-s))=0:=by
  have:=(kz nm M2).1;rw[<-aQ ((fl nm L1).length-s) (fl nm L1),i6,<-s3,s4] at this;omega
 obtain⟨H2,E,rfl,c1,c2⟩:=vh M1 _ _ (aQ ((fl nm H1).length-s) (fl nm H1)).symm e1;obtain⟨L2,E',rfl,d1,d2⟩:=vh M2 _ _ (aQ ((fl nm L1).length-s) (fl nm L1)).symm e2;obtain⟨wH2,wE⟩:=i7.1 M1;obtain⟨wL2,wE'⟩:=i7.1 M2;have hEE:E=E':=Id hI wE wE' (by rw[c2,d2,s3]);subst hEE;have hEl:(fl nm E).length=s:=by rw[c2,Y1];omega
 refine⟨P,H2,L2,E,rfl,rfl,?_,?_,λx hx=>⟨λhh=>?_,λhh=>?_⟩⟩
 ·rw[hj,<-c1,<-c2,<-d1,gY];congr 1;by_cases e1:H2= .nil
  ·subst e1;rw[Qf (C0.2 rfl),kA,cR];simp[Y7]
  ·rw[if_neg (λe=>e1 (C0.1 e)),rO e1,cR];by_cases e2:L2= .nil
   ·subst e2;rw[Qf (C0.2 rfl)];simp[Y7]
   ·rw[if_neg (λe=>e2 (C0.1 e)),UD e2];simp
 ·by_cases h:H2= .nil
  ·right
   intro h';subst h h';exact QX rfl
  ·exact .inl h
 ·obtain⟨h1,h2⟩:=hh;have:=p5 (p+1);cases hq:fl nm H2 with
  | nil=>rw[hq] at h1;cases h1
  | cons y A=>
   cases hq':fl nm L2 with
   | nil=>rw[hq'] at h2;cases h2
   | cons y' A'=>
    rw[hq] at h1;rw[hq'] at h2;cases h1;cases h2;rw[gY,gY,gY,gY,hq,hq',<-hPl] at this;have t1:∀z:List (List Nat),(fl nm P++(x::z)).take ((fl nm P).length+1)=fl nm P++ [x]:=λz=>by rw[qF];simp[ZS]
    rw[Jo,Jo,t1,t1,i6,(kz nm wP).1] at this;have:=this (by simp) (by simp) rfl (by simp[dp,(oJ hx).1]);omega
 ·obtain⟨h1,h2⟩:=hh;have:=s5 (s+1);rcases qM (fl nm H2)with hq | ⟨A,y,hq⟩
  ·rw[hq] at h1;cases h1
  rcases qM (fl nm L2)with hq' | ⟨A',y',hq'⟩
  ·rw[hq'] at h2;cases h2
  rw[List.concat_eq_append] at hq hq';rw[hq] at h1;rw[hq'] at h2;simp only[List.getLast?_concat,Option.some.injEq] at h1 h2;subst h1 h2;rw[gY,gY,hq,hq'] at this;have t1:∀z:List (List Nat),(z++ [y']++fl nm E).drop ((z++ [y']++fl nm E).length-(s+1))=y'::fl nm E:=λz=>by
   rw[ZG,show(z++([y']++fl nm E)).length-(s+1)=z.length by simp only[Qq,Q2,Jp];omega,nT];rfl
  rw[t1,t1,bX,(oJ hx).1,(kz nm wE).1] at this;have:=this (by simp only[Qq,Q2,Jp];omega) (by simp only[Qq,Q2,Jp];omega) rfl rfl;omega
end
section
variable {nm:List (List Nat)} {n:Nat}
def Ko (e:Nat->Bool):Tr->List (List Nat)
 | .nil=>[]
 | .ln s r=>s::Ko e r
 | .sc v ng h l r=>(if(e v !=ng)=true then Ko e h else Ko e l)++Ko e r
theorem rP (e:Nat->Bool):∀a b:Tr,Ko e (ap a b)=Ko e a++Ko e b
 | .nil,b=>rfl
 | .ln s r,b=>by rw[ap,Ko,Ko,rP e r b]<;>rfl
 | .sc v ng h l r,b=>by rw[ap,Ko,Ko,rP e r b];simp
theorem jQk (e:Nat->Bool)(v:Nat)(h l r:Tr):Ko e (kA v h l r)=(if e v=true then Ko e h else Ko e l)++Ko e r:=by
 by_cases hh:h= .nil
 ·subst hh;show(if(e v !=true)=true then Ko e l else [])++Ko e r=(if e v=true then [] else Ko e l)++Ko e r;generalize e v=b;cases b<;>rfl
 ·rw[rO hh];show(if(e v !=false)=true then Ko e h else Ko e l)++Ko e r=_;generalize e v=b;cases b<;>rfl
def cV (nm:List (List Nat)):Tr->Prop
 | .nil=>True
 | .ln _ r=>cV nm r
 | .sc _ _ h l r=>h≠ .nil/\(l≠ .nil->Ie (fl nm h) (fl nm l))/\cV nm h/\cV nm l/\cV nm r
theorem rQ:∀{a b:Tr},cV nm (ap a b)↔cV nm a/\cV nm b
 | .nil,b=>by simp[ap,cV]
 | .ln s r,b=>by simp[ap,cV,rQ (a:=r) (b:=b)]
 | .sc v ng h l r,b=>by simp[ap,cV,rQ (a:=r) (b:=b),and_assoc]
theorem jQl {v:Nat}{h l r:Tr}(h1:h≠ .nil∨l≠ .nil)(h2:Ie (fl nm h) (fl nm l))(h3:cV nm h)(h4:cV nm l)(h5:cV nm r):cV nm (kA v h l r):=by
 by_cases hh:h= .nil
 ·subst hh;exact⟨h1.resolve_left (λe=>e rfl),λe=>Xc rfl e,h4,trivial,h5⟩
 ·rw[rO hh];exact⟨hh,λ_=>h2,h3,h4,h5⟩
def dT:Tr->Nat
 | .nil=>0
 | .ln _ r=>dT r
 | .sc _ _ h l r=>max (1+max (dT h) (dT l)) (dT r)
theorem yv:∀a b:Tr,dT (ap a b)=max (dT a) (dT b)
 | .nil,b=>by simp[ap,dT]
 | .ln s r,b=>by rw[ap,dT,dT,yv r b]
 | .sc v ng h l r,b=>by rw[ap,dT,dT,yv r b,Nat.max_assoc]
theorem jQm (v:Nat)(h l r:Tr):dT (kA v h l r)<=max (1+max (dT h) (dT l)) (dT r):=by
 by_cases hh:h= .nil
 ·subst hh;show max (1+max (dT l) 0) (dT r)<=_;simp only[dT];omega
 ·rw[rO hh];exact QB _
def Y8 (P:List Nat->Prop):Tr->Prop
 | .nil=>True
 | .ln s r=>P s/\Y8 P r
 | .sc _ _ h l r=>Y8 P h/\Y8 P l/\Y8 P r
theorem rR {P:List Nat->Prop}:∀{a b:Tr},Y8 P (ap a b)↔Y8 P a/\Y8 P b
 | .nil,b=>by simp[ap,Y8]
 | .ln s r,b=>by simp[ap,Y8,rR (a:=r) (b:=b),and_assoc]
 | .sc v ng h l r,b=>by simp[ap,Y8,rR (a:=r) (b:=b),and_assoc]
theorem jQn {P:List Nat->Prop}{v:Nat}{h l r:Tr}(h1:Y8 P h)(h2:Y8 P l)(h3:Y8 P r):Y8 P (kA v h l r):=by
 by_cases hh:h= .nil
 ·subst hh;exact⟨h2,trivial,h3⟩
 ·rw[rO hh];exact⟨h1,h2,h3⟩
theorem jQo {v:Nat}{h l r:Tr}(h0:v<n)(h1:Wt n h)(h2:Wt n l)(h3:Wt n r):Wt n (kA v h l r):=by
 by_cases hh:h= .nil
 ·subst hh;exact⟨h0,h2,trivial,h3⟩
 ·rw[rO hh];exact⟨h0,h1,h2,h3⟩
theorem jQp (v:Nat)(h l r:Tr):(fl nm (kA v h l r)).length<=(fl nm h).length+(fl nm l).length+(fl nm r).length+3:=by
 by_cases hh:h= .nil
 ·subst hh;rw[kA,cR];simp[Y7,fl];omega
 ·rw[rO hh,cR];by_cases hl:l= .nil
  ·subst hl;simp[Y7,fl];omega
  ·rw[UD hl];simp;omega
def je:List (List Nat)->Tr
 | []=>.nil
 | s::l=>.ln s (je l)
theorem yw:∀l:List (List Nat),fl nm (je l)=l
 | []=>rfl
 | s::l=>by rw[je,fl,yw l]
theorem If (e:Nat->Bool):∀l:List (List Nat),Ko e (je l)=l
 | []=>rfl
 | s::l=>by rw[je,Ko,If e l]
theorem UE:∀l:List (List Nat),cV nm (je l)
 | []=>trivial
 | s::l=>UE l
theorem Ig:∀l:List (List Nat),dT (je l)=0
 | []=>rfl
 | s::l=>Ig l
theorem Ih:∀{l:List (List Nat)},(∀s∈l,XS s= .txt)->Wt n (je l)
 | [],_=>trivial
 | s::l,h=>⟨h s (by simp),Ih (λt ht=>h t (by simp[ht]))⟩
theorem Ii {P:List Nat->Prop}:∀{l:List (List Nat)},(∀s∈l,P s)->Y8 P (je l)
 | [],_=>trivial
 | s::l,h=>⟨h s (by simp),Ii (λt ht=>h t (by simp[ht]))⟩
def Zn (nm:List (List Nat))(f:Nat->List Nat):Nat->Nat->List Nat->List (List Nat)
 | 0,_,l=>QF (f (l.headD 0))
 | k+1,v,l=>if∀c∈l,f c=f (l.headD 0)then QF (f (l.headD 0))else
  if l.filter (λc=> !c.testBit v)=[]∨l.filter (λc=>c.testBit v)=[] then Zn nm f k (v+1) l else
  if Zn nm f k (v+1) (l.filter (λc=>c.testBit v))=Zn nm f k (v+1) (l.filter (λc=> !c.testBit v))then Zn nm f k (v+1) (l.filter (λc=>c.testBit v))else
  av nm v (Zn nm f k (v+1) (l.filter (λc=>c.testBit v))) (Zn nm f k (v+1) (l.filter (λc=> !c.testBit v)))
theorem vi {l:List Nat}(h:l≠ []):l.headD 0∈l:=by
 cases l with
 | nil=>exact Xc rfl h
 | cons a l=>simp
theorem yx {f:Nat->List Nat}{l:List Nat}(hl:l≠ []){t:List Nat}(h:∀c∈l,f c=t):∀k v,Zn nm f k v l=QF t:=by
 have h0:=h _ (vi hl);intro k v;cases k with
 | zero=>rw[Zn,h0]
 | succ k=>rw[Zn,Qf (λc hc=>by rw[h c hc,h0]),h0]
theorem rS {f:Nat->List Nat}{l:List Nat}(hl:l≠ [])(k v:Nat):Zn nm f (k+1) v l=
  if l.filter (λc=> !c.testBit v)=[]∨l.filter (λc=>c.testBit v)=[] then Zn nm f k (v+1) l else
  if Zn nm f k (v+1) (l.filter (λc=>c.testBit v))=Zn nm f k (v+1) (l.filter (λc=> !c.testBit v))then Zn nm f k (v+1) (l.filter (λc=>c.testBit v))else
  av nm v (Zn nm f k (v+1) (l.filter (λc=>c.testBit v))) (Zn nm f k (v+1) (l.filter (λc=> !c.testBit v))):=by
 by_cases hc:∀c∈l,f c=f (l.headD 0)
 ·rw[yx hl hc,yx hl hc];split
  ·rfl
  ·rename_i h;have h1:l.filter (λc=> !c.testBit v)≠ []:=λe=>h (.inl e)
   have h2:l.filter (λc=>c.testBit v)≠ []:=λe=>h (.inr e)
   rw[yx h1 (λc hm=>hc c (Jy.1 hm).1),yx h2 (λc hm=>hc c (Jy.1 hm).1),Qf rfl]
 ·rw[Zn,if_neg hc]
def jQq (t:List Nat):Prop:=∀s∈QF t,XS s= .txt
def Apt (l:List Nat)(v k:Nat):Prop:=∀c∈l,∀c'∈l,(∀i,v<=i->i<v+k->c.testBit i=c'.testBit i)->c=c'
theorem Apt.sub {l m:List Nat}{v k:Nat}(h:Apt l v (k+1))(hm:∀c∈m,c∈l)(he:∀c∈m,∀c'∈m,c.testBit v=c'.testBit v):Apt m (v+1) k:=λc hc c' ZZ hb=>h c (hm c hc) c' (hm c' ZZ) (λi h1 h2=>by
 by_cases e:i=v
 ·subst e;exact he c hc c' ZZ
 ·exact hb i (by omega) (by omega))
theorem C1 (hI:rN nm n){f:Nat->List Nat}{P:List Nat->Prop}{M:Nat}:∀(k v:Nat)(l:List Nat),v+k<=n->l≠ []->Apt l v k->(∀c∈l,jQq (f c)/\(∀s∈QF (f c),P s)/\(QF (f c)).length<=M)->
  ∃T,Zn nm f k v l=fl nm T/\Wt n T/\cV nm T/\dT T<=k/\Y8 P T/\(fl nm T).length+3<=l.length*(M+3)/\∀c∈l,Ko (λi=>c.testBit i) T=QF (f c)
 | 0,v,l,hv,hl,ha,hp=>by
  have h0:=hp _ (vi hl);have hall:∀c∈l,c=l.headD 0:=λc hc=>ha c hc _ (vi hl) (λi h1 h2=>by omega)
  refine⟨je (QF (f (l.headD 0))),by rw[yw,Zn],Ih h0.1,UE _,by rw[Ig];exact QB _,Ii h0.2.1,?_,λc hc=>by rw[If,hall c hc]⟩;rw[yw];have:1<=l.length:=tY.2 hl;have:=WN (M+3) this;have:=h0.2.2;omega
 | k+1,v,l,hv,hl,ha,hp=>by
  rw[rS hl];split
  ·rename_i h;have he:∀c∈l,∀c'∈l,c.testBit v=c'.testBit v:=by
    rcases h with h | h
    ·have:=tZ.1 h;intro c hc c' ZZ;have h1:=this c hc;have h2:=this c' ZZ;simp at h1 h2;rw[h1,h2]
    ·have:=tZ.1 h;intro c hc c' ZZ;have h1:=this c hc;have h2:=this c' ZZ;simp at h1 h2;rw[h1,h2]
   obtain⟨T,h1,h2,h3,h4,h5⟩:=C1 hI (P:=P) (M:=M) k (v+1) l (by omega) hl (ha.sub (λc hc=>hc) he) hp;exact⟨T,h1,h2,h3,by omega,h5⟩
  ·rename_i h;have n1:l.filter (λc=> !c.testBit v)≠ []:=λe=>h (.inl e)
   have n2:l.filter (λc=>c.testBit v)≠ []:=λe=>h (.inr e)
   have m1:∀c∈l.filter (λc=> !c.testBit v),c∈l/\c.testBit v=false:=λc hc=>by have:=Jy.1 hc;exact⟨this.1,by simpa using this.2⟩
   have m2:∀c∈l.filter (λc=>c.testBit v),c∈l/\c.testBit v=true:=λc hc=>by have:=Jy.1 hc;exact⟨this.1,by simpa using this.2⟩
   have QZ:(l.filter (λc=>c.testBit v)).length+(l.filter (λc=> !c.testBit v)).length=l.length:=by
    clear h hl ha hp n1 n2 m1 m2;induction l with
    | nil=>rfl
    | cons a l ih=>by_cases e:a.testBit v=true<;>simp[fD,e]<;>omega
   obtain⟨L,a1,a2,a3,a4,a5,a6,a7⟩:=C1 hI (P:=P) (M:=M) k (v+1) _ (by omega) n1 (ha.sub (λc hc=>(m1 c hc).1) (λc hc c' ZZ=>by rw[(m1 c hc).2,(m1 c' ZZ).2])) (λc hc=>hp c (m1 c hc).1);obtain⟨H,b1,b2,b3,b4,b5,b6,b7⟩:=C1 hI (P:=P) (M:=M) k (v+1) _ (by omega) n2 (ha.sub (λc hc=>(m2 c hc).1) (λc hc c' ZZ=>by rw[(m2 c hc).2,(m2 c' ZZ).2])) (λc hc=>hp c (m2 c hc).1);rw[a1,b1];have qg:l.length*(M+3)=(l.filter (λc=>c.testBit v)).length*(M+3)+(l.filter (λc=> !c.testBit v)).length*(M+3):=by rw[<-lr,QZ]
   split
   ·rename_i e;have hHL:H=L:=Id hI b2 a2 e;subst hHL;refine⟨H,rfl,b2,b3,by omega,b5,by omega,λc hc=>?_⟩;cases hb:c.testBit v with
    | true=>exact b7 c (Jy.2 ⟨hc,hb⟩)
    | false=>exact a7 c (Jy.2 ⟨hc,by simp[hb]⟩)
   ·rename_i e;obtain⟨Q,H2,L2,E,rfl,rfl,hj,QX,Wg⟩:=jQj hI (v:=v) b2 a2 e;obtain⟨q1,q2⟩:=i7.1 b2;obtain⟨q2,q3⟩:=i7.1 q2;obtain⟨_,r2⟩:=i7.1 a2;obtain⟨r2,_⟩:=i7.1 r2;obtain⟨s1,s2⟩:=rQ.1 b3;obtain⟨s2,s3⟩:=rQ.1 s2;obtain⟨_,t2⟩:=rQ.1 a3;obtain⟨t2,_⟩:=rQ.1 t2;obtain⟨u1,u2⟩:=rR.1 b5;obtain⟨u2,u3⟩:=rR.1 u2;obtain⟨_,w2⟩:=rR.1 a5;obtain⟨w2,_⟩:=rR.1 w2;rw[yv,yv] at a4 b4;rw[gY,gY,Qq,Qq] at a6 b6;rw[hj];refine⟨_,rfl,i7.2 ⟨q1,jQo (by omega) q2 r2 q3⟩,rQ.2 ⟨s1,jQl QX Wg s2 t2 s3⟩,?_,rR.2 ⟨u1,jQn u2 w2 u3⟩,?_,λc hc=>?_⟩
    ·rw[yv];have:=jQm v H2 L2 E;omega
    ·rw[gY,Qq];have:=jQp (nm:=nm) v H2 L2 E;omega
    ·rw[rP,jQk];cases hb:c.testBit v with
     | true=>
      have:=b7 c (Jy.2 ⟨hc,hb⟩);rw[rP,rP] at this;rw[Qf rfl];exact this
     | false=>
      have:=a7 c (Jy.2 ⟨hc,by simp[hb]⟩);rw[rP,rP] at this;rw[if_neg (by decide)];exact this
end
section
section
def ChG:Nat->List Sg->Nat->Prop
 | a,[],b=>a=b
 | a,s::l,b=>s.f=a/\ChG s.t l b
theorem ChG.snoc {x:Sg}:∀{l:List Sg}{a b:Nat},ChG a (l++ [x]) b↔ChG a l x.f/\x.t=b
 | [],a,b=>by simp only[bO,ChG];exact⟨λh=>⟨h.1.symm,h.2⟩,λh=>⟨h.1.symm,h.2⟩⟩
 | s::l,a,b=>by
  simp only[Jo,ChG];rw[ChG.snoc (l:=l)];exact⟨λh=>⟨⟨h.1,h.2.1⟩,h.2.2⟩,λh=>⟨h.1.1,h.1.2,h.2⟩⟩
structure SgOk (fs:List (List Nat×List Nat)) (tx:List Nat) (s:Sg):Prop where
 ft:s.f<s.t
 tl:s.t<=tx.length
 nl:tx[s.t-1]? =some 10
 src:∃x,fs[s.fl]? =some x/\s.at_+(s.t-s.f)<=x.2.length/\(x.2.drop s.at_).take (s.t-s.f)=(tx.take s.t).drop s.f
theorem SgOk.app {fs:List (List Nat×List Nat)}{tx:List Nat}{s:Sg}(h:SgOk fs tx s)(l:List Nat):SgOk fs (tx++l) s:=by
 obtain⟨h1,h2,h3,x,h4,h5,h6⟩:=h;refine⟨h1,by rw[Qq];omega,by rw[gI (by omega)];exact h3,x,h4,h5,?_⟩;rw[Ga h2];exact h6
structure GInv (fs:List (List Nat×List Nat)) (g:Gs):Prop where
 ch:ChG 0 g.sg g.tx.length
 ok:∀s∈g.sg,SgOk fs g.tx s
theorem GInv.fr {fs:List (List Nat×List Nat)}{g:Gs}(h:GInv fs g)(b:Bool):GInv fs {g with fr:=b}:=⟨h.ch,h.ok⟩
def jf (n p:Nat)(k:BF)(g:Gs):Prop:=g.fr=false->∃l x,g.sg=l++ [x]/\x.fl=n/\x.at_+(x.t-x.f)=p/\x.o=k
theorem Ij {fs:List (List Nat×List Nat)}{n p:Nat}{k:BF}{g g':Gs}{s:List Nat}(h:GInv fs g)(hc:jf n p k g){x:List Nat×List Nat}(hx:fs[n]? =some x)(hs:x.2.drop p=s++x.2.drop (p+s.length))(hp:p+s.length<=x.2.length)(hl:s.getLast? =some 10)
  (ha:Vt s n p k g=some g'):GInv fs g'/\jf n (p+s.length) k g':=by
 unfold Vt at ha;split at ha
 ·cases ha
 cases ha;have DC:0<s.length:=by
  cases s with
  | nil=>cases hl
  | cons _ _=>simp
 have KC:(g.tx++s)[g.tx.length+s.length-1]? =some 10:=by
  rw[aS (by omega),show g.tx.length+s.length-1-g.tx.length=s.length-1 by omega,<-tW];exact hl
 cases hf:g.fr with
 | true=>
  rw[Qf rfl,iY];refine⟨⟨?_,λy hy=>?_⟩,λ_=>⟨_,_,rfl,rfl,?_,rfl⟩⟩
  ·simp only;rw[ChG.snoc];exact⟨h.ch,by simp⟩
  ·simp only[XP,QO] at hy;rcases hy with hy | rfl
   ·exact(h.ok y hy).app s
   ·refine⟨by simp only;omega,by simp,KC,x,hx,by simp only;omega,?_⟩;simp only;rw[show g.tx.length+s.length-g.tx.length=s.length by omega,hs,List.take_left,ZS (by simp),nT]
  ·simp only;omega
 | false=>
  rw[if_neg (by decide)];obtain⟨l,y,e,e1,e2,e3⟩:=hc hf;have JH:=h.ch;have X5:=h.ok;rw[e] at JH X5;rw[ChG.snoc] at JH;obtain⟨q1,q2,q3,z,q4,q5,q6⟩:=X5 y (by simp);rw[e,iY];have hz:z=x:=by rw[e1,hx] at q4;exact(Option.some.inj q4).symm
  subst hz;refine⟨⟨?_,λu hu=>?_⟩,λ_=>⟨_,_,rfl,e1,?_,e3⟩⟩
  ·simp only;rw[ChG.snoc];exact⟨JH.1,by simp⟩
  ·simp only[XP,QO] at hu;rcases hu with hu | rfl
   ·exact(X5 u (by simp[hu])).app s
   ·refine⟨by simp only;omega,by simp,KC,z,q4,by simp only;omega,?_⟩;simp only;rw[show g.tx.length+s.length-y.f=(y.t-y.f)+s.length by omega,ZS (l:=g.tx++s) (by simp),PU (by omega)];rw[List.take_add,nM,e2,hs,List.take_left,q6,JH.2,qI]
  ·simp only;omega
theorem UF {nm:List (List Nat)}{fs:List (List Nat×List Nat)}{n d0:Nat}{inc:oM}{x:List Nat×List Nat}(hx:fs[n]? =some x)
  (hi:∀r ln d k g g',inc r ln d k g= .ok g'->GInv fs g->GInv fs g'):∀(ls:List (List Nat)) (ln at_:Nat) (k:BF) (op:List Se) (g g':Gs),
  x.2.drop at_=Qp ls->at_<=x.2.length->GInv fs g->jf n at_ k g->Jb nm n d0 inc ls ln at_ k op g= .ok g'->GInv fs g'/\g'.fr=true
 | [],ln,at_,k,op,g,g',_,_,hg,_,hr=>by
  cases op with
  | nil=>simp only[Jb,Except.ok.injEq] at hr;subst hr;exact⟨hg.fr true,rfl⟩
  | cons _ _=>simp[Jb] at hr
 | s::ls,ln,at_,k,op,g,g',hd,aN,hg,hc,hr=>by
  have XL:x.2.drop at_=(s++ [10])++Qp ls:=by rw[hd,V4];simp
  have hL:(s++ [10]).length=s.length+1:=by simp
  have QZ:x.2.length-at_=s.length+1+(Qp ls).length:=by
   have:=QC List.length XL;simp only[Y1,Qq,Q2,Jp] at this;omega
  have br:x.2.drop (at_+s.length+1)=Qp ls:=by
   rw[show at_+s.length+1=at_+(s++ [10]).length by simp;omega,<-nM,XL,nT]
  have ih:=λk op g g' h1 h2 h3=>UF (nm:=nm) (d0:=d0) hx hi ls (ln+1) (at_+s.length+1) k op g g' br (by omega) h1 h2 h3
  have cf:∀k' (g:Gs),jf n (at_+s.length+1) k' {g with fr:=true}:=λk' g h=>by cases h
  rw[Jb.eq_def] at hr;simp only at hr;cases Xt:XS s with
  | txt=>
   rw[Xt] at hr;simp only at hr;cases ha:Vt (s++ [10]) n at_ k g with
   | none=>rw[ha] at hr;cases hr
   | some g1=>
    rw[ha] at hr;simp only at hr;obtain⟨i1,i2⟩:=Ij hg hc hx (by rw[hL,<-lq,br];exact XL) (by rw[hL];omega) (by simp) ha;exact ih k op g1 g' i1 (by rw[hL,<-lq] at i2;exact i2) hr
  | ifd r=>
   rw[Xt] at hr;simp only at hr;cases hs:V3 nm r with
   | error e=>rw[hs] at hr;cases hr
   | ok d=>
    rw[hs] at hr;simp only at hr;split at hr
    ·cases hr
    ·exact ih _ _ _ _ (hg.fr true) (cf _ _) hr
  | inc r=>
   rw[Xt] at hr;simp only at hr;cases hs:inc r (ln+1) (d0+op.length) k g with
   | error e=>rw[hs] at hr;cases hr
   | ok g1=>
    rw[hs] at hr;exact ih _ _ _ _ ((hi _ _ _ _ _ _ hs hg).fr true) (cf _ _) hr
  | elif r=>
   rw[Xt] at hr;cases op with
   | nil=>cases hr
   | cons y op=>
    simp only at hr;split at hr
    ·cases hr
    ·cases hs:V3 nm r with
     | error e=>rw[hs] at hr;cases hr
     | ok d=>rw[hs] at hr;exact ih _ _ _ _ (hg.fr true) (cf _ _) hr
  | els=>
   rw[Xt] at hr;cases op with
   | nil=>cases hr
   | cons y op=>
    simp only at hr;split at hr
    ·cases hr
    ·exact ih _ _ _ _ (hg.fr true) (cf _ _) hr
  | en=>
   rw[Xt] at hr;cases op with
   | nil=>cases hr
   | cons y op=>exact ih _ _ _ _ (hg.fr true) (cf _ _) hr
theorem UG {nm:List (List Nat)}{fs:List (List Nat×List Nat)}(hf:∀x∈fs,cP x.2):∀(f:Nat)(rd:List Nat)(d n:Nat)(k:BF)(g g':Gs),n<fs.length->GInv fs g->aq nm fs f rd d n k g= .ok g'->GInv fs g'/\g'.fr=true
 | 0,_,_,_,_,_,_,_,_,hr=>by cases hr
 | f+1,rd,d,n,k,g,g',hn,hg,hr=>by
  have hx:fs[n]? =some fs[n]:=Xu hn;rw[aq,hx] at hr;simp only[xb,gJ] at hr;refine UF hx ?_ (QF fs[n].2) 0 0 k [] {g with fr:=true} g' (by rw[tV,Yg (hf _ (PP hn))]) (Xo _) (hg.fr true) (λh=>by cases h) hr;intro r ln d' k' g1 g2 hi fV;cases he:dK (Jq (fs.map (·.1))) (n::rd) r with
  | error e=>rw[he] at hi;cases hi
  | ok m=>
   rw[he] at hi;simp only at hi;split at hi
   ·cases hi
   ·have hm:m<fs.length:=by
     obtain⟨_,tn,tF⟩:=H4 he;have:=lZ tF;simpa using this
    exact(UG hf f _ _ m _ g1 g2 hm fV hi).1
theorem UH {nm:List (List Nat)}{fs:List (List Nat×List Nat)}{root:List Nat}{g:Gs}(hr:Vh nm fs root= .ok g):GInv fs g/\fs.length<=256/\∀x∈fs,x.2.length<=1048576:=by
 unfold Vh at hr;split at hr
 ·cases hr
 cases Ve:Y6 fs with
 | some p=>rw[Ve] at hr;cases hr
 | none=>
  rw[Ve] at hr;simp only at hr;have nQJ:fs.length<=256:=by
   unfold Y6 at Ve;split at Ve
   ·cases Ve
   ·omega
  have hall:∀x∈fs,oH x.1=true/\bW x.2=true/\x.2.length<=1048576:=by
   unfold Y6 at Ve;rw[if_neg (by omega)] at Ve;exact CU fs [] 0 Ve
  cases KK:Jq (fs.map (·.1)) root with
  | none=>rw[KK] at hr;cases hr
  | some n=>
   rw[KK] at hr;simp only at hr;have hn:n<fs.length:=by have:=lZ KK;simpa using this
   exact⟨(UG (λx hx=>mr (hall x hx).2.1) 65 [] 0 n _ _ g hn (⟨rfl,λs hs=>by cases hs⟩:GInv fs ⟨[],[],false⟩) hr).1,nQJ,λx hx=>(hall x hx).2.2⟩
end
section
def mkX (s:Sg)(x:DV):Sx:=⟨s.f,s.t,s.fl,s.at_,x⟩
def AllS (k:Nat):List Sg->List Sx->Prop
 | [],[]=>True
 | s::l,y::m=>(y.f=s.f/\y.t=s.t/\y.fl=s.fl/\y.at_=s.at_/\Set1 k y.x.nd y.x.r s.o)/\AllS k l m
 | _,_=>False
theorem AllS.len {k:Nat}:∀{l:List Sg}{m:List Sx},AllS k l m->l.length=m.length
 | [],[],_=>rfl
 | _::_,_::_,h=>by simp[AllS.len h.2]
theorem AllS.get {k:Nat}:∀{l:List Sg}{m:List Sx}{i:Nat}{s:Sg}{y:Sx},AllS k l m->l[i]? =some s->m[i]? =some y->y.f=s.f/\y.t=s.t/\y.fl=s.fl/\y.at_=s.at_/\Set1 k y.x.nd y.x.r s.o
 | _::_,_::_,0,_,_,h,h1,h2=>by cases h1;cases h2;exact h.1
 | _::_,_::_,i+1,_,_,h,h1,h2=>AllS.get (i:=i) h.2 (by simpa using h1) (by simpa using h2)
theorem UI {w:World}{k:Nat}{A:Option Addr}{n c:Nat}{sg:List Sg}{L:List DV}(h:SgIn w k A n c sg L):∃M,SX w A n c M/\AllS k sg M:=by
 have key:∀(sg:List Sg) (L:List DV),L.length=sg.length->(∀(j:Nat) (s:Sg) (x:DV),sg[j]? =some s->L[j]? =some x->SB w x.A x.n x.c x.nd/\Set1 k x.nd x.r s.o)->
   ∃M:List Sx,M.flatMap Sx.cells=dN sg L/\M.length=sg.length/\(∀y∈M,SB w y.x.A y.x.n y.x.c y.x.nd)/\AllS k sg M:=by
  intro sg;induction sg with
  | nil=>
   intro L hl _;have:L=[]:=WO hl;subst this;exact⟨[],rfl,rfl,(λy hy=>by cases hy),⟨⟩⟩
  | cons s sg ih=>
   intro L hl hd;cases L with
   | nil=>cases hl
   | cons x L=>
    obtain⟨M,h1,h2,h3,h4⟩:=ih L (by simpa using hl) (λj s x h1 h2=>hd (j+1) s x (by simpa using h1) (by simpa using h2));obtain⟨d1,d2⟩:=hd 0 s x rfl rfl;refine⟨mkX s x::M,?_,by simp[h2],?_,⟨⟨rfl,rfl,rfl,rfl,d2⟩,h4⟩⟩
    ·rw[Vf,h1]<;>rfl
    ·intro y hy;rcases QY.1 hy with rfl | hy
     ·exact d1
     ·exact h3 y hy
 obtain⟨M,h1,h2,h3,h4⟩:=key sg L h.len h.dg;exact⟨M,⟨⟨by rw[h1];exact h.sl,by rw[h2];exact h.n⟩,h3⟩,h4⟩
theorem UJ {k:Nat}(hk:k<=12){fs:List (List Nat×List Nat)}{tx:List Nat}(iI:∀x∈fs,x.2.length<=1048576):∀{sg:List Sg}{M:List Sx}{a:Nat},AllS k sg M->ChG a sg tx.length->(∀s∈sg,SgOk fs tx s)->g9 tx a M
 | [],[],a,_,h,_=>by have:a=tx.length:=h;subst this;rfl
 | s::sg,y::M,a,h,hc,hs=>by
  obtain⟨⟨e1,e2,e3,e4,e5⟩,hr⟩:=h;obtain⟨q1,q2,q3,x,q4,q5,q6⟩:=hs s (by simp);have hx:=iI x (Xl q4);have hcf:s.f=a:=hc.1;refine⟨⟨by omega,by omega,by omega,?_,e5.chk hk,by omega,by omega,by omega⟩,?_⟩
  ·rw[show(y.t-1).toNat=s.t-1 by omega];exact q3
  ·rw[e2];exact UJ hk iI hr hc.2 (λz hz=>hs z (by simp[hz]))
theorem jQr {k:Nat}(hk:k<=12){nm:List (List Nat)}{fs:List (List Nat×List Nat)}{root:List Nat}{g:Gs}{M:List Sx}(hr:Vh nm fs root= .ok g)(hg:GsOk g)(hM:AllS k g.sg M):ja g.tx M=0:=by
 obtain⟨h1,h2,h3⟩:=UH hr;exact Um.2 ⟨hg.tl,by rw[<-hM.len];exact hg.sl,UJ hk h3 hM h1.ch h1.ok⟩
def C2 (e:Nat->Bool)(sg:List Sg):List Sg:=sg.filter (λs=>s.o e)
def Zz (tx:List Nat)(s:Sg):List Nat:=(tx.take s.t).drop s.f
def vj (tx:List Nat)(sg:List Sg)(e:Nat->Bool):List Nat:=(C2 e sg).flatMap (Zz tx)
def Ik:List Sg->List Sx->Prop
 | [],[]=>True
 | s::l,y::m=>(y.f=s.f/\y.t=s.t/\y.fl=s.fl/\y.at_=s.at_)/\Ik l m
 | _,_=>False
theorem AllS.on {k:Nat}(c:Nat):∀{l:List Sg}{m:List Sx},AllS k l m->Ik (C2 (Yh c) l) (VN c m)
 | [],[],_=>⟨⟩
 | s::l,y::m,⟨⟨h1,h2,h3,h4,h5⟩,h⟩=>by
  have ih:=h.on c;unfold C2 VN at ih ⊢;rw[fD,fD];have e:yu c y=s.o (Yh c):=h5.mean _;rw[e];split
  ·exact⟨⟨h1,h2,h3,h4⟩,ih⟩
  ·exact ih
theorem UK {tx:List Nat}:∀{l:List Sg}{m:List Sx},Ik l m->m.flatMap (cU tx)=l.flatMap (Zz tx)
 | [],[],_=>rfl
 | s::l,y::m,⟨⟨h1,h2,_,_⟩,h⟩=>by
  rw[Vf,Vf,UK h];unfold cU Zz;rw[h1,h2]<;>rfl
structure SrcIn (w:World) (k:Nat) (A:Option Addr) (c:Nat) (g:Gs):Prop where
 ok:GsOk g
 kl:k<=12
 ex:∃M,SX w A g.sg.length c M/\AllS k g.sg M/\ja g.tx M=0
theorem SrcIn.ext {w w':World}{k:Nat}{A:Option Addr}{c:Nat}{g:Gs}(h:SrcIn w k A c g)(hE:Ext w w'):SrcIn w' k A c g:=⟨h.ok,h.kl,let ⟨M,h1,h2,h3⟩:=h.ex;⟨M,h1.ext hE,h2,h3⟩⟩
theorem jQs {k:Nat}(hk:k<=12){nm:List (List Nat)}{fs:List (List Nat×List Nat)}{root:List Nat}{g:Gs}(hr:Vh nm fs root= .ok g){w:World}{A:Option Addr}{c:Nat}{L:List DV}(hg:GsOk g)(h:SgIn w k A g.sg.length c g.sg L):SrcIn w k A c g:=by
 obtain⟨M,h1,h2⟩:=UI h;exact⟨hg,hk,M,h1,h2,jQr hk hr hg h2⟩
section
variable {w:World} {k:Nat} {A:Option Addr} {c:Nat} {g:Gs}
theorem jQt (h:SrcIn w k A c g)(x:Nat)(hx:x<=18446744073709551615):Fn Tryz.prog 21 [rL g.tx A g.sg.length c,.int .u64 x] w (λu w'=>u= .string (Qd (vj g.tx g.sg (Yh x)))/\Ext w w'):=by
 obtain⟨M,h1,h2,h3⟩:=h.ex;refine(iQ6 g.tx A _ c M x w h1 hx h.ok.b8).mono ?_;rintro u w' ⟨rfl,hE⟩;exact⟨by unfold CX vj;rw[Qf h3,UK (h2.on x)],hE⟩
end
end
section
end
end
section
theorem jQu (A:Option Addr)(n c:Nat)(nd:List Br)(root:Int)(WM:Nat)(hcf:WM<=18446744073709551615)(w:World)(h:SB w A n c nd)(hc:XC nd root=0):
  Fn Tryz.prog 53 [Xm A n c root,.int .u64 WM] w (λv w'=>v= .bool (ev nd root (Yh WM))/\Ext w w'):=by
 have QZ:=h.2;obtain⟨Wf,hv⟩:=fL.1 hc;refine QJ (c:={c53 with cuts:=[]}) Qa Tryz.func53 rfl rfl rfl ?_;refine new (λw1 Qe Q6 Qh=>?_);refine Qo Qh rfl ?_;refine loop Qa [5] (λs:Int=>[.int .i64 s]) (λs w'=>Ext w1 w'/\0<=s/\s<n+2/\ev nd s (Yh WM)=ev nd root (Yh WM)) (λs _=>s.toNat) root rfl ⟨Ext.refl _,hv.2.1,by have:=hv.2.2.1;omega,rfl⟩ ?_;rintro s w3 ⟨Qi,s0,s1,hs⟩;have QU:=Qe.trans Qi;refine Qw (λh1=>?_) (λh1=>?_)
 ·refine Qz (Qh.ext Qi) rfl ?_;refine Qj (((s-2).toNat:Nat):Int) (by omega) (by omega) ?_;refine Zt W3 (h.ext QU) rfl (by omega) (λp x hx AR=>?_);refine Jz (vs:=x.cells) rfl AR ?_;refine new (λw4 Qs KR QR=>?_);refine Qv QR rfl (sc rfl) (λw5 JE KI QD=>?_);have K8:Ext w3 w5:=XT Qs QR JE;obtain⟨b1,b2,b3,b4,b5,b6,b7,b8,b9,bz⟩:=hv.1 _ _ hx;have bI:=cO hv.wf (n:=s) (e:=Yh WM) (by omega) hx;refine Qz QD rfl ?_;refine GG (x.v.toNat:Int) (by omega) (by omega) ?_;refine xw x.v.toNat (2^x.v.toNat) (by omega) (by show min _ 64=_;omega) rfl ?_;have Xa:WM/2^x.v.toNat<18446744073709551616:=Nat.lt_of_le_of_lt (Nat.div_le_self _ _) (by omega);refine norm (m:=((WM/2^x.v.toNat % 2:Nat):Int)) (Uk _ Xa) ?_;refine X8 (λh2=>?_) (λh2=>?_)
  ·have hb:Yh WM x.v.toNat=true:=Zx (by omega);rw[hb,Qf rfl] at bI;refine Qo QD rfl ?_;exact⟨x.h,rfl,⟨Qi.trans K8,b5,by omega,by rw[<-bI];exact hs⟩,by show x.h.toNat<s.toNat;omega⟩
  ·have hb:Yh WM x.v.toNat=false:=Zr (by omega);rw[hb,if_neg (by decide)] at bI;refine Qo QD rfl ?_;exact⟨x.l,rfl,⟨Qi.trans K8,b3,by omega,by rw[<-bI];exact hs⟩,by show x.l.toNat<s.toNat;omega⟩
 ·refine⟨?_,QU⟩;rw[<-hs,JX (by omega)]<;>rfl
theorem hZ (a b:List Nat)(h:a.length+b.length<=100000):(Qd a).size+(Qd b).size<=maxLen:=by
 rw[Q8,Q8];unfold maxLen;omega
def UL (p q:List Nat)(b:Nat):List Nat:=
 if b=0∨b=1 then p else if b=2 then 33::p else if b=3 then p++ [32,38,38,32]++q else if b=4 then p++ [32,124,124,32,33]++q
 else if b=5 then [33,40]++p++ [32,38,38,32]++q++ [41] else if b=6 then [33]++p++ [38,38,33]++q else [116,114,117,101]
def YQ (nm:List (List Nat))(b:Nat):List Nat:=
 if nm=[] then([[116,114,117,101],[102,97,108,115,101],[33,102,97,108,115,101]][b % 3]?).getD []
 else UL ((nm[b/8 % nm.length]?).getD []) ((nm[(b/64+b/8+1) % nm.length]?).getD []) (b % 8)
theorem UM (nm:List (List Nat))(A:Option Addr)(n c:Nat)(b:Nat)(w:World)(h:Sl w 1 A n c (XH nm))(hl:∀s∈nm,s.length<=100)(hb:b<=255):
  Fn Tryz.prog 130 [.slice A n c,.int .u8 b] w (λv w'=>v= .string (Qd (YQ nm b))/\Ext w w'):=by
 have hn:nm.length=n:=by have:=h.len;rw[bT] at this;omega
 have cw:n<=9223372036854775807:=by have:=h.le;have:=h.cap;simp only[maxLen] at this;omega
 refine QJ (c:={eQT with cuts:=[]}) Qa Tryz.func130 rfl rfl rfl ?_;refine X8 (λc1=>?_) (λc1=>?_)
 ·have Aq:nm=[]:=WO (by omega);have iI:YQ nm b=([[116,114,117,101],[102,97,108,115,101],[33,102,97,108,115,101]][b % 3]?).getD []:=Qf Aq;have h3:b % 3<3:=bP _ (by decide);refine Xg Qa ([[116,114,117,101],[102,97,108,115,101],[33,102,97,108,115,101]].map (λs=>[Value.string (Qd s)])) rfl rfl rfl rfl rfl ⟨rfl,rfl,rfl,rfl,rfl,rfl,⟨⟩⟩ rfl (λcs h=>by simp only[Zk] at h;obtain⟨s,_,rfl⟩:=h;rfl) rfl (by decide) (by decide) ?_;intro w1 Qe Q6 Qh;refine Qj ((b:Nat):Int) rfl (by omega) ?_;refine normIf (m:=((b % 3:Nat):Int)) (by decide) rfl ?_;refine index (j:=b % 3) h3 ?_;refine Qo Qh (v:=.string (Qd (([[116,114,117,101],[102,97,108,115,101],[33,102,97,108,115,101]][b % 3]?).getD []))) (by
   generalize b % 3=r at h3;rcases(show r=0∨r=1∨r=2 by omega)with rfl | rfl | rfl<;>rfl) ?_
  exact⟨by rw[iI],Qe⟩
 ·have QX:nm≠ []:=λe=>by rw[e] at hn;simp at hn;omega
  have aL:0<n:=by omega
  have iI:YQ nm b=UL ((nm[b/8 % nm.length]?).getD []) ((nm[(b/64+b/8+1) % nm.length]?).getD []) (b % 8):=if_neg QX;rw[hn] at iI;have l1:b/8 % n<n:=bP _ aL;have l2:(b/64+b/8+1) % n<n:=bP _ aL;have ze:IntKind.u8.wrap (((b:Nat):Int).tdiv 8)=((b/8:Nat):Int):=by
   show IntKind.u8.wrap ((b/8:Nat):Int)=_;rw[uk];omega
  have cQE:IntKind.u8.wrap (((b:Nat):Int).tdiv 64)=((b/64:Nat):Int):=by
   show IntKind.u8.wrap ((b/64:Nat):Int)=_;rw[uk];omega
  have fV:nm[b/8 % n]? =some (nm[b/8 % n]'(by omega)):=Xu _;have de:nm[(b/64+b/8+1) % n]? =some (nm[(b/64+b/8+1) % n]'(by omega)):=Xu _;have pQT:=hl _ (Xl fV);have pQU:=hl _ (Xl de);rw[fV,de] at iI;simp only[gJ] at iI;generalize nm[b/8 % n]'(by omega)=p at*;generalize nm[(b/64+b/8+1) % n]'(by omega)=q at*;have ps:=Q8 p;have qs:=Q8 q;refine normIf (m:=((b/8:Nat):Int)) (by decide) ze ?_;refine Qj ((b/8:Nat):Int) rfl (by omega) ?_;refine normIf (m:=((b/8 % n:Nat):Int)) (by omega) (eK _ _) ?_;refine KF h l1 (λad u hA hu Xq=>?_);rw[lJ fV] at hu;cases hu;refine load Xq ?_;refine normIf (m:=((b/64:Nat):Int)) (by decide) cQE ?_;refine normIf (m:=((b/8:Nat):Int)) (by decide) ze ?_;refine norm (m:=((b/64+b/8:Nat):Int)) (by show IntKind.u8.wrap (((b/64:Nat):Int)+((b/8:Nat):Int))=_;rw[<-Int.natCast_add,uk];omega) ?_;refine norm (m:=((b/64+b/8+1:Nat):Int)) (by show IntKind.u8.wrap (((b/64+b/8:Nat):Int)+((1:Nat):Int))=_;rw[<-Int.natCast_add,uk];omega) ?_;refine Qj ((b/64+b/8+1:Nat):Int) rfl (by omega) ?_;refine normIf (m:=(((b/64+b/8+1) % n:Nat):Int)) (by omega) (eK _ _) ?_;refine KF h l2 (λad' u' FK iE oQU=>?_);rw[lJ de] at iE;cases iE;refine load oQU ?_;have fi:((b:Nat):Int).tmod 8=((b % 8:Nat):Int):=eK b 8;have m8:b % 8<8:=bP _ (by decide);generalize b % 8=r at fi m8 iI;refine normIf (m:=((r:Nat):Int)) (by decide) fi ?_;clear fi ze cQE;rw[iI];rcases(show r=0∨r=1∨r=2∨r=3∨r=4∨r=5∨r=6∨r=7 by omega)with rfl | rfl | rfl | rfl | rfl | rfl | rfl | rfl
  ·refine Xd rfl ?_;exact⟨rfl,Ext.refl _⟩
  ·refine Q9 rfl ?_;refine Xd rfl ?_;exact⟨rfl,Ext.refl _⟩
  ·refine Q9 rfl ?_;refine Q9 rfl ?_;refine Xd rfl ?_;refine Xy (v':=.string (Qd ([33]++p))) (hZ [33] p (by simp;omega)) (QC Value.string (ZM [33] p)) ?_;exact⟨rfl,Ext.refl _⟩
  ·refine Q9 rfl ?_;refine Q9 rfl ?_;refine Q9 rfl ?_;refine Xd rfl ?_;refine Xy (v':=.string (Qd (p++ [32,38,38,32]))) (hZ p [32,38,38,32] (by simp;omega)) (QC Value.string (ZM p [32,38,38,32])) ?_;refine Xy (v':=.string (Qd ((p++ [32,38,38,32])++q))) (hZ (p++ [32,38,38,32]) q (by simp;omega)) (QC Value.string (ZM (p++ [32,38,38,32]) q)) ?_;exact⟨rfl,Ext.refl _⟩
  ·refine Q9 rfl ?_;refine Q9 rfl ?_;refine Q9 rfl ?_;refine Q9 rfl ?_;refine Xd rfl ?_;refine Xy (v':=.string (Qd (p++ [32,124,124,32,33]))) (hZ p [32,124,124,32,33] (by simp;omega)) (QC Value.string (ZM p [32,124,124,32,33])) ?_;refine Xy (v':=.string (Qd ((p++ [32,124,124,32,33])++q))) (hZ (p++ [32,124,124,32,33]) q (by simp;omega)) (QC Value.string (ZM (p++ [32,124,124,32,33]) q)) ?_;exact⟨rfl,Ext.refl _⟩
  ·refine Q9 rfl ?_;refine Q9 rfl ?_;refine Q9 rfl ?_;refine Q9 rfl ?_;refine Q9 rfl ?_;refine Xd rfl ?_;refine Xy (v':=.string (Qd ([33,40]++p))) (hZ [33,40] p (by simp;omega)) (QC Value.string (ZM [33,40] p)) ?_;refine Xy (v':=.string (Qd (([33,40]++p)++ [32,38,38,32]))) (hZ ([33,40]++p) [32,38,38,32] (by simp;omega)) (QC Value.string (ZM ([33,40]++p) [32,38,38,32])) ?_;refine Xy (v':=.string (Qd (([33,40]++p++ [32,38,38,32])++q))) (hZ ([33,40]++p++ [32,38,38,32]) q (by simp;omega)) (QC Value.string (ZM ([33,40]++p++ [32,38,38,32]) q)) ?_;refine Xy (v':=.string (Qd (([33,40]++p++ [32,38,38,32]++q)++ [41]))) (hZ ([33,40]++p++ [32,38,38,32]++q) [41] (by simp;omega)) (QC Value.string (ZM ([33,40]++p++ [32,38,38,32]++q) [41])) ?_;exact⟨rfl,Ext.refl _⟩
  ·refine Q9 rfl ?_;refine Q9 rfl ?_;refine Q9 rfl ?_;refine Q9 rfl ?_;refine Q9 rfl ?_;refine Q9 rfl ?_;refine Xd rfl ?_;refine Xy (v':=.string (Qd ([33]++p))) (hZ [33] p (by simp;omega)) (QC Value.string (ZM [33] p)) ?_;refine Xy (v':=.string (Qd (([33]++p)++ [38,38,33]))) (hZ ([33]++p) [38,38,33] (by simp;omega)) (QC Value.string (ZM ([33]++p) [38,38,33])) ?_;refine Xy (v':=.string (Qd (([33]++p++ [38,38,33])++q))) (hZ ([33]++p++ [38,38,33]) q (by simp;omega)) (QC Value.string (ZM ([33]++p++ [38,38,33]) q)) ?_;exact⟨rfl,Ext.refl _⟩
  ·refine Q9 rfl ?_;refine Q9 rfl ?_;refine Q9 rfl ?_;refine Q9 rfl ?_;refine Q9 rfl ?_;refine Q9 rfl ?_;refine Q9 rfl ?_;exact⟨rfl,Ext.refl _⟩
def jQv (p q:Fm)(b:Nat):Fm:=
 if b=0∨b=1 then p else if b=2 then .not p else if b=3 then .and p q else if b=4 then .or p (.not q)else if b=5 then .not (.and p q)else if b=6 then .and (.not p) (.not q)else .c true
def C3 (k b:Nat):Fm:=if k=0 then(if b % 3=0 then .c true else if b % 3=1 then .c false else .not (.c false))else jQv (.v (b/8 % k)) (.v ((b/64+b/8+1) % k)) (b % 8)
def rT (k b:Nat):Bool:=match fO (Zm.take k) (YQ (Zm.take k) b)with
 | .ok t=>decide (t=C3 k b)
 | .error _=>false
theorem yy {k b:Nat}(h:rT k b=true):fO (Zm.take k) (YQ (Zm.take k) b)= .ok (C3 k b):=by
 unfold rT at h;split at h
 ·rename_i t ht;rw[ht,Y2 h]
 ·cases h
theorem jQw:(List.range 256).all (rT 4)=true:=by decide+kernel
theorem jQx:(List.range 256).all (rT 3)=true:=by decide+kernel
theorem jQy:(List.range 256).all (rT 2)=true:=by decide+kernel
theorem jQz:(List.range 256).all (rT 1)=true:=by decide+kernel
theorem jQA:(List.range 256).all (rT 0)=true:=by decide+kernel
theorem jQB {k b:Nat}(hk:k<=4)(hb:b<=255):fO (Zm.take k) (YQ (Zm.take k) b)= .ok (C3 k b):=by
 have hm:b∈List.range 256:=cI.2 (by omega);rcases(show k=0∨k=1∨k=2∨k=3∨k=4 by omega)with rfl | rfl | rfl | rfl | rfl
 ·exact yy (Ka.1 jQA b hm)
 ·exact yy (Ka.1 jQz b hm)
 ·exact yy (Ka.1 jQy b hm)
 ·exact yy (Ka.1 jQx b hm)
 ·exact yy (Ka.1 jQw b hm)
def vk (k b:Nat):BF:=evF (C3 k b)
theorem jQC {k b:Nat}(hk:k<=4)(hb:b<=255):V3 (Zm.take k) (YQ (Zm.take k) b)= .ok (vk k b):=by
 unfold V3;rw[jQB hk hb]<;>rfl
theorem jQD (x:Nat)(hx:x<256):IntKind.u8.wrap ((BitVec.ofInt 8 (x:Int) &&& BitVec.ofInt 8 1).toNat)=((x % 2:Nat):Int):=by
 have e:(BitVec.ofInt 8 (x:Int) &&& BitVec.ofInt 8 1).toNat=x % 2:=by
  rw[BitVec.ofInt_natCast,show BitVec.ofInt 8 1=BitVec.ofNat 8 1 from rfl,BitVec.toNat_and,BitVec.toNat_ofNat,BitVec.toNat_ofNat];rw[jY (by omega),show 1 % 2^8=1 by decide,Nat.and_one_is_mod]
 rw[e];rcases(show x % 2=0∨x % 2=1 by omega)with h | h<;>rw[h]<;>decide
theorem jQE (q:Nat):(((q:Nat):Int)==1)=decide (q=1):=by
 by_cases h:q=1
 ·subst h;rfl
 ·rw[Zr h];exact beq_eq_false_iff_ne.2 (by omega)
theorem UN (k:Nat)(hk:k<=1000000):IntKind.i64.wrap ((k:Int).tdiv 8)=((k/8:Nat):Int):=by
 rw[show(8:Int)=((8:Nat):Int) from rfl,eQg];exact IntWalk.i64_in _ (by omega)
theorem jQF (v:Nat)(hv:v<=6):IntKind.i64.wrap (1*2^(min ((v:Nat):Int).toNat IntKind.i64.bits))=((2^v:Nat):Int):=by
 rcases(show v=0∨v=1∨v=2∨v=3∨v=4∨v=5∨v=6 by omega)with rfl | rfl | rfl | rfl | rfl | rfl | rfl<;>decide
theorem UO (l:List Nat)(A:Option Addr)(n c N:Nat)(w0:World)(h:Sl w0 1 A n c (VH l))(h8:∀x∈l,x<=255)(hN:N<=6):∀(d v k:Nat)(w:World),Ext w0 w->v+d=N->k<2^v->
  Fn Tryz.prog 72 [.slice A n c,.int .i64 N,.int .i64 v,.int .i64 k] w (i9 w N (cT l d v k))
 | 0,v,k,w,hE,hv,hk=>by
  have hn:l.length=n:=by have:=h.len;rw[uo] at this;omega
  have p6:2^v<=2^6:=aT (by decide) (by omega);have LC:n<=9223372036854775807:=by have:=h.le;have:=h.cap;simp only[maxLen] at this;omega
  refine QJ (c:={RI with cuts:=[]}) Qa Tryz.func72 rfl rfl rfl ?_;refine new (λw1 Qe Q6 Qh=>?_);refine J0 (by omega) ?_;refine normIf (m:=((k/8:Nat):Int)) (by decide) (UN k (by omega)) ?_;have fin:∀b:Bool,b=CV l k->∀w2,Ext w1 w2->∀w3,w2.grownBy w3 (some w.heap.size)->i9 w N (cT l 0 v k) (Xm none 0 0 (if b then 1 else 0)) w3:=λb hb w2 Qg w3 Jc=>by
   have Ji:Mod (·=w.heap.size) w2 w3:=qQL Jc rfl;exact⟨none,0,0,[],_,rfl,Ji.ext (Qe.trans Qg) (λi hi=>by omega),SlS.nil _,(bV N b).congr (λ_=>by rw[hb];rfl),λi hi=>by obtain⟨_,e,_⟩:=hi;cases e⟩
  refine Qw (λh1=>?_) (λh1=>?_)
  ·refine normIf (m:=((k/8:Nat):Int)) (by decide) (UN k (by omega)) ?_;have hg:=Xu (show k/8<l.length by omega);generalize l[k/8]=x at hg;have Ly:=h8 x (Xl hg);refine KF ((h.ext hE).ext Qe) (by omega) (λad u hA hu Xq=>?_);rw[rj hg] at hu;cases hu;refine load Xq ?_;have m8:k % 8<8:=bP _ (by decide);refine Rs (d:=8) (by decide) ?_;refine norm (m:=((k % 8:Nat):Int)) (IntWalk.u64_in _ (by omega)) ?_;refine xw (k % 8) (2^(k % 8)) (by omega) (by show min ((k % 8:Nat):Int).toNat 8=_;omega) rfl ?_;have Xa:x/2^(k % 8)<256:=Nat.lt_of_le_of_lt (Nat.div_le_self _ _) (by omega);refine norm (m:=((x/2^(k % 8) % 2:Nat):Int)) (jQD _ Xa) ?_;refine call (yr (((x/2^(k % 8) % 2:Nat):Int)==1) w1) ?_;rintro _ w2 ⟨rfl,Qg⟩;refine Qv (Qh.ext Qg) rfl (sc rfl) (λw3 Jc _ Qu=>?_);refine Qt Qu rfl ?_;refine fin _ ?_ w2 Qg w3 Jc;unfold CV;rw[Zx (show k/8<l.length by omega),hg];simp only[gJ,dB];exact jQE _
  ·refine call (yr false w1) ?_;rintro _ w2 ⟨rfl,Qg⟩;refine Qv (Qh.ext Qg) rfl (sc rfl) (λw3 Jc _ Qu=>?_);refine Qt Qu rfl ?_;refine fin false ?_ w2 Qg w3 Jc;unfold CV;rw[Zr (show¬k/8<l.length by omega)]<;>rfl
 | d+1,v,k,w,hE,hv,hk=>by
  have p6:2^v<=2^6:=aT (by decide) (by omega);have ps:2^(v+1)=2^v+2^v:=by rw[nQ];omega
  have ih:=UO l A n c N w0 h h8 hN d;refine QJ (c:={RI with cuts:=[]}) Qa Tryz.func72 rfl rfl rfl ?_;refine new (λw1 Qe Q6 Qh=>?_);refine XK (by omega) ?_;refine call (gQ7 (v:Nat) w1 (by omega) (by omega)) ?_;rintro _ w2 ⟨XA,xn,xc,rfl,Qg,KS,_⟩;refine new (λw3 Qi Jr Qu=>?_);refine Qv Qu rfl (sc rfl) (λw4 aC _ QR=>?_);have Jh:Ext w2 w4:=XT Qi Qu aC;have JW:=Qg.trans Jh;have Xp:=Qe.trans JW;have Wc:=KS.ext Jh;have sv:=H8 (k:=N) (v:=v) (by omega) (by omega);have qB:∀w',Ext w4 w'->∀(j:Nat) (u:Value),[Value.slice XA xn xc,.int .i64 2][j]? =some u->w'.cell? ((⟨w2.heap.size,0,none⟩:Addr).add j)=some u:=λw' Qb j u hj=>by rw[(QR.ext Qb).cell];exact hj
  refine XR Qa (Ext w4) 21 [(true,0),(true,1),(true,2),(true,3),(true,4),(true,5),(true,6),(true,7),(true,8),(true,9),(true,12),(true,13),(true,14),(true,15),(true,16),(true,18),(false,10),(false,11),(false,17),(false,19),(false,20)] (by kernel_rfl) (Ext.drew w4) ?_;refine Xv (vs:=[.slice XA xn xc,.int .i64 2]) rfl (λw' Qb j u hj=>qB w' Qb j u hj) ?_;refine Qj ((v+1:Nat):Int) (by omega) (by omega) ?_;refine norm (m:=((v:Nat):Int)) (IntWalk.u64_in _ (by omega)) ?_;refine normIf (m:=((2^v:Nat):Int)) (by omega) (jQF v (by omega)) ?_;refine Qj ((k+2^v:Nat):Int) (by omega) (by omega) ?_;refine Qj ((v+1:Nat):Int) (by omega) (by omega) ?_;refine Xv (vs:=[.slice XA xn xc,.int .i64 2]) rfl (λw' Qb j u hj=>qB w' Qb j u hj) ?_;refine call (ih (v+1) (k+2^v) _ ((hE.trans Xp).trans (Ext.drew w4)) (by omega) (by omega)) ?_;rintro _ w5 ⟨T1,t1n,t1c,nd1,r1,rfl,Qx,hT1,Vm,_⟩;have bw:=(Ext.drew w4).trans Qx;refine⟨bw,?_⟩;refine call (Ul (by omega) XA xn xc T1 t1n t1c w5 (Wc.ext bw) hT1 sv Vm) ?_;rintro _ w6 ⟨U1,u1n,u1c,ud1,q1,rfl,QQ,hU1,sI,_⟩;have XM:=bw.trans QQ;refine⟨XM,?_⟩;refine call (ih (v+1) k _ ((hE.trans Xp).trans XM) (by omega) (by omega)) ?_;rintro _ w7 ⟨T2,t2n,t2c,kQ,r2,rfl,Xh,W9,LO,_⟩;have K9:=XM.trans Xh;refine⟨K9,?_⟩;refine call (iQ2 (by omega) T2 t2n t2c XA xn xc w7 W9 (Wc.ext K9) LO sv) ?_;rintro _ w8 ⟨U2,u2n,u2c,ud2,q2,rfl,Xn,pk,Ea,_⟩;have fo:=K9.trans Xn;refine⟨fo,?_⟩;refine call (iQ0 (by omega) U1 u1n u1c U2 u2n u2c w8 ((hU1.ext Xh).ext Xn) pk sI Ea) ?_;rintro _ w9 ⟨U3,u3n,u3c,ud3,q3,rfl,Xx,hU3,mM,pv⟩;have vY:=fo.trans Xx;refine⟨vY,?_⟩;have YU:=(Xp.trans fo).size;have mQX:=(JW.trans fo).size;refine Qv ((Qh.ext JW).ext vY) rfl (sc rfl) (λQE jA _ J6=>?_);have ZA:Mod (·=w.heap.size) w9 QE:=qQL jA rfl;refine Qt J6 rfl ?_;refine⟨U3,u3n,u3c,ud3,q3,rfl,ZA.ext (Xp.trans vY) (λi hi=>by omega),hU3.mod ZA (λi hi e=>by have:=pv i hi;omega),mM.congr (λe=>?_),λi hi=>by have:=pv i hi;omega⟩;show KP 1 (KP 0 (e v) (cT l d (v+1) (k+2^v) e)) (cT l d (v+1) k e && !e v)=if e v then cT l d (v+1) (k+2^v) e else cT l d (v+1) k e
  cases e v<;>simp[KP]
theorem ia (l:List Nat)(A:Option Addr)(n c N:Nat)(w:World)(h:Sl w 1 A n c (VH l))(h8:∀x∈l,x<=255)(hN:N<=6):
  Fn Tryz.prog 28 [.slice A n c,.int .i64 N] w (i9 w N (cT l N 0 0)):=by
 refine QJ (c:={c28 with cuts:=[]}) Qa Tryz.func28 rfl rfl rfl ?_;refine new (λw1 Qe Q6 Qh=>?_);refine norm (m:=((N:Nat):Int)) (by split<;>omega) ?_;refine norm (m:=((N:Nat):Int)) (by split<;>omega) ?_;refine call (UO l A n c N w1 (h.ext Qe) h8 hN N 0 0 w1 (Ext.refl _) (by omega) (by decide)) ?_;rintro _ w2 ⟨U,un,uc,nd,r,rfl,Qg,hU,hS,hR⟩;refine Qv (Qh.ext Qg) rfl (sc rfl) (λw3 Jc _ Qu=>?_);have Ji:Mod (·=w.heap.size) w2 w3:=qQL Jc rfl;refine Qt Qu rfl ?_;exact⟨U,un,uc,nd,r,rfl,Ji.ext (Qe.trans Qg) (λi hi=>by omega),hU.mod Ji (λi hi e=>by have:=hR i hi;omega),hS,λi hi=>by have:=hR i hi;omega⟩
theorem jQG {s:List Nat}(h:s.head? ≠some 35):XS s= .txt:=by
 unfold XS;cases s with
 | nil=>rfl
 | cons b t=>
  have hb:b≠35:=λe=>h (by rw[e];rfl)
  have e1:ZJ.isPrefixOf (b::t)=false:=by simp[ZJ,List.isPrefixOf,hb.symm]
  have e2:pInc.isPrefixOf (b::t)=false:=by simp[pInc,List.isPrefixOf,hb.symm]
  have e3:pElif.isPrefixOf (b::t)=false:=by simp[pElif,List.isPrefixOf,hb.symm]
  rw[e1,e2,e3,if_neg (by decide),if_neg (by decide),if_neg (by decide),if_neg (by simp[Kz,hb]),if_neg (by simp[Zb,hb])]
theorem jQH (ls:List (List Nat)):bW (Qp ls)=true:=by
 unfold bW;rcases HF ls with h | h
 ·rw[h]<;>rfl
 ·rw[h];simp
theorem jQI {ls:List (List Nat)}(h:∀s∈ls,∀x∈s,x<256):∀x∈Qp ls,x<256:=λx hx=>by
 unfold Qp at hx;obtain⟨s,hs,hxs⟩:=Wo.1 hx;rcases XP.1 hxs with hxs | hxs
 ·exact h s hs x hxs
 ·simp only[QO] at hxs;subst hxs;decide
theorem UP (ls:List (List Nat))(s:List Nat):Qp (ls++ [s])=Qp ls++(s++ [10]):=by simp[Qp]
theorem UQ {l:List Nat}:∀{names:List (List Nat)}{i:Nat}{QW:Option Nat},l∉names->eO l names i QW=QW
 | [],_,_,_=>rfl
 | s::names,i,QW,h=>by
  simp only[QY,not_or] at h;rw[eO,if_neg (λe=>h.1 e.symm)];exact UQ h.2
theorem jQJ {x:List Nat}{l:List (List Nat)}(h:x∉l):Jq (x::l) x=some 0:=by
 unfold Jq;rw[eO,Qf rfl];exact UQ h
theorem UR (F:List Nat):XS (ZJ++F)= .ifd F:=by simp[XS,ZJ,List.isPrefixOf]
theorem US (F:List Nat):XS (pElif++F)= .elif F:=by simp[XS,ZJ,pElif,pInc,List.isPrefixOf]
abbrev CB:=List (Nat×BF)
def Wx (g:Gs):CB:=g.sg.flatMap (λs=>(Zz g.tx s).map (λb=>(b,s.o)))
theorem UT {tx s:List Nat}{x:Sg}(h:x.t<=tx.length):Zz (tx++s) x=Zz tx x:=by
 unfold Zz;rw[Ga h]
theorem UU (g:Gs)(b:Bool):Wx {g with fr:=b}=Wx g:=rfl
theorem Il {tx s:List Nat}:∀{l:List Sg},(∀x∈l,x.t<=tx.length)->l.flatMap (λx=>(Zz (tx++s) x).map (λb=>(b,x.o)))=l.flatMap (λx=>(Zz tx x).map (λb=>(b,x.o)))
 | [],_=>rfl
 | x::l,h=>by rw[Vf,Vf,Il (λy hy=>h y (by simp[hy])),UT (h x (by simp))]
theorem jQK {fs:List (List Nat×List Nat)}{n p:Nat}{k:BF}{g g':Gs}{s:List Nat}(h:GInv fs g)(hc:jf n p k g)(ha:Vt s n p k g=some g'):Wx g'=Wx g++s.map (λb=>(b,k)):=by
 unfold Vt at ha;split at ha
 ·cases ha
 cases ha;cases hf:g.fr with
 | true=>
  rw[Qf rfl,iY];unfold Wx;simp only;rw[Yd,Il (λx hx=>(h.ok x hx).tl)];congr 1;simp only[Vf,ua,KE];congr 1;unfold Zz;simp only;rw[ZS (by simp),nT]
 | false=>
  rw[if_neg (by decide)];obtain⟨l,y,e,e1,e2,e3⟩:=hc hf;have JH:=h.ch;have X5:=h.ok;rw[e] at JH X5;rw[ChG.snoc] at JH;have hy:=X5 y (by simp);rw[e,iY];unfold Wx;simp only;rw[e,Yd,Yd,Il (λx hx=>(X5 x (by simp[hx])).tl),ZG];congr 1;have h1:=hy.ft;have h2:=JH.2;have e4:Zz (g.tx++s) {y with t:=g.tx.length+s.length}=Zz g.tx y++s:=by
   unfold Zz;simp only;rw[ZS (by simp),PU (by omega),h2,qI]
  simp only[Vf,ua,KE];rw[e4,WR,e3]
theorem UV {tx:List Nat}:∀{l:List Sg}{a:Nat},ChG a l tx.length->(∀x∈l,x.f<x.t/\x.t<=tx.length)->(l.flatMap (λx=>(Zz tx x).map (λb=>(b,x.o)))).map (·.1)=tx.drop a
 | [],a,h,_=>by
  have:a=tx.length:=h;subst this;simp
 | x::l,a,h,hx=>by
  obtain⟨h1,h2⟩:=hx x (by simp);rw[Vf,WR,UV h.2 (λy hy=>hx y (by simp[hy]))];have:x.f=a:=h.1;subst this;rw[nP];rw[show((λ(p:Nat×BF)=>p.1)∘λb=>(b,x.o))=id from rfl,List.map_id];unfold Zz
  conv=>rhs;rw[<-aQ x.t tx]
  rw[PU (by rw[Kx];omega)]
theorem jQL {fs:List (List Nat×List Nat)}{g:Gs}(h:GInv fs g):(Wx g).map (·.1)=g.tx:=by
 have:=UV h.ch (λx hx=>⟨(h.ok x hx).ft,(h.ok x hx).tl⟩);rw[tV] at this;exact this
theorem UW {fs:List (List Nat×List Nat)}{g:Gs}(h:GInv fs g):(Wx g).length=g.tx.length:=by
 rw[<-jQL h,JL]
theorem UX {tx:List Nat}:∀{l:List Sg}{a:Nat},ChG a l tx.length->(∀x∈l,x.f<x.t/\x.t<=tx.length)->a+l.length<=tx.length
 | [],a,h,_=>by have:a=tx.length:=h;simp;omega
 | x::l,a,h,hx=>by
  have h1:=hx x (by simp);have h2:=UX h.2 (λy hy=>hx y (by simp[hy]));have:x.f=a:=h.1;simp only[Q2];omega
theorem jQM {fs:List (List Nat×List Nat)}{g:Gs}(h:GInv fs g):g.sg.length<=g.tx.length:=by
 have:=UX h.ch (λx hx=>⟨(h.ok x hx).ft,(h.ok x hx).tl⟩);omega
theorem UY (g:Gs)(e:Nat->Bool):vj g.tx g.sg e=((Wx g).filter (λp=>p.2 e)).map (·.1):=by
 unfold vj Wx C2;generalize g.sg=l;induction l with
 | nil=>rfl
 | cons x l ih=>
  rw[Vf,qO,WR,<-ih,fD];cases he:x.o e with
  | true=>
   rw[Qf rfl,Vf];congr 1;rw[List.filter_map,nP];rw[List.filter_eq_self.2 (λb _=>by simpa using he)];rw[show((λ(p:Nat×BF)=>p.1)∘λb=>(b,x.o))=id from rfl,List.map_id]
  | false=>
   rw[if_neg (by decide)];have:((Zz g.tx x).map (λb=>(b,x.o))).filter (λp=>p.2 e)=[]:=by
    rw[tZ];intro p hp;obtain⟨b,_,rfl⟩:=Zk.1 hp;simp[he]
   rw[this]<;>rfl
inductive Mn where
 | tx (s:List Nat)
 | ifd (F:List Nat) (o:BF)
 | elif (F:List Nat) (o:BF)
 | els
 | en
 | inc
def yz:List Nat:=[34,110,34]
def XD:Mn->List Nat
 | .tx s=>s
 | .ifd F _=>ZJ++F
 | .elif F _=>pElif++F
 | .els=>Kz
 | .en=>Zb
 | .inc=>pInc++yz
structure TxOk (s:List Nat):Prop where
 nl:10∉s
 dr:XS s= .txt
 b8:∀x∈s,x<256
structure FOk (nm:List (List Nat)) (F:List Nat) (o:BF):Prop where
 nl:10∉F
 st:V3 nm F= .ok o
 b8:∀x∈F,x<256
def ZK (nm:List (List Nat))(ic:Bool)(D:Nat):List Bool->List Mn->Prop
 | [],[]=>True
 | _::_,[]=>False
 | op,.tx s::l=>TxOk s/\ZK nm ic D op l
 | op,.ifd F o::l=>FOk nm F o/\op.length<D/\ZK nm ic D (false::op) l
 | false::op,.elif F o::l=>FOk nm F o/\ZK nm ic D (false::op) l
 | false::op,.els::l=>ZK nm ic D (true::op) l
 | _::op,.en::l=>ZK nm ic D op l
 | op,.inc::l=>ic=true/\ZK nm ic D op l
 | _,_=>False
def ZX (ie:BF->CB):List Mn->BF->List (BF×BF)->CB
 | [],_,_=>[]
 | .tx s::l,k,op=>(s++ [10]).map (λb=>(b,k))++ZX ie l k op
 | .ifd _ o::l,k,op=>ZX ie l (XY k o) ((k,J2 k o)::op)
 | .elif _ o::l,k,op=>match op with
  | []=>[]
  | (ou,re)::op=>ZX ie l (XY re o) ((ou,J2 re o)::op)
 | .els::l,k,op=>match op with
  | []=>[]
  | (ou,re)::op=>ZX ie l re ((ou,re)::op)
 | .en::l,k,op=>match op with
  | []=>[]
  | (ou,_)::op=>ZX ie l ou op
 | .inc::l,k,op=>ie k++ZX ie l k op
theorem jQN (F:List Nat):XS (pInc++F)= .inc F:=by simp[XS,ZJ,pInc,List.isPrefixOf]
abbrev kB (op:List Se):List (BF×BF):=op.map (λx=>(x.ou,x.re))
abbrev dO (op:List Se):List Bool:=op.map (·.ot)
theorem jQO {fs:List (List Nat×List Nat)}{g:Gs}{s:List Nat}{n p:Nat}{k:BF}(h:GInv fs g)(hl:(Wx g).length+s.length<=60000):∃g',Vt s n p k g=some g':=by
 have h1:=UW h;have h2:=jQM h;unfold Vt;rw[if_neg (by intro hh;rcases hh with hh | ⟨_,hh⟩<;>omega)];exact⟨_,rfl⟩
theorem UZ {nm:List (List Nat)}{fs:List (List Nat×List Nat)}{n d0:Nat}{inc:oM}{x:List Nat×List Nat}(hx:fs[n]? =some x){ic:Bool}{D:Nat}{ie:BF->CB}
  (hi:ic=true->∀ln d k g,GInv fs g->d0<=d->d<=d0+D->(Wx g).length+(ie k).length<=60000->∃g',inc yz ln d k g= .ok g'/\GInv fs g'/\Wx g'=Wx g++ie k) (ME:d0+D<64):
  ∀(l:List Mn) (ln at_:Nat) (k:BF) (op:List Se) (g:Gs),x.2.drop at_=Qp (l.map XD)->at_<=x.2.length->GInv fs g->jf n at_ k g->ZK nm ic D (dO op) l->op.length<=D->(Wx g).length+(ZX ie l k (kB op)).length<=60000->
   ∃g',Jb nm n d0 inc (l.map XD) ln at_ k op g= .ok g'/\GInv fs g'/\Wx g'=Wx g++ZX ie l k (kB op)
 | [],ln,at_,k,op,g,_,_,hg,_,hw,_,_=>by
  cases op with
  | nil=>exact⟨{g with fr:=true},rfl,hg.fr true,by rw[ZX,KE];rfl⟩
  | cons y op=>exact hw.elim
 | m::l,ln,at_,k,op,g,dy,aN,hg,hc,hw,X7,QZ=>by
  have FL:x.2.drop at_=(XD m++ [10])++Qp (l.map XD):=by rw[dy,Kw,V4];simp
  generalize hs:XD m=s at FL;have hL:(s++ [10]).length=s.length+1:=by simp
  have iF:x.2.length-at_=s.length+1+(Qp (l.map XD)).length:=by
   have:=QC List.length FL;simp only[Y1,Qq,Q2,Jp] at this;omega
  have br:x.2.drop (at_+s.length+1)=Qp (l.map XD):=by
   rw[show at_+s.length+1=at_+(s++ [10]).length by simp;omega,<-nM,FL,nT]
  have ih:=λk op g h1 h2 h3 h4 h5=>UZ (nm:=nm) hx hi ME l (ln+1) (at_+s.length+1) k op g br (by omega) h1 h2 h3 h4 h5
  have cf:∀k' (g:Gs),jf n (at_+s.length+1) k' {g with fr:=true}:=λk' g h=>by cases h
  rw[Kw,hs];cases m with
  | tx t=>
   have ht:t=s:=hs;subst ht;obtain⟨w1,w2⟩:TxOk t/\ZK nm ic D (dO op) l:=by cases op<;>exact hw
   rw[ZX,Qq,JL] at QZ;obtain⟨g1,ha⟩:=jQO (s:=t++ [10]) (n:=n) (p:=at_) (k:=k) hg (by omega);obtain⟨i1,i2⟩:=Ij hg hc hx (by rw[hL,<-lq,br];exact FL) (by rw[hL];omega) (by simp) ha;have i3:=jQK hg hc ha;rw[mo w1.dr,ha];obtain⟨g',r1,r2,r3⟩:=ih k op g1 i1 (by rw[hL,<-lq] at i2;exact i2) w2 X7 (by rw[i3,Qq,JL];omega);exact⟨g',r1,r2,by rw[r3,i3,ZX,ZG]⟩
  | ifd F o=>
   have ht:ZJ++F=s:=hs;obtain⟨w1,w2,w3⟩:FOk nm F o/\(dO op).length<D/\ZK nm ic D (false::dO op) l:=by cases op<;>exact hw
   simp only[JL] at w2;have Xt:XS s= .ifd F:=by rw[<-ht];exact UR _
   rw[CN Xt,w1.st];simp only;rw[if_neg (by omega)];rw[ZX] at QZ ⊢;exact ih _ (⟨k,J2 k o,false,ln+1⟩::op) {g with fr:=true} (hg.fr true) (cf _ _) w3 (by simp;omega) QZ
  | elif F o=>
   have ht:pElif++F=s:=hs;cases op with
   | nil=>exact hw.elim
   | cons y op=>
    have eu:y.ot=false:=by
     cases ho:y.ot with
     | false=>rfl
     | true=>
      have hw:ZK nm ic D (y.ot::dO op) (.elif F o::l):=hw;rw[ho] at hw;exact hw.elim
    obtain⟨w1,w3⟩:FOk nm F o/\ZK nm ic D (false::dO op) l:=by
     have hw:ZK nm ic D (y.ot::dO op) (.elif F o::l):=hw;rw[eu] at hw;exact hw
    have Xt:XS s= .elif F:=by rw[<-ht];exact US _
    rw[CO Xt,w1.st];simp only;rw[if_neg (by rw[eu];decide)];have e:ZX ie (.elif F o::l) k (kB (y::op))=ZX ie l (XY y.re o) (kB ({y with re:=J2 y.re o}::op)):=rfl;rw[e] at QZ ⊢;exact ih _ ({y with re:=J2 y.re o}::op) {g with fr:=true} (hg.fr true) (cf _ _) (by rw[<-eu] at w3;exact w3) X7 QZ
  | els=>
   have ht:Kz=s:=hs;subst ht;cases op with
   | nil=>exact hw.elim
   | cons y op=>
    have eu:y.ot=false:=by
     cases ho:y.ot with
     | false=>rfl
     | true=>
      have hw:ZK nm ic D (y.ot::dO op) (.els::l):=hw;rw[ho] at hw;exact hw.elim
    have w3:ZK nm ic D (true::dO op) l:=by
     have hw:ZK nm ic D (y.ot::dO op) (.els::l):=hw;rw[eu] at hw;exact hw
    rw[CQ TW];simp only;rw[if_neg (by rw[eu];decide)];have e:ZX ie (.els::l) k (kB (y::op))=ZX ie l y.re (kB ({y with ot:=true}::op)):=rfl;rw[e] at QZ ⊢;exact ih _ ({y with ot:=true}::op) {g with fr:=true} (hg.fr true) (cf _ _) w3 X7 QZ
  | en=>
   have ht:Zb=s:=hs;subst ht;cases op with
   | nil=>exact hw.elim
   | cons y op=>
    have w3:ZK nm ic D (dO op) l:=by
     have hw:ZK nm ic D (y.ot::dO op) (.en::l):=hw;cases hy:y.ot<;>rw[hy] at hw<;>exact hw
    rw[H3 TX];have e:ZX ie (.en::l) k (kB (y::op))=ZX ie l y.ou (kB op):=rfl;rw[e] at QZ ⊢;exact ih _ op {g with fr:=true} (hg.fr true) (cf _ _) w3 (by simp at X7;omega) QZ
  | inc=>
   have ht:pInc++yz=s:=hs;subst ht;obtain⟨w1,w2⟩:ic=true/\ZK nm ic D (dO op) l:=by
    cases op with
    | nil=>exact hw
    | cons y op=>
     have hw:ZK nm ic D (y.ot::dO op) (.inc::l):=hw;cases hy:y.ot<;>rw[hy] at hw<;>refine⟨hw.1,?_⟩<;>show ZK nm ic D (y.ot::dO op) l<;>rw[hy]<;>exact hw.2
   rw[ZX,Qq] at QZ;obtain⟨g1,j1,j2,j3⟩:=hi w1 (ln+1) (d0+op.length) k g hg (by omega) (by omega) (by omega);rw[yp (jQN yz),j1];simp only;obtain⟨g',r1,r2,r3⟩:=ih k op {g1 with fr:=true} (j2.fr true) (cf _ _) w2 X7 (by rw[UU,j3,Qq];omega);exact⟨g',r1,r2,by rw[r3,UU,j3,ZX,ZG]⟩
end
section
open Go Go.RowKit Go.ChangeShapes
variable {H:Type} {enc:TypeId×Value->H}
theorem law_of {P:Program}{f:FuncId}{l:List Value}{w:World}(h:Fn P f l w (λv w'=>v= .bool true/\Ext w w')):
  Calls P f l.toArray w λe w'=>e= .returned (.bool true)/\Below w.heap.size w w':=by
 unfold Fn at h;exact h.mono λe w' he=>by
  cases e with
  | returned v=>exact⟨by rw[he.1],he.2.below⟩
  | panicked ch=>exact he.elim
  | outgrown=>exact he.elim
theorem pQo {W:World}{a:Option Addr}{len cap:Nat}{d:DataW H}{p:List MemPlace}(h:DataW.Trod enc Tryz.prog W 0 (λ_=>true) true 37 (.slice a len cap) d p):∃l,Sl W 1 a len cap (XH l)/\KO l:=by
 obtain⟨dz,hf⟩:=h;rcases Go.Deep.open_slice Tryz.underlying37 hf with⟨XN,_⟩ | ⟨x,l,c,m,n,D,Pl,XN,_,hl,hm,ZW,_,hx⟩
 ·simp[Value.cells] at XN;obtain⟨rfl,rfl,rfl⟩:=XN;exact⟨[],Sl.nil W 1,λs hs=>by cases hs⟩
 ·simp[Value.cells] at XN;obtain⟨rfl,rfl,rfl⟩:=XN;simp only[if_true] at ZW;subst ZW;have hc9:Tryz.prog.cellsOf 9=1:=by kernel_rfl
  have each:∀i,i<m->∃y:ByteArray,y.size<=maxLen/\W.cell? (x.add i)=some (.string y):=by
   intro i hi;obtain⟨cs,h1,h2⟩:=hx i hi;rw[hc9] at h1;obtain⟨_,QZ,Xq⟩:=World.cells?_some h1
   match cs,QZ with
   | [v],_=>
    obtain⟨s,e1,_,di⟩:=DataW.trod_string Tryz.underlying9 h2;simp at e1;subst e1;refine⟨s,di,?_⟩;have:=Xq 0 (by decide);rw[Wm] at this;simpa [add_add] using this
  have Q4:Inhabited ByteArray:=⟨⟨#[]⟩⟩
  obtain⟨Y,hY⟩:=Go.Deep.choose_lt each;refine⟨(List.range len).map (λi=>Wq (Y i)),⟨by simp[XH],hl,hm,λ_=>⟨x,rfl,λj u hu=>?_⟩⟩,?_⟩
  ·simp only[XH,nP,aR,F7] at hu;obtain⟨k,hk,rfl⟩:=hu;have hj:=(Jd.1 hk).1;simp at hj;have:k=j:=by rw[List.getElem?_range hj] at hk;exact(Option.some.inj hk).symm
   subst this;rw[(hY k (by omega)).2];simp[eQo]
  ·intro y hy;simp only[Zk,cI] at hy;obtain⟨i,hi,rfl⟩:=hy;have:=(hY i (by omega)).1;exact⟨eQn _,by rw[xz];simpa [maxLen] using this⟩
theorem jQP {W:World}{a:Option Addr}{len cap:Nat}{d:DataW H}{p:List MemPlace}(h:DataW.Trod enc Tryz.prog W 0 (λ_=>true) true 62 (.slice a len cap) d p):∃l,Sl W 1 a len cap (VH l)/\∀b∈l,b<=255:=by
 obtain⟨dz,hf⟩:=h;rcases open_ints Tryz.underlying62 Tryz.underlying5 (by kernel_rfl) hf with⟨XN,_⟩ | ⟨x,l,c,zs,XN,_,hl,hm,hz,_,Xq,Az⟩
 ·simp[Value.cells] at XN;obtain⟨rfl,rfl,rfl⟩:=XN;exact⟨[],Sl.nil W 1,by simp⟩
 ·simp[Value.cells] at XN;obtain⟨rfl,rfl,rfl⟩:=XN;simp at hz;have hr:∀n∈zs,0<=n/\n<=255:=λn hn=>by
   have:=Az n hn;simp[Lit.wf,IntKind.min,IntKind.max,IntKind.signed,IntKind.bits] at this;omega
  refine⟨(zs.take len).map Int.toNat,⟨by simp[VH];omega,hl,hm,λ_=>⟨x,rfl,λj u hu=>?_⟩⟩,?_⟩
  ·simp only[VH,nP,aR,F7] at hu;obtain⟨y,hy,rfl⟩:=hu;rw[F5] at hy;split at hy
   ·rename_i hj;have FM:j<zs.length:=by omega
    rw[Xu FM] at hy;cases hy;have h2:=hr zs[j] (PP FM);rw[Xq j FM];have:zs.getD j 0=zs[j]:=by simp[FM]
    rw[this];show some (Value.int .u8 _)=some (Value.int .u8 ((zs[j].toNat:Nat):Int));congr 2;omega
   ·cases hy
  ·intro y hy;simp only[Zk] at hy;obtain⟨z,Q6,rfl⟩:=hy;have:=hr z (Wn Q6);omega
theorem u8_of {a:Int}(w:(Lit.int .u8 a).wf=true):∃n:Nat,a=n/\n<=255:=by
 simp[Lit.wf,IntKind.min,IntKind.max,IntKind.signed,IntKind.bits] at w;exact⟨a.toNat,by omega,by omega⟩
end
section
open Go Go.RowKit Go.ChangeShapes
variable {H:Type} {enc:TypeId×Value->H}
theorem C4 {α:Type}{l:List α}(h:l.length=3):∃a b c,l=[a,b,c]:=by
 match l,h with
 | [a,b,c],_=>exact⟨a,b,c,rfl⟩
theorem U0 {W:World}{α:Type}{cells:α->List Value}{e:Nat}(AT:∀x,(cells x).length=e)(he:0<e){t te:TypeId}{dz:Nat}{cs:List Value}{z:DataW H×List MemPlace}
  (ht:Tryz.prog.underlying t=some (.slice te)) (hc5:Tryz.prog.cellsOf te=e) (Q4:Inhabited α)
  (one:∀(cs:List Value) (dz:Nat) (D:DataW H×List MemPlace),cs.length=e->DataW.trod enc Tryz.prog W 0 (λ_=>true) true dz te cs=some D->∃y,cells y=cs)
  {a:Option Addr} {len cap:Nat} (XN:cs=[.slice a len cap]) (hf:DataW.trod enc Tryz.prog W 0 (λ_=>true) true dz t cs=some z):∃l,SlS cells e W a len cap l:=by
 subst XN;rcases Go.Deep.open_slice ht hf with⟨XN,_⟩ | ⟨x,l,c,m,n,D,Pl,XN,_,hl,hm,ZW,_,hx⟩
 ·simp at XN;obtain⟨rfl,rfl,rfl⟩:=XN;exact⟨[],SlS.nil W⟩
 ·simp at XN;obtain⟨rfl,rfl,rfl⟩:=XN;simp only[if_true] at ZW;subst ZW;have each:∀i,i<m->∃y:α,∀j v,(cells y)[j]? =some v->W.cell? (x.add (i*e+j))=some v:=by
   intro i hi;obtain⟨cs,h1,h2⟩:=hx i hi;rw[hc5] at h1;obtain⟨_,QZ,Xq⟩:=World.cells?_some h1;obtain⟨y,rfl⟩:=one _ _ _ QZ h2;refine⟨y,λj v hj=>?_⟩;have hj5:j<e:=by have:=(Jd.1 hj).1;rw[AT] at this;exact this
   have:=Xq j hj5;rw[add_add] at this;rw[this];exact hj
  obtain⟨Y,hY⟩:=Go.Deep.choose_lt each;refine⟨(List.range len).map Y,⟨⟨?_,hl,hm,λ_=>⟨x,rfl,λj u hu=>?_⟩⟩,by simp⟩⟩
  ·rw[eN AT];simp
  ·have aJ:=(Jd.1 hu).1;rw[eN AT] at aJ;simp at aJ;have hi:j/e<len:=Nat.div_lt_of_lt_mul (by rw[xe];exact aJ);have hr:j % e<e:=bP _ he;have FC:j/e*e+j % e=j:=by rw[xe];exact Nat.div_add_mod j e
   have hg:((List.range len).map Y)[j/e]? =some (Y (j/e)):=by simp[hi]
   have hc:=Xu (l:=cells (Y (j/e))) (i:=j % e) (by rw[AT];exact hr);have h1:=kr AT _ _ _ _ _ hg hc;rw[FC,hu] at h1;have h2:=hY (j/e) (Yq hi hl) _ _ hc;rw[FC] at h2;rw[h2,<-Option.some.inj h1]
end
section
open Go Go.RowKit Go.ChangeShapes
variable {H:Type} {enc:TypeId×Value->H}
theorem U4 {α:Type}{p:α->Prop}{f:α->List Value}{sz:Nat}{W:World}{a:Option Addr}{len cap:Nat}(h:∃l:List {x:α // p x},SlS (λy=>f y.1) sz W a len cap l):∃l:List α,SlS f sz W a len cap l/\∀x∈l,p x:=by
 obtain⟨l,h1,h2⟩:=h;refine⟨l.map Subtype.val,⟨?_,by simpa using h2⟩,λx hx=>?_⟩
 ·rw[List.flatMap_map];exact h1
 ·obtain⟨y,_,rfl⟩:=Zk.1 hx;exact y.2
structure Lx where
 k:Nat
 i:Nat
 ws:List Nat
 A:Option Addr
 n:Nat
 c:Nat
def Lx.cells (x:Lx):List Value:=[.int .u8 (x.k:Nat),.int .u8 (x.i:Nat),.slice x.A x.n x.c]
structure LxOk (W:World) (x:Lx):Prop where
 k8:x.k<=255
 i8:x.i<=255
 sl:Sl W 1 x.A x.n x.c (VH x.ws)
 w8:∀b∈x.ws,b<=255
theorem LxOk.ext {W W':World}{x:Lx}(h:LxOk W x)(k:Ext W W'):LxOk W' x:=⟨h.k8,h.i8,h.sl.ext k,h.w8⟩
theorem jQQ {W:World}(cs:List Value)(dz:Nat)(D:DataW H×List MemPlace)(hl:cs.length=3)(h:DataW.trod enc Tryz.prog W 0 (λ_=>true) true dz 83 cs=some D):∃y:{x:Lx // LxOk W x},y.1.cells=cs:=by
 have sJ:Tryz.prog.cellsOf 5=1:=by kernel_rfl
 have Eb:Tryz.prog.cellsOf 62=1:=by kernel_rfl
 obtain⟨xs,k,_,_,_,iA,Zq⟩:=DataW.trod_struct Tryz.underlying83 h;obtain⟨y0,y1,y2,rfl⟩:=C4 (show xs.length=3 from iA);obtain⟨v0,v1,v2,rfl⟩:=C4 hl;have g0:=Zq 0 _ rfl;have g1:=Zq 1 _ rfl;have g2:=Zq 2 _ rfl;simp[sJ,Eb] at g0 g1 g2;obtain⟨n0,e0,_,w0⟩:=DataW.trod_int Tryz.underlying5 g0;obtain⟨n1,e1,_,w1⟩:=DataW.trod_int Tryz.underlying5 g1;simp at e0 e1;subst e0 e1;have key:∃a n c,v2= .slice a n c:=by
  rcases Go.Deep.open_slice Tryz.underlying62 g2 with⟨XN,_⟩ | ⟨x,l,c,m,n,D,Pl,XN,_⟩
  ·simp at XN;exact⟨_,_,_,XN⟩
  ·simp at XN;exact⟨_,_,_,XN⟩
 obtain⟨a,n,c,rfl⟩:=key;obtain⟨ws,hS,h8⟩:=jQP ⟨_,g2⟩;obtain⟨m0,rfl,q0⟩:=u8_of w0;obtain⟨m1,rfl,q1⟩:=u8_of w1;exact⟨⟨⟨m0,m1,ws,a,n,c⟩,⟨q0,q1,hS,h8⟩⟩,rfl⟩
theorem jQR {W:World}{a:Option Addr}{len cap:Nat}{d:DataW H}{p:List MemPlace}(h:DataW.Trod enc Tryz.prog W 0 (λ_=>true) true 22 (.slice a len cap) d p):∃l,SlS Lx.cells 3 W a len cap l/\∀x∈l,LxOk W x:=by
 obtain⟨dz,hf⟩:=h;exact U4 (U0 (cells:=λy:{x:Lx // LxOk W x}=>y.1.cells) (λ_=>rfl) (by decide) Tryz.underlying22 (by kernel_rfl) ⟨⟨⟨0,0,[],none,0,0⟩,⟨by simp,by simp,Sl.nil W 1,by simp⟩⟩⟩ jQQ rfl hf)
end
section
theorem okL:((List.range 5).all λk=>(List.range 256).all λb=>(YQ (Zm.take k) b).all (λx=>decide (x≠10/\x<256))&&decide ((YQ (Zm.take k) b).length<=20))=true:=by decide+kernel
theorem vl {k b:Nat}(hk:k<=4)(hb:b<=255):10∉YQ (Zm.take k) b/\(∀x∈YQ (Zm.take k) b,x<256)/\(YQ (Zm.take k) b).length<=20:=by
 have h:=Ka.1 (Ka.1 okL k (cI.2 (by omega))) b (cI.2 (by omega));rw[Z9] at h;have h1:=Ka.1 h.1;exact⟨λhh=>(Y2 (h1 10 hh)).1 rfl,λx hx=>(Y2 (h1 x hx)).2,Y2 h.2⟩
def Y9 (k:Nat):List Nat:=([[120],[43],[121],[42],[40],[41],[105,102],[101,108,115,101],[59],[94],[122],[37,99]][k % 12]?).getD []
theorem U5 (k:Nat):10∉Y9 k/\35∉Y9 k/\(∀x∈Y9 k,x<256)/\(Y9 k).length<=4:=by
 unfold Y9;have h:=bP k (show 12>0 by decide);generalize k % 12=r at h;have key:(List.range 12).all (λr=>decide (10∉(([[120],[43],[121],[42],[40],[41],[105,102],[101,108,115,101],[59],[94],[122],[37,99]]:List (List Nat))[r]?).getD []/\35∉(([[120],[43],[121],[42],[40],[41],[105,102],[101,108,115,101],[59],[94],[122],[37,99]]:List (List Nat))[r]?).getD []/\(∀x∈(([[120],[43],[121],[42],[40],[41],[105,102],[101,108,115,101],[59],[94],[122],[37,99]]:List (List Nat))[r]?).getD [],x<256)/\((([[120],[43],[121],[42],[40],[41],[105,102],[101,108,115,101],[59],[94],[122],[37,99]]:List (List Nat))[r]?).getD []).length<=4))=true:=by decide
 exact Y2 (Ka.1 key r (cI.2 h))
def bm:Bool->List Nat->List Nat
 | _,[]=>[]
 | sp,w::l=>(if sp then [32] else [])++(Y9 w++(if w % 12=11 then [] else bm true l))
theorem U6:∀(sp:Bool)(l:List Nat),10∉bm sp l/\35∉bm sp l/\(∀x∈bm sp l,x<256)/\(bm sp l).length<=5*l.length
 | _,[]=>by simp[bm]
 | sp,w::l=>by
  obtain⟨h1,h2,h3,h4⟩:=U5 w;obtain⟨i1,i2,i3,i4⟩:=U6 true l;have key:∀x∈bm sp (w::l),x=32∨x∈Y9 w∨x∈bm true l:=λx hx=>by
   rw[bm] at hx;rcases XP.1 hx with hx | hx
   ·cases sp<;>simp at hx;exact .inl hx
   rcases XP.1 hx with hx | hx
   ·exact .inr (.inl hx)
   ·split at hx
    ·cases hx
    ·exact .inr (.inr hx)
  refine⟨λh=>?_,λh=>?_,λx hx=>?_,?_⟩
  ·rcases key _ h with h | h | h
   ·cases h
   ·exact h1 h
   ·exact i1 h
  ·rcases key _ h with h | h | h
   ·cases h
   ·exact h2 h
   ·exact i2 h
  ·rcases key _ hx with h | h | h
   ·omega
   ·exact h3 _ h
   ·exact i3 _ h
  ·rw[bm,Qq,Qq,Q2];have e1:(if sp=true then [32] else []:List Nat).length<=1:=by split<;>simp
   have e2:(if w % 12=11 then [] else bm true l).length<=5*l.length:=by split<;>simp[i4]
   omega
def KH (k:Nat)(ws:List Nat):List Nat:=List.replicate (k/8 % 4) 32++bm false (ws.take 6)
theorem oS (k:Nat)(ws:List Nat):10∉KH k ws/\35∉KH k ws/\(∀x∈KH k ws,x<256)/\(KH k ws).length<=33:=by
 obtain⟨h1,h2,h3,h4⟩:=U6 false (ws.take 6);have hl:(ws.take 6).length<=6:=by rw[Kx];omega
 have key:∀x∈KH k ws,x=32∨x∈bm false (ws.take 6):=λx hx=>by
  rcases XP.1 hx with hx | hx
  ·exact .inl (Bq hx)
  ·exact .inr hx
 refine⟨λh=>?_,λh=>?_,λx hx=>?_,?_⟩
 ·rcases key _ h with h | h
  ·cases h
  ·exact h1 h
 ·rcases key _ h with h | h
  ·cases h
  ·exact h2 h
 ·rcases key _ hx with h | h
  ·omega
  ·exact h3 _ h
 ·unfold KH;rw[Qq,List.length_replicate];omega
theorem jQS (k:Nat)(ws:List Nat):TxOk (KH k ws):=by
 obtain⟨h1,h2,h3,_⟩:=oS k ws;exact⟨h1,jQG (λe=>h2 (List.mem_of_mem_head? e)),h3⟩
theorem U7 {k b:Nat}(hk:k<=4)(hb:b<=255):FOk (Zm.take k) (YQ (Zm.take k) b) (vk k b):=
 ⟨(vl hk hb).1,jQC hk hb,(vl hk hb).2.1⟩
def Yy (k0:Nat)(ic:Bool)(x:Lx)(op:List Bool):Mn×List Bool:=
 if x.k % 8=4/\op.length<3 then(.ifd (YQ (Zm.take k0) x.i) (vk k0 x.i),false::op)
 else if x.k % 8=5/\op.head? =some false/\x.i % 2=0 then(.elif (YQ (Zm.take k0) (x.i/2)) (vk k0 (x.i/2)),op)
 else if x.k % 8=5/\op.head? =some false then(.els,true::op.tail)
 else if x.k % 8=6/\op≠ [] then(.en,op.tail)
 else if x.k % 8=7/\ic=true then(.inc,op)
 else(.tx (KH x.k x.ws),op)
def Wa (k0:Nat)(ic:Bool):List Lx->List Bool->List Mn
 | [],op=>op.map (λ_=>.en)
 | x::l,op=>(Yy k0 ic x op).1::Wa k0 ic l (Yy k0 ic x op).2
theorem U8 (nm:List (List Nat))(ic:Bool)(D:Nat):∀(op:List Bool),ZK nm ic D op (op.map (λ_=>.en))
 | []=>trivial
 | b::op=>by
  have:=U8 nm ic D op;cases b<;>exact this
theorem U9 {nm:List (List Nat)}{ic:Bool}{D:Nat}{op:List Bool}{s:List Nat}{l:List Mn}(h:TxOk s)(h':ZK nm ic D op l):ZK nm ic D op (.tx s::l):=by
 cases op with
 | nil=>exact⟨h,h'⟩
 | cons b op=>cases b<;>exact⟨h,h'⟩
theorem jQT {nm:List (List Nat)}{ic:Bool}{D:Nat}{op:List Bool}{l:List Mn}(h:ic=true)(h':ZK nm ic D op l):ZK nm ic D op (.inc::l):=by
 cases op with
 | nil=>exact⟨h,h'⟩
 | cons b op=>cases b<;>exact⟨h,h'⟩
theorem C5 {nm:List (List Nat)}{ic:Bool}{D:Nat}{op:List Bool}{F:List Nat}{o:BF}{l:List Mn}(hb:FOk nm F o)(h:op.length<D)(h':ZK nm ic D (false::op) l):ZK nm ic D op (.ifd F o::l):=by
 cases op with
 | nil=>exact⟨hb,h,h'⟩
 | cons c op=>cases c<;>exact⟨hb,h,h'⟩
theorem C6 {nm:List (List Nat)}{ic:Bool}{D:Nat}{c:Bool}{op:List Bool}{l:List Mn}(h':ZK nm ic D op l):ZK nm ic D (c::op) (.en::l):=by
 cases c<;>exact h'
theorem aQa {k0:Nat}(hk:k0<=4)(ic:Bool):∀(l:List Lx)(op:List Bool),(∀x∈l,x.i<=255)->op.length<=3->ZK (Zm.take k0) ic 3 op (Wa k0 ic l op)
 | [],op,_,_=>U8 _ ic 3 op
 | x::l,op,hx,X7=>by
  have aj:=hx x (by simp);have ih:=λop h=>aQa hk ic l op (λy hy=>hx y (by simp[hy])) h
  rw[Wa];unfold Yy;split
  ·rename_i h;exact C5 (U7 hk aj) h.2 (ih _ (by simp;omega))
  split
  ·rename_i h;cases op with
   | nil=>cases h.2.1
   | cons b op=>
    have hb:b=false:=by have:=h.2.1;simpa using this
    subst hb;exact⟨U7 hk (by omega),ih _ X7⟩
  split
  ·rename_i h;cases op with
   | nil=>cases h.2
   | cons b op=>
    have hb:b=false:=by have:=h.2;simpa using this
    subst hb;exact ih (true::op) X7
  split
  ·rename_i h;cases op with
   | nil=>exact Xc rfl h.2
   | cons b op=>exact C6 (ih op (by simp at X7;omega))
  split
  ·rename_i h;exact jQT h.2 (ih _ X7)
  ·exact U9 (jQS _ _) (ih _ X7)
def yA (nm:List (List Nat)):Mn->Prop
 | .tx s=>TxOk s
 | .ifd F o=>FOk nm F o
 | .elif F o=>FOk nm F o
 | _=>True
theorem rU {nm:List (List Nat)}{ic:Bool}{D:Nat}:∀{l:List Mn}{op:List Bool},ZK nm ic D op l->∀m∈l,yA nm m
 | [],_,_,m,hm=>by cases hm
 | x::l,op,h,m,hm=>by
  have key:yA nm x/\∃Xs,ZK nm ic D Xs l:=by
   cases x with
   | tx s=>cases op with
    | nil=>exact⟨h.1,_,h.2⟩
    | cons b op=>cases b<;>exact⟨h.1,_,h.2⟩
   | ifd F o=>cases op with
    | nil=>exact⟨h.1,_,h.2.2⟩
    | cons b op=>cases b<;>exact⟨h.1,_,h.2.2⟩
   | elif F o=>cases op with
    | nil=>exact h.elim
    | cons b op=>cases b with
     | false=>exact⟨h.1,_,h.2⟩
     | true=>exact h.elim
   | els=>cases op with
    | nil=>exact h.elim
    | cons b op=>cases b with
     | false=>exact⟨trivial,_,h⟩
     | true=>exact h.elim
   | en=>cases op with
    | nil=>exact h.elim
    | cons b op=>cases b<;>exact⟨trivial,_,h⟩
   | inc=>cases op with
    | nil=>exact⟨trivial,_,h.2⟩
    | cons b op=>cases b<;>exact⟨trivial,_,h.2⟩
  rcases QY.1 hm with rfl | hm
  ·exact key.1
  ·obtain⟨Xs,h'⟩:=key.2;exact rU h' m hm
theorem aQb {nm:List (List Nat)}{m:Mn}(h:yA nm m):10∉XD m/\∀x∈XD m,x<256:=by
 cases m with
 | tx s=>exact⟨h.nl,h.b8⟩
 | ifd F o=>exact⟨by simp[XD,ZJ,h.nl],H0 (by decide) h.b8⟩
 | elif F o=>exact⟨by simp[XD,pElif,h.nl],H0 (by decide) h.b8⟩
 | els=>exact⟨by decide,by decide⟩
 | en=>exact⟨by decide,by decide⟩
 | inc=>exact⟨by decide,by decide⟩
theorem aQc {nm:List (List Nat)}{l:List Mn}(h:∀m∈l,yA nm m):l6 (l.map XD):=λs hs=>by
 obtain⟨m,hm,rfl⟩:=Zk.1 hs;exact(aQb (h m hm)).1
theorem C7 {nm:List (List Nat)}{l:List Mn}(h:∀m∈l,yA nm m):∀x∈Qp (l.map XD),x<256:=jQI (λs hs=>by
 obtain⟨m,hm,rfl⟩:=Zk.1 hs;exact(aQb (h m hm)).2)
def fS (M:Nat)(l:List Mn):Prop:=∀m∈l,(XD m).length<M
theorem C8 {M:Nat}:∀{l:List Mn},fS M l->(Qp (l.map XD)).length<=l.length*M
 | [],_=>by simp[Qp]
 | m::l,h=>by
  rw[Kw,V4,Qq,Q2,Q2];have h1:=C8 (λx hx=>h x (by simp[hx]):fS M l);have h2:=h m (by simp);rw[lr,xg];omega
theorem aQd {M:Nat}{ie:BF->CB}(wJ:∀k,(ie k).length<=M):∀(l:List Mn)(k:BF)(op:List (BF×BF)),fS M l->(ZX ie l k op).length<=l.length*M
 | [],_,_,_=>by simp[ZX]
 | m::l,k,op,h=>by
  have ih:=λk op=>aQd wJ l k op (λx hx=>h x (by simp[hx]))
  have hm:=h m (by simp);have e:(m::l).length*M=l.length*M+M:=by rw[Q2,lr,xg]
  rw[e];cases m with
  | tx s=>
   have hm:s.length<M:=hm;have:=ih k op;rw[ZX,Qq,JL,Qq,nU];omega
  | ifd F o=>have:=ih (XY k o) ((k,J2 k o)::op);rw[ZX];omega
  | elif F o=>
   cases op with
   | nil=>simp[ZX]
   | cons x op=>obtain⟨ou,re⟩:=x;have:=ih (XY re o) ((ou,J2 re o)::op);rw[ZX];omega
  | els=>
   cases op with
   | nil=>simp[ZX]
   | cons x op=>obtain⟨ou,re⟩:=x;have:=ih re ((ou,re)::op);rw[ZX];omega
  | en=>
   cases op with
   | nil=>simp[ZX]
   | cons x op=>obtain⟨ou,re⟩:=x;have:=ih ou op;rw[ZX];omega
  | inc=>
   have:=wJ k;have:=ih k op;rw[ZX,Qq];omega
theorem Im {k0:Nat}{ic:Bool}{x:Lx}{op:List Bool}(h:op.length<=3):(Yy k0 ic x op).2.length<=3:=by
 unfold Yy;split
 ·rename_i h;simp;omega
 split
 ·exact h
 split
 ·rename_i hh;cases op with
  | nil=>cases hh.2
  | cons b op=>simpa using h
 split
 ·simp;omega
 split<;>exact h
theorem aQe (k0:Nat)(ic:Bool):∀(l:List Lx)(op:List Bool),op.length<=3->(Wa k0 ic l op).length<=l.length+3
 | [],op,h=>by simp[Wa];omega
 | x::l,op,h=>by
  rw[Wa,Q2,Q2];have:=aQe k0 ic l _ (Im (k0:=k0) (ic:=ic) (x:=x) h);omega
theorem In {k0:Nat}(hk:k0<=4){ic:Bool}{x:Lx}(hx:x.i<=255){op:List Bool}:(XD (Yy k0 ic x op).1).length<34:=by
 unfold Yy;split
 ·have:=(vl hk hx).2.2;simp[XD,ZJ];omega
 split
 ·have:=(vl hk (show x.i/2<=255 by omega)).2.2;simp[XD,pElif];omega
 split
 ·exact(by decide:(XD Mn.els).length<34)
 split
 ·exact(by decide:(XD Mn.en).length<34)
 split
 ·exact(by decide:(XD Mn.inc).length<34)
 ·have:=(oS x.k x.ws).2.2.2;show(KH x.k x.ws).length<34;omega
theorem aQf {k0:Nat}(hk:k0<=4)(ic:Bool):∀(l:List Lx)(op:List Bool),(∀x∈l,x.i<=255)->fS 34 (Wa k0 ic l op)
 | [],op,_=>λm hm=>by
  obtain⟨_,_,rfl⟩:=Zk.1 hm;decide
 | x::l,op,h=>λm hm=>by
  rw[Wa] at hm;rcases QY.1 hm with rfl | hm
  ·exact In hk (h x (by simp))
  ·exact aQf hk ic l _ (λy hy=>h y (by simp[hy])) m hm
def Io (k0:Nat)(main:List Lx):List Mn:=Wa k0 true (main.take 12) []
def jQU (k0:Nat)(cB:List Lx):List Mn:=Wa k0 false (cB.take 5) []
def Ip (k0:Nat)(main cB:List Lx):List (List Nat×List Nat):=[([109],Qp ((Io k0 main).map XD)),([110],Qp ((jQU k0 cB).map XD))]
def eY:BF->CB:=λ_=>[]
theorem jQV {fs:List (List Nat×List Nat)}(h:fs.length<=256)(hc:dL fs [] 0=none):Y6 fs=none:=by
 unfold Y6;rw[if_neg (by omega),hc]
def bY (e:Nat->Bool)(c:CB):List Nat:=(c.filter (λp=>p.2 e)).map (·.1)
theorem jQW (e:Nat->Bool)(a b:CB):bY e (a++b)=bY e a++bY e b:=by simp[bY]
theorem jQX {e:Nat->Bool}{k:BF}(h:k e=true)(l:List Nat):bY e (l.map (λb=>(b,k)))=l:=by
 induction l with
 | nil=>rfl
 | cons x l ih=>unfold bY at ih ⊢;rw[Kw,fD,Qf (by exact h),Kw,ih]
theorem jQY {e:Nat->Bool}{k:BF}(h:k e=false)(l:List Nat):bY e (l.map (λb=>(b,k)))=[]:=by
 induction l with
 | nil=>rfl
 | cons x l ih=>unfold bY at ih ⊢;rw[Kw,fD,if_neg (by simp[h]),ih]
theorem aQg {nm:List (List Nat)}{M D:Nat}(hn:Z1 nm=true)(hD:D<64){l:List Mn}(hw:ZK nm false D [] l)(hb:fS M l)(hl:l.length*M<=60000){f:List Nat}(Zp:oH f=true):
  ∃g,Vh nm [(f,Qp (l.map XD))] f= .ok g/\Wx g=ZX eY l (λ_=>true) []:=by
 have hL:=aQc (rU hw);have l1:=C8 hb;generalize hF: [(f,Qp (l.map XD))]=fs;have dV:fs[0]? =some (f,Qp (l.map XD)):=by rw[<-hF]<;>rfl
 have OU:fs.map (·.1)=[f]:=by rw[<-hF]<;>rfl
 have Ve:Y6 fs=none:=by
  rw[<-hF];refine jQV (by simp) ?_;rw[dL,if_neg (λhh=>hh ⟨Zp,(by simp),jQH _⟩),if_neg (by simp only;omega)];rfl
 unfold Vh;rw[if_neg (by rw[hn];decide),Ve,OU];simp only[show Jq [f] f=some 0 from jQJ (by simp)];rw[aq,dV];simp only[xb,gJ];rw[HE hL];have yU:GInv fs ⟨[],[],true⟩:=⟨rfl,λs hs=>by cases hs⟩
 have qQw:=aQd (ie:=eY) (λ_=>Xo _) l (λ_=>true) [] hb;obtain⟨g,r1,r2,r3⟩:=UZ (nm:=nm) (n:=0) (d0:=0) (inc:=λr ln d k g=>match dK (Jq (fs.map (·.1))) [0] r with
   | .error e=>.error ⟨e,(0:Nat),ln⟩
   | .ok m=>if d=64 then .error ⟨2,(0:Nat),ln⟩else aq nm fs 64 [0] (d+1) m k g) dV (ic:=false) (D:=D) (ie:=eY) (λh=>by cases h) (by omega) l 0 0 (λ_=>true) [] ⟨[],[],true⟩ (by rw[tV]) (Xo _) yU (λh=>by cases h) hw (Xo _) (by
   have e:(Wx ⟨[],[],true⟩).length=0:=rfl;rw[e,WQ];show(ZX eY l (λ_=>true) []).length<=_;omega)
 exact⟨g,r1,r3⟩
end
section
variable {nm:List (List Nat)} {n:Nat}
def vF (nm:List (List Nat))(v:Nat)(ng:Bool):List Nat:=(if ng then [33] else [])++(nm[v]?).getD []
def vO (v:Nat)(ng:Bool):BF:=λe=>e v !=ng
def Iq (nm:List (List Nat))(n:Nat):Prop:=∀v ng,v<n->FOk nm (vF nm v ng) (vO v ng)
def VO (nm:List (List Nat)):Tr->List Mn
 | .nil=>[]
 | .ln s r=>.tx s::VO nm r
 | .sc v ng h .nil r=>.ifd (vF nm v ng) (vO v ng)::(VO nm h++ .en::VO nm r)
 | .sc v ng h l r=>.ifd (vF nm v ng) (vO v ng)::(VO nm h++ .els::(VO nm l++ .en::VO nm r))
theorem C9 (v:Nat)(ng:Bool)(h l r:Tr):(l= .nil/\VO nm (.sc v ng h l r)= .ifd (vF nm v ng) (vO v ng)::(VO nm h++ .en::VO nm r)/\fl nm (.sc v ng h l r)=J4 nm v ng::(fl nm h++Zb::fl nm r))∨(l≠ .nil/\VO nm (.sc v ng h l r)= .ifd (vF nm v ng) (vO v ng)::(VO nm h++ .els::(VO nm l++ .en::VO nm r))/\fl nm (.sc v ng h l r)=J4 nm v ng::(fl nm h++Kz::(fl nm l++Zb::fl nm r))):=by
 cases l with
 | nil=>exact .inl ⟨rfl,rfl,rfl⟩
 | _=>exact .inr ⟨(by intro e;cases e),rfl,rfl⟩
theorem oT:∀t:Tr,(VO nm t).map XD=fl nm t
 | .nil=>rfl
 | .ln s r=>by rw[VO,fl,Kw,oT r]<;>rfl
 | .sc v ng h l r=>by
  rcases C9 (nm:=nm) v ng h l r with⟨_,h1,h2⟩ | ⟨_,h1,h2⟩<;>rw[h1,h2]
  ·simp only[Kw,WR,oT h,oT r];rfl
  ·simp only[Kw,WR,oT h,oT l,oT r];rfl
theorem vm (hV:Iq nm n){D:Nat}:∀(t:Tr)(op:List Bool)(rest:List Mn),Wt n t->Y8 TxOk t->op.length+dT t<=D->ZK nm false D op rest->ZK nm false D op (VO nm t++rest)
 | .nil,op,rest,_,_,_,hr=>hr
 | .ln s r,op,rest,w,hl,hd,hr=>by
  rw[VO,Jo];exact U9 hl.1 (vm hV r op rest w.2 hl.2 hd hr)
 | .sc v ng h l r,op,rest,w,hl,hd,hr=>by
  have ZQ:op.length+max (1+max (dT h) (dT l)) (dT r)<=D:=hd;have ihr:=vm hV r op rest w.2.2.2 hl.2.2 (by omega) hr;rcases C9 (nm:=nm) v ng h l r with⟨_,h1,_⟩ | ⟨_,h1,_⟩<;>rw[h1,Jo,ZG]
  ·refine C5 (hV v ng w.1) (by omega) (vm hV h (false::op) _ w.2.1 hl.1 (by rw[Q2];omega) ?_);rw[Jo];exact C6 ihr
  ·refine C5 (hV v ng w.1) (by omega) (vm hV h (false::op) _ w.2.1 hl.1 (by rw[Q2];omega) ?_);rw[Jo,ZG];show ZK nm false D (true::op) _;refine vm hV l (true::op) _ w.2.2.1 hl.2.1 (by rw[Q2];omega) ?_;rw[Jo];exact C6 ihr
theorem vn {e:Nat->Bool}:∀(t:Tr)(rest:List Mn)(k:BF)(op:List (BF×BF)),bY e (ZX eY (VO nm t++rest) k op)=(if k e=true then Qp (Ko e t)else [])++bY e (ZX eY rest k op)
 | .nil,rest,k,op=>by
  have:(if k e=true then Qp (Ko e .nil)else [])=[]:=by split<;>rfl
  rw[this]<;>rfl
 | .ln s r,rest,k,op=>by
  rw[VO,Jo,ZX,jQW,vn r rest k op,<-ZG];congr 1;cases hk:k e with
  | true=>rw[jQX hk,Qf rfl,Qf rfl,Ko,V4];simp
  | false=>rw[jQY hk,if_neg (by decide),if_neg (by decide)]<;>rfl
 | .sc v ng h l r,rest,k,op=>by
  have hs:Ko e (.sc v ng h l r)=(if(e v !=ng)=true then Ko e h else Ko e l)++Ko e r:=rfl;have hu:∀a b:List (List Nat),Qp (a++b)=Qp a++Qp b:=λa b=>by simp[Qp]
  rcases C9 (nm:=nm) v ng h l r with⟨e0,h1,_⟩ | ⟨_,h1,_⟩<;>rw[h1,Jo,ZG,ZX,vn h,Jo,ZX]
  ·show _++bY e (ZX eY (VO nm r++rest) k op)=_;rw[vn r rest k op,<-ZG];congr 1;subst e0;rw[hs];cases hk:k e with
   | true=>
    have:XY k (vO v ng) e=(e v !=ng):=by show(k e&&(e v !=ng))=_;rw[hk]<;>rfl
    rw[this,Qf rfl,Qf rfl,hu];congr 1;generalize (e v !=ng)=b;cases b<;>rfl
   | false=>
    have:XY k (vO v ng) e=false:=by show(k e&&(e v !=ng))=_;rw[hk]<;>rfl
    rw[this]<;>rfl
  ·show _++bY e (ZX eY ((VO nm l++ .en::VO nm r)++rest) (J2 k (vO v ng)) ((k,J2 k (vO v ng))::op))=_;rw[ZG,vn l,Jo,ZX];show _++(_++bY e (ZX eY (VO nm r++rest) k op))=_;rw[vn r rest k op,<-ZG,<-ZG];congr 1;rw[hs];cases hk:k e with
   | true=>
    have a1:XY k (vO v ng) e=(e v !=ng):=by show(k e&&(e v !=ng))=_;rw[hk]<;>rfl
    have a2:J2 k (vO v ng) e= !(e v !=ng):=by show(k e && !(e v !=ng))=_;rw[hk]<;>rfl
    rw[a1,a2,Qf rfl,Qf rfl,hu];congr 1;generalize (e v !=ng)=b;cases b
    ·rfl
    ·exact KE _
   | false=>
    have a1:XY k (vO v ng) e=false:=by show(k e&&(e v !=ng))=_;rw[hk]<;>rfl
    have a2:J2 k (vO v ng) e=false:=by show(k e && !(e v !=ng))=_;rw[hk]<;>rfl
    rw[a1,a2]<;>rfl
end
noncomputable section
def Ir (v:Nat)(ng:Bool):Fm:=if ng then .not (.v v)else .v v
def Da (k v:Nat)(ng:Bool):Bool:=(match fO (Zm.take k) (vF (Zm.take k) v ng)with
 | .ok t=>decide (t=Ir v ng)
 | .error _=>false)&&(vF (Zm.take k) v ng).all (λb=>decide (b<256)&&b !=10)
theorem jQZ:((List.range 5).all λk=>(List.range k).all λv=>Da k v true&&Da k v false)=true:=by decide+kernel
theorem jQ0 {k:Nat}(hk:k<=4):Iq (Zm.take k) k:=λv ng hv=>by
 have h1:=Ka.1 jQZ k (cI.2 (by omega));have h2:=Ka.1 h1 v (cI.2 hv);have h3:Da k v ng=true:=by
  rw[Z9] at h2;cases ng
  ·exact h2.2
  ·exact h2.1
 unfold Da at h3;rw[Z9] at h3;obtain⟨h4,h5⟩:=h3;refine⟨λhm=>?_,?_,λx hx=>?_⟩
 ·have:=Ka.1 h5 10 hm;simp at this
 ·unfold V3;split at h4
  ·rename_i t ht;rw[ht,Y2 h4];show Except.ok (evF (Ir v ng))= .ok (vO v ng);congr 1;funext e;unfold Ir vO;cases ng
   ·show e v=(e v !=false);simp
   ·show(!e v)=(e v !=true);simp
  ·cases h4
 ·have:=Ka.1 h5 x hx;simp at this;exact this.1
def Db (k v v':Nat)(ng ng':Bool):Bool:=decide (J4 (Zm.take k) v ng=J4 (Zm.take k) v' ng'->v=v'/\ng=ng')
theorem jQ1:((List.range 5).all λk=>(List.range k).all λv=>(List.range k).all λv'=>Db k v v' true true&&Db k v v' true false&&Db k v v' false true&&Db k v v' false false)=true:=by decide+kernel
theorem jQ2 {k:Nat}(hk:k<=4):rN (Zm.take k) k:=λv v' ng ng' hv Ot=>by
 have h1:=Ka.1 jQ1 k (cI.2 (by omega));have h2:=Ka.1 h1 v (cI.2 hv);have h3:=Ka.1 h2 v' (cI.2 Ot);simp only[Z9] at h3;obtain⟨⟨⟨a1,a2⟩,a3⟩,a4⟩:=h3;cases ng<;>cases ng'
 ·exact Y2 a4
 ·exact Y2 a3
 ·exact Y2 a2
 ·exact Y2 a1
theorem jQ3 {k:Nat}(hk:k<=4){v:Nat}(hv:v<k)(ng:Bool):(vF (Zm.take k) v ng).length<=2:=by
 rcases(show k=0∨k=1∨k=2∨k=3∨k=4 by omega)with rfl | rfl | rfl | rfl | rfl
 ·omega
 all_goals
  rcases(show v=0∨v=1∨v=2∨v=3 by omega)with rfl | rfl | rfl | rfl<;>first | omega | (cases ng<;>decide)
theorem yB {k:Nat}(hk:k<=4){M:Nat}(h8:8<=M):∀{t:Tr},Wt k t->Y8 (λs=>TxOk s/\s.length<M) t->fS M (VO (Zm.take k) t)
 | .nil,_,_=>λm hm=>by cases hm
 | .ln s r,w,h=>λm hm=>by
  rcases QY.1 hm with rfl | hm
  ·exact h.1.2
  ·exact yB hk h8 w.2 h.2 m hm
 | .sc v ng a l r,w,h=>λm hm=>by
  have hi:(XD (.ifd (vF (Zm.take k) v ng) (vO v ng))).length<M:=by
   have:=jQ3 hk w.1 ng;show(ZJ++_).length<M;rw[Qq];show 4+_<M;omega
  have he:(XD .en).length<M:=by show 4<M;omega
  have hs:(XD .els).length<M:=by show 5<M;omega
  have ha:=yB hk h8 w.2.1 h.1;have hl:=yB hk h8 w.2.2.1 h.2.1;have hr:=yB hk h8 w.2.2.2 h.2.2;rcases C9 (nm:=Zm.take k) v ng a l r with⟨_,h1,_⟩ | ⟨_,h1,_⟩<;>rw[h1] at hm<;>simp only[QY,XP] at hm
  ·rcases hm with rfl | hm | rfl | hm
   ·exact hi
   ·exact ha m hm
   ·exact he
   ·exact hr m hm
  ·rcases hm with rfl | hm | rfl | hm | rfl | hm
   ·exact hi
   ·exact ha m hm
   ·exact hs
   ·exact hl m hm
   ·exact he
   ·exact hr m hm
theorem yC {P Q:List Nat->Prop}(h:∀s,P s->Q s):∀{t:Tr},Y8 P t->Y8 Q t
 | .nil,_=>trivial
 | .ln s r,k=>⟨h s k.1,yC h k.2⟩
 | .sc _ _ a l r,k=>⟨yC h k.1,yC h k.2.1,yC h k.2.2⟩
def vo (b c:Nat):Bool:=decide (b % 256=0)||b.testBit c
def oU (b:Nat):List Nat:=(List.range 8).filter (vo b)
theorem Dc {b c:Nat}(h:c∈oU b):c<8:=cI.1 (Jy.1 h).1
theorem jQ4 {b:Nat}(hb:b<=255):oU b≠ []:=by
 intro e;have h:=tZ.1 e;have h0:∀c,c<8->vo b c=false:=λc hc=>by have:=h c (cI.2 hc);simpa using this
 unfold vo at h0;have d9:b≠0:=λe=>by subst e;have:=h0 0 (by decide);simp at this
 refine d9 (Nat.eq_of_testBit_eq (λi=>?_));rw[Nat.zero_testBit];by_cases hi:i<8
 ·have:=h0 i hi;rw[Bool.or_eq_false_iff] at this;exact this.2
 ·exact Ge (Yq (show b<2^8 by omega) (aT (by decide) (by omega)))
theorem jQ5 (c:Nat):Yh c=λi=>c.testBit i:=by
 funext i;unfold Yh;rw[Nat.testBit_eq_decide_div_mod_eq]
def QG (n:Nat)(o:BF):List Nat:=(List.range (2^n)).filter (λc=>o (λi=>c.testBit i))
theorem JC {n:Nat}{o:BF}{c:Nat}:c∈QG n o↔c<2^n/\o (λi=>c.testBit i)=true:=by
 unfold QG;rw[Jy,cI]
def Dd (n:Nat)(o:BF):Prop:=∀e e',(∀i,i<n->e i=e' i)->o e=o e'
theorem De:∀(n:Nat)(e:Nat->Bool),∃c,c<2^n/\∀i,i<n->c.testBit i=e i
 | 0,e=>⟨0,by decide,λi hi=>Xc hi (by omega)⟩
 | n+1,e=>by
  obtain⟨c,hc,hb⟩:=De n e;cases he:e n with
  | false=>
   refine⟨c,Nat.lt_trans hc (Nat.pow_lt_pow_right (by decide) (by omega)),λi hi=>?_⟩;by_cases h:i<n
   ·exact hb i h
   ·have:i=n:=by omega
    subst this;rw[he];exact Ge hc
  | true=>
   refine⟨2^n+c,by rw[nQ];omega,λi hi=>?_⟩;by_cases h:i<n
   ·rw[Nat.testBit_two_pow_add_gt h,hb i h]
   ·have:i=n:=by omega
    subst this;rw[he,Nat.testBit_two_pow_add_eq,Ge hc]<;>rfl
theorem Set1.dep {k:Nat}{nd:List Br}{r:Int}{o:BF}(h:Set1 k nd r o):Dd k o:=λe e' he=>by
 rw[<-h.mean,<-h.mean];exact CW h.vd.wf h.vin (λb hb=>by
  obtain⟨j,hj⟩:=xi.1 hb;have:=h.vd.1 j b hj;exact this.1) he (r.toNat+1) r (by omega) h.vd.2.2.1
theorem aQh {n:Nat}{o:BF}(h:Dd n o){p:BF}(hp:Dd n p):(∀e,o e=true->p e=true)↔∀c∈QG n o,p (λi=>c.testBit i)=true:=by
 constructor
 ·exactλk c hc=>k _ (JC.1 hc).2
 ·intro k e he;obtain⟨c,hc,hb⟩:=De n e;rw[<-hp _ e hb];exact k c (JC.2 ⟨hc,by rw[h _ e hb];exact he⟩)
theorem jQ6 {n:Nat}{o:BF}(h:Dd n o):QG n o=[]↔∀e,o e=false:=by
 constructor
 ·intro k e;cases he:o e with
  | false=>rfl
  | true=>
   obtain⟨c,hc,hb⟩:=De n e;have:c∈QG n o:=JC.2 ⟨hc,by rw[h _ e hb];exact he⟩;rw[k] at this;cases this
 ·intro k;refine List.eq_nil_iff_forall_not_mem.2 (λc hc=>?_);have:=(JC.1 hc).2;rw[k] at this;cases this
theorem Set1.root0 {k:Nat}{nd:List Br}{r:Int}{o:BF}(h:Set1 k nd r o):r=0↔QG k o=[]:=by
 rw[jQ6 h.dep];constructor
 ·rintro rfl e;rw[<-h.mean,JX (by decide)]<;>rfl
 ·intro h0;have:=h.unique (bV k false) h0;exact QC Prod.snd this
theorem aQi {n:Nat}{o p:BF}{v:Nat}(b:Bool)(hp:∀e,p e=(o e&&(e v==b))):QG n p=(QG n o).filter (λc=>c.testBit v==b):=by
 unfold QG;rw[List.filter_filter];congr 1;funext c;rw[hp,Bool.and_comm]
theorem aQj {n:Nat}{o:BF}:Apt (QG n o) 0 n:=λc hc c' ZZ hb=>by
 have h1:=(JC.1 hc).1;have h2:=(JC.1 ZZ).1;refine Nat.eq_of_testBit_eq (λi=>?_);by_cases hi:i<n
 ·exact hb i (Xo _) (by omega)
 ·have e:2^n<=2^i:=aT (by decide) (by omega);rw[Ge (by omega),Ge (by omega)]
structure Pr where
 o:BF
 t:List Nat
abbrev bits (c:Nat):Nat->Bool:=λi=>c.testBit i
def fP (ps:List Pr)(c:Nat):List Nat:=((ps.find? (λp=>p.o (bits c))).map (·.t)).getD []
structure PaOk (S:List Nat) (ps:List Pr):Prop where
 cov:∀c∈S,∃p∈ps,p.o (bits c)=true
 dj:∀c∈S,∀(i j:Nat) (p q:Pr),ps[i]? =some p->ps[j]? =some q->p.o (bits c)=true->q.o (bits c)=true->i=j
theorem PaOk.sub {S T:List Nat}{ps:List Pr}(h:PaOk S ps)(hT:∀c∈T,c∈S):PaOk T ps:=⟨λc hc=>h.cov c (hT c hc),λc hc=>h.dj c (hT c hc)⟩
theorem PaOk.get {S:List Nat}{ps:List Pr}(h:PaOk S ps){c:Nat}(hc:c∈S){p:Pr}(hp:p∈ps)(KM:p.o (bits c)=true):fP ps c=p.t:=by
 unfold fP;cases hf:ps.find? (λp=>p.o (bits c))with
 | none=>
  have:=xd.1 hf p hp;exact Xc KM this
 | some q=>
  have hq:=List.find?_some hf;have eB:=dQJ hf;obtain⟨i,hi⟩:=xi.1 hp;obtain⟨j,hj⟩:=xi.1 eB;have:=h.dj c hc i j p q hi hj KM hq;subst this;rw[hi] at hj;cases hj;rfl
theorem jQ7 {nm:List (List Nat)}{S:List Nat}{ps:List Pr}(h:PaOk S ps)(hS:S≠ []){p:Pr}(hp:p∈ps)(hw:∀c∈S,p.o (bits c)=true)(k v:Nat):Zn nm (fP ps) k v S=QF p.t:=
 yx hS (λc hc=>h.get hc hp (hw c hc)) k v
theorem jQ8 {S:List Nat}{ps:List Pr}(h:PaOk S ps)(hS:S≠ []){v:Nat}(ha:Apt S v 0):∃p∈ps,∀c∈S,p.o (bits c)=true:=by
 obtain⟨c,hc⟩:∃c,c∈S:=⟨_,vi hS⟩
 obtain⟨p,hp,KM⟩:=h.cov c hc;refine⟨p,hp,λd hd=>?_⟩;rw[ha d hd c hc (λi h1 h2=>by omega)];exact KM
abbrev eZ (S:List Nat)(v:Nat):List Nat:=S.filter (λc=>c.testBit v)
abbrev ib (S:List Nat)(v:Nat):List Nat:=S.filter (λc=> !c.testBit v)
theorem aQk {S:List Nat}{v:Nat}(h:ib S v=[]):eZ S v=S:=by
 rw[List.filter_eq_self];intro c hc;have:=tZ.1 h c hc;simpa using this
theorem jQ9 {S:List Nat}{v:Nat}(h:eZ S v=[]):ib S v=S:=by
 rw[List.filter_eq_self];intro c hc;have:=tZ.1 h c hc;simpa using this
theorem kQa {nm:List (List Nat)}{f:Nat->List Nat}{S:List Nat}(hS:S≠ []){k v:Nat}(h:ib S v=[]):Zn nm f (k+1) v S=Zn nm f k (v+1) (eZ S v):=by
 rw[rS hS,Qf (.inl h),aQk h]
theorem kQb {nm:List (List Nat)}{f:Nat->List Nat}{S:List Nat}(hS:S≠ []){k v:Nat}(h:eZ S v=[]):Zn nm f (k+1) v S=Zn nm f k (v+1) (ib S v):=by
 rw[rS hS,Qf (.inr h),jQ9 h]
theorem kQc {nm:List (List Nat)}{f:Nat->List Nat}{S:List Nat}(hS:S≠ []){k v:Nat}(h:ib S v≠ [])(h':eZ S v≠ []):Zn nm f (k+1) v S=if Zn nm f k (v+1) (eZ S v)=Zn nm f k (v+1) (ib S v)then Zn nm f k (v+1) (eZ S v)else av nm v (Zn nm f k (v+1) (eZ S v)) (Zn nm f k (v+1) (ib S v)):=by
 rw[rS hS,if_neg (λe=>e.elim h h')]
theorem kQd {S:List Nat}{v k:Nat}(h:Apt S v (k+1)):Apt (eZ S v) (v+1) k:=h.sub (λc hc=>(Jy.1 hc).1) (λc hc c' ZZ=>by
 rw[(Jy.1 hc).2,(Jy.1 ZZ).2])
theorem kQe {S:List Nat}{v k:Nat}(h:Apt S v (k+1)):Apt (ib S v) (v+1) k:=h.sub (λc hc=>(Jy.1 hc).1) (λc hc c' ZZ=>by
 have h1:=(Jy.1 hc).2;have h2:=(Jy.1 ZZ).2;simp at h1 h2;rw[h1,h2])
def Kp (n:Nat)(nd:List Br)(r:Int):Bool:=open Classical in decide (XC nd r=0/\∀b∈nd,b.v<n)
def oD (x:DV):BF:=ev x.nd x.r
theorem vp {n:Nat}{nd:List Br}{r:Int}:Kp n nd r=true↔XC nd r=0/\VIn n nd:=by unfold Kp;exact decide_eq_true_iff
theorem jg {n:Nat}{x:DV}(h:Kp n x.nd x.r=true):Set1 n x.nd x.r (oD x):=by
 obtain⟨h1,h2⟩:=vp.1 h;exact⟨(fL.1 h1).2,h2,λe=>rfl⟩
theorem kC {n:Nat}(hn:n<=12){x:DV}{o:BF}(h:Set1 n x.nd x.r o):Kp n x.nd x.r=true/\∀e,oD x e=o e:=
 ⟨vp.2 ⟨h.chk hn,h.vin⟩,λe=>h.mean e⟩
abbrev kD (n:Nat)(R:List Nat)(o:BF):List Nat:=R.filter (λc=> !o (bits c))
def bn (n:Nat):List Nat->List (DV×List Nat)->Bool
 | R,[]=>decide (R=[])
 | R,p::ps=>(Kp n p.1.nd p.1.r&&decide (QG n (oD p.1)≠ [])&&(QG n (oD p.1)).all (λc=>decide (c∈R))&&K5 p.2)&&bn n (kD n R (oD p.1)) ps
def ZD (ps:List (DV×List Nat)):List Pr:=ps.map (λp=>⟨oD p.1,p.2⟩)
def mv (nm:List (List Nat))(d:DV)(ps:List (DV×List Nat)):Except Int (List Nat):=
 if Z1 nm=false∨Kp nm.length d.nd d.r=false then .error 1
 else if bn nm.length (QG nm.length (oD d)) ps=false then .error 290
 else if ps=[] then .ok []
 else if 1048576<(Qp (Zn nm (fP (ZD ps)) nm.length 0 (QG nm.length (oD d)))).length then .error 2
 else .ok (Qp (Zn nm (fP (ZD ps)) nm.length 0 (QG nm.length (oD d))))
theorem Is {n:Nat}{R:List Nat}{p:DV×List Nat}{ps:List (DV×List Nat)}:bn n R (p::ps)=true↔(Kp n p.1.nd p.1.r=true/\QG n (oD p.1)≠ []/\(∀c∈QG n (oD p.1),c∈R)/\K5 p.2=true)/\bn n (kD n R (oD p.1)) ps=true:=by
 rw[bn];simp only[Z9,VX,Ka];constructor
 ·rintro⟨⟨⟨⟨h1,h2⟩,h3⟩,h4⟩,h5⟩;exact⟨⟨h1,h2,h3,h4⟩,h5⟩
 ·rintro⟨⟨h1,h2,h3,h4⟩,h5⟩;exact⟨⟨⟨⟨h1,h2⟩,h3⟩,h4⟩,h5⟩
theorem aQl {n:Nat}:∀{ps:List (DV×List Nat)}{R:List Nat},(∀c∈R,c<2^n)->bn n R ps=true->PaOk R (ZD ps)/\(∀p∈ps,Kp n p.1.nd p.1.r=true/\QG n (oD p.1)≠ []/\K5 p.2=true/\∀c∈QG n (oD p.1),c∈R)
 | [],R,hR,h=>by
  have:R=[]:=by simpa [bn] using h
  subst this;exact⟨⟨(λc hc=>by cases hc),λc hc=>by cases hc⟩,λp hp=>by cases hp⟩
 | p::ps,R,hR,h=>by
  obtain⟨⟨h1,h2,h3,h4⟩,h5⟩:=Is.1 h;obtain⟨⟨k1,k2⟩,k3⟩:=aQl (R:=kD n R (oD p.1)) (λc hc=>hR c (Jy.1 hc).1) h5;have Q4:∀q∈ps,∀c,c<2^n->oD q.1 (bits c)=true->oD p.1 (bits c)=false:=λq hq c hc OX=>by
   have:=(k3 q hq).2.2.2 c (JC.2 ⟨hc,OX⟩);have:=(Jy.1 this).2;simpa using this
  refine⟨⟨λc hc=>?_,λc hc i j a b hi hj ha hb=>?_⟩,λq hq=>?_⟩
  ·cases KM:oD p.1 (bits c)with
   | true=>exact⟨_,Gf,KM⟩
   | false=>
    obtain⟨q,hq,OX⟩:=k1 c (Jy.2 ⟨hc,by simp[KM]⟩);exact⟨q,j5 _ hq,OX⟩
  ·have vX:=hR c hc;cases i with
   | zero=>
    cases j with
    | zero=>rfl
    | succ j=>
     have ea:a=⟨oD p.1,p.2⟩:=by simpa [ZD] using hi.symm
     have hjm:b∈ZD ps:=Xl (by simpa [ZD] using hj);obtain⟨q,hq,rfl⟩:=Zk.1 hjm;subst ea;have:=Q4 q hq c vX hb;exact Xc (ha.symm.trans this) (by decide)
   | succ i=>
    have him:a∈ZD ps:=Xl (by simpa [ZD] using hi);obtain⟨q,hq,rfl⟩:=Zk.1 him;have KM:=Q4 q hq c vX ha;cases j with
    | zero=>
     have eb:b=⟨oD p.1,p.2⟩:=by simpa [ZD] using hj.symm
     subst eb;exact Xc (hb.symm.trans KM) (by decide)
    | succ j=>
     have hcR:c∈kD n R (oD p.1):=Jy.2 ⟨hc,by simp[KM]⟩;have:=k2 c hcR i j _ _ (by simpa [ZD] using hi) (by simpa [ZD] using hj) ha hb;rw[this]
  ·rcases QY.1 hq with rfl | hq
   ·exact⟨h1,h2,h4,h3⟩
   ·obtain⟨a1,a2,a3,a4⟩:=k3 q hq;exact⟨a1,a2,a3,λc hc=>(Jy.1 (a4 c hc)).1⟩
theorem kQf (ls:List (List Nat))(A:Option Addr)(n c:Nat)(w:World)(h:Sl w 1 A n c (XH ls))(hb:∀s∈ls,∀x∈s,x<256):
  Fn Tryz.prog 169 [.slice A n c,.func (.func 47) #[] #[]] w (λu w'=>(∃k:Int,u= .int .i64 k/\(0<=k↔ls.any cS=true))/\Ext w w'):=by
 have hn:ls.length=n:=by have:=h.len;rw[bT] at this;omega
 have ZF:=h.le;have cw:=h.cap;refine QJ (c:={fQq with cuts:=[]}) Qa Tryz.func169 rfl rfl rfl ?_;refine loop Qa [8] (λi:Nat=>[.int .i64 i]) (λi w'=>Ext w w'/\i<=n/\(ls.take i).any cS=false) (λi _=>n-i) 0 rfl ⟨Ext.refl _,Xo _,by simp⟩ ?_;rintro i w1 ⟨Qe,hi,Xi⟩;refine Qw (λc1=>?_) (λc1=>?_)
 ·have Q4:i<n:=by omega
  have hg:ls[i]? =some ls[i]:=Xu (by omega);have wI:=hb _ (Xl hg);generalize ls[i]=l at*;refine KF (h.ext Qe) Q4 (λad u hA hu Xq=>?_);rw[lJ hg] at hu;cases hu;refine load Xq ?_;refine call (CZ l w1 wI) ?_;rintro _ w2 ⟨rfl,Qg⟩;have KX:(ls.take (i+1)).any cS=cS l:=by rw[VF,hg,List.any_append,Xi];simp
  refine YK (λd1=>?_) (λd1=>?_)
  ·have d1:cS l=true:=d1;exact⟨⟨i,rfl,⟨λ_=>nV.2 ⟨l,Xl hg,d1⟩,λ_=>by omega⟩⟩,Qe.trans Qg⟩
  ·have d1:cS l=false:=d1;simp only[maxLen] at cw;refine Qj ((i+1:Nat):Int) (by show((i:Nat):Int)+1=_;omega) (by omega) ?_;exact⟨i+1,rfl,⟨Qe.trans Qg,Q4,by rw[KX,d1]⟩,by show n-(i+1)<n-i;omega⟩
 ·have Q4:i=n:=by omega
  rw[Q4,ZS (by omega)] at Xi;exact⟨⟨-1,rfl,by rw[Xi];simp⟩,Qe⟩
theorem aQm (ls:List (List Nat))(A:Option Addr)(n c:Nat)(w:World)(h:Sl w 1 A n c (XH ls))(hb:∀s∈ls,∀x∈s,x<256):
  Fn Tryz.prog 114 [.slice A n c,.func (.func 47) #[] #[]] w (λu w'=>u= .bool (ls.any cS)/\Ext w w'):=by
 refine QJ (c:={eQN with cuts:=[]}) Qa Tryz.func114 rfl rfl rfl ?_;refine call (kQf ls A n c w h hb) ?_;rintro _ w1 ⟨⟨k,rfl,hk⟩,Qe⟩;refine⟨?_,Qe⟩;refine QC Value.bool ?_;cases ha:ls.any cS with
 | true=>exact Zx (hk.2 ha)
 | false=>exact Zr (λhh=>by rw[hk.1 hh] at ha;cases ha)
theorem aQn (l:List Nat)(w:World)(hl:∀x∈l,x<256)(QZ:l.length<=1000000000):
  Fn Tryz.prog 63 [.string (Qd l)] w (λu w'=>u= .bool (K5 l)/\Ext w w'):=by
 refine QJ (c:={c63 with cuts:=[]}) Qa Tryz.func63 rfl rfl rfl ?_;have fin:∀w1,Ext w w1->bW l=true->∀ls,bf l=ls->∀w2,Ext w1 w2->(Value.bool (!(ls.any cS))= .bool (K5 l)/\Ext w w2):=λw1 Qe ht ls KL w2 Qg=>by
  refine⟨?_,Qe.trans Qg⟩;rw[<-KL,u9 (mr ht),iQo,Bool.not_not];unfold K5;rw[ht,dB]
 by_cases h0:l=[]
 ·subst h0;refine Xd rfl ?_;refine call (CI [] w hl QZ) ?_;rintro _ w1 ⟨A,c,rfl,Qe,Vm⟩;refine call (aQm _ A _ c w1 Vm.1 (λs hs=>by simp[bf,Jg] at hs)) ?_;rintro _ w2 ⟨rfl,Qg⟩;exact fin w1 Qe rfl _ rfl w2 Qg
 ·refine XJ (λe=>h0 (Kn hl (by simp) e)) ?_;refine call (jQg l w hl (by omega)) ?_;rintro _ _ ⟨rfl,rfl⟩;refine YK (λd1=>?_) (λd1=>?_)
  ·have d1:(l.getLast? ==some 10)=true:=d1;have ht:bW l=true:=by unfold bW;rw[d1,Bool.or_true]
   refine call (CI l w hl QZ) ?_;rintro _ w1 ⟨A,c,rfl,Qe,Vm⟩;refine call (aQm _ A _ c w1 Vm.1 (λs hs x hx=>by
    rw[u9 (mr ht)] at hs;obtain⟨r,hr,rfl⟩:=Zk.1 hs;rcases XP.1 hx with hx | hx
    ·have hu:=Yg (mr ht);refine hl x ?_;rw[<-hu];exact Wo.2 ⟨r,hr,by simp[hx]⟩
    ·rw[QO.1 hx];decide)) ?_
   rintro _ w2 ⟨rfl,Qg⟩;exact fin w1 Qe ht _ rfl w2 Qg
  ·have d1:(l.getLast? ==some 10)=false:=d1;refine⟨?_,Ext.refl _⟩;unfold K5 bW;rw[d1,Zr h0]<;>rfl
theorem kQg (b:Br)(n bx:Nat)(w:World)(hB:Blk w bx 3 [.int .i64 n]):
  Fn Tryz.prog 110 [.agg b.cells.toArray,.pointer (some ⟨bx,0,none⟩)] w (λu w'=>u= .bool (decide ((n:Int)<=b.v))/\Ext w w'):=by
 refine QJ (c:={eQK with cuts:=[]}) Qa Tryz.func110 rfl rfl rfl ?_;refine new (λw1 Qe Q6 Qh=>?_);refine Qz Qh rfl ?_;refine Qz (hB.ext Qe) rfl ?_;exact⟨rfl,Qe⟩
theorem kQh (nd:List Br)(A:Option Addr)(m c n bx:Nat)(w:World)(h:SB w A m c nd)(hB:Blk w bx 3 [.int .i64 n]):
  Fn Tryz.prog 165 [.slice A m c,.func (.func 110) #[] #[.pointer (some ⟨bx,0,none⟩)]] w (λu w'=>(∃k:Int,u= .int .i64 k/\(0<=k↔∃b∈nd,(n:Int)<=b.v))/\Ext w w'):=by
 have hn:=h.2;have ZF:=h.1.le;have cw:=h.1.cap;refine QJ (c:={fQn with cuts:=[]}) Qa Tryz.func165 rfl rfl rfl ?_;refine loop Qa [8] (λi:Nat=>[.int .i64 i]) (λi w'=>Ext w w'/\i<=m/\∀b∈nd.take i,¬(n:Int)<=b.v) (λi _=>m-i) 0 rfl ⟨Ext.refl _,Xo _,λb hb=>by simp at hb⟩ ?_;rintro i w1 ⟨Qe,hi,Xi⟩;refine Qw (λc1=>?_) (λc1=>?_)
 ·have Q4:i<m:=by omega
  refine Zt W3 (h.ext Qe) rfl Q4 (λp b hb hc=>?_);refine Jz (vs:=b.cells) rfl hc ?_;refine call (kQg b n bx w1 (hB.ext Qe)) ?_;rintro _ w2 ⟨rfl,Qg⟩;have nH:=Xl hb;refine Qw (λd1=>?_) (λd1=>?_)
  ·exact⟨⟨i,rfl,⟨λ_=>⟨b,nH,d1⟩,λ_=>by omega⟩⟩,Qe.trans Qg⟩
  ·simp only[maxLen] at cw;refine Qj ((i+1:Nat):Int) (by show((i:Nat):Int)+1=_;omega) (by omega) ?_;refine⟨i+1,rfl,⟨Qe.trans Qg,Q4,λb' hb'=>?_⟩,by show m-(i+1)<m-i;omega⟩;rw[VF,hb] at hb';rcases XP.1 hb' with hb' | hb'
   ·exact Xi b' hb'
   ·have:b'=b:=by simpa using hb'
    rw[this];exact d1
 ·have Q4:i=m:=by omega
  rw[Q4,ZS (by omega)] at Xi;exact⟨⟨-1,rfl,⟨λhh=>Xc hh (by decide),λ⟨b,hb,hh⟩=>Xc hh (Xi b hb)⟩⟩,Qe⟩
theorem It (A:Option Addr)(m c n:Nat)(nd:List Br)(r:Int)(w:World)(h:SB w A m c nd):
  Fn Tryz.prog 61 [Xm A m c r,.int .i64 n] w (λu w'=>u= .bool (Kp n nd r)/\Ext w w'):=by
 refine QJ (c:={c61 with cuts:=[]}) Qa Tryz.func61 rfl rfl rfl ?_;refine new (λw1 Qe Q6 Qh=>?_);refine new (λw2 Qg Ze Qy=>?_);have QT:=Qe.trans Qg;refine Qt (Qh.ext Qg) rfl ?_;refine call (uG A m c nd r w2 (h.ext QT)) ?_;rintro _ w3 ⟨rfl,Qi⟩;have QU:=QT.trans Qi;refine X8 (λc1=>?_) (λc1=>?_)
 ·refine Qz ((Qh.ext Qg).ext Qi) rfl ?_;refine call (QJ (c:={eQJ with cuts:=[]}) (R:=λu w'=>u= .bool (decide (∃b∈nd,(n:Int)<=b.v))/\Ext w3 w') Qa Tryz.func109 rfl rfl rfl ?_) ?_
  ·refine call (kQh nd A m c n w1.heap.size w3 (h.ext QU) (Qy.ext Qi)) ?_;rintro _ w4 ⟨⟨k,rfl,hk⟩,Qs⟩;refine⟨?_,Qs⟩;refine QC Value.bool ?_;by_cases hh:∃b∈nd,(n:Int)<=b.v
   ·rw[Zx hh];exact Zx (hk.2 hh)
   ·rw[Zr hh];exact Zr (λh2=>hh (hk.1 h2))
  rintro _ w4 ⟨rfl,Qs⟩;refine⟨?_,QU.trans Qs⟩;refine QC Value.bool ?_;by_cases hh:∃b∈nd,(n:Int)<=b.v
  ·rw[Zx hh]
   symm;refine fC.2 (λho=>?_);obtain⟨b,hb,hv⟩:=hh;have:=(vp.1 ho).2 b hb;omega
  ·rw[Zr hh];exact(vp.2 ⟨c1,λb hb=>by
    apply Classical.byContradiction;intro hv;exact hh ⟨b,hb,by omega⟩⟩).symm
 ·refine⟨?_,QU⟩;refine QC Value.bool ?_;exact(fC.2 (λho=>c1 (vp.1 ho).1)).symm
theorem kQi {k:Nat}(hk:k<=12)(x y:DV){o o':BF}(w:World)(h:SB w x.A x.n x.c x.nd)(h':SB w y.A y.n y.c y.nd)(s:Set1 k x.nd x.r o)(s':Set1 k y.nd y.r o'):
  Fn Tryz.prog 115 [Xm x.A x.n x.c x.r,Xm none 0 0 0,Xm y.A y.n y.c y.r] w (yq w k (λe=> !o e&&o' e)):=by
 have iA:=h.2;have hyl:=h'.2;have l1:=s.len hk;have l2:=s'.len hk;refine QJ (c:={eQO with cuts:=[]}) Qa Tryz.func115 rfl rfl rfl ?_;refine new (λw1 Qe Q6 Qh=>?_);refine new (λw2 Qg Ze Qy=>?_);refine new (λw3 Qi Jr Qu=>?_);refine new (λw4 Qs KR QR=>?_);have Vl:=Qi.trans Qs;have Jh:=Qg.trans Vl;have Xp:=Qe.trans Jh;have JV:=Qh.ext Jh;have mV:=Qy.ext Vl;have kN:=Qu.ext Qs;refine Qt JV rfl ?_;refine Qt mV rfl ?_;refine Qt kN rfl ?_;refine Xg Qa [x.cells,(⟨none,0,0,[],0⟩:DV).cells,y.cells] rfl rfl rfl rfl rfl ⟨rfl,rfl,rfl,rfl,rfl,rfl,⟨⟩⟩ rfl (λcs h=>by simp only[QY,JM,JR] at h;rcases h with rfl | rfl | rfl<;>rfl) rfl (by decide) (by decide) ?_;intro w5 Qx KI QD;have JK:=Xp.trans Qx;have hL:SlS DV.cells 2 w5 (some ⟨w4.heap.size,0,none⟩) 3 3 [x,⟨none,0,0,[],0⟩,y]:=⟨Sl.own (sz:=2) (n:=3) QD (QB _) (by decide) (by simp[DV.cells]),rfl⟩
 refine call (Cw _ 3 3 _ w5 hL (λz hz=>by
  simp only[QY,JM,JR] at hz;rcases hz with rfl | rfl | rfl
  ·exact h.ext JK
  ·exact SlS.nil _
  ·exact h'.ext JK)) ?_
 rintro v w6 ⟨rfl,QQ⟩;have XM:=Qx.trans QQ;have XX:=Xp.trans XM;have jE:dJ [x,(⟨none,0,0,[],0⟩:DV),y]=0:=by
  have e1:XC x.nd x.r=0:=s.chk hk;have e2:XC y.nd y.r=0:=s'.chk hk;have e3:XC ([]:List Br) 0=0:=(bV k false).chk hk;simp[dJ,e1,e2,e3]
 rw[jE];refine WX rfl ?_;refine Qt (JV.ext XM) rfl ?_;refine Qt (mV.ext XM) rfl ?_;refine Qt (kN.ext XM) rfl ?_;have va:=s.vd;have vb:=s'.vd;have hb2:=Ho va vb 4;have qg:(x.nd.length+2)*(y.nd.length+2)<=4098*4098:=Nat.mul_le_mul (by omega) (by omega);refine call (iQu x.A x.n x.c x.nd x.r y.A y.n y.c y.nd y.r w6 (h.ext XX) (h'.ext XX) va.dok vb.dok va.2.1 (by have:=va.2.2.1;omega) vb.2.1 (by have:=vb.2.2.1;omega) (by omega) (by omega) (by omega)) ?_;have c4:Set1 k _ _ (λe=> !o e&&o' e):=(fN s s' 4).congr (λe=>by simp[KP]);have X7:=iW hk s s' 4;have dw:ku (Ye x.nd x.r y.nd y.r 4)=(Ye x.nd x.r y.nd y.r 4,0):=by unfold ku;rw[if_neg (by have:=c4.len hk;omega)]
 generalize Ye x.nd x.r y.nd y.r 4=D at*;obtain⟨D1,D2⟩:=D;rintro v w7 ⟨OA,m,oc,rfl,Xh,Mt,V6⟩;have K9:=XM.trans Xh;have z67:=XX.size;refine call (TE OA m oc _ _ w4 w7 Mt (λi hi=>by have:=V6 i hi;have:=XM.size;omega) K9) ?_;rw[dw];rintro v w8 ⟨PA,q,pc,rfl,Xn,zp,pC⟩;refine Qv (QR.ext Xn) rfl (sc rfl) (λw9 dZ _ JI=>?_);have Zg:Mod (·=w3.heap.size) w8 w9:=qQL dZ rfl;refine Qt JI rfl ?_;exact⟨PA,q,pc,D1,D2,rfl,Zg.ext (Xp.trans Xn) (λi hi=>by omega),⟨zp.1.modS Zg (λ_ i hi e=>by have:=pC i hi;omega),zp.2⟩,c4,λi hi=>by have:=pC i hi;omega⟩
theorem Iu (w:World):Fn Tryz.prog 44 [.int .i64 0] w (λ_ w'=>w=w'):=by
 refine QJ (c:={RE with cuts:=[]}) Qa Tryz.func44 rfl rfl rfl ?_;refine WX rfl ?_;exact rfl
theorem Df (x:DV)(w:World):Fn Tryz.prog 100 [Xm x.A x.n x.c x.r,.int .i64 0] w (λu w'=>u=Xm x.A x.n x.c x.r/\Ext w w'):=by
 refine QJ (c:={eQB with cuts:=[]}) Qa Tryz.func100 rfl rfl rfl ?_;refine new (λw1 Qe Q6 Qh=>?_);refine new (λw2 Qg Ze Qy=>?_);refine call (Iu w2) ?_;rintro _ _ rfl;refine Qt (Qh.ext Qg) rfl ?_;refine Qv Qy rfl (sc rfl) (λw3 Jc _ Qu=>?_);have Ji:Mod (·=w1.heap.size) w2 w3:=qQL Jc rfl;refine Qt Qu rfl ?_;exact⟨rfl,Ji.ext (Qe.trans Qg) (λi hi=>by omega)⟩
theorem oV {k:Nat}(hk:k<=12)(x y:DV){o o':BF}(w:World)(h:SB w x.A x.n x.c x.nd)(h':SB w y.A y.n y.c y.nd)(s:Set1 k x.nd x.r o)(s':Set1 k y.nd y.r o'):
  Fn Tryz.prog 49 [Xm x.A x.n x.c x.r,Xm y.A y.n y.c y.r] w (i9 w k (λe=>o e&&o' e)):=by
 refine QJ (c:={c49 with cuts:=[]}) Qa Tryz.func49 rfl rfl rfl ?_;refine new (λw1 Qe Q6 Qh=>?_);refine new (λw2 Qg Ze Qy=>?_);refine new (λw3 Qi Jr Qu=>?_);have VT:=Qg.trans Qi;have QU:=Qe.trans VT;refine Qt (Qh.ext VT) rfl ?_;refine Qt (Qy.ext Qi) rfl ?_;refine call (yf x.A x.n x.c x.nd x.r y.A y.n y.c y.nd y.r w3 (h.ext QU) (h'.ext QU)) ?_;rw[iW hk s s' 0];have c1:Set1 k _ _ (λe=>o e&&o' e):=(fN s s' 0).congr (λe=>by simp[KP]);generalize Ye x.nd x.r y.nd y.r 0=D at*;obtain⟨D1,D2⟩:=D;rintro _ w5 ⟨PA,pn,pc,rfl,Qx,ss,cr⟩;refine call (Df ⟨PA,pn,pc,D1,D2⟩ w5) ?_;rintro _ w6 ⟨rfl,QQ⟩;have ct:=Qx.trans QQ;refine Qv (Qu.ext ct) rfl (sc rfl) (λw7 Zv _ Q3=>?_);have Xe:Mod (·=w2.heap.size) w6 w7:=qQL Zv rfl;refine Qt Q3 rfl ?_;exact⟨PA,pn,pc,D1,D2,rfl,Xe.ext (QU.trans ct) (λi hi=>by omega),SB.mod (ss.ext QQ) Xe (λi hi e=>by have:=cr i hi;omega),c1,λi hi=>by have:=cr i hi;omega⟩
theorem fT {k:Nat}(hk:k<=12)(x y:DV){o o':BF}(w:World)(h:SB w x.A x.n x.c x.nd)(h':SB w y.A y.n y.c y.nd)(s:Set1 k x.nd x.r o)(s':Set1 k y.nd y.r o'):
  Fn Tryz.prog 64 [Xm x.A x.n x.c x.r,Xm y.A y.n y.c y.r] w (i9 w k (λe=>o e && !o' e)):=by
 refine QJ (c:={c64 with cuts:=[]}) Qa Tryz.func64 rfl rfl rfl ?_;refine new (λw1 Qe Q6 Qh=>?_);refine new (λw2 Qg Ze Qy=>?_);refine new (λw3 Qi Jr Qu=>?_);have VT:=Qg.trans Qi;have QU:=Qe.trans VT;refine Qt (Qy.ext Qi) rfl ?_;refine Qt (Qh.ext VT) rfl ?_;refine call (kQi hk y x w3 (h'.ext QU) (h.ext QU) s' s) ?_;rintro _ w5 ⟨PA,pn,pc,D1,D2,rfl,Qx,ss,js,cr⟩;refine call (Df ⟨PA,pn,pc,D1,D2⟩ w5) ?_;rintro _ w6 ⟨rfl,QQ⟩;have ct:=Qx.trans QQ;refine Qv (Qu.ext ct) rfl (sc rfl) (λw7 Zv _ Q3=>?_);have Xe:Mod (·=w2.heap.size) w6 w7:=qQL Zv rfl;refine Qt Q3 rfl ?_;exact⟨PA,pn,pc,D1,D2,rfl,Xe.ext (QU.trans ct) (λi hi=>by omega),SB.mod (ss.ext QQ) Xe (λi hi e=>by have:=cr i hi;omega),js.congr (λe=>by rw[Bool.and_comm]),λi hi=>by have:=cr i hi;omega⟩
abbrev JY (ls:List (List Nat)):List Value:=XH (ls.map (·++ [10]))
theorem Dg (ls:List (List Nat)):(JY ls).length=ls.length:=by rw[bT,JL]
theorem bZ {ls:List (List Nat)}{j:Nat}{s:List Nat}(h:ls[j]? =some s):(JY ls)[j]? =some (.string (Qd (s++ [10]))):=lJ (by rw[aR,h];rfl)
theorem Sl.from {w:World}{n c l:Nat}{A:Option Addr}{cs:List Value}(h:Sl w 1 A n c cs)(hl:l<=n):Sl w 1 (if c=l then A else A.map (·.add (l*1))) (n-l) (c-l) (cs.drop l):=by
 have h1:=h.len;have h2:=h.le;have h3:=h.cap;refine⟨by rw[Y1];omega,by omega,by omega,λh0=>?_⟩;obtain⟨ad,rfl,hc⟩:=h.at_ (by omega);refine⟨ad.add (l*1),by rw[if_neg (by omega)];rfl,λj u hu=>?_⟩;rw[Addr.add_add,Wm];exact hc _ _ (by rw[Gg] at hu;exact hu)
def my (ls:List (List Nat)):Prop:=∀s∈ls,(∀x∈s,x<256)/\s.length<=1000000000
theorem ig {s:List Nat}(h:∀x∈s,x<256):∀x∈s++ [10],x<256:=λx hx=>by
 rcases XP.1 hx with hx | hx
 ·exact h x hx
 ·rw[QO.1 hx];decide
def cd (back:Bool)(a:List (List Nat)):List (List Nat):=if back then a.reverse else a
theorem Iv (back:Bool)(a:List (List Nat)):(cd back a).length=a.length:=by cases back<;>simp[cd]
theorem aQo {back:Bool}{a:List (List Nat)}{k:Nat}{s:List Nat}(h:(cd back a)[k]? =some s):a[if back then a.length-1-k else k]? =some s:=by
 cases back with
 | false=>exact h
 | true=>
  have hk:k<a.length:=by have:=(Jd.1 h).1;rw[Iv] at this;exact this
  rw[show cd true a=a.reverse from rfl,List.getElem?_reverse hk] at h;exact h
theorem kQj (b:List (List Nat))(k best:Nat)(o:Int):mf [] b k best o=best:=by cases b<;>rfl
theorem kQk (a:List (List Nat))(k best:Nat)(o:Int):mf a [] k best o=best:=by cases a<;>rfl
theorem aQp {α:Type}{l:List α}{k:Nat}{x:α}(h:l[k]? =some x):l.drop k=x::l.drop (k+1):=by
 obtain⟨hk,e⟩:=Jd.1 h;rw[am hk,e]
theorem aQq (a b:List (List Nat))(A B:Option Addr)(n c m d:Nat)(back:Bool)(w:World)(h:Sl w 1 A n c (JY a))(h':Sl w 1 B m d (JY b))(ha:my a)(hb:my b)(hn:n<=1000000000):
  Fn Tryz.prog 171 [.slice A n c,.slice B m d,.bool back] w (λu w'=>u= .int .i64 (Yw (cd back a) (cd back b))/\Ext w w'):=by
 have Vc:a.length=n:=by have:=h.len;rw[Dg] at this;omega
 have ew:b.length=m:=by have:=h'.len;rw[Dg] at this;omega
 have wK:m<=9223372036854775807:=by have:=h'.le;have:=h'.cap;simp only[maxLen] at this;omega
 have hA:=Iv back a;have hB:=Iv back b;refine QJ (c:={fQs with cuts:=[]}) Qa Tryz.func171 rfl rfl rfl ?_;refine norm (m:=((min n m:Nat):Int)) (by rw[Nat.min_def];split<;>split<;>omega) ?_;generalize Fk:min n m=mn;have ZE:mn<=n:=by omega
 have XW:mn<=m:=by omega
 have XI:mn=n∨mn=m:=by omega
 refine loop Qa [17,7,8] (λs:Nat×Nat×Int=>[.int .i64 s.1,.int .i64 s.2.1,.int .i64 s.2.2]) (λs w'=>Ext w w'/\s.1<=mn/\s.2.1<=s.1/\ -(s.1:Int)<=s.2.2/\s.2.2<=s.1/\mf ((cd back a).drop s.1) ((cd back b).drop s.1) s.1 s.2.1 s.2.2=Yw (cd back a) (cd back b)) (λs _=>mn-s.1) (0,0,0) rfl ⟨Ext.refl _,Xo _,QB _,by simp,by simp,rfl⟩ ?_;rintro⟨k,best,o⟩ w1 ⟨Qe,hk,iC,fh,im,QH⟩;simp only at hk iC fh im QH;refine Qw (λc1=>?_) (λc1=>?_)
 ·have Xk:k<mn:=by simp only at c1;omega
  obtain⟨x,hx⟩:∃x,(cd back a)[k]? =some x:=⟨_,Xu (by omega)⟩
  obtain⟨y,hy⟩:∃y,(cd back b)[k]? =some y:=⟨_,Xu (by omega)⟩
  rw[aQp hx,aQp hy,mf] at QH;have KW:=aQo hx;have nD:=aQo hy;have JG:=ha x (Xl KW);have fw:=hb y (Xl nD);obtain⟨x0,dV⟩:∃x0,a[k]? =some x0:=⟨_,Xu (by omega)⟩
  obtain⟨y0,hy0⟩:∃y0,b[k]? =some y0:=⟨_,Xu (by omega)⟩
  refine XR Qa (Ext w1) 10 [(true,0),(true,1),(true,2),(true,3),(true,4),(true,5),(true,6),(true,7),(true,8),(true,9)] (by kernel_rfl) (Ext.drew w1) ?_;refine KF (h.ext Qe) (by omega) (λad u FK hu Xq=>?_);rw[bZ dV] at hu;cases hu;refine QN (v:=.string (Qd (x0++ [10]))) (λw' Qb=>Qb.cell Xq) ?_;refine KF (h'.ext Qe) (by omega) (λad u FK hu Xq=>?_);rw[bZ hy0] at hu;cases hu;refine QN (v:=.string (Qd (y0++ [10]))) (λw' Qb=>Qb.cell Xq) ?_;cases back with
  | false=>
   refine Q9 rfl ?_;have ex:x=x0:=(Option.some.inj (dV.symm.trans KW)).symm;have ey:y=y0:=(Option.some.inj (hy0.symm.trans nD)).symm;subst ex ey;have ei:=Qe.trans (Ext.drew w1);have bM:(Qd (x++ [10])=Qd (y++ [10]))↔x=y:=⟨λhh=>by have:=Kn (ig JG.1) (ig fw.1) hh;exact Gh this,λhh=>by rw[hh]⟩
   by_cases Xr:x=y
   ·rw[Qf Xr] at QH;refine Q9 (by simp[bM.2 Xr]) ?_;refine call (HV (x++ [10]) ZJ _ (ig JG.1) (by decide)) ?_;rintro _ _ ⟨rfl,rfl⟩;rw[T4];cases hp:ZJ.isPrefixOf x with
    | true=>
     have hd:VM x=1:=by unfold VM;rw[Qf hp]
     refine Xd rfl ?_;refine Qj (o+1) rfl (by omega) ?_;have ZB:=QH;rw[hd] at ZB;by_cases h0:o+1=0
     ·rw[Qf h0] at ZB;refine J0 h0 ?_;refine Qj ((k+1:Nat):Int) (by show((k:Nat):Int)+1=_;omega) (by omega) ?_;refine Qj ((k+1:Nat):Int) (by show((k:Nat):Int)+1=_;omega) (by omega) ?_;exact⟨(k+1,k+1,o+1),rfl,⟨ei,Xk,QB _,by show -((k+1:Nat):Int)<=o+1;omega,by show o+1<=((k+1:Nat):Int);omega,ZB⟩,by show mn-(k+1)<mn-k;omega⟩
     ·rw[if_neg h0] at ZB;refine XK h0 ?_;refine Qj ((k+1:Nat):Int) (by show((k:Nat):Int)+1=_;omega) (by omega) ?_;exact⟨(k+1,best,o+1),rfl,⟨ei,Xk,by show best<=k+1;omega,by show -((k+1:Nat):Int)<=o+1;omega,by show o+1<=((k+1:Nat):Int);omega,ZB⟩,by show mn-(k+1)<mn-k;omega⟩
    | false=>
     refine Q9 rfl ?_;have QX:(Qd (x++ [10])=Qd (Zb++ [10]))↔x=Zb:=⟨λhh=>by have:=Kn (ig JG.1) (by decide) hh;exact Gh this,λhh=>by rw[hh]⟩
     by_cases he:x=Zb
     ·have hd:VM x= -1:=by unfold VM;rw[if_neg (by rw[hp];decide),Qf he]
      refine Zy (QX.2 he) ?_;refine Qj (o-1) rfl (by omega) ?_;have ZB:=QH;rw[hd,show o+(-1)=o-1 by omega] at ZB;by_cases h0:o-1=0
      ·rw[Qf h0] at ZB;refine J0 h0 ?_;refine Qj ((k+1:Nat):Int) (by show((k:Nat):Int)+1=_;omega) (by omega) ?_;refine Qj ((k+1:Nat):Int) (by show((k:Nat):Int)+1=_;omega) (by omega) ?_;exact⟨(k+1,k+1,o-1),rfl,⟨ei,Xk,QB _,by show -((k+1:Nat):Int)<=o-1;omega,by show o-1<=((k+1:Nat):Int);omega,ZB⟩,by show mn-(k+1)<mn-k;omega⟩
      ·rw[if_neg h0] at ZB;refine XK h0 ?_;refine Qj ((k+1:Nat):Int) (by show((k:Nat):Int)+1=_;omega) (by omega) ?_;exact⟨(k+1,best,o-1),rfl,⟨ei,Xk,by show best<=k+1;omega,by show -((k+1:Nat):Int)<=o-1;omega,by show o-1<=((k+1:Nat):Int);omega,ZB⟩,by show mn-(k+1)<mn-k;omega⟩
     ·have hd:VM x=0:=by unfold VM;rw[if_neg (by rw[hp];decide),if_neg he]
      refine XJ (λhh=>he (QX.1 hh)) ?_;have ZB:=QH;rw[hd,show o+0=o by omega] at ZB;by_cases h0:o=0
      ·rw[Qf h0] at ZB;refine J0 h0 ?_;refine Qj ((k+1:Nat):Int) (by show((k:Nat):Int)+1=_;omega) (by omega) ?_;refine Qj ((k+1:Nat):Int) (by show((k:Nat):Int)+1=_;omega) (by omega) ?_;exact⟨(k+1,k+1,o),rfl,⟨ei,Xk,QB _,by show -((k+1:Nat):Int)<=o;omega,by show o<=((k+1:Nat):Int);omega,ZB⟩,by show mn-(k+1)<mn-k;omega⟩
      ·rw[if_neg h0] at ZB;refine XK h0 ?_;refine Qj ((k+1:Nat):Int) (by show((k:Nat):Int)+1=_;omega) (by omega) ?_;exact⟨(k+1,best,o),rfl,⟨ei,Xk,by show best<=k+1;omega,by show -((k+1:Nat):Int)<=o;omega,by show o<=((k+1:Nat):Int);omega,ZB⟩,by show mn-(k+1)<mn-k;omega⟩
   ·rw[if_neg Xr] at QH;refine Xd (by rw[Zr (λhh=>Xr (bM.1 hh))];rfl) ?_;exact⟨by rw[<-QH],ei⟩
  | true=>
   refine Xd rfl ?_;refine XR Qa (Ext w1.drew) 18 [(true,0),(true,1),(true,2),(true,3),(true,4),(true,5),(true,6),(true,7),(true,8),(true,9),(true,10),(true,11),(true,12),(true,13),(true,14),(true,15),(true,16),(true,17)] (by kernel_rfl) (Ext.drew w1.drew) ?_;refine Qj ((a.length-1:Nat):Int) (by omega) (by omega) ?_;refine Qj ((a.length-1-k:Nat):Int) (by omega) (by omega) ?_;refine KF ((h.ext Qe).ext (Ext.drew w1)) (by omega) (λad u FK hu Xq=>?_);rw[bZ (show a[a.length-1-k]? =some x from KW)] at hu;cases hu;refine QN (v:=.string (Qd (x++ [10]))) (λw' Qb=>Qb.cell Xq) ?_;refine Qj ((b.length-1:Nat):Int) (by omega) (by omega) ?_;refine Qj ((b.length-1-k:Nat):Int) (by omega) (by omega) ?_;refine KF ((h'.ext Qe).ext (Ext.drew w1)) (by omega) (λad u FK hu Xq=>?_);rw[bZ (show b[b.length-1-k]? =some y from nD)] at hu;cases hu;refine QN (v:=.string (Qd (y++ [10]))) (λw' Qb=>Qb.cell Xq) ?_;have ei:=(Qe.trans (Ext.drew w1)).trans (Ext.drew _);have bM:(Qd (x++ [10])=Qd (y++ [10]))↔x=y:=⟨λhh=>by have:=Kn (ig JG.1) (ig fw.1) hh;exact Gh this,λhh=>by rw[hh]⟩
   by_cases Xr:x=y
   ·rw[Qf Xr] at QH;refine Q9 (by simp[bM.2 Xr]) ?_;refine call (HV (x++ [10]) ZJ _ (ig JG.1) (by decide)) ?_;rintro _ _ ⟨rfl,rfl⟩;rw[T4];cases hp:ZJ.isPrefixOf x with
    | true=>
     have hd:VM x=1:=by unfold VM;rw[Qf hp]
     refine Xd rfl ?_;refine Qj (o+1) rfl (by omega) ?_;have ZB:=QH;rw[hd] at ZB;by_cases h0:o+1=0
     ·rw[Qf h0] at ZB;refine J0 h0 ?_;refine Qj ((k+1:Nat):Int) (by show((k:Nat):Int)+1=_;omega) (by omega) ?_;refine Qj ((k+1:Nat):Int) (by show((k:Nat):Int)+1=_;omega) (by omega) ?_;exact⟨(k+1,k+1,o+1),rfl,⟨ei,Xk,QB _,by show -((k+1:Nat):Int)<=o+1;omega,by show o+1<=((k+1:Nat):Int);omega,ZB⟩,by show mn-(k+1)<mn-k;omega⟩
     ·rw[if_neg h0] at ZB;refine XK h0 ?_;refine Qj ((k+1:Nat):Int) (by show((k:Nat):Int)+1=_;omega) (by omega) ?_;exact⟨(k+1,best,o+1),rfl,⟨ei,Xk,by show best<=k+1;omega,by show -((k+1:Nat):Int)<=o+1;omega,by show o+1<=((k+1:Nat):Int);omega,ZB⟩,by show mn-(k+1)<mn-k;omega⟩
    | false=>
     refine Q9 rfl ?_;have QX:(Qd (x++ [10])=Qd (Zb++ [10]))↔x=Zb:=⟨λhh=>by have:=Kn (ig JG.1) (by decide) hh;exact Gh this,λhh=>by rw[hh]⟩
     by_cases he:x=Zb
     ·have hd:VM x= -1:=by unfold VM;rw[if_neg (by rw[hp];decide),Qf he]
      refine Zy (QX.2 he) ?_;refine Qj (o-1) rfl (by omega) ?_;have ZB:=QH;rw[hd,show o+(-1)=o-1 by omega] at ZB;by_cases h0:o-1=0
      ·rw[Qf h0] at ZB;refine J0 h0 ?_;refine Qj ((k+1:Nat):Int) (by show((k:Nat):Int)+1=_;omega) (by omega) ?_;refine Qj ((k+1:Nat):Int) (by show((k:Nat):Int)+1=_;omega) (by omega) ?_;exact⟨(k+1,k+1,o-1),rfl,⟨ei,Xk,QB _,by show -((k+1:Nat):Int)<=o-1;omega,by show o-1<=((k+1:Nat):Int);omega,ZB⟩,by show mn-(k+1)<mn-k;omega⟩
      ·rw[if_neg h0] at ZB;refine XK h0 ?_;refine Qj ((k+1:Nat):Int) (by show((k:Nat):Int)+1=_;omega) (by omega) ?_;exact⟨(k+1,best,o-1),rfl,⟨ei,Xk,by show best<=k+1;omega,by show -((k+1:Nat):Int)<=o-1;omega,by show o-1<=((k+1:Nat):Int);omega,ZB⟩,by show mn-(k+1)<mn-k;omega⟩
     ·have hd:VM x=0:=by unfold VM;rw[if_neg (by rw[hp];decide),if_neg he]
      refine XJ (λhh=>he (QX.1 hh)) ?_;have ZB:=QH;rw[hd,show o+0=o by omega] at ZB;by_cases h0:o=0
      ·rw[Qf h0] at ZB;refine J0 h0 ?_;refine Qj ((k+1:Nat):Int) (by show((k:Nat):Int)+1=_;omega) (by omega) ?_;refine Qj ((k+1:Nat):Int) (by show((k:Nat):Int)+1=_;omega) (by omega) ?_;exact⟨(k+1,k+1,o),rfl,⟨ei,Xk,QB _,by show -((k+1:Nat):Int)<=o;omega,by show o<=((k+1:Nat):Int);omega,ZB⟩,by show mn-(k+1)<mn-k;omega⟩
      ·rw[if_neg h0] at ZB;refine XK h0 ?_;refine Qj ((k+1:Nat):Int) (by show((k:Nat):Int)+1=_;omega) (by omega) ?_;exact⟨(k+1,best,o),rfl,⟨ei,Xk,by show best<=k+1;omega,by show -((k+1:Nat):Int)<=o;omega,by show o<=((k+1:Nat):Int);omega,ZB⟩,by show mn-(k+1)<mn-k;omega⟩
   ·rw[if_neg Xr] at QH;refine Xd (by rw[Zr (λhh=>Xr (bM.1 hh))];rfl) ?_;exact⟨by rw[<-QH],ei⟩
 ·have Xk:k=mn:=by simp only at c1;omega
  subst Xk;refine⟨?_,Qe⟩;rcases XI with e | e
  ·rw[nR (by omega),kQj] at QH;rw[<-QH]
  ·rw[nR (show(cd back b).length<=k by omega),kQk] at QH;rw[<-QH]
theorem ce (ls:List (List Nat)):∀u∈XH ls,JS u=true:=λu hu=>by
 unfold XH at hu;obtain⟨s,_,rfl⟩:=Zk.1 hu;rfl
theorem kQl (ls:List (List Nat))(A:Option Addr)(n c:Nat)(w:World)(h:Sl w 1 A n c (XH ls))(hn:n<=1000000000):
  Fn Tryz.prog 172 [.slice A n c] w (λu w'=>∃A' c',u= .slice A' n c'/\Ext w w'/\Own w' w.heap.size 9 1 A' n c' (XH ls)):=by
 have hl:ls.length=n:=by have:=h.len;rw[bT] at this;omega
 refine QJ (c:={fQt with cuts:=[]}) Qa Tryz.func172 rfl rfl rfl ?_;cases A with
 | none=>
  have h0:n=0:=Classical.byContradiction (λhh=>by obtain⟨ad,e,_⟩:=h.at_ (by omega);cases e);subst h0;have KL:ls=[]:=WO hl;subst KL;refine Xd rfl ?_;exact⟨none,0,rfl,Ext.refl _,Own.nil _ _ _ _⟩
 | some a=>
  refine Q9 rfl ?_;refine Xg Qa [] rfl rfl rfl rfl rfl ⟨⟩ rfl (λcs h=>by cases h) rfl (by decide) (by decide) ?_;intro w1 Qe Q6 Qh;have hO1:Own w1 w.heap.size 9 1 (some ⟨w.heap.size,0,none⟩) 0 0 []:=Own.empty Qh (QB _);refine Je (n:=0) Qa rfl rfl rfl rfl rfl (by decide) rfl rfl ⟨_,rfl⟩ rfl rfl hO1 (h.ext Qe) (ce ls) (by unfold maxLen;omega) (by show(0+n)*16<=_;omega) (by omega) ?_;intro A' c' w2 XW fd pf;rw[WQ,bO] at fd;refine⟨A',c',by rw[WQ],XW.ext Qe (λk hk=>(hO1.rows k hk).1),fd⟩
theorem Iw (ls:List (List Nat))(k:Nat):(JY ls).take k=JY (ls.take k):=by simp[JY,XH,List.map_take]
theorem aQr (ls:List (List Nat))(k:Nat):(JY ls).drop k=JY (ls.drop k):=by simp[JY,XH,List.map_drop]
theorem kQm (a b:List (List Nat)):JY (a++b)=JY a++JY b:=by simp[JY,XH]
theorem Ix {c:Cx}(hg:c.g.Ok){o:Oper}{S:Env}{C:World->Prop}{K:Env->Prop}{t e:Nat}{x y:Operand}{A:Option Addr}{n cp:Nat}{h:Nat}{r:TyRow}(ho:o.op= .slice t x none (some y) none)(hr:Q0 c.g.tys t=some r)(hd:r.d= .slice e){re:TyRow}(Zc:Q0 c.g.tys e=some re)
  (hx:S.ev x=some (.slice A n cp)) (hy:S.ev y=some (.int .i64 h)) (hh:h<=cp)
  (k:Xf c S o.dst (.v (.slice A h cp)) K):dF c o S C K:=by
 have Q5:=(hg.row hr).1;rw[hd] at Q5;unfold dF;refine⟨_,λa w hf _=>?_,k⟩;have e1:=hf.ev hx;have e2:=hf.ev hy;simp[execOp,ho,e1,e2,Instr.sliceAt,Instr.slice,Ja Q5,Instr.sliceBounds,Instr.sliceBound,asIntOf,hh,run_sizeOf hg Zc];intro _;cases A<;>simp[Addr.add]
theorem aQs {c:Cx}(hg:c.g.Ok){o:Oper}{S:Env}{C:World->Prop}{K:Env->Prop}{t e:Nat}{x y:Operand}{A:Option Addr}{n cp:Nat}{l:Nat}{r:TyRow}(ho:o.op= .slice t x (some y) none none)(hr:Q0 c.g.tys t=some r)(hd:r.d= .slice e){re:TyRow}(Zc:Q0 c.g.tys e=some re)
  (hx:S.ev x=some (.slice A n cp)) (hy:S.ev y=some (.int .i64 l)) (hl:l<=n)
  (k:Xf c S o.dst (.v (.slice (if cp=l then A else A.map (·.add (l*re.sz))) (n-l) (cp-l))) K):dF c o S C K:=by
 have Q5:=(hg.row hr).1;rw[hd] at Q5;unfold dF;refine⟨_,λa w hf _=>?_,k⟩;have e1:=hf.ev hx;have e2:=hf.ev hy;simp[execOp,ho,e1,e2,Instr.sliceAt,Instr.slice,Ja Q5,Instr.sliceBounds,Instr.sliceBound,asIntOf,hl,run_sizeOf hg Zc]
structure Lo (w0 w:World) (O:Option Addr) (n oc:Nat) (ls:List (List Nat)):Prop where
 e:Ext w0 w
 ow:Own w w0.heap.size 9 1 O n oc (JY ls)
theorem Lo.ext {w0 w w':World}{O:Option Addr}{n oc:Nat}{ls:List (List Nat)}(h:Lo w0 w O n oc ls)(k:Ext w w'):Lo w0 w' O n oc ls:=⟨h.e.trans k,h.ow.ext k⟩
theorem Lo.app {w0 w w':World}{O O':Option Addr}{n m oc oc':Nat}{ls ys:List (List Nat)}(h:Lo w0 w O n oc ls)(hm:Mod (Qk O) w w')(ho:Own w' w0.heap.size 9 1 O' (n+m) oc' (JY ls++JY ys)):Lo w0 w' O' (n+m) oc' (ls++ys):=
 ⟨hm.ext h.e (λk hk=>(h.ow.rows k hk).1),by rw[kQm];exact ho⟩
theorem Lo.len {w0 w:World}{O:Option Addr}{n oc:Nat}{ls:List (List Nat)}(h:Lo w0 w O n oc ls):ls.length=n:=by have:=h.ow.sl.len;rw[Dg] at this;omega
theorem kE {w:World}{A:Option Addr}{n c:Nat}{ls:List (List Nat)}(h:Sl w 1 A n c (JY ls)):ls.length=n:=by have:=h.len;rw[Dg] at this;omega
theorem Lo.fin {w w0 w1:World}{O:Option Addr}{n oc:Nat}{ls:List (List Nat)}(hE:Ext w w0)(h:Lo w0 w1 O n oc ls):ve w (.slice O n oc) (ls.map (·++ [10])) w1:=⟨O,oc,by rw[JL,h.len],hE.trans h.e,by rw[JL,h.len];exact⟨h.ow.sl,λh0=>by obtain⟨g,sp,hA,_⟩:=h.ow.blk h0;exact⟨g,0,hA⟩⟩⟩
def fU (nm:List (List Nat))(v:Nat):List Nat:=(nm[v]?).getD []
theorem kQn (nm:List (List Nat))(v:Nat)(H L:List (List Nat))(A B:Option Addr)(n c m d:Nat)(w:World)(h:Sl w 1 A n c (JY H))(h':Sl w 1 B m d (JY L))(hH:my H)(hL:my L)(hv:(fU nm v).length<=1000000000)(hn:n<=100000000)(hm:m<=100000000):
  Fn Tryz.prog 118 [.string (Qd (fU nm v)),.slice A n c,.slice B m d] w (λu w'=>ve w u ((av nm v H L).map (·++ [10])) w'):=by
 have hHl:=kE h;have wM:=kE h';refine QJ (c:={eQR with cuts:=[]}) Qa Tryz.func118 rfl rfl rfl ?_;have Ec:=aQq H L A B n c m d false w h h' hH hL (by omega);have hp0:Yw (cd false H) (cd false L)=Yw H L:=rfl;rw[hp0] at Ec;refine call Ec ?_;rintro _ w1 ⟨rfl,Qe⟩;obtain⟨p1,p2,_,_,_⟩:=CE H L;have KB:av nm v H L=av nm v H L:=rfl;unfold av at KB;simp only at KB;generalize hp:Yw H L=p at*;have ZF:=h.le;have qQx:=h'.le;refine kh Qa rfl rfl rfl rfl rfl rfl (by omega) ?_;have ht:=(h.ext Qe).take (m:=p) (by omega);rw[Wm,Iw] at ht;refine call (kQl ((H.take p).map (·++ [10])) A p c w1 ht (by omega)) ?_;rintro _ w2 ⟨O,oc,rfl,Qg,hO2⟩;have lo:Lo w1 w2 O p oc (H.take p):=⟨Qg,hO2⟩
 have q1:=(h.ext Qe).from (l:=p) (by omega)
 have q2:=(h'.ext Qe).from (l:=p) (by omega)
 rw[aQr] at q1 q2;refine XR Qa (Ext w2) 8 [(true,0),(true,1),(true,2),(true,3),(true,4),(true,5),(true,6),(true,7)] (by kernel_rfl) (Ext.drew w2) ?_;refine aQs Qa rfl rfl rfl rfl rfl rfl (by omega) ?_;refine aQs Qa rfl rfl rfl rfl rfl rfl (by omega) ?_;have M3:=lo.ext (Ext.drew w2);have hDl:(H.drop p).length=n-p:=by rw[Y1];omega
 have hDm:(L.drop p).length=m-p:=by rw[Y1];omega
 have bD:∀{X:List (List Nat)} {k:Nat},my X->my (X.drop k):=λhX s hs=>hX s (WT hs)
 have WD:=aQq (H.drop p) (L.drop p) _ _ _ _ _ _ true w2.drew (q1.ext M3.e) (q2.ext M3.e) (bD hH) (bD hL) (by omega);have DC:Yw (cd true (H.drop p)) (cd true (L.drop p))=au (H.drop p) (L.drop p):=rfl;rw[DC] at WD;refine call WD ?_;rintro _ w3 ⟨rfl,Qi⟩;have lo3:=M3.ext Qi;obtain⟨s1,s2,_⟩:=HS (H.drop p) (L.drop p);generalize hs:au (H.drop p) (L.drop p)=s at*;have hcA:p<=c:=by omega
 refine Qj ((n-p-s:Nat):Int) (by omega) (by omega) ?_;refine GH Qa rfl rfl rfl rfl rfl rfl (by omega) ?_;refine XR Qa (Ext w3) 14 [(true,0),(true,1),(true,2),(true,3),(true,4),(true,5),(true,6),(true,7),(true,8),(true,9),(true,10),(true,11),(true,12),(true,13)] (by kernel_rfl) (Ext.drew w3) ?_;refine Qj ((n-p-s:Nat):Int) (by omega) (by omega) ?_;refine Ix Qa rfl rfl rfl rfl rfl rfl (by omega) ?_;refine Qj ((m-p-s:Nat):Int) (by omega) (by omega) ?_;refine Ix Qa rfl rfl rfl rfl rfl rfl (by omega) ?_;have lo4:=lo3.ext (Ext.drew w3);have r1:=q1.take (m:=n-p-s) (by omega);have r2:=q2.take (m:=m-p-s) (by omega);have rE:=q1.from (l:=n-p-s) (by omega)
 rw[Wm (n-p-s),Iw] at r1;rw[Wm (m-p-s),Iw] at r2;rw[aQr] at rE;have hj:av nm v H L=H.take p++((if(H.drop p).take (n-p-s)=[] then J4 nm v true::(L.drop p).take (m-p-s)else J4 nm v false::((H.drop p).take (n-p-s)++if(L.drop p).take (m-p-s)=[] then [] else Kz::(L.drop p).take (m-p-s)))++Zb::(H.drop p).drop (n-p-s)):=by
  unfold av;simp only[hp,hs,hDl,hDm]
 have lH2:=kE r1;have lL2:=kE r2;have lE:=kE rE;generalize (H.drop p).take (n-p-s)=H2 at*;generalize (L.drop p).take (m-p-s)=L2 at*;generalize (H.drop p).drop (n-p-s)=E at*;have lk:=Q8 (fU nm v);have h1s:(Qd [10]).size=1:=rfl;refine X8 (λc7=>?_) (λc7=>?_)
 ·have e2:H2=[]:=WO (by omega);rw[Qf e2] at hj;have mO:=Q8 (ZJ++(33::fU nm v));refine Xy (v':=.string (Qd (ZJ++(33::fU nm v)))) (by show(Qd [35,105,102,32,33]).size+_<=_;rw[Q8,lk];show 5+_<=_;unfold maxLen;omega) (by show Value.string (Qd (ZJ++ [33])++Qd (fU nm v))=_;rw[ZM];rfl) ?_;refine Xy (v':=.string (Qd (J4 nm v true++ [10]))) (by rw[mO];show _+1<=_;simp[ZJ];unfold maxLen;omega) (by show Value.string (Qd (ZJ++(33::fU nm v))++Qd [10])=_;rw[ZM];rfl) ?_;refine Xg Qa [[Value.string (Qd (J4 nm v true++ [10]))]] rfl rfl rfl rfl rfl ⟨rfl,rfl,⟨⟩⟩ rfl (λcs h=>by simp only[QO] at h;subst h;rfl) rfl (by decide) (by decide) ?_;intro wxa OY oQV OZ;have sxa:Sl wxa 1 _ 1 1 (JY [J4 nm v true]):=Sl.own' (n:=1) OZ rfl (by decide);have lya:=lo4.ext OY;have lza:=lya.len;refine Je Qa rfl rfl rfl rfl rfl (by decide) rfl rfl ⟨_,rfl⟩ rfl rfl lya.ow sxa (ce _) (by unfold maxLen;omega) (by show(_+1)*16<=_;omega) lya.e.size ?_;intro Oa oca wa O0 O1 _;have loa:=lya.app O0 O1;refine Je Qa rfl rfl rfl rfl rfl (by decide) rfl rfl ⟨_,rfl⟩ rfl rfl loa.ow (r2.ext loa.e) (ce _) (by unfold maxLen;omega) (by show(_+_)*16<=_;omega) loa.e.size ?_;intro Ob ocb wb wN O2 _;have lob:=loa.app wN O2;refine Xg Qa [[Value.string (Qd (Zb++ [10]))]] rfl rfl rfl rfl rfl ⟨rfl,rfl,⟨⟩⟩ rfl (λcs h=>by simp only[QO] at h;subst h;rfl) rfl (by decide) (by decide) ?_;intro wxc AU dQq AW;have sxc:Sl wxc 1 _ 1 1 (JY [Zb]):=Sl.own' (n:=1) AW rfl (by decide);have lyc:=lob.ext AU;have lzc:=lyc.len;refine Je Qa rfl rfl rfl rfl rfl (by decide) rfl rfl ⟨_,rfl⟩ rfl rfl lyc.ow sxc (ce _) (by unfold maxLen;omega) (by show(_+1)*16<=_;omega) lyc.e.size ?_;intro Oc occ wc wO AX _;have loc:=lyc.app wO AX;refine Je Qa rfl rfl rfl rfl rfl (by decide) rfl rfl ⟨_,rfl⟩ rfl rfl loc.ow (rE.ext loc.e) (ce _) (by unfold maxLen;omega) (by show(_+_)*16<=_;omega) loc.e.size ?_;intro Od ocd wd cH AY _;have lod:=loc.app cH AY;have fin:=lod.fin Qe;have e9:((((H.take p++ [J4 nm v true])++L2)++ [Zb])++E)=av nm v H L:=by rw[hj];simp
  rw[e9] at fin;exact fin
 ·have e2:H2≠ []:=λe=>c7 (by subst e;simp at lH2;omega)
  rw[if_neg e2] at hj;have mO:=Q8 (ZJ++fU nm v);refine Xy (v':=.string (Qd (ZJ++fU nm v))) (by show(Qd [35,105,102,32]).size+_<=_;rw[Q8,lk];show 4+_<=_;unfold maxLen;omega) (by show Value.string (Qd ZJ++Qd (fU nm v))=_;rw[ZM]) ?_;refine Xy (v':=.string (Qd (J4 nm v false++ [10]))) (by rw[mO];show _+1<=_;simp[ZJ];unfold maxLen;omega) (by show Value.string (Qd (ZJ++fU nm v)++Qd [10])=_;rw[ZM];rfl) ?_;refine Xg Qa [[Value.string (Qd (J4 nm v false++ [10]))]] rfl rfl rfl rfl rfl ⟨rfl,rfl,⟨⟩⟩ rfl (λcs h=>by simp only[QO] at h;subst h;rfl) rfl (by decide) (by decide) ?_;intro wxa OY oQV OZ;have sxa:Sl wxa 1 _ 1 1 (JY [J4 nm v false]):=Sl.own' (n:=1) OZ rfl (by decide);have lya:=lo4.ext OY;have lza:=lya.len;refine Je Qa rfl rfl rfl rfl rfl (by decide) rfl rfl ⟨_,rfl⟩ rfl rfl lya.ow sxa (ce _) (by unfold maxLen;omega) (by show(_+1)*16<=_;omega) lya.e.size ?_;intro Oa oca wa O0 O1 _;have loa:=lya.app O0 O1;refine Je Qa rfl rfl rfl rfl rfl (by decide) rfl rfl ⟨_,rfl⟩ rfl rfl loa.ow (r1.ext loa.e) (ce _) (by unfold maxLen;omega) (by show(_+_)*16<=_;omega) loa.e.size ?_;intro Ob ocb wb wN O2 _;have lob:=loa.app wN O2;refine Qw (λc8=>?_) (λc8=>?_)
  ·have e3:L2≠ []:=λe=>by subst e;simp at lL2;omega
   rw[if_neg e3] at hj;refine Xg Qa [[Value.string (Qd (Kz++ [10]))]] rfl rfl rfl rfl rfl ⟨rfl,rfl,⟨⟩⟩ rfl (λcs h=>by simp only[QO] at h;subst h;rfl) rfl (by decide) (by decide) ?_;intro wxc AU dQq AW;have sxc:Sl wxc 1 _ 1 1 (JY [Kz]):=Sl.own' (n:=1) AW rfl (by decide);have lyc:=lob.ext AU;have lzc:=lyc.len;refine Je Qa rfl rfl rfl rfl rfl (by decide) rfl rfl ⟨_,rfl⟩ rfl rfl lyc.ow sxc (ce _) (by unfold maxLen;omega) (by show(_+1)*16<=_;omega) lyc.e.size ?_;intro Oc occ wc wO AX _;have loc:=lyc.app wO AX;refine Je Qa rfl rfl rfl rfl rfl (by decide) rfl rfl ⟨_,rfl⟩ rfl rfl loc.ow (r2.ext loc.e) (ce _) (by unfold maxLen;omega) (by show(_+_)*16<=_;omega) loc.e.size ?_;intro Od ocd wd cH AY _;have lod:=loc.app cH AY;refine Xg Qa [[Value.string (Qd (Zb++ [10]))]] rfl rfl rfl rfl rfl ⟨rfl,rfl,⟨⟩⟩ rfl (λcs h=>by simp only[QO] at h;subst h;rfl) rfl (by decide) (by decide) ?_;intro wxe oQW qQy oQX;have sxe:Sl wxe 1 _ 1 1 (JY [Zb]):=Sl.own' (n:=1) oQX rfl (by decide);have lye:=lod.ext oQW;have lze:=lye.len;refine Je Qa rfl rfl rfl rfl rfl (by decide) rfl rfl ⟨_,rfl⟩ rfl rfl lye.ow sxe (ce _) (by unfold maxLen;omega) (by show(_+1)*16<=_;omega) lye.e.size ?_;intro Oe oce we qr oQY _;have loe:=lye.app qr oQY;refine Je Qa rfl rfl rfl rfl rfl (by decide) rfl rfl ⟨_,rfl⟩ rfl rfl loe.ow (rE.ext loe.e) (ce _) (by unfold maxLen;omega) (by show(_+_)*16<=_;omega) loe.e.size ?_;intro Of ocf wf hmf oQZ _;have lof:=loe.app hmf oQZ;have fin:=lof.fin Qe;have e9:((((((H.take p++ [J4 nm v false])++H2)++ [Kz])++L2)++ [Zb])++E)=av nm v H L:=by rw[hj];simp
   rw[e9] at fin;exact fin
  ·have e3:L2=[]:=WO (by omega);rw[Qf e3] at hj;refine Xg Qa [[Value.string (Qd (Zb++ [10]))]] rfl rfl rfl rfl rfl ⟨rfl,rfl,⟨⟩⟩ rfl (λcs h=>by simp only[QO] at h;subst h;rfl) rfl (by decide) (by decide) ?_;intro wxc AU dQq AW;have sxc:Sl wxc 1 _ 1 1 (JY [Zb]):=Sl.own' (n:=1) AW rfl (by decide);have lyc:=lob.ext AU;have lzc:=lyc.len;refine Je Qa rfl rfl rfl rfl rfl (by decide) rfl rfl ⟨_,rfl⟩ rfl rfl lyc.ow sxc (ce _) (by unfold maxLen;omega) (by show(_+1)*16<=_;omega) lyc.e.size ?_;intro Oc occ wc wO AX _;have loc:=lyc.app wO AX;refine Je Qa rfl rfl rfl rfl rfl (by decide) rfl rfl ⟨_,rfl⟩ rfl rfl loc.ow (rE.ext loc.e) (ce _) (by unfold maxLen;omega) (by show(_+_)*16<=_;omega) loc.e.size ?_;intro Od ocd wd cH AY _;have lod:=loc.app cH AY;have fin:=lod.fin Qe;have e9:((((H.take p++ [J4 nm v false])++H2)++ [Zb])++E)=av nm v H L:=by rw[hj];simp
   rw[e9] at fin;exact fin
theorem kQo {a b:List Nat}(h:Qd (a++ [10])=Qd (b++ [10]))(ha:∀x∈a,x<256)(hb:∀x∈b,x<256):a=b:=Gh (Kn (ig ha) (ig hb) h)
theorem kQp {α:Type}{l l':List α}{n:Nat}(h1:l.length=n)(h2:l'.length=n)(h:∀j,j<n->l[j]? =l'[j]?):l=l':=by
 refine Bl (λj=>?_);by_cases hj:j<n
 ·exact h j hj
 ·rw[qG (by omega),qG (by omega)]
theorem kQq (A B:Option Addr)(n c m e:Nat)(l l':List (List Nat))(w:World)(h:Sl w 1 A n c (JY l))(h':Sl w 1 B m e (JY l'))(hb:my l)(hb':my l'):
  Fn Tryz.prog 117 [.slice A n c,.slice B m e] w (λv w'=>v= .bool (decide (l=l'))/\Ext w w'):=by
 have hl:=kE h;have ep:=kE h';have cw:n<=9223372036854775807:=by have:=h.le;have:=h.cap;simp only[maxLen] at this;omega
 refine QJ (c:={eQQ with cuts:=[]}) Qa Tryz.func117 rfl rfl rfl ?_;refine WW (λh1=>?_) (λh1=>?_)
 ·exact⟨by rw[Zr (λe=>by subst e;omega)],Ext.refl w⟩
 refine loop Qa [13] (λs:Nat=>[.int .i64 s]) (λs w'=>Ext w w'/\s<=n/\∀j,j<s->l[j]? =l'[j]?) (λs _=>n-s) 0 rfl ⟨Ext.refl w,Xo _,λj hj=>Xc hj (by omega)⟩ ?_;rintro s w1 ⟨Qe,hs,hall⟩;refine Qw (λh2=>?_) (λh2=>?_)
 ·have bK:s<n:=by omega
  obtain⟨x,hx⟩:∃x,l[s]? =some x:=⟨_,Xu (by omega)⟩
  obtain⟨y,hy⟩:∃y,l'[s]? =some y:=⟨_,Xu (by omega)⟩
  refine XR Qa (Ext w1) 9 [(true,0),(true,1),(true,2),(true,3),(true,4),(true,5),(true,6),(true,7),(true,8)] (by kernel_rfl) (Ext.drew w1) ?_;refine KF (h.ext Qe) bK (λad u hA hu Xq=>?_);rw[bZ hx] at hu;cases hu;refine QN (v:=.string (Qd (x++ [10]))) (λw' Qb=>Qb.cell Xq) ?_;refine KF (h'.ext Qe) (by omega) (λad u hA hu Xq=>?_);rw[bZ hy] at hu;cases hu;refine QN (v:=.string (Qd (y++ [10]))) (λw' Qb=>Qb.cell Xq) ?_;have cz:=Qe.trans (Ext.drew w1);have JG:=hb x (Xl hx);have fw:=hb' y (Xl hy);by_cases Xr:x=y
  ·refine Q9 (by rw[Xr];simp) ?_;refine Qj ((s+1:Nat):Int) (by show((s:Nat):Int)+1=_;omega) (by omega) ?_;refine⟨s+1,rfl,⟨cz,by omega,λj hj=>?_⟩,by show n-(s+1)<n-s;omega⟩;by_cases We:j<s
   ·exact hall j We
   ·have:j=s:=by omega
    subst this;rw[hx,hy,Xr]
  ·refine Xd (by rw[Zr (λhh=>Xr (kQo hh JG.1 fw.1))];rfl) ?_;refine⟨?_,cz⟩;rw[Zr (λe=>Xr (by subst e;rw[hx] at hy;exact Option.some.inj hy))]
 ·refine⟨?_,Qe⟩;rw[Zx (kQp hl (by omega) (λj hj=>hall j (by omega)))]
theorem kQr {nm:List (List Nat)}{v:Nat}{H L:List (List Nat)}{P:List Nat->Prop}(hH:∀s∈H,P s)(hL:∀s∈L,P s)(h1:∀ng,P (J4 nm v ng))(h2:P Kz)(h3:P Zb):∀s∈av nm v H L,P s:=by
 intro s hs;unfold av at hs;simp only at hs;have t:∀{X:List (List Nat)} {a b:Nat},(∀s∈X,P s)->∀s∈(X.drop a).take b,P s:=λh s hs=>h s (WT (Wn hs))
 generalize au (H.drop (Yw H L)) (L.drop (Yw H L))=q at*;generalize Yw H L=p at*;rcases XP.1 hs with hs | hs
 ·exact hH s (Wn hs)
 rcases XP.1 hs with hs | hs
 ·split at hs
  ·rcases QY.1 hs with rfl | hs
   ·exact h1 true
   ·exact t hL s hs
  ·rcases QY.1 hs with rfl | hs
   ·exact h1 false
   rcases XP.1 hs with hs | hs
   ·exact t hH s hs
   split at hs
   ·cases hs
   ·rcases QY.1 hs with rfl | hs
    ·exact h2
    ·exact t hL s hs
 ·rcases QY.1 hs with rfl | hs
  ·exact h3
  ·exact hH s (WT (WT hs))
theorem kQs (nm:List (List Nat))(v:Nat)(H L:List (List Nat)):(av nm v H L).length<=H.length+L.length+3:=by
 obtain⟨p1,p2,_⟩:=CE H L;obtain⟨q1,q2,_⟩:=HS (H.drop (Yw H L)) (L.drop (Yw H L));unfold av;simp only;generalize au (H.drop (Yw H L)) (L.drop (Yw H L))=q at*;generalize Yw H L=p at*;rw[Y1] at q1 q2;split
 ·simp only[Qq,Q2,Kx,Y1];omega
 ·split
  ·simp only[Qq,Q2,Kx,Y1,Jp];omega
  ·simp only[Qq,Q2,Kx,Y1];omega
theorem vq {nm:List (List Nat)}{f:Nat->List Nat}{P:List Nat->Prop}{M:Nat}(h1:∀v ng,P (J4 nm v ng))(h2:P Kz)(h3:P Zb):∀(k v:Nat)(l:List Nat),l≠ []->(∀c∈l,(∀s∈QF (f c),P s)/\(QF (f c)).length<=M)->
  (∀s∈Zn nm f k v l,P s)/\(Zn nm f k v l).length+3<=l.length*(M+3)
 | 0,v,l,hl,hp=>by
  have h0:=hp _ (vi hl);rw[Zn];have:1<=l.length:=tY.2 hl;have:=WN (M+3) this;exact⟨h0.1,by have:=h0.2;omega⟩
 | k+1,v,l,hl,hp=>by
  rw[rS hl];split
  ·exact vq h1 h2 h3 k (v+1) l hl hp
  ·rename_i h;have n1:l.filter (λc=> !c.testBit v)≠ []:=λe=>h (.inl e)
   have n2:l.filter (λc=>c.testBit v)≠ []:=λe=>h (.inr e)
   have QZ:(l.filter (λc=>c.testBit v)).length+(l.filter (λc=> !c.testBit v)).length=l.length:=by
    clear h hl hp n1 n2;induction l with
    | nil=>rfl
    | cons a l ih=>by_cases e:a.testBit v=true<;>simp[fD,e]<;>omega
   obtain⟨a1,a2⟩:=vq h1 h2 h3 (P:=P) (M:=M) k (v+1) _ n1 (λc hc=>hp c (Jy.1 hc).1);obtain⟨b1,b2⟩:=vq h1 h2 h3 (P:=P) (M:=M) k (v+1) _ n2 (λc hc=>hp c (Jy.1 hc).1);have qg:l.length*(M+3)=(l.filter (λc=>c.testBit v)).length*(M+3)+(l.filter (λc=> !c.testBit v)).length*(M+3):=by rw[<-lr,QZ]
   split
   ·exact⟨b1,by omega⟩
   ·refine⟨kQr b1 a1 (h1 v) h2 h3,?_⟩;have:=kQs nm v (Zn nm f k (v+1) (l.filter (λc=>c.testBit v))) (Zn nm f k (v+1) (l.filter (λc=> !c.testBit v)));omega
end
section
inductive PT where
 | done
 | skip
 | quiet (k:Nat) (t:PT)
 | fork (k:Nat) (t o:PT)
def PT.alts:PT->List Nat
 | .fork k _ o=>k::o.alts
 | _=>[]
def Kf (md:Region.Mode)(ops:Array Oper)(n:Nat):PT->Bool->Nat->Array Bool->Bool
 | .done,inch,m,listed=> !inch&&Nat.beq m 0&&Region.seqB md ops (ops.size-n) n listed
 | .skip,inch,_,_=>inch
 | .quiet _ _,_,0,_=>false
 | .quiet k t,inch,m+1,listed=> !inch&&(Nat.blt k n&&(Region.ready md ops listed).contains k&&Region.free md ops listed k&&Kf md ops n t false m (listed.setIfInBounds k true))
 | .fork _ _ _,_,0,_=>false
 | .fork k t o,inch,m+1,listed=>(inch||decide (Region.ready md ops listed=k::o.alts))&&(Nat.blt k n&&Kf md ops n t false m (listed.setIfInBounds k true))&&Kf md ops n o true (m+1) listed
def mA (c:Cx)(all:List Oper)(C:World->Prop):PT->Env->World->(Env->World->Prop)->Prop
 | .done,S,w,K=>K S w
 | .skip,_,_,_=>True
 | .quiet k t,S,w,K=>match Vg all k with
  | some o=>gS all o S (λS=>ro c o S C (λS=>mA c all C t S w K)) (λS=>Xf c S o.dst (.v undef) (λS=>mA c all C t S w K))
  | none=>False
 | .fork k t o,S,w,K=>(match Vg all k with
  | some op=>gS all op S (λS=>eH c op S w (λS w=>C w/\mA c all C t S w K) (λ_ _ _=>False)) (λS=>Xf c S op.dst (.v undef) (λS=>mA c all C t S w K))
  | none=>False)/\mA c all C o S w K
section
variable {c:Cx} {S:Env} {a:Act}
theorem yD (hg:c.g.Ok){md:Region.Mode}{ops:List Oper}{C:World->Prop}{Q:Exit->Act->World->Prop}{n:Nat}(hs:Region.noSelect ops.toArray=true)(hk:ki md ops.toArray n){K:Env->World->Prop}:
  ∀(t:PT) (m:Nat) (listed:Array Bool) (S:Env) (a:Act) (w:World),HeadInv md ops.toArray n listed->mA c ops C t S w K->Fits c.N S a->C w->
  (Kf md ops.toArray n t false m listed=true->Yr c.g.P md ops.toArray (NoPan Q) C n (λJw a' w'=>Region.seqB md ops.toArray (ops.toArray.size-n) n Jw=true/\∃S',Fits c.N S' a'/\K S' w') m listed a w)/\
  (∀m',m=m'+1->Kf md ops.toArray n t true m listed=true->(∀i∈t.alts,i∈Region.ready md ops.toArray listed)->∀i∈t.alts,i<n/\wpOp c.g.P ops.toArray (NoPan Q) i (λa' w'=>C w'/\Yr c.g.P md ops.toArray (NoPan Q) C n (λJw a' w'=>Region.seqB md ops.toArray (ops.toArray.size-n) n Jw=true/\∃S',Fits c.N S' a'/\K S' w') m' (listed.setIfInBounds i true) a' w') a w)
 | .done,m,listed,S,a,w,inv,h,hf,hC=>by
  refine⟨λhB=>?_,λm' hm hB=>?_⟩
  ·simp only[Kf,Bool.not_false,dB,Z9] at hB;have:=VW hB.1;subst this;exact⟨hB.2,S,hf,h⟩
  ·simp[Kf] at hB
 | .skip,m,listed,S,a,w,inv,h,hf,hC=>by
  refine⟨λhB=>?_,λm' hm hB _ i hi=>?_⟩
  ·simp[Kf] at hB
  ·simp[PT.alts] at hi
 | .quiet k t,0,listed,S,a,w,inv,h,hf,hC=>by
  refine⟨λhB=>?_,λm' hm hB=>?_⟩
  ·simp[Kf] at hB
  ·simp[Kf] at hB
 | .quiet k t,m+1,listed,S,a,w,inv,h,hf,hC=>by
  refine⟨λhB=>?_,λm' hm hB=>?_⟩
  ·simp only[Kf,Bool.not_false,dB,Z9] at hB;obtain⟨⟨⟨Xk,hr⟩,iw⟩,Vb⟩:=hB;have Xk:k<n:=by rw[iM] at Xk;exact Xk
   have Q5:k∈Region.ready md ops.toArray listed:=by simpa using hr
   obtain⟨_,o,ho,_⟩:=mem_ready.1 Q5;have hn:Vg ops k=some o:=by rw[gP];simpa using ho
   simp only[mA,hn] at h;have key:∃v,YieldsIf c.g.P ops.toArray C o v a/\∃S',Fits c.N S' (a.put o.dst v)/\mA c ops C t S' w K:=by
    rcases kj h hf with⟨hw,S1,Zp,h1⟩ | ⟨hw,S1,Zp,h1⟩
    ·obtain⟨v,h2,h3⟩:=xB hg h1 Zp;exact⟨v,.inl ⟨hw,h2⟩,h3⟩
    ·exact⟨undef,.inr ⟨hw,rfl⟩,ZH (e:=.v undef) h1 Zp⟩
   obtain⟨v,hy,S',Q1,h'⟩:=key;exact GJ ho (Region.noSelect_spec hs) hk Xk (λJw a' w' hL=>seqB_ready hL.1) m listed a w inv (Region.free_spec ho iw) Q5 hy hC
    ((yD hg hs hk t m _ S' _ w (inv.set Q5 Xk) h' Q1 hC).1 Vb)
  ·simp[Kf] at hB
 | .fork k t o,0,listed,S,a,w,inv,h,hf,hC=>by
  refine⟨λhB=>?_,λm' hm hB=>?_⟩
  ·simp[Kf] at hB
  ·simp[Kf] at hB
 | .fork k t o,m+1,listed,S,a,w,inv,h,hf,hC=>by
  have key:(Nat.blt k n&&Kf md ops.toArray n t false m (listed.setIfInBounds k true))=true->Kf md ops.toArray n o true (m+1) listed=true->(∀i∈(PT.fork k t o).alts,i∈Region.ready md ops.toArray listed)->
    ∀i∈(PT.fork k t o).alts,i<n/\wpOp c.g.P ops.toArray (NoPan Q) i (λa' w'=>C w'/\Yr c.g.P md ops.toArray (NoPan Q) C n (λJw a' w'=>Region.seqB md ops.toArray (ops.toArray.size-n) n Jw=true/\∃S',Fits c.N S' a'/\K S' w') m (listed.setIfInBounds i true) a' w') a w:=by
   intro hB eC hall i hi;simp only[Z9] at hB;obtain⟨Xk,Vb⟩:=hB;have Xk:k<n:=by rw[iM] at Xk;exact Xk
   simp only[PT.alts,QY] at hi;have Q5:k∈Region.ready md ops.toArray listed:=hall k (by simp[PT.alts]);obtain⟨h1,h2⟩:=h;rcases hi with rfl | hi
   ·refine⟨Xk,?_⟩;obtain⟨_,op,ho,_⟩:=mem_ready.1 Q5;have hn:Vg ops i=some op:=by rw[gP];simpa using ho
    simp only[hn] at h1;have fq:=inv.set Q5 Xk;unfold wpOp;simp only[ho];rcases kj h1 hf with⟨hw,S1,Zp,h3⟩ | ⟨hw,S1,Zp,h3⟩
    ·rw[Qf hw];refine .inl ?_;have h4:=qZ hg h3 Zp;have h5:=Oper.wp_mono (K':=λa' w'=>C w'/\Yr c.g.P md ops.toArray (NoPan Q) C n (λJw a' w'=>Region.seqB md ops.toArray (ops.toArray.size-n) n Jw=true/\∃S',Fits c.N S' a'/\K S' w') m (listed.setIfInBounds i true) a' w')
      (λa' w' ⟨S',Q1,ZZ,YX⟩=>⟨ZZ,(yD hg hs hk t m _ S' a' w' fq YX Q1 ZZ).1 Vb⟩) h4
     unfold Oper.wp at h5 ⊢;generalize (execOp a.eval op).run c.g.P w=r at*;cases r with
     | ok nx w'=>
      cases nx<;>simp only[Oper.upon] at h5 ⊢ <;> try exact h5
      exact h5.mono λe Vq he=>by
       cases e with
       | returned v=>exact he
       | panicked ch=>obtain⟨_,_,he⟩:=he;exact he.elim
       | outgrown=>obtain⟨_,_,_,_,he⟩:=he;exact he.elim
     | halt x w'=>cases x<;>simp only[Oper.upon] at h5 ⊢ <;> first | exact h5 | (obtain⟨_,_,h5⟩:=h5;exact h5.elim)
    ·rw[if_neg (by rw[hw];decide)];obtain⟨S',Q1,h'⟩:=ZH (e:=.v undef) h3 Zp;exact⟨hC,(yD hg hs hk t m _ S' _ w fq h' Q1 hC).1 Vb⟩
   ·exact(yD hg hs hk o (m+1) listed S a w inv h2 hf hC).2 m rfl eC (λj hj=>hall j (by simp[PT.alts,hj])) i hi
  refine⟨λhB=>?_,λm' hm hB hall=>?_⟩
  ·simp only[Kf,Bool.false_or,Z9,VX] at hB;obtain⟨⟨hr,Qh⟩,Qy⟩:=hB;have WA:Region.ready md ops.toArray listed=(PT.fork k t o).alts:=hr;refine⟨λh0=>(by rw[hr] at h0;cases h0),λi hi=>?_⟩;exact key (by simpa using Qh) Qy (λj hj=>by rw[WA];exact hj) i (by rw[WA] at hi;exact hi)
  ·simp only[Kf,Bool.true_or,dB] at hB;rw[Z9] at hB;have ZW:m'=m:=by omega
   subst ZW;exact key hB.1 hB.2 hall
theorem Iy (hg:c.g.Ok){id:Nat}{ops:List Oper}{w:World}{Q:Zs}(C:World->Prop)(n:Nat)(t:PT)
  (hB:(Region.noSelect ops.toArray&&rm .any ops.toArray n&&Kf .any ops.toArray n t false n (Array.replicate ops.toArray.size false))=true) (hC:C w.drew)
  (h:mA {c with named:=1000000} ops C t S w.drew (λS w=>YJ c ops (ops.drop n) S w (λS w=>Q .normal S w) (λ_ _ _=>False))):WV c id ops S w Q:=by
 unfold WV;intro a hf;simp only[Z9] at hB;obtain⟨⟨hs,bJ⟩,JF⟩:=hB;have hk:=xA bJ;have Fo:n<=ops.length:=by
  rcases hk with hk | hk
  ·rw[hk];simp
  ·have:=hk.1;simp at this;omega
 refine Code.wp_mono NoPan.imp (wp_region_any hg.mixed ?_);have mJ:HeadInv .any ops.toArray n (Array.replicate ops.toArray.size false):=
  ⟨by simp,λj oj _ hl=>(by rw[getD_replicate_false] at hl;cases hl),λt _ ht=>getD_in (by simpa using ht) (getD_replicate_false _ _)⟩
 have H:=(yD (c:={c with named:=1000000}) hg (Q:=Up c Q) hs hk t n _ S a _ mJ h hf hC).1 JF;have Yb:(ops.drop n).length=ops.toArray.size-n:=by simp
 have H2:=uq (Q:=NoPan (Up c Q)) (g:=ops.toArray.size-n) (λJw a' w' hL=>by
  obtain⟨hq,S',Q1,YX⟩:=hL;have h2:=j8 (c:=c) hg ops _ _ _ _ YX Q1;have:=wpAny_of_seq (P:=c.g.P) (md:=.any) (ops:=ops.toArray) (Q':=NoPan (Up c Q)) (ops.drop n) n Jw a' w' (λj=>by simp) (by rw[Yb];exact hq) (lG (λe a w hq=>by
   cases e with
   | normal=>exact hq
   | _=>exact Xc hq (by rintro⟨_,_,h⟩;exact h)) h2)
  rwa [Yb] at this) _ _ _ _ H
 rw[show n+(ops.toArray.size-n)=ops.toArray.size by simp;omega] at H2;exact H2
theorem Iz {α:Type}{id:Nat}{ops:List Oper}{w:World}{Q:Zs}(sl:List Nat)(val:α->List Value)(R:α->World->Prop)
  (hx:ao (fI (.region id ops.toArray true)) S [] (λS0=>WV c id ops S w (λe S2 w2=>match e with
   | .normal=>∃s,eJ sl (val s) S0 (λT=>Has T S2)/\R s w2
   | e=>Q e S2 w2)))
  (hy:ao (fI (.region id ops.toArray true)) S [] (λS0=>∀s w',R s w'->eJ sl (val s) S0 (λS1=>Q .normal S1 w'))):WV c id ops S w Q:=by
 rw[BP] at hx hy;unfold WV at*;intro a hf;generalize od (fI (.region id ops.toArray true)) S []=S0 at*;have nv:∀s (K:Env->Prop),eJ sl (val s) S0 K->K ((sl.zip ((val s).map Ent.v)).reverse++S0):=λs K h=>by
  obtain⟨T,rfl,hk⟩:=GD h;exact hk
 refine Code.wp_mono (λe a2 w2 hq=>?_) (hx a hf);obtain⟨S2,Z5,hq⟩:=hq;cases e with
 | normal=>
  obtain⟨s,hz,hR⟩:=hq;exact⟨_,(nv s _ hz).fits Z5,nv s _ (hy s w2 hR)⟩
 | exit i=>exact⟨S2,Z5,hq⟩
 | goto l=>exact⟨S2,Z5,hq⟩
 | ret=>exact⟨S2,Z5,hq⟩
 | panic ch=>exact⟨S2,Z5,hq⟩
 | outgrown=>exact⟨S2,Z5,hq⟩
end
end
end Go.Proofs.YtjabbbcdgmlojaaGreatDoor
