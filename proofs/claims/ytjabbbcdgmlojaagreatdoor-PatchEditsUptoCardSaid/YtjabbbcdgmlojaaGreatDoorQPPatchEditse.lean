/-
  What PPatchEdits rests on, part 5 (wip/shake.py).
  Conditions: none.
-/
import Derived.Test.YtjabbbcdgmlojaaGreatDoorQPPatchEditsd
set_option linter.all false
set_option linter.deprecated false
set_option maxHeartbeats 12800000
namespace Go.Proofs.YtjabbbcdgmlojaaGreatDoor
open Go Go.RowKit
section
def Kg (p:DV×List Nat):List Value:=[.slice p.1.A p.1.n p.1.c,.int .i64 p.1.r,.string (Qd p.2)]
theorem IA (p:DV×List Nat):(Kg p).length=3:=rfl
structure WP where
 pb:Nat
 wb:Nat
 nb:Nat
 PA:Option Addr
 pn:Nat
 pc:Nat
 NA:Option Addr
 nn:Nat
 nc:Nat
 nm:List (List Nat)
 ps:List (DV×List Nat)
def WP.caps (p:WP):List Value:=[.pointer (some ⟨p.pb,0,none⟩),.pointer (some ⟨p.wb,0,none⟩),.pointer (some ⟨p.nb,0,none⟩)]
def WP.clo (p:WP):Value:=.func (.func 116) #[] #[.pointer (some ⟨p.pb,0,none⟩),.pointer (some ⟨p.wb,0,none⟩),.pointer (some ⟨p.nb,0,none⟩)]
structure WK (w:World) (p:WP):Prop where
 pbb:Blk w p.pb 54 [.slice p.PA p.pn p.pc]
 wbb:Blk w p.wb 192 [p.clo]
 nbb:Blk w p.nb 37 [.slice p.NA p.nn p.nc]
 pss:SlS Kg 3 w p.PA p.pn p.pc p.ps
 sbs:∀q∈p.ps,SB w q.1.A q.1.n q.1.c q.1.nd
 nms:Sl w 1 p.NA p.nn p.nc (XH p.nm)
theorem WK.ext {w w':World}{p:WP}(h:WK w p)(k:Ext w w'):WK w' p:=⟨h.pbb.ext k,h.wbb.ext k,h.nbb.ext k,h.pss.ext k,λq hq=>(h.sbs q hq).ext k,h.nms.ext k⟩
def kQt (k:Nat)(wR:World)(oh ol:BF)(t:DV×DV×Nat×Nat)(w':World):Prop:=Ext wR w'/\Blk w' t.2.2.1 32 t.1.cells/\Blk w' t.2.2.2 32 t.2.1.cells/\SB w' t.1.A t.1.n t.1.c t.1.nd/\Set1 k t.1.nd t.1.r oh/\SB w' t.2.1.A t.2.1.n t.2.1.c t.2.1.nd/\Set1 k t.2.1.nd t.2.1.r ol
theorem IB {k:Nat}(hk:k<=12){x y:DV}{o o':BF}(s:Set1 k x.nd x.r o)(s':Set1 k y.nd y.r o'):jd x.nd x.r y.nd y.r=true↔∀e,o e=true->o' e=true:=by
 rw[Ic];constructor
 ·rintro⟨_,_,hn⟩ e he;cases h:o' e with
  | true=>rfl
  | false=>exact Xc ⟨e,by rw[s.mean];exact he,by rw[s'.mean];exact h⟩ hn
 ·intro h;refine⟨s.chk hk,s'.chk hk,λ⟨e,h1,h2⟩=>?_⟩;rw[s.mean] at h1;rw[s'.mean,h e h1] at h2;cases h2
theorem kQu (p:WP)(n:Nat)(ni:n<=4)(jI:p.nm.length=n)(Yp:KO p.nm)(KC:∀s∈p.nm,s.length<=1000000)(YI:∀q∈p.ps,Kp n q.1.nd q.1.r=true/\K5 q.2=true/\(∀b∈q.2,b<256)/\q.2.length<=1000000):
  ∀(k v:Nat) (x:DV) (o:BF) (w:World),v+k=n->WK w p->SB w x.A x.n x.c x.nd->Set1 n x.nd x.r o->QG n o≠ []->PaOk (QG n o) (ZD p.ps)->Apt (QG n o) v k->
  Fn Tryz.prog 116 (Xm x.A x.n x.c x.r:: .int .i64 v::p.caps) w (λu w'=>ve w u ((Zn p.nm (fP (ZD p.ps)) k v (QG n o)).map (·++ [10])) w'):=by
 have hk:n<=12:=by omega
 intro k;induction k using Nat.strongRecOn with
 | ind k ih=>
 intro v x o w Fw hK hx sx QX Jn Wg;have JF:=hK.pss.2;refine QJ (c:={eQP with cuts:=[]}) Qa Tryz.func116 rfl rfl rfl ?_;refine new (λw1 Qe Q6 Qh=>?_);have Ks:=hK.ext Qe;refine Qz Ks.pbb rfl ?_;refine loop Qa [17] (λi:Nat=>[.int .i64 i]) (λi w'=>Ext w1 w'/\i<=p.pn/\∀q∈p.ps.take i,¬∀e,o e=true->oD q.1 e=true) (λi _=>p.pn-i) 0 rfl ⟨Ext.refl _,Xo _,λq hq=>by simp at hq⟩ ?_;rintro i w2 ⟨Qg,hi,Xi⟩;have QT:=Qe.trans Qg;have qQz:p.pn<=9223372036854775807:=by have:=hK.pss.1.le;have:=hK.pss.1.cap;simp only[maxLen] at this;omega
 refine Qw (λc1=>?_) (λc1=>?_)
 ·have Q4:i<p.pn:=by omega
  refine Zt IA (hK.ext QT).pss rfl Q4 (λad q hq hc=>?_);have eB:=Xl hq;obtain⟨o1,o2,o3,o4⟩:=YI q eB;refine Jz (vs:=Kg q) rfl hc ?_;refine new (λw3 Qi Jr Qu=>?_);refine Qv Qu rfl (sc rfl) (λw4 aC _ QR=>?_);have Jh:Ext w2 w4:=XT Qi Qu aC;have Xp:=QT.trans Jh;refine Qt (Qh.ext (Qg.trans Jh)) rfl ?_;refine eM (vs:=[.slice q.1.A q.1.n q.1.c,.int .i64 q.1.r]) QR rfl (λj u hj=>by match j,hj with | 0,hj=>exact hj | 1,hj=>exact hj) ?_;refine call (UB x.A x.n x.c x.nd x.r q.1.A q.1.n q.1.c q.1.nd q.1.r w4 (hx.ext Xp) ((hK.sbs q eB).ext Xp)) ?_;rintro _ w5 ⟨rfl,Qx⟩;have JK:=Xp.trans Qx;refine YK (λd1=>?_) (λd1=>?_)
  ·have d1:jd x.nd x.r q.1.nd q.1.r=true:=d1;have hw:=(IB hk sx (jg o1)).1 d1;refine Qo (QR.ext Qx) rfl ?_;refine call (CI q.2 w5 o3 (by omega)) ?_;rintro _ w6 ⟨A,c,rfl,QQ,bA⟩;have hwv:Zn p.nm (fP (ZD p.ps)) k v (QG n o)=QF q.2:=jQ7 Jn QX (p:=⟨oD q.1,q.2⟩) (Zk.2 ⟨q,eB,rfl⟩) (λc hc=>hw _ (JC.1 hc).2) k v;have ht:bW q.2=true:=by unfold K5 at o2;rw[Z9] at o2;exact o2.1
   have iF:bf q.2=(Zn p.nm (fP (ZD p.ps)) k v (QG n o)).map (·++ [10]):=by rw[hwv,u9 (mr ht)]
   rw[iF] at bA ⊢;exact⟨A,c,rfl,JK.trans QQ,bA⟩
  ·have d1:jd x.nd x.r q.1.nd q.1.r=false:=d1;refine Qj ((i+1:Nat):Int) (by show((i:Nat):Int)+1=_;omega) (by omega) ?_;refine⟨i+1,rfl,⟨(Qg.trans Jh).trans Qx,Q4,λq' hq' hall=>?_⟩,by show p.pn-(i+1)<p.pn-i;omega⟩;rw[VF,hq] at hq';rcases XP.1 hq' with hq' | hq'
   ·exact Xi q' hq' hall
   ·have:q'=q:=by simpa using hq'
    subst this;rw[(IB hk sx (jg o1)).2 hall] at d1;cases d1
 have Q4:i=p.pn:=by omega
 rw[Q4,ZS (by omega)] at Xi;cases k with
 | zero=>
  obtain⟨q0,YF,hall⟩:=jQ8 Jn QX Wg;obtain⟨q,hq,rfl⟩:=Zk.1 YF;exact Xc ((aQh sx.dep (jg (YI q hq).1).dep).2 hall) (Xi q hq)
 | succ k=>
 have OL:v<n:=by omega
 refine call (HG (v:Int) w2 (by omega) (by omega)) ?_;rintro _ w3 ⟨YA,yn,yc,rfl,Qi,hY3,_⟩;refine call (Df ⟨YA,yn,yc,[⟨(v:Int),0,1⟩],2⟩ w3) ?_;rintro _ w4 ⟨rfl,Qs⟩;refine new (λw5 Qx KI QD=>?_);refine Qv QD rfl (sc rfl) (λwR hgR _ hBR=>?_);have dQr:Ext w4 wR:=XT Qx QD hgR;have oQ0:=(Qi.trans Qs).trans dQr;have dQs:=Qg.trans oQ0;have O3:=Qe.trans dQs;obtain⟨y,hy⟩:∃y:DV,y=⟨YA,yn,yc,[⟨(v:Int),0,1⟩],2⟩:=⟨_,rfl⟩
 have sy:Set1 n y.nd y.r (λe=>e v):=by rw[hy];exact H8 OL (by omega)
 have fw:SB wR y.A y.n y.c y.nd:=by rw[hy];exact hY3.ext (Qs.trans dQr)
 have hBY:Blk wR w4.heap.size 32 y.cells:=by rw[hy];exact hBR
 have hBX:=Qh.ext dQs;have hxR:=hx.ext O3;have hKR:=hK.ext O3;clear hBR QD;refine Iz [11,12] (λt:DV×DV×Nat×Nat=>[.pointer (some ⟨t.2.2.1,0,none⟩),.pointer (some ⟨t.2.2.2,0,none⟩)]) (λt w'=>kQt n wR (λe=>o e&&e v) (λe=>o e && !e v) t w') ?_ ?_
 ·have eR:=Ext.drew wR;have hx:=hxR;have hy:=fw;refine Iy Qa (Ext wR) 10 (.quiet 0 (.quiet 1 (.quiet 3 (.quiet 4 (.fork 2 (.fork 5 (.fork 6 (.fork 7 (.fork 8 (.fork 9 .done .skip) .skip) .skip) (.fork 7 (.fork 6 (.fork 8 (.fork 9 .done .skip) .skip) .skip) .skip)) (.fork 6 (.fork 5 (.fork 7 (.fork 8 (.fork 9 .done .skip) .skip) .skip) (.fork 7 (.fork 5 (.fork 8 (.fork 9 .done .skip) .skip) .skip) .skip)) (.fork 7 (.fork 5 (.fork 6 (.fork 8 (.fork 9 .done .skip) .skip) .skip) (.fork 6 (.fork 5 (.fork 8 (.fork 9 .done .skip) .skip) .skip) .skip)) .skip))) (.fork 6 (.fork 2 (.fork 5 (.fork 7 (.fork 8 (.fork 9 .done .skip) .skip) .skip) (.fork 7 (.fork 5 (.fork 8 (.fork 9 .done .skip) .skip) .skip) .skip)) (.fork 7 (.fork 2 (.fork 5 (.fork 8 (.fork 9 .done .skip) .skip) .skip) .skip) .skip)) (.fork 7 (.fork 2 (.fork 5 (.fork 6 (.fork 8 (.fork 9 .done .skip) .skip) .skip) (.fork 6 (.fork 5 (.fork 8 (.fork 9 .done .skip) .skip) .skip) .skip)) (.fork 6 (.fork 2 (.fork 5 (.fork 8 (.fork 9 .done .skip) .skip) .skip) .skip) .skip)) .skip))))))) (by kernel_rfl) (Ext.drew wR) ?_;refine Xv (vs:=x.cells) rfl (λw' Qb j u hj=>by rw[(hBX.ext Qb).cell];exact hj) ?_;refine Xv (vs:=y.cells) rfl (λw' Qb j u hj=>by rw[(hBY.ext Qb).cell];exact hj) ?_;refine Xv (vs:=x.cells) rfl (λw' Qb j u hj=>by rw[(hBX.ext Qb).cell];exact hj) ?_;refine Xv (vs:=y.cells) rfl (λw' Qb j u hj=>by rw[(hBY.ext Qb).cell];exact hj) ?_;refine⟨?_,?_⟩
  ·refine call (oV hk x y wR.drew (hx.ext eR) (hy.ext eR) sx sy) ?_;rintro _ v1 ⟨HA,Hn,Hc,Hnd,Hr,rfl,g1,Hb,Hs,HR⟩;have e1:=eR.trans g1;refine⟨e1,?_⟩;have z1:=g1.size;have y1:=λad ea h0=>SB.lt Hb ad ea h0
   have r1:=λ(ad:Addr) (ea:HA=some ad)=>HR ad.block ⟨ad,ea,rfl⟩
   refine⟨?_,?_⟩
   ·refine call (fT hk x y v1 (hx.ext e1) (hy.ext e1) sx sy) ?_;rintro _ v2 ⟨LA,Ln,Lc,Lnd,Lr,rfl,g2,Lb,Ls,LR⟩;have e2:=e1.trans g2;refine⟨e2,?_⟩;have z2:=g2.size;have y2:=λad ea h0=>SB.lt Lb ad ea h0
    have r2:=λ(ad:Addr) (ea:LA=some ad)=>LR ad.block ⟨ad,ea,rfl⟩
    refine⟨?_,?_⟩
    ·refine new (λv3 g3 z3 B3=>?_);have e3:=e2.trans g3;refine⟨e3,?_⟩;have l3:=e2.size;refine⟨?_,trivial⟩;refine new (λv4 g4 z4 B4=>?_);have e4:=e3.trans g4;refine⟨e4,?_⟩;have l4:=e3.size;refine⟨?_,trivial⟩;refine Qv (B3.ext g4) rfl (sc rfl) (λv5 h5 _ B5=>?_);have m5:Mod (·=v2.heap.size) v4 v5:=qQL h5 rfl;have e5:Ext wR v5:=m5.ext e4 (λi hi=>by omega);refine⟨e5,?_⟩;refine⟨?_,trivial⟩;refine Qv (B4.mod m5 (by show¬v3.heap.size=v2.heap.size;omega)) rfl (sc rfl) (λv6 h6 _ B6=>?_);have m6:Mod (·=v3.heap.size) v5 v6:=qQL h6 rfl;have e6:Ext wR v6:=m6.ext e5 (λi hi=>by omega);refine⟨e6,?_⟩;exact⟨(⟨HA,Hn,Hc,Hnd,Hr⟩,⟨LA,Ln,Lc,Lnd,Lr⟩,v2.heap.size,v3.heap.size),rfl,⟨e6,(B5.mod m6 (by show¬v2.heap.size=v3.heap.size;omega)),B6,(SB.modo (SB.modo (((Hb.ext g2).ext g3).ext g4) m5 (λad ea h0 hh=>by have q1:=y1 ad ea h0;have q2:=r1 ad ea;omega)) m6 (λad ea h0 hh=>by have q1:=y1 ad ea h0;have q2:=r1 ad ea;omega)),Hs,(SB.modo (SB.modo ((Lb.ext g3).ext g4) m5 (λad ea h0 hh=>by have q1:=y2 ad ea h0;have q2:=r2 ad ea;omega)) m6 (λad ea h0 hh=>by have q1:=y2 ad ea h0;have q2:=r2 ad ea;omega)),Ls⟩⟩
    ·refine⟨?_,trivial⟩;refine new (λv7 g7 z7 B7=>?_);have e7:=e2.trans g7;refine⟨e7,?_⟩;have l7:=e2.size;refine⟨?_,trivial⟩;refine new (λv8 g8 z8 B8=>?_);have e8:=e7.trans g8;refine⟨e8,?_⟩;have l8:=e7.size;refine⟨?_,trivial⟩;refine Qv B8 rfl (sc rfl) (λv9 h9 _ B9=>?_);have m9:Mod (·=v7.heap.size) v8 v9:=qQL h9 rfl;have e9:Ext wR v9:=m9.ext e8 (λi hi=>by omega);refine⟨e9,?_⟩;refine⟨?_,trivial⟩;refine Qv ((B7.ext g8).mod m9 (by show¬v2.heap.size=v7.heap.size;omega)) rfl (sc rfl) (λv10 XO _ B10=>?_);have Ee:Mod (·=v2.heap.size) v9 v10:=qQL XO rfl;have e10:Ext wR v10:=Ee.ext e9 (λi hi=>by omega);refine⟨e10,?_⟩;exact⟨(⟨HA,Hn,Hc,Hnd,Hr⟩,⟨LA,Ln,Lc,Lnd,Lr⟩,v7.heap.size,v2.heap.size),rfl,⟨e10,(B9.mod Ee (by show¬v7.heap.size=v2.heap.size;omega)),B10,(SB.modo (SB.modo (((Hb.ext g2).ext g7).ext g8) m9 (λad ea h0 hh=>by have q1:=y1 ad ea h0;have q2:=r1 ad ea;omega)) Ee (λad ea h0 hh=>by have q1:=y1 ad ea h0;have q2:=r1 ad ea;omega)),Hs,(SB.modo (SB.modo ((Lb.ext g7).ext g8) m9 (λad ea h0 hh=>by have q1:=y2 ad ea h0;have q2:=r2 ad ea;omega)) Ee (λad ea h0 hh=>by have q1:=y2 ad ea h0;have q2:=r2 ad ea;omega)),Ls⟩⟩
   ·refine⟨?_,?_⟩
    ·refine new (λzI zl DJ B11=>?_);have vZ:=e1.trans zl;refine⟨vZ,?_⟩;have l11:=e1.size;refine⟨?_,?_⟩
     ·refine call (fT hk x y zI (hx.ext vZ) (hy.ext vZ) sx sy) ?_;rintro _ Ef ⟨LA,Ln,Lc,Lnd,Lr,rfl,Eg,Lb,Ls,LR⟩;have M4:=vZ.trans Eg;refine⟨M4,?_⟩;have z12:=Eg.size;have y12:=λad ea h0=>SB.lt Lb ad ea h0
      have r12:=λ(ad:Addr) (ea:LA=some ad)=>LR ad.block ⟨ad,ea,rfl⟩
      refine⟨?_,trivial⟩;refine new (λv13 Eh z13 B13=>?_);have e13:=M4.trans Eh;refine⟨e13,?_⟩;have l13:=M4.size;refine⟨?_,trivial⟩;refine Qv ((B11.ext Eg).ext Eh) rfl (sc rfl) (λM5 Ya _ B14=>?_);have Ei:Mod (·=v1.heap.size) v13 M5:=qQL Ya rfl;have zJ:Ext wR M5:=Ei.ext e13 (λi hi=>by omega);refine⟨zJ,?_⟩;refine⟨?_,trivial⟩;refine Qv (B13.mod Ei (by show¬Ef.heap.size=v1.heap.size;omega)) rfl (sc rfl) (λv15 af _ B15=>?_);have Ej:Mod (·=Ef.heap.size) M5 v15:=qQL af rfl;have e15:Ext wR v15:=Ej.ext zJ (λi hi=>by omega);refine⟨e15,?_⟩;exact⟨(⟨HA,Hn,Hc,Hnd,Hr⟩,⟨LA,Ln,Lc,Lnd,Lr⟩,v1.heap.size,Ef.heap.size),rfl,⟨e15,(B14.mod Ej (by show¬v1.heap.size=Ef.heap.size;omega)),B15,(SB.modo (SB.modo (((Hb.ext zl).ext Eg).ext Eh) Ei (λad ea h0 hh=>by have q1:=y1 ad ea h0;have q2:=r1 ad ea;omega)) Ej (λad ea h0 hh=>by have q1:=y1 ad ea h0;have q2:=r1 ad ea;omega)),Hs,(SB.modo (SB.modo (Lb.ext Eh) Ei (λad ea h0 hh=>by have q1:=y12 ad ea h0;have q2:=r12 ad ea;omega)) Ej (λad ea h0 hh=>by have q1:=y12 ad ea h0;have q2:=r12 ad ea;omega)),Ls⟩⟩
     ·refine⟨?_,trivial⟩;refine new (λv16 M6 z16 B16=>?_);have Ek:=vZ.trans M6;refine⟨Ek,?_⟩;have l16:=vZ.size;refine⟨?_,trivial⟩;refine call (fT hk x y v16 (hx.ext Ek) (hy.ext Ek) sx sy) ?_;rintro _ v17 ⟨LA,Ln,Lc,Lnd,Lr,rfl,zK,Lb,Ls,LR⟩;have e17:=Ek.trans zK;refine⟨e17,?_⟩;have z17:=zK.size;have y17:=λad ea h0=>SB.lt Lb ad ea h0
      have r17:=λ(ad:Addr) (ea:LA=some ad)=>LR ad.block ⟨ad,ea,rfl⟩
      refine⟨?_,trivial⟩;refine Qv ((B11.ext M6).ext zK) rfl (sc rfl) (λM7 bB _ B18=>?_);have El:Mod (·=v1.heap.size) v17 M7:=qQL bB rfl;have e18:Ext wR M7:=El.ext e17 (λi hi=>by omega);refine⟨e18,?_⟩;refine⟨?_,trivial⟩;refine Qv ((B16.ext zK).mod El (by show¬zI.heap.size=v1.heap.size;omega)) rfl (sc rfl) (λv19 gr _ B19=>?_);have Em:Mod (·=zI.heap.size) M7 v19:=qQL gr rfl;have e19:Ext wR v19:=Em.ext e18 (λi hi=>by omega);refine⟨e19,?_⟩;exact⟨(⟨HA,Hn,Hc,Hnd,Hr⟩,⟨LA,Ln,Lc,Lnd,Lr⟩,v1.heap.size,zI.heap.size),rfl,⟨e19,(B18.mod Em (by show¬v1.heap.size=zI.heap.size;omega)),B19,(SB.modo (SB.modo (((Hb.ext zl).ext M6).ext zK) El (λad ea h0 hh=>by have q1:=y1 ad ea h0;have q2:=r1 ad ea;omega)) Em (λad ea h0 hh=>by have q1:=y1 ad ea h0;have q2:=r1 ad ea;omega)),Hs,(SB.modo (SB.modo Lb El (λad ea h0 hh=>by have q1:=y17 ad ea h0;have q2:=r17 ad ea;omega)) Em (λad ea h0 hh=>by have q1:=y17 ad ea h0;have q2:=r17 ad ea;omega)),Ls⟩⟩
    ·refine⟨?_,trivial⟩;refine new (λv20 M8 z20 B20=>?_);have wg:=e1.trans M8;refine⟨wg,?_⟩;have l20:=e1.size;refine⟨?_,?_⟩
     ·refine call (fT hk x y v20 (hx.ext wg) (hy.ext wg) sx sy) ?_;rintro _ v21 ⟨LA,Ln,Lc,Lnd,Lr,rfl,En,Lb,Ls,LR⟩;have M9:=wg.trans En;refine⟨M9,?_⟩;have z21:=En.size;have y21:=λad ea h0=>SB.lt Lb ad ea h0
      have r21:=λ(ad:Addr) (ea:LA=some ad)=>LR ad.block ⟨ad,ea,rfl⟩
      refine⟨?_,trivial⟩;refine new (λv22 Eo z22 B22=>?_);have e22:=M9.trans Eo;refine⟨e22,?_⟩;have l22:=M9.size;refine⟨?_,trivial⟩;refine Qv B22 rfl (sc rfl) (λNa pO _ B23=>?_);have Eq:Mod (·=v21.heap.size) v22 Na:=qQL pO rfl;have e23:Ext wR Na:=Eq.ext e22 (λi hi=>by omega);refine⟨e23,?_⟩;refine⟨?_,trivial⟩;refine Qv (((B20.ext En).ext Eo).mod Eq (by show¬v1.heap.size=v21.heap.size;omega)) rfl (sc rfl) (λv24 jl _ B24=>?_);have Er:Mod (·=v1.heap.size) Na v24:=qQL jl rfl;have e24:Ext wR v24:=Er.ext e23 (λi hi=>by omega);refine⟨e24,?_⟩;exact⟨(⟨HA,Hn,Hc,Hnd,Hr⟩,⟨LA,Ln,Lc,Lnd,Lr⟩,v21.heap.size,v1.heap.size),rfl,⟨e24,(B23.mod Er (by show¬v21.heap.size=v1.heap.size;omega)),B24,(SB.modo (SB.modo (((Hb.ext M8).ext En).ext Eo) Eq (λad ea h0 hh=>by have q1:=y1 ad ea h0;have q2:=r1 ad ea;omega)) Er (λad ea h0 hh=>by have q1:=y1 ad ea h0;have q2:=r1 ad ea;omega)),Hs,(SB.modo (SB.modo (Lb.ext Eo) Eq (λad ea h0 hh=>by have q1:=y21 ad ea h0;have q2:=r21 ad ea;omega)) Er (λad ea h0 hh=>by have q1:=y21 ad ea h0;have q2:=r21 ad ea;omega)),Ls⟩⟩
     ·refine⟨?_,trivial⟩;refine new (λv25 Nb z25 B25=>?_);have Es:=wg.trans Nb;refine⟨Es,?_⟩;have l25:=wg.size;refine⟨?_,trivial⟩;refine call (fT hk x y v25 (hx.ext Es) (hy.ext Es) sx sy) ?_;rintro _ v26 ⟨LA,Ln,Lc,Lnd,Lr,rfl,zL,Lb,Ls,LR⟩;have e26:=Es.trans zL;refine⟨e26,?_⟩;have z26:=zL.size;have y26:=λad ea h0=>SB.lt Lb ad ea h0
      have r26:=λ(ad:Addr) (ea:LA=some ad)=>LR ad.block ⟨ad,ea,rfl⟩
      refine⟨?_,trivial⟩;refine Qv (B25.ext zL) rfl (sc rfl) (λNc h27 _ B27=>?_);have Et:Mod (·=v20.heap.size) v26 Nc:=qQL h27 rfl;have e27:Ext wR Nc:=Et.ext e26 (λi hi=>by omega);refine⟨e27,?_⟩;refine⟨?_,trivial⟩;refine Qv (((B20.ext Nb).ext zL).mod Et (by show¬v1.heap.size=v20.heap.size;omega)) rfl (sc rfl) (λv28 h28 _ B28=>?_);have Eu:Mod (·=v1.heap.size) Nc v28:=qQL h28 rfl;have e28:Ext wR v28:=Eu.ext e27 (λi hi=>by omega);refine⟨e28,?_⟩;exact⟨(⟨HA,Hn,Hc,Hnd,Hr⟩,⟨LA,Ln,Lc,Lnd,Lr⟩,v20.heap.size,v1.heap.size),rfl,⟨e28,(B27.mod Eu (by show¬v20.heap.size=v1.heap.size;omega)),B28,(SB.modo (SB.modo (((Hb.ext M8).ext Nb).ext zL) Et (λad ea h0 hh=>by have q1:=y1 ad ea h0;have q2:=r1 ad ea;omega)) Eu (λad ea h0 hh=>by have q1:=y1 ad ea h0;have q2:=r1 ad ea;omega)),Hs,(SB.modo (SB.modo Lb Et (λad ea h0 hh=>by have q1:=y26 ad ea h0;have q2:=r26 ad ea;omega)) Eu (λad ea h0 hh=>by have q1:=y26 ad ea h0;have q2:=r26 ad ea;omega)),Ls⟩⟩
  ·refine⟨?_,?_⟩
   ·refine new (λzM g29 z29 B29=>?_);have wh:=eR.trans g29;refine⟨wh,?_⟩;have l29:=eR.size;refine⟨?_,?_⟩
    ·refine call (oV hk x y zM (hx.ext wh) (hy.ext wh) sx sy) ?_;rintro _ zN ⟨HA,Hn,Hc,Hnd,Hr,rfl,Ev,Hb,Hs,HR⟩;have wi:=wh.trans Ev;refine⟨wi,?_⟩;have z30:=Ev.size;have Ew:=λad ea h0=>SB.lt Hb ad ea h0
     have Ex:=λ(ad:Addr) (ea:HA=some ad)=>HR ad.block ⟨ad,ea,rfl⟩
     refine⟨?_,?_⟩
     ·refine call (fT hk x y zN (hx.ext wi) (hy.ext wi) sx sy) ?_;rintro _ v31 ⟨LA,Ln,Lc,Lnd,Lr,rfl,Ey,Lb,Ls,LR⟩;have Nd:=wi.trans Ey;refine⟨Nd,?_⟩;have z31:=Ey.size;have y31:=λad ea h0=>SB.lt Lb ad ea h0
      have r31:=λ(ad:Addr) (ea:LA=some ad)=>LR ad.block ⟨ad,ea,rfl⟩
      refine⟨?_,trivial⟩;refine new (λv32 Ez z32 B32=>?_);have e32:=Nd.trans Ez;refine⟨e32,?_⟩;have l32:=Nd.size;refine⟨?_,trivial⟩;refine Qv (((B29.ext Ev).ext Ey).ext Ez) rfl (sc rfl) (λNf h33 _ B33=>?_);have EC:Mod (·=wR.drew.heap.size) v32 Nf:=qQL h33 rfl;have e33:Ext wR Nf:=EC.ext e32 (λi hi=>by omega);refine⟨e33,?_⟩;refine⟨?_,trivial⟩;refine Qv (B32.mod EC (by show¬v31.heap.size=wR.drew.heap.size;omega)) rfl (sc rfl) (λv34 h34 _ B34=>?_);have ED:Mod (·=v31.heap.size) Nf v34:=qQL h34 rfl;have e34:Ext wR v34:=ED.ext e33 (λi hi=>by omega);refine⟨e34,?_⟩;exact⟨(⟨HA,Hn,Hc,Hnd,Hr⟩,⟨LA,Ln,Lc,Lnd,Lr⟩,wR.drew.heap.size,v31.heap.size),rfl,⟨e34,(B33.mod ED (by show¬wR.drew.heap.size=v31.heap.size;omega)),B34,(SB.modo (SB.modo ((Hb.ext Ey).ext Ez) EC (λad ea h0 hh=>by have q1:=Ew ad ea h0;have q2:=Ex ad ea;omega)) ED (λad ea h0 hh=>by have q1:=Ew ad ea h0;have q2:=Ex ad ea;omega)),Hs,(SB.modo (SB.modo (Lb.ext Ez) EC (λad ea h0 hh=>by have q1:=y31 ad ea h0;have q2:=r31 ad ea;omega)) ED (λad ea h0 hh=>by have q1:=y31 ad ea h0;have q2:=r31 ad ea;omega)),Ls⟩⟩
     ·refine⟨?_,trivial⟩;refine new (λv35 Ng z35 B35=>?_);have EE:=wi.trans Ng;refine⟨EE,?_⟩;have l35:=wi.size;refine⟨?_,trivial⟩;refine call (fT hk x y v35 (hx.ext EE) (hy.ext EE) sx sy) ?_;rintro _ v36 ⟨LA,Ln,Lc,Lnd,Lr,rfl,zO,Lb,Ls,LR⟩;have e36:=EE.trans zO;refine⟨e36,?_⟩;have z36:=zO.size;have y36:=λad ea h0=>SB.lt Lb ad ea h0
      have r36:=λ(ad:Addr) (ea:LA=some ad)=>LR ad.block ⟨ad,ea,rfl⟩
      refine⟨?_,trivial⟩;refine Qv (((B29.ext Ev).ext Ng).ext zO) rfl (sc rfl) (λv37 h37 _ B37=>?_);have EF:Mod (·=wR.drew.heap.size) v36 v37:=qQL h37 rfl;have e37:Ext wR v37:=EF.ext e36 (λi hi=>by omega);refine⟨e37,?_⟩;refine⟨?_,trivial⟩;refine Qv ((B35.ext zO).mod EF (by show¬zN.heap.size=wR.drew.heap.size;omega)) rfl (sc rfl) (λv38 h38 _ B38=>?_);have EG:Mod (·=zN.heap.size) v37 v38:=qQL h38 rfl;have e38:Ext wR v38:=EG.ext e37 (λi hi=>by omega);refine⟨e38,?_⟩;exact⟨(⟨HA,Hn,Hc,Hnd,Hr⟩,⟨LA,Ln,Lc,Lnd,Lr⟩,wR.drew.heap.size,zN.heap.size),rfl,⟨e38,(B37.mod EG (by show¬wR.drew.heap.size=zN.heap.size;omega)),B38,(SB.modo (SB.modo ((Hb.ext Ng).ext zO) EF (λad ea h0 hh=>by have q1:=Ew ad ea h0;have q2:=Ex ad ea;omega)) EG (λad ea h0 hh=>by have q1:=Ew ad ea h0;have q2:=Ex ad ea;omega)),Hs,(SB.modo (SB.modo Lb EF (λad ea h0 hh=>by have q1:=y36 ad ea h0;have q2:=r36 ad ea;omega)) EG (λad ea h0 hh=>by have q1:=y36 ad ea h0;have q2:=r36 ad ea;omega)),Ls⟩⟩
    ·refine⟨?_,trivial⟩;refine new (λv39 g39 z39 B39=>?_);have EH:=wh.trans g39;refine⟨EH,?_⟩;have l39:=wh.size;refine⟨?_,trivial⟩;refine call (oV hk x y v39 (hx.ext EH) (hy.ext EH) sx sy) ?_;rintro _ v40 ⟨HA,Hn,Hc,Hnd,Hr,rfl,EI,Hb,Hs,HR⟩;have EJ:=EH.trans EI;refine⟨EJ,?_⟩;have z40:=EI.size;have y40:=λad ea h0=>SB.lt Hb ad ea h0
     have r40:=λ(ad:Addr) (ea:HA=some ad)=>HR ad.block ⟨ad,ea,rfl⟩
     refine⟨?_,trivial⟩;refine call (fT hk x y v40 (hx.ext EJ) (hy.ext EJ) sx sy) ?_;rintro _ v41 ⟨LA,Ln,Lc,Lnd,Lr,rfl,zP,Lb,Ls,LR⟩;have e41:=EJ.trans zP;refine⟨e41,?_⟩;have z41:=zP.size;have y41:=λad ea h0=>SB.lt Lb ad ea h0
     have r41:=λ(ad:Addr) (ea:LA=some ad)=>LR ad.block ⟨ad,ea,rfl⟩
     refine⟨?_,trivial⟩;refine Qv (((B29.ext g39).ext EI).ext zP) rfl (sc rfl) (λNi h42 _ B42=>?_);have EL:Mod (·=wR.drew.heap.size) v41 Ni:=qQL h42 rfl;have e42:Ext wR Ni:=EL.ext e41 (λi hi=>by omega);refine⟨e42,?_⟩;refine⟨?_,trivial⟩;refine Qv (((B39.ext EI).ext zP).mod EL (by show¬zM.heap.size=wR.drew.heap.size;omega)) rfl (sc rfl) (λv43 h43 _ B43=>?_);have EM:Mod (·=zM.heap.size) Ni v43:=qQL h43 rfl;have e43:Ext wR v43:=EM.ext e42 (λi hi=>by omega);refine⟨e43,?_⟩;exact⟨(⟨HA,Hn,Hc,Hnd,Hr⟩,⟨LA,Ln,Lc,Lnd,Lr⟩,wR.drew.heap.size,zM.heap.size),rfl,⟨e43,(B42.mod EM (by show¬wR.drew.heap.size=zM.heap.size;omega)),B43,(SB.modo (SB.modo (Hb.ext zP) EL (λad ea h0 hh=>by have q1:=y40 ad ea h0;have q2:=r40 ad ea;omega)) EM (λad ea h0 hh=>by have q1:=y40 ad ea h0;have q2:=r40 ad ea;omega)),Hs,(SB.modo (SB.modo Lb EL (λad ea h0 hh=>by have q1:=y41 ad ea h0;have q2:=r41 ad ea;omega)) EM (λad ea h0 hh=>by have q1:=y41 ad ea h0;have q2:=r41 ad ea;omega)),Ls⟩⟩
   ·refine⟨?_,trivial⟩;refine new (λzQ g44 z44 B44=>?_);have wj:=eR.trans g44;refine⟨wj,?_⟩;have l44:=eR.size;refine⟨?_,?_⟩
    ·refine call (oV hk x y zQ (hx.ext wj) (hy.ext wj) sx sy) ?_;rintro _ zR ⟨HA,Hn,Hc,Hnd,Hr,rfl,EN,Hb,Hs,HR⟩;have wk:=wj.trans EN;refine⟨wk,?_⟩;have z45:=EN.size;have EO:=λad ea h0=>SB.lt Hb ad ea h0
     have EQ:=λ(ad:Addr) (ea:HA=some ad)=>HR ad.block ⟨ad,ea,rfl⟩
     refine⟨?_,?_⟩
     ·refine call (fT hk x y zR (hx.ext wk) (hy.ext wk) sx sy) ?_;rintro _ v46 ⟨LA,Ln,Lc,Lnd,Lr,rfl,ER,Lb,Ls,LR⟩;have Nj:=wk.trans ER;refine⟨Nj,?_⟩;have z46:=ER.size;have y46:=λad ea h0=>SB.lt Lb ad ea h0
      have r46:=λ(ad:Addr) (ea:LA=some ad)=>LR ad.block ⟨ad,ea,rfl⟩
      refine⟨?_,trivial⟩;refine new (λv47 ES z47 B47=>?_);have e47:=Nj.trans ES;refine⟨e47,?_⟩;have l47:=Nj.size;refine⟨?_,trivial⟩;refine Qv B47 rfl (sc rfl) (λNk h48 _ B48=>?_);have ET:Mod (·=v46.heap.size) v47 Nk:=qQL h48 rfl;have e48:Ext wR Nk:=ET.ext e47 (λi hi=>by omega);refine⟨e48,?_⟩;refine⟨?_,trivial⟩;refine Qv ((((B44.ext EN).ext ER).ext ES).mod ET (by show¬wR.drew.heap.size=v46.heap.size;omega)) rfl (sc rfl) (λv49 h49 _ B49=>?_);have EU:Mod (·=wR.drew.heap.size) Nk v49:=qQL h49 rfl;have e49:Ext wR v49:=EU.ext e48 (λi hi=>by omega);refine⟨e49,?_⟩;exact⟨(⟨HA,Hn,Hc,Hnd,Hr⟩,⟨LA,Ln,Lc,Lnd,Lr⟩,v46.heap.size,wR.drew.heap.size),rfl,⟨e49,(B48.mod EU (by show¬v46.heap.size=wR.drew.heap.size;omega)),B49,(SB.modo (SB.modo ((Hb.ext ER).ext ES) ET (λad ea h0 hh=>by have q1:=EO ad ea h0;have q2:=EQ ad ea;omega)) EU (λad ea h0 hh=>by have q1:=EO ad ea h0;have q2:=EQ ad ea;omega)),Hs,(SB.modo (SB.modo (Lb.ext ES) ET (λad ea h0 hh=>by have q1:=y46 ad ea h0;have q2:=r46 ad ea;omega)) EU (λad ea h0 hh=>by have q1:=y46 ad ea h0;have q2:=r46 ad ea;omega)),Ls⟩⟩
     ·refine⟨?_,trivial⟩;refine new (λv50 Nm z50 B50=>?_);have EV:=wk.trans Nm;refine⟨EV,?_⟩;have l50:=wk.size;refine⟨?_,trivial⟩;refine call (fT hk x y v50 (hx.ext EV) (hy.ext EV) sx sy) ?_;rintro _ v51 ⟨LA,Ln,Lc,Lnd,Lr,rfl,zS,Lb,Ls,LR⟩;have e51:=EV.trans zS;refine⟨e51,?_⟩;have z51:=zS.size;have y51:=λad ea h0=>SB.lt Lb ad ea h0
      have r51:=λ(ad:Addr) (ea:LA=some ad)=>LR ad.block ⟨ad,ea,rfl⟩
      refine⟨?_,trivial⟩;refine Qv (B50.ext zS) rfl (sc rfl) (λNn h52 _ B52=>?_);have EW:Mod (·=zR.heap.size) v51 Nn:=qQL h52 rfl;have e52:Ext wR Nn:=EW.ext e51 (λi hi=>by omega);refine⟨e52,?_⟩;refine⟨?_,trivial⟩;refine Qv ((((B44.ext EN).ext Nm).ext zS).mod EW (by show¬wR.drew.heap.size=zR.heap.size;omega)) rfl (sc rfl) (λv53 h53 _ B53=>?_);have EX:Mod (·=wR.drew.heap.size) Nn v53:=qQL h53 rfl;have e53:Ext wR v53:=EX.ext e52 (λi hi=>by omega);refine⟨e53,?_⟩;exact⟨(⟨HA,Hn,Hc,Hnd,Hr⟩,⟨LA,Ln,Lc,Lnd,Lr⟩,zR.heap.size,wR.drew.heap.size),rfl,⟨e53,(B52.mod EX (by show¬zR.heap.size=wR.drew.heap.size;omega)),B53,(SB.modo (SB.modo ((Hb.ext Nm).ext zS) EW (λad ea h0 hh=>by have q1:=EO ad ea h0;have q2:=EQ ad ea;omega)) EX (λad ea h0 hh=>by have q1:=EO ad ea h0;have q2:=EQ ad ea;omega)),Hs,(SB.modo (SB.modo Lb EW (λad ea h0 hh=>by have q1:=y51 ad ea h0;have q2:=r51 ad ea;omega)) EX (λad ea h0 hh=>by have q1:=y51 ad ea h0;have q2:=r51 ad ea;omega)),Ls⟩⟩
    ·refine⟨?_,trivial⟩;refine new (λv54 g54 z54 B54=>?_);have EY:=wj.trans g54;refine⟨EY,?_⟩;have l54:=wj.size;refine⟨?_,trivial⟩;refine call (oV hk x y v54 (hx.ext EY) (hy.ext EY) sx sy) ?_;rintro _ v55 ⟨HA,Hn,Hc,Hnd,Hr,rfl,EZ,Hb,Hs,HR⟩;have E0:=EY.trans EZ;refine⟨E0,?_⟩;have z55:=EZ.size;have y55:=λad ea h0=>SB.lt Hb ad ea h0
     have r55:=λ(ad:Addr) (ea:HA=some ad)=>HR ad.block ⟨ad,ea,rfl⟩
     refine⟨?_,trivial⟩;refine call (fT hk x y v55 (hx.ext E0) (hy.ext E0) sx sy) ?_;rintro _ v56 ⟨LA,Ln,Lc,Lnd,Lr,rfl,zT,Lb,Ls,LR⟩;have e56:=E0.trans zT;refine⟨e56,?_⟩;have z56:=zT.size;have y56:=λad ea h0=>SB.lt Lb ad ea h0
     have r56:=λ(ad:Addr) (ea:LA=some ad)=>LR ad.block ⟨ad,ea,rfl⟩
     refine⟨?_,trivial⟩;refine Qv ((B54.ext EZ).ext zT) rfl (sc rfl) (λNp h57 _ B57=>?_);have E1:Mod (·=zQ.heap.size) v56 Np:=qQL h57 rfl;have e57:Ext wR Np:=E1.ext e56 (λi hi=>by omega);refine⟨e57,?_⟩;refine⟨?_,trivial⟩;refine Qv ((((B44.ext g54).ext EZ).ext zT).mod E1 (by show¬wR.drew.heap.size=zQ.heap.size;omega)) rfl (sc rfl) (λv58 h58 _ B58=>?_);have E2:Mod (·=wR.drew.heap.size) Np v58:=qQL h58 rfl;have e58:Ext wR v58:=E2.ext e57 (λi hi=>by omega);refine⟨e58,?_⟩;exact⟨(⟨HA,Hn,Hc,Hnd,Hr⟩,⟨LA,Ln,Lc,Lnd,Lr⟩,zQ.heap.size,wR.drew.heap.size),rfl,⟨e58,(B57.mod E2 (by show¬zQ.heap.size=wR.drew.heap.size;omega)),B58,(SB.modo (SB.modo (Hb.ext zT) E1 (λad ea h0 hh=>by have q1:=y55 ad ea h0;have q2:=r55 ad ea;omega)) E2 (λad ea h0 hh=>by have q1:=y55 ad ea h0;have q2:=r55 ad ea;omega)),Hs,(SB.modo (SB.modo Lb E1 (λad ea h0 hh=>by have q1:=y56 ad ea h0;have q2:=r56 ad ea;omega)) E2 (λad ea h0 hh=>by have q1:=y56 ad ea h0;have q2:=r56 ad ea;omega)),Ls⟩⟩
 rintro⟨xh,xl,b1,b2⟩ w6 ⟨QQ,Qh,Qy,hHb,O4,wQ,gD⟩;simp only at Qh Qy hHb O4 wQ gD;have XX:=O3.trans QQ;have dh:=hKR.ext QQ;have mh:QG n (λe=>o e&&e v)=eZ (QG n o) v:=by
  rw[aQi (o:=o) (v:=v) true (λe=>by cases e v<;>rfl)];congr 1;funext c;cases c.testBit v<;>rfl
 have ml:QG n (λe=>o e && !e v)=ib (QG n o) v:=by
  rw[aQi (o:=o) (v:=v) false (λe=>by cases e v<;>rfl)];congr 1;funext c;cases c.testBit v<;>rfl
 have h0:=O4.root0;have l0:=gD.root0;rw[mh] at h0;rw[ml] at l0;have ihh:=λ(hq:eZ (QG n o) v≠ []) (w7:World) (Xh:Ext w6 w7)=>ih k (fB k) (v+1) xh (λe=>o e&&e v) w7 (by omega) (dh.ext Xh) (hHb.ext Xh) O4 (by rw[mh];exact hq) (by rw[mh];exact Jn.sub (λc hc=>(Jy.1 hc).1)) (by rw[mh];exact kQd Wg)
 rw[mh] at ihh;have ihl:=λ(hq:ib (QG n o) v≠ []) (w7:World) (Xh:Ext w6 w7)=>ih k (fB k) (v+1) xl (λe=>o e && !e v) w7 (by omega) (dh.ext Xh) (wQ.ext Xh) gD (by rw[ml];exact hq) (by rw[ml];exact Jn.sub (λc hc=>(Jy.1 hc).1)) (by rw[ml];exact kQe Wg)
 rw[ml] at ihl;have mK:((v+1:Nat):Int)=(v:Int)+1:=by omega
 refine Qo Qy rfl ?_;refine X8 (λc9=>?_) (λc9=>?_)
 ·have jV:=l0.1 c9;have nE:eZ (QG n o) v≠ []:=by rw[aQk jV];exact QX
  rw[kQa QX jV];refine Qz dh.wbb rfl ?_;refine Qt Qh rfl ?_;refine Qj ((v+1:Nat):Int) (by omega) (by omega) ?_;refine call (ihh nE w6 (Ext.refl _)) ?_;rintro _ w7 ⟨A,c,rfl,Xh,V8⟩;exact⟨A,c,rfl,XX.trans Xh,V8⟩
 have jV:ib (QG n o) v≠ []:=λe=>c9 (l0.2 e)
 refine Qo Qh rfl ?_;refine X8 (λxE=>?_) (λxE=>?_)
 ·have nE:=h0.1 xE;rw[kQb QX nE];refine Qz dh.wbb rfl ?_;refine Qt Qy rfl ?_;refine Qj ((v+1:Nat):Int) (by omega) (by omega) ?_;refine call (ihl jV w6 (Ext.refl _)) ?_;rintro _ w7 ⟨A,c,rfl,Xh,V8⟩;exact⟨A,c,rfl,XX.trans Xh,V8⟩
 have nE:eZ (QG n o) v≠ []:=λe=>xE (h0.2 e)
 rw[kQc QX jV nE];have hb:∀s,s∈QG n o->(∀r∈QF (fP (ZD p.ps) s),(∀x∈r,x<256)/\r.length<=1000000000)/\(QF (fP (ZD p.ps) s)).length<=1000000:=λs hs=>by
  obtain⟨q0,YF,pN⟩:=Jn.cov s hs;obtain⟨q,hq,rfl⟩:=Zk.1 YF;rw[Jn.get hs YF pN];obtain⟨_,o2,o3,o4⟩:=YI q hq;have ht:bW q.2=true:=by unfold K5 at o2;rw[Z9] at o2;exact o2.1
  have hu:=Yg (mr ht);have hul:=rI (QF q.2);rw[hu] at hul;refine⟨λr hr=>⟨λx hx=>o3 x (by rw[<-hu];exact Wo.2 ⟨r,hr,by simp[hx]⟩),?_⟩,by show(QF q.2).length<=_;omega⟩;have:r.length<=(Qp (QF q.2)).length:=by
   have h5:∀(ls:List (List Nat)),r∈ls->r.length<=(Qp ls).length:=λls=>by
    induction ls with
    | nil=>intro h;cases h
    | cons a ls ih2=>
     intro h;rw[V4,Qq,Q2];rcases QY.1 h with rfl | h
     ·omega
     ·have:=ih2 h;omega
   exact h5 _ hr
  rw[hu] at this;omega
 have hif:∀v ng,(∀x∈J4 p.nm v ng,x<256)/\(J4 p.nm v ng).length<=1000000000:=λv ng=>by
  unfold J4;cases hg:p.nm[v]? with
  | none=>cases ng<;>exact⟨by simp[ZJ],by simp[ZJ]⟩
  | some s=>
   have Wf:=Xl hg;have zU:=(Yp s Wf).1;have jO:=KC s Wf;refine⟨λx hx=>?_,?_⟩
   ·rcases XP.1 hx with hx | hx
    ·exact(show∀y∈ZJ,y<256 by decide) x hx
    ·rcases XP.1 hx with hx | hx
     ·cases ng
      ·cases hx
      ·rw[QO.1 hx];decide
     ·exact zU x hx
   ·simp only[Qq,gJ];cases ng<;>simp[ZJ]<;>omega
 have wG:(QG n o).length<=16:=by
  have h1:(QG n o).length<=2^n:=X3 (lu _ _) (by simp);have h2:2^n<=2^4:=aT (by decide) ni;omega
 have bnd:∀S,S≠ []->(∀c∈S,c∈QG n o)->S.length<=16->my (Zn p.nm (fP (ZD p.ps)) k (v+1) S)/\(Zn p.nm (fP (ZD p.ps)) k (v+1) S).length<=100000000:=λS hS hSm qt=>by
  obtain⟨a1,a2⟩:=vq (nm:=p.nm) (f:=fP (ZD p.ps)) (P:=λr=>(∀x∈r,x<256)/\r.length<=1000000000) (M:=1000000) hif (by decide) (by decide) k (v+1) S hS (λc hc=>hb c (hSm c hc));have:=WN (1000000+3) qt;exact⟨a1,by omega⟩
 obtain⟨bh1,bh2⟩:=bnd _ nE (λc hc=>(Jy.1 hc).1) (X3 (lu _ _) wG);obtain⟨bl1,bl2⟩:=bnd _ jV (λc hc=>(Jy.1 hc).1) (X3 (lu _ _) wG);generalize hWH:Zn p.nm (fP (ZD p.ps)) k (v+1) (eZ (QG n o) v)=WH at*;generalize hWL:Zn p.nm (fP (ZD p.ps)) k (v+1) (ib (QG n o) v)=WL at*;refine XR Qa (Ext w6) 12 [(true,0),(true,1),(true,2),(true,3),(true,5),(true,6),(true,7),(true,8),(false,4),(false,9),(true,10),(true,11)] (by kernel_rfl) (Ext.drew w6) ?_;refine QN (v:=p.clo) (λw' Qb=>by rw[(dh.wbb.ext Qb).cell0];rfl) ?_;refine Xv (vs:=xh.cells) rfl (λw' Qb j u hj=>by rw[(Qh.ext Qb).cell];exact hj) ?_;refine Qj ((v+1:Nat):Int) (by omega) (by omega) ?_;refine QN (v:=p.clo) (λw' Qb=>by rw[(dh.wbb.ext Qb).cell0];rfl) ?_;refine Xv (vs:=xl.cells) rfl (λw' Qb j u hj=>by rw[(Qy.ext Qb).cell];exact hj) ?_;refine Qj ((v+1:Nat):Int) (by omega) (by omega) ?_;have hd:=Ext.drew w6;refine call (ihh nE w6.drew hd) ?_;rintro _ w7 ⟨HA,hc,rfl,Xh,V8⟩;refine⟨hd.trans Xh,?_⟩;refine call (ihl jV w7 (hd.trans Xh)) ?_;rintro _ w8 ⟨LA,lc,rfl,Xn,io⟩;refine⟨(hd.trans Xh).trans Xn,?_⟩;have ir:=(hd.trans Xh).trans Xn;refine call (kQq HA LA _ hc _ lc WH WL w8 (V8.ext Xn).1 io.1 bh1 bl1) ?_;rintro _ w9 ⟨rfl,Xx⟩;have pL:=ir.trans Xx;by_cases heq:WH=WL
 ·rw[Qf heq];refine Zy heq ?_;exact⟨HA,hc,rfl,XX.trans pL,(V8.ext Xn).ext Xx⟩
 ·rw[if_neg heq];refine XJ heq ?_;have nQK:v<p.nn:=by have:=hK.nms.len;rw[bT] at this;omega
  refine Qz (dh.ext pL).nbb rfl ?_;obtain⟨s,hs⟩:∃s,p.nm[v]? =some s:=⟨_,Xu (by omega)⟩
  refine KF (dh.ext pL).nms nQK (λad u hA hu Xq=>?_);rw[lJ hs] at hu;cases hu;refine load Xq ?_;have es:fU p.nm v=s:=by unfold fU;rw[hs]<;>rfl
  rw[<-es];refine call (kQn p.nm v WH WL HA LA _ hc _ lc w9 ((V8.ext Xn).ext Xx).1 (io.ext Xx).1 bh1 bl1 (by rw[es];have:=KC s (Xl hs);omega) (by rw[JL];exact bh2) (by rw[JL];exact bl2)) ?_;rintro _ QE ⟨JA,jc,rfl,X1,jw⟩;exact⟨JA,jc,rfl,(XX.trans pL).trans X1,jw⟩
theorem aQt (NA:Option Addr)(nn nc:Nat)(nm:List (List Nat))(x:DV)(o:BF)(PA:Option Addr)(pn pc:Nat)(ps:List (DV×List Nat))(n:Nat)(ni:n<=4)(jI:nm.length=n)(Yp:KO nm)(KC:∀s∈nm,s.length<=1000000)(YI:∀q∈ps,Kp n q.1.nd q.1.r=true/\K5 q.2=true/\(∀b∈q.2,b<256)/\q.2.length<=1000000)(w:World)
  (hN:Sl w 1 NA nn nc (XH nm)) (hx:SB w x.A x.n x.c x.nd) (sx:Set1 n x.nd x.r o) (hP:SlS Kg 3 w PA pn pc ps) (AZ:∀q∈ps,SB w q.1.A q.1.n q.1.c q.1.nd) (QX:QG n o≠ []) (Jn:PaOk (QG n o) (ZD ps)):
  Fn Tryz.prog 65 [.slice NA nn nc,Xm x.A x.n x.c x.r,.slice PA pn pc] w (λu w'=>ve w u ((Zn nm (fP (ZD ps)) n 0 (QG n o)).map (·++ [10])) w'):=by
 refine QJ (c:={c65 with cuts:=[]}) Qa Tryz.func65 rfl rfl rfl ?_;refine new (λw1 Qe Q6 Qh=>?_);refine new (λw2 Qg Ze Qy=>?_);refine new (λw3 Qi Jr Qu=>?_);refine new (λw4 Qs KR QR=>?_);have Vl:=Qi.trans Qs;have Jh:=Qg.trans Vl;have Xp:=Qe.trans Jh;refine KZ QR (by decide) (λw5 Jt QD=>?_);have bw:Ext w3 w5:=Jt.ext Qs (λi hi=>by omega)
 let p:WP:=⟨w2.heap.size,w3.heap.size,w.heap.size,PA,pn,pc,NA,nn,nc,nm,ps⟩
 have JK:Ext w w5:=((Qe.trans Qg).trans Qi).trans bw;have hK:WK w5 p:=⟨Qu.ext bw,QD,Qh.ext ((Qg.trans Qi).trans bw),hP.ext JK,λq hq=>(AZ q hq).ext JK,hN.ext JK⟩
 refine Qz hK.wbb rfl ?_;refine Qt (Qy.ext (Qi.trans bw)) rfl ?_;refine call (kQu p n ni jI Yp KC YI n 0 x o w5 (by omega) hK (hx.ext JK) sx QX Jn aQj) ?_;rintro _ w6 ⟨A,c,rfl,QQ,bA⟩;exact⟨A,c,rfl,JK.trans QQ,bA⟩
theorem aQu:∀(xs:List (List UInt8)),([]:List UInt8).intercalate xs=xs.flatten
 | []=>rfl
 | [x]=>by simp[List.intercalate]
 | x::y::l=>by
  have ih:=aQu (y::l);simp only[List.intercalate,List.intersperse_cons₂,PG,bO] at ih ⊢;rw[ih]
theorem kQv (ls:List (List Nat)):Lib.join ((ls.map (λs=>Qd (s++ [10]))).map (·.data.toList)) []=(Qp ls).map UInt8.ofNat:=by
 unfold Lib.join;rw[aQu];induction ls with
 | nil=>rfl
 | cons s ls ih=>
  rw[Kw,Kw,PG,ih,V4,yi];simp
theorem kQw (A:Option Addr)(n c:Nat)(ls:List (List Nat))(w:World)(h:Sn w A n c (JY ls))(Xa:∀ad,A=some ad->0<n->ad.block<w.heap.size)(hn:n<=1000000000)(QZ:(Qp ls).length<=1000000000):
  Fn Tryz.prog 102 [.slice A n c,.string ⟨#[]⟩] w (λu w'=>u= .string (Qd (Qp ls))/\Ext w w'):=by
 have hl:=kE h.1;by_cases h0:n=0
 ·subst h0;have:ls=[]:=WO hl;subst this;refine QJ (c:={eQD with cuts:=[]}) Qa Tryz.func102 rfl rfl rfl ?_;refine J0 rfl ?_;exact⟨rfl,Ext.refl _⟩
 ·obtain⟨g,o,rfl⟩:=h.2 (by omega);obtain⟨ad,e,hc⟩:=h.1.at_ (by omega);cases e;have hx:(ls.map (λs=>Qd (s++ [10]))).length=n:=by rw[JL,hl]
  have hj:=kQv ls;have AG:=Tryz.strings_Join g o c (ls.map (λs=>Qd (s++ [10]))) ⟨#[]⟩ w (λj x hj=>by
   rw[aR] at hj;cases hs:ls[j]? with
   | none=>rw[hs] at hj;cases hj
   | some s=>
    rw[hs] at hj;cases hj;have:=hc j _ (bZ hs);have e3:(⟨g,o,none⟩:Addr).add j=⟨g,o+j,none⟩:=by
     unfold Addr.add;by_cases o9:j=0
     ·subst o9;simp
     ·simp[o9]
    rw[e3] at this;exact this) (Xa _ rfl (by omega)) (by omega) (by rw[hx];exact h.1.le) (by
   have:(⟨#[]⟩:ByteArray).data.toList=[]:=rfl;rw[this,hj,JL];omega)
  have e0:(⟨#[]⟩:ByteArray).data.toList=[]:=rfl;rw[e0,hj,hx] at AG;unfold Fn;refine AG.mono λe w' he=>?_
  obtain⟨rfl,hb⟩:=he;exact⟨rfl,qQR hb⟩
theorem aQv (ls:List (List Nat))(s:List Nat):(Qp (ls++ [s])).length=(Qp ls).length+(s.length+1):=by simp[Qp]
theorem kQx (A:Option Addr)(n c:Nat)(ls:List (List Nat))(w:World)(h:Sn w A n c (JY ls))(QZ:(Qp ls).length<=1048576):
  Fn Tryz.prog 50 [.slice A n c] w (λu w'=>u= .string (Qd (Qp ls))/\Ext w w'):=by
 have hl:=kE h.1;have cy:=rI ls;refine QJ (c:={RF with cuts:=[]}) Qa Tryz.func50 rfl rfl rfl ?_;refine loop Qa [8,3] (λi:Nat=>[.int .i64 i,.int .i64 (Qp (ls.take i)).length]) (λi w'=>w=w'/\i<=n) (λi _=>n-i) 0 rfl ⟨rfl,Xo _⟩ ?_;rintro i _ ⟨rfl,hi⟩;refine Qw (λc1=>?_) (λc1=>?_)
 ·have Q4:i<n:=by omega
  obtain⟨s,hs⟩:∃s,ls[i]? =some s:=⟨_,Xu (by omega)⟩
  have KX:ls.take (i+1)=ls.take i++ [s]:=by rw[VF,hs]<;>rfl
  have hu:=aQv (ls.take i) s;rw[<-KX] at hu;have ZF:(Qp (ls.take (i+1))).length<=(Qp ls).length:=by
   have e5:Qp ls=Qp (ls.take (i+1))++Qp (ls.drop (i+1)):=by
    have e6:∀a b:List (List Nat),Qp (a++b)=Qp a++Qp b:=λa b=>by simp[Qp]
    rw[<-e6,aQ]
   rw[e5,Qq];omega
  refine KF h.1 Q4 (λad u hA iE Xq=>?_);rw[bZ hs] at iE;cases iE;refine load Xq ?_;have XQ:=Q8 (s++ [10]);rw[Qq,nU] at XQ;refine Qj (((Qp (ls.take (i+1))).length:Nat):Int) (by rw[hu];omega) (by omega) ?_;refine XJ (by omega) ?_;refine Qj ((i+1:Nat):Int) (by show((i:Nat):Int)+1=_;omega) (by omega) ?_;exact⟨i+1,rfl,⟨rfl,Q4⟩,by show n-(i+1)<n-i;omega⟩
 ·refine call (kQw A n c ls w h (λad e h0=>?_) (by omega) (by omega)) ?_
  ·obtain⟨ad',e',hc⟩:=h.1.at_ h0;rw[e] at e';cases e';obtain⟨s,hs⟩:∃s,ls[0]? =some s:=⟨_,Xu (by omega)⟩
   have:=hc 0 _ (bZ hs);have h6:=World.block_lt_of_cell? w _ this;rw[og] at h6;exact h6
  rintro _ w1 ⟨rfl,Qe⟩;exact⟨rfl,Qe⟩
theorem kQy {r:List Nat}{k:Nat}(h1:10∉r.take k)(h2:r[k]? =some 10):(aw r).length=k/\10∈r:=by
 refine⟨?_,Xl h2⟩;unfold aw;induction r generalizing k with
 | nil=>simp at h2
 | cons b r ih=>
  cases k with
  | zero=>
   have:b=10:=by simpa using h2
   subst this;simp
  | succ k=>
   simp only[fy,QY,not_or] at h1;have hb:(b !=10)=true:=by simpa using λe:b=10=>h1.1 e.symm
   rw[an,Qf hb,Q2,ih h1.2 (by simpa using h2)]
theorem aQw (l:List Nat)(w:World)(hl:∀x∈l,x<256)(QZ:l.length<=1000000000):
  Fn Tryz.prog 19 [.string (Qd l)] w (λu w'=>∃A c,u= .slice A (bf l).length c/\Ext w w'/\Own w' w.heap.size 9 1 A (bf l).length c (XH (bf l))):=by
 have XQ:=Q8 l;refine QJ (c:={RD with cuts:=[]}) Qa Tryz.func19 rfl rfl rfl ?_;refine Xg Qa [] rfl rfl rfl rfl rfl ⟨⟩ rfl (λcs h=>by cases h) rfl (by decide) (by decide) ?_;intro w1 Qe Q6 Qh;refine loop Qa [5,4,3] (λs:Nat×Nat×List (List Nat)×Option Addr×Nat=>[.int .i64 s.1,.int .i64 s.2.1,.slice s.2.2.2.1 s.2.2.1.length s.2.2.2.2]) (λs w'=>Ext w w'/\s.1<=l.length/\s.2.1<=s.1/\s.2.2.1.length<=s.1/\Jg l=s.2.2.1++Jg (l.drop s.2.1)/\10∉(l.drop s.2.1).take (s.1-s.2.1)/\Own w' w.heap.size 9 1 s.2.2.2.1 s.2.2.1.length s.2.2.2.2 (XH s.2.2.1)) (λs _=>l.length-s.1) (0,0,[],some ⟨w.heap.size,0,none⟩,0) rfl ⟨Qe,Xo _,QB _,QB _,rfl,by simp,Own.empty Qh (QB _)⟩ ?_;rintro⟨i,f,ds,O,oc⟩ w2 ⟨Qg,hi,hf,Yb,KM,Xi,hO⟩;simp only at hi hf Yb KM Xi hO;have Ze:=Qg.size;have ap1:∀(s:List Nat) (wb:World) (tK:Ext w2 wb) (hBb:Blk wb w2.heap.size 9 [.string (Qd s)]),Sl wb 1 (some ⟨w2.heap.size,0,none⟩) 1 1 (XH [s]):=λs wb tK hBb=>Sl.own' (n:=1) hBb rfl (by decide)
 refine Qw (λc1=>?_) (λc1=>?_)
 ·have bN:i<l.length:=by rw[XQ] at c1;simp only at c1;omega
  obtain⟨y,hy⟩:∃y,l[i]? =some y:=⟨_,Xu bN⟩
  refine dE (by rw[XQ];exact bN) (λz hz _=>?_);rw[Ws hl,hy] at hz;cases hz;refine X8 (λc2=>?_) (λc2=>?_)
  ·have nQL:y=10:=by omega
   subst nQL;have hk:(l.drop f)[i-f]? =some 10:=by rw[Gg,show f+(i-f)=i by omega];exact hy
   obtain⟨h1,h2⟩:=kQy Xi hk;refine Qj ((i+1:Nat):Int) (by show((i:Nat):Int)+1=_;omega) (by omega) ?_;refine Xy (v':=.string (Qd ((l.drop f).take (i-f+1)))) ⟨by show(0:Int)<=(f:Int);omega,by show(f:Int)<=((i+1:Nat):Int);omega,by rw[XQ];omega⟩ (by
    rw[KN];show Value.string (Qd ((l.take (i+1)).drop f))=_;rw[fA,show i+1-f=i-f+1 by omega]) ?_
   refine Xg Qa [[Value.string (Qd ((l.drop f).take (i-f+1)))]] rfl rfl rfl rfl rfl ⟨rfl,rfl,⟨⟩⟩ rfl (λcs hh=>by simp only[QO] at hh;subst hh;rfl) rfl (by decide) (by decide) ?_;intro w3 Qi Jr Qu;refine Je (n:=ds.length) Qa rfl rfl rfl rfl rfl (by decide) rfl rfl ⟨_,rfl⟩ rfl rfl (hO.ext Qi) (ap1 _ w3 Qi Qu) (ce _) (by unfold maxLen;omega) (by show(ds.length+1)*16<=_;omega) (by have:=Qi.size;omega) ?_;intro A' c' w4 Zf si DS;refine Qj ((i+1:Nat):Int) (by show((i:Nat):Int)+1=_;omega) (by omega) ?_;refine Qj ((i+1:Nat):Int) (by show((i:Nat):Int)+1=_;omega) (by omega) ?_;refine⟨(i+1,i+1,ds++ [(l.drop f).take (i-f+1)],A',c'),by simp only[Qq];rfl,⟨Zf.ext (Qg.trans Qi) (λk hk=>(hO.rows k hk).1),bN,QB _,by simp;omega,?_,by simp,?_⟩,by show l.length-(i+1)<l.length-i;omega⟩
   ·simp only;rw[KM,HU h2,h1,nM,show f+(i-f+1)=i+1 by omega];simp
   ·simp only;rw[Qq];simpa [XH] using si
  ·refine Qj ((i+1:Nat):Int) (by show((i:Nat):Int)+1=_;omega) (by omega) ?_;refine⟨(i+1,f,ds,O,oc),rfl,⟨Qg,bN,by show f<=i+1;omega,by show ds.length<=i+1;omega,KM,?_,hO⟩,by show l.length-(i+1)<l.length-i;omega⟩;simp only;rw[show i+1-f=(i-f)+1 by omega,VF,Gg,show f+(i-f)=i by omega,hy];simp only[PM,XP,QO,not_or];exact⟨Xi,λe=>c2 (by omega)⟩
 ·have bN:i=l.length:=by rw[XQ] at c1;simp only at c1;omega
  subst bN;rw[ZS (by simp)] at Xi;rw[CG Xi] at KM;refine Qw (λc2=>?_) (λc2=>?_)
  ·have Zq:f<l.length:=by rw[XQ] at c2;simp only at c2;omega
   refine Xy (v':=.string (Qd (l.drop f))) ⟨by show(0:Int)<=(f:Int);omega,by show(f:Int)<=_;rw[XQ];omega,by rw[XQ];omega⟩ (by
    rw[KN,XQ];show Value.string (Qd ((l.take l.length).drop f))=_;rw[ZS (QB _)]) ?_
   refine Xg Qa [[Value.string (Qd (l.drop f))]] rfl rfl rfl rfl rfl ⟨rfl,rfl,⟨⟩⟩ rfl (λcs hh=>by simp only[QO] at hh;subst hh;rfl) rfl (by decide) (by decide) ?_;intro w3 Qi Jr Qu;refine Je (n:=ds.length) Qa rfl rfl rfl rfl rfl (by decide) rfl rfl ⟨_,rfl⟩ rfl rfl (hO.ext Qi) (ap1 _ w3 Qi Qu) (ce _) (by unfold maxLen;omega) (by show(ds.length+1)*16<=_;omega) (by have:=Qi.size;omega) ?_;intro A' c' w4 Zf si DS;have e:bf l=ds++ [l.drop f]:=by
    unfold bf;rw[KM,if_neg];rw[List.getLast?_concat];intro hh;have:=QC List.length (Option.some.inj hh);simp at this;omega
   refine⟨A',c',by rw[e,Qq];rfl,Zf.ext (Qg.trans Qi) (λk hk=>(hO.rows k hk).1),?_⟩;rw[e,Qq];simpa [XH] using si
  ·have Zq:l.drop f=[]:=nR (by rw[XQ] at c2;simp only at c2;omega);have e:bf l=ds:=by unfold bf;rw[KM,Zq,Qf (by simp)];simp
   exact⟨O,oc,by rw[e],Qg,by rw[e];exact hO⟩
namespace Nt
def val:List Nat->Nat
 | []=>0
 | x::l=>x+4294967296*val l
def Limbs (l:List Nat):Prop:=∀x∈l,x<4294967296
def oW:Nat->Nat->List Nat
 | 0,_=>[]
 | f+1,n=>if n=0 then [] else(n % 4294967296)::oW f (n/4294967296)
def Kh (n:Nat):List Nat:=oW n n
theorem kQz:∀(f g n:Nat),n<=f->n<=g->oW f n=oW g n:=by
 intro f;induction f with
 | zero=>
      intro g n h1 _;have:n=0:=by omega
      subst this;cases g<;>simp[oW]
 | succ f ih=>
  intro g n h1 h2;by_cases h0:n=0
  ·subst h0;cases g<;>simp[oW]
  ·cases g with
   | zero=>omega
   | succ g=>
    simp only[oW,if_neg h0];rw[ih g (n/4294967296) (by omega) (by omega)]
theorem yE:Kh 0=[]:=rfl
theorem yF {n:Nat}(h:0<n):Kh n=(n % 4294967296)::Kh (n/4294967296):=by
 unfold Kh;cases n with
 | zero=>omega
 | succ n=>
  rw[oW,if_neg (by omega)];rw[kQz n ((n+1)/4294967296) _ (by omega) (QB _)]
theorem Dh:Limbs []:=λx h=>by cases h
theorem rV {x:Nat}{l:List Nat}:Limbs (x::l)↔x<4294967296/\Limbs l:=by
 unfold Limbs;simp
theorem kQA {l m:List Nat}:Limbs (l++m)↔Limbs l/\Limbs m:=by
 unfold Limbs;constructor
 ·exactλh=>⟨λx hx=>h x (by simp[hx]),λx hx=>h x (by simp[hx])⟩
 ·intro h x hx;rcases XP.1 hx with h1 | h1
  ·exact h.1 x h1
  ·exact h.2 x h1
theorem Limbs.get {l:List Nat}(h:Limbs l){j x:Nat}(hx:l[j]? =some x):x<4294967296:=h x (Xl hx)
theorem Limbs.take {l:List Nat}(h:Limbs l)(n:Nat):Limbs (l.take n):=λx hx=>h x (Wn hx)
theorem aQx (l m:List Nat):val (l++m)=val l+4294967296^l.length*val m:=by
 induction l with
 | nil=>simp[val]
 | cons x l ih=>simp only[Jo,val,ih,Q2,nQ];grind
theorem IC (l:List Nat)(x:Nat):val (l++ [x])=val l+4294967296^l.length*x:=by
 rw[aQx];simp[val]
theorem aQy {l:List Nat}(h:Limbs l):val l<4294967296^l.length:=by
 induction l with
 | nil=>simp[val]
 | cons x l ih=>
  have h1:=(rV.1 h).1;have h2:=ih (rV.1 h).2;simp only[val,Q2,nQ];omega
theorem aQz {l:List Nat}{i x:Nat}(h:l[i]? =some x):val (l.take (i+1))=val (l.take i)+4294967296^i*x:=by
 have hi:i<l.length:=(Jd.1 h).1;rw[VF,h,PM,IC,Kx,nN (Nat.le_of_lt hi)]
theorem rW (n:Nat):val (Kh n)=n:=by
 induction n using Nat.strongRecOn with
 | _ n ih=>
  by_cases h:n=0
  ·subst h;rfl
  ·rw[yF (by omega),val,ih _ (by omega)];omega
theorem Di (n:Nat):Limbs (Kh n):=by
 induction n using Nat.strongRecOn with
 | _ n ih=>
  by_cases h:n=0
  ·subst h;exact Dh
  ·rw[yF (by omega),rV];exact⟨bP _ (by omega),ih _ (by omega)⟩
theorem kQB (n:Nat):(Kh n).getLast? ≠some 0:=by
 induction n using Nat.strongRecOn with
 | _ n ih=>
  by_cases h:n=0
  ·subst h;simp[yE]
  ·rw[yF (by omega)];by_cases h1:n/4294967296=0
   ·rw[h1,yE];simp;omega
   ·have:=ih (n/4294967296) (by omega);cases hl:Kh (n/4294967296)with
    | nil=>have:=rW (n/4294967296);rw[hl] at this;simp[val] at this;omega
    | cons y m=>rw[hl] at this;rw[List.getLast?_cons_cons];exact this
theorem kQC {l:List Nat}(h:Limbs l)(hz:l.getLast? ≠some 0):Kh (val l)=l:=by
 induction l with
 | nil=>rfl
 | cons x l ih=>
  obtain⟨hx,hl⟩:=rV.1 h;have aH:l.getLast? ≠some 0:=by
   cases l with
   | nil=>simp
   | cons y m=>rwa [List.getLast?_cons_cons] at hz
  have ih':=ih hl aH;have aL:0<x+4294967296*val l:=by
   rcases Nat.eq_zero_or_pos x with h0 | h0
   ·subst h0;cases l with
    | nil=>simp at hz
    | cons y m=>
     rcases Nat.eq_zero_or_pos (val (y::m))with h1 | h1
     ·rw[h1,yE] at ih';cases ih'
     ·omega
   ·omega
  rw[val,yF aL];have e1:(x+4294967296*val l) % 4294967296=x:=by omega
  have e2:(x+4294967296*val l)/4294967296=val l:=by omega
  rw[e1,e2,ih']
theorem ID (n k:Nat):(Kh n).length<=k↔n<4294967296^k:=by
 constructor
 ·intro h;have:=aQy (Di n);rw[rW] at this;exact Yq this (aT (by omega) h)
 ·intro h;induction k generalizing n with
  | zero=>simp at h;subst h;simp[yE]
  | succ k ih=>
   by_cases h0:n=0
   ·subst h0;simp[yE]
   ·rw[yF (by omega),Q2];have:n/4294967296<4294967296^k:=by
     rw[nQ] at h;exact Nat.div_lt_of_lt_mul (by omega)
    have:=ih _ this;omega
def Vd (l:List Nat):Prop:=l.length<=1024/\l.getLast? ≠some 0
instance (l:List Nat):Decidable (Vd l):=by unfold Vd;infer_instance
theorem vr {n:Nat}(h:n<4294967296^1024):Vd (Kh n):=⟨(ID n 1024).2 h,kQB n⟩
def fa (n:Nat):List Nat:=if(Kh n).length<=1024 then Kh n else []
def rX (n:Nat):Int:=if(Kh n).length<=1024 then 0 else 2
theorem kQD {l:List Nat}{n:Nat}(h:∀x∈l.drop n,x=0):val (l.take n)=val l:=by
 have h1:val l=val (l.take n++l.drop n):=by rw[aQ]
 rw[h1,aQx];have:∀m:List Nat,(∀x∈m,x=0)->val m=0:=by
  intro m;induction m with
  | nil=>intro _;rfl
  | cons x m ih=>intro h;rw[val,h x (by simp),ih (λy hy=>h y (by simp[hy]))]
 rw[this _ h];simp
theorem kQE {l:List Nat}(hl:Limbs l){n:Nat}(h:∀x∈l.drop n,x=0)(hn:n=0∨∃x,l[n-1]? =some x/\x≠0):l.take n=Kh (val l):=by
 rw[<-kQD h,kQC (hl.take n)];rcases hn with rfl | ⟨x,hx,h0⟩
 ·simp
 ·have Xa:n-1<l.length:=(Jd.1 hx).1;rcases Nat.eq_zero_or_pos n with rfl | hp
  ·simp
  ·rw[tW,Kx,nN (by omega),F5,Qf (by omega),hx];simpa using h0
theorem kQF {l:List Nat}(h:Limbs l)(i:Nat):val (l.take i)<4294967296^i:=
 Yq (aQy (h.take i)) (aT (by omega) (by rw[Kx];omega))
theorem pQp (l:List Nat)(i:Nat):val (l.drop i)=l[i]?.getD 0+4294967296*val (l.drop (i+1)):=by
 rcases Nat.lt_or_ge i l.length with h | h
 ·rw[am h,val];simp[h]
 ·rw[tU h,tU (by omega)];simp[val,h]
theorem aQA (l:List Nat)(i:Nat):val (l.take (i+1))=val (l.take i)+4294967296^i*l[i]?.getD 0:=by
 rcases Nat.lt_or_ge i l.length with h | h
 ·rw[aQz (Xu h)];simp[h]
 ·rw[ZS h,ZS (by omega)];simp[h]
theorem kQG {l:List Nat}(h:Limbs l)(i:Nat):l[i]?.getD 0<4294967296:=by
 cases hi:l[i]? with
 | none=>simp
 | some x=>simpa using h.get hi
theorem kQH {p:List Nat}{i c:Nat}{a b:List Nat}(hp:p.length=i)(h:val p+c*4294967296^i=val (a.take i)+val (b.take i)){s:Nat}(hs:s=c+a[i]?.getD 0+b[i]?.getD 0):
  val (p++ [s % 4294967296])+s/4294967296*4294967296^(i+1)=val (a.take (i+1))+val (b.take (i+1)):=by
 rw[IC,hp,aQA,aQA,nQ];have hd:s % 4294967296+4294967296*(s/4294967296)=s:=Nat.mod_add_div s 4294967296;generalize 4294967296^i=P at*;generalize s % 4294967296=r at*;generalize s/4294967296=q at*
 grind
theorem aQB {p:List Nat}(hp:Limbs p)(s:Nat):Limbs (p++ [s % 4294967296]):=kQA.2 ⟨hp,rV.2 ⟨bP _ (by omega),Dh⟩⟩
theorem kQI {α:Type}(p:List α)(x y:α)(r:List α):(p++x::r).set p.length y=p++y::r:=by
 induction p with
 | nil=>rfl
 | cons z p ih=>simp[ih]
theorem aQC {α:Type}(p:List α)(x y:α)(r:List α){i:Nat}(hi:p.length=i):(p++x::r).set i y=(p++ [y])++r:=by
 subst hi;rw[kQI];simp
theorem kQJ {α:Type}(p:List α)(x:α)(r:List α){i:Nat}(hi:p.length=i):(p++x::r)[i]? =some x:=by
 subst hi;simp
end Nt
namespace Nt
def cells (l:List Nat):List Value:=l.map λ(x:Nat)=>.int .u32 x
theorem Dj {l:List Nat}{j:Nat}{u:Value}(h:(cells l)[j]? =some u):∃x,l[j]? =some x/\u= .int .u32 (x:Int):=by
 simp only[cells,aR,F7] at h;obtain⟨x,hx,rfl⟩:=h;exact⟨x,hx,rfl⟩
theorem kQK {l:List Nat}{j x:Nat}(h:l[j]? =some x):(cells l)[j]? =some (.int .u32 (x:Int)):=by
 simp[cells,h]
theorem kQL (l m:List Nat):cells (l++m)=cells l++cells m:=by simp[cells]
theorem kQM (l:List Nat)(n:Nat):cells (l.take n)=(cells l).take n:=by simp[cells]
theorem aQD (l:List Nat)(i x:Nat):cells (l.set i x)=(cells l).set i (.int .u32 (x:Int)):=by simp[cells,List.map_set]
theorem kQN (l:List Nat):∀u∈cells l,JS u=true:=by
 intro u hu;simp only[cells,Zk] at hu;obtain⟨x,_,rfl⟩:=hu;rfl
abbrev SN (w:World)(A:Option Addr)(n c:Nat)(l:List Nat):Prop:=Sl w 1 A n c (cells l)
theorem SN.length {w:World}{A:Option Addr}{n c:Nat}{l:List Nat}(h:SN w A n c l):l.length=n:=by have:=h.len;simpa [cells] using this
theorem SN.bd {w:World}{A:Option Addr}{n c:Nat}{l:List Nat}(h:SN w A n c l):n<=c/\(c:Int)<=9223372036854775807:=by
 have h1:=h.le;have h2:=h.cap;unfold maxLen at h2;omega
theorem kQO (l:List Nat):decide (Vd l)=(decide (l.length<=1024)&&(decide (l.length=0)||(l.getLast? !=some 0))):=by
 unfold Vd;cases l with
 | nil=>simp
 | cons x l=>rw[qE];simp
theorem IE (A:Option Addr)(n c:Nat)(l:List Nat)(w:World)(h:SN w A n c l):
  Fn Tryz.prog 139 [.slice A n c] w (λv w'=>v= .bool (decide (Vd l))/\w'=w):=by
 have hl:=h.length;have hb:=h.bd;refine QJ (c:=eQ2) Qa Tryz.func139 rfl rfl rfl ?_;rw[kQO];refine Qw (λh1=>?_) (λh1=>?_)
 ·refine X8 (λh2=>?_) (λh2=>?_)
  ·refine And.intro ?_ rfl;have:l=[]:=WO (by omega);subst this;simp
  ·refine Qj ((n-1:Nat):Int) (by omega) (by omega) ?_;refine KF h (by omega) (λad u hA hu Xq=>?_);obtain⟨x,hx,rfl⟩:=Dj hu;refine load Xq ?_;refine And.intro ?_ rfl;have qj:l.getLast? =some x:=by rw[tW];rw[hl];exact hx
   congr 1;rw[qj,Zx (by omega:l.length<=1024),Zr (by omega:¬l.length=0)];show((x:Int) !=0)=_;rw[qE];simp
 ·refine And.intro ?_ rfl;rw[Zr (by omega:¬l.length<=1024)]<;>rfl
theorem kQP {l:List Nat}{k:Nat}(hk:0<k)(h:∀x∈l.drop k,x=0)(h0:l[k-1]? =some 0):∀x∈l.drop (k-1),x=0:=by
 have Xa:k-1<l.length:=(Jd.1 h0).1;rw[am Xa];intro x hx;rcases QY.1 hx with rfl | hx
 ·simpa [Xu Xa] using h0
 ·rw[show k-1+1=k by omega] at hx;exact h x hx
theorem kQQ (A:Option Addr)(n c:Nat)(l:List Nat)(w:World)(h:SN w A n c l)(hL:Limbs l):
  Fn Tryz.prog 195 [.slice A n c] w (λv w'=>∃A' c',v= .tuple #[.slice A' (fa (val l)).length c',.int .i64 (rX (val l))]/\SN w A' (fa (val l)).length c' (fa (val l))/\(A'=A∨A'=none)/\w'=w):=by
 have hl:=h.length;have hb:=h.bd;refine QJ (c:=fQB) Qa Tryz.func195 rfl rfl rfl ?_;refine loop Qa [4] (λk:Nat=>[.int .i64 k]) (λk w'=>w'=w/\k<=n/\∀x∈l.drop k,x=0) (λk _=>k) n rfl ⟨rfl,QB n,by rw[<-hl];simp⟩ ?_;intro k w' hI;obtain⟨rfl,Xk,hz⟩:=hI;have done:(k=0∨∃x,l[k-1]? =some x/\x≠0)->∃A' c',(if k<=1024 then Value.tuple #[.slice A k c,.int .i64 0] else .tuple #[.slice none 0 0,.int .i64 2])= .tuple #[.slice A' (fa (val l)).length c',.int .i64 (rX (val l))]/\SN w' A' (fa (val l)).length c' (fa (val l))/\(A'=A∨A'=none)/\w'=w':=by
  intro qj;have hs:=kQE hL hz qj;have QZ:(Kh (val l)).length=k:=by rw[<-hs,Kx];omega
  unfold fa rX;rw[QZ];split
  ·refine⟨A,c,by rw[QZ],?_,.inl rfl,rfl⟩;rw[QZ];have:=h.take Xk
   rwa [Wm,<-kQM,hs] at this
  ·exact⟨none,0,rfl,Sl.nil w' 1,.inr rfl,rfl⟩
 refine Qw (λh1=>?_) (λh1=>?_)
 ·refine Qj ((k-1:Nat):Int) (by omega) (by omega) ?_;refine KF h (by omega) (λad u hA hu Xq=>?_);obtain⟨x,hx,rfl⟩:=Dj hu;refine load Xq ?_;refine X8 (λh2=>?_) (λh2=>?_)
  ·refine Qj ((k-1:Nat):Int) (by omega) (by omega) ?_;refine⟨k-1,rfl,⟨rfl,by omega,?_⟩,by show k-1<k;omega⟩;have:x=0:=by omega
   subst this;exact kQP (by omega) hz hx
  ·have hd:=done (.inr ⟨x,hx,by omega⟩);refine Qw (λh3=>?_) (λh3=>?_)
   ·rw[if_neg (by omega)] at hd;exact hd
   ·refine kh Qa rfl rfl rfl rfl rfl rfl (by omega) ?_;rw[Qf (by omega)] at hd;exact hd
 ·have hd:=done (.inl (by omega));refine Qw (λh3=>?_) (λh3=>?_)
  ·omega
  ·refine kh Qa rfl rfl rfl rfl rfl rfl (by omega) ?_;rw[Qf (by omega)] at hd;exact hd
theorem aQE (A:Option Addr)(n c:Nat)(l:List Nat)(w:World)(h:SN w A n c l)(hL:Limbs l):
  Fn Tryz.prog 195 [.slice A n c] w (λv w'=>∃A' c',v= .tuple #[.slice A' (fa (val l)).length c',.int .i64 (rX (val l))]/\SN w A' (fa (val l)).length c' (fa (val l))/\w'=w):=
 (kQQ A n c l w h hL).mono λ_ _ ⟨A',c',h1,h2,_,h4⟩=>⟨A',c',h1,h2,h4⟩
end Nt
namespace Nt
theorem IF {n:Nat}(h:(Kh n).length<=1024):fa n=Kh n:=Qf h
theorem kQR {n:Nat}(h:(Kh n).length<=1024):rX n=0:=Qf h
theorem kQS (N:Nat)(h:N<18446744073709551616):val [N % 4294967296,N/4294967296 % 4294967296]=N:=by
 simp[val];omega
theorem of_fn (N:Nat)(w:World)(hN:N<18446744073709551616):
  Fn Tryz.prog 135 [.int .u64 N] w (λv w'=>∃A c,v= .slice A (Kh N).length c/\SN w' A (Kh N).length c (Kh N)/\Ext w w'):=by
 refine QJ (c:=eQY) Qa Tryz.func135 rfl rfl rfl ?_;refine BT ?_;refine xw 32 4294967296 (by decide) rfl rfl ?_;refine BT ?_;refine um Qa rfl rfl rfl rfl rfl rfl rfl rfl rfl rfl ?_;intro w1 hE XQ hB;have hs:SN w1 (some ⟨w.heap.size,0,none⟩) 2 2 [N % 4294967296,N/4294967296 % 4294967296]:=Sl.own' hB rfl (by simp[maxLen]);have hL:Limbs [N % 4294967296,N/4294967296 % 4294967296]:=rV.2 ⟨bP _ (by omega),rV.2 ⟨bP _ (by omega),Dh⟩⟩;refine call (aQE _ _ _ _ _ hs hL) ?_;rintro v w' ⟨A',c',rfl,wS,rfl⟩;rw[kQS N hN] at wS ⊢;have hr:fa N=Kh N:=IF (by have:=(ID N 2).2 (by omega);omega);rw[hr] at wS ⊢;exact⟨A',c',rfl,wS,hE⟩
end Nt
namespace Nt
def IG (a b:List Nat)(n:Nat):List Nat:=if Vd a/\Vd b then fa n else []
def IH (a b:List Nat)(n:Nat):Int:=if Vd a/\Vd b then rX n else 1
theorem aQF {a b:List Nat}{n:Nat}(h:¬(Vd a/\Vd b)):IG a b n=[]:=if_neg h
theorem aQG {a b:List Nat}{n:Nat}(h:¬(Vd a/\Vd b)):IH a b n=1:=if_neg h
theorem II {a b:List Nat}{n:Nat}(ha:Vd a)(hb:Vd b):IG a b n=fa n:=Qf ⟨ha,hb⟩
theorem aQH {a b:List Nat}{n:Nat}(ha:Vd a)(hb:Vd b):IH a b n=rX n:=Qf ⟨ha,hb⟩
def aQI (w:World)(l:List Nat)(e:Int)(v:Value)(w':World):Prop:=
 ∃A c,v= .tuple #[.slice A l.length c,.int .i64 e]/\SN w' A l.length c l/\Ext w w'
theorem aQJ (w w':World)(e:Int)(h:Ext w w'):aQI w [] e (.tuple #[.slice none 0 0,.int .i64 e]) w':=⟨none,0,rfl,Sl.nil _ 1,h⟩
theorem add_fn (A B:Option Addr)(n c m d:Nat)(a b:List Nat)(w:World)(ha:SN w A n c a)(hb:SN w B m d b)(O5:Limbs a)(wQ:Limbs b):
  Fn Tryz.prog 138 [.slice A n c,.slice B m d] w (aQI w (IG a b (val a+val b)) (IH a b (val a+val b))):=by
 refine QJ (c:={eQ1 with cuts:=[3,12]}) Qa Tryz.func138 rfl rfl rfl ?_;refine call (IE _ _ _ _ _ ha) ?_;rintro v w' ⟨rfl,rfl⟩;refine kg (Qw (λlm=>?_) (λlm=>?_))
 case refine_2=>rw[aQF (λh=>lm h.1),aQG (λh=>lm h.1)];exact aQJ _ _ _ (Ext.refl _)
 refine call (IE _ _ _ _ _ hb) ?_;rintro v w' ⟨rfl,rfl⟩;refine kg (Qw (λiJ=>?_) (λiJ=>?_))
 case refine_2=>rw[aQF (λh=>iJ h.2),aQG (λh=>iJ h.2)];exact aQJ _ _ _ (Ext.refl _)
 rw[II lm iJ,aQH lm iJ];refine Rn Qa [0,1] (λs:(Option Addr×Nat×Nat×List Nat)×(Option Addr×Nat×Nat×List Nat)=>[.slice s.1.1 s.1.2.1 s.1.2.2.1,.slice s.2.1 s.2.2.1 s.2.2.2.1])
  (λs w2=>w2=w'/\SN w' s.1.1 s.1.2.1 s.1.2.2.1 s.1.2.2.2/\SN w' s.2.1 s.2.2.1 s.2.2.2.1 s.2.2.2.2/\Limbs s.1.2.2.2/\Limbs s.2.2.2.2/\s.2.2.1<=s.1.2.1/\s.1.2.1<=1024/\val a+val b=val s.1.2.2.2+val s.2.2.2.2) ?_ ?_
 ·have hla:=ha.length;have wI:=hb.length;have h1:=lm.1;have h2:=iJ.1;refine Qw (λh=>?_) (λh=>?_)
  ·exact⟨((B,m,d,b),(A,n,c,a)),rfl,rfl,hb,ha,wQ,O5,by show n<=m;omega,by show m<=1024;omega,Bj _ _⟩
  ·exact⟨((A,n,c,a),(B,m,d,b)),rfl,rfl,ha,hb,O5,wQ,by show m<=n;omega,by show n<=1024;omega,rfl⟩
 rintro⟨⟨A,n,c,x⟩,⟨B,m,d,y⟩⟩ w2 ⟨rfl,hx,hy,qu,O6,Fk,hn,hval⟩
 dsimp only at hx hy qu O6 Fk hn hval ⊢
 rw[hval];clear hval lm iJ ha hb O5 wQ;have hlx:=hx.length;have hly:=hy.length;refine Qj ((n+1:Nat):Int) (by omega) (by omega) ?_;refine BU Qa rfl rfl rfl rfl rfl rfl rfl rfl (by show 4*_<=_;omega) (by unfold maxLen;omega) ?_;intro w3 Qi pQV Qu;refine eQm Qa rfl rfl rfl rfl rfl rfl rfl Qu (hx.ext Qi) (by omega) (by simp) (kQN x) ?_;intro w4 nQM pQW QR;have Qs:Ext w2 w4:=Qi.own nQM (QB _);have LT:Blk w4 w2.heap.size 219 (cells (x++ [0])):=by
  have e:cells x++(List.replicate (n+1) (Value.int .u32 0)).drop n=cells (x++ [0]):=by
   rw[kQL,List.drop_replicate,show n+1-n=1 by omega]<;>rfl
  rw[<-e];exact QR
 refine loop Qa [33,7] (λs:Nat×Nat=>[.int .i64 s.1,.int .u64 s.2]) (λs w5=>Ext w2 w5/\s.1<=n/\s.2<2/\∃p,p.length=s.1/\Limbs p/\Blk w5 w2.heap.size 219 (cells (p++(x.drop s.1++ [0])))/\val p+s.2*4294967296^s.1=val (x.take s.1)+val (y.take s.1))
  (λs _=>n-s.1) (0,0) rfl ⟨Qs,Xo _,by decide,[],rfl,Dh,by simpa using LT,by simp[val]⟩ ?_
 rintro⟨i,k⟩ w5 ⟨Qx,hi,hk,p,hp,hLp,QD,hv⟩
 dsimp only at hi hk hp QD hv ⊢
 refine Qw (λh2=>?_) (λh2=>?_)
 ·have aj:x[i]? =some x[i]:=Xu (by omega);have AR:x.drop i=x[i]::x.drop (i+1):=am (by omega);have iA:=qu.get aj;rw[AR,Jo] at QD;refine index (by omega) ?_;refine Qo QD (kQK (kQJ p _ _ hp)) ?_;refine BR (by omega) ?_;refine GG ((k+x[i]:Nat):Int) (by omega) (by omega) ?_;refine Rn Qa [7] (λs:Nat=>[.int .u64 s]) (λs w6=>w6=w5/\s=k+x[i]?.getD 0+y[i]?.getD 0) ?_ ?_
  ·refine Qw (λh3=>?_) (λh3=>?_)
   ·refine KF (hy.ext Qx) (by omega) (λad u hA hu Xq=>?_);obtain⟨z,hz,rfl⟩:=Dj hu;have tE:=O6.get hz;refine load Xq ?_;refine BR (by omega) ?_;refine GG ((k+x[i]+z:Nat):Int) (by omega) (by omega) ?_;exact⟨k+x[i]+z,rfl,rfl,by rw[hz,aj];rfl⟩
   ·exact⟨k+x[i],rfl,rfl,by rw[aj,qG (by omega)];rfl⟩
  rintro s w6 ⟨rfl,hs⟩;have hyl:=kQG O6 i;have hsb:s<2*4294967296:=by rw[aj,gJ] at hs;omega
  refine BT ?_;refine index (by omega) ?_;refine xx QD (by simp[cells];omega) ?_;intro w7 Nq Q3;refine xw 32 4294967296 (by decide) rfl rfl ?_;refine Qj ((i+1:Nat):Int) (by omega) (by omega) ?_;refine⟨(i+1,s/4294967296),rfl,⟨Qx.own Nq (QB _),by show i+1<=n;omega,by show s/4294967296<2;omega,p++ [s % 4294967296],by simp[hp],aQB hLp s,?_,kQH hp hv hs⟩,by show n-(i+1)<n-i;omega⟩;rw[<-aQD,aQC _ _ _ _ hp] at Q3;exact Q3
 ·have:i=n:=by omega
  subst this;rw[tU (by omega),bO] at QD;rw[ZS (by omega),ZS (by omega)] at hv;refine BT ?_;refine index (by omega) ?_;refine xx QD (by simp[cells];omega) ?_;intro w7 Nq Q3;rw[<-aQD,aQC _ _ _ _ hp,KE] at Q3;have hs:SN w7 (some ⟨w2.heap.size,0,none⟩) (i+1) (i+1) (p++ [k % 4294967296]):=Sl.own' Q3 (by simp[cells,hp]) (by unfold maxLen;omega);refine call (aQE _ _ _ _ _ hs (aQB hLp k)) ?_;rintro v w8 ⟨A',c',rfl,wS,rfl⟩;have e:val (p++ [k % 4294967296])=val x+val y:=by
   rw[IC,hp,jY (by omega),xe];exact hv
  rw[e] at wS ⊢;exact⟨A',c',rfl,wS,Qx.own Nq (QB _)⟩
end Nt
namespace Nt
def mB (l:List Nat):Bool:=decide (Vd l)&&decide (l.length<=2)
def vt (l:List Nat):Nat:=if mB l=true then val l else 0
theorem aQK {l:List Nat}(h:¬(Vd l/\l.length<=2)):vt l=0/\mB l=false:=by
 have hb:mB l=false:=by unfold mB;rw[fC];simpa using h
 exact⟨by unfold vt;rw[hb];rfl,hb⟩
theorem aQL {l:List Nat}(h1:Vd l)(h2:l.length<=2):vt l=val l/\mB l=true:=by
 have hb:mB l=true:=by unfold mB;simp[h1,h2]
 exact⟨by unfold vt;rw[hb];rfl,hb⟩
theorem aQM {x n d:Nat}{y:Int}{K:Int->Prop}(hy:0<=y)(hn:min y.toNat 64=n)(hd:2^n=d)(hx:x*d<=18446744073709551615)(k:K ((x*d:Nat):Int)):gM (0<=y) (IntKind.u64.wrap ((x:Int)*2^(min y.toNat IntKind.u64.bits))) K:=by
 refine normIf hy ?_ k;rw[show min y.toNat IntKind.u64.bits=n from hn];have e:(x:Int)*2^n=((x*d:Nat):Int):=by rw[<-hd];norm_cast
 rw[e];exact IntWalk.u64_in _ (by omega)
theorem kQT {a x:Nat}(ha:a<4294967296):a ||| (x*4294967296)=a+4294967296*x:=by
 have:=Nat.shiftLeft_add_eq_or_of_lt (b:=a) (i:=32) (by omega) x;rw[Nat.shiftLeft_eq,show(2:Nat)^32=4294967296 from rfl] at this;rw[Nat.or_comm];omega
theorem kQU (A:Option Addr)(n c:Nat)(l:List Nat)(w:World)(h:SN w A n c l)(hL:Limbs l):
  Fn Tryz.prog 88 [.slice A n c] w (λv w'=>v= .tuple #[.int .u64 (vt l),.bool (mB l)]/\w'=w):=by
 have hl:=h.length;refine QJ (c:=c88) Qa Tryz.func88 rfl rfl rfl ?_;refine call (IE _ _ _ _ _ h) ?_;rintro v w' ⟨rfl,rfl⟩;refine kg (Qw (λhv=>?_) (λhv=>?_))
 ·refine Qw (λh2=>?_) (λh2=>?_)
  ·obtain⟨e1,e2⟩:=aQK (l:=l) (λk=>by omega);rw[e1,e2];exact And.intro rfl rfl
  ·obtain⟨e1,e2⟩:=aQL hv (by omega);rw[e1,e2];refine loop Qa [16,4] (λs:Nat=>[.int .i64 s,.int .u64 (val (l.take s):Nat)]) (λs w2=>w2=w'/\s<=n) (λs _=>n-s) 0 rfl ⟨rfl,Xo _⟩ ?_;rintro k w2 ⟨rfl,hk⟩
   dsimp only
   refine Qw (λh3=>?_) (λh3=>?_)
   ·refine KF h (by omega) (λad u hA hu Xq=>?_);obtain⟨x,hx,rfl⟩:=Dj hu;have iA:=hL.get hx;refine load Xq ?_;refine BR (by omega) ?_;have FN:=aQz hx;have Xa:=kQF hL k;rcases(by omega:k=0∨k=1)with rfl | rfl
    ·refine Qj 0 (by omega) (by omega) ?_;refine aQM (n:=0) (d:=1) (by decide) (by decide) (by decide) (by omega) ?_;rw[Wm];have e0:val (l.take 0)=0:=by simp[val]
     rw[e0];refine Rq (s:=x) (Nat.zero_or x) (by omega) (by omega) ?_;refine Qj ((1:Nat):Int) (by omega) (by omega) ?_;have di:val (l.take 1)=x:=by have h9:=FN;rw[e0] at h9;simpa using h9
     refine⟨1,?_,⟨rfl,by omega⟩,by show n-1<n-0;omega⟩
     dsimp only
     rw[di]<;>rfl
    ·refine Qj 32 (by omega) (by omega) ?_;refine aQM (n:=32) (d:=4294967296) (by decide) (by decide) (by decide) (by omega) ?_;refine Rq (kQT (by omega)) (by omega) (by omega) ?_;refine Qj ((2:Nat):Int) (by omega) (by omega) ?_;have mI:val (l.take 2)=val (l.take 1)+4294967296*x:=by have h9:=FN;simpa using h9
     refine⟨2,?_,⟨rfl,by omega⟩,by show n-2<n-1;omega⟩
     dsimp only
     rw[mI]<;>rfl
   ·rw[ZS (by omega)];exact And.intro rfl rfl
 ·obtain⟨e1,e2⟩:=aQK (l:=l) (λk=>hv k.1);rw[e1,e2];exact And.intro rfl rfl
theorem u8_of {a:Int}(h:(Lit.int .u8 a).wf=true):∃N:Nat,a=(N:Int)/\N<256:=by
 simp[Lit.wf,IntKind.min,IntKind.max,IntKind.signed,IntKind.bits] at h;exact⟨a.toNat,by omega,by omega⟩
end Nt
def NumIn (w:World)(b:Nat)(v:Value):Prop:=∃A m c N,v= .slice A m c/\Nt.SN w A m c (Nt.Kh N)/\N<=b
theorem NumIn.ext {w w':World}{b:Nat}{v:Value}(h:NumIn w b v)(k:Ext w w'):NumIn w' b v:=by
 obtain⟨A,m,c,N,h1,h2,h3⟩:=h;exact⟨A,m,c,N,h1,h2.ext k,h3⟩
theorem NumIn.mod {w w':World}{b g t:Nat}{v:Value}{cs:List Value}(h:NumIn w b v)(hB:Blk w g t cs)(XN:∀u∈cs,∃A m c,u= .slice A m c)(hm:Mod (·=g) w w'):NumIn w' b v:=by
 obtain⟨A,m,c,N,h1,h2,h3⟩:=h;refine⟨A,m,c,N,h1,h2.modS hm (λh0 i hi e=>?_),h3⟩;subst e;obtain⟨ad,rfl,hc⟩:=h2.at_ h0;obtain⟨ad',ea',hb⟩:=hi;cases ea';have QZ:=h2.length;obtain⟨x,hx⟩:∃x,(Nt.Kh N)[0]? =some x:=⟨_,Xu (by omega)⟩
 have Xq:=hc 0 _ (show(Nt.cells (Nt.Kh N))[0]? =some (.int .u32 x) by unfold Nt.cells;rw[aR,hx];rfl);unfold World.cell? at Xq;rw[og,hb,show w.heap[i]? =_ from hB] at Xq;simp only at Xq;split at Xq
 ·cases Xq
 ·rw[F8] at Xq;obtain⟨_,_,_,hs⟩:=XN _ (Xl Xq);cases hs
def fc (n:Nat)(nd:List Br)(x:Nat):Nat:=min n (Ql nd x).toNat
theorem kQV (x:DV)(n nb ab m:Nat)(w:World)(hN:Blk w nb 3 [.int .i64 n])(hA:Blk w ab 32 x.cells)(hx:SB w x.A x.n x.c x.nd)(hm:m<x.n+2)(h0:0<=Ql x.nd m):
  Fn Tryz.prog 136 [.int .i64 m,.pointer (some ⟨nb,0,none⟩),.pointer (some ⟨ab,0,none⟩)] w (λu w'=>u= .int .i64 (fc n x.nd m)/\Ext w w'):=by
 refine QJ (c:={eQZ with cuts:=[]}) Qa Tryz.func136 rfl rfl rfl ?_;have hd:=Ext.drew w;refine XR Qa (Ext w) 6 [(true,0),(true,1),(true,2),(false,3),(true,4),(true,5)] (by kernel_rfl) hd ?_;refine QN (v:=.int .i64 n) (λw' Qb=>by rw[(hN.ext Qb).cell0];rfl) ?_;refine Xv (vs:=x.cells) rfl (λw' Qb j u hj=>by rw[(hA.ext Qb).cell];exact hj) ?_;refine call (eQ x.A x.n x.c x.r m x.nd w.drew (hx.ext hd) (by omega)) ?_;rintro _ w2 ⟨rfl,Qg⟩;refine⟨hd.trans Qg,?_⟩;refine norm (m:=(fc n x.nd m:Int)) (by unfold fc;split<;>omega) ?_;exact⟨rfl,hd.trans Qg⟩
abbrev kQW (nb ab:Nat):Value:=.func (.func 136) #[] #[.pointer (some ⟨nb,0,none⟩),.pointer (some ⟨ab,0,none⟩)]
structure CtK (w:World) (x:DV) (n nb ab cb pb sb:Nat) (cs:List Value):Prop where
 hN:Blk w nb 3 [.int .i64 n]
 hA:Blk w ab 32 x.cells
 hx:SB w x.A x.n x.c x.nd
 hC:Blk w cb 213 [.slice (some ⟨sb,0,none⟩) (x.n+2) (x.n+2)]
 hP:Blk w pb 215 [kQW nb ab]
 hS:Blk w sb 143 cs
 len:cs.length=x.n+2
 sl:∀u∈cs,∃A m c,u= .slice A m c
 nums:∀(j:Nat) (v:Value),cs[j]? =some v->NumIn w (2^(n-fc n x.nd j)) v
theorem CtK.ext {w w':World}{x:DV}{n nb ab cb pb sb:Nat}{cs:List Value}(h:CtK w x n nb ab cb pb sb cs)(k:Ext w w'):CtK w' x n nb ab cb pb sb cs:=
 ⟨h.hN.ext k,h.hA.ext k,h.hx.ext k,h.hC.ext k,h.hP.ext k,h.hS.ext k,h.len,h.sl,λj v hv=>(h.nums j v hv).ext k⟩
theorem aQN {A B:Option Addr}{m c k d N M b:Nat}(hb:N+M<=b)(hb2:b<=4096)(w:World)(hA:Nt.SN w A m c (Nt.Kh N))(hB:Nt.SN w B k d (Nt.Kh M)):
  Fn Tryz.prog 138 [.slice A m c,.slice B k d] w (λu w'=>∃v,u= .tuple #[v,.int .i64 0]/\NumIn w' b v/\Ext w w'):=by
 have lim:∀x,x<=4096->x<4294967296^1024:=λx hx=>(show ∀k,0<k->x<4294967296^k from λk p=>Yq (show x<4294967296^1 by omega) (aT (by decide) p)) 1024 (by decide)
 have vA:=Nt.vr (lim N (by omega));have vB:=Nt.vr (lim M (by omega));refine(Nt.add_fn A B m c k d _ _ w hA hB (Nt.Di N) (Nt.Di M)).mono ?_;rintro u w' ⟨A',c',hu,hS,hE⟩;rw[Nt.aQH vA vB,Nt.II vA vB,Nt.rW,Nt.rW,Nt.kQR (Nt.vr (lim (N+M) (by omega))).1,Nt.IF (Nt.vr (lim (N+M) (by omega))).1] at hu;rw[Nt.II vA vB,Nt.rW,Nt.rW,Nt.IF (Nt.vr (lim (N+M) (by omega))).1] at hS;subst hu;exact⟨_,rfl,⟨A',_,c',N+M,rfl,hS,hb⟩,hE⟩
theorem IJ {w:World}{x:DV}{n nb ab cb pb sb:Nat}{cs:List Value}(hn:n<=12)(K:CtK w x n nb ab cb pb sb cs)(m f:Nat)(hm:m<x.n+2)(h0:0<=Ql x.nd m)(hf:f<=fc n x.nd m):
  Fn Tryz.prog 137 [.int .i64 m,.int .i64 f,.pointer (some ⟨cb,0,none⟩),.pointer (some ⟨pb,0,none⟩)] w (λu w'=>∃v,u= .tuple #[v,.int .i64 0]/\NumIn w' (2^(n-f)) v/\Ext w w'):=by
 have jQ:fc n x.nd m<=n:=Nat.min_le_left _ _;have hmx:=K.hx.1.cap;have qQA:=K.hx.1.le;refine QJ (c:={eQ0 with cuts:=[]}) Qa Tryz.func137 rfl rfl rfl ?_;refine Qz K.hC rfl ?_;obtain⟨v,hv⟩:∃v,cs[m]? =some v:=⟨_,Xu (by rw[K.len];omega)⟩
 refine index (j:=m) (by omega) ?_;refine Qo K.hS hv ?_;refine Qz K.hP rfl ?_;refine call (kQV x n nb ab m w K.hN K.hA K.hx hm h0) ?_;rintro _ w1 ⟨rfl,Qe⟩;generalize hp:fc n x.nd m=p at*;refine Qj ((p-f:Nat):Int) (by omega) (by omega) ?_;have hN0:=(K.nums m v hv).ext Qe;rw[hp] at hN0;refine loop Qa [8,20] (λs:Value×Nat=>[s.1,.int .i64 s.2]) (λs w'=>Ext w w'/\s.2<=p-f/\NumIn w' (2^(n-p)*2^s.2) s.1) (λs _=>p-f-s.2) (v,0) rfl ⟨Qe,Xo _,by simpa using hN0⟩ ?_;rintro⟨u,i⟩ w2 ⟨Qg,hi,A,mm,c,N,rfl,hS,A0⟩;simp only at hi A0;refine Qw (λc1=>?_) (λc1=>?_)
 ·have O7:i<p-f:=by simp only at c1;omega
  have e2:2^(n-p)*2^(i+1)<=4096:=by
   rw[<-Nat.pow_add];exact X3 (aT (by decide) (show n-p+(i+1)<=12 by omega)) (by decide)
  refine call (aQN (b:=2^(n-p)*2^(i+1)) (by rw[nQ,<-Nat.mul_assoc];omega) e2 w2 hS hS) ?_;rintro _ w3 ⟨u,rfl,O8,Qi⟩;refine WX rfl ?_;refine Qj ((i+1:Nat):Int) (by show((i:Nat):Int)+1=_;omega) (by omega) ?_;exact⟨(u,i+1),rfl,⟨Qg.trans Qi,O7,O8⟩,by show p-f-(i+1)<p-f-i;omega⟩
 ·have O7:i=p-f:=by simp only at c1;omega
  refine⟨_,rfl,⟨A,mm,c,N,rfl,hS,?_⟩,Qg⟩;rw[O7,<-Nat.pow_add,show n-p+(p-f)=n-f by omega] at A0;exact A0
theorem kQX {c:Cx}{o:Oper}{S:Env}{w:World}{K:Env->World->Prop}{Q:Zs}{x y z:Operand}{ts:Array TypeId}{k1 k2 k3:IntKind}(ho:o.op= .call ⟨.builtin .max, #[x,y,z],ts⟩)(hx:S.ev x=some (.int k1 0))(hy:S.ev y=some (.int k2 0))(hz:S.ev z=some (.int k3 0))
  (kk:Xf c S o.dst (.v (.int k1 0)) (λS=>K S w)):Zh c o S w K Q:=by
 refine JT (w':=w) (v:=.int k1 0) (λa hf=>?_) kk;have e1:=hf.ev hx;have e2:=hf.ev hy;have e3:=hf.ev hz;simp[execOp,ho,resolve,invoke,builtin,e1,e2,e3,Builtin.max_,Builtin.max2]
theorem kQY {n:Nat}{nd:List Br}{x:Nat}(h:(x:Int)<2)(hn:n<=12):fc n nd x=n:=by
 unfold fc Ql;rw[Qf h];show min n 64=n;omega
theorem kQZ {n i:Nat}{nd:List Br}{b:Br}(hb:nd[i]? =some b)(h0:0<=b.v)(hv:b.v<n):fc n nd (i+2)=b.v.toNat:=by
 unfold fc Ql;rw[if_neg (by omega),show(((i+2:Nat):Int)-2).toNat=i by omega,hb];simp only[xb,gJ];omega
theorem IK {nd:List Br}{r:Int}(h:VD nd r){x:Int}:0<=Ql nd x:=by
 unfold Ql;split
 ·decide
 ·cases hb:nd[(x-2).toNat]? with
  | none=>simp
  | some b=>simpa using (h.1 _ b hb).1
theorem kQ0 (x:DV)(n:Nat)(hn:n<=12)(w:World)(hx:SB w x.A x.n x.c x.nd)(YI:Kp n x.nd x.r=true):
  Fn Tryz.prog 87 [Xm x.A x.n x.c x.r,.int .i64 n] w (λu w'=>∃v,u= .tuple #[v,.int .i64 0]/\NumIn w' (2^n) v/\Ext w w'):=by
 obtain⟨wT,dQt⟩:=vp.1 YI;have wU:=(fL.1 wT).2;have hl:=hx.2;have cw:=hx.1.cap;have ZF:=hx.1.le;have pQX:=(fL.1 wT).1;simp only[maxLen] at cw;refine QJ (c:={c87 with cuts:=[]}) Qa Tryz.func87 rfl rfl rfl ?_;refine new (λw1 Qe Q6 Qh=>?_);refine new (λw2 Qg Ze Qy=>?_);have QT:=Qe.trans Qg;have zV:=Qh.ext Qg;refine Qt zV rfl ?_;refine call (uG x.A x.n x.c x.nd x.r w2 (hx.ext QT)) ?_;rintro _ w3 ⟨rfl,Qi⟩;have QU:=QT.trans Qi;refine WX wT ?_;have hA3:=zV.ext Qi;have iu:=Qy.ext Qi;refine Qz iu rfl ?_;refine XJ (by omega) ?_;refine Qz iu rfl ?_;refine XJ (by omega) ?_;refine Qo hA3 rfl ?_;refine loop Qa [35] (λi:Nat=>[.int .i64 i]) (λi w'=>Ext w3 w'/\i<=x.n) (λi _=>x.n-i) 0 rfl ⟨Ext.refl _,Xo _⟩ ?_;rintro i w4 ⟨Qs,hi⟩;refine Qw (λc1=>?_) (λc1=>?_)
 ·have Q4:i<x.n:=by omega
  refine Zt W3 ((hx.ext QU).ext Qs) rfl Q4 (λp b hb hc=>?_);refine Jz (vs:=b.cells) rfl hc ?_;refine new (λw5 Qx KI QD=>?_);refine Qv QD rfl (sc rfl) (λw6 WB _ Q7=>?_);have XM:Ext w4 w6:=XT Qx QD WB;have VV:=dQt b (Xl hb);refine Qz Q7 rfl ?_;refine Qz ((iu.ext Qs).ext XM) rfl ?_;refine XJ (by omega) ?_;refine Qj ((i+1:Nat):Int) (by show((i:Nat):Int)+1=_;omega) (by omega) ?_;exact⟨i+1,rfl,⟨Qs.trans XM,Q4⟩,by show x.n-(i+1)<x.n-i;omega⟩
 have Xp:=QU.trans Qs;have hA4:=hA3.ext Qs;have Nr:=iu.ext Qs;refine Qo hA4 rfl ?_;refine Qj ((x.n+2:Nat):Int) (by omega) (by omega) ?_;refine BU Qa rfl rfl rfl rfl rfl rfl rfl rfl (by show 24*(x.n+2)<=_;omega) (by unfold maxLen;omega) (λw5 Qx KI QD=>?_);refine new (λw6 QQ bu Q7=>?_);refine KZ Q7 (by decide) (λw7 Xe Q3=>?_);have Js:Ext w5 w7:=Xe.ext QQ (λi hi=>by omega);have W8:=Xe.size;have nQN:=QD.ext Js;have pQY:=Js.size;refine XR Qa (λw'=>Mod (·=w4.heap.size) w7 w') 4 [(true,0),(false,1),(true,2),(false,3)] (by kernel_rfl) (Mod.of_ext _ (Ext.drew w7)) ?_;have ns:¬w5.heap.size=w4.heap.size:=by omega
 refine QN (v:=.slice (some ⟨w4.heap.size,0,none⟩) (x.n+2) (x.n+2)) (λw' Qb=>by rw[(Q3.mod Qb ns).cell0];rfl) ?_;refine call (Nt.of_fn 1 w7.drew (by decide)) ?_;rintro _ w8 ⟨A8,c8,rfl,io,Xn⟩;have Ju:Ext w7 w8:=(Ext.drew w7).trans Xn;refine⟨Mod.of_ext _ Ju,?_⟩;refine index (j:=1) (by omega) ?_;have Xz:=nQN.ext Ju;refine XV Xz (by simp) (λw9 Zg JI=>?_);have Vy:Mod (·=w4.heap.size) w7 w9:=(Mod.of_ext _ Ju).trans Zg (λi hi=>.inl hi);refine⟨Vy,?_⟩;have vY:Ext w4 w9:=Vy.ext (Qx.trans Js) (λi hi=>by omega);have gc:=Vy.size;refine new (λQE X1 y9 J6=>?_);refine KZ J6 (by decide) (λQL Jj Z6=>?_);have ip:Ext w9 QL:=Jj.ext X1 (λi hi=>by omega);have dY:=vY.trans ip;have sn:=Jj.size;have WE:=Xp.trans dY;have nQO:∀u∈(List.replicate (x.n+2) (Value.slice none 0 0)).set 1 (.slice A8 (Nt.Kh 1).length c8),∃A m c,u= .slice A m c:=λu hu=>by
  rcases PV hu with hu | rfl
  ·exact⟨none,0,0,Bq hu⟩
  ·exact⟨_,_,_,rfl⟩
 have K0:CtK QL x n w1.heap.size w.heap.size w5.heap.size w9.heap.size w4.heap.size ((List.replicate (x.n+2) (Value.slice none 0 0)).set 1 (.slice A8 (Nt.Kh 1).length c8)):=by
  refine⟨Nr.ext dY,hA4.ext dY,hx.ext WE,(Q3.mod Vy ns).ext ip,Z6,JI.ext ip,by simp,nQO,λj v hv=>?_⟩;by_cases hj:1=j
  ·subst hj;rw[jZ (by simp)] at hv;cases hv;rw[kQY (by decide) hn,Bk];have h1:NumIn w8 (2^0) (.slice A8 (Nt.Kh 1).length c8):=⟨A8,_,c8,1,rfl,io,QB _⟩
   exact(h1.mod Xz (λu hu=>⟨none,0,0,Bq hu⟩) Zg).ext ip
  ·rw[gK hj] at hv;have:=Bq (Xl hv);subst this;exact⟨none,0,0,0,rfl,Sl.nil _ _,Xo _⟩
 generalize (List.replicate (x.n+2) (Value.slice none 0 0)).set 1 (.slice A8 (Nt.Kh 1).length c8)=cs0 at*;refine Qo K0.hA rfl ?_;refine loop Qa [57] (λi:Nat=>[.int .i64 i]) (λi w'=>Mod (·=w4.heap.size) QL w'/\i<=x.n/\∃cs,CtK w' x n w1.heap.size w.heap.size w5.heap.size w9.heap.size w4.heap.size cs) (λi _=>x.n-i) 0 rfl ⟨Mod.refl _ _,Xo _,cs0,K0⟩ ?_;rintro i Xb ⟨V7,hi,cs,K⟩;have vT:Ext w Xb:=V7.ext WE (λj hj=>by have:=Xp.size;omega);refine Qw (λc1=>?_) (λc1=>?_)
 ·have Q4:i<x.n:=by omega
  refine Zt W3 K.hx rfl Q4 (λp b hb hc=>?_);obtain⟨k1,k2,k3,k4,k5,k6,k7,k8,k9,k10⟩:=wU.1 i b hb;have VV:=dQt b (Xl hb);obtain⟨bv,hbe⟩:=Gi k1;obtain⟨bl,dQu⟩:=Gi k3;obtain⟨bh,dQv⟩:=Gi k5;refine Jz (vs:=b.cells) rfl hc ?_;refine new (λX9 XF My Vw=>?_);refine Qv Vw rfl (sc rfl) (λZu ga _ JV=>?_);have sK:Ext Xb Zu:=XT XF Vw ga;have K14:=K.ext sK;refine Qo JV rfl ?_;refine Qz JV rfl ?_;refine Qj ((bv+1:Nat):Int) (by show b.v+1=_;omega) (by omega) ?_;have JF:∀y:Int,b.v<Ql x.nd y->∀m:Nat,y=m->bv+1<=fc n x.nd m:=λy hy m hm=>by
   subst hm;unfold fc;omega
  show iQ _ _ [.int .i64 b.l,_,_,_] _ _ _;rw[dQu];refine call (IJ hn K14 bl (bv+1) (by omega) (IK wU) (JF b.l k9 bl dQu)) ?_;rintro _ J8 ⟨ul,rfl,hUl,JJ⟩;refine Qo (JV.ext JJ) rfl ?_;refine Qz (JV.ext JJ) rfl ?_;refine Qj ((bv+1:Nat):Int) (by show b.v+1=_;omega) (by omega) ?_;show iQ _ _ [.int .i64 b.h,_,_,_] _ _ _;rw[dQv];refine call (IJ hn (K14.ext JJ) bh (bv+1) (by omega) (IK wU) (JF b.h k10 bh dQv)) ?_;rintro _ ac ⟨uh,rfl,⟨Ah,mh,ch,Nh,rfl,hSh,hNh⟩,Vo⟩;obtain⟨Al,ml,cl,Nl,rfl,qt,hNl⟩:=hUl.ext Vo;have FO:2^(n-(bv+1))+2^(n-(bv+1))=2^(n-bv):=by
   rw[show n-bv=(n-(bv+1))+1 by omega,nQ];omega
  refine call (aQN (b:=2^(n-bv)) (by omega) (X3 (aT (by decide) (show n-bv<=12 by omega)) (by decide)) ac qt hSh) ?_;rintro _ VU ⟨_,rfl,⟨Au,mu,cu,Nu,rfl,hSu,O8⟩,pA⟩;have hUs:NumIn VU (2^(n-bv)) (.slice Au mu cu):=⟨Au,mu,cu,Nu,rfl,hSu,O8⟩
  have pF:=(JJ.trans Vo).trans pA;have K17:=K14.ext pF;refine kQX rfl rfl rfl rfl ?_;refine WX rfl ?_;refine Qz K17.hC rfl ?_;refine Qj ((i+2:Nat):Int) (by show((i:Nat):Int)+2=_;omega) (by omega) ?_;refine index (j:=i+2) (by omega) ?_;refine XV (j:=i+2) K17.hS (by rw[K17.len];omega) (λVp zw kS=>?_);refine Qj ((i+1:Nat):Int) (by show((i:Nat):Int)+1=_;omega) (by omega) ?_;have cQF:=sK.trans pF;refine⟨i+1,rfl,⟨(V7.trans (Mod.of_ext (·=w4.heap.size) cQF) (λj hj=>.inl hj)).trans zw (λj hj=>.inl hj),Q4,cs.set (i+2) (.slice Au mu cu),?_⟩,by show x.n-(i+1)<x.n-i;omega⟩;have YD:b.v=bv:=hbe;have Jn:fc n x.nd (i+2)=bv:=by rw[kQZ hb k1 VV];omega
  have K18:Ext Xb VU:=cQF;have tL:Mod (·=w4.heap.size) VU Vp:=zw;have n1:¬w1.heap.size=w4.heap.size:=by have:=Qi.size;have:=Qs.size;omega
  have n0:¬w.heap.size=w4.heap.size:=by have:=Qi.size;have:=Qs.size;omega
  have n9:¬w9.heap.size=w4.heap.size:=by have:=vY.size;omega
  have nQP:=K17.hx;refine⟨K17.hN.mod tL n1,K17.hA.mod tL n0,nQP.modo tL (λad ea h0=>by have:=SB.lt hx ad ea h0;have:=Xp.size;omega),K17.hC.mod tL ns,K17.hP.mod tL n9,kS,by rw[gG];exact K17.len,λu hu=>?_,λj v hv=>?_⟩
  ·rcases PV hu with hu | rfl
   ·exact K17.sl u hu
   ·exact⟨_,_,_,rfl⟩
  ·by_cases hj:i+2=j
   ·subst hj;rw[jZ (by rw[K17.len];omega)] at hv;cases hv;rw[Jn];exact hUs.mod K17.hS K17.sl tL
   ·rw[gK hj] at hv;exact(K17.nums j v hv).mod K17.hS K17.sl tL
 ·obtain⟨rt,hrt⟩:=Gi wU.2.1;have WA:=wU.2.2.1;refine Qo K.hA rfl ?_;show iQ _ _ [.int .i64 x.r,_,_,_] _ _ _;rw[hrt];refine call (IJ hn K rt 0 (by omega) (IK wU) (Xo _)) ?_;rintro _ X9 ⟨u,rfl,hU,XF⟩;exact⟨u,rfl,hU,vT.trans XF⟩
def Zj:Nat->List (List Nat)->List (Nat×List Nat)
 | _,[]=>[]
 | a,s::ls=>(a,s)::Zj (a+s.length+1) ls
theorem aQO:∀(a:Nat)(l m:List (List Nat)),Zj a (l++m)=Zj a l++Zj (a+(Qp l).length) m
 | a,[],m=>by simp[Zj,Qp]
 | a,s::l,m=>by
  rw[Jo,Zj,Zj,aQO (a+s.length+1) l m,Jo,V4];congr 3;simp only[Qq,Q2];omega
theorem aQP {l:List Nat}(h:cP l)(s:List Nat)(hs:10∉s):QF (l++(s++ [10]))=QF l++ [s]:=by
 have h1:=Yg h;have h2:l++(s++ [10])=Qp (QF l++ [s]):=by rw[UP,h1]
 rw[h2,HE (λt ht=>by
  rcases XP.1 ht with ht | ht
  ·exact iX l t ht
  ·rw[QO.1 ht];exact hs)]
def Kq (nm:List (List Nat)):List (List Nat)->Nat->BF->List (BF×BF)->List (Nat×List Nat×BF)
 | [],_,_,_=>[]
 | s::ls,a,k,op=>match XS s with
  | .txt=>(a,s,k)::Kq nm ls (a+s.length+1) k op
  | .ifd r=>match V3 nm r with
   | .ok d=>Kq nm ls (a+s.length+1) (XY k d) ((k,J2 k d)::op)
   | .error _=>[]
  | .elif r=>match op with
   | []=>[]
   | x::Xs=>match V3 nm r with
    | .ok d=>Kq nm ls (a+s.length+1) (XY x.2 d) ((x.1,J2 x.2 d)::Xs)
    | .error _=>[]
  | .els=>match op with
   | []=>[]
   | x::Xs=>Kq nm ls (a+s.length+1) x.2 (x::Xs)
  | .en=>match op with
   | []=>[]
   | x::Xs=>Kq nm ls (a+s.length+1) x.1 Xs
  | .inc _=>[]
abbrev cg (tx:List Nat)(s:Sg):List (Nat×List Nat×BF):=(Zj s.at_ (QF (Zz tx s))).map (λq=>(q.1,q.2,s.o))
def W7 (g:Gs):List (Nat×List Nat×BF):=g.sg.flatMap (cg g.tx)
theorem IL {fs:List (List Nat×List Nat)}{tx:List Nat}{s:Sg}(h:SgOk fs tx s):cP (Zz tx s)/\(Zz tx s).length=s.t-s.f:=by
 have h1:=h.ft;have h2:=h.tl;have hl:(Zz tx s).length=s.t-s.f:=by unfold Zz;simp;omega
 refine⟨.inr ?_,hl⟩;rw[tW,hl];unfold Zz;rw[Gg,qJ (by omega),show s.f+(s.t-s.f-1)=s.t-1 by omega];exact h.nl
theorem IM {tx s:List Nat}:∀{l:List Sg},(∀x∈l,x.t<=tx.length)->l.flatMap (cg (tx++s))=l.flatMap (cg tx)
 | [],_=>rfl
 | x::l,h=>by rw[Vf,Vf,IM (λy hy=>h y (by simp[hy])),cg,UT (h x (by simp))]
theorem kQ1 {fs:List (List Nat×List Nat)}{n p:Nat}{k:BF}{g g':Gs}{s:List Nat}(h:GInv fs g)(hc:jf n p k g)(hs:10∉s)(ha:Vt (s++ [10]) n p k g=some g'):W7 g'=W7 g++ [(p,s,k)]:=by
 unfold Vt at ha;split at ha
 ·cases ha
 cases ha;cases hf:g.fr with
 | true=>
  rw[Qf rfl,iY];unfold W7;simp only;rw[Yd,IM (λx hx=>(h.ok x hx).tl)];congr 1;simp only[Vf,ua,KE];have e:Zz (g.tx++(s++ [10])) ⟨g.tx.length,g.tx.length+(s++ [10]).length,n,p,k⟩=[]++(s++ [10]):=by
   unfold Zz;simp only;rw[ZS (by simp),nT]<;>rfl
  show(Zj p (QF (Zz _ _))).map _=_;rw[e,aQP (.inl rfl) s hs]<;>rfl
 | false=>
  rw[if_neg (by decide)];obtain⟨l,y,e,e1,e2,e3⟩:=hc hf;have JH:=h.ch;have X5:=h.ok;rw[e] at JH X5;rw[ChG.snoc] at JH;have hy:=X5 y (by simp);rw[e,iY];unfold W7;simp only;rw[e,Yd,Yd,IM (λx hx=>(X5 x (by simp[hx])).tl),ZG];congr 1;have h1:=hy.ft;have h2:=JH.2;have hp:=IL hy;have e4:Zz (g.tx++(s++ [10])) {y with t:=g.tx.length+(s++ [10]).length}=Zz g.tx y++(s++ [10]):=by
   unfold Zz;simp only;rw[ZS (by simp),PU (by omega),h2,qI]
  simp only[Vf,ua,KE];show(Zj y.at_ (QF (Zz _ {y with t:=g.tx.length+(s++ [10]).length}))).map _=_;rw[e4,aQP hp.1 s hs,aQO,Yg hp.1,hp.2,e2,WR];show _=(Zj y.at_ (QF (Zz g.tx y))).map (λq=>(q.1,q.2,y.o))++_;rw[e3]<;>rfl
def ChA:List Sg->Nat->Prop
 | [],_=>True
 | s::l,p=>(∀x∈l,s.at_+(s.t-s.f)<=x.at_)/\s.at_+(s.t-s.f)<=p/\ChA l p
theorem ChA.mono {p q:Nat}(h:p<=q):∀{l:List Sg},ChA l p->ChA l q
 | [],_=>trivial
 | _::_,⟨h1,h2,h3⟩=>⟨h1,by omega,h3.mono h⟩
theorem ChA.snoc {x:Sg}{p q:Nat}(hx:p<=x.at_)(hq:x.at_+(x.t-x.f)<=q):∀{l:List Sg},ChA l p->ChA (l++ [x]) q
 | [],_=>⟨(λ_ h=>by cases h),hq,trivial⟩
 | s::l,⟨h1,h2,h3⟩=>⟨λy hy=>by
   rcases XP.1 hy with hy | hy
   ·exact h1 y hy
   ·rw[QO.1 hy];omega,by omega,ChA.snoc hx hq h3⟩
theorem qQ1 {x y:Sg}{p q:Nat}(hx:y.at_=x.at_)(hq:y.at_+(y.t-y.f)<=q)(jN:p<=q):∀{l:List Sg},ChA (l++ [x]) p->ChA (l++ [y]) q
 | [],_=>⟨(λ_ h=>by cases h),hq,trivial⟩
 | s::l,⟨h1,h2,h3⟩=>⟨λz hz=>by
   rcases XP.1 hz with hz | hz
   ·exact h1 z (by simp[hz])
   ·rw[QO.1 hz,hx];exact h1 x (by simp),by omega,qQ1 hx hq jN h3⟩
theorem kQ2 {fs:List (List Nat×List Nat)}{n p:Nat}{k:BF}{g g':Gs}{s:List Nat}(h:GInv fs g)(hc:jf n p k g)(hp:ChA g.sg p)(ha:Vt (s++ [10]) n p k g=some g'):ChA g'.sg (p+s.length+1):=by
 unfold Vt at ha;split at ha
 ·cases ha
 cases ha;cases hf:g.fr with
 | true=>
  rw[Qf rfl,iY];exact hp.snoc (QB p) (by simp;omega)
 | false=>
  rw[if_neg (by decide)];obtain⟨l,y,e,e1,e2,e3⟩:=hc hf;have JH:=h.ch;rw[e] at JH hp;rw[ChG.snoc] at JH;have hy:=(h.ok y (by rw[e];simp)).ft;rw[e,iY];exact qQ1 (p:=p) (q:=p+s.length+1) (x:=y) (y:={y with t:=g.tx.length+(s++ [10]).length}) rfl (by simp only[Qq,nU];omega) (by omega) hp
theorem aQQ {nm:List (List Nat)}{fs:List (List Nat×List Nat)}{n d0:Nat}{inc:oM}{x:List Nat×List Nat}(hx:fs[n]? =some x)
  (hi:∀r ln d k g g',inc r ln d k g≠ .ok g'):∀(ls:List (List Nat)) (ln at_:Nat) (k:BF) (op:List Se) (g g':Gs),l6 ls->
  x.2.drop at_=Qp ls->at_<=x.2.length->GInv fs g->jf n at_ k g->ChA g.sg at_->Jb nm n d0 inc ls ln at_ k op g= .ok g'->W7 g'=W7 g++Kq nm ls at_ k (kB op)/\ChA g'.sg (at_+(Qp ls).length)
 | [],ln,at_,k,op,g,g',_,_,_,hg,_,JH,hr=>by
  cases op with
  | nil=>simp only[Jb,Except.ok.injEq] at hr;subst hr;exact⟨by rw[Kq,KE];rfl,JH⟩
  | cons _ _=>simp[Jb] at hr
 | s::ls,ln,at_,k,op,g,g',hL0,hd,aN,hg,hc,JH,hr=>by
  have XL:x.2.drop at_=(s++ [10])++Qp ls:=by rw[hd,V4];simp
  have hL:(s++ [10]).length=s.length+1:=by simp
  have QZ:x.2.length-at_=s.length+1+(Qp ls).length:=by
   have:=QC List.length XL;simp only[Y1,Qq,Q2,Jp] at this;omega
  have hu:at_+(Qp (s::ls)).length=at_+s.length+1+(Qp ls).length:=by rw[V4];simp;omega
  have br:x.2.drop (at_+s.length+1)=Qp ls:=by
   rw[show at_+s.length+1=at_+(s++ [10]).length by simp;omega,<-nM,XL,nT]
  have nQQ:10∉s:=hL0 s (by simp);have ih:=λk op g g' h1 h2 h3=>aQQ (nm:=nm) (d0:=d0) hx hi ls (ln+1) (at_+s.length+1) k op g g' (λt ht=>hL0 t (by simp[ht])) br (by omega) h1 h2 h3
  have cf:∀k' (g:Gs),jf n (at_+s.length+1) k' {g with fr:=true}:=λk' g h=>by cases h
  have FP:ChA g.sg (at_+s.length+1):=JH.mono (by omega);rw[Jb.eq_def] at hr;simp only at hr;rw[hu,Kq.eq_def];simp only;cases Xt:XS s with
  | txt=>
   rw[Xt] at hr;simp only at hr ⊢;cases ha:Vt (s++ [10]) n at_ k g with
   | none=>rw[ha] at hr;cases hr
   | some g1=>
    rw[ha] at hr;simp only at hr;obtain⟨i1,i2⟩:=Ij hg hc hx (by rw[hL,<-lq,br];exact XL) (by rw[hL];omega) (by simp) ha;obtain⟨j1,j2⟩:=ih k op g1 g' i1 (by rw[hL,<-lq] at i2;exact i2) (kQ2 hg hc JH ha) hr;exact⟨by rw[j1,kQ1 hg hc nQQ ha,ZG];rfl,j2⟩
  | ifd r=>
   rw[Xt] at hr;simp only at hr ⊢;cases hs:V3 nm r with
   | error e=>rw[hs] at hr;cases hr
   | ok d=>
    rw[hs] at hr;simp only at hr ⊢;split at hr
    ·cases hr
    ·exact ih _ _ _ _ (hg.fr true) (cf _ _) FP hr
  | inc r=>
   rw[Xt] at hr;simp only at hr;cases hs:inc r (ln+1) (d0+op.length) k g with
   | error e=>rw[hs] at hr;cases hr
   | ok g1=>exact Xc hs (hi _ _ _ _ _ _)
  | elif r=>
   rw[Xt] at hr;cases op with
   | nil=>cases hr
   | cons y op=>
    simp only at hr ⊢;split at hr
    ·cases hr
    ·cases hs:V3 nm r with
     | error e=>rw[hs] at hr;cases hr
     | ok d=>rw[hs] at hr;exact ih _ _ _ _ (hg.fr true) (cf _ _) FP hr
  | els=>
   rw[Xt] at hr;cases op with
   | nil=>cases hr
   | cons y op=>
    simp only at hr ⊢;split at hr
    ·cases hr
    ·exact ih y.re ({y with ot:=true}::op) {g with fr:=true} g' (hg.fr true) (cf _ _) FP hr
  | en=>
   rw[Xt] at hr;cases op with
   | nil=>cases hr
   | cons y op=>exact ih y.ou op {g with fr:=true} g' (hg.fr true) (cf _ _) FP hr
def fF (t:List Nat):List (List Nat×List Nat):=[([102],t)]
theorem IN {rd s:List Nat}{e:Int}(t:List Nat)(h:0∈rd):∀m,dK (Jq ((fF t).map (·.1))) rd s≠ .ok m:=λm hm=>by
 obtain⟨h1,tn,tF⟩:=H4 hm;have:=lZ tF;have h0:m=0:=by simpa [fF] using this
 rw[h0] at h1;exact h1 h
theorem yG {nm:List (List Nat)}{t:List Nat}{g:Gs}(hr:Vh nm (fF t) [102]= .ok g):cP t/\W7 g=Kq nm (QF t) 0 (λ_=>true) []/\ChA g.sg t.length/\GInv (fF t) g:=by
 have oQ1:=(UH hr).1;unfold Vh at hr;split at hr
 ·cases hr
 cases Ve:Y6 (fF t)with
 | some p=>rw[Ve] at hr;cases hr
 | none=>
  rw[Ve] at hr;simp only at hr;have hall:∀x∈fF t,oH x.1=true/\bW x.2=true/\x.2.length<=1048576:=by
   unfold Y6 at Ve;rw[if_neg (by simp[fF])] at Ve;exact CU _ [] 0 Ve
  have ht:cP t:=mr (hall _ (QO.2 rfl)).2.1;cases KK:Jq ((fF t).map (·.1)) [102] with
  | none=>rw[KK] at hr;cases hr
  | some n=>
   rw[KK] at hr;simp only at hr;have hn:n<(fF t).length:=by have:=lZ KK;simpa using this
   have h0:n=0:=by simpa [fF] using hn
   subst h0;have hx:(fF t)[0]? =some ([102],t):=rfl;rw[aq,hx] at hr;simp only[xb,gJ] at hr;obtain⟨a,b⟩:=aQQ hx (λr ln d' k' g1 g2 hi=>by
    split at hi
    ·cases hi
    ·rename_i m he;exact IN t (by simp) (e:=0) _ he) (QF t) 0 0 (λ_=>true) [] ⟨[],[],true⟩ g (iX t) (by rw[tV,Yg ht]) (Xo _) (⟨rfl,λs hs=>by cases hs⟩:GInv (fF t) ⟨[],[],true⟩) (λh=>by cases h) trivial hr
   rw[Yg ht,WQ] at b;exact⟨ht,a,b,oQ1⟩
structure Ed where
 fr:Int
 to_:Int
 tx:List Nat
 o:BF
structure EdV where
 fr:Int
 to_:Int
 tx:List Nat
 x:DV
def EdV.ed (e:EdV):Ed:=⟨e.fr,e.to_,e.tx,oD e.x⟩
def XE (f:List Nat)(a b:Nat):List Nat:=(f.drop a).take (b-a)
def ZO (f:List Nat)(c:Nat)(st:List Nat×Nat)(e:Ed):List Nat×Nat:=
 if e.o (bits c)=true then(st.1++XE f st.2 e.fr.toNat++e.tx,e.to_.toNat)else st
def ZY (f:List Nat)(stop:Nat)(a:Nat)(es:List Ed)(c:Nat):List Nat:=
 (es.foldl (ZO f c) ([],a)).1++XE f (es.foldl (ZO f c) ([],a)).2 stop
def KQ (a:Nat)(s:List Nat)(e:Ed):Bool:=decide ((a:Int)<=e.fr/\e.to_<=a+s.length)
def YR (S:List Nat)(o:BF):Bool:=S.any (λc=>o (bits c))
def Vu (es:List Ed)(S:List Nat)(a:Nat)(s:List Nat):List Ed:=es.filter (λe=>KQ a s e&&YR S e.o)
def ii (S:List Nat)(e b:Ed):Bool:= !(decide (b.fr<e.to_)&&YR S (λv=>e.o v&&b.o v))
def cW (S:List Nat):List Ed->Bool
 | []=>true
 | e::es=>es.all (ii S e)&&cW S es
def aA (nm:List (List Nat))(f:List Nat)(es:List Ed)(S:List Nat)(a:Nat)(s:List Nat):Option (List (List Nat)):=
 if Vu es S a s=[] then some [s]
 else if cW S (Vu es S a s)=false then none
 else if S.all (λc=>K5 (ZY f (a+s.length+1) a (Vu es S a s) c))=false then none
 else some (Zn nm (ZY f (a+s.length+1) a (Vu es S a s)) nm.length 0 S)
def ij (g:Gs)(a:Nat):BF:=((g.sg.find? (λs=>decide (a<s.at_+(s.t-s.f)))).map (·.o)).getD (λ_=>false)
def Yi (nm:List (List Nat))(d:BF)(g:Gs)(f:List Nat)(es:List Ed):List (List Nat)->Nat->Option (List (List Nat))
 | [],_=>some []
 | s::ls,a=>match (if XS s= .txt then aA nm f es (QG nm.length (XY d (ij g a))) a s else some [s])with
  | none=>none
  | some l=>match Yi nm d g f es ls (a+s.length+1)with
   | none=>none
   | some m=>some (l++m)
def kF (e:Ed)(q:Nat×List Nat):Bool:=decide ((q.1:Int)<=e.fr/\e.to_<=q.1+q.2.length/\e.fr<=e.to_/\XS q.2= .txt)
def jZq (n:Nat)(f:List Nat)(e:Ed):Bool:=decide (QG n e.o≠ [])&&(Zj 0 (QF f)).any (kF e)
def kG (n:Nat)(f:List Nat):Int->List Ed->Bool
 | _,[]=>true
 | p,e::es=>jZq n f e&&decide (p<=e.fr)&&kG n f e.fr es
def Dk (
      nm:List (List Nat)) (o:BF) (f:List Nat) (es:List Ed):Except Int (List Nat):=
 match Vh nm (fF f) [102] with
  | .error p=>.error p.e
  | .ok g=>if kG nm.length f 0 es=false then .error 291
   else match Yi nm o g f es (QF f) 0 with
    | none=>.error 291
    | some l=>if 1048576<(Qp l).length then .error 2
     else match Vh nm (fF (Qp l)) [102] with
      | .error p=>if p.e=2 then .error 2 else .ok (Qp l)
      | .ok _=>.ok (Qp l)
noncomputable def mC (nm:List (List Nat))(x:DV)(f:List Nat)(es:List EdV):Except Int (List Nat):=
 if Z1 nm=false∨Kp nm.length x.nd x.r=false then .error 1
 else if es.all (λe=>Kp nm.length e.x.nd e.x.r)=true then Dk nm (oD x) f (es.map EdV.ed)
 else match Vh nm (fF f) [102] with
  | .error p=>.error p.e
  | .ok _=>.error 291
theorem kQ3 {g:Gs}{a:Nat}{s:List Nat}{k:BF}(h:(a,s,k)∈W7 g):∃x∈g.sg,x.o=k/\(a,s)∈Zj x.at_ (QF (Zz g.tx x)):=by
 obtain⟨x,hx,hm⟩:=Wo.1 h;obtain⟨q,hq,e⟩:=Zk.1 hm;simp only[Prod.mk.injEq] at e;obtain⟨e1,e2,e3⟩:=e;refine⟨x,hx,e3,?_⟩;rw[<-e1,<-e2];exact hq
theorem oX:∀{ls:List (List Nat)}{p a:Nat}{s:List Nat},(a,s)∈Zj p ls->p<=a/\a+s.length+1<=p+(Qp ls).length
 | [],p,a,s,h=>by cases h
 | t::ls,p,a,s,h=>by
  rw[V4];simp only[Qq,Q2];rcases QY.1 h with h | h
  ·cases h;omega
  ·have:=oX h;omega
theorem ChA.later {x y:Sg}{p:Nat}:∀{l:List Sg}{i j:Nat},ChA l p->l[i]? =some x->l[j]? =some y->i<j->x.at_+(x.t-x.f)<=y.at_
 | [],i,j,_,h,_,_=>by simp at h
 | z::l,i,j+1,⟨h1,h2,h3⟩,hi,hj,Xa=>by
  have qe:l[j]? =some y:=by simpa using hj
  cases i with
  | zero=>
   have:z=x:=by simpa using hi
   subst this;exact h1 y (Xl qe)
  | succ i=>exact ChA.later h3 (by simpa using hi) qe (by omega)
 | z::l,i,0,_,_,_,Xa=>by omega
structure SegAt (g:Gs) (a:Nat) (k:BF) (i:Nat) (x:Sg):Prop where
 get:g.sg[i]? =some x
 lo:x.at_<=a
 hi:a<x.at_+(x.t-x.f)
 o:x.o=k
 first:∀j y,g.sg[j]? =some y->j<i->y.at_+(y.t-y.f)<=a
 last:∀j y,g.sg[j]? =some y->i<j->a<y.at_
theorem aQR {fs:List (List Nat×List Nat)}{g:Gs}{p a:Nat}{s:List Nat}{k:BF}(hi:GInv fs g)(hc:ChA g.sg p)(h:(a,s,k)∈W7 g):∃i x,SegAt g a k i x/\a+s.length+1<=x.at_+(x.t-x.f):=by
 obtain⟨x,hx,hk,hm⟩:=kQ3 h;obtain⟨i,tv⟩:=xi.1 hx;have hp:=IL (hi.ok x hx);have ho:=oX hm;rw[Yg hp.1,hp.2] at ho;refine⟨i,x,⟨tv,ho.1,by omega,hk,λj y hj Xa=>?_,λj y hj Xa=>?_⟩,ho.2⟩
 ·have:=hc.later hj tv Xa;omega
 ·have:=hc.later tv hj Xa;omega
theorem aQS {α:Type}{p:α->Bool}:∀{l:List α}{i:Nat}{x:α},l[i]? =some x->p x=true->(∀j y,l[j]? =some y->j<i->p y=false)->l.find? p=some x
 | [],i,x,h,_,_=>by simp at h
 | y::l,0,x,h,hp,_=>by
  have:y=x:=by simpa using h
  subst this;rw[List.find?_cons_of_pos hp]
 | y::l,i+1,x,h,hp,hj=>by
  rw[PN (by rw[hj 0 y rfl (by omega)];decide)];exact aQS (by simpa using h) hp (λj z hz Xa=>hj (j+1) z (by simpa using hz) (by omega))
theorem SegAt.cnd {g:Gs}{a:Nat}{k:BF}{i:Nat}{x:Sg}(h:SegAt g a k i x):ij g a=k:=by
 unfold ij;rw[aQS (p:=λs:Sg=>decide (a<s.at_+(s.t-s.f))) h.get (Zx h.hi) (λj y hj Xa=>Zr (by have:=h.first j y hj Xa;omega))];exact h.o
theorem aQT:∀{ls:List (List Nat)}{p a:Nat}{s:List Nat},(a,s)∈Zj p ls->∃i,ls[i]? =some s/\a=p+(Qp (ls.take i)).length
 | [],p,a,s,h=>by cases h
 | t::ls,p,a,s,h=>by
  rcases QY.1 h with h | h
  ·cases h;exact⟨0,rfl,by simp[Qp]⟩
  ·obtain⟨i,h1,h2⟩:=aQT h;refine⟨i+1,by simpa using h1,?_⟩;rw[fy,V4];simp only[Qq,Q2];omega
theorem aQU:∀{ls:List (List Nat)}{p a b:Nat}{s t:List Nat}{x:Nat},(a,s)∈Zj p ls->(b,t)∈Zj p ls->a<=x->x<=a+s.length->b<=x->x<=b+t.length->a=b/\s=t
 | [],p,a,b,s,t,x,h,_,_,_,_,_=>by cases h
 | u::ls,p,a,b,s,t,x,h,h',h1,h2,h3,h4=>by
  rcases QY.1 h with h | h
  ·cases h;rcases QY.1 h' with h' | h'
   ·cases h';exact⟨rfl,rfl⟩
   ·have:=oX h';omega
  ·rcases QY.1 h' with h' | h'
   ·cases h';have:=oX h;omega
   ·exact aQU h h' h1 h2 h3 h4
theorem IP:∀{ls:List (List Nat)}{p x:Nat},p<=x->x<p+(Qp ls).length->∃a s,(a,s)∈Zj p ls/\a<=x/\x<=a+s.length
 | [],p,x,h1,h2=>by simp[Qp] at h2;omega
 | t::ls,p,x,h1,h2=>by
  rw[V4] at h2;simp only[Qq,Q2] at h2;by_cases h:x<=p+t.length
  ·exact⟨p,t,Gf,h1,h⟩
  ·obtain⟨a,s,hm,h3,h4⟩:=IP (ls:=ls) (p:=p+t.length+1) (x:=x) (by omega) (by omega);exact⟨a,s,j5 _ hm,h3,h4⟩
theorem aQV {ls:List (List Nat)}{a:Nat}{s:List Nat}{e:Ed}(hm:(a,s)∈Zj 0 ls)(h1:(a:Int)<=e.fr)(h2:e.fr<=a+s.length)(h3:e.fr<=e.to_):
  (Zj 0 ls).any (kF e)=decide (e.to_<=a+s.length/\XS s= .txt):=by
 by_cases h:e.to_<=a+s.length/\XS s= .txt
 ·rw[Zx h];exact nV.2 ⟨(a,s),hm,Zx ⟨h1,h.1,h3,h.2⟩⟩
 ·rw[Zr h];refine fC.2 (λha=>?_);obtain⟨⟨b,t⟩,hb,hp⟩:=nV.1 ha;have hp:=Y2 hp;obtain⟨p1,p2,p3,p4⟩:=hp;simp only at p1 p2 p3 p4;obtain⟨x,hx⟩:=Gi (a:=e.fr) (by omega);obtain⟨q1,q2⟩:=aQU (x:=x) hm hb (by omega) (by omega) (by omega) (by omega);subst q1;subst q2;exact h ⟨p2,p4⟩
theorem Dl {nm:List (List Nat)}{f g:Nat->List Nat}:∀(k v:Nat)(l:List Nat),l≠ []->(∀c∈l,f c=g c)->Zn nm f k v l=Zn nm g k v l
 | 0,v,l,hl,h=>by rw[Zn,Zn,h _ (vi hl)]
 | k+1,v,l,hl,h=>by
  rw[rS hl,rS hl];split
  ·exact Dl k (v+1) l hl h
  ·rename_i h0;have n1:l.filter (λc=> !c.testBit v)≠ []:=λe=>h0 (.inl e)
   have n2:l.filter (λc=>c.testBit v)≠ []:=λe=>h0 (.inr e)
   rw[Dl k (v+1) _ n1 (λc hc=>h c (Jy.1 hc).1),Dl k (v+1) _ n2 (λc hc=>h c (Jy.1 hc).1)]
structure AV where
 o:BF
 d:List Nat
 a:Nat
def Yz (n:Nat)(f:List Nat)(e:Ed)(v:AV):List AV:=
 if QG n (XY v.o e.o)=[] then(if QG n v.o=[] then [] else [v])
 else⟨XY v.o e.o,v.d++XE f v.a e.fr.toNat++e.tx,e.to_.toNat⟩::(if QG n (J2 v.o (XY v.o e.o))=[] then [] else [⟨J2 v.o (XY v.o e.o),v.d,v.a⟩])
structure VI (n:Nat) (f:List Nat) (S:List Nat) (a:Nat) (es:List Ed) (vs:List AV):Prop where
 cov:∀c∈S,∃v∈vs,v.o (bits c)=true
 ne:∀v∈vs,QG n v.o≠ []
 st:∀v∈vs,∀c∈QG n v.o,c∈S/\es.foldl (ZO f c) ([],a)=(v.d,v.a)
theorem VI.start {n:Nat}{f:List Nat}{o:BF}{a:Nat}(h:QG n o≠ []):VI n f (QG n o) a [] [⟨o,[],a⟩]:=
 ⟨λc hc=>⟨_,QO.2 rfl,(JC.1 hc).2⟩,λv hv=>by rw[QO.1 hv];exact h,λv hv c hc=>by rw[QO.1 hv] at hc ⊢;exact⟨hc,rfl⟩⟩
theorem VI.step {n:Nat}{f:List Nat}{S:List Nat}{a:Nat}{es:List Ed}{vs:List AV}(h:VI n f S a es vs)(hS:∀c∈S,c<2^n)(e:Ed):VI n f S a (es++ [e]) (vs.flatMap (Yz n f e)):=by
 have oQ2:∀c,(es++ [e]).foldl (ZO f c) ([],a)=ZO f c (es.foldl (ZO f c) ([],a)) e:=λc=>by rw[Bv]<;>rfl
 refine⟨λc hc=>?_,λv hv=>?_,λv hv c hc=>?_⟩
 ·obtain⟨v,hv,qv⟩:=h.cov c hc;have OQ:=hS c hc;have hm:c∈QG n v.o:=JC.2 ⟨OQ,qv⟩;by_cases hb:QG n (XY v.o e.o)=[]
  ·refine⟨v,Wo.2 ⟨v,hv,?_⟩,qv⟩;unfold Yz;rw[Qf hb,if_neg (λe0=>by rw[e0] at hm;cases hm)];exact QO.2 rfl
  ·cases wV:e.o (bits c)with
   | true=>
    refine⟨⟨XY v.o e.o,v.d++XE f v.a e.fr.toNat++e.tx,e.to_.toNat⟩,Wo.2 ⟨v,hv,?_⟩,?_⟩
    ·unfold Yz;rw[if_neg hb];exact Gf
    ·show(v.o (bits c)&&e.o (bits c))=true;rw[qv,wV]<;>rfl
   | false=>
    have iD:(J2 v.o (XY v.o e.o)) (bits c)=true:=by
     show(v.o (bits c) && !(v.o (bits c)&&e.o (bits c)))=true;rw[qv,wV]<;>rfl
    refine⟨⟨J2 v.o (XY v.o e.o),v.d,v.a⟩,Wo.2 ⟨v,hv,?_⟩,iD⟩;unfold Yz;rw[if_neg hb,if_neg (λe0=>by
     have:c∈QG n (J2 v.o (XY v.o e.o)):=JC.2 ⟨OQ,iD⟩;rw[e0] at this;cases this)]
    simp
 ·obtain⟨v0,gf,hv⟩:=Wo.1 hv;unfold Yz at hv;split at hv
  ·split at hv
   ·cases hv
   ·rename_i h1;rw[QO.1 hv];exact h1
  ·rename_i h1;rcases QY.1 hv with rfl | hv
   ·exact h1
   ·split at hv
    ·cases hv
    ·rename_i h2;rw[QO.1 hv];exact h2
 ·obtain⟨v0,gf,hv⟩:=Wo.1 hv;rw[oQ2];unfold Yz at hv;split at hv
  ·rename_i h1;split at hv
   ·cases hv
   ·rw[QO.1 hv] at hc ⊢;obtain⟨q1,q2⟩:=h.st v0 gf c hc;refine⟨q1,?_⟩;rw[q2];unfold ZO;rw[if_neg];intro wV;have:c∈QG n (XY v0.o e.o):=JC.2 ⟨(JC.1 hc).1,by show(v0.o (bits c)&&e.o (bits c))=true;rw[show v0.o (bits c)=true from (JC.1 hc).2,wV];rfl⟩;rw[h1] at this;cases this
  ·rcases QY.1 hv with rfl | hv
   ·obtain⟨c1,c2⟩:=JC.1 hc;have c2:(v0.o (bits c)&&e.o (bits c))=true:=c2;rw[Z9] at c2;obtain⟨q1,q2⟩:=h.st v0 gf c (JC.2 ⟨c1,c2.1⟩);refine⟨q1,?_⟩;rw[q2];unfold ZO;rw[Qf c2.2]
   ·split at hv
    ·cases hv
    ·rw[QO.1 hv] at hc ⊢;obtain⟨c1,c2⟩:=JC.1 hc;have c2:(v0.o (bits c) && !(v0.o (bits c)&&e.o (bits c)))=true:=c2;have c3:v0.o (bits c)=true/\e.o (bits c)=false:=by
      cases h1:v0.o (bits c)<;>cases h2:e.o (bits c)<;>rw[h1,h2] at c2<;>simp_all
     obtain⟨q1,q2⟩:=h.st v0 gf c (JC.2 ⟨c1,c3.1⟩);refine⟨q1,?_⟩;rw[q2];unfold ZO;rw[if_neg (by rw[c3.2];decide)]
theorem IQ (f:List Nat)(c:Nat):∀(es:List Ed)(st:List Nat×Nat),(es.foldl (ZO f c) st).2=st.2∨∃e∈es,e.o (bits c)=true/\(es.foldl (ZO f c) st).2=e.to_.toNat
 | [],st=>.inl rfl
 | e::es,st=>by
  rw[eE];rcases IQ f c es (ZO f c st e)with h | ⟨b,hb,h1,h2⟩
  ·by_cases he:e.o (bits c)=true
   ·refine .inr ⟨e,by simp,he,?_⟩;rw[h];unfold ZO;rw[Qf he]
   ·refine .inl ?_;rw[h];unfold ZO;rw[if_neg he]
  ·exact .inr ⟨b,by simp[hb],h1,h2⟩
theorem aQW {S:List Nat}:∀{es:List Ed}{i j:Nat}{e b:Ed},cW S es=true->es[i]? =some e->es[j]? =some b->i<j->ii S e b=true
 | [],i,j,e,b,_,h,_,_=>by simp at h
 | x::es,i,j+1,e,b,ha,hi,hj,Xa=>by
  rw[cW,Z9,Ka] at ha;have qe:es[j]? =some b:=by simpa using hj
  cases i with
  | zero=>
   have:x=e:=by simpa using hi
   subst this;exact ha.1 b (Xl qe)
  | succ i=>exact aQW ha.2 (by simpa using hi) qe (by omega)
 | x::es,i,0,e,b,_,_,_,Xa=>by omega
theorem kQ4 {f:List Nat}{S:List Nat}{es:List Ed}(ha:cW S es=true){a i c:Nat}{e:Ed}(hi:es[i]? =some e)(hc:c∈S)(wV:e.o (bits c)=true)(h0:(a:Int)<=e.fr)(hp:∀b∈es,0<=b.to_):
  (((es.take i).foldl (ZO f c) ([],a)).2:Int)<=e.fr:=by
 rcases IQ f c (es.take i) ([],a)with h | ⟨b,hb,h1,h2⟩
 ·rw[h];exact h0
 ·rw[h2];obtain⟨j,hj⟩:=xi.1 hb;have Vr:j<i:=by
   apply Classical.byContradiction;intro hh;rw[F5] at hj;rw[if_neg hh] at hj;cases hj
  rw[qJ Vr] at hj;have:=aQW ha hj hi Vr;unfold ii at this;have hm:YR S (λv=>b.o v&&e.o v)=true:=nV.2 ⟨c,hc,by show(b.o (bits c)&&e.o (bits c))=true;rw[h1,wV];rfl⟩;rw[hm,Gj,Bool.not_eq_true',decide_eq_false_iff_not] at this;have:=hp b (Xl hj);omega
def Wy (ps:List Pr)(t:List Nat):Nat:=(ps.takeWhile (λp=>decide (p.t≠t))).length
def dP (ps:List Pr)(o:BF)(t:List Nat):List Pr:=match ps[Wy ps t]? with
 | some p=>ps.set (Wy ps t) ⟨λe=>p.o e||o e,p.t⟩
 | none=>ps++ [⟨o,t⟩]
theorem kQ5 (ps:List Pr)(t:List Nat):Wy ps t<=ps.length:=(xa _).length_le
theorem Dm (t:List Nat):∀ps:List Pr,(∀p,ps[Wy ps t]? =some p->p.t=t)/\∀j p,ps[j]? =some p->j<Wy ps t->p.t≠t
 | []=>⟨λp h=>by simp at h,λj p h=>by simp at h⟩
 | q::ps=>by
  obtain⟨h1,h2⟩:=Dm t ps;by_cases hq:q.t=t
  ·have e:Wy (q::ps) t=0:=by unfold Wy;rw[List.takeWhile_cons_of_neg (by simpa using hq)]<;>rfl
   rw[e];exact⟨λp h=>by
              have:q=p:=by simpa using h
              rw[<-this];exact hq,λj p _ hj=>by omega⟩
  ·have e:Wy (q::ps) t=Wy ps t+1:=by unfold Wy;rw[List.takeWhile_cons_of_pos (by simpa using hq)]<;>rfl
   rw[e];refine⟨λp h=>h1 p (by simpa using h),λj p h hj=>?_⟩;cases j with
   | zero=>
        have:q=p:=by simpa using h
        rw[<-this];exact hq
   | succ j=>exact h2 j p (by simpa using h) (by omega)
structure QI (n:Nat) (S:List Nat) (ver:Nat->List Nat) (vs:List AV) (ps:List Pr):Prop where
 cov:∀v∈vs,∀c∈QG n v.o,∃p∈ps,p.o (bits c)=true
 tx:∀(i j:Nat) (p q:Pr),ps[i]? =some p->ps[j]? =some q->p.t=q.t->i=j
 val:∀p∈ps,∀c∈QG n p.o,c∈S/\p.t=ver c
theorem QI.nil {n:Nat}{S:List Nat}{ver:Nat->List Nat}:QI n S ver [] []:=⟨(λv hv=>by cases hv),(λi j p q h=>by simp at h),(λp hp=>by cases hp)⟩
theorem QI.ins {n:Nat}{S:List Nat}{ver:Nat->List Nat}{vs:List AV}{ps:List Pr}(h:QI n S ver vs ps){v:AV}{t:List Nat}(hv:∀c∈QG n v.o,c∈S/\ver c=t):QI n S ver (vs++ [v]) (dP ps v.o t):=by
 obtain⟨s1,s2⟩:=Dm t ps;unfold dP;cases hg:ps[Wy ps t]? with
 | none=>
  have ZF:=List.getElem?_eq_none_iff.1 hg;simp only;refine⟨λu hu c hc=>?_,λi j p q hi hj he=>?_,λp hp c hc=>?_⟩
  ·rcases XP.1 hu with hu | hu
   ·obtain⟨p,hp,KM⟩:=h.cov u hu c hc;exact⟨p,by simp[hp],KM⟩
   ·rw[QO.1 hu] at hc;exact⟨⟨v.o,t⟩,by simp,(JC.1 hc).2⟩
  ·have key:∀i (p:Pr),(ps++ [⟨v.o,t⟩])[i]? =some p->(ps[i]? =some p/\i<ps.length)∨(i=ps.length/\p.t=t):=λi p hi=>by
    by_cases Xa:i<ps.length
    ·rw[gI Xa] at hi;exact .inl ⟨hi,Xa⟩
    ·rw[aS (by omega)] at hi;have:=(Jd.1 hi).1;simp at this;have e:i=ps.length:=by omega
     subst e;simp at hi;exact .inr ⟨rfl,by rw[<-hi]⟩
   rcases key i p hi with⟨h1,l1⟩ | ⟨h1,t1⟩<;>rcases key j q hj with⟨h2,l2⟩ | ⟨h2,t2⟩
   ·exact h.tx i j p q h1 h2 he
   ·exact Xc (he.trans t2) (s2 i p h1 (by omega))
   ·exact Xc (he.symm.trans t1) (s2 j q h2 (by omega))
   ·omega
  ·rcases XP.1 hp with hp | hp
   ·exact h.val p hp c hc
   ·rw[QO.1 hp] at hc ⊢;obtain⟨a,b⟩:=hv c hc;exact⟨a,b.symm⟩
 | some p0=>
  have ht:=s1 p0 hg;have Xa:=(Jd.1 hg).1;simp only;generalize Wy ps t=i0 at*;have key:∀i (p:Pr),(ps.set i0 ⟨λe=>p0.o e||v.o e,p0.t⟩)[i]? =some p->(i≠i0/\ps[i]? =some p)∨(i=i0/\p=⟨λe=>p0.o e||v.o e,p0.t⟩):=λi p hi=>by
   by_cases wW:i0=i
   ·subst wW;rw[jZ Xa] at hi;exact .inr ⟨rfl,(Option.some.inj hi).symm⟩
   ·rw[gK wW] at hi;exact .inl ⟨λe=>wW e.symm,hi⟩
  refine⟨λu hu c hc=>?_,λi j p q hi hj he=>?_,λp hp c hc=>?_⟩
  ·rcases XP.1 hu with hu | hu
   ·obtain⟨p,hp,KM⟩:=h.cov u hu c hc;obtain⟨i,hi⟩:=xi.1 hp;by_cases wW:i0=i
    ·subst wW;rw[hg] at hi;cases hi;exact⟨_,Xl (jZ Xa),by simp only;rw[KM];rfl⟩
    ·exact⟨p,Xl (i:=i) (by rw[gK wW];exact hi),KM⟩
   ·rw[QO.1 hu] at hc;refine⟨_,Xl (jZ Xa),?_⟩;simp only;rw[show v.o (bits c)=true from (JC.1 hc).2,Bool.or_true]
  ·rcases key i p hi with⟨n1,h1⟩ | ⟨h1,e1⟩<;>rcases key j q hj with⟨n2,h2⟩ | ⟨h2,e2⟩
   ·exact h.tx i j p q h1 h2 he
   ·rw[h2];exact h.tx i i0 p p0 h1 hg (by rw[he,e2])
   ·rw[h1];exact h.tx i0 j p0 q hg h2 (by rw[<-he,e1])
   ·omega
  ·obtain⟨i,hi⟩:=xi.1 hp;rcases key i p hi with⟨_,h1⟩ | ⟨_,e1⟩
   ·exact h.val p (Xl h1) c hc
   ·subst e1;obtain⟨c1,c2⟩:=JC.1 hc;have c2:(p0.o (bits c)||v.o (bits c))=true:=c2;rw[Bool.or_eq_true] at c2;rcases c2 with c2 | c2
    ·exact h.val p0 (Xl hg) c (JC.2 ⟨c1,c2⟩)
    ·obtain⟨a,b⟩:=hv c (JC.2 ⟨c1,c2⟩);exact⟨a,by rw[b];exact ht⟩
theorem QI.pa {n:Nat}{f:List Nat}{S:List Nat}{a:Nat}{es:List Ed}{ver:Nat->List Nat}{vs:List AV}{ps:List Pr}(h:QI n S ver vs ps)(hv:VI n f S a es vs)(hS:∀c∈S,c<2^n):PaOk S ps/\∀c∈S,fP ps c=ver c:=by
 have hp:PaOk S ps:=by
  refine⟨λc hc=>?_,λc hc i j p q hi hj h1 h2=>?_⟩
  ·obtain⟨v,nI,qv⟩:=hv.cov c hc;exact h.cov v nI c (JC.2 ⟨hS c hc,qv⟩)
  ·refine h.tx i j p q hi hj ?_;rw[(h.val p (Xl hi) c (JC.2 ⟨hS c hc,h1⟩)).2,(h.val q (Xl hj) c (JC.2 ⟨hS c hc,h2⟩)).2]
 refine⟨hp,λc hc=>?_⟩;obtain⟨p,pV,KM⟩:=hp.cov c hc;rw[hp.get hc pV KM,(h.val p pV c (JC.2 ⟨hS c hc,KM⟩)).2]
def IR (n:Nat):List Nat->List Pr->Bool
 | R,[]=>decide (R=[])
 | R,p::ps=>(decide (QG n p.o≠ [])&&(QG n p.o).all (λc=>decide (c∈R))&&K5 p.t)&&IR n (kD n R p.o) ps
def jh (nm:List (List Nat))(o:BF)(ps:List Pr):Except Int (List Nat):=
 if IR nm.length (QG nm.length o) ps=false then .error 290
 else if ps=[] then .ok []
 else if 1048576<(Qp (Zn nm (fP ps) nm.length 0 (QG nm.length o))).length then .error 2
 else .ok (Qp (Zn nm (fP ps) nm.length 0 (QG nm.length o)))
theorem aQX {n:Nat}:∀(ps:List (DV×List Nat))(R:List Nat),(∀p∈ps,Kp n p.1.nd p.1.r=true)->bn n R ps=IR n R (ZD ps)
 | [],R,_=>rfl
 | p::ps,R,h=>by
  have ih:=aQX ps (kD n R (oD p.1)) (λq hq=>h q (by simp[hq]));show(_&&bn n (kD n R (oD p.1)) ps)=_;rw[ih,h p (by simp),dB]<;>rfl
theorem aQY {nm:List (List Nat)}{x:DV}{ps:List (DV×List Nat)}(hn:Z1 nm=true)(hx:Kp nm.length x.nd x.r=true)(h:∀p∈ps,Kp nm.length p.1.nd p.1.r=true):mv nm x ps=jh nm (oD x) (ZD ps):=by
 unfold mv jh;rw[if_neg (by rw[hn,hx];simp),aQX ps _ h];by_cases h0:ps=[]
 ·subst h0;rfl
 ·have h1:ZD ps≠ []:=λe=>h0 (by simpa [ZD] using e)
  rw[if_neg h0,if_neg h1]
def kH (k:Int):List PanicEntry:=[{v:=.iface 34 (.int .i64 k),recovered:=false}]
theorem Wb (k:Int)(hk:k≠0)(w:World):FnP Tryz.prog 44 [.int .i64 k] w (λ_ _=>False) (λch w'=>ch=kH k/\w=w'):=by
 refine bQ (c:={RE with cuts:=[]}) Qa Tryz.func44 rfl rfl rfl ?_;refine ri hk ?_;exact rv rfl rfl ⟨rfl,rfl⟩
theorem aQZ (A:Option Addr)(n c:Nat)(ls:List (List Nat))(w:World)(h:Sn w A n c (JY ls))(QZ:(Qp ls).length<=1000000000000000000):
  FnP Tryz.prog 50 [.slice A n c] w (λu w'=>(Qp ls).length<=1048576/\u= .string (Qd (Qp ls))/\Ext w w') (λch w'=>1048576<(Qp ls).length/\ch=kH 2/\w=w'):=by
 by_cases ZF:(Qp ls).length<=1048576
 ·exact(kQx A n c ls w h ZF).toP.mono (λv w' hh=>⟨ZF,hh.1,hh.2⟩) (λ_ _ hh=>hh)
 have hl:=kE h.1;have cy:=rI ls;refine bQ (c:={RF with cuts:=[]}) Qa Tryz.func50 rfl rfl rfl ?_;refine loop Qa [8,3] (λi:Nat=>[.int .i64 i,.int .i64 (Qp (ls.take i)).length]) (λi w'=>w=w'/\i<=n/\(Qp (ls.take i)).length<=1048576) (λi _=>n-i) 0 rfl ⟨rfl,Xo _,by simp[Qp]⟩ ?_;rintro i _ ⟨rfl,hi,tM⟩;refine Qw (λc1=>?_) (λc1=>?_)
 ·have Q4:i<n:=by omega
  obtain⟨s,hs⟩:∃s,ls[i]? =some s:=⟨_,Xu (by omega)⟩
  have KX:ls.take (i+1)=ls.take i++ [s]:=by rw[VF,hs]<;>rfl
  have hu:=aQv (ls.take i) s;rw[<-KX] at hu;have bQ9:(Qp (ls.take (i+1))).length<=(Qp ls).length:=by
   have e5:Qp ls=Qp (ls.take (i+1))++Qp (ls.drop (i+1)):=by
    have e6:∀a b:List (List Nat),Qp (a++b)=Qp a++Qp b:=λa b=>by simp[Qp]
    rw[<-e6,aQ]
   rw[e5,Qq];omega
  refine KF h.1 Q4 (λad u hA iE Xq=>?_);rw[bZ hs] at iE;cases iE;refine load Xq ?_;have XQ:=Q8 (s++ [10]);rw[Qq,nU] at XQ;refine Qj (((Qp (ls.take (i+1))).length:Nat):Int) (by rw[hu];omega) (by omega) ?_;refine Qw (λd1=>?_) (λd1=>?_)
  ·refine XU (Wb 2 (by decide) w) (λ_ _ hf=>hf.elim) ?_;rintro ch _ ⟨rfl,rfl⟩;exact⟨by omega,rfl,rfl⟩
  ·refine Qj ((i+1:Nat):Int) (by show((i:Nat):Int)+1=_;omega) (by omega) ?_;exact⟨i+1,rfl,⟨rfl,Q4,by omega⟩,by show n-(i+1)<n-i;omega⟩
 ·have:i=n:=by omega
  subst this;rw[ZS (by omega)] at tM;exact Xc tM ZF
theorem kQ6 (nm:List (List Nat)):uW nm [] 1=if Z1 nm=true then(WY,0)else([],1):=by
 have h1:XC [] 1=0:=(bV 0 true).chk (by decide);have h2:a8 [] 1=(Zd (.c true) 0,0):=by
  rw[Tx h1];have e:cf [] 1= .c true:=rfl;rw[e,if_neg (by decide)]
 unfold uW;rw[h2];by_cases h:Z1 nm=true
 ·rw[Qf h,Qf h,Qf rfl,Sw h (Tp (show VarsIn 64 (.c true) from trivial) (by decide)) (λx hx ho=>by
   rw[QO.1 hx] at ho;exact Xc ho (by decide)),Hw]
  rfl
 ·rw[if_neg h,if_neg h]
abbrev IS (nm:List (List Nat))(x:DV):Prop:=Z1 nm=true/\Kp nm.length x.nd x.r=true
theorem kQ7 {l:List Nat}{N:Nat}(hl:l=Nt.Kh N)(hN:N<=4096):Nt.vt l=N/\Nt.mB l=true:=by
 have dw:N<4294967296^1024:=(show ∀k,0<k->N<4294967296^k from λk p=>Yq (show N<4294967296^1 by omega) (aT (by decide) p)) 1024 (by decide);have QZ:(Nt.Kh N).length<=2:=(Nt.ID N 2).2 (by omega);obtain⟨e1,e2⟩:=Nt.aQL (l:=l) (by rw[hl];exact Nt.vr dw) (by rw[hl];exact QZ);exact⟨by rw[e1,hl,Nt.rW],e2⟩
theorem aQ0 (NA:Option Addr)(nn nc:Nat)(nm:List (List Nat))(x:DV)(cQG:nm.length<=12)(Yp:KO nm)(w:World)(hN:Sl w 1 NA nn nc (XH nm))(hx:SB w x.A x.n x.c x.nd):
  FnP Tryz.prog 42 [.slice NA nn nc,Xm x.A x.n x.c x.r] w (λ_ w'=>IS nm x/\Ext w w') (λch w'=>¬IS nm x/\ch=kH 1/\Ext w w'):=by
 have QZ:nm.length=nn:=by have:=hN.len;rw[bT] at this;omega
 refine bQ (c:={c42 with cuts:=[]}) Qa Tryz.func42 rfl rfl rfl ?_;refine new (λw1 Qe Q6 Qh=>?_);refine call (dM true w1) ?_;rintro _ w2 ⟨rfl,Qg⟩;have QT:=Qe.trans Qg;refine call (hQE nm NA none nn nc 0 0 [] 1 w2 (hN.ext QT) Yp (SlS.nil _) (by
  have h1:XC [] 1=0:=(bV 0 true).chk (by decide);have h2:a8 [] 1=(Zd (.c true) 0,0):=by
   rw[Tx h1];have e:cf [] 1= .c true:=rfl;rw[e,if_neg (by decide)]
  rw[h2];show(Z4 nm 0 (gW (Zd (.c true) 0))).length<=_;rw[Hw];show WY.length<=_;decide)) ?_
 rintro _ w3 ⟨rfl,Qi⟩;have QU:=QT.trans Qi;rw[kQ6 nm];by_cases X5:Z1 nm=true
 ·rw[Qf X5];refine WX rfl ?_;refine Qt ((Qh.ext Qg).ext Qi) rfl ?_;rw[<-QZ];refine call (It x.A x.n x.c nm.length x.nd x.r w3 (hx.ext QU)) ?_;rintro _ w4 ⟨rfl,Qs⟩;have Xp:=QU.trans Qs;cases YI:Kp nm.length x.nd x.r with
  | false=>
   refine Xd rfl ?_;refine XU (Wb 1 (by decide) w4) (λ_ _ hf=>hf.elim) ?_;rintro ch _ ⟨rfl,rfl⟩;exact⟨λhh=>(by have h2:=hh.2;rw[YI] at h2;cases h2),rfl,Xp⟩
  | true=>
   refine Q9 rfl ?_;refine Qt (((Qh.ext Qg).ext Qi).ext Qs) rfl ?_;refine call (kQ0 x nm.length cQG w4 (hx.ext Xp) YI) ?_;rintro _ w5 ⟨_,rfl,⟨A,m,c,N,rfl,hS,A0⟩,Qx⟩;have Nr:N<=4096:=X3 A0 (X3 (aT (by decide) cQG) (by decide));obtain⟨e1,e2⟩:=kQ7 rfl Nr;refine call (Iu w5) ?_;rintro _ _ rfl;refine call (Nt.kQU A m c (Nt.Kh N) w5 hS (Nt.Di N)) ?_;rintro _ _ ⟨rfl,rfl⟩;rw[e1,e2];refine Q9 rfl ?_;refine XJ (by omega) ?_;exact⟨⟨X5,YI⟩,Xp.trans Qx⟩
 ·rw[if_neg X5];refine ri (by decide) ?_;refine XU (Wb 1 (by decide) w3) (λ_ _ hf=>hf.elim) ?_;rintro ch _ ⟨rfl,rfl⟩;exact⟨λhh=>X5 hh.1,rfl,QU⟩
theorem aQ1 {c:Cx}{o:Oper}{S:Env}{w:World}{K:Env->World->Prop}{Q:Zs}{x:Operand}{tx t:Nat}{k:IntKind}{r:TyRow}(hg:c.g.Ok)(ho:o.op= .typeAssert x tx t true)(hr:Q0 c.g.tys t=some r)(hd:r.d= .int k)(hx:S.ev x=some .nilIface)
  (kk:Xf c S o.dst (.v (.tuple #[r.z,.bool false])) (λS=>K S w)):Zh c o S w K Q:=by
 obtain⟨Q5,i,hi,_,_,hz⟩:=hg.row hr;rw[hd] at Q5;refine JT (w':=w) (v:=.tuple #[r.z,.bool false]) (λa hf=>?_) kk;have e1:=hf.ev hx;simp only[execOp,ho,e1];simp[Instr.typeAssert,Ja Q5,zeroValue,typeInfo,hi,hz]
def Dn (f e:Nat)(k:Int)(w w':World):Prop:=Blk w' f 9 [.string ⟨#[]⟩]/\Blk w' e 34 [.int .i64 k]/\Mod (λi=>i=f∨i=e) w w'
theorem rY (f e:Nat)(k:Int)(w:World)(v1 v2:Value)(QX:f≠e)(hf:Blk w f 9 [v1])(he:Blk w e 34 [v2]):
  CallsD Tryz.prog 60 #[.pointer (some ⟨f,0,none⟩),.pointer (some ⟨e,0,none⟩)] (.panicking (kH k)) w
   (λen u' w'=>∃v,en= .returned v/\settle u'= .returning/\Dn f e k w w'):=by
 refine callsD_of_wpS Tryz.func60 rfl λc₀ cs hu=>?_
 have Kl:=gQ (N:=Tryz.f60.ntmps) [.pointer (some ⟨f,0,none⟩),.pointer (some ⟨e,0,none⟩)] (iN rfl) [(0,.v (.pointer (some ⟨f,0,none⟩))),(1,.v (.pointer (some ⟨e,0,none⟩)))] (by
  intro k x hk
  match k,hk with
  | 0,hk=>cases hk;rfl
  | 1,hk=>cases hk;rfl
  | k+2,hk=>exact nomatch (show(none:Option Ent)=some x from hk))
 have Kj:=Kl.put (d:=5) (by decide) (.v (.iface 34 (.int .i64 k)));refine wpS_seq (wpS_region ?_);show wpOpsS _ _ _ [0,1,2,3,4,5,6] _ _ _;refine vf (o:=_) (cs':={c₀ with mode:=.panicking [{v:=.iface 34 (.int .i64 k),recovered:=true}]}::cs) (v:=.iface 34 (.int .i64 k)) (d:=5) rfl rfl rfl rfl (.inl (by simp[recoverD,hu,kH])) ?_;generalize cE:Act.put _ (some 5) _=act;have jB:Fits cL.N [(5,.v (.iface 34 (.int .i64 k))),(0,.v (.pointer (some ⟨f,0,none⟩))),(1,.v (.pointer (some ⟨e,0,none⟩)))] act:=by rw[<-cE];exact Kj
 clear cE Kj Kl;generalize ZI: #[_,_,_,_,_,_,_]=zD;have h1:=(QC (λ(x:Array Oper)=>x[1]?) ZI).symm;have h2:=(QC (λ(x:Array Oper)=>x[2]?) ZI).symm;have h3:=(QC (λ(x:Array Oper)=>x[3]?) ZI).symm;have h4:=(QC (λ(x:Array Oper)=>x[4]?) ZI).symm;have h5:=(QC (λ(x:Array Oper)=>x[5]?) ZI).symm;have h6:=(QC (λ(x:Array Oper)=>x[6]?) ZI).symm;clear ZI;refine JU (c:=cL) Qa rfl h1 rfl jB (K:=λS' w'=>S'=[(6,Ent.v (.tuple #[.int .i64 k,.bool true])),(5,.v (.iface 34 (.int .i64 k))),(0,.v (.pointer (some ⟨f,0,none⟩))),(1,.v (.pointer (some ⟨e,0,none⟩)))]/\w=w') (G5 Qa rfl rfl rfl rfl ⟨rfl,rfl⟩) ?_;rintro _ a1 _ Zp ⟨rfl,rfl⟩;refine JU (c:=cL) Qa rfl h2 rfl Zp (K:=λS' w'=>S'=_/\w=w') ⟨rfl,rfl⟩ ?_;rintro _ a2 _ Z5 ⟨rfl,rfl⟩;refine JU (c:=cL) Qa rfl h3 rfl Z5 (K:=λS' w'=>S'=_/\w=w') ⟨rfl,rfl⟩ ?_;rintro _ a3 _ jC ⟨rfl,rfl⟩;refine JU (c:=cL) Qa rfl h4 rfl jC (K:=λS' w'=>S'=_/\w=w') ⟨rfl,rfl⟩ ?_;rintro _ a4 _ jD ⟨rfl,rfl⟩;refine JU (c:=cL) Qa rfl h5 rfl jD (K:=λS' w'=>S'=_/\w=w') ⟨rfl,rfl⟩ ?_;rintro _ a5 _ Kj ⟨rfl,rfl⟩;refine JU (c:=cL) Qa rfl h6 rfl Kj (K:=λS' w'=>S'=_/\w=w') ⟨rfl,rfl⟩ ?_;rintro _ a6 _ cZ ⟨rfl,rfl⟩;unfold wpOpsS;refine ov (c:=cL) Qa rfl cZ ?_;refine Xd rfl ?_;refine KZ hf (by simp) (λw1 ZE Qh=>?_);refine KZ (he.mod ZE (λh=>QX h.symm)) (by simp) (λw2 XW Qy=>?_);exact⟨_,rfl,rfl,Qh.mod XW QX,Qy,(ZE.mono (λi hi=>.inl (.inl hi))).trans XW (λi hi=>.inl (.inr hi))⟩
theorem aQ2 (f e:Nat)(w:World):
  CallsD Tryz.prog 60 #[.pointer (some ⟨f,0,none⟩),.pointer (some ⟨e,0,none⟩)] .returning w
   (λen u' w'=>∃v,en= .returned v/\settle u'= .returning/\w=w'):=by
 refine callsD_of_wpS Tryz.func60 rfl λc₀ cs hu=>?_
 have Kl:=gQ (N:=Tryz.f60.ntmps) [.pointer (some ⟨f,0,none⟩),.pointer (some ⟨e,0,none⟩)] (iN rfl) [(0,.v (.pointer (some ⟨f,0,none⟩))),(1,.v (.pointer (some ⟨e,0,none⟩)))] (by
  intro k x hk
  match k,hk with
  | 0,hk=>cases hk;rfl
  | 1,hk=>cases hk;rfl
  | k+2,hk=>exact nomatch (show(none:Option Ent)=some x from hk))
 have Kj:=Kl.put (d:=5) (by decide) (.v .nilIface);refine wpS_seq (wpS_region ?_);show wpOpsS _ _ _ [0,1,2,3,4,5,6] _ _ _;refine vf (o:=_) (cs':={c₀ with mode:=.returning}::cs) (v:=.nilIface) (d:=5) rfl rfl rfl rfl (.inr ⟨by simp[recoverD,hu],rfl,by rw[<-hu]⟩) ?_;generalize cE:Act.put _ (some 5) _=act;have jB:Fits cL.N [(5,.v .nilIface),(0,.v (.pointer (some ⟨f,0,none⟩))),(1,.v (.pointer (some ⟨e,0,none⟩)))] act:=by rw[<-cE];exact Kj
 clear cE Kj Kl;generalize ZI: #[_,_,_,_,_,_,_]=zD;have h1:=(QC (λ(x:Array Oper)=>x[1]?) ZI).symm;have h2:=(QC (λ(x:Array Oper)=>x[2]?) ZI).symm;have h3:=(QC (λ(x:Array Oper)=>x[3]?) ZI).symm;have h4:=(QC (λ(x:Array Oper)=>x[4]?) ZI).symm;have h5:=(QC (λ(x:Array Oper)=>x[5]?) ZI).symm;have h6:=(QC (λ(x:Array Oper)=>x[6]?) ZI).symm;clear ZI;refine JU (c:=cL) Qa rfl h1 rfl jB (K:=λS' w'=>S'=_/\w=w') (aQ1 Qa rfl rfl rfl rfl ⟨rfl,rfl⟩) ?_;rintro _ a1 _ Zp ⟨rfl,rfl⟩;refine JU (c:=cL) Qa rfl h2 rfl Zp (K:=λS' w'=>S'=_/\w=w') ⟨rfl,rfl⟩ ?_;rintro _ a2 _ Z5 ⟨rfl,rfl⟩;refine JU (c:=cL) Qa rfl h3 rfl Z5 (K:=λS' w'=>S'=_/\w=w') ⟨rfl,rfl⟩ ?_;rintro _ a3 _ jC ⟨rfl,rfl⟩;refine JU (c:=cL) Qa rfl h4 rfl jC (K:=λS' w'=>S'=_/\w=w') ⟨rfl,rfl⟩ ?_;rintro _ a4 _ jD ⟨rfl,rfl⟩;refine JU (c:=cL) Qa rfl h5 rfl jD (K:=λS' w'=>S'=_/\w=w') ⟨rfl,rfl⟩ ?_;rintro _ a5 _ Kj ⟨rfl,rfl⟩;refine JU (c:=cL) Qa rfl h6 rfl Kj (K:=λS' w'=>S'=_/\w=w') ⟨rfl,rfl⟩ ?_;rintro _ a6 _ cZ ⟨rfl,rfl⟩;unfold wpOpsS;refine ov (c:=cL) Qa rfl cZ ?_;refine Q9 rfl ?_;exact⟨_,rfl,rfl,rfl⟩
theorem vu (f e:Nat)(k:Int)(w:World)(v1 v2:Value)(QX:f≠e)(hf:Blk w f 9 [v1])(he:Blk w e 34 [v2]):
  CallsD Tryz.prog 41 #[.pointer (some ⟨f,0,none⟩),.pointer (some ⟨e,0,none⟩)] (.panicking (kH k)) w
   (λen u' w'=>∃v,en= .returned v/\settle u'= .returning/\Dn f e k w w'):=by
 refine callsD_of_wpS Tryz.func41 rfl λc₀ cs hu=>?_
 have Kl:=gQ (N:=Tryz.f41.ntmps) [.pointer (some ⟨f,0,none⟩),.pointer (some ⟨e,0,none⟩)] (iN rfl) [(0,.v (.pointer (some ⟨f,0,none⟩))),(1,.v (.pointer (some ⟨e,0,none⟩)))] (by
  intro k x hk
  match k,hk with
  | 0,hk=>cases hk;rfl
  | 1,hk=>cases hk;rfl
  | k+2,hk=>exact nomatch (show(none:Option Ent)=some x from hk))
 have Kj:=Kl.put (d:=5) (by decide) (.v (.iface 34 (.int .i64 k)));refine wpS_seq (wpS_region ?_);show wpOpsS _ _ _ [0,1,2,3,4,5,6] _ _ _;refine vf (o:=_) (cs':={c₀ with mode:=.panicking [{v:=.iface 34 (.int .i64 k),recovered:=true}]}::cs) (v:=.iface 34 (.int .i64 k)) (d:=5) rfl rfl rfl rfl (.inl (by simp[recoverD,hu,kH])) ?_;generalize cE:Act.put _ (some 5) _=act;have jB:Fits cK.N [(5,.v (.iface 34 (.int .i64 k))),(0,.v (.pointer (some ⟨f,0,none⟩))),(1,.v (.pointer (some ⟨e,0,none⟩)))] act:=by rw[<-cE];exact Kj
 clear cE Kj Kl;generalize ZI: #[_,_,_,_,_,_,_]=zD;have h1:=(QC (λ(x:Array Oper)=>x[1]?) ZI).symm;have h2:=(QC (λ(x:Array Oper)=>x[2]?) ZI).symm;have h3:=(QC (λ(x:Array Oper)=>x[3]?) ZI).symm;have h4:=(QC (λ(x:Array Oper)=>x[4]?) ZI).symm;have h5:=(QC (λ(x:Array Oper)=>x[5]?) ZI).symm;have h6:=(QC (λ(x:Array Oper)=>x[6]?) ZI).symm;clear ZI;refine JU (c:=cK) Qa rfl h1 rfl jB (K:=λS' w'=>S'=[(6,Ent.v (.tuple #[.int .i64 k,.bool true])),(5,.v (.iface 34 (.int .i64 k))),(0,.v (.pointer (some ⟨f,0,none⟩))),(1,.v (.pointer (some ⟨e,0,none⟩)))]/\w=w') (G5 Qa rfl rfl rfl rfl ⟨rfl,rfl⟩) ?_;rintro _ a1 _ Zp ⟨rfl,rfl⟩;refine JU (c:=cK) Qa rfl h2 rfl Zp (K:=λS' w'=>S'=_/\w=w') ⟨rfl,rfl⟩ ?_;rintro _ a2 _ Z5 ⟨rfl,rfl⟩;refine JU (c:=cK) Qa rfl h3 rfl Z5 (K:=λS' w'=>S'=_/\w=w') ⟨rfl,rfl⟩ ?_;rintro _ a3 _ jC ⟨rfl,rfl⟩;refine JU (c:=cK) Qa rfl h4 rfl jC (K:=λS' w'=>S'=_/\w=w') ⟨rfl,rfl⟩ ?_;rintro _ a4 _ jD ⟨rfl,rfl⟩;refine JU (c:=cK) Qa rfl h5 rfl jD (K:=λS' w'=>S'=_/\w=w') ⟨rfl,rfl⟩ ?_;rintro _ a5 _ Kj ⟨rfl,rfl⟩;refine JU (c:=cK) Qa rfl h6 rfl Kj (K:=λS' w'=>S'=_/\w=w') ⟨rfl,rfl⟩ ?_;rintro _ a6 _ cZ ⟨rfl,rfl⟩;unfold wpOpsS;refine ov (c:=cK) Qa rfl cZ ?_;refine Xd rfl ?_;refine KZ hf (by simp) (λw1 ZE Qh=>?_);refine KZ (he.mod ZE (λh=>QX h.symm)) (by simp) (λw2 XW Qy=>?_);exact⟨_,rfl,rfl,Qh.mod XW QX,Qy,(ZE.mono (λi hi=>.inl (.inl hi))).trans XW (λi hi=>.inl (.inr hi))⟩
theorem aQ3 (f e:Nat)(w:World):
  CallsD Tryz.prog 41 #[.pointer (some ⟨f,0,none⟩),.pointer (some ⟨e,0,none⟩)] .returning w
   (λen u' w'=>∃v,en= .returned v/\settle u'= .returning/\w=w'):=by
 refine callsD_of_wpS Tryz.func41 rfl λc₀ cs hu=>?_
 have Kl:=gQ (N:=Tryz.f41.ntmps) [.pointer (some ⟨f,0,none⟩),.pointer (some ⟨e,0,none⟩)] (iN rfl) [(0,.v (.pointer (some ⟨f,0,none⟩))),(1,.v (.pointer (some ⟨e,0,none⟩)))] (by
  intro k x hk
  match k,hk with
  | 0,hk=>cases hk;rfl
  | 1,hk=>cases hk;rfl
  | k+2,hk=>exact nomatch (show(none:Option Ent)=some x from hk))
 have Kj:=Kl.put (d:=5) (by decide) (.v .nilIface);refine wpS_seq (wpS_region ?_);show wpOpsS _ _ _ [0,1,2,3,4,5,6] _ _ _;refine vf (o:=_) (cs':={c₀ with mode:=.returning}::cs) (v:=.nilIface) (d:=5) rfl rfl rfl rfl (.inr ⟨by simp[recoverD,hu],rfl,by rw[<-hu]⟩) ?_;generalize cE:Act.put _ (some 5) _=act;have jB:Fits cK.N [(5,.v .nilIface),(0,.v (.pointer (some ⟨f,0,none⟩))),(1,.v (.pointer (some ⟨e,0,none⟩)))] act:=by rw[<-cE];exact Kj
 clear cE Kj Kl;generalize ZI: #[_,_,_,_,_,_,_]=zD;have h1:=(QC (λ(x:Array Oper)=>x[1]?) ZI).symm;have h2:=(QC (λ(x:Array Oper)=>x[2]?) ZI).symm;have h3:=(QC (λ(x:Array Oper)=>x[3]?) ZI).symm;have h4:=(QC (λ(x:Array Oper)=>x[4]?) ZI).symm;have h5:=(QC (λ(x:Array Oper)=>x[5]?) ZI).symm;have h6:=(QC (λ(x:Array Oper)=>x[6]?) ZI).symm;clear ZI;refine JU (c:=cK) Qa rfl h1 rfl jB (K:=λS' w'=>S'=_/\w=w') (aQ1 Qa rfl rfl rfl rfl ⟨rfl,rfl⟩) ?_;rintro _ a1 _ Zp ⟨rfl,rfl⟩;refine JU (c:=cK) Qa rfl h2 rfl Zp (K:=λS' w'=>S'=_/\w=w') ⟨rfl,rfl⟩ ?_;rintro _ a2 _ Z5 ⟨rfl,rfl⟩;refine JU (c:=cK) Qa rfl h3 rfl Z5 (K:=λS' w'=>S'=_/\w=w') ⟨rfl,rfl⟩ ?_;rintro _ a3 _ jC ⟨rfl,rfl⟩;refine JU (c:=cK) Qa rfl h4 rfl jC (K:=λS' w'=>S'=_/\w=w') ⟨rfl,rfl⟩ ?_;rintro _ a4 _ jD ⟨rfl,rfl⟩;refine JU (c:=cK) Qa rfl h5 rfl jD (K:=λS' w'=>S'=_/\w=w') ⟨rfl,rfl⟩ ?_;rintro _ a5 _ Kj ⟨rfl,rfl⟩;refine JU (c:=cK) Qa rfl h6 rfl Kj (K:=λS' w'=>S'=_/\w=w') ⟨rfl,rfl⟩ ?_;rintro _ a6 _ cZ ⟨rfl,rfl⟩;unfold wpOpsS;refine ov (c:=cK) Qa rfl cZ ?_;refine Q9 rfl ?_;exact⟨_,rfl,rfl,rfl⟩
def kQ8:List (List Nat):=[[120],[43],[121],[42],[40],[41],[105,102],[101,108,115,101],[59],[94],[122],[37,99]]
theorem aQ4 (k:Nat)(w:World)(hk:k<=255):Fn Tryz.prog 190 [.int .u8 k] w (λv w'=>v= .string (Qd (Y9 k))/\Ext w w'):=by
 refine QJ (c:={fQw with cuts:=[]}) Qa Tryz.func190 rfl rfl rfl ?_;have X0:k % 12<12:=bP _ (by decide);refine Xg Qa (kQ8.map (λs=>[Value.string (Qd s)])) rfl rfl rfl rfl rfl ⟨rfl,rfl,rfl,rfl,rfl,rfl,rfl,rfl,rfl,rfl,rfl,rfl,rfl,rfl,rfl,rfl,rfl,rfl,rfl,rfl,rfl,rfl,rfl,rfl,⟨⟩⟩ rfl (λcs h=>by simp only[Zk] at h;obtain⟨s,_,rfl⟩:=h;rfl) rfl (by decide) (by decide) ?_;intro w1 Qe Q6 Qh;refine Qj ((k:Nat):Int) rfl (by omega) ?_;refine normIf (m:=((k % 12:Nat):Int)) (by decide) (eK k 12) ?_;refine index (j:=k % 12) X0 ?_;refine Qo Qh (v:=.string (Qd (Y9 k))) (by
  unfold Y9;generalize k % 12=r at X0;rcases(show r=0∨r=1∨r=2∨r=3∨r=4∨r=5∨r=6∨r=7∨r=8∨r=9∨r=10∨r=11 by omega)with rfl | rfl | rfl | rfl | rfl | rfl | rfl | rfl | rfl | rfl | rfl | rfl<;>rfl) ?_
 exact⟨rfl,Qe⟩
theorem vv (x:Lx)(w:World)(hx:LxOk w x):Fn Tryz.prog 131 [.agg x.cells.toArray] w (λv w'=>v= .string (Qd (KH x.k x.ws++ [10]))/\Ext w w'):=by
 have hn:x.ws.length=x.n:=by have:=hx.sl.len;rw[uo] at this;omega
 have cw:x.n<=9223372036854775807:=by have:=hx.sl.le;have:=hx.sl.cap;simp only[maxLen] at this;omega
 have hk:=hx.k8;refine QJ (c:={eQU with cuts:=[]}) Qa Tryz.func131 rfl rfl rfl ?_;refine new (λw1 Qe Q6 Qh=>?_);refine Qz Qh rfl ?_;refine normIf (m:=((x.k/8:Nat):Int)) (by decide) (by
  show IntKind.u8.wrap ((x.k/8:Nat):Int)=_;rw[uk];omega) ?_
 refine Qj ((x.k/8:Nat):Int) rfl (by omega) ?_;refine normIf (m:=((x.k/8 % 4:Nat):Int)) (by decide) (eK _ 4) ?_;have h4:x.k/8 % 4<4:=bP _ (by decide);refine Xy (v':=.string (Qd (List.replicate (x.k/8 % 4) 32))) (by
  generalize x.k/8 % 4=r at h4;rcases(show r=0∨r=1∨r=2∨r=3 by omega)with rfl | rfl | rfl | rfl<;>decide) (by
  generalize x.k/8 % 4=r at h4;rcases(show r=0∨r=1∨r=2∨r=3 by omega)with rfl | rfl | rfl | rfl<;>rfl) ?_
 refine loop Qa [4,3] (λs:Nat×List Nat=>[.int .i64 s.1,.string (Qd s.2)]) (λs w'=>Ext w1 w'/\s.1<=x.n/\s.1<=6/\s.2.length<=3+s.1*5/\s.2++bm (decide (0<s.1)) ((x.ws.take 6).drop s.1)=KH x.k x.ws) (λs _=>6-s.1) (0,List.replicate (x.k/8 % 4) 32) rfl ⟨Ext.refl _,Xo _,Xo _,by simp;omega,rfl⟩ ?_;rintro⟨i,out⟩ w2 ⟨Qg,hi,hi6,tN,QH⟩;simp only at hi hi6 tN QH;have Qy:=Qh.ext Qg;have so:=Q8 out;have qt:=hx.sl.ext (Qe.trans Qg);have fine:out=KH x.k x.ws->out.length<=40->(Qd out).size+(Qd [10]).size<=maxLen:=λ_ h=>by rw[Q8,Q8];show _+1<=maxLen;unfold maxLen;omega
 have stop:(x.ws.take 6).drop i=[]->out=KH x.k x.ws:=λh=>by rw[h,bm,KE] at QH;exact QH
 refine Qo Qy rfl ?_;refine Qw (λc1=>?_) (λc1=>?_)
 ·refine Qw (λc2=>?_) (λc2=>?_)
  ·have Q4:i<x.n:=by omega
   have hg:x.ws[i]? =some (x.ws[i]'(by omega)):=Xu _;have hb:=hx.w8 _ (Xl hg);generalize x.ws[i]'(by omega)=b at*;have aO:(x.ws.take 6).drop i=b::(x.ws.take 6).drop (i+1):=Ia (by rw[qJ (by omega)];exact hg);rw[aO,bm] at QH;obtain⟨_,_,_,hwl⟩:=U5 b;refine Qw (λc3=>?_) (λc3=>?_)
   ·rw[Qf (by simp;omega),<-ZG] at QH;have Ki:(out++ [32]).length<=4+i*5:=by simp;omega
    refine Xy (v':=.string (Qd (out++ [32]))) (by rw[so];show _+1<=maxLen;unfold maxLen;omega) (QC Value.string (ZM out [32])) ?_;generalize out++ [32]=o2 at*;refine Qo Qy rfl ?_;refine KF qt Q4 (λad u hA hu Xq=>?_);rw[rj hg] at hu;cases hu;refine load Xq ?_;refine call (aQ4 b w2 hb) ?_;rintro _ w3 ⟨rfl,Qi⟩;have Ns:=Q8 (o2);have Nv:=Q8 (Y9 b);refine Xy (v':=.string (Qd (o2++Y9 b))) (by rw[Ns,Nv];unfold maxLen;omega) (QC Value.string (ZM _ _)) ?_;have Qu:=Qy.ext Qi;have Nw:=qt.ext Qi;refine Qo Qu rfl ?_;refine KF Nw Q4 (λad u hA hu Xq=>?_);rw[rj hg] at hu;cases hu;refine load Xq ?_;refine normIf (m:=((b % 12:Nat):Int)) (by decide) (eK b 12) ?_;refine X8 (λc4=>?_) (λc4=>?_)
    ·rw[Qf (by omega),KE] at QH;have Nx:=Q8 (o2++Y9 b);refine Xy (v':=.string (Qd (o2++Y9 b++ [10]))) (by rw[Nx,Qq];show _+1<=maxLen;unfold maxLen;omega) (QC Value.string (ZM _ [10])) ?_;exact⟨by rw[<-QH],Qe.trans (Qg.trans Qi)⟩
    ·rw[if_neg (by omega),<-ZG] at QH;refine Qj ((i+1:Nat):Int) (by show((i:Nat):Int)+1=_;omega) (by omega) ?_;exact⟨(i+1,o2++Y9 b),rfl,⟨Qg.trans Qi,by show i+1<=x.n;omega,by show i+1<=6;omega,by show(o2++Y9 b).length<=3+(i+1)*5;rw[Qq];omega,by show _++bm (decide (0<i+1)) _=_;rw[show decide (0<i+1)=true by simp];exact QH⟩,by show 6-(i+1)<6-i;omega⟩
   ·rw[if_neg (by simp;omega),bO] at QH;refine Qo Qy rfl ?_;refine KF qt Q4 (λad u hA hu Xq=>?_);rw[rj hg] at hu;cases hu;refine load Xq ?_;refine call (aQ4 b w2 hb) ?_;rintro _ w3 ⟨rfl,Qi⟩;have Ns:=Q8 (out);have Nv:=Q8 (Y9 b);refine Xy (v':=.string (Qd (out++Y9 b))) (by rw[Ns,Nv];unfold maxLen;omega) (QC Value.string (ZM _ _)) ?_;have Qu:=Qy.ext Qi;have Nw:=qt.ext Qi;refine Qo Qu rfl ?_;refine KF Nw Q4 (λad u hA hu Xq=>?_);rw[rj hg] at hu;cases hu;refine load Xq ?_;refine normIf (m:=((b % 12:Nat):Int)) (by decide) (eK b 12) ?_;refine X8 (λc4=>?_) (λc4=>?_)
    ·rw[Qf (by omega),KE] at QH;have Nx:=Q8 (out++Y9 b);refine Xy (v':=.string (Qd (out++Y9 b++ [10]))) (by rw[Nx,Qq];show _+1<=maxLen;unfold maxLen;omega) (QC Value.string (ZM _ [10])) ?_;exact⟨by rw[<-QH],Qe.trans (Qg.trans Qi)⟩
    ·rw[if_neg (by omega),<-ZG] at QH;refine Qj ((i+1:Nat):Int) (by show((i:Nat):Int)+1=_;omega) (by omega) ?_;exact⟨(i+1,out++Y9 b),rfl,⟨Qg.trans Qi,by show i+1<=x.n;omega,by show i+1<=6;omega,by show(out++Y9 b).length<=3+(i+1)*5;rw[Qq];omega,by show _++bm (decide (0<i+1)) _=_;rw[show decide (0<i+1)=true by simp];exact QH⟩,by show 6-(i+1)<6-i;omega⟩
  ·have e:=stop (nR (by rw[Kx];omega));refine Xy (v':=.string (Qd (out++ [10]))) (fine e (by omega)) (QC Value.string (ZM out [10])) ?_;exact⟨by rw[e],Qe.trans Qg⟩
 ·have e:=stop (nR (by rw[Kx];omega));refine Xy (v':=.string (Qd (out++ [10]))) (fine e (by omega)) (QC Value.string (ZM out [10])) ?_;exact⟨by rw[e],Qe.trans Qg⟩
end
section
theorem IT (x:Lx):x.cells.length=3:=rfl
section
variable {k0:Nat} {ic:Bool} {x:Lx} {op:List Bool}
theorem vw (h4:x.k % 8=4->3<=op.length)(h5:x.k % 8=5->op.head? ≠some false)(h6:x.k % 8=6->op=[])(h7:x.k % 8=7->ic=false):Yy k0 ic x op=(.tx (KH x.k x.ws),op):=by
 unfold Yy;rw[if_neg (λh=>by have:=h4 h.1;omega),if_neg (λh=>h5 h.1 h.2.1),if_neg (λh=>h5 h.1 h.2),if_neg (λh=>h.2 (h6 h.1)),if_neg (λh=>by rw[h7 h.1] at h;exact Xc h.2 (by decide))]
theorem kQ9 (h4:x.k % 8=4)(h:op.length<3):Yy k0 ic x op=(.ifd (YQ (Zm.take k0) x.i) (vk k0 x.i),false::op):=by
 unfold Yy;rw[Qf ⟨h4,h⟩]
theorem lQa {Xs:List Bool}(h5:x.k % 8=5)(h:x.i % 2=0):Yy k0 ic x (false::Xs)=(.elif (YQ (Zm.take k0) (x.i/2)) (vk k0 (x.i/2)),false::Xs):=by
 unfold Yy;rw[if_neg (by omega),Qf ⟨h5,rfl,h⟩]
theorem lQb {Xs:List Bool}(h5:x.k % 8=5)(h:x.i % 2≠0):Yy k0 ic x (false::Xs)=(.els,true::Xs):=by
 unfold Yy;rw[if_neg (by omega),if_neg (λhh=>h hh.2.2),Qf ⟨h5,rfl⟩]<;>rfl
theorem lQc {b:Bool}{Xs:List Bool}(h6:x.k % 8=6):Yy k0 ic x (b::Xs)=(.en,Xs):=by
 unfold Yy;rw[if_neg (by omega),if_neg (by omega),if_neg (by omega),Qf ⟨h6,by simp⟩]<;>rfl
theorem lQd (h7:x.k % 8=7)(h:ic=true):Yy k0 ic x op=(.inc,op):=by
 unfold Yy;rw[if_neg (by omega),if_neg (by omega),if_neg (by omega),if_neg (by omega),Qf ⟨h7,h⟩]
end
theorem lQe {w:World}{base e n c:Nat}{A:Option Addr}{cs:List Value}(h:Own w base e 1 A n c cs)(hn:0<n):∃a,A=some a:=by
 obtain⟨g,sp,hA,_⟩:=h.blk hn;exact⟨_,hA⟩
theorem IU {w:World}{base e n c j:Nat}{a:Addr}{cs:List Value}{u:Value}(h:Own w base e 1 (some a) n c cs)(hj:cs[j]? =some u):w.cell? (a.add j)=some u:=by
 have hl:=h.sl.len;have Xa:=(Jd.1 hj).1;obtain⟨ad,e,hc⟩:=h.sl.at_ (by omega);cases e;exact hc j u hj
theorem IV (b:Bool){op:List Bool}{Xs:List Bool}(h:op=b::Xs):op.reverse[op.length-1]? =some b:=by
 subst h;rw[tT,aS (by simp)];simp
structure LnS where
 i:Nat
 out:List Nat
 op:List Bool
 A:Option Addr
 c:Nat
structure LnI (w0:World) (base:Nat) (k0:Nat) (ic:Bool) (T:List Lx) (tot:List Nat) (s:LnS) (w:World):Prop where
 e:Ext w0 w
 ow:Own w base 4 1 s.A s.op.length s.c (Ww s.op.reverse)
 ol:s.op.length<=3
 il:s.i<=T.length
 rs:s.out++Qp ((Wa k0 ic (T.drop s.i) s.op).map XD)=tot
 ll:s.out.length<=s.i*40
theorem LnI.step {w0 w w':World}{base k0:Nat}{ic:Bool}{T:List Lx}{tot:List Nat}{s:LnS}(h:LnI w0 base k0 ic T tot s w)(hk:k0<=4){y:Lx}(hx:y.i<=255)(hy:T[s.i]? =some y){M:Mn}{Xs:List Bool}(e:Yy k0 ic y s.op=(M,Xs)){A':Option Addr}{c':Nat}(hE:Ext w w')(ho:Own w' base 4 1 A' Xs.length c' (Ww Xs.reverse)):
  LnI w0 base k0 ic T tot ⟨s.i+1,s.out++(XD M++ [10]),Xs,A',c'⟩ w':=by
 have hb:=In (ic:=ic) (op:=s.op) hk hx;have hl:=Im (k0:=k0) (ic:=ic) (x:=y) h.ol;rw[e] at hb hl;simp only at hb hl;have QH:=h.rs;rw[Ia hy,Wa,e,Kw,V4] at QH;refine⟨h.e.trans hE,ho,hl,(Jd.1 hy).1,?_,?_⟩
 ·rw[<-QH];simp
 ·have:=h.ll;simp only[Qq,nU];omega
theorem LnI.step2 {w0 w w':World}{base k0:Nat}{ic:Bool}{T:List Lx}{tot:List Nat}{s:LnS}(h:LnI w0 base k0 ic T tot s w)(hk:k0<=4){y:Lx}(hx:y.i<=255)(hy:T[s.i]? =some y){M:Mn}{Xs:List Bool}(e:Yy k0 ic y s.op=(M,Xs)){A':Option Addr}{c':Nat}{o':List Nat}(Kt:o'=s.out++(XD M++ [10]))(hE:Ext w0 w')(ho:Own w' base 4 1 A' Xs.length c' (Ww Xs.reverse)):
  LnI w0 base k0 ic T tot ⟨s.i+1,o',Xs,A',c'⟩ w':=by
 have hb:=In (ic:=ic) (op:=s.op) hk hx;have hl:=Im (k0:=k0) (ic:=ic) (x:=y) h.ol;rw[e] at hb hl;simp only at hb hl;have QH:=h.rs;rw[Ia hy,Wa,e,Kw,V4] at QH;subst Kt;refine⟨hE,ho,hl,(Jd.1 hy).1,?_,?_⟩
 ·rw[<-QH];simp
 ·have:=h.ll;simp only[Qq,nU];omega
theorem aQ5 {op:List Bool}{j:Nat}(h:j<op.length):Qp ((op.drop j).map (λ_=>Zb))=Zb++10::Qp ((op.drop (j+1)).map (λ_=>Zb)):=by
 rw[am h,Kw,V4]
theorem aQ6 (k0:Nat)(hk:k0<=4)(NA:Option Addr)(nc:Nat)(A:Option Addr)(n c:Nat)(L:List Lx)(most:Nat)(name:List Nat)(w:World)(hN:Sl w 1 NA k0 nc (XH (Zm.take k0)))(hL:SlS Lx.cells 3 w A n c L)(X5:∀x∈L,LxOk w x)(hm:most<=100)(oQ3:name=[]∨name=[110]):
  Fn Tryz.prog 85 [.slice NA k0 nc,.slice A n c,.int .i64 most,.string (Qd name)] w (λv w'=>v= .string (Qd (Qp ((Wa k0 (decide (name≠ [])) (L.take most) []).map XD)))/\Ext w w'):=by
 have QZ:=hL.2;have cw:n<=9223372036854775807:=by have:=hL.1.le;have:=hL.1.cap;simp only[maxLen] at this;omega
 have cQH:∀s∈Zm.take k0,s.length<=100:=λs hs=>by
  have X0:Zm.all (λs=>decide (s.length<=100))=true:=by decide
  exact Y2 (Ka.1 X0 s (Wn hs))
 refine QJ (c:={c85 with cuts:=[]}) Qa Tryz.func85 rfl rfl rfl ?_;refine eQl Qa rfl rfl rfl rfl rfl rfl ?_;intro w1 Qe Q6 Qh;generalize hic:decide (name≠ [])=ic;generalize dQp:Qp ((Wa k0 ic (L.take most) []).map XD)=tot;have O9:(L.take most).length=min most L.length:=Kx;have pQZ:(L.take most).length<=100:=by omega
 generalize hT:L.take most=T at*;refine loop Qa [11,10,9] (λs:LnS=>[.int .i64 s.i,.slice s.A s.op.length s.c,.string (Qd s.out)]) (λs w'=>LnI w w.heap.size k0 ic T tot s w') (λs _=>T.length-s.i) ⟨0,[],[],some ⟨w.heap.size,0,none⟩,0⟩ rfl ⟨Qe,Own.empty Qh (QB _),Xo _,Xo _,dQp,QB _⟩ ?_;rintro⟨i,out,op,A',c'⟩ w2 hI;have tN:=hI.ol;have bN:=hI.il;have cy:=hI.ll;simp only at tN bN cy;have QT:=hI.e;have so:=Q8 out;refine Qw (λc1=>?_) (λc1=>?_)
 ·simp only at c1;refine Qw (λc2=>?_) (λc2=>?_)
  ·simp only at c2;have Q4:i<n:=by omega
   have hiT:i<T.length:=by omega
   refine Zt IT (hL.ext QT) rfl Q4 (λp y FQ cA=>?_);have FQ:L[i]? =some y:=FQ;have hy:T[i]? =some y:=by rw[<-hT,qJ (by omega)];exact FQ
   have qw:=(X5 y (Xl FQ)).ext QT;have aj:=qw.i8;have hk8:=qw.k8;refine Jz (vs:=y.cells) rfl cA ?_;refine new (λw4 Qs KR QR=>?_);refine Qv QR rfl (sc rfl) (λw5 JE _ QD=>?_);have Ym:Ext w2 w5:=XT Qs QR JE;have JJ:=hI.e.trans Ym;have Km:=hI.ow.ext Ym;simp only at Km;refine Qz QD rfl ?_;refine normIf (m:=((y.k % 8:Nat):Int)) (by decide) (eK y.k 8) ?_;have h8:y.k % 8<8:=bP _ (by decide);refine X8 (λk4=>?_) (λk4=>?_)
   ·refine Qw (λn3=>?_) (λn3=>?_)
    ·simp only at n3;have e5:=UM (Zm.take k0) NA k0 nc y.i;refine Xy (v':=.string (Qd (out++ [35,105,102,32]))) (by rw[so];show _+4<=maxLen;unfold maxLen;omega) (QC Value.string (ZM out [35,105,102,32])) ?_;refine Qo QD rfl ?_;refine call (e5 w5 (hN.ext JJ) cQH aj) ?_;rintro _ w6 ⟨rfl,QQ⟩;have Zq:=(vl hk aj).2.2;refine Xy (v':=.string (Qd (out++ [35,105,102,32]++YQ (Zm.take k0) y.i))) (by rw[Q8,Q8,Qq];show _+4+_<=maxLen;unfold maxLen;omega) (QC Value.string (ZM _ _)) ?_;refine Xy (v':=.string (Qd (out++ [35,105,102,32]++YQ (Zm.take k0) y.i++ [10]))) (by rw[Q8,Qq,Qq];show _+4+_+1<=maxLen;unfold maxLen;omega) (QC Value.string (ZM _ [10])) ?_;refine Xg Qa [[Value.bool false]] rfl rfl rfl rfl rfl ⟨rfl,rfl,⟨⟩⟩ rfl (λcs hh=>by simp only[QO] at hh;subst hh;rfl) rfl (by decide) (by decide) ?_;intro w7 Xh W8 Q3;have jn:Sl w7 1 (some ⟨w6.heap.size,0,none⟩) 1 1 [Value.bool false]:=Sl.own (sz:=1) (n:=1) Q3 (QB _) (by decide) (by simp);have Js:=QQ.trans Xh;refine Je (n:=op.length) Qa rfl rfl rfl rfl rfl (by decide) rfl rfl ⟨_,rfl⟩ rfl rfl (Km.ext Js) jn (by simp[JS]) (by unfold maxLen;omega) (by show(op.length+1)*1<=_;omega) (by have:=JJ.size;have:=Js.size;omega) ?_;intro A2 c2 w8 JD nQR pQ0;refine Qj ((i+1:Nat):Int) (by show((i:Nat):Int)+1=_;omega) (by(try simp only);omega) ?_;exact⟨⟨i+1,out++ [35,105,102,32]++YQ (Zm.take k0) y.i++ [10],false::op,A2,c2⟩,by simp only[Q2];rfl,hI.step2 hk aj hy (kQ9 (by first | omega | (simp only;omega)) (by first | omega | (simp only;omega))) (by simp[XD,ZJ]) (JD.ext (JJ.trans Js) (λi hi=>by have:=(Km.ext Js).rows i hi;omega)) (by rw[tT];simpa [Ww] using nQR),by show T.length-(i+1)<T.length-i;omega⟩
    ·simp only at n3;refine XK (by first | omega | (simp only;omega)) ?_;refine XK (by first | omega | (simp only;omega)) ?_;refine XK (by first | omega | (simp only;omega)) ?_;refine XK (by first | omega | (simp only;omega)) ?_;refine Qt QD rfl ?_;refine call (vv y w5 (qw.ext Ym)) ?_;rintro _ w6 ⟨rfl,QQ⟩;have s2:=Q8 (KH y.k y.ws++ [10]);have s3:=(oS y.k y.ws).2.2.2;refine Xy (v':=.string (Qd (out++(KH y.k y.ws++ [10])))) (by rw[so,s2,Qq];show _+(_+1)<=maxLen;unfold maxLen;omega) (QC Value.string (ZM _ _)) ?_;refine Qj ((i+1:Nat):Int) (by show((i:Nat):Int)+1=_;omega) (by(try simp only);omega) ?_;exact⟨⟨i+1,out++(KH y.k y.ws++ [10]),op,A',c'⟩,rfl,hI.step hk aj hy (vw (λ_=>by first | omega | (simp only;omega)) (λh=>by first | omega | (simp only;omega)) (λh=>by first | omega | (simp only;omega)) (λh=>by first | omega | (simp only;omega))) (Ym.trans QQ) (Km.ext QQ),by show T.length-(i+1)<T.length-i;omega⟩
   refine X8 (λk5=>?_) (λk5=>?_)
   ·have k5':y.k % 8=5:=by omega
    refine Qw (λn0=>?_) (λn0=>?_)
    ·simp only at n0;have n0:0<op.length:=by omega
     obtain⟨f,Xs,rfl⟩:∃f Xs,op=f::Xs:=by
      cases op with
      | nil=>exact Xc n0 (by decide)
      | cons f Xs=>exact⟨f,Xs,rfl⟩
     refine Qj (((f::Xs).length-1:Nat):Int) (by(try simp only);omega) (by(try simp only);omega) ?_;obtain⟨oa,Ku⟩:=lQe Km (show 0<(f::Xs).length by omega);rw[Ku];refine index (j:=(f::Xs).length-1) (by(try simp only);omega) ?_;refine load (IU (by rw[<-Ku];exact Km) (xL (IV f rfl))) ?_;cases f with
     | false=>
      refine Xd rfl ?_;refine Qo QD rfl ?_;refine normIf (m:=((y.i % 2:Nat):Int)) (by decide) (eK y.i 2) ?_;refine X8 (λi2=>?_) (λi2=>?_)
      ·refine Xy (v':=.string (Qd (out++ [35,101,108,105,102,32]))) (by rw[so];show _+6<=maxLen;unfold maxLen;omega) (QC Value.string (ZM out [35,101,108,105,102,32])) ?_;refine Qo QD rfl ?_;refine normIf (m:=((y.i/2:Nat):Int)) (by decide) (by
        show IntKind.u8.wrap ((y.i/2:Nat):Int)=_;rw[uk];omega) ?_
       have cQI:y.i/2<=255:=by omega
       refine call (UM (Zm.take k0) NA k0 nc (y.i/2) w5 (hN.ext JJ) cQH cQI) ?_;rintro _ w6 ⟨rfl,QQ⟩;have Zq:=(vl hk cQI).2.2;refine Xy (v':=.string (Qd (out++ [35,101,108,105,102,32]++YQ (Zm.take k0) (y.i/2)))) (by rw[Q8,Q8,Qq];show _+6+_<=maxLen;unfold maxLen;omega) (QC Value.string (ZM _ _)) ?_;refine Xy (v':=.string (Qd (out++ [35,101,108,105,102,32]++YQ (Zm.take k0) (y.i/2)++ [10]))) (by rw[Q8,Qq,Qq];show _+6+_+1<=maxLen;unfold maxLen;omega) (QC Value.string (ZM _ [10])) ?_;rw[<-Ku];refine Qj ((i+1:Nat):Int) (by show((i:Nat):Int)+1=_;omega) (by(try simp only);omega) ?_;exact⟨⟨i+1,out++ [35,101,108,105,102,32]++YQ (Zm.take k0) (y.i/2)++ [10],false::Xs,A',c'⟩,rfl,hI.step2 hk aj hy (lQa k5' (by first | omega | (simp only;omega))) (by simp[XD,pElif]) (JJ.trans QQ) (Km.ext QQ),by show T.length-(i+1)<T.length-i;omega⟩
      ·refine J0 (by first | omega | (simp only;omega)) ?_;refine Zy (by(try simp only);omega) ?_;refine Qj (((false::Xs).length-1:Nat):Int) (by(try simp only);omega) (by(try simp only);omega) ?_;refine index (j:=(false::Xs).length-1) (by(try simp only);omega) ?_;refine load (IU (by rw[<-Ku];exact Km) (xL (IV false rfl))) ?_;refine Xd rfl ?_;refine Xy (v':=.string (Qd (out++ [35,101,108,115,101,10]))) (by rw[so];show _+6<=maxLen;unfold maxLen;omega) (QC Value.string (ZM out [35,101,108,115,101,10])) ?_;refine Qj (((false::Xs).length-1:Nat):Int) (by(try simp only);omega) (by(try simp only);omega) ?_;refine index (j:=(false::Xs).length-1) (by(try simp only);omega) ?_;rw[Ku] at Km;refine eQi Km (by(try simp only);omega) (λw6 WB cQJ=>?_);have VQ:=qQQ WB;have nQS:Own w6 w.heap.size 4 1 (some oa) (true::Xs).length c' (Ww (true::Xs).reverse):=by
        have e:(Ww (false::Xs).reverse).set ((false::Xs).length-1) (Value.bool true)=Ww (true::Xs).reverse:=by
         rw[<-Ss];congr 1;rw[tT,tT,Bu _ _ (by simp)];simp
        rw[e] at cQJ;exact cQJ
       refine Qj ((i+1:Nat):Int) (by show((i:Nat):Int)+1=_;omega) (by(try simp only);omega) ?_;exact⟨⟨i+1,out++ [35,101,108,115,101,10],true::Xs,some oa,c'⟩,rfl,hI.step2 hk aj hy (lQb k5' (by first | omega | (simp only;omega))) (by simp[XD,Kz]) (VQ.ext JJ (λi hi=>by have:=Km.rows i hi;omega)) (nQS),by show T.length-(i+1)<T.length-i;omega⟩
     | true=>
      refine Q9 rfl ?_;refine J0 (by first | omega | (simp only;omega)) ?_;refine Zy (by(try simp only);omega) ?_;refine Qj (((true::Xs).length-1:Nat):Int) (by(try simp only);omega) (by(try simp only);omega) ?_;refine index (j:=(true::Xs).length-1) (by(try simp only);omega) ?_;refine load (IU (by rw[<-Ku];exact Km) (xL (IV true rfl))) ?_;refine Q9 rfl ?_;refine XK (by first | omega | (simp only;omega)) ?_;refine XK (by first | omega | (simp only;omega)) ?_;rw[<-Ku];refine Qt QD rfl ?_;refine call (vv y w5 (qw.ext Ym)) ?_;rintro _ w6 ⟨rfl,QQ⟩;have s2:=Q8 (KH y.k y.ws++ [10]);have s3:=(oS y.k y.ws).2.2.2;refine Xy (v':=.string (Qd (out++(KH y.k y.ws++ [10])))) (by rw[so,s2,Qq];show _+(_+1)<=maxLen;unfold maxLen;omega) (QC Value.string (ZM _ _)) ?_;refine Qj ((i+1:Nat):Int) (by show((i:Nat):Int)+1=_;omega) (by(try simp only);omega) ?_;exact⟨⟨i+1,out++(KH y.k y.ws++ [10]),true::Xs,A',c'⟩,rfl,hI.step hk aj hy (vw (λh=>by first | omega | (simp only;omega)) (λ_ h=>by cases h) (λh=>by first | omega | (simp only;omega)) (λh=>by first | omega | (simp only;omega))) (Ym.trans QQ) (Km.ext QQ),by show T.length-(i+1)<T.length-i;omega⟩
    ·simp only at n0;have X7:op=[]:=WO (by first | omega | (simp only;omega));subst X7;refine J0 (by first | omega | (simp only;omega)) ?_;refine XJ (by simp) ?_;refine XK (by first | omega | (simp only;omega)) ?_;refine XK (by first | omega | (simp only;omega)) ?_;refine Qt QD rfl ?_;refine call (vv y w5 (qw.ext Ym)) ?_;rintro _ w6 ⟨rfl,QQ⟩;have s2:=Q8 (KH y.k y.ws++ [10]);have s3:=(oS y.k y.ws).2.2.2;refine Xy (v':=.string (Qd (out++(KH y.k y.ws++ [10])))) (by rw[so,s2,Qq];show _+(_+1)<=maxLen;unfold maxLen;omega) (QC Value.string (ZM _ _)) ?_;refine Qj ((i+1:Nat):Int) (by show((i:Nat):Int)+1=_;omega) (by(try simp only);omega) ?_;exact⟨⟨i+1,out++(KH y.k y.ws++ [10]),[],A',c'⟩,rfl,hI.step hk aj hy (vw (λh=>by first | omega | (simp only;omega)) (λ_ h=>by cases h) (λh=>by first | omega | (simp only;omega)) (λh=>by first | omega | (simp only;omega))) (Ym.trans QQ) (Km.ext QQ),by show T.length-(i+1)<T.length-i;omega⟩
   refine XK (by first | omega | (simp only;omega)) ?_;refine X8 (λk6=>?_) (λk6=>?_)
   ·refine Qw (λn0=>?_) (λn0=>?_)
    ·simp only at n0;obtain⟨f,Xs,rfl⟩:∃f Xs,op=f::Xs:=by
      cases op with
      | nil=>exact Xc n0 (by decide)
      | cons f Xs=>exact⟨f,Xs,rfl⟩
     refine Xy (v':=.string (Qd (out++ [35,101,110,100,10]))) (by rw[so];show _+5<=maxLen;unfold maxLen;omega) (QC Value.string (ZM out [35,101,110,100,10])) ?_;refine Qj ((Xs.length:Nat):Int) (by simp only[Q2];omega) (by simp only[Q2] at tN;omega) ?_;have ZF:=Km.sl.le;simp only[Q2] at ZF;refine kh (h:=Xs.length) Qa rfl rfl rfl rfl rfl rfl (by first | omega | (simp only;omega)) ?_;have cQK:=Km.take (k:=Xs.length) (by simp);have e2:(Ww (f::Xs).reverse).take (Xs.length*1)=Ww Xs.reverse:=by
      rw[Wm,tT];unfold Ww;rw[WR,Ga (by simp),ZS (by simp)]
     rw[e2] at cQK;refine Qj ((i+1:Nat):Int) (by show((i:Nat):Int)+1=_;omega) (by(try simp only);omega) ?_;exact⟨⟨i+1,out++ [35,101,110,100,10],Xs,A',c'⟩,rfl,hI.step2 hk aj hy (lQc (by first | omega | (simp only;omega))) (by simp[XD,Zb]) (JJ) (cQK),by show T.length-(i+1)<T.length-i;omega⟩
    ·simp only at n0;have X7:op=[]:=WO (by first | omega | (simp only;omega));subst X7;refine XK (by first | omega | (simp only;omega)) ?_;refine Qt QD rfl ?_;refine call (vv y w5 (qw.ext Ym)) ?_;rintro _ w6 ⟨rfl,QQ⟩;have s2:=Q8 (KH y.k y.ws++ [10]);have s3:=(oS y.k y.ws).2.2.2;refine Xy (v':=.string (Qd (out++(KH y.k y.ws++ [10])))) (by rw[so,s2,Qq];show _+(_+1)<=maxLen;unfold maxLen;omega) (QC Value.string (ZM _ _)) ?_;refine Qj ((i+1:Nat):Int) (by show((i:Nat):Int)+1=_;omega) (by(try simp only);omega) ?_;exact⟨⟨i+1,out++(KH y.k y.ws++ [10]),[],A',c'⟩,rfl,hI.step hk aj hy (vw (λh=>by first | omega | (simp only;omega)) (λh=>by first | omega | (simp only;omega)) (λ_=>rfl) (λh=>by first | omega | (simp only;omega))) (Ym.trans QQ) (Km.ext QQ),by show T.length-(i+1)<T.length-i;omega⟩
   refine X8 (λk7=>?_) (λk7=>?_)
   ·rcases oQ3 with rfl | rfl
    ·have oQ4:ic=false:=by rw[<-hic]<;>rfl
     refine Q9 (by decide) ?_;refine Qt QD rfl ?_;refine call (vv y w5 (qw.ext Ym)) ?_;rintro _ w6 ⟨rfl,QQ⟩;have s2:=Q8 (KH y.k y.ws++ [10]);have s3:=(oS y.k y.ws).2.2.2;refine Xy (v':=.string (Qd (out++(KH y.k y.ws++ [10])))) (by rw[so,s2,Qq];show _+(_+1)<=maxLen;unfold maxLen;omega) (QC Value.string (ZM _ _)) ?_;refine Qj ((i+1:Nat):Int) (by show((i:Nat):Int)+1=_;omega) (by(try simp only);omega) ?_;exact⟨⟨i+1,out++(KH y.k y.ws++ [10]),op,A',c'⟩,rfl,hI.step hk aj hy (vw (λh=>by first | omega | (simp only;omega)) (λh=>by first | omega | (simp only;omega)) (λh=>by first | omega | (simp only;omega)) (λ_=>oQ4)) (Ym.trans QQ) (Km.ext QQ),by show T.length-(i+1)<T.length-i;omega⟩
    ·have oQ5:ic=true:=by rw[<-hic]<;>rfl
     refine Xd (by decide) ?_;refine Xy (v':=.string (Qd (out++ [35,105,110,99,108,117,100,101,32,34]))) (by rw[so];show _+10<=maxLen;unfold maxLen;omega) (QC Value.string (ZM out [35,105,110,99,108,117,100,101,32,34])) ?_;refine Xy (v':=.string (Qd (out++ [35,105,110,99,108,117,100,101,32,34]++ [110]))) (by rw[Q8,Qq];show _+10+1<=maxLen;unfold maxLen;omega) (QC Value.string (ZM _ [110])) ?_;refine Xy (v':=.string (Qd (out++ [35,105,110,99,108,117,100,101,32,34]++ [110]++ [34,10]))) (by rw[Q8,Qq,Qq];show _+10+1+2<=maxLen;unfold maxLen;omega) (QC Value.string (ZM _ [34,10])) ?_;refine Qj ((i+1:Nat):Int) (by show((i:Nat):Int)+1=_;omega) (by(try simp only);omega) ?_;exact⟨⟨i+1,out++ [35,105,110,99,108,117,100,101,32,34]++ [110]++ [34,10],op,A',c'⟩,rfl,hI.step2 hk aj hy (lQd (by first | omega | (simp only;omega)) oQ5) (by simp[XD,pInc,yz]) (JJ) (Km),by show T.length-(i+1)<T.length-i;omega⟩
   ·refine Qt QD rfl ?_;refine call (vv y w5 (qw.ext Ym)) ?_;rintro _ w6 ⟨rfl,QQ⟩;have s2:=Q8 (KH y.k y.ws++ [10]);have s3:=(oS y.k y.ws).2.2.2;refine Xy (v':=.string (Qd (out++(KH y.k y.ws++ [10])))) (by rw[so,s2,Qq];show _+(_+1)<=maxLen;unfold maxLen;omega) (QC Value.string (ZM _ _)) ?_;refine Qj ((i+1:Nat):Int) (by show((i:Nat):Int)+1=_;omega) (by(try simp only);omega) ?_;exact⟨⟨i+1,out++(KH y.k y.ws++ [10]),op,A',c'⟩,rfl,hI.step hk aj hy (vw (λh=>by first | omega | (simp only;omega)) (λh=>by first | omega | (simp only;omega)) (λh=>by first | omega | (simp only;omega)) (λh=>by first | omega | (simp only;omega))) (Ym.trans QQ) (Km.ext QQ),by show T.length-(i+1)<T.length-i;omega⟩
  ·try simp only at c1
   try simp only at c2
   have hiT:i=T.length:=by omega
   have QH:=hI.rs;simp only at QH;rw[hiT,Gd,Wa,nP] at QH;have QH:out++Qp ((op.drop 0).map (λ_=>Zb))=tot:=QH;refine loop Qa [15,9] (λs:Nat×List Nat=>[.int .i64 s.1,.string (Qd s.2)]) (λs w'=>w2=w'/\s.1<=op.length/\s.2.length<=4000+s.1*5/\s.2++Qp ((op.drop s.1).map (λ_=>Zb))=tot) (λs _=>op.length-s.1) (0,out) rfl ⟨rfl,Xo _,by show out.length<=_;omega,QH⟩ ?_;rintro⟨j,o2⟩ _ ⟨rfl,hj,Ny,ZB⟩;simp only at hj Ny ZB;refine Qw (λd1=>?_) (λd1=>?_)
   ·simp only at d1;have aJ:j<op.length:=by omega
    rw[aQ5 aJ] at ZB;refine Xy (v':=.string (Qd (o2++ [35,101,110,100,10]))) (by rw[Q8];show o2.length+5<=maxLen;unfold maxLen;omega) (QC Value.string (ZM o2 [35,101,110,100,10])) ?_;refine Qj ((j+1:Nat):Int) (by show((j:Nat):Int)+1=_;omega) (by(try simp only);omega) ?_;exact⟨(j+1,o2++ [35,101,110,100,10]),rfl,⟨rfl,aJ,by show(o2++ [35,101,110,100,10]).length<=_;rw[Qq];show _+5<=4000+(j+1)*5;omega,by show(o2++ [35,101,110,100,10])++_=_;rw[<-ZB];simp[Zb]⟩,by show op.length-(j+1)<op.length-j;omega⟩
   ·simp only at d1;have aJ:j=op.length:=by omega
    rw[aJ,Gd] at ZB;have ZB:o2++ []=tot:=ZB;rw[KE] at ZB;exact⟨by rw[ZB],QT⟩
 ·try simp only at c1
  try simp only at c2
  have hiT:i=T.length:=by omega
  have QH:=hI.rs;simp only at QH;rw[hiT,Gd,Wa,nP] at QH;have QH:out++Qp ((op.drop 0).map (λ_=>Zb))=tot:=QH;refine loop Qa [15,9] (λs:Nat×List Nat=>[.int .i64 s.1,.string (Qd s.2)]) (λs w'=>w2=w'/\s.1<=op.length/\s.2.length<=4000+s.1*5/\s.2++Qp ((op.drop s.1).map (λ_=>Zb))=tot) (λs _=>op.length-s.1) (0,out) rfl ⟨rfl,Xo _,by show out.length<=_;omega,QH⟩ ?_;rintro⟨j,o2⟩ _ ⟨rfl,hj,Ny,ZB⟩;simp only at hj Ny ZB;refine Qw (λd1=>?_) (λd1=>?_)
  ·simp only at d1;have aJ:j<op.length:=by omega
   rw[aQ5 aJ] at ZB;refine Xy (v':=.string (Qd (o2++ [35,101,110,100,10]))) (by rw[Q8];show o2.length+5<=maxLen;unfold maxLen;omega) (QC Value.string (ZM o2 [35,101,110,100,10])) ?_;refine Qj ((j+1:Nat):Int) (by show((j:Nat):Int)+1=_;omega) (by(try simp only);omega) ?_;exact⟨(j+1,o2++ [35,101,110,100,10]),rfl,⟨rfl,aJ,by show(o2++ [35,101,110,100,10]).length<=_;rw[Qq];show _+5<=4000+(j+1)*5;omega,by show(o2++ [35,101,110,100,10])++_=_;rw[<-ZB];simp[Zb]⟩,by show op.length-(j+1)<op.length-j;omega⟩
  ·simp only at d1;have aJ:j=op.length:=by omega
   rw[aJ,Gd] at ZB;have ZB:o2++ []=tot:=ZB;rw[KE] at ZB;exact⟨by rw[ZB],QT⟩
theorem lQf (k0:Nat)(hk:k0<=4)(NA:Option Addr)(nc:Nat)(A B:Option Addr)(n c m d:Nat)(main cB:List Lx)(w:World)(hN:Sl w 1 NA k0 nc (XH (Zm.take k0)))(hL:SlS Lx.cells 3 w A n c main)(X5:∀x∈main,LxOk w x)(hL':SlS Lx.cells 3 w B m d cB)(oQ6:∀x∈cB,LxOk w x):
  Fn Tryz.prog 40 [.slice NA k0 nc,.slice A n c,.slice B m d] w (λv w'=>∃F,v= .slice F 2 2/\Ext w w'/\SlS bg 2 w' F 2 2 (Ip k0 main cB)):=by
 refine QJ (c:={c40 with cuts:=[]}) Qa Tryz.func40 rfl rfl rfl ?_;refine call (aQ6 k0 hk NA nc A n c main 12 [110] w hN hL X5 (by decide) (.inr rfl)) ?_;rintro _ w1 ⟨rfl,Qe⟩;refine call (aQ6 k0 hk NA nc B m d cB 5 [] w1 (hN.ext Qe) (hL'.ext Qe) (λx hx=>(oQ6 x hx).ext Qe) (by decide) (.inl rfl)) ?_;rintro _ w2 ⟨rfl,Qg⟩;refine Xg Qa ((Ip k0 main cB).map bg) rfl rfl rfl rfl rfl ⟨rfl,rfl,rfl,rfl,⟨⟩⟩ rfl (λcs h=>by simp only[Zk] at h;obtain⟨s,_,rfl⟩:=h;rfl) rfl (by decide) (by decide) ?_;intro w3 Qi Jr Qu;exact⟨_,rfl,(Qe.trans Qg).trans Qi,Sl.own (sz:=2) (n:=2) Qu (QB _) (by decide) (by simp[Ip,bg]),rfl⟩
end
section
structure QP where
 r:Nat
 NA:Option Addr
 nn:Nat
 nc:Nat
 nm:List (List Nat)
 FA:Option Addr
 nf:Nat
 cf:Nat
 fs:List (List Nat×List Nat)
structure QM where
 OA:Option Addr
 oc:Nat
 DA:Option Addr
 dc:Nat
 L:List DV
 T:Nat->Prop
structure QV where
 d:Nat
 rd:List Nat
 g:Gs
 b:Pl
abbrev qdC (p:QP)(m:QM)(v:QV):List Value:=[.slice p.NA p.nn p.nc,.slice p.FA p.nf p.cf,.int .i64 v.d,.slice m.DA v.rd.length m.dc,.string (Qd v.g.tx),.slice m.OA v.g.sg.length m.oc,.bool v.g.fr,.int .i64 v.b.e,.int .i64 v.b.f,.int .i64 v.b.l]
def QS (p:QP)(m:QM):Nat->Prop:=λk=>k=p.r∨Qk m.OA k∨Qk m.DA k
def TQ (p:QP)(m:QM):Nat->Prop:=λk=>QS p m k∨m.T k
structure Qr (w0 w:World) (base:Nat) (p:QP) (m:QM) (v:QV):Prop where
 e0:Ext w0 w
 lor:w0.heap.size<=p.r
 rb:p.r<base
 top:base<=w.heap.size
 blk:Blk w p.r 201 (qdC p m v)
 rdo:Own w base 3 1 m.DA v.rd.length m.dc (ixV v.rd.reverse)
 out:Own w base 48 6 m.OA v.g.sg.length m.oc (dN v.g.sg m.L)
 len:m.L.length=v.g.sg.length
 dgs:∀(j:Nat) (s:Sg) (x:DV),v.g.sg[j]? =some s->m.L[j]? =some x->DgO w (TQ p m) p.nm.length x s.o
 tl:v.g.tx.length<=1048576
 sl:v.g.sg.length<=65536
 b8:∀x∈v.g.tx,x<256
 nf:v.g.fr=false->v.g.sg≠ []∨v.rd=[]
 tt:∀i,m.T i->i<w.heap.size
 dl:v.d<=65
 rl:v.rd.length<=65+65
section
variable {w0 w w':World} {base:Nat} {p:QP} {m:QM} {v:QV}
theorem Qr.ext (h:Qr w0 w base p m v)(k:Ext w w'):Qr w0 w' base p m v:=
 ⟨h.e0.trans k,h.lor,h.rb,X3 h.top k.size,h.blk.ext k,h.rdo.ext k,h.out.ext k,h.len,λj s x h1 h2=>(h.dgs j s x h1 h2).ext k,h.tl,h.sl,h.b8,h.nf,λi hi=>Yq (h.tt i hi) k.size,h.dl,h.rl⟩
end
theorem IW {w:World}{g t:Nat}{cs:List Value}{j i:Nat}{v:Value}{K:Value->Prop}(h:Blk w g t cs)(hv:cs[j+i]? =some v)(k:K v):iP w (((⟨g,0,none⟩:Addr).add j).add i) K:=by
 rw[add_add];exact Qo h hv k
section
variable {w0:World} {base:Nat} {p:QP} {m:QM} {v:QV}
end
end
section
theorem aQ7 {nm:List (List Nat)}{s:List Nat}{e:Int}(h:V3 nm s= .error e):e≠0:=by
 unfold V3 at h;split at h
 ·cases h
 ·cases h;split<;>decide
def vx:Except Int (List Nat)->Value
 | .ok l=>.tuple #[.string (Qd l),.int .i64 0]
 | .error e=>.tuple #[.string (Qd []),.int .i64 e]
theorem lQg (n:Nat)(o o':BF):QG n (λe=>o e && !o' e)=kD n (QG n o) o':=by
 unfold QG kD;rw[List.filter_filter];congr 1;funext c;rw[Bool.and_comm]
theorem IX {M:Nat}:∀{ls:List (List Nat)},(∀s∈ls,s.length<=M)->(Qp ls).length<=ls.length*(M+1)
 | [],_=>by simp[Qp]
 | s::ls,h=>by
  have ih:=IX (ls:=ls) (λt ht=>h t (by simp[ht]));have h1:=h s (by simp);rw[V4,Q2,lr,xg];simp only[Qq,Q2];omega
theorem yH:∀(l:List Nat),(QF l).length<=l.length/\∀s∈QF l,s.length<=l.length
 | []=>⟨by simp[QF],λs hs=>by simp[QF] at hs⟩
 | b::l=>by
  obtain⟨h1,h2⟩:=yH l;unfold QF;split
  ·refine⟨by simp;omega,λs hs=>?_⟩;rcases QY.1 hs with rfl | hs
   ·simp
   ·have:=h2 s hs;simp;omega
  ·cases hl:QF l with
   | nil=>refine⟨by simp,λs hs=>?_⟩;rw[QO.1 hs];simp
   | cons t ls=>
    rw[hl] at h1 h2;refine⟨by simp at h1 ⊢;omega,λs hs=>?_⟩;rcases QY.1 hs with rfl | hs
    ·have:=h2 t (by simp);simp;omega
    ·have:=h2 s (by simp[hs]);simp;omega
theorem lQh {nm:List (List Nat)}(h:∀s∈nm,s.length<=1000)(v:Nat)(ng:Bool):(J4 nm v ng).length<=2100:=by
 unfold J4;have h1:((nm[v]?).getD []).length<=1000:=by
  cases hv:nm[v]? with
  | none=>simp
  | some s=>exact h s (Xl hv)
 have h2:(if ng then [33] else([]:List Nat)).length<=1:=by cases ng<;>simp
 have h3:ZJ.length=4:=rfl;simp only[Qq];omega
theorem lQi {nm:List (List Nat)}{f:Nat->List Nat}(hn:∀s∈nm,s.length<=1000){S:List Nat}(hS:S≠ [])(Nz:S.length<=16)(h:∀c∈S,(f c).length<=2000)(k v:Nat):(Qp (Zn nm f k v S)).length<=1000000000:=by
 obtain⟨h1,h2⟩:=vq (nm:=nm) (f:=f) (P:=λs=>s.length<=2100) (M:=2000) (λv ng=>lQh hn v ng) (by decide) (by decide) k v S hS (λc hc=>by
  obtain⟨a,b⟩:=yH (f c);have:=h c hc;exact⟨λs hs=>by have:=b s hs;omega,by omega⟩)
 have h3:=IX h1;have h4:S.length*(2000+3)<=16*2003:=WN _ Nz;have h5:(Zn nm f k v S).length*(2100+1)<=32048*2101:=WN _ (by omega);omega
theorem aQ8 (n:Nat)(o:BF):(QG n o).length<=2^n:=by
 unfold QG;refine X3 (lu _ _) ?_;rw[List.length_range];exact QB _
theorem IY (NA:Option Addr)(nn nc:Nat)(nm:List (List Nat))(x:DV)(PA:Option Addr)(pn pc:Nat)(ps:List (DV×List Nat))(ni:nm.length<=4)(Yp:KO nm)(KC:∀s∈nm,s.length<=1000)(bG:∀q∈ps,(∀b∈q.2,b<256)/\q.2.length<=2000)(w:World)
  (hN:Sl w 1 NA nn nc (XH nm)) (hx:SB w x.A x.n x.c x.nd) (hP:SlS Kg 3 w PA pn pc ps) (AZ:∀q∈ps,SB w q.1.A q.1.n q.1.c q.1.nd):
  Fn Tryz.prog 24 [.slice NA nn nc,Xm x.A x.n x.c x.r,.slice PA pn pc] w (λu w'=>u=vx (mv nm x ps)/\Ext w w'):=by
 have QZ:nm.length=nn:=by have:=hN.len;rw[bT] at this;omega
 have hk:nm.length<=12:=by omega
 have JF:=hP.2;have oQ7:=hP.1.cap;have qQB:=hP.1.le;simp only[maxLen] at oQ7;refine xK (c:={c24 with cuts:=[]}) Qa Tryz.func24 rfl rfl rfl ?_;refine Z2 (ZN Qa ?_);refine new (λw1 Qe Q6 Qh=>?_);refine new (λw2 Qg Ze Qy=>?_);refine new (λw3 Qi Jr Qu=>?_);have VT:=Qg.trans Qi;have QU:=Qe.trans VT;have QX:w1.heap.size≠w2.heap.size:=by omega
 refine Z2 (xJ Qa rfl rfl rfl rfl ⟨_,_,_,_,rfl,rfl,?_⟩);refine Z2 (ZN Qa ?_);refine Qt (Qh.ext VT) rfl ?_;refine XU (aQ0 NA nn nc nm x hk Yp w3 (hN.ext QU) (hx.ext QU)) ?_ ?_
 rotate_left
 ·rintro ch w4 ⟨Xi,rfl,Qs⟩;refine aX Qa rfl rfl (args:= #[.pointer (some ⟨w1.heap.size,0,none⟩),.pointer (some ⟨w2.heap.size,0,none⟩)]) (by simp) ((rY _ _ 1 w4 _ _ QX ((Qy.ext Qi).ext Qs) (Qu.ext Qs)).mono ?_);rintro e u' w5 ⟨v,rfl,mO,cr⟩;refine⟨v,rfl,mO,?_⟩;refine Qz cr.1 rfl ?_;refine Qz cr.2.1 rfl ?_;have hm:mv nm x ps= .error 1:=by
   unfold mv;rw[Qf (by
    by_cases h1:Z1 nm=true
    ·exact .inr (fC.2 (λh2=>Xi ⟨h1,h2⟩))
    ·exact .inl (by simpa using h1))]
  rw[hm];exact⟨rfl,cr.2.2.ext (QU.trans Qs) (λi hi=>by rcases hi with rfl | rfl<;>omega)⟩
 rintro _ w4 ⟨⟨X5,YI⟩,Qs⟩;have Xp:=QU.trans Qs;have sx:=jg YI;have JV:=(Qh.ext VT).ext Qs;have eC:=(Qy.ext Qi).ext Qs;have gy:=Qu.ext Qs;have hm:mv nm x ps=if bn nm.length (QG nm.length (oD x)) ps=false then .error 290
   else if ps=[] then .ok []
   else if 1048576<(Qp (Zn nm (fP (ZD ps)) nm.length 0 (QG nm.length (oD x)))).length then .error 2
   else .ok (Qp (Zn nm (fP (ZD ps)) nm.length 0 (QG nm.length (oD x)))):=by
  rw[mv,if_neg (by rw[X5,YI];simp)]
 generalize mv nm x ps=M at*;have cQL:∀w',Ext w4 w'->bn nm.length (QG nm.length (oD x)) ps=false->∀w5,Dn w1.heap.size w2.heap.size 290 w' w5->Value.tuple #[.string ⟨#[]⟩,.int .i64 290]=vx M/\Ext w w5:=λw' iK hc w5 hR=>by
  refine⟨by rw[hm,Qf hc];rfl,hR.2.2.ext (Xp.trans iK) (λi hi=>by rcases hi with rfl | rfl<;>omega)⟩
 refine Z2 (ZN Qa ?_);refine Qt JV rfl ?_;refine new (λw5 Qx KI QD=>?_);refine Qv QD rfl (sc rfl) (λw6 WB _ Q7=>?_);have XM:Ext w4 w6:=XT Qx QD WB;have KR:=Qs.size;have pQ1:=XM.size;refine Z2 (ZN Qa ?_);refine loop Qa [18] (λi:Nat=>[.int .i64 i]) (λi w'=>Mod (·=w4.heap.size) w6 w'/\i<=pn/\∃(R:DV) (oR:BF),Blk w' w4.heap.size 32 R.cells/\SB w' R.A R.n R.c R.nd/\Set1 nm.length R.nd R.r oR/\(∀ad,R.A=some ad->0<R.n->ad.block≠w4.heap.size)/\bn nm.length (QG nm.length (oD x)) ps=bn nm.length (QG nm.length oR) (ps.drop i)) (λi _=>pn-i) 0 rfl ⟨Mod.refl _ _,Xo _,x,oD x,Q7,(hx.ext Xp).ext XM,sx,λad ea h0=>by have:=SB.lt (hx.ext Xp) ad ea h0;omega,rfl⟩ ?_;rintro i w7 ⟨Xe,hi,R,oR,Q3,V6,sR,hRn,JH⟩;have K9:Ext w4 w7:=Xe.ext XM (λj hj=>by omega);have Vx:=Xp.trans K9;have pQ2:=K9.size;have pP:=eC.ext K9;have pQ:=gy.ext K9;refine Qw (λc1=>?_) (λc1=>?_)
 ·have Q4:i<pn:=by omega
  refine Zt IA (hP.ext Vx) rfl Q4 (λad q hq hc=>?_);have eB:=Xl hq;obtain⟨q8,ql⟩:=bG q eB;have aO:ps.drop i=q::ps.drop (i+1):=by
   have Xa:=(Jd.1 hq).1;rw[am Xa];congr 1;rw[Xu Xa] at hq;exact Option.some.inj hq
  rw[aO] at JH;refine Jz (vs:=Kg q) rfl hc ?_;refine new (λw8 Xn YU Xz=>?_);refine Qv Xz rfl (sc rfl) (λw9 dZ _ JI=>?_);have Vn:Ext w7 w9:=XT Xn Xz dZ;have pQ3:=Vn.size;have D8:=(AZ q eB).ext (Vx.trans Vn);refine eM (vs:=[.slice q.1.A q.1.n q.1.c,.int .i64 q.1.r]) JI rfl (λj u hj=>by match j,hj with | 0,hj=>exact hj | 1,hj=>exact hj) ?_;rw[<-QZ];refine call (It q.1.A q.1.n q.1.c nm.length q.1.nd q.1.r w9 D8) ?_;rintro _ QE ⟨rfl,X1⟩;have jF:=Vn.trans X1;have bad:∀w',Ext w7 w'->bn nm.length (QG nm.length oR) (q::ps.drop (i+1))=false->∀w5,Dn w1.heap.size w2.heap.size 290 w' w5->Value.tuple #[.string ⟨#[]⟩,.int .i64 290]=vx M/\Ext w w5:=λw' iK hc w5 hR=>cQL w' (K9.trans iK) (JH.trans hc) w5 hR
  cases FR:Kp nm.length q.1.nd q.1.r with
  | false=>
   refine Xd rfl ?_;refine XU (Wb 290 (by decide) QE) (λ_ _ hf=>hf.elim) ?_;rintro ch _ ⟨rfl,rfl⟩;refine aX Qa rfl rfl (args:= #[.pointer (some ⟨w1.heap.size,0,none⟩),.pointer (some ⟨w2.heap.size,0,none⟩)]) (by simp) ((rY _ _ 290 QE _ _ QX (pP.ext jF) (pQ.ext jF)).mono ?_);rintro e u' QL ⟨v,rfl,nQT,NB⟩;refine⟨v,rfl,nQT,?_⟩;refine Qz NB.1 rfl ?_;refine Qz NB.2.1 rfl ?_;exact bad QE jF (by
    refine fC.2 (λhh=>?_);rw[(Is.1 hh).1.1] at FR;cases FR) QL NB
  | true=>
  have sq:=jg FR;have kR:=sq.root0;have J6:=JI.ext X1;refine Q9 rfl ?_;refine IW (j:=0) (i:=1) J6 rfl ?_;have jZk:=Is (n:=nm.length) (R:=QG nm.length oR) (p:=q) (ps:=ps.drop (i+1));refine X8 (λhz=>?_) (λhz=>?_)
  ·refine XU (Wb 290 (by decide) QE) (λ_ _ hf=>hf.elim) ?_;rintro ch _ ⟨rfl,rfl⟩;refine aX Qa rfl rfl (args:= #[.pointer (some ⟨w1.heap.size,0,none⟩),.pointer (some ⟨w2.heap.size,0,none⟩)]) (by simp) ((rY _ _ 290 QE _ _ QX (pP.ext jF) (pQ.ext jF)).mono ?_);rintro e u' YE ⟨v,rfl,gt,aG⟩;refine⟨v,rfl,gt,?_⟩;refine Qz aG.1 rfl ?_;refine Qz aG.2.1 rfl ?_;exact bad QE jF (fC.2 (λhh=>(jZk.1 hh).1.2.1 (kR.1 hz))) YE aG
  ·refine eM (vs:=[.slice q.1.A q.1.n q.1.c,.int .i64 q.1.r]) J6 rfl (λj u hj=>by match j,hj with | 0,hj=>exact hj | 1,hj=>exact hj) ?_;refine Qt (Q3.ext jF) rfl ?_;refine call (UB q.1.A q.1.n q.1.c q.1.nd q.1.r R.A R.n R.c R.nd R.r QE (D8.ext X1) (V6.ext jF)) ?_;rintro _ QL ⟨rfl,Jv⟩;have jx:=jF.trans Jv;have hwi:jd q.1.nd q.1.r R.nd R.r=true↔∀c∈QG nm.length (oD q.1),c∈QG nm.length oR:=by
    rw[IB hk sq sR,aQh sq.dep sR.dep];exact⟨λh c hc=>JC.2 ⟨(JC.1 hc).1,h c hc⟩,λh c hc=>(JC.1 (h c hc)).2⟩
   cases Pa:jd q.1.nd q.1.r R.nd R.r with
   | false=>
    refine Xd rfl ?_;refine XU (Wb 290 (by decide) QL) (λ_ _ hf=>hf.elim) ?_;rintro ch _ ⟨rfl,rfl⟩;refine aX Qa rfl rfl (args:= #[.pointer (some ⟨w1.heap.size,0,none⟩),.pointer (some ⟨w2.heap.size,0,none⟩)]) (by simp) ((rY _ _ 290 QL _ _ QX (pP.ext jx) (pQ.ext jx)).mono ?_);rintro e u' YE ⟨v,rfl,gt,aG⟩;refine⟨v,rfl,gt,?_⟩;refine Qz aG.1 rfl ?_;refine Qz aG.2.1 rfl ?_;exact bad QL jx (fC.2 (λhh=>by rw[hwi.2 (jZk.1 hh).1.2.2.1] at Pa;cases Pa)) YE aG
   | true=>
    refine Q9 rfl ?_;have Z6:=J6.ext Jv;refine Qo Z6 rfl ?_;refine call (aQn q.2 QL q8 (by omega)) ?_;rintro _ Xb ⟨rfl,XB⟩;have nj:=jx.trans XB;cases NC:K5 q.2 with
    | false=>
     refine Xd rfl ?_;refine XU (Wb 290 (by decide) Xb) (λ_ _ hf=>hf.elim) ?_;rintro ch _ ⟨rfl,rfl⟩;refine aX Qa rfl rfl (args:= #[.pointer (some ⟨w1.heap.size,0,none⟩),.pointer (some ⟨w2.heap.size,0,none⟩)]) (by simp) ((rY _ _ 290 Xb _ _ QX (pP.ext nj) (pQ.ext nj)).mono ?_);rintro e u' YE ⟨v,rfl,gt,aG⟩;refine⟨v,rfl,gt,?_⟩;refine Qz aG.1 rfl ?_;refine Qz aG.2.1 rfl ?_;exact bad Xb nj (fC.2 (λhh=>by rw[(jZk.1 hh).1.2.2.2] at NC;cases NC)) YE aG
    | true=>
     refine Q9 rfl ?_;refine Qt (Q3.ext nj) rfl ?_;refine eM (vs:=[.slice q.1.A q.1.n q.1.c,.int .i64 q.1.r]) (Z6.ext XB) rfl (λj u hj=>by match j,hj with | 0,hj=>exact hj | 1,hj=>exact hj) ?_;refine call (fT hk R q.1 Xb (V6.ext nj) ((AZ q eB).ext (Vx.trans nj)) sR sq) ?_;rintro _ X9 ⟨QA,Qn,Qc,Qnd,Qr,rfl,XF,ND,sQ,FT⟩;refine Qv ((Q3.ext nj).ext XF) rfl (sc rfl) (λZu ga _ JV=>?_);have Vk:Mod (·=w4.heap.size) X9 Zu:=qQL ga rfl;refine Qj ((i+1:Nat):Int) (by show((i:Nat):Int)+1=_;omega) (by omega) ?_;have bF:∀ad,QA=some ad->0<Qn->ad.block≠w4.heap.size:=λad ea h0=>by
      have:=FT ad.block ⟨ad,ea,rfl⟩;have:=nj.size;have:=Q3.lt;omega
     have nQU:=nj.trans XF;refine⟨i+1,rfl,⟨(Xe.trans (Mod.of_ext (·=w4.heap.size) nQU) (λj hj=>.inl hj)).trans Vk (λj hj=>.inl hj),Q4,⟨QA,Qn,Qc,Qnd,Qr⟩,_,JV,ND.modo Vk bF,sQ,bF,?_⟩,by show pn-(i+1)<pn-i;omega⟩;rw[JH,lQg];have h1:Kp nm.length q.1.nd q.1.r=true/\QG nm.length (oD q.1)≠ []/\(∀c∈QG nm.length (oD q.1),c∈QG nm.length oR)/\K5 q.2=true:=⟨FR,λe=>hz (kR.2 e),hwi.1 Pa,NC⟩
     have h2:bn nm.length (QG nm.length oR) (q::ps.drop (i+1))=true↔bn nm.length (kD nm.length (QG nm.length oR) (oD q.1)) (ps.drop (i+1))=true:=jZk.trans ⟨λh=>h.2,λh=>⟨h1,h⟩⟩;exact qE.2 h2
 have Q4:i=pn:=by omega
 have aO:ps.drop i=[]:=nR (by omega);rw[aO] at JH;have hR0:=sR.root0;have JH:bn nm.length (QG nm.length (oD x)) ps=decide (QG nm.length oR=[]):=JH;refine Z2 (ZN Qa ?_);refine Qo Q3 rfl ?_;refine WW (λhz=>?_) (λhz=>?_)
 ·refine XU (Wb 290 (by decide) w7) (λ_ _ hf=>hf.elim) ?_;rintro ch _ ⟨rfl,rfl⟩;refine aX Qa rfl rfl (args:= #[.pointer (some ⟨w1.heap.size,0,none⟩),.pointer (some ⟨w2.heap.size,0,none⟩)]) (by simp) ((rY _ _ 290 w7 _ _ QX pP pQ).mono ?_);rintro e u' YE ⟨v,rfl,gt,aG⟩;refine⟨v,rfl,gt,?_⟩;refine Qz aG.1 rfl ?_;refine Qz aG.2.1 rfl ?_;exact cQL w7 K9 (by rw[JH];exact Zr (λe=>hz (hR0.2 e))) YE aG
 have wT:bn nm.length (QG nm.length (oD x)) ps=true:=by rw[JH];exact Zx (hR0.1 hz)
 rw[if_neg (by rw[wT];decide)] at hm;refine Z2 (ZN Qa ?_);refine X8 (λh0=>?_) (λh0=>?_)
 ·have E3:ps=[]:=WO (by omega);rw[Qf E3] at hm;refine KZ pP (by simp[Kb]) (λw8 ZL Xz=>?_);refine KZ (pQ.mod ZL QX.symm) (by simp[Kb]) (λw9 Zg JI=>?_);refine gV Qa rfl rfl (.inl rfl) (args:= #[.pointer (some ⟨w1.heap.size,0,none⟩),.pointer (some ⟨w2.heap.size,0,none⟩)]) (by simp) ((aQ2 _ _ w9).mono ?_);rintro e u' YE ⟨v,rfl,gt,rfl⟩;refine⟨v,rfl,gt,?_⟩;refine Qz (Xz.mod Zg QX) rfl ?_;refine Qz JI rfl ?_;exact⟨by rw[hm];rfl,Zg.ext (ZL.ext Vx (λj hj=>by omega)) (λj hj=>by omega)⟩
 ·have E3:ps≠ []:=λe=>h0 (by rw[<-JF,e];rfl)
  rw[if_neg E3] at hm;obtain⟨Jn,cQM⟩:=aQl (λc hc=>(JC.1 hc).1) wT;have cQN:QG nm.length (oD x)≠ []:=λe=>by
   obtain⟨q,hq⟩:=Gk _ E3;obtain⟨_,n1,_,n2⟩:=cQM q hq;obtain⟨c,hc⟩:=Gk _ n1;have:=n2 c hc;rw[e] at this;cases this
  refine ZN Qa ?_;refine Qt (JV.ext K9) rfl ?_;refine call (aQt NA nn nc nm x (oD x) PA pn pc ps nm.length ni rfl Yp (λs hs=>by have:=KC s hs;omega) (λq hq=>by
   obtain⟨a,b,c,d⟩:=cQM q hq;obtain⟨e1,e2⟩:=bG q hq;exact⟨a,c,e1,by omega⟩) w7 (hN.ext Vx) (hx.ext Vx) sx (hP.ext Vx) (λq hq=>(AZ q hq).ext Vx) cQN Jn) ?_
  rintro _ w8 ⟨A8,c8,rfl,Xn,io⟩;have Zq:∀c∈QG nm.length (oD x),(fP (ZD ps) c).length<=2000:=λc hc=>by
   obtain⟨p,hp,KM⟩:=Jn.cov c hc;rw[Jn.get hc hp KM];obtain⟨q,hq,rfl⟩:=Zk.1 hp;exact(bG q hq).2
  have bE:(QG nm.length (oD x)).length<=16:=X3 (aQ8 _ _) (X3 (aT (by decide) ni) (by decide));have qQC:=lQi KC cQN bE Zq nm.length 0;generalize Zn nm (fP (ZD ps)) nm.length 0 (QG nm.length (oD x))=W at*;refine XU (aQZ A8 _ c8 W w8 io (by omega)) ?_ ?_
  rotate_left
  ·rintro ch _ ⟨tm,rfl,rfl⟩;rw[Qf tm] at hm;refine aX Qa rfl rfl (args:= #[.pointer (some ⟨w1.heap.size,0,none⟩),.pointer (some ⟨w2.heap.size,0,none⟩)]) (by simp) ((rY _ _ 2 w8 _ _ QX (pP.ext Xn) (pQ.ext Xn)).mono ?_);rintro e u' YE ⟨v,rfl,gt,aG⟩;refine⟨v,rfl,gt,?_⟩;refine Qz aG.1 rfl ?_;refine Qz aG.2.1 rfl ?_;exact⟨by rw[hm];rfl,aG.2.2.ext (Vx.trans Xn) (λi hi=>by rcases hi with rfl | rfl<;>omega)⟩
  rintro _ w9 ⟨Kl,rfl,Xx⟩;rw[if_neg (by omega)] at hm;have Vn:=Xn.trans Xx;refine KZ (pP.ext Vn) (by simp[Kb]) (λQE ZA J6=>?_);refine KZ ((pQ.ext Vn).mod ZA QX.symm) (by simp[Kb]) (λQL Jj Z6=>?_);refine gV Qa rfl rfl (.inl rfl) (args:= #[.pointer (some ⟨w1.heap.size,0,none⟩),.pointer (some ⟨w2.heap.size,0,none⟩)]) (by simp) ((aQ2 _ _ QL).mono ?_);rintro e u' YE ⟨v,rfl,gt,rfl⟩;refine⟨v,rfl,gt,?_⟩;refine Qz (J6.mod Jj QX) rfl ?_;refine Qz Z6 rfl ?_;exact⟨by rw[hm];rfl,Jj.ext (ZA.ext (Vx.trans Vn) (λj hj=>by omega)) (λj hj=>by omega)⟩
theorem aQ9 {ls:List (List Nat)}(hL:l6 ls){a:Nat}{s:List Nat}(h:(a,s)∈Zj 0 ls):∃pre ag,Qp ls=pre++(s++10::ag)/\pre.length=a/\cP pre/\10∉s:=by
 obtain⟨i,h1,h2⟩:=aQT h;have Xa:=(Jd.1 h1).1;have hs:ls[i]=s:=by rw[Xu Xa] at h1;exact Option.some.inj h1
 refine⟨Qp (ls.take i),Qp (ls.drop (i+1)),?_,by omega,HF _,hL s (Xl h1)⟩;have hu:∀a b:List (List Nat),Qp (a++b)=Qp a++Qp b:=λa b=>by simp[Qp]
 have e:ls=ls.take i++s::ls.drop (i+1):=by
  have:=(aQ i ls).symm;rw[am Xa,hs] at this;exact this
 have e2:=QC Qp e;rw[hu,V4] at e2;exact e2
theorem IZ {l:List Nat}(hl:∀x∈l,x<256){j b:Nat}(h:l[j]? =some b):(((Qd l).data[j]!).toNat:Int)=b:=by
 have Xa:=(Jd.1 h).1;have hb:=hl b (Xl h);have e:(Qd l).data[j]! =UInt8.ofNat b:=by
  have:(Qd l).data=(l.map UInt8.ofNat).toArray:=rfl;rw[this,getElem!_def,F8,aR,h]<;>rfl
 rw[e];have:(UInt8.ofNat b).toNat=b:=by simp[jY hb]
 rw[this]
theorem bQa {ls:List (List Nat)}(hL:l6 ls)(h8:∀x∈Qp ls,x<256){a x:Nat}{s:List Nat}(h:(a,s)∈Zj 0 ls)(h1:a<=x)(h2:x<=a+s.length):Lib.lastIndexByte (Qd ((Qp ls).take x)) 10=(a:Int)-1:=by
 obtain⟨pre,ag,e,hp,ht,hs⟩:=aQ9 hL h;have QZ:x<=(Qp ls).length:=by rw[e];simp;omega
 have XQ:(Qd ((Qp ls).take x)).size=x:=by rw[Q8,Kx];omega
 have NE:∀y∈(Qp ls).take x,y<256:=λy hy=>h8 y (Wn hy)
 have Fj:∀j,j<x->((Qp ls).take x)[j]? =(Qp ls)[j]? :=λj hj=>qJ hj
 have Q4:∀j,a<=j->j<x->((Qp ls).take x)[j]? ≠some 10:=λj ha hj hh=>by
  rw[Fj j hj,e,aS (by omega),hp,gI (by omega)] at hh;exact hs (Xl hh)
 have ne:∀j,j<x->∃b,((Qp ls).take x)[j]? =some b:=λj hj=>⟨_,Xu (by rw[Kx];omega)⟩
 have wC:0<a->((Qp ls).take x)[a-1]? =some 10∨x<a:=λh0=>by
  left
  rw[Fj (a-1) (by omega),e,gI (by omega)];rcases ht with ht | ht
  ·subst ht;simp at hp;omega
  ·rw[tW,hp] at ht;exact ht
 rcases Lib.lastIndexByte_spec (Qd ((Qp ls).take x)) 10 with⟨k1,k2⟩ | ⟨i,i1,i2,i3,i4⟩
 ·rw[k1];by_cases h0:a=0
  ·subst h0;rfl
  ·exfalso;rcases wC (by omega)with hh | hh
   ·have:=IZ NE hh;exact k2 (a-1) (by rw[XQ];omega) (by rw[this];rfl)
   ·omega
 ·rw[XQ] at i1;obtain⟨b,hb⟩:=ne i i1;have m7:b=10:=by
   have:=IZ NE hb;rw[this] at i3
   exact_mod_cast i3
  subst m7;rw[i2];have hia:i<a:=by
   apply Classical.byContradiction;intro hh;exact Q4 i (by omega) i1 hb
  rcases wC (by omega)with hh | hh
  ·have ZF:i=a-1:=by
    apply Classical.byContradiction;intro zd;have:=IZ NE hh;exact i4 (a-1) (by omega) (by rw[XQ];omega) (by rw[this];rfl)
   omega
  ·omega
theorem I0 {ls:List (List Nat)}(hL:l6 ls){a:Nat}{s:List Nat}(h:(a,s)∈Zj 0 ls):iZ 10 ((Qp ls).drop a)=s.length/\((Qp ls).drop a).take (s.length+1)=s++ [10]:=by
 obtain⟨pre,ag,e,hp,ht,hs⟩:=aQ9 hL h;have e2:(Qp ls).drop a=s++10::ag:=by rw[e,<-hp,nT]
 rw[e2];constructor
 ·unfold iZ;rw[Qf (by simp)];congr 1;clear e e2 h;induction s with
  | nil=>simp
  | cons b s ih=>
   simp only[QY,not_or] at hs;rw[Jo,an,Qf (by simpa using λe:b=10=>hs.1 e.symm),Q2,ih hs.2,Q2]
 ·rw[show s++10::ag=(s++ [10])++ag by simp,List.take_left' (by simp)]
theorem lQj {ls:List (List Nat)}(hL:l6 ls){a:Nat}{s:List Nat}(h:(a,s)∈Zj 0 ls):XE (Qp ls) a (a+s.length+1)=s++ [10]:=by
 unfold XE;rw[show a+s.length+1-a=s.length+1 by omega];exact(I0 hL h).2
theorem bQb {ls:List (List Nat)}{e:Ed}(h:(Zj 0 ls).any (kF e)=true):0<=e.fr/\e.fr<=e.to_/\e.to_<(Qp ls).length:=by
 obtain⟨⟨a,s⟩,hm,hp⟩:=nV.1 h;obtain⟨p1,p2,p3,p4⟩:=Y2 hp;have:=oX hm;simp only at p1 p2;omega
def X6 (e:EdV):List Value:=[.int .i64 e.fr,.int .i64 e.to_,.string (Qd e.tx),.slice e.x.A e.x.n e.x.c,.int .i64 e.x.r]
theorem ji (e:EdV):(X6 e).length=5:=rfl
structure EP where
 eb:Nat
 NA:Option Addr
 nn:Nat
 nc:Nat
 nm:List (List Nat)
 x:DV
 f:List Nat
 EA:Option Addr
 en:Nat
 ec:Nat
 es:List EdV
structure EK (w:World) (p:EP):Prop where
 blk:Blk w p.eb 99 [.slice p.NA p.nn p.nc,.slice p.x.A p.x.n p.x.c,.int .i64 p.x.r,.string (Qd p.f),.slice p.EA p.en p.ec]
 nms:Sl w 1 p.NA p.nn p.nc (XH p.nm)
 eds:SlS X6 5 w p.EA p.en p.ec p.es
 sbs:∀e∈p.es,SB w e.x.A e.x.n e.x.c e.x.nd
theorem EK.ext {w w':World}{p:EP}(h:EK w p)(k:Ext w w'):EK w' p:=⟨h.blk.ext k,h.nms.ext k,h.eds.ext k,λe he=>(h.sbs e he).ext k⟩
structure EB (p:EP):Prop where
 n4:p.nm.length<=4
 nb:KO p.nm
 nl:∀s∈p.nm,s.length<=1000
 f8:∀b∈p.f,b<256
 fl:p.f.length<=60000
 ok:cP p.f
 i64:∀e∈p.es, -9223372036854775808<=e.fr/\e.fr<=9223372036854775807/\ -9223372036854775808<=e.to_/\e.to_<=9223372036854775807
 t8:∀e∈p.es,∀b∈e.tx,b<256
 tl:∀e∈p.es,e.tx.length<=1000
 el:p.es.length<=10
abbrev vy (p:EP):Prop:=p.es.all (λe=>Kp p.nm.length e.x.nd e.x.r)=true/\kG p.nm.length p.f 0 (p.es.map EdV.ed)=true
def kI (p:EP)(i:Nat):Int:=if i=0 then 0 else((p.es[i-1]?).map (·.fr)).getD 0
abbrev yI (p:EP)(i:Nat):Prop:=(p.es.drop i).all (λe=>Kp p.nm.length e.x.nd e.x.r)=true/\kG p.nm.length p.f (kI p i) ((p.es.drop i).map EdV.ed)=true
theorem lQk {p:EP}{i:Nat}{e:EdV}(h:p.es[i]? =some e):yI p i↔(Kp p.nm.length e.x.nd e.x.r=true/\QG p.nm.length (oD e.x)≠ []/\(Zj 0 (QF p.f)).any (kF e.ed)=true/\kI p i<=e.fr)/\yI p (i+1):=by
 have Xa:=(Jd.1 h).1;have hd:p.es.drop i=e::p.es.drop (i+1):=by
  rw[am Xa];congr 1;rw[Xu Xa] at h;exact Option.some.inj h
 have hp:kI p (i+1)=e.fr:=by unfold kI;rw[if_neg (by omega),show i+1-1=i by omega,h]<;>rfl
 unfold yI;rw[hd,hp];simp only[Bm,Kw,kG,jZq,Z9,VX];constructor
 ·rintro⟨⟨a,b⟩,⟨⟨c,d⟩,e1⟩,f⟩;exact⟨⟨a,c,d,e1⟩,b,f⟩
 ·rintro⟨⟨a,c,d,e1⟩,b,f⟩;exact⟨⟨a,b⟩,⟨⟨c,d⟩,e1⟩,f⟩
theorem bQc (l:List Nat)(w:World)(hl:l.length<=1000000000):
  Fn Tryz.prog 93 [.string (Qd l),.int .u8 10] w (λv w'=>v= .int .i64 (Lib.lastIndexByte (Qd l) 10)/\w=w'):=
 yj (Tryz.strings_LastIndexByte (Qd l) 10 (by rw[Q8];omega) w)
theorem lQl (p:EP)(hB:EB p)(w:World)(K:EK w p):
  FnP Tryz.prog 45 [.pointer (some ⟨p.eb,0,none⟩)] w (λ_ w'=>vy p/\Ext w w') (λch w'=>¬vy p/\ch=kH 291/\Ext w w'):=by
 have wX:=K.eds.2;have Pb:=K.eds.1.cap;have oQ8:=K.eds.1.le;simp only[maxLen] at Pb;have QZ:p.nm.length=p.nn:=by have:=K.nms.len;rw[bT] at this;omega
 refine bQ (c:={c45 with cuts:=[]}) Qa Tryz.func45 rfl rfl rfl ?_;refine Qo K.blk rfl ?_;refine loop Qa [11] (λi:Nat=>[.int .i64 i]) (λi w'=>Ext w w'/\i<=p.en/\(vy p↔yI p i)) (λi _=>p.en-i) 0 rfl ⟨Ext.refl _,Xo _,Iff.rfl⟩ ?_;rintro i w1 ⟨Qe,hi,A6⟩;refine Qw (λc1=>?_) (λc1=>?_)
 ·have Q4:i<p.en:=by omega
  refine Zt ji (K.eds.ext Qe) rfl Q4 (λad e he hc=>?_);have eD:=Xl he;obtain⟨i1,i2,i3,i4⟩:=hB.i64 e eD;rw[lQk he] at A6;refine Jz (vs:=X6 e) rfl hc ?_;refine new (λw2 Qg Ze Qy=>?_);refine Qv Qy rfl (sc rfl) (λw3 Jc _ Qu=>?_);have XF:Ext w1 w3:=XT Qg Qy Jc;have QU:=Qe.trans XF;have K3:=K.ext QU;have hd:=Ext.drew w3;have Fs:∀{w':World} (Qb:Ext w3 w') (j:Nat) (u:Value),(X6 e)[3+j]? =some u->w'.cell? (((⟨w1.heap.size,0,none⟩:Addr).add 3).add j)=some u:=λQb j u hj=>by rw[add_add,(Qu.ext Qb).cell];exact hj
  refine XR Qa (Ext w3) 55 [(true,0),(true,1),(true,2),(true,3),(true,4),(true,5),(true,6),(false,7),(true,8),(true,9),(true,10),(true,11),(true,12),(true,13),(true,14),(true,15),(true,16),(true,17),(true,18),(true,19),(true,20),(true,21),(true,22),(true,23),(true,24),(true,25),(true,26),(true,27),(true,28),(true,29),(true,30),(true,31),(true,32),(true,33),(true,34),(true,35),(true,36),(true,37),(true,38),(true,39),(true,40),(true,41),(true,42),(true,43),(true,44),(true,45),(true,46),(true,47),(true,48),(true,49),(true,50),(true,51),(true,52),(true,53),(true,54)] (by kernel_rfl) hd ?_;refine Xv (vs:=[.slice e.x.A e.x.n e.x.c,.int .i64 e.x.r]) rfl (λw' Qb j u hj=>Fs Qb j u (by match j,hj with | 0,hj=>exact hj | 1,hj=>exact hj)) ?_;refine QN (v:=.slice p.NA p.nn p.nc) (λw' Qb=>(K3.blk.ext Qb).cell 0) ?_;rw[<-QZ];refine call (It e.x.A e.x.n e.x.c p.nm.length e.x.nd e.x.r w3.drew ((K3.sbs e eD).ext hd)) ?_;rintro _ w4 ⟨rfl,Qs⟩;have Vl:=hd.trans Qs;have Xp:=QU.trans Vl;refine⟨Vl,?_⟩;have no:¬(Kp p.nm.length e.x.nd e.x.r=true/\QG p.nm.length (oD e.x)≠ []/\(Zj 0 (QF p.f)).any (kF e.ed)=true/\kI p i<=e.fr)->¬vy p:=λXi hh=>Xi (A6.1 hh).1
  have Pd:(Zj 0 (QF p.f)).any (kF e.ed)=true->0<=e.fr/\e.fr<=e.to_/\e.to_<p.f.length:=λh=>by
   have:=bQb h;rw[Yg hB.ok] at this;exact this
  have cC:=Q8 p.f;cases YI:Kp p.nm.length e.x.nd e.x.r with
  | false=>
   refine Xd rfl ?_;refine XU (Wb 291 (by decide) w4) (λ_ _ hf=>hf.elim) ?_;rintro ch _ ⟨rfl,rfl⟩;exact⟨no (λhh=>by rw[YI] at hh;cases hh.1),rfl,Xp⟩
  | true=>
   refine Q9 rfl ?_;have se:=jg YI;have kR:=se.root0;refine QN (v:=.int .i64 e.x.r) (λw' Qb=>Fs Qb 1 _ rfl) ?_;refine X8 (λhz=>?_) (λhz=>?_)
   ·refine XU (Wb 291 (by decide) w4) (λ_ _ hf=>hf.elim) ?_;rintro ch _ ⟨rfl,rfl⟩;exact⟨no (λhh=>hh.2.1 (kR.1 hz)),rfl,Xp⟩
   refine QN (v:=.int .i64 e.fr) (λw' Qb=>(Qu.ext Qb).cell 0) ?_;refine Qw (λh1=>?_) (λh1=>?_)
   ·refine XU (Wb 291 (by decide) w4) (λ_ _ hf=>hf.elim) ?_;rintro ch _ ⟨rfl,rfl⟩;exact⟨no (λhh=>by have:=Pd hh.2.2.1;omega),rfl,Xp⟩
   refine QN (v:=.int .i64 e.to_) (λw' Qb=>(Qu.ext Qb).cell 1) ?_;refine QN (v:=.int .i64 e.fr) (λw' Qb=>(Qu.ext Qb).cell 0) ?_;refine Qw (λh2=>?_) (λh2=>?_)
   ·refine XU (Wb 291 (by decide) w4) (λ_ _ hf=>hf.elim) ?_;rintro ch _ ⟨rfl,rfl⟩;exact⟨no (λhh=>by have:=Pd hh.2.2.1;omega),rfl,Xp⟩
   refine QN (v:=.int .i64 e.to_) (λw' Qb=>(Qu.ext Qb).cell 1) ?_;refine QN (v:=.string (Qd p.f)) (λw' Qb=>(K3.blk.ext Qb).cell 3) ?_;refine Qw (λh3=>?_) (λh3=>?_)
   ·refine XU (Wb 291 (by decide) w4) (λ_ _ hf=>hf.elim) ?_;rintro ch _ ⟨rfl,rfl⟩;exact⟨no (λhh=>by have:=Pd hh.2.2.1;omega),rfl,Xp⟩
   have pR:(i:Int)<=9223372036854775807:=by omega
   refine Qw (λh4=>?_) (λh4=>?_)
   ·have hi0:0<i:=by omega
    refine QN (v:=.int .i64 e.fr) (λw' Qb=>(Qu.ext Qb).cell 0) ?_;refine QN (v:=.slice p.EA p.en p.ec) (λw' Qb=>(K3.blk.ext Qb).cell 4) ?_;refine Qj ((i-1:Nat):Int) (by omega) (by omega) ?_;refine Zt ji K3.eds rfl (by omega) (λwl e2 he2 WD=>?_);refine QN (v:=.int .i64 e2.fr) (λw' Qb=>(Qb.cell (WD 0 _ rfl))) ?_;have hpv:kI p i=e2.fr:=by unfold kI;rw[if_neg (by omega),he2]<;>rfl
    refine Qw (λh9=>?_) (λh9=>?_)
    ·refine XU (Wb 291 (by decide) w4) (λ_ _ hf=>hf.elim) ?_;rintro ch _ ⟨rfl,rfl⟩;exact⟨no (λhh=>by have:=hh.2.2.2;rw[hpv] at this;omega),rfl,Xp⟩
    have Pe:kI p i<=e.fr:=by rw[hpv];omega
    have dV:e.fr=(e.fr.toNat:Int):=by omega
    obtain⟨a,s,hm,a1,a2⟩:=IP (ls:=QF p.f) (p:=0) (x:=e.fr.toNat) (Xo _) (by rw[Yg hB.ok];omega);have gD:=iX p.f;have J9:=Yg hB.ok;have Bc:=bQa gD (by rw[J9];exact hB.f8) hm a1 a2;have nJ:=I0 gD hm;have Be:=oX hm;rw[J9] at Bc nJ Be;have tO:=aQV (e:=e.ed) hm (by show(a:Int)<=e.fr;omega) (by show e.fr<=a+s.length;omega) (by show e.fr<=e.to_;omega);have sL:=Ext.drew w4;refine XR Qa (Ext w4) 10 [(true,0),(true,1),(true,2),(true,3),(true,4),(true,5),(true,6),(false,7),(true,8),(true,9)] (by kernel_rfl) sL ?_;refine QN (v:=.string (Qd p.f)) (λw' Qb=>((K3.blk.ext Vl).ext Qb).cell 3) ?_;refine QN (v:=.int .i64 e.fr) (λw' Qb=>((Qu.ext Vl).ext Qb).cell 0) ?_;refine Xy (v':=.string (Qd (p.f.take e.fr.toNat))) ⟨by omega,by omega,by rw[cC];omega⟩ (by rw[KN];rfl) ?_;refine call (bQc (p.f.take e.fr.toNat) w4.drew (by rw[Kx];have:=hB.fl;omega)) ?_;rintro _ _ ⟨rfl,rfl⟩;refine⟨sL,?_⟩;rw[Bc];refine Qj (a:Int) (by omega) (by have:=hB.fl;omega) ?_;have nK:=Vl.trans sL;have gE:=QU.trans nK;refine Qo (K3.blk.ext nK) rfl ?_;refine Xy (v':=.string (Qd (p.f.drop a))) ⟨by omega,by rw[cC];omega,by rw[cC];omega⟩ (by
     rw[KN,cC];show Value.string (Qd ((p.f.take p.f.length).drop _))=_;rw[ZS (QB _)];rfl) ?_
    refine call (HN (p.f.drop a) 10 w4.drew (λx hx=>hB.f8 x (WT hx)) (by decide)) ?_;rintro _ _ ⟨rfl,rfl⟩;rw[nJ.1];refine Qj ((a+s.length:Nat):Int) (by omega) (by have:=hB.fl;omega) ?_;refine Qo (Qu.ext nK) rfl ?_;refine Qw (λh5=>?_) (λh5=>?_)
    ·refine XU (Wb 291 (by decide) w4.drew) (λ_ _ hf=>hf.elim) ?_;rintro ch _ ⟨rfl,rfl⟩;exact⟨no (λhh=>by have h7:=hh.2.2.1;rw[tO,VX] at h7;have h8:e.to_<=_:=h7.1;omega),rfl,gE⟩
    refine Qo (K3.blk.ext nK) rfl ?_;refine Qj ((a+s.length+1:Nat):Int) (by omega) (by have:=hB.fl;omega) ?_;refine Xy (v':=.string (Qd (s++ [10]))) ⟨by omega,by omega,by rw[cC];omega⟩ (by
     rw[KN];show Value.string (Qd ((p.f.take (a+s.length+1)).drop a))=_;rw[fA,show a+s.length+1-a=s.length+1 by omega,nJ.2]) ?_
    have zU:∀b∈s++ [10],b<256:=λb hb=>by
     rw[<-nJ.2] at hb;exact hB.f8 b (WT (Wn hb))
    refine call (CZ (s++ [10]) w4.drew zU) ?_;rintro _ w6 ⟨rfl,QQ⟩;have XX:=gE.trans QQ;rw[CH];refine Qw (λh6=>?_) (λh6=>?_)
    ·refine XU (Wb 291 (by decide) w6) (λ_ _ hf=>hf.elim) ?_;rintro ch _ ⟨rfl,rfl⟩;exact⟨no (λhh=>by have h7:=hh.2.2.1;rw[tO,VX] at h7;exact h6 h7.2),rfl,XX⟩
    refine Qj ((i+1:Nat):Int) (by show((i:Nat):Int)+1=_;omega) (by omega) ?_;have Pf:(Zj 0 (QF p.f)).any (kF e.ed)=true:=by
     rw[tO,VX];exact⟨by show e.to_<=_;omega,Decidable.not_not.1 h6⟩
    exact⟨i+1,rfl,⟨XX,Q4,A6.trans ⟨λh=>h.2,λh=>⟨⟨YI,λe0=>hz (kR.2 e0),Pf,Pe⟩,h⟩⟩⟩,by show p.en-(i+1)<p.en-i;omega⟩
   ·have hi0:i=0:=by omega
    have Pe:kI p i<=e.fr:=by unfold kI;rw[Qf hi0];omega
    have dV:e.fr=(e.fr.toNat:Int):=by omega
    obtain⟨a,s,hm,a1,a2⟩:=IP (ls:=QF p.f) (p:=0) (x:=e.fr.toNat) (Xo _) (by rw[Yg hB.ok];omega);have gD:=iX p.f;have J9:=Yg hB.ok;have Bc:=bQa gD (by rw[J9];exact hB.f8) hm a1 a2;have nJ:=I0 gD hm;have Be:=oX hm;rw[J9] at Bc nJ Be;have tO:=aQV (e:=e.ed) hm (by show(a:Int)<=e.fr;omega) (by show e.fr<=a+s.length;omega) (by show e.fr<=e.to_;omega);have sL:=Ext.drew w4;refine XR Qa (Ext w4) 10 [(true,0),(true,1),(true,2),(true,3),(true,4),(true,5),(true,6),(false,7),(true,8),(true,9)] (by kernel_rfl) sL ?_;refine QN (v:=.string (Qd p.f)) (λw' Qb=>((K3.blk.ext Vl).ext Qb).cell 3) ?_;refine QN (v:=.int .i64 e.fr) (λw' Qb=>((Qu.ext Vl).ext Qb).cell 0) ?_;refine Xy (v':=.string (Qd (p.f.take e.fr.toNat))) ⟨by omega,by omega,by rw[cC];omega⟩ (by rw[KN];rfl) ?_;refine call (bQc (p.f.take e.fr.toNat) w4.drew (by rw[Kx];have:=hB.fl;omega)) ?_;rintro _ _ ⟨rfl,rfl⟩;refine⟨sL,?_⟩;rw[Bc];refine Qj (a:Int) (by omega) (by have:=hB.fl;omega) ?_;have nK:=Vl.trans sL;have gE:=QU.trans nK;refine Qo (K3.blk.ext nK) rfl ?_;refine Xy (v':=.string (Qd (p.f.drop a))) ⟨by omega,by rw[cC];omega,by rw[cC];omega⟩ (by
     rw[KN,cC];show Value.string (Qd ((p.f.take p.f.length).drop _))=_;rw[ZS (QB _)];rfl) ?_
    refine call (HN (p.f.drop a) 10 w4.drew (λx hx=>hB.f8 x (WT hx)) (by decide)) ?_;rintro _ _ ⟨rfl,rfl⟩;rw[nJ.1];refine Qj ((a+s.length:Nat):Int) (by omega) (by have:=hB.fl;omega) ?_;refine Qo (Qu.ext nK) rfl ?_;refine Qw (λh5=>?_) (λh5=>?_)
    ·refine XU (Wb 291 (by decide) w4.drew) (λ_ _ hf=>hf.elim) ?_;rintro ch _ ⟨rfl,rfl⟩;exact⟨no (λhh=>by have h7:=hh.2.2.1;rw[tO,VX] at h7;have h8:e.to_<=_:=h7.1;omega),rfl,gE⟩
    refine Qo (K3.blk.ext nK) rfl ?_;refine Qj ((a+s.length+1:Nat):Int) (by omega) (by have:=hB.fl;omega) ?_;refine Xy (v':=.string (Qd (s++ [10]))) ⟨by omega,by omega,by rw[cC];omega⟩ (by
     rw[KN];show Value.string (Qd ((p.f.take (a+s.length+1)).drop a))=_;rw[fA,show a+s.length+1-a=s.length+1 by omega,nJ.2]) ?_
    have zU:∀b∈s++ [10],b<256:=λb hb=>by
     rw[<-nJ.2] at hb;exact hB.f8 b (WT (Wn hb))
    refine call (CZ (s++ [10]) w4.drew zU) ?_;rintro _ w6 ⟨rfl,QQ⟩;have XX:=gE.trans QQ;rw[CH];refine Qw (λh6=>?_) (λh6=>?_)
    ·refine XU (Wb 291 (by decide) w6) (λ_ _ hf=>hf.elim) ?_;rintro ch _ ⟨rfl,rfl⟩;exact⟨no (λhh=>by have h7:=hh.2.2.1;rw[tO,VX] at h7;exact h6 h7.2),rfl,XX⟩
    refine Qj ((i+1:Nat):Int) (by show((i:Nat):Int)+1=_;omega) (by omega) ?_;have Pf:(Zj 0 (QF p.f)).any (kF e.ed)=true:=by
     rw[tO,VX];exact⟨by show e.to_<=_;omega,Decidable.not_not.1 h6⟩
    exact⟨i+1,rfl,⟨XX,Q4,A6.trans ⟨λh=>h.2,λh=>⟨⟨YI,λe0=>hz (kR.2 e0),Pf,Pe⟩,h⟩⟩⟩,by show p.en-(i+1)<p.en-i;omega⟩
 ·have Q4:i=p.en:=by omega
  have dy:p.es.drop i=[]:=nR (by omega);exact⟨A6.2 (by unfold yI;rw[dy];exact⟨rfl,rfl⟩),Qe⟩
def dQ (n:Nat)(f:List Nat)(o:BF)(a:Nat)(es:List Ed):List AV:=es.foldl (λvs e=>vs.flatMap (Yz n f e)) [⟨o,[],a⟩]
theorem lQm (n:Nat)(f:List Nat)(o:BF)(a:Nat)(es:List Ed)(e:Ed):dQ n f o a (es++ [e])=(dQ n f o a es).flatMap (Yz n f e):=by unfold dQ;rw[Bv]<;>rfl
theorem jj {α:Type}{l:List α}{i:Nat}{x:α}(h:l[i]? =some x):l.take (i+1)=l.take i++ [x]:=by rw[VF,h]<;>rfl
theorem Do {n:Nat}{f:List Nat}{o:BF}{a:Nat}(QX:QG n o≠ []):∀(es:List Ed),VI n f (QG n o) a es (dQ n f o a es):=by
 have key:∀(es pre:List Ed) (vs:List AV),VI n f (QG n o) a pre vs->VI n f (QG n o) a (pre++es) (es.foldl (λvs e=>vs.flatMap (Yz n f e)) vs):=by
  intro es;induction es with
  | nil=>intro pre vs h;simpa using h
  | cons e es ih=>
   intro pre vs h;have:=ih (pre++ [e]) (vs.flatMap (Yz n f e)) (h.step (λc hc=>(JC.1 hc).1) e);simpa using this
 intro es;have:=key es [] _ (VI.start (f:=f) (a:=a) QX);rw[bO] at this;exact this
theorem lQn (n:Nat)(f:List Nat)(e:Ed)(v:AV):(Yz n f e v).length<=2:=by
 unfold Yz;split
 ·split<;>simp
 ·simp only[Q2];split<;>simp
theorem I1 (n:Nat)(f:List Nat)(e:Ed):∀vs:List AV,(vs.flatMap (Yz n f e)).length<=2*vs.length
 | []=>by simp
 | v::vs=>by
  rw[Vf,Qq,Q2];have:=lQn n f e v;have:=I1 n f e vs;omega
theorem lQo (n:Nat)(f:List Nat)(o:BF)(a:Nat):∀(es:List Ed),(dQ n f o a es).length<=2^es.length:=by
 have key:∀(es:List Ed) (vs:List AV),(es.foldl (λvs e=>vs.flatMap (Yz n f e)) vs).length<=2^es.length*vs.length:=by
  intro es;induction es with
  | nil=>intro vs;simp
  | cons e es ih=>
   intro vs;have h1:=ih (vs.flatMap (Yz n f e));have h2:=I1 n f e vs;have h3:=Nat.mul_le_mul_left (2^es.length) h2;rw[eE,Q2,nQ,Nat.mul_assoc];omega
 intro es;have:=key es [⟨o,[],a⟩];simpa [dQ] using this
structure VB (B T:Nat) (v:AV):Prop where
 b8:∀b∈v.d,b<256
 ln:v.d.length<=B
 at_:v.a<=T
theorem mD (f:List Nat)(a b:Nat):(XE f a b).length<=f.length:=by unfold XE;rw[Kx,Y1];omega
theorem vC {f:List Nat}(h:∀b∈f,b<256)(x y:Nat):∀b∈XE f x y,b<256:=λb hb=>h b (WT (Wn hb))
theorem VB.step {B T:Nat}{v:AV}(h:VB B T v){n:Nat}{f:List Nat}{e:Ed}(hf:∀b∈f,b<256)(Zq:f.length<=60000)(ht:∀b∈e.tx,b<256)(Wd:e.tx.length<=1000)(he:e.to_.toNat<=T):∀u∈Yz n f e v,VB (B+70000) T u:=λu hu=>by
 unfold Yz at hu;split at hu
 ·split at hu
  ·cases hu
  ·rw[QO.1 hu];exact⟨h.b8,by have:=h.ln;omega,h.at_⟩
 ·rcases QY.1 hu with rfl | hu
  ·refine⟨λb hb=>?_,?_,he⟩
   ·simp only[XP] at hb;rcases hb with(hb | hb) | hb
    ·exact h.b8 b hb
    ·exact vC hf _ _ b hb
    ·exact ht b hb
   ·simp only[Qq];have:=h.ln;have:=mD f v.a e.fr.toNat;omega
  ·split at hu
   ·cases hu
   ·rw[QO.1 hu];exact⟨h.b8,by have:=h.ln;simp only;omega,h.at_⟩
theorem lQp {n:Nat}{f:List Nat}{o:BF}{a T:Nat}(hf:∀b∈f,b<256)(Zq:f.length<=60000)(haT:a<=T):∀(es:List Ed),(∀e∈es,(∀b∈e.tx,b<256)/\e.tx.length<=1000/\e.to_.toNat<=T)->∀v∈dQ n f o a es,VB (es.length*70000) T v:=by
 have key:∀(es:List Ed) (vs:List AV) (B:Nat),(∀e∈es,(∀b∈e.tx,b<256)/\e.tx.length<=1000/\e.to_.toNat<=T)->(∀v∈vs,VB B T v)->∀v∈es.foldl (λvs e=>vs.flatMap (Yz n f e)) vs,VB (B+es.length*70000) T v:=by
  intro es;induction es with
  | nil=>intro vs B _ h v hv;simpa using h v hv
  | cons e es ih=>
   intro vs B he h v hv;obtain⟨e1,e2,e3⟩:=he e (by simp);have:=ih (vs.flatMap (Yz n f e)) (B+70000) (λb hb=>he b (by simp[hb])) (λu hu=>by
    obtain⟨v0,gf,hu⟩:=Wo.1 hu;exact(h v0 gf).step hf Zq e1 e2 e3 u hu) v hv
   rw[Q2,lr,xg];rw[show B+(es.length*70000+70000)=B+70000+es.length*70000 by omega];exact this
 intro es he v hv;have:=key es [⟨o,[],a⟩] 0 he (λv hv=>by rw[QO.1 hv];exact⟨(λb hb=>by cases hb),Xo _,haT⟩) v hv
 rwa [WQ] at this
theorem lQq {n:Nat}{f:List Nat}{o:BF}{a i:Nat}{es:List Ed}{e:Ed}(QX:QG n o≠ [])(ha:cW (QG n o) es=true)(hi:es[i]? =some e)(h0:(a:Int)<=e.fr)(hp:∀b∈es,0<=b.to_){v:AV}(hv:v∈dQ n f o a (es.take i))(hb:QG n (XY v.o e.o)≠ []):(v.a:Int)<=e.fr:=by
 obtain⟨c,hc⟩:=Gk _ hb;obtain⟨c1,c2⟩:=JC.1 hc;have c2:(v.o (bits c)&&e.o (bits c))=true:=c2;rw[Z9] at c2;obtain⟨q1,q2⟩:=(Do (f:=f) (a:=a) QX (es.take i)).st v hv c (JC.2 ⟨c1,c2.1⟩);have:=kQ4 (f:=f) ha (a:=a) hi q1 c2.2 h0 hp;rw[q2] at this;exact this
theorem lQr {n:Nat}{f:List Nat}{o:BF}{a stop:Nat}{es:List Ed}(QX:QG n o≠ []):((QG n o).all (λc=>K5 (ZY f stop a es c))=true)↔∀v∈dQ n f o a es,K5 (v.d++XE f v.a stop)=true:=by
 have hI:=Do (f:=f) (a:=a) QX es;constructor
 ·intro h v hv;obtain⟨c,hc⟩:=Gk _ (hI.ne v hv);obtain⟨q1,q2⟩:=hI.st v hv c hc;have:=Ka.1 h c q1;unfold ZY at this;rw[q2] at this;exact this
 ·intro h;refine Ka.2 (λc hc=>?_);obtain⟨v,hv,qv⟩:=hI.cov c hc;obtain⟨_,q2⟩:=hI.st v hv c (JC.2 ⟨(JC.1 hc).1,qv⟩);unfold ZY;rw[q2];exact h v hv
def mE (f:List Nat)(stop:Nat)(vs:List AV):List Pr:=vs.foldl (λps v=>dP ps v.o (v.d++XE f v.a stop)) []
theorem lQs (f:List Nat)(stop:Nat)(vs:List AV)(v:AV):mE f stop (vs++ [v])=dP (mE f stop vs) v.o (v.d++XE f v.a stop):=by unfold mE;rw[Bv]<;>rfl
theorem lQt {n:Nat}{f:List Nat}{o:BF}{a stop:Nat}{es:List Ed}(QX:QG n o≠ []):QI n (QG n o) (ZY f stop a es) (dQ n f o a es) (mE f stop (dQ n f o a es)):=by
 have hI:=Do (f:=f) (a:=a) QX es;generalize dQ n f o a es=V at*;have key:∀(vs pre:List AV) (ps:List Pr),(∀v∈vs,v∈V)->QI n (QG n o) (ZY f stop a es) pre ps->QI n (QG n o) (ZY f stop a es) (pre++vs) (vs.foldl (λps v=>dP ps v.o (v.d++XE f v.a stop)) ps):=by
  intro vs;induction vs with
  | nil=>intro pre ps _ h;simpa using h
  | cons v vs ih=>
   intro pre ps hV h;have:=ih (pre++ [v]) _ (λu hu=>hV u (by simp[hu])) (h.ins (v:=v) (t:=v.d++XE f v.a stop) (λc hc=>by
    obtain⟨q1,q2⟩:=hI.st v (hV v (by simp)) c hc;refine⟨q1,?_⟩;unfold ZY;rw[q2]))
   simpa using this
 have:=key V [] [] (λv hv=>hv) QI.nil;rw[bO] at this;exact this
theorem bQd {f:List Nat}{stop:Nat}{P:List Nat->Prop}:∀(vs:List AV),(∀v∈vs,P (v.d++XE f v.a stop))->∀q∈mE f stop vs,P q.t:=by
 have key:∀(vs:List AV) (ps:List Pr),(∀v∈vs,P (v.d++XE f v.a stop))->(∀q∈ps,P q.t)->∀q∈vs.foldl (λps v=>dP ps v.o (v.d++XE f v.a stop)) ps,P q.t:=by
  intro vs;induction vs with
  | nil=>intro ps _ h;exact h
  | cons v vs ih=>
   intro ps hv h;refine ih _ (λu hu=>hv u (by simp[hu])) (λq hq=>?_);have hq:q∈dP ps v.o (v.d++XE f v.a stop):=hq;unfold dP at hq;split at hq
   ·rename_i p hp;rcases PV hq with hq | rfl
    ·exact h q hq
    ·exact h p (Xl hp)
   ·rcases XP.1 hq with hq | hq
    ·exact h q hq
    ·rw[QO.1 hq];exact hv v (by simp)
 intro vs hv;exact key vs [] hv (λq hq=>by cases hq)
theorem bQe {α:Type}{f:α->List Value}{sz:Nat}(hf:∀x,(f x).length=sz):∀(l:Nat)(L:List α),(L.drop l).flatMap f=(L.flatMap f).drop (l*sz)
 | 0,L=>by simp
 | l+1,[]=>by simp
 | l+1,x::L=>by
  rw[PO,bQe hf l L,Vf,lr,xg,Bj,<-nM];congr 1;rw[<-hf x,nT]
theorem SlS.from {α:Type}{f:α->List Value}{sz:Nat}(hf:∀x,(f x).length=sz){w:World}{A:Option Addr}{n c l:Nat}{L:List α}(h:SlS f sz w A n c L)(hl:l<=n):SlS f sz w (if c=l then A else A.map (·.add (l*sz))) (n-l) (c-l) (L.drop l):=by
 have h1:=h.1.len;have h2:=h.1.le;have h3:=h.1.cap;refine⟨?_,by rw[Y1,h.2]⟩;rw[bQe hf];refine⟨by rw[Y1,h1,<-Nat.sub_mul],by omega,by omega,λh0=>?_⟩;obtain⟨ad,rfl,hc⟩:=h.1.at_ (by omega);refine⟨ad.add (l*sz),by rw[if_neg (by omega)];rfl,λj u hu=>?_⟩;rw[Addr.add_add];exact hc _ _ (by rw[Gg] at hu;exact hu)
theorem bQf {n:Nat}(hn:n<=12){x y:DV}{o o':BF}(s:Set1 n x.nd x.r o)(s':Set1 n y.nd y.r o'):rM x.nd x.r y.nd y.r= !(YR (QG n o') o):=by
 cases hm:YR (QG n o') o with
 | true=>
  obtain⟨c,hc,hoc⟩:=nV.1 hm;refine Ib (λh=>h.2.2 ⟨bits c,by rw[s.mean];exact hoc,by rw[s'.mean];exact(JC.1 hc).2⟩)
 | false=>
  refine Ux ⟨s.chk hn,s'.chk hn,λ⟨e,h1,h2⟩=>?_⟩;rw[s.mean] at h1;rw[s'.mean] at h2;obtain⟨c,hc,hb⟩:=De n e;have:YR (QG n o') o=true:=nV.2 ⟨c,JC.2 ⟨hc,by rw[s'.dep _ e hb];exact h2⟩,by rw[s.dep _ e hb];exact h1⟩;rw[hm] at this;cases this
theorem lQu {k:Nat}(hk:k<=12)(x y:DV){o o':BF}(w:World)(h:SB w x.A x.n x.c x.nd)(h':SB w y.A y.n y.c y.nd)(s:Set1 k x.nd x.r o)(s':Set1 k y.nd y.r o'):
  Fn Tryz.prog 101 [Xm x.A x.n x.c x.r,Xm y.A y.n y.c y.r] w (yq w k (λe=>o e||o' e)):=by
 refine(TI x.A x.n x.c x.nd x.r y.A y.n y.c y.nd y.r w h h').mono ?_;rw[iW hk s s' 1];have c1:Set1 k _ _ (λe=>o e||o' e):=(fN s s' 1).congr (λe=>by simp[KP]);generalize Ye x.nd x.r y.nd y.r 1=D at*;obtain⟨D1,D2⟩:=D;rintro v w' ⟨PA,q,pc,rfl,hE,hP,hR⟩;exact⟨PA,q,pc,D1,D2,rfl,hE,hP,c1,hR⟩
theorem lQv (q:DV×List Nat)(t:List Nat)(tb:Nat)(w:World)(hq:∀b∈q.2,b<256)(ht:∀b∈t,b<256)(hB:Blk w tb 9 [.string (Qd t)]):
  Fn Tryz.prog 99 [.agg (Kg q).toArray,.pointer (some ⟨tb,0,none⟩)] w (λu w'=>u= .bool (decide (q.2=t))/\Ext w w'):=by
 refine QJ (c:={c99 with cuts:=[]}) Qa Tryz.func99 rfl rfl rfl ?_;refine new (λw1 Qe Q6 Qh=>?_);refine Qo Qh rfl ?_;refine Qz (hB.ext Qe) rfl ?_;refine⟨?_,Qe⟩;refine QC Value.bool ?_;refine xj.2 ⟨λe=>Kn hq ht e,λe=>by rw[e]⟩
theorem lQw (PA:Option Addr)(pn pc:Nat)(ps:List (DV×List Nat))(t:List Nat)(tb:Nat)(w:World)(h:SlS Kg 3 w PA pn pc ps)(hp:∀q∈ps,∀b∈q.2,b<256)(ht:∀b∈t,b<256)(hB:Blk w tb 9 [.string (Qd t)]):
  Fn Tryz.prog 98 [.slice PA pn pc,.func (.func 99) #[] #[.pointer (some ⟨tb,0,none⟩)]] w (λu w'=>u= .int .i64 (if Wy (ZD ps) t<pn then(Wy (ZD ps) t:Int)else -1)/\Ext w w'):=by
 have hn:=h.2;have ZF:=h.1.le;have cw:=h.1.cap;have JF:(ZD ps).length=ps.length:=by simp[ZD]
 obtain⟨s1,s2⟩:=Dm t (ZD ps);refine QJ (c:={c98 with cuts:=[]}) Qa Tryz.func98 rfl rfl rfl ?_;refine loop Qa [8] (λi:Nat=>[.int .i64 i]) (λi w'=>Ext w w'/\i<=pn/\∀q∈ps.take i,q.2≠t) (λi _=>pn-i) 0 rfl ⟨Ext.refl _,Xo _,λq hq=>by simp at hq⟩ ?_;rintro i w1 ⟨Qe,hi,Xi⟩;have hge:i<=Wy (ZD ps) t:=by
  apply Classical.byContradiction;intro hh;have Xa:Wy (ZD ps) t<ps.length:=by omega
  obtain⟨q,hq⟩:∃q,ps[Wy (ZD ps) t]? =some q:=⟨_,Xu Xa⟩
  have:=s1 ⟨oD q.1,q.2⟩ (by unfold ZD;rw[aR];show Option.map _ (ps[Wy (ZD ps) t]?)=_;rw[hq];rfl);exact Xi q (Xl (i:=Wy (ZD ps) t) (by rw[qJ (by omega)];exact hq)) this
 refine Qw (λc1=>?_) (λc1=>?_)
 ·have Q4:i<pn:=by omega
  refine Zt IA (h.ext Qe) rfl Q4 (λad q hq hc=>?_);have eB:=Xl hq;refine Jz (vs:=Kg q) rfl hc ?_;refine call (lQv q t tb w1 (hp q eB) ht (hB.ext Qe)) ?_;rintro _ w2 ⟨rfl,Qg⟩;have jN:(ZD ps)[i]? =some ⟨oD q.1,q.2⟩:=by unfold ZD;rw[aR,hq]<;>rfl
  refine Qw (λd1=>?_) (λd1=>?_)
  ·have KK:Wy (ZD ps) t=i:=by
    apply Classical.byContradiction;intro hh;exact s2 i _ jN (by omega) d1
   rw[KK,Qf Q4];exact⟨rfl,Qe.trans Qg⟩
  ·simp only[maxLen] at cw;refine Qj ((i+1:Nat):Int) (by show((i:Nat):Int)+1=_;omega) (by omega) ?_;refine⟨i+1,rfl,⟨Qe.trans Qg,Q4,λq' hq'=>?_⟩,by show pn-(i+1)<pn-i;omega⟩;rw[VF,hq] at hq';rcases XP.1 hq' with hq' | hq'
   ·exact Xi q' hq'
   ·have:q'=q:=by simpa using hq'
    rw[this];exact d1
 ·have Q4:i=pn:=by omega
  rw[if_neg (by omega)];exact⟨rfl,Qe⟩
theorem lQx {j:Nat}{vs l:List Value}{c:Value}(h:l[j+vs.length]? =some c):Vs j vs l=Vs j (vs++ [c]) l:=by
 have Xa:=(Jd.1 h).1;rw[kn j vs l (by omega),kn j (vs++ [c]) l (by simp;omega)];rw[ZG,ZG,ZG];congr 2;rw[am Xa,Qq,nU];have:l[j+vs.length]=c:=by rw[Xu Xa] at h;exact Option.some.inj h
 rw[this]<;>rfl
theorem lQy (f:List Nat)(stop:Nat):∀vs:List AV,(mE f stop vs).length<=vs.length:=by
 have key:∀(vs:List AV) (ps:List Pr),(vs.foldl (λps v=>dP ps v.o (v.d++XE f v.a stop)) ps).length<=ps.length+vs.length:=by
  intro vs;induction vs with
  | nil=>intro ps;simp
  | cons v vs ih=>
   intro ps;have h1:=ih (dP ps v.o (v.d++XE f v.a stop));have h2:(dP ps v.o (v.d++XE f v.a stop)).length<=ps.length+1:=by
    unfold dP;split
    ·rw[gG];omega
    ·simp
   rw[eE,Q2];omega
 intro vs;have:=key vs [];simpa [mE] using this
theorem I4 {n:Nat}{qs:List (DV×Pr)}(h:∀q∈qs,Set1 n q.1.nd q.1.r q.2.o):ZD (qs.map (λq=>(q.1,q.2.t)))=qs.map (·.2):=by
 unfold ZD;rw[nP];refine List.map_congr_left (λq hq=>?_);have:oD q.1=q.2.o:=funext (λe=>(h q hq).mean e);show(⟨oD q.1,q.2.t⟩:Pr)=q.2;rw[this]
theorem ik {ad:Addr}{n j sz:Nat}{K:Addr->Prop}(h:j<n)(k:K (ad.add (j*sz))):WU (some ad) n (j:Int) sz K:=by
 unfold WU;exact⟨ad,rfl,by omega,by omega,by simpa using k⟩
def V5 (v:DV×AV):List Value:=[.slice v.1.A v.1.n v.1.c,.int .i64 v.1.r,.string (Qd v.2.d),.int .i64 v.2.a]
theorem bQg (v:DV×AV):(V5 v).length=4:=rfl
def YB (q:DV×Pr):List Value:=Kg (q.1,q.2.t)
theorem Dp (q:DV×Pr):(YB q).length=3:=rfl
theorem I5 (l:List (DV×Pr)):l.flatMap YB=(l.map (λq=>(q.1,q.2.t))).flatMap Kg:=by rw[List.flatMap_map]<;>rfl
theorem lQz (e:EdV):∀u∈X6 e,JS u=true:=sc rfl
theorem I6 (v:DV×AV):∀u∈V5 v,JS u=true:=sc rfl
theorem lQA (v:DV×List Nat):∀u∈Kg v,JS u=true:=sc rfl
theorem lQB {p:EP}(hV:vy p):∀e∈p.es,Kp p.nm.length e.x.nd e.x.r=true/\(Zj 0 (QF p.f)).any (kF e.ed)=true:=by
 obtain⟨h1,h2⟩:=hV;have key:∀(es:List Ed) (q:Int),kG p.nm.length p.f q es=true->∀e∈es,(Zj 0 (QF p.f)).any (kF e)=true:=by
  intro es;induction es with
  | nil=>intro q _ e he;cases he
  | cons b es ih=>
   intro q h e he;rw[kG,Z9,Z9,jZq,Z9] at h;rcases QY.1 he with rfl | he
   ·exact h.1.1.2
   ·exact ih _ h.2 e he
 exactλe he=>⟨Ka.1 h1 e he,key _ 0 h2 e.ed (Zk.2 ⟨e,he,rfl⟩)⟩
theorem lQC (es:List EdV)(S:List Nat)(a:Nat)(s:List Nat):Vu (es.map EdV.ed) S a s=(es.filter (λe=>KQ a s e.ed&&YR S e.ed.o)).map EdV.ed:=by
 unfold Vu;rw[List.filter_map]<;>rfl
theorem lQD {α:Type}{l:List α}{i:Nat}{x:α}(h:l[i]? =some x):l.drop i=x::l.drop (i+1):=by
 have Xa:=(Jd.1 h).1;rw[am Xa];congr 1;rw[Xu Xa] at h;exact Option.some.inj h
theorem lQE (p:EP)(hB:EB p)(hV:vy p)(a:Nat)(s:List Nat)(hm:(a,s)∈Zj 0 (QF p.f))(d:DV)(o:BF)(w:World)(K:EK w p)(hd:SB w d.A d.n d.c d.nd)(sd:Set1 p.nm.length d.nd d.r o):
  FnP Tryz.prog 48 [.pointer (some ⟨p.eb,0,none⟩),.string (Qd (s++ [10])),.int .i64 a,Xm d.A d.n d.c d.r] w
   (λu w'=>∃L,aA p.nm p.f (p.es.map EdV.ed) (QG p.nm.length o) a s=some L/\ve w u (L.map (·++ [10])) w')
   (λch w'=>aA p.nm p.f (p.es.map EdV.ed) (QG p.nm.length o) a s=none/\ch=kH 291/\Ext w w'):=by
 have gD:=iX p.f;have J9:=Yg hB.ok;have Be:=oX hm;rw[J9] at Be;have Zq:=hB.fl;have hk:p.nm.length<=12:=by have:=hB.n4;omega
 have wX:=K.eds.2;have pQ4:=hB.el;have Pb:=K.eds.1.cap;have oQ8:=K.eds.1.le;simp only[maxLen] at Pb;have Bf:(Qd (s++ [10])).size=s.length+1:=by rw[Q8];simp
 have cC:=Q8 p.f;have hval:=lQB hV;generalize wY:QG p.nm.length o=S at*;have tP:∀e∈p.es,0<=e.fr/\e.fr<=e.to_/\e.to_<p.f.length:=λe he=>by
  have:=bQb (hval e he).2;rw[J9] at this;exact this
 refine bQ (c:={c48 with cuts:=[]}) Qa Tryz.func48 rfl rfl rfl ?_;refine new (λw1 Qe Q6 Qh=>?_);have K1:=K.ext Qe;refine Qo K1.blk rfl ?_;refine loop Qa [33,9] (λt:Nat×List EdV×Option Addr×Nat=>[.int .i64 t.1,.slice t.2.2.1 t.2.1.length t.2.2.2]) (λt w'=>Ext w1 w'/\t.1<=p.en/\t.2.1=(p.es.take t.1).filter (λe=>KQ a s e.ed&&YR S e.ed.o)/\Own w' w1.heap.size 58 5 t.2.2.1 t.2.1.length t.2.2.2 (t.2.1.flatMap X6)) (λt _=>p.en-t.1) (0,[],none,0) rfl ⟨Ext.refl _,Xo _,by simp,Own.nil _ _ _ _⟩ ?_;rintro⟨i,m,MA,mc⟩ w2 ⟨Qg,hi,cH,hO⟩;simp only at hi cH hO;have QT:=Qe.trans Qg;have wK:m.length<=i:=by rw[cH];exact X3 (lu _ _) (by rw[Kx];omega)
 refine Qw (λc1=>?_) (λc1=>?_)
 ·have Q4:i<p.en:=by simp only at c1;omega
  refine Zt ji (K.ext QT).eds rfl Q4 (λad e he hc=>?_);have eD:=Xl he;obtain⟨e1,e2,e3⟩:=tP e eD;have se:=jg (hval e eD).1;refine Jz (vs:=X6 e) rfl hc ?_;refine new (λw3 Qi Jr Qu=>?_);refine Qv Qu rfl (sc rfl) (λw4 aC _ QR=>?_);have Jh:Ext w2 w4:=XT Qi Qu aC;refine Qz QR rfl ?_;refine Qw (λd1=>?_) (λd1=>?_)
  ·refine Qo QR rfl ?_;refine Qj ((a+s.length+1:Nat):Int) (by rw[Bf];omega) (by omega) ?_;refine Qw (λd2=>?_) (λd2=>?_)
   ·refine eM (vs:=[.slice e.x.A e.x.n e.x.c,.int .i64 e.x.r]) QR rfl (λj u hj=>by match j,hj with | 0,hj=>exact hj | 1,hj=>exact hj) ?_;refine Qt (Qh.ext (Qg.trans Jh)) rfl ?_;refine call (Uy e.x.A e.x.n e.x.c e.x.nd e.x.r d.A d.n d.c d.nd d.r w4 ((K.sbs e eD).ext (QT.trans Jh)) (hd.ext (QT.trans Jh))) ?_;rintro _ w5 ⟨rfl,Qx⟩;have Ym:=Jh.trans Qx;rw[bQf hk se sd,wY];have bN:KQ a s e.ed=true:=Zx ⟨by show(a:Int)<=e.fr;omega,by show e.to_<=a+s.length;omega⟩;cases th:YR S (oD e.x)with
    | false=>
     refine Q9 rfl ?_;refine Qj ((i+1:Nat):Int) (by show((i:Nat):Int)+1=_;omega) (by omega) ?_;refine⟨(i+1,m,MA,mc),rfl,⟨Qg.trans Ym,Q4,?_,hO.ext Ym⟩,by show p.en-(i+1)<p.en-i;omega⟩;simp only;rw[jj he,qO,<-cH,fD,if_neg (by show¬(KQ a s e.ed&&YR S (oD e.x))=true;rw[th,Bool.and_false];decide),Gl,KE]
    | true=>
     refine Xd rfl ?_;refine Qt (QR.ext Qx) rfl ?_;refine Xg Qa [X6 e] rfl rfl rfl rfl rfl ⟨rfl,rfl,⟨⟩⟩ rfl (λcs h=>by simp only[QO] at h;subst h;rfl) rfl (by decide) (by decide) ?_;intro w6 QQ bu Q7;have sH:=Ym.trans QQ;have yT:Sl w6 5 (some ⟨w5.heap.size,0,none⟩) 1 1 (X6 e):=Sl.own (sz:=5) (n:=1) Q7 (QB _) (by decide) (by simp[X6]);refine Je (n:=m.length) Qa rfl rfl rfl rfl rfl (by decide) rfl rfl ⟨_,rfl⟩ rfl rfl (hO.ext sH) yT (lQz e) (by unfold maxLen;omega) (by show(m.length+1)*64<=_;omega) (by have:=Qg.size;have:=sH.size;omega) ?_;intro A' c' w7 J5 pr nQG;refine Qj ((i+1:Nat):Int) (by show((i:Nat):Int)+1=_;omega) (by omega) ?_;refine⟨(i+1,m++ [e],A',c'),by simp only[Qq];rfl,⟨J5.ext (Qg.trans sH) (λk hk=>(hO.rows k hk).1),Q4,?_,?_⟩,by show p.en-(i+1)<p.en-i;omega⟩
     ·simp only;rw[jj he,qO,<-cH,fD,Qf (by show(KQ a s e.ed&&YR S (oD e.x))=true;rw[th,bN];rfl),Gl]
     ·simp only;rw[Qq,Yd];simpa using pr
   ·refine Qj ((i+1:Nat):Int) (by show((i:Nat):Int)+1=_;omega) (by omega) ?_;refine⟨(i+1,m,MA,mc),rfl,⟨Qg.trans Jh,Q4,?_,hO.ext Jh⟩,by show p.en-(i+1)<p.en-i;omega⟩;simp only;rw[jj he,qO,<-cH,fD,if_neg (by intro hh;rw[Z9] at hh;have h3:(a:Int)<=e.fr/\e.to_<=a+s.length:=Y2 hh.1;omega),Gl,KE]
  ·refine Qj ((i+1:Nat):Int) (by show((i:Nat):Int)+1=_;omega) (by omega) ?_;refine⟨(i+1,m,MA,mc),rfl,⟨Qg.trans Jh,Q4,?_,hO.ext Jh⟩,by show p.en-(i+1)<p.en-i;omega⟩;simp only;rw[jj he,qO,<-cH,fD,if_neg (by intro hh;rw[Z9] at hh;have h3:(a:Int)<=e.fr/\e.to_<=a+s.length:=Y2 hh.1;omega),Gl,KE]
 have Q4:i=p.en:=by simp only at c1;omega
 have cH:m=p.es.filter (λe=>KQ a s e.ed&&YR S e.ed.o):=by rw[cH,ZS (by omega)]
 have dQw:=lQC p.es S a s;rw[<-cH] at dQw;have qr:∀e∈m,e∈p.es/\(a:Int)<=e.fr/\e.to_<=a+s.length/\YR S (oD e.x)=true:=λe he=>by
  rw[cH] at he;obtain⟨h1,h2⟩:=Jy.1 he;rw[Z9] at h2;have h3:(a:Int)<=e.fr/\e.to_<=a+s.length:=Y2 h2.1;exact⟨h1,h3.1,h3.2,h2.2⟩
 have JQ:m.length<=10:=by omega
 have hM:SlS X6 5 w2 MA m.length mc m:=⟨hO.sl,rfl⟩
 clear cH hi c1;have tQ:aA p.nm p.f (p.es.map EdV.ed) S a s=if m.map EdV.ed=[] then some [s] else if cW S (m.map EdV.ed)=false then none else if S.all (λc=>K5 (ZY p.f (a+s.length+1) a (m.map EdV.ed) c))=false then none else some (Zn p.nm (ZY p.f (a+s.length+1) a (m.map EdV.ed)) p.nm.length 0 S):=by
  unfold aA;rw[dQw]
 generalize aA p.nm p.f (p.es.map EdV.ed) S a s=RES at*;refine X8 (λh0=>?_) (λh0=>?_)
 ·have hm0:m=[]:=WO (by simp only at h0;omega);refine Xg Qa [[Value.string (Qd (s++ [10]))]] rfl rfl rfl rfl rfl ⟨rfl,rfl,⟨⟩⟩ rfl (λcs hh=>by simp only[QO] at hh;subst hh;rfl) rfl (by decide) (by decide) ?_;intro w3 Qi Jr Qu;refine⟨[s],by rw[tQ,hm0];rfl,_,_,rfl,QT.trans Qi,Sl.own' (n:=1) Qu rfl (by decide),λ_=>⟨_,_,rfl⟩⟩
 have ZE:m≠ []:=λe=>h0 (by rw[e];rfl)
 have vK:m.map EdV.ed≠ []:=λe=>ZE (List.map_eq_nil_iff.1 e)
 rw[if_neg vK] at tQ;have oQ9:S≠ []:=by
  obtain⟨e,he⟩:=Gk _ ZE;intro e0;have:=(qr e he).2.2.2;rw[e0] at this;cases this
 refine loop Qa [69] (λi:Nat=>[.int .i64 i]) (λi w'=>Ext w2 w'/\i<=m.length/\cW S (m.map EdV.ed)=cW S ((m.drop i).map EdV.ed)) (λi _=>m.length-i) 0 rfl ⟨Ext.refl _,Xo _,rfl⟩ ?_;rintro i w3 ⟨Qi,hi,Wg⟩;have QU:=QT.trans Qi;refine Qw (λc1=>?_) (λc1=>?_)
 ·have Q4:i<m.length:=by simp only at c1;omega
  refine Zt ji (hM.ext Qi) rfl Q4 (λad e he hc=>?_);have eD:=Xl he;obtain⟨e1,e2,e3,e4⟩:=qr e eD;have se:=jg (hval e e1).1;rw[lQD he,Kw,cW] at Wg;refine Jz (vs:=X6 e) rfl hc ?_;refine new (λw4 Qs KR QR=>?_);refine Qv QR rfl (sc rfl) (λw5 JE _ QD=>?_);have K8:Ext w3 w5:=XT Qs QR JE;have Ym:=Qi.trans K8;refine Qj ((i+1:Nat):Int) (by show((i:Nat):Int)+1=_;omega) (by omega) ?_;refine GH Qa rfl rfl rfl rfl rfl rfl (by omega) ?_;have hFr:=(hM.ext Ym).from ji (l:=i+1) (by omega)
  have wO:=hM.1.le;refine loop Qa [79] (λj:Nat=>[.int .i64 j]) (λj w'=>Ext w5 w'/\j<=m.length-(i+1)/\((m.drop (i+1)).take j).all (λb=>ii S e.ed b.ed)=true) (λj _=>m.length-(i+1)-j) 0 rfl ⟨Ext.refl _,Xo _,by simp⟩ ?_;rintro j w6 ⟨QQ,hj,hall⟩;refine Qw (λc2=>?_) (λc2=>?_)
  ·have KB:j<m.length-(i+1):=by simp only at c2;omega
   refine Zt ji (hFr.ext QQ) rfl KB (λwl b hb WD=>?_);have nH:b∈m:=WT (Xl hb);obtain⟨b1,b2,b3,b4⟩:=qr b nH;have sb:=jg (hval b b1).1;refine Jz (vs:=X6 b) rfl WD ?_;refine new (λw7 Xh W8 Q3=>?_);refine Qv Q3 rfl (sc rfl) (λw8 YV _ Xz=>?_);have ir:Ext w6 w8:=XT Xh Q3 YV;have pS:=QQ.trans ir;have WC:=QU.trans (K8.trans pS);have cQO:=QD.ext pS;have zW:=Ext.drew w8;have next:∀w',Ext w8 w'->ii S e.ed b.ed=true->Ext w5 w'/\j+1<=m.length-(i+1)/\((m.drop (i+1)).take (j+1)).all (λb=>ii S e.ed b.ed)=true:=λw' iK h2=>by
    refine⟨pS.trans iK,by omega,?_⟩;rw[jj hb,List.all_append,hall];simp only[Bm,List.all_nil,Gj,dB];exact h2
   refine XR Qa (Ext w8) 15 [(true,0),(true,1),(true,2),(true,3),(true,4),(true,5),(true,6),(true,7),(true,8),(true,9),(true,11),(false,10),(false,12),(true,13),(true,14)] (by kernel_rfl) zW ?_;refine QN (v:=.int .i64 e.to_) (λw' Qb=>(cQO.ext Qb).cell 1) ?_;refine QN (v:=.int .i64 b.fr) (λw' Qb=>(Xz.ext Qb).cell 0) ?_;refine Qw (λd1=>?_) (λd1=>?_)
   ·refine Xv (vs:=[.slice e.x.A e.x.n e.x.c,.int .i64 e.x.r]) rfl (λw' Qb k u hk=>by rw[add_add,(cQO.ext Qb).cell];match k,hk with | 0,hk=>exact hk | 1,hk=>exact hk) ?_;refine Xv (vs:=[.slice b.x.A b.x.n b.x.c,.int .i64 b.x.r]) rfl (λw' Qb k u hk=>by rw[add_add,(Xz.ext Qb).cell];match k,hk with | 0,hk=>exact hk | 1,hk=>exact hk) ?_;refine Xv (vs:=d.cells) rfl (λw' Qb k u hk=>by rw[((Qh.ext (Qg.trans (Qi.trans (K8.trans pS)))).ext Qb).cell];exact hk) ?_;have gE:=WC.trans zW;refine call (oV hk e.x b.x w8.drew ((K.sbs e e1).ext gE) ((K.sbs b b1).ext gE) se sb) ?_;rintro _ w9 ⟨QA,Qn,Qc,Qnd,Qr,rfl,Xx,hQ9,sQ,_⟩;refine⟨zW.trans Xx,?_⟩;refine call (Uy QA Qn Qc Qnd Qr d.A d.n d.c d.nd d.r w9 hQ9 (hd.ext (gE.trans Xx))) ?_;rintro _ QE ⟨rfl,X1⟩;have gu:=(zW.trans Xx).trans X1;refine⟨gu,?_⟩;rw[bQf (x:=⟨QA,Qn,Qc,Qnd,Qr⟩) hk sQ sd,wY];cases th:YR S (λv=>oD e.x v&&oD b.x v)with
    | false=>
     refine Q9 rfl ?_;refine Qj ((j+1:Nat):Int) (by show((j:Nat):Int)+1=_;omega) (by omega) ?_;exact⟨j+1,rfl,next QE gu (by show(!(decide (b.fr<e.to_)&&YR S (λv=>oD e.x v&&oD b.x v)))=true;rw[th,Bool.and_false];rfl),by show m.length-(i+1)-(j+1)<m.length-(i+1)-j;omega⟩
    | true=>
     refine Xd rfl ?_;refine XU (Wb 291 (by decide) QE) (λ_ _ hf=>hf.elim) ?_;rintro ch _ ⟨rfl,rfl⟩;have Xi:ii S e.ed b.ed=false:=by
      show(!(decide (b.fr<e.to_)&&YR S (λv=>oD e.x v&&oD b.x v)))=false;rw[th,Zx (by omega:b.fr<e.to_)]<;>rfl
     have Vc:(m.drop (i+1)).all (λb=>ii S e.ed b.ed)=false:=List.all_eq_false.2 ⟨b,Xl hb,by rw[Xi];decide⟩;refine⟨?_,rfl,WC.trans gu⟩;have:cW S (m.map EdV.ed)=false:=by
      rw[Wg,List.all_map];show((m.drop (i+1)).all (λb=>ii S e.ed b.ed)&&_)=false;rw[Vc]<;>rfl
     rw[tQ,Qf this]
   ·refine Qj ((j+1:Nat):Int) (by show((j:Nat):Int)+1=_;omega) (by omega) ?_;exact⟨j+1,rfl,next w8.drew zW (by show(!(decide (b.fr<e.to_)&&YR S (λv=>oD e.x v&&oD b.x v)))=true;rw[Zr (by omega:¬b.fr<e.to_)];rfl),by show m.length-(i+1)-(j+1)<m.length-(i+1)-j;omega⟩
  ·have KB:j=m.length-(i+1):=by simp only at c2;omega
   rw[ZS (by rw[Y1];omega)] at hall;refine Qj ((i+1:Nat):Int) (by show((i:Nat):Int)+1=_;omega) (by omega) ?_;refine⟨i+1,rfl,⟨Ym.trans QQ,Q4,?_⟩,by show m.length-(i+1)<m.length-i;omega⟩;rw[Wg,List.all_map];show((m.drop (i+1)).all (λb=>ii S e.ed b.ed)&&_)=_;rw[hall,dB]
 have Q4:i=m.length:=by simp only at c1;omega
 have dQx:cW S (m.map EdV.ed)=true:=by rw[Wg,Q4,nR (QB _)]<;>rfl
 clear Wg c1 hi;rw[if_neg (by rw[dQx];decide)] at tQ;have XF:=Qg.trans Qi;refine Qt (Qh.ext XF) rfl ?_;refine Xg Qa [V5 (d,⟨o,[],a⟩)] rfl rfl rfl rfl rfl ⟨rfl,rfl,⟨⟩⟩ rfl (λcs h=>by simp only[QO] at h;subst h;rfl) rfl (by decide) (by decide) ?_;intro w4 Qs KR QR;have Xp:=QU.trans Qs;have QX:QG p.nm.length o≠ []:=by rw[wY];exact oQ9
 have pQa:cW (QG p.nm.length o) (m.map EdV.ed)=true:=by rw[wY];exact dQx
 have hep:∀b∈m.map EdV.ed,0<=b.to_:=λb hb=>by
  obtain⟨e,he,rfl⟩:=Zk.1 hb;have:=tP e (qr e he).1;show 0<=e.to_;omega
 have hVB:∀i,i<=m.length->∀v∈dQ p.nm.length p.f o a ((m.map EdV.ed).take i),VB (i*70000) (a+s.length) v:=λi hi v hv=>by
  have:=lQp (n:=p.nm.length) (o:=o) (a:=a) (T:=a+s.length) hB.f8 Zq (by omega) ((m.map EdV.ed).take i) (λb hb=>by
   obtain⟨e,he,rfl⟩:=Zk.1 (Wn hb);obtain⟨h1,h2,h3,h4⟩:=qr e he;exact⟨hB.t8 e h1,hB.tl e h1,by show e.to_.toNat<=_;omega⟩) v hv
  rw[Kx,JL,nN hi] at this;exact this
 have hVL:∀i,i<=m.length->(dQ p.nm.length p.f o a ((m.map EdV.ed).take i)).length<=1024:=λi hi=>by
  refine X3 (lQo _ _ _ _ _) ?_;rw[Kx,JL,nN hi];exact X3 (aT (by decide) (show i<=10 by omega)) (by decide)
 refine loop Qa [107,16] (λt:Nat×List (DV×AV)×Option Addr×Nat=>[.int .i64 t.1,.slice t.2.2.1 t.2.1.length t.2.2.2]) (λt w'=>Ext w4 w'/\t.1<=m.length/\t.2.1.map (·.2)=dQ p.nm.length p.f o a ((m.map EdV.ed).take t.1)/\SlS V5 4 w' t.2.2.1 t.2.1.length t.2.2.2 t.2.1/\∀v∈t.2.1,SB w' v.1.A v.1.n v.1.c v.1.nd/\Set1 p.nm.length v.1.nd v.1.r v.2.o) (λt _=>m.length-t.1) (0,[(d,⟨o,[],a⟩)],some ⟨w3.heap.size,0,none⟩,1) rfl ⟨Ext.refl _,Xo _,rfl,⟨Sl.own (sz:=4) (n:=1) QR (QB _) (by show 1<=maxLen;decide) (by simp[V5]),rfl⟩,λv hv=>by
  rw[QO.1 hv];exact⟨hd.ext Xp,sd⟩⟩ ?_
 rintro⟨i,vs,VA,vc⟩ w5 ⟨Qx,hi,lk,Pg,Ph⟩;simp only at hi lk Pg Ph;have JK:=Xp.trans Qx;have hvl:vs.length<=1024:=by have:=hVL i hi;rw[<-lk,JL] at this;exact this
 have iJ:∀v∈vs,VB (i*70000) (a+s.length) v.2:=λv hv=>hVB i hi v.2 (by rw[<-lk];exact Zk.2 ⟨v,hv,rfl⟩)
 refine Qw (λc1=>?_) (λc1=>?_)
 ·have Q4:i<m.length:=by simp only at c1;omega
  refine Zt ji (hM.ext (Qi.trans (Qs.trans Qx))) rfl Q4 (λad e he hc=>?_);have eD:=Xl he;obtain⟨e1,e2,e3,e4⟩:=qr e eD;obtain⟨e5,e6,e7⟩:=tP e e1;have se:=jg (hval e e1).1;have heg:(m.map EdV.ed)[i]? =some e.ed:=by rw[aR,he]<;>rfl
  refine Jz (vs:=X6 e) rfl hc ?_;refine new (λw6 QQ bu Q7=>?_);refine Qv Q7 rfl (sc rfl) (λw7 Zv _ Q3=>?_);have Js:Ext w5 w7:=XT QQ Q7 Zv;have Vx:=JK.trans Js;refine loop Qa [113,19] (λt:Nat×List (DV×AV)×Option Addr×Nat=>[.int .i64 t.1,.slice t.2.2.1 t.2.1.length t.2.2.2]) (λt w'=>Ext w7 w'/\t.1<=vs.length/\t.2.1.map (·.2)=((vs.map (·.2)).take t.1).flatMap (Yz p.nm.length p.f e.ed)/\Own w' w7.heap.size 166 4 t.2.2.1 t.2.1.length t.2.2.2 (t.2.1.flatMap V5)/\∀v∈t.2.1,DgO w' (Qk t.2.2.1) p.nm.length v.1 v.2.o) (λt _=>vs.length-t.1) (0,[],none,0) rfl ⟨Ext.refl _,Xo _,rfl,Own.nil _ _ _ _,λv hv=>by cases hv⟩ ?_;rintro⟨j,nx,NX,nxc⟩ w8 ⟨Xn,hj,eo,wm,sM⟩;simp only at hj eo wm sM;have WC:=Vx.trans Xn;have pS:=Js.trans Xn;have qQD:nx.length<=2*j:=by
   have h1:=QC List.length eo;have h2:=I1 p.nm.length p.f e.ed ((vs.map (·.2)).take j);rw[JL] at h1;rw[Kx] at h2;omega
  refine Qw (λc2=>?_) (λc2=>?_)
  ·have KB:j<vs.length:=by simp only at c2;omega
   refine Zt bQg (Pg.ext pS) rfl KB (λwl v hv WD=>?_);have nI:=Xl hv;obtain⟨sbv,stv⟩:=Ph v nI;obtain⟨vb8,vbl,vba⟩:=iJ v nI;have Pi:(vs.map (·.2))[j]? =some v.2:=by rw[aR,hv]<;>rfl
   refine Jz (vs:=V5 v) rfl WD ?_;refine new (λw9 Xx gc JI=>?_);refine Qv JI rfl (sc rfl) (λQE jA _ J6=>?_);have gu:Ext w8 QE:=XT Xx JI jA;have jF:=Xn.trans gu;have pM:=WC.trans gu;refine eM (vs:=[.slice v.1.A v.1.n v.1.c,.int .i64 v.1.r]) J6 rfl (λk u hk=>by match k,hk with | 0,hk=>exact hk | 1,hk=>exact hk) ?_;refine eM (vs:=[.slice e.x.A e.x.n e.x.c,.int .i64 e.x.r]) (Q3.ext jF) rfl (λk u hk=>by match k,hk with | 0,hk=>exact hk | 1,hk=>exact hk) ?_;refine call (oV hk v.1 e.x QE (sbv.ext (pS.trans gu)) ((K.sbs e e1).ext pM) stv se) ?_;rintro _ QL ⟨QA,Qn,Qc,Qnd,Qr,rfl,Jv,nQV,sQ,FT⟩;refine new (λXb XB mQ8 Vj=>?_);refine Qv Vj rfl (sc rfl) (λX9 zq _ Vw=>?_);have NF:Ext QL X9:=XT XB Vj zq;have cQP:=Jv.trans NF;have pT:=gu.trans cQP;have NG:=Xn.trans pT;have sr:=WC.trans pT;have zX:=J6.ext cQP;have ND:=nQV.ext NF;have DJ:=Jv.size;have pQ5:=NF.size;have pQ6:=gu.size;have z8:=Xn.size;have aP:=wm.rows;have hQ0:=sQ.root0;have ez:(vs.map (·.2)).take (j+1)=(vs.map (·.2)).take j++ [v.2]:=jj Pi;refine Qo Vw rfl ?_;refine WW (λhz=>?_) (λhz=>?_)
   ·have Pj:QG p.nm.length (XY v.2.o (oD e.x))≠ []:=λe0=>hz (hQ0.2 e0)
    have lm:=lQq (f:=p.f) (a:=a) QX pQa heg (by show(a:Int)<=e.fr;omega) hep (v:=v.2) (by rw[<-lk];exact Zk.2 ⟨v,nI,rfl⟩) Pj;have lm:(v.2.a:Int)<=e.fr:=lm;have Wh:=Ext.drew X9;have dl:=mD p.f v.2.a e.fr.toNat;have tl:=hB.tl e e1;have hto:((e.to_.toNat:Nat):Int)=e.to_:=by omega
    refine XR Qa (Mod (Qk NX) X9) 23 [(true,0),(true,1),(true,2),(true,3),(true,4),(true,5),(true,6),(true,7),(true,8),(true,9),(true,10),(true,11),(true,12),(true,13),(true,14),(true,15),(true,16),(true,17),(true,18),(true,19),(false,20),(false,21),(true,22)] (by kernel_rfl) (Mod.of_ext _ Wh) ?_;have DP:¬Qk NX QL.heap.size:=λh=>by have:=aP _ h;omega
    have NH:¬Qk NX w8.heap.size:=λh=>by have:=aP _ h;omega
    have NI:¬Qk NX w5.heap.size:=λh=>by have:=aP _ h;have:=Js.size;have:=Q3.lt;omega
    have neb:¬Qk NX p.eb:=λh=>by have:=aP _ h;have:=K.blk.lt;have:=Vx.size;omega
    have ds:=Q8 v.2.d;have cs:=Q8 (XE p.f v.2.a e.fr.toNat);have dcs:=Q8 (v.2.d++XE p.f v.2.a e.fr.toNat);have txs:=Q8 e.tx;rw[Qq] at dcs;refine Xv (vs:=[.slice QA Qn Qc,.int .i64 Qr]) rfl (λw' Qb k u hk=>by rw[(Vw.mod Qb DP).cell];exact hk) ?_;refine QN (v:=.string (Qd v.2.d)) (λw' Qb=>(zX.mod Qb NH).cell 2) ?_;refine QN (v:=.string (Qd p.f)) (λw' Qb=>((K.blk.ext sr).mod Qb neb).cell 3) ?_;refine QN (v:=.int .i64 v.2.a) (λw' Qb=>(zX.mod Qb NH).cell 3) ?_;refine QN (v:=.int .i64 e.fr) (λw' Qb=>((Q3.ext NG).mod Qb NI).cell 0) ?_;refine Xy (v':=.string (Qd (XE p.f v.2.a e.fr.toNat))) ⟨by omega,by omega,by rw[cC];omega⟩ (by
     rw[KN];show Value.string (Qd ((p.f.take e.fr.toNat).drop v.2.a))=_;rw[fA];rfl) ?_
    refine Xy (v':=.string (Qd (v.2.d++XE p.f v.2.a e.fr.toNat))) (by rw[ds,cs];unfold maxLen;omega) (by rw[ZM]) ?_;refine QN (v:=.string (Qd e.tx)) (λw' Qb=>((Q3.ext NG).mod Qb NI).cell 2) ?_;refine Xy (v':=.string (Qd (v.2.d++XE p.f v.2.a e.fr.toNat++e.tx))) (by rw[dcs,txs];unfold maxLen;omega) (by rw[ZM]) ?_;refine QN (v:=.int .i64 ((e.to_.toNat:Nat):Int)) (λw' Qb=>by rw[hto];exact((Q3.ext NG).mod Qb NI).cell 1) ?_;refine Xg Qa [V5 (⟨QA,Qn,Qc,Qnd,Qr⟩,⟨XY v.2.o (oD e.x),v.2.d++XE p.f v.2.a e.fr.toNat++e.tx,e.to_.toNat⟩)] rfl rfl rfl rfl rfl ⟨rfl,rfl,⟨⟩⟩ rfl (λcs h=>by simp only[QO] at h;subst h;rfl) rfl (by decide) (by decide) ?_;generalize sI:(((⟨QA,Qn,Qc,Qnd,Qr⟩:DV),(⟨XY v.2.o (oD e.x),v.2.d++XE p.f v.2.a e.fr.toNat++e.tx,e.to_.toNat⟩:AV)):DV×AV)=V1;intro Zu JW DO JV;have kW:=Wh.trans JW;have sN:=pT.trans kW;refine⟨Mod.of_ext _ kW,?_⟩;have NJ:Sl Zu 4 (some ⟨X9.drew.heap.size,0,none⟩) 1 1 (V5 V1):=Sl.own (sz:=4) (n:=1) JV (QB _) (by decide) (by simp[V5]);refine Je (n:=nx.length) Qa rfl rfl rfl rfl rfl (by decide) rfl rfl ⟨_,rfl⟩ rfl rfl (wm.ext sN) NJ (I6 _) (by unfold maxLen;omega) (by show(nx.length+1)*56<=_;omega) (by have:=(Xn.trans sN).size;omega) ?_;intro NX2 NK J8 wn jG NL;have wo:Mod (Qk NX) X9 J8:=(Mod.of_ext (Qk NX) kW).trans wn (λi hi=>.inl hi);refine⟨wo,?_⟩;have wq:Mod (Qk NX) w8 J8:=(Mod.of_ext (Qk NX) pT).trans wo (λi hi=>.inl hi);have kX:Ext w7 J8:=wq.ext Xn (λk hk=>(aP k hk).1);have E4:=Vx.trans kX;have nQW:=Js.trans kX;have pQ7:=wo.size;have zY:∀k,Qk NX2 k->Qk NX k∨Zu.heap.size<=k:=NL.rows
    have z14:=kW.size;have NM:∀u∈nx,DgO J8 (Qk NX2) p.nm.length u.1 u.2.o:=λu hu=>(sM u hu).step wq (λk hk=>by
     rcases zY k hk with h | h
     ·exact .inl h
     ·exact .inr (by omega))
    have cQQ:DgO J8 (Qk NX2) p.nm.length V1.1 V1.2.o:=by
     rw[<-sI];have h0:DgO X9 (Qk NX) p.nm.length ⟨QA,Qn,Qc,Qnd,Qr⟩ (XY v.2.o (oD e.x)):=⟨ND,sQ,λad ea h0 h=>by have:=FT ad.block ⟨ad,ea,rfl⟩;have:=aP _ h;omega⟩
     exact h0.step wo (λk hk=>by
      rcases zY k hk with h | h
      ·exact .inl h
      ·exact .inr (by omega))
    have cQR:=jG.rows;rw[show nx.flatMap V5++V5 V1=(nx++ [V1]).flatMap V5 by rw[Yd];simp] at jG;have kT:=zX.mod wo NH;have sE:=Vw.mod wo DP;refine eM (vs:=[.slice v.1.A v.1.n v.1.c,.int .i64 v.1.r]) kT rfl (λk u hk=>by match k,hk with | 0,hk=>exact hk | 1,hk=>exact hk) ?_;refine Qt sE rfl ?_;have nQX:SB J8 QA Qn Qc Qnd:=by have:=cQQ.sb;rw[<-sI] at this;exact this
    refine call (fT hk v.1 ⟨QA,Qn,Qc,Qnd,Qr⟩ J8 (sbv.ext nQW) nQX stv sQ) ?_;rintro _ ac ⟨PA,Pn,Pc,Pnd,Pr',rfl,Vo,nQY,sP,hPR⟩;have hP0:=sP.root0;refine ko (j:=0) (kT.ext Vo) (by show 0+2<=4;decide) (sc rfl) (λVU MG nQZ pD=>?_);have sA:Mod (·=w8.heap.size) ac VU:=qQL MG rfl;have NN:Ext w7 VU:=sA.ext (kX.trans Vo) (λk hk=>by omega);have z16:=Vo.size;have nQ0:∀k,Qk NX2 k->¬k=w8.heap.size:=λk hk hh=>by
     rcases zY k hk with h | h
     ·have:=aP _ h;omega
     ·omega
    have E5:=(jG.ext Vo).mod sA nQ0;have pQ8:=J6.lt;have cQS:∀u∈nx++ [V1],DgO VU (Qk NX2) p.nm.length u.1 u.2.o:=λu hu=>by
     have NO:DgO J8 (Qk NX2) p.nm.length u.1 u.2.o:=by
      rcases XP.1 hu with hu | hu
      ·exact NM u hu
      ·rw[QO.1 hu];exact cQQ
     have nQ1:∀ad,u.1.A=some ad->0<u.1.n->¬ad.block=w8.heap.size:=λad ea h0 hh=>by
      rcases XP.1 hu with hu | hu
      ·have:=SB.lt (sM u hu).sb ad ea h0;omega
      ·rw[QO.1 hu,<-sI] at ea h0;have:=FT ad.block ⟨ad,ea,rfl⟩;omega
     exact⟨SB.modo (NO.sb.ext Vo) sA nQ1,NO.st,NO.off⟩
    refine IW (j:=0) (i:=1) pD rfl ?_;refine WW (λhy=>?_) (λhy=>?_)
    ·refine Qt pD rfl ?_;refine Xg Qa [V5 (⟨PA,Pn,Pc,Pnd,Pr'⟩,⟨J2 v.2.o (XY v.2.o (oD e.x)),v.2.d,v.2.a⟩)] rfl rfl rfl rfl rfl ⟨rfl,rfl,⟨⟩⟩ rfl (λcs h=>by simp only[QO] at h;subst h;rfl) rfl (by decide) (by decide) ?_;generalize Ea:(((⟨PA,Pn,Pc,Pnd,Pr'⟩:DV),(⟨J2 v.2.o (XY v.2.o (oD e.x)),v.2.d,v.2.a⟩:AV)):DV×AV)=V2;intro Vp dq pQ9 kS;have nQ2:Sl Vp 4 (some ⟨VU.heap.size,0,none⟩) 1 1 (V5 V2):=Sl.own (sz:=4) (n:=1) kS (QB _) (by decide) (by simp[V5]);refine Je (n:=nx.length+1) Qa rfl rfl rfl rfl rfl (by decide) rfl rfl ⟨_,rfl⟩ rfl rfl (E5.ext dq) nQ2 (I6 _) (by unfold maxLen;omega) (by show(nx.length+1+1)*56<=_;omega) (by have:=(NN.trans dq).size;omega) ?_;intro NX3 nc3 bC nQ3 cQT nQ4;have NP:Mod (Qk NX2) VU bC:=(Mod.of_ext (Qk NX2) dq).trans nQ3 (λi hi=>.inl hi);have r19:∀k,Qk NX3 k->Qk NX2 k∨Vp.heap.size<=k:=nQ4.rows
     have z18:=dq.size;have nQ5:Ext w7 bC:=NP.ext NN (λk hk=>(cQR k hk).1);have nQ6:SB VU PA Pn Pc Pnd:=SB.modo nQY sA (λad ea h0 hh=>by have:=hPR ad.block ⟨ad,ea,rfl⟩;omega);have nQ7:DgO bC (Qk NX3) p.nm.length V2.1 V2.2.o:=by
      rw[<-Ea];have h0:DgO VU (Qk NX2) p.nm.length ⟨PA,Pn,Pc,Pnd,Pr'⟩ (J2 v.2.o (XY v.2.o (oD e.x))):=⟨nQ6,sP,λad ea h0 h=>by have:=hPR ad.block ⟨ad,ea,rfl⟩;have:=(cQR _ h).2;omega⟩
      exact h0.step NP (λk hk=>by
       rcases r19 k hk with h | h
       ·exact .inl h
       ·exact .inr (by omega))
     refine Qj ((j+1:Nat):Int) (by show((j:Nat):Int)+1=_;omega) (by omega) ?_;rw[show(nx++ [V1]).flatMap V5++V5 V2=(nx++ [V1]++ [V2]).flatMap V5 by rw[Yd];simp] at cQT;refine⟨(j+1,nx++ [V1]++ [V2],NX3,nc3),by simp only[Qq];rfl,⟨nQ5,KB,?_,by simp only;rw[Qq,Qq];exact cQT,λu hu=>?_⟩,by show vs.length-(j+1)<vs.length-j;omega⟩
     ·simp only;rw[ez,Yd,<-eo,WR,WR,Vf,ua,KE,ZG];congr 1;have h9:QG p.nm.length (J2 v.2.o (XY v.2.o (oD e.x)))≠ []:=λe0=>hy (hP0.2 e0)
      unfold Yz;rw[if_neg (by exact Pj),if_neg (by exact h9),<-sI,<-Ea]<;>rfl
     ·rcases XP.1 hu with hu | hu
      ·exact(cQS u hu).step NP (λk hk=>by
        rcases r19 k hk with h | h
        ·exact .inl h
        ·exact .inr (by omega))
      ·rw[QO.1 hu];exact nQ7
    ·refine Qj ((j+1:Nat):Int) (by show((j:Nat):Int)+1=_;omega) (by omega) ?_;refine⟨(j+1,nx++ [V1],NX2,NK),by simp only[Qq];rfl,⟨NN,KB,?_,by simp only;rw[Qq];exact E5,cQS⟩,by show vs.length-(j+1)<vs.length-j;omega⟩;simp only;rw[ez,Yd,<-eo,WR,Vf,ua,KE];congr 1;have h9:QG p.nm.length (J2 v.2.o (XY v.2.o (oD e.x)))=[]:=hP0.1 hy;unfold Yz;rw[if_neg (by exact Pj),Qf (by exact h9),<-sI]<;>rfl
   ·have d9:QG p.nm.length (XY v.2.o (oD e.x))=[]:=hQ0.1 hz;have gf:=stv.root0;refine IW (j:=0) (i:=1) zX rfl ?_;refine WW (λhy=>?_) (λhy=>?_)
    ·refine Qt zX rfl ?_;refine Xg Qa [V5 v] rfl rfl rfl rfl rfl ⟨rfl,rfl,⟨⟩⟩ rfl (λcs h=>by simp only[QO] at h;subst h;rfl) rfl (by decide) (by decide) ?_;intro Zu JW DO JV;have sN:=pT.trans JW;have NJ:Sl Zu 4 (some ⟨X9.heap.size,0,none⟩) 1 1 (V5 v):=Sl.own (sz:=4) (n:=1) JV (QB _) (by decide) (by simp[V5]);refine Je (n:=nx.length) Qa rfl rfl rfl rfl rfl (by decide) rfl rfl ⟨_,rfl⟩ rfl rfl (wm.ext sN) NJ (I6 _) (by unfold maxLen;omega) (by show(nx.length+1)*56<=_;omega) (by have:=(Xn.trans sN).size;omega) ?_;intro NX2 NK J8 wn jG NL;have wq:Mod (Qk NX) w8 J8:=(Mod.of_ext (Qk NX) sN).trans wn (λi hi=>.inl hi);have kX:Ext w7 J8:=wq.ext Xn (λk hk=>(aP k hk).1);have zY:∀k,Qk NX2 k->Qk NX k∨Zu.heap.size<=k:=NL.rows
     have qQa:=sN.size;have cQU:∀k,Qk NX2 k->Qk NX k∨w8.heap.size<=k:=λk hk=>by
      rcases zY k hk with h | h
      ·exact .inl h
      ·exact .inr (by omega)
     refine Qj ((j+1:Nat):Int) (by show((j:Nat):Int)+1=_;omega) (by omega) ?_;rw[show nx.flatMap V5++V5 v=(nx++ [v]).flatMap V5 by rw[Yd];simp] at jG;refine⟨(j+1,nx++ [v],NX2,NK),by simp only[Qq];rfl,⟨kX,KB,?_,by simp only;rw[Qq];exact jG,λu hu=>?_⟩,by show vs.length-(j+1)<vs.length-j;omega⟩
     ·simp only;rw[ez,Yd,<-eo,WR,Vf,ua,KE];congr 1;unfold Yz;rw[Qf (by exact d9),if_neg (λe0=>hy (gf.2 e0))]<;>rfl
     ·rcases XP.1 hu with hu | hu
      ·exact(sM u hu).step wq cQU
      ·rw[QO.1 hu];have h0:DgO w8 (Qk NX) p.nm.length v.1 v.2.o:=⟨sbv.ext pS,stv,λad ea h0 h=>by have:=SB.lt (sbv.ext Js) ad ea h0;have:=(aP _ h).1;omega⟩
       exact h0.step wq cQU
    ·refine Qj ((j+1:Nat):Int) (by show((j:Nat):Int)+1=_;omega) (by omega) ?_;refine⟨(j+1,nx,NX,nxc),rfl,⟨Xn.trans pT,KB,?_,wm.ext pT,λu hu=>(sM u hu).ext pT⟩,by show vs.length-(j+1)<vs.length-j;omega⟩;simp only;rw[ez,Yd,<-eo,Vf,ua,KE];unfold Yz;rw[Qf (by exact d9),Qf (gf.1 hy),KE]
  ·have KB:j=vs.length:=by simp only at c2;omega
   rw[ZS (by rw[JL];omega),lk,<-lQm,<-jj heg] at eo;refine Qj ((i+1:Nat):Int) (by show((i:Nat):Int)+1=_;omega) (by omega) ?_;exact⟨(i+1,nx,NX,nxc),rfl,⟨Qx.trans (Js.trans Xn),Q4,eo,⟨wm.sl,rfl⟩,λv hv=>⟨(sM v hv).sb,(sM v hv).st⟩⟩,by show m.length-(i+1)<m.length-i;omega⟩
 have Q4:i=m.length:=by simp only at c1;omega
 rw[ZS (by rw[JL];omega)] at lk;have FU:=lQr (f:=p.f) (a:=a) (stop:=a+s.length+1) (es:=m.map EdV.ed) QX;rw[wY] at FU;have Pk:=lQt (f:=p.f) (a:=a) (stop:=a+s.length+1) (es:=m.map EdV.ed) QX;have hvi:=Do (f:=p.f) (a:=a) QX (m.map EdV.ed);rw[<-lk] at FU Pk hvi;refine loop Qa [165,23] (λt:Nat×List (DV×Pr)×Option Addr×Nat=>[.int .i64 t.1,.slice t.2.2.1 t.2.1.length t.2.2.2]) (λt w'=>Ext w5 w'/\t.1<=vs.length/\t.2.1.map (·.2)=mE p.f (a+s.length+1) ((vs.map (·.2)).take t.1)/\Own w' w5.heap.size 56 3 t.2.2.1 t.2.1.length t.2.2.2 (t.2.1.flatMap YB)/\(∀q∈t.2.1,DgO w' (Qk t.2.2.1) p.nm.length q.1 q.2.o)/\∀v∈(vs.map (·.2)).take t.1,K5 (v.d++XE p.f v.a (a+s.length+1))=true) (λt _=>vs.length-t.1) (0,[],none,0) rfl ⟨Ext.refl _,Xo _,rfl,Own.nil _ _ _ _,(λq hq=>by cases hq),λv hv=>by simp at hv⟩ ?_;rintro⟨k,qs,PA,pc⟩ w6 ⟨QQ,MC,jX,mQ,pU,zZ⟩;simp only at MC jX mQ pU zZ;have XX:=JK.trans QQ;have hql:qs.length<=k:=by
  have h1:=QC List.length jX;have h2:=lQy p.f (a+s.length+1) ((vs.map (·.2)).take k);rw[JL] at h1;rw[Kx] at h2;omega
 have aP:=mQ.rows;refine Qw (λc2=>?_) (λc2=>?_)
 ·have Xk:k<vs.length:=by simp only at c2;omega
  refine Zt bQg (Pg.ext QQ) rfl Xk (λwl v hv WD=>?_);have nI:=Xl hv;obtain⟨sbv,stv⟩:=Ph v nI;obtain⟨vb8,vbl,vba⟩:=iJ v nI;have Pi:(vs.map (·.2))[k]? =some v.2:=by rw[aR,hv]<;>rfl
  have hvV:v.2∈vs.map (·.2):=Zk.2 ⟨v,nI,rfl⟩;have ez:(vs.map (·.2)).take (k+1)=(vs.map (·.2)).take k++ [v.2]:=jj Pi;refine Jz (vs:=V5 v) rfl WD ?_;refine new (λw7 Xh W8 Q3=>?_);refine Qv Q3 rfl (sc rfl) (λw8 YV _ Xz=>?_);have ir:Ext w6 w8:=XT Xh Q3 YV;have WC:=XX.trans ir;have Wh:=Ext.drew w8;have ds:=Q8 v.2.d;have cs:=Q8 (XE p.f v.2.a (a+s.length+1));have dl:=mD p.f v.2.a (a+s.length+1);refine XR Qa (Ext w8) 16 [(true,0),(true,1),(true,2),(true,3),(true,4),(true,5),(true,6),(true,7),(true,8),(true,9),(true,10),(true,11),(true,12),(true,13),(false,14),(false,15)] (by kernel_rfl) Wh ?_;refine QN (v:=.string (Qd v.2.d)) (λw' Qb=>(Xz.ext Qb).cell 2) ?_;refine QN (v:=.string (Qd p.f)) (λw' Qb=>((K.blk.ext WC).ext Qb).cell 3) ?_;refine QN (v:=.int .i64 v.2.a) (λw' Qb=>(Xz.ext Qb).cell 3) ?_;refine Qj ((a+s.length+1:Nat):Int) (by rw[Bf];omega) (by omega) ?_;refine Xy (v':=.string (Qd (XE p.f v.2.a (a+s.length+1)))) ⟨by omega,by omega,by rw[cC];omega⟩ (by
   rw[KN];show Value.string (Qd ((p.f.take (a+s.length+1)).drop v.2.a))=_;rw[fA];rfl) ?_
  refine Xy (v':=.string (Qd (v.2.d++XE p.f v.2.a (a+s.length+1)))) (by rw[ds,cs];unfold maxLen;omega) (by rw[ZM]) ?_;have fe:∀b∈v.2.d++XE p.f v.2.a (a+s.length+1),b<256:=λb hb=>by
   rcases XP.1 hb with hb | hb
   ·exact vb8 b hb
   ·exact vC hB.f8 _ _ b hb
  have Wd:(v.2.d++XE p.f v.2.a (a+s.length+1)).length<=1000000:=by rw[Qq];omega
  generalize hT:v.2.d++XE p.f v.2.a (a+s.length+1)=T at*;refine new (λw9 Xx gc JI=>?_);refine⟨Wh.trans Xx,?_⟩;refine KZ JI (by decide) (λQE ZA J6=>?_);have gu:Ext w8 QE:=ZA.ext (Wh.trans Xx) (λi hi=>by have:=Wh.size;omega);refine⟨gu,?_⟩;have J6:Blk QE w8.drew.heap.size 9 [.string (Qd T)]:=J6;refine Qz J6 rfl ?_;refine call (aQn T QE fe (by omega)) ?_;rintro _ QL ⟨rfl,Jv⟩;have mT:=ir.trans (gu.trans Jv);have WE:=XX.trans mT;cases JF:K5 T with
  | false=>
   refine Xd rfl ?_;refine XU (Wb 291 (by decide) QL) (λ_ _ hf=>hf.elim) ?_;rintro ch _ ⟨rfl,rfl⟩;refine⟨?_,rfl,WE⟩;rw[tQ,Qf];refine fC.2 (λhh=>?_);have:=FU.1 hh v.2 hvV;rw[hT,JF] at this;cases this
  | true=>
  refine Q9 rfl ?_;have Z6:=J6.ext Jv;have wr:=mQ.ext mT;have hPS:SlS Kg 3 QL PA qs.length pc (qs.map (λq=>(q.1,q.2.t))):=⟨by rw[<-I5];exact wr.sl,by rw[JL]⟩
  have FW:∀q∈qs,(∀b∈q.2.t,b<256)/\q.2.t.length<=1000000:=λq hq=>by
   refine bQd (P:=λt=>(∀b∈t,b<256)/\t.length<=1000000) ((vs.map (·.2)).take k) (λu hu=>?_) q.2 (by rw[<-jX];exact Zk.2 ⟨q,hq,rfl⟩);obtain⟨u0,NQ,rfl⟩:=Zk.1 (Wn hu);obtain⟨a1,a2,a3⟩:=iJ u0 NQ;refine⟨λb hb=>?_,?_⟩
   ·rcases XP.1 hb with hb | hb
    ·exact a1 b hb
    ·exact vC hB.f8 _ _ b hb
   ·have:=mD p.f u0.2.a (a+s.length+1);rw[Qq];omega
  have FX:ZD (qs.map (λq=>(q.1,q.2.t)))=qs.map (·.2):=I4 (λq hq=>(pU q hq).st);refine call (lQw PA qs.length pc (qs.map (λq=>(q.1,q.2.t))) T w8.drew.heap.size QL hPS (λq hq=>by
   obtain⟨q0,YF,rfl⟩:=Zk.1 hq;exact(FW q0 YF).1) fe Z6) ?_
  rintro _ Xb ⟨rfl,XB⟩;rw[FX];have sS:=mT.trans XB;have vT:=XX.trans sS;have nQ8:=(gu.trans Jv).trans XB;have sT:=mQ.ext sS;have Vj:=Z6.ext XB;have zb:=Xz.ext nQ8;have qQb:=sS.size;obtain⟨s1,s2⟩:=Dm T (qs.map (·.2));have pQb:=kQ5 (qs.map (·.2)) T;rw[JL] at pQb;have dQy:mE p.f (a+s.length+1) ((vs.map (·.2)).take (k+1))=dP (qs.map (·.2)) v.2.o T:=by rw[ez,lQs,<-jX,hT]
  have cQV:∀u∈(vs.map (·.2)).take (k+1),K5 (u.d++XE p.f u.a (a+s.length+1))=true:=λu hu=>by
   rw[ez] at hu;rcases XP.1 hu with hu | hu
   ·exact zZ u hu
   ·rw[QO.1 hu,hT];exact JF
  generalize KK:Wy (qs.map (·.2)) T=ix at*;by_cases Xa:ix<qs.length
  ·rw[Qf Xa];refine XJ (by omega) ?_;have aL:0<qs.length:=by omega
   obtain⟨q0,YF⟩:∃q0,qs[ix]? =some q0:=⟨_,Xu Xa⟩
   have pQc:=Xl YF;obtain⟨pa,Jn,_⟩:=sT.sl.at_ aL;subst Jn;have n25:¬Qk (some pa) w6.heap.size:=λh=>by have:=(aP _ h).2;omega
   have sU:=Ext.drew Xb;have nQ9:∀q∈qs,DgO Xb (Qk (some pa)) p.nm.length q.1 q.2.o:=λq hq=>(pU q hq).ext sS
   refine XR Qa (Mod (Qk (some pa)) Xb) 16 [(true,0),(true,1),(true,2),(true,3),(true,4),(true,5),(true,7),(true,8),(false,6),(false,9),(true,10),(true,11),(false,12),(true,13),(true,14),(false,15)] (by kernel_rfl) (Mod.of_ext _ sU) ?_;refine ik (j:=ix) Xa ?_;refine Xv (vs:=[.slice v.1.A v.1.n v.1.c,.int .i64 v.1.r]) rfl (λw' Qb k u hk=>by rw[add_add,(zb.mod Qb n25).cell];match k,hk with | 0,hk=>exact hk | 1,hk=>exact hk) ?_;have hOd:=sT.ext sU;refine Jz (vs:=[.slice q0.1.A q0.1.n q0.1.c,.int .i64 q0.1.r]) rfl (λk u hk=>by
    rw[add_add];refine CM (o:=ix*3) (i:=0+k) hOd aL ?_;rw[WQ];refine kr Dp qs ix q0 k u YF ?_
    match k,hk with
    | 0,hk=>exact hk
    | 1,hk=>exact hk) ?_
   refine⟨Mod.of_ext _ sU,?_⟩;have sq0:=(nQ9 q0 pQc)
   refine call (lQu hk q0.1 v.1 Xb.drew (sq0.sb.ext sU) ((sbv.ext (QQ.trans sS)).ext sU) sq0.st stv) ?_;rintro _ X9 ⟨OA,On,Oc,Ond,Or',rfl,XF,hOs,sO,hOR⟩;have cQW:=sU.trans XF;refine⟨Mod.of_ext _ cQW,?_⟩;refine call (Df ⟨OA,On,Oc,Ond,Or'⟩ X9) ?_;rintro _ Zu ⟨rfl,JW⟩;have sK:=cQW.trans JW;refine⟨Mod.of_ext _ sK,?_⟩;refine ik (j:=ix) Xa ?_;show nW _ _ ((pa.add (ix*3)).add 0) _ _;rw[add_add];have qQc:=eN Dp qs;refine Ud (sT.ext sK) (by show ix*3+0+2<=qs.length*3;omega) (sc rfl) (λJ8 wn jG=>?_);have cQX:Mod (Qk (some pa)) Xb J8:=(Mod.of_ext _ sK).trans wn (λi hi=>.inl hi);refine⟨cQX,?_⟩;have cQY:Mod (Qk (some pa)) w6 J8:=(Mod.of_ext _ sS).trans cQX (λi hi=>.inl hi);have E6:(qs.flatMap YB)[ix*3+0+ [Value.slice OA On Oc,.int .i64 Or'].length]? =some (.string (Qd q0.2.t)):=kr Dp qs ix q0 2 _ YF rfl;rw[show(#[Value.slice OA On Oc,Value.int IntKind.i64 Or']:Array Value).toList=[Value.slice OA On Oc,.int .i64 Or'] from rfl,lQx E6] at jG;have jG:Own J8 w5.heap.size 56 3 (some pa) qs.length pc ((qs.set ix (⟨OA,On,Oc,Ond,Or'⟩,Pr.mk (λe=>q0.2.o e||v.2.o e) q0.2.t)).flatMap YB):=by
    rw[<-HK Dp qs _ Xa];exact jG
   refine Qj ((k+1:Nat):Int) (by show((k:Nat):Int)+1=_;omega) (by omega) ?_;have pQd:(qs.map (·.2))[ix]? =some q0.2:=by rw[aR,YF]<;>rfl
   have qQd:=sK.size;have qQe:=sU.size;refine⟨(k+1,qs.set ix (⟨OA,On,Oc,Ond,Or'⟩,Pr.mk (λe=>q0.2.o e||v.2.o e) q0.2.t),some pa,pc),by simp only[gG];rfl,⟨cQY.ext QQ (λi hi=>(aP i hi).1),Xk,?_,by simp only;rw[gG];exact jG,λq hq=>?_,cQV⟩,by show vs.length-(k+1)<vs.length-k;omega⟩
   ·simp only;rw[dQy];unfold dP;rw[KK,pQd,List.map_set]
   ·rcases PV hq with hq | rfl
    ·exact(pU q hq).step cQY (λi hi=>.inl hi)
    ·have h0:DgO Zu (Qk (some pa)) p.nm.length ⟨OA,On,Oc,Ond,Or'⟩ (λe=>q0.2.o e||v.2.o e):=⟨hOs.ext JW,sO,λad ea h0 h=>by have:=hOR ad.block ⟨ad,ea,rfl⟩;have:=(aP _ h).2;omega⟩
     exact h0.step wn (λi hi=>.inl hi)
  ·rw[if_neg Xa];refine Zy (by decide) ?_;refine eM (vs:=[.slice v.1.A v.1.n v.1.c,.int .i64 v.1.r]) zb rfl (λk u hk=>by match k,hk with | 0,hk=>exact hk | 1,hk=>exact hk) ?_;refine Qz Vj rfl ?_;refine Xg Qa [YB (v.1,Pr.mk v.2.o T)] rfl rfl rfl rfl rfl ⟨rfl,rfl,⟨⟩⟩ rfl (λcs h=>by simp only[QO] at h;subst h;rfl) rfl (by decide) (by decide) ?_;intro X9 XF My Vw;have E7:=sS.trans XF;have MS:Sl X9 3 (some ⟨Xb.heap.size,0,none⟩) 1 1 (YB (v.1,Pr.mk v.2.o T)):=Sl.own (sz:=3) (n:=1) Vw (QB _) (by decide) (by simp[YB,Kg]);refine Je (n:=qs.length) Qa rfl rfl rfl rfl rfl (by decide) rfl rfl ⟨_,rfl⟩ rfl rfl (mQ.ext E7) MS (lQA _) (by unfold maxLen;omega) (by show(qs.length+1)*48<=_;omega) (by have:=(QQ.trans E7).size;omega) ?_;intro PA2 pc2 Zu D5 cQZ oQa;have NR:Mod (Qk PA) w6 Zu:=(Mod.of_ext (Qk PA) E7).trans D5 (λi hi=>.inl hi);have r14:∀k,Qk PA2 k->Qk PA k∨X9.heap.size<=k:=oQa.rows
   have oQb:=E7.size;have cQ0:∀k,Qk PA2 k->Qk PA k∨w6.heap.size<=k:=λk hk=>by
    rcases r14 k hk with h | h
    ·exact .inl h
    ·exact .inr (by omega)
   refine Qj ((k+1:Nat):Int) (by show((k:Nat):Int)+1=_;omega) (by omega) ?_;rw[show qs.flatMap YB++YB (v.1,Pr.mk v.2.o T)=(qs++ [(v.1,Pr.mk v.2.o T)]).flatMap YB by rw[Yd];simp] at cQZ;have OH:(qs.map (·.2))[ix]? =none:=List.getElem?_eq_none_iff.2 (by rw[JL];omega);refine⟨(k+1,qs++ [(v.1,Pr.mk v.2.o T)],PA2,pc2),by simp only[Qq];rfl,⟨NR.ext QQ (λi hi=>(aP i hi).1),Xk,?_,by simp only;rw[Qq];exact cQZ,λq hq=>?_,cQV⟩,by show vs.length-(k+1)<vs.length-k;omega⟩
   ·simp only;rw[dQy];unfold dP;rw[KK,OH,WR]<;>rfl
   ·rcases XP.1 hq with hq | hq
    ·exact(pU q hq).step NR cQ0
    ·rw[QO.1 hq];have h0:DgO w6 (Qk PA) p.nm.length v.1 v.2.o:=⟨sbv.ext QQ,stv,λad ea h0 h=>by have:=SB.lt sbv ad ea h0;have:=(aP _ h).1;omega⟩
     exact h0.step NR cQ0
 have Xk:k=vs.length:=by simp only at c2;omega
 rw[ZS (by rw[JL];omega)] at jX zZ;rw[<-jX] at Pk;obtain⟨Jn,hfP⟩:=Pk.pa hvi (λc hc=>(JC.1 hc).1);have FX:ZD (qs.map (λq=>(q.1,q.2.t)))=qs.map (·.2):=I4 (λq hq=>(pU q hq).st);rw[if_neg (by rw[FU.2 zZ];decide)] at tQ;have FW:∀q∈qs,K5 q.2.t=true/\(∀b∈q.2.t,b<256)/\q.2.t.length<=1000000:=λq hq=>by
  refine bQd (P:=λt=>K5 t=true/\(∀b∈t,b<256)/\t.length<=1000000) (vs.map (·.2)) (λu hu=>?_) q.2 (by rw[<-jX];exact Zk.2 ⟨q,hq,rfl⟩);have hu1:=zZ u hu;obtain⟨u0,NQ,rfl⟩:=Zk.1 hu;obtain⟨a1,a2,a3⟩:=iJ u0 NQ;refine⟨hu1,λb hb=>?_,?_⟩
  ·rcases XP.1 hb with hb | hb
   ·exact a1 b hb
   ·exact vC hB.f8 _ _ b hb
  ·have:=mD p.f u0.2.a (a+s.length+1);rw[Qq];omega
 have Wh:=Ext.drew w6;refine XR Qa (Ext w6) 8 [(true,0),(true,1),(true,2),(true,3),(true,4),(true,5),(false,6),(true,7)] (by kernel_rfl) Wh ?_;refine QN (v:=.slice p.NA p.nn p.nc) (λw' Qb=>((K.blk.ext XX).ext Qb).cell 0) ?_;refine Xv (vs:=d.cells) rfl (λw' Qb k u hk=>by rw[((Qh.ext (XF.trans (Qs.trans (Qx.trans QQ)))).ext Qb).cell];exact hk) ?_;have gE:=XX.trans Wh;refine call (aQt p.NA p.nn p.nc p.nm d o PA qs.length pc (qs.map (λq=>(q.1,q.2.t))) p.nm.length hB.n4 rfl hB.nb (λs hs=>by have:=hB.nl s hs;omega) (λq hq=>by
  obtain⟨q0,YF,rfl⟩:=Zk.1 hq;obtain⟨t1,t2,t3⟩:=FW q0 YF;exact⟨(kC hk (pU q0 YF).st).1,t1,t2,t3⟩) w6.drew (K.nms.ext gE) (hd.ext gE) sd ⟨by rw[<-I5];exact(mQ.ext Wh).sl,by rw[JL]⟩ (λq hq=>by
  obtain⟨q0,YF,rfl⟩:=Zk.1 hq;exact(pU q0 YF).sb.ext Wh) QX (by rw[FX];exact Jn)) ?_
 rintro _ w7 ⟨A7,c7,rfl,Xh,V8⟩;refine⟨Wh.trans Xh,?_⟩;rw[FX,Dl p.nm.length 0 (QG p.nm.length o) QX hfP,wY] at V8 ⊢;exact⟨_,tQ,A7,c7,rfl,gE.trans Xh,V8⟩
theorem bQh {nm:List (List Nat)}{n d0:Nat}{inc:oM}(hi:∀r ln d k g q,inc r ln d k g= .error q->q.e≠0):∀(ls:List (List Nat))(ln at_:Nat)(k:BF)(op:List Se)(g:Gs)(q:Pl),Jb nm n d0 inc ls ln at_ k op g= .error q->q.e≠0
 | [],ln,at_,k,op,g,q,h=>by
  cases op with
  | nil=>simp[Jb] at h
  | cons x op=>simp only[Jb,Except.error.injEq] at h;rw[<-h];exact(by decide:(72:Int)≠0)
 | s::ls,ln,at_,k,op,g,q,h=>by
  have ih:=λk op g h=>bQh (nm:=nm) (n:=n) (d0:=d0) hi ls (ln+1) (at_+s.length+1) k op g q h
  rw[Jb.eq_def] at h;simp only at h;cases Xt:XS s with
  | txt=>
   rw[Xt] at h;simp only at h;cases ha:Vt (s++ [10]) n at_ k g with
   | none=>rw[ha] at h;cases h;exact(by decide:(2:Int)≠0)
   | some g1=>rw[ha] at h;exact ih _ _ _ h
  | ifd r=>
   rw[Xt] at h;simp only at h;cases hs:V3 nm r with
   | error e=>rw[hs] at h;cases h;exact aQ7 hs
   | ok d=>
    rw[hs] at h;simp only at h;split at h
    ·cases h;exact(by decide:(2:Int)≠0)
    ·exact ih _ _ _ h
  | inc r=>
   rw[Xt] at h;simp only at h;cases hs:inc r (ln+1) (d0+op.length) k g with
   | error e=>rw[hs] at h;cases h;exact hi _ _ _ _ _ _ hs
   | ok g1=>rw[hs] at h;exact ih _ _ _ h
  | elif r=>
   rw[Xt] at h;cases op with
   | nil=>cases h;exact(by decide:(72:Int)≠0)
   | cons y op=>
    simp only at h;split at h
    ·cases h;exact(by decide:(71:Int)≠0)
    ·cases hs:V3 nm r with
     | error e=>rw[hs] at h;cases h;exact aQ7 hs
     | ok d=>rw[hs] at h;exact ih _ _ _ h
  | els=>
   rw[Xt] at h;cases op with
   | nil=>cases h;exact(by decide:(72:Int)≠0)
   | cons y op=>
    simp only at h;split at h
    ·cases h;exact(by decide:(71:Int)≠0)
    ·exact ih _ _ _ h
  | en=>
   rw[Xt] at h;cases op with
   | nil=>cases h;exact(by decide:(72:Int)≠0)
   | cons y op=>exact ih y.ou op {g with fr:=true} h
theorem lQF {ix:List Nat->Option Nat}{rd s:List Nat}{e:Int}(h:dK ix rd s= .error e):e≠0:=by
 rw[iQw] at h;split at h
 ·cases h;decide
 ·split at h
  ·cases h;decide
  ·split at h
   ·cases h;decide
   ·cases h
theorem lQG {nm:List (List Nat)}{t:List Nat}{q:Pl}(h:Vh nm (fF t) [102]= .error q):q.e≠0:=by
 unfold Vh at h;split at h
 ·cases h;decide
 cases Ve:Y6 (fF t)with
 | some p=>rw[Ve] at h;cases h;exact Uj Ve
 | none=>
  rw[Ve] at h;simp only at h;cases KK:Jq ((fF t).map (·.1)) [102] with
  | none=>rw[KK] at h;cases h;decide
  | some n=>
   rw[KK] at h;simp only at h;have hn:n<(fF t).length:=by have:=lZ KK;simpa using this
   have h0:n=0:=by simpa [fF] using hn
   subst h0;rw[aq] at h;refine bQh (λr ln d k g q hi=>?_) _ _ _ _ _ _ _ h;split at hi
   ·rename_i e he;cases hi;exact lQF he
   ·rename_i m he;exact Xc he (IN t (by simp) (e:=0) _)
theorem Dq:∀(l:List Nat),∀s∈QF l,∀b∈s,b∈l
 | []=>λs hs=>by simp[QF] at hs
 | c::l=>by
  have ih:=Dq l;intro s hs b hb;unfold QF at hs;split at hs
  ·rcases QY.1 hs with rfl | hs
   ·cases hb
   ·exact j5 _ (ih s hs b hb)
  ·cases hl:QF l with
   | nil=>rw[hl] at hs;rw[QO.1 hs] at hb;rw[QO.1 hb];simp
   | cons t ls=>
    rw[hl] at hs ih;rcases QY.1 hs with rfl | hs
    ·rcases QY.1 hb with rfl | hb
     ·simp
     ·exact j5 _ (ih t (by simp) b hb)
    ·exact j5 _ (ih s (by simp[hs]) b hb)
theorem bQi {f:List Nat}(hf:∀b∈f,b<256)(Zq:f.length<=60000)(c:Nat):∀(es:List Ed)(st:List Nat×Nat),(∀e∈es,(∀b∈e.tx,b<256)/\e.tx.length<=1000)->(∀b∈st.1,b<256)->
  (∀b∈(es.foldl (ZO f c) st).1,b<256)/\(es.foldl (ZO f c) st).1.length<=st.1.length+es.length*70000
 | [],st,_,h=>⟨h,by simp⟩
 | e::es,st,he,h=>by
  obtain⟨e1,e2⟩:=he e (by simp);have cA:=mD f st.2 e.fr.toNat;have bH:(∀b∈(ZO f c st e).1,b<256)/\(ZO f c st e).1.length<=st.1.length+70000:=by
   unfold ZO;split
   ·refine⟨λb hb=>?_,by simp only[Qq];omega⟩;simp only[XP] at hb;rcases hb with(hb | hb) | hb
    ·exact h b hb
    ·exact vC hf _ _ b hb
    ·exact e1 b hb
   ·exact⟨h,by omega⟩
  obtain⟨i1,i2⟩:=bQi hf Zq c es (ZO f c st e) (λb hb=>he b (by simp[hb])) bH.1;rw[eE,Q2,lr,xg];exact⟨i1,by omega⟩
theorem bQj {f:List Nat}(hf:∀b∈f,b<256)(Zq:f.length<=60000){stop a:Nat}{es:List Ed}(he:∀e∈es,(∀b∈e.tx,b<256)/\e.tx.length<=1000)(hl:es.length<=10)(c:Nat):(∀b∈ZY f stop a es c,b<256)/\(ZY f stop a es c).length<=1000000:=by
 obtain⟨h1,h2⟩:=bQi hf Zq c es ([],a) he (λb hb=>by cases hb);unfold ZY;refine⟨λb hb=>?_,?_⟩
 ·rcases XP.1 hb with hb | hb
  ·exact h1 b hb
  ·exact vC hf _ _ b hb
 ·have:=mD f (es.foldl (ZO f c) ([],a)).2 stop;have:=WN 70000 hl;rw[Qq];simp only[Jp] at h2;omega
def vD (s:List Nat):Prop:=(∀b∈s,b<256)/\s.length<=1000000
theorem lQH {nm:List (List Nat)}(hb:KO nm)(h:∀s∈nm,s.length<=1000)(v:Nat)(ng:Bool):vD (J4 nm v ng):=by
 refine⟨λb hb2=>?_,?_⟩
 ·unfold J4 at hb2;simp only[XP] at hb2;rcases hb2 with hb2 | hb2 | hb2
  ·exact(by decide:∀b∈ZJ,b<256) b hb2
  ·cases ng with
   | true=>
        have:b=33:=by simpa using hb2
        rw[this];decide
   | false=>simp at hb2
  ·cases hv:nm[v]? with
   | none=>rw[hv] at hb2;simp at hb2
   | some s=>rw[hv] at hb2;exact(hb s (Xl hv)).1 b hb2
 ·unfold J4;have h1:((nm[v]?).getD []).length<=1000:=by
   cases hv:nm[v]? with
   | none=>simp
   | some s=>exact h s (Xl hv)
  have h2:(if ng then [33] else([]:List Nat)).length<=1:=by cases ng<;>simp
  have h3:ZJ.length=4:=rfl;simp only[Qq];omega
theorem lQI {nm:List (List Nat)}(Yp:KO nm)(KC:∀s∈nm,s.length<=1000){f:List Nat}(hf:∀b∈f,b<256)(Zq:f.length<=60000){es:List Ed}(he:∀e∈es,(∀b∈e.tx,b<256)/\e.tx.length<=1000)(hl:es.length<=10){S:List Nat}(hS:S.length<=16){a:Nat}{s:List Nat}(hs:vD s){L:List (List Nat)}(h:aA nm f es S a s=some L):
  L.length<=16000048/\∀u∈L,vD u:=by
 unfold aA at h;split at h
 ·rw[<-Option.some.inj h];exact⟨by show 1<=16000048;decide,λu hu=>by rw[QO.1 hu];exact hs⟩
 ·rename_i h0;split at h
  ·cases h
  ·split at h
   ·cases h
   ·rw[<-Option.some.inj h];have QX:S≠ []:=λe=>by
     apply h0;unfold Vu;rw[tZ];intro b hb;rw[e];simp[YR]
    have hm:∀e∈Vu es S a s,(∀b∈e.tx,b<256)/\e.tx.length<=1000:=λe hm=>he e (Jy.1 hm).1
    have wK:(Vu es S a s).length<=10:=X3 (lu _ _) hl;obtain⟨h1,h2⟩:=vq (nm:=nm) (f:=ZY f (a+s.length+1) a (Vu es S a s)) (P:=vD) (M:=1000000) (λv ng=>lQH Yp KC v ng) ⟨by decide,by decide⟩ ⟨by decide,by decide⟩ nm.length 0 S QX (λc hc=>by
     obtain⟨v1,v2⟩:=bQj hf Zq (stop:=a+s.length+1) (a:=a) hm wK c;obtain⟨l1,l2⟩:=yH (ZY f (a+s.length+1) a (Vu es S a s) c);exact⟨λu hu=>⟨λb hb=>v1 b (Dq _ u hu b hb),by have:=l2 u hu;omega⟩,by omega⟩)
    have:=WN (1000000+3) hS;exact⟨by omega,h1⟩
def ApR (nm:List (List Nat))(d:BF)(g:Gs)(f:List Nat)(es:List Ed)(ls:List (List Nat))(i:Nat)(L:List (List Nat)):Prop:=
 Yi nm d g f es ls 0=match Yi nm d g f es (ls.drop i) (Qp (ls.take i)).length with
  | none=>none
  | some m=>some (L++m)
theorem ApR.zero {nm:List (List Nat)}{d:BF}{g:Gs}{f:List Nat}{es:List Ed}{ls:List (List Nat)}:ApR nm d g f es ls 0 []:=by
 unfold ApR;show Yi nm d g f es ls 0=match Yi nm d g f es ls 0 with
  | none=>none
  | some m=>some ([]++m)
 cases Yi nm d g f es ls 0<;>rfl
theorem vE {ls:List (List Nat)}{i:Nat}{s:List Nat}(h:ls[i]? =some s):(Qp (ls.take (i+1))).length=(Qp (ls.take i)).length+s.length+1:=by
 rw[VF,h];show(Qp (ls.take i++ [s])).length=_;rw[UP];simp only[Qq,nU];omega
theorem ApR.next {nm:List (List Nat)}{d:BF}{g:Gs}{f:List Nat}{es:List Ed}{ls:List (List Nat)}{i:Nat}{L l:List (List Nat)}{s:List Nat}(h:ApR nm d g f es ls i L)(hs:ls[i]? =some s)
  (hl:(if XS s= .txt then aA nm f es (QG nm.length (XY d (ij g (Qp (ls.take i)).length))) (Qp (ls.take i)).length s else some [s])=some l):ApR nm d g f es ls (i+1) (L++l):=by
 have Xa:=(Jd.1 hs).1;have hd:ls.drop i=s::ls.drop (i+1):=by
  rw[am Xa];congr 1;rw[Xu Xa] at hs;exact Option.some.inj hs
 unfold ApR at h ⊢;rw[hd,Yi,hl] at h;rw[vE hs,h];simp only;cases Yi nm d g f es (ls.drop (i+1)) ((Qp (ls.take i)).length+s.length+1)with
 | none=>rfl
 | some m=>simp only[ZG]
theorem ApR.none {nm:List (List Nat)}{d:BF}{g:Gs}{f:List Nat}{es:List Ed}{ls:List (List Nat)}{i:Nat}{L:List (List Nat)}{s:List Nat}(h:ApR nm d g f es ls i L)(hs:ls[i]? =some s)
  (hl:(if XS s= .txt then aA nm f es (QG nm.length (XY d (ij g (Qp (ls.take i)).length))) (Qp (ls.take i)).length s else some [s])=Option.none):Yi nm d g f es ls 0=Option.none:=by
 have Xa:=(Jd.1 hs).1;have hd:ls.drop i=s::ls.drop (i+1):=by
  rw[am Xa];congr 1;rw[Xu Xa] at hs;exact Option.some.inj hs
 unfold ApR at h;rw[hd,Yi,hl] at h;exact h
theorem ApR.fin {nm:List (List Nat)}{d:BF}{g:Gs}{f:List Nat}{es:List Ed}{ls:List (List Nat)}{i:Nat}{L:List (List Nat)}(h:ApR nm d g f es ls i L)(hi:ls.length<=i):Yi nm d g f es ls 0=some L:=by
 unfold ApR at h;rw[nR hi] at h;rw[h];show some (L++ [])=some L;rw[KE]
theorem bQk:∀{ls:List (List Nat)}{p i:Nat}{s:List Nat},ls[i]? =some s->(p+(Qp (ls.take i)).length,s)∈Zj p ls
 | [],p,i,s,h=>by simp at h
 | t::ls,p,0,s,h=>by
  have:t=s:=by simpa using h
  subst this;simp[Zj,Qp]
 | t::ls,p,i+1,s,h=>by
  have:=bQk (p:=p+t.length+1) (ls:=ls) (i:=i) (s:=s) (by simpa using h);refine j5 _ ?_;rw[fy,V4];simp only[Qq,Q2];rw[show p+(t.length+((Qp (ls.take i)).length+1))=p+t.length+1+(Qp (ls.take i)).length by omega];exact this
theorem bQl {nm:List (List Nat)}{n d0:Nat}{inc:oM}(hi:∀r ln d k g g',inc r ln d k g≠ .ok g'):∀(ls:List (List Nat))(ln at_:Nat)(k:BF)(op:List Se)(g g':Gs),Jb nm n d0 inc ls ln at_ k op g= .ok g'->∀q∈Zj at_ ls,XS q.2= .txt->∃k',(q.1,q.2,k')∈Kq nm ls at_ k (kB op)
 | [],ln,at_,k,op,g,g',_,q,hq,_=>by cases hq
 | s::ls,ln,at_,k,op,g,g',h,q,hq,nL=>by
  have ih:=λk op g h hq=>bQl (nm:=nm) (n:=n) (d0:=d0) hi ls (ln+1) (at_+s.length+1) k op g g' h q hq nL
  rw[Jb.eq_def] at h;simp only at h;rw[Kq.eq_def];simp only;rw[Zj] at hq;cases Xt:XS s with
  | txt=>
   rw[Xt] at h;simp only at h ⊢;cases ha:Vt (s++ [10]) n at_ k g with
   | none=>rw[ha] at h;cases h
   | some g1=>
    rw[ha] at h;rcases QY.1 hq with rfl | hq
    ·exact⟨k,Gf⟩
    ·obtain⟨k',YX⟩:=ih _ _ _ h hq;exact⟨k',j5 _ YX⟩
  | ifd r=>
   rw[Xt] at h;simp only at h ⊢;rcases QY.1 hq with rfl | hq
   ·rw[Xt] at nL;cases nL
   cases hs:V3 nm r with
   | error e=>rw[hs] at h;cases h
   | ok d=>
    rw[hs] at h;simp only at h ⊢;split at h
    ·cases h
    ·exact ih _ _ _ h hq
  | inc r=>
   rw[Xt] at h;simp only at h;cases hs:inc r (ln+1) (d0+op.length) k g with
   | error e=>rw[hs] at h;cases h
   | ok g1=>exact Xc hs (hi _ _ _ _ _ _)
  | elif r=>
   rw[Xt] at h;rcases QY.1 hq with rfl | hq
   ·rw[Xt] at nL;cases nL
   cases op with
   | nil=>cases h
   | cons y op=>
    simp only at h ⊢;split at h
    ·cases h
    ·cases hs:V3 nm r with
     | error e=>rw[hs] at h;cases h
     | ok d=>rw[hs] at h;exact ih _ _ _ h hq
  | els=>
   rw[Xt] at h;rcases QY.1 hq with rfl | hq
   ·rw[Xt] at nL;cases nL
   cases op with
   | nil=>cases h
   | cons y op=>
    simp only at h ⊢;split at h
    ·cases h
    ·exact ih y.re ({y with ot:=true}::op) {g with fr:=true} h hq
  | en=>
   rw[Xt] at h;rcases QY.1 hq with rfl | hq
   ·rw[Xt] at nL;cases nL
   cases op with
   | nil=>cases h
   | cons y op=>exact ih y.ou op {g with fr:=true} h hq
theorem lQJ {nm:List (List Nat)}{t:List Nat}{g:Gs}(hr:Vh nm (fF t) [102]= .ok g){q:Nat×List Nat}(hq:q∈Zj 0 (QF t))(hd:XS q.2= .txt):∃k i x,SegAt g q.1 k i x:=by
 obtain⟨ht,h1,h2,h3⟩:=yG hr;have key:∃k',(q.1,q.2,k')∈Kq nm (QF t) 0 (λ_=>true) []:=by
  unfold Vh at hr;split at hr
  ·cases hr
  cases Ve:Y6 (fF t)with
  | some p=>rw[Ve] at hr;cases hr
  | none=>
   rw[Ve] at hr;simp only at hr;cases KK:Jq ((fF t).map (·.1)) [102] with
   | none=>rw[KK] at hr;cases hr
   | some n=>
    rw[KK] at hr;simp only at hr;have hn:n<(fF t).length:=by have:=lZ KK;simpa using this
    have h0:n=0:=by simpa [fF] using hn
    subst h0;have hx:(fF t)[0]? =some ([102],t):=rfl;rw[aq,hx] at hr;simp only[xb,gJ] at hr;exact bQl (λr ln d' k' g1 g2 hi=>by
     split at hi
     ·cases hi
     ·rename_i m he;exact IN t (by simp) (e:=0) _ he) (QF t) 0 0 (λ_=>true) [] ⟨[],[],true⟩ g hr q hq hd
 obtain⟨k',hk⟩:=key;rw[<-h1] at hk;obtain⟨i,x,hs,_⟩:=aQR h3 h2 hk;exact⟨k',i,x,hs⟩
end
section
section
variable {P:Program} {ops:Array Oper} {md:Region.Mode} {C:World->Prop} {Q:Exit->Act->World->Prop}
def PanE (N:Slots)(T:Env)(Xj:List PanicEntry->World->Prop)(Q:Exit->Act->World->Prop):Exit->Act->World->Prop
 | .panic ch,a,w=>Fits N T a/\Xj ch w
 | e,a,w=>Q e a w
def yJ (T:Env)(d:Option Tmp):Bool:=match d with
 | none=>true
 | some d=> !(lz d T)
theorem PanE.put {N:Slots}{T:Env}{Xj:List PanicEntry->World->Prop}{Q:Exit->Act->World->Prop}{ch:List PanicEntry}{a:Act}{d:Option Tmp}{v:Value}{w:World}(hd:yJ T d=true)(h:PanE N T Xj Q (.panic ch) (a.put d v) w):PanE N T Xj Q (.panic ch) a w:=by
 obtain⟨h1,h3⟩:=h;cases d with
 | none=>exact⟨h1,h3⟩
 | some d=>
  refine⟨⟨by simpa [Act.put] using h1.size,by simpa [Act.put] using h1.defers,λk x hk=>?_⟩,h3⟩;have h4:=h1.has k x hk;have QX:d≠k:=λe=>by
   subst e;have h5:lz d T=false:=by simpa [yJ] using hd
   rw[Rl h5] at hk;cases hk
  simpa [Act.put,QX] using h4
theorem PanE.imp {c:Cx}{T:Env}{Xj:List PanicEntry->World->Prop}{Q:Zs}(hp:∀ch w,Xj ch w->Q (.panic ch) T w):∀(e:Exit)(a:Act)(w:World),PanE c.N T Xj (Up c Q) e a w->Up c Q e a w:=λe a w h=>by
 cases e<;>first | exact h | (obtain⟨h1,h3⟩:=h;exact⟨T,h1,hp _ _ h3⟩)
theorem lQK {N:Slots}{T:Env}{Xj:List PanicEntry->World->Prop}{n i:Nat}{oi:Oper}{v:Value}{L:Array Bool->Act->World->Prop}(hi:ops[i]? =some oi)(jK:∀(j:Nat)(o:Oper) cs b,ops[j]? =some o->o.op≠ .select cs b)(hT:yJ T oi.dst=true)
  (hs:ki md ops n) (Q4:i<n) (Ak:∀listed a w,L listed a w->∀j∈Region.ready md ops listed,n<=j):
  ∀(f:Nat) (listed:Array Bool) (a:Act) (w:World),HeadInv md ops n listed->
   (∀j oj,ops[j]? =some oj->j≠i->listed.getD j true=false->(∀e∈oj.after,Region.binds md e=true->e.on≠i)->oi.apart ops oj=true)->
   i∈Region.ready md ops listed->YieldsIf P ops C oi v a->C w->
   Yr P md ops (PanE N T Xj Q) C n L f (listed.setIfInBounds i true) (a.put oi.dst v) w->Yr P md ops (PanE N T Xj Q) C n L (f+1) listed a w:=by
 intro f;induction f with
 | zero=>
  intro listed a w inv _ hr hy hC H;have J9:=(mem_ready.1 hr).1;refine⟨λh=>(by rw[h] at hr;cases hr),λj hj=>?_⟩;have KB:=ur hs inv Q4 J9 j hj;refine⟨KB,?_⟩;by_cases Vr:j=i
  ·subst Vr;exact hy.wpOp hi hC ⟨hC,H⟩
  ·have:=Ak _ _ _ H j (ready_mono hj Vr);omega
 | succ f ih=>
  intro listed a w inv pZ hr hy hC H;have J9:=(mem_ready.1 hr).1;refine⟨λh=>(by rw[h] at hr;cases hr),λj hj=>?_⟩;have KB:=ur hs inv Q4 J9 j hj;refine⟨KB,?_⟩;by_cases Vr:j=i
  ·subst Vr;exact hy.wpOp hi hC ⟨hC,H⟩
  ·have h1:=(H.2 j (ready_mono hj Vr)).2;obtain⟨p7,oj,gv,hall⟩:=mem_ready.1 hj;have ny:∀e∈oj.after,Region.binds md e=true->e.on≠i:=λe he hb heq=>by
    have h1:=hall e he hb;rw[heq,getD_both J9] at h1;cases h1
   have h2:=wpOp_putIf gv (pZ j oj gv Vr p7 ny) (λcs b=>jK i oi cs b hi) (λcs b=>jK j oj cs b gv) (λ_ _ _ h=>PanE.put hT h) hy h1;have Am:∀k ok,ops[k]? =some ok->k≠i->(listed.setIfInBounds j true).getD k true=false->
     (∀e∈ok.after,Region.binds md e=true->e.on≠i)->oi.apart ops ok=true:=λk ok hk An J9 Xi=>by
    refine pZ k ok hk An ?_ Xi;by_cases p8:j=k
    ·subst p8;exact p7
    ·rw[getD_set_ne true p8] at J9;exact J9
   refine wpOp_mono (λa' w' h3=>⟨h3.2.1,ih (listed.setIfInBounds j true) a' w' (inv.set hj KB) Am (ready_mono hr (Ne.symm Vr)) h3.1 h3.2.1 ?_⟩) h2;rw[dQG _ _ Vr];exact h3.2.2
end
section
variable {c:Cx} {S:Env} {a:Act}
def mF (c:Cx)(T:Env)(Xj:List PanicEntry->World->Prop)(all:List Oper)(C:World->Prop):List (Bool×Nat)->Env->World->(Env->World->Prop)->Prop
 | [],S,w,K=>K S w
 | (true,k)::l,S,w,K=>match Vg all k with
  | some o=>gS all o S (λS=>ro c o S C (λS=>mF c T Xj all C l S w K)) (λS=>Xf c S o.dst (.v undef) (λS=>mF c T Xj all C l S w K))
  | none=>False
 | (false,k)::l,S,w,K=>match Vg all k with
  | some o=>gS all o S (λS=>eH c o S w (λS w=>C w/\mF c T Xj all C l S w K) (λe S w=>match e with
   | .panic ch=>Has T S/\Xj ch w
   | _=>False)) (λS=>Xf c S o.dst (.v undef) (λS=>mF c T Xj all C l S w K))
  | none=>False
theorem Dr (hg:c.g.Ok){md:Region.Mode}{ops:List Oper}{C:World->Prop}{Q:Exit->Act->World->Prop}{n:Nat}(hs:Region.noSelect ops.toArray=true){T:Env}(hT:ops.all (λo=>yJ T o.dst)=true)(hk:ki md ops.toArray n){K:Env->World->Prop}{Xj:List PanicEntry->World->Prop}:
  ∀(l:List (Bool×Nat)) (listed:Array Bool) (S:Env) (a:Act) (w:World),HeadInv md ops.toArray n listed->eL md ops.toArray n l listed=true->mF c T Xj ops C l S w K->Fits c.N S a->C w->
  Yr c.g.P md ops.toArray (PanE c.N T Xj Q) C n (λJw a' w'=>Region.seqB md ops.toArray (ops.toArray.size-n) n Jw=true/\∃S',Fits c.N S' a'/\K S' w') l.length listed a w
 | [],listed,S,a,w,inv,hB,h,hf,hC=>⟨hB,S,hf,h⟩
 | (true,k)::l,listed,S,a,w,inv,hB,h,hf,hC=>by
  simp only[eL,Z9] at hB;obtain⟨⟨⟨Xk,hr⟩,iw⟩,Vb⟩:=hB;have Xk:k<n:=by rw[iM] at Xk;exact Xk
  have Q5:k∈Region.ready md ops.toArray listed:=by simpa using hr
  obtain⟨_,o,ho,_⟩:=mem_ready.1 Q5;have hn:Vg ops k=some o:=by rw[gP];simpa using ho
  simp only[mF,hn] at h;have key:∃v,YieldsIf c.g.P ops.toArray C o v a/\∃S',Fits c.N S' (a.put o.dst v)/\mF c T Xj ops C l S' w K:=by
   rcases kj h hf with⟨hw,S1,Zp,h1⟩ | ⟨hw,S1,Zp,h1⟩
   ·obtain⟨v,h2,h3⟩:=xB hg h1 Zp;exact⟨v,.inl ⟨hw,h2⟩,h3⟩
   ·exact⟨undef,.inr ⟨hw,rfl⟩,ZH (e:=.v undef) h1 Zp⟩
  obtain⟨v,hy,S',Q1,h'⟩:=key;exact lQK ho (Region.noSelect_spec hs) (Ka.1 hT o (Xl (by simpa using ho))) hk Xk (λJw a' w' hL=>seqB_ready hL.1) l.length listed a w inv (Region.free_spec ho iw) Q5 hy hC
   (Dr hg hs hT hk l _ S' _ w (inv.set Q5 Xk) Vb h' Q1 hC)
 | (false,k)::l,listed,S,a,w,inv,hB,h,hf,hC=>by
  simp only[eL,Z9,VX] at hB;obtain⟨⟨Xk,hr⟩,Vb⟩:=hB;have Xk:k<n:=by rw[iM] at Xk;exact Xk
  have Q5:k∈Region.ready md ops.toArray listed:=by rw[hr];simp
  obtain⟨_,o,ho,_⟩:=mem_ready.1 Q5;have hn:Vg ops k=some o:=by rw[gP];simpa using ho
  simp only[mF,hn] at h;have fq:=inv.set Q5 Xk;refine⟨λh0=>(by rw[hr] at h0;cases h0),λi hi=>?_⟩;rw[hr] at hi;have Ao:i=k:=by simpa using hi
  subst Ao;refine⟨Xk,?_⟩;unfold wpOp;simp only[ho];rcases kj h hf with⟨hw,S1,Zp,h1⟩ | ⟨hw,S1,Zp,h1⟩
  ·rw[Qf hw];refine .inl ?_;have h2:=qZ hg h1 Zp;have h3:=Oper.wp_mono (K':=λa' w'=>C w'/\Yr c.g.P md ops.toArray (PanE c.N T Xj Q) C n (λJw a' w'=>Region.seqB md ops.toArray (ops.toArray.size-n) n Jw=true/\∃S',Fits c.N S' a'/\K S' w') l.length (listed.setIfInBounds i true) a' w')
    (λa' w' ⟨S',Q1,ZZ,YX⟩=>⟨ZZ,Dr hg hs hT hk l _ S' a' w' fq Vb YX Q1 ZZ⟩) h2
   unfold Oper.wp at h3 ⊢;generalize (execOp a.eval o).run c.g.P w=r at*;cases r with
   | ok nx w'=>
    cases nx<;>simp only[Oper.upon] at h3 ⊢ <;> try exact h3
    exact h3.mono λe Vq he=>by
     cases e with
     | returned v=>exact he
     | panicked ch=>obtain⟨_,hfz,he⟩:=he;exact⟨he.1.fits hfz,he.2⟩
     | outgrown=>obtain⟨_,_,_,_,he⟩:=he;exact he.elim
   | halt x w'=>cases x<;>simp only[Oper.upon] at h3 ⊢ <;> first | exact h3 | (obtain⟨_,hfz,h3⟩:=h3;exact⟨h3.1.fits hfz,h3.2⟩) | (obtain⟨_,_,h3⟩:=h3;exact h3.elim)
  ·rw[if_neg (by rw[hw];decide)];obtain⟨S',Q1,h'⟩:=ZH (e:=.v undef) h1 Zp;exact⟨hC,Dr hg hs hT hk l _ S' _ w fq Vb h' Q1 hC⟩
theorem lQL (hg:c.g.Ok){id:Nat}{ops:List Oper}{w:World}{Q:Zs}(T:Env)(hT:ops.all (λo=>yJ T o.dst)=true)(Xj:List PanicEntry->World->Prop)(OP:∀ch w,Xj ch w->Q (.panic ch) T w)(C:World->Prop)(n:Nat)(plan:List (Bool×Nat))
  (hB:(Region.noSelect ops.toArray&&Nat.beq plan.length n&&rm .any ops.toArray n&&eL .any ops.toArray n plan (Array.replicate ops.toArray.size false))=true) (hC:C w.drew)
  (h:mF {c with named:=1000000} T Xj ops C plan S w.drew (λS w=>YJ c ops (ops.drop n) S w (λS w=>Q .normal S w) (λe S w=>match e with
   | .panic ch=>Has T S/\Xj ch w
   | _=>False))):WV c id ops S w Q:=by
 unfold WV;intro a hf;simp only[Z9] at hB;obtain⟨⟨⟨hs,hl⟩,bJ⟩,JF⟩:=hB;have hl:=VW hl;have hk:=xA bJ;have Fo:n<=ops.length:=by
  rcases hk with hk | hk
  ·rw[hk];simp
  ·have:=hk.1;simp at this;omega
 refine Code.wp_mono (PanE.imp OP) (wp_region_any hg.mixed ?_);have mJ:HeadInv .any ops.toArray n (Array.replicate ops.toArray.size false):=
  ⟨by simp,λj oj _ hl=>(by rw[getD_replicate_false] at hl;cases hl),λt _ ht=>getD_in (by simpa using ht) (getD_replicate_false _ _)⟩
 have H:=Dr (c:={c with named:=1000000}) hg (Q:=Up c Q) hs hT hk plan _ S a _ mJ JF h hf hC;have Yb:(ops.drop n).length=ops.toArray.size-n:=by simp
 have H2:=uq (Q:=PanE c.N T Xj (Up c Q)) (g:=ops.toArray.size-n) (λJw a' w' hL=>by
  obtain⟨hq,S',Q1,YX⟩:=hL;have h2:=j8 (c:=c) hg ops _ _ _ _ YX Q1;have:=wpAny_of_seq (P:=c.g.P) (md:=.any) (ops:=ops.toArray) (Q':=PanE c.N T Xj (Up c Q)) (ops.drop n) n Jw a' w' (λj=>by simp) (by rw[Yb];exact hq) (lG (λe a w hq=>by
   cases e with
   | normal=>exact hq
   | panic ch=>obtain⟨_,hfz,h⟩:=hq;exact⟨h.1.fits hfz,h.2⟩
   | _=>exact Xc hq (by rintro⟨_,_,h⟩;exact h)) h2)
  rwa [Yb] at this) _ _ _ _ H
 rw[hl,show n+(ops.toArray.size-n)=ops.toArray.size by simp;omega] at H2;exact H2
end
end
end Go.Proofs.YtjabbbcdgmlojaaGreatDoor
