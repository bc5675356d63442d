/-
  What PPatchWeavesLikeReference rests on, part 5 (wip/shake.py).
  Conditions: none.
-/
import Derived.Test.YtjabbbcdgmlojaaGreatDoorQPPatchWeavesLikeReferenced
set_option linter.all false
set_option linter.deprecated false
set_option maxHeartbeats 12800000
namespace Go.Proofs.YtjabbbcdgmlojaaGreatDoor
open Go Go.RowKit
section
def Zt (p:DV×List Nat):List Value:=[.slice p.1.A p.1.n p.1.c,.int .i64 p.1.r,.string (Qe p.2)]
theorem gk (p:DV×List Nat):(Zt p).length=3:=rfl
structure WP where
 pb:Nat
 wb:Nat
 nb:Nat
 PA:Option Addr
 pn:Nat
 pc:Nat
 NA:Option Addr
 nn:Nat
 nc:Nat
 nm:List (List Nat)
 ps:List (DV×List Nat)
def WP.caps (p:WP):List Value:=[.pointer (some ⟨p.pb,0,none⟩),.pointer (some ⟨p.wb,0,none⟩),.pointer (some ⟨p.nb,0,none⟩)]
def WP.clo (p:WP):Value:=.func (.func 116) #[] #[.pointer (some ⟨p.pb,0,none⟩),.pointer (some ⟨p.wb,0,none⟩),.pointer (some ⟨p.nb,0,none⟩)]
structure WK (w:World) (p:WP):Prop where
 pbb:Blk w p.pb 54 [.slice p.PA p.pn p.pc]
 wbb:Blk w p.wb 192 [p.clo]
 nbb:Blk w p.nb 37 [.slice p.NA p.nn p.nc]
 pss:SlS Zt 3 w p.PA p.pn p.pc p.ps
 sbs:∀q∈p.ps,SB w q.1.A q.1.n q.1.c q.1.nd
 nms:Sl w 1 p.NA p.nn p.nc (Q9 p.nm)
theorem WK.ext {w w':World}{p:WP}(h:WK w p)(k:Ext w w'):WK w' p:=⟨h.pbb.ext k,h.wbb.ext k,h.nbb.ext k,h.pss.ext k,λq hq=>(h.sbs q hq).ext k,h.nms.ext k⟩
def hQY (k:Nat)(wR:World)(oh ol:BF)(t:DV×DV×Nat×Nat)(w':World):Prop:=Ext wR w'/\Blk w' t.2.2.1 32 t.1.cells/\Blk w' t.2.2.2 32 t.2.1.cells/\SB w' t.1.A t.1.n t.1.c t.1.nd/\Set1 k t.1.nd t.1.r oh/\SB w' t.2.1.A t.2.1.n t.2.1.c t.2.1.nd/\Set1 k t.2.1.nd t.2.1.r ol
theorem GU {k:Nat}(hk:k<=12){x y:DV}{o o':BF}(s:Set1 k x.nd x.r o)(s':Set1 k y.nd y.r o'):gZ x.nd x.r y.nd y.r=true↔∀e,o e=true->o' e=true:=by
 rw[GI];constructor
 ·rintro⟨_,_,hn⟩ e he;cases h:o' e with
  | true=>rfl
  | false=>exact Xd ⟨e,by rw[s.mean];exact he,by rw[s'.mean];exact h⟩ hn
 ·intro h;refine⟨s.chk hk,s'.chk hk,λ⟨e,h1,h2⟩=>?_⟩;rw[s.mean] at h1;rw[s'.mean,h e h1] at h2;cases h2
theorem hQZ (p:WP)(n:Nat)(fx:n<=4)(iB:p.nm.length=n)(JX:Jy p.nm)(Je:∀s∈p.nm,s.length<=1000000)(Vs:∀q∈p.ps,JT n q.1.nd q.1.r=true/\JD q.2=true/\(∀b∈q.2,b<256)/\q.2.length<=1000000):
  ∀(k v:Nat) (x:DV) (o:BF) (w:World),v+k=n->WK w p->SB w x.A x.n x.c x.nd->Set1 n x.nd x.r o->Qu n o≠ []->PaOk (Qu n o) (XN p.ps)->Apt (Qu n o) v k->
  Fn Tryz.prog 116 (Xg x.A x.n x.c x.r:: .int .i64 v::p.caps) w (λu w'=>jm w u ((Xw p.nm (fP (XN p.ps)) k v (Qu n o)).map (·++ [10])) w'):=by
 have hk:n<=12:=by omega
 intro k;induction k using Nat.strongRecOn with
 | ind k ih=>
 intro v x o w yX hK hx sx QK ZE du;have Jt:=hK.pss.2;refine Qx (c:={cQS with cuts:=[]}) Qa Tryz.func116 rfl rfl rfl ?_;refine new (λw1 Qd Q3 Qh=>?_);have Kj:=hK.ext Qd;refine QC Kj.pbb rfl ?_;refine loop Qa [17] (λi:Nat=>[.int .i64 i]) (λi w'=>Ext w1 w'/\i<=p.pn/\∀q∈p.ps.take i,¬∀e,o e=true->oD q.1 e=true) (λi _=>p.pn-i) 0 rfl ⟨Ext.refl _,Xt _,λq hq=>by simp at hq⟩ ?_;rintro i w2 ⟨Qg,hi,Xa⟩;have QT:=Qd.trans Qg;have nQ6:p.pn<=9223372036854775807:=by have:=hK.pss.1.le;have:=hK.pss.1.cap;simp only[maxLen] at this;omega
 refine Qt (λc1=>?_) (λc1=>?_)
 ·have QN:i<p.pn:=by omega
  refine Zh gk (hK.ext QT).pss rfl QN (λad q hq hc=>?_);have KY:=Q2 hq;obtain⟨o1,o2,o3,o4⟩:=Vs q KY;refine Kb (vs:=Zt q) rfl hc ?_;refine new (λw3 Qi JF Qw=>?_);refine QB Qw rfl (sc rfl) (λw4 bn _ Q6=>?_);have Ja:Ext w2 w4:=XY Qi Qw bn;have XI:=QT.trans Ja;refine Qs (Qh.ext (Qg.trans Ja)) rfl ?_;refine cw (vs:=[.slice q.1.A q.1.n q.1.c,.int .i64 q.1.r]) Q6 rfl (λj u hj=>by match j,hj with | 0,hj=>exact hj | 1,hj=>exact hj) ?_;refine call (S3 x.A x.n x.c x.nd x.r q.1.A q.1.n q.1.c q.1.nd q.1.r w4 (hx.ext XI) ((hK.sbs q KY).ext XI)) ?_;rintro _ w5 ⟨rfl,Qz⟩;have J6:=XI.trans Qz;refine Kq (λd1=>?_) (λd1=>?_)
  ·have d1:gZ x.nd x.r q.1.nd q.1.r=true:=d1;have hw:=(GU hk sx (eS o1)).1 d1;refine Qp (Q6.ext Qz) rfl ?_;refine call (Bw q.2 w5 o3 (by omega)) ?_;rintro _ w6 ⟨A,c,rfl,Xh,jC⟩;have hwv:Xw p.nm (fP (XN p.ps)) k v (Qu n o)=QZ q.2:=hQD ZE QK (p:=⟨oD q.1,q.2⟩) (ZM.2 ⟨q,KY,rfl⟩) (λc hc=>hw _ (ZY.1 hc).2) k v;have ht:W3 q.2=true:=by unfold JD at o2;rw[Jv] at o2;exact o2.1
   have jR:KP q.2=(Xw p.nm (fP (XN p.ps)) k v (Qu n o)).map (·++ [10]):=by rw[hwv,pX (jn ht)]
   rw[jR] at jC ⊢;exact⟨A,c,rfl,J6.trans Xh,jC⟩
  ·have d1:gZ x.nd x.r q.1.nd q.1.r=false:=d1;refine Qj ((i+1:Nat):Int) (by show((i:Nat):Int)+1=_;omega) (by omega) ?_;refine⟨i+1,rfl,⟨(Qg.trans Ja).trans Qz,QN,λq' hq' hall=>?_⟩,by show p.pn-(i+1)<p.pn-i;omega⟩;rw[KC,hq] at hq';rcases XH.1 hq' with hq' | hq'
   ·exact Xa q' hq' hall
   ·have:q'=q:=by simpa using hq'
    subst this;rw[(GU hk sx (eS o1)).2 hall] at d1;cases d1
 have QN:i=p.pn:=by omega
 rw[QN,Zz (by omega)] at Xa;cases k with
 | zero=>
  obtain⟨q0,Ym,hall⟩:=hQE ZE QK du;obtain⟨q,hq,rfl⟩:=ZM.1 Ym;exact Xd ((Th sx.dep (eS (Vs q hq).1).dep).2 hall) (Xa q hq)
 | succ k=>
 have ML:v<n:=by omega
 refine call (Gd (v:Int) w2 (by omega) (by omega)) ?_;rintro _ w3 ⟨YA,yn,yc,rfl,Qi,H1,_⟩;refine call (BV ⟨YA,yn,yc,[⟨(v:Int),0,1⟩],2⟩ w3) ?_;rintro _ w4 ⟨rfl,Qq⟩;refine new (λw5 Qz Kw QL=>?_);refine QB QL rfl (sc rfl) (λwR hgR _ hBR=>?_);have bQv:Ext w4 wR:=XY Qz QL hgR;have mQA:=(Qi.trans Qq).trans bQv;have bQw:=Qg.trans mQA;have M8:=Qd.trans bQw;obtain⟨y,hy⟩:∃y:DV,y=⟨YA,yn,yc,[⟨(v:Int),0,1⟩],2⟩:=⟨_,rfl⟩
 have sy:Set1 n y.nd y.r (λe=>e v):=by rw[hy];exact GG ML (by omega)
 have ci:SB wR y.A y.n y.c y.nd:=by rw[hy];exact H1.ext (Qq.trans bQv)
 have hBY:Blk wR w4.heap.size 32 y.cells:=by rw[hy];exact hBR
 have hBX:=Qh.ext bQw;have hxR:=hx.ext M8;have hKR:=hK.ext M8;clear hBR QL;refine hQX [11,12] (λt:DV×DV×Nat×Nat=>[.pointer (some ⟨t.2.2.1,0,none⟩),.pointer (some ⟨t.2.2.2,0,none⟩)]) (λt w'=>hQY n wR (λe=>o e&&e v) (λe=>o e && !e v) t w') ?_ ?_
 ·have eR:=Ext.drew wR;have hx:=hxR;have hy:=ci;refine GT Qa (Ext wR) 10 (.quiet 0 (.quiet 1 (.quiet 3 (.quiet 4 (.fork 2 (.fork 5 (.fork 6 (.fork 7 (.fork 8 (.fork 9 .done .skip) .skip) .skip) (.fork 7 (.fork 6 (.fork 8 (.fork 9 .done .skip) .skip) .skip) .skip)) (.fork 6 (.fork 5 (.fork 7 (.fork 8 (.fork 9 .done .skip) .skip) .skip) (.fork 7 (.fork 5 (.fork 8 (.fork 9 .done .skip) .skip) .skip) .skip)) (.fork 7 (.fork 5 (.fork 6 (.fork 8 (.fork 9 .done .skip) .skip) .skip) (.fork 6 (.fork 5 (.fork 8 (.fork 9 .done .skip) .skip) .skip) .skip)) .skip))) (.fork 6 (.fork 2 (.fork 5 (.fork 7 (.fork 8 (.fork 9 .done .skip) .skip) .skip) (.fork 7 (.fork 5 (.fork 8 (.fork 9 .done .skip) .skip) .skip) .skip)) (.fork 7 (.fork 2 (.fork 5 (.fork 8 (.fork 9 .done .skip) .skip) .skip) .skip) .skip)) (.fork 7 (.fork 2 (.fork 5 (.fork 6 (.fork 8 (.fork 9 .done .skip) .skip) .skip) (.fork 6 (.fork 5 (.fork 8 (.fork 9 .done .skip) .skip) .skip) .skip)) (.fork 6 (.fork 2 (.fork 5 (.fork 8 (.fork 9 .done .skip) .skip) .skip) .skip) .skip)) .skip))))))) (by kernel_rfl) (Ext.drew wR) ?_;refine Xr (vs:=x.cells) rfl (λw' Qb j u hj=>by rw[(hBX.ext Qb).cell];exact hj) ?_;refine Xr (vs:=y.cells) rfl (λw' Qb j u hj=>by rw[(hBY.ext Qb).cell];exact hj) ?_;refine Xr (vs:=x.cells) rfl (λw' Qb j u hj=>by rw[(hBX.ext Qb).cell];exact hj) ?_;refine Xr (vs:=y.cells) rfl (λw' Qb j u hj=>by rw[(hBY.ext Qb).cell];exact hj) ?_;refine⟨?_,?_⟩
  ·refine call (nh hk x y wR.drew (hx.ext eR) (hy.ext eR) sx sy) ?_;rintro _ v1 ⟨HA,Hn,Hc,Hnd,Hr,rfl,g1,Hb,Hs,HR⟩;have e1:=eR.trans g1;refine⟨e1,?_⟩;have z1:=g1.size;have y1:=λad ea h0=>SB.lt Hb ad ea h0
   have r1:=λ(ad:Addr) (ea:HA=some ad)=>HR ad.block ⟨ad,ea,rfl⟩
   refine⟨?_,?_⟩
   ·refine call (eT hk x y v1 (hx.ext e1) (hy.ext e1) sx sy) ?_;rintro _ v2 ⟨LA,Ln,Lc,Lnd,Lr,rfl,g2,Lb,Ls,LR⟩;have e2:=e1.trans g2;refine⟨e2,?_⟩;have z2:=g2.size;have y2:=λad ea h0=>SB.lt Lb ad ea h0
    have r2:=λ(ad:Addr) (ea:LA=some ad)=>LR ad.block ⟨ad,ea,rfl⟩
    refine⟨?_,?_⟩
    ·refine new (λv3 g3 z3 B3=>?_);have e3:=e2.trans g3;refine⟨e3,?_⟩;have l3:=e2.size;refine⟨?_,trivial⟩;refine new (λv4 g4 z4 B4=>?_);have e4:=e3.trans g4;refine⟨e4,?_⟩;have l4:=e3.size;refine⟨?_,trivial⟩;refine QB (B3.ext g4) rfl (sc rfl) (λv5 h5 _ B5=>?_);have m5:Mod (·=v2.heap.size) v4 v5:=oQh h5 rfl;have e5:Ext wR v5:=m5.ext e4 (λi hi=>by omega);refine⟨e5,?_⟩;refine⟨?_,trivial⟩;refine QB (B4.mod m5 (by show¬v3.heap.size=v2.heap.size;omega)) rfl (sc rfl) (λv6 h6 _ B6=>?_);have m6:Mod (·=v3.heap.size) v5 v6:=oQh h6 rfl;have e6:Ext wR v6:=m6.ext e5 (λi hi=>by omega);refine⟨e6,?_⟩;exact⟨(⟨HA,Hn,Hc,Hnd,Hr⟩,⟨LA,Ln,Lc,Lnd,Lr⟩,v2.heap.size,v3.heap.size),rfl,⟨e6,(B5.mod m6 (by show¬v2.heap.size=v3.heap.size;omega)),B6,(SB.modo (SB.modo (((Hb.ext g2).ext g3).ext g4) m5 (λad ea h0 hh=>by have q1:=y1 ad ea h0;have q2:=r1 ad ea;omega)) m6 (λad ea h0 hh=>by have q1:=y1 ad ea h0;have q2:=r1 ad ea;omega)),Hs,(SB.modo (SB.modo ((Lb.ext g3).ext g4) m5 (λad ea h0 hh=>by have q1:=y2 ad ea h0;have q2:=r2 ad ea;omega)) m6 (λad ea h0 hh=>by have q1:=y2 ad ea h0;have q2:=r2 ad ea;omega)),Ls⟩⟩
    ·refine⟨?_,trivial⟩;refine new (λv7 g7 z7 B7=>?_);have e7:=e2.trans g7;refine⟨e7,?_⟩;have l7:=e2.size;refine⟨?_,trivial⟩;refine new (λv8 g8 z8 B8=>?_);have e8:=e7.trans g8;refine⟨e8,?_⟩;have l8:=e7.size;refine⟨?_,trivial⟩;refine QB B8 rfl (sc rfl) (λv9 h9 _ B9=>?_);have m9:Mod (·=v7.heap.size) v8 v9:=oQh h9 rfl;have e9:Ext wR v9:=m9.ext e8 (λi hi=>by omega);refine⟨e9,?_⟩;refine⟨?_,trivial⟩;refine QB ((B7.ext g8).mod m9 (by show¬v2.heap.size=v7.heap.size;omega)) rfl (sc rfl) (λv10 XO _ B10=>?_);have C6:Mod (·=v2.heap.size) v9 v10:=oQh XO rfl;have e10:Ext wR v10:=C6.ext e9 (λi hi=>by omega);refine⟨e10,?_⟩;exact⟨(⟨HA,Hn,Hc,Hnd,Hr⟩,⟨LA,Ln,Lc,Lnd,Lr⟩,v7.heap.size,v2.heap.size),rfl,⟨e10,(B9.mod C6 (by show¬v7.heap.size=v2.heap.size;omega)),B10,(SB.modo (SB.modo (((Hb.ext g2).ext g7).ext g8) m9 (λad ea h0 hh=>by have q1:=y1 ad ea h0;have q2:=r1 ad ea;omega)) C6 (λad ea h0 hh=>by have q1:=y1 ad ea h0;have q2:=r1 ad ea;omega)),Hs,(SB.modo (SB.modo ((Lb.ext g7).ext g8) m9 (λad ea h0 hh=>by have q1:=y2 ad ea h0;have q2:=r2 ad ea;omega)) C6 (λad ea h0 hh=>by have q1:=y2 ad ea h0;have q2:=r2 ad ea;omega)),Ls⟩⟩
   ·refine⟨?_,?_⟩
    ·refine new (λx9 xF CG B11=>?_);have uw:=e1.trans xF;refine⟨uw,?_⟩;have l11:=e1.size;refine⟨?_,?_⟩
     ·refine call (eT hk x y x9 (hx.ext uw) (hy.ext uw) sx sy) ?_;rintro _ C7 ⟨LA,Ln,Lc,Lnd,Lr,rfl,C8,Lb,Ls,LR⟩;have I1:=uw.trans C8;refine⟨I1,?_⟩;have z12:=C8.size;have y12:=λad ea h0=>SB.lt Lb ad ea h0
      have r12:=λ(ad:Addr) (ea:LA=some ad)=>LR ad.block ⟨ad,ea,rfl⟩
      refine⟨?_,trivial⟩;refine new (λv13 C9 z13 B13=>?_);have e13:=I1.trans C9;refine⟨e13,?_⟩;have l13:=I1.size;refine⟨?_,trivial⟩;refine QB ((B11.ext C8).ext C9) rfl (sc rfl) (λI4 VL _ B14=>?_);have Da:Mod (·=v1.heap.size) v13 I4:=oQh VL rfl;have ya:Ext wR I4:=Da.ext e13 (λi hi=>by omega);refine⟨ya,?_⟩;refine⟨?_,trivial⟩;refine QB (B13.mod Da (by show¬C7.heap.size=v1.heap.size;omega)) rfl (sc rfl) (λv15 WJ _ B15=>?_);have Db:Mod (·=C7.heap.size) I4 v15:=oQh WJ rfl;have e15:Ext wR v15:=Db.ext ya (λi hi=>by omega);refine⟨e15,?_⟩;exact⟨(⟨HA,Hn,Hc,Hnd,Hr⟩,⟨LA,Ln,Lc,Lnd,Lr⟩,v1.heap.size,C7.heap.size),rfl,⟨e15,(B14.mod Db (by show¬v1.heap.size=C7.heap.size;omega)),B15,(SB.modo (SB.modo (((Hb.ext xF).ext C8).ext C9) Da (λad ea h0 hh=>by have q1:=y1 ad ea h0;have q2:=r1 ad ea;omega)) Db (λad ea h0 hh=>by have q1:=y1 ad ea h0;have q2:=r1 ad ea;omega)),Hs,(SB.modo (SB.modo (Lb.ext C9) Da (λad ea h0 hh=>by have q1:=y12 ad ea h0;have q2:=r12 ad ea;omega)) Db (λad ea h0 hh=>by have q1:=y12 ad ea h0;have q2:=r12 ad ea;omega)),Ls⟩⟩
     ·refine⟨?_,trivial⟩;refine new (λv16 I5 z16 B16=>?_);have Dd:=uw.trans I5;refine⟨Dd,?_⟩;have l16:=uw.size;refine⟨?_,trivial⟩;refine call (eT hk x y v16 (hx.ext Dd) (hy.ext Dd) sx sy) ?_;rintro _ v17 ⟨LA,Ln,Lc,Lnd,Lr,rfl,yb,Lb,Ls,LR⟩;have e17:=Dd.trans yb;refine⟨e17,?_⟩;have z17:=yb.size;have y17:=λad ea h0=>SB.lt Lb ad ea h0
      have r17:=λ(ad:Addr) (ea:LA=some ad)=>LR ad.block ⟨ad,ea,rfl⟩
      refine⟨?_,trivial⟩;refine QB ((B11.ext I5).ext yb) rfl (sc rfl) (λI6 aP _ B18=>?_);have De:Mod (·=v1.heap.size) v17 I6:=oQh aP rfl;have e18:Ext wR I6:=De.ext e17 (λi hi=>by omega);refine⟨e18,?_⟩;refine⟨?_,trivial⟩;refine QB ((B16.ext yb).mod De (by show¬x9.heap.size=v1.heap.size;omega)) rfl (sc rfl) (λv19 fy _ B19=>?_);have Df:Mod (·=x9.heap.size) I6 v19:=oQh fy rfl;have e19:Ext wR v19:=Df.ext e18 (λi hi=>by omega);refine⟨e19,?_⟩;exact⟨(⟨HA,Hn,Hc,Hnd,Hr⟩,⟨LA,Ln,Lc,Lnd,Lr⟩,v1.heap.size,x9.heap.size),rfl,⟨e19,(B18.mod Df (by show¬v1.heap.size=x9.heap.size;omega)),B19,(SB.modo (SB.modo (((Hb.ext xF).ext I5).ext yb) De (λad ea h0 hh=>by have q1:=y1 ad ea h0;have q2:=r1 ad ea;omega)) Df (λad ea h0 hh=>by have q1:=y1 ad ea h0;have q2:=r1 ad ea;omega)),Hs,(SB.modo (SB.modo Lb De (λad ea h0 hh=>by have q1:=y17 ad ea h0;have q2:=r17 ad ea;omega)) Df (λad ea h0 hh=>by have q1:=y17 ad ea h0;have q2:=r17 ad ea;omega)),Ls⟩⟩
    ·refine⟨?_,trivial⟩;refine new (λv20 I7 z20 B20=>?_);have ux:=e1.trans I7;refine⟨ux,?_⟩;have l20:=e1.size;refine⟨?_,?_⟩
     ·refine call (eT hk x y v20 (hx.ext ux) (hy.ext ux) sx sy) ?_;rintro _ v21 ⟨LA,Ln,Lc,Lnd,Lr,rfl,Dg,Lb,Ls,LR⟩;have I8:=ux.trans Dg;refine⟨I8,?_⟩;have z21:=Dg.size;have y21:=λad ea h0=>SB.lt Lb ad ea h0
      have r21:=λ(ad:Addr) (ea:LA=some ad)=>LR ad.block ⟨ad,ea,rfl⟩
      refine⟨?_,trivial⟩;refine new (λv22 Dh z22 B22=>?_);have e22:=I8.trans Dh;refine⟨e22,?_⟩;have l22:=I8.size;refine⟨?_,trivial⟩;refine QB B22 rfl (sc rfl) (λI9 nZ _ B23=>?_);have Di:Mod (·=v21.heap.size) v22 I9:=oQh nZ rfl;have e23:Ext wR I9:=Di.ext e22 (λi hi=>by omega);refine⟨e23,?_⟩;refine⟨?_,trivial⟩;refine QB (((B20.ext Dg).ext Dh).mod Di (by show¬v1.heap.size=v21.heap.size;omega)) rfl (sc rfl) (λv24 ib _ B24=>?_);have Dj:Mod (·=v1.heap.size) I9 v24:=oQh ib rfl;have e24:Ext wR v24:=Dj.ext e23 (λi hi=>by omega);refine⟨e24,?_⟩;exact⟨(⟨HA,Hn,Hc,Hnd,Hr⟩,⟨LA,Ln,Lc,Lnd,Lr⟩,v21.heap.size,v1.heap.size),rfl,⟨e24,(B23.mod Dj (by show¬v21.heap.size=v1.heap.size;omega)),B24,(SB.modo (SB.modo (((Hb.ext I7).ext Dg).ext Dh) Di (λad ea h0 hh=>by have q1:=y1 ad ea h0;have q2:=r1 ad ea;omega)) Dj (λad ea h0 hh=>by have q1:=y1 ad ea h0;have q2:=r1 ad ea;omega)),Hs,(SB.modo (SB.modo (Lb.ext Dh) Di (λad ea h0 hh=>by have q1:=y21 ad ea h0;have q2:=r21 ad ea;omega)) Dj (λad ea h0 hh=>by have q1:=y21 ad ea h0;have q2:=r21 ad ea;omega)),Ls⟩⟩
     ·refine⟨?_,trivial⟩;refine new (λv25 La z25 B25=>?_);have Dk:=ux.trans La;refine⟨Dk,?_⟩;have l25:=ux.size;refine⟨?_,trivial⟩;refine call (eT hk x y v25 (hx.ext Dk) (hy.ext Dk) sx sy) ?_;rintro _ v26 ⟨LA,Ln,Lc,Lnd,Lr,rfl,yd,Lb,Ls,LR⟩;have e26:=Dk.trans yd;refine⟨e26,?_⟩;have z26:=yd.size;have y26:=λad ea h0=>SB.lt Lb ad ea h0
      have r26:=λ(ad:Addr) (ea:LA=some ad)=>LR ad.block ⟨ad,ea,rfl⟩
      refine⟨?_,trivial⟩;refine QB (B25.ext yd) rfl (sc rfl) (λLd h27 _ B27=>?_);have Dl:Mod (·=v20.heap.size) v26 Ld:=oQh h27 rfl;have e27:Ext wR Ld:=Dl.ext e26 (λi hi=>by omega);refine⟨e27,?_⟩;refine⟨?_,trivial⟩;refine QB (((B20.ext La).ext yd).mod Dl (by show¬v1.heap.size=v20.heap.size;omega)) rfl (sc rfl) (λv28 h28 _ B28=>?_);have Dm:Mod (·=v1.heap.size) Ld v28:=oQh h28 rfl;have e28:Ext wR v28:=Dm.ext e27 (λi hi=>by omega);refine⟨e28,?_⟩;exact⟨(⟨HA,Hn,Hc,Hnd,Hr⟩,⟨LA,Ln,Lc,Lnd,Lr⟩,v20.heap.size,v1.heap.size),rfl,⟨e28,(B27.mod Dm (by show¬v20.heap.size=v1.heap.size;omega)),B28,(SB.modo (SB.modo (((Hb.ext I7).ext La).ext yd) Dl (λad ea h0 hh=>by have q1:=y1 ad ea h0;have q2:=r1 ad ea;omega)) Dm (λad ea h0 hh=>by have q1:=y1 ad ea h0;have q2:=r1 ad ea;omega)),Hs,(SB.modo (SB.modo Lb Dl (λad ea h0 hh=>by have q1:=y26 ad ea h0;have q2:=r26 ad ea;omega)) Dm (λad ea h0 hh=>by have q1:=y26 ad ea h0;have q2:=r26 ad ea;omega)),Ls⟩⟩
  ·refine⟨?_,?_⟩
   ·refine new (λye g29 z29 B29=>?_);have uy:=eR.trans g29;refine⟨uy,?_⟩;have l29:=eR.size;refine⟨?_,?_⟩
    ·refine call (nh hk x y ye (hx.ext uy) (hy.ext uy) sx sy) ?_;rintro _ yf ⟨HA,Hn,Hc,Hnd,Hr,rfl,Dn,Hb,Hs,HR⟩;have uz:=uy.trans Dn;refine⟨uz,?_⟩;have z30:=Dn.size;have Do:=λad ea h0=>SB.lt Hb ad ea h0
     have Dp:=λ(ad:Addr) (ea:HA=some ad)=>HR ad.block ⟨ad,ea,rfl⟩
     refine⟨?_,?_⟩
     ·refine call (eT hk x y yf (hx.ext uz) (hy.ext uz) sx sy) ?_;rintro _ v31 ⟨LA,Ln,Lc,Lnd,Lr,rfl,Dq,Lb,Ls,LR⟩;have Le:=uz.trans Dq;refine⟨Le,?_⟩;have z31:=Dq.size;have y31:=λad ea h0=>SB.lt Lb ad ea h0
      have r31:=λ(ad:Addr) (ea:LA=some ad)=>LR ad.block ⟨ad,ea,rfl⟩
      refine⟨?_,trivial⟩;refine new (λv32 Dr z32 B32=>?_);have e32:=Le.trans Dr;refine⟨e32,?_⟩;have l32:=Le.size;refine⟨?_,trivial⟩;refine QB (((B29.ext Dn).ext Dq).ext Dr) rfl (sc rfl) (λLf h33 _ B33=>?_);have Ds:Mod (·=wR.drew.heap.size) v32 Lf:=oQh h33 rfl;have e33:Ext wR Lf:=Ds.ext e32 (λi hi=>by omega);refine⟨e33,?_⟩;refine⟨?_,trivial⟩;refine QB (B32.mod Ds (by show¬v31.heap.size=wR.drew.heap.size;omega)) rfl (sc rfl) (λv34 h34 _ B34=>?_);have Dt:Mod (·=v31.heap.size) Lf v34:=oQh h34 rfl;have e34:Ext wR v34:=Dt.ext e33 (λi hi=>by omega);refine⟨e34,?_⟩;exact⟨(⟨HA,Hn,Hc,Hnd,Hr⟩,⟨LA,Ln,Lc,Lnd,Lr⟩,wR.drew.heap.size,v31.heap.size),rfl,⟨e34,(B33.mod Dt (by show¬wR.drew.heap.size=v31.heap.size;omega)),B34,(SB.modo (SB.modo ((Hb.ext Dq).ext Dr) Ds (λad ea h0 hh=>by have q1:=Do ad ea h0;have q2:=Dp ad ea;omega)) Dt (λad ea h0 hh=>by have q1:=Do ad ea h0;have q2:=Dp ad ea;omega)),Hs,(SB.modo (SB.modo (Lb.ext Dr) Ds (λad ea h0 hh=>by have q1:=y31 ad ea h0;have q2:=r31 ad ea;omega)) Dt (λad ea h0 hh=>by have q1:=y31 ad ea h0;have q2:=r31 ad ea;omega)),Ls⟩⟩
     ·refine⟨?_,trivial⟩;refine new (λv35 Lg z35 B35=>?_);have Du:=uz.trans Lg;refine⟨Du,?_⟩;have l35:=uz.size;refine⟨?_,trivial⟩;refine call (eT hk x y v35 (hx.ext Du) (hy.ext Du) sx sy) ?_;rintro _ v36 ⟨LA,Ln,Lc,Lnd,Lr,rfl,yg,Lb,Ls,LR⟩;have e36:=Du.trans yg;refine⟨e36,?_⟩;have Lh:=yg.size;have y36:=λad ea h0=>SB.lt Lb ad ea h0
      have r36:=λ(ad:Addr) (ea:LA=some ad)=>LR ad.block ⟨ad,ea,rfl⟩
      refine⟨?_,trivial⟩;refine QB (((B29.ext Dn).ext Lg).ext yg) rfl (sc rfl) (λv37 h37 _ B37=>?_);have Dv:Mod (·=wR.drew.heap.size) v36 v37:=oQh h37 rfl;have e37:Ext wR v37:=Dv.ext e36 (λi hi=>by omega);refine⟨e37,?_⟩;refine⟨?_,trivial⟩;refine QB ((B35.ext yg).mod Dv (by show¬yf.heap.size=wR.drew.heap.size;omega)) rfl (sc rfl) (λv38 h38 _ B38=>?_);have Dw:Mod (·=yf.heap.size) v37 v38:=oQh h38 rfl;have e38:Ext wR v38:=Dw.ext e37 (λi hi=>by omega);refine⟨e38,?_⟩;exact⟨(⟨HA,Hn,Hc,Hnd,Hr⟩,⟨LA,Ln,Lc,Lnd,Lr⟩,wR.drew.heap.size,yf.heap.size),rfl,⟨e38,(B37.mod Dw (by show¬wR.drew.heap.size=yf.heap.size;omega)),B38,(SB.modo (SB.modo ((Hb.ext Lg).ext yg) Dv (λad ea h0 hh=>by have q1:=Do ad ea h0;have q2:=Dp ad ea;omega)) Dw (λad ea h0 hh=>by have q1:=Do ad ea h0;have q2:=Dp ad ea;omega)),Hs,(SB.modo (SB.modo Lb Dv (λad ea h0 hh=>by have q1:=y36 ad ea h0;have q2:=r36 ad ea;omega)) Dw (λad ea h0 hh=>by have q1:=y36 ad ea h0;have q2:=r36 ad ea;omega)),Ls⟩⟩
    ·refine⟨?_,trivial⟩;refine new (λv39 g39 z39 B39=>?_);have Dx:=uy.trans g39;refine⟨Dx,?_⟩;have l39:=uy.size;refine⟨?_,trivial⟩;refine call (nh hk x y v39 (hx.ext Dx) (hy.ext Dx) sx sy) ?_;rintro _ v40 ⟨HA,Hn,Hc,Hnd,Hr,rfl,Dy,Hb,Hs,HR⟩;have Dz:=Dx.trans Dy;refine⟨Dz,?_⟩;have z40:=Dy.size;have y40:=λad ea h0=>SB.lt Hb ad ea h0
     have r40:=λ(ad:Addr) (ea:HA=some ad)=>HR ad.block ⟨ad,ea,rfl⟩
     refine⟨?_,trivial⟩;refine call (eT hk x y v40 (hx.ext Dz) (hy.ext Dz) sx sy) ?_;rintro _ v41 ⟨LA,Ln,Lc,Lnd,Lr,rfl,yh,Lb,Ls,LR⟩;have e41:=Dz.trans yh;refine⟨e41,?_⟩;have z41:=yh.size;have y41:=λad ea h0=>SB.lt Lb ad ea h0
     have r41:=λ(ad:Addr) (ea:LA=some ad)=>LR ad.block ⟨ad,ea,rfl⟩
     refine⟨?_,trivial⟩;refine QB (((B29.ext g39).ext Dy).ext yh) rfl (sc rfl) (λLi h42 _ B42=>?_);have DB:Mod (·=wR.drew.heap.size) v41 Li:=oQh h42 rfl;have e42:Ext wR Li:=DB.ext e41 (λi hi=>by omega);refine⟨e42,?_⟩;refine⟨?_,trivial⟩;refine QB (((B39.ext Dy).ext yh).mod DB (by show¬ye.heap.size=wR.drew.heap.size;omega)) rfl (sc rfl) (λv43 h43 _ B43=>?_);have DC:Mod (·=ye.heap.size) Li v43:=oQh h43 rfl;have e43:Ext wR v43:=DC.ext e42 (λi hi=>by omega);refine⟨e43,?_⟩;exact⟨(⟨HA,Hn,Hc,Hnd,Hr⟩,⟨LA,Ln,Lc,Lnd,Lr⟩,wR.drew.heap.size,ye.heap.size),rfl,⟨e43,(B42.mod DC (by show¬wR.drew.heap.size=ye.heap.size;omega)),B43,(SB.modo (SB.modo (Hb.ext yh) DB (λad ea h0 hh=>by have q1:=y40 ad ea h0;have q2:=r40 ad ea;omega)) DC (λad ea h0 hh=>by have q1:=y40 ad ea h0;have q2:=r40 ad ea;omega)),Hs,(SB.modo (SB.modo Lb DB (λad ea h0 hh=>by have q1:=y41 ad ea h0;have q2:=r41 ad ea;omega)) DC (λad ea h0 hh=>by have q1:=y41 ad ea h0;have q2:=r41 ad ea;omega)),Ls⟩⟩
   ·refine⟨?_,trivial⟩;refine new (λyi g44 z44 B44=>?_);have uA:=eR.trans g44;refine⟨uA,?_⟩;have l44:=eR.size;refine⟨?_,?_⟩
    ·refine call (nh hk x y yi (hx.ext uA) (hy.ext uA) sx sy) ?_;rintro _ yj ⟨HA,Hn,Hc,Hnd,Hr,rfl,DD,Hb,Hs,HR⟩;have uB:=uA.trans DD;refine⟨uB,?_⟩;have z45:=DD.size;have DE:=λad ea h0=>SB.lt Hb ad ea h0
     have DF:=λ(ad:Addr) (ea:HA=some ad)=>HR ad.block ⟨ad,ea,rfl⟩
     refine⟨?_,?_⟩
     ·refine call (eT hk x y yj (hx.ext uB) (hy.ext uB) sx sy) ?_;rintro _ v46 ⟨LA,Ln,Lc,Lnd,Lr,rfl,DG,Lb,Ls,LR⟩;have Lj:=uB.trans DG;refine⟨Lj,?_⟩;have z46:=DG.size;have y46:=λad ea h0=>SB.lt Lb ad ea h0
      have r46:=λ(ad:Addr) (ea:LA=some ad)=>LR ad.block ⟨ad,ea,rfl⟩
      refine⟨?_,trivial⟩;refine new (λv47 DH z47 B47=>?_);have e47:=Lj.trans DH;refine⟨e47,?_⟩;have l47:=Lj.size;refine⟨?_,trivial⟩;refine QB B47 rfl (sc rfl) (λLk h48 _ B48=>?_);have DI:Mod (·=v46.heap.size) v47 Lk:=oQh h48 rfl;have e48:Ext wR Lk:=DI.ext e47 (λi hi=>by omega);refine⟨e48,?_⟩;refine⟨?_,trivial⟩;refine QB ((((B44.ext DD).ext DG).ext DH).mod DI (by show¬wR.drew.heap.size=v46.heap.size;omega)) rfl (sc rfl) (λv49 h49 _ B49=>?_);have DJ:Mod (·=wR.drew.heap.size) Lk v49:=oQh h49 rfl;have e49:Ext wR v49:=DJ.ext e48 (λi hi=>by omega);refine⟨e49,?_⟩;exact⟨(⟨HA,Hn,Hc,Hnd,Hr⟩,⟨LA,Ln,Lc,Lnd,Lr⟩,v46.heap.size,wR.drew.heap.size),rfl,⟨e49,(B48.mod DJ (by show¬v46.heap.size=wR.drew.heap.size;omega)),B49,(SB.modo (SB.modo ((Hb.ext DG).ext DH) DI (λad ea h0 hh=>by have q1:=DE ad ea h0;have q2:=DF ad ea;omega)) DJ (λad ea h0 hh=>by have q1:=DE ad ea h0;have q2:=DF ad ea;omega)),Hs,(SB.modo (SB.modo (Lb.ext DH) DI (λad ea h0 hh=>by have q1:=y46 ad ea h0;have q2:=r46 ad ea;omega)) DJ (λad ea h0 hh=>by have q1:=y46 ad ea h0;have q2:=r46 ad ea;omega)),Ls⟩⟩
     ·refine⟨?_,trivial⟩;refine new (λv50 Ll z50 B50=>?_);have DK:=uB.trans Ll;refine⟨DK,?_⟩;have l50:=uB.size;refine⟨?_,trivial⟩;refine call (eT hk x y v50 (hx.ext DK) (hy.ext DK) sx sy) ?_;rintro _ v51 ⟨LA,Ln,Lc,Lnd,Lr,rfl,yk,Lb,Ls,LR⟩;have e51:=DK.trans yk;refine⟨e51,?_⟩;have z51:=yk.size;have y51:=λad ea h0=>SB.lt Lb ad ea h0
      have r51:=λ(ad:Addr) (ea:LA=some ad)=>LR ad.block ⟨ad,ea,rfl⟩
      refine⟨?_,trivial⟩;refine QB (B50.ext yk) rfl (sc rfl) (λLm h52 _ B52=>?_);have DL:Mod (·=yj.heap.size) v51 Lm:=oQh h52 rfl;have e52:Ext wR Lm:=DL.ext e51 (λi hi=>by omega);refine⟨e52,?_⟩;refine⟨?_,trivial⟩;refine QB ((((B44.ext DD).ext Ll).ext yk).mod DL (by show¬wR.drew.heap.size=yj.heap.size;omega)) rfl (sc rfl) (λv53 h53 _ B53=>?_);have DM:Mod (·=wR.drew.heap.size) Lm v53:=oQh h53 rfl;have e53:Ext wR v53:=DM.ext e52 (λi hi=>by omega);refine⟨e53,?_⟩;exact⟨(⟨HA,Hn,Hc,Hnd,Hr⟩,⟨LA,Ln,Lc,Lnd,Lr⟩,yj.heap.size,wR.drew.heap.size),rfl,⟨e53,(B52.mod DM (by show¬yj.heap.size=wR.drew.heap.size;omega)),B53,(SB.modo (SB.modo ((Hb.ext Ll).ext yk) DL (λad ea h0 hh=>by have q1:=DE ad ea h0;have q2:=DF ad ea;omega)) DM (λad ea h0 hh=>by have q1:=DE ad ea h0;have q2:=DF ad ea;omega)),Hs,(SB.modo (SB.modo Lb DL (λad ea h0 hh=>by have q1:=y51 ad ea h0;have q2:=r51 ad ea;omega)) DM (λad ea h0 hh=>by have q1:=y51 ad ea h0;have q2:=r51 ad ea;omega)),Ls⟩⟩
    ·refine⟨?_,trivial⟩;refine new (λv54 g54 z54 B54=>?_);have DN:=uA.trans g54;refine⟨DN,?_⟩;have l54:=uA.size;refine⟨?_,trivial⟩;refine call (nh hk x y v54 (hx.ext DN) (hy.ext DN) sx sy) ?_;rintro _ v55 ⟨HA,Hn,Hc,Hnd,Hr,rfl,DO,Hb,Hs,HR⟩;have DP:=DN.trans DO;refine⟨DP,?_⟩;have z55:=DO.size;have y55:=λad ea h0=>SB.lt Hb ad ea h0
     have r55:=λ(ad:Addr) (ea:HA=some ad)=>HR ad.block ⟨ad,ea,rfl⟩
     refine⟨?_,trivial⟩;refine call (eT hk x y v55 (hx.ext DP) (hy.ext DP) sx sy) ?_;rintro _ v56 ⟨LA,Ln,Lc,Lnd,Lr,rfl,ym,Lb,Ls,LR⟩;have e56:=DP.trans ym;refine⟨e56,?_⟩;have z56:=ym.size;have y56:=λad ea h0=>SB.lt Lb ad ea h0
     have r56:=λ(ad:Addr) (ea:LA=some ad)=>LR ad.block ⟨ad,ea,rfl⟩
     refine⟨?_,trivial⟩;refine QB ((B54.ext DO).ext ym) rfl (sc rfl) (λLp h57 _ B57=>?_);have DQ:Mod (·=yi.heap.size) v56 Lp:=oQh h57 rfl;have e57:Ext wR Lp:=DQ.ext e56 (λi hi=>by omega);refine⟨e57,?_⟩;refine⟨?_,trivial⟩;refine QB ((((B44.ext g54).ext DO).ext ym).mod DQ (by show¬wR.drew.heap.size=yi.heap.size;omega)) rfl (sc rfl) (λv58 h58 _ B58=>?_);have DR:Mod (·=wR.drew.heap.size) Lp v58:=oQh h58 rfl;have e58:Ext wR v58:=DR.ext e57 (λi hi=>by omega);refine⟨e58,?_⟩;exact⟨(⟨HA,Hn,Hc,Hnd,Hr⟩,⟨LA,Ln,Lc,Lnd,Lr⟩,yi.heap.size,wR.drew.heap.size),rfl,⟨e58,(B57.mod DR (by show¬yi.heap.size=wR.drew.heap.size;omega)),B58,(SB.modo (SB.modo (Hb.ext ym) DQ (λad ea h0 hh=>by have q1:=y55 ad ea h0;have q2:=r55 ad ea;omega)) DR (λad ea h0 hh=>by have q1:=y55 ad ea h0;have q2:=r55 ad ea;omega)),Hs,(SB.modo (SB.modo Lb DQ (λad ea h0 hh=>by have q1:=y56 ad ea h0;have q2:=r56 ad ea;omega)) DR (λad ea h0 hh=>by have q1:=y56 ad ea h0;have q2:=r56 ad ea;omega)),Ls⟩⟩
 rintro⟨xh,xl,b1,b2⟩ w6 ⟨Xh,Qh,Qv,hHb,M9,uV,iU⟩;simp only at Qh Qv hHb M9 uV iU;have XD:=M8.trans Xh;have bW:=hKR.ext Xh;have mh:Qu n (λe=>o e&&e v)=cN (Qu n o) v:=by
  rw[Ti (o:=o) (v:=v) true (λe=>by cases e v<;>rfl)];congr 1;funext c;cases c.testBit v<;>rfl
 have ml:Qu n (λe=>o e && !e v)=eQ (Qu n o) v:=by
  rw[Ti (o:=o) (v:=v) false (λe=>by cases e v<;>rfl)];congr 1;funext c;cases c.testBit v<;>rfl
 have h0:=M9.root0;have l0:=iU.root0;rw[mh] at h0;rw[ml] at l0;have ihh:=λ(hq:cN (Qu n o) v≠ []) (w7:World) (QY:Ext w6 w7)=>ih k (ez k) (v+1) xh (λe=>o e&&e v) w7 (by omega) (bW.ext QY) (hHb.ext QY) M9 (by rw[mh];exact hq) (by rw[mh];exact ZE.sub (λc hc=>(Va.1 hc).1)) (by rw[mh];exact hQF du)
 rw[mh] at ihh;have ihl:=λ(hq:eQ (Qu n o) v≠ []) (w7:World) (QY:Ext w6 w7)=>ih k (ez k) (v+1) xl (λe=>o e && !e v) w7 (by omega) (bW.ext QY) (uV.ext QY) iU (by rw[ml];exact hq) (by rw[ml];exact ZE.sub (λc hc=>(Va.1 hc).1)) (by rw[ml];exact hQG du)
 rw[ml] at ihl;have ll:((v+1:Nat):Int)=(v:Int)+1:=by omega
 refine Qp Qv rfl ?_;refine XU (λc9=>?_) (λc9=>?_)
 ·have iN:=l0.1 c9;have lT:cN (Qu n o) v≠ []:=by rw[GO iN];exact QK
  rw[Tk QK iN];refine QC bW.wbb rfl ?_;refine Qs Qh rfl ?_;refine Qj ((v+1:Nat):Int) (by omega) (by omega) ?_;refine call (ihh lT w6 (Ext.refl _)) ?_;rintro _ w7 ⟨A,c,rfl,QY,KF⟩;exact⟨A,c,rfl,XD.trans QY,KF⟩
 have iN:eQ (Qu n o) v≠ []:=λe=>c9 (l0.2 e)
 refine Qp Qh rfl ?_;refine XU (λvQ=>?_) (λvQ=>?_)
 ·have lT:=h0.1 vQ;rw[Tl QK lT];refine QC bW.wbb rfl ?_;refine Qs Qv rfl ?_;refine Qj ((v+1:Nat):Int) (by omega) (by omega) ?_;refine call (ihl iN w6 (Ext.refl _)) ?_;rintro _ w7 ⟨A,c,rfl,QY,KF⟩;exact⟨A,c,rfl,XD.trans QY,KF⟩
 have lT:cN (Qu n o) v≠ []:=λe=>vQ (h0.2 e)
 rw[Tm QK iN lT];have hb:∀s,s∈Qu n o->(∀r∈QZ (fP (XN p.ps) s),(∀x∈r,x<256)/\r.length<=1000000000)/\(QZ (fP (XN p.ps) s)).length<=1000000:=λs hs=>by
  obtain⟨q0,Ym,nY⟩:=ZE.cov s hs;obtain⟨q,hq,rfl⟩:=ZM.1 Ym;rw[ZE.get hs Ym nY];obtain⟨_,o2,o3,o4⟩:=Vs q hq;have ht:W3 q.2=true:=by unfold JD at o2;rw[Jv] at o2;exact o2.1
  have hu:=aG (jn ht);have MG:=tF (QZ q.2);rw[hu] at MG;refine⟨λr hr=>⟨λx hx=>o3 x (by rw[<-hu];exact eA.2 ⟨r,hr,by simp[hx]⟩),?_⟩,by show(QZ q.2).length<=_;omega⟩;have:r.length<=(Qo (QZ q.2)).length:=by
   have h5:∀(ls:List (List Nat)),r∈ls->r.length<=(Qo ls).length:=λls=>by
    induction ls with
    | nil=>intro h;cases h
    | cons a ls UW=>
     intro h;rw[W0,Qy,Xs];rcases Q0.1 h with rfl | h
     ·omega
     ·have:=UW h;omega
   exact h5 _ hr
  rw[hu] at this;omega
 have hif:∀v ng,(∀x∈JS p.nm v ng,x<256)/\(JS p.nm v ng).length<=1000000000:=λv ng=>by
  unfold JS;cases hg:p.nm[v]? with
  | none=>cases ng<;>exact⟨by simp[ZH],by simp[ZH]⟩
  | some s=>
   have dm:=Q2 hg;have lJ:=(JX s dm).1;have lQ:=Je s dm;refine⟨λx hx=>?_,?_⟩
   ·rcases XH.1 hx with hx | hx
    ·exact(show∀y∈ZH,y<256 by decide) x hx
    ·rcases XH.1 hx with hx | hx
     ·cases ng
      ·cases hx
      ·rw[QF.1 hx];decide
     ·exact lJ x hx
   ·simp only[Qy,iY];cases ng<;>simp[ZH]<;>omega
 have uQ:(Qu n o).length<=16:=by
  have h1:(Qu n o).length<=2^n:=X2 (j6 _ _) (by simp);have h2:2^n<=2^4:=Y6 (by decide) fx;omega
 have bnd:∀S,S≠ []->(∀c∈S,c∈Qu n o)->S.length<=16->We (Xw p.nm (fP (XN p.ps)) k (v+1) S)/\(Xw p.nm (fP (XN p.ps)) k (v+1) S).length<=100000000:=λS hS hSm rZ=>by
  obtain⟨a1,a2⟩:=kW (nm:=p.nm) (f:=fP (XN p.ps)) (P:=λr=>(∀x∈r,x<256)/\r.length<=1000000000) (M:=1000000) hif (by decide) (by decide) k (v+1) S hS (λc hc=>hb c (hSm c hc));have:=Y4 (1000000+3) rZ;exact⟨a1,by omega⟩
 obtain⟨yo,bh2⟩:=bnd _ lT (λc hc=>(Va.1 hc).1) (X2 (j6 _ _) uQ);obtain⟨yp,bl2⟩:=bnd _ iN (λc hc=>(Va.1 hc).1) (X2 (j6 _ _) uQ);generalize hWH:Xw p.nm (fP (XN p.ps)) k (v+1) (cN (Qu n o) v)=WH at*;generalize hWL:Xw p.nm (fP (XN p.ps)) k (v+1) (eQ (Qu n o) v)=WL at*;refine Xy Qa (Ext w6) 12 [(true,0),(true,1),(true,2),(true,3),(true,5),(true,6),(true,7),(true,8),(false,4),(false,9),(true,10),(true,11)] (by kernel_rfl) (Ext.drew w6) ?_;refine QJ (v:=p.clo) (λw' Qb=>by rw[(bW.wbb.ext Qb).cell0];rfl) ?_;refine Xr (vs:=xh.cells) rfl (λw' Qb j u hj=>by rw[(Qh.ext Qb).cell];exact hj) ?_;refine Qj ((v+1:Nat):Int) (by omega) (by omega) ?_;refine QJ (v:=p.clo) (λw' Qb=>by rw[(bW.wbb.ext Qb).cell0];rfl) ?_;refine Xr (vs:=xl.cells) rfl (λw' Qb j u hj=>by rw[(Qv.ext Qb).cell];exact hj) ?_;refine Qj ((v+1:Nat):Int) (by omega) (by omega) ?_;have hd:=Ext.drew w6;refine call (ihh lT w6.drew hd) ?_;rintro _ w7 ⟨HA,hc,rfl,QY,KF⟩;refine⟨hd.trans QY,?_⟩;refine call (ihl iN w7 (hd.trans QY)) ?_;rintro _ w8 ⟨LA,lc,rfl,Q7,bq⟩;refine⟨(hd.trans QY).trans Q7,?_⟩;have Wq:=(hd.trans QY).trans Q7;refine call (hQU HA LA _ hc _ lc WH WL w8 (KF.ext Q7).1 bq.1 yo yp) ?_;rintro _ w9 ⟨rfl,Xo⟩;have fw:=Wq.trans Xo;by_cases heq:WH=WL
 ·rw[Qf heq];refine Zd heq ?_;exact⟨HA,hc,rfl,XD.trans fw,(KF.ext Q7).ext Xo⟩
 ·rw[if_neg heq];refine Xx heq ?_;have lQe:v<p.nn:=by have:=hK.nms.len;rw[YO] at this;omega
  refine QC (bW.ext fw).nbb rfl ?_;obtain⟨s,hs⟩:∃s,p.nm[v]? =some s:=⟨_,Xb (by omega)⟩
  refine ZF (bW.ext fw).nms lQe (λad u hA hu QR=>?_);rw[cz hs] at hu;cases hu;refine load QR ?_;have es:Vx p.nm v=s:=by unfold Vx;rw[hs]<;>rfl
  rw[<-es];refine call (hQQ p.nm v WH WL HA LA _ hc _ lc w9 ((KF.ext Q7).ext Xo).1 (bq.ext Xo).1 yo yp (by rw[es];have:=Je s (Q2 hs);omega) (by rw[ZW];exact bh2) (by rw[ZW];exact bl2)) ?_;rintro _ QE ⟨JA,jc,rfl,X7,qF⟩;exact⟨JA,jc,rfl,(XD.trans fw).trans X7,qF⟩
theorem Tv (NA:Option Addr)(nn nc:Nat)(nm:List (List Nat))(x:DV)(o:BF)(PA:Option Addr)(pn pc:Nat)(ps:List (DV×List Nat))(n:Nat)(fx:n<=4)(iB:nm.length=n)(JX:Jy nm)(Je:∀s∈nm,s.length<=1000000)(Vs:∀q∈ps,JT n q.1.nd q.1.r=true/\JD q.2=true/\(∀b∈q.2,b<256)/\q.2.length<=1000000)(w:World)
  (hN:Sl w 1 NA nn nc (Q9 nm)) (hx:SB w x.A x.n x.c x.nd) (sx:Set1 n x.nd x.r o) (hP:SlS Zt 3 w PA pn pc ps) (o7:∀q∈ps,SB w q.1.A q.1.n q.1.c q.1.nd) (QK:Qu n o≠ []) (ZE:PaOk (Qu n o) (XN ps)):
  Fn Tryz.prog 65 [.slice NA nn nc,Xg x.A x.n x.c x.r,.slice PA pn pc] w (λu w'=>jm w u ((Xw nm (fP (XN ps)) n 0 (Qu n o)).map (·++ [10])) w'):=by
 refine Qx (c:={c65 with cuts:=[]}) Qa Tryz.func65 rfl rfl rfl ?_;refine new (λw1 Qd Q3 Qh=>?_);refine new (λw2 Qg X0 Qv=>?_);refine new (λw3 Qi JF Qw=>?_);refine new (λw4 Qq K5 Q6=>?_);have K6:=Qi.trans Qq;have Ja:=Qg.trans K6;have XI:=Qd.trans Ja;refine KM Q6 (by decide) (λw5 Z9 QL=>?_);have aO:Ext w3 w5:=Z9.ext Qq (λi hi=>by omega)
 let p:WP:=⟨w2.heap.size,w3.heap.size,w.heap.size,PA,pn,pc,NA,nn,nc,nm,ps⟩
 have J6:Ext w w5:=((Qd.trans Qg).trans Qi).trans aO;have hK:WK w5 p:=⟨Qw.ext aO,QL,Qh.ext ((Qg.trans Qi).trans aO),hP.ext J6,λq hq=>(o7 q hq).ext J6,hN.ext J6⟩
 refine QC hK.wbb rfl ?_;refine Qs (Qv.ext (Qi.trans aO)) rfl ?_;refine call (hQZ p n fx iB JX Je Vs n 0 x o w5 (by omega) hK (hx.ext J6) sx QK ZE hQC) ?_;rintro _ w6 ⟨A,c,rfl,Xh,jC⟩;exact⟨A,c,rfl,J6.trans Xh,jC⟩
theorem Tw:∀(xs:List (List UInt8)),([]:List UInt8).intercalate xs=xs.flatten
 | []=>rfl
 | [x]=>by simp[List.intercalate]
 | x::y::l=>by
  have ih:=Tw (y::l);simp only[List.intercalate,List.intersperse_cons₂,NL,dw] at ih ⊢;rw[ih]
theorem hQ1 (ls:List (List Nat)):Lib.join ((ls.map (λs=>Qe (s++ [10]))).map (·.data.toList)) []=(Qo ls).map UInt8.ofNat:=by
 unfold Lib.join;rw[Tw];induction ls with
 | nil=>rfl
 | cons s ls ih=>
  rw[WA,WA,NL,ih,W0,wG];simp
theorem hQ2 (A:Option Addr)(n c:Nat)(ls:List (List Nat))(w:World)(h:Sn w A n c (Zs ls))(Q5:∀ad,A=some ad->0<n->ad.block<w.heap.size)(hn:n<=1000000000)(Xf:(Qo ls).length<=1000000000):
  Fn Tryz.prog 102 [.slice A n c,.string ⟨#[]⟩] w (λu w'=>u= .string (Qe (Qo ls))/\Ext w w'):=by
 have hl:=YG h.1;by_cases h0:n=0
 ·subst h0;have:ls=[]:=Ys hl;subst this;refine Qx (c:={cQG with cuts:=[]}) Qa Tryz.func102 rfl rfl rfl ?_;refine JN rfl ?_;exact⟨rfl,Ext.refl _⟩
 ·obtain⟨g,o,rfl⟩:=h.2 (by omega);obtain⟨ad,e,hc⟩:=h.1.at_ (by omega);cases e;have hx:(ls.map (λs=>Qe (s++ [10]))).length=n:=by rw[ZW,hl]
  have hj:=hQ1 ls;have ze:=Tryz.strings_Join g o c (ls.map (λs=>Qe (s++ [10]))) ⟨#[]⟩ w (λj x hj=>by
   rw[Vi] at hj;cases hs:ls[j]? with
   | none=>rw[hs] at hj;cases hj
   | some s=>
    rw[hs] at hj;cases hj;have:=hc j _ (Wd hs);have e3:(⟨g,o,none⟩:Addr).add j=⟨g,o+j,none⟩:=by
     unfold Addr.add;by_cases nz:j=0
     ·subst nz;simp
     ·simp[nz]
    rw[e3] at this;exact this) (Q5 _ rfl (by omega)) (by omega) (by rw[hx];exact h.1.le) (by
   have:(⟨#[]⟩:ByteArray).data.toList=[]:=rfl;rw[this,hj,ZW];omega)
  have e0:(⟨#[]⟩:ByteArray).data.toList=[]:=rfl;rw[e0,hj,hx] at ze;unfold Fn;refine ze.mono λe w' he=>?_
  obtain⟨rfl,hb⟩:=he;exact⟨rfl,oQm hb⟩
theorem Tx (ls:List (List Nat))(s:List Nat):(Qo (ls++ [s])).length=(Qo ls).length+(s.length+1):=by simp[Qo]
theorem hQ5 (A:Option Addr)(n c:Nat)(ls:List (List Nat))(w:World)(h:Sn w A n c (Zs ls))(Xf:(Qo ls).length<=1048576):
  Fn Tryz.prog 50 [.slice A n c] w (λu w'=>u= .string (Qe (Qo ls))/\Ext w w'):=by
 have hl:=YG h.1;have jN:=tF ls;refine Qx (c:={OV with cuts:=[]}) Qa Tryz.func50 rfl rfl rfl ?_;refine loop Qa [8,3] (λi:Nat=>[.int .i64 i,.int .i64 (Qo (ls.take i)).length]) (λi w'=>w=w'/\i<=n) (λi _=>n-i) 0 rfl ⟨rfl,Xt _⟩ ?_;rintro i _ ⟨rfl,hi⟩;refine Qt (λc1=>?_) (λc1=>?_)
 ·have QN:i<n:=by omega
  obtain⟨s,hs⟩:∃s,ls[i]? =some s:=⟨_,Xb (by omega)⟩
  have Wx:ls.take (i+1)=ls.take i++ [s]:=by rw[KC,hs]<;>rfl
  have hu:=Tx (ls.take i) s;rw[<-Wx] at hu;have ZO:(Qo (ls.take (i+1))).length<=(Qo ls).length:=by
   have e5:Qo ls=Qo (ls.take (i+1))++Qo (ls.drop (i+1)):=by
    have e6:∀a b:List (List Nat),Qo (a++b)=Qo a++Qo b:=λa b=>by simp[Qo]
    rw[<-e6,mj]
   rw[e5,Qy];omega
  refine ZF h.1 QN (λad u hA fM QR=>?_);rw[Wd hs] at fM;cases fM;refine load QR ?_;have XG:=XC (s++ [10]);rw[Qy,mA] at XG;refine Qj (((Qo (ls.take (i+1))).length:Nat):Int) (by rw[hu];omega) (by omega) ?_;refine Xx (by omega) ?_;refine Qj ((i+1:Nat):Int) (by show((i:Nat):Int)+1=_;omega) (by omega) ?_;exact⟨i+1,rfl,⟨rfl,QN⟩,by show n-(i+1)<n-i;omega⟩
 ·refine call (hQ2 A n c ls w h (λad e h0=>?_) (by omega) (by omega)) ?_
  ·obtain⟨ad',e',hc⟩:=h.1.at_ h0;rw[e] at e';cases e';obtain⟨s,hs⟩:∃s,ls[0]? =some s:=⟨_,Xb (by omega)⟩
   have:=hc 0 _ (Wd hs);have h6:=World.block_lt_of_cell? w _ this;rw[pH] at h6;exact h6
  rintro _ w1 ⟨rfl,Qd⟩;exact⟨rfl,Qd⟩
theorem BX (l p:List Nat)(w:World)(hl:∀x∈l,x<256)(hp:∀x∈p,x<256):
  Fn Tryz.prog 79 [.string (Qe l),.string (Qe p)] w (λv w'=>v= .bool (p.isPrefixOf l)/\w=w'):=by
 refine Qx (c:=c79) Qa Tryz.func79 rfl rfl rfl ?_;refine Qt (λh1=>?_) (λh1=>?_)
 ·rw[XC,XC] at h1;refine need ⟨by omega,by omega,by rw[XC,XC];omega⟩ ?_;refine⟨?_,rfl⟩;rw[vR];congr 1;refine mB.2 ?_;simp only[fT,Int.toNat_zero];rw[Vc,vk,XC];exact⟨λh=>⟨by omega,Z6 (B8.take hl _) hp h⟩,λh=>by rw[h.2]⟩
 ·rw[XC,XC] at h1;exact⟨by rw[vR,XS (λh=>h1 (by omega))],rfl⟩
theorem hQ7 (l:List Nat)(w:World)(hl:∀x∈l,x<256):
  Fn Tryz.prog 32 [.string (Qe l)] w (λv w'=>v= .bool (YF l)/\w=w'):=by
 refine Qx (c:={c32 with cuts:=[]}) Qa Tryz.func32 rfl rfl rfl ?_;refine call (BX l ZH w hl (by decide)) ?_;rintro _ _ ⟨rfl,rfl⟩;cases e1:ZH.isPrefixOf l with
 | true=>
  refine Xe rfl ?_;exact⟨by unfold YF;rw[e1];rfl,rfl⟩
 | false=>
 refine Xv rfl ?_;refine call (BX l pElif w hl (by decide)) ?_;rintro _ _ ⟨rfl,rfl⟩;cases e2:pElif.isPrefixOf l with
 | true=>
  refine Xe rfl ?_;exact⟨by unfold YF;rw[e1,e2];rfl,rfl⟩
 | false=>
 refine Xv rfl ?_;refine call (BX l pInc w hl (by decide)) ?_;rintro _ _ ⟨rfl,rfl⟩;cases e3:pInc.isPrefixOf l with
 | true=>
  refine Xe rfl ?_;exact⟨by unfold YF;rw[e1,e2,e3];rfl,rfl⟩
 | false=>
 refine Xv rfl ?_;have q1:(Qe l=Qe (Vl++ [10]))↔l=Vl++ [10]:=⟨λhh=>Z6 hl (by decide) hh,λhh=>by rw[hh]⟩
 have q2:(Qe l=Qe (Zq++ [10]))↔l=Zq++ [10]:=⟨λhh=>Z6 hl (by decide) hh,λhh=>by rw[hh]⟩
 have e:YF l=(decide (l=Vl++ [10])||decide (l=Zq++ [10])):=by unfold YF;rw[e1,e2,e3]<;>rfl
 by_cases c1:l=Vl++ [10]
 ·refine Zd (q1.2 c1) ?_;exact⟨by rw[e,XT c1];rfl,rfl⟩
 ·refine Xx (λhh=>c1 (q1.1 hh)) ?_;refine⟨?_,rfl⟩;rw[e,XS c1,Bool.false_or];by_cases c2:l=Zq++ [10]
  ·rw[XT c2];exact QO Value.bool (XT (q2.2 c2))
  ·rw[XS c2];exact QO Value.bool (XS (λhh=>c2 (q2.1 hh)))
theorem iQa {r:List Nat}{k:Nat}(h1:10∉r.take k)(h2:r[k]? =some 10):(W6 r).length=k/\10∈r:=by
 refine⟨?_,Q2 h2⟩;unfold W6;induction r generalizing k with
 | nil=>simp at h2
 | cons b r ih=>
  cases k with
  | zero=>
   have:b=10:=by simpa using h2
   subst this;simp
  | succ k=>
   simp only[vi,Q0,not_or] at h1;have hb:(b !=10)=true:=by simpa using λe:b=10=>h1.1 e.symm
   rw[WW,Qf hb,Xs,ih h1.2 (by simpa using h2)]
theorem Ty (l:List Nat)(w:World)(hl:∀x∈l,x<256)(Xf:l.length<=1000000000):
  Fn Tryz.prog 19 [.string (Qe l)] w (λu w'=>∃A c,u= .slice A (KP l).length c/\Ext w w'/\Own w' w.heap.size 9 1 A (KP l).length c (Q9 (KP l))):=by
 have XG:=XC l;refine Qx (c:={OT with cuts:=[]}) Qa Tryz.func19 rfl rfl rfl ?_;refine Xm Qa [] rfl rfl rfl rfl rfl ⟨⟩ rfl (λcs h=>by cases h) rfl (by decide) (by decide) ?_;intro w1 Qd Q3 Qh;refine loop Qa [5,4,3] (λs:Nat×Nat×List (List Nat)×Option Addr×Nat=>[.int .i64 s.1,.int .i64 s.2.1,.slice s.2.2.2.1 s.2.2.1.length s.2.2.2.2]) (λs w'=>Ext w w'/\s.1<=l.length/\s.2.1<=s.1/\s.2.2.1.length<=s.1/\Zi l=s.2.2.1++Zi (l.drop s.2.1)/\10∉(l.drop s.2.1).take (s.1-s.2.1)/\Own w' w.heap.size 9 1 s.2.2.2.1 s.2.2.1.length s.2.2.2.2 (Q9 s.2.2.1)) (λs _=>l.length-s.1) (0,0,[],some ⟨w.heap.size,0,none⟩,0) rfl ⟨Qd,Xt _,QD _,QD _,rfl,by simp,Own.empty Qh (QD _)⟩ ?_;rintro⟨i,f,ds,O,oc⟩ w2 ⟨Qg,hi,hf,YI,KB,Xa,hO⟩;simp only at hi hf YI KB Xa hO;have X0:=Qg.size;have ap1:∀(s:List Nat) (wb:World) (Na:Ext w2 wb) (hBb:Blk wb w2.heap.size 9 [.string (Qe s)]),Sl wb 1 (some ⟨w2.heap.size,0,none⟩) 1 1 (Q9 [s]):=λs wb Na hBb=>Sl.own' (n:=1) hBb rfl (by decide)
 refine Qt (λc1=>?_) (λc1=>?_)
 ·have o8:i<l.length:=by rw[XG] at c1;simp only at c1;omega
  obtain⟨y,hy⟩:∃y,l[i]? =some y:=⟨_,Xb o8⟩
  refine az (by rw[XG];exact o8) (λz hz _=>?_);rw[Wa hl,hy] at hz;cases hz;refine XU (λc2=>?_) (λc2=>?_)
  ·have lQf:y=10:=by omega
   subst lQf;have hk:(l.drop f)[i-f]? =some 10:=by rw[zX,show f+(i-f)=i by omega];exact hy
   obtain⟨h1,h2⟩:=iQa Xa hk;refine Qj ((i+1:Nat):Int) (by show((i:Nat):Int)+1=_;omega) (by omega) ?_;refine Jz (v':=.string (Qe ((l.drop f).take (i-f+1)))) ⟨by show(0:Int)<=(f:Int);omega,by show(f:Int)<=((i+1:Nat):Int);omega,by rw[XG];omega⟩ (by
    rw[Vc];show Value.string (Qe ((l.take (i+1)).drop f))=_;rw[gL,show i+1-f=i-f+1 by omega]) ?_
   refine Xm Qa [[Value.string (Qe ((l.drop f).take (i-f+1)))]] rfl rfl rfl rfl rfl ⟨rfl,rfl,⟨⟩⟩ rfl (λcs hh=>by simp only[QF] at hh;subst hh;rfl) rfl (by decide) (by decide) ?_;intro w3 Qi JF Qw;refine Zk (n:=ds.length) Qa rfl rfl rfl rfl rfl (by decide) rfl rfl ⟨_,rfl⟩ rfl rfl (hO.ext Qi) (ap1 _ w3 Qi Qw) (Ku _) (by unfold maxLen;omega) (by show(ds.length+1)*16<=_;omega) (by have:=Qi.size;omega) ?_;intro A' c' w4 X9 qz CQ;refine Qj ((i+1:Nat):Int) (by show((i:Nat):Int)+1=_;omega) (by omega) ?_;refine Qj ((i+1:Nat):Int) (by show((i:Nat):Int)+1=_;omega) (by omega) ?_;refine⟨(i+1,i+1,ds++ [(l.drop f).take (i-f+1)],A',c'),by simp only[Qy];rfl,⟨X9.ext (Qg.trans Qi) (λk hk=>(hO.rows k hk).1),o8,QD _,by simp;omega,?_,by simp,?_⟩,by show l.length-(i+1)<l.length-i;omega⟩
   ·simp only;rw[KB,Gq h2,h1,sj,show f+(i-f+1)=i+1 by omega];simp
   ·simp only;rw[Qy];simpa [Q9] using qz
  ·refine Qj ((i+1:Nat):Int) (by show((i:Nat):Int)+1=_;omega) (by omega) ?_;refine⟨(i+1,f,ds,O,oc),rfl,⟨Qg,o8,by show f<=i+1;omega,by show ds.length<=i+1;omega,KB,?_,hO⟩,by show l.length-(i+1)<l.length-i;omega⟩;simp only;rw[show i+1-f=(i-f)+1 by omega,KC,zX,show f+(i-f)=i by omega,hy];simp only[zR,XH,QF,not_or];exact⟨Xa,λe=>c2 (by omega)⟩
 ·have o8:i=l.length:=by rw[XG] at c1;simp only at c1;omega
  subst o8;rw[Zz (by simp)] at Xa;rw[wJ Xa] at KB;refine Qt (λc2=>?_) (λc2=>?_)
  ·have Kk:f<l.length:=by rw[XG] at c2;simp only at c2;omega
   refine Jz (v':=.string (Qe (l.drop f))) ⟨by show(0:Int)<=(f:Int);omega,by show(f:Int)<=_;rw[XG];omega,by rw[XG];omega⟩ (by
    rw[Vc,XG];show Value.string (Qe ((l.take l.length).drop f))=_;rw[Zz (QD _)]) ?_
   refine Xm Qa [[Value.string (Qe (l.drop f))]] rfl rfl rfl rfl rfl ⟨rfl,rfl,⟨⟩⟩ rfl (λcs hh=>by simp only[QF] at hh;subst hh;rfl) rfl (by decide) (by decide) ?_;intro w3 Qi JF Qw;refine Zk (n:=ds.length) Qa rfl rfl rfl rfl rfl (by decide) rfl rfl ⟨_,rfl⟩ rfl rfl (hO.ext Qi) (ap1 _ w3 Qi Qw) (Ku _) (by unfold maxLen;omega) (by show(ds.length+1)*16<=_;omega) (by have:=Qi.size;omega) ?_;intro A' c' w4 X9 qz CQ;have e:KP l=ds++ [l.drop f]:=by
    unfold KP;rw[KB,if_neg];rw[List.getLast?_concat];intro hh;have:=QO List.length (Option.some.inj hh);simp at this;omega
   refine⟨A',c',by rw[e,Qy];rfl,X9.ext (Qg.trans Qi) (λk hk=>(hO.rows k hk).1),?_⟩;rw[e,Qy];simpa [Q9] using qz
  ·have Kk:l.drop f=[]:=vw (by rw[XG] at c2;simp only at c2;omega);have e:KP l=ds:=by unfold KP;rw[KB,Kk,Qf (by simp)];simp
   exact⟨O,oc,by rw[e],Qg,by rw[e];exact hO⟩
namespace Nt
def val:List Nat->Nat
 | []=>0
 | x::l=>x+4294967296*val l
def Limbs (l:List Nat):Prop:=∀x∈l,x<4294967296
def ni:Nat->Nat->List Nat
 | 0,_=>[]
 | f+1,n=>if n=0 then [] else(n % 4294967296)::ni f (n/4294967296)
def J2 (n:Nat):List Nat:=ni n n
theorem iQb:∀(f g n:Nat),n<=f->n<=g->ni f n=ni g n:=by
 intro f;induction f with
 | zero=>
      intro g n h1 _;have:n=0:=by omega
      subst this;cases g<;>simp[ni]
 | succ f ih=>
  intro g n h1 h2;by_cases h0:n=0
  ·subst h0;cases g<;>simp[ni]
  ·cases g with
   | zero=>omega
   | succ g=>
    simp only[ni,if_neg h0];rw[ih g (n/4294967296) (by omega) (by omega)]
theorem wT:J2 0=[]:=rfl
theorem wU {n:Nat}(h:0<n):J2 n=(n % 4294967296)::J2 (n/4294967296):=by
 unfold J2;cases n with
 | zero=>omega
 | succ n=>
  rw[ni,if_neg (by omega)];rw[iQb n ((n+1)/4294967296) _ (by omega) (QD _)]
theorem BY:Limbs []:=λx h=>by cases h
theorem p9 {x:Nat}{l:List Nat}:Limbs (x::l)↔x<4294967296/\Limbs l:=by
 unfold Limbs;simp
theorem iQc {l m:List Nat}:Limbs (l++m)↔Limbs l/\Limbs m:=by
 unfold Limbs;constructor
 ·exactλh=>⟨λx hx=>h x (by simp[hx]),λx hx=>h x (by simp[hx])⟩
 ·intro h x hx;rcases XH.1 hx with h1 | h1
  ·exact h.1 x h1
  ·exact h.2 x h1
theorem Limbs.get {l:List Nat}(h:Limbs l){j x:Nat}(hx:l[j]? =some x):x<4294967296:=h x (Q2 hx)
theorem Limbs.take {l:List Nat}(h:Limbs l)(n:Nat):Limbs (l.take n):=λx hx=>h x (bF hx)
theorem Tz (l m:List Nat):val (l++m)=val l+4294967296^l.length*val m:=by
 induction l with
 | nil=>simp[val]
 | cons x l ih=>simp only[YK,val,ih,Xs,my];grind
theorem GV (l:List Nat)(x:Nat):val (l++ [x])=val l+4294967296^l.length*x:=by
 rw[Tz];simp[val]
theorem TB {l:List Nat}(h:Limbs l):val l<4294967296^l.length:=by
 induction l with
 | nil=>simp[val]
 | cons x l ih=>
  have h1:=(p9.1 h).1;have h2:=ih (p9.1 h).2;simp only[val,Xs,my];omega
theorem TC {l:List Nat}{i x:Nat}(h:l[i]? =some x):val (l.take (i+1))=val (l.take i)+4294967296^i*x:=by
 have hi:i<l.length:=(Zw.1 h).1;rw[KC,h,zR,GV,KZ,mi (Nat.le_of_lt hi)]
theorem qa (n:Nat):val (J2 n)=n:=by
 induction n using Nat.strongRecOn with
 | _ n ih=>
  by_cases h:n=0
  ·subst h;rfl
  ·rw[wU (by omega),val,ih _ (by omega)];omega
theorem BZ (n:Nat):Limbs (J2 n):=by
 induction n using Nat.strongRecOn with
 | _ n ih=>
  by_cases h:n=0
  ·subst h;exact BY
  ·rw[wU (by omega),p9];exact⟨j5 _ (by omega),ih _ (by omega)⟩
theorem iQd (n:Nat):(J2 n).getLast? ≠some 0:=by
 induction n using Nat.strongRecOn with
 | _ n ih=>
  by_cases h:n=0
  ·subst h;simp[wT]
  ·rw[wU (by omega)];by_cases h1:n/4294967296=0
   ·rw[h1,wT];simp;omega
   ·have:=ih (n/4294967296) (by omega);cases hl:J2 (n/4294967296)with
    | nil=>have:=qa (n/4294967296);rw[hl] at this;simp[val] at this;omega
    | cons y m=>rw[hl] at this;rw[pq];exact this
theorem iQe {l:List Nat}(h:Limbs l)(hz:l.getLast? ≠some 0):J2 (val l)=l:=by
 induction l with
 | nil=>rfl
 | cons x l ih=>
  obtain⟨hx,hl⟩:=p9.1 h;have YZ:l.getLast? ≠some 0:=by
   cases l with
   | nil=>simp
   | cons y m=>rwa [pq] at hz
  have ih':=ih hl YZ;have Y1:0<x+4294967296*val l:=by
   rcases Nat.eq_zero_or_pos x with h0 | h0
   ·subst h0;cases l with
    | nil=>simp at hz
    | cons y m=>
     rcases Nat.eq_zero_or_pos (val (y::m))with h1 | h1
     ·rw[h1,wT] at ih';cases ih'
     ·omega
   ·omega
  rw[val,wU Y1];have e1:(x+4294967296*val l) % 4294967296=x:=by omega
  have e2:(x+4294967296*val l)/4294967296=val l:=by omega
  rw[e1,e2,ih']
theorem GW (n k:Nat):(J2 n).length<=k↔n<4294967296^k:=by
 constructor
 ·intro h;have:=TB (BZ n);rw[qa] at this;exact YL this (Y6 (by omega) h)
 ·intro h;induction k generalizing n with
  | zero=>simp at h;subst h;simp[wT]
  | succ k ih=>
   by_cases h0:n=0
   ·subst h0;simp[wT]
   ·rw[wU (by omega),Xs];have:n/4294967296<4294967296^k:=by
     rw[my] at h;exact Nat.div_lt_of_lt_mul (by omega)
    have:=ih _ this;omega
def Vd (l:List Nat):Prop:=l.length<=1024/\l.getLast? ≠some 0
instance (l:List Nat):Decidable (Vd l):=by unfold Vd;infer_instance
theorem tO {n:Nat}(h:n<4294967296^1024):Vd (J2 n):=⟨(GW n 1024).2 h,iQd n⟩
def dM (n:Nat):List Nat:=if(J2 n).length<=1024 then J2 n else []
def resE (n:Nat):Int:=if(J2 n).length<=1024 then 0 else 2
theorem iQf {l:List Nat}{n:Nat}(h:∀x∈l.drop n,x=0):val (l.take n)=val l:=by
 have h1:val l=val (l.take n++l.drop n):=by rw[mj]
 rw[h1,Tz];have:∀m:List Nat,(∀x∈m,x=0)->val m=0:=by
  intro m;induction m with
  | nil=>intro _;rfl
  | cons x m ih=>intro h;rw[val,h x (by simp),ih (λy hy=>h y (by simp[hy]))]
 rw[this _ h];simp
theorem iQg {l:List Nat}(hl:Limbs l){n:Nat}(h:∀x∈l.drop n,x=0)(hn:n=0∨∃x,l[n-1]? =some x/\x≠0):l.take n=J2 (val l):=by
 rw[<-iQf h,iQe (hl.take n)];rcases hn with rfl | ⟨x,hx,h0⟩
 ·simp
 ·have Q5:n-1<l.length:=(Zw.1 hx).1;rcases Nat.eq_zero_or_pos n with rfl | hp
  ·simp
  ·rw[pm,KZ,mi (by omega),EI,Qf (by omega),hx];simpa using h0
theorem iQh {l:List Nat}(h:Limbs l)(i:Nat):val (l.take i)<4294967296^i:=
 YL (TB (h.take i)) (Y6 (by omega) (by rw[KZ];omega))
theorem mQU (l:List Nat)(i:Nat):val (l.drop i)=l[i]?.getD 0+4294967296*val (l.drop (i+1)):=by
 rcases Nat.lt_or_ge i l.length with h | h
 ·rw[bG h,val];simp[h]
 ·rw[pj h,pj (by omega)];simp[val,h]
theorem TD (l:List Nat)(i:Nat):val (l.take (i+1))=val (l.take i)+4294967296^i*l[i]?.getD 0:=by
 rcases Nat.lt_or_ge i l.length with h | h
 ·rw[TC (Xb h)];simp[h]
 ·rw[Zz h,Zz (by omega)];simp[h]
theorem iQi {l:List Nat}(h:Limbs l)(i:Nat):l[i]?.getD 0<4294967296:=by
 cases hi:l[i]? with
 | none=>simp
 | some x=>simpa using h.get hi
theorem iQj {p:List Nat}{i c:Nat}{a b:List Nat}(hp:p.length=i)(h:val p+c*4294967296^i=val (a.take i)+val (b.take i)){s:Nat}(hs:s=c+a[i]?.getD 0+b[i]?.getD 0):
  val (p++ [s % 4294967296])+s/4294967296*4294967296^(i+1)=val (a.take (i+1))+val (b.take (i+1)):=by
 rw[GV,hp,TD,TD,my];have hd:s % 4294967296+4294967296*(s/4294967296)=s:=Nat.mod_add_div s 4294967296;generalize 4294967296^i=P at*;generalize s % 4294967296=r at*;generalize s/4294967296=q at*
 grind
theorem TE {p:List Nat}(hp:Limbs p)(s:Nat):Limbs (p++ [s % 4294967296]):=iQc.2 ⟨hp,p9.2 ⟨j5 _ (by omega),BY⟩⟩
theorem iQk {α:Type}(p:List α)(x y:α)(r:List α):(p++x::r).set p.length y=p++y::r:=by
 induction p with
 | nil=>rfl
 | cons z p ih=>simp[ih]
theorem TF {α:Type}(p:List α)(x y:α)(r:List α){i:Nat}(hi:p.length=i):(p++x::r).set i y=(p++ [y])++r:=by
 subst hi;rw[iQk];simp
theorem iQl {α:Type}(p:List α)(x:α)(r:List α){i:Nat}(hi:p.length=i):(p++x::r)[i]? =some x:=by
 subst hi;simp
end Nt
namespace Nt
def cells (l:List Nat):List Value:=l.map λ(x:Nat)=>.int .u32 x
theorem B0 {l:List Nat}{j:Nat}{u:Value}(h:(cells l)[j]? =some u):∃x,l[j]? =some x/\u= .int .u32 (x:Int):=by
 simp only[cells,Vi,EM] at h;obtain⟨x,hx,rfl⟩:=h;exact⟨x,hx,rfl⟩
theorem iQm {l:List Nat}{j x:Nat}(h:l[j]? =some x):(cells l)[j]? =some (.int .u32 (x:Int)):=by
 simp[cells,h]
theorem iQn (l m:List Nat):cells (l++m)=cells l++cells m:=by simp[cells]
theorem iQo (l:List Nat)(n:Nat):cells (l.take n)=(cells l).take n:=by simp[cells]
theorem TG (l:List Nat)(i x:Nat):cells (l.set i x)=(cells l).set i (.int .u32 (x:Int)):=by simp[cells,List.map_set]
theorem iQp (l:List Nat):∀u∈cells l,Jw u=true:=by
 intro u hu;simp only[cells,ZM] at hu;obtain⟨x,_,rfl⟩:=hu;rfl
abbrev SN (w:World)(A:Option Addr)(n c:Nat)(l:List Nat):Prop:=Sl w 1 A n c (cells l)
theorem SN.length {w:World}{A:Option Addr}{n c:Nat}{l:List Nat}(h:SN w A n c l):l.length=n:=by have:=h.len;simpa [cells] using this
theorem SN.bd {w:World}{A:Option Addr}{n c:Nat}{l:List Nat}(h:SN w A n c l):n<=c/\(c:Int)<=9223372036854775807:=by
 have h1:=h.le;have h2:=h.cap;unfold maxLen at h2;omega
theorem iQq (l:List Nat):decide (Vd l)=(decide (l.length<=1024)&&(decide (l.length=0)||(l.getLast? !=some 0))):=by
 unfold Vd;cases l with
 | nil=>simp
 | cons x l=>rw[jZ];simp
theorem GX (A:Option Addr)(n c:Nat)(l:List Nat)(w:World)(h:SN w A n c l):
  Fn Tryz.prog 139 [.slice A n c] w (λv w'=>v= .bool (decide (Vd l))/\w'=w):=by
 have hl:=h.length;have hb:=h.bd;refine Qx (c:=cQ8) Qa Tryz.func139 rfl rfl rfl ?_;rw[iQq];refine Qt (λh1=>?_) (λh1=>?_)
 ·refine XU (λh2=>?_) (λh2=>?_)
  ·refine And.intro ?_ rfl;have:l=[]:=Ys (by omega);subst this;simp
  ·refine Qj ((n-1:Nat):Int) (by omega) (by omega) ?_;refine ZF h (by omega) (λad u hA hu QR=>?_);obtain⟨x,hx,rfl⟩:=B0 hu;refine load QR ?_;refine And.intro ?_ rfl;have iL:l.getLast? =some x:=by rw[pm];rw[hl];exact hx
   congr 1;rw[iL,XT (by omega:l.length<=1024),XS (by omega:¬l.length=0)];show((x:Int) !=0)=_;rw[jZ];simp
 ·refine And.intro ?_ rfl;rw[XS (by omega:¬l.length<=1024)]<;>rfl
theorem iQr {l:List Nat}{k:Nat}(hk:0<k)(h:∀x∈l.drop k,x=0)(h0:l[k-1]? =some 0):∀x∈l.drop (k-1),x=0:=by
 have Q5:k-1<l.length:=(Zw.1 h0).1;rw[bG Q5];intro x hx;rcases Q0.1 hx with rfl | hx
 ·simpa [Xb Q5] using h0
 ·rw[show k-1+1=k by omega] at hx;exact h x hx
theorem iQs (A:Option Addr)(n c:Nat)(l:List Nat)(w:World)(h:SN w A n c l)(hL:Limbs l):
  Fn Tryz.prog 195 [.slice A n c] w (λv w'=>∃A' c',v= .tuple #[.slice A' (dM (val l)).length c',.int .i64 (resE (val l))]/\SN w A' (dM (val l)).length c' (dM (val l))/\(A'=A∨A'=none)/\w'=w):=by
 have hl:=h.length;have hb:=h.bd;refine Qx (c:=dQL) Qa Tryz.func195 rfl rfl rfl ?_;refine loop Qa [4] (λk:Nat=>[.int .i64 k]) (λk w'=>w'=w/\k<=n/\∀x∈l.drop k,x=0) (λk _=>k) n rfl ⟨rfl,QD n,by rw[<-hl];simp⟩ ?_;intro k w' hI;obtain⟨rfl,Xp,hz⟩:=hI;have done:(k=0∨∃x,l[k-1]? =some x/\x≠0)->∃A' c',(if k<=1024 then Value.tuple #[.slice A k c,.int .i64 0] else .tuple #[.slice none 0 0,.int .i64 2])= .tuple #[.slice A' (dM (val l)).length c',.int .i64 (resE (val l))]/\SN w' A' (dM (val l)).length c' (dM (val l))/\(A'=A∨A'=none)/\w'=w':=by
  intro iL;have hs:=iQg hL hz iL;have Xf:(J2 (val l)).length=k:=by rw[<-hs,KZ];omega
  unfold dM resE;rw[Xf];split
  ·refine⟨A,c,by rw[Xf],?_,.inl rfl,rfl⟩;rw[Xf];have:=h.take Xp
   rwa [WV,<-iQo,hs] at this
  ·exact⟨none,0,rfl,Sl.nil w' 1,.inr rfl,rfl⟩
 refine Qt (λh1=>?_) (λh1=>?_)
 ·refine Qj ((k-1:Nat):Int) (by omega) (by omega) ?_;refine ZF h (by omega) (λad u hA hu QR=>?_);obtain⟨x,hx,rfl⟩:=B0 hu;refine load QR ?_;refine XU (λh2=>?_) (λh2=>?_)
  ·refine Qj ((k-1:Nat):Int) (by omega) (by omega) ?_;refine⟨k-1,rfl,⟨rfl,by omega,?_⟩,by show k-1<k;omega⟩;have:x=0:=by omega
   subst this;exact iQr (by omega) hz hx
  ·have hd:=done (.inr ⟨x,hx,by omega⟩);refine Qt (λh3=>?_) (λh3=>?_)
   ·rw[if_neg (by omega)] at hd;exact hd
   ·refine ct Qa rfl rfl rfl rfl rfl rfl (by omega) ?_;rw[Qf (by omega)] at hd;exact hd
 ·have hd:=done (.inl (by omega));refine Qt (λh3=>?_) (λh3=>?_)
  ·omega
  ·refine ct Qa rfl rfl rfl rfl rfl rfl (by omega) ?_;rw[Qf (by omega)] at hd;exact hd
theorem TH (A:Option Addr)(n c:Nat)(l:List Nat)(w:World)(h:SN w A n c l)(hL:Limbs l):
  Fn Tryz.prog 195 [.slice A n c] w (λv w'=>∃A' c',v= .tuple #[.slice A' (dM (val l)).length c',.int .i64 (resE (val l))]/\SN w A' (dM (val l)).length c' (dM (val l))/\w'=w):=
 (iQs A n c l w h hL).mono λ_ _ ⟨A',c',h1,h2,_,h4⟩=>⟨A',c',h1,h2,h4⟩
end Nt
namespace Nt
theorem GY {n:Nat}(h:(J2 n).length<=1024):dM n=J2 n:=Qf h
theorem iQt {n:Nat}(h:(J2 n).length<=1024):resE n=0:=Qf h
theorem iQu (N:Nat)(h:N<18446744073709551616):val [N % 4294967296,N/4294967296 % 4294967296]=N:=by
 simp[val];omega
theorem of_fn (N:Nat)(w:World)(hN:N<18446744073709551616):
  Fn Tryz.prog 135 [.int .u64 N] w (λv w'=>∃A c,v= .slice A (J2 N).length c/\SN w' A (J2 N).length c (J2 N)/\Ext w w'):=by
 refine Qx (c:=cQ4) Qa Tryz.func135 rfl rfl rfl ?_;refine Az ?_;refine vJ 32 4294967296 (by decide) rfl rfl ?_;refine Az ?_;refine sG Qa rfl rfl rfl rfl rfl rfl rfl rfl rfl rfl ?_;intro w1 hE XG hB;have hs:SN w1 (some ⟨w.heap.size,0,none⟩) 2 2 [N % 4294967296,N/4294967296 % 4294967296]:=Sl.own' hB rfl (by simp[maxLen]);have hL:Limbs [N % 4294967296,N/4294967296 % 4294967296]:=p9.2 ⟨j5 _ (by omega),p9.2 ⟨j5 _ (by omega),BY⟩⟩;refine call (TH _ _ _ _ _ hs hL) ?_;rintro v w' ⟨A',c',rfl,uW,rfl⟩;rw[iQu N hN] at uW ⊢;have hr:dM N=J2 N:=GY (by have:=(GW N 2).2 (by omega);omega);rw[hr] at uW ⊢;exact⟨A',c',rfl,uW,hE⟩
end Nt
namespace Nt
def GZ (a b:List Nat)(n:Nat):List Nat:=if Vd a/\Vd b then dM n else []
def G0 (a b:List Nat)(n:Nat):Int:=if Vd a/\Vd b then resE n else 1
theorem TI {a b:List Nat}{n:Nat}(h:¬(Vd a/\Vd b)):GZ a b n=[]:=if_neg h
theorem TJ {a b:List Nat}{n:Nat}(h:¬(Vd a/\Vd b)):G0 a b n=1:=if_neg h
theorem G3 {a b:List Nat}{n:Nat}(ha:Vd a)(hb:Vd b):GZ a b n=dM n:=Qf ⟨ha,hb⟩
theorem TK {a b:List Nat}{n:Nat}(ha:Vd a)(hb:Vd b):G0 a b n=resE n:=Qf ⟨ha,hb⟩
def TL (w:World)(l:List Nat)(e:Int)(v:Value)(w':World):Prop:=
 ∃A c,v= .tuple #[.slice A l.length c,.int .i64 e]/\SN w' A l.length c l/\Ext w w'
theorem TM (w w':World)(e:Int)(h:Ext w w'):TL w [] e (.tuple #[.slice none 0 0,.int .i64 e]) w':=⟨none,0,rfl,Sl.nil _ 1,h⟩
theorem add_fn (A B:Option Addr)(n c m d:Nat)(a b:List Nat)(w:World)(ha:SN w A n c a)(hb:SN w B m d b)(Nb:Limbs a)(uV:Limbs b):
  Fn Tryz.prog 138 [.slice A n c,.slice B m d] w (TL w (GZ a b (val a+val b)) (G0 a b (val a+val b))):=by
 refine Qx (c:={cQ7 with cuts:=[3,12]}) Qa Tryz.func138 rfl rfl rfl ?_;refine call (GX _ _ _ _ _ ha) ?_;rintro v w' ⟨rfl,rfl⟩;refine cr (Qt (λjW=>?_) (λjW=>?_))
 case refine_2=>rw[TI (λh=>jW h.1),TJ (λh=>jW h.1)];exact TM _ _ _ (Ext.refl _)
 refine call (GX _ _ _ _ _ hb) ?_;rintro v w' ⟨rfl,rfl⟩;refine cr (Qt (λgH=>?_) (λgH=>?_))
 case refine_2=>rw[TI (λh=>gH h.2),TJ (λh=>gH h.2)];exact TM _ _ _ (Ext.refl _)
 rw[G3 jW gH,TK jW gH];refine OB Qa [0,1] (λs:(Option Addr×Nat×Nat×List Nat)×(Option Addr×Nat×Nat×List Nat)=>[.slice s.1.1 s.1.2.1 s.1.2.2.1,.slice s.2.1 s.2.2.1 s.2.2.2.1])
  (λs w2=>w2=w'/\SN w' s.1.1 s.1.2.1 s.1.2.2.1 s.1.2.2.2/\SN w' s.2.1 s.2.2.1 s.2.2.2.1 s.2.2.2.2/\Limbs s.1.2.2.2/\Limbs s.2.2.2.2/\s.2.2.1<=s.1.2.1/\s.1.2.1<=1024/\val a+val b=val s.1.2.2.2+val s.2.2.2.2) ?_ ?_
 ·have hla:=ha.length;have uS:=hb.length;have h1:=jW.1;have h2:=gH.1;refine Qt (λh=>?_) (λh=>?_)
  ·exact⟨((B,m,d,b),(A,n,c,a)),rfl,rfl,hb,ha,uV,Nb,by show n<=m;omega,by show m<=1024;omega,zL _ _⟩
  ·exact⟨((A,n,c,a),(B,m,d,b)),rfl,rfl,ha,hb,Nb,uV,by show m<=n;omega,by show n<=1024;omega,rfl⟩
 rintro⟨⟨A,n,c,x⟩,⟨B,m,d,y⟩⟩ w2 ⟨rfl,hx,hy,o9,Nc,Ef,hn,hval⟩
 dsimp only at hx hy o9 Nc Ef hn hval ⊢
 rw[hval];clear hval jW gH ha hb Nb uV;have hlx:=hx.length;have hly:=hy.length;refine Qj ((n+1:Nat):Int) (by omega) (by omega) ?_;refine AB Qa rfl rfl rfl rfl rfl rfl rfl rfl (by show 4*_<=_;omega) (by unfold maxLen;omega) ?_;intro w3 Qi nQn Qw;refine cQr Qa rfl rfl rfl rfl rfl rfl rfl Qw (hx.ext Qi) (by omega) (by simp) (iQp x) ?_;intro w4 lQg nQo Q6;have Qq:Ext w2 w4:=Qi.own lQg (QD _);have HZ:Blk w4 w2.heap.size 219 (cells (x++ [0])):=by
  have e:cells x++(List.replicate (n+1) (Value.int .u32 0)).drop n=cells (x++ [0]):=by
   rw[iQn,List.drop_replicate,show n+1-n=1 by omega]<;>rfl
  rw[<-e];exact Q6
 refine loop Qa [33,7] (λs:Nat×Nat=>[.int .i64 s.1,.int .u64 s.2]) (λs w5=>Ext w2 w5/\s.1<=n/\s.2<2/\∃p,p.length=s.1/\Limbs p/\Blk w5 w2.heap.size 219 (cells (p++(x.drop s.1++ [0])))/\val p+s.2*4294967296^s.1=val (x.take s.1)+val (y.take s.1))
  (λs _=>n-s.1) (0,0) rfl ⟨Qq,Xt _,by decide,[],rfl,BY,by simpa using HZ,by simp[val]⟩ ?_
 rintro⟨i,k⟩ w5 ⟨Qz,hi,hk,p,hp,hLp,QL,hv⟩
 dsimp only at hi hk hp QL hv ⊢
 refine Qt (λh2=>?_) (λh2=>?_)
 ·have Ey:x[i]? =some x[i]:=Xb (by omega);have MW:x.drop i=x[i]::x.drop (i+1):=bG (by omega);have oP:=o9.get Ey;rw[MW,YK] at QL;refine index (by omega) ?_;refine Qp QL (iQm (iQl p _ _ hp)) ?_;refine Ax (by omega) ?_;refine gP ((k+x[i]:Nat):Int) (by omega) (by omega) ?_;refine OB Qa [7] (λs:Nat=>[.int .u64 s]) (λs w6=>w6=w5/\s=k+x[i]?.getD 0+y[i]?.getD 0) ?_ ?_
  ·refine Qt (λh3=>?_) (λh3=>?_)
   ·refine ZF (hy.ext Qz) (by omega) (λad u hA hu QR=>?_);obtain⟨z,hz,rfl⟩:=B0 hu;have uT:=Nc.get hz;refine load QR ?_;refine Ax (by omega) ?_;refine gP ((k+x[i]+z:Nat):Int) (by omega) (by omega) ?_;exact⟨k+x[i]+z,rfl,rfl,by rw[hz,Ey];rfl⟩
   ·exact⟨k+x[i],rfl,rfl,by rw[Ey,mo (by omega)];rfl⟩
  rintro s w6 ⟨rfl,hs⟩;have hyl:=iQi Nc i;have rF:s<2*4294967296:=by rw[Ey,iY] at hs;omega
  refine Az ?_;refine index (by omega) ?_;refine sE QL (by simp[cells];omega) ?_;intro w7 Lq Q4;refine vJ 32 4294967296 (by decide) rfl rfl ?_;refine Qj ((i+1:Nat):Int) (by omega) (by omega) ?_;refine⟨(i+1,s/4294967296),rfl,⟨Qz.own Lq (QD _),by show i+1<=n;omega,by show s/4294967296<2;omega,p++ [s % 4294967296],by simp[hp],TE hLp s,?_,iQj hp hv hs⟩,by show n-(i+1)<n-i;omega⟩;rw[<-TG,TF _ _ _ _ hp] at Q4;exact Q4
 ·have:i=n:=by omega
  subst this;rw[pj (by omega),dw] at QL;rw[Zz (by omega),Zz (by omega)] at hv;refine Az ?_;refine index (by omega) ?_;refine sE QL (by simp[cells];omega) ?_;intro w7 Lq Q4;rw[<-TG,TF _ _ _ _ hp,Yr] at Q4;have hs:SN w7 (some ⟨w2.heap.size,0,none⟩) (i+1) (i+1) (p++ [k % 4294967296]):=Sl.own' Q4 (by simp[cells,hp]) (by unfold maxLen;omega);refine call (TH _ _ _ _ _ hs (TE hLp k)) ?_;rintro v w8 ⟨A',c',rfl,uW,rfl⟩;have e:val (p++ [k % 4294967296])=val x+val y:=by
   rw[GV,hp,iX (by omega),vp];exact hv
  rw[e] at uW ⊢;exact⟨A',c',rfl,uW,Qz.own Lq (QD _)⟩
end Nt
namespace Nt
def kY (l:List Nat):Bool:=decide (Vd l)&&decide (l.length<=2)
def tP (l:List Nat):Nat:=if kY l=true then val l else 0
theorem TN {l:List Nat}(h:¬(Vd l/\l.length<=2)):tP l=0/\kY l=false:=by
 have hb:kY l=false:=by unfold kY;rw[YM];simpa using h
 exact⟨by unfold tP;rw[hb];rfl,hb⟩
theorem TO {l:List Nat}(h1:Vd l)(h2:l.length<=2):tP l=val l/\kY l=true:=by
 have hb:kY l=true:=by unfold kY;simp[h1,h2]
 exact⟨by unfold tP;rw[hb];rfl,hb⟩
theorem TP {x n d:Nat}{y:Int}{K:Int->Prop}(hy:0<=y)(hn:min y.toNat 64=n)(hd:2^n=d)(hx:x*d<=18446744073709551615)(k:K ((x*d:Nat):Int)):fW (0<=y) (IntKind.u64.wrap ((x:Int)*2^(min y.toNat IntKind.u64.bits))) K:=by
 refine normIf hy ?_ k;rw[show min y.toNat IntKind.u64.bits=n from hn];have e:(x:Int)*2^n=((x*d:Nat):Int):=by rw[<-hd];norm_cast
 rw[e];exact IntWalk.u64_in _ (by omega)
theorem iQv {a x:Nat}(ha:a<4294967296):a ||| (x*4294967296)=a+4294967296*x:=by
 have:=Nat.shiftLeft_add_eq_or_of_lt (b:=a) (i:=32) (by omega) x;rw[Nat.shiftLeft_eq,show(2:Nat)^32=4294967296 from rfl] at this;rw[Nat.or_comm];omega
theorem iQw (A:Option Addr)(n c:Nat)(l:List Nat)(w:World)(h:SN w A n c l)(hL:Limbs l):
  Fn Tryz.prog 88 [.slice A n c] w (λv w'=>v= .tuple #[.int .u64 (tP l),.bool (kY l)]/\w'=w):=by
 have hl:=h.length;refine Qx (c:=c88) Qa Tryz.func88 rfl rfl rfl ?_;refine call (GX _ _ _ _ _ h) ?_;rintro v w' ⟨rfl,rfl⟩;refine cr (Qt (λhv=>?_) (λhv=>?_))
 ·refine Qt (λh2=>?_) (λh2=>?_)
  ·obtain⟨e1,e2⟩:=TN (l:=l) (λk=>by omega);rw[e1,e2];exact And.intro rfl rfl
  ·obtain⟨e1,e2⟩:=TO hv (by omega);rw[e1,e2];refine loop Qa [16,4] (λs:Nat=>[.int .i64 s,.int .u64 (val (l.take s):Nat)]) (λs w2=>w2=w'/\s<=n) (λs _=>n-s) 0 rfl ⟨rfl,Xt _⟩ ?_;rintro k w2 ⟨rfl,hk⟩
   dsimp only
   refine Qt (λh3=>?_) (λh3=>?_)
   ·refine ZF h (by omega) (λad u hA hu QR=>?_);obtain⟨x,hx,rfl⟩:=B0 hu;have oP:=hL.get hx;refine load QR ?_;refine Ax (by omega) ?_;have uX:=TC hx;have Q5:=iQh hL k;rcases(by omega:k=0∨k=1)with rfl | rfl
    ·refine Qj 0 (by omega) (by omega) ?_;refine TP (n:=0) (d:=1) (by decide) (by decide) (by decide) (by omega) ?_;rw[WV];have e0:val (l.take 0)=0:=by simp[val]
     rw[e0];refine OF (s:=x) (Nat.zero_or x) (by omega) (by omega) ?_;refine Qj ((1:Nat):Int) (by omega) (by omega) ?_;have bX:val (l.take 1)=x:=by have h9:=uX;rw[e0] at h9;simpa using h9
     refine⟨1,?_,⟨rfl,by omega⟩,by show n-1<n-0;omega⟩
     dsimp only
     rw[bX]<;>rfl
    ·refine Qj 32 (by omega) (by omega) ?_;refine TP (n:=32) (d:=4294967296) (by decide) (by decide) (by decide) (by omega) ?_;refine OF (iQv (by omega)) (by omega) (by omega) ?_;refine Qj ((2:Nat):Int) (by omega) (by omega) ?_;have lj:val (l.take 2)=val (l.take 1)+4294967296*x:=by have h9:=uX;simpa using h9
     refine⟨2,?_,⟨rfl,by omega⟩,by show n-2<n-1;omega⟩
     dsimp only
     rw[lj]<;>rfl
   ·rw[Zz (by omega)];exact And.intro rfl rfl
 ·obtain⟨e1,e2⟩:=TN (l:=l) (λk=>hv k.1);rw[e1,e2];exact And.intro rfl rfl
theorem u8_of {a:Int}(h:(Lit.int .u8 a).wf=true):∃N:Nat,a=(N:Int)/\N<256:=by
 simp[Lit.wf,IntKind.min,IntKind.max,IntKind.signed,IntKind.bits] at h;exact⟨a.toNat,by omega,by omega⟩
end Nt
def NumIn (w:World)(b:Nat)(v:Value):Prop:=∃A m c N,v= .slice A m c/\Nt.SN w A m c (Nt.J2 N)/\N<=b
theorem NumIn.ext {w w':World}{b:Nat}{v:Value}(h:NumIn w b v)(k:Ext w w'):NumIn w' b v:=by
 obtain⟨A,m,c,N,h1,h2,h3⟩:=h;exact⟨A,m,c,N,h1,h2.ext k,h3⟩
theorem NumIn.mod {w w':World}{b g t:Nat}{v:Value}{cs:List Value}(h:NumIn w b v)(hB:Blk w g t cs)(Zf:∀u∈cs,∃A m c,u= .slice A m c)(hm:Mod (·=g) w w'):NumIn w' b v:=by
 obtain⟨A,m,c,N,h1,h2,h3⟩:=h;refine⟨A,m,c,N,h1,h2.modS hm (λh0 i hi e=>?_),h3⟩;subst e;obtain⟨ad,rfl,hc⟩:=h2.at_ h0;obtain⟨ad',ea',hb⟩:=hi;cases ea';have Xf:=h2.length;obtain⟨x,hx⟩:∃x,(Nt.J2 N)[0]? =some x:=⟨_,Xb (by omega)⟩
 have QR:=hc 0 _ (show(Nt.cells (Nt.J2 N))[0]? =some (.int .u32 x) by unfold Nt.cells;rw[Vi,hx];rfl);unfold World.cell? at QR;rw[pH,hb,show w.heap[i]? =_ from hB] at QR;simp only at QR;split at QR
 ·cases QR
 ·rw[NO] at QR;obtain⟨_,_,_,hs⟩:=Zf _ (Q2 QR);cases hs
def dN (n:Nat)(nd:List Br)(x:Nat):Nat:=min n (Ql nd x).toNat
theorem iQx (x:DV)(n nb ab m:Nat)(w:World)(hN:Blk w nb 3 [.int .i64 n])(hA:Blk w ab 32 x.cells)(hx:SB w x.A x.n x.c x.nd)(hm:m<x.n+2)(h0:0<=Ql x.nd m):
  Fn Tryz.prog 136 [.int .i64 m,.pointer (some ⟨nb,0,none⟩),.pointer (some ⟨ab,0,none⟩)] w (λu w'=>u= .int .i64 (dN n x.nd m)/\Ext w w'):=by
 refine Qx (c:={cQ5 with cuts:=[]}) Qa Tryz.func136 rfl rfl rfl ?_;have hd:=Ext.drew w;refine Xy Qa (Ext w) 6 [(true,0),(true,1),(true,2),(false,3),(true,4),(true,5)] (by kernel_rfl) hd ?_;refine QJ (v:=.int .i64 n) (λw' Qb=>by rw[(hN.ext Qb).cell0];rfl) ?_;refine Xr (vs:=x.cells) rfl (λw' Qb j u hj=>by rw[(hA.ext Qb).cell];exact hj) ?_;refine call (dF x.A x.n x.c x.r m x.nd w.drew (hx.ext hd) (by omega)) ?_;rintro _ w2 ⟨rfl,Qg⟩;refine⟨hd.trans Qg,?_⟩;refine norm (m:=(dN n x.nd m:Int)) (by unfold dN;split<;>omega) ?_;exact⟨rfl,hd.trans Qg⟩
abbrev iQy (nb ab:Nat):Value:=.func (.func 136) #[] #[.pointer (some ⟨nb,0,none⟩),.pointer (some ⟨ab,0,none⟩)]
structure CtK (w:World) (x:DV) (n nb ab cb pb sb:Nat) (cs:List Value):Prop where
 hN:Blk w nb 3 [.int .i64 n]
 hA:Blk w ab 32 x.cells
 hx:SB w x.A x.n x.c x.nd
 hC:Blk w cb 213 [.slice (some ⟨sb,0,none⟩) (x.n+2) (x.n+2)]
 hP:Blk w pb 215 [iQy nb ab]
 hS:Blk w sb 143 cs
 len:cs.length=x.n+2
 sl:∀u∈cs,∃A m c,u= .slice A m c
 nums:∀(j:Nat) (v:Value),cs[j]? =some v->NumIn w (2^(n-dN n x.nd j)) v
theorem CtK.ext {w w':World}{x:DV}{n nb ab cb pb sb:Nat}{cs:List Value}(h:CtK w x n nb ab cb pb sb cs)(k:Ext w w'):CtK w' x n nb ab cb pb sb cs:=
 ⟨h.hN.ext k,h.hA.ext k,h.hx.ext k,h.hC.ext k,h.hP.ext k,h.hS.ext k,h.len,h.sl,λj v hv=>(h.nums j v hv).ext k⟩
theorem TR {A B:Option Addr}{m c k d N M b:Nat}(hb:N+M<=b)(hb2:b<=4096)(w:World)(hA:Nt.SN w A m c (Nt.J2 N))(hB:Nt.SN w B k d (Nt.J2 M)):
  Fn Tryz.prog 138 [.slice A m c,.slice B k d] w (λu w'=>∃v,u= .tuple #[v,.int .i64 0]/\NumIn w' b v/\Ext w w'):=by
 have lim:∀x,x<=4096->x<4294967296^1024:=λx hx=>(show ∀k,0<k->x<4294967296^k from λk p=>YL (show x<4294967296^1 by omega) (Y6 (by decide) p)) 1024 (by decide)
 have vA:=Nt.tO (lim N (by omega));have vB:=Nt.tO (lim M (by omega));refine(Nt.add_fn A B m c k d _ _ w hA hB (Nt.BZ N) (Nt.BZ M)).mono ?_;rintro u w' ⟨A',c',hu,hS,hE⟩;rw[Nt.TK vA vB,Nt.G3 vA vB,Nt.qa,Nt.qa,Nt.iQt (Nt.tO (lim (N+M) (by omega))).1,Nt.GY (Nt.tO (lim (N+M) (by omega))).1] at hu;rw[Nt.G3 vA vB,Nt.qa,Nt.qa,Nt.GY (Nt.tO (lim (N+M) (by omega))).1] at hS;subst hu;exact⟨_,rfl,⟨A',_,c',N+M,rfl,hS,hb⟩,hE⟩
theorem G4 {w:World}{x:DV}{n nb ab cb pb sb:Nat}{cs:List Value}(hn:n<=12)(K:CtK w x n nb ab cb pb sb cs)(m f:Nat)(hm:m<x.n+2)(h0:0<=Ql x.nd m)(hf:f<=dN n x.nd m):
  Fn Tryz.prog 137 [.int .i64 m,.int .i64 f,.pointer (some ⟨cb,0,none⟩),.pointer (some ⟨pb,0,none⟩)] w (λu w'=>∃v,u= .tuple #[v,.int .i64 0]/\NumIn w' (2^(n-f)) v/\Ext w w'):=by
 have uN:dN n x.nd m<=n:=Nat.min_le_left _ _;have hmx:=K.hx.1.cap;have nQ7:=K.hx.1.le;refine Qx (c:={cQ6 with cuts:=[]}) Qa Tryz.func137 rfl rfl rfl ?_;refine QC K.hC rfl ?_;obtain⟨v,hv⟩:∃v,cs[m]? =some v:=⟨_,Xb (by rw[K.len];omega)⟩
 refine index (j:=m) (by omega) ?_;refine Qp K.hS hv ?_;refine QC K.hP rfl ?_;refine call (iQx x n nb ab m w K.hN K.hA K.hx hm h0) ?_;rintro _ w1 ⟨rfl,Qd⟩;generalize hp:dN n x.nd m=p at*;refine Qj ((p-f:Nat):Int) (by omega) (by omega) ?_;have hN0:=(K.nums m v hv).ext Qd;rw[hp] at hN0;refine loop Qa [8,20] (λs:Value×Nat=>[s.1,.int .i64 s.2]) (λs w'=>Ext w w'/\s.2<=p-f/\NumIn w' (2^(n-p)*2^s.2) s.1) (λs _=>p-f-s.2) (v,0) rfl ⟨Qd,Xt _,by simpa using hN0⟩ ?_;rintro⟨u,i⟩ w2 ⟨Qg,hi,A,mm,c,N,rfl,hS,zu⟩;simp only at hi zu;refine Qt (λc1=>?_) (λc1=>?_)
 ·have Nd:i<p-f:=by simp only at c1;omega
  have e2:2^(n-p)*2^(i+1)<=4096:=by
   rw[<-Nat.pow_add];exact X2 (Y6 (by decide) (show n-p+(i+1)<=12 by omega)) (by decide)
  refine call (TR (b:=2^(n-p)*2^(i+1)) (by rw[my,<-Nat.mul_assoc];omega) e2 w2 hS hS) ?_;rintro _ w3 ⟨u,rfl,Nf,Qi⟩;refine Y9 rfl ?_;refine Qj ((i+1:Nat):Int) (by show((i:Nat):Int)+1=_;omega) (by omega) ?_;exact⟨(u,i+1),rfl,⟨Qg.trans Qi,Nd,Nf⟩,by show p-f-(i+1)<p-f-i;omega⟩
 ·have Nd:i=p-f:=by simp only at c1;omega
  refine⟨_,rfl,⟨A,mm,c,N,rfl,hS,?_⟩,Qg⟩;rw[Nd,<-Nat.pow_add,show n-p+(p-f)=n-f by omega] at zu;exact zu
theorem iQz {c:Cx}{o:Oper}{S:Env}{w:World}{K:Env->World->Prop}{Q:Zj}{x y z:Operand}{ts:Array TypeId}{k1 k2 k3:IntKind}(ho:o.op= .call ⟨.builtin .max, #[x,y,z],ts⟩)(hx:S.ev x=some (.int k1 0))(hy:S.ev y=some (.int k2 0))(hz:S.ev z=some (.int k3 0))
  (kk:Xn c S o.dst (.v (.int k1 0)) (λS=>K S w)):Zc c o S w K Q:=by
 refine JJ (w':=w) (v:=.int k1 0) (λa hf=>?_) kk;have e1:=hf.ev hx;have e2:=hf.ev hy;have e3:=hf.ev hz;simp[execOp,ho,resolve,invoke,builtin,e1,e2,e3,Builtin.max_,Builtin.max2]
theorem iQA {n:Nat}{nd:List Br}{x:Nat}(h:(x:Int)<2)(hn:n<=12):dN n nd x=n:=by
 unfold dN Ql;rw[Qf h];show min n 64=n;omega
theorem iQB {n i:Nat}{nd:List Br}{b:Br}(hb:nd[i]? =some b)(h0:0<=b.v)(hv:b.v<n):dN n nd (i+2)=b.v.toNat:=by
 unfold dN Ql;rw[if_neg (by omega),show(((i+2:Nat):Int)-2).toNat=i by omega,hb];simp only[zP,iY];omega
theorem G5 {nd:List Br}{r:Int}(h:VD nd r){x:Int}:0<=Ql nd x:=by
 unfold Ql;split
 ·decide
 ·cases hb:nd[(x-2).toNat]? with
  | none=>simp
  | some b=>simpa using (h.1 _ b hb).1
theorem iQC (x:DV)(n:Nat)(hn:n<=12)(w:World)(hx:SB w x.A x.n x.c x.nd)(Vs:JT n x.nd x.r=true):
  Fn Tryz.prog 87 [Xg x.A x.n x.c x.r,.int .i64 n] w (λu w'=>∃v,u= .tuple #[v,.int .i64 0]/\NumIn w' (2^n) v/\Ext w w'):=by
 obtain⟨et,bQx⟩:=hZ.1 Vs;have uY:=(gf.1 et).2;have hl:=hx.2;have WQ:=hx.1.cap;have ZO:=hx.1.le;have nQp:=(gf.1 et).1;simp only[maxLen] at WQ;refine Qx (c:={c87 with cuts:=[]}) Qa Tryz.func87 rfl rfl rfl ?_;refine new (λw1 Qd Q3 Qh=>?_);refine new (λw2 Qg X0 Qv=>?_);have QT:=Qd.trans Qg;have hA2:=Qh.ext Qg;refine Qs hA2 rfl ?_;refine call (AU x.A x.n x.c x.nd x.r w2 (hx.ext QT)) ?_;rintro _ w3 ⟨rfl,Qi⟩;have QQ:=QT.trans Qi;refine Y9 et ?_;have hA3:=hA2.ext Qi;have gv:=Qv.ext Qi;refine QC gv rfl ?_;refine Xx (by omega) ?_;refine QC gv rfl ?_;refine Xx (by omega) ?_;refine Qp hA3 rfl ?_;refine loop Qa [35] (λi:Nat=>[.int .i64 i]) (λi w'=>Ext w3 w'/\i<=x.n) (λi _=>x.n-i) 0 rfl ⟨Ext.refl _,Xt _⟩ ?_;rintro i w4 ⟨Qq,hi⟩;refine Qt (λc1=>?_) (λc1=>?_)
 ·have QN:i<x.n:=by omega
  refine Zh YR ((hx.ext QQ).ext Qq) rfl QN (λp b hb hc=>?_);refine Kb (vs:=b.cells) rfl hc ?_;refine new (λw5 Qz Kw QL=>?_);refine QB QL rfl (sc rfl) (λw6 Wg _ Xj=>?_);have XF:Ext w4 w6:=XY Qz QL Wg;have Vq:=bQx b (Q2 hb);refine QC Xj rfl ?_;refine QC ((gv.ext Qq).ext XF) rfl ?_;refine Xx (by omega) ?_;refine Qj ((i+1:Nat):Int) (by show((i:Nat):Int)+1=_;omega) (by omega) ?_;exact⟨i+1,rfl,⟨Qq.trans XF,QN⟩,by show x.n-(i+1)<x.n-i;omega⟩
 have XI:=QQ.trans Qq;have hA4:=hA3.ext Qq;have Lt:=gv.ext Qq;refine Qp hA4 rfl ?_;refine Qj ((x.n+2:Nat):Int) (by omega) (by omega) ?_;refine AB Qa rfl rfl rfl rfl rfl rfl rfl rfl (by show 24*(x.n+2)<=_;omega) (by unfold maxLen;omega) (λw5 Qz Kw QL=>?_);refine new (λw6 Xh fa Xj=>?_);refine KM Xj (by decide) (λw7 Xi Q4=>?_);have VE:Ext w5 w7:=Xi.ext Xh (λi hi=>by omega);have WF:=Xi.size;have lQh:=QL.ext VE;have nQq:=VE.size;refine Xy Qa (λw'=>Mod (·=w4.heap.size) w7 w') 4 [(true,0),(false,1),(true,2),(false,3)] (by kernel_rfl) (Mod.of_ext _ (Ext.drew w7)) ?_;have ns:¬w5.heap.size=w4.heap.size:=by omega
 refine QJ (v:=.slice (some ⟨w4.heap.size,0,none⟩) (x.n+2) (x.n+2)) (λw' Qb=>by rw[(Q4.mod Qb ns).cell0];rfl) ?_;refine call (Nt.of_fn 1 w7.drew (by decide)) ?_;rintro _ w8 ⟨A8,c8,rfl,bq,Q7⟩;have Ko:Ext w7 w8:=(Ext.drew w7).trans Q7;refine⟨Mod.of_ext _ Ko,?_⟩;refine index (j:=1) (by omega) ?_;have XB:=lQh.ext Ko;refine XQ XB (by simp) (λw9 X4 Z8=>?_);have Vf:Mod (·=w4.heap.size) w7 w9:=(Mod.of_ext _ Ko).trans X4 (λi hi=>.inl hi);refine⟨Vf,?_⟩;have uv:Ext w4 w9:=Vf.ext (Qz.trans VE) (λi hi=>by omega);have ff:=Vf.size;refine new (λQE X7 nI Jb=>?_);refine KM Jb (by decide) (λQH Zy ZJ=>?_);have gr:Ext w9 QH:=Zy.ext X7 (λi hi=>by omega);have cX:=uv.trans gr;have qC:=Zy.size;have Wm:=XI.trans cX;have lQi:∀u∈(List.replicate (x.n+2) (Value.slice none 0 0)).set 1 (.slice A8 (Nt.J2 1).length c8),∃A m c,u= .slice A m c:=λu hu=>by
  rcases vx hu with hu | rfl
  ·exact⟨none,0,0,ER hu⟩
  ·exact⟨_,_,_,rfl⟩
 have K0:CtK QH x n w1.heap.size w.heap.size w5.heap.size w9.heap.size w4.heap.size ((List.replicate (x.n+2) (Value.slice none 0 0)).set 1 (.slice A8 (Nt.J2 1).length c8)):=by
  refine⟨Lt.ext cX,hA4.ext cX,hx.ext Wm,(Q4.mod Vf ns).ext gr,ZJ,Z8.ext gr,by simp,lQi,λj v hv=>?_⟩;by_cases hj:1=j
  ·subst hj;rw[iZ (by simp)] at hv;cases hv;rw[iQA (by decide) hn,zN];have h1:NumIn w8 (2^0) (.slice A8 (Nt.J2 1).length c8):=⟨A8,_,c8,1,rfl,bq,QD _⟩
   exact(h1.mod XB (λu hu=>⟨none,0,0,ER hu⟩) X4).ext gr
  ·rw[fU hj] at hv;have:=ER (Q2 hv);subst this;exact⟨none,0,0,0,rfl,Sl.nil _ _,Xt _⟩
 generalize (List.replicate (x.n+2) (Value.slice none 0 0)).set 1 (.slice A8 (Nt.J2 1).length c8)=cs0 at*;refine Qp K0.hA rfl ?_;refine loop Qa [57] (λi:Nat=>[.int .i64 i]) (λi w'=>Mod (·=w4.heap.size) QH w'/\i<=x.n/\∃cs,CtK w' x n w1.heap.size w.heap.size w5.heap.size w9.heap.size w4.heap.size cs) (λi _=>x.n-i) 0 rfl ⟨Mod.refl _ _,Xt _,cs0,K0⟩ ?_;rintro i QW ⟨VC,hi,cs,K⟩;have lF:Ext w QW:=VC.ext Wm (λj hj=>by have:=XI.size;omega);refine Qt (λc1=>?_) (λc1=>?_)
 ·have QN:i<x.n:=by omega
  refine Zh YR K.hx rfl QN (λp b hb hc=>?_);obtain⟨k1,k2,k3,k4,k5,k6,k7,k8,k9,k10⟩:=uY.1 i b hb;have Vq:=bQx b (Q2 hb);obtain⟨bv,hbe⟩:=EZ k1;obtain⟨bl,bQy⟩:=EZ k3;obtain⟨bh,bQz⟩:=EZ k5;refine Kb (vs:=b.cells) rfl hc ?_;refine new (λXM Xq up Kh=>?_);refine QB Kh rfl (sc rfl) (λX1 cS _ Jc=>?_);have qZ:Ext QW X1:=XY Xq Kh cS;have K14:=K.ext qZ;refine Qp Jc rfl ?_;refine QC Jc rfl ?_;refine Qj ((bv+1:Nat):Int) (by show b.v+1=_;omega) (by omega) ?_;have Jt:∀y:Int,b.v<Ql x.nd y->∀m:Nat,y=m->bv+1<=dN n x.nd m:=λy hy m hm=>by
   subst hm;unfold dN;omega
  show gN _ _ [.int .i64 b.l,_,_,_] _ _ _;rw[bQy];refine call (G4 hn K14 bl (bv+1) (by omega) (G5 uY) (Jt b.l k9 bl bQy)) ?_;rintro _ JM ⟨ul,rfl,hUl,VF⟩;refine Qp (Jc.ext VF) rfl ?_;refine QC (Jc.ext VF) rfl ?_;refine Qj ((bv+1:Nat):Int) (by show b.v+1=_;omega) (by omega) ?_;show gN _ _ [.int .i64 b.h,_,_,_] _ _ _;rw[bQz];refine call (G4 hn (K14.ext VF) bh (bv+1) (by omega) (G5 uY) (Jt b.h k10 bh bQz)) ?_;rintro _ ag ⟨uh,rfl,⟨Ah,mh,ch,Nh,rfl,hSh,hNh⟩,Yk⟩;obtain⟨Al,ml,cl,Nl,rfl,rZ,hNl⟩:=hUl.ext Yk;have hpw:2^(n-(bv+1))+2^(n-(bv+1))=2^(n-bv):=by
   rw[show n-bv=(n-(bv+1))+1 by omega,my];omega
  refine call (TR (b:=2^(n-bv)) (by omega) (X2 (Y6 (by decide) (show n-bv<=12 by omega)) (by decide)) ag rZ hSh) ?_;rintro _ VH ⟨_,rfl,⟨Au,mu,cu,Nu,rfl,hSu,Nf⟩,um⟩;have hUs:NumIn VH (2^(n-bv)) (.slice Au mu cu):=⟨Au,mu,cu,Nu,rfl,hSu,Nf⟩
  have nR:=(VF.trans Yk).trans um;have K17:=K14.ext nR;refine iQz rfl rfl rfl rfl ?_;refine Y9 rfl ?_;refine QC K17.hC rfl ?_;refine Qj ((i+2:Nat):Int) (by show((i:Nat):Int)+2=_;omega) (by omega) ?_;refine index (j:=i+2) (by omega) ?_;refine XQ (j:=i+2) K17.hS (by rw[K17.len];omega) (λVp xN qI=>?_);refine Qj ((i+1:Nat):Int) (by show((i:Nat):Int)+1=_;omega) (by omega) ?_;have aQJ:=qZ.trans nR;refine⟨i+1,rfl,⟨(VC.trans (Mod.of_ext (·=w4.heap.size) aQJ) (λj hj=>.inl hj)).trans xN (λj hj=>.inl hj),QN,cs.set (i+2) (.slice Au mu cu),?_⟩,by show x.n-(i+1)<x.n-i;omega⟩;have Yg:b.v=bv:=hbe;have ZE:dN n x.nd (i+2)=bv:=by rw[iQB hb k1 Vq];omega
  have K18:Ext QW VH:=aQJ;have r5:Mod (·=w4.heap.size) VH Vp:=xN;have n1:¬w1.heap.size=w4.heap.size:=by have:=Qi.size;have:=Qq.size;omega
  have n0:¬w.heap.size=w4.heap.size:=by have:=Qi.size;have:=Qq.size;omega
  have n9:¬w9.heap.size=w4.heap.size:=by have:=uv.size;omega
  have lQj:=K17.hx;refine⟨K17.hN.mod r5 n1,K17.hA.mod r5 n0,lQj.modo r5 (λad ea h0=>by have:=SB.lt hx ad ea h0;have:=XI.size;omega),K17.hC.mod r5 ns,K17.hP.mod r5 n9,qI,by rw[cj];exact K17.len,λu hu=>?_,λj v hv=>?_⟩
  ·rcases vx hu with hu | rfl
   ·exact K17.sl u hu
   ·exact⟨_,_,_,rfl⟩
  ·by_cases hj:i+2=j
   ·subst hj;rw[iZ (by rw[K17.len];omega)] at hv;cases hv;rw[ZE];exact hUs.mod K17.hS K17.sl r5
   ·rw[fU hj] at hv;exact(K17.nums j v hv).mod K17.hS K17.sl r5
 ·obtain⟨rt,hrt⟩:=EZ uY.2.1;have aM:=uY.2.2.1;refine Qp K.hA rfl ?_;show gN _ _ [.int .i64 x.r,_,_,_] _ _ _;rw[hrt];refine call (G4 hn K rt 0 (by omega) (G5 uY) (Xt _)) ?_;rintro _ XM ⟨u,rfl,hU,Xq⟩;exact⟨u,rfl,hU,lF.trans Xq⟩
def JK:Nat->List (List Nat)->List (Nat×List Nat)
 | _,[]=>[]
 | a,s::ls=>(a,s)::JK (a+s.length+1) ls
theorem TT:∀(a:Nat)(l m:List (List Nat)),JK a (l++m)=JK a l++JK (a+(Qo l).length) m
 | a,[],m=>by simp[JK,Qo]
 | a,s::l,m=>by
  rw[YK,JK,JK,TT (a+s.length+1) l m,YK,W0];congr 3;simp only[Qy,Xs];omega
theorem TU {l:List Nat}(h:YC l)(s:List Nat)(hs:10∉s):QZ (l++(s++ [10]))=QZ l++ [s]:=by
 have h1:=aG h;have h2:l++(s++ [10])=Qo (QZ l++ [s]):=by rw[GK,h1]
 rw[h2,wy (λt ht=>by
  rcases XH.1 ht with ht | ht
  ·exact mT l t ht
  ·rw[QF.1 ht];exact hs)]
def gl (nm:List (List Nat)):List (List Nat)->Nat->BF->List (BF×BF)->List (Nat×List Nat×BF)
 | [],_,_,_=>[]
 | s::ls,a,k,op=>match JC s with
  | .txt=>(a,s,k)::gl nm ls (a+s.length+1) k op
  | .ifd r=>match YT nm r with
   | .ok d=>gl nm ls (a+s.length+1) (JQ k d) ((k,YD k d)::op)
   | .error _=>[]
  | .elif r=>match op with
   | []=>[]
   | x::bC=>match YT nm r with
    | .ok d=>gl nm ls (a+s.length+1) (JQ x.2 d) ((x.1,YD x.2 d)::bC)
    | .error _=>[]
  | .els=>match op with
   | []=>[]
   | x::bC=>gl nm ls (a+s.length+1) x.2 (x::bC)
  | .en=>match op with
   | []=>[]
   | x::bC=>gl nm ls (a+s.length+1) x.1 bC
  | .inc _=>[]
abbrev Ca (tx:List Nat)(s:Sg):List (Nat×List Nat×BF):=(JK s.at_ (QZ (aK tx s))).map (λq=>(q.1,q.2,s.o))
def kZ (g:Gs):List (Nat×List Nat×BF):=g.sg.flatMap (Ca g.tx)
theorem TV {fs:List (List Nat×List Nat)}{tx:List Nat}{s:Sg}(h:SgOk fs tx s):YC (aK tx s)/\(aK tx s).length=s.t-s.f:=by
 have h1:=h.ft;have h2:=h.tl;have hl:(aK tx s).length=s.t-s.f:=by unfold aK;simp;omega
 refine⟨.inr ?_,hl⟩;rw[pm,hl];unfold aK;rw[zX,mt (by omega),show s.f+(s.t-s.f-1)=s.t-1 by omega];exact h.nl
theorem G6 {tx s:List Nat}:∀{l:List Sg},(∀x∈l,x.t<=tx.length)->l.flatMap (Ca (tx++s))=l.flatMap (Ca tx)
 | [],_=>rfl
 | x::l,h=>by rw[au,au,G6 (λy hy=>h y (by simp[hy])),Ca,hQu (h x (by simp))]
theorem iQD {fs:List (List Nat×List Nat)}{n p:Nat}{k:BF}{g g':Gs}{s:List Nat}(h:GInv fs g)(hc:m7 n p k g)(hs:10∉s)(ha:Yb (s++ [10]) n p k g=some g'):kZ g'=kZ g++ [(p,s,k)]:=by
 unfold Yb at ha;split at ha
 ·cases ha
 cases ha;cases hf:g.fr with
 | true=>
  rw[Qf rfl,kO];unfold kZ;simp only;rw[bH,G6 (λx hx=>(h.ok x hx).tl)];congr 1;simp only[au,zZ,Yr];have e:aK (g.tx++(s++ [10])) ⟨g.tx.length,g.tx.length+(s++ [10]).length,n,p,k⟩=[]++(s++ [10]):=by
   unfold aK;simp only;rw[Zz (by simp),zW]<;>rfl
  show(JK p (QZ (aK _ _))).map _=_;rw[e,TU (.inl rfl) s hs]<;>rfl
 | false=>
  rw[if_neg (by decide)];obtain⟨l,y,e,e1,e2,e3⟩:=hc hf;have ZV:=h.ch;have Zm:=h.ok;rw[e] at ZV Zm;rw[ChG.snoc] at ZV;have hy:=Zm y (by simp);rw[e,kO];unfold kZ;simp only;rw[e,bH,bH,G6 (λx hx=>(Zm x (by simp[hx])).tl),K9];congr 1;have h1:=hy.ft;have h2:=ZV.2;have hp:=TV hy;have e4:aK (g.tx++(s++ [10])) {y with t:=g.tx.length+(s++ [10]).length}=aK g.tx y++(s++ [10]):=by
   unfold aK;simp only;rw[Zz (by simp),List.drop_append_of_le_length (by omega),h2,sk]
  simp only[au,zZ,Yr];show(JK y.at_ (QZ (aK _ {y with t:=g.tx.length+(s++ [10]).length}))).map _=_;rw[e4,TU hp.1 s hs,TT,aG hp.1,hp.2,e2,dx];show _=(JK y.at_ (QZ (aK g.tx y))).map (λq=>(q.1,q.2,y.o))++_;rw[e3]<;>rfl
def ChA:List Sg->Nat->Prop
 | [],_=>True
 | s::l,p=>(∀x∈l,s.at_+(s.t-s.f)<=x.at_)/\s.at_+(s.t-s.f)<=p/\ChA l p
theorem ChA.mono {p q:Nat}(h:p<=q):∀{l:List Sg},ChA l p->ChA l q
 | [],_=>trivial
 | _::_,⟨h1,h2,h3⟩=>⟨h1,by omega,h3.mono h⟩
theorem ChA.snoc {x:Sg}{p q:Nat}(hx:p<=x.at_)(hq:x.at_+(x.t-x.f)<=q):∀{l:List Sg},ChA l p->ChA (l++ [x]) q
 | [],_=>⟨(λ_ h=>by cases h),hq,trivial⟩
 | s::l,⟨h1,h2,h3⟩=>⟨λy hy=>by
   rcases XH.1 hy with hy | hy
   ·exact h1 y hy
   ·rw[QF.1 hy];omega,by omega,ChA.snoc hx hq h3⟩
theorem oQw {x y:Sg}{p q:Nat}(hx:y.at_=x.at_)(hq:y.at_+(y.t-y.f)<=q)(iH:p<=q):∀{l:List Sg},ChA (l++ [x]) p->ChA (l++ [y]) q
 | [],_=>⟨(λ_ h=>by cases h),hq,trivial⟩
 | s::l,⟨h1,h2,h3⟩=>⟨λz hz=>by
   rcases XH.1 hz with hz | hz
   ·exact h1 z (by simp[hz])
   ·rw[QF.1 hz,hx];exact h1 x (by simp),by omega,oQw hx hq iH h3⟩
theorem iQE {fs:List (List Nat×List Nat)}{n p:Nat}{k:BF}{g g':Gs}{s:List Nat}(h:GInv fs g)(hc:m7 n p k g)(hp:ChA g.sg p)(ha:Yb (s++ [10]) n p k g=some g'):ChA g'.sg (p+s.length+1):=by
 unfold Yb at ha;split at ha
 ·cases ha
 cases ha;cases hf:g.fr with
 | true=>
  rw[Qf rfl,kO];exact hp.snoc (QD p) (by simp;omega)
 | false=>
  rw[if_neg (by decide)];obtain⟨l,y,e,e1,e2,e3⟩:=hc hf;have ZV:=h.ch;rw[e] at ZV hp;rw[ChG.snoc] at ZV;have hy:=(h.ok y (by rw[e];simp)).ft;rw[e,kO];exact oQw (p:=p) (q:=p+s.length+1) (x:=y) (y:={y with t:=g.tx.length+(s++ [10]).length}) rfl (by simp only[Qy,mA];omega) (by omega) hp
theorem TW {nm:List (List Nat)}{fs:List (List Nat×List Nat)}{n d0:Nat}{inc:pY}{x:List Nat×List Nat}(hx:fs[n]? =some x)
  (hi:∀r ln d k g g',inc r ln d k g≠ .ok g'):∀(ls:List (List Nat)) (ln at_:Nat) (k:BF) (op:List Se) (g g':Gs),gg ls->
  x.2.drop at_=Qo ls->at_<=x.2.length->GInv fs g->m7 n at_ k g->ChA g.sg at_->Z2 nm n d0 inc ls ln at_ k op g= .ok g'->kZ g'=kZ g++gl nm ls at_ k (Tb op)/\ChA g'.sg (at_+(Qo ls).length)
 | [],ln,at_,k,op,g,g',_,_,_,hg,_,ZV,hr=>by
  cases op with
  | nil=>simp only[Z2,Except.ok.injEq] at hr;subst hr;exact⟨by rw[gl,Yr];rfl,ZV⟩
  | cons _ _=>simp[Z2] at hr
 | s::ls,ln,at_,k,op,g,g',hL0,hd,eo,hg,hc,ZV,hr=>by
  have XL:x.2.drop at_=(s++ [10])++Qo ls:=by rw[hd,W0];simp
  have hL:(s++ [10]).length=s.length+1:=by simp
  have Xf:x.2.length-at_=s.length+1+(Qo ls).length:=by
   have:=QO List.length XL;simp only[Y5,Qy,Xs,JI] at this;omega
  have hu:at_+(Qo (s::ls)).length=at_+s.length+1+(Qo ls).length:=by rw[W0];simp;omega
  have YW:x.2.drop (at_+s.length+1)=Qo ls:=by
   rw[show at_+s.length+1=at_+(s++ [10]).length by simp;omega,<-sj,XL,zW]
  have lQk:10∉s:=hL0 s (by simp);have ih:=λk op g g' h1 h2 h3=>TW (nm:=nm) (d0:=d0) hx hi ls (ln+1) (at_+s.length+1) k op g g' (λt ht=>hL0 t (by simp[ht])) YW (by omega) h1 h2 h3
  have cf:∀k' (g:Gs),m7 n (at_+s.length+1) k' {g with fr:=true}:=λk' g h=>by cases h
  have Ez:ChA g.sg (at_+s.length+1):=ZV.mono (by omega);rw[Z2.eq_def] at hr;simp only at hr;rw[hu,gl.eq_def];simp only;cases Za:JC s with
  | txt=>
   rw[Za] at hr;simp only at hr ⊢;cases ha:Yb (s++ [10]) n at_ k g with
   | none=>rw[ha] at hr;cases hr
   | some g1=>
    rw[ha] at hr;simp only at hr;obtain⟨i1,i2⟩:=S4 hg hc hx (by rw[hL,<-pi,YW];exact XL) (by rw[hL];omega) (by simp) ha;obtain⟨j1,j2⟩:=ih k op g1 g' i1 (by rw[hL,<-pi] at i2;exact i2) (iQE hg hc ZV ha) hr;exact⟨by rw[j1,iQD hg hc lQk ha,K9];rfl,j2⟩
  | ifd r=>
   rw[Za] at hr;simp only at hr ⊢;cases hs:YT nm r with
   | error e=>rw[hs] at hr;cases hr
   | ok d=>
    rw[hs] at hr;simp only at hr ⊢;split at hr
    ·cases hr
    ·exact ih _ _ _ _ (hg.fr true) (cf _ _) Ez hr
  | inc r=>
   rw[Za] at hr;simp only at hr;cases hs:inc r (ln+1) (d0+op.length) k g with
   | error e=>rw[hs] at hr;cases hr
   | ok g1=>exact Xd hs (hi _ _ _ _ _ _)
  | elif r=>
   rw[Za] at hr;cases op with
   | nil=>cases hr
   | cons y op=>
    simp only at hr ⊢;split at hr
    ·cases hr
    ·cases hs:YT nm r with
     | error e=>rw[hs] at hr;cases hr
     | ok d=>rw[hs] at hr;exact ih _ _ _ _ (hg.fr true) (cf _ _) Ez hr
  | els=>
   rw[Za] at hr;cases op with
   | nil=>cases hr
   | cons y op=>
    simp only at hr ⊢;split at hr
    ·cases hr
    ·exact ih y.re ({y with ot:=true}::op) {g with fr:=true} g' (hg.fr true) (cf _ _) Ez hr
  | en=>
   rw[Za] at hr;cases op with
   | nil=>cases hr
   | cons y op=>exact ih y.ou op {g with fr:=true} g' (hg.fr true) (cf _ _) Ez hr
def fF (t:List Nat):List (List Nat×List Nat):=[([102],t)]
theorem G7 {rd s:List Nat}{e:Int}(t:List Nat)(h:0∈rd):∀m,dK (JB ((fF t).map (·.1))) rd s≠ .ok m:=λm hm=>by
 obtain⟨h1,tn,zj⟩:=GC hm;have:=kN zj;have h0:m=0:=by simpa [fF] using this
 rw[h0] at h1;exact h1 h
theorem TX {nm:List (List Nat)}{t:List Nat}{g:Gs}(hr:W5 nm (fF t) [102]= .ok g):YC t/\kZ g=gl nm (QZ t) 0 (λ_=>true) []/\ChA g.sg t.length/\GInv (fF t) g:=by
 have mQB:=(hQn hr).1;unfold W5 at hr;split at hr
 ·cases hr
 cases Vh:W4 (fF t)with
 | some p=>rw[Vh] at hr;cases hr
 | none=>
  rw[Vh] at hr;simp only at hr;have hall:∀x∈fF t,pU x.1=true/\W3 x.2=true/\x.2.length<=1048576:=by
   unfold W4 at Vh;rw[if_neg (by simp[fF])] at Vh;exact BG _ [] 0 Vh
  have ht:YC t:=jn (hall _ (QF.2 rfl)).2.1;cases Km:JB ((fF t).map (·.1)) [102] with
  | none=>rw[Km] at hr;cases hr
  | some n=>
   rw[Km] at hr;simp only at hr;have hn:n<(fF t).length:=by have:=kN Km;simpa using this
   have h0:n=0:=by simpa [fF] using hn
   subst h0;have hx:(fF t)[0]? =some ([102],t):=rfl;rw[be,hx] at hr;simp only[zP,iY] at hr;obtain⟨a,b⟩:=TW hx (λr ln d' k' g1 g2 hi=>by
    split at hi
    ·cases hi
    ·rename_i m he;exact G7 t (by simp) (e:=0) _ he) (QZ t) 0 0 (λ_=>true) [] ⟨[],[],true⟩ g (mT t) (by rw[vk,aG ht]) (Xt _) (⟨rfl,λs hs=>by cases hs⟩:GInv (fF t) ⟨[],[],true⟩) (λh=>by cases h) trivial hr
   rw[aG ht,aq] at b;exact⟨ht,a,b,mQB⟩
structure Ed where
 fr:Int
 to_:Int
 tx:List Nat
 o:BF
structure EdV where
 fr:Int
 to_:Int
 tx:List Nat
 x:DV
def EdV.ed (e:EdV):Ed:=⟨e.fr,e.to_,e.tx,oD e.x⟩
def Kc (f:List Nat)(a b:Nat):List Nat:=(f.drop a).take (b-a)
def YU (f:List Nat)(c:Nat)(st:List Nat×Nat)(e:Ed):List Nat×Nat:=
 if e.o (bits c)=true then(st.1++Kc f st.2 e.fr.toNat++e.tx,e.to_.toNat)else st
def bS (f:List Nat)(stop:Nat)(a:Nat)(es:List Ed)(c:Nat):List Nat:=
 (es.foldl (YU f c) ([],a)).1++Kc f (es.foldl (YU f c) ([],a)).2 stop
def qd (a:Nat)(s:List Nat)(e:Ed):Bool:=decide ((a:Int)<=e.fr/\e.to_<=a+s.length)
def aL (S:List Nat)(o:BF):Bool:=S.any (λc=>o (bits c))
def ia (es:List Ed)(S:List Nat)(a:Nat)(s:List Nat):List Ed:=es.filter (λe=>qd a s e&&aL S e.o)
def jq (S:List Nat)(e b:Ed):Bool:= !(decide (b.fr<e.to_)&&aL S (λv=>e.o v&&b.o v))
def eU (S:List Nat):List Ed->Bool
 | []=>true
 | e::es=>es.all (jq S e)&&eU S es
def gm (nm:List (List Nat))(f:List Nat)(es:List Ed)(S:List Nat)(a:Nat)(s:List Nat):Option (List (List Nat)):=
 if ia es S a s=[] then some [s]
 else if eU S (ia es S a s)=false then none
 else if S.all (λc=>JD (bS f (a+s.length+1) a (ia es S a s) c))=false then none
 else some (Xw nm (bS f (a+s.length+1) a (ia es S a s)) nm.length 0 S)
def tQ (g:Gs)(a:Nat):BF:=((g.sg.find? (λs=>decide (a<s.at_+(s.t-s.f)))).map (·.o)).getD (λ_=>false)
def eV (nm:List (List Nat))(d:BF)(g:Gs)(f:List Nat)(es:List Ed):List (List Nat)->Nat->Option (List (List Nat))
 | [],_=>some []
 | s::ls,a=>match (if JC s= .txt then gm nm f es (Qu nm.length (JQ d (tQ g a))) a s else some [s])with
  | none=>none
  | some l=>match eV nm d g f es ls (a+s.length+1)with
   | none=>none
   | some m=>some (l++m)
def jr (e:Ed)(q:Nat×List Nat):Bool:=decide ((q.1:Int)<=e.fr/\e.to_<=q.1+q.2.length/\e.fr<=e.to_/\JC q.2= .txt)
def G8 (n:Nat)(f:List Nat)(e:Ed):Bool:=decide (Qu n e.o≠ [])&&(JK 0 (QZ f)).any (jr e)
def ld (n:Nat)(f:List Nat):Int->List Ed->Bool
 | _,[]=>true
 | p,e::es=>G8 n f e&&decide (p<=e.fr)&&ld n f e.fr es
def G9 (
      nm:List (List Nat)) (o:BF) (f:List Nat) (es:List Ed):Except Int (List Nat):=
 match W5 nm (fF f) [102] with
  | .error p=>.error p.e
  | .ok g=>if ld nm.length f 0 es=false then .error 291
   else match eV nm o g f es (QZ f) 0 with
    | none=>.error 291
    | some l=>if 1048576<(Qo l).length then .error 2
     else match W5 nm (fF (Qo l)) [102] with
      | .error p=>if p.e=2 then .error 2 else .ok (Qo l)
      | .ok _=>.ok (Qo l)
noncomputable def tR (nm:List (List Nat))(x:DV)(f:List Nat)(es:List EdV):Except Int (List Nat):=
 if Zx nm=false∨JT nm.length x.nd x.r=false then .error 1
 else if es.all (λe=>JT nm.length e.x.nd e.x.r)=true then G9 nm (oD x) f (es.map EdV.ed)
 else match W5 nm (fF f) [102] with
  | .error p=>.error p.e
  | .ok _=>.error 291
theorem iQF {g:Gs}{a:Nat}{s:List Nat}{k:BF}(h:(a,s,k)∈kZ g):∃x∈g.sg,x.o=k/\(a,s)∈JK x.at_ (QZ (aK g.tx x)):=by
 obtain⟨x,hx,hm⟩:=eA.1 h;obtain⟨q,hq,e⟩:=ZM.1 hm;simp only[Prod.mk.injEq] at e;obtain⟨e1,e2,e3⟩:=e;refine⟨x,hx,e3,?_⟩;rw[<-e1,<-e2];exact hq
theorem nj:∀{ls:List (List Nat)}{p a:Nat}{s:List Nat},(a,s)∈JK p ls->p<=a/\a+s.length+1<=p+(Qo ls).length
 | [],p,a,s,h=>by cases h
 | t::ls,p,a,s,h=>by
  rw[W0];simp only[Qy,Xs];rcases Q0.1 h with h | h
  ·cases h;omega
  ·have:=nj h;omega
theorem ChA.later {x y:Sg}{p:Nat}:∀{l:List Sg}{i j:Nat},ChA l p->l[i]? =some x->l[j]? =some y->i<j->x.at_+(x.t-x.f)<=y.at_
 | [],i,j,_,h,_,_=>by simp at h
 | z::l,i,j+1,⟨h1,h2,h3⟩,hi,hj,Q5=>by
  have gD:l[j]? =some y:=by simpa using hj
  cases i with
  | zero=>
   have:z=x:=by simpa using hi
   subst this;exact h1 y (Q2 gD)
  | succ i=>exact ChA.later h3 (by simpa using hi) gD (by omega)
 | z::l,i,0,_,_,_,Q5=>by omega
structure SegAt (g:Gs) (a:Nat) (k:BF) (i:Nat) (x:Sg):Prop where
 get:g.sg[i]? =some x
 lo:x.at_<=a
 hi:a<x.at_+(x.t-x.f)
 o:x.o=k
 first:∀j y,g.sg[j]? =some y->j<i->y.at_+(y.t-y.f)<=a
 last:∀j y,g.sg[j]? =some y->i<j->a<y.at_
theorem iQG {fs:List (List Nat×List Nat)}{g:Gs}{p a:Nat}{s:List Nat}{k:BF}(hi:GInv fs g)(hc:ChA g.sg p)(h:(a,s,k)∈kZ g):∃i x,SegAt g a k i x/\a+s.length+1<=x.at_+(x.t-x.f):=by
 obtain⟨x,hx,hk,hm⟩:=iQF h;obtain⟨i,iJ⟩:=cm.1 hx;have hp:=TV (hi.ok x hx);have ho:=nj hm;rw[aG hp.1,hp.2] at ho;refine⟨i,x,⟨iJ,ho.1,by omega,hk,λj y hj Q5=>?_,λj y hj Q5=>?_⟩,ho.2⟩
 ·have:=hc.later hj iJ Q5;omega
 ·have:=hc.later iJ hj Q5;omega
theorem TY {α:Type}{p:α->Bool}:∀{l:List α}{i:Nat}{x:α},l[i]? =some x->p x=true->(∀j y,l[j]? =some y->j<i->p y=false)->l.find? p=some x
 | [],i,x,h,_,_=>by simp at h
 | y::l,0,x,h,hp,_=>by
  have:y=x:=by simpa using h
  subst this;rw[bQO hp]
 | y::l,i+1,x,h,hp,hj=>by
  rw[ES (by rw[hj 0 y rfl (by omega)];decide)];exact TY (by simpa using h) hp (λj z hz Q5=>hj (j+1) z (by simpa using hz) (by omega))
theorem SegAt.cnd {g:Gs}{a:Nat}{k:BF}{i:Nat}{x:Sg}(h:SegAt g a k i x):tQ g a=k:=by
 unfold tQ;rw[TY (p:=λs:Sg=>decide (a<s.at_+(s.t-s.f))) h.get (XT h.hi) (λj y hj Q5=>XS (by have:=h.first j y hj Q5;omega))];exact h.o
theorem TZ:∀{ls:List (List Nat)}{p a:Nat}{s:List Nat},(a,s)∈JK p ls->∃i,ls[i]? =some s/\a=p+(Qo (ls.take i)).length
 | [],p,a,s,h=>by cases h
 | t::ls,p,a,s,h=>by
  rcases Q0.1 h with h | h
  ·cases h;exact⟨0,rfl,by simp[Qo]⟩
  ·obtain⟨i,h1,h2⟩:=TZ h;refine⟨i+1,by simpa using h1,?_⟩;rw[vi,W0];simp only[Qy,Xs];omega
theorem T0:∀{ls:List (List Nat)}{p a b:Nat}{s t:List Nat}{x:Nat},(a,s)∈JK p ls->(b,t)∈JK p ls->a<=x->x<=a+s.length->b<=x->x<=b+t.length->a=b/\s=t
 | [],p,a,b,s,t,x,h,_,_,_,_,_=>by cases h
 | u::ls,p,a,b,s,t,x,h,h',h1,h2,h3,h4=>by
  rcases Q0.1 h with h | h
  ·cases h;rcases Q0.1 h' with h' | h'
   ·cases h';exact⟨rfl,rfl⟩
   ·have:=nj h';omega
  ·rcases Q0.1 h' with h' | h'
   ·cases h';have:=nj h;omega
   ·exact T0 h h' h1 h2 h3 h4
theorem Ha:∀{ls:List (List Nat)}{p x:Nat},p<=x->x<p+(Qo ls).length->∃a s,(a,s)∈JK p ls/\a<=x/\x<=a+s.length
 | [],p,x,h1,h2=>by simp[Qo] at h2;omega
 | t::ls,p,x,h1,h2=>by
  rw[W0] at h2;simp only[Qy,Xs] at h2;by_cases h:x<=p+t.length
  ·exact⟨p,t,NZ,h1,h⟩
  ·obtain⟨a,s,hm,h3,h4⟩:=Ha (ls:=ls) (p:=p+t.length+1) (x:=x) (by omega) (by omega);exact⟨a,s,vu _ hm,h3,h4⟩
theorem T3 {ls:List (List Nat)}{a:Nat}{s:List Nat}{e:Ed}(hm:(a,s)∈JK 0 ls)(h1:(a:Int)<=e.fr)(h2:e.fr<=a+s.length)(h3:e.fr<=e.to_):
  (JK 0 ls).any (jr e)=decide (e.to_<=a+s.length/\JC s= .txt):=by
 by_cases h:e.to_<=a+s.length/\JC s= .txt
 ·rw[XT h];exact vv.2 ⟨(a,s),hm,XT ⟨h1,h.1,h3,h.2⟩⟩
 ·rw[XS h];refine YM.2 (λha=>?_);obtain⟨⟨b,t⟩,hb,hp⟩:=vv.1 ha;have hp:=eB hp;obtain⟨p1,p2,p3,p4⟩:=hp;simp only at p1 p2 p3 p4;obtain⟨x,hx⟩:=EZ (a:=e.fr) (by omega);obtain⟨q1,q2⟩:=T0 (x:=x) hm hb (by omega) (by omega) (by omega) (by omega);subst q1;subst q2;exact h ⟨p2,p4⟩
theorem wV {nm:List (List Nat)}{f g:Nat->List Nat}:∀(k v:Nat)(l:List Nat),l≠ []->(∀c∈l,f c=g c)->Xw nm f k v l=Xw nm g k v l
 | 0,v,l,hl,h=>by rw[Xw,Xw,h _ (BL hl)]
 | k+1,v,l,hl,h=>by
  rw[tN hl,tN hl];split
  ·exact wV k (v+1) l hl h
  ·rename_i h0;have n1:l.filter (λc=> !c.testBit v)≠ []:=λe=>h0 (.inl e)
   have n2:l.filter (λc=>c.testBit v)≠ []:=λe=>h0 (.inr e)
   rw[wV k (v+1) _ n1 (λc hc=>h c (Va.1 hc).1),wV k (v+1) _ n2 (λc hc=>h c (Va.1 hc).1)]
structure AV where
 o:BF
 d:List Nat
 a:Nat
def Ye (n:Nat)(f:List Nat)(e:Ed)(v:AV):List AV:=
 if Qu n (JQ v.o e.o)=[] then(if Qu n v.o=[] then [] else [v])
 else⟨JQ v.o e.o,v.d++Kc f v.a e.fr.toNat++e.tx,e.to_.toNat⟩::(if Qu n (YD v.o (JQ v.o e.o))=[] then [] else [⟨YD v.o (JQ v.o e.o),v.d,v.a⟩])
structure VI (n:Nat) (f:List Nat) (S:List Nat) (a:Nat) (es:List Ed) (vs:List AV):Prop where
 cov:∀c∈S,∃v∈vs,v.o (bits c)=true
 ne:∀v∈vs,Qu n v.o≠ []
 st:∀v∈vs,∀c∈Qu n v.o,c∈S/\es.foldl (YU f c) ([],a)=(v.d,v.a)
theorem VI.start {n:Nat}{f:List Nat}{o:BF}{a:Nat}(h:Qu n o≠ []):VI n f (Qu n o) a [] [⟨o,[],a⟩]:=
 ⟨λc hc=>⟨_,QF.2 rfl,(ZY.1 hc).2⟩,λv hv=>by rw[QF.1 hv];exact h,λv hv c hc=>by rw[QF.1 hv] at hc ⊢;exact⟨hc,rfl⟩⟩
theorem VI.step {n:Nat}{f:List Nat}{S:List Nat}{a:Nat}{es:List Ed}{vs:List AV}(h:VI n f S a es vs)(hS:∀c∈S,c<2^n)(e:Ed):VI n f S a (es++ [e]) (vs.flatMap (Ye n f e)):=by
 have mQC:∀c,(es++ [e]).foldl (YU f c) ([],a)=YU f c (es.foldl (YU f c) ([],a)) e:=λc=>by rw[NY]<;>rfl
 refine⟨λc hc=>?_,λv hv=>?_,λv hv c hc=>?_⟩
 ·obtain⟨v,hv,pe⟩:=h.cov c hc;have MR:=hS c hc;have hm:c∈Qu n v.o:=ZY.2 ⟨MR,pe⟩;by_cases hb:Qu n (JQ v.o e.o)=[]
  ·refine⟨v,eA.2 ⟨v,hv,?_⟩,pe⟩;unfold Ye;rw[Qf hb,if_neg (λe0=>by rw[e0] at hm;cases hm)];exact QF.2 rfl
  ·cases uZ:e.o (bits c)with
   | true=>
    refine⟨⟨JQ v.o e.o,v.d++Kc f v.a e.fr.toNat++e.tx,e.to_.toNat⟩,eA.2 ⟨v,hv,?_⟩,?_⟩
    ·unfold Ye;rw[if_neg hb];exact NZ
    ·show(v.o (bits c)&&e.o (bits c))=true;rw[pe,uZ]<;>rfl
   | false=>
    have fH:(YD v.o (JQ v.o e.o)) (bits c)=true:=by
     show(v.o (bits c) && !(v.o (bits c)&&e.o (bits c)))=true;rw[pe,uZ]<;>rfl
    refine⟨⟨YD v.o (JQ v.o e.o),v.d,v.a⟩,eA.2 ⟨v,hv,?_⟩,fH⟩;unfold Ye;rw[if_neg hb,if_neg (λe0=>by
     have:c∈Qu n (YD v.o (JQ v.o e.o)):=ZY.2 ⟨MR,fH⟩;rw[e0] at this;cases this)]
    simp
 ·obtain⟨v0,fg,hv⟩:=eA.1 hv;unfold Ye at hv;split at hv
  ·split at hv
   ·cases hv
   ·rename_i h1;rw[QF.1 hv];exact h1
  ·rename_i h1;rcases Q0.1 hv with rfl | hv
   ·exact h1
   ·split at hv
    ·cases hv
    ·rename_i h2;rw[QF.1 hv];exact h2
 ·obtain⟨v0,fg,hv⟩:=eA.1 hv;rw[mQC];unfold Ye at hv;split at hv
  ·rename_i h1;split at hv
   ·cases hv
   ·rw[QF.1 hv] at hc ⊢;obtain⟨q1,q2⟩:=h.st v0 fg c hc;refine⟨q1,?_⟩;rw[q2];unfold YU;rw[if_neg];intro uZ;have:c∈Qu n (JQ v0.o e.o):=ZY.2 ⟨(ZY.1 hc).1,by show(v0.o (bits c)&&e.o (bits c))=true;rw[show v0.o (bits c)=true from (ZY.1 hc).2,uZ];rfl⟩;rw[h1] at this;cases this
  ·rcases Q0.1 hv with rfl | hv
   ·obtain⟨c1,c2⟩:=ZY.1 hc;have c2:(v0.o (bits c)&&e.o (bits c))=true:=c2;rw[Jv] at c2;obtain⟨q1,q2⟩:=h.st v0 fg c (ZY.2 ⟨c1,c2.1⟩);refine⟨q1,?_⟩;rw[q2];unfold YU;rw[Qf c2.2]
   ·split at hv
    ·cases hv
    ·rw[QF.1 hv] at hc ⊢;obtain⟨c1,c2⟩:=ZY.1 hc;have c2:(v0.o (bits c) && !(v0.o (bits c)&&e.o (bits c)))=true:=c2;have c3:v0.o (bits c)=true/\e.o (bits c)=false:=by
      cases h1:v0.o (bits c)<;>cases h2:e.o (bits c)<;>rw[h1,h2] at c2<;>simp_all
     obtain⟨q1,q2⟩:=h.st v0 fg c (ZY.2 ⟨c1,c3.1⟩);refine⟨q1,?_⟩;rw[q2];unfold YU;rw[if_neg (by rw[c3.2];decide)]
theorem T4 (f:List Nat)(c:Nat):∀(es:List Ed)(st:List Nat×Nat),(es.foldl (YU f c) st).2=st.2∨∃e∈es,e.o (bits c)=true/\(es.foldl (YU f c) st).2=e.to_.toNat
 | [],st=>.inl rfl
 | e::es,st=>by
  rw[vh];rcases T4 f c es (YU f c st e)with h | ⟨b,hb,h1,h2⟩
  ·by_cases he:e.o (bits c)=true
   ·refine .inr ⟨e,by simp,he,?_⟩;rw[h];unfold YU;rw[Qf he]
   ·refine .inl ?_;rw[h];unfold YU;rw[if_neg he]
  ·exact .inr ⟨b,by simp[hb],h1,h2⟩
theorem T5 {S:List Nat}:∀{es:List Ed}{i j:Nat}{e b:Ed},eU S es=true->es[i]? =some e->es[j]? =some b->i<j->jq S e b=true
 | [],i,j,e,b,_,h,_,_=>by simp at h
 | x::es,i,j+1,e,b,ha,hi,hj,Q5=>by
  rw[eU,Jv,VT] at ha;have gD:es[j]? =some b:=by simpa using hj
  cases i with
  | zero=>
   have:x=e:=by simpa using hi
   subst this;exact ha.1 b (Q2 gD)
  | succ i=>exact T5 ha.2 (by simpa using hi) gD (by omega)
 | x::es,i,0,e,b,_,_,_,Q5=>by omega
theorem iQH {f:List Nat}{S:List Nat}{es:List Ed}(ha:eU S es=true){a i c:Nat}{e:Ed}(hi:es[i]? =some e)(hc:c∈S)(uZ:e.o (bits c)=true)(h0:(a:Int)<=e.fr)(hp:∀b∈es,0<=b.to_):
  (((es.take i).foldl (YU f c) ([],a)).2:Int)<=e.fr:=by
 rcases T4 f c (es.take i) ([],a)with h | ⟨b,hb,h1,h2⟩
 ·rw[h];exact h0
 ·rw[h2];obtain⟨j,hj⟩:=cm.1 hb;have Kp:j<i:=by
   apply Classical.byContradiction;intro hh;rw[EI] at hj;rw[if_neg hh] at hj;cases hj
  rw[mt Kp] at hj;have:=T5 ha hj hi Kp;unfold jq at this;have hm:aL S (λv=>b.o v&&e.o v)=true:=vv.2 ⟨c,hc,by show(b.o (bits c)&&e.o (bits c))=true;rw[h1,uZ];rfl⟩;rw[hm,E0,Bool.not_eq_true',decide_eq_false_iff_not] at this;have:=hp b (Q2 hj);omega
def Vy (ps:List Pr)(t:List Nat):Nat:=(ps.takeWhile (λp=>decide (p.t≠t))).length
def cP (ps:List Pr)(o:BF)(t:List Nat):List Pr:=match ps[Vy ps t]? with
 | some p=>ps.set (Vy ps t) ⟨λe=>p.o e||o e,p.t⟩
 | none=>ps++ [⟨o,t⟩]
theorem iQI (ps:List Pr)(t:List Nat):Vy ps t<=ps.length:=(EO _).length_le
theorem wW (t:List Nat):∀ps:List Pr,(∀p,ps[Vy ps t]? =some p->p.t=t)/\∀j p,ps[j]? =some p->j<Vy ps t->p.t≠t
 | []=>⟨λp h=>by simp at h,λj p h=>by simp at h⟩
 | q::ps=>by
  obtain⟨h1,h2⟩:=wW t ps;by_cases hq:q.t=t
  ·have e:Vy (q::ps) t=0:=by unfold Vy;rw[List.takeWhile_cons_of_neg (by simpa using hq)]<;>rfl
   rw[e];exact⟨λp h=>by
              have:q=p:=by simpa using h
              rw[<-this];exact hq,λj p _ hj=>by omega⟩
  ·have e:Vy (q::ps) t=Vy ps t+1:=by unfold Vy;rw[List.takeWhile_cons_of_pos (by simpa using hq)]<;>rfl
   rw[e];refine⟨λp h=>h1 p (by simpa using h),λj p h hj=>?_⟩;cases j with
   | zero=>
        have:q=p:=by simpa using h
        rw[<-this];exact hq
   | succ j=>exact h2 j p (by simpa using h) (by omega)
structure QI (n:Nat) (S:List Nat) (ver:Nat->List Nat) (vs:List AV) (ps:List Pr):Prop where
 cov:∀v∈vs,∀c∈Qu n v.o,∃p∈ps,p.o (bits c)=true
 tx:∀(i j:Nat) (p q:Pr),ps[i]? =some p->ps[j]? =some q->p.t=q.t->i=j
 val:∀p∈ps,∀c∈Qu n p.o,c∈S/\p.t=ver c
theorem QI.nil {n:Nat}{S:List Nat}{ver:Nat->List Nat}:QI n S ver [] []:=⟨(λv hv=>by cases hv),(λi j p q h=>by simp at h),(λp hp=>by cases hp)⟩
theorem QI.ins {n:Nat}{S:List Nat}{ver:Nat->List Nat}{vs:List AV}{ps:List Pr}(h:QI n S ver vs ps){v:AV}{t:List Nat}(hv:∀c∈Qu n v.o,c∈S/\ver c=t):QI n S ver (vs++ [v]) (cP ps v.o t):=by
 obtain⟨s1,s2⟩:=wW t ps;unfold cP;cases hg:ps[Vy ps t]? with
 | none=>
  have ZO:=E1.1 hg;simp only;refine⟨λu hu c hc=>?_,λi j p q hi hj he=>?_,λp hp c hc=>?_⟩
  ·rcases XH.1 hu with hu | hu
   ·obtain⟨p,hp,KB⟩:=h.cov u hu c hc;exact⟨p,by simp[hp],KB⟩
   ·rw[QF.1 hu] at hc;exact⟨⟨v.o,t⟩,by simp,(ZY.1 hc).2⟩
  ·have key:∀i (p:Pr),(ps++ [⟨v.o,t⟩])[i]? =some p->(ps[i]? =some p/\i<ps.length)∨(i=ps.length/\p.t=t):=λi p hi=>by
    by_cases Q5:i<ps.length
    ·rw[ew Q5] at hi;exact .inl ⟨hi,Q5⟩
    ·rw[aU (by omega)] at hi;have:=(Zw.1 hi).1;simp at this;have e:i=ps.length:=by omega
     subst e;simp at hi;exact .inr ⟨rfl,by rw[<-hi]⟩
   rcases key i p hi with⟨h1,l1⟩ | ⟨h1,t1⟩<;>rcases key j q hj with⟨h2,l2⟩ | ⟨h2,t2⟩
   ·exact h.tx i j p q h1 h2 he
   ·exact Xd (he.trans t2) (s2 i p h1 (by omega))
   ·exact Xd (he.symm.trans t1) (s2 j q h2 (by omega))
   ·omega
  ·rcases XH.1 hp with hp | hp
   ·exact h.val p hp c hc
   ·rw[QF.1 hp] at hc ⊢;obtain⟨a,b⟩:=hv c hc;exact⟨a,b.symm⟩
 | some p0=>
  have ht:=s1 p0 hg;have Q5:=(Zw.1 hg).1;simp only;generalize Vy ps t=i0 at*;have key:∀i (p:Pr),(ps.set i0 ⟨λe=>p0.o e||v.o e,p0.t⟩)[i]? =some p->(i≠i0/\ps[i]? =some p)∨(i=i0/\p=⟨λe=>p0.o e||v.o e,p0.t⟩):=λi p hi=>by
   by_cases u7:i0=i
   ·subst u7;rw[iZ Q5] at hi;exact .inr ⟨rfl,(Option.some.inj hi).symm⟩
   ·rw[fU u7] at hi;exact .inl ⟨λe=>u7 e.symm,hi⟩
  refine⟨λu hu c hc=>?_,λi j p q hi hj he=>?_,λp hp c hc=>?_⟩
  ·rcases XH.1 hu with hu | hu
   ·obtain⟨p,hp,KB⟩:=h.cov u hu c hc;obtain⟨i,hi⟩:=cm.1 hp;by_cases u7:i0=i
    ·subst u7;rw[hg] at hi;cases hi;exact⟨_,Q2 (iZ Q5),by simp only;rw[KB];rfl⟩
    ·exact⟨p,Q2 (i:=i) (by rw[fU u7];exact hi),KB⟩
   ·rw[QF.1 hu] at hc;refine⟨_,Q2 (iZ Q5),?_⟩;simp only;rw[show v.o (bits c)=true from (ZY.1 hc).2,Bool.or_true]
  ·rcases key i p hi with⟨n1,h1⟩ | ⟨h1,e1⟩<;>rcases key j q hj with⟨n2,h2⟩ | ⟨h2,e2⟩
   ·exact h.tx i j p q h1 h2 he
   ·rw[h2];exact h.tx i i0 p p0 h1 hg (by rw[he,e2])
   ·rw[h1];exact h.tx i0 j p0 q hg h2 (by rw[<-he,e1])
   ·omega
  ·obtain⟨i,hi⟩:=cm.1 hp;rcases key i p hi with⟨_,h1⟩ | ⟨_,e1⟩
   ·exact h.val p (Q2 h1) c hc
   ·subst e1;obtain⟨c1,c2⟩:=ZY.1 hc;have c2:(p0.o (bits c)||v.o (bits c))=true:=c2;rw[Bool.or_eq_true] at c2;rcases c2 with c2 | c2
    ·exact h.val p0 (Q2 hg) c (ZY.2 ⟨c1,c2⟩)
    ·obtain⟨a,b⟩:=hv c (ZY.2 ⟨c1,c2⟩);exact⟨a,by rw[b];exact ht⟩
theorem QI.pa {n:Nat}{f:List Nat}{S:List Nat}{a:Nat}{es:List Ed}{ver:Nat->List Nat}{vs:List AV}{ps:List Pr}(h:QI n S ver vs ps)(hv:VI n f S a es vs)(hS:∀c∈S,c<2^n):PaOk S ps/\∀c∈S,fP ps c=ver c:=by
 have hp:PaOk S ps:=by
  refine⟨λc hc=>?_,λc hc i j p q hi hj h1 h2=>?_⟩
  ·obtain⟨v,lY,pe⟩:=hv.cov c hc;exact h.cov v lY c (ZY.2 ⟨hS c hc,pe⟩)
  ·refine h.tx i j p q hi hj ?_;rw[(h.val p (Q2 hi) c (ZY.2 ⟨hS c hc,h1⟩)).2,(h.val q (Q2 hj) c (ZY.2 ⟨hS c hc,h2⟩)).2]
 refine⟨hp,λc hc=>?_⟩;obtain⟨p,dh,KB⟩:=hp.cov c hc;rw[hp.get hc dh KB,(h.val p dh c (ZY.2 ⟨hS c hc,KB⟩)).2]
def qe (n:Nat):List Nat->List Pr->Bool
 | R,[]=>decide (R=[])
 | R,p::ps=>(decide (Qu n p.o≠ [])&&(Qu n p.o).all (λc=>decide (c∈R))&&JD p.t)&&qe n (gj n R p.o) ps
def eW (nm:List (List Nat))(o:BF)(ps:List Pr):Except Int (List Nat):=
 if qe nm.length (Qu nm.length o) ps=false then .error 290
 else if ps=[] then .ok []
 else if 1048576<(Qo (Xw nm (fP ps) nm.length 0 (Qu nm.length o))).length then .error 2
 else .ok (Qo (Xw nm (fP ps) nm.length 0 (Qu nm.length o)))
theorem T6 {n:Nat}:∀(ps:List (DV×List Nat))(R:List Nat),(∀p∈ps,JT n p.1.nd p.1.r=true)->Vo n R ps=qe n R (XN ps)
 | [],R,_=>rfl
 | p::ps,R,h=>by
  have ih:=T6 ps (gj n R (oD p.1)) (λq hq=>h q (by simp[hq]));show(_&&Vo n (gj n R (oD p.1)) ps)=_;rw[ih,h p (by simp),aV]<;>rfl
theorem Hd {nm:List (List Nat)}{x:DV}{ps:List (DV×List Nat)}(hn:Zx nm=true)(hx:JT nm.length x.nd x.r=true)(h:∀p∈ps,JT nm.length p.1.nd p.1.r=true):bR nm x ps=eW nm (oD x) (XN ps):=by
 unfold bR eW;rw[if_neg (by rw[hn,hx];simp),T6 ps _ h];by_cases h0:ps=[]
 ·subst h0;rfl
 ·have h1:XN ps≠ []:=λe=>h0 (by simpa [XN] using e)
  rw[if_neg h0,if_neg h1]
def PrM (n:Nat):List Pr->List Pt->Prop
 | [],[]=>True
 | q::qs,p::ps=>(q.t=Qo p.2/\∀c,c<2^n->q.o (bits c)=decide (c∈p.1))/\PrM n qs ps
 | _,_=>False
theorem T7 {n:Nat}:∀{qs:List Pr}{ps:List Pt}{R:List Nat},PrM n qs ps->(∀c∈R,c<2^n)->(∀p∈ps,p.1≠ []/\JD (Qo p.2)=true/\∀c∈p.1,c∈R)->(∀c∈R,∃p∈ps,c∈p.1)->
  (∀(i j:Nat) (p q:Pt) (c:Nat),ps[i]? =some p->ps[j]? =some q->c∈p.1->c∈q.1->i=j)->qe n R qs=true
 | [],[],R,_,_,_,hc,_=>by
  cases R with
  | nil=>rfl
  | cons c R=>obtain⟨p,hp,_⟩:=hc c (by simp);cases hp
 | q::qs,p::ps,R,⟨⟨h1,h2⟩,hm⟩,hR,hp,hc,hd=>by
  obtain⟨p1,p2,p3⟩:=hp p (by simp);have Vg:∀c,c∈Qu n q.o↔c∈p.1:=λc=>by
   rw[ZY];constructor
   ·rintro⟨a,b⟩;have:=h2 c a;rw[show q.o (bits c)=true from b] at this;exact eB this.symm
   ·intro a;have KV:=hR c (p3 c a);exact⟨KV,by show q.o (bits c)=true;rw[h2 c KV,XT a]⟩
  have ih:=T7 (R:=gj n R q.o) hm (λc WO=>hR c (Va.1 WO).1) (λu hu=>by
   obtain⟨u1,u2,u3⟩:=hp u (by simp[hu]);refine⟨u1,u2,λc lZ=>Va.2 ⟨u3 c lZ,?_⟩⟩;have MY:=u3 c lZ;obtain⟨j,hj⟩:=cm.1 hu;have MB:c∉p.1:=λzv=>by
    have:=hd 0 (j+1) p u c rfl (by simpa using hj) zv lZ;omega
   rw[h2 c (hR c MY),XS MB];rfl) (λc WO=>by
   obtain⟨a,b⟩:=Va.1 WO;obtain⟨u,hu,lZ⟩:=hc c a;rcases Q0.1 hu with rfl | hu
   ·rw[h2 c (hR c a),XT lZ] at b;cases b
   ·exact⟨u,hu,lZ⟩) (λi j u v c hi hj hu hv=>by
   have:=hd (i+1) (j+1) u v c (by simpa using hi) (by simpa using hj) hu hv;omega)
  rw[qe,ih,E0,Jv,Jv];refine⟨⟨XT (λe=>?_),VT.2 (λc WO=>XT (p3 c ((Vg c).1 WO)))⟩,by rw[h1];exact p2⟩;obtain⟨c,zv⟩:=i5 _ p1;have:=(Vg c).2 zv;rw[e] at this;cases this
theorem T8 {n:Nat}{f:Nat->List (List Nat)}{S:List Nat}(hS:∀c∈S,c<2^n):∀{qs:List Pr}{ps:List Pt},PrM n qs ps->(∀p∈ps,∀c∈p.1,f c=p.2)->∀c∈S,(∃p∈ps,c∈p.1)->fP qs c=Qo (f c)
 | [],[],_,_,c,_,⟨p,hp,_⟩=>by cases hp
 | q::qs,p::ps,⟨⟨h1,h2⟩,hm⟩,ht,c,hc,gz=>by
  unfold fP;cases hq:q.o (bits c)with
  | true=>
   rw[bQO (by exact hq)];have:=h2 c (hS c hc);rw[hq] at this;have zv:=eB this.symm;show q.t=_;rw[h1,ht p (by simp) c zv]
  | false=>
   rw[ES (by rw[hq];decide)];refine T8 hS hm (λu hu=>ht u (by simp[hu])) c hc ?_;obtain⟨u,hu,lZ⟩:=gz;rcases Q0.1 hu with rfl | hu
   ·have:=h2 c (hS c hc);rw[hq,XT lZ] at this;cases this
   ·exact⟨u,hu,lZ⟩
theorem iQJ {nm:List (List Nat)}{o:BF}{f:Nat->List (List Nat)}{qs:List Pr}{ps:List Pt}(hm:PrM nm.length qs ps)(hp:PtOk f (Qu nm.length o) ps)(Jt:∀c,JD (Qo (f c))=true)(QK:Qu nm.length o≠ [])
  (Xf:(Qo (Xw nm (λc=>Qo (f c)) nm.length 0 (Qu nm.length o))).length<=1048576):
  eW nm o qs= .ok (Qo (Xw nm (λc=>Qo (f c)) nm.length 0 (Qu nm.length o))):=by
 have hS:∀c∈Qu nm.length o,c<2^nm.length:=λc hc=>(ZY.1 hc).1
 have et:qe nm.length (Qu nm.length o) qs=true:=T7 hm hS (λp dh=>⟨hp.ne p dh,by
  obtain⟨c,hc⟩:=i5 _ (hp.ne p dh);rw[<-(hp.tx p dh c hc).2];exact Jt c,λc hc=>(hp.tx p dh c hc).1⟩) hp.cov hp.dj
 have hq:qs≠ []:=λe=>by
  subst e;have:=et;rw[qe] at this;exact QK (eB this)
 have hw:=wV (nm:=nm) (f:=fP qs) (g:=λc=>Qo (f c)) nm.length 0 (Qu nm.length o) QK (λc hc=>T8 hS hm (λp dh c hc=>(hp.tx p dh c hc).2) c hc (hp.cov c hc));unfold eW;rw[if_neg (by rw[et];decide),if_neg hq,hw,if_neg (by omega)]
def js (k:Int):List PanicEntry:=[{v:=.iface 34 (.int .i64 k),recovered:=false}]
theorem YV (k:Int)(hk:k≠0)(w:World):FnP Tryz.prog 44 [.int .i64 k] w (λ_ _=>False) (λch w'=>ch=js k/\w=w'):=by
 refine aX (c:={OU with cuts:=[]}) Qa Tryz.func44 rfl rfl rfl ?_;refine pG hk ?_;exact pL rfl rfl ⟨rfl,rfl⟩
theorem T9 (A:Option Addr)(n c:Nat)(ls:List (List Nat))(w:World)(h:Sn w A n c (Zs ls))(Xf:(Qo ls).length<=1000000000000000000):
  FnP Tryz.prog 50 [.slice A n c] w (λu w'=>(Qo ls).length<=1048576/\u= .string (Qe (Qo ls))/\Ext w w') (λch w'=>1048576<(Qo ls).length/\ch=js 2/\w=w'):=by
 by_cases ZO:(Qo ls).length<=1048576
 ·exact(hQ5 A n c ls w h ZO).toP.mono (λv w' hh=>⟨ZO,hh.1,hh.2⟩) (λ_ _ hh=>hh)
 have hl:=YG h.1;have jN:=tF ls;refine aX (c:={OV with cuts:=[]}) Qa Tryz.func50 rfl rfl rfl ?_;refine loop Qa [8,3] (λi:Nat=>[.int .i64 i,.int .i64 (Qo (ls.take i)).length]) (λi w'=>w=w'/\i<=n/\(Qo (ls.take i)).length<=1048576) (λi _=>n-i) 0 rfl ⟨rfl,Xt _,by simp[Qo]⟩ ?_;rintro i _ ⟨rfl,hi,hbd⟩;refine Qt (λc1=>?_) (λc1=>?_)
 ·have QN:i<n:=by omega
  obtain⟨s,hs⟩:∃s,ls[i]? =some s:=⟨_,Xb (by omega)⟩
  have Wx:ls.take (i+1)=ls.take i++ [s]:=by rw[KC,hs]<;>rfl
  have hu:=Tx (ls.take i) s;rw[<-Wx] at hu;have aQd:(Qo (ls.take (i+1))).length<=(Qo ls).length:=by
   have e5:Qo ls=Qo (ls.take (i+1))++Qo (ls.drop (i+1)):=by
    have e6:∀a b:List (List Nat),Qo (a++b)=Qo a++Qo b:=λa b=>by simp[Qo]
    rw[<-e6,mj]
   rw[e5,Qy];omega
  refine ZF h.1 QN (λad u hA fM QR=>?_);rw[Wd hs] at fM;cases fM;refine load QR ?_;have XG:=XC (s++ [10]);rw[Qy,mA] at XG;refine Qj (((Qo (ls.take (i+1))).length:Nat):Int) (by rw[hu];omega) (by omega) ?_;refine Qt (λd1=>?_) (λd1=>?_)
  ·refine XP (YV 2 (by decide) w) (λ_ _ hf=>hf.elim) ?_;rintro ch _ ⟨rfl,rfl⟩;exact⟨by omega,rfl,rfl⟩
  ·refine Qj ((i+1:Nat):Int) (by show((i:Nat):Int)+1=_;omega) (by omega) ?_;exact⟨i+1,rfl,⟨rfl,QN,by omega⟩,by show n-(i+1)<n-i;omega⟩
 ·have:i=n:=by omega
  subst this;rw[Zz (by omega)] at hbd;exact Xd hbd ZO
theorem iQK (nm:List (List Nat)):tD nm [] 1=if Zx nm=true then(Yv,0)else([],1):=by
 have h1:XK [] 1=0:=(bO 0 true).chk (by decide);have h2:aF [] 1=(X8 (.c true) 0,0):=by
  rw[RY h1];have e:cf [] 1= .c true:=rfl;rw[e,if_neg (by decide)]
 unfold tD;rw[h2];by_cases h:Zx nm=true
 ·rw[Qf h,Qf h,Qf rfl,PK h (RG (show VarsIn 64 (.c true) from trivial) (by decide)) (λx hx ho=>by
   rw[QF.1 hx] at ho;exact Xd ho (by decide)),F4]
  rfl
 ·rw[if_neg h,if_neg h]
abbrev He (nm:List (List Nat))(x:DV):Prop:=Zx nm=true/\JT nm.length x.nd x.r=true
theorem iQL {l:List Nat}{N:Nat}(hl:l=Nt.J2 N)(hN:N<=4096):Nt.tP l=N/\Nt.kY l=true:=by
 have em:N<4294967296^1024:=(show ∀k,0<k->N<4294967296^k from λk p=>YL (show N<4294967296^1 by omega) (Y6 (by decide) p)) 1024 (by decide);have Xf:(Nt.J2 N).length<=2:=(Nt.GW N 2).2 (by omega);obtain⟨e1,e2⟩:=Nt.TO (l:=l) (by rw[hl];exact Nt.tO em) (by rw[hl];exact Xf);exact⟨by rw[e1,hl,Nt.qa],e2⟩
theorem Ua (NA:Option Addr)(nn nc:Nat)(nm:List (List Nat))(x:DV)(aQK:nm.length<=12)(JX:Jy nm)(w:World)(hN:Sl w 1 NA nn nc (Q9 nm))(hx:SB w x.A x.n x.c x.nd):
  FnP Tryz.prog 42 [.slice NA nn nc,Xg x.A x.n x.c x.r] w (λ_ w'=>He nm x/\Ext w w') (λch w'=>¬He nm x/\ch=js 1/\Ext w w'):=by
 have Xf:nm.length=nn:=by have:=hN.len;rw[YO] at this;omega
 refine aX (c:={c42 with cuts:=[]}) Qa Tryz.func42 rfl rfl rfl ?_;refine new (λw1 Qd Q3 Qh=>?_);refine call (cH true w1) ?_;rintro _ w2 ⟨rfl,Qg⟩;have QT:=Qd.trans Qg;refine call (fQP nm NA none nn nc 0 0 [] 1 w2 (hN.ext QT) JX (SlS.nil _) (by
  have h1:XK [] 1=0:=(bO 0 true).chk (by decide);have h2:aF [] 1=(X8 (.c true) 0,0):=by
   rw[RY h1];have e:cf [] 1= .c true:=rfl;rw[e,if_neg (by decide)]
  rw[h2];show(ZS nm 0 (gb (X8 (.c true) 0))).length<=_;rw[F4];show Yv.length<=_;decide)) ?_
 rintro _ w3 ⟨rfl,Qi⟩;have QQ:=QT.trans Qi;rw[iQK nm];by_cases Zm:Zx nm=true
 ·rw[Qf Zm];refine Y9 rfl ?_;refine Qs ((Qh.ext Qg).ext Qi) rfl ?_;rw[<-Xf];refine call (GQ x.A x.n x.c nm.length x.nd x.r w3 (hx.ext QQ)) ?_;rintro _ w4 ⟨rfl,Qq⟩;have XI:=QQ.trans Qq;cases Vs:JT nm.length x.nd x.r with
  | false=>
   refine Xe rfl ?_;refine XP (YV 1 (by decide) w4) (λ_ _ hf=>hf.elim) ?_;rintro ch _ ⟨rfl,rfl⟩;exact⟨λhh=>(by have h2:=hh.2;rw[Vs] at h2;cases h2),rfl,XI⟩
  | true=>
   refine Xv rfl ?_;refine Qs (((Qh.ext Qg).ext Qi).ext Qq) rfl ?_;refine call (iQC x nm.length aQK w4 (hx.ext XI) Vs) ?_;rintro _ w5 ⟨_,rfl,⟨A,m,c,N,rfl,hS,zu⟩,Qz⟩;have Lt:N<=4096:=X2 zu (X2 (Y6 (by decide) aQK) (by decide));obtain⟨e1,e2⟩:=iQL rfl Lt;refine call (GR w5) ?_;rintro _ _ rfl;refine call (Nt.iQw A m c (Nt.J2 N) w5 hS (Nt.BZ N)) ?_;rintro _ _ ⟨rfl,rfl⟩;rw[e1,e2];refine Xv rfl ?_;refine Xx (by omega) ?_;exact⟨⟨Zm,Vs⟩,XI.trans Qz⟩
 ·rw[if_neg Zm];refine pG (by decide) ?_;refine XP (YV 1 (by decide) w3) (λ_ _ hf=>hf.elim) ?_;rintro ch _ ⟨rfl,rfl⟩;exact⟨λhh=>Zm hh.1,rfl,QQ⟩
theorem Ub {c:Cx}{o:Oper}{S:Env}{w:World}{K:Env->World->Prop}{Q:Zj}{x:Operand}{tx t:Nat}{k:IntKind}{r:TyRow}(hg:c.g.Ok)(ho:o.op= .typeAssert x tx t true)(hr:QX c.g.tys t=some r)(hd:r.d= .int k)(hx:S.ev x=some .nilIface)
  (kk:Xn c S o.dst (.v (.tuple #[r.z,.bool false])) (λS=>K S w)):Zc c o S w K Q:=by
 obtain⟨Xc,i,hi,_,_,hz⟩:=hg.row hr;rw[hd] at Xc;refine JJ (w':=w) (v:=.tuple #[r.z,.bool false]) (λa hf=>?_) kk;have e1:=hf.ev hx;simp only[execOp,ho,e1];simp[Instr.typeAssert,ZX Xc,zeroValue,typeInfo,hi,hz]
def Cb (f e:Nat)(k:Int)(w w':World):Prop:=Blk w' f 9 [.string ⟨#[]⟩]/\Blk w' e 34 [.int .i64 k]/\Mod (λi=>i=f∨i=e) w w'
theorem qf (f e:Nat)(k:Int)(w:World)(v1 v2:Value)(QK:f≠e)(hf:Blk w f 9 [v1])(he:Blk w e 34 [v2]):
  CallsD Tryz.prog 60 #[.pointer (some ⟨f,0,none⟩),.pointer (some ⟨e,0,none⟩)] (.panicking (js k)) w
   (λen u' w'=>∃v,en= .returned v/\settle u'= .returning/\Cb f e k w w'):=by
 refine callsD_of_wpS Tryz.func60 rfl λc₀ cs hu=>?_
 have J9:=fZ (N:=Tryz.f60.ntmps) [.pointer (some ⟨f,0,none⟩),.pointer (some ⟨e,0,none⟩)] (gK rfl) [(0,.v (.pointer (some ⟨f,0,none⟩))),(1,.v (.pointer (some ⟨e,0,none⟩)))] (by
  intro k x hk
  match k,hk with
  | 0,hk=>cases hk;rfl
  | 1,hk=>cases hk;rfl
  | k+2,hk=>exact nomatch (show(none:Option Ent)=some x from hk))
 have J4:=J9.put (d:=5) (by decide) (.v (.iface 34 (.int .i64 k)));refine wpS_seq (wpS_region ?_);show wpOpsS _ _ _ [0,1,2,3,4,5,6] _ _ _;refine tL (o:=_) (cs':={c₀ with mode:=.panicking [{v:=.iface 34 (.int .i64 k),recovered:=true}]}::cs) (v:=.iface 34 (.int .i64 k)) (d:=5) rfl rfl rfl rfl (.inl (by simp[recoverD,hu,js])) ?_;generalize bE:Act.put _ (some 5) _=act;have iv:Fits bK.N [(5,.v (.iface 34 (.int .i64 k))),(0,.v (.pointer (some ⟨f,0,none⟩))),(1,.v (.pointer (some ⟨e,0,none⟩)))] act:=by rw[<-bE];exact J4
 clear bE J4 J9;generalize Zv: #[_,_,_,_,_,_,_]=xU;have h1:=(QO (λ(x:Array Oper)=>x[1]?) Zv).symm;have h2:=(QO (λ(x:Array Oper)=>x[2]?) Zv).symm;have h3:=(QO (λ(x:Array Oper)=>x[3]?) Zv).symm;have h4:=(QO (λ(x:Array Oper)=>x[4]?) Zv).symm;have h5:=(QO (λ(x:Array Oper)=>x[5]?) Zv).symm;have h6:=(QO (λ(x:Array Oper)=>x[6]?) Zv).symm;clear Zv;refine JE (c:=bK) Qa rfl h1 rfl iv (K:=λS' w'=>S'=[(6,Ent.v (.tuple #[.int .i64 k,.bool true])),(5,.v (.iface 34 (.int .i64 k))),(0,.v (.pointer (some ⟨f,0,none⟩))),(1,.v (.pointer (some ⟨e,0,none⟩)))]/\w=w') (FG Qa rfl rfl rfl rfl ⟨rfl,rfl⟩) ?_;rintro _ a1 _ ZN ⟨rfl,rfl⟩;refine JE (c:=bK) Qa rfl h2 rfl ZN (K:=λS' w'=>S'=_/\w=w') ⟨rfl,rfl⟩ ?_;rintro _ a2 _ ZT ⟨rfl,rfl⟩;refine JE (c:=bK) Qa rfl h3 rfl ZT (K:=λS' w'=>S'=_/\w=w') ⟨rfl,rfl⟩ ?_;rintro _ a3 _ iw ⟨rfl,rfl⟩;refine JE (c:=bK) Qa rfl h4 rfl iw (K:=λS' w'=>S'=_/\w=w') ⟨rfl,rfl⟩ ?_;rintro _ a4 _ iy ⟨rfl,rfl⟩;refine JE (c:=bK) Qa rfl h5 rfl iy (K:=λS' w'=>S'=_/\w=w') ⟨rfl,rfl⟩ ?_;rintro _ a5 _ J4 ⟨rfl,rfl⟩;refine JE (c:=bK) Qa rfl h6 rfl J4 (K:=λS' w'=>S'=_/\w=w') ⟨rfl,rfl⟩ ?_;rintro _ a6 _ bU ⟨rfl,rfl⟩;unfold wpOpsS;refine mL (c:=bK) Qa rfl bU ?_;refine Xe rfl ?_;refine KM hf (by simp) (λw1 Zr Qh=>?_);refine KM (he.mod Zr (λh=>QK h.symm)) (by simp) (λw2 XR Qv=>?_);exact⟨_,rfl,rfl,Qh.mod XR QK,Qv,(Zr.mono (λi hi=>.inl (.inl hi))).trans XR (λi hi=>.inl (.inr hi))⟩
theorem Uc (f e:Nat)(w:World):
  CallsD Tryz.prog 60 #[.pointer (some ⟨f,0,none⟩),.pointer (some ⟨e,0,none⟩)] .returning w
   (λen u' w'=>∃v,en= .returned v/\settle u'= .returning/\w=w'):=by
 refine callsD_of_wpS Tryz.func60 rfl λc₀ cs hu=>?_
 have J9:=fZ (N:=Tryz.f60.ntmps) [.pointer (some ⟨f,0,none⟩),.pointer (some ⟨e,0,none⟩)] (gK rfl) [(0,.v (.pointer (some ⟨f,0,none⟩))),(1,.v (.pointer (some ⟨e,0,none⟩)))] (by
  intro k x hk
  match k,hk with
  | 0,hk=>cases hk;rfl
  | 1,hk=>cases hk;rfl
  | k+2,hk=>exact nomatch (show(none:Option Ent)=some x from hk))
 have J4:=J9.put (d:=5) (by decide) (.v .nilIface);refine wpS_seq (wpS_region ?_);show wpOpsS _ _ _ [0,1,2,3,4,5,6] _ _ _;refine tL (o:=_) (cs':={c₀ with mode:=.returning}::cs) (v:=.nilIface) (d:=5) rfl rfl rfl rfl (.inr ⟨by simp[recoverD,hu],rfl,by rw[<-hu]⟩) ?_;generalize bE:Act.put _ (some 5) _=act;have iv:Fits bK.N [(5,.v .nilIface),(0,.v (.pointer (some ⟨f,0,none⟩))),(1,.v (.pointer (some ⟨e,0,none⟩)))] act:=by rw[<-bE];exact J4
 clear bE J4 J9;generalize Zv: #[_,_,_,_,_,_,_]=xU;have h1:=(QO (λ(x:Array Oper)=>x[1]?) Zv).symm;have h2:=(QO (λ(x:Array Oper)=>x[2]?) Zv).symm;have h3:=(QO (λ(x:Array Oper)=>x[3]?) Zv).symm;have h4:=(QO (λ(x:Array Oper)=>x[4]?) Zv).symm;have h5:=(QO (λ(x:Array Oper)=>x[5]?) Zv).symm;have h6:=(QO (λ(x:Array Oper)=>x[6]?) Zv).symm;clear Zv;refine JE (c:=bK) Qa rfl h1 rfl iv (K:=λS' w'=>S'=_/\w=w') (Ub Qa rfl rfl rfl rfl ⟨rfl,rfl⟩) ?_;rintro _ a1 _ ZN ⟨rfl,rfl⟩;refine JE (c:=bK) Qa rfl h2 rfl ZN (K:=λS' w'=>S'=_/\w=w') ⟨rfl,rfl⟩ ?_;rintro _ a2 _ ZT ⟨rfl,rfl⟩;refine JE (c:=bK) Qa rfl h3 rfl ZT (K:=λS' w'=>S'=_/\w=w') ⟨rfl,rfl⟩ ?_;rintro _ a3 _ iw ⟨rfl,rfl⟩;refine JE (c:=bK) Qa rfl h4 rfl iw (K:=λS' w'=>S'=_/\w=w') ⟨rfl,rfl⟩ ?_;rintro _ a4 _ iy ⟨rfl,rfl⟩;refine JE (c:=bK) Qa rfl h5 rfl iy (K:=λS' w'=>S'=_/\w=w') ⟨rfl,rfl⟩ ?_;rintro _ a5 _ J4 ⟨rfl,rfl⟩;refine JE (c:=bK) Qa rfl h6 rfl J4 (K:=λS' w'=>S'=_/\w=w') ⟨rfl,rfl⟩ ?_;rintro _ a6 _ bU ⟨rfl,rfl⟩;unfold wpOpsS;refine mL (c:=bK) Qa rfl bU ?_;refine Xv rfl ?_;exact⟨_,rfl,rfl,rfl⟩
theorem tS (f e:Nat)(k:Int)(w:World)(v1 v2:Value)(QK:f≠e)(hf:Blk w f 9 [v1])(he:Blk w e 34 [v2]):
  CallsD Tryz.prog 41 #[.pointer (some ⟨f,0,none⟩),.pointer (some ⟨e,0,none⟩)] (.panicking (js k)) w
   (λen u' w'=>∃v,en= .returned v/\settle u'= .returning/\Cb f e k w w'):=by
 refine callsD_of_wpS Tryz.func41 rfl λc₀ cs hu=>?_
 have J9:=fZ (N:=Tryz.f41.ntmps) [.pointer (some ⟨f,0,none⟩),.pointer (some ⟨e,0,none⟩)] (gK rfl) [(0,.v (.pointer (some ⟨f,0,none⟩))),(1,.v (.pointer (some ⟨e,0,none⟩)))] (by
  intro k x hk
  match k,hk with
  | 0,hk=>cases hk;rfl
  | 1,hk=>cases hk;rfl
  | k+2,hk=>exact nomatch (show(none:Option Ent)=some x from hk))
 have J4:=J9.put (d:=5) (by decide) (.v (.iface 34 (.int .i64 k)));refine wpS_seq (wpS_region ?_);show wpOpsS _ _ _ [0,1,2,3,4,5,6] _ _ _;refine tL (o:=_) (cs':={c₀ with mode:=.panicking [{v:=.iface 34 (.int .i64 k),recovered:=true}]}::cs) (v:=.iface 34 (.int .i64 k)) (d:=5) rfl rfl rfl rfl (.inl (by simp[recoverD,hu,js])) ?_;generalize bE:Act.put _ (some 5) _=act;have iv:Fits bJ.N [(5,.v (.iface 34 (.int .i64 k))),(0,.v (.pointer (some ⟨f,0,none⟩))),(1,.v (.pointer (some ⟨e,0,none⟩)))] act:=by rw[<-bE];exact J4
 clear bE J4 J9;generalize Zv: #[_,_,_,_,_,_,_]=xU;have h1:=(QO (λ(x:Array Oper)=>x[1]?) Zv).symm;have h2:=(QO (λ(x:Array Oper)=>x[2]?) Zv).symm;have h3:=(QO (λ(x:Array Oper)=>x[3]?) Zv).symm;have h4:=(QO (λ(x:Array Oper)=>x[4]?) Zv).symm;have h5:=(QO (λ(x:Array Oper)=>x[5]?) Zv).symm;have h6:=(QO (λ(x:Array Oper)=>x[6]?) Zv).symm;clear Zv;refine JE (c:=bJ) Qa rfl h1 rfl iv (K:=λS' w'=>S'=[(6,Ent.v (.tuple #[.int .i64 k,.bool true])),(5,.v (.iface 34 (.int .i64 k))),(0,.v (.pointer (some ⟨f,0,none⟩))),(1,.v (.pointer (some ⟨e,0,none⟩)))]/\w=w') (FG Qa rfl rfl rfl rfl ⟨rfl,rfl⟩) ?_;rintro _ a1 _ ZN ⟨rfl,rfl⟩;refine JE (c:=bJ) Qa rfl h2 rfl ZN (K:=λS' w'=>S'=_/\w=w') ⟨rfl,rfl⟩ ?_;rintro _ a2 _ ZT ⟨rfl,rfl⟩;refine JE (c:=bJ) Qa rfl h3 rfl ZT (K:=λS' w'=>S'=_/\w=w') ⟨rfl,rfl⟩ ?_;rintro _ a3 _ iw ⟨rfl,rfl⟩;refine JE (c:=bJ) Qa rfl h4 rfl iw (K:=λS' w'=>S'=_/\w=w') ⟨rfl,rfl⟩ ?_;rintro _ a4 _ iy ⟨rfl,rfl⟩;refine JE (c:=bJ) Qa rfl h5 rfl iy (K:=λS' w'=>S'=_/\w=w') ⟨rfl,rfl⟩ ?_;rintro _ a5 _ J4 ⟨rfl,rfl⟩;refine JE (c:=bJ) Qa rfl h6 rfl J4 (K:=λS' w'=>S'=_/\w=w') ⟨rfl,rfl⟩ ?_;rintro _ a6 _ bU ⟨rfl,rfl⟩;unfold wpOpsS;refine mL (c:=bJ) Qa rfl bU ?_;refine Xe rfl ?_;refine KM hf (by simp) (λw1 Zr Qh=>?_);refine KM (he.mod Zr (λh=>QK h.symm)) (by simp) (λw2 XR Qv=>?_);exact⟨_,rfl,rfl,Qh.mod XR QK,Qv,(Zr.mono (λi hi=>.inl (.inl hi))).trans XR (λi hi=>.inl (.inr hi))⟩
theorem Ud (f e:Nat)(w:World):
  CallsD Tryz.prog 41 #[.pointer (some ⟨f,0,none⟩),.pointer (some ⟨e,0,none⟩)] .returning w
   (λen u' w'=>∃v,en= .returned v/\settle u'= .returning/\w=w'):=by
 refine callsD_of_wpS Tryz.func41 rfl λc₀ cs hu=>?_
 have J9:=fZ (N:=Tryz.f41.ntmps) [.pointer (some ⟨f,0,none⟩),.pointer (some ⟨e,0,none⟩)] (gK rfl) [(0,.v (.pointer (some ⟨f,0,none⟩))),(1,.v (.pointer (some ⟨e,0,none⟩)))] (by
  intro k x hk
  match k,hk with
  | 0,hk=>cases hk;rfl
  | 1,hk=>cases hk;rfl
  | k+2,hk=>exact nomatch (show(none:Option Ent)=some x from hk))
 have J4:=J9.put (d:=5) (by decide) (.v .nilIface);refine wpS_seq (wpS_region ?_);show wpOpsS _ _ _ [0,1,2,3,4,5,6] _ _ _;refine tL (o:=_) (cs':={c₀ with mode:=.returning}::cs) (v:=.nilIface) (d:=5) rfl rfl rfl rfl (.inr ⟨by simp[recoverD,hu],rfl,by rw[<-hu]⟩) ?_;generalize bE:Act.put _ (some 5) _=act;have iv:Fits bJ.N [(5,.v .nilIface),(0,.v (.pointer (some ⟨f,0,none⟩))),(1,.v (.pointer (some ⟨e,0,none⟩)))] act:=by rw[<-bE];exact J4
 clear bE J4 J9;generalize Zv: #[_,_,_,_,_,_,_]=xU;have h1:=(QO (λ(x:Array Oper)=>x[1]?) Zv).symm;have h2:=(QO (λ(x:Array Oper)=>x[2]?) Zv).symm;have h3:=(QO (λ(x:Array Oper)=>x[3]?) Zv).symm;have h4:=(QO (λ(x:Array Oper)=>x[4]?) Zv).symm;have h5:=(QO (λ(x:Array Oper)=>x[5]?) Zv).symm;have h6:=(QO (λ(x:Array Oper)=>x[6]?) Zv).symm;clear Zv;refine JE (c:=bJ) Qa rfl h1 rfl iv (K:=λS' w'=>S'=_/\w=w') (Ub Qa rfl rfl rfl rfl ⟨rfl,rfl⟩) ?_;rintro _ a1 _ ZN ⟨rfl,rfl⟩;refine JE (c:=bJ) Qa rfl h2 rfl ZN (K:=λS' w'=>S'=_/\w=w') ⟨rfl,rfl⟩ ?_;rintro _ a2 _ ZT ⟨rfl,rfl⟩;refine JE (c:=bJ) Qa rfl h3 rfl ZT (K:=λS' w'=>S'=_/\w=w') ⟨rfl,rfl⟩ ?_;rintro _ a3 _ iw ⟨rfl,rfl⟩;refine JE (c:=bJ) Qa rfl h4 rfl iw (K:=λS' w'=>S'=_/\w=w') ⟨rfl,rfl⟩ ?_;rintro _ a4 _ iy ⟨rfl,rfl⟩;refine JE (c:=bJ) Qa rfl h5 rfl iy (K:=λS' w'=>S'=_/\w=w') ⟨rfl,rfl⟩ ?_;rintro _ a5 _ J4 ⟨rfl,rfl⟩;refine JE (c:=bJ) Qa rfl h6 rfl J4 (K:=λS' w'=>S'=_/\w=w') ⟨rfl,rfl⟩ ?_;rintro _ a6 _ bU ⟨rfl,rfl⟩;unfold wpOpsS;refine mL (c:=bJ) Qa rfl bU ?_;refine Xv rfl ?_;exact⟨_,rfl,rfl,rfl⟩
end
section
structure QP where
 r:Nat
 NA:Option Addr
 nn:Nat
 nc:Nat
 nm:List (List Nat)
 FA:Option Addr
 nf:Nat
 cf:Nat
 fs:List (List Nat×List Nat)
structure QM where
 OA:Option Addr
 oc:Nat
 DA:Option Addr
 dc:Nat
 L:List DV
 T:Nat->Prop
structure QV where
 d:Nat
 rd:List Nat
 g:Gs
 b:Pl
abbrev qdC (p:QP)(m:QM)(v:QV):List Value:=[.slice p.NA p.nn p.nc,.slice p.FA p.nf p.cf,.int .i64 v.d,.slice m.DA v.rd.length m.dc,.string (Qe v.g.tx),.slice m.OA v.g.sg.length m.oc,.bool v.g.fr,.int .i64 v.b.e,.int .i64 v.b.f,.int .i64 v.b.l]
def QS (p:QP)(m:QM):Nat->Prop:=λk=>k=p.r∨Qk m.OA k∨Qk m.DA k
def TQ (p:QP)(m:QM):Nat->Prop:=λk=>QS p m k∨m.T k
structure Qr (w0 w:World) (base:Nat) (p:QP) (m:QM) (v:QV):Prop where
 e0:Ext w0 w
 lor:w0.heap.size<=p.r
 rb:p.r<base
 top:base<=w.heap.size
 blk:Blk w p.r 201 (qdC p m v)
 rdo:Own w base 3 1 m.DA v.rd.length m.dc (ixV v.rd.reverse)
 out:Own w base 48 6 m.OA v.g.sg.length m.oc (cJ v.g.sg m.L)
 len:m.L.length=v.g.sg.length
 dgs:∀(j:Nat) (s:Sg) (x:DV),v.g.sg[j]? =some s->m.L[j]? =some x->DgO w (TQ p m) p.nm.length x s.o
 tl:v.g.tx.length<=1048576
 sl:v.g.sg.length<=65536
 b8:∀x∈v.g.tx,x<256
 nf:v.g.fr=false->v.g.sg≠ []∨v.rd=[]
 tt:∀i,m.T i->i<w.heap.size
 dl:v.d<=65
 rl:v.rd.length<=65+65
section
variable {w0 w w':World} {base:Nat} {p:QP} {m:QM} {v:QV}
end
theorem Hf {w:World}{g t:Nat}{cs:List Value}{j i:Nat}{v:Value}{K:Value->Prop}(h:Blk w g t cs)(hv:cs[j+i]? =some v)(k:K v):gM w (((⟨g,0,none⟩:Addr).add j).add i) K:=by
 rw[add_add];exact Qp h hv k
section
variable {w0:World} {base:Nat} {p:QP} {m:QM} {v:QV}
end
end
section
theorem Ue {nm:List (List Nat)}{s:List Nat}{e:Int}(h:YT nm s= .error e):e≠0:=by
 unfold YT at h;split at h
 ·cases h
 ·cases h;split<;>decide
def jt:Except Int (List Nat)->Value
 | .ok l=>.tuple #[.string (Qe l),.int .i64 0]
 | .error e=>.tuple #[.string (Qe []),.int .i64 e]
theorem Hg (n:Nat)(o o':BF):Qu n (λe=>o e && !o' e)=gj n (Qu n o) o':=by
 unfold Qu gj;rw[List.filter_filter];congr 1;funext c;rw[Bool.and_comm]
theorem qg {M:Nat}:∀{ls:List (List Nat)},(∀s∈ls,s.length<=M)->(Qo ls).length<=ls.length*(M+1)
 | [],_=>by simp[Qo]
 | s::ls,h=>by
  have ih:=qg (ls:=ls) (λt ht=>h t (by simp[ht]));have h1:=h s (by simp);rw[W0,Xs,vj,Nat.one_mul];simp only[Qy,Xs];omega
theorem np:∀(l:List Nat),(QZ l).length<=l.length/\∀s∈QZ l,s.length<=l.length
 | []=>⟨by simp[QZ],λs hs=>by simp[QZ] at hs⟩
 | b::l=>by
  obtain⟨h1,h2⟩:=np l;unfold QZ;split
  ·refine⟨by simp;omega,λs hs=>?_⟩;rcases Q0.1 hs with rfl | hs
   ·simp
   ·have:=h2 s hs;simp;omega
  ·cases hl:QZ l with
   | nil=>refine⟨by simp,λs hs=>?_⟩;rw[QF.1 hs];simp
   | cons t ls=>
    rw[hl] at h1 h2;refine⟨by simp at h1 ⊢;omega,λs hs=>?_⟩;rcases Q0.1 hs with rfl | hs
    ·have:=h2 t (by simp);simp;omega
    ·have:=h2 s (by simp[hs]);simp;omega
theorem Cc {nm:List (List Nat)}(h:∀s∈nm,s.length<=1000)(v:Nat)(ng:Bool):(JS nm v ng).length<=2100:=by
 unfold JS;have h1:((nm[v]?).getD []).length<=1000:=by
  cases hv:nm[v]? with
  | none=>simp
  | some s=>exact h s (Q2 hv)
 have h2:(if ng then [33] else([]:List Nat)).length<=1:=by cases ng<;>simp
 have h3:ZH.length=4:=rfl;simp only[Qy];omega
theorem iQM {nm:List (List Nat)}{f:Nat->List Nat}(hn:∀s∈nm,s.length<=1000){S:List Nat}(hS:S≠ [])(Lu:S.length<=16)(h:∀c∈S,(f c).length<=2000)(k v:Nat):(Qo (Xw nm f k v S)).length<=1000000000:=by
 obtain⟨h1,h2⟩:=kW (nm:=nm) (f:=f) (P:=λs=>s.length<=2100) (M:=2000) (λv ng=>Cc hn v ng) (by decide) (by decide) k v S hS (λc hc=>by
  obtain⟨a,b⟩:=np (f c);have:=h c hc;exact⟨λs hs=>by have:=b s hs;omega,by omega⟩)
 have h3:=qg h1;have h4:S.length*(2000+3)<=16*2003:=Y4 _ Lu;have h5:(Xw nm f k v S).length*(2100+1)<=32048*2101:=Y4 _ (by omega);omega
theorem Uf (n:Nat)(o:BF):(Qu n o).length<=2^n:=by
 unfold Qu;refine X2 (j6 _ _) ?_;rw[List.length_range];exact QD _
theorem tT (NA:Option Addr)(nn nc:Nat)(nm:List (List Nat))(x:DV)(PA:Option Addr)(pn pc:Nat)(ps:List (DV×List Nat))(fx:nm.length<=4)(JX:Jy nm)(Je:∀s∈nm,s.length<=1000)(WN:∀q∈ps,(∀b∈q.2,b<256)/\q.2.length<=2000)(w:World)
  (hN:Sl w 1 NA nn nc (Q9 nm)) (hx:SB w x.A x.n x.c x.nd) (hP:SlS Zt 3 w PA pn pc ps) (o7:∀q∈ps,SB w q.1.A q.1.n q.1.c q.1.nd):
  Fn Tryz.prog 24 [.slice NA nn nc,Xg x.A x.n x.c x.r,.slice PA pn pc] w (λu w'=>u=jt (bR nm x ps)/\Ext w w'):=by
 have Xf:nm.length=nn:=by have:=hN.len;rw[YO] at this;omega
 have hk:nm.length<=12:=by omega
 have Jt:=hP.2;have mQD:=hP.1.cap;have mQE:=hP.1.le;simp only[maxLen] at mQD;refine vX (c:={c24 with cuts:=[]}) Qa Tryz.func24 rfl rfl rfl ?_;refine ZQ (ZB Qa ?_);refine new (λw1 Qd Q3 Qh=>?_);refine new (λw2 Qg X0 Qv=>?_);refine new (λw3 Qi JF Qw=>?_);have KU:=Qg.trans Qi;have QQ:=Qd.trans KU;have QK:w1.heap.size≠w2.heap.size:=by omega
 refine ZQ (vW Qa rfl rfl rfl rfl ⟨_,_,_,_,rfl,rfl,?_⟩);refine ZQ (ZB Qa ?_);refine Qs (Qh.ext KU) rfl ?_;refine XP (Ua NA nn nc nm x hk JX w3 (hN.ext QQ) (hx.ext QQ)) ?_ ?_
 rotate_left
 ·rintro ch w4 ⟨Xa,rfl,Qq⟩;refine aD Qa rfl rfl (args:= #[.pointer (some ⟨w1.heap.size,0,none⟩),.pointer (some ⟨w2.heap.size,0,none⟩)]) (by simp) ((qf _ _ 1 w4 _ _ QK ((Qv.ext Qi).ext Qq) (Qw.ext Qq)).mono ?_);rintro e u' w5 ⟨v,rfl,fe,bw⟩;refine⟨v,rfl,fe,?_⟩;refine QC bw.1 rfl ?_;refine QC bw.2.1 rfl ?_;have hm:bR nm x ps= .error 1:=by
   unfold bR;rw[Qf (by
    by_cases h1:Zx nm=true
    ·exact .inr (YM.2 (λh2=>Xa ⟨h1,h2⟩))
    ·exact .inl (by simpa using h1))]
  rw[hm];exact⟨rfl,bw.2.2.ext (QQ.trans Qq) (λi hi=>by rcases hi with rfl | rfl<;>omega)⟩
 rintro _ w4 ⟨⟨Zm,Vs⟩,Qq⟩;have XI:=QQ.trans Qq;have sx:=eS Vs;have Jc:=(Qh.ext KU).ext Qq;have lX:=(Qv.ext Qi).ext Qq;have fG:=Qw.ext Qq;have hm:bR nm x ps=if Vo nm.length (Qu nm.length (oD x)) ps=false then .error 290
   else if ps=[] then .ok []
   else if 1048576<(Qo (Xw nm (fP (XN ps)) nm.length 0 (Qu nm.length (oD x)))).length then .error 2
   else .ok (Qo (Xw nm (fP (XN ps)) nm.length 0 (Qu nm.length (oD x)))):=by
  rw[bR,if_neg (by rw[Zm,Vs];simp)]
 generalize bR nm x ps=M at*;have yq:∀w',Ext w4 w'->Vo nm.length (Qu nm.length (oD x)) ps=false->∀w5,Cb w1.heap.size w2.heap.size 290 w' w5->Value.tuple #[.string ⟨#[]⟩,.int .i64 290]=jt M/\Ext w w5:=λw' eu hc w5 hR=>by
  refine⟨by rw[hm,Qf hc];rfl,hR.2.2.ext (XI.trans eu) (λi hi=>by rcases hi with rfl | rfl<;>omega)⟩
 refine ZQ (ZB Qa ?_);refine Qs Jc rfl ?_;refine new (λw5 Qz Kw QL=>?_);refine QB QL rfl (sc rfl) (λw6 Wg _ Xj=>?_);have XF:Ext w4 w6:=XY Qz QL Wg;have K5:=Qq.size;have nQr:=XF.size;refine ZQ (ZB Qa ?_);refine loop Qa [18] (λi:Nat=>[.int .i64 i]) (λi w'=>Mod (·=w4.heap.size) w6 w'/\i<=pn/\∃(R:DV) (oR:BF),Blk w' w4.heap.size 32 R.cells/\SB w' R.A R.n R.c R.nd/\Set1 nm.length R.nd R.r oR/\(∀ad,R.A=some ad->0<R.n->ad.block≠w4.heap.size)/\Vo nm.length (Qu nm.length (oD x)) ps=Vo nm.length (Qu nm.length oR) (ps.drop i)) (λi _=>pn-i) 0 rfl ⟨Mod.refl _ _,Xt _,x,oD x,Xj,(hx.ext XI).ext XF,sx,λad ea h0=>by have:=SB.lt (hx.ext XI) ad ea h0;omega,rfl⟩ ?_;rintro i w7 ⟨Xi,hi,R,oR,Q4,Kf,sR,hRn,ZV⟩;have Yi:Ext w4 w7:=Xi.ext XF (λj hj=>by omega);have Ki:=XI.trans Yi;have nQs:=Yi.size;have oe:=lX.ext Yi;have og:=fG.ext Yi;refine Qt (λc1=>?_) (λc1=>?_)
 ·have QN:i<pn:=by omega
  refine Zh gk (hP.ext Ki) rfl QN (λad q hq hc=>?_);have KY:=Q2 hq;obtain⟨q8,ql⟩:=WN q KY;have fO:ps.drop i=q::ps.drop (i+1):=by
   have Q5:=(Zw.1 hq).1;rw[bG Q5];congr 1;rw[Xb Q5] at hq;exact Option.some.inj hq
  rw[fO] at ZV;refine Kb (vs:=Zt q) rfl hc ?_;refine new (λw8 Q7 Ve XB=>?_);refine QB XB rfl (sc rfl) (λw9 bt _ Z8=>?_);have VG:Ext w7 w9:=XY Q7 XB bt;have nQt:=VG.size;have nX:=(o7 q KY).ext (Ki.trans VG);refine cw (vs:=[.slice q.1.A q.1.n q.1.c,.int .i64 q.1.r]) Z8 rfl (λj u hj=>by match j,hj with | 0,hj=>exact hj | 1,hj=>exact hj) ?_;rw[<-Xf];refine call (GQ q.1.A q.1.n q.1.c nm.length q.1.nd q.1.r w9 nX) ?_;rintro _ QE ⟨rfl,X7⟩;have bz:=VG.trans X7;have bad:∀w',Ext w7 w'->Vo nm.length (Qu nm.length oR) (q::ps.drop (i+1))=false->∀w5,Cb w1.heap.size w2.heap.size 290 w' w5->Value.tuple #[.string ⟨#[]⟩,.int .i64 290]=jt M/\Ext w w5:=λw' eu hc w5 hR=>yq w' (Yi.trans eu) (ZV.trans hc) w5 hR
  cases jX:JT nm.length q.1.nd q.1.r with
  | false=>
   refine Xe rfl ?_;refine XP (YV 290 (by decide) QE) (λ_ _ hf=>hf.elim) ?_;rintro ch _ ⟨rfl,rfl⟩;refine aD Qa rfl rfl (args:= #[.pointer (some ⟨w1.heap.size,0,none⟩),.pointer (some ⟨w2.heap.size,0,none⟩)]) (by simp) ((qf _ _ 290 QE _ _ QK (oe.ext bz) (og.ext bz)).mono ?_);rintro e u' QH ⟨v,rfl,lQl,Lv⟩;refine⟨v,rfl,lQl,?_⟩;refine QC Lv.1 rfl ?_;refine QC Lv.2.1 rfl ?_;exact bad QE bz (by
    refine YM.2 (λhh=>?_);rw[(BU.1 hh).1.1] at jX;cases jX) QH Lv
  | true=>
  have sq:=eS jX;have cV:=sq.root0;have Jb:=Z8.ext X7;refine Xv rfl ?_;refine Hf (j:=0) (i:=1) Jb rfl ?_;have l6:=BU (n:=nm.length) (R:=Qu nm.length oR) (p:=q) (ps:=ps.drop (i+1));refine XU (λhz=>?_) (λhz=>?_)
  ·refine XP (YV 290 (by decide) QE) (λ_ _ hf=>hf.elim) ?_;rintro ch _ ⟨rfl,rfl⟩;refine aD Qa rfl rfl (args:= #[.pointer (some ⟨w1.heap.size,0,none⟩),.pointer (some ⟨w2.heap.size,0,none⟩)]) (by simp) ((qf _ _ 290 QE _ _ QK (oe.ext bz) (og.ext bz)).mono ?_);rintro e u' VJ ⟨v,rfl,fz,ah⟩;refine⟨v,rfl,fz,?_⟩;refine QC ah.1 rfl ?_;refine QC ah.2.1 rfl ?_;exact bad QE bz (YM.2 (λhh=>(l6.1 hh).1.2.1 (cV.1 hz))) VJ ah
  ·refine cw (vs:=[.slice q.1.A q.1.n q.1.c,.int .i64 q.1.r]) Jb rfl (λj u hj=>by match j,hj with | 0,hj=>exact hj | 1,hj=>exact hj) ?_;refine Qs (Q4.ext bz) rfl ?_;refine call (S3 q.1.A q.1.n q.1.c q.1.nd q.1.r R.A R.n R.c R.nd R.r QE (nX.ext X7) (Kf.ext bz)) ?_;rintro _ QH ⟨rfl,Z4⟩;have dV:=bz.trans Z4;have zw:gZ q.1.nd q.1.r R.nd R.r=true↔∀c∈Qu nm.length (oD q.1),c∈Qu nm.length oR:=by
    rw[GU hk sq sR,Th sq.dep sR.dep];exact⟨λh c hc=>ZY.2 ⟨(ZY.1 hc).1,h c hc⟩,λh c hc=>(ZY.1 (h c hc)).2⟩
   cases pf:gZ q.1.nd q.1.r R.nd R.r with
   | false=>
    refine Xe rfl ?_;refine XP (YV 290 (by decide) QH) (λ_ _ hf=>hf.elim) ?_;rintro ch _ ⟨rfl,rfl⟩;refine aD Qa rfl rfl (args:= #[.pointer (some ⟨w1.heap.size,0,none⟩),.pointer (some ⟨w2.heap.size,0,none⟩)]) (by simp) ((qf _ _ 290 QH _ _ QK (oe.ext dV) (og.ext dV)).mono ?_);rintro e u' VJ ⟨v,rfl,fz,ah⟩;refine⟨v,rfl,fz,?_⟩;refine QC ah.1 rfl ?_;refine QC ah.2.1 rfl ?_;exact bad QH dV (YM.2 (λhh=>by rw[zw.2 (l6.1 hh).1.2.2.1] at pf;cases pf)) VJ ah
   | true=>
    refine Xv rfl ?_;have ZJ:=Jb.ext Z4;refine Qp ZJ rfl ?_;refine call (To q.2 QH q8 (by omega)) ?_;rintro _ QW ⟨rfl,Xu⟩;have cZ:=dV.trans Xu;cases Lw:JD q.2 with
    | false=>
     refine Xe rfl ?_;refine XP (YV 290 (by decide) QW) (λ_ _ hf=>hf.elim) ?_;rintro ch _ ⟨rfl,rfl⟩;refine aD Qa rfl rfl (args:= #[.pointer (some ⟨w1.heap.size,0,none⟩),.pointer (some ⟨w2.heap.size,0,none⟩)]) (by simp) ((qf _ _ 290 QW _ _ QK (oe.ext cZ) (og.ext cZ)).mono ?_);rintro e u' VJ ⟨v,rfl,fz,ah⟩;refine⟨v,rfl,fz,?_⟩;refine QC ah.1 rfl ?_;refine QC ah.2.1 rfl ?_;exact bad QW cZ (YM.2 (λhh=>by rw[(l6.1 hh).1.2.2.2] at Lw;cases Lw)) VJ ah
    | true=>
     refine Xv rfl ?_;refine Qs (Q4.ext cZ) rfl ?_;refine cw (vs:=[.slice q.1.A q.1.n q.1.c,.int .i64 q.1.r]) (ZJ.ext Xu) rfl (λj u hj=>by match j,hj with | 0,hj=>exact hj | 1,hj=>exact hj) ?_;refine call (eT hk R q.1 QW (Kf.ext cZ) ((o7 q KY).ext (Ki.trans cZ)) sR sq) ?_;rintro _ XM ⟨QA,Qn,Qc,Qnd,Qr,rfl,Xq,Ly,sQ,EC⟩;refine QB ((Q4.ext cZ).ext Xq) rfl (sc rfl) (λX1 cS _ Jc=>?_);have Kx:Mod (·=w4.heap.size) XM X1:=oQh cS rfl;refine Qj ((i+1:Nat):Int) (by show((i:Nat):Int)+1=_;omega) (by omega) ?_;have aQ:∀ad,QA=some ad->0<Qn->ad.block≠w4.heap.size:=λad ea h0=>by
      have:=EC ad.block ⟨ad,ea,rfl⟩;have:=cZ.size;have:=Q4.lt;omega
     have lQm:=cZ.trans Xq;refine⟨i+1,rfl,⟨(Xi.trans (Mod.of_ext (·=w4.heap.size) lQm) (λj hj=>.inl hj)).trans Kx (λj hj=>.inl hj),QN,⟨QA,Qn,Qc,Qnd,Qr⟩,_,Jc,Ly.modo Kx aQ,sQ,aQ,?_⟩,by show pn-(i+1)<pn-i;omega⟩;rw[ZV,Hg];have h1:JT nm.length q.1.nd q.1.r=true/\Qu nm.length (oD q.1)≠ []/\(∀c∈Qu nm.length (oD q.1),c∈Qu nm.length oR)/\JD q.2=true:=⟨jX,λe=>hz (cV.2 e),zw.1 pf,Lw⟩
     have h2:Vo nm.length (Qu nm.length oR) (q::ps.drop (i+1))=true↔Vo nm.length (gj nm.length (Qu nm.length oR) (oD q.1)) (ps.drop (i+1))=true:=l6.trans ⟨λh=>h.2,λh=>⟨h1,h⟩⟩;exact jZ.2 h2
 have QN:i=pn:=by omega
 have fO:ps.drop i=[]:=vw (by omega);rw[fO] at ZV;have hR0:=sR.root0;have ZV:Vo nm.length (Qu nm.length (oD x)) ps=decide (Qu nm.length oR=[]):=ZV;refine ZQ (ZB Qa ?_);refine Qp Q4 rfl ?_;refine Yt (λhz=>?_) (λhz=>?_)
 ·refine XP (YV 290 (by decide) w7) (λ_ _ hf=>hf.elim) ?_;rintro ch _ ⟨rfl,rfl⟩;refine aD Qa rfl rfl (args:= #[.pointer (some ⟨w1.heap.size,0,none⟩),.pointer (some ⟨w2.heap.size,0,none⟩)]) (by simp) ((qf _ _ 290 w7 _ _ QK oe og).mono ?_);rintro e u' VJ ⟨v,rfl,fz,ah⟩;refine⟨v,rfl,fz,?_⟩;refine QC ah.1 rfl ?_;refine QC ah.2.1 rfl ?_;exact yq w7 Yi (by rw[ZV];exact XS (λe=>hz (hR0.2 e))) VJ ah
 have et:Vo nm.length (Qu nm.length (oD x)) ps=true:=by rw[ZV];exact XT (hR0.1 hz)
 rw[if_neg (by rw[et];decide)] at hm;refine ZQ (ZB Qa ?_);refine XU (λh0=>?_) (λh0=>?_)
 ·have DS:ps=[]:=Ys (by omega);rw[Qf DS] at hm;refine KM oe (by simp[JY]) (λw8 Zo XB=>?_);refine KM (og.mod Zo QK.symm) (by simp[JY]) (λw9 X4 Z8=>?_);refine ga Qa rfl rfl (.inl rfl) (args:= #[.pointer (some ⟨w1.heap.size,0,none⟩),.pointer (some ⟨w2.heap.size,0,none⟩)]) (by simp) ((Uc _ _ w9).mono ?_);rintro e u' VJ ⟨v,rfl,fz,rfl⟩;refine⟨v,rfl,fz,?_⟩;refine QC (XB.mod X4 QK) rfl ?_;refine QC Z8 rfl ?_;exact⟨by rw[hm];rfl,X4.ext (Zo.ext Ki (λj hj=>by omega)) (λj hj=>by omega)⟩
 ·have DS:ps≠ []:=λe=>h0 (by rw[<-Jt,e];rfl)
  rw[if_neg DS] at hm;obtain⟨ZE,aQL⟩:=GP (λc hc=>(ZY.1 hc).1) et;have aQM:Qu nm.length (oD x)≠ []:=λe=>by
   obtain⟨q,hq⟩:=i5 _ DS;obtain⟨_,n1,_,n2⟩:=aQL q hq;obtain⟨c,hc⟩:=i5 _ n1;have:=n2 c hc;rw[e] at this;cases this
  refine ZB Qa ?_;refine Qs (Jc.ext Yi) rfl ?_;refine call (Tv NA nn nc nm x (oD x) PA pn pc ps nm.length fx rfl JX (λs hs=>by have:=Je s hs;omega) (λq hq=>by
   obtain⟨a,b,c,d⟩:=aQL q hq;obtain⟨e1,e2⟩:=WN q hq;exact⟨a,c,e1,by omega⟩) w7 (hN.ext Ki) (hx.ext Ki) sx (hP.ext Ki) (λq hq=>(o7 q hq).ext Ki) aQM ZE) ?_
  rintro _ w8 ⟨A8,c8,rfl,Q7,bq⟩;have Kk:∀c∈Qu nm.length (oD x),(fP (XN ps) c).length<=2000:=λc hc=>by
   obtain⟨p,hp,KB⟩:=ZE.cov c hc;rw[ZE.get hc hp KB];obtain⟨q,hq,rfl⟩:=ZM.1 hp;exact(WN q hq).2
  have Wt:(Qu nm.length (oD x)).length<=16:=X2 (Uf _ _) (X2 (Y6 (by decide) fx) (by decide));have nQ8:=iQM Je aQM Wt Kk nm.length 0;generalize Xw nm (fP (XN ps)) nm.length 0 (Qu nm.length (oD x))=W at*;refine XP (T9 A8 _ c8 W w8 bq (by omega)) ?_ ?_
  rotate_left
  ·rintro ch _ ⟨rC,rfl,rfl⟩;rw[Qf rC] at hm;refine aD Qa rfl rfl (args:= #[.pointer (some ⟨w1.heap.size,0,none⟩),.pointer (some ⟨w2.heap.size,0,none⟩)]) (by simp) ((qf _ _ 2 w8 _ _ QK (oe.ext Q7) (og.ext Q7)).mono ?_);rintro e u' VJ ⟨v,rfl,fz,ah⟩;refine⟨v,rfl,fz,?_⟩;refine QC ah.1 rfl ?_;refine QC ah.2.1 rfl ?_;exact⟨by rw[hm];rfl,ah.2.2.ext (Ki.trans Q7) (λi hi=>by rcases hi with rfl | rfl<;>omega)⟩
  rintro _ w9 ⟨J9,rfl,Xo⟩;rw[if_neg (by omega)] at hm;have VG:=Q7.trans Xo;refine KM (oe.ext VG) (by simp[JY]) (λQE Zu Jb=>?_);refine KM ((og.ext VG).mod Zu QK.symm) (by simp[JY]) (λQH Zy ZJ=>?_);refine ga Qa rfl rfl (.inl rfl) (args:= #[.pointer (some ⟨w1.heap.size,0,none⟩),.pointer (some ⟨w2.heap.size,0,none⟩)]) (by simp) ((Uc _ _ QH).mono ?_);rintro e u' VJ ⟨v,rfl,fz,rfl⟩;refine⟨v,rfl,fz,?_⟩;refine QC (Jb.mod Zy QK) rfl ?_;refine QC ZJ rfl ?_;exact⟨by rw[hm];rfl,Zy.ext (Zu.ext (Ki.trans VG) (λj hj=>by omega)) (λj hj=>by omega)⟩
theorem Ug {ls:List (List Nat)}(hL:gg ls){a:Nat}{s:List Nat}(h:(a,s)∈JK 0 ls):∃pre WT,Qo ls=pre++(s++10::WT)/\pre.length=a/\YC pre/\10∉s:=by
 obtain⟨i,h1,h2⟩:=TZ h;have Q5:=(Zw.1 h1).1;have hs:ls[i]=s:=by rw[Xb Q5] at h1;exact Option.some.inj h1
 refine⟨Qo (ls.take i),Qo (ls.drop (i+1)),?_,by omega,R2 _,hL s (Q2 h1)⟩;have hu:∀a b:List (List Nat),Qo (a++b)=Qo a++Qo b:=λa b=>by simp[Qo]
 have e:ls=ls.take i++s::ls.drop (i+1):=by
  have:=(mj i ls).symm;rw[bG Q5,hs] at this;exact this
 have e2:=QO Qo e;rw[hu,W0] at e2;exact e2
theorem Hh {l:List Nat}(hl:∀x∈l,x<256){j b:Nat}(h:l[j]? =some b):(((Qe l).data[j]!).toNat:Int)=b:=by
 have Q5:=(Zw.1 h).1;have hb:=hl b (Q2 h);have e:(Qe l).data[j]! =UInt8.ofNat b:=by
  have:(Qe l).data=(l.map UInt8.ofNat).toArray:=rfl;rw[this,getElem!_def,NO,Vi,h]<;>rfl
 rw[e];have:(UInt8.ofNat b).toNat=b:=by simp[iX hb]
 rw[this]
theorem Uh {ls:List (List Nat)}(hL:gg ls)(h8:∀x∈Qo ls,x<256){a x:Nat}{s:List Nat}(h:(a,s)∈JK 0 ls)(h1:a<=x)(h2:x<=a+s.length):Lib.lastIndexByte (Qe ((Qo ls).take x)) 10=(a:Int)-1:=by
 obtain⟨pre,WT,e,hp,ht,hs⟩:=Ug hL h;have Xf:x<=(Qo ls).length:=by rw[e];simp;omega
 have XG:(Qe ((Qo ls).take x)).size=x:=by rw[XC,KZ];omega
 have Lz:∀y∈(Qo ls).take x,y<256:=λy hy=>h8 y (bF hy)
 have Ee:∀j,j<x->((Qo ls).take x)[j]? =(Qo ls)[j]? :=λj hj=>mt hj
 have QN:∀j,a<=j->j<x->((Qo ls).take x)[j]? ≠some 10:=λj ha hj hh=>by
  rw[Ee j hj,e,aU (by omega),hp,ew (by omega)] at hh;exact hs (Q2 hh)
 have ne:∀j,j<x->∃b,((Qo ls).take x)[j]? =some b:=λj hj=>⟨_,Xb (by rw[KZ];omega)⟩
 have uL:0<a->((Qo ls).take x)[a-1]? =some 10∨x<a:=λh0=>by
  left
  rw[Ee (a-1) (by omega),e,ew (by omega)];rcases ht with ht | ht
  ·subst ht;simp at hp;omega
  ·rw[pm,hp] at ht;exact ht
 rcases Lib.lastIndexByte_spec (Qe ((Qo ls).take x)) 10 with⟨k1,k2⟩ | ⟨i,i1,i2,i3,i4⟩
 ·rw[k1];by_cases h0:a=0
  ·subst h0;rfl
  ·exfalso;rcases uL (by omega)with hh | hh
   ·have:=Hh Lz hh;exact k2 (a-1) (by rw[XG];omega) (by rw[this];rfl)
   ·omega
 ·rw[XG] at i1;obtain⟨b,hb⟩:=ne i i1;have qS:b=10:=by
   have:=Hh Lz hb;rw[this] at i3
   exact_mod_cast i3
  subst qS;rw[i2];have hia:i<a:=by
   apply Classical.byContradiction;intro hh;exact QN i (by omega) i1 hb
  rcases uL (by omega)with hh | hh
  ·have ZO:i=a-1:=by
    apply Classical.byContradiction;intro xx;have:=Hh Lz hh;exact i4 (a-1) (by omega) (by rw[XG];omega) (by rw[this];rfl)
   omega
  ·omega
theorem Ui {ls:List (List Nat)}(hL:gg ls){a:Nat}{s:List Nat}(h:(a,s)∈JK 0 ls):gW 10 ((Qo ls).drop a)=s.length/\((Qo ls).drop a).take (s.length+1)=s++ [10]:=by
 obtain⟨pre,WT,e,hp,ht,hs⟩:=Ug hL h;have e2:(Qo ls).drop a=s++10::WT:=by rw[e,<-hp,zW]
 rw[e2];constructor
 ·unfold gW;rw[Qf (by simp)];congr 1;clear e e2 h;induction s with
  | nil=>simp
  | cons b s ih=>
   simp only[Q0,not_or] at hs;rw[YK,WW,Qf (by simpa using λe:b=10=>hs.1 e.symm),Xs,ih hs.2,Xs]
 ·rw[show s++10::WT=(s++ [10])++WT by simp,List.take_left' (by simp)]
theorem Uj {ls:List (List Nat)}{e:Ed}(h:(JK 0 ls).any (jr e)=true):0<=e.fr/\e.fr<=e.to_/\e.to_<(Qo ls).length:=by
 obtain⟨⟨a,s⟩,hm,hp⟩:=vv.1 h;obtain⟨p1,p2,p3,p4⟩:=eB hp;have:=nj hm;simp only at p1 p2;omega
def Kv (e:EdV):List Value:=[.int .i64 e.fr,.int .i64 e.to_,.string (Qe e.tx),.slice e.x.A e.x.n e.x.c,.int .i64 e.x.r]
theorem qh (e:EdV):(Kv e).length=5:=rfl
structure EP where
 eb:Nat
 NA:Option Addr
 nn:Nat
 nc:Nat
 nm:List (List Nat)
 x:DV
 f:List Nat
 EA:Option Addr
 en:Nat
 ec:Nat
 es:List EdV
structure EK (w:World) (p:EP):Prop where
 blk:Blk w p.eb 99 [.slice p.NA p.nn p.nc,.slice p.x.A p.x.n p.x.c,.int .i64 p.x.r,.string (Qe p.f),.slice p.EA p.en p.ec]
 nms:Sl w 1 p.NA p.nn p.nc (Q9 p.nm)
 eds:SlS Kv 5 w p.EA p.en p.ec p.es
 sbs:∀e∈p.es,SB w e.x.A e.x.n e.x.c e.x.nd
theorem EK.ext {w w':World}{p:EP}(h:EK w p)(k:Ext w w'):EK w' p:=⟨h.blk.ext k,h.nms.ext k,h.eds.ext k,λe he=>(h.sbs e he).ext k⟩
structure EB (p:EP):Prop where
 n4:p.nm.length<=4
 nb:Jy p.nm
 nl:∀s∈p.nm,s.length<=1000
 f8:∀b∈p.f,b<256
 fl:p.f.length<=60000
 ok:YC p.f
 i64:∀e∈p.es, -9223372036854775808<=e.fr/\e.fr<=9223372036854775807/\ -9223372036854775808<=e.to_/\e.to_<=9223372036854775807
 t8:∀e∈p.es,∀b∈e.tx,b<256
 tl:∀e∈p.es,e.tx.length<=1000
 el:p.es.length<=10
abbrev tU (p:EP):Prop:=p.es.all (λe=>JT p.nm.length e.x.nd e.x.r)=true/\ld p.nm.length p.f 0 (p.es.map EdV.ed)=true
def ju (p:EP)(i:Nat):Int:=if i=0 then 0 else((p.es[i-1]?).map (·.fr)).getD 0
abbrev wX (p:EP)(i:Nat):Prop:=(p.es.drop i).all (λe=>JT p.nm.length e.x.nd e.x.r)=true/\ld p.nm.length p.f (ju p i) ((p.es.drop i).map EdV.ed)=true
theorem iQN {p:EP}{i:Nat}{e:EdV}(h:p.es[i]? =some e):wX p i↔(JT p.nm.length e.x.nd e.x.r=true/\Qu p.nm.length (oD e.x)≠ []/\(JK 0 (QZ p.f)).any (jr e.ed)=true/\ju p i<=e.fr)/\wX p (i+1):=by
 have Q5:=(Zw.1 h).1;have hd:p.es.drop i=e::p.es.drop (i+1):=by
  rw[bG Q5];congr 1;rw[Xb Q5] at h;exact Option.some.inj h
 have hp:ju p (i+1)=e.fr:=by unfold ju;rw[if_neg (by omega),show i+1-1=i by omega,h]<;>rfl
 unfold wX;rw[hd,hp];simp only[vl,WA,ld,G8,Jv,Vb];constructor
 ·rintro⟨⟨a,b⟩,⟨⟨c,d⟩,e1⟩,f⟩;exact⟨⟨a,c,d,e1⟩,b,f⟩
 ·rintro⟨⟨a,c,d,e1⟩,b,f⟩;exact⟨⟨a,b⟩,⟨⟨c,d⟩,e1⟩,f⟩
theorem Uk (l:List Nat)(w:World)(hl:l.length<=1000000000):
  Fn Tryz.prog 93 [.string (Qe l),.int .u8 10] w (λv w'=>v= .int .i64 (Lib.lastIndexByte (Qe l) 10)/\w=w'):=
 wH (Tryz.strings_LastIndexByte (Qe l) 10 (by rw[XC];omega) w)
theorem iQO (p:EP)(hB:EB p)(w:World)(K:EK w p):
  FnP Tryz.prog 45 [.pointer (some ⟨p.eb,0,none⟩)] w (λ_ w'=>tU p/\Ext w w') (λch w'=>¬tU p/\ch=js 291/\Ext w w'):=by
 have ED:=K.eds.2;have Ng:=K.eds.1.cap;have mQF:=K.eds.1.le;simp only[maxLen] at Ng;have Xf:p.nm.length=p.nn:=by have:=K.nms.len;rw[YO] at this;omega
 refine aX (c:={c45 with cuts:=[]}) Qa Tryz.func45 rfl rfl rfl ?_;refine Qp K.blk rfl ?_;refine loop Qa [11] (λi:Nat=>[.int .i64 i]) (λi w'=>Ext w w'/\i<=p.en/\(tU p↔wX p i)) (λi _=>p.en-i) 0 rfl ⟨Ext.refl _,Xt _,Iff.rfl⟩ ?_;rintro i w1 ⟨Qd,hi,jP⟩;refine Qt (λc1=>?_) (λc1=>?_)
 ·have QN:i<p.en:=by omega
  refine Zh qh (K.eds.ext Qd) rfl QN (λad e he hc=>?_);have jY:=Q2 he;obtain⟨i1,i2,i3,i4⟩:=hB.i64 e jY;rw[iQN he] at jP;refine Kb (vs:=Kv e) rfl hc ?_;refine new (λw2 Qg X0 Qv=>?_);refine QB Qv rfl (sc rfl) (λw3 ZZ _ Qw=>?_);have Xq:Ext w1 w3:=XY Qg Qv ZZ;have QQ:=Qd.trans Xq;have K3:=K.ext QQ;have hd:=Ext.drew w3;have Ei:∀{w':World} (Qb:Ext w3 w') (j:Nat) (u:Value),(Kv e)[3+j]? =some u->w'.cell? (((⟨w1.heap.size,0,none⟩:Addr).add 3).add j)=some u:=λQb j u hj=>by rw[add_add,(Qw.ext Qb).cell];exact hj
  refine Xy Qa (Ext w3) 55 [(true,0),(true,1),(true,2),(true,3),(true,4),(true,5),(true,6),(false,7),(true,8),(true,9),(true,10),(true,11),(true,12),(true,13),(true,14),(true,15),(true,16),(true,17),(true,18),(true,19),(true,20),(true,21),(true,22),(true,23),(true,24),(true,25),(true,26),(true,27),(true,28),(true,29),(true,30),(true,31),(true,32),(true,33),(true,34),(true,35),(true,36),(true,37),(true,38),(true,39),(true,40),(true,41),(true,42),(true,43),(true,44),(true,45),(true,46),(true,47),(true,48),(true,49),(true,50),(true,51),(true,52),(true,53),(true,54)] (by kernel_rfl) hd ?_;refine Xr (vs:=[.slice e.x.A e.x.n e.x.c,.int .i64 e.x.r]) rfl (λw' Qb j u hj=>Ei Qb j u (by match j,hj with | 0,hj=>exact hj | 1,hj=>exact hj)) ?_;refine QJ (v:=.slice p.NA p.nn p.nc) (λw' Qb=>(K3.blk.ext Qb).cell 0) ?_;rw[<-Xf];refine call (GQ e.x.A e.x.n e.x.c p.nm.length e.x.nd e.x.r w3.drew ((K3.sbs e jY).ext hd)) ?_;rintro _ w4 ⟨rfl,Qq⟩;have K6:=hd.trans Qq;have XI:=QQ.trans K6;refine⟨K6,?_⟩;have no:¬(JT p.nm.length e.x.nd e.x.r=true/\Qu p.nm.length (oD e.x)≠ []/\(JK 0 (QZ p.f)).any (jr e.ed)=true/\ju p i<=e.fr)->¬tU p:=λXa hh=>Xa (jP.1 hh).1
  have Ni:(JK 0 (QZ p.f)).any (jr e.ed)=true->0<=e.fr/\e.fr<=e.to_/\e.to_<p.f.length:=λh=>by
   have:=Uj h;rw[aG hB.ok] at this;exact this
  have er:=XC p.f;cases Vs:JT p.nm.length e.x.nd e.x.r with
  | false=>
   refine Xe rfl ?_;refine XP (YV 291 (by decide) w4) (λ_ _ hf=>hf.elim) ?_;rintro ch _ ⟨rfl,rfl⟩;exact⟨no (λhh=>by rw[Vs] at hh;cases hh.1),rfl,XI⟩
  | true=>
   refine Xv rfl ?_;have se:=eS Vs;have cV:=se.root0;refine QJ (v:=.int .i64 e.x.r) (λw' Qb=>Ei Qb 1 _ rfl) ?_;refine XU (λhz=>?_) (λhz=>?_)
   ·refine XP (YV 291 (by decide) w4) (λ_ _ hf=>hf.elim) ?_;rintro ch _ ⟨rfl,rfl⟩;exact⟨no (λhh=>hh.2.1 (cV.1 hz)),rfl,XI⟩
   refine QJ (v:=.int .i64 e.fr) (λw' Qb=>(Qw.ext Qb).cell 0) ?_;refine Qt (λh1=>?_) (λh1=>?_)
   ·refine XP (YV 291 (by decide) w4) (λ_ _ hf=>hf.elim) ?_;rintro ch _ ⟨rfl,rfl⟩;exact⟨no (λhh=>by have:=Ni hh.2.2.1;omega),rfl,XI⟩
   refine QJ (v:=.int .i64 e.to_) (λw' Qb=>(Qw.ext Qb).cell 1) ?_;refine QJ (v:=.int .i64 e.fr) (λw' Qb=>(Qw.ext Qb).cell 0) ?_;refine Qt (λh2=>?_) (λh2=>?_)
   ·refine XP (YV 291 (by decide) w4) (λ_ _ hf=>hf.elim) ?_;rintro ch _ ⟨rfl,rfl⟩;exact⟨no (λhh=>by have:=Ni hh.2.2.1;omega),rfl,XI⟩
   refine QJ (v:=.int .i64 e.to_) (λw' Qb=>(Qw.ext Qb).cell 1) ?_;refine QJ (v:=.string (Qe p.f)) (λw' Qb=>(K3.blk.ext Qb).cell 3) ?_;refine Qt (λh3=>?_) (λh3=>?_)
   ·refine XP (YV 291 (by decide) w4) (λ_ _ hf=>hf.elim) ?_;rintro ch _ ⟨rfl,rfl⟩;exact⟨no (λhh=>by have:=Ni hh.2.2.1;omega),rfl,XI⟩
   have hi8:(i:Int)<=9223372036854775807:=by omega
   refine Qt (λh4=>?_) (λh4=>?_)
   ·have hi0:0<i:=by omega
    refine QJ (v:=.int .i64 e.fr) (λw' Qb=>(Qw.ext Qb).cell 0) ?_;refine QJ (v:=.slice p.EA p.en p.ec) (λw' Qb=>(K3.blk.ext Qb).cell 4) ?_;refine Qj ((i-1:Nat):Int) (by omega) (by omega) ?_;refine Zh qh K3.eds rfl (by omega) (λLB e2 he2 KV=>?_);refine QJ (v:=.int .i64 e2.fr) (λw' Qb=>(Qb.cell (KV 0 _ rfl))) ?_;have hpv:ju p i=e2.fr:=by unfold ju;rw[if_neg (by omega),he2]<;>rfl
    refine Qt (λh9=>?_) (λh9=>?_)
    ·refine XP (YV 291 (by decide) w4) (λ_ _ hf=>hf.elim) ?_;rintro ch _ ⟨rfl,rfl⟩;exact⟨no (λhh=>by have:=hh.2.2.2;rw[hpv] at this;omega),rfl,XI⟩
    have Nj:ju p i<=e.fr:=by rw[hpv];omega
    have gq:e.fr=(e.fr.toNat:Int):=by omega
    obtain⟨a,s,hm,a1,a2⟩:=Ha (ls:=QZ p.f) (p:=0) (x:=e.fr.toNat) (Xt _) (by rw[aG hB.ok];omega);have iU:=mT p.f;have JV:=aG hB.ok;have zz:=Uh iU (by rw[JV];exact hB.f8) hm a1 a2;have gI:=Ui iU hm;have zA:=nj hm;rw[JV] at zz gI zA;have r6:=T3 (e:=e.ed) hm (by show(a:Int)<=e.fr;omega) (by show e.fr<=a+s.length;omega) (by show e.fr<=e.to_;omega);have q7:=Ext.drew w4;refine Xy Qa (Ext w4) 10 [(true,0),(true,1),(true,2),(true,3),(true,4),(true,5),(true,6),(false,7),(true,8),(true,9)] (by kernel_rfl) q7 ?_;refine QJ (v:=.string (Qe p.f)) (λw' Qb=>((K3.blk.ext K6).ext Qb).cell 3) ?_;refine QJ (v:=.int .i64 e.fr) (λw' Qb=>((Qw.ext K6).ext Qb).cell 0) ?_;refine Jz (v':=.string (Qe (p.f.take e.fr.toNat))) ⟨by omega,by omega,by rw[er];omega⟩ (by rw[Vc];rfl) ?_;refine call (Uk (p.f.take e.fr.toNat) w4.drew (by rw[KZ];have:=hB.fl;omega)) ?_;rintro _ _ ⟨rfl,rfl⟩;refine⟨q7,?_⟩;rw[zz];refine Qj (a:Int) (by omega) (by have:=hB.fl;omega) ?_;have l9:=K6.trans q7;have fR:=QQ.trans l9;refine Qp (K3.blk.ext l9) rfl ?_;refine Jz (v':=.string (Qe (p.f.drop a))) ⟨by omega,by rw[er];omega,by rw[er];omega⟩ (by
     rw[Vc,er];show Value.string (Qe ((p.f.take p.f.length).drop _))=_;rw[Zz (QD _)];rfl) ?_
    refine call (Gj (p.f.drop a) 10 w4.drew (λx hx=>hB.f8 x (av hx)) (by decide)) ?_;rintro _ _ ⟨rfl,rfl⟩;rw[gI.1];refine Qj ((a+s.length:Nat):Int) (by omega) (by have:=hB.fl;omega) ?_;refine Qp (Qw.ext l9) rfl ?_;refine Qt (λh5=>?_) (λh5=>?_)
    ·refine XP (YV 291 (by decide) w4.drew) (λ_ _ hf=>hf.elim) ?_;rintro ch _ ⟨rfl,rfl⟩;exact⟨no (λhh=>by have h7:=hh.2.2.1;rw[r6,Vb] at h7;have h8:e.to_<=_:=h7.1;omega),rfl,fR⟩
    refine Qp (K3.blk.ext l9) rfl ?_;refine Qj ((a+s.length+1:Nat):Int) (by omega) (by have:=hB.fl;omega) ?_;refine Jz (v':=.string (Qe (s++ [10]))) ⟨by omega,by omega,by rw[er];omega⟩ (by
     rw[Vc];show Value.string (Qe ((p.f.take (a+s.length+1)).drop a))=_;rw[gL,show a+s.length+1-a=s.length+1 by omega,gI.2]) ?_
    have lJ:∀b∈s++ [10],b<256:=λb hb=>by
     rw[<-gI.2] at hb;exact hB.f8 b (av (bF hb))
    refine call (BK (s++ [10]) w4.drew lJ) ?_;rintro _ w6 ⟨rfl,Xh⟩;have XD:=fR.trans Xh;rw[wL];refine Qt (λh6=>?_) (λh6=>?_)
    ·refine XP (YV 291 (by decide) w6) (λ_ _ hf=>hf.elim) ?_;rintro ch _ ⟨rfl,rfl⟩;exact⟨no (λhh=>by have h7:=hh.2.2.1;rw[r6,Vb] at h7;exact h6 h7.2),rfl,XD⟩
    refine Qj ((i+1:Nat):Int) (by show((i:Nat):Int)+1=_;omega) (by omega) ?_;have Nk:(JK 0 (QZ p.f)).any (jr e.ed)=true:=by
     rw[r6,Vb];exact⟨by show e.to_<=_;omega,Decidable.not_not.1 h6⟩
    exact⟨i+1,rfl,⟨XD,QN,jP.trans ⟨λh=>h.2,λh=>⟨⟨Vs,λe0=>hz (cV.2 e0),Nk,Nj⟩,h⟩⟩⟩,by show p.en-(i+1)<p.en-i;omega⟩
   ·have hi0:i=0:=by omega
    have Nj:ju p i<=e.fr:=by unfold ju;rw[Qf hi0];omega
    have gq:e.fr=(e.fr.toNat:Int):=by omega
    obtain⟨a,s,hm,a1,a2⟩:=Ha (ls:=QZ p.f) (p:=0) (x:=e.fr.toNat) (Xt _) (by rw[aG hB.ok];omega);have iU:=mT p.f;have JV:=aG hB.ok;have zz:=Uh iU (by rw[JV];exact hB.f8) hm a1 a2;have gI:=Ui iU hm;have zA:=nj hm;rw[JV] at zz gI zA;have r6:=T3 (e:=e.ed) hm (by show(a:Int)<=e.fr;omega) (by show e.fr<=a+s.length;omega) (by show e.fr<=e.to_;omega);have q7:=Ext.drew w4;refine Xy Qa (Ext w4) 10 [(true,0),(true,1),(true,2),(true,3),(true,4),(true,5),(true,6),(false,7),(true,8),(true,9)] (by kernel_rfl) q7 ?_;refine QJ (v:=.string (Qe p.f)) (λw' Qb=>((K3.blk.ext K6).ext Qb).cell 3) ?_;refine QJ (v:=.int .i64 e.fr) (λw' Qb=>((Qw.ext K6).ext Qb).cell 0) ?_;refine Jz (v':=.string (Qe (p.f.take e.fr.toNat))) ⟨by omega,by omega,by rw[er];omega⟩ (by rw[Vc];rfl) ?_;refine call (Uk (p.f.take e.fr.toNat) w4.drew (by rw[KZ];have:=hB.fl;omega)) ?_;rintro _ _ ⟨rfl,rfl⟩;refine⟨q7,?_⟩;rw[zz];refine Qj (a:Int) (by omega) (by have:=hB.fl;omega) ?_;have l9:=K6.trans q7;have fR:=QQ.trans l9;refine Qp (K3.blk.ext l9) rfl ?_;refine Jz (v':=.string (Qe (p.f.drop a))) ⟨by omega,by rw[er];omega,by rw[er];omega⟩ (by
     rw[Vc,er];show Value.string (Qe ((p.f.take p.f.length).drop _))=_;rw[Zz (QD _)];rfl) ?_
    refine call (Gj (p.f.drop a) 10 w4.drew (λx hx=>hB.f8 x (av hx)) (by decide)) ?_;rintro _ _ ⟨rfl,rfl⟩;rw[gI.1];refine Qj ((a+s.length:Nat):Int) (by omega) (by have:=hB.fl;omega) ?_;refine Qp (Qw.ext l9) rfl ?_;refine Qt (λh5=>?_) (λh5=>?_)
    ·refine XP (YV 291 (by decide) w4.drew) (λ_ _ hf=>hf.elim) ?_;rintro ch _ ⟨rfl,rfl⟩;exact⟨no (λhh=>by have h7:=hh.2.2.1;rw[r6,Vb] at h7;have h8:e.to_<=_:=h7.1;omega),rfl,fR⟩
    refine Qp (K3.blk.ext l9) rfl ?_;refine Qj ((a+s.length+1:Nat):Int) (by omega) (by have:=hB.fl;omega) ?_;refine Jz (v':=.string (Qe (s++ [10]))) ⟨by omega,by omega,by rw[er];omega⟩ (by
     rw[Vc];show Value.string (Qe ((p.f.take (a+s.length+1)).drop a))=_;rw[gL,show a+s.length+1-a=s.length+1 by omega,gI.2]) ?_
    have lJ:∀b∈s++ [10],b<256:=λb hb=>by
     rw[<-gI.2] at hb;exact hB.f8 b (av (bF hb))
    refine call (BK (s++ [10]) w4.drew lJ) ?_;rintro _ w6 ⟨rfl,Xh⟩;have XD:=fR.trans Xh;rw[wL];refine Qt (λh6=>?_) (λh6=>?_)
    ·refine XP (YV 291 (by decide) w6) (λ_ _ hf=>hf.elim) ?_;rintro ch _ ⟨rfl,rfl⟩;exact⟨no (λhh=>by have h7:=hh.2.2.1;rw[r6,Vb] at h7;exact h6 h7.2),rfl,XD⟩
    refine Qj ((i+1:Nat):Int) (by show((i:Nat):Int)+1=_;omega) (by omega) ?_;have Nk:(JK 0 (QZ p.f)).any (jr e.ed)=true:=by
     rw[r6,Vb];exact⟨by show e.to_<=_;omega,Decidable.not_not.1 h6⟩
    exact⟨i+1,rfl,⟨XD,QN,jP.trans ⟨λh=>h.2,λh=>⟨⟨Vs,λe0=>hz (cV.2 e0),Nk,Nj⟩,h⟩⟩⟩,by show p.en-(i+1)<p.en-i;omega⟩
 ·have QN:i=p.en:=by omega
  have ep:p.es.drop i=[]:=vw (by omega);exact⟨jP.2 (by unfold wX;rw[ep];exact⟨rfl,rfl⟩),Qd⟩
def cQ (n:Nat)(f:List Nat)(o:BF)(a:Nat)(es:List Ed):List AV:=es.foldl (λvs e=>vs.flatMap (Ye n f e)) [⟨o,[],a⟩]
theorem iQP (n:Nat)(f:List Nat)(o:BF)(a:Nat)(es:List Ed)(e:Ed):cQ n f o a (es++ [e])=(cQ n f o a es).flatMap (Ye n f e):=by unfold cQ;rw[NY]<;>rfl
theorem dO {α:Type}{l:List α}{i:Nat}{x:α}(h:l[i]? =some x):l.take (i+1)=l.take i++ [x]:=by rw[KC,h]<;>rfl
theorem Cd {n:Nat}{f:List Nat}{o:BF}{a:Nat}(QK:Qu n o≠ []):∀(es:List Ed),VI n f (Qu n o) a es (cQ n f o a es):=by
 have key:∀(es pre:List Ed) (vs:List AV),VI n f (Qu n o) a pre vs->VI n f (Qu n o) a (pre++es) (es.foldl (λvs e=>vs.flatMap (Ye n f e)) vs):=by
  intro es;induction es with
  | nil=>intro pre vs h;simpa using h
  | cons e es ih=>
   intro pre vs h;have:=ih (pre++ [e]) (vs.flatMap (Ye n f e)) (h.step (λc hc=>(ZY.1 hc).1) e);simpa using this
 intro es;have:=key es [] _ (VI.start (f:=f) (a:=a) QK);rw[dw] at this;exact this
theorem iQQ (n:Nat)(f:List Nat)(e:Ed)(v:AV):(Ye n f e v).length<=2:=by
 unfold Ye;split
 ·split<;>simp
 ·simp only[Xs];split<;>simp
theorem Hi (n:Nat)(f:List Nat)(e:Ed):∀vs:List AV,(vs.flatMap (Ye n f e)).length<=2*vs.length
 | []=>by simp
 | v::vs=>by
  rw[au,Qy,Xs];have:=iQQ n f e v;have:=Hi n f e vs;omega
theorem iQR (n:Nat)(f:List Nat)(o:BF)(a:Nat):∀(es:List Ed),(cQ n f o a es).length<=2^es.length:=by
 have key:∀(es:List Ed) (vs:List AV),(es.foldl (λvs e=>vs.flatMap (Ye n f e)) vs).length<=2^es.length*vs.length:=by
  intro es;induction es with
  | nil=>intro vs;simp
  | cons e es ih=>
   intro vs;have h1:=ih (vs.flatMap (Ye n f e));have h2:=Hi n f e vs;have h3:=Nat.mul_le_mul_left (2^es.length) h2;rw[vh,Xs,my,Nat.mul_assoc];omega
 intro es;have:=key es [⟨o,[],a⟩];simpa [cQ] using this
structure VB (B T:Nat) (v:AV):Prop where
 b8:∀b∈v.d,b<256
 ln:v.d.length<=B
 at_:v.a<=T
theorem qi (f:List Nat)(a b:Nat):(Kc f a b).length<=f.length:=by unfold Kc;rw[KZ,Y5];omega
theorem tV {f:List Nat}(h:∀b∈f,b<256)(x y:Nat):∀b∈Kc f x y,b<256:=λb hb=>h b (av (bF hb))
theorem VB.step {B T:Nat}{v:AV}(h:VB B T v){n:Nat}{f:List Nat}{e:Ed}(hf:∀b∈f,b<256)(Kk:f.length<=60000)(ht:∀b∈e.tx,b<256)(V5:e.tx.length<=1000)(he:e.to_.toNat<=T):∀u∈Ye n f e v,VB (B+70000) T u:=λu hu=>by
 unfold Ye at hu;split at hu
 ·split at hu
  ·cases hu
  ·rw[QF.1 hu];exact⟨h.b8,by have:=h.ln;omega,h.at_⟩
 ·rcases Q0.1 hu with rfl | hu
  ·refine⟨λb hb=>?_,?_,he⟩
   ·simp only[XH] at hb;rcases hb with(hb | hb) | hb
    ·exact h.b8 b hb
    ·exact tV hf _ _ b hb
    ·exact ht b hb
   ·simp only[Qy];have:=h.ln;have:=qi f v.a e.fr.toNat;omega
  ·split at hu
   ·cases hu
   ·rw[QF.1 hu];exact⟨h.b8,by have:=h.ln;simp only;omega,h.at_⟩
theorem iQS {n:Nat}{f:List Nat}{o:BF}{a T:Nat}(hf:∀b∈f,b<256)(Kk:f.length<=60000)(haT:a<=T):∀(es:List Ed),(∀e∈es,(∀b∈e.tx,b<256)/\e.tx.length<=1000/\e.to_.toNat<=T)->∀v∈cQ n f o a es,VB (es.length*70000) T v:=by
 have key:∀(es:List Ed) (vs:List AV) (B:Nat),(∀e∈es,(∀b∈e.tx,b<256)/\e.tx.length<=1000/\e.to_.toNat<=T)->(∀v∈vs,VB B T v)->∀v∈es.foldl (λvs e=>vs.flatMap (Ye n f e)) vs,VB (B+es.length*70000) T v:=by
  intro es;induction es with
  | nil=>intro vs B _ h v hv;simpa using h v hv
  | cons e es ih=>
   intro vs B he h v hv;obtain⟨e1,e2,e3⟩:=he e (by simp);have:=ih (vs.flatMap (Ye n f e)) (B+70000) (λb hb=>he b (by simp[hb])) (λu hu=>by
    obtain⟨v0,fg,hu⟩:=eA.1 hu;exact(h v0 fg).step hf Kk e1 e2 e3 u hu) v hv
   rw[Xs,vj,Nat.one_mul];rw[show B+(es.length*70000+70000)=B+70000+es.length*70000 by omega];exact this
 intro es he v hv;have:=key es [⟨o,[],a⟩] 0 he (λv hv=>by rw[QF.1 hv];exact⟨(λb hb=>by cases hb),Xt _,haT⟩) v hv
 rwa [aq] at this
theorem iQT {n:Nat}{f:List Nat}{o:BF}{a i:Nat}{es:List Ed}{e:Ed}(QK:Qu n o≠ [])(ha:eU (Qu n o) es=true)(hi:es[i]? =some e)(h0:(a:Int)<=e.fr)(hp:∀b∈es,0<=b.to_){v:AV}(hv:v∈cQ n f o a (es.take i))(hb:Qu n (JQ v.o e.o)≠ []):(v.a:Int)<=e.fr:=by
 obtain⟨c,hc⟩:=i5 _ hb;obtain⟨c1,c2⟩:=ZY.1 hc;have c2:(v.o (bits c)&&e.o (bits c))=true:=c2;rw[Jv] at c2;obtain⟨q1,q2⟩:=(Cd (f:=f) (a:=a) QK (es.take i)).st v hv c (ZY.2 ⟨c1,c2.1⟩);have:=iQH (f:=f) ha (a:=a) hi q1 c2.2 h0 hp;rw[q2] at this;exact this
theorem iQU {n:Nat}{f:List Nat}{o:BF}{a stop:Nat}{es:List Ed}(QK:Qu n o≠ []):((Qu n o).all (λc=>JD (bS f stop a es c))=true)↔∀v∈cQ n f o a es,JD (v.d++Kc f v.a stop)=true:=by
 have hI:=Cd (f:=f) (a:=a) QK es;constructor
 ·intro h v hv;obtain⟨c,hc⟩:=i5 _ (hI.ne v hv);obtain⟨q1,q2⟩:=hI.st v hv c hc;have:=VT.1 h c q1;unfold bS at this;rw[q2] at this;exact this
 ·intro h;refine VT.2 (λc hc=>?_);obtain⟨v,hv,pe⟩:=hI.cov c hc;obtain⟨_,q2⟩:=hI.st v hv c (ZY.2 ⟨(ZY.1 hc).1,pe⟩);unfold bS;rw[q2];exact h v hv
def lf (f:List Nat)(stop:Nat)(vs:List AV):List Pr:=vs.foldl (λps v=>cP ps v.o (v.d++Kc f v.a stop)) []
theorem iQV (f:List Nat)(stop:Nat)(vs:List AV)(v:AV):lf f stop (vs++ [v])=cP (lf f stop vs) v.o (v.d++Kc f v.a stop):=by unfold lf;rw[NY]<;>rfl
theorem iQW {n:Nat}{f:List Nat}{o:BF}{a stop:Nat}{es:List Ed}(QK:Qu n o≠ []):QI n (Qu n o) (bS f stop a es) (cQ n f o a es) (lf f stop (cQ n f o a es)):=by
 have hI:=Cd (f:=f) (a:=a) QK es;generalize cQ n f o a es=V at*;have key:∀(vs pre:List AV) (ps:List Pr),(∀v∈vs,v∈V)->QI n (Qu n o) (bS f stop a es) pre ps->QI n (Qu n o) (bS f stop a es) (pre++vs) (vs.foldl (λps v=>cP ps v.o (v.d++Kc f v.a stop)) ps):=by
  intro vs;induction vs with
  | nil=>intro pre ps _ h;simpa using h
  | cons v vs ih=>
   intro pre ps hV h;have:=ih (pre++ [v]) _ (λu hu=>hV u (by simp[hu])) (h.ins (v:=v) (t:=v.d++Kc f v.a stop) (λc hc=>by
    obtain⟨q1,q2⟩:=hI.st v (hV v (by simp)) c hc;refine⟨q1,?_⟩;unfold bS;rw[q2]))
   simpa using this
 have:=key V [] [] (λv hv=>hv) QI.nil;rw[dw] at this;exact this
theorem Ul {f:List Nat}{stop:Nat}{P:List Nat->Prop}:∀(vs:List AV),(∀v∈vs,P (v.d++Kc f v.a stop))->∀q∈lf f stop vs,P q.t:=by
 have key:∀(vs:List AV) (ps:List Pr),(∀v∈vs,P (v.d++Kc f v.a stop))->(∀q∈ps,P q.t)->∀q∈vs.foldl (λps v=>cP ps v.o (v.d++Kc f v.a stop)) ps,P q.t:=by
  intro vs;induction vs with
  | nil=>intro ps _ h;exact h
  | cons v vs ih=>
   intro ps hv h;refine ih _ (λu hu=>hv u (by simp[hu])) (λq hq=>?_);have hq:q∈cP ps v.o (v.d++Kc f v.a stop):=hq;unfold cP at hq;split at hq
   ·rename_i p hp;rcases vx hq with hq | rfl
    ·exact h q hq
    ·exact h p (Q2 hp)
   ·rcases XH.1 hq with hq | hq
    ·exact h q hq
    ·rw[QF.1 hq];exact hv v (by simp)
 intro vs hv;exact key vs [] hv (λq hq=>by cases hq)
theorem Um {α:Type}{f:α->List Value}{sz:Nat}(hf:∀x,(f x).length=sz):∀(l:Nat)(L:List α),(L.drop l).flatMap f=(L.flatMap f).drop (l*sz)
 | 0,L=>by simp
 | l+1,[]=>by simp
 | l+1,x::L=>by
  rw[NS,Um hf l L,au,vj,Nat.one_mul,zL,<-sj];congr 1;rw[<-hf x,zW]
theorem SlS.from {α:Type}{f:α->List Value}{sz:Nat}(hf:∀x,(f x).length=sz){w:World}{A:Option Addr}{n c l:Nat}{L:List α}(h:SlS f sz w A n c L)(hl:l<=n):SlS f sz w (if c=l then A else A.map (·.add (l*sz))) (n-l) (c-l) (L.drop l):=by
 have h1:=h.1.len;have h2:=h.1.le;have h3:=h.1.cap;refine⟨?_,by rw[Y5,h.2]⟩;rw[Um hf];refine⟨by rw[Y5,h1,<-Nat.sub_mul],by omega,by omega,λh0=>?_⟩;obtain⟨ad,rfl,hc⟩:=h.1.at_ (by omega);refine⟨ad.add (l*sz),by rw[if_neg (by omega)];rfl,λj u hu=>?_⟩;rw[Addr.add_add];exact hc _ _ (by rw[zX] at hu;exact hu)
theorem Un {n:Nat}(hn:n<=12){x y:DV}{o o':BF}(s:Set1 n x.nd x.r o)(s':Set1 n y.nd y.r o'):p7 x.nd x.r y.nd y.r= !(aL (Qu n o') o):=by
 cases hm:aL (Qu n o') o with
 | true=>
  obtain⟨c,hc,hoc⟩:=vv.1 hm;refine GH (λh=>h.2.2 ⟨bits c,by rw[s.mean];exact hoc,by rw[s'.mean];exact(ZY.1 hc).2⟩)
 | false=>
  refine SV ⟨s.chk hn,s'.chk hn,λ⟨e,h1,h2⟩=>?_⟩;rw[s.mean] at h1;rw[s'.mean] at h2;obtain⟨c,hc,hb⟩:=BT n e;have:aL (Qu n o') o=true:=vv.2 ⟨c,ZY.2 ⟨hc,by rw[s'.dep _ e hb];exact h2⟩,by rw[s.dep _ e hb];exact h1⟩;rw[hm] at this;cases this
theorem iQX {k:Nat}(hk:k<=12)(x y:DV){o o':BF}(w:World)(h:SB w x.A x.n x.c x.nd)(h':SB w y.A y.n y.c y.nd)(s:Set1 k x.nd x.r o)(s':Set1 k y.nd y.r o'):
  Fn Tryz.prog 101 [Xg x.A x.n x.c x.r,Xg y.A y.n y.c y.r] w (wO w k (λe=>o e||o' e)):=by
 refine(R9 x.A x.n x.c x.nd x.r y.A y.n y.c y.nd y.r w h h').mono ?_;rw[gV hk s s' 1];have c1:Set1 k _ _ (λe=>o e||o' e):=(eL s s' 1).congr (λe=>by simp[Kr]);generalize VV x.nd x.r y.nd y.r 1=D at*;obtain⟨D1,D2⟩:=D;rintro v w' ⟨PA,q,pc,rfl,hE,hP,hR⟩;exact⟨PA,q,pc,D1,D2,rfl,hE,hP,c1,hR⟩
theorem iQY (q:DV×List Nat)(t:List Nat)(tb:Nat)(w:World)(hq:∀b∈q.2,b<256)(ht:∀b∈t,b<256)(hB:Blk w tb 9 [.string (Qe t)]):
  Fn Tryz.prog 99 [.agg (Zt q).toArray,.pointer (some ⟨tb,0,none⟩)] w (λu w'=>u= .bool (decide (q.2=t))/\Ext w w'):=by
 refine Qx (c:={c99 with cuts:=[]}) Qa Tryz.func99 rfl rfl rfl ?_;refine new (λw1 Qd Q3 Qh=>?_);refine Qp Qh rfl ?_;refine QC (hB.ext Qd) rfl ?_;refine⟨?_,Qd⟩;refine QO Value.bool ?_;refine mB.2 ⟨λe=>Z6 hq ht e,λe=>by rw[e]⟩
theorem iQZ (PA:Option Addr)(pn pc:Nat)(ps:List (DV×List Nat))(t:List Nat)(tb:Nat)(w:World)(h:SlS Zt 3 w PA pn pc ps)(hp:∀q∈ps,∀b∈q.2,b<256)(ht:∀b∈t,b<256)(hB:Blk w tb 9 [.string (Qe t)]):
  Fn Tryz.prog 98 [.slice PA pn pc,.func (.func 99) #[] #[.pointer (some ⟨tb,0,none⟩)]] w (λu w'=>u= .int .i64 (if Vy (XN ps) t<pn then(Vy (XN ps) t:Int)else -1)/\Ext w w'):=by
 have hn:=h.2;have ZO:=h.1.le;have WQ:=h.1.cap;have Jt:(XN ps).length=ps.length:=by simp[XN]
 obtain⟨s1,s2⟩:=wW t (XN ps);refine Qx (c:={c98 with cuts:=[]}) Qa Tryz.func98 rfl rfl rfl ?_;refine loop Qa [8] (λi:Nat=>[.int .i64 i]) (λi w'=>Ext w w'/\i<=pn/\∀q∈ps.take i,q.2≠t) (λi _=>pn-i) 0 rfl ⟨Ext.refl _,Xt _,λq hq=>by simp at hq⟩ ?_;rintro i w1 ⟨Qd,hi,Xa⟩;have hge:i<=Vy (XN ps) t:=by
  apply Classical.byContradiction;intro hh;have Q5:Vy (XN ps) t<ps.length:=by omega
  obtain⟨q,hq⟩:∃q,ps[Vy (XN ps) t]? =some q:=⟨_,Xb Q5⟩
  have:=s1 ⟨oD q.1,q.2⟩ (by unfold XN;rw[Vi];show Option.map _ (ps[Vy (XN ps) t]?)=_;rw[hq];rfl);exact Xa q (Q2 (i:=Vy (XN ps) t) (by rw[mt (by omega)];exact hq)) this
 refine Qt (λc1=>?_) (λc1=>?_)
 ·have QN:i<pn:=by omega
  refine Zh gk (h.ext Qd) rfl QN (λad q hq hc=>?_);have KY:=Q2 hq;refine Kb (vs:=Zt q) rfl hc ?_;refine call (iQY q t tb w1 (hp q KY) ht (hB.ext Qd)) ?_;rintro _ w2 ⟨rfl,Qg⟩;have iH:(XN ps)[i]? =some ⟨oD q.1,q.2⟩:=by unfold XN;rw[Vi,hq]<;>rfl
  refine Qt (λd1=>?_) (λd1=>?_)
  ·have Km:Vy (XN ps) t=i:=by
    apply Classical.byContradiction;intro hh;exact s2 i _ iH (by omega) d1
   rw[Km,Qf QN];exact⟨rfl,Qd.trans Qg⟩
  ·simp only[maxLen] at WQ;refine Qj ((i+1:Nat):Int) (by show((i:Nat):Int)+1=_;omega) (by omega) ?_;refine⟨i+1,rfl,⟨Qd.trans Qg,QN,λq' hq'=>?_⟩,by show pn-(i+1)<pn-i;omega⟩;rw[KC,hq] at hq';rcases XH.1 hq' with hq' | hq'
   ·exact Xa q' hq'
   ·have:q'=q:=by simpa using hq'
    rw[this];exact d1
 ·have QN:i=pn:=by omega
  rw[if_neg (by omega)];exact⟨rfl,Qd⟩
theorem Hj {j:Nat}{vs l:List Value}{c:Value}(h:l[j+vs.length]? =some c):K2 j vs l=K2 j (vs++ [c]) l:=by
 have Q5:=(Zw.1 h).1;rw[jf j vs l (by omega),jf j (vs++ [c]) l (by simp;omega)];rw[K9,K9,K9];congr 2;rw[bG Q5,Qy,mA];have:l[j+vs.length]=c:=by rw[Xb Q5] at h;exact Option.some.inj h
 rw[this]<;>rfl
theorem iQ0 (f:List Nat)(stop:Nat):∀vs:List AV,(lf f stop vs).length<=vs.length:=by
 have key:∀(vs:List AV) (ps:List Pr),(vs.foldl (λps v=>cP ps v.o (v.d++Kc f v.a stop)) ps).length<=ps.length+vs.length:=by
  intro vs;induction vs with
  | nil=>intro ps;simp
  | cons v vs ih=>
   intro ps;have h1:=ih (cP ps v.o (v.d++Kc f v.a stop));have h2:(cP ps v.o (v.d++Kc f v.a stop)).length<=ps.length+1:=by
    unfold cP;split
    ·rw[cj];omega
    ·simp
   rw[vh,Xs];omega
 intro vs;have:=key vs [];simpa [lf] using this
theorem Ce {n:Nat}{qs:List (DV×Pr)}(h:∀q∈qs,Set1 n q.1.nd q.1.r q.2.o):XN (qs.map (λq=>(q.1,q.2.t)))=qs.map (·.2):=by
 unfold XN;rw[zM];refine List.map_congr_left (λq hq=>?_);have:oD q.1=q.2.o:=funext (λe=>(h q hq).mean e);show(⟨oD q.1,q.2.t⟩:Pr)=q.2;rw[this]
theorem W9 {ad:Addr}{n j sz:Nat}{K:Addr->Prop}(h:j<n)(k:K (ad.add (j*sz))):Y7 (some ad) n (j:Int) sz K:=by
 unfold Y7;exact⟨ad,rfl,by omega,by omega,by simpa using k⟩
def Vz (v:DV×AV):List Value:=[.slice v.1.A v.1.n v.1.c,.int .i64 v.1.r,.string (Qe v.2.d),.int .i64 v.2.a]
theorem Uo (v:DV×AV):(Vz v).length=4:=rfl
def Jh (q:DV×Pr):List Value:=Zt (q.1,q.2.t)
theorem nt (q:DV×Pr):(Jh q).length=3:=rfl
theorem Cf (l:List (DV×Pr)):l.flatMap Jh=(l.map (λq=>(q.1,q.2.t))).flatMap Zt:=by rw[List.flatMap_map]<;>rfl
theorem iQ1 (e:EdV):∀u∈Kv e,Jw u=true:=sc rfl
theorem Hk (v:DV×AV):∀u∈Vz v,Jw u=true:=sc rfl
theorem Hl (v:DV×List Nat):∀u∈Zt v,Jw u=true:=sc rfl
theorem iQ2 {p:EP}(hV:tU p):∀e∈p.es,JT p.nm.length e.x.nd e.x.r=true/\(JK 0 (QZ p.f)).any (jr e.ed)=true:=by
 obtain⟨h1,h2⟩:=hV;have key:∀(es:List Ed) (q:Int),ld p.nm.length p.f q es=true->∀e∈es,(JK 0 (QZ p.f)).any (jr e)=true:=by
  intro es;induction es with
  | nil=>intro q _ e he;cases he
  | cons b es ih=>
   intro q h e he;rw[ld,Jv,Jv,G8,Jv] at h;rcases Q0.1 he with rfl | he
   ·exact h.1.1.2
   ·exact ih _ h.2 e he
 exactλe he=>⟨VT.1 h1 e he,key _ 0 h2 e.ed (ZM.2 ⟨e,he,rfl⟩)⟩
theorem iQ3 (es:List EdV)(S:List Nat)(a:Nat)(s:List Nat):ia (es.map EdV.ed) S a s=(es.filter (λe=>qd a s e.ed&&aL S e.ed.o)).map EdV.ed:=by
 unfold ia;rw[List.filter_map]<;>rfl
theorem iQ4 {α:Type}{l:List α}{i:Nat}{x:α}(h:l[i]? =some x):l.drop i=x::l.drop (i+1):=by
 have Q5:=(Zw.1 h).1;rw[bG Q5];congr 1;rw[Xb Q5] at h;exact Option.some.inj h
theorem iQ5 (p:EP)(hB:EB p)(hV:tU p)(a:Nat)(s:List Nat)(hm:(a,s)∈JK 0 (QZ p.f))(d:DV)(o:BF)(w:World)(K:EK w p)(hd:SB w d.A d.n d.c d.nd)(sd:Set1 p.nm.length d.nd d.r o):
  FnP Tryz.prog 48 [.pointer (some ⟨p.eb,0,none⟩),.string (Qe (s++ [10])),.int .i64 a,Xg d.A d.n d.c d.r] w
   (λu w'=>∃L,gm p.nm p.f (p.es.map EdV.ed) (Qu p.nm.length o) a s=some L/\jm w u (L.map (·++ [10])) w')
   (λch w'=>gm p.nm p.f (p.es.map EdV.ed) (Qu p.nm.length o) a s=none/\ch=js 291/\Ext w w'):=by
 have iU:=mT p.f;have JV:=aG hB.ok;have zA:=nj hm;rw[JV] at zA;have Kk:=hB.fl;have hk:p.nm.length<=12:=by have:=hB.n4;omega
 have ED:=K.eds.2;have nQu:=hB.el;have Ng:=K.eds.1.cap;have mQF:=K.eds.1.le;simp only[maxLen] at Ng;have zB:(Qe (s++ [10])).size=s.length+1:=by rw[XC];simp
 have er:=XC p.f;have hval:=iQ2 hV;generalize u9:Qu p.nm.length o=S at*;have Nm:∀e∈p.es,0<=e.fr/\e.fr<=e.to_/\e.to_<p.f.length:=λe he=>by
  have:=Uj (hval e he).2;rw[JV] at this;exact this
 refine aX (c:={c48 with cuts:=[]}) Qa Tryz.func48 rfl rfl rfl ?_;refine new (λw1 Qd Q3 Qh=>?_);have K1:=K.ext Qd;refine Qp K1.blk rfl ?_;refine loop Qa [33,9] (λt:Nat×List EdV×Option Addr×Nat=>[.int .i64 t.1,.slice t.2.2.1 t.2.1.length t.2.2.2]) (λt w'=>Ext w1 w'/\t.1<=p.en/\t.2.1=(p.es.take t.1).filter (λe=>qd a s e.ed&&aL S e.ed.o)/\Own w' w1.heap.size 58 5 t.2.2.1 t.2.1.length t.2.2.2 (t.2.1.flatMap Kv)) (λt _=>p.en-t.1) (0,[],none,0) rfl ⟨Ext.refl _,Xt _,by simp,Own.nil _ _ _ _⟩ ?_;rintro⟨i,m,MA,mc⟩ w2 ⟨Qg,hi,YJ,hO⟩;simp only at hi YJ hO;have QT:=Qd.trans Qg;have zr:m.length<=i:=by rw[YJ];exact X2 (j6 _ _) (by rw[KZ];omega)
 refine Qt (λc1=>?_) (λc1=>?_)
 ·have QN:i<p.en:=by simp only at c1;omega
  refine Zh qh (K.ext QT).eds rfl QN (λad e he hc=>?_);have jY:=Q2 he;obtain⟨e1,e2,e3⟩:=Nm e jY;have se:=eS (hval e jY).1;refine Kb (vs:=Kv e) rfl hc ?_;refine new (λw3 Qi JF Qw=>?_);refine QB Qw rfl (sc rfl) (λw4 bn _ Q6=>?_);have Ja:Ext w2 w4:=XY Qi Qw bn;refine QC Q6 rfl ?_;refine Qt (λd1=>?_) (λd1=>?_)
  ·refine Qp Q6 rfl ?_;refine Qj ((a+s.length+1:Nat):Int) (by rw[zB];omega) (by omega) ?_;refine Qt (λd2=>?_) (λd2=>?_)
   ·refine cw (vs:=[.slice e.x.A e.x.n e.x.c,.int .i64 e.x.r]) Q6 rfl (λj u hj=>by match j,hj with | 0,hj=>exact hj | 1,hj=>exact hj) ?_;refine Qs (Qh.ext (Qg.trans Ja)) rfl ?_;refine call (SW e.x.A e.x.n e.x.c e.x.nd e.x.r d.A d.n d.c d.nd d.r w4 ((K.sbs e jY).ext (QT.trans Ja)) (hd.ext (QT.trans Ja))) ?_;rintro _ w5 ⟨rfl,Qz⟩;have om:=Ja.trans Qz;rw[Un hk se sd,u9];have o8:qd a s e.ed=true:=XT ⟨by show(a:Int)<=e.fr;omega,by show e.to_<=a+s.length;omega⟩;cases rA:aL S (oD e.x)with
    | false=>
     refine Xv rfl ?_;refine Qj ((i+1:Nat):Int) (by show((i:Nat):Int)+1=_;omega) (by omega) ?_;refine⟨(i+1,m,MA,mc),rfl,⟨Qg.trans om,QN,?_,hO.ext om⟩,by show p.en-(i+1)<p.en-i;omega⟩;simp only;rw[dO he,pr,<-YJ,po,if_neg (by show¬(qd a s e.ed&&aL S (oD e.x))=true;rw[rA,Bool.and_false];decide),vy,Yr]
    | true=>
     refine Xe rfl ?_;refine Qs (Q6.ext Qz) rfl ?_;refine Xm Qa [Kv e] rfl rfl rfl rfl rfl ⟨rfl,rfl,⟨⟩⟩ rfl (λcs h=>by simp only[QF] at h;subst h;rfl) rfl (by decide) (by decide) ?_;intro w6 Xh fa Xj;have uC:=om.trans Xh;have Cz:Sl w6 5 (some ⟨w5.heap.size,0,none⟩) 1 1 (Kv e):=Sl.own (sz:=5) (n:=1) Xj (QD _) (by decide) (by simp[Kv]);refine Zk (n:=m.length) Qa rfl rfl rfl rfl rfl (by decide) rfl rfl ⟨_,rfl⟩ rfl rfl (hO.ext uC) Cz (iQ1 e) (by unfold maxLen;omega) (by show(m.length+1)*64<=_;omega) (by have:=Qg.size;have:=uC.size;omega) ?_;intro A' c' w7 Kg ui nQv;refine Qj ((i+1:Nat):Int) (by show((i:Nat):Int)+1=_;omega) (by omega) ?_;refine⟨(i+1,m++ [e],A',c'),by simp only[Qy];rfl,⟨Kg.ext (Qg.trans uC) (λk hk=>(hO.rows k hk).1),QN,?_,?_⟩,by show p.en-(i+1)<p.en-i;omega⟩
     ·simp only;rw[dO he,pr,<-YJ,po,Qf (by show(qd a s e.ed&&aL S (oD e.x))=true;rw[rA,o8];rfl),vy]
     ·simp only;rw[Qy,bH];simpa using ui
   ·refine Qj ((i+1:Nat):Int) (by show((i:Nat):Int)+1=_;omega) (by omega) ?_;refine⟨(i+1,m,MA,mc),rfl,⟨Qg.trans Ja,QN,?_,hO.ext Ja⟩,by show p.en-(i+1)<p.en-i;omega⟩;simp only;rw[dO he,pr,<-YJ,po,if_neg (by intro hh;rw[Jv] at hh;have h3:(a:Int)<=e.fr/\e.to_<=a+s.length:=eB hh.1;omega),vy,Yr]
  ·refine Qj ((i+1:Nat):Int) (by show((i:Nat):Int)+1=_;omega) (by omega) ?_;refine⟨(i+1,m,MA,mc),rfl,⟨Qg.trans Ja,QN,?_,hO.ext Ja⟩,by show p.en-(i+1)<p.en-i;omega⟩;simp only;rw[dO he,pr,<-YJ,po,if_neg (by intro hh;rw[Jv] at hh;have h3:(a:Int)<=e.fr/\e.to_<=a+s.length:=eB hh.1;omega),vy,Yr]
 have QN:i=p.en:=by simp only at c1;omega
 have YJ:m=p.es.filter (λe=>qd a s e.ed&&aL S e.ed.o):=by rw[YJ,Zz (by omega)]
 have bQA:=iQ3 p.es S a s;rw[<-YJ] at bQA;have jV:∀e∈m,e∈p.es/\(a:Int)<=e.fr/\e.to_<=a+s.length/\aL S (oD e.x)=true:=λe he=>by
  rw[YJ] at he;obtain⟨h1,h2⟩:=Va.1 he;rw[Jv] at h2;have h3:(a:Int)<=e.fr/\e.to_<=a+s.length:=eB h2.1;exact⟨h1,h3.1,h3.2,h2.2⟩
 have Js:m.length<=10:=by omega
 have hM:SlS Kv 5 w2 MA m.length mc m:=⟨hO.sl,rfl⟩
 clear YJ hi c1;have sf:gm p.nm p.f (p.es.map EdV.ed) S a s=if m.map EdV.ed=[] then some [s] else if eU S (m.map EdV.ed)=false then none else if S.all (λc=>JD (bS p.f (a+s.length+1) a (m.map EdV.ed) c))=false then none else some (Xw p.nm (bS p.f (a+s.length+1) a (m.map EdV.ed)) p.nm.length 0 S):=by
  unfold gm;rw[bQA]
 generalize gm p.nm p.f (p.es.map EdV.ed) S a s=RES at*;refine XU (λh0=>?_) (λh0=>?_)
 ·have hm0:m=[]:=Ys (by simp only at h0;omega);refine Xm Qa [[Value.string (Qe (s++ [10]))]] rfl rfl rfl rfl rfl ⟨rfl,rfl,⟨⟩⟩ rfl (λcs hh=>by simp only[QF] at hh;subst hh;rfl) rfl (by decide) (by decide) ?_;intro w3 Qi JF Qw;refine⟨[s],by rw[sf,hm0];rfl,_,_,rfl,QT.trans Qi,Sl.own' (n:=1) Qw rfl (by decide),λ_=>⟨_,_,rfl⟩⟩
 have Zr:m≠ []:=λe=>h0 (by rw[e];rfl)
 have ub:m.map EdV.ed≠ []:=λe=>Zr (List.map_eq_nil_iff.1 e)
 rw[if_neg ub] at sf;have mQG:S≠ []:=by
  obtain⟨e,he⟩:=i5 _ Zr;intro e0;have:=(jV e he).2.2.2;rw[e0] at this;cases this
 refine loop Qa [69] (λi:Nat=>[.int .i64 i]) (λi w'=>Ext w2 w'/\i<=m.length/\eU S (m.map EdV.ed)=eU S ((m.drop i).map EdV.ed)) (λi _=>m.length-i) 0 rfl ⟨Ext.refl _,Xt _,rfl⟩ ?_;rintro i w3 ⟨Qi,hi,du⟩;have QQ:=QT.trans Qi;refine Qt (λc1=>?_) (λc1=>?_)
 ·have QN:i<m.length:=by simp only at c1;omega
  refine Zh qh (hM.ext Qi) rfl QN (λad e he hc=>?_);have jY:=Q2 he;obtain⟨e1,e2,e3,e4⟩:=jV e jY;have se:=eS (hval e e1).1;rw[iQ4 he,WA,eU] at du;refine Kb (vs:=Kv e) rfl hc ?_;refine new (λw4 Qq K5 Q6=>?_);refine QB Q6 rfl (sc rfl) (λw5 Jr _ QL=>?_);have JL:Ext w3 w5:=XY Qq Q6 Jr;have om:=Qi.trans JL;refine Qj ((i+1:Nat):Int) (by show((i:Nat):Int)+1=_;omega) (by omega) ?_;refine sF Qa rfl rfl rfl rfl rfl rfl (by omega) ?_;have hFr:=(hM.ext om).from qh (l:=i+1) (by omega)
  have gG:=hM.1.le;refine loop Qa [79] (λj:Nat=>[.int .i64 j]) (λj w'=>Ext w5 w'/\j<=m.length-(i+1)/\((m.drop (i+1)).take j).all (λb=>jq S e.ed b.ed)=true) (λj _=>m.length-(i+1)-j) 0 rfl ⟨Ext.refl _,Xt _,by simp⟩ ?_;rintro j w6 ⟨Xh,hj,hall⟩;refine Qt (λc2=>?_) (λc2=>?_)
  ·have JW:j<m.length-(i+1):=by simp only at c2;omega
   refine Zh qh (hFr.ext Xh) rfl JW (λLB b hb KV=>?_);have uU:b∈m:=av (Q2 hb);obtain⟨b1,b2,b3,b4⟩:=jV b uU;have sb:=eS (hval b b1).1;refine Kb (vs:=Kv b) rfl KV ?_;refine new (λw7 QY WF Q4=>?_);refine QB Q4 rfl (sc rfl) (λw8 Yh _ XB=>?_);have Wq:Ext w6 w8:=XY QY Q4 Yh;have oq:=Xh.trans Wq;have V0:=QQ.trans (JL.trans oq);have aQN:=QL.ext oq;have ov:=Ext.drew w8;have next:∀w',Ext w8 w'->jq S e.ed b.ed=true->Ext w5 w'/\j+1<=m.length-(i+1)/\((m.drop (i+1)).take (j+1)).all (λb=>jq S e.ed b.ed)=true:=λw' eu h2=>by
    refine⟨oq.trans eu,by omega,?_⟩;rw[dO hb,List.all_append,hall];simp only[vl,List.all_nil,E0,aV];exact h2
   refine Xy Qa (Ext w8) 15 [(true,0),(true,1),(true,2),(true,3),(true,4),(true,5),(true,6),(true,7),(true,8),(true,9),(true,11),(false,10),(false,12),(true,13),(true,14)] (by kernel_rfl) ov ?_;refine QJ (v:=.int .i64 e.to_) (λw' Qb=>(aQN.ext Qb).cell 1) ?_;refine QJ (v:=.int .i64 b.fr) (λw' Qb=>(XB.ext Qb).cell 0) ?_;refine Qt (λd1=>?_) (λd1=>?_)
   ·refine Xr (vs:=[.slice e.x.A e.x.n e.x.c,.int .i64 e.x.r]) rfl (λw' Qb k u hk=>by rw[add_add,(aQN.ext Qb).cell];match k,hk with | 0,hk=>exact hk | 1,hk=>exact hk) ?_;refine Xr (vs:=[.slice b.x.A b.x.n b.x.c,.int .i64 b.x.r]) rfl (λw' Qb k u hk=>by rw[add_add,(XB.ext Qb).cell];match k,hk with | 0,hk=>exact hk | 1,hk=>exact hk) ?_;refine Xr (vs:=d.cells) rfl (λw' Qb k u hk=>by rw[((Qh.ext (Qg.trans (Qi.trans (JL.trans oq)))).ext Qb).cell];exact hk) ?_;have fR:=V0.trans ov;refine call (nh hk e.x b.x w8.drew ((K.sbs e e1).ext fR) ((K.sbs b b1).ext fR) se sb) ?_;rintro _ w9 ⟨QA,Qn,Qc,Qnd,Qr,rfl,Xo,hQ9,sQ,_⟩;refine⟨ov.trans Xo,?_⟩;refine call (SW QA Qn Qc Qnd Qr d.A d.n d.c d.nd d.r w9 hQ9 (hd.ext (fR.trans Xo))) ?_;rintro _ QE ⟨rfl,X7⟩;have fA:=(ov.trans Xo).trans X7;refine⟨fA,?_⟩;rw[Un (x:=⟨QA,Qn,Qc,Qnd,Qr⟩) hk sQ sd,u9];cases rA:aL S (λv=>oD e.x v&&oD b.x v)with
    | false=>
     refine Xv rfl ?_;refine Qj ((j+1:Nat):Int) (by show((j:Nat):Int)+1=_;omega) (by omega) ?_;exact⟨j+1,rfl,next QE fA (by show(!(decide (b.fr<e.to_)&&aL S (λv=>oD e.x v&&oD b.x v)))=true;rw[rA,Bool.and_false];rfl),by show m.length-(i+1)-(j+1)<m.length-(i+1)-j;omega⟩
    | true=>
     refine Xe rfl ?_;refine XP (YV 291 (by decide) QE) (λ_ _ hf=>hf.elim) ?_;rintro ch _ ⟨rfl,rfl⟩;have Xa:jq S e.ed b.ed=false:=by
      show(!(decide (b.fr<e.to_)&&aL S (λv=>oD e.x v&&oD b.x v)))=false;rw[rA,XT (by omega:b.fr<e.to_)]<;>rfl
     have Ka:(m.drop (i+1)).all (λb=>jq S e.ed b.ed)=false:=List.all_eq_false.2 ⟨b,Q2 hb,by rw[Xa];decide⟩;refine⟨?_,rfl,V0.trans fA⟩;have:eU S (m.map EdV.ed)=false:=by
      rw[du,List.all_map];show((m.drop (i+1)).all (λb=>jq S e.ed b.ed)&&_)=false;rw[Ka]<;>rfl
     rw[sf,Qf this]
   ·refine Qj ((j+1:Nat):Int) (by show((j:Nat):Int)+1=_;omega) (by omega) ?_;exact⟨j+1,rfl,next w8.drew ov (by show(!(decide (b.fr<e.to_)&&aL S (λv=>oD e.x v&&oD b.x v)))=true;rw[XS (by omega:¬b.fr<e.to_)];rfl),by show m.length-(i+1)-(j+1)<m.length-(i+1)-j;omega⟩
  ·have JW:j=m.length-(i+1):=by simp only at c2;omega
   rw[Zz (by rw[Y5];omega)] at hall;refine Qj ((i+1:Nat):Int) (by show((i:Nat):Int)+1=_;omega) (by omega) ?_;refine⟨i+1,rfl,⟨om.trans Xh,QN,?_⟩,by show m.length-(i+1)<m.length-i;omega⟩;rw[du,List.all_map];show((m.drop (i+1)).all (λb=>jq S e.ed b.ed)&&_)=_;rw[hall,aV]
 have QN:i=m.length:=by simp only at c1;omega
 have bQB:eU S (m.map EdV.ed)=true:=by rw[du,QN,vw (QD _)]<;>rfl
 clear du c1 hi;rw[if_neg (by rw[bQB];decide)] at sf;have Xq:=Qg.trans Qi;refine Qs (Qh.ext Xq) rfl ?_;refine Xm Qa [Vz (d,⟨o,[],a⟩)] rfl rfl rfl rfl rfl ⟨rfl,rfl,⟨⟩⟩ rfl (λcs h=>by simp only[QF] at h;subst h;rfl) rfl (by decide) (by decide) ?_;intro w4 Qq K5 Q6;have XI:=QQ.trans Qq;have QK:Qu p.nm.length o≠ []:=by rw[u9];exact mQG
 have mQH:eU (Qu p.nm.length o) (m.map EdV.ed)=true:=by rw[u9];exact bQB
 have hep:∀b∈m.map EdV.ed,0<=b.to_:=λb hb=>by
  obtain⟨e,he,rfl⟩:=ZM.1 hb;have:=Nm e (jV e he).1;show 0<=e.to_;omega
 have hVB:∀i,i<=m.length->∀v∈cQ p.nm.length p.f o a ((m.map EdV.ed).take i),VB (i*70000) (a+s.length) v:=λi hi v hv=>by
  have:=iQS (n:=p.nm.length) (o:=o) (a:=a) (T:=a+s.length) hB.f8 Kk (by omega) ((m.map EdV.ed).take i) (λb hb=>by
   obtain⟨e,he,rfl⟩:=ZM.1 (bF hb);obtain⟨h1,h2,h3,h4⟩:=jV e he;exact⟨hB.t8 e h1,hB.tl e h1,by show e.to_.toNat<=_;omega⟩) v hv
  rw[KZ,ZW,mi hi] at this;exact this
 have hVL:∀i,i<=m.length->(cQ p.nm.length p.f o a ((m.map EdV.ed).take i)).length<=1024:=λi hi=>by
  refine X2 (iQR _ _ _ _ _) ?_;rw[KZ,ZW,mi hi];exact X2 (Y6 (by decide) (show i<=10 by omega)) (by decide)
 refine loop Qa [107,16] (λt:Nat×List (DV×AV)×Option Addr×Nat=>[.int .i64 t.1,.slice t.2.2.1 t.2.1.length t.2.2.2]) (λt w'=>Ext w4 w'/\t.1<=m.length/\t.2.1.map (·.2)=cQ p.nm.length p.f o a ((m.map EdV.ed).take t.1)/\SlS Vz 4 w' t.2.2.1 t.2.1.length t.2.2.2 t.2.1/\∀v∈t.2.1,SB w' v.1.A v.1.n v.1.c v.1.nd/\Set1 p.nm.length v.1.nd v.1.r v.2.o) (λt _=>m.length-t.1) (0,[(d,⟨o,[],a⟩)],some ⟨w3.heap.size,0,none⟩,1) rfl ⟨Ext.refl _,Xt _,rfl,⟨Sl.own (sz:=4) (n:=1) Q6 (QD _) (by show 1<=maxLen;decide) (by simp[Vz]),rfl⟩,λv hv=>by
  rw[QF.1 hv];exact⟨hd.ext XI,sd⟩⟩ ?_
 rintro⟨i,vs,VA,vc⟩ w5 ⟨Qz,hi,fQ,Nn,Np⟩;simp only at hi fQ Nn Np;have J6:=XI.trans Qz;have hvl:vs.length<=1024:=by have:=hVL i hi;rw[<-fQ,ZW] at this;exact this
 have gH:∀v∈vs,VB (i*70000) (a+s.length) v.2:=λv hv=>hVB i hi v.2 (by rw[<-fQ];exact ZM.2 ⟨v,hv,rfl⟩)
 refine Qt (λc1=>?_) (λc1=>?_)
 ·have QN:i<m.length:=by simp only at c1;omega
  refine Zh qh (hM.ext (Qi.trans (Qq.trans Qz))) rfl QN (λad e he hc=>?_);have jY:=Q2 he;obtain⟨e1,e2,e3,e4⟩:=jV e jY;obtain⟨e5,e6,e7⟩:=Nm e e1;have se:=eS (hval e e1).1;have heg:(m.map EdV.ed)[i]? =some e.ed:=by rw[Vi,he]<;>rfl
  refine Kb (vs:=Kv e) rfl hc ?_;refine new (λw6 Xh fa Xj=>?_);refine QB Xj rfl (sc rfl) (λw7 ZC _ Q4=>?_);have VE:Ext w5 w7:=XY Xh Xj ZC;have Ki:=J6.trans VE;refine loop Qa [113,19] (λt:Nat×List (DV×AV)×Option Addr×Nat=>[.int .i64 t.1,.slice t.2.2.1 t.2.1.length t.2.2.2]) (λt w'=>Ext w7 w'/\t.1<=vs.length/\t.2.1.map (·.2)=((vs.map (·.2)).take t.1).flatMap (Ye p.nm.length p.f e.ed)/\Own w' w7.heap.size 166 4 t.2.2.1 t.2.1.length t.2.2.2 (t.2.1.flatMap Vz)/\∀v∈t.2.1,DgO w' (Qk t.2.2.1) p.nm.length v.1 v.2.o) (λt _=>vs.length-t.1) (0,[],none,0) rfl ⟨Ext.refl _,Xt _,rfl,Own.nil _ _ _ _,λv hv=>by cases hv⟩ ?_;rintro⟨j,nx,NX,nxc⟩ w8 ⟨Q7,hj,di,oy,q9⟩;simp only at hj di oy q9;have V0:=Ki.trans Q7;have oq:=VE.trans Q7;have nQ9:nx.length<=2*j:=by
   have h1:=QO List.length di;have h2:=Hi p.nm.length p.f e.ed ((vs.map (·.2)).take j);rw[ZW] at h1;rw[KZ] at h2;omega
  refine Qt (λc2=>?_) (λc2=>?_)
  ·have JW:j<vs.length:=by simp only at c2;omega
   refine Zh Uo (Nn.ext oq) rfl JW (λLB v hv KV=>?_);have lY:=Q2 hv;obtain⟨sbv,stv⟩:=Np v lY;obtain⟨vb8,vbl,vba⟩:=gH v lY;have Nq:(vs.map (·.2))[j]? =some v.2:=by rw[Vi,hv]<;>rfl
   refine Kb (vs:=Vz v) rfl KV ?_;refine new (λw9 Xo ff Z8=>?_);refine QB Z8 rfl (sc rfl) (λQE lI _ Jb=>?_);have fA:Ext w8 QE:=XY Xo Z8 lI;have bz:=Q7.trans fA;have cY:=V0.trans fA;refine cw (vs:=[.slice v.1.A v.1.n v.1.c,.int .i64 v.1.r]) Jb rfl (λk u hk=>by match k,hk with | 0,hk=>exact hk | 1,hk=>exact hk) ?_;refine cw (vs:=[.slice e.x.A e.x.n e.x.c,.int .i64 e.x.r]) (Q4.ext bz) rfl (λk u hk=>by match k,hk with | 0,hk=>exact hk | 1,hk=>exact hk) ?_;refine call (nh hk v.1 e.x QE (sbv.ext (oq.trans fA)) ((K.sbs e e1).ext cY) stv se) ?_;rintro _ QH ⟨QA,Qn,Qc,Qnd,Qr,rfl,Z4,lQn,sQ,EC⟩;refine new (λQW Xu aQi Ji=>?_);refine QB Ji rfl (sc rfl) (λXM xI _ Kh=>?_);have LC:Ext QH XM:=XY Xu Ji xI;have aQO:=Z4.trans LC;have oz:=fA.trans aQO;have uD:=Q7.trans oz;have qD:=V0.trans oz;have yr:=Jb.ext aQO;have Ly:=lQn.ext LC;have CG:=Z4.size;have nQw:=LC.size;have nQx:=fA.size;have z8:=Q7.size;have VQ:=oy.rows;have hQ0:=sQ.root0;have dq:(vs.map (·.2)).take (j+1)=(vs.map (·.2)).take j++ [v.2]:=dO Nq;refine Qp Kh rfl ?_;refine Yt (λhz=>?_) (λhz=>?_)
   ·have Nr:Qu p.nm.length (JQ v.2.o (oD e.x))≠ []:=λe0=>hz (hQ0.2 e0)
    have jW:=iQT (f:=p.f) (a:=a) QK mQH heg (by show(a:Int)<=e.fr;omega) hep (v:=v.2) (by rw[<-fQ];exact ZM.2 ⟨v,lY,rfl⟩) Nr;have jW:(v.2.a:Int)<=e.fr:=jW;have Wz:=Ext.drew XM;have dl:=qi p.f v.2.a e.fr.toNat;have tl:=hB.tl e e1;have hto:((e.to_.toNat:Nat):Int)=e.to_:=by omega
    refine Xy Qa (Mod (Qk NX) XM) 23 [(true,0),(true,1),(true,2),(true,3),(true,4),(true,5),(true,6),(true,7),(true,8),(true,9),(true,10),(true,11),(true,12),(true,13),(true,14),(true,15),(true,16),(true,17),(true,18),(true,19),(false,20),(false,21),(true,22)] (by kernel_rfl) (Mod.of_ext _ Wz) ?_;have CN:¬Qk NX QH.heap.size:=λh=>by have:=VQ _ h;omega
    have LD:¬Qk NX w8.heap.size:=λh=>by have:=VQ _ h;omega
    have LE:¬Qk NX w5.heap.size:=λh=>by have:=VQ _ h;have:=VE.size;have:=Q4.lt;omega
    have neb:¬Qk NX p.eb:=λh=>by have:=VQ _ h;have:=K.blk.lt;have:=Ki.size;omega
    have ds:=XC v.2.d;have cs:=XC (Kc p.f v.2.a e.fr.toNat);have dcs:=XC (v.2.d++Kc p.f v.2.a e.fr.toNat);have txs:=XC e.tx;rw[Qy] at dcs;refine Xr (vs:=[.slice QA Qn Qc,.int .i64 Qr]) rfl (λw' Qb k u hk=>by rw[(Kh.mod Qb CN).cell];exact hk) ?_;refine QJ (v:=.string (Qe v.2.d)) (λw' Qb=>(yr.mod Qb LD).cell 2) ?_;refine QJ (v:=.string (Qe p.f)) (λw' Qb=>((K.blk.ext qD).mod Qb neb).cell 3) ?_;refine QJ (v:=.int .i64 v.2.a) (λw' Qb=>(yr.mod Qb LD).cell 3) ?_;refine QJ (v:=.int .i64 e.fr) (λw' Qb=>((Q4.ext uD).mod Qb LE).cell 0) ?_;refine Jz (v':=.string (Qe (Kc p.f v.2.a e.fr.toNat))) ⟨by omega,by omega,by rw[er];omega⟩ (by
     rw[Vc];show Value.string (Qe ((p.f.take e.fr.toNat).drop v.2.a))=_;rw[gL];rfl) ?_
    refine Jz (v':=.string (Qe (v.2.d++Kc p.f v.2.a e.fr.toNat))) (by rw[ds,cs];unfold maxLen;omega) (by rw[dB]) ?_;refine QJ (v:=.string (Qe e.tx)) (λw' Qb=>((Q4.ext uD).mod Qb LE).cell 2) ?_;refine Jz (v':=.string (Qe (v.2.d++Kc p.f v.2.a e.fr.toNat++e.tx))) (by rw[dcs,txs];unfold maxLen;omega) (by rw[dB]) ?_;refine QJ (v:=.int .i64 ((e.to_.toNat:Nat):Int)) (λw' Qb=>by rw[hto];exact((Q4.ext uD).mod Qb LE).cell 1) ?_;refine Xm Qa [Vz (⟨QA,Qn,Qc,Qnd,Qr⟩,⟨JQ v.2.o (oD e.x),v.2.d++Kc p.f v.2.a e.fr.toNat++e.tx,e.to_.toNat⟩)] rfl rfl rfl rfl rfl ⟨rfl,rfl,⟨⟩⟩ rfl (λcs h=>by simp only[QF] at h;subst h;rfl) rfl (by decide) (by decide) ?_;generalize qW:(((⟨QA,Qn,Qc,Qnd,Qr⟩:DV),(⟨JQ v.2.o (oD e.x),v.2.d++Kc p.f v.2.a e.fr.toNat++e.tx,e.to_.toNat⟩:AV)):DV×AV)=V1;intro X1 Jd CM Jc;have jI:=Wz.trans Jd;have rg:=oz.trans jI;refine⟨Mod.of_ext _ jI,?_⟩;have LF:Sl X1 4 (some ⟨XM.drew.heap.size,0,none⟩) 1 1 (Vz V1):=Sl.own (sz:=4) (n:=1) Jc (QD _) (by decide) (by simp[Vz]);refine Zk (n:=nx.length) Qa rfl rfl rfl rfl rfl (by decide) rfl rfl ⟨_,rfl⟩ rfl rfl (oy.ext rg) LF (Hk _) (by unfold maxLen;omega) (by show(nx.length+1)*56<=_;omega) (by have:=(Q7.trans rg).size;omega) ?_;intro NX2 LG JM iA aj LH;have uE:Mod (Qk NX) XM JM:=(Mod.of_ext (Qk NX) jI).trans iA (λi hi=>.inl hi);refine⟨uE,?_⟩;have uF:Mod (Qk NX) w8 JM:=(Mod.of_ext (Qk NX) oz).trans uE (λi hi=>.inl hi);have yu:Ext w7 JM:=uF.ext Q7 (λk hk=>(VQ k hk).1);have DT:=Ki.trans yu;have lQo:=VE.trans yu;have nQy:=uE.size;have yv:∀k,Qk NX2 k->Qk NX k∨X1.heap.size<=k:=LH.rows
    have z14:=jI.size;have lQp:∀u∈nx,DgO JM (Qk NX2) p.nm.length u.1 u.2.o:=λu hu=>(q9 u hu).step uF (λk hk=>by
     rcases yv k hk with h | h
     ·exact .inl h
     ·exact .inr (by omega))
    have aQP:DgO JM (Qk NX2) p.nm.length V1.1 V1.2.o:=by
     rw[<-qW];have h0:DgO XM (Qk NX) p.nm.length ⟨QA,Qn,Qc,Qnd,Qr⟩ (JQ v.2.o (oD e.x)):=⟨Ly,sQ,λad ea h0 h=>by have:=EC ad.block ⟨ad,ea,rfl⟩;have:=VQ _ h;omega⟩
     exact h0.step uE (λk hk=>by
      rcases yv k hk with h | h
      ·exact .inl h
      ·exact .inr (by omega))
    have aQQ:=aj.rows;rw[show nx.flatMap Vz++Vz V1=(nx++ [V1]).flatMap Vz by rw[bH];simp] at aj;have ut:=yr.mod uE LD;have qR:=Kh.mod uE CN;refine cw (vs:=[.slice v.1.A v.1.n v.1.c,.int .i64 v.1.r]) ut rfl (λk u hk=>by match k,hk with | 0,hk=>exact hk | 1,hk=>exact hk) ?_;refine Qs qR rfl ?_;have lQq:SB JM QA Qn Qc Qnd:=by have:=aQP.sb;rw[<-qW] at this;exact this
    refine call (eT hk v.1 ⟨QA,Qn,Qc,Qnd,Qr⟩ JM (sbv.ext lQo) lQq stv sQ) ?_;rintro _ ag ⟨PA,Pn,Pc,Pnd,Pr',rfl,Yk,lQr,sP,hPR⟩;have hP0:=sP.root0;refine ko (j:=0) (ut.ext Yk) (by show 0+2<=4;decide) (sc rfl) (λVH IJ lQs nQ=>?_);have qO:Mod (·=w8.heap.size) ag VH:=oQh IJ rfl;have LI:Ext w7 VH:=qO.ext (yu.trans Yk) (λk hk=>by omega);have z16:=Yk.size;have lQt:∀k,Qk NX2 k->¬k=w8.heap.size:=λk hk hh=>by
     rcases yv k hk with h | h
     ·have:=VQ _ h;omega
     ·omega
    have DU:=(aj.ext Yk).mod qO lQt;have nQz:=Jb.lt;have aQR:∀u∈nx++ [V1],DgO VH (Qk NX2) p.nm.length u.1 u.2.o:=λu hu=>by
     have LJ:DgO JM (Qk NX2) p.nm.length u.1 u.2.o:=by
      rcases XH.1 hu with hu | hu
      ·exact lQp u hu
      ·rw[QF.1 hu];exact aQP
     have lQu:∀ad,u.1.A=some ad->0<u.1.n->¬ad.block=w8.heap.size:=λad ea h0 hh=>by
      rcases XH.1 hu with hu | hu
      ·have:=SB.lt (q9 u hu).sb ad ea h0;omega
      ·rw[QF.1 hu,<-qW] at ea h0;have:=EC ad.block ⟨ad,ea,rfl⟩;omega
     exact⟨SB.modo (LJ.sb.ext Yk) qO lQu,LJ.st,LJ.off⟩
    refine Hf (j:=0) (i:=1) nQ rfl ?_;refine Yt (λhy=>?_) (λhy=>?_)
    ·refine Qs nQ rfl ?_;refine Xm Qa [Vz (⟨PA,Pn,Pc,Pnd,Pr'⟩,⟨YD v.2.o (JQ v.2.o (oD e.x)),v.2.d,v.2.a⟩)] rfl rfl rfl rfl rfl ⟨rfl,rfl,⟨⟩⟩ rfl (λcs h=>by simp only[QF] at h;subst h;rfl) rfl (by decide) (by decide) ?_;generalize C3:(((⟨PA,Pn,Pc,Pnd,Pr'⟩:DV),(⟨YD v.2.o (JQ v.2.o (oD e.x)),v.2.d,v.2.a⟩:AV)):DV×AV)=V2;intro Vp oA nQA qI;have lQv:Sl Vp 4 (some ⟨VH.heap.size,0,none⟩) 1 1 (Vz V2):=Sl.own (sz:=4) (n:=1) qI (QD _) (by decide) (by simp[Vz]);refine Zk (n:=nx.length+1) Qa rfl rfl rfl rfl rfl (by decide) rfl rfl ⟨_,rfl⟩ rfl rfl (DU.ext oA) lQv (Hk _) (by unfold maxLen;omega) (by show(nx.length+1+1)*56<=_;omega) (by have:=(LI.trans oA).size;omega) ?_;intro NX3 nc3 bZ lQw aQS lQx;have LK:Mod (Qk NX2) VH bZ:=(Mod.of_ext (Qk NX2) oA).trans lQw (λi hi=>.inl hi);have r19:∀k,Qk NX3 k->Qk NX2 k∨Vp.heap.size<=k:=lQx.rows
     have z18:=oA.size;have lQy:Ext w7 bZ:=LK.ext LI (λk hk=>(aQQ k hk).1);have lQz:SB VH PA Pn Pc Pnd:=SB.modo lQr qO (λad ea h0 hh=>by have:=hPR ad.block ⟨ad,ea,rfl⟩;omega);have lQA:DgO bZ (Qk NX3) p.nm.length V2.1 V2.2.o:=by
      rw[<-C3];have h0:DgO VH (Qk NX2) p.nm.length ⟨PA,Pn,Pc,Pnd,Pr'⟩ (YD v.2.o (JQ v.2.o (oD e.x))):=⟨lQz,sP,λad ea h0 h=>by have:=hPR ad.block ⟨ad,ea,rfl⟩;have:=(aQQ _ h).2;omega⟩
      exact h0.step LK (λk hk=>by
       rcases r19 k hk with h | h
       ·exact .inl h
       ·exact .inr (by omega))
     refine Qj ((j+1:Nat):Int) (by show((j:Nat):Int)+1=_;omega) (by omega) ?_;rw[show(nx++ [V1]).flatMap Vz++Vz V2=(nx++ [V1]++ [V2]).flatMap Vz by rw[bH];simp] at aQS;refine⟨(j+1,nx++ [V1]++ [V2],NX3,nc3),by simp only[Qy];rfl,⟨lQy,JW,?_,by simp only;rw[Qy,Qy];exact aQS,λu hu=>?_⟩,by show vs.length-(j+1)<vs.length-j;omega⟩
     ·simp only;rw[dq,bH,<-di,dx,dx,au,zZ,Yr,K9];congr 1;have h9:Qu p.nm.length (YD v.2.o (JQ v.2.o (oD e.x)))≠ []:=λe0=>hy (hP0.2 e0)
      unfold Ye;rw[if_neg (by exact Nr),if_neg (by exact h9),<-qW,<-C3]<;>rfl
     ·rcases XH.1 hu with hu | hu
      ·exact(aQR u hu).step LK (λk hk=>by
        rcases r19 k hk with h | h
        ·exact .inl h
        ·exact .inr (by omega))
      ·rw[QF.1 hu];exact lQA
    ·refine Qj ((j+1:Nat):Int) (by show((j:Nat):Int)+1=_;omega) (by omega) ?_;refine⟨(j+1,nx++ [V1],NX2,LG),by simp only[Qy];rfl,⟨LI,JW,?_,by simp only;rw[Qy];exact DU,aQR⟩,by show vs.length-(j+1)<vs.length-j;omega⟩;simp only;rw[dq,bH,<-di,dx,au,zZ,Yr];congr 1;have h9:Qu p.nm.length (YD v.2.o (JQ v.2.o (oD e.x)))=[]:=hP0.1 hy;unfold Ye;rw[if_neg (by exact Nr),Qf (by exact h9),<-qW]<;>rfl
   ·have ir:Qu p.nm.length (JQ v.2.o (oD e.x))=[]:=hQ0.1 hz;have fg:=stv.root0;refine Hf (j:=0) (i:=1) yr rfl ?_;refine Yt (λhy=>?_) (λhy=>?_)
    ·refine Qs yr rfl ?_;refine Xm Qa [Vz v] rfl rfl rfl rfl rfl ⟨rfl,rfl,⟨⟩⟩ rfl (λcs h=>by simp only[QF] at h;subst h;rfl) rfl (by decide) (by decide) ?_;intro X1 Jd CM Jc;have rg:=oz.trans Jd;have LF:Sl X1 4 (some ⟨XM.heap.size,0,none⟩) 1 1 (Vz v):=Sl.own (sz:=4) (n:=1) Jc (QD _) (by decide) (by simp[Vz]);refine Zk (n:=nx.length) Qa rfl rfl rfl rfl rfl (by decide) rfl rfl ⟨_,rfl⟩ rfl rfl (oy.ext rg) LF (Hk _) (by unfold maxLen;omega) (by show(nx.length+1)*56<=_;omega) (by have:=(Q7.trans rg).size;omega) ?_;intro NX2 LG JM iA aj LH;have uF:Mod (Qk NX) w8 JM:=(Mod.of_ext (Qk NX) rg).trans iA (λi hi=>.inl hi);have yu:Ext w7 JM:=uF.ext Q7 (λk hk=>(VQ k hk).1);have yv:∀k,Qk NX2 k->Qk NX k∨X1.heap.size<=k:=LH.rows
     have nQB:=rg.size;have aQT:∀k,Qk NX2 k->Qk NX k∨w8.heap.size<=k:=λk hk=>by
      rcases yv k hk with h | h
      ·exact .inl h
      ·exact .inr (by omega)
     refine Qj ((j+1:Nat):Int) (by show((j:Nat):Int)+1=_;omega) (by omega) ?_;rw[show nx.flatMap Vz++Vz v=(nx++ [v]).flatMap Vz by rw[bH];simp] at aj;refine⟨(j+1,nx++ [v],NX2,LG),by simp only[Qy];rfl,⟨yu,JW,?_,by simp only;rw[Qy];exact aj,λu hu=>?_⟩,by show vs.length-(j+1)<vs.length-j;omega⟩
     ·simp only;rw[dq,bH,<-di,dx,au,zZ,Yr];congr 1;unfold Ye;rw[Qf (by exact ir),if_neg (λe0=>hy (fg.2 e0))]<;>rfl
     ·rcases XH.1 hu with hu | hu
      ·exact(q9 u hu).step uF aQT
      ·rw[QF.1 hu];have h0:DgO w8 (Qk NX) p.nm.length v.1 v.2.o:=⟨sbv.ext oq,stv,λad ea h0 h=>by have:=SB.lt (sbv.ext VE) ad ea h0;have:=(VQ _ h).1;omega⟩
       exact h0.step uF aQT
    ·refine Qj ((j+1:Nat):Int) (by show((j:Nat):Int)+1=_;omega) (by omega) ?_;refine⟨(j+1,nx,NX,nxc),rfl,⟨Q7.trans oz,JW,?_,oy.ext oz,λu hu=>(q9 u hu).ext oz⟩,by show vs.length-(j+1)<vs.length-j;omega⟩;simp only;rw[dq,bH,<-di,au,zZ,Yr];unfold Ye;rw[Qf (by exact ir),Qf (fg.1 hy),Yr]
  ·have JW:j=vs.length:=by simp only at c2;omega
   rw[Zz (by rw[ZW];omega),fQ,<-iQP,<-dO heg] at di;refine Qj ((i+1:Nat):Int) (by show((i:Nat):Int)+1=_;omega) (by omega) ?_;exact⟨(i+1,nx,NX,nxc),rfl,⟨Qz.trans (VE.trans Q7),QN,di,⟨oy.sl,rfl⟩,λv hv=>⟨(q9 v hv).sb,(q9 v hv).st⟩⟩,by show m.length-(i+1)<m.length-i;omega⟩
 have QN:i=m.length:=by simp only at c1;omega
 rw[Zz (by rw[ZW];omega)] at fQ;have EE:=iQU (f:=p.f) (a:=a) (stop:=a+s.length+1) (es:=m.map EdV.ed) QK;rw[u9] at EE;have Ns:=iQW (f:=p.f) (a:=a) (stop:=a+s.length+1) (es:=m.map EdV.ed) QK;have hvi:=Cd (f:=p.f) (a:=a) QK (m.map EdV.ed);rw[<-fQ] at EE Ns hvi;refine loop Qa [165,23] (λt:Nat×List (DV×Pr)×Option Addr×Nat=>[.int .i64 t.1,.slice t.2.2.1 t.2.1.length t.2.2.2]) (λt w'=>Ext w5 w'/\t.1<=vs.length/\t.2.1.map (·.2)=lf p.f (a+s.length+1) ((vs.map (·.2)).take t.1)/\Own w' w5.heap.size 56 3 t.2.2.1 t.2.1.length t.2.2.2 (t.2.1.flatMap Jh)/\(∀q∈t.2.1,DgO w' (Qk t.2.2.1) p.nm.length q.1 q.2.o)/\∀v∈(vs.map (·.2)).take t.1,JD (v.d++Kc p.f v.a (a+s.length+1))=true) (λt _=>vs.length-t.1) (0,[],none,0) rfl ⟨Ext.refl _,Xt _,rfl,Own.nil _ _ _ _,(λq hq=>by cases hq),λv hv=>by simp at hv⟩ ?_;rintro⟨k,qs,PA,pc⟩ w6 ⟨Xh,IG,iV,cT,de,yw⟩;simp only at IG iV cT de yw;have XD:=J6.trans Xh;have hql:qs.length<=k:=by
  have h1:=QO List.length iV;have h2:=iQ0 p.f (a+s.length+1) ((vs.map (·.2)).take k);rw[ZW] at h1;rw[KZ] at h2;omega
 have VQ:=cT.rows;refine Qt (λc2=>?_) (λc2=>?_)
 ·have Xp:k<vs.length:=by simp only at c2;omega
  refine Zh Uo (Nn.ext Xh) rfl Xp (λLB v hv KV=>?_);have lY:=Q2 hv;obtain⟨sbv,stv⟩:=Np v lY;obtain⟨vb8,vbl,vba⟩:=gH v lY;have Nq:(vs.map (·.2))[k]? =some v.2:=by rw[Vi,hv]<;>rfl
  have hvV:v.2∈vs.map (·.2):=ZM.2 ⟨v,lY,rfl⟩;have dq:(vs.map (·.2)).take (k+1)=(vs.map (·.2)).take k++ [v.2]:=dO Nq;refine Kb (vs:=Vz v) rfl KV ?_;refine new (λw7 QY WF Q4=>?_);refine QB Q4 rfl (sc rfl) (λw8 Yh _ XB=>?_);have Wq:Ext w6 w8:=XY QY Q4 Yh;have V0:=XD.trans Wq;have Wz:=Ext.drew w8;have ds:=XC v.2.d;have cs:=XC (Kc p.f v.2.a (a+s.length+1));have dl:=qi p.f v.2.a (a+s.length+1);refine Xy Qa (Ext w8) 16 [(true,0),(true,1),(true,2),(true,3),(true,4),(true,5),(true,6),(true,7),(true,8),(true,9),(true,10),(true,11),(true,12),(true,13),(false,14),(false,15)] (by kernel_rfl) Wz ?_;refine QJ (v:=.string (Qe v.2.d)) (λw' Qb=>(XB.ext Qb).cell 2) ?_;refine QJ (v:=.string (Qe p.f)) (λw' Qb=>((K.blk.ext V0).ext Qb).cell 3) ?_;refine QJ (v:=.int .i64 v.2.a) (λw' Qb=>(XB.ext Qb).cell 3) ?_;refine Qj ((a+s.length+1:Nat):Int) (by rw[zB];omega) (by omega) ?_;refine Jz (v':=.string (Qe (Kc p.f v.2.a (a+s.length+1)))) ⟨by omega,by omega,by rw[er];omega⟩ (by
   rw[Vc];show Value.string (Qe ((p.f.take (a+s.length+1)).drop v.2.a))=_;rw[gL];rfl) ?_
  refine Jz (v':=.string (Qe (v.2.d++Kc p.f v.2.a (a+s.length+1)))) (by rw[ds,cs];unfold maxLen;omega) (by rw[dB]) ?_;have Yf:∀b∈v.2.d++Kc p.f v.2.a (a+s.length+1),b<256:=λb hb=>by
   rcases XH.1 hb with hb | hb
   ·exact vb8 b hb
   ·exact tV hB.f8 _ _ b hb
  have V5:(v.2.d++Kc p.f v.2.a (a+s.length+1)).length<=1000000:=by rw[Qy];omega
  generalize hT:v.2.d++Kc p.f v.2.a (a+s.length+1)=T at*;refine new (λw9 Xo ff Z8=>?_);refine⟨Wz.trans Xo,?_⟩;refine KM Z8 (by decide) (λQE Zu Jb=>?_);have fA:Ext w8 QE:=Zu.ext (Wz.trans Xo) (λi hi=>by have:=Wz.size;omega);refine⟨fA,?_⟩;have Jb:Blk QE w8.drew.heap.size 9 [.string (Qe T)]:=Jb;refine QC Jb rfl ?_;refine call (To T QE Yf (by omega)) ?_;rintro _ QH ⟨rfl,Z4⟩;have ly:=Wq.trans (fA.trans Z4);have Wm:=XD.trans ly;cases Jt:JD T with
  | false=>
   refine Xe rfl ?_;refine XP (YV 291 (by decide) QH) (λ_ _ hf=>hf.elim) ?_;rintro ch _ ⟨rfl,rfl⟩;refine⟨?_,rfl,Wm⟩;rw[sf,Qf];refine YM.2 (λhh=>?_);have:=EE.1 hh v.2 hvV;rw[hT,Jt] at this;cases this
  | true=>
  refine Xv rfl ?_;have ZJ:=Jb.ext Z4;have uG:=cT.ext ly;have ph:SlS Zt 3 QH PA qs.length pc (qs.map (λq=>(q.1,q.2.t))):=⟨by rw[<-Cf];exact uG.sl,by rw[ZW]⟩
  have ve:∀q∈qs,(∀b∈q.2.t,b<256)/\q.2.t.length<=1000000:=λq hq=>by
   refine Ul (P:=λt=>(∀b∈t,b<256)/\t.length<=1000000) ((vs.map (·.2)).take k) (λu hu=>?_) q.2 (by rw[<-iV];exact ZM.2 ⟨q,hq,rfl⟩);obtain⟨u0,LL,rfl⟩:=ZM.1 (bF hu);obtain⟨a1,a2,a3⟩:=gH u0 LL;refine⟨λb hb=>?_,?_⟩
   ·rcases XH.1 hb with hb | hb
    ·exact a1 b hb
    ·exact tV hB.f8 _ _ b hb
   ·have:=qi p.f u0.2.a (a+s.length+1);rw[Qy];omega
  have EF:XN (qs.map (λq=>(q.1,q.2.t)))=qs.map (·.2):=Ce (λq hq=>(de q hq).st);refine call (iQZ PA qs.length pc (qs.map (λq=>(q.1,q.2.t))) T w8.drew.heap.size QH ph (λq hq=>by
   obtain⟨q0,Ym,rfl⟩:=ZM.1 hq;exact(ve q0 Ym).1) Yf ZJ) ?_
  rintro _ QW ⟨rfl,Xu⟩;rw[EF];have rh:=ly.trans Xu;have lF:=XD.trans rh;have lQB:=(fA.trans Z4).trans Xu;have WM:=cT.ext rh;have Ji:=ZJ.ext Xu;have xw:=XB.ext lQB;have nQC:=rh.size;obtain⟨s1,s2⟩:=wW T (qs.map (·.2));have bQC:=iQI (qs.map (·.2)) T;rw[ZW] at bQC;have bQD:lf p.f (a+s.length+1) ((vs.map (·.2)).take (k+1))=cP (qs.map (·.2)) v.2.o T:=by rw[dq,iQV,<-iV,hT]
  have aQU:∀u∈(vs.map (·.2)).take (k+1),JD (u.d++Kc p.f u.a (a+s.length+1))=true:=λu hu=>by
   rw[dq] at hu;rcases XH.1 hu with hu | hu
   ·exact yw u hu
   ·rw[QF.1 hu,hT];exact Jt
  generalize Km:Vy (qs.map (·.2)) T=ix at*;by_cases Q5:ix<qs.length
  ·rw[Qf Q5];refine Xx (by omega) ?_;have Y1:0<qs.length:=by omega
   obtain⟨q0,Ym⟩:∃q0,qs[ix]? =some q0:=⟨_,Xb Q5⟩
   have mQI:=Q2 Ym;obtain⟨pa,ZE,_⟩:=WM.sl.at_ Y1;subst ZE;have n25:¬Qk (some pa) w6.heap.size:=λh=>by have:=(VQ _ h).2;omega
   have ri:=Ext.drew QW;have LM:∀q∈qs,DgO QW (Qk (some pa)) p.nm.length q.1 q.2.o:=λq hq=>(de q hq).ext rh
   refine Xy Qa (Mod (Qk (some pa)) QW) 16 [(true,0),(true,1),(true,2),(true,3),(true,4),(true,5),(true,7),(true,8),(false,6),(false,9),(true,10),(true,11),(false,12),(true,13),(true,14),(false,15)] (by kernel_rfl) (Mod.of_ext _ ri) ?_;refine W9 (j:=ix) Q5 ?_;refine Xr (vs:=[.slice v.1.A v.1.n v.1.c,.int .i64 v.1.r]) rfl (λw' Qb k u hk=>by rw[add_add,(xw.mod Qb n25).cell];match k,hk with | 0,hk=>exact hk | 1,hk=>exact hk) ?_;have hOd:=WM.ext ri;refine Kb (vs:=[.slice q0.1.A q0.1.n q0.1.c,.int .i64 q0.1.r]) rfl (λk u hk=>by
    rw[add_add];refine wM (o:=ix*3) (i:=0+k) hOd Y1 ?_;rw[aq];refine eH nt qs ix q0 k u Ym ?_
    match k,hk with
    | 0,hk=>exact hk
    | 1,hk=>exact hk) ?_
   refine⟨Mod.of_ext _ ri,?_⟩;have sq0:=(LM q0 mQI)
   refine call (iQX hk q0.1 v.1 QW.drew (sq0.sb.ext ri) ((sbv.ext (Xh.trans rh)).ext ri) sq0.st stv) ?_;rintro _ XM ⟨OA,On,Oc,Ond,Or',rfl,Xq,hOs,sO,hOR⟩;have aQV:=ri.trans Xq;refine⟨Mod.of_ext _ aQV,?_⟩;refine call (BV ⟨OA,On,Oc,Ond,Or'⟩ XM) ?_;rintro _ X1 ⟨rfl,Jd⟩;have qZ:=aQV.trans Jd;refine⟨Mod.of_ext _ qZ,?_⟩;refine W9 (j:=ix) Q5 ?_;show fX _ _ ((pa.add (ix*3)).add 0) _ _;rw[add_add];have nQD:=dD nt qs;refine tK (WM.ext qZ) (by show ix*3+0+2<=qs.length*3;omega) (sc rfl) (λJM iA aj=>?_);have aQW:Mod (Qk (some pa)) QW JM:=(Mod.of_ext _ qZ).trans iA (λi hi=>.inl hi);refine⟨aQW,?_⟩;have aQX:Mod (Qk (some pa)) w6 JM:=(Mod.of_ext _ rh).trans aQW (λi hi=>.inl hi);have LN:(qs.flatMap Jh)[ix*3+0+ [Value.slice OA On Oc,.int .i64 Or'].length]? =some (.string (Qe q0.2.t)):=eH nt qs ix q0 2 _ Ym rfl;rw[show(#[Value.slice OA On Oc,Value.int IntKind.i64 Or']:Array Value).toList=[Value.slice OA On Oc,.int .i64 Or'] from rfl,Hj LN] at aj;have aj:Own JM w5.heap.size 56 3 (some pa) qs.length pc ((qs.set ix (⟨OA,On,Oc,Ond,Or'⟩,Pr.mk (λe=>q0.2.o e||v.2.o e) q0.2.t)).flatMap Jh):=by
    rw[<-wD nt qs _ Q5];exact aj
   refine Qj ((k+1:Nat):Int) (by show((k:Nat):Int)+1=_;omega) (by omega) ?_;have mQJ:(qs.map (·.2))[ix]? =some q0.2:=by rw[Vi,Ym]<;>rfl
   have nQE:=qZ.size;have nQF:=ri.size;refine⟨(k+1,qs.set ix (⟨OA,On,Oc,Ond,Or'⟩,Pr.mk (λe=>q0.2.o e||v.2.o e) q0.2.t),some pa,pc),by simp only[cj];rfl,⟨aQX.ext Xh (λi hi=>(VQ i hi).1),Xp,?_,by simp only;rw[cj];exact aj,λq hq=>?_,aQU⟩,by show vs.length-(k+1)<vs.length-k;omega⟩
   ·simp only;rw[bQD];unfold cP;rw[Km,mQJ,List.map_set]
   ·rcases vx hq with hq | rfl
    ·exact(de q hq).step aQX (λi hi=>.inl hi)
    ·have h0:DgO X1 (Qk (some pa)) p.nm.length ⟨OA,On,Oc,Ond,Or'⟩ (λe=>q0.2.o e||v.2.o e):=⟨hOs.ext Jd,sO,λad ea h0 h=>by have:=hOR ad.block ⟨ad,ea,rfl⟩;have:=(VQ _ h).2;omega⟩
     exact h0.step iA (λi hi=>.inl hi)
  ·rw[if_neg Q5];refine Zd (by decide) ?_;refine cw (vs:=[.slice v.1.A v.1.n v.1.c,.int .i64 v.1.r]) xw rfl (λk u hk=>by match k,hk with | 0,hk=>exact hk | 1,hk=>exact hk) ?_;refine QC Ji rfl ?_;refine Xm Qa [Jh (v.1,Pr.mk v.2.o T)] rfl rfl rfl rfl rfl ⟨rfl,rfl,⟨⟩⟩ rfl (λcs h=>by simp only[QF] at h;subst h;rfl) rfl (by decide) (by decide) ?_;intro XM Xq up Kh;have DW:=rh.trans Xq;have IR:Sl XM 3 (some ⟨QW.heap.size,0,none⟩) 1 1 (Jh (v.1,Pr.mk v.2.o T)):=Sl.own (sz:=3) (n:=1) Kh (QD _) (by decide) (by simp[Jh,Zt]);refine Zk (n:=qs.length) Qa rfl rfl rfl rfl rfl (by decide) rfl rfl ⟨_,rfl⟩ rfl rfl (cT.ext DW) IR (Hl _) (by unfold maxLen;omega) (by show(qs.length+1)*48<=_;omega) (by have:=(Xh.trans DW).size;omega) ?_;intro PA2 yx X1 uu yy lQC;have LO:Mod (Qk PA) w6 X1:=(Mod.of_ext (Qk PA) DW).trans uu (λi hi=>.inl hi);have r14:∀k,Qk PA2 k->Qk PA k∨XM.heap.size<=k:=lQC.rows
   have lQD:=DW.size;have aQY:∀k,Qk PA2 k->Qk PA k∨w6.heap.size<=k:=λk hk=>by
    rcases r14 k hk with h | h
    ·exact .inl h
    ·exact .inr (by omega)
   refine Qj ((k+1:Nat):Int) (by show((k:Nat):Int)+1=_;omega) (by omega) ?_;rw[show qs.flatMap Jh++Jh (v.1,Pr.mk v.2.o T)=(qs++ [(v.1,Pr.mk v.2.o T)]).flatMap Jh by rw[bH];simp] at yy;have MF:(qs.map (·.2))[ix]? =none:=E1.2 (by rw[ZW];omega);refine⟨(k+1,qs++ [(v.1,Pr.mk v.2.o T)],PA2,yx),by simp only[Qy];rfl,⟨LO.ext Xh (λi hi=>(VQ i hi).1),Xp,?_,by simp only;rw[Qy];exact yy,λq hq=>?_,aQU⟩,by show vs.length-(k+1)<vs.length-k;omega⟩
   ·simp only;rw[bQD];unfold cP;rw[Km,MF,dx]<;>rfl
   ·rcases XH.1 hq with hq | hq
    ·exact(de q hq).step LO aQY
    ·rw[QF.1 hq];have h0:DgO w6 (Qk PA) p.nm.length v.1 v.2.o:=⟨sbv.ext Xh,stv,λad ea h0 h=>by have:=SB.lt sbv ad ea h0;have:=(VQ _ h).1;omega⟩
     exact h0.step LO aQY
 have Xp:k=vs.length:=by simp only at c2;omega
 rw[Zz (by rw[ZW];omega)] at iV yw;rw[<-iV] at Ns;obtain⟨ZE,hfP⟩:=Ns.pa hvi (λc hc=>(ZY.1 hc).1);have EF:XN (qs.map (λq=>(q.1,q.2.t)))=qs.map (·.2):=Ce (λq hq=>(de q hq).st);rw[if_neg (by rw[EE.2 yw];decide)] at sf;have ve:∀q∈qs,JD q.2.t=true/\(∀b∈q.2.t,b<256)/\q.2.t.length<=1000000:=λq hq=>by
  refine Ul (P:=λt=>JD t=true/\(∀b∈t,b<256)/\t.length<=1000000) (vs.map (·.2)) (λu hu=>?_) q.2 (by rw[<-iV];exact ZM.2 ⟨q,hq,rfl⟩);have hu1:=yw u hu;obtain⟨u0,LL,rfl⟩:=ZM.1 hu;obtain⟨a1,a2,a3⟩:=gH u0 LL;refine⟨hu1,λb hb=>?_,?_⟩
  ·rcases XH.1 hb with hb | hb
   ·exact a1 b hb
   ·exact tV hB.f8 _ _ b hb
  ·have:=qi p.f u0.2.a (a+s.length+1);rw[Qy];omega
 have Wz:=Ext.drew w6;refine Xy Qa (Ext w6) 8 [(true,0),(true,1),(true,2),(true,3),(true,4),(true,5),(false,6),(true,7)] (by kernel_rfl) Wz ?_;refine QJ (v:=.slice p.NA p.nn p.nc) (λw' Qb=>((K.blk.ext XD).ext Qb).cell 0) ?_;refine Xr (vs:=d.cells) rfl (λw' Qb k u hk=>by rw[((Qh.ext (Xq.trans (Qq.trans (Qz.trans Xh)))).ext Qb).cell];exact hk) ?_;have fR:=XD.trans Wz;refine call (Tv p.NA p.nn p.nc p.nm d o PA qs.length pc (qs.map (λq=>(q.1,q.2.t))) p.nm.length hB.n4 rfl hB.nb (λs hs=>by have:=hB.nl s hs;omega) (λq hq=>by
  obtain⟨q0,Ym,rfl⟩:=ZM.1 hq;obtain⟨t1,t2,t3⟩:=ve q0 Ym;exact⟨(jp hk (de q0 Ym).st).1,t1,t2,t3⟩) w6.drew (K.nms.ext fR) (hd.ext fR) sd ⟨by rw[<-Cf];exact(cT.ext Wz).sl,by rw[ZW]⟩ (λq hq=>by
  obtain⟨q0,Ym,rfl⟩:=ZM.1 hq;exact(de q0 Ym).sb.ext Wz) QK (by rw[EF];exact ZE)) ?_
 rintro _ w7 ⟨A7,c7,rfl,QY,KF⟩;refine⟨Wz.trans QY,?_⟩;rw[EF,wV p.nm.length 0 (Qu p.nm.length o) QK hfP,u9] at KF ⊢;exact⟨_,sf,A7,c7,rfl,fR.trans QY,KF⟩
theorem Uq {nm:List (List Nat)}{n d0:Nat}{inc:pY}(hi:∀r ln d k g q,inc r ln d k g= .error q->q.e≠0):∀(ls:List (List Nat))(ln at_:Nat)(k:BF)(op:List Se)(g:Gs)(q:Pl),Z2 nm n d0 inc ls ln at_ k op g= .error q->q.e≠0
 | [],ln,at_,k,op,g,q,h=>by
  cases op with
  | nil=>simp[Z2] at h
  | cons x op=>simp only[Z2,Except.error.injEq] at h;rw[<-h];exact(by decide:(72:Int)≠0)
 | s::ls,ln,at_,k,op,g,q,h=>by
  have ih:=λk op g h=>Uq (nm:=nm) (n:=n) (d0:=d0) hi ls (ln+1) (at_+s.length+1) k op g q h
  rw[Z2.eq_def] at h;simp only at h;cases Za:JC s with
  | txt=>
   rw[Za] at h;simp only at h;cases ha:Yb (s++ [10]) n at_ k g with
   | none=>rw[ha] at h;cases h;exact(by decide:(2:Int)≠0)
   | some g1=>rw[ha] at h;exact ih _ _ _ h
  | ifd r=>
   rw[Za] at h;simp only at h;cases hs:YT nm r with
   | error e=>rw[hs] at h;cases h;exact Ue hs
   | ok d=>
    rw[hs] at h;simp only at h;split at h
    ·cases h;exact(by decide:(2:Int)≠0)
    ·exact ih _ _ _ h
  | inc r=>
   rw[Za] at h;simp only at h;cases hs:inc r (ln+1) (d0+op.length) k g with
   | error e=>rw[hs] at h;cases h;exact hi _ _ _ _ _ _ hs
   | ok g1=>rw[hs] at h;exact ih _ _ _ h
  | elif r=>
   rw[Za] at h;cases op with
   | nil=>cases h;exact(by decide:(72:Int)≠0)
   | cons y op=>
    simp only at h;split at h
    ·cases h;exact(by decide:(71:Int)≠0)
    ·cases hs:YT nm r with
     | error e=>rw[hs] at h;cases h;exact Ue hs
     | ok d=>rw[hs] at h;exact ih _ _ _ h
  | els=>
   rw[Za] at h;cases op with
   | nil=>cases h;exact(by decide:(72:Int)≠0)
   | cons y op=>
    simp only at h;split at h
    ·cases h;exact(by decide:(71:Int)≠0)
    ·exact ih _ _ _ h
  | en=>
   rw[Za] at h;cases op with
   | nil=>cases h;exact(by decide:(72:Int)≠0)
   | cons y op=>exact ih y.ou op {g with fr:=true} h
theorem iQ6 {ix:List Nat->Option Nat}{rd s:List Nat}{e:Int}(h:dK ix rd s= .error e):e≠0:=by
 rw[gQG] at h;split at h
 ·cases h;decide
 ·split at h
  ·cases h;decide
  ·split at h
   ·cases h;decide
   ·cases h
theorem iQ7 {nm:List (List Nat)}{t:List Nat}{q:Pl}(h:W5 nm (fF t) [102]= .error q):q.e≠0:=by
 unfold W5 at h;split at h
 ·cases h;decide
 cases Vh:W4 (fF t)with
 | some p=>rw[Vh] at h;cases h;exact SM Vh
 | none=>
  rw[Vh] at h;simp only at h;cases Km:JB ((fF t).map (·.1)) [102] with
  | none=>rw[Km] at h;cases h;decide
  | some n=>
   rw[Km] at h;simp only at h;have hn:n<(fF t).length:=by have:=kN Km;simpa using this
   have h0:n=0:=by simpa [fF] using hn
   subst h0;rw[be] at h;refine Uq (λr ln d k g q hi=>?_) _ _ _ _ _ _ _ h;split at hi
   ·rename_i e he;cases hi;exact iQ6 he
   ·rename_i m he;exact Xd he (G7 t (by simp) (e:=0) _)
theorem Cg:∀(l:List Nat),∀s∈QZ l,∀b∈s,b∈l
 | []=>λs hs=>by simp[QZ] at hs
 | c::l=>by
  have ih:=Cg l;intro s hs b hb;unfold QZ at hs;split at hs
  ·rcases Q0.1 hs with rfl | hs
   ·cases hb
   ·exact vu _ (ih s hs b hb)
  ·cases hl:QZ l with
   | nil=>rw[hl] at hs;rw[QF.1 hs] at hb;rw[QF.1 hb];simp
   | cons t ls=>
    rw[hl] at hs ih;rcases Q0.1 hs with rfl | hs
    ·rcases Q0.1 hb with rfl | hb
     ·simp
     ·exact vu _ (ih t (by simp) b hb)
    ·exact vu _ (ih s (by simp[hs]) b hb)
theorem Ur {f:List Nat}(hf:∀b∈f,b<256)(Kk:f.length<=60000)(c:Nat):∀(es:List Ed)(st:List Nat×Nat),(∀e∈es,(∀b∈e.tx,b<256)/\e.tx.length<=1000)->(∀b∈st.1,b<256)->
  (∀b∈(es.foldl (YU f c) st).1,b<256)/\(es.foldl (YU f c) st).1.length<=st.1.length+es.length*70000
 | [],st,_,h=>⟨h,by simp⟩
 | e::es,st,he,h=>by
  obtain⟨e1,e2⟩:=he e (by simp);have jO:=qi f st.2 e.fr.toNat;have am:(∀b∈(YU f c st e).1,b<256)/\(YU f c st e).1.length<=st.1.length+70000:=by
   unfold YU;split
   ·refine⟨λb hb=>?_,by simp only[Qy];omega⟩;simp only[XH] at hb;rcases hb with(hb | hb) | hb
    ·exact h b hb
    ·exact tV hf _ _ b hb
    ·exact e1 b hb
   ·exact⟨h,by omega⟩
  obtain⟨i1,i2⟩:=Ur hf Kk c es (YU f c st e) (λb hb=>he b (by simp[hb])) am.1;rw[vh,Xs,vj,Nat.one_mul];exact⟨i1,by omega⟩
theorem iQ8 {f:List Nat}(hf:∀b∈f,b<256)(Kk:f.length<=60000){stop a:Nat}{es:List Ed}(he:∀e∈es,(∀b∈e.tx,b<256)/\e.tx.length<=1000)(hl:es.length<=10)(c:Nat):(∀b∈bS f stop a es c,b<256)/\(bS f stop a es c).length<=1000000:=by
 obtain⟨h1,h2⟩:=Ur hf Kk c es ([],a) he (λb hb=>by cases hb);unfold bS;refine⟨λb hb=>?_,?_⟩
 ·rcases XH.1 hb with hb | hb
  ·exact h1 b hb
  ·exact tV hf _ _ b hb
 ·have:=qi f (es.foldl (YU f c) ([],a)).2 stop;have:=Y4 70000 hl;rw[Qy];simp only[JI] at h2;omega
def tW (s:List Nat):Prop:=(∀b∈s,b<256)/\s.length<=1000000
theorem Us {nm:List (List Nat)}(hb:Jy nm)(h:∀s∈nm,s.length<=1000)(v:Nat)(ng:Bool):tW (JS nm v ng):=by
 refine⟨λb hb2=>?_,?_⟩
 ·unfold JS at hb2;simp only[XH] at hb2;rcases hb2 with hb2 | hb2 | hb2
  ·exact(by decide:∀b∈ZH,b<256) b hb2
  ·cases ng with
   | true=>
        have:b=33:=by simpa using hb2
        rw[this];decide
   | false=>simp at hb2
  ·cases hv:nm[v]? with
   | none=>rw[hv] at hb2;simp at hb2
   | some s=>rw[hv] at hb2;exact(hb s (Q2 hv)).1 b hb2
 ·unfold JS;have h1:((nm[v]?).getD []).length<=1000:=by
   cases hv:nm[v]? with
   | none=>simp
   | some s=>exact h s (Q2 hv)
  have h2:(if ng then [33] else([]:List Nat)).length<=1:=by cases ng<;>simp
  have h3:ZH.length=4:=rfl;simp only[Qy];omega
theorem iQ9 {nm:List (List Nat)}(JX:Jy nm)(Je:∀s∈nm,s.length<=1000){f:List Nat}(hf:∀b∈f,b<256)(Kk:f.length<=60000){es:List Ed}(he:∀e∈es,(∀b∈e.tx,b<256)/\e.tx.length<=1000)(hl:es.length<=10){S:List Nat}(hS:S.length<=16){a:Nat}{s:List Nat}(hs:tW s){L:List (List Nat)}(h:gm nm f es S a s=some L):
  L.length<=16000048/\∀u∈L,tW u:=by
 unfold gm at h;split at h
 ·rw[<-Option.some.inj h];exact⟨by show 1<=16000048;decide,λu hu=>by rw[QF.1 hu];exact hs⟩
 ·rename_i h0;split at h
  ·cases h
  ·split at h
   ·cases h
   ·rw[<-Option.some.inj h];have QK:S≠ []:=λe=>by
     apply h0;unfold ia;rw[vt];intro b hb;rw[e];simp[aL]
    have hm:∀e∈ia es S a s,(∀b∈e.tx,b<256)/\e.tx.length<=1000:=λe hm=>he e (Va.1 hm).1
    have zr:(ia es S a s).length<=10:=X2 (j6 _ _) hl;obtain⟨h1,h2⟩:=kW (nm:=nm) (f:=bS f (a+s.length+1) a (ia es S a s)) (P:=tW) (M:=1000000) (λv ng=>Us JX Je v ng) ⟨by decide,by decide⟩ ⟨by decide,by decide⟩ nm.length 0 S QK (λc hc=>by
     obtain⟨v1,v2⟩:=iQ8 hf Kk (stop:=a+s.length+1) (a:=a) hm zr c;obtain⟨l1,l2⟩:=np (bS f (a+s.length+1) a (ia es S a s) c);exact⟨λu hu=>⟨λb hb=>v1 b (Cg _ u hu b hb),by have:=l2 u hu;omega⟩,by omega⟩)
    have:=Y4 (1000000+3) hS;exact⟨by omega,h1⟩
def ApR (nm:List (List Nat))(d:BF)(g:Gs)(f:List Nat)(es:List Ed)(ls:List (List Nat))(i:Nat)(L:List (List Nat)):Prop:=
 eV nm d g f es ls 0=match eV nm d g f es (ls.drop i) (Qo (ls.take i)).length with
  | none=>none
  | some m=>some (L++m)
theorem ApR.zero {nm:List (List Nat)}{d:BF}{g:Gs}{f:List Nat}{es:List Ed}{ls:List (List Nat)}:ApR nm d g f es ls 0 []:=by
 unfold ApR;show eV nm d g f es ls 0=match eV nm d g f es ls 0 with
  | none=>none
  | some m=>some ([]++m)
 cases eV nm d g f es ls 0<;>rfl
theorem Hm {ls:List (List Nat)}{i:Nat}{s:List Nat}(h:ls[i]? =some s):(Qo (ls.take (i+1))).length=(Qo (ls.take i)).length+s.length+1:=by
 rw[KC,h];show(Qo (ls.take i++ [s])).length=_;rw[GK];simp only[Qy,mA];omega
theorem ApR.next {nm:List (List Nat)}{d:BF}{g:Gs}{f:List Nat}{es:List Ed}{ls:List (List Nat)}{i:Nat}{L l:List (List Nat)}{s:List Nat}(h:ApR nm d g f es ls i L)(hs:ls[i]? =some s)
  (hl:(if JC s= .txt then gm nm f es (Qu nm.length (JQ d (tQ g (Qo (ls.take i)).length))) (Qo (ls.take i)).length s else some [s])=some l):ApR nm d g f es ls (i+1) (L++l):=by
 have Q5:=(Zw.1 hs).1;have hd:ls.drop i=s::ls.drop (i+1):=by
  rw[bG Q5];congr 1;rw[Xb Q5] at hs;exact Option.some.inj hs
 unfold ApR at h ⊢;rw[hd,eV,hl] at h;rw[Hm hs,h];simp only;cases eV nm d g f es (ls.drop (i+1)) ((Qo (ls.take i)).length+s.length+1)with
 | none=>rfl
 | some m=>simp only[K9]
theorem ApR.none {nm:List (List Nat)}{d:BF}{g:Gs}{f:List Nat}{es:List Ed}{ls:List (List Nat)}{i:Nat}{L:List (List Nat)}{s:List Nat}(h:ApR nm d g f es ls i L)(hs:ls[i]? =some s)
  (hl:(if JC s= .txt then gm nm f es (Qu nm.length (JQ d (tQ g (Qo (ls.take i)).length))) (Qo (ls.take i)).length s else some [s])=Option.none):eV nm d g f es ls 0=Option.none:=by
 have Q5:=(Zw.1 hs).1;have hd:ls.drop i=s::ls.drop (i+1):=by
  rw[bG Q5];congr 1;rw[Xb Q5] at hs;exact Option.some.inj hs
 unfold ApR at h;rw[hd,eV,hl] at h;exact h
theorem ApR.fin {nm:List (List Nat)}{d:BF}{g:Gs}{f:List Nat}{es:List Ed}{ls:List (List Nat)}{i:Nat}{L:List (List Nat)}(h:ApR nm d g f es ls i L)(hi:ls.length<=i):eV nm d g f es ls 0=some L:=by
 unfold ApR at h;rw[vw hi] at h;rw[h];show some (L++ [])=some L;rw[Yr]
theorem Ut:∀{ls:List (List Nat)}{p i:Nat}{s:List Nat},ls[i]? =some s->(p+(Qo (ls.take i)).length,s)∈JK p ls
 | [],p,i,s,h=>by simp at h
 | t::ls,p,0,s,h=>by
  have:t=s:=by simpa using h
  subst this;simp[JK,Qo]
 | t::ls,p,i+1,s,h=>by
  have:=Ut (p:=p+t.length+1) (ls:=ls) (i:=i) (s:=s) (by simpa using h);refine vu _ ?_;rw[vi,W0];simp only[Qy,Xs];rw[show p+(t.length+((Qo (ls.take i)).length+1))=p+t.length+1+(Qo (ls.take i)).length by omega];exact this
theorem Uu {nm:List (List Nat)}{n d0:Nat}{inc:pY}(hi:∀r ln d k g g',inc r ln d k g≠ .ok g'):∀(ls:List (List Nat))(ln at_:Nat)(k:BF)(op:List Se)(g g':Gs),Z2 nm n d0 inc ls ln at_ k op g= .ok g'->∀q∈JK at_ ls,JC q.2= .txt->∃k',(q.1,q.2,k')∈gl nm ls at_ k (Tb op)
 | [],ln,at_,k,op,g,g',_,q,hq,_=>by cases hq
 | s::ls,ln,at_,k,op,g,g',h,q,hq,me=>by
  have ih:=λk op g h hq=>Uu (nm:=nm) (n:=n) (d0:=d0) hi ls (ln+1) (at_+s.length+1) k op g g' h q hq me
  rw[Z2.eq_def] at h;simp only at h;rw[gl.eq_def];simp only;rw[JK] at hq;cases Za:JC s with
  | txt=>
   rw[Za] at h;simp only at h ⊢;cases ha:Yb (s++ [10]) n at_ k g with
   | none=>rw[ha] at h;cases h
   | some g1=>
    rw[ha] at h;rcases Q0.1 hq with rfl | hq
    ·exact⟨k,NZ⟩
    ·obtain⟨k',Yn⟩:=ih _ _ _ h hq;exact⟨k',vu _ Yn⟩
  | ifd r=>
   rw[Za] at h;simp only at h ⊢;rcases Q0.1 hq with rfl | hq
   ·rw[Za] at me;cases me
   cases hs:YT nm r with
   | error e=>rw[hs] at h;cases h
   | ok d=>
    rw[hs] at h;simp only at h ⊢;split at h
    ·cases h
    ·exact ih _ _ _ h hq
  | inc r=>
   rw[Za] at h;simp only at h;cases hs:inc r (ln+1) (d0+op.length) k g with
   | error e=>rw[hs] at h;cases h
   | ok g1=>exact Xd hs (hi _ _ _ _ _ _)
  | elif r=>
   rw[Za] at h;rcases Q0.1 hq with rfl | hq
   ·rw[Za] at me;cases me
   cases op with
   | nil=>cases h
   | cons y op=>
    simp only at h ⊢;split at h
    ·cases h
    ·cases hs:YT nm r with
     | error e=>rw[hs] at h;cases h
     | ok d=>rw[hs] at h;exact ih _ _ _ h hq
  | els=>
   rw[Za] at h;rcases Q0.1 hq with rfl | hq
   ·rw[Za] at me;cases me
   cases op with
   | nil=>cases h
   | cons y op=>
    simp only at h ⊢;split at h
    ·cases h
    ·exact ih y.re ({y with ot:=true}::op) {g with fr:=true} h hq
  | en=>
   rw[Za] at h;rcases Q0.1 hq with rfl | hq
   ·rw[Za] at me;cases me
   cases op with
   | nil=>cases h
   | cons y op=>exact ih y.ou op {g with fr:=true} h hq
theorem jQa {nm:List (List Nat)}{t:List Nat}{g:Gs}(hr:W5 nm (fF t) [102]= .ok g){q:Nat×List Nat}(hq:q∈JK 0 (QZ t))(hd:JC q.2= .txt):∃k i x,SegAt g q.1 k i x:=by
 obtain⟨ht,h1,h2,h3⟩:=TX hr;have key:∃k',(q.1,q.2,k')∈gl nm (QZ t) 0 (λ_=>true) []:=by
  unfold W5 at hr;split at hr
  ·cases hr
  cases Vh:W4 (fF t)with
  | some p=>rw[Vh] at hr;cases hr
  | none=>
   rw[Vh] at hr;simp only at hr;cases Km:JB ((fF t).map (·.1)) [102] with
   | none=>rw[Km] at hr;cases hr
   | some n=>
    rw[Km] at hr;simp only at hr;have hn:n<(fF t).length:=by have:=kN Km;simpa using this
    have h0:n=0:=by simpa [fF] using hn
    subst h0;have hx:(fF t)[0]? =some ([102],t):=rfl;rw[be,hx] at hr;simp only[zP,iY] at hr;exact Uu (λr ln d' k' g1 g2 hi=>by
     split at hi
     ·cases hi
     ·rename_i m he;exact G7 t (by simp) (e:=0) _ he) (QZ t) 0 0 (λ_=>true) [] ⟨[],[],true⟩ g hr q hq hd
 obtain⟨k',hk⟩:=key;rw[<-h1] at hk;obtain⟨i,x,hs,_⟩:=iQG h3 h2 hk;exact⟨k',i,x,hs⟩
end
section
section
variable {P:Program} {ops:Array Oper} {md:Region.Mode} {C:World->Prop} {Q:Exit->Act->World->Prop}
def PanE (N:Slots)(T:Env)(Xk:List PanicEntry->World->Prop)(Q:Exit->Act->World->Prop):Exit->Act->World->Prop
 | .panic ch,a,w=>Fits N T a/\Xk ch w
 | e,a,w=>Q e a w
def wY (T:Env)(d:Option Tmp):Bool:=match d with
 | none=>true
 | some d=> !(kc d T)
theorem PanE.put {N:Slots}{T:Env}{Xk:List PanicEntry->World->Prop}{Q:Exit->Act->World->Prop}{ch:List PanicEntry}{a:Act}{d:Option Tmp}{v:Value}{w:World}(hd:wY T d=true)(h:PanE N T Xk Q (.panic ch) (a.put d v) w):PanE N T Xk Q (.panic ch) a w:=by
 obtain⟨h1,h3⟩:=h;cases d with
 | none=>exact⟨h1,h3⟩
 | some d=>
  refine⟨⟨by simpa [Act.put] using h1.size,by simpa [Act.put] using h1.defers,λk x hk=>?_⟩,h3⟩;have h4:=h1.has k x hk;have QK:d≠k:=λe=>by
   subst e;have h5:kc d T=false:=by simpa [wY] using hd
   rw[Oy h5] at hk;cases hk
  simpa [Act.put,QK] using h4
theorem PanE.imp {c:Cx}{T:Env}{Xk:List PanicEntry->World->Prop}{Q:Zj}(hp:∀ch w,Xk ch w->Q (.panic ch) T w):∀(e:Exit)(a:Act)(w:World),PanE c.N T Xk (Up c Q) e a w->Up c Q e a w:=λe a w h=>by
 cases e<;>first | exact h | (obtain⟨h1,h3⟩:=h;exact⟨T,h1,hp _ _ h3⟩)
theorem jQb {N:Slots}{T:Env}{Xk:List PanicEntry->World->Prop}{n i:Nat}{oi:Oper}{v:Value}{L:Array Bool->Act->World->Prop}(hi:ops[i]? =some oi)(oK:∀(j:Nat)(o:Oper) cs b,ops[j]? =some o->o.op≠ .select cs b)(hT:wY T oi.dst=true)
  (hs:kl md ops n) (QN:i<n) (yM:∀listed a w,L listed a w->∀j∈Region.ready md ops listed,n<=j):
  ∀(f:Nat) (listed:Array Bool) (a:Act) (w:World),HeadInv md ops n listed->
   (∀j oj,ops[j]? =some oj->j≠i->listed.getD j true=false->(∀e∈oj.after,Region.binds md e=true->e.on≠i)->oi.apart ops oj=true)->
   i∈Region.ready md ops listed->YieldsIf P ops C oi v a->C w->
   aA P md ops (PanE N T Xk Q) C n L f (listed.setIfInBounds i true) (a.put oi.dst v) w->aA P md ops (PanE N T Xk Q) C n L (f+1) listed a w:=by
 intro f;induction f with
 | zero=>
  intro listed a w inv _ hr hy hC H;have JV:=(mem_ready.1 hr).1;refine⟨λh=>(by rw[h] at hr;cases hr),λj hj=>?_⟩;have JW:=sI hs inv QN JV j hj;refine⟨JW,?_⟩;by_cases Kp:j=i
  ·subst Kp;exact hy.wpOp hi hC ⟨hC,H⟩
  ·have:=yM _ _ _ H j (ready_mono hj Kp);omega
 | succ f ih=>
  intro listed a w inv oL hr hy hC H;have JV:=(mem_ready.1 hr).1;refine⟨λh=>(by rw[h] at hr;cases hr),λj hj=>?_⟩;have JW:=sI hs inv QN JV j hj;refine⟨JW,?_⟩;by_cases Kp:j=i
  ·subst Kp;exact hy.wpOp hi hC ⟨hC,H⟩
  ·have h1:=(H.2 j (ready_mono hj Kp)).2;obtain⟨oM,oj,fC,hall⟩:=mem_ready.1 hj;have lO:∀e∈oj.after,Region.binds md e=true->e.on≠i:=λe he hb heq=>by
    have h1:=hall e he hb;rw[heq,getD_both JV] at h1;cases h1
   have h2:=wpOp_putIf fC (oL j oj fC Kp oM lO) (λcs b=>oK i oi cs b hi) (λcs b=>oK j oj cs b fC) (λ_ _ _ h=>PanE.put hT h) hy h1;have yN:∀k ok,ops[k]? =some ok->k≠i->(listed.setIfInBounds j true).getD k true=false->
     (∀e∈ok.after,Region.binds md e=true->e.on≠i)->oi.apart ops ok=true:=λk ok hk yO JV Xa=>by
    refine oL k ok hk yO ?_ Xa;by_cases oN:j=k
    ·subst oN;exact oM
    ·rw[getD_set_ne true oN] at JV;exact JV
   refine wpOp_mono (λa' w' h3=>⟨h3.2.1,ih (listed.setIfInBounds j true) a' w' (inv.set hj JW) yN (ready_mono hr (Ne.symm Kp)) h3.1 h3.2.1 ?_⟩) h2;rw[bQM _ _ Kp];exact h3.2.2
end
section
variable {c:Cx} {S:Env} {a:Act}
def lg (c:Cx)(T:Env)(Xk:List PanicEntry->World->Prop)(all:List Oper)(C:World->Prop):List (Bool×Nat)->Env->World->(Env->World->Prop)->Prop
 | [],S,w,K=>K S w
 | (true,k)::l,S,w,K=>match VU all k with
  | some o=>je all o S (λS=>sK c o S C (λS=>lg c T Xk all C l S w K)) (λS=>Xn c S o.dst (.v undef) (λS=>lg c T Xk all C l S w K))
  | none=>False
 | (false,k)::l,S,w,K=>match VU all k with
  | some o=>je all o S (λS=>eF c o S w (λS w=>C w/\lg c T Xk all C l S w K) (λe S w=>match e with
   | .panic ch=>Has T S/\Xk ch w
   | _=>False)) (λS=>Xn c S o.dst (.v undef) (λS=>lg c T Xk all C l S w K))
  | none=>False
theorem Ch (hg:c.g.Ok){md:Region.Mode}{ops:List Oper}{C:World->Prop}{Q:Exit->Act->World->Prop}{n:Nat}(hs:Region.noSelect ops.toArray=true){T:Env}(hT:ops.all (λo=>wY T o.dst)=true)(hk:kl md ops.toArray n){K:Env->World->Prop}{Xk:List PanicEntry->World->Prop}:
  ∀(l:List (Bool×Nat)) (listed:Array Bool) (S:Env) (a:Act) (w:World),HeadInv md ops.toArray n listed->dC md ops.toArray n l listed=true->lg c T Xk ops C l S w K->Fits c.N S a->C w->
  aA c.g.P md ops.toArray (PanE c.N T Xk Q) C n (λKJ a' w'=>Region.seqB md ops.toArray (ops.toArray.size-n) n KJ=true/\∃S',Fits c.N S' a'/\K S' w') l.length listed a w
 | [],listed,S,a,w,inv,hB,h,hf,hC=>⟨hB,S,hf,h⟩
 | (true,k)::l,listed,S,a,w,inv,hB,h,hf,hC=>by
  simp only[dC,Jv] at hB;obtain⟨⟨⟨Xp,hr⟩,lM⟩,V3⟩:=hB;have Xp:k<n:=by rw[j0] at Xp;exact Xp
  have Xc:k∈Region.ready md ops.toArray listed:=by simpa using hr
  obtain⟨_,o,ho,_⟩:=mem_ready.1 Xc;have hn:VU ops k=some o:=by rw[i9];simpa using ho
  simp only[lg,hn] at h;have key:∃v,YieldsIf c.g.P ops.toArray C o v a/\∃S',Fits c.N S' (a.put o.dst v)/\lg c T Xk ops C l S' w K:=by
   rcases mI h hf with⟨hw,S1,ZN,h1⟩ | ⟨hw,S1,ZN,h1⟩
   ·obtain⟨v,h2,h3⟩:=AG hg h1 ZN;exact⟨v,.inl ⟨hw,h2⟩,h3⟩
   ·exact⟨undef,.inr ⟨hw,rfl⟩,ZA (e:=.v undef) h1 ZN⟩
  obtain⟨v,hy,S',Q8,h'⟩:=key;exact jQb ho (Region.noSelect_spec hs) (VT.1 hT o (Q2 (by simpa using ho))) hk Xp (λKJ a' w' hL=>seqB_ready hL.1) l.length listed a w inv (Region.free_spec ho lM) Xc hy hC
   (Ch hg hs hT hk l _ S' _ w (inv.set Xc Xp) V3 h' Q8 hC)
 | (false,k)::l,listed,S,a,w,inv,hB,h,hf,hC=>by
  simp only[dC,Jv,Vb] at hB;obtain⟨⟨Xp,hr⟩,V3⟩:=hB;have Xp:k<n:=by rw[j0] at Xp;exact Xp
  have Xc:k∈Region.ready md ops.toArray listed:=by rw[hr];simp
  obtain⟨_,o,ho,_⟩:=mem_ready.1 Xc;have hn:VU ops k=some o:=by rw[i9];simpa using ho
  simp only[lg,hn] at h;have iD:=inv.set Xc Xp;refine⟨λh0=>(by rw[hr] at h0;cases h0),λi hi=>?_⟩;rw[hr] at hi;have yP:i=k:=by simpa using hi
  subst yP;refine⟨Xp,?_⟩;unfold wpOp;simp only[ho];rcases mI h hf with⟨hw,S1,ZN,h1⟩ | ⟨hw,S1,ZN,h1⟩
  ·rw[Qf hw];refine .inl ?_;have h2:=sw hg h1 ZN;have h3:=Oper.wp_mono (K':=λa' w'=>C w'/\aA c.g.P md ops.toArray (PanE c.N T Xk Q) C n (λKJ a' w'=>Region.seqB md ops.toArray (ops.toArray.size-n) n KJ=true/\∃S',Fits c.N S' a'/\K S' w') l.length (listed.setIfInBounds i true) a' w')
    (λa' w' ⟨S',Q8,Kl,Yn⟩=>⟨Kl,Ch hg hs hT hk l _ S' a' w' iD V3 Yn Q8 Kl⟩) h2
   unfold Oper.wp at h3 ⊢;generalize (execOp a.eval o).run c.g.P w=r at*;cases r with
   | ok nx w'=>
    cases nx<;>simp only[Oper.upon] at h3 ⊢ <;> try exact h3
    exact h3.mono λe KI he=>by
     cases e with
     | returned v=>exact he
     | panicked ch=>obtain⟨_,hfz,he⟩:=he;exact⟨he.1.fits hfz,he.2⟩
     | outgrown=>obtain⟨_,_,_,_,he⟩:=he;exact he.elim
   | halt x w'=>cases x<;>simp only[Oper.upon] at h3 ⊢ <;> first | exact h3 | (obtain⟨_,hfz,h3⟩:=h3;exact⟨h3.1.fits hfz,h3.2⟩) | (obtain⟨_,_,h3⟩:=h3;exact h3.elim)
  ·rw[if_neg (by rw[hw];decide)];obtain⟨S',Q8,h'⟩:=ZA (e:=.v undef) h1 ZN;exact⟨hC,Ch hg hs hT hk l _ S' _ w iD V3 h' Q8 hC⟩
theorem jQc (hg:c.g.Ok){id:Nat}{ops:List Oper}{w:World}{Q:Zj}(T:Env)(hT:ops.all (λo=>wY T o.dst)=true)(Xk:List PanicEntry->World->Prop)(MQ:∀ch w,Xk ch w->Q (.panic ch) T w)(C:World->Prop)(n:Nat)(plan:List (Bool×Nat))
  (hB:(Region.noSelect ops.toArray&&Nat.beq plan.length n&&sJ .any ops.toArray n&&dC .any ops.toArray n plan (Array.replicate ops.toArray.size false))=true) (hC:C w.drew)
  (h:lg {c with named:=1000000} T Xk ops C plan S w.drew (λS w=>YN c ops (ops.drop n) S w (λS w=>Q .normal S w) (λe S w=>match e with
   | .panic ch=>Has T S/\Xk ch w
   | _=>False))):aw c id ops S w Q:=by
 unfold aw;intro a hf;simp only[Jv] at hB;obtain⟨⟨⟨hs,hl⟩,ce⟩,Jt⟩:=hB;have hl:=VR hl;have hk:=AF ce;have Mn:n<=ops.length:=by
  rcases hk with hk | hk
  ·rw[hk];simp
  ·have:=hk.1;simp at this;omega
 refine Code.wp_mono (PanE.imp MQ) (wp_region_any hg.mixed ?_);have qp:HeadInv .any ops.toArray n (Array.replicate ops.toArray.size false):=
  ⟨by simp,λj oj _ hl=>(by rw[getD_replicate_false] at hl;cases hl),λt _ ht=>getD_in (by simpa using ht) (getD_replicate_false _ _)⟩
 have H:=Ch (c:={c with named:=1000000}) hg (Q:=Up c Q) hs hT hk plan _ S a _ qp Jt h hf hC;have YI:(ops.drop n).length=ops.toArray.size-n:=by simp
 have H2:=vM (Q:=PanE c.N T Xk (Up c Q)) (g:=ops.toArray.size-n) (λKJ a' w' hL=>by
  obtain⟨hq,S',Q8,Yn⟩:=hL;have h2:=kh (c:=c) hg ops _ _ _ _ Yn Q8;have:=wpAny_of_seq (P:=c.g.P) (md:=.any) (ops:=ops.toArray) (Q':=PanE c.N T Xk (Up c Q)) (ops.drop n) n KJ a' w' (λj=>by simp) (by rw[YI];exact hq) (mH (λe a w hq=>by
   cases e with
   | normal=>exact hq
   | panic ch=>obtain⟨_,hfz,h⟩:=hq;exact⟨h.1.fits hfz,h.2⟩
   | _=>exact Xd hq (by rintro⟨_,_,h⟩;exact h)) h2)
  rwa [YI] at this) _ _ _ _ H
 rw[hl,show n+(ops.toArray.size-n)=ops.toArray.size by simp;omega] at H2;exact H2
end
end
end Go.Proofs.YtjabbbcdgmlojaaGreatDoor
