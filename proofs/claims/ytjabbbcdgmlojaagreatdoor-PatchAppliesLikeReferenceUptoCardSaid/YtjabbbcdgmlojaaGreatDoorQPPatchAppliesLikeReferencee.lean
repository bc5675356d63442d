/-
  What PPatchAppliesLikeReference rests on, part 5 (wip/shake.py).
  Conditions: none.
-/
import Derived.Test.YtjabbbcdgmlojaaGreatDoorQPPatchAppliesLikeReferenced
set_option linter.all false
set_option linter.deprecated false
set_option maxHeartbeats 12800000
namespace Go.Proofs.YtjabbbcdgmlojaaGreatDoor
open Go Go.RowKit
section
def KX (p:DV×Γ):χ τ:=[.slice p.1.A p.1.n p.1.c,.int .i64 p.1.r,.string (Qb p.2)]
theorem OX (p:DV×Γ):(KX p).length=3:=rfl
structure WP where
 pb:Nat
 wb:Nat
 nb:Nat
 PA:Θ
 pn:Nat
 pc:Nat
 NA:Θ
 nn:Nat
 nc:Nat
 nm:Λ
 ps:List (DV×Γ)
def WP.caps (p:WP):χ τ:=[.pointer (some ⟨p.pb,0,none⟩),.pointer (some ⟨p.wb,0,none⟩),.pointer (some ⟨p.nb,0,none⟩)]
def WP.clo (p:WP):τ:=.func (.func 116) #[] #[.pointer (some ⟨p.pb,0,none⟩),.pointer (some ⟨p.wb,0,none⟩),.pointer (some ⟨p.nb,0,none⟩)]
structure WK (w:World) (p:WP):Prop where
 pbb:Blk w p.pb 54 [.slice p.PA p.pn p.pc]
 wbb:Blk w p.wb 192 [p.clo]
 nbb:Blk w p.nb 37 [.slice p.NA p.nn p.nc]
 pss:SlS KX 3 w p.PA p.pn p.pc p.ps
 sbs:∀q∈p.ps,SB w q.1.A q.1.n q.1.c q.1.nd
 nms:Sl w 1 p.NA p.nn p.nc (Xb p.nm)
theorem WK.ext {w a:θ}{p:WP}(h:WK w p)(k:Ext w a):WK a p:=⟨h.pbb.ext k,h.wbb.ext k,h.nbb.ext k,h.pss.ext k,λq a=>(h.sbs q a).ext k,h.nms.ext k⟩
def nQ9 (k:Nat)(b:θ)(c d:BF)(t:DV×DV×Nat×Nat)(a:θ):Prop:=Ext b a/\Blk a t.2.2.1 32 t.1.cells/\Blk a t.2.2.2 32 t.2.1.cells/\SB a t.1.A t.1.n t.1.c t.1.nd/\Set1 k t.1.nd t.1.r c/\SB a t.2.1.A t.2.1.n t.2.1.c t.2.1.nd/\Set1 k t.2.1.nd t.2.1.r d
theorem OY {k:Nat}(c:k<=12){x y:DV}{o a:BF}(s:Set1 k x.nd x.r o)(b:Set1 k y.nd y.r a):lr x.nd x.r y.nd y.r=true↔∀e,o e=true->a e=true:=by
 rw[OJ];constructor;rintro⟨_,_,d⟩ e f;cases h:a e with|true=>rfl|false=>exact Xg ⟨e,by rw[s.mean];exact f,by rw[b.mean];exact h⟩ d
 intro h;refine⟨s.chk c,b.chk c,λ⟨e,a,d⟩=>?_⟩;rw[s.mean] at a;rw[b.mean,h e a] at d;cases d
theorem oQa (p:WP)(n:Nat)(ju:n<=4)(ku:p.nm.length=n)(Kq:KH p.nm)(JP:∀s∈p.nm,s.length<=1000000)(YU:∀q∈p.ps,Ke n q.1.nd q.1.r=true/\Ve q.2=true/\(∀b∈q.2,b<256)/\q.2.length<=1000000):∀(k v:Nat) (x:DV) (o:BF) (w:θ),v+k=n->WK w p->SB w x.A x.n x.c x.nd->Set1 n x.nd x.r o->QW n o≠ []->PaOk (QW n o) (Ja p.ps)->Apt (QW n o) v k->Fn ψ 116 (Q5 x.A x.n x.c x.r:: .int .i64 v::p.caps) w (λu w'=>nH w u ((XW p.nm (fP (Ja p.ps)) k v (QW n o)).map (·++ [10])) w'):=by
 have U:n<=12:=by omega
 intro k;induction k using Nat.strongRecOn with|ind k ih=>
 intro v x o w xj hK G T QR bM YC;have Jd:=hK.pss.2;refine QK iQB [] Tryz.func116 ?_;refine new λw1 Qd Q0 Qh=>?_;have WR:=hK.ext Qd;refine QQ WR.pbb rfl (loop Qe [17] (λi:Nat=>[.int .i64 i]) (λi w'=>Ext w1 w'/\i<=p.pn/\∀q∈p.ps.take i,¬∀e,o e=true->oD q.1 e=true) (λi _=>p.pn-i) 0 rfl ⟨Ext.refl _,Q9 _,λq hq=>by simp at hq⟩ ?_);rintro i w2 ⟨Qg,I,Xo⟩;have Q1:=Qd.trans Qg;have vQo:p.pn<=9223372036854775807:=by have:=hK.pss.1.le;have:=hK.pss.1.cap;simp only[maxLen] at this;omega
 refine Ql (λc1=>?_) λc1=>?_;have QD:i<p.pn:=by omega
 refine XG OX (hK.ext Q1).pss rfl QD λd q hq V=>?_;have mv:=Xd hq;obtain⟨o1,o2,o3,o4⟩:=YU q mv;refine Jm (vs:=KX q) rfl V (new λw3 Qi JI Qt=>?_);refine Qo Qt λw4 Vt _ QU=>?_;have JU:Ext w2 w4:=X1 Qi Qt Vt;have X4:=Q1.trans JU;refine Qm (Qh.ext (Qg.trans JU)) (fS (vs:=[.slice q.1.A q.1.n q.1.c,.int .i64 q.1.r]) QU rfl (λj u W=>by match j,W with|0,W=>exact W|1,W=>exact W) (call (cQ9 x.A x.n x.c x.nd x.r q.1.A q.1.n q.1.c q.1.nd q.1.r w4 (G.ext X4) ((hK.sbs q mv).ext X4)) ?_));rintro _ w5 ⟨rfl,QH⟩;have Jh:=X4.trans QH;refine Z0 (λd1=>?_) λd1=>?_;have d1:lr x.nd x.r q.1.nd q.1.r=true:=d1;have hw:=(OY U T (gY o1)).1 d1;refine Qp (QU.ext QH) rfl (call (GI q.2 w5 o3 ω) ?_);rintro _ w6 ⟨A,c,rfl,Q7,eE⟩;have hwv:XW p.nm (fP (Ja p.ps)) k v (QW n o)=QN q.2:=nQQ bM QR (p:=⟨oD q.1,q.2⟩) (Z5.2 ⟨q,mv,rfl⟩) (λc V=>hw _ (Kd.1 V).2) k v;have ht:bB q.2=true:=by unfold Ve at o2;rw[Z4] at o2;exact o2.1
 have aU:Vo q.2=(XW p.nm (fP (Ja p.ps)) k v (QW n o)).map (·++ [10]):=by rw[hwv,nG (nI ht)]
 rw[aU] at eE ⊢;exact⟨A,c,rfl,Jh.trans Q7,eE⟩;have d1:lr x.nd x.r q.1.nd q.1.r=false:=d1;refine QF i ?_;refine⟨i+1,rfl,⟨(Qg.trans JU).trans QH,QD,λq' hq' hall=>?_⟩,QL⟩;rw[JT,hq] at hq';obtain hq'|hq':=X2.1 hq';exact Xo q' hq' hall;have:q'=q:=by simpa using hq'
 subst this;rw[(OY U T (gY o1)).2 hall] at d1;cases d1;have QD:i=p.pn:=by omega
 rw[QD,ZJ ω] at Xo;cases k with|zero=>obtain⟨q0,WT,hall⟩:=nQR bM QR YC;obtain⟨q,hq,rfl⟩:=Z5.1 WT;exact Xg ((dQx T.dep (gY (YU q hq).1).dep).2 hall) (Xo q hq)|succ k=>
 have hvn:v<n:=by omega
 refine call (N0 (v:Int) w2 ω ω) ?_;rintro _ w3 ⟨YA,yn,yc,rfl,Qi,Rb,_⟩;refine call (G7 ⟨YA,yn,yc,[⟨(v:Int),0,1⟩],2⟩ w3) ?_;rintro _ w4 ⟨rfl,Qq⟩;refine new λw5 QH KA QC=>?_;refine Qo QC λwR hgR _ hBR=>?_;have gQ6:Ext w4 wR:=X1 QH QC hgR;have tQy:=(Qi.trans Qq).trans gQ6;have gQ7:=Qg.trans tQy;have Ui:=Qd.trans gQ7;obtain⟨y,R⟩:∃y:DV,y=⟨YA,yn,yc,[⟨(v:Int),0,1⟩],2⟩:=⟨_,rfl⟩
 have sy:Set1 n y.nd y.r (λe=>e v):=by rw[R];exact GW hvn ω
 have fI:SB wR y.A y.n y.c y.nd:=by rw[R];exact Rb.ext (Qq.trans gQ6)
 have Jk:Blk wR w4.heap.size 32 y.cells:=by rw[R];exact hBR
 have hBX:=Qh.ext gQ7;have hxR:=G.ext Ui;have hKR:=hK.ext Ui;clear hBR QC;refine si [11,12] (λt:DV×DV×Nat×Nat=>[.pointer (some ⟨t.2.2.1,0,none⟩),.pointer (some ⟨t.2.2.2,0,none⟩)]) (λt w'=>nQ9 n wR (λe=>o e&&e v) (λe=>o e && !e v) t w') ?_ ?_;have eR:=Ext.drew wR;have G:=hxR;have R:=fI;refine nM Qe (Ext wR) 10 (.quiet 0 (.quiet 1 (.quiet 3 (.quiet 4 (.fork 2 (.fork 5 (.fork 6 (.fork 7 (.fork 8 (.fork 9 .done .skip) .skip) .skip) (.fork 7 (.fork 6 (.fork 8 (.fork 9 .done .skip) .skip) .skip) .skip)) (.fork 6 (.fork 5 (.fork 7 (.fork 8 (.fork 9 .done .skip) .skip) .skip) (.fork 7 (.fork 5 (.fork 8 (.fork 9 .done .skip) .skip) .skip) .skip)) (.fork 7 (.fork 5 (.fork 6 (.fork 8 (.fork 9 .done .skip) .skip) .skip) (.fork 6 (.fork 5 (.fork 8 (.fork 9 .done .skip) .skip) .skip) .skip)) .skip))) (.fork 6 (.fork 2 (.fork 5 (.fork 7 (.fork 8 (.fork 9 .done .skip) .skip) .skip) (.fork 7 (.fork 5 (.fork 8 (.fork 9 .done .skip) .skip) .skip) .skip)) (.fork 7 (.fork 2 (.fork 5 (.fork 8 (.fork 9 .done .skip) .skip) .skip) .skip) .skip)) (.fork 7 (.fork 2 (.fork 5 (.fork 6 (.fork 8 (.fork 9 .done .skip) .skip) .skip) (.fork 6 (.fork 5 (.fork 8 (.fork 9 .done .skip) .skip) .skip) .skip)) (.fork 6 (.fork 2 (.fork 5 (.fork 8 (.fork 9 .done .skip) .skip) .skip) .skip) .skip)) .skip))))))) κ (Ext.drew wR) (Xe (vs:=x.cells) rfl (λw' Qa j u W=>by rw[(hBX.ext Qa).cell];exact W) (Xe (vs:=y.cells) rfl (λw' Qa j u W=>by rw[(Jk.ext Qa).cell];exact W) (Xe (vs:=x.cells) rfl (λw' Qa j u W=>by rw[(hBX.ext Qa).cell];exact W) (Xe (vs:=y.cells) rfl (λw' Qa j u W=>by rw[(Jk.ext Qa).cell];exact W) ?_))));refine⟨?_,?_⟩;refine call (sf U x y wR.drew (G.ext eR) (R.ext eR) T sy) ?_;rintro _ X ⟨H,Z,Y,E,Hr,rfl,g1,O,Hs,HR⟩;have e1:=eR.trans g1;refine⟨e1,?_⟩;have z1:=g1.size;have y1:=λd g l=>SB.lt O d g l;have r1:=λ(d:Addr) (g:H=some d)=>HR d.block ⟨d,g,rfl⟩
 refine⟨?_,?_⟩;refine call (jg U x y X (G.ext e1) (R.ext e1) T sy) ?_;rintro _ v2 ⟨D,K,J,C,L,rfl,g2,F,N,Q⟩;have e2:=e1.trans g2;refine⟨e2,?_⟩;have z2:=g2.size;have y2:=λd g l=>SB.lt F d g l;have r2:=λ(d:Addr) (g:D=some d)=>Q d.block ⟨d,g,rfl⟩
 refine⟨?_,?_⟩;refine new λv3 g3 z3 B3=>?_;have e3:=e2.trans g3;refine⟨e3,?_⟩;have l3:=e2.size;refine⟨?_,trivial⟩;refine new λv4 g4 z4 B4=>?_;have e4:=e3.trans g4;refine⟨e4,?_⟩;have l4:=e3.size;refine⟨?_,trivial⟩;refine Qo (B3.ext g4) λv5 h5 _ B5=>?_;have m5:Mod (·=v2.heap.size) v4 v5:=vQB h5 rfl;have e5:Ext wR v5:=m5.ext e4 λi I=>ω;refine⟨e5,?_⟩;refine⟨?_,trivial⟩;refine Qo (B4.mod m5 (by show¬v3.heap.size=v2.heap.size;omega)) λv6 h6 _ B6=>?_;have m6:Mod (·=v3.heap.size) v5 v6:=vQB h6 rfl;have e6:Ext wR v6:=m6.ext e5 λi I=>ω;refine⟨e6,?_⟩;exact⟨(⟨H,Z,Y,E,Hr⟩,⟨D,K,J,C,L⟩,v2.heap.size,v3.heap.size),rfl,⟨e6,(B5.mod m6 (by show¬v2.heap.size=v3.heap.size;omega)),B6,(SB.modo (SB.modo (((O.ext g2).ext g3).ext g4) m5 λd g l m=>by have z:=y1 d g l;have B:=r1 d g;omega) m6 λd g l m=>by have z:=y1 d g l;have B:=r1 d g;omega),Hs,(SB.modo (SB.modo ((F.ext g3).ext g4) m5 λd g l m=>by have z:=y2 d g l;have B:=r2 d g;omega) m6 λd g l m=>by have z:=y2 d g l;have B:=r2 d g;omega),N⟩⟩;refine⟨?_,trivial⟩;refine new λv7 g7 z7 B7=>?_;have e7:=e2.trans g7;refine⟨e7,?_⟩;have l7:=e2.size;refine⟨?_,trivial⟩;refine new λv8 g8 z8 B8=>?_;have e8:=e7.trans g8;refine⟨e8,?_⟩;have l8:=e7.size;refine⟨?_,trivial⟩;refine Qo B8 λv9 h9 _ B9=>?_;have m9:Mod (·=v7.heap.size) v8 v9:=vQB h9 rfl;have e9:Ext wR v9:=m9.ext e8 λi I=>ω;refine⟨e9,?_⟩;refine⟨?_,trivial⟩;refine Qo ((B7.ext g8).mod m9 (by show¬v2.heap.size=v7.heap.size;omega)) λv10 Zs _ B10=>?_;have In:Mod (·=v2.heap.size) v9 v10:=vQB Zs rfl;have e10:Ext wR v10:=In.ext e9 λi I=>ω;refine⟨e10,?_⟩;exact⟨(⟨H,Z,Y,E,Hr⟩,⟨D,K,J,C,L⟩,v7.heap.size,v2.heap.size),rfl,⟨e10,(B9.mod In (by show¬v7.heap.size=v2.heap.size;omega)),B10,(SB.modo (SB.modo (((O.ext g2).ext g7).ext g8) m9 λd g l m=>by have z:=y1 d g l;have B:=r1 d g;omega) In λd g l m=>by have z:=y1 d g l;have B:=r1 d g;omega),Hs,(SB.modo (SB.modo ((F.ext g7).ext g8) m9 λd g l m=>by have z:=y2 d g l;have B:=r2 d g;omega) In λd g l m=>by have z:=y2 d g l;have B:=r2 d g;omega),N⟩⟩;refine⟨?_,?_⟩;refine new λDL Y7 P8 B11=>?_;have zJ:=e1.trans Y7;refine⟨zJ,?_⟩;have l11:=e1.size;refine⟨?_,?_⟩;refine call (jg U x y DL (G.ext zJ) (R.ext zJ) T sy) ?_;rintro _ Io ⟨D,K,J,C,L,rfl,aR,F,N,Q⟩;have R4:=zJ.trans aR;refine⟨R4,?_⟩;have z12:=aR.size;have y12:=λd g l=>SB.lt F d g l;have r12:=λ(d:Addr) (g:D=some d)=>Q d.block ⟨d,g,rfl⟩
 refine⟨?_,trivial⟩;refine new λv13 Ip z13 B13=>?_;have e13:=R4.trans Ip;refine⟨e13,?_⟩;have l13:=R4.size;refine⟨?_,trivial⟩;refine Qo ((B11.ext aR).ext Ip) λR5 Yi _ B14=>?_;have Iq:Mod (·=X.heap.size) v13 R5:=vQB Yi rfl;have DM:Ext wR R5:=Iq.ext e13 λi I=>ω;refine⟨DM,?_⟩;refine⟨?_,trivial⟩;refine Qo (B13.mod Iq (by show¬Io.heap.size=X.heap.size;omega)) λv15 cv _ B15=>?_;have Ir:Mod (·=Io.heap.size) R5 v15:=vQB cv rfl;have e15:Ext wR v15:=Ir.ext DM λi I=>ω;refine⟨e15,?_⟩;exact⟨(⟨H,Z,Y,E,Hr⟩,⟨D,K,J,C,L⟩,X.heap.size,Io.heap.size),rfl,⟨e15,(B14.mod Ir (by show¬X.heap.size=Io.heap.size;omega)),B15,(SB.modo (SB.modo (((O.ext Y7).ext aR).ext Ip) Iq λd g l m=>by have z:=y1 d g l;have B:=r1 d g;omega) Ir λd g l m=>by have z:=y1 d g l;have B:=r1 d g;omega),Hs,(SB.modo (SB.modo (F.ext Ip) Iq λd g l m=>by have z:=y12 d g l;have B:=r12 d g;omega) Ir λd g l m=>by have z:=y12 d g l;have B:=r12 d g;omega),N⟩⟩;refine⟨?_,trivial⟩;refine new λv16 R6 z16 B16=>?_;have Is:=zJ.trans R6;refine⟨Is,?_⟩;have l16:=zJ.size;refine⟨?_,trivial⟩;refine call (jg U x y v16 (G.ext Is) (R.ext Is) T sy) ?_;rintro _ v17 ⟨D,K,J,C,L,rfl,DN,F,N,Q⟩;have e17:=Is.trans DN;refine⟨e17,?_⟩;have z17:=DN.size;have y17:=λd g l=>SB.lt F d g l;have r17:=λ(d:Addr) (g:D=some d)=>Q d.block ⟨d,g,rfl⟩
 refine⟨?_,trivial⟩;refine Qo ((B11.ext R6).ext DN) λR7 dQ _ B18=>?_;have It:Mod (·=X.heap.size) v17 R7:=vQB dQ rfl;have e18:Ext wR R7:=It.ext e17 λi I=>ω;refine⟨e18,?_⟩;refine⟨?_,trivial⟩;refine Qo ((B16.ext DN).mod It (by show¬DL.heap.size=X.heap.size;omega)) λv19 jv _ B19=>?_;have Iu:Mod (·=DL.heap.size) R7 v19:=vQB jv rfl;have e19:Ext wR v19:=Iu.ext e18 λi I=>ω;refine⟨e19,?_⟩;exact⟨(⟨H,Z,Y,E,Hr⟩,⟨D,K,J,C,L⟩,X.heap.size,DL.heap.size),rfl,⟨e19,(B18.mod Iu (by show¬X.heap.size=DL.heap.size;omega)),B19,(SB.modo (SB.modo (((O.ext Y7).ext R6).ext DN) It λd g l m=>by have z:=y1 d g l;have B:=r1 d g;omega) Iu λd g l m=>by have z:=y1 d g l;have B:=r1 d g;omega),Hs,(SB.modo (SB.modo F It λd g l m=>by have z:=y17 d g l;have B:=r17 d g;omega) Iu λd g l m=>by have z:=y17 d g l;have B:=r17 d g;omega),N⟩⟩;refine⟨?_,trivial⟩;refine new λv20 R8 z20 B20=>?_;have zK:=e1.trans R8;refine⟨zK,?_⟩;have l20:=e1.size;refine⟨?_,?_⟩;refine call (jg U x y v20 (G.ext zK) (R.ext zK) T sy) ?_;rintro _ v21 ⟨D,K,J,C,L,rfl,Iv,F,N,Q⟩;have R9:=zK.trans Iv;refine⟨R9,?_⟩;have z21:=Iv.size;have y21:=λd g l=>SB.lt F d g l;have r21:=λ(d:Addr) (g:D=some d)=>Q d.block ⟨d,g,rfl⟩
 refine⟨?_,trivial⟩;refine new λv22 wo z22 B22=>?_;have e22:=R9.trans wo;refine⟨e22,?_⟩;have l22:=R9.size;refine⟨?_,trivial⟩;refine Qo B22 λSa th _ B23=>?_;have Iw:Mod (·=v21.heap.size) v22 Sa:=vQB th rfl;have e23:Ext wR Sa:=Iw.ext e22 λi I=>ω;refine⟨e23,?_⟩;refine⟨?_,trivial⟩;refine Qo (((B20.ext Iv).ext wo).mod Iw (by show¬X.heap.size=v21.heap.size;omega)) λv24 lB _ B24=>?_;have Ix:Mod (·=X.heap.size) Sa v24:=vQB lB rfl;have e24:Ext wR v24:=Ix.ext e23 λi I=>ω;refine⟨e24,?_⟩;exact⟨(⟨H,Z,Y,E,Hr⟩,⟨D,K,J,C,L⟩,v21.heap.size,X.heap.size),rfl,⟨e24,(B23.mod Ix (by show¬v21.heap.size=X.heap.size;omega)),B24,(SB.modo (SB.modo (((O.ext R8).ext Iv).ext wo) Iw λd g l m=>by have z:=y1 d g l;have B:=r1 d g;omega) Ix λd g l m=>by have z:=y1 d g l;have B:=r1 d g;omega),Hs,(SB.modo (SB.modo (F.ext wo) Iw λd g l m=>by have z:=y21 d g l;have B:=r21 d g;omega) Ix λd g l m=>by have z:=y21 d g l;have B:=r21 d g;omega),N⟩⟩;refine⟨?_,trivial⟩;refine new λv25 Sb z25 B25=>?_;have Iy:=zK.trans Sb;refine⟨Iy,?_⟩;have l25:=zK.size;refine⟨?_,trivial⟩;refine call (jg U x y v25 (G.ext Iy) (R.ext Iy) T sy) ?_;rintro _ v26 ⟨D,K,J,C,L,rfl,DO,F,N,Q⟩;have e26:=Iy.trans DO;refine⟨e26,?_⟩;have z26:=DO.size;have y26:=λd g l=>SB.lt F d g l;have r26:=λ(d:Addr) (g:D=some d)=>Q d.block ⟨d,g,rfl⟩
 refine⟨?_,trivial⟩;refine Qo (B25.ext DO) λSc h27 _ B27=>?_;have Iz:Mod (·=v20.heap.size) v26 Sc:=vQB h27 rfl;have e27:Ext wR Sc:=Iz.ext e26 λi I=>ω;refine⟨e27,?_⟩;refine⟨?_,trivial⟩;refine Qo (((B20.ext Sb).ext DO).mod Iz (by show¬X.heap.size=v20.heap.size;omega)) λv28 h28 _ B28=>?_;have IB:Mod (·=X.heap.size) Sc v28:=vQB h28 rfl;have e28:Ext wR v28:=IB.ext e27 λi I=>ω;refine⟨e28,?_⟩;exact⟨(⟨H,Z,Y,E,Hr⟩,⟨D,K,J,C,L⟩,v20.heap.size,X.heap.size),rfl,⟨e28,(B27.mod IB (by show¬v20.heap.size=X.heap.size;omega)),B28,(SB.modo (SB.modo (((O.ext R8).ext Sb).ext DO) Iz λd g l m=>by have z:=y1 d g l;have B:=r1 d g;omega) IB λd g l m=>by have z:=y1 d g l;have B:=r1 d g;omega),Hs,(SB.modo (SB.modo F Iz λd g l m=>by have z:=y26 d g l;have B:=r26 d g;omega) IB λd g l m=>by have z:=y26 d g l;have B:=r26 d g;omega),N⟩⟩;refine⟨?_,?_⟩;refine new λDP g29 z29 B29=>?_;have zL:=eR.trans g29;refine⟨zL,?_⟩;have l29:=eR.size;refine⟨?_,?_⟩;refine call (sf U x y DP (G.ext zL) (R.ext zL) T sy) ?_;rintro _ DQ ⟨H,Z,Y,E,Hr,rfl,IC,O,Hs,HR⟩;have zM:=zL.trans IC;refine⟨zM,?_⟩;have z30:=IC.size;have ID:=λd g l=>SB.lt O d g l;have IE:=λ(d:Addr) (g:H=some d)=>HR d.block ⟨d,g,rfl⟩
 refine⟨?_,?_⟩;refine call (jg U x y DQ (G.ext zM) (R.ext zM) T sy) ?_;rintro _ v31 ⟨D,K,J,C,L,rfl,IF,F,N,Q⟩;have Sd:=zM.trans IF;refine⟨Sd,?_⟩;have z31:=IF.size;have y31:=λd g l=>SB.lt F d g l;have r31:=λ(d:Addr) (g:D=some d)=>Q d.block ⟨d,g,rfl⟩
 refine⟨?_,trivial⟩;refine new λv32 IG z32 B32=>?_;have e32:=Sd.trans IG;refine⟨e32,?_⟩;have l32:=Sd.size;refine⟨?_,trivial⟩;refine Qo (((B29.ext IC).ext IF).ext IG) λSf Rn _ B33=>?_;have IH:Mod (·=wR.drew.heap.size) v32 Sf:=vQB Rn rfl;have e33:Ext wR Sf:=IH.ext e32 λi I=>ω;refine⟨e33,?_⟩;refine⟨?_,trivial⟩;refine Qo (B32.mod IH (by show¬v31.heap.size=wR.drew.heap.size;omega)) λv34 h34 _ B34=>?_;have II:Mod (·=v31.heap.size) Sf v34:=vQB h34 rfl;have e34:Ext wR v34:=II.ext e33 λi I=>ω;refine⟨e34,?_⟩;exact⟨(⟨H,Z,Y,E,Hr⟩,⟨D,K,J,C,L⟩,wR.drew.heap.size,v31.heap.size),rfl,⟨e34,(B33.mod II (by show¬wR.drew.heap.size=v31.heap.size;omega)),B34,(SB.modo (SB.modo ((O.ext IF).ext IG) IH λd g l m=>by have z:=ID d g l;have B:=IE d g;omega) II λd g l m=>by have z:=ID d g l;have B:=IE d g;omega),Hs,(SB.modo (SB.modo (F.ext IG) IH λd g l m=>by have z:=y31 d g l;have B:=r31 d g;omega) II λd g l m=>by have z:=y31 d g l;have B:=r31 d g;omega),N⟩⟩;refine⟨?_,trivial⟩;refine new λv35 Sh z35 B35=>?_;have IJ:=zM.trans Sh;refine⟨IJ,?_⟩;have l35:=zM.size;refine⟨?_,trivial⟩;refine call (jg U x y v35 (G.ext IJ) (R.ext IJ) T sy) ?_;rintro _ v36 ⟨D,K,J,C,L,rfl,DR,F,N,Q⟩;have e36:=IJ.trans DR;refine⟨e36,?_⟩;have z36:=DR.size;have y36:=λd g l=>SB.lt F d g l;have r36:=λ(d:Addr) (g:D=some d)=>Q d.block ⟨d,g,rfl⟩
 refine⟨?_,trivial⟩;refine Qo (((B29.ext IC).ext Sh).ext DR) λv37 h37 _ B37=>?_;have IK:Mod (·=wR.drew.heap.size) v36 v37:=vQB h37 rfl;have e37:Ext wR v37:=IK.ext e36 λi I=>ω;refine⟨e37,?_⟩;refine⟨?_,trivial⟩;refine Qo ((B35.ext DR).mod IK (by show¬DQ.heap.size=wR.drew.heap.size;omega)) λv38 h38 _ B38=>?_;have IL:Mod (·=DQ.heap.size) v37 v38:=vQB h38 rfl;have e38:Ext wR v38:=IL.ext e37 λi I=>ω;refine⟨e38,?_⟩;exact⟨(⟨H,Z,Y,E,Hr⟩,⟨D,K,J,C,L⟩,wR.drew.heap.size,DQ.heap.size),rfl,⟨e38,(B37.mod IL (by show¬wR.drew.heap.size=DQ.heap.size;omega)),B38,(SB.modo (SB.modo ((O.ext Sh).ext DR) IK λd g l m=>by have z:=ID d g l;have B:=IE d g;omega) IL λd g l m=>by have z:=ID d g l;have B:=IE d g;omega),Hs,(SB.modo (SB.modo F IK λd g l m=>by have z:=y36 d g l;have B:=r36 d g;omega) IL λd g l m=>by have z:=y36 d g l;have B:=r36 d g;omega),N⟩⟩;refine⟨?_,trivial⟩;refine new λv39 g39 z39 B39=>?_;have IM:=zL.trans g39;refine⟨IM,?_⟩;have l39:=zL.size;refine⟨?_,trivial⟩;refine call (sf U x y v39 (G.ext IM) (R.ext IM) T sy) ?_;rintro _ v40 ⟨H,Z,Y,E,Hr,rfl,IN,O,Hs,HR⟩;have jZq:=IM.trans IN;refine⟨jZq,?_⟩;have z40:=IN.size;have y40:=λd g l=>SB.lt O d g l;have r40:=λ(d:Addr) (g:H=some d)=>HR d.block ⟨d,g,rfl⟩
 refine⟨?_,trivial⟩;refine call (jg U x y v40 (G.ext jZq) (R.ext jZq) T sy) ?_;rintro _ v41 ⟨D,K,J,C,L,rfl,DS,F,N,Q⟩;have e41:=jZq.trans DS;refine⟨e41,?_⟩;have z41:=DS.size;have y41:=λd g l=>SB.lt F d g l;have r41:=λ(d:Addr) (g:D=some d)=>Q d.block ⟨d,g,rfl⟩
 refine⟨?_,trivial⟩;refine Qo (((B29.ext g39).ext IN).ext DS) λSi h42 _ B42=>?_;have IP:Mod (·=wR.drew.heap.size) v41 Si:=vQB h42 rfl;have e42:Ext wR Si:=IP.ext e41 λi I=>ω;refine⟨e42,?_⟩;refine⟨?_,trivial⟩;refine Qo (((B39.ext IN).ext DS).mod IP (by show¬DP.heap.size=wR.drew.heap.size;omega)) λv43 h43 _ B43=>?_;have IQ:Mod (·=DP.heap.size) Si v43:=vQB h43 rfl;have e43:Ext wR v43:=IQ.ext e42 λi I=>ω;refine⟨e43,?_⟩;exact⟨(⟨H,Z,Y,E,Hr⟩,⟨D,K,J,C,L⟩,wR.drew.heap.size,DP.heap.size),rfl,⟨e43,(B42.mod IQ (by show¬wR.drew.heap.size=DP.heap.size;omega)),B43,(SB.modo (SB.modo (O.ext DS) IP λd g l m=>by have z:=y40 d g l;have B:=r40 d g;omega) IQ λd g l m=>by have z:=y40 d g l;have B:=r40 d g;omega),Hs,(SB.modo (SB.modo F IP λd g l m=>by have z:=y41 d g l;have B:=r41 d g;omega) IQ λd g l m=>by have z:=y41 d g l;have B:=r41 d g;omega),N⟩⟩;refine⟨?_,trivial⟩;refine new λDT g44 z44 B44=>?_;have zN:=eR.trans g44;refine⟨zN,?_⟩;have l44:=eR.size;refine⟨?_,?_⟩;refine call (sf U x y DT (G.ext zN) (R.ext zN) T sy) ?_;rintro _ DU ⟨H,Z,Y,E,Hr,rfl,IR,O,Hs,HR⟩;have zO:=zN.trans IR;refine⟨zO,?_⟩;have z45:=IR.size;have IS:=λd g l=>SB.lt O d g l;have IT:=λ(d:Addr) (g:H=some d)=>HR d.block ⟨d,g,rfl⟩
 refine⟨?_,?_⟩;refine call (jg U x y DU (G.ext zO) (R.ext zO) T sy) ?_;rintro _ v46 ⟨D,K,J,C,L,rfl,IU,F,N,Q⟩;have Sj:=zO.trans IU;refine⟨Sj,?_⟩;have z46:=IU.size;have y46:=λd g l=>SB.lt F d g l;have r46:=λ(d:Addr) (g:D=some d)=>Q d.block ⟨d,g,rfl⟩
 refine⟨?_,trivial⟩;refine new λv47 IV z47 B47=>?_;have e47:=Sj.trans IV;refine⟨e47,?_⟩;have l47:=Sj.size;refine⟨?_,trivial⟩;refine Qo B47 λSk h48 _ B48=>?_;have IW:Mod (·=v46.heap.size) v47 Sk:=vQB h48 rfl;have e48:Ext wR Sk:=IW.ext e47 λi I=>ω;refine⟨e48,?_⟩;refine⟨?_,trivial⟩;refine Qo ((((B44.ext IR).ext IU).ext IV).mod IW (by show¬wR.drew.heap.size=v46.heap.size;omega)) λv49 h49 _ B49=>?_;have IX:Mod (·=wR.drew.heap.size) Sk v49:=vQB h49 rfl;have e49:Ext wR v49:=IX.ext e48 λi I=>ω;refine⟨e49,?_⟩;exact⟨(⟨H,Z,Y,E,Hr⟩,⟨D,K,J,C,L⟩,v46.heap.size,wR.drew.heap.size),rfl,⟨e49,(B48.mod IX (by show¬v46.heap.size=wR.drew.heap.size;omega)),B49,(SB.modo (SB.modo ((O.ext IU).ext IV) IW λd g l m=>by have z:=IS d g l;have B:=IT d g;omega) IX λd g l m=>by have z:=IS d g l;have B:=IT d g;omega),Hs,(SB.modo (SB.modo (F.ext IV) IW λd g l m=>by have z:=y46 d g l;have B:=r46 d g;omega) IX λd g l m=>by have z:=y46 d g l;have B:=r46 d g;omega),N⟩⟩;refine⟨?_,trivial⟩;refine new λv50 Sm z50 B50=>?_;have IY:=zO.trans Sm;refine⟨IY,?_⟩;have l50:=zO.size;refine⟨?_,trivial⟩;refine call (jg U x y v50 (G.ext IY) (R.ext IY) T sy) ?_;rintro _ v51 ⟨D,K,J,C,L,rfl,DW,F,N,Q⟩;have e51:=IY.trans DW;refine⟨e51,?_⟩;have z51:=DW.size;have y51:=λd g l=>SB.lt F d g l;have r51:=λ(d:Addr) (g:D=some d)=>Q d.block ⟨d,g,rfl⟩
 refine⟨?_,trivial⟩;refine Qo (B50.ext DW) λSo h52 _ B52=>?_;have IZ:Mod (·=DU.heap.size) v51 So:=vQB h52 rfl;have e52:Ext wR So:=IZ.ext e51 λi I=>ω;refine⟨e52,?_⟩;refine⟨?_,trivial⟩;refine Qo ((((B44.ext IR).ext Sm).ext DW).mod IZ (by show¬wR.drew.heap.size=DU.heap.size;omega)) λv53 h53 _ B53=>?_;have I0:Mod (·=wR.drew.heap.size) So v53:=vQB h53 rfl;have e53:Ext wR v53:=I0.ext e52 λi I=>ω;refine⟨e53,?_⟩;exact⟨(⟨H,Z,Y,E,Hr⟩,⟨D,K,J,C,L⟩,DU.heap.size,wR.drew.heap.size),rfl,⟨e53,(B52.mod I0 (by show¬DU.heap.size=wR.drew.heap.size;omega)),B53,(SB.modo (SB.modo ((O.ext Sm).ext DW) IZ λd g l m=>by have z:=IS d g l;have B:=IT d g;omega) I0 λd g l m=>by have z:=IS d g l;have B:=IT d g;omega),Hs,(SB.modo (SB.modo F IZ λd g l m=>by have z:=y51 d g l;have B:=r51 d g;omega) I0 λd g l m=>by have z:=y51 d g l;have B:=r51 d g;omega),N⟩⟩;refine⟨?_,trivial⟩;refine new λv54 g54 z54 B54=>?_;have I1:=zN.trans g54;refine⟨I1,?_⟩;have l54:=zN.size;refine⟨?_,trivial⟩;refine call (sf U x y v54 (G.ext I1) (R.ext I1) T sy) ?_;rintro _ v55 ⟨H,Z,Y,E,Hr,rfl,I4,O,Hs,HR⟩;have I5:=I1.trans I4;refine⟨I5,?_⟩;have z55:=I4.size;have y55:=λd g l=>SB.lt O d g l;have r55:=λ(d:Addr) (g:H=some d)=>HR d.block ⟨d,g,rfl⟩
 refine⟨?_,trivial⟩;refine call (jg U x y v55 (G.ext I5) (R.ext I5) T sy) ?_;rintro _ v56 ⟨D,K,J,C,L,rfl,DX,F,N,Q⟩;have e56:=I5.trans DX;refine⟨e56,?_⟩;have z56:=DX.size;have y56:=λd g l=>SB.lt F d g l;have r56:=λ(d:Addr) (g:D=some d)=>Q d.block ⟨d,g,rfl⟩
 refine⟨?_,trivial⟩;refine Qo ((B54.ext I4).ext DX) λSp h57 _ B57=>?_;have I6:Mod (·=DT.heap.size) v56 Sp:=vQB h57 rfl;have e57:Ext wR Sp:=I6.ext e56 λi I=>ω;refine⟨e57,?_⟩;refine⟨?_,trivial⟩;refine Qo ((((B44.ext g54).ext I4).ext DX).mod I6 (by show¬wR.drew.heap.size=DT.heap.size;omega)) λv58 h58 _ B58=>?_;have I7:Mod (·=wR.drew.heap.size) Sp v58:=vQB h58 rfl;have e58:Ext wR v58:=I7.ext e57 λi I=>ω;refine⟨e58,?_⟩;exact⟨(⟨H,Z,Y,E,Hr⟩,⟨D,K,J,C,L⟩,DT.heap.size,wR.drew.heap.size),rfl,⟨e58,(B57.mod I7 (by show¬DT.heap.size=wR.drew.heap.size;omega)),B58,(SB.modo (SB.modo (O.ext DX) I6 λd g l m=>by have z:=y55 d g l;have B:=r55 d g;omega) I7 λd g l m=>by have z:=y55 d g l;have B:=r55 d g;omega),Hs,(SB.modo (SB.modo F I6 λd g l m=>by have z:=y56 d g l;have B:=r56 d g;omega) I7 λd g l m=>by have z:=y56 d g l;have B:=r56 d g;omega),N⟩⟩;rintro⟨xh,xl,b1,b2⟩ w6 ⟨Q7,Qh,Qs,hHb,Uj,Ay,jH⟩;simp only at Qh Qs hHb Uj Ay jH;have XJ:=Ui.trans Q7;have gg:=hKR.ext Q7;have mh:QW n (λe=>o e&&e v)=fY (QW n o) v:=by rw[dQy (o:=o) (v:=v) true λe=>by cases e v<;>rfl];congr 1;funext c;cases c.testBit v<;>rfl
 have ml:QW n (λe=>o e && !e v)=jf (QW n o) v:=by rw[dQy (o:=o) (v:=v) false λe=>by cases e v<;>rfl];congr 1;funext c;cases c.testBit v<;>rfl
 have l:=Uj.root0;have l0:=jH.root0;rw[mh] at l;rw[ml] at l0;have ihh:=λ(hq:fY (QW n o) v≠ []) (w7:θ) (Xq:Ext w6 w7)=>ih k (iU k) (v+1) xh (λe=>o e&&e v) w7 ω (gg.ext Xq) (hHb.ext Xq) Uj (by rw[mh];exact hq) (by rw[mh];exact bM.sub λc V=>(VE.1 V).1) (by rw[mh];exact nQS YC);rw[mh] at ihh;have ihl:=λ(hq:jf (QW n o) v≠ []) (w7:θ) (Xq:Ext w6 w7)=>ih k (iU k) (v+1) xl (λe=>o e && !e v) w7 ω (gg.ext Xq) (Ay.ext Xq) jH (by rw[ml];exact hq) (by rw[ml];exact bM.sub λc V=>(VE.1 V).1) (by rw[ml];exact nQT YC)
 rw[ml] at ihl;have zi:((v+1:Nat):Int)=(v:Int)+1:=by omega
 refine Qp Qs rfl (X0 (λc9=>?_) λc9=>?_);have jE:=l0.1 c9;have qT:fY (QW n o) v≠ []:=by rw[OR jE];exact QR
 rw[dQA QR jE];refine QQ gg.wbb rfl (Qm Qh (Qz ((v+1:Nat):Int) (call (ihh qT w6 (Ext.refl _)) ?_)));rintro _ w7 ⟨A,c,rfl,Xq,Yr⟩;exact⟨A,c,rfl,XJ.trans Xq,Yr⟩;have jE:jf (QW n o) v≠ []:=λe=>c9 (l0.2 e);refine Qp Qh rfl (X0 (λBn=>?_) λBn=>?_)
 have qT:=l.1 Bn;rw[dQB QR qT];refine QQ gg.wbb rfl (Qm Qs (Qz ((v+1:Nat):Int) (call (ihl jE w6 (Ext.refl _)) ?_)));rintro _ w7 ⟨A,c,rfl,Xq,Yr⟩;exact⟨A,c,rfl,XJ.trans Xq,Yr⟩;have qT:fY (QW n o) v≠ []:=λe=>Bn (l.2 e);rw[dQC QR jE qT];have hb:∀s,s∈QW n o->(∀r∈QN (fP (Ja p.ps) s),(∀x∈r,x<256)/\r.length<=1000000000)/\(QN (fP (Ja p.ps) s)).length<=1000000:=λs hs=>by
  obtain⟨q0,WT,tg⟩:=bM.cov s hs;obtain⟨q,hq,rfl⟩:=Z5.1 WT;rw[bM.get hs WT tg];obtain⟨_,o2,o3,o4⟩:=YU q hq;have ht:bB q.2=true:=by unfold Ve at o2;rw[Z4] at o2;exact o2.1
  have hu:=Wh (nI ht);have hul:=pD (QN q.2);rw[hu] at hul;refine⟨λr hr=>⟨λx G=>o3 x (by rw[<-hu];exact ay.2 ⟨r,hr,by simp[G]⟩),?_⟩,by show(QN q.2).length<=_;omega⟩;have:r.length<=(Qk (QN q.2)).length:=by
   have h5:∀(ls:Λ),r∈ls->r.length<=(Qk ls).length:=λls=>by
    induction ls with
    |nil=>intro h;cases h
    |cons a ls ih2=>intro h;rw[YJ,Qy,Xa];obtain rfl|h:=XI.1 h;omega;have:=ih2 h;omega
   exact h5 _ hr
  rw[hu] at this;omega
 have hif:∀v ng,(∀x∈KK p.nm v ng,x<256)/\(KK p.nm v ng).length<=1000000000:=λv ng=>by unfold KK;cases hg:p.nm[v]? with|none=>cases ng<;>exact⟨by simp[Zd],by simp[Zd]⟩|some s=>have eP:=Xd hg;have oq:=(Kq s eP).1;have me:=JP s eP;refine⟨λx G=>?_,?_⟩;obtain G|G:=X2.1 G;exact(show∀y∈Zd,y<256 by decide) x G;obtain G|G:=X2.1 G;cases ng;cases G;rw[Xx.1 G];decide;exact oq x G;simp only[Qy,kR];cases ng<;>simp[Zd]<;>omega
 have Aq:(QW n o).length<=16:=by have h1:(QW n o).length<=2^n:=XU (oZ _ _) (by simp);have h2:2^n<=2^4:=bZ δ ju;omega
 have bnd:∀S,S≠ []->(∀c∈S,c∈QW n o)->S.length<=16->bC (XW p.nm (fP (Ja p.ps)) k (v+1) S)/\(XW p.nm (fP (Ja p.ps)) k (v+1) S).length<=100000000:=λS hS hSm kJ=>by obtain⟨a1,a2⟩:=sh (nm:=p.nm) (f:=fP (Ja p.ps)) (P:=λr=>(∀x∈r,x<256)/\r.length<=1000000000) (M:=1000000) hif δ δ k (v+1) S hS λc V=>hb c (hSm c V);have:=aY (1000000+3) kJ;exact⟨a1,ω⟩
 obtain⟨DY,bh2⟩:=bnd _ qT (λc V=>(VE.1 V).1) (XU (oZ _ _) Aq);obtain⟨DZ,bl2⟩:=bnd _ jE (λc V=>(VE.1 V).1) (XU (oZ _ _) Aq);generalize hWH:XW p.nm (fP (Ja p.ps)) k (v+1) (fY (QW n o) v)=WH at*;generalize hWL:XW p.nm (fP (Ja p.ps)) k (v+1) (jf (QW n o) v)=WL at*;refine Xw (Ext w6) 12 (oz 4 0 (oz 4 5 [(false,4),(false,9),(true,10),(true,11)])) (Ext.drew w6) (Qx (v:=p.clo) (λw' Qa=>by rw[(gg.wbb.ext Qa).cell0];rfl) (Xe (vs:=xh.cells) rfl (λw' Qa j u W=>by rw[(Qh.ext Qa).cell];exact W) (Qz ((v+1:Nat):Int) (Qx (v:=p.clo) (λw' Qa=>by rw[(gg.wbb.ext Qa).cell0];rfl) (Xe (vs:=xl.cells) rfl (λw' Qa j u W=>by rw[(Qs.ext Qa).cell];exact W) (Qz ((v+1:Nat):Int) ?_))))));have hd:=Ext.drew w6;refine call (ihh qT w6.drew hd) ?_;rintro _ w7 ⟨H,V,rfl,Xq,Yr⟩;refine⟨hd.trans Xq,?_⟩;refine call (ihl jE w7 (hd.trans Xq)) ?_;rintro _ w8 ⟨D,lc,rfl,QY,fw⟩;refine⟨(hd.trans Xq).trans QY,?_⟩;have ct:=(hd.trans Xq).trans QY;refine call (nQ6 H D _ V _ lc WH WL w8 (Yr.ext QY).1 fw.1 DY DZ) ?_;rintro _ w9 ⟨rfl,Xm⟩;have gk:=ct.trans Xm;by_cases heq:WH=WL;rw[Qf heq];refine Zm heq ?_;exact⟨H,V,rfl,XJ.trans gk,(Yr.ext QY).ext Xm⟩;rw[φ heq];refine XB heq ?_;have rQ5:v<p.nn:=by have:=hK.nms.len;rw[az] at this;omega
 refine QQ (gg.ext gk).nbb rfl ?_;obtain⟨s,hs⟩:∃s,p.nm[v]? =some s:=⟨_,Q6 ω⟩
 refine Zq (gg.ext gk).nms rQ5 λd u hA hu QO=>?_;rw[dw hs] at hu;cases hu;refine load QO ?_;have es:Y2 p.nm v=s:=by unfold Y2;rw[hs]<;>rfl
 rw[<-es];refine call (nQ3 p.nm v WH WL H D _ V _ lc w9 ((Yr.ext QY).ext Xm).1 (fw.ext Xm).1 DY DZ (by rw[es];have:=JP s (Xd hs);omega) (by rw[JS];exact bh2) (by rw[JS];exact bl2)) ?_;rintro _ Qu ⟨JA,jc,rfl,Xz,jq⟩;exact⟨JA,jc,rfl,(XJ.trans gk).trans Xz,jq⟩
theorem dQK (g:Θ)(h j:Nat)(a:Λ)(x:DV)(o:BF)(k:Θ)(l m:Nat)(d:χ (DV×Γ))(n:Nat)(z:n<=4)(B:a.length=n)(C:KH a)(D:∀s∈a,s.length<=1000000)(E:∀q∈d,Ke n q.1.nd q.1.r=true/\Ve q.2=true/\(∀b∈q.2,b<256)/\q.2.length<=1000000)(w:θ)(F:Sl w 1 g h j (Xb a)) (G:SB w x.A x.n x.c x.nd) (H:Set1 n x.nd x.r o) (I:SlS KX 3 w k l m d) (J:∀q∈d,SB w q.1.A q.1.n q.1.c q.1.nd) (K:QW n o≠ []) (L:PaOk (QW n o) (Ja d)):Fn ψ 65 [.slice g h j,Q5 x.A x.n x.c x.r,.slice k l m] w (λu e=>nH w u ((XW a (fP (Ja d)) n 0 (QW n o)).map (·++ [10])) e):=by
 refine QK c65 [] Tryz.func65 ?_;refine new λe t f M=>?_;refine new λN r e O=>?_;refine new λv e f P=>?_;refine new λQ y R f=>?_;have Q:=e.trans y;have R:=r.trans Q;have Q:=t.trans R;refine VW f δ λw5 Q R=>?_;have f:Ext v w5:=Q.ext y λi S=>ω;let p:WP:=⟨N.heap.size,v.heap.size,w.heap.size,k,l,m,g,h,j,a,d⟩
 have a:Ext w w5:=((t.trans r).trans e).trans f;have d:WK w5 p:=⟨P.ext f,R,M.ext ((r.trans e).trans f),I.ext a,λq g=>(J q g).ext a,F.ext a⟩
 refine QQ d.wbb rfl (Qm (O.ext (e.trans f)) (call (oQa p n z B C D E n 0 x o w5 ω d (G.ext a) H K L nQP) ?_));rintro _ f ⟨A,c,rfl,d,e⟩;exact⟨A,c,rfl,a.trans d,e⟩
theorem dQL:∀(a:χ (χ UInt8)),([]:χ UInt8).intercalate a=a.flatten|[]=>rfl|[x]=>by simp[List.intercalate]|x::y::l=>by have a:=dQL (y::l);simp only[List.intercalate,List.intersperse_cons₂,Mr,d4] at a ⊢;rw[a]
theorem oQb (ls:Λ):Lib.join ((ls.map λs=>Qb (s++ [10])).map (·.data.toList)) []=(Qk ls).map UInt8.ofNat:=by unfold Lib.join;rw[dQL];induction ls with|nil=>rfl|cons s ls a=>rw[YD,YD,Mr,a,YJ,Cm];simp
theorem oQc (A:Θ)(n c:Nat)(a:Λ)(w:θ)(h:Sn w A n c (Z3 a))(l:∀b,A=some b->0<n->b.block<w.heap.size)(d:n<=1000000000)(i:(Qk a).length<=1000000000):Fn ψ 102 [.slice A n c,.string ⟨#[]⟩] w (λu f=>u= .string (Qb (Qk a))/\Ext w f):=by
 have d:=W6 h.1;by_cases i:n=0;subst i;have:a=[]:=VT d;subst this;refine QK iQp [] Tryz.func102 ?_;refine JF rfl ?_;exact⟨rfl,Ext.refl _⟩;obtain⟨g,o,rfl⟩:=h.2 ω;obtain⟨b,e,m⟩:=h.1.at_ ω;cases e;have i:(a.map λs=>Qb (s++ [10])).length=n:=by rw[JS,d]
 have b:=oQb a;have k:=Tryz.strings_Join g o c (a.map λs=>Qb (s++ [10])) ⟨#[]⟩ w (λj x b=>by
  rw[Wy] at b;cases d:a[j]? with
  |none=>rw[d] at b;cases b
  |some s=>
   rw[d] at b;cases b;have:=m j _ (VH d);have d:(⟨g,o,none⟩:Addr).add j=⟨g,o+j,none⟩:=by unfold Addr.add;by_cases a:j=0;subst a;simp;simp[a]
   rw[d] at this;exact this) (l _ rfl ω) ω (by rw[i];exact h.1.le) (by
  have:(⟨#[]⟩:ByteArray).data.toList=[]:=rfl;rw[this,b,JS];omega)
 have a:(⟨#[]⟩:ByteArray).data.toList=[]:=rfl;rw[a,b,i] at k;unfold Fn;refine k.mono λe f a=>?_;obtain⟨rfl,b⟩:=a;exact⟨rfl,vQI b⟩
theorem dQM (a:Λ)(s:Γ):(Qk (a++ [s])).length=(Qk a).length+(s.length+1):=by simp[Qk]
theorem oQd (A:Θ)(n c:Nat)(d:Λ)(w:θ)(h:Sn w A n c (Z3 d))(g:(Qk d).length<=1048576):Fn ψ 50 [.slice A n c] w (λu f=>u= .string (Qb (Qk d))/\Ext w f):=by
 have g:=W6 h.1;have g:=pD d;refine QK c50 [] Tryz.func50 ?_;refine loop Qe [8,3] (λi:Nat=>[.int .i64 i,.int .i64 (Qk (d.take i)).length]) (λi f=>w=f/\i<=n) (λi _=>n-i) 0 rfl ⟨rfl,Q9 _⟩ ?_;rintro i _ ⟨rfl,f⟩;refine Ql (λf=>?_) λf=>?_;have g:i<n:=by omega
 obtain⟨s,f⟩:∃s,d[i]? =some s:=⟨_,Q6 ω⟩
 have k:d.take (i+1)=d.take i++ [s]:=by rw[JT,f]<;>rfl
 have j:=dQM (d.take i) s;rw[<-k] at j;have k:(Qk (d.take (i+1))).length<=(Qk d).length:=by
  have k:Qk d=Qk (d.take (i+1))++Qk (d.drop (i+1)):=by
   have l:∀a b:Λ,Qk (a++b)=Qk a++Qk b:=λa b=>by simp[Qk]
   rw[<-l,jK]
  rw[k,Qy];omega
 refine Zq h.1 g λl u o k m=>?_;rw[VH f] at k;cases k;refine load m ?_;have k:=QZ (s++ [10]);rw[Qy,mV] at k;refine Qz (((Qk (d.take (i+1))).length:Nat):Int) ?_ (hm:=by rw[j];omega);refine XB ω (QF i ?_);exact⟨i+1,rfl,⟨rfl,g⟩,QL⟩;refine call (oQc A n c d w h (λl e j=>?_) ω ω) ?_;obtain⟨k,g,l⟩:=h.1.at_ j;rw[e] at g;cases g;obtain⟨s,f⟩:∃s,d[0]? =some s:=⟨_,Q6 ω⟩
 have:=l 0 _ (VH f);have d:=World.block_lt_of_cell? w _ this;rw[fQ] at d;exact d;rintro _ f ⟨rfl,d⟩;exact⟨rfl,d⟩
theorem G9 (l p:Γ)(w:θ)(b:∀x∈l,x<256)(d:∀x∈p,x<256):Fn ψ 79 [.string (Qb l),.string (Qb p)] w (λv a=>v= .bool (p.isPrefixOf l)/\w=a):=by refine KS (c:=c79) Qe Tryz.func79 rfl rfl rfl ?_;refine Ql (λa=>?_) λa=>?_;rw[QZ,QZ] at a;refine need ⟨ω,ω,by rw[QZ,QZ];omega⟩ ?_;refine⟨?_,rfl⟩;rw[Bs];congr 1;refine o0.2 ?_;simp only[WX,Int.toNat_zero];rw[Kj,AJ,QZ];exact⟨λh=>⟨ω,Jl (B8.take b _) d h⟩,λh=>by rw[h.2]⟩;rw[QZ,QZ] at a;exact⟨by rw[Bs,XZ λh=>a ω],rfl⟩
theorem OZ (l:Γ)(w:θ)(b:∀x∈l,x<256):Fn ψ 32 [.string (Qb l)] w (λv a=>v= .bool (W4 l)/\w=a):=by
 refine QK c32 [] Tryz.func32 ?_;refine call (G9 l Zd w b δ) ?_;rintro _ _ ⟨rfl,rfl⟩;cases c:Zd.isPrefixOf l with|true=>refine Q3 rfl ?_;exact⟨by unfold W4;rw[c];rfl,rfl⟩|false=>
 refine QX rfl (call (G9 l pElif w b δ) ?_);rintro _ _ ⟨rfl,rfl⟩;cases d:pElif.isPrefixOf l with|true=>refine Q3 rfl ?_;exact⟨by unfold W4;rw[c,d];rfl,rfl⟩|false=>
 refine QX rfl (call (G9 l pInc w b δ) ?_);rintro _ _ ⟨rfl,rfl⟩;cases f:pInc.isPrefixOf l with|true=>refine Q3 rfl ?_;exact⟨by unfold W4;rw[c,d,f];rfl,rfl⟩|false=>
 refine QX rfl ?_;have g:(Qb l=Qb (J6++ [10]))↔l=J6++ [10]:=⟨λa=>Jl b δ a,λa=>by rw[a]⟩
 have h:(Qb l=Qb (X5++ [10]))↔l=X5++ [10]:=⟨λa=>Jl b δ a,λa=>by rw[a]⟩
 have e:W4 l=(decide (l=J6++ [10])||decide (l=X5++ [10])):=by unfold W4;rw[c,d,f]<;>rfl
 by_cases b:l=J6++ [10]
 refine Zm (g.2 b) ?_;exact⟨by rw[e,Zg b];rfl,rfl⟩;refine XB (λa=>b (g.1 a)) ?_;refine⟨?_,rfl⟩;rw[e,XZ b,AP];by_cases b:l=X5++ [10]
 rw[Zg b];exact QG Value.bool (Zg (h.2 b));rw[XZ b];exact QG Value.bool (XZ λa=>b (h.1 a))
theorem oQe {r:Γ}{k:Nat}(c:10∉r.take k)(a:r[k]? =some 10):(cM r).length=k/\10∈r:=by
 refine⟨?_,Xd a⟩;unfold cM;induction r generalizing k with|nil=>simp at a|cons b r d=>
  cases k with
  |zero=>
   have:b=10:=by simpa using a
   subst this;simp
  |succ k=>
   simp only[xQ,XI,not_or] at c;have f:(b !=10)=true:=by simpa using λe:b=10=>c.1 e.symm
   rw[cI,Qf f,Xa,d c.2 (by simpa using a)]
theorem CC (l:Γ)(w:θ)(Z:∀x∈l,x<256)(Xr:l.length<=1000000000):Fn ψ 19 [.string (Qb l)] w (λu B=>∃A c,u= .slice A (Vo l).length c/\Ext w B/\Own B w.heap.size 9 1 A (Vo l).length c (Xb (Vo l))):=by
 have d:=QZ l;refine QK c19 [] Tryz.func19 ?_;refine d8 ?_;intro w1 R Q0 S;refine loop Qe [5,4,3] (λs:Nat×Nat×Λ×Θ×Nat=>[.int .i64 s.1,.int .i64 s.2.1,.slice s.2.2.2.1 s.2.2.1.length s.2.2.2.2]) (λs B=>Ext w B/\s.1<=l.length/\s.2.1<=s.1/\s.2.2.1.length<=s.1/\ZT l=s.2.2.1++ZT (l.drop s.2.1)/\10∉(l.drop s.2.1).take (s.1-s.2.1)/\Own B w.heap.size 9 1 s.2.2.2.1 s.2.2.1.length s.2.2.2.2 (Xb s.2.2.1)) (λs _=>l.length-s.1) (0,0,[],some ⟨w.heap.size,0,none⟩,0) rfl ⟨R,Q9 _,Qw _,Qw _,rfl,by simp,Own.empty S (Qw _)⟩ ?_;rintro⟨i,f,ds,O,N⟩ J ⟨o,Y,W,Q,m,p,h⟩;simp only at Y W Q m p h;have XR:=o.size;have q:∀(s:Γ) (C:θ) (kK:Ext J C) (t:Blk C J.heap.size 9 [.string (Qb s)]),Sl C 1 (some ⟨J.heap.size,0,none⟩) 1 1 (Xb [s]):=λs C kK t=>Sl.own' (n:=1) t rfl δ;refine Ql (λr=>?_) λr=>?_
 have j:i<l.length:=by rw[d] at r;simp only at r;omega
 obtain⟨y,H⟩:∃y,l[i]? =some y:=⟨_,Q6 j⟩
 refine Wd (by rw[d];exact j) λz M _=>?_;rw[We Z,H] at M;cases M;refine X0 (λg=>?_) λg=>?_;have T:y=10:=by omega
 subst T;have v:(l.drop f)[i-f]? =some 10:=by rw[xV,show f+(i-f)=i by omega];exact H
 obtain⟨U,V⟩:=oQe p v;refine QF i ?_;refine XF (v':=.string (Qb ((l.drop f).take (i-f+1)))) ⟨by show(0:Int)<=(f:Int);omega,by show(f:Int)<=((i+1:Nat):Int);omega,by rw[d];omega⟩ (by
  rw[Kj];show Value.string (Qb ((l.take (i+1)).drop f))=_;rw[dm,show i+1-f=i-f+1 by omega]) ?_
 refine XM [Value.string (Qb ((l.drop f).take (i-f+1)))] ?_;intro K a P E;refine XV (n:=ds.length) (h.ext a) (q _ K a E) (Vq _) (by unfold maxLen;omega) (by have:=a.size;omega) ?_ (b:=(by show(ds.length+1)*16<=_;omega));intro D G w4 F I vT;refine QF i (QF i ?_);refine⟨(i+1,i+1,ds++ [(l.drop f).take (i-f+1)],D,G),by simp only[Qy];rfl,⟨F.ext (o.trans a) λk v=>(h.rows k v).1,j,Qw _,by simp;omega,?_,by simp,?_⟩,QL⟩;simp only;rw[m,Oq V,U,mP,show f+(i-f+1)=i+1 by omega];simp;simp only;rw[Qy];simpa [Xb] using I;refine QF i ?_;refine⟨(i+1,f,ds,O,N),rfl,⟨o,j,by show f<=i+1;omega,by show ds.length<=i+1;omega,m,?_,h⟩,QL⟩;simp only;rw[show i+1-f=(i-f)+1 by omega,JT,xV,show f+(i-f)=i by omega,H];simp only[rz,X2,Xx,not_or];exact⟨p,λe=>g ω⟩;have j:i=l.length:=by rw[d] at r;simp only at r;omega
 subst j;rw[ZJ (by simp)] at p;rw[Cq p] at m;refine Ql (λg=>?_) λg=>?_;have L:f<l.length:=by rw[d] at g;simp only at g;omega
 refine XF (v':=.string (Qb (l.drop f))) ⟨by show(0:Int)<=(f:Int);omega,by show(f:Int)<=_;rw[d];omega,by rw[d];omega⟩ (by
  rw[Kj,d];show Value.string (Qb ((l.take l.length).drop f))=_;rw[ZJ (Qw _)]) ?_
 refine XM [Value.string (Qb (l.drop f))] ?_;intro K a P E;refine XV (n:=ds.length) (h.ext a) (q _ K a E) (Vq _) (by unfold maxLen;omega) (by have:=a.size;omega) ?_ (b:=(by show(ds.length+1)*16<=_;omega));intro D G w4 F I vT;have e:Vo l=ds++ [l.drop f]:=by unfold Vo;rw[m,φ];rw[List.getLast?_concat];intro X;have:=QG List.length (Option.some.inj X);simp at this;omega
 refine⟨D,G,by rw[e,Qy];rfl,F.ext (o.trans a) λk v=>(h.rows k v).1,?_⟩;rw[e,Qy];simpa [Xb] using I;have L:l.drop f=[]:=ux (by rw[d] at g;simp only at g;omega);have e:Vo l=ds:=by unfold Vo;rw[m,L,Qf (by simp)];simp
 exact⟨O,N,by rw[e],o,by rw[e];exact h⟩
namespace Nt
def val:Γ->Nat|[]=>0|x::l=>x+4294967296*val l
def Limbs (l:Γ):Prop:=∀x∈l,x<4294967296
def sj:Nat->Nat->Γ|0,_=>[]|f+1,n=>if n=0 then [] else(n % 4294967296)::sj f (n/4294967296)
def KY (n:Nat):Γ:=sj n n
theorem oQf:∀(f g n:Nat),n<=f->n<=g->sj f n=sj g n:=by
 intro f;induction f with
 |zero=>
      intro g n a _;have:n=0:=by omega
      subst this;cases g<;>simp[sj]
 |succ f b=>
  intro g n a c;by_cases a:n=0;subst a;cases g<;>simp[sj]
  cases g with|zero=>omega|succ g=>simp only[sj,φ a];rw[b g (n/4294967296) ω ω]
theorem CD:KY 0=[]:=rfl
theorem CE {n:Nat}(h:0<n):KY n=(n % 4294967296)::KY (n/4294967296):=by unfold KY;cases n with|zero=>omega|succ n=>rw[sj,φ ω];rw[oQf n ((n+1)/4294967296) _ ω (Qw _)]
theorem Ha:Limbs []:=λx h=>by cases h
theorem vt {x:Nat}{l:Γ}:Limbs (x::l)↔x<4294967296/\Limbs l:=by unfold Limbs;simp
theorem oQg {l m:Γ}:Limbs (l++m)↔Limbs l/\Limbs m:=by
 unfold Limbs;constructor
 exactλh=>⟨λx a=>h x (by simp[a]),λx a=>h x (by simp[a])⟩
 intro h x a;obtain b|b:=X2.1 a;exact h.1 x b;exact h.2 x b
theorem Limbs.get {l:Γ}(h:Limbs l){j x:Nat}(a:l[j]? =some x):x<4294967296:=h x (Xd a)
theorem Limbs.take {l:Γ}(h:Limbs l)(n:Nat):Limbs (l.take n):=λx a=>h x (aw a)
theorem dQN (l m:Γ):val (l++m)=val l+4294967296^l.length*val m:=by induction l with|nil=>simp[val]|cons x l a=>simp only[dZ,val,a,Xa,rC];grind
theorem O0 (l:Γ)(x:Nat):val (l++ [x])=val l+4294967296^l.length*x:=by rw[dQN];simp[val]
theorem dQO {l:Γ}(h:Limbs l):val l<4294967296^l.length:=by induction l with|nil=>simp[val]|cons x l a=>have b:=(vt.1 h).1;have b:=a (vt.1 h).2;simp only[val,Xa,rC];omega
theorem dQP {l:Γ}{i x:Nat}(h:l[i]? =some x):val (l.take (i+1))=val (l.take i)+4294967296^i*x:=by have a:i<l.length:=(ZK.1 h).1;rw[JT,h,rz,O0,KR,oV (Nat.le_of_lt a)]
theorem vu (n:Nat):val (KY n)=n:=by induction n using Nat.strongRecOn with|_ n a=>by_cases h:n=0;subst h;rfl;rw[CE ω,val,a _ ω];omega
theorem Hd (n:Nat):Limbs (KY n):=by induction n using Nat.strongRecOn with|_ n a=>by_cases h:n=0;subst h;exact Ha;rw[CE ω,vt];exact⟨dq _ ω,a _ ω⟩
theorem oQh (n:Nat):(KY n).getLast? ≠some 0:=by induction n using Nat.strongRecOn with|_ n a=>by_cases h:n=0;subst h;simp[CD];rw[CE ω];by_cases b:n/4294967296=0;rw[b,CD];simp;omega;have:=a (n/4294967296) ω;cases a:KY (n/4294967296)with|nil=>have:=vu (n/4294967296);rw[a] at this;simp[val] at this;omega|cons y m=>rw[a] at this;rw[uy];exact this
theorem oQi {l:Γ}(h:Limbs l)(b:l.getLast? ≠some 0):KY (val l)=l:=by
 induction l with|nil=>rfl|cons x l c=>
  obtain⟨a,d⟩:=vt.1 h;have e:l.getLast? ≠some 0:=by cases l with|nil=>simp|cons y m=>rwa [uy] at b
  have a:=c d e;have d:0<x+4294967296*val l:=by
   obtain c|c:=Nat.eq_zero_or_pos x;subst c;cases l with|nil=>simp at b|cons y m=>obtain b|b:=Nat.eq_zero_or_pos (val (y::m));rw[b,CD] at a;cases a;omega
   omega
  rw[val,CE d];have b:(x+4294967296*val l) % 4294967296=x:=by omega
  have c:(x+4294967296*val l)/4294967296=val l:=by omega
  rw[b,c,a]
theorem O1 (n k:Nat):(KY n).length<=k↔n<4294967296^k:=by
 constructor;intro h;have:=dQO (Hd n);rw[vu] at this;exact JZ this (bZ ω h);intro h;induction k generalizing n with|zero=>simp at h;subst h;simp[CD]|succ k a=>
  by_cases b:n=0;subst b;simp[CD];rw[CE ω,Xa];have:n/4294967296<4294967296^k:=by rw[rC] at h;exact Nat.div_lt_of_lt_mul ω
  have:=a _ this;omega
def Vd (l:Γ):Prop:=l.length<=1024/\l.getLast? ≠some 0
instance (l:Γ):Decidable (Vd l):=by unfold Vd;infer_instance
theorem yW {n:Nat}(h:n<4294967296^1024):Vd (KY n):=⟨(O1 n 1024).2 h,oQh n⟩
def gZ (n:Nat):Γ:=if(KY n).length<=1024 then KY n else []
def resE (n:Nat):Int:=if(KY n).length<=1024 then 0 else 2
theorem oQj {l:Γ}{n:Nat}(h:∀x∈l.drop n,x=0):val (l.take n)=val l:=by
 have a:val l=val (l.take n++l.drop n):=by rw[jK]
 rw[a,dQN];have:∀m:Γ,(∀x∈m,x=0)->val m=0:=by intro m;induction m with|nil=>intro _;rfl|cons x m a=>intro h;rw[val,h x (by simp),a λy b=>h y (by simp[b])]
 rw[this _ h];simp
theorem oQk {l:Γ}(a:Limbs l){n:Nat}(h:∀x∈l.drop n,x=0)(b:n=0∨∃x,l[n-1]? =some x/\x≠0):l.take n=KY (val l):=by rw[<-oQj h,oQi (a.take n)];obtain rfl|⟨x,a,c⟩:=b;simp;have b:n-1<l.length:=(ZK.1 a).1;obtain rfl|b:=Nat.eq_zero_or_pos n;simp;rw[oW,KR,oV ω,Mp,Qf ω,a];simpa using c
theorem oQl {l:Γ}(h:Limbs l)(i:Nat):val (l.take i)<4294967296^i:=
 JZ (dQO (h.take i)) (bZ ω (by rw[KR];omega))
theorem tQ3 (l:Γ)(i:Nat):val (l.drop i)=l[i]?.getD 0+4294967296*val (l.drop (i+1)):=by obtain h|h:=Nat.lt_or_ge i l.length;rw[VU h,val];simp[h];rw[fK h,fK ω];simp[val,h]
theorem dQQ (l:Γ)(i:Nat):val (l.take (i+1))=val (l.take i)+4294967296^i*l[i]?.getD 0:=by obtain h|h:=Nat.lt_or_ge i l.length;rw[dQP (Q6 h)];simp[h];rw[ZJ h,ZJ ω];simp[h]
theorem oQm {l:Γ}(h:Limbs l)(i:Nat):l[i]?.getD 0<4294967296:=by cases a:l[i]? with|none=>simp|some x=>simpa using h.get a
theorem oQn {p:Γ}{i c:Nat}{a b:Γ}(d:p.length=i)(h:val p+c*4294967296^i=val (a.take i)+val (b.take i)){s:Nat}(e:s=c+a[i]?.getD 0+b[i]?.getD 0):val (p++ [s % 4294967296])+s/4294967296*4294967296^(i+1)=val (a.take (i+1))+val (b.take (i+1)):=by
 rw[O0,d,dQQ,dQQ,rC];have d:s % 4294967296+4294967296*(s/4294967296)=s:=Nat.mod_add_div s 4294967296;generalize 4294967296^i=P at*;generalize s % 4294967296=r at*;generalize s/4294967296=q at*
 grind
theorem dQR {p:Γ}(a:Limbs p)(s:Nat):Limbs (p++ [s % 4294967296]):=oQg.2 ⟨a,vt.2 ⟨dq _ ω,Ha⟩⟩
theorem oQo {α:Type}(p:χ α)(x y:α)(r:χ α):(p++x::r).set p.length y=p++y::r:=by induction p with|nil=>rfl|cons z p a=>simp[a]
theorem dQS {α:Type}(p:χ α)(x y:α)(r:χ α){i:Nat}(a:p.length=i):(p++x::r).set i y=(p++ [y])++r:=by subst a;rw[oQo];simp
theorem oQp {α:Type}(p:χ α)(x:α)(r:χ α){i:Nat}(a:p.length=i):(p++x::r)[i]? =some x:=by subst a;simp
end Nt
namespace Nt
def cells (l:Γ):χ τ:=l.map λ(x:Nat)=>.int .u32 x
theorem He {l:Γ}{j:Nat}{u:τ}(h:(cells l)[j]? =some u):∃x,l[j]? =some x/\u= .int .u32 (x:Int):=by simp only[cells,Wy,Mu] at h;obtain⟨x,a,rfl⟩:=h;exact⟨x,a,rfl⟩
theorem oQq {l:Γ}{j x:Nat}(h:l[j]? =some x):(cells l)[j]? =some (.int .u32 (x:Int)):=by simp[cells,h]
theorem oQr (l m:Γ):cells (l++m)=cells l++cells m:=by simp[cells]
theorem oQs (l:Γ)(n:Nat):cells (l.take n)=(cells l).take n:=by simp[cells]
theorem dQT (l:Γ)(i x:Nat):cells (l.set i x)=(cells l).set i (.int .u32 (x:Int)):=by simp[cells,List.map_set]
theorem oQt (l:Γ):∀u∈cells l,Kb u=true:=by intro u a;simp only[cells,Z5] at a;obtain⟨x,_,rfl⟩:=a;rfl
abbrev SN (w:World)(A:Θ)(n c:Nat)(l:Γ):Prop:=Sl w 1 A n c (cells l)
theorem SN.length {w:θ}{A:Θ}{n c:Nat}{l:Γ}(h:SN w A n c l):l.length=n:=by have:=h.len;simpa [cells] using this
theorem SN.bd {w:θ}{A:Θ}{n c:Nat}{l:Γ}(h:SN w A n c l):n<=c/\(c:Int)<=9223372036854775807:=by have a:=h.le;have a:=h.cap;unfold maxLen at a;omega
theorem oQu (l:Γ):decide (Vd l)=(decide (l.length<=1024)&&(decide (l.length=0)||(l.getLast? !=some 0))):=by unfold Vd;cases l with|nil=>simp|cons x l=>rw[mN];simp
theorem O3 (A:Θ)(n c:Nat)(l:Γ)(w:θ)(h:SN w A n c l):Fn ψ 139 [.slice A n c] w (λv a=>v= .bool (decide (Vd l))/\a=w):=by
 have a:=h.length;have b:=h.bd;refine KS (c:=iQX) Qe Tryz.func139 rfl rfl rfl ?_;rw[oQu];refine Ql (λb=>?_) λb=>?_;refine X0 (λb=>?_) λb=>?_;refine And.intro ?_ rfl;have:l=[]:=VT ω;subst this;simp;refine Qz ((n-1:Nat):Int) (Zq h ω λe u f b d=>?_);obtain⟨x,e,rfl⟩:=He b;refine load d (And.intro ?_ rfl);have b:l.getLast? =some x:=by rw[oW];rw[a];exact e
 congr 1;rw[b,Zg (by omega:l.length<=1024),XZ (by omega:¬l.length=0)];show((x:Int) !=0)=_;rw[mN];simp;refine And.intro ?_ rfl;rw[XZ (by omega:¬l.length<=1024)]<;>rfl
theorem oQv {l:Γ}{k:Nat}(a:0<k)(h:∀x∈l.drop k,x=0)(b:l[k-1]? =some 0):∀x∈l.drop (k-1),x=0:=by have c:k-1<l.length:=(ZK.1 b).1;rw[VU c];intro x a;obtain rfl|a:=XI.1 a;simpa [Q6 c] using b;rw[show k-1+1=k by omega] at a;exact h x a
theorem oQw (A:Θ)(n c:Nat)(l:Γ)(w:θ)(h:SN w A n c l)(f:Limbs l):Fn ψ 195 [.slice A n c] w (λv w'=>∃a d,v= .tuple #[.slice a (gZ (val l)).length d,.int .i64 (resE (val l))]/\SN w a (gZ (val l)).length d (gZ (val l))/\(a=A∨a=none)/\w'=w):=by
 have b:=h.length;have e:=h.bd;refine KS (c:=jQJ) Qe Tryz.func195 rfl rfl rfl ?_;refine loop Qe [4] (λk:Nat=>[.int .i64 k]) (λk w'=>w'=w/\k<=n/\∀x∈l.drop k,x=0) (λk _=>k) n rfl ⟨rfl,Qw n,by rw[<-b];simp⟩ ?_;intro k w' b;obtain⟨rfl,g,e⟩:=b;have b:(k=0∨∃x,l[k-1]? =some x/\x≠0)->∃a d,(if k<=1024 then Value.tuple #[.slice A k c,.int .i64 0] else .tuple #[.slice none 0 0,.int .i64 2])= .tuple #[.slice a (gZ (val l)).length d,.int .i64 (resE (val l))]/\SN w' a (gZ (val l)).length d (gZ (val l))/\(a=A∨a=none)/\w'=w':=by
  intro a;have d:=oQk f e a;have a:(KY (val l)).length=k:=by rw[<-d,KR];omega
  unfold gZ resE;rw[a];split;refine⟨A,c,by rw[a],?_,.inl rfl,rfl⟩;rw[a];have:=h.take g;rwa [VC,<-oQs,d] at this;exact⟨none,0,rfl,Sl.nil w' 1,.inr rfl,rfl⟩
 refine Ql (λa=>?_) λa=>?_;refine Qz ((k-1:Nat):Int) (Zq h ω λd u g a f=>?_);obtain⟨x,d,rfl⟩:=He a;refine load f (X0 (λa=>?_) λa=>?_);refine Qz ((k-1:Nat):Int) ?_;refine⟨k-1,rfl,⟨rfl,ω,?_⟩,by show k-1<k;omega⟩;have:x=0:=by omega
 subst this;exact oQv ω e d;have a:=b (.inr ⟨x,d,ω⟩);refine Ql (λd=>?_) λd=>?_;rw[φ ω] at a;exact a;refine bm Qe rfl rfl rfl rfl rfl rfl ω ?_;rw[Qf ω] at a;exact a;have a:=b (.inl ω);refine Ql (λd=>?_) λd=>?_;omega;refine bm Qe rfl rfl rfl rfl rfl rfl ω ?_;rw[Qf ω] at a;exact a
theorem dQU (A:Θ)(n c:Nat)(l:Γ)(w:θ)(h:SN w A n c l)(d:Limbs l):Fn ψ 195 [.slice A n c] w (λv e=>∃a b,v= .tuple #[.slice a (gZ (val l)).length b,.int .i64 (resE (val l))]/\SN w a (gZ (val l)).length b (gZ (val l))/\e=w):=
 (oQw A n c l w h d).mono λ_ _ ⟨a,b,e,f,_,g⟩=>⟨a,b,e,f,g⟩
end Nt
namespace Nt
theorem O4 {n:Nat}(h:(KY n).length<=1024):gZ n=KY n:=Qf h
theorem oQx {n:Nat}(h:(KY n).length<=1024):resE n=0:=Qf h
theorem oQy (N:Nat)(h:N<18446744073709551616):val [N % 4294967296,N/4294967296 % 4294967296]=N:=by simp[val];omega
theorem oQz (N:Nat)(w:θ)(i:N<18446744073709551616):Fn ψ 135 [.int .u64 N] w (λv b=>∃A c,v= .slice A (KY N).length c/\SN b A (KY N).length c (KY N)/\Ext w b):=by refine KS (c:=iQT) Qe Tryz.func135 rfl rfl rfl ?_;refine FT ?_;refine Bg 32 4294967296 δ rfl rfl ?_;refine FT ?_;refine M2 Qe rfl rfl rfl rfl rfl rfl rfl rfl rfl rfl ?_;intro l g m f;have k:SN l (some ⟨w.heap.size,0,none⟩) 2 2 [N % 4294967296,N/4294967296 % 4294967296]:=Sl.own' f rfl (by simp[maxLen]);have h:Limbs [N % 4294967296,N/4294967296 % 4294967296]:=vt.2 ⟨dq _ ω,vt.2 ⟨dq _ ω,Ha⟩⟩;refine call (dQU _ _ _ _ _ k h) ?_;rintro v b ⟨d,e,rfl,a,rfl⟩;rw[oQy N i] at a ⊢;have j:gZ N=KY N:=O4 (by have:=(O1 N 2).2 ω;omega);rw[j] at a ⊢;exact⟨d,e,rfl,a,g⟩
end Nt
namespace Nt
def O5 (a b:Γ)(n:Nat):Γ:=if Vd a/\Vd b then gZ n else []
def O6 (a b:Γ)(n:Nat):Int:=if Vd a/\Vd b then resE n else 1
theorem dQV {a b:Γ}{n:Nat}(h:¬(Vd a/\Vd b)):O5 a b n=[]:=φ h
theorem dQW {a b:Γ}{n:Nat}(h:¬(Vd a/\Vd b)):O6 a b n=1:=φ h
theorem O7 {a b:Γ}{n:Nat}(c:Vd a)(d:Vd b):O5 a b n=gZ n:=Qf ⟨c,d⟩
theorem dQX {a b:Γ}{n:Nat}(c:Vd a)(d:Vd b):O6 a b n=resE n:=Qf ⟨c,d⟩
def dQY (w:θ)(l:Γ)(e:Int)(v:τ)(a:θ):Prop:=
 ∃A c,v= .tuple #[.slice A l.length c,.int .i64 e]/\SN a A l.length c l/\Ext w a
theorem dQZ (w w':θ)(e:Int)(h:Ext w w'):dQY w [] e (.tuple #[.slice none 0 0,.int .i64 e]) w':=⟨none,0,rfl,Sl.nil _ 1,h⟩
theorem add_fn (A B:Θ)(n c m d:Nat)(a b:Γ)(w:θ)(C:SN w A n c a)(D:SN w B m d b)(M:Limbs a)(J:Limbs b):
  Fn ψ 138 [.slice A n c,.slice B m d] w (dQY w (O5 a b (val a+val b)) (O6 a b (val a+val b))):=by
 refine QK iQW [3,12] Tryz.func138 ?_;refine call (O3 _ _ _ _ _ C) ?_;rintro v H ⟨rfl,rfl⟩;refine bj (Ql (λj=>?_) (λj=>?_))
 case refine_2=>rw[dQV (λh=>j h.1),dQW (λh=>j h.1)];exact dQZ _ _ _ (Ext.refl _)
 refine call (O3 _ _ _ _ _ D) ?_;rintro v H ⟨rfl,rfl⟩;refine bj (Ql (λl=>?_) (λl=>?_))
 case refine_2=>rw[dQV (λh=>l h.2),dQW (λh=>l h.2)];exact dQZ _ _ _ (Ext.refl _)
 rw[O7 j l,dQX j l];refine cut Qe [0,1] (λs:(Θ×Nat×Nat×Γ)×(Θ×Nat×Nat×Γ)=>[.slice s.1.1 s.1.2.1 s.1.2.2.1,.slice s.2.1 s.2.2.1 s.2.2.2.1])
  (λs o=>o=H/\SN H s.1.1 s.1.2.1 s.1.2.2.1 s.1.2.2.2/\SN H s.2.1 s.2.2.1 s.2.2.2.1 s.2.2.2.2/\Limbs s.1.2.2.2/\Limbs s.2.2.2.2/\s.2.2.1<=s.1.2.1/\s.1.2.1<=1024/\val a+val b=val s.1.2.2.2+val s.2.2.2.2) ?_ ?_
 ·have hla:=C.length;have mo:=D.length;have h1:=j.1;have T:=l.1;refine Ql (λh=>?_) (λh=>?_)
  ·exact⟨((B,m,d,b),(A,n,c,a)),rfl,rfl,D,C,J,M,by show n<=m;omega,by show m<=1024;omega,Fe _ _⟩
  ·exact⟨((A,n,c,a),(B,m,d,b)),rfl,rfl,C,D,M,J,by show m<=n;omega,by show n<=1024;omega,rfl⟩
 rintro⟨⟨A,n,c,x⟩,⟨B,m,d,y⟩⟩ o ⟨rfl,O,P,V,N,tK,hn,f⟩
 dsimp only at O P V N tK hn f ⊢
 rw[f];clear f j l C D M J;have hlx:=O.length;have hly:=P.length;refine Qz ((n+1:Nat):Int) (yg Qe rfl rfl rfl rfl rfl rfl rfl rfl (by show 4*_<=_;omega) (by unfold maxLen;omega) ?_);intro w3 S uQy Qt;refine iQa Qe rfl rfl rfl rfl rfl rfl rfl Qt (O.ext S) ω (by simp) (oQt x) ?_;intro w4 Q uQz QU;have Qq:Ext o w4:=S.own Q (Qw _);have zo:Blk w4 o.heap.size 219 (cells (x++ [0])):=by
  have e:cells x++(List.replicate (n+1) (Value.int .u32 0)).drop n=cells (x++ [0]):=by
   rw[oQr,List.drop_replicate,show n+1-n=1 by omega]<;>rfl
  rw[<-e];exact QU
 refine loop Qe [33,7] (λs:Nat×Nat=>[.int .i64 s.1,.int .u64 s.2]) (λs I=>Ext o I/\s.1<=n/\s.2<2/\∃p,p.length=s.1/\Limbs p/\Blk I o.heap.size 219 (cells (p++(x.drop s.1++ [0])))/\val p+s.2*4294967296^s.1=val (x.take s.1)+val (y.take s.1))
  (λs _=>n-s.1) (0,0) rfl ⟨Qq,Q9 _,δ,[],rfl,Ha,by simpa using zo,by simp[val]⟩ ?_
 rintro⟨i,k⟩ I ⟨K,hi,hk,p,g,t,q,G⟩
 dsimp only at hi hk g q G ⊢
 refine Ql (λT=>?_) (λT=>?_)
 ·have E:x[i]? =some x[i]:=Q6 ω;have T8:x.drop i=x[i]::x.drop (i+1):=VU ω;have eM:=V.get E;rw[T8,dZ] at q;refine index ω (Qp q (oQq (oQp p _ _ g)) (jZk ω (uL ((k+x[i]:Nat):Int) ω ω ?_)));refine cut Qe [7] (λs:Nat=>[.int .u64 s]) (λs W=>W=I/\s=k+x[i]?.getD 0+y[i]?.getD 0) ?_ ?_
  ·refine Ql (λh3=>?_) (λh3=>?_)
   ·refine Zq (P.ext K) ω (λad u hA hu Z=>?_);obtain⟨z,U,rfl⟩:=He hu;have YB:=N.get U;refine load Z (jZk ω (uL ((k+x[i]+z:Nat):Int) ω ω ?_));exact⟨k+x[i]+z,rfl,rfl,by rw[U,E];rfl⟩
   ·exact⟨k+x[i],rfl,rfl,by rw[E,uu ω];rfl⟩
  rintro s W ⟨rfl,F⟩;have EM:=oQm N i;have aT:s<2*4294967296:=by rw[E,kR] at F;omega
  refine FT (index ω (uM q (by simp[cells];omega) ?_));intro X L r;refine Bg 32 4294967296 δ rfl rfl (Qz ((i+1:Nat):Int) ?_);refine⟨(i+1,s/4294967296),rfl,⟨K.own L (Qw _),by show i+1<=n;omega,by show s/4294967296<2;omega,p++ [s % 4294967296],by simp[g],dQR t s,?_,oQn g G F⟩,QL⟩;rw[<-dQT,dQS _ _ _ _ g] at r;exact r
 ·have:i=n:=by omega
  subst this;rw[fK ω,d4] at q;rw[ZJ ω,ZJ ω] at G;refine FT (index ω (uM q (by simp[cells];omega) ?_));intro X L r;rw[<-dQT,dQS _ _ _ _ g,YE] at r;have F:SN X (some ⟨o.heap.size,0,none⟩) (i+1) (i+1) (p++ [k % 4294967296]):=Sl.own' r (by simp[cells,g]) (by unfold maxLen;omega);refine call (dQU _ _ _ _ _ F (dQR t k)) ?_;rintro v w8 ⟨Y,c',rfl,R,rfl⟩;have e:val (p++ [k % 4294967296])=val x+val y:=by
   rw[O0,g,mR ω,AN];exact G
  rw[e] at R ⊢;exact⟨Y,c',rfl,R,K.own L (Qw _)⟩
end Nt
namespace Nt
def pO (l:Γ):Bool:=decide (Vd l)&&decide (l.length<=2)
def yX (l:Γ):Nat:=if pO l=true then val l else 0
theorem dQ0 {l:Γ}(h:¬(Vd l/\l.length<=2)):yX l=0/\pO l=false:=by
 have a:pO l=false:=by unfold pO;rw[dt];simpa using h
 exact⟨by unfold yX;rw[a];rfl,a⟩
theorem dQ1 {l:Γ}(b:Vd l)(c:l.length<=2):yX l=val l/\pO l=true:=by
 have a:pO l=true:=by unfold pO;simp[b,c]
 exact⟨by unfold yX;rw[a];rfl,a⟩
theorem dQ2 {x n d:Nat}{y:Int}{K:Int->Prop}(a:0<=y)(b:min y.toNat 64=n)(c:2^n=d)(f:x*d<=18446744073709551615)(k:K ((x*d:Nat):Int)):jP (0<=y) (IntKind.u64.wrap ((x:Int)*2^(min y.toNat IntKind.u64.bits))) K:=by
 refine normIf a ?_ k;rw[show min y.toNat IntKind.u64.bits=n from b];have e:(x:Int)*2^n=((x*d:Nat):Int):=by rw[<-c];norm_cast
 rw[e];exact IntWalk.u64_in _ ω
theorem oQA {a x:Nat}(c:a<4294967296):a ||| (x*4294967296)=a+4294967296*x:=by have:=Nat.shiftLeft_add_eq_or_of_lt (b:=a) (i:=32) ω x;rw[Nat.shiftLeft_eq,show(2:Nat)^32=4294967296 from rfl] at this;rw[Nat.or_comm];omega
theorem oQB (A:Θ)(n c:Nat)(l:Γ)(w:θ)(h:SN w A n c l)(f:Limbs l):Fn ψ 88 [.slice A n c] w (λv e=>v= .tuple #[.int .u64 (yX l),.bool (pO l)]/\e=w):=by
 have a:=h.length;refine KS (c:=c88) Qe Tryz.func88 rfl rfl rfl ?_;refine call (O3 _ _ _ _ _ h) ?_;rintro v e ⟨rfl,rfl⟩;refine bj (Ql (λg=>?_) λg=>?_);refine Ql (λa=>?_) λa=>?_;obtain⟨a,b⟩:=dQ0 (l:=l) λk=>ω;rw[a,b];exact And.intro rfl rfl;obtain⟨a,b⟩:=dQ1 g ω;rw[a,b];refine loop Qe [16,4] (λs:Nat=>[.int .i64 s,.int .u64 (val (l.take s):Nat)]) (λs i=>i=e/\s<=n) (λs _=>n-s) 0 rfl ⟨rfl,Q9 _⟩ ?_;rintro k i ⟨rfl,e⟩
 dsimp only
 refine Ql (λe=>?_) λe=>?_;refine Zq h ω λi u m e j=>?_;obtain⟨x,i,rfl⟩:=He e;have e:=f.get i;refine load j (jZk ω ?_);have e:=dQP i;have i:=oQl f k;obtain rfl|rfl:=(by omega:k=0∨k=1);refine Ky 0 ω ω (dQ2 (n:=0) (d:=1) δ δ δ ω ?_);rw[VC];have i:val (l.take 0)=0:=by simp[val]
 rw[i];refine aQy (s:=x) (Nat.zero_or x) ω ω (Qz ((1:Nat):Int) ?_);have j:val (l.take 1)=x:=by have f:=e;rw[i] at f;simpa using f
 refine⟨1,?_,⟨rfl,ω⟩,by show n-1<n-0;omega⟩
 dsimp only
 rw[j]<;>rfl
 refine Ky 32 ω ω (dQ2 (n:=32) (d:=4294967296) δ δ δ ω (aQy (oQA ω) ω ω (Qz ((2:Nat):Int) ?_)));have i:val (l.take 2)=val (l.take 1)+4294967296*x:=by have f:=e;simpa using f
 refine⟨2,?_,⟨rfl,ω⟩,by show n-2<n-1;omega⟩
 dsimp only
 rw[i]<;>rfl
 rw[ZJ ω];exact And.intro rfl rfl;obtain⟨a,b⟩:=dQ0 (l:=l) λk=>g k.1;rw[a,b];exact And.intro rfl rfl
end Nt
def NumIn (w:θ)(b:Nat)(v:τ):Prop:=∃A m c N,v= .slice A m c/\Nt.SN w A m c (Nt.KY N)/\N<=b
theorem NumIn.ext {w a:θ}{b:Nat}{v:τ}(h:NumIn w b v)(k:Ext w a):NumIn a b v:=by obtain⟨A,m,c,N,a,d,e⟩:=h;exact⟨A,m,c,N,a,d.ext k,e⟩
theorem NumIn.mod {w a:θ}{b g t:Nat}{v:τ}{d:χ τ}(h:NumIn w b v)(f:Blk w g t d)(j:∀u∈d,∃A m c,u= .slice A m c)(k:Mod (·=g) w a):NumIn a b v:=by
 obtain⟨A,m,c,N,d,a,l⟩:=h;refine⟨A,m,c,N,d,a.modS k λn i o e=>?_,l⟩;subst e;obtain⟨d,rfl,k⟩:=a.at_ n;obtain⟨l,d,n⟩:=o;cases d;have d:=a.length;obtain⟨x,d⟩:∃x,(Nt.KY N)[0]? =some x:=⟨_,Q6 ω⟩
 have a:=k 0 _ (show(Nt.cells (Nt.KY N))[0]? =some (.int .u32 x) by unfold Nt.cells;rw[Wy,d];rfl);unfold World.cell? at a;rw[fQ,n,show w.heap[i]? =_ from f] at a;simp only at a;split at a;cases a;rw[UY] at a;obtain⟨_,_,_,d⟩:=j _ (Xd a);cases d
def ia (n:Nat)(a:χ Br)(x:Nat):Nat:=min n (QB a x).toNat
theorem oQC (x:DV)(n a c m:Nat)(w:θ)(d:Blk w a 3 [.int .i64 n])(e:Blk w c 32 x.cells)(f:SB w x.A x.n x.c x.nd)(g:m<x.n+2)(h:0<=QB x.nd m):Fn ψ 136 [.int .i64 m,.pointer (some ⟨a,0,none⟩),.pointer (some ⟨c,0,none⟩)] w (λu b=>u= .int .i64 (ia n x.nd m)/\Ext w b):=by refine QK iQU [] Tryz.func136 ?_;have a:=Ext.drew w;refine Xw (Ext w) 6 [(true,0),(true,1),(true,2),(false,3),(true,4),(true,5)] a ?_;refine Qx (v:=.int .i64 n) (λb c=>by rw[(d.ext c).cell0];rfl) ?_;refine Xe (vs:=x.cells) rfl (λb c j u d=>by rw[(e.ext c).cell];exact d) ?_;refine call (kZ x.A x.n x.c x.r m x.nd w.drew (f.ext a) ω) ?_;rintro _ c ⟨rfl,b⟩;refine⟨a.trans b,?_⟩;refine norm (m:=(ia n x.nd m:Int)) (by unfold ia;split<;>omega) ?_;exact⟨rfl,a.trans b⟩
abbrev oQD (a b:Nat):Value:=.func (.func 136) #[] #[.pointer (some ⟨a,0,none⟩),.pointer (some ⟨b,0,none⟩)]
structure CtK (w:World) (x:DV) (n nb ab cb pb sb:Nat) (cs:List Value):Prop where
 hN:Blk w nb 3 [.int .i64 n]
 hA:Blk w ab 32 x.cells
 hx:SB w x.A x.n x.c x.nd
 hC:Blk w cb 213 [.slice (some ⟨sb,0,none⟩) (x.n+2) (x.n+2)]
 hP:Blk w pb 215 [oQD nb ab]
 hS:Blk w sb 143 cs
 len:cs.length=x.n+2
 sl:∀u∈cs,∃A m c,u= .slice A m c
 nums:∀(j:Nat) (v:Value),cs[j]? =some v->NumIn w (2^(n-ia n x.nd j)) v
theorem CtK.ext {w a:θ}{x:DV}{n b c d e f:Nat}{cs:χ τ}(h:CtK w x n b c d e f cs)(k:Ext w a):CtK a x n b c d e f cs:=
 ⟨h.hN.ext k,h.hA.ext k,h.hx.ext k,h.hC.ext k,h.hP.ext k,h.hS.ext k,h.len,h.sl,λj v a=>(h.nums j v a).ext k⟩
theorem dQ3 {A B:Θ}{m c k d N M b:Nat}(j:N+M<=b)(a:b<=4096)(w:θ)(h:Nt.SN w A m c (Nt.KY N))(i:Nt.SN w B k d (Nt.KY M)):Fn ψ 138 [.slice A m c,.slice B k d] w (λu e=>∃v,u= .tuple #[v,.int .i64 0]/\NumIn e b v/\Ext w e):=by have a:∀x,x<=4096->x<4294967296^1024:=λx f=>(show ∀k,0<k->x<4294967296^k from λk p=>JZ (show x<4294967296^1 by omega) (bZ δ p)) 1024 δ;have f:=Nt.yW (a N ω);have g:=Nt.yW (a M ω);refine(Nt.add_fn A B m c k d _ _ w h i (Nt.Hd N) (Nt.Hd M)).mono ?_;rintro u e ⟨l,n,h,i,o⟩;rw[Nt.dQX f g,Nt.O7 f g,Nt.vu,Nt.vu,Nt.oQx (Nt.yW (a (N+M) ω)).1,Nt.O4 (Nt.yW (a (N+M) ω)).1] at h;rw[Nt.O7 f g,Nt.vu,Nt.vu,Nt.O4 (Nt.yW (a (N+M) ω)).1] at i;subst h;exact⟨_,rfl,⟨l,_,n,N+M,rfl,i,j⟩,o⟩
theorem O8 {w:θ}{x:DV}{n z q r B O:Nat}{t:χ τ}(S:n<=12)(K:CtK w x n z q r B O t)(m f:Nat)(H:m<x.n+2)(F:0<=QB x.nd m)(R:f<=ia n x.nd m):Fn ψ 137 [.int .i64 m,.int .i64 f,.pointer (some ⟨r,0,none⟩),.pointer (some ⟨B,0,none⟩)] w (λu d=>∃v,u= .tuple #[v,.int .i64 0]/\NumIn d (2^(n-f)) v/\Ext w d):=by
 have L:ia n x.nd m<=n:=Nat.min_le_left _ _;have I:=K.hx.1.cap;have P:=K.hx.1.le;refine QK iQV [] Tryz.func137 ?_;refine QQ K.hC rfl ?_;obtain⟨v,y⟩:∃v,t[m]? =some v:=⟨_,Q6 (by rw[K.len];omega)⟩
 refine index (j:=m) ω (Qp K.hS y (QQ K.hP rfl (call (oQC x n z q m w K.hN K.hA K.hx H F) ?_)));rintro _ T ⟨rfl,l⟩;generalize J:ia n x.nd m=p at*;refine Qz ((p-f:Nat):Int) ?_;have a:=(K.nums m v y).ext l;rw[J] at a;refine loop Qe [8,20] (λs:τ×Nat=>[s.1,.int .i64 s.2]) (λs d=>Ext w d/\s.2<=p-f/\NumIn d (2^(n-p)*2^s.2) s.1) (λs _=>p-f-s.2) (v,0) rfl ⟨l,Q9 _,by simpa using a⟩ ?_;rintro⟨u,i⟩ Q ⟨o,G,A,M,c,N,rfl,k,e⟩;simp only at G e;refine Ql (λh=>?_) λh=>?_;have g:i<p-f:=by simp only at h;omega
 have E:2^(n-p)*2^(i+1)<=4096:=by rw[<-Nat.pow_add];exact XU (bZ δ (show n-p+(i+1)<=12 by omega)) δ
 refine call (dQ3 (b:=2^(n-p)*2^(i+1)) (by rw[rC,<-Nat.mul_assoc];omega) E Q k k) ?_;rintro _ U ⟨u,rfl,D,C⟩;refine KT rfl (QF i ?_);exact⟨(u,i+1),rfl,⟨o.trans C,g,D⟩,by show p-f-(i+1)<p-f-i;omega⟩;have g:i=p-f:=by simp only at h;omega
 refine⟨_,rfl,⟨A,M,c,N,rfl,k,?_⟩,o⟩;rw[g,<-Nat.pow_add,show n-p+(p-f)=n-f by omega] at e;exact e
theorem oQE {c:Cx}{o:Oper}{S:Env}{w:θ}{K:Env->θ->Prop}{Q:ZD}{x y z:Operand}{d:Array TypeId}{b e k3:IntKind}(f:o.op= .call ⟨.builtin .max, #[x,y,z],d⟩)(g:S.ev x=some (.int b 0))(h:S.ev y=some (.int e 0))(i:S.ev z=some (.int k3 0))(j:XD c S o.dst (.v (.int b 0)) λS=>K S w):Zv c o S w K Q:=by refine Kr (w':=w) (v:=.int b 0) (λa d=>?_) j;have b:=d.ev g;have e:=d.ev h;have g:=d.ev i;simp[execOp,f,resolve,invoke,builtin,b,e,g,Builtin.max_,Builtin.max2]
theorem oQF {n:Nat}{a:χ Br}{x:Nat}(h:(x:Int)<2)(b:n<=12):ia n a x=n:=by unfold ia QB;rw[Qf h];show min n 64=n;omega
theorem oQG {n i:Nat}{a:χ Br}{b:Br}(c:a[i]? =some b)(d:0<=b.v)(e:b.v<n):ia n a (i+2)=b.v.toNat:=by unfold ia QB;rw[φ ω,show(((i+2:Nat):Int)-2).toNat=i by omega,c];simp only[AL,kR];omega
theorem O9 {a:χ Br}{r:Int}(h:VD a r){x:Int}:0<=QB a x:=by unfold QB;split;decide;cases c:a[(x-2).toNat]? with|none=>simp|some b=>simpa using (h.1 _ b c).1
theorem oQH (x:DV)(n:Nat)(C:n<=12)(w:θ)(h:SB w x.A x.n x.c x.nd)(e:Ke n x.nd x.r=true):Fn ψ 87 [Q5 x.A x.n x.c x.r,.int .i64 n] w (λu a=>∃v,u= .tuple #[v,.int .i64 0]/\NumIn a (2^n) v/\Ext w a):=by
 obtain⟨d,k⟩:=nJ.1 e;have l:=(gM.1 d).2;have e:=h.2;have e:=h.1.cap;have f:=h.1.le;have f:=(gM.1 d).1;simp only[maxLen] at e;refine QK c87 [] Tryz.func87 ?_;refine new λG g e o=>?_;refine new λq e f r=>?_;have f:=g.trans e;have g:=o.ext e;refine Qm g (call (F9 x.A x.n x.c x.nd x.r q (h.ext f)) ?_);rintro _ s ⟨rfl,q⟩;have o:=f.trans q;refine KT d ?_;have e:=g.ext q;have f:=r.ext q;refine QQ f rfl (XB ω (QQ f rfl (XB ω (Qp e rfl (loop Qe [35] (λi:Nat=>[.int .i64 i]) (λi a=>Ext s a/\i<=x.n) (λi _=>x.n-i) 0 rfl ⟨Ext.refl _,Q9 _⟩ ?_)))));rintro i d ⟨g,D⟩;refine Ql (λH=>?_) λH=>?_;have r:i<x.n:=by omega
 refine XG aD ((h.ext o).ext g) rfl r λp b s I=>?_;refine Jm (vs:=b.cells) rfl I (new λt F L z=>?_);refine Qo z λw6 J _ B=>?_;have E:Ext d w6:=X1 F z J;have O:=k b (Xd s);refine QQ B rfl (QQ ((f.ext g).ext E) rfl (XB ω (QF i ?_)));exact⟨i+1,rfl,⟨g.trans E,r⟩,QL⟩;have J:=o.trans g;have o:=e.ext g;have V:=f.ext g;refine Qp o rfl (Qz ((x.n+2:Nat):Int) (yg Qe rfl rfl rfl rfl rfl rfl rfl rfl (by show 24*(x.n+2)<=_;omega) (by unfold maxLen;omega) λt F L z=>?_));refine new λw6 E e B=>?_;refine VW B δ λw7 f P=>?_;have e:Ext t w7:=f.ext E λi D=>ω;have B:=f.size;have f:=z.ext e;have z:=e.size;refine Xw (λa=>Mod (·=d.heap.size) w7 a) 4 [(true,0),(false,1),(true,2),(false,3)] (Mod.of_ext _ (Ext.drew w7)) ?_;have L:¬t.heap.size=d.heap.size:=by omega
 refine Qx (v:=.slice (some ⟨d.heap.size,0,none⟩) (x.n+2) (x.n+2)) (λa z=>by rw[(P.mod z L).cell0];rfl) (call (Nt.oQz 1 w7.drew δ) ?_);rintro _ w8 ⟨z,B,rfl,W,E⟩;have M:Ext w7 w8:=(Ext.drew w7).trans E;refine⟨Mod.of_ext _ M,?_⟩;refine index (j:=1) ω ?_;have Q:=f.ext M;refine Xv Q (by simp) λw9 R X=>?_;have E:Mod (·=d.heap.size) w7 w9:=(Mod.of_ext _ M).trans R λ_=>.inl;refine⟨E,?_⟩;have S:Ext d w9:=E.ext (F.trans e) λi D=>ω;have e:=E.size;refine new λe f M F=>?_;refine VW F δ λQJ e Y=>?_;have F:Ext w9 QJ:=e.ext f λi D=>ω;have M:=S.trans F;have f:=e.size;have T:=J.trans M;have N:∀u∈(List.replicate (x.n+2) (Value.slice none 0 0)).set 1 (.slice z (Nt.KY 1).length B),∃A m c,u= .slice A m c:=λu e=>by obtain e|rfl:=aQb e;exact⟨none,0,0,Fi e⟩;exact⟨_,_,_,rfl⟩
 have U:CtK QJ x n G.heap.size w.heap.size t.heap.size w9.heap.size d.heap.size ((List.replicate (x.n+2) (Value.slice none 0 0)).set 1 (.slice z (Nt.KY 1).length B)):=by
  refine⟨V.ext M,o.ext M,h.ext T,(P.mod E L).ext F,Y,X.ext F,by simp,N,λj v f=>?_⟩;by_cases o:1=j;subst o;rw[mS (by simp)] at f;cases f;rw[oQF δ C,Fg];have E:NumIn w8 (2^0) (.slice z (Nt.KY 1).length B):=⟨z,_,B,1,rfl,W,Qw _⟩
  exact(E.mod Q (λu e=>⟨none,0,0,Fi e⟩) R).ext F;rw[jN o] at f;have:=Fi (Xd f);subst this;exact⟨none,0,0,0,rfl,Sl.nil _ _,Q9 _⟩
 generalize (List.replicate (x.n+2) (Value.slice none 0 0)).set 1 (.slice z (Nt.KY 1).length B)=E at*;refine Qp U.hA rfl (loop Qe [57] (λi:Nat=>[.int .i64 i]) (λi a=>Mod (·=d.heap.size) QJ a/\i<=x.n/\∃B,CtK a x n G.heap.size w.heap.size t.heap.size w9.heap.size d.heap.size B) (λi _=>x.n-i) 0 rfl ⟨Mod.refl _ _,Q9 _,E,U⟩ ?_);rintro i Xk ⟨M,D,B,K⟩;have R:Ext w Xk:=M.ext T (λj o=>by have:=J.size;omega);refine Ql (λH=>?_) λH=>?_;have r:i<x.n:=by omega
 refine XG aD K.hx rfl r λp b s I=>?_;obtain⟨N,a,k3,t,z,E,F,H,T,D⟩:=l.1 i b s;have O:=k b (Xd s);obtain⟨bv,E⟩:=MD N;obtain⟨H,a⟩:=MD k3;obtain⟨P,t⟩:=MD z;refine Jm (vs:=b.cells) rfl I (new λU F z k=>?_);refine Qo k λZe I _ z=>?_;have Q:Ext Xk Ze:=X1 F k I;have k:=K.ext Q;refine Qp z rfl (QQ z rfl (Qz ((bv+1:Nat):Int) ?_ (hm:=by show b.v+1=_;omega)));have I:∀y:Int,b.v<QB x.nd y->∀m:Nat,y=m->bv+1<=ia n x.nd m:=λy V m hm=>by subst hm;unfold ia;omega
 show kU _ _ [.int .i64 b.l,_,_,_] _ _ _;rw[a];refine call (O8 C k H (bv+1) ω (O9 l) (I b.l T H a)) ?_;rintro _ T ⟨V,rfl,H,a⟩;refine Qp (z.ext a) rfl (QQ (z.ext a) rfl (Qz ((bv+1:Nat):Int) ?_ (hm:=by show b.v+1=_;omega)));show kU _ _ [.int .i64 b.h,_,_,_] _ _ _;rw[t];refine call (O8 C (k.ext a) P (bv+1) ω (O9 l) (I b.h D P t)) ?_;rintro _ z ⟨I,rfl,⟨T,V,W,X,rfl,t,D⟩,P⟩;obtain⟨T,V,W,X,rfl,D,I⟩:=H.ext P;have H:2^(n-(bv+1))+2^(n-(bv+1))=2^(n-bv):=by rw[show n-bv=(n-(bv+1))+1 by omega,rC];omega
 refine call (dQ3 (b:=2^(n-bv)) ω (XU (bZ δ (show n-bv<=12 by omega)) δ) z D t) ?_;rintro _ JO ⟨_,rfl,⟨t,z,D,T,rfl,H,V⟩,W⟩;have I:NumIn JO (2^(n-bv)) (.slice t z D):=⟨t,z,D,T,rfl,H,V⟩
 have H:=(a.trans P).trans W;have a:=k.ext H;refine oQE rfl rfl rfl rfl (KT rfl (QQ a.hC rfl (Qz ((i+2:Nat):Int) ?_ (hm:=by show((i:Nat):Int)+2=_;omega))));refine index (j:=i+2) ω (Xv (j:=i+2) a.hS (by rw[a.len];omega) λKO P T=>?_);refine QF i ?_;have k:=Q.trans H;refine⟨i+1,rfl,⟨(M.trans (Mod.of_ext (·=d.heap.size) k) λ_=>.inl).trans P λ_=>.inl,r,B.set (i+2) (.slice t z D),?_⟩,QL⟩;have r:b.v=bv:=E;have r:ia n x.nd (i+2)=bv:=by rw[oQG s N O];omega
 have s:Ext Xk JO:=k;have k:Mod (·=d.heap.size) JO KO:=P;have s:¬G.heap.size=d.heap.size:=by have:=q.size;have:=g.size;omega
 have t:¬w.heap.size=d.heap.size:=by have:=q.size;have:=g.size;omega
 have g:¬w9.heap.size=d.heap.size:=by have:=S.size;omega
 have d:=a.hx;refine⟨a.hN.mod k s,a.hA.mod k t,d.modo k (λq z B=>by have:=SB.lt h q z B;have:=J.size;omega),a.hC.mod k L,a.hP.mod k g,T,by rw[jL];exact a.len,λu e=>?_,λj v f=>?_⟩;obtain e|rfl:=aQb e;exact a.sl u e;exact⟨_,_,_,rfl⟩;by_cases o:i+2=j;subst o;rw[mS (by rw[a.len];omega)] at f;cases f;rw[r];exact I.mod a.hS a.sl k;rw[jN o] at f;exact(a.nums j v f).mod a.hS a.sl k;obtain⟨d,a⟩:=MD l.2.1;have e:=l.2.2.1;refine Qp K.hA rfl ?_;show kU _ _ [.int .i64 x.r,_,_,_] _ _ _;rw[a];refine call (O8 C K d 0 ω (O9 l) (Q9 _)) ?_;rintro _ U ⟨u,rfl,a,F⟩;exact⟨u,rfl,a,R.trans F⟩
abbrev Hf:List Value:=[.int .i64 1,.int .i64 0,.int .i64 0,.int .i64 0]
theorem oQI (w:θ):Fn ψ 223 [.agg Hf.toArray,.int .i64 0] w (λv a=>v= .int .i64 0/\Ext w a):=by refine QK aQO [] Tryz.func223 ?_;refine new λa e c b=>?_;refine QQ b rfl ?_;refine new λf c g d=>?_;refine Qo d λw3 g _ h=>?_;have d:Mod (·=a.heap.size) f w3:=vQB g rfl;have a:=(b.ext c).mod d ω;have b:Ext w w3:=d.ext (e.trans c) λi f=>ω;refine QQ a rfl ?_;refine X6 δ ?_;refine JF rfl ?_;refine Qm a ?_;refine Qm h ?_;refine QX rfl ?_;refine Qp a rfl ?_;refine XB δ ?_;refine Qp a rfl ?_;refine XB δ ?_;refine XB δ ?_;exact⟨rfl,b⟩
abbrev Hg (w:World)(A:Θ)(c:Nat):Prop:=SlS Fz.cells 4 w A 1 c [⟨1,0,0,0⟩]
theorem oQJ (A:Θ)(c:Nat)(w:θ)(h:Hg w A c):Fn ψ 193 [.slice A 1 c] w (λv a=>v= .int .i64 0/\Ext w a):=by
 refine QK aQM [] Tryz.func193 ?_;refine X6 δ (XB δ (new λd b e f=>?_));refine loop Qe [20] (λs:Nat=>[.int .i64 s]) (λs a=>Ext w a/\s<=1) (λs _=>1-s) 0 rfl ⟨b,Q9 _⟩ ?_;rintro s d ⟨b,e⟩;refine Ql (λe=>?_) λe=>?_;have e:s=0:=by omega
 subst e;refine XG kW (h.ext b) rfl ω λp x e f=>?_;cases e;refine Jm (vs:=Hf) rfl f (new λi g j e=>?_);refine Qo e λw4 i j f=>?_;have j:Ext d w4:=X1 g e i;refine Qm f (call (oQI w4) ?_);rintro v g ⟨rfl,e⟩;have g:=f.ext e;refine XB δ (Qp g rfl (Qp g rfl (M2 Qe rfl rfl rfl rfl rfl rfl rfl rfl rfl rfl λf i k l=>?_)));refine bm Qe (h:=0) rfl rfl rfl rfl rfl rfl (Q9 _) (loop Qe [38] (λt:Nat=>[.int .i64 t]) (λt a=>f=a/\t=0) (λt _=>t) 0 rfl ⟨rfl,rfl⟩ ?_);rintro t _ ⟨rfl,rfl⟩;refine XB δ (Ky ((1:Nat):Int) δ δ ?_);exact⟨1,rfl,⟨b.trans (j.trans (e.trans i)),Qw _⟩,by show 1-1<1-0;omega⟩;refine Ky ((0:Nat):Int) δ δ (bm Qe (h:=0) rfl rfl rfl rfl rfl rfl (Q9 _) (loop Qe [55] (λs:Nat=>[.int .i64 s]) (λs a=>d=a/\s=0) (λs _=>s) 0 rfl ⟨rfl,rfl⟩ ?_));rintro t _ ⟨rfl,rfl⟩;refine XB δ ?_;exact⟨rfl,b⟩
theorem oQK (a g:Nat)(d:Θ)(f h:Nat)(b:Θ)(cf:Nat)(w:θ)(i:Bld w a g 109 [] none 0 [])(k:Hg w b cf):Fn ψ 194 [.pointer (some ⟨g,0,none⟩),.slice d f h,.slice b 1 cf,.int .i64 0,.int .i64 0] w (λ_ e=>∃b d,Bld e a g 109 [] b d (Yn ⟨#[116,114,117,101]⟩)/\Mod (Bp g none) w e):=by refine Bz (c:={jQI with cuts:=[]}) Qe Tryz.func194 rfl rfl rfl ?_;refine JN (JC Qe ?_);refine XG kW k (j:=0) rfl ω λp x e f=>?_;cases e;refine Jm (vs:=Hf) rfl f ?_;refine new λf k h e=>?_;refine Qo e λw2 l h f=>?_;have h:Ext w w2:=X1 k e l;have e:=i.grow h;refine JN (JC Qe ?_);refine QQ f rfl ?_;refine call (kQ6 1 w2) ?_;rintro v _ ⟨rfl,rfl⟩;refine JN ?_;refine JN (JC Qe ?_);refine kQN rfl δ (JC Qe ?_);refine JN (JC Qe ?_);refine QQ f rfl ?_;refine JC Qe ?_;refine X6 δ ?_;refine JF rfl ?_;refine call (kQs a g _ [] _ _ _ _ w2 kQ7 e δ) ?_;rintro v f ⟨b,d,a,e,_⟩;refine kQM (BB Qe rfl (.inr rfl) ?_);exact⟨b,d,a,(Mod.of_ext _ h).trans e λ_=>.inl⟩
theorem oQL (a:Λ)(A d:Θ)(n c cf:Nat)(w:θ)(h:Sl w 1 A n c (Xb a))(f:KH a)(j:Hg w d cf)(g:JG a=true):Fn ψ 134 [.slice A n c,.slice d 1 cf] w (λu b=>(∃s,u= .tuple #[.string s,.int .i64 0])/\Ext w b):=by
 refine QK iQS [] Tryz.func134 ?_;refine call (Ni a A n c w h f) ?_;rintro v f ⟨k,rfl,a,_⟩;refine QX (by rw[g];rfl) (call (oQJ d cf f (j.ext a)) ?_);rintro v g ⟨rfl,f⟩;have g:=a.trans f;refine KT rfl (loop Qe [23] (λs:Nat=>[.int .i64 s]) (λs b=>Ext w b/\s<=1) (λs _=>1-s) 0 rfl ⟨g,Q9 _⟩ ?_);rintro s k ⟨a,b⟩;refine Ql (λb=>?_) λb=>?_;have b:s=0:=by omega
 subst b;refine XG kW (j.ext a) rfl ω λp x b l=>?_;cases b;refine Jm (vs:=Hf) rfl l (new λb f m g=>?_);refine Qo g λw5 l q o=>?_;refine QQ o rfl (X6 δ (Ky ((1:Nat):Int) δ δ ?_));exact⟨1,rfl,⟨a.trans (X1 f g l),Qw _⟩,by show 1-1<1-0;omega⟩;refine new λb f m g=>?_;have l:Bld b b.heap.size k.heap.size 109 [] none 0 []:=⟨ω,Qw _,⟨_,.inl rfl,g⟩,Own.nil _ _ _ _⟩
 refine Ky ((0:Nat):Int) δ δ (call (oQK b.heap.size k.heap.size A n c d cf b l (j.ext (a.trans f))) ?_);rintro v w5 ⟨j,l,d,m⟩;have o:Ext w w5:=m.ext (a.trans f) (λi g=>by
  obtain rfl|⟨_,e,_⟩:=g;exact a.size;cases e)
 refine call (kQt b.heap.size k.heap.size _ [] j l _ w5 d (FW _) δ) ?_;rintro v f ⟨rfl,b⟩;refine⟨⟨_,rfl⟩,b.ext o λi g=>?_⟩;have:=(d.own.rows i g).1;have:=a.size;omega
theorem oQM {a x:Nat}{w:θ}(h:Cn w a x none 0 0 [] 1 none 0 []):Fn ψ 192 [.pointer (some ⟨x,0,none⟩),.int .i64 1] w (λv b=>v= .int .i64 0/\bQ0 w a x none 0 0 [] 1 none [⟨1,0,0,0⟩] b):=by refine QK jQH [] Tryz.func192 ?_;refine Zm δ ?_;refine norm (m:=1) δ ?_;refine call (lQM none 0 [] ⟨1,0,0,0⟩ w h) ?_;rintro _ b ⟨rfl,a⟩;exact⟨rfl,a⟩
theorem oQN (w:θ):Fn ψ 133 [Q5 none 0 0 1] w (λu a=>(∃A c,u= .tuple #[.slice A 1 c,.int .i64 0]/\Hg a A c)/\Ext w a):=by
 refine QK iQR [] Tryz.func133 ?_;refine new λb f d a=>?_;refine Qm a (call (F9 none 0 0 [] 1 b (SlS.nil _)) ?_);rw[show XN [] 1=0 from (Y0 0 true).chk δ];rintro v g ⟨rfl,b⟩;have d:=f.trans b;have f:=a.ext b;refine KT rfl (Qm f (new λa b j h=>?_));have j:=d.trans b;have k:Cn a a.heap.size g.heap.size none 0 0 [] 1 none 0 []:=⟨h,Own.nil _ _ _ _,ω,Qw _,SlS.nil _,(λa e=>by cases e),by simp⟩
 refine Qp (f.ext b) rfl (call (oQM k) ?_);rintro v w4 ⟨rfl,b,f,a,g,h⟩;have h:Ext w w4:=g.ext j (λi k=>by
  obtain rfl|⟨_,e,_⟩:=k;have:=d.size;omega;cases e)
 refine Qp a.blk rfl (XB δ (Qp a.blk rfl ?_));exact⟨⟨b,f,rfl,a.own.sl,rfl⟩,h⟩
theorem oQO (a:Λ)(A:Θ)(n c:Nat)(w:θ)(h:Sl w 1 A n c (Xb a))(b:KH a):Fn ψ 86 [.slice A n c,Q5 none 0 0 1] w (λu d=>(∃s,u= .tuple #[.string s,.int .i64 (if JG a=true then 0 else 1)])/\Ext w d):=by refine QK c86 [] Tryz.func86 ?_;refine new λe d f g=>?_;refine call (Ni a A n c e (h.ext d) b) ?_;rintro v i ⟨f,rfl,e,_⟩;have f:=d.trans e;cases j:JG a with|false=>refine Q3 rfl ?_;exact⟨⟨_,rfl⟩,f⟩|true=>refine QX rfl ?_;refine Qm (g.ext e) ?_;refine call (oQN i) ?_;rintro _ e ⟨⟨F,g,rfl,i⟩,k⟩;have d:=f.trans k;refine KT rfl ?_;refine call (oQL a A F n c g e (h.ext d) b i j) ?_;rintro _ b ⟨⟨s,rfl⟩,a⟩;exact⟨⟨_,rfl⟩,d.trans a⟩
def JH:Nat->Λ->χ (Nat×Γ)|_,[]=>[]|a,s::ls=>(a,s)::JH (a+s.length+1) ls
theorem dQ4:∀(a:Nat)(l m:Λ),JH a (l++m)=JH a l++JH (a+(Qk l).length) m|a,[],m=>by simp[JH,Qk]|a,s::l,m=>by rw[dZ,JH,JH,dQ4 (a+s.length+1) l m,dZ,YJ];congr 3;simp only[Qy,Xa];omega
theorem dQ5 {l:Γ}(h:Y1 l)(s:Γ)(b:10∉s):QN (l++(s++ [10]))=QN l++ [s]:=by
 have a:=Wh h;have c:l++(s++ [10])=Qk (QN l++ [s]):=by rw[dQk,a]
 rw[c,lQ0 (λt a=>by
  obtain a|a:=X2.1 a;exact nE l t a;rw[Xx.1 a];exact b)]
def j8 (b:Λ):Λ->Nat->BF->χ (BF×BF)->χ (Nat×Γ×BF)
 |[],_,_,_=>[]
 |s::ls,a,k,op=>match X3 s with
  |.txt=>(a,s,k)::j8 b ls (a+s.length+1) k op|.ifd r=>match Jn b r with
   |.ok d=>j8 b ls (a+s.length+1) (Jw k d) ((k,Vm k d)::op)
   |.error _=>[]
  |.elif r=>match op with
   |[]=>[]
   |x::X8=>match Jn b r with
    |.ok d=>j8 b ls (a+s.length+1) (Jw x.2 d) ((x.1,Vm x.2 d)::X8)
    |.error _=>[]
  |.els=>match op with
   |[]=>[]
   |x::X8=>j8 b ls (a+s.length+1) x.2 (x::X8)
  |.en=>match op with
   |[]=>[]
   |x::X8=>j8 b ls (a+s.length+1) x.1 X8
  |.inc _=>[]
abbrev Hh (a:Γ)(s:Sg):List (Nat×Γ×BF):=(JH s.at_ (QN (dI a s))).map λq=>(q.1,q.2,s.o)
def pP (g:Gs):χ (Nat×Γ×BF):=g.sg.flatMap (Hh g.tx)
theorem dQ6 {b:χ (Γ×Γ)}{a:Γ}{s:Sg}(h:SgOk b a s):Y1 (dI a s)/\(dI a s).length=s.t-s.f:=by
 have b:=h.ft;have b:=h.tl;have b:(dI a s).length=s.t-s.f:=by unfold dI;simp;omega
 refine⟨.inr ?_,b⟩;rw[oW,b];unfold dI;rw[xV,mT ω,show s.f+(s.t-s.f-1)=s.t-1 by omega];exact h.nl
theorem Pa {a s:Γ}:∀{l:χ Sg},(∀x∈l,x.t<=a.length)->l.flatMap (Hh (a++s))=l.flatMap (Hh a)|[],_=>rfl|x::l,h=>by rw[dk,dk,Pa λy a=>h y (by simp[a]),Hh,nQy (h x (by simp))]
theorem oQP {c:χ (Γ×Γ)}{n p:Nat}{k:BF}{g b:Gs}{s:Γ}(h:GInv c g)(f:r7 n p k g)(d:10∉s)(a:Yo (s++ [10]) n p k g=some b):pP b=pP g++ [(p,s,k)]:=by
 unfold Yo at a;split at a;cases a;cases a;cases b:g.fr with
 |true=>
  rw[Qf rfl,jW];unfold pP;simp only;rw[cJ,Pa λx a=>(h.ok x a).tl];congr 1;simp only[dk,Fw,YE];have e:dI (g.tx++(s++ [10])) ⟨g.tx.length,g.tx.length+(s++ [10]).length,n,p,k⟩=[]++(s++ [10]):=by unfold dI;simp only;rw[ZJ (by simp),AU]<;>rfl
  show(JH p (QN (dI _ _))).map _=_;rw[e,dQ5 (.inl rfl) s d]<;>rfl
 |false=>
  rw[φ δ];obtain⟨l,y,e,c,i,j⟩:=f b;have b:=h.ch;have c:=h.ok;rw[e] at b c;rw[ChG.snoc] at b;have f:=c y (by simp);rw[e,jW];unfold pP;simp only;rw[e,cJ,cJ,Pa λx a=>(c x (by simp[a])).tl,WW];congr 1;have a:=f.ft;have c:=b.2;have a:=dQ6 f;have b:dI (g.tx++(s++ [10])) {y with t:=g.tx.length+(s++ [10]).length}=dI g.tx y++(s++ [10]):=by unfold dI;simp only;rw[ZJ (by simp),List.drop_append_of_le_length ω,c,ry]
  simp only[dk,Fw,YE];show(JH y.at_ (QN (dI _ {y with t:=g.tx.length+(s++ [10]).length}))).map _=_;rw[b,dQ5 a.1 s d,dQ4,Wh a.1,a.2,i,fL];show _=(JH y.at_ (QN (dI g.tx y))).map (λq=>(q.1,q.2,y.o))++_;rw[j]<;>rfl
def ChA:χ Sg->Nat->Prop|[],_=>True|s::l,p=>(∀x∈l,s.at_+(s.t-s.f)<=x.at_)/\s.at_+(s.t-s.f)<=p/\ChA l p
theorem ChA.mono {p q:Nat}(h:p<=q):∀{l:χ Sg},ChA l p->ChA l q|[],_=>trivial|_::_,⟨h1,h2,h3⟩=>⟨h1,by omega,h3.mono h⟩
theorem ChA.snoc {x:Sg}{p q:Nat}(c:p<=x.at_)(b:x.at_+(x.t-x.f)<=q):∀{l:χ Sg},ChA l p->ChA (l++ [x]) q
 |[],_=>⟨(λ_ h=>by cases h),b,trivial⟩
 |s::l,⟨h1,h2,h3⟩=>⟨λy a=>by
   obtain a|a:=X2.1 a;exact h1 y a;rw[Xx.1 a];omega,ω,ChA.snoc c b h3⟩
theorem ChA.last {x y:Sg}{p q:Nat}(b:y.at_=x.at_)(c:y.at_+(y.t-y.f)<=q)(d:p<=q):∀{l:χ Sg},ChA (l++ [x]) p->ChA (l++ [y]) q
 |[],_=>⟨(λ_ h=>by cases h),c,trivial⟩
 |s::l,⟨h1,h2,h3⟩=>⟨λz a=>by
   obtain a|a:=X2.1 a;exact h1 z (by simp[a]);rw[Xx.1 a,b];exact h1 x (by simp),ω,ChA.last b c d h3⟩
theorem oQQ {d:χ (Γ×Γ)}{n p:Nat}{k:BF}{g c:Gs}{s:Γ}(h:GInv d g)(f:r7 n p k g)(b:ChA g.sg p)(a:Yo (s++ [10]) n p k g=some c):ChA c.sg (p+s.length+1):=by unfold Yo at a;split at a;cases a;cases a;cases a:g.fr with|true=>rw[Qf rfl,jW];exact b.snoc (Qw p) (by simp;omega)|false=>rw[φ δ];obtain⟨l,y,e,c,d,i⟩:=f a;have a:=h.ch;rw[e] at a b;rw[ChG.snoc] at a;have a:=(h.ok y (by rw[e];simp)).ft;rw[e,jW];exact ChA.last (p:=p) (q:=p+s.length+1) (x:=y) (y:={y with t:=g.tx.length+(s++ [10]).length}) rfl (by simp only[Qy,mV];omega) ω b
theorem dQ7 {nm:Λ}{a:χ (Γ×Γ)}{n d0:Nat}{inc:lm}{x:Γ×Γ}(z:a[n]? =some x)(A:∀r j d k g f,inc r j d k g≠ .ok f):∀(ls:Λ) (j b:Nat) (k:BF) (c:χ Se) (g f:Gs),pE ls->x.2.drop b=Qk ls->b<=x.2.length->GInv a g->r7 n b k g->ChA g.sg b->Z9 nm n d0 inc ls j b k c g= .ok f->pP f=pP g++j8 nm ls b k (opM c)/\ChA f.sg (b+(Qk ls).length)
 |[],j,b,k,c,g,f,_,_,_,i,_,p,a=>by
  cases c with
  |nil=>simp only[Z9,Except.ok.injEq] at a;subst a;exact⟨by rw[j8,YE];rfl,p⟩
  |cons _ _=>simp[Z9] at a
 |s::ls,j,b,k,c,g,f,hL0,hd,iQ,i,hc,p,a=>by
  have u:x.2.drop b=(s++ [10])++Qk ls:=by rw[hd,YJ];simp
  have v:(s++ [10]).length=s.length+1:=by simp
  have l:x.2.length-b=s.length+1+(Qk ls).length:=by have:=QG List.length u;simp only[Wz,Qy,Xa,Jz] at this;omega
  have o:b+(Qk (s::ls)).length=b+s.length+1+(Qk ls).length:=by rw[YJ];simp;omega
  have B:x.2.drop (b+s.length+1)=Qk ls:=by rw[show b+s.length+1=b+(s++ [10]).length by simp;omega,<-mP,u,AU]
  have w:10∉s:=hL0 s (by simp);have m:=λk c g f l q C=>dQ7 (nm:=nm) (d0:=d0) z A ls (j+1) (b+s.length+1) k c g f (λt D=>hL0 t (by simp[D])) B ω l q C;have cf:∀l (g:Gs),r7 n (b+s.length+1) l {g with fr:=true}:=λl g h=>by cases h
  have q:ChA g.sg (b+s.length+1):=p.mono ω;rw[Z9.eq_def] at a;simp only at a;rw[o,j8.eq_def];simp only;cases l:X3 s with
  |txt=>
   rw[l] at a;simp only at a ⊢;cases o:Yo (s++ [10]) n b k g with
   |none=>rw[o] at a;cases a
   |some C=>rw[o] at a;simp only at a;obtain⟨D,b⟩:=dQa i hc z (by rw[v,<-ur,B];exact u) (by rw[v];omega) (by simp) o;obtain⟨u,z⟩:=m k c C f D (by rw[v,<-ur] at b;exact b) (oQQ i hc p o) a;exact⟨by rw[u,oQP i hc w o,WW];rfl,z⟩
  |ifd r=>
   rw[l] at a;simp only at a ⊢;cases b:Jn nm r with
   |error e=>rw[b] at a;cases a
   |ok d=>rw[b] at a;simp only at a ⊢;split at a;cases a;exact m _ _ _ _ (i.fr true) (cf _ _) q a
  |inc r=>
   rw[l] at a;simp only at a;cases b:inc r (j+1) (d0+c.length) k g with
   |error e=>rw[b] at a;cases a
   |ok C=>exact Xg b (A _ _ _ _ _ _)
  |elif r=>
   rw[l] at a;cases c with
   |nil=>cases a
   |cons y c=>
    simp only at a ⊢;split at a;cases a;cases b:Jn nm r with
    |error e=>rw[b] at a;cases a
    |ok d=>rw[b] at a;exact m _ _ _ _ (i.fr true) (cf _ _) q a
  |els=>
   rw[l] at a;cases c with
   |nil=>cases a
   |cons y c=>simp only at a ⊢;split at a;cases a;exact m y.re ({y with ot:=true}::c) {g with fr:=true} f (i.fr true) (cf _ _) q a
  |en=>
   rw[l] at a;cases c with
   |nil=>cases a
   |cons y c=>exact m y.ou c {g with fr:=true} f (i.fr true) (cf _ _) q a
def fF (t:Γ):χ (Γ×Γ):=[([102],t)]
theorem Pb {a s:Γ}{e:Int}(t:Γ)(h:0∈a):∀m,eo (ZS ((fF t).map (·.1))) a s≠ .ok m:=λm b=>by
 obtain⟨a,d,c⟩:=Ow b;have:=ld c;have b:m=0:=by simpa [fF] using this
 rw[b] at a;exact a h
theorem Pd {q:Λ}{t:Γ}{g:Gs}(c:W0 q (fF t) [102]= .ok g):Y1 t/\pP g=j8 q (QN t) 0 (λ_=>true) []/\ChA g.sg t.length/\GInv (fF t) g:=by
 have k:=(nQe c).1;unfold W0 at c;split at c;cases c;cases d:V0 (fF t)with
 |some p=>rw[d] at c;cases c
 |none=>
  rw[d] at c;simp only at c;have f:∀x∈fF t,jX x.1=true/\bB x.2=true/\x.2.length<=1048576:=by unfold V0 at d;rw[φ (by simp[fF])] at d;exact GT _ [] 0 d
  have j:Y1 t:=nI (f _ (Xx.2 rfl)).2.1;cases i:ZS ((fF t).map (·.1)) [102] with
  |none=>rw[i] at c;cases c
  |some n=>
   rw[i] at c;simp only at c;have w:n<(fF t).length:=by have:=ld i;simpa using this
   have u:n=0:=by simpa [fF] using w
   subst u;have o:(fF t)[0]? =some ([102],t):=rfl;rw[Yc,o] at c;simp only[AL,kR] at c;obtain⟨a,b⟩:=dQ7 o (λr D z C A B l=>by
    split at l;cases l;rename_i m v;exact Pb t (by simp) (e:=0) _ v) (QN t) 0 0 (λ_=>true) [] ⟨[],[],true⟩ g (nE t) (by rw[AJ,Wh j]) (Q9 _) (⟨rfl,λs y=>by cases y⟩:GInv (fF t) ⟨[],[],true⟩) (λh=>by cases h) trivial c
   rw[Wh j,YW] at b;exact⟨j,a,b,k⟩
structure Ed where
 fr:Int
 to_:Int
 tx:Γ
 o:BF
structure EdV where
 fr:Int
 to_:Int
 tx:Γ
 x:DV
def EdV.ed (e:EdV):Ed:=⟨e.fr,e.to_,e.tx,oD e.x⟩
def Jg (f:Γ)(a b:Nat):Γ:=(f.drop a).take (b-a)
def YN (f:Γ)(c:Nat)(a:Γ×Nat)(e:Ed):Γ×Nat:=
 if e.o (bits c)=true then(a.1++Jg f a.2 e.fr.toNat++e.tx,e.to_.toNat)else a
def aI (f:Γ)(b:Nat)(a:Nat)(d:χ Ed)(c:Nat):Γ:=
 (d.foldl (YN f c) ([],a)).1++Jg f (d.foldl (YN f c) ([],a)).2 b
def aJ (a:Nat)(s:Γ)(e:Ed):Bool:=decide ((a:Int)<=e.fr/\e.to_<=a+s.length)
def W7 (S:Γ)(o:BF):Bool:=S.any λc=>o (bits c)
def W8 (b:χ Ed)(S:Γ)(a:Nat)(s:Γ):χ Ed:=b.filter λe=>aJ a s e&&W7 S e.o
def bE (S:Γ)(e b:Ed):Bool:= !(decide (b.fr<e.to_)&&W7 S λv=>e.o v&&b.o v)
def cj (S:Γ):χ Ed->Bool|[]=>true|e::es=>es.all (bE S e)&&cj S es
def dM (d:Λ)(f:Γ)(b:χ Ed)(S:Γ)(a:Nat)(s:Γ):Option (Λ):=
 if W8 b S a s=[] then some [s]
 else if cj S (W8 b S a s)=false then none
 else if S.all (λc=>Ve (aI f (a+s.length+1) a (W8 b S a s) c))=false then none
 else some (XW d (aI f (a+s.length+1) a (W8 b S a s)) d.length 0 S)
def jh (g:Gs)(a:Nat):BF:=((g.sg.find? λs=>decide (a<s.at_+(s.t-s.f))).map (·.o)).getD λ_=>false
def ib (b:Λ)(d:BF)(g:Gs)(f:Γ)(c:χ Ed):Λ->Nat->Option (Λ)|[],_=>some []|s::ls,a=>match (if X3 s= .txt then dM b f c (QW b.length (Jw d (jh g a))) a s else some [s])with|none=>none|some l=>match ib b d g f c ls (a+s.length+1)with|none=>none|some m=>some (l++m)
def WG (e:Ed)(q:Nat×Γ):Bool:=decide ((q.1:Int)<=e.fr/\e.to_<=q.1+q.2.length/\e.fr<=e.to_/\X3 q.2= .txt)
def CF (n:Nat)(f:Γ)(e:Ed):Bool:=decide (QW n e.o≠ [])&&(JH 0 (QN f)).any (WG e)
def ie (n:Nat)(f:Γ):Int->χ Ed->Bool|_,[]=>true|p,e::es=>CF n f e&&decide (p<=e.fr)&&ie n f e.fr es
def CG (a:Λ) (o:BF) (f:Γ) (b:χ Ed):Except Int (Γ):=
 match W0 a (fF f) [102] with
  |.error p=>.error p.e
  |.ok g=>if ie a.length f 0 b=false then .error 291
   else match ib a o g f b (QN f) 0 with
    |none=>.error 291
    |some l=>if 1048576<(Qk l).length then .error 2
     else match W0 a (fF (Qk l)) [102] with
      |.error p=>if p.e=2 then .error 2 else .ok (Qk l)
      |.ok _=>.ok (Qk l)
noncomputable def ig (a:Λ)(x:DV)(f:Γ)(b:χ EdV):Except Int (Γ):=
 if JG a=false∨Ke a.length x.nd x.r=false then .error 1
 else if b.all (λe=>Ke a.length e.x.nd e.x.r)=true then CG a (oD x) f (b.map EdV.ed)
 else match W0 a (fF f) [102] with|.error p=>.error p.e|.ok _=>.error 291
theorem oQR {g:Gs}{a:Nat}{s:Γ}{k:BF}(h:(a,s,k)∈pP g):∃x∈g.sg,x.o=k/\(a,s)∈JH x.at_ (QN (dI g.tx x)):=by obtain⟨x,b,c⟩:=ay.1 h;obtain⟨q,d,e⟩:=Z5.1 c;simp only[Prod.mk.injEq] at e;obtain⟨c,f,i⟩:=e;refine⟨x,b,i,?_⟩;rw[<-c,<-f];exact d
theorem sk:∀{b:Λ}{p a:Nat}{s:Γ},(a,s)∈JH p b->p<=a/\a+s.length+1<=p+(Qk b).length
 |[],p,a,s,h=>by cases h
 |t::b,p,a,s,h=>by rw[YJ];simp only[Qy,Xa];obtain h|h:=XI.1 h;cases h;omega;have:=sk h;omega
theorem ChA.later {x y:Sg}{p:Nat}:∀{l:χ Sg}{i j:Nat},ChA l p->l[i]? =some x->l[j]? =some y->i<j->x.at_+(x.t-x.f)<=y.at_
 |[],i,j,_,h,_,_=>by simp at h|z::l,i,j+1,⟨h1,h2,h3⟩,hi,hj,Xn=>by
  have a:l[j]? =some y:=by simpa using hj
  cases i with
  |zero=>
   have:z=x:=by simpa using hi
   subst this;exact h1 y (Xd a)
  |succ i=>exact ChA.later h3 (by simpa using hi) a ω
 |z::l,i,0,_,_,_,Xn=>by omega
structure SegAt (g:Gs) (a:Nat) (k:BF) (i:Nat) (x:Sg):Prop where
 get:g.sg[i]? =some x
 lo:x.at_<=a
 hi:a<x.at_+(x.t-x.f)
 o:x.o=k
 first:∀j y,g.sg[j]? =some y->j<i->y.at_+(y.t-y.f)<=a
 last:∀j y,g.sg[j]? =some y->i<j->a<y.at_
theorem oQS {b:χ (Γ×Γ)}{g:Gs}{p a:Nat}{s:Γ}{k:BF}(e:GInv b g)(f:ChA g.sg p)(h:(a,s,k)∈pP g):∃i x,SegAt g a k i x/\a+s.length+1<=x.at_+(x.t-x.f):=by obtain⟨x,c,l,m⟩:=oQR h;obtain⟨i,b⟩:=AW.1 c;have d:=dQ6 (e.ok x c);have c:=sk m;rw[Wh d.1,d.2] at c;refine⟨i,x,⟨b,c.1,ω,l,λj y d e=>?_,λj y d e=>?_⟩,c.2⟩;have:=f.later d b e;omega;have:=f.later b d e;omega
theorem dQ8 {α:Type}{p:α->Bool}:∀{l:χ α}{i:Nat}{x:α},l[i]? =some x->p x=true->(∀j y,l[j]? =some y->j<i->p y=false)->l.find? p=some x
 |[],i,x,h,_,_=>by simp at h|y::l,0,x,h,hp,_=>by
  have:y=x:=by simpa using h
  subst this;rw[List.find?_cons_of_pos hp]
 |y::l,i+1,x,h,hp,hj=>by rw[hQo (by rw[hj 0 y rfl ω];decide)];exact dQ8 (by simpa using h) hp λj z a b=>hj (j+1) z (by simpa using a) ω
theorem SegAt.cnd {g:Gs}{a:Nat}{k:BF}{i:Nat}{x:Sg}(h:SegAt g a k i x):jh g a=k:=by unfold jh;rw[dQ8 (p:=λs:Sg=>decide (a<s.at_+(s.t-s.f))) h.get (Zg h.hi) λj y b c=>XZ (by have:=h.first j y b c;omega)];exact h.o
theorem dQ9:∀{b:Λ}{p a:Nat}{s:Γ},(a,s)∈JH p b->∃i,b[i]? =some s/\a=p+(Qk (b.take i)).length
 |[],p,a,s,h=>by cases h
 |t::b,p,a,s,h=>by obtain h|h:=XI.1 h;cases h;exact⟨0,rfl,by simp[Qk]⟩;obtain⟨i,b,c⟩:=dQ9 h;refine⟨i+1,by simpa using b,?_⟩;rw[xQ,YJ];simp only[Qy,Xa];omega
theorem eQa:∀{d:Λ}{p a b:Nat}{s t:Γ}{x:Nat},(a,s)∈JH p d->(b,t)∈JH p d->a<=x->x<=a+s.length->b<=x->x<=b+t.length->a=b/\s=t
 |[],p,a,b,s,t,x,h,_,_,_,_,_=>by cases h
 |u::d,p,a,b,s,t,x,h,c,h1,h2,h3,h4=>by obtain h|h:=XI.1 h;cases h;obtain c|c:=XI.1 c;cases c;exact⟨rfl,rfl⟩;have:=sk c;omega;obtain c|c:=XI.1 c;cases c;have:=sk h;omega;exact eQa h c h1 h2 h3 h4
theorem Pe:∀{ls:Λ}{p x:Nat},p<=x->x<p+(Qk ls).length->∃a s,(a,s)∈JH p ls/\a<=x/\x<=a+s.length|[],p,x,c,b=>by simp[Qk] at b;omega|t::ls,p,x,c,b=>by rw[YJ] at b;simp only[Qy,Xa] at b;by_cases h:x<=p+t.length;exact⟨p,t,aQa,c,h⟩;obtain⟨a,s,b,c,d⟩:=Pe (ls:=ls) (p:=p+t.length+1) (x:=x) ω ω;exact⟨a,s,xW _ b,c,d⟩
theorem eQb {f:Λ}{a:Nat}{s:Γ}{e:Ed}(d:(a,s)∈JH 0 f)(j:(a:Int)<=e.fr)(r:e.fr<=a+s.length)(k:e.fr<=e.to_):(JH 0 f).any (WG e)=decide (e.to_<=a+s.length/\X3 s= .txt):=by by_cases h:e.to_<=a+s.length/\X3 s= .txt;rw[Zg h];exact rD.2 ⟨(a,s),d,Zg ⟨j,h.1,k,h.2⟩⟩;rw[XZ h];refine dt.2 λl=>?_;obtain⟨⟨b,t⟩,m,c⟩:=rD.1 l;have c:=WY c;obtain⟨n,g,o,i⟩:=c;simp only at n g o i;obtain⟨x,u⟩:=MD (a:=e.fr) ω;obtain⟨p,q⟩:=eQa (x:=x) d m ω ω ω ω;subst p;subst q;exact h ⟨g,i⟩
theorem Hi {i:Λ}{f g:Nat->Γ}:∀(k v:Nat)(l:Γ),l≠ []->(∀c∈l,f c=g c)->XW i f k v l=XW i g k v l
 |0,v,l,a,h=>by rw[XW,XW,h _ (GZ a)]
 |k+1,v,l,a,h=>by
  rw[yS a,yS a];split;exact Hi k (v+1) l a h;rename_i d;have j:l.filter (λc=> !c.testBit v)≠ []:=λe=>d (.inl e);have m:l.filter (λc=>c.testBit v)≠ []:=λe=>d (.inr e)
  rw[Hi k (v+1) _ j λc b=>h c (VE.1 b).1,Hi k (v+1) _ m λc b=>h c (VE.1 b).1]
structure AV where
 o:BF
 d:Γ
 a:Nat
def WI (n:Nat)(f:Γ)(e:Ed)(v:AV):χ AV:=
 if QW n (Jw v.o e.o)=[] then(if QW n v.o=[] then [] else [v])
 else⟨Jw v.o e.o,v.d++Jg f v.a e.fr.toNat++e.tx,e.to_.toNat⟩::(if QW n (Vm v.o (Jw v.o e.o))=[] then [] else [⟨Vm v.o (Jw v.o e.o),v.d,v.a⟩])
structure VI (n:Nat) (f:Γ) (S:Γ) (a:Nat) (es:List Ed) (vs:List AV):Prop where
 cov:∀c∈S,∃v∈vs,v.o (bits c)=true
 ne:∀v∈vs,QW n v.o≠ []
 st:∀v∈vs,∀c∈QW n v.o,c∈S/\es.foldl (YN f c) ([],a)=(v.d,v.a)
theorem VI.start {n:Nat}{f:Γ}{o:BF}{a:Nat}(h:QW n o≠ []):VI n f (QW n o) a [] [⟨o,[],a⟩]:=
 ⟨λc b=>⟨_,Xx.2 rfl,(Kd.1 b).2⟩,λv d=>by rw[Xx.1 d];exact h,λv d c b=>by rw[Xx.1 d] at b ⊢;exact⟨b,rfl⟩⟩
theorem VI.step {n:Nat}{f:Γ}{S:Γ}{a:Nat}{o:χ Ed}{B:χ AV}(h:VI n f S a o B)(C:∀c∈S,c<2^n)(e:Ed):VI n f S a (o++ [e]) (B.flatMap (WI n f e)):=by
 have w:∀c,(o++ [e]).foldl (YN f c) ([],a)=YN f c (o.foldl (YN f c) ([],a)) e:=λc=>by rw[Fx]<;>rfl
 refine⟨λc g=>?_,λv b=>?_,λv b c g=>?_⟩;obtain⟨v,b,q⟩:=h.cov c g;have x:=C c g;have A:c∈QW n v.o:=Kd.2 ⟨x,q⟩;by_cases u:QW n (Jw v.o e.o)=[]
 refine⟨v,ay.2 ⟨v,b,?_⟩,q⟩;unfold WI;rw[Qf u,φ λs=>by rw[s] at A;cases A];exact Xx.2 rfl;cases m:e.o (bits c)with|true=>refine⟨⟨Jw v.o e.o,v.d++Jg f v.a e.fr.toNat++e.tx,e.to_.toNat⟩,ay.2 ⟨v,b,?_⟩,?_⟩;unfold WI;rw[φ u];exact aQa;show(v.o (bits c)&&e.o (bits c))=true;rw[q,m]<;>rfl|false=>
  have z:(Vm v.o (Jw v.o e.o)) (bits c)=true:=by show(v.o (bits c) && !(v.o (bits c)&&e.o (bits c)))=true;rw[q,m]<;>rfl
  refine⟨⟨Vm v.o (Jw v.o e.o),v.d,v.a⟩,ay.2 ⟨v,b,?_⟩,z⟩;unfold WI;rw[φ u,φ (λs=>by
   have:c∈QW n (Vm v.o (Jw v.o e.o)):=Kd.2 ⟨x,z⟩;rw[s] at this;cases this)]
  simp
 obtain⟨d,p,b⟩:=ay.1 b;unfold WI at b;split at b;split at b;cases b;rename_i j;rw[Xx.1 b];exact j;rename_i j;obtain rfl|b:=XI.1 b;exact j;split at b;cases b;rename_i t;rw[Xx.1 b];exact t;obtain⟨d,p,b⟩:=ay.1 b;rw[w];unfold WI at b;split at b;rename_i j;split at b;cases b;rw[Xx.1 b] at g ⊢;obtain⟨k,l⟩:=h.st d p c g;refine⟨k,?_⟩;rw[l];unfold YN;rw[φ];intro m;have:c∈QW n (Jw d.o e.o):=Kd.2 ⟨(Kd.1 g).1,by show(d.o (bits c)&&e.o (bits c))=true;rw[show d.o (bits c)=true from (Kd.1 g).2,m];rfl⟩;rw[j] at this;cases this;obtain rfl|b:=XI.1 b;obtain⟨r,i⟩:=Kd.1 g;have i:(d.o (bits c)&&e.o (bits c))=true:=i;rw[Z4] at i;obtain⟨k,l⟩:=h.st d p c (Kd.2 ⟨r,i.1⟩);refine⟨k,?_⟩;rw[l];unfold YN;rw[Qf i.2];split at b;cases b;rw[Xx.1 b] at g ⊢;obtain⟨r,i⟩:=Kd.1 g;have i:(d.o (bits c) && !(d.o (bits c)&&e.o (bits c)))=true:=i;have y:d.o (bits c)=true/\e.o (bits c)=false:=by cases j:d.o (bits c)<;>cases t:e.o (bits c)<;>rw[j,t] at i<;>simp_all
 obtain⟨k,l⟩:=h.st d p c (Kd.2 ⟨r,y.1⟩);refine⟨k,?_⟩;rw[l];unfold YN;rw[φ (by rw[y.2];decide)]
theorem Pf (f:Γ)(c:Nat):∀(d:χ Ed)(a:Γ×Nat),(d.foldl (YN f c) a).2=a.2∨∃e∈d,e.o (bits c)=true/\(d.foldl (YN f c) a).2=e.to_.toNat|[],a=>.inl rfl|e::d,a=>by rw[rx];obtain h|⟨b,g,i,j⟩:=Pf f c d (YN f c a e);by_cases a:e.o (bits c)=true;refine .inr ⟨e,by simp,a,?_⟩;rw[h];unfold YN;rw[Qf a];refine .inl ?_;rw[h];unfold YN;rw[φ a];exact .inr ⟨b,by simp[g],i,j⟩
theorem eQc {S:Γ}:∀{a:χ Ed}{i j:Nat}{e b:Ed},cj S a=true->a[i]? =some e->a[j]? =some b->i<j->bE S e b=true
 |[],i,j,e,b,_,h,_,_=>by simp at h|x::a,i,j+1,e,b,ha,hi,hj,Xn=>by
  rw[cj,Z4,Vb] at ha;have c:a[j]? =some b:=by simpa using hj
  cases i with
  |zero=>
   have:x=e:=by simpa using hi
   subst this;exact ha.1 b (Xd c)
  |succ i=>exact eQc ha.2 (by simpa using hi) c ω
 |x::a,i,0,e,b,_,_,_,Xn=>by omega
theorem oQT {f:Γ}{S:Γ}{d:χ Ed}(k:cj S d=true){a i c:Nat}{e:Ed}(l:d[i]? =some e)(m:c∈S)(n:e.o (bits c)=true)(g:(a:Int)<=e.fr)(o:∀b∈d,0<=b.to_):(((d.take i).foldl (YN f c) ([],a)).2:Int)<=e.fr:=by
 obtain h|⟨b,p,q,r⟩:=Pf f c (d.take i) ([],a);rw[h];exact g;rw[r];obtain⟨j,d⟩:=AW.1 p;have g:j<i:=by apply Classical.byContradiction;intro p;rw[Mp] at d;rw[φ p] at d;cases d
 rw[mT g] at d;have:=eQc k d l g;unfold bE at this;have g:W7 S (λv=>b.o v&&e.o v)=true:=rD.2 ⟨c,m,by show(b.o (bits c)&&e.o (bits c))=true;rw[q,n];rfl⟩;rw[g,Fq,Bool.not_eq_true',decide_eq_false_iff_not] at this;have:=o b (Xd d);omega
def bF (a:χ Pr)(t:Γ):Nat:=(a.takeWhile λp=>decide (p.t≠t)).length
def fZ (a:χ Pr)(o:BF)(t:Γ):χ Pr:=match a[bF a t]? with|some p=>a.set (bF a t) ⟨λe=>p.o e||o e,p.t⟩|none=>a++ [⟨o,t⟩]
theorem oQU (a:χ Pr)(t:Γ):bF a t<=a.length:=(AK _).length_le
theorem Hj (t:Γ):∀a:χ Pr,(∀p,a[bF a t]? =some p->p.t=t)/\∀j p,a[j]? =some p->j<bF a t->p.t≠t
 |[]=>⟨λp h=>by simp at h,λj p h=>by simp at h⟩
 |q::a=>by
  obtain⟨c,d⟩:=Hj t a;by_cases b:q.t=t;have e:bF (q::a) t=0:=by unfold bF;rw[List.takeWhile_cons_of_neg (by simpa using b)]<;>rfl
  rw[e];exact⟨λp h=>by
             have:q=p:=by simpa using h
             rw[<-this];exact b,λj p _ f=>ω⟩
  have e:bF (q::a) t=bF a t+1:=by unfold bF;rw[List.takeWhile_cons_of_pos (by simpa using b)]<;>rfl
  rw[e];refine⟨λp h=>c p (by simpa using h),λj p h f=>?_⟩;cases j with
  |zero=>
       have:q=p:=by simpa using h
       rw[<-this];exact b
  |succ j=>exact d j p (by simpa using h) ω
structure QI (n:Nat) (S:Γ) (ver:Nat->Γ) (vs:List AV) (ps:List Pr):Prop where
 cov:∀v∈vs,∀c∈QW n v.o,∃p∈ps,p.o (bits c)=true
 tx:∀(i j:Nat) (p q:Pr),ps[i]? =some p->ps[j]? =some q->p.t=q.t->i=j
 val:∀p∈ps,∀c∈QW n p.o,c∈S/\p.t=ver c
theorem QI.nil {n:Nat}{S:Γ}{a:Nat->Γ}:QI n S a [] []:=⟨(λv a=>by cases a),(λi j p q h=>by simp at h),λp a=>by cases a⟩
theorem QI.ins {n:Nat}{S:Γ}{A:Nat->Γ}{J:χ AV}{g:χ Pr}(h:QI n S A J g){v:AV}{t:Γ}(H:∀c∈QW n v.o,c∈S/\A c=t):QI n S A (J++ [v]) (fZ g v.o t):=by
 obtain⟨M,I⟩:=Hj t g;unfold fZ;cases y:g[bF g t]? with
 |none=>
  have P:=List.getElem?_eq_none_iff.1 y;simp only;refine⟨λu m c f=>?_,λi j p q d F x=>?_,λp l c f=>?_⟩;obtain m|m:=X2.1 m;obtain⟨p,l,D⟩:=h.cov u m c f;exact⟨p,by simp[l],D⟩;rw[Xx.1 m] at f;exact⟨⟨v.o,t⟩,by simp,(Kd.1 f).2⟩;have k:∀i (p:Pr),(g++ [⟨v.o,t⟩])[i]? =some p->(g[i]? =some p/\i<g.length)∨(i=g.length/\p.t=t):=λi p d=>by
   by_cases C:i<g.length;rw[eW C] at d;exact .inl ⟨d,C⟩;rw[aZ ω] at d;have:=(ZK.1 d).1;simp at this;have e:i=g.length:=by omega
   subst e;simp at d;exact .inr ⟨rfl,by rw[<-d]⟩
  obtain⟨o,Q⟩|⟨o,N⟩:=k i p d <;>obtain⟨w,R⟩|⟨w,O⟩:=k j q F
  exact h.tx i j p q o w x;exact Xg (x.trans O) (I i p o ω);exact Xg (x.symm.trans N) (I j q w ω);omega;obtain l|l:=X2.1 l;exact h.val p l c f;rw[Xx.1 l] at f ⊢;obtain⟨a,b⟩:=H c f;exact⟨a,b.symm⟩
 |some r=>
  have L:=M r y;have C:=(ZK.1 y).1;simp only;generalize bF g t=z at*;have k:∀i (p:Pr),(g.set z ⟨λe=>r.o e||v.o e,r.t⟩)[i]? =some p->(i≠z/\g[i]? =some p)∨(i=z/\p=⟨λe=>r.o e||v.o e,r.t⟩):=λi p d=>by by_cases B:z=i;subst B;rw[mS C] at d;exact .inr ⟨rfl,(Option.some.inj d).symm⟩;rw[jN B] at d;exact .inl ⟨λe=>B e.symm,d⟩
  refine⟨λu m c f=>?_,λi j p q d F x=>?_,λp l c f=>?_⟩;obtain m|m:=X2.1 m;obtain⟨p,l,D⟩:=h.cov u m c f;obtain⟨i,d⟩:=AW.1 l;by_cases B:z=i;subst B;rw[y] at d;cases d;exact⟨_,Xd (mS C),by simp only;rw[D];rfl⟩;exact⟨p,Xd (i:=i) (by rw[jN B];exact d),D⟩;rw[Xx.1 m] at f;refine⟨_,Xd (mS C),?_⟩;simp only;rw[show v.o (bits c)=true from (Kd.1 f).2,Bool.or_true];obtain⟨T,o⟩|⟨o,E⟩:=k i p d <;>obtain⟨U,w⟩|⟨w,K⟩:=k j q F
  exact h.tx i j p q o w x;rw[w];exact h.tx i z p r o y (by rw[x,K]);rw[o];exact h.tx z j r q y w (by rw[<-x,E]);omega;obtain⟨i,d⟩:=AW.1 l;obtain⟨_,o⟩|⟨_,E⟩:=k i p d;exact h.val p (Xd o) c f;subst E;obtain⟨G,s⟩:=Kd.1 f;have s:(r.o (bits c)||v.o (bits c))=true:=s;rw[Bool.or_eq_true] at s;obtain s|s:=s;exact h.val r (Xd y) c (Kd.2 ⟨G,s⟩);obtain⟨a,b⟩:=H c (Kd.2 ⟨G,s⟩);exact⟨a,by rw[b];exact L⟩
theorem QI.pa {n:Nat}{f:Γ}{S:Γ}{a:Nat}{g:χ Ed}{b:Nat->Γ}{e:χ AV}{ps:χ Pr}(h:QI n S b e ps)(l:VI n f S a g e)(d:∀c∈S,c<2^n):PaOk S ps/\∀c∈S,fP ps c=b c:=by
 have e:PaOk S ps:=by refine⟨λc b=>?_,λc b i j p q g k m o=>?_⟩;obtain⟨v,r,s⟩:=l.cov c b;exact h.cov v r c (Kd.2 ⟨d c b,s⟩);refine h.tx i j p q g k ?_;rw[(h.val p (Xd g) c (Kd.2 ⟨d c b,m⟩)).2,(h.val q (Xd k) c (Kd.2 ⟨d c b,o⟩)).2]
 refine⟨e,λc b=>?_⟩;obtain⟨p,g,k⟩:=e.cov c b;rw[e.get b g k,(h.val p g c (Kd.2 ⟨d c b,k⟩)).2]
def Pg (n:Nat):Γ->χ Pr->Bool|R,[]=>decide (R=[])|R,p::ps=>(decide (QW n p.o≠ [])&&(QW n p.o).all (λc=>decide (c∈R))&&Ve p.t)&&Pg n (nL n R p.o) ps
def lu (a:Λ)(o:BF)(b:χ Pr):Except Int (Γ):=
 if Pg a.length (QW a.length o) b=false then .error 290
 else if b=[] then .ok []
 else if 1048576<(Qk (XW a (fP b) a.length 0 (QW a.length o))).length then .error 2
 else .ok (Qk (XW a (fP b) a.length 0 (QW a.length o)))
theorem eQd {n:Nat}:∀(a:χ (DV×Γ))(R:Γ),(∀p∈a,Ke n p.1.nd p.1.r=true)->dK n R a=Pg n R (Ja a)|[],R,_=>rfl|p::a,R,h=>by have b:=eQd a (nL n R (oD p.1)) λq c=>h q (by simp[c]);show(_&&dK n (nL n R (oD p.1)) a)=_;rw[b,h p (by simp),YF]<;>rfl
theorem eQe {nm:Λ}{x:DV}{a:χ (DV×Γ)}(b:JG nm=true)(c:Ke nm.length x.nd x.r=true)(h:∀p∈a,Ke nm.length p.1.nd p.1.r=true):pM nm x a=lu nm (oD x) (Ja a):=by
 unfold pM lu;rw[φ (by rw[b,c];simp),eQd a _ h];by_cases b:a=[]
 subst b;rfl;have c:Ja a≠ []:=λe=>b (by simpa [Ja] using e);rw[φ b,φ c]
def nN (k:Int):χ PanicEntry:=[{v:=.iface 34 (.int .i64 k),recovered:=false}]
theorem aK (k:Int)(a:k≠0)(w:θ):FnP ψ 44 [.int .i64 k] w (λ_ _=>False) (λb d=>b=nN k/\w=d):=by refine d7 (c:={c44 with cuts:=[]}) Qe Tryz.func44 rfl rfl rfl ?_;refine iX a ?_;exact uV rfl rfl ⟨rfl,rfl⟩
theorem eQf (A:Θ)(n c:Nat)(d:Λ)(w:θ)(h:Sn w A n c (Z3 d))(f:(Qk d).length<=1000000000000000000):FnP ψ 50 [.slice A n c] w (λu e=>(Qk d).length<=1048576/\u= .string (Qb (Qk d))/\Ext w e) (λj e=>1048576<(Qk d).length/\j=nN 2/\w=e):=by
 by_cases g:(Qk d).length<=1048576;exact(oQd A n c d w h g).toP.mono (λv e f=>⟨g,f.1,f.2⟩) λ_ _ f=>f;have f:=W6 h.1;have f:=pD d;refine d7 (c:={c50 with cuts:=[]}) Qe Tryz.func50 rfl rfl rfl ?_;refine loop Qe [8,3] (λi:Nat=>[.int .i64 i,.int .i64 (Qk (d.take i)).length]) (λi e=>w=e/\i<=n/\(Qk (d.take i)).length<=1048576) (λi _=>n-i) 0 rfl ⟨rfl,Q9 _,by simp[Qk]⟩ ?_;rintro i _ ⟨rfl,f,e⟩;refine Ql (λf=>?_) λf=>?_;have f:i<n:=by omega
 obtain⟨s,k⟩:∃s,d[i]? =some s:=⟨_,Q6 ω⟩
 have m:d.take (i+1)=d.take i++ [s]:=by rw[JT,k]<;>rfl
 have l:=dQM (d.take i) s;rw[<-m] at l;have m:(Qk (d.take (i+1))).length<=(Qk d).length:=by
  have m:Qk d=Qk (d.take (i+1))++Qk (d.drop (i+1)):=by
   have o:∀a b:Λ,Qk (a++b)=Qk a++Qk b:=λa b=>by simp[Qk]
   rw[<-o,jK]
  rw[m,Qy];omega
 refine Zq h.1 f λp u q m o=>?_;rw[VH k] at m;cases m;refine load o ?_;have k:=QZ (s++ [10]);rw[Qy,mV] at k;refine Qz (((Qk (d.take (i+1))).length:Nat):Int) ?_ (hm:=by rw[l];omega);refine Ql (λd=>?_) λd=>?_;refine Zl (aK 2 δ w) (λ_ _ d=>d.elim) ?_;rintro j _ ⟨rfl,rfl⟩;exact⟨ω,rfl,rfl⟩;refine QF i ?_;exact⟨i+1,rfl,⟨rfl,f,ω⟩,QL⟩;have:i=n:=by omega
 subst this;rw[ZJ ω] at e;exact Xg e g
abbrev Hk (a:Λ)(x:DV):Prop:=JG a=true/\Ke a.length x.nd x.r=true
theorem oQV {l:Γ}{N:Nat}(a:l=Nt.KY N)(b:N<=4096):Nt.yX l=N/\Nt.pO l=true:=by have b:N<4294967296^1024:=(show ∀k,0<k->N<4294967296^k from λk p=>JZ (show N<4294967296^1 by omega) (bZ δ p)) 1024 δ;have c:(Nt.KY N).length<=2:=(Nt.O1 N 2).2 ω;obtain⟨d,e⟩:=Nt.dQ1 (l:=l) (by rw[a];exact Nt.yW b) (by rw[a];exact c);exact⟨by rw[d,a,Nt.vu],e⟩
theorem eQg (d:Θ)(nn e:Nat)(a:Λ)(x:DV)(b:a.length<=12)(j:KH a)(w:θ)(h:Sl w 1 d nn e (Xb a))(n:SB w x.A x.n x.c x.nd):FnP ψ 42 [.slice d nn e,Q5 x.A x.n x.c x.r] w (λ_ f=>Hk a x/\Ext w f) (λg f=>¬Hk a x/\g=nN 1/\Ext w f):=by
 have k:a.length=nn:=by have:=h.len;rw[az] at this;omega
 refine d7 (c:={c42 with cuts:=[]}) Qe Tryz.func42 rfl rfl rfl ?_;refine new λf l i o=>?_;refine call (fW true f) ?_;rintro _ p ⟨rfl,f⟩;have i:=l.trans f;refine call (oQO a d nn e p (h.ext i) j) ?_;rintro _ p ⟨⟨d,rfl⟩,e⟩;have h:=i.trans e;by_cases d:JG a=true;rw[Qf d];refine KT rfl (Qm ((o.ext f).ext e) ?_);rw[<-k];refine call (OT x.A x.n x.c a.length x.nd x.r p (n.ext h)) ?_;rintro _ q ⟨rfl,r⟩;have i:=h.trans r;cases j:Ke a.length x.nd x.r with|false=>refine Q3 rfl ?_;refine Zl (aK 1 δ q) (λ_ _ k=>k.elim) ?_;rintro g _ ⟨rfl,rfl⟩;exact⟨λl=>(by have s:=l.2;rw[j] at s;cases s),rfl,i⟩|true=>refine QX rfl ?_;refine Qm (((o.ext f).ext e).ext r) (call (oQH x a.length b q (n.ext i) j) ?_);rintro _ a ⟨_,rfl,⟨A,m,c,N,rfl,e,f⟩,n⟩;have o:N<=4096:=XU f (XU (bZ δ b) δ);obtain⟨b,f⟩:=oQV rfl o;refine call (OU a) ?_;rintro _ _ rfl;refine call (Nt.oQB A m c (Nt.KY N) a e (Nt.Hd N)) ?_;rintro _ _ ⟨rfl,rfl⟩;rw[b,f];refine QX rfl (XB ω ?_);exact⟨⟨d,j⟩,i.trans n⟩
 rw[φ d];refine iX δ (Zl (aK 1 δ p) (λ_ _ k=>k.elim) ?_);rintro g _ ⟨rfl,rfl⟩;exact⟨λl=>d l.1,rfl,h⟩
theorem eQh {c:Cx}{o:Oper}{S:Env}{w:θ}{K:Env->θ->Prop}{Q:ZD}{x:Operand}{b t:Nat}{k:IntKind}{r:TyRow}(d:c.g.Ok)(e:o.op= .typeAssert x b t true)(f:Q8 c.g.tys t=some r)(g:r.d= .int k)(h:S.ev x=some .nilIface)(j:XD c S o.dst (.v (.tuple #[r.z,.bool false])) λS=>K S w):Zv c o S w K Q:=by obtain⟨b,i,l,_,_,m⟩:=d.row f;rw[g] at b;refine Kr (w':=w) (v:=.tuple #[r.z,.bool false]) (λa d=>?_) j;have f:=d.ev h;simp only[execOp,e,f];simp[Instr.typeAssert,JB b,zeroValue,typeInfo,l,m]
def Hl (f e:Nat)(k:Int)(w a:θ):Prop:=Blk a f 9 [.string ⟨#[]⟩]/\Blk a e 34 [.int .i64 k]/\Mod (λi=>i=f∨i=e) w a
theorem vv (f e:Nat)(k:Int)(w:θ)(a b:τ)(j:f≠e)(m:Blk w f 9 [a])(n:Blk w e 34 [b]):
  CallsD ψ 60 #[.pointer (some ⟨f,0,none⟩),.pointer (some ⟨e,0,none⟩)] (.panicking (nN k)) w
   (λb g a=>∃v,b= .returned v/\settle g= .returning/\Hl f e k w a):=by
 refine callsD_of_wpS Tryz.func60 rfl λp q r=>?_
 have l:=kV (N:=Tryz.f60.ntmps) [.pointer (some ⟨f,0,none⟩),.pointer (some ⟨e,0,none⟩)] (mO rfl) [(0,.v (.pointer (some ⟨f,0,none⟩))),(1,.v (.pointer (some ⟨e,0,none⟩)))] (by
  intro k x b
  match k,b with
  | 0,b=>cases b;rfl
  | 1,b=>cases b;rfl
  | k+2,b=>exact nomatch (show(none:Option Ent)=some x from b))
 have g:=l.put (d:=5) δ (.v (.iface 34 (.int .i64 k)));refine wpS_seq (wpS_region ?_);show wpOpsS _ _ _ [0,1,2,3,4,5,6] _ _ _;refine yQ (o:=_) (cs':={p with mode:=.panicking [{v:=.iface 34 (.int .i64 k),recovered:=true}]}::q) (v:=.iface 34 (.int .i64 k)) (d:=5) rfl rfl rfl rfl (.inl (by simp[recoverD,r,nN])) ?_;generalize b:Act.put _ (some 5) _=act;have p:Fits fe.N [(5,.v (.iface 34 (.int .i64 k))),(0,.v (.pointer (some ⟨f,0,none⟩))),(1,.v (.pointer (some ⟨e,0,none⟩)))] act:=by rw[<-b];exact g
 clear b g l;generalize b: #[_,_,_,_,_,_,_]=l;have l:=(QG (λ(x:Array Oper)=>x[1]?) b).symm;have q:=(QG (λ(x:Array Oper)=>x[2]?) b).symm;have r:=(QG (λ(x:Array Oper)=>x[3]?) b).symm;have s:=(QG (λ(x:Array Oper)=>x[4]?) b).symm;have t:=(QG (λ(x:Array Oper)=>x[5]?) b).symm;have u:=(QG (λ(x:Array Oper)=>x[6]?) b).symm;clear b;refine Ks (c:=fe) Qe rfl l rfl p (K:=λb a=>b=[(6,Ent.v (.tuple #[.int .i64 k,.bool true])),(5,.v (.iface 34 (.int .i64 k))),(0,.v (.pointer (some ⟨f,0,none⟩))),(1,.v (.pointer (some ⟨e,0,none⟩)))]/\w=a) (Nr Qe rfl rfl rfl rfl ⟨rfl,rfl⟩) ?_;rintro _ p _ l ⟨rfl,rfl⟩;refine Ks (c:=fe) Qe rfl q rfl l (K:=λb a=>b=_/\w=a) ⟨rfl,rfl⟩ ?_;rintro _ p _ l ⟨rfl,rfl⟩;refine Ks (c:=fe) Qe rfl r rfl l (K:=λb a=>b=_/\w=a) ⟨rfl,rfl⟩ ?_;rintro _ p _ l ⟨rfl,rfl⟩;refine Ks (c:=fe) Qe rfl s rfl l (K:=λb a=>b=_/\w=a) ⟨rfl,rfl⟩ ?_;rintro _ p _ l ⟨rfl,rfl⟩;refine Ks (c:=fe) Qe rfl t rfl l (K:=λb a=>b=_/\w=a) ⟨rfl,rfl⟩ ?_;rintro _ l _ g ⟨rfl,rfl⟩;refine Ks (c:=fe) Qe rfl u rfl g (K:=λb a=>b=_/\w=a) ⟨rfl,rfl⟩ ?_;rintro _ b _ a ⟨rfl,rfl⟩;unfold wpOpsS;refine rP (c:=fe) Qe rfl a (Q3 rfl (VW m (by simp) (λg b l=>?_)));refine VW (n.mod b (λh=>j h.symm)) (by simp) (λa g m=>?_);exact⟨_,rfl,rfl,l.mod g j,m,(b.mono (λi a=>.inl (.inl a))).trans g (λi a=>.inl (.inr a))⟩
theorem eQi (f e:Nat)(w:θ):
  CallsD ψ 60 #[.pointer (some ⟨f,0,none⟩),.pointer (some ⟨e,0,none⟩)] .returning w
   (λb g a=>∃v,b= .returned v/\settle g= .returning/\w=a):=by
 refine callsD_of_wpS Tryz.func60 rfl λj l h=>?_
 have i:=kV (N:=Tryz.f60.ntmps) [.pointer (some ⟨f,0,none⟩),.pointer (some ⟨e,0,none⟩)] (mO rfl) [(0,.v (.pointer (some ⟨f,0,none⟩))),(1,.v (.pointer (some ⟨e,0,none⟩)))] (by
  intro k x b
  match k,b with
  | 0,b=>cases b;rfl
  | 1,b=>cases b;rfl
  | k+2,b=>exact nomatch (show(none:Option Ent)=some x from b))
 have g:=i.put (d:=5) δ (.v .nilIface);refine wpS_seq (wpS_region ?_);show wpOpsS _ _ _ [0,1,2,3,4,5,6] _ _ _;refine yQ (o:=_) (cs':={j with mode:=.returning}::l) (v:=.nilIface) (d:=5) rfl rfl rfl rfl (.inr ⟨by simp[recoverD,h],rfl,by rw[<-h]⟩) ?_;generalize b:Act.put _ (some 5) _=act;have h:Fits fe.N [(5,.v .nilIface),(0,.v (.pointer (some ⟨f,0,none⟩))),(1,.v (.pointer (some ⟨e,0,none⟩)))] act:=by rw[<-b];exact g
 clear b g i;generalize b: #[_,_,_,_,_,_,_]=i;have i:=(QG (λ(x:Array Oper)=>x[1]?) b).symm;have j:=(QG (λ(x:Array Oper)=>x[2]?) b).symm;have l:=(QG (λ(x:Array Oper)=>x[3]?) b).symm;have m:=(QG (λ(x:Array Oper)=>x[4]?) b).symm;have n:=(QG (λ(x:Array Oper)=>x[5]?) b).symm;have p:=(QG (λ(x:Array Oper)=>x[6]?) b).symm;clear b;refine Ks (c:=fe) Qe rfl i rfl h (K:=λb a=>b=_/\w=a) (eQh Qe rfl rfl rfl rfl ⟨rfl,rfl⟩) ?_;rintro _ i _ h ⟨rfl,rfl⟩;refine Ks (c:=fe) Qe rfl j rfl h (K:=λb a=>b=_/\w=a) ⟨rfl,rfl⟩ ?_;rintro _ i _ h ⟨rfl,rfl⟩;refine Ks (c:=fe) Qe rfl l rfl h (K:=λb a=>b=_/\w=a) ⟨rfl,rfl⟩ ?_;rintro _ i _ h ⟨rfl,rfl⟩;refine Ks (c:=fe) Qe rfl m rfl h (K:=λb a=>b=_/\w=a) ⟨rfl,rfl⟩ ?_;rintro _ i _ h ⟨rfl,rfl⟩;refine Ks (c:=fe) Qe rfl n rfl h (K:=λb a=>b=_/\w=a) ⟨rfl,rfl⟩ ?_;rintro _ h _ g ⟨rfl,rfl⟩;refine Ks (c:=fe) Qe rfl p rfl g (K:=λb a=>b=_/\w=a) ⟨rfl,rfl⟩ ?_;rintro _ b _ a ⟨rfl,rfl⟩;unfold wpOpsS;refine rP (c:=fe) Qe rfl a (QX rfl ?_);exact⟨_,rfl,rfl,rfl⟩
theorem yY (f e:Nat)(k:Int)(w:θ)(a b:τ)(j:f≠e)(m:Blk w f 9 [a])(n:Blk w e 34 [b]):
  CallsD ψ 41 #[.pointer (some ⟨f,0,none⟩),.pointer (some ⟨e,0,none⟩)] (.panicking (nN k)) w
   (λb g a=>∃v,b= .returned v/\settle g= .returning/\Hl f e k w a):=by
 refine callsD_of_wpS Tryz.func41 rfl λp q r=>?_
 have l:=kV (N:=Tryz.f41.ntmps) [.pointer (some ⟨f,0,none⟩),.pointer (some ⟨e,0,none⟩)] (mO rfl) [(0,.v (.pointer (some ⟨f,0,none⟩))),(1,.v (.pointer (some ⟨e,0,none⟩)))] (by
  intro k x b
  match k,b with
  | 0,b=>cases b;rfl
  | 1,b=>cases b;rfl
  | k+2,b=>exact nomatch (show(none:Option Ent)=some x from b))
 have g:=l.put (d:=5) δ (.v (.iface 34 (.int .i64 k)));refine wpS_seq (wpS_region ?_);show wpOpsS _ _ _ [0,1,2,3,4,5,6] _ _ _;refine yQ (o:=_) (cs':={p with mode:=.panicking [{v:=.iface 34 (.int .i64 k),recovered:=true}]}::q) (v:=.iface 34 (.int .i64 k)) (d:=5) rfl rfl rfl rfl (.inl (by simp[recoverD,r,nN])) ?_;generalize b:Act.put _ (some 5) _=act;have p:Fits fd.N [(5,.v (.iface 34 (.int .i64 k))),(0,.v (.pointer (some ⟨f,0,none⟩))),(1,.v (.pointer (some ⟨e,0,none⟩)))] act:=by rw[<-b];exact g
 clear b g l;generalize b: #[_,_,_,_,_,_,_]=l;have l:=(QG (λ(x:Array Oper)=>x[1]?) b).symm;have q:=(QG (λ(x:Array Oper)=>x[2]?) b).symm;have r:=(QG (λ(x:Array Oper)=>x[3]?) b).symm;have s:=(QG (λ(x:Array Oper)=>x[4]?) b).symm;have t:=(QG (λ(x:Array Oper)=>x[5]?) b).symm;have u:=(QG (λ(x:Array Oper)=>x[6]?) b).symm;clear b;refine Ks (c:=fd) Qe rfl l rfl p (K:=λb a=>b=[(6,Ent.v (.tuple #[.int .i64 k,.bool true])),(5,.v (.iface 34 (.int .i64 k))),(0,.v (.pointer (some ⟨f,0,none⟩))),(1,.v (.pointer (some ⟨e,0,none⟩)))]/\w=a) (Nr Qe rfl rfl rfl rfl ⟨rfl,rfl⟩) ?_;rintro _ p _ l ⟨rfl,rfl⟩;refine Ks (c:=fd) Qe rfl q rfl l (K:=λb a=>b=_/\w=a) ⟨rfl,rfl⟩ ?_;rintro _ p _ l ⟨rfl,rfl⟩;refine Ks (c:=fd) Qe rfl r rfl l (K:=λb a=>b=_/\w=a) ⟨rfl,rfl⟩ ?_;rintro _ p _ l ⟨rfl,rfl⟩;refine Ks (c:=fd) Qe rfl s rfl l (K:=λb a=>b=_/\w=a) ⟨rfl,rfl⟩ ?_;rintro _ p _ l ⟨rfl,rfl⟩;refine Ks (c:=fd) Qe rfl t rfl l (K:=λb a=>b=_/\w=a) ⟨rfl,rfl⟩ ?_;rintro _ l _ g ⟨rfl,rfl⟩;refine Ks (c:=fd) Qe rfl u rfl g (K:=λb a=>b=_/\w=a) ⟨rfl,rfl⟩ ?_;rintro _ b _ a ⟨rfl,rfl⟩;unfold wpOpsS;refine rP (c:=fd) Qe rfl a (Q3 rfl (VW m (by simp) (λg b l=>?_)));refine VW (n.mod b (λh=>j h.symm)) (by simp) (λa g m=>?_);exact⟨_,rfl,rfl,l.mod g j,m,(b.mono (λi a=>.inl (.inl a))).trans g (λi a=>.inl (.inr a))⟩
theorem eQj (f e:Nat)(w:θ):
  CallsD ψ 41 #[.pointer (some ⟨f,0,none⟩),.pointer (some ⟨e,0,none⟩)] .returning w
   (λb g a=>∃v,b= .returned v/\settle g= .returning/\w=a):=by
 refine callsD_of_wpS Tryz.func41 rfl λj l h=>?_
 have i:=kV (N:=Tryz.f41.ntmps) [.pointer (some ⟨f,0,none⟩),.pointer (some ⟨e,0,none⟩)] (mO rfl) [(0,.v (.pointer (some ⟨f,0,none⟩))),(1,.v (.pointer (some ⟨e,0,none⟩)))] (by
  intro k x b
  match k,b with
  | 0,b=>cases b;rfl
  | 1,b=>cases b;rfl
  | k+2,b=>exact nomatch (show(none:Option Ent)=some x from b))
 have g:=i.put (d:=5) δ (.v .nilIface);refine wpS_seq (wpS_region ?_);show wpOpsS _ _ _ [0,1,2,3,4,5,6] _ _ _;refine yQ (o:=_) (cs':={j with mode:=.returning}::l) (v:=.nilIface) (d:=5) rfl rfl rfl rfl (.inr ⟨by simp[recoverD,h],rfl,by rw[<-h]⟩) ?_;generalize b:Act.put _ (some 5) _=act;have h:Fits fd.N [(5,.v .nilIface),(0,.v (.pointer (some ⟨f,0,none⟩))),(1,.v (.pointer (some ⟨e,0,none⟩)))] act:=by rw[<-b];exact g
 clear b g i;generalize b: #[_,_,_,_,_,_,_]=i;have i:=(QG (λ(x:Array Oper)=>x[1]?) b).symm;have j:=(QG (λ(x:Array Oper)=>x[2]?) b).symm;have l:=(QG (λ(x:Array Oper)=>x[3]?) b).symm;have m:=(QG (λ(x:Array Oper)=>x[4]?) b).symm;have n:=(QG (λ(x:Array Oper)=>x[5]?) b).symm;have p:=(QG (λ(x:Array Oper)=>x[6]?) b).symm;clear b;refine Ks (c:=fd) Qe rfl i rfl h (K:=λb a=>b=_/\w=a) (eQh Qe rfl rfl rfl rfl ⟨rfl,rfl⟩) ?_;rintro _ i _ h ⟨rfl,rfl⟩;refine Ks (c:=fd) Qe rfl j rfl h (K:=λb a=>b=_/\w=a) ⟨rfl,rfl⟩ ?_;rintro _ i _ h ⟨rfl,rfl⟩;refine Ks (c:=fd) Qe rfl l rfl h (K:=λb a=>b=_/\w=a) ⟨rfl,rfl⟩ ?_;rintro _ i _ h ⟨rfl,rfl⟩;refine Ks (c:=fd) Qe rfl m rfl h (K:=λb a=>b=_/\w=a) ⟨rfl,rfl⟩ ?_;rintro _ i _ h ⟨rfl,rfl⟩;refine Ks (c:=fd) Qe rfl n rfl h (K:=λb a=>b=_/\w=a) ⟨rfl,rfl⟩ ?_;rintro _ h _ g ⟨rfl,rfl⟩;refine Ks (c:=fd) Qe rfl p rfl g (K:=λb a=>b=_/\w=a) ⟨rfl,rfl⟩ ?_;rintro _ b _ a ⟨rfl,rfl⟩;unfold wpOpsS;refine rP (c:=fd) Qe rfl a (QX rfl ?_);exact⟨_,rfl,rfl,rfl⟩
end
section
def oQW:Λ:=[[120],[43],[121],[42],[40],[41],[105,102],[101,108,115,101],[59],[94],[122],[37,99]]
theorem eQk (k:Nat)(w:θ)(b:k<=255):Fn ψ 190 [.int .u8 k] w (λv a=>v= .string (Qb (aG k))/\Ext w a):=by
 refine QK jQF [] Tryz.func190 ?_;have a:k % 12<12:=dq _ δ;refine ny Qe (oQW.map λs=>[Value.string (Qb s)]) rfl rfl rfl rfl rfl ⟨rfl,rfl,rfl,rfl,rfl,rfl,rfl,rfl,rfl,rfl,rfl,rfl,rfl,rfl,rfl,rfl,rfl,rfl,rfl,rfl,rfl,rfl,rfl,rfl,⟨⟩⟩ rfl (λb h=>by simp only[Z5] at h;obtain⟨s,_,rfl⟩:=h;rfl) rfl δ δ ?_;intro d b e c;refine Qz ((k:Nat):Int) ?_ (hm:=rfl);refine normIf (m:=((k % 12:Nat):Int)) δ (gI k 12) (index (j:=k % 12) a ?_);refine Qp c (v:=.string (Qb (aG k))) (by
  unfold aG;generalize k % 12=r at a;obtain rfl|rfl|rfl|rfl|rfl|rfl|rfl|rfl|rfl|rfl|rfl|rfl:=(show r=0∨r=1∨r=2∨r=3∨r=4∨r=5∨r=6∨r=7∨r=8∨r=9∨r=10∨r=11 by omega) <;>rfl) ?_
 exact⟨rfl,b⟩
theorem yZ (x:Lx)(w:θ)(d:LxOk w x):Fn ψ 131 [.agg x.cells.toArray] w (λv a=>v= .string (Qb (Vp x.k x.ws++ [10]))/\Ext w a):=by
 have c:x.ws.length=x.n:=by have:=d.sl.len;rw[yh] at this;omega
 have c:x.n<=9223372036854775807:=by have:=d.sl.le;have:=d.sl.cap;simp only[maxLen] at this;omega
 have c:=d.k8;refine QK iQP [] Tryz.func131 ?_;refine new λf p c j=>?_;refine QQ j rfl ?_;refine normIf (m:=((x.k/8:Nat):Int)) δ (by
  show IntKind.u8.wrap ((x.k/8:Nat):Int)=_;rw[yf];omega) ?_
 refine Qz ((x.k/8:Nat):Int) ?_ (hm:=rfl);refine normIf (m:=((x.k/8 % 4:Nat):Int)) δ (gI _ 4) ?_;have c:x.k/8 % 4<4:=dq _ δ;refine XF (v':=.string (Qb (List.replicate (x.k/8 % 4) 32))) (by
  generalize x.k/8 % 4=r at c;obtain rfl|rfl|rfl|rfl:=(show r=0∨r=1∨r=2∨r=3 by omega) <;>decide) (by
  generalize x.k/8 % 4=r at c;obtain rfl|rfl|rfl|rfl:=(show r=0∨r=1∨r=2∨r=3 by omega) <;>rfl) ?_
 refine loop Qe [4,3] (λs:Nat×Γ=>[.int .i64 s.1,.string (Qb s.2)]) (λs a=>Ext f a/\s.1<=x.n/\s.1<=6/\s.2.length<=3+s.1*5/\s.2++dJ (decide (0<s.1)) ((x.ws.take 6).drop s.1)=Vp x.k x.ws) (λs _=>6-s.1) (0,List.replicate (x.k/8 % 4) 32) rfl ⟨Ext.refl _,Q9 _,Q9 _,by simp;omega,rfl⟩ ?_;rintro⟨i,a⟩ H ⟨g,k,f,l,c⟩;simp only at k f l c;have q:=j.ext g;have f:=QZ a;have t:=d.sl.ext (p.trans g);have j:a=Vp x.k x.ws->a.length<=40->(Qb a).size+(Qb [10]).size<=maxLen:=λ_ h=>by rw[QZ,QZ];show _+1<=maxLen;unfold maxLen;omega
 have k:(x.ws.take 6).drop i=[]->a=Vp x.k x.ws:=λh=>by rw[h,dJ,YE] at c;exact c
 refine Qp q rfl (Ql (λl=>?_) λl=>?_);refine Ql (λl=>?_) λl=>?_;have y:i<x.n:=by omega
 have n:x.ws[i]? =some (x.ws[i]'ω):=Q6 _;have I:=d.w8 _ (Xd n);generalize x.ws[i]'ω=b at*;have d:(x.ws.take 6).drop i=b::(x.ws.take 6).drop (i+1):=OH (by rw[mT ω];exact n);rw[d,dJ] at c;obtain⟨_,_,_,d⟩:=dQo b;refine Ql (λd=>?_) λd=>?_;rw[Qf (by simp;omega),<-WW] at c;have d:(a++ [32]).length<=4+i*5:=by simp;omega
 refine XF (v':=.string (Qb (a++ [32]))) (by rw[f];show _+1<=maxLen;unfold maxLen;omega) (QG Value.string (ZR a [32])) ?_;generalize a++ [32]=o at*;refine Qp q rfl (Zq t y λz u A d l=>?_);rw[uO n] at d;cases d;refine load l (call (eQk b H I) ?_);rintro _ J ⟨rfl,f⟩;have B:=QZ (o);have C:=QZ (aG b);refine XF (v':=.string (Qb (o++aG b))) (by rw[B,C];unfold maxLen;omega) (QG Value.string (ZR _ _)) ?_;have D:=q.ext f;have E:=t.ext f;refine Qp D rfl (Zq E y λz u A d l=>?_);rw[uO n] at d;cases d;refine load l (normIf (m:=((b % 12:Nat):Int)) δ (gI b 12) (X0 (λF=>?_) λF=>?_));rw[Qf ω,YE] at c;have G:=QZ (o++aG b);refine XF (v':=.string (Qb (o++aG b++ [10]))) (by rw[G,Qy];show _+1<=maxLen;unfold maxLen;omega) (QG Value.string (ZR _ [10])) ?_;exact⟨by rw[<-c],p.trans (g.trans f)⟩;rw[φ ω,<-WW] at c;refine QF i ?_;exact⟨(i+1,o++aG b),rfl,⟨g.trans f,by show i+1<=x.n;omega,by show i+1<=6;omega,by show(o++aG b).length<=3+(i+1)*5;rw[Qy];omega,by show _++dJ (decide (0<i+1)) _=_;rw[show decide (0<i+1)=true by simp];exact c⟩,QL⟩;rw[φ (by simp;omega),d4] at c;refine Qp q rfl (Zq t y λz u A d l=>?_);rw[uO n] at d;cases d;refine load l (call (eQk b H I) ?_);rintro _ J ⟨rfl,f⟩;have B:=QZ (a);have C:=QZ (aG b);refine XF (v':=.string (Qb (a++aG b))) (by rw[B,C];unfold maxLen;omega) (QG Value.string (ZR _ _)) ?_;have D:=q.ext f;have E:=t.ext f;refine Qp D rfl (Zq E y λz u A d l=>?_);rw[uO n] at d;cases d;refine load l (normIf (m:=((b % 12:Nat):Int)) δ (gI b 12) (X0 (λF=>?_) λF=>?_));rw[Qf ω,YE] at c;have G:=QZ (a++aG b);refine XF (v':=.string (Qb (a++aG b++ [10]))) (by rw[G,Qy];show _+1<=maxLen;unfold maxLen;omega) (QG Value.string (ZR _ [10])) ?_;exact⟨by rw[<-c],p.trans (g.trans f)⟩;rw[φ ω,<-WW] at c;refine QF i ?_;exact⟨(i+1,a++aG b),rfl,⟨g.trans f,by show i+1<=x.n;omega,by show i+1<=6;omega,by show(a++aG b).length<=3+(i+1)*5;rw[Qy];omega,by show _++dJ (decide (0<i+1)) _=_;rw[show decide (0<i+1)=true by simp];exact c⟩,QL⟩;have e:=k (ux (by rw[KR];omega));refine XF (v':=.string (Qb (a++ [10]))) (j e ω) (QG Value.string (ZR a [10])) ?_;exact⟨by rw[e],p.trans g⟩;have e:=k (ux (by rw[KR];omega));refine XF (v':=.string (Qb (a++ [10]))) (j e ω) (QG Value.string (ZR a [10])) ?_;exact⟨by rw[e],p.trans g⟩
end
section
theorem Ph (x:Lx):x.cells.length=3:=rfl
section
variable {k0:Nat} {ic:Bool} {x:Lx} {op:List Bool}
theorem y8 (b:x.k % 8=4->3<=op.length)(a:x.k % 8=5->op.head? ≠some false)(c:x.k % 8=6->op=[])(d:x.k % 8=7->ic=false):WF k0 ic x op=(.tx (Vp x.k x.ws),op):=by unfold WF;rw[φ (λh=>by have:=b h.1;omega),φ λh=>a h.1 h.2.1,φ λh=>a h.1 h.2,φ λh=>h.2 (c h.1),φ λh=>by rw[d h.1] at h;exact Xg h.2 δ]
theorem oQX (a:x.k % 8=4)(h:op.length<3):WF k0 ic x op=(.ifd (W5 (Jv.take k0) x.i) (yT k0 x.i),false::op):=by unfold WF;rw[Qf ⟨a,h⟩]
theorem oQY {a:χ Bool}(b:x.k % 8=5)(h:x.i % 2=0):WF k0 ic x (false::a)=(.elif (W5 (Jv.take k0) (x.i/2)) (yT k0 (x.i/2)),false::a):=by unfold WF;rw[φ ω,Qf ⟨b,rfl,h⟩]
theorem oQZ {a:χ Bool}(b:x.k % 8=5)(h:x.i % 2≠0):WF k0 ic x (false::a)=(.els,true::a):=by unfold WF;rw[φ ω,φ λa=>h a.2.2,Qf ⟨b,rfl⟩]<;>rfl
theorem oQ0 {b:Bool}{a:χ Bool}(c:x.k % 8=6):WF k0 ic x (b::a)=(.en,a):=by unfold WF;rw[φ ω,φ ω,φ ω,Qf ⟨c,by simp⟩]<;>rfl
theorem oQ1 (a:x.k % 8=7)(h:ic=true):WF k0 ic x op=(.inc,op):=by unfold WF;rw[φ ω,φ ω,φ ω,φ ω,Qf ⟨a,h⟩]
end
theorem oQ2 {w:θ}{b e n c:Nat}{A:Θ}{d:χ τ}(h:Own w b e 1 A n c d)(f:0<n):∃a,A=some a:=by obtain⟨g,d,b,_⟩:=h.blk f;exact⟨_,b⟩
theorem Pi {w:θ}{b e n c j:Nat}{a:Addr}{d:χ τ}{u:τ}(h:Own w b e 1 (some a) n c d)(f:d[j]? =some u):w.cell? (a.add j)=some u:=by have b:=h.sl.len;have b:=(ZK.1 f).1;obtain⟨d,e,b⟩:=h.sl.at_ ω;cases e;exact b j u f
theorem Pj (b:Bool){a:χ Bool}{c:χ Bool}(h:a=b::c):a.reverse[a.length-1]? =some b:=by subst h;rw[ut,aZ (by simp)];simp
structure LnS where
 i:Nat
 out:Γ
 op:List Bool
 A:Θ
 c:Nat
structure LnI (w0:World) (base:Nat) (k0:Nat) (ic:Bool) (T:List Lx) (tot:Γ) (s:LnS) (w:World):Prop where
 e:Ext w0 w
 ow:Own w base 4 1 s.A s.op.length s.c (bt s.op.reverse)
 ol:s.op.length<=3
 il:s.i<=T.length
 rs:s.out++Qk ((aH k0 ic (T.drop s.i) s.op).map YM)=tot
 ll:s.out.length<=s.i*40
theorem LnI.step {d w w':θ}{a k0:Nat}{ic:Bool}{T:χ Lx}{b:Γ}{s:LnS}(h:LnI d a k0 ic T b s w)(j:k0<=4){y:Lx}(k:y.i<=255)(f:T[s.i]? =some y){M:Mn}{c:χ Bool}(e:WF k0 ic y s.op=(M,c)){g:Θ}{i:Nat}(l:Ext w w')(m:Own w' a 4 1 g c.length i (bt c.reverse)):LnI d a k0 ic T b ⟨s.i+1,s.out++(YM M++ [10]),c,g,i⟩ w':=by have b:=ON (ic:=ic) (op:=s.op) j k;have a:=OM (k0:=k0) (ic:=ic) (x:=y) h.ol;rw[e] at b a;simp only at b a;have b:=h.rs;rw[OH f,aH,e,YD,YJ] at b;refine⟨h.e.trans l,m,a,(ZK.1 f).1,?_,?_⟩;rw[<-b];simp;have:=h.ll;simp only[Qy,mV];omega
theorem LnI.step2 {d w w':θ}{a k0:Nat}{ic:Bool}{T:χ Lx}{b:Γ}{s:LnS}(h:LnI d a k0 ic T b s w)(k:k0<=4){y:Lx}(l:y.i<=255)(f:T[s.i]? =some y){M:Mn}{c:χ Bool}(e:WF k0 ic y s.op=(M,c)){g:Θ}{i:Nat}{j:Γ}(m:j=s.out++(YM M++ [10]))(n:Ext d w')(o:Own w' a 4 1 g c.length i (bt c.reverse)):LnI d a k0 ic T b ⟨s.i+1,j,c,g,i⟩ w':=by have b:=ON (ic:=ic) (op:=s.op) k l;have a:=OM (k0:=k0) (ic:=ic) (x:=y) h.ol;rw[e] at b a;simp only at b a;have b:=h.rs;rw[OH f,aH,e,YD,YJ] at b;subst m;refine⟨n,o,a,(ZK.1 f).1,?_,?_⟩;rw[<-b];simp;have:=h.ll;simp only[Qy,mV];omega
theorem eQl {a:χ Bool}{j:Nat}(h:j<a.length):Qk ((a.drop j).map λ_=>X5)=X5++10::Qk ((a.drop (j+1)).map λ_=>X5):=by rw[VU h,YD,YJ]
theorem eQm (r:Nat)(D:r<=4)(NA:Θ)(nc:Nat)(A:Θ)(n c:Nat)(L:χ Lx)(d:Nat)(u:Γ)(w:θ)(hN:Sl w 1 NA r nc (Xb (Jv.take r)))(hL:SlS Lx.cells 3 w A n c L)(Zb:∀x∈L,LxOk w x)(hm:d<=100)(tQB:u=[]∨u=[110]):Fn ψ 85 [.slice NA r nc,.slice A n c,.int .i64 d,.string (Qb u)] w (λv V=>v= .string (Qb (Qk ((aH r (decide (u≠ [])) (L.take d) []).map YM)))/\Ext w V):=by
 have Xr:=hL.2;have bL:n<=9223372036854775807:=by have:=hL.1.le;have:=hL.1.cap;simp only[maxLen] at this;omega
 have X:∀s∈Jv.take r,s.length<=100:=λs hs=>by
  have Zp:Jv.all (λs=>decide (s.length<=100))=true:=by decide
  exact WY (Vb.1 Zp s (aw hs))
 refine QK c85 [] Tryz.func85 ?_;refine hQ6 Qe rfl rfl rfl rfl rfl rfl ?_;intro w1 Qd Q0 Qh;generalize hic:decide (u≠ [])=ic;generalize tQC:Qk ((aH r ic (L.take d) []).map YM)=tot;have hTl:(L.take d).length=min d L.length:=KR;have uQC:(L.take d).length<=100:=by omega
 generalize hT:L.take d=T at*;refine loop Qe [11,10,9] (λs:LnS=>[.int .i64 s.i,.slice s.A s.op.length s.c,.string (Qb s.out)]) (λs V=>LnI w w.heap.size r ic T tot s V) (λs _=>T.length-s.i) ⟨0,[],[],some ⟨w.heap.size,0,none⟩,0⟩ rfl ⟨Qd,Own.empty Qh (Qw _),Q9 _,Q9 _,tQC,Qw _⟩ ?_;rintro⟨i,a,g,N,F⟩ w2 q;have oN:=q.ol;have KF:=q.il;have Wc:=q.ll;simp only at oN KF Wc;have Q1:=q.e;have I:=QZ a;refine Ql (λc1=>?_) λc1=>?_;simp only at c1;refine Ql (λW=>?_) λW=>?_;simp only at W;have QD:i<n:=by omega
 have P:i<T.length:=by omega
 refine XG Ph (hL.ext Q1) rfl QD λp y L4 Yz=>?_;have L4:L[i]? =some y:=L4;have G:T[i]? =some y:=by rw[<-hT,mT ω];exact L4
 have R:=(Zb y (Xd L4)).ext Q1;have C:=R.i8;have Sz:=R.k8;refine Jm (vs:=y.cells) rfl Yz (new λw4 Qq Ku QU=>?_);refine Qo QU λw5 Zx _ J=>?_;have B:Ext w2 w5:=X1 Qq QU Zx;have Q:=q.e.trans B;have o:=q.ow.ext B;simp only at o;refine QQ J rfl (normIf (m:=((y.k % 8:Nat):Int)) δ (gI y.k 8) ?_);have h8:y.k % 8<8:=dq _ δ;refine X0 (λk4=>?_) λk4=>?_;refine Ql (λn3=>?_) λn3=>?_;simp only at n3;have e5:=dQh (Jv.take r) NA r nc y.i;refine XF (v':=.string (Qb (a++ [35,105,102,32]))) (by rw[I];show _+4<=maxLen;unfold maxLen;omega) (QG Value.string (ZR a [35,105,102,32])) (Qp J rfl (call (e5 w5 (hN.ext Q) X C) ?_));rintro _ M ⟨rfl,l⟩;have Zj:=(yV D C).2.2;refine XF (v':=.string (Qb (a++ [35,105,102,32]++W5 (Jv.take r) y.i))) (by rw[QZ,QZ,Qy];show _+4+_<=maxLen;unfold maxLen;omega) (QG Value.string (ZR _ _)) (XF (v':=.string (Qb (a++ [35,105,102,32]++W5 (Jv.take r) y.i++ [10]))) (by rw[QZ,Qy,Qy];show _+4+_+1<=maxLen;unfold maxLen;omega) (QG Value.string (ZR _ [10])) (XM [Value.bool false] ?_));intro w7 Xq aa Q2;have vG:Sl w7 1 (some ⟨M.heap.size,0,none⟩) 1 1 [Value.bool false]:=Sl.own (sz:=1) (n:=1) Q2 (Qw _) δ (by simp);have K6:=l.trans Xq;refine XV (n:=g.length) (o.ext K6) vG (by simp[Kb]) (by unfold maxLen;omega) (by have:=Q.size;have:=K6.size;omega) ?_ (b:=(by show(g.length+1)*1<=_;omega));intro A2 W w8 J0 sQb gQb;refine Ky ((i+1:Nat):Int) (by show((i:Nat):Int)+1=_;omega) (by(try simp only);omega) ?_;exact⟨⟨i+1,a++ [35,105,102,32]++W5 (Jv.take r) y.i++ [10],false::g,A2,W⟩,by simp only[Xa];rfl,q.step2 D C G (oQX (by first|omega|(simp only;omega)) (by first|omega|(simp only;omega))) (by simp[YM,Zd]) (J0.ext (Q.trans K6) λi hi=>by have:=(o.ext K6).rows i hi;omega) (by rw[ut];simpa [bt] using sQb),QL⟩;simp only at n3;refine X6 (by first|omega|(simp only;omega)) (X6 (by first|omega|(simp only;omega)) (X6 (by first|omega|(simp only;omega)) (X6 (by first|omega|(simp only;omega)) (Qm J (call (yZ y w5 (R.ext B)) ?_)))));rintro _ M ⟨rfl,l⟩;have H:=QZ (Vp y.k y.ws++ [10]);have s3:=(r9 y.k y.ws).2.2.2;refine XF (v':=.string (Qb (a++(Vp y.k y.ws++ [10])))) (by rw[I,H,Qy];show _+(_+1)<=maxLen;unfold maxLen;omega) (QG Value.string (ZR _ _)) (Ky ((i+1:Nat):Int) (by show((i:Nat):Int)+1=_;omega) (by(try simp only);omega) ?_);exact⟨⟨i+1,a++(Vp y.k y.ws++ [10]),g,N,F⟩,rfl,q.step D C G (y8 (λ_=>by first|omega|(simp only;omega)) (λh=>by first|omega|(simp only;omega)) (λh=>by first|omega|(simp only;omega)) λh=>by first|omega|(simp only;omega)) (B.trans l) (o.ext l),QL⟩;refine X0 (λk5=>?_) λk5=>?_;have k5':y.k % 8=5:=by omega
 refine Ql (λK=>?_) λK=>?_;simp only at K;have K:0<g.length:=by omega
 obtain⟨f,X8,rfl⟩:∃f X8,g=f::X8:=by cases g with|nil=>exact Xg K δ|cons f X8=>exact⟨f,X8,rfl⟩
 refine Ky (((f::X8).length-1:Nat):Int) (by(try simp only);omega) (by(try simp only);omega) ?_;obtain⟨oa,S⟩:=oQ2 o (show 0<(f::X8).length by omega);rw[S];refine index (j:=(f::X8).length-1) (by(try simp only);omega) (load (Pi (by rw[<-S];exact o) (BC (Pj f rfl))) ?_);cases f with
 |false=>
  refine Q3 rfl (Qp J rfl (normIf (m:=((y.i % 2:Nat):Int)) δ (gI y.i 2) (X0 (λi2=>?_) λi2=>?_)));refine XF (v':=.string (Qb (a++ [35,101,108,105,102,32]))) (by rw[I];show _+6<=maxLen;unfold maxLen;omega) (QG Value.string (ZR a [35,101,108,105,102,32])) (Qp J rfl ?_);refine normIf (m:=((y.i/2:Nat):Int)) δ (by
   show IntKind.u8.wrap ((y.i/2:Nat):Int)=_;rw[yf];omega) ?_
  have Y:y.i/2<=255:=by omega
  refine call (dQh (Jv.take r) NA r nc (y.i/2) w5 (hN.ext Q) X Y) ?_;rintro _ M ⟨rfl,l⟩;have Zj:=(yV D Y).2.2;refine XF (v':=.string (Qb (a++ [35,101,108,105,102,32]++W5 (Jv.take r) (y.i/2)))) (by rw[QZ,QZ,Qy];show _+6+_<=maxLen;unfold maxLen;omega) (QG Value.string (ZR _ _)) (XF (v':=.string (Qb (a++ [35,101,108,105,102,32]++W5 (Jv.take r) (y.i/2)++ [10]))) (by rw[QZ,Qy,Qy];show _+6+_+1<=maxLen;unfold maxLen;omega) (QG Value.string (ZR _ [10])) ?_);rw[<-S];refine Ky ((i+1:Nat):Int) (by show((i:Nat):Int)+1=_;omega) (by(try simp only);omega) ?_;exact⟨⟨i+1,a++ [35,101,108,105,102,32]++W5 (Jv.take r) (y.i/2)++ [10],false::X8,N,F⟩,rfl,q.step2 D C G (oQY k5' (by first|omega|(simp only;omega))) (by simp[YM,pElif]) (Q.trans l) (o.ext l),QL⟩;refine JF (by first|omega|(simp only;omega)) (Zm (by(try simp only);omega) (Ky (((false::X8).length-1:Nat):Int) (by(try simp only);omega) (by(try simp only);omega) (index (j:=(false::X8).length-1) (by(try simp only);omega) (load (Pi (by rw[<-S];exact o) (BC (Pj false rfl))) (Q3 rfl (XF (v':=.string (Qb (a++ [35,101,108,115,101,10]))) (by rw[I];show _+6<=maxLen;unfold maxLen;omega) (QG Value.string (ZR a [35,101,108,115,101,10])) (Ky (((false::X8).length-1:Nat):Int) (by(try simp only);omega) (by(try simp only);omega) ?_)))))));refine index (j:=(false::X8).length-1) (by(try simp only);omega) ?_;rw[S] at o;refine hQ2 o (by(try simp only);omega) λM Vg Z=>?_;have Kz:=vQG Vg;have sQc:Own M w.heap.size 4 1 (some oa) (true::X8).length F (bt (true::X8).reverse):=by
   have e:(bt (false::X8).reverse).set ((false::X8).length-1) (Value.bool true)=bt (true::X8).reverse:=by rw[<-bQg];congr 1;rw[ut,ut,Fs _ _ (by simp)];simp
   rw[e] at Z;exact Z
  refine Ky ((i+1:Nat):Int) (by show((i:Nat):Int)+1=_;omega) (by(try simp only);omega) ?_;exact⟨⟨i+1,a++ [35,101,108,115,101,10],true::X8,some oa,F⟩,rfl,q.step2 D C G (oQZ k5' (by first|omega|(simp only;omega))) (by simp[YM,J6]) (Kz.ext Q λi hi=>by have:=o.rows i hi;omega) (sQc),QL⟩
 |true=>refine QX rfl ?_;refine JF (by first|omega|(simp only;omega)) (Zm (by(try simp only);omega) (Ky (((true::X8).length-1:Nat):Int) (by(try simp only);omega) (by(try simp only);omega) (index (j:=(true::X8).length-1) (by(try simp only);omega) (load (Pi (by rw[<-S];exact o) (BC (Pj true rfl))) (QX rfl (X6 (by first|omega|(simp only;omega)) (X6 (by first|omega|(simp only;omega)) ?_)))))));rw[<-S];refine Qm J (call (yZ y w5 (R.ext B)) ?_);rintro _ M ⟨rfl,l⟩;have H:=QZ (Vp y.k y.ws++ [10]);have s3:=(r9 y.k y.ws).2.2.2;refine XF (v':=.string (Qb (a++(Vp y.k y.ws++ [10])))) (by rw[I,H,Qy];show _+(_+1)<=maxLen;unfold maxLen;omega) (QG Value.string (ZR _ _)) (Ky ((i+1:Nat):Int) (by show((i:Nat):Int)+1=_;omega) (by(try simp only);omega) ?_);exact⟨⟨i+1,a++(Vp y.k y.ws++ [10]),true::X8,N,F⟩,rfl,q.step D C G (y8 (λh=>by first|omega|(simp only;omega)) (λ_ h=>by cases h) (λh=>by first|omega|(simp only;omega)) λh=>by first|omega|(simp only;omega)) (B.trans l) (o.ext l),QL⟩
 simp only at K;have Je:g=[]:=VT (by first|omega|(simp only;omega));subst Je;refine JF (by first|omega|(simp only;omega)) (XB (by simp) (X6 (by first|omega|(simp only;omega)) (X6 (by first|omega|(simp only;omega)) (Qm J (call (yZ y w5 (R.ext B)) ?_)))));rintro _ M ⟨rfl,l⟩;have H:=QZ (Vp y.k y.ws++ [10]);have s3:=(r9 y.k y.ws).2.2.2;refine XF (v':=.string (Qb (a++(Vp y.k y.ws++ [10])))) (by rw[I,H,Qy];show _+(_+1)<=maxLen;unfold maxLen;omega) (QG Value.string (ZR _ _)) (Ky ((i+1:Nat):Int) (by show((i:Nat):Int)+1=_;omega) (by(try simp only);omega) ?_);exact⟨⟨i+1,a++(Vp y.k y.ws++ [10]),[],N,F⟩,rfl,q.step D C G (y8 (λh=>by first|omega|(simp only;omega)) (λ_ h=>by cases h) (λh=>by first|omega|(simp only;omega)) λh=>by first|omega|(simp only;omega)) (B.trans l) (o.ext l),QL⟩;refine X6 (by first|omega|(simp only;omega)) (X0 (λk6=>?_) λk6=>?_);refine Ql (λK=>?_) λK=>?_;simp only at K;obtain⟨f,X8,rfl⟩:∃f X8,g=f::X8:=by cases g with|nil=>exact Xg K δ|cons f X8=>exact⟨f,X8,rfl⟩
 refine XF (v':=.string (Qb (a++ [35,101,110,100,10]))) (by rw[I];show _+5<=maxLen;unfold maxLen;omega) (QG Value.string (ZR a [35,101,110,100,10])) (Ky ((X8.length:Nat):Int) (by simp only[Xa];omega) (by simp only[Xa] at oN;omega) ?_);have ZU:=o.sl.le;simp only[Xa] at ZU;refine bm (h:=X8.length) Qe rfl rfl rfl rfl rfl rfl (by first|omega|(simp only;omega)) ?_;have gQe:=o.take (k:=X8.length) (by simp);have e2:(bt (f::X8).reverse).take (X8.length*1)=bt X8.reverse:=by rw[VC,ut];unfold bt;rw[fL,Fj (by simp),ZJ (by simp)]
 rw[e2] at gQe;refine Ky ((i+1:Nat):Int) (by show((i:Nat):Int)+1=_;omega) (by(try simp only);omega) ?_;exact⟨⟨i+1,a++ [35,101,110,100,10],X8,N,F⟩,rfl,q.step2 D C G (oQ0 (by first|omega|(simp only;omega))) (by simp[YM,X5]) (Q) (gQe),QL⟩;simp only at K;have Je:g=[]:=VT (by first|omega|(simp only;omega));subst Je;refine X6 (by first|omega|(simp only;omega)) (Qm J (call (yZ y w5 (R.ext B)) ?_));rintro _ M ⟨rfl,l⟩;have H:=QZ (Vp y.k y.ws++ [10]);have s3:=(r9 y.k y.ws).2.2.2;refine XF (v':=.string (Qb (a++(Vp y.k y.ws++ [10])))) (by rw[I,H,Qy];show _+(_+1)<=maxLen;unfold maxLen;omega) (QG Value.string (ZR _ _)) (Ky ((i+1:Nat):Int) (by show((i:Nat):Int)+1=_;omega) (by(try simp only);omega) ?_);exact⟨⟨i+1,a++(Vp y.k y.ws++ [10]),[],N,F⟩,rfl,q.step D C G (y8 (λh=>by first|omega|(simp only;omega)) (λh=>by first|omega|(simp only;omega)) (λ_=>rfl) λh=>by first|omega|(simp only;omega)) (B.trans l) (o.ext l),QL⟩;refine X0 (λk7=>?_) λk7=>?_;obtain rfl|rfl:=tQB;have tQD:ic=false:=by rw[<-hic]<;>rfl
 refine QX δ (Qm J (call (yZ y w5 (R.ext B)) ?_));rintro _ M ⟨rfl,l⟩;have H:=QZ (Vp y.k y.ws++ [10]);have s3:=(r9 y.k y.ws).2.2.2;refine XF (v':=.string (Qb (a++(Vp y.k y.ws++ [10])))) (by rw[I,H,Qy];show _+(_+1)<=maxLen;unfold maxLen;omega) (QG Value.string (ZR _ _)) (Ky ((i+1:Nat):Int) (by show((i:Nat):Int)+1=_;omega) (by(try simp only);omega) ?_);exact⟨⟨i+1,a++(Vp y.k y.ws++ [10]),g,N,F⟩,rfl,q.step D C G (y8 (λh=>by first|omega|(simp only;omega)) (λh=>by first|omega|(simp only;omega)) (λh=>by first|omega|(simp only;omega)) λ_=>tQD) (B.trans l) (o.ext l),QL⟩;have tQE:ic=true:=by rw[<-hic]<;>rfl
 refine Q3 δ (XF (v':=.string (Qb (a++ [35,105,110,99,108,117,100,101,32,34]))) (by rw[I];show _+10<=maxLen;unfold maxLen;omega) (QG Value.string (ZR a [35,105,110,99,108,117,100,101,32,34])) (XF (v':=.string (Qb (a++ [35,105,110,99,108,117,100,101,32,34]++ [110]))) (by rw[QZ,Qy];show _+10+1<=maxLen;unfold maxLen;omega) (QG Value.string (ZR _ [110])) (XF (v':=.string (Qb (a++ [35,105,110,99,108,117,100,101,32,34]++ [110]++ [34,10]))) (by rw[QZ,Qy,Qy];show _+10+1+2<=maxLen;unfold maxLen;omega) (QG Value.string (ZR _ [34,10])) (Ky ((i+1:Nat):Int) (by show((i:Nat):Int)+1=_;omega) (by(try simp only);omega) ?_))));exact⟨⟨i+1,a++ [35,105,110,99,108,117,100,101,32,34]++ [110]++ [34,10],g,N,F⟩,rfl,q.step2 D C G (oQ1 (by first|omega|(simp only;omega)) tQE) (by simp[YM,pInc,dQl]) (Q) (o),QL⟩;refine Qm J (call (yZ y w5 (R.ext B)) ?_);rintro _ M ⟨rfl,l⟩;have H:=QZ (Vp y.k y.ws++ [10]);have s3:=(r9 y.k y.ws).2.2.2;refine XF (v':=.string (Qb (a++(Vp y.k y.ws++ [10])))) (by rw[I,H,Qy];show _+(_+1)<=maxLen;unfold maxLen;omega) (QG Value.string (ZR _ _)) (Ky ((i+1:Nat):Int) (by show((i:Nat):Int)+1=_;omega) (by(try simp only);omega) ?_);exact⟨⟨i+1,a++(Vp y.k y.ws++ [10]),g,N,F⟩,rfl,q.step D C G (y8 (λh=>by first|omega|(simp only;omega)) (λh=>by first|omega|(simp only;omega)) (λh=>by first|omega|(simp only;omega)) λh=>by first|omega|(simp only;omega)) (B.trans l) (o.ext l),QL⟩;try simp only at c1
 try simp only at W
 have P:i=T.length:=by omega
 have E:=q.rs;simp only at E;rw[P,Ft,aH,xP] at E;have E:a++Qk ((g.drop 0).map λ_=>X5)=tot:=E;refine loop Qe [15,9] (λs:Nat×Γ=>[.int .i64 s.1,.string (Qb s.2)]) (λs V=>w2=V/\s.1<=g.length/\s.2.length<=4000+s.1*5/\s.2++Qk ((g.drop s.1).map λ_=>X5)=tot) (λs _=>g.length-s.1) (0,a) rfl ⟨rfl,Q9 _,by show a.length<=_;omega,E⟩ ?_;rintro⟨j,z⟩ _ ⟨rfl,hj,SC,t⟩;simp only at hj SC t;refine Ql (λU=>?_) λU=>?_;simp only at U;have O:j<g.length:=by omega
 rw[eQl O] at t;refine XF (v':=.string (Qb (z++ [35,101,110,100,10]))) (by rw[QZ];show z.length+5<=maxLen;unfold maxLen;omega) (QG Value.string (ZR z [35,101,110,100,10])) (Ky ((j+1:Nat):Int) (by show((j:Nat):Int)+1=_;omega) (by(try simp only);omega) ?_);exact⟨(j+1,z++ [35,101,110,100,10]),rfl,⟨rfl,O,by show(z++ [35,101,110,100,10]).length<=_;rw[Qy];show _+5<=4000+(j+1)*5;omega,by show(z++ [35,101,110,100,10])++_=_;rw[<-t];simp[X5]⟩,QL⟩;simp only at U;have O:j=g.length:=by omega
 rw[O,Ft] at t;have t:z++ []=tot:=t;rw[YE] at t;exact⟨by rw[t],Q1⟩;try simp only at c1
 try simp only at W
 have P:i=T.length:=by omega
 have E:=q.rs;simp only at E;rw[P,Ft,aH,xP] at E;have E:a++Qk ((g.drop 0).map λ_=>X5)=tot:=E;refine loop Qe [15,9] (λs:Nat×Γ=>[.int .i64 s.1,.string (Qb s.2)]) (λs V=>w2=V/\s.1<=g.length/\s.2.length<=4000+s.1*5/\s.2++Qk ((g.drop s.1).map λ_=>X5)=tot) (λs _=>g.length-s.1) (0,a) rfl ⟨rfl,Q9 _,by show a.length<=_;omega,E⟩ ?_;rintro⟨j,z⟩ _ ⟨rfl,hj,SC,t⟩;simp only at hj SC t;refine Ql (λU=>?_) λU=>?_;simp only at U;have O:j<g.length:=by omega
 rw[eQl O] at t;refine XF (v':=.string (Qb (z++ [35,101,110,100,10]))) (by rw[QZ];show z.length+5<=maxLen;unfold maxLen;omega) (QG Value.string (ZR z [35,101,110,100,10])) (Ky ((j+1:Nat):Int) (by show((j:Nat):Int)+1=_;omega) (by(try simp only);omega) ?_);exact⟨(j+1,z++ [35,101,110,100,10]),rfl,⟨rfl,O,by show(z++ [35,101,110,100,10]).length<=_;rw[Qy];show _+5<=4000+(j+1)*5;omega,by show(z++ [35,101,110,100,10])++_=_;rw[<-t];simp[X5]⟩,QL⟩;simp only at U;have O:j=g.length:=by omega
 rw[O,Ft] at t;have t:z++ []=tot:=t;rw[YE] at t;exact⟨by rw[t],Q1⟩
theorem oQ3 (b:Nat)(l:b<=4)(f:Θ)(g:Nat)(A B:Θ)(n c m d:Nat)(a e:χ Lx)(w:θ)(o:Sl w 1 f b g (Xb (Jv.take b)))(p:SlS Lx.cells 3 w A n c a)(q:∀x∈a,LxOk w x)(j:SlS Lx.cells 3 w B m d e)(k:∀x∈e,LxOk w x):Fn ψ 40 [.slice f b g,.slice A n c,.slice B m d] w (λv i=>∃F,v= .slice F 2 2/\Ext w i/\SlS ci 2 i F 2 2 (OP b a e)):=by refine QK c40 [] Tryz.func40 ?_;refine call (eQm b l f g A n c a 12 [110] w o p q δ (.inr rfl)) ?_;rintro _ p ⟨rfl,i⟩;refine call (eQm b l f g B m d e 5 [] p (o.ext i) (j.ext i) (λx q=>(k x q).ext i) δ (.inl rfl)) ?_;rintro _ g ⟨rfl,f⟩;refine ny Qe ((OP b a e).map ci) rfl rfl rfl rfl rfl ⟨rfl,rfl,rfl,rfl,⟨⟩⟩ rfl (λg h=>by simp only[Z5] at h;obtain⟨s,_,rfl⟩:=h;rfl) rfl δ δ ?_;intro e a g b;exact⟨_,rfl,(i.trans f).trans a,Sl.own (sz:=2) (n:=2) b (Qw _) δ (by simp[OP,ci]),rfl⟩
end
section
theorem oQ4 (p s:Γ):p.isPrefixOf s=decide (p.length<=s.length/\s.take p.length=p):=by have h:=(xS (l₁:=p) (l₂:=s)).trans List.prefix_iff_eq_take;cases a:p.isPrefixOf s with|true=>have b:=h.1 a;have c:=QG List.length b;rw[KR] at c;exact(Zg ⟨ω,b.symm⟩).symm|false=>refine(XZ λb=>?_).symm;rw[h.2 b.2.symm] at a;cases a
theorem Hm (s p:Γ)(w:θ)(a:∀x∈s,x<256)(b:∀x∈p,x<256):Fn ψ 181 [.string (Qb s),.string (Qb p)] w (λv c=>v= .bool (p.isPrefixOf s)/\w=c):=by refine QK jQx [] Tryz.func181 ?_;have c:=QZ s;have c:=QZ p;rw[oQ4];refine Ql (λd=>?_) λd=>?_;refine XF (v':=.string (Qb (s.take p.length))) ⟨ω,ω,ω⟩ (by rw[Kj];simp[c]) ?_;refine⟨?_,rfl⟩;rw[rN (λx c=>a x (aw c)) b];congr 1;exact o0.2 ⟨λh=>⟨ω,h⟩,λh=>h.2⟩;exact⟨by rw[XZ ω],rfl⟩
section
variable {nm:List (List Nat)} {F:List Nat} {o:BF}
end
theorem oQ5 {b s l:Γ}{a j:Nat}(h:b.drop a=s++10::l)(c:j<s.length):b[a+j]? =s[j]? :=by rw[<-xV,h,eW c]
theorem oQ6 {b s l:Γ}{a:Nat}(h:b.drop a=s++10::l):b[a+s.length]? =some 10:=by rw[<-xV,h,aZ (Qw _)];simp
theorem oQ7 {x:Nat}{a:Γ}:(j5 (x::a).reverse).take (a.length*1)=j5 a.reverse:=by unfold j5;rw[VC,ut,fL,Fj (by simp),ZJ (by simp)]
end
section
theorem eQn (p F:Γ):p.isPrefixOf (p++F)=true:=xS.2 (List.prefix_append p F)
def CH (L:χ DV):χ τ:=L.flatMap DV.cells
theorem oQ8 (L:χ DV)(x:DV):CH (L++ [x])=CH L++x.cells:=by simp[CH]
structure RdI (w0:World) (f:List Fz) (k:Nat) (L:List DV) (A:Θ) (c:Nat) (w:World):Prop where
 e:Ext w0 w
 own:Own w w0.heap.size 32 2 A L.length c (CH L)
 got:∀j,j<L.length->∃x t,L[j]? =some x/\RepF f t j/\SB w x.A x.n x.c x.nd/\Set1 k x.nd x.r (evF t)/\∀ad,x.A=some ad->0<x.n->¬Qj A ad.block/\w0.heap.size<=ad.block
theorem RdI.ext {b w w':θ}{f:χ Fz}{k:Nat}{L:χ DV}{A:Θ}{c:Nat}(h:RdI b f k L A c w)(a:Ext w w'):RdI b f k L A c w':=
 ⟨h.e.trans a,h.own.ext a,λj b=>by
  obtain⟨x,t,d,e,g,i,l⟩:=h.got j b;exact⟨x,t,d,e,g.ext a,i,l⟩⟩
theorem SB.modr {S:Nat->Prop}{w b:θ}{A:Θ}{n c:Nat}{nd:χ Br}(h:SB w A n c nd)(d:Mod S w b)(f:∀a,A=some a->0<n->¬S a.block):SB b A n c nd:=
 ⟨h.1.modS d (λb i g=>by obtain⟨a,e,rfl⟩:=g;exact f a e b),h.2⟩
theorem RdI.put {d w w':θ}{f:χ Fz}{k:Nat}{L:χ DV}{A g:Θ}{c b:Nat}(h:RdI d f k L A c w){x:DV}{t:Fm}(q:RepF f t L.length)(n:SB w x.A x.n x.c x.nd)(r:Set1 k x.nd x.r (evF t))(l:∀a,x.A=some a->0<x.n->¬Qj A a.block/\d.heap.size<=a.block)(m:Mod (Qj A) w w') (p:Own w' d.heap.size 32 2 g (L.length+1) b (CH L++x.cells)) (s:Moved w A g):RdI d f k (L++ [x]) g b w':=by
 have v:(L++ [x]).length=L.length+1:=by simp
 have b:∀(y:DV),SB w y.A y.n y.c y.nd->(∀a,y.A=some a->0<y.n->¬Qj A a.block/\d.heap.size<=a.block)->∀a,y.A=some a->0<y.n->¬Qj g a.block/\d.heap.size<=a.block:=λy z g a e d=>⟨λl=>by
  obtain o|o:=s.rows _ l;exact(g a e d).1 o;have:=SB.lt z a e d;omega,(g a e d).2⟩
 refine⟨m.ext h.e λi g=>(h.own.rows i g).1,by rw[v,oQ8];exact p,λj g=>?_⟩;by_cases g:j<L.length;obtain⟨y,u,s,v,o,z,p⟩:=h.got j g;exact⟨y,u,by rw[eW g];exact s,v,o.modr m λa e d=>(p a e d).1,z,b y o p⟩;have g:j=L.length:=by omega
 subst g;exact⟨x,t,by simp,q,n.modr m λa e d=>(l a e d).1,r,b x n l⟩
theorem oQ9 (F:Θ)(n cF:Nat)(f:χ Fz)(k:Nat)(hk:k<=12)(w:θ)(h:SF w F n cF f)(hv:FV f)(xj:Nx k f):Fn ψ 217 [.slice F n cF] w (λv U=>∃A m c nd r,v= .tuple #[Q5 A m c r,.int .i64 0]/\Ext w U/\SB U A m c nd/\Set1 k nd r (evF (BJ f))/\∀g,A=some g->0<m->w.heap.size<=g.block):=by
 have hn:=h.2;have hvl:=hv.1;have iw:=hv.2.1;refine QK jQ0 [] Tryz.func217 ?_;refine new λw1 Qd Q0 Qh=>?_;refine call (mQZ F n cF f w1 (h.ext Qd)) ?_;rintro _ w2 ⟨rfl,Qg⟩;refine KT (F3 hv) ?_;have Q1:=Qd.trans Qg;have XR:w1.heap.size<=w2.heap.size:=Qg.size;refine loop Qe [4,5] (λs:χ DV×Θ×Nat=>[.slice s.2.1 s.1.length s.2.2,.int .i64 s.1.length]) (λs U=>RdI w2 f k s.1 s.2.1 s.2.2 U/\s.1.length<=n) (λs _=>n-s.1.length) ([],none,0) rfl ⟨⟨Ext.refl _,Own.nil _ _ _ _,λj Q=>Xg Q (by simp)⟩,Q9 _⟩ ?_;rintro⟨L,A,c⟩ w4 ⟨S,hs⟩;simp only at S hs;have Qq:Ext w w4:=Q1.trans S.e;have VQ:=S.own.rows;have Ku:=S.e.size;refine Ql (λh1=>?_) λh1=>?_;have Kh:L.length<n:=by simp only at h1;omega
 refine XG kW (h.ext Qq) rfl Kh λp x hx hc=>?_;refine Jm (vs:=x.cells) rfl hc (new λw5 QH KA QC=>?_);refine Qo QC λw6 Vg eC Xi=>?_;have X7:Ext w4 w6:=X1 QH QC Vg;obtain⟨t,O⟩:=hv.rep (i:=L.length) ω;have hlL:L.length<=512:=by omega
 have c0:∀b:Bool,Set1 k [] (if b then 1 else 0) (λ_=>b):=Y0 k;have turn:∀(b:Bool),(x.o==1)=b->True:=λ_ _=>trivial;refine QQ Xi rfl (call (vo (x.o==1) w6) ?_);rintro _ V ⟨rfl,Xq⟩;refine new λw8 QY Wj XP=>?_;refine Qo XP λw9 J2 VL XX=>?_;have Yg:Ext V w9:=X1 QY XP J2;have gk:=Xq.trans Yg;have ov:=(S.ext X7).ext gk;have wq:=Xi.ext gk;have H4:=X7.size;have rQy:=Xq.size;have uQD:=Yg.size;have sQd:V.heap.size<w9.heap.size:=by omega
 have Ar:∀g:Addr,(none:Θ)=some g->0<0->¬Qj A g.block/\w2.heap.size<=g.block:=λg e=>by cases e
 refine QQ wq rfl ?_;cases t with
 |c b=>
  cases b with
  |false=>have X:x=⟨0,0,0,0⟩:=Option.some.inj (hx.symm.trans O);subst X;refine X6 (show¬(0:Int)=2 by decide) (X6 (show¬(0:Int)=3 by decide) (X6 (show¬(0:Int)=4 by decide) (X6 (show¬(0:Int)=5 by decide) ?_)));have cb:Set1 k [] 0 (λ_=>false):=c0 false;refine KT rfl (Qm XX (XM (⟨none,0,0,[],0⟩:DV).cells ?_));intro Y M s6 cU;have D:=ov.ext M;have Z:Sl Y 2 (some ⟨w9.heap.size,0,none⟩) 1 1 (⟨none,0,0,[],0⟩:DV).cells:=Sl.own (sz:=2) (n:=1) cU (Qw _) δ (by simp[DV.cells]);refine XV (sz:=2) (n:=L.length) D.own Z (by intro u B;simp[DV.cells] at B;obtain rfl|rfl:=B <;>rfl) (by unfold maxLen;omega) (D.e.size) ?_ (b:=(by show _*32<=_;omega));intro W c' dR lR lS lT;have lU:=D.put O (x:=⟨none,0,0,[],0⟩) (SlS.nil _) cb Ar lR lS lT;refine QF (L.length) ?_;exact⟨(L++ [⟨none,0,0,[],0⟩],W,c'),by simp only[Qy,Xa,Jz];rfl,⟨lU,by show(L++ [_]).length<=n;simp only[Qy,Xa,Jz];omega⟩,by show n-(L++ [_]).length<n-L.length;simp only[Qy,Xa,Jz];omega⟩
  |true=>have X:x=⟨1,0,0,0⟩:=Option.some.inj (hx.symm.trans O);subst X;refine X6 (show¬(1:Int)=2 by decide) (X6 (show¬(1:Int)=3 by decide) (X6 (show¬(1:Int)=4 by decide) (X6 (show¬(1:Int)=5 by decide) ?_)));have cb:Set1 k [] 1 (λ_=>true):=c0 true;refine KT rfl (Qm XX (XM (⟨none,0,0,[],1⟩:DV).cells ?_));intro Y M s6 cU;have D:=ov.ext M;have Z:Sl Y 2 (some ⟨w9.heap.size,0,none⟩) 1 1 (⟨none,0,0,[],1⟩:DV).cells:=Sl.own (sz:=2) (n:=1) cU (Qw _) δ (by simp[DV.cells]);refine XV (sz:=2) (n:=L.length) D.own Z (by intro u B;simp[DV.cells] at B;obtain rfl|rfl:=B <;>rfl) (by unfold maxLen;omega) (D.e.size) ?_ (b:=(by show _*32<=_;omega));intro W c' dR lR lS lT;have lU:=D.put O (x:=⟨none,0,0,[],1⟩) (SlS.nil _) cb Ar lR lS lT;refine QF (L.length) ?_;exact⟨(L++ [⟨none,0,0,[],1⟩],W,c'),by simp only[Qy,Xa,Jz];rfl,⟨lU,by show(L++ [_]).length<=n;simp only[Qy,Xa,Jz];omega⟩,by show n-(L++ [_]).length<n-L.length;simp only[Qy,Xa,Jz];omega⟩
 |v q=>
  have X:x=⟨2,(q:Nat),0,0⟩:=Option.some.inj (hx.symm.trans O);subst X;have hq:(q:Int)<k:=xj _ (Xd hx) rfl;refine JF rfl (Qp wq rfl (call (bQy (q:Nat) w9 ω ω) ?_));rintro _ Qu ⟨o,C,E,rfl,G,sQe,N⟩;have wr:SB Qu o C E [⟨(q:Nat),0,1⟩]:=sQe;have gz:Set1 k [⟨(q:Nat),0,1⟩] 2 (evF (.v q)):=GW ω ω;refine Qo (XX.ext G) λQJ dS kl ZC=>?_;have P:Mod (·=V.heap.size) Qu QJ:=vQB dS rfl;have fA:Ext w6 QJ:=P.ext (gk.trans G) λi J=>ω;have wt:=(S.ext X7).ext fA;have fu:=G.size;have wu:=wr.modr P (λg e h0 T=>by have:=N g.block ⟨g,e,rfl⟩;omega);have wv:∀d,o=some d->0<C->¬Qj A d.block/\w2.heap.size<=d.block:=λd e _=>⟨λT=>by
   have h1:=N d.block ⟨d,e,rfl⟩;have h2:=(VQ _ T).2;omega,by have h1:=N d.block ⟨d,e,rfl⟩;omega⟩
  refine KT rfl (Qm ZC (XM (⟨o,C,E,[⟨(q:Nat),0,1⟩],2⟩:DV).cells ?_));intro Y M s6 cU;have D:=wt.ext M;have Z:Sl Y 2 (some ⟨QJ.heap.size,0,none⟩) 1 1 (⟨o,C,E,[⟨(q:Nat),0,1⟩],2⟩:DV).cells:=Sl.own (sz:=2) (n:=1) cU (Qw _) δ (by simp[DV.cells]);refine XV (sz:=2) (n:=L.length) D.own Z (by intro u B;simp[DV.cells] at B;obtain rfl|rfl:=B <;>rfl) (by unfold maxLen;omega) (D.e.size) ?_ (b:=(by show _*32<=_;omega));intro W c' dR lR lS lT;have lU:=D.put O (x:=⟨o,C,E,[⟨(q:Nat),0,1⟩],2⟩) (wu.ext M) gz wv lR lS lT;refine QF (L.length) ?_;exact⟨(L++ [⟨o,C,E,[⟨(q:Nat),0,1⟩],2⟩],W,c'),by simp only[Qy,Xa,Jz];rfl,⟨lU,by show(L++ [_]).length<=n;simp only[Qy,Xa,Jz];omega⟩,by show n-(L++ [_]).length<n-L.length;simp only[Qy,Xa,Jz];omega⟩
 |not a=>
  obtain⟨j,Q,eS,dX⟩:=O;have X:x=⟨3,0,(j:Nat),0⟩:=Option.some.inj (hx.symm.trans eS);subst X;obtain⟨y,u,hy,B,gA,dY,mi⟩:=ov.got j Q;obtain rfl:u=a:=vQC B dX;have O:RepF f (.not u) L.length:=⟨j,Q,eS,dX⟩
  refine X6 (show¬(3:Int)=2 by decide) (JF rfl (Qp wq rfl (XG bw (l:=L) (j:=j) ⟨ov.own.sl,rfl⟩ rfl Q λp2 R SD Vj=>?_)));have Uo:R=y:=Option.some.inj (SD.symm.trans hy);subst Uo;refine Jm (vs:=R.cells) rfl Vj (call (mQ1 hk R.A R.n R.c w9 gA dY) ?_);rintro _ Qu ⟨o,C,E,H,I,rfl,G,wr,D0,N⟩;have gz:Set1 k H I (evF (.not u)):=D0;refine Qo (XX.ext G) λQJ dS kl ZC=>?_;have P:Mod (·=V.heap.size) Qu QJ:=vQB dS rfl;have fA:Ext w6 QJ:=P.ext (gk.trans G) λi J=>ω;have wt:=(S.ext X7).ext fA;have fu:=G.size;have wu:=wr.modr P (λg e h0 T=>by have:=N g.block ⟨g,e,rfl⟩;omega);have wv:∀d,o=some d->0<C->¬Qj A d.block/\w2.heap.size<=d.block:=λd e _=>⟨λT=>by
   have h1:=N d.block ⟨d,e,rfl⟩;have h2:=(VQ _ T).2;omega,by have h1:=N d.block ⟨d,e,rfl⟩;omega⟩
  refine KT rfl (Qm ZC (XM (⟨o,C,E,H,I⟩:DV).cells ?_));intro Y M s6 cU;have D:=wt.ext M;have Z:Sl Y 2 (some ⟨QJ.heap.size,0,none⟩) 1 1 (⟨o,C,E,H,I⟩:DV).cells:=Sl.own (sz:=2) (n:=1) cU (Qw _) δ (by simp[DV.cells]);refine XV (sz:=2) (n:=L.length) D.own Z (by intro u B;simp[DV.cells] at B;obtain rfl|rfl:=B <;>rfl) (by unfold maxLen;omega) (D.e.size) ?_ (b:=(by show _*32<=_;omega));intro W c' dR lR lS lT;have lU:=D.put O (x:=⟨o,C,E,H,I⟩) (wu.ext M) gz wv lR lS lT;refine QF (L.length) ?_;exact⟨(L++ [⟨o,C,E,H,I⟩],W,c'),by simp only[Qy,Xa,Jz];rfl,⟨lU,by show(L++ [_]).length<=n;simp only[Qy,Xa,Jz];omega⟩,by show n-(L++ [_]).length<n-L.length;simp only[Qy,Xa,Jz];omega⟩
 |and a b=>
  obtain⟨j,l,Q,hl,eS,dX,kD⟩:=O;have X:x=⟨4,0,(j:Nat),(l:Nat)⟩:=Option.some.inj (hx.symm.trans eS);subst X;obtain⟨y,u,hy,B,gA,dY,mi⟩:=ov.got j Q;obtain rfl:u=a:=vQC B dX;obtain⟨z,u',hz,cB,kE,qS,TY⟩:=ov.got l hl;obtain rfl:u'=b:=vQC cB kD;have O:RepF f (.and u u') L.length:=⟨j,l,Q,hl,eS,dX,kD⟩
  obtain⟨g,Uq,Yz⟩:=ov.own.sl.at_ ω;subst Uq;have tQG:g.block<w4.heap.size:=(VQ g.block ⟨g,rfl,rfl⟩).2;refine X6 (show¬(4:Int)=2 by decide) (X6 (show¬(4:Int)=3 by decide) (JF rfl (Xw (Mod (·=V.heap.size) w9) 16 (oz 10 0 [(false,10),(true,11),(true,12),(true,13),(false,14),(true,15)]) (Mod.of_ext _ (Ext.drew w9)) ?_)));have D3:¬w4.heap.size=V.heap.size:=by omega
  refine Qx (v:=.int .i64 (j:Nat)) (λU K=>by rw[(wq.mod K D3).cell];rfl) (KU (j:=j) Q (Xe (vs:=y.cells) rfl (λU K i v J=>K.cell (by rw[add_add];exact Yz _ _ (gK bw _ _ _ _ _ hy J)) (by rw[fQ,fQ];omega)) (Qx (v:=.int .i64 (l:Nat)) (λU K=>by rw[(wq.mod K D3).cell];rfl) (KU (j:=l) hl (Xe (vs:=z.cells) rfl (λU K i v J=>K.cell (by rw[add_add];exact Yz _ _ (gK bw _ _ _ _ _ hz J)) (by rw[fQ,fQ];omega)) (call (mQ2 hk y.A y.n y.c z.A z.n z.c _ (gA.ext (Ext.drew w9)) (kE.ext (Ext.drew w9)) dY qS) ?_))))));rintro _ Qu ⟨o,C,E,H,I,rfl,SE,wr,D0,SG⟩;have G:Ext w9 Qu:=(Ext.drew w9).trans SE;have qY:=(Ext.drew w9).size;have N:∀i,Qj o i->w9.heap.size<=i:=λi J=>by have:=SG i J;omega
  have gz:Set1 k H I (evF (.and u u')):=D0.congr (λe=>by simp[J5,evF]);refine⟨Mod.of_ext _ G,?_⟩;refine Qo (XX.ext G) λQJ dS kl ZC=>?_;have P:Mod (·=V.heap.size) Qu QJ:=vQB dS rfl;have fA:Ext w6 QJ:=P.ext (gk.trans G) λi J=>ω;have wt:=(S.ext X7).ext fA;refine⟨(Mod.of_ext (·=V.heap.size) G).trans P λ_=>.inl,?_⟩;have fu:=G.size;have wu:=wr.modr P (λg e h0 T=>by have:=N g.block ⟨g,e,rfl⟩;omega);have wv:∀d,o=some d->0<C->¬Qj (some g) d.block/\w2.heap.size<=d.block:=λd e _=>⟨λT=>by
   have h1:=N d.block ⟨d,e,rfl⟩;have h2:=(VQ _ T).2;omega,by have h1:=N d.block ⟨d,e,rfl⟩;omega⟩
  refine KT rfl (Qm ZC (XM (⟨o,C,E,H,I⟩:DV).cells ?_));intro Y M s6 cU;have D:=wt.ext M;have Z:Sl Y 2 (some ⟨QJ.heap.size,0,none⟩) 1 1 (⟨o,C,E,H,I⟩:DV).cells:=Sl.own (sz:=2) (n:=1) cU (Qw _) δ (by simp[DV.cells]);refine XV (sz:=2) (n:=L.length) D.own Z (by intro u B;simp[DV.cells] at B;obtain rfl|rfl:=B <;>rfl) (by unfold maxLen;omega) (D.e.size) ?_ (b:=(by show _*32<=_;omega));intro W c' dR lR lS lT;have lU:=D.put O (x:=⟨o,C,E,H,I⟩) (wu.ext M) gz wv lR lS lT;refine QF (L.length) ?_;exact⟨(L++ [⟨o,C,E,H,I⟩],W,c'),by simp only[Qy,Xa,Jz];rfl,⟨lU,by show(L++ [_]).length<=n;simp only[Qy,Xa,Jz];omega⟩,by show n-(L++ [_]).length<n-L.length;simp only[Qy,Xa,Jz];omega⟩
 |or a b=>
  obtain⟨j,l,Q,hl,eS,dX,kD⟩:=O;have X:x=⟨5,0,(j:Nat),(l:Nat)⟩:=Option.some.inj (hx.symm.trans eS);subst X;obtain⟨y,u,hy,B,gA,dY,mi⟩:=ov.got j Q;obtain rfl:u=a:=vQC B dX;obtain⟨z,u',hz,cB,kE,qS,TY⟩:=ov.got l hl;obtain rfl:u'=b:=vQC cB kD;have O:RepF f (.or u u') L.length:=⟨j,l,Q,hl,eS,dX,kD⟩
  obtain⟨g,Uq,Yz⟩:=ov.own.sl.at_ ω;subst Uq;have tQG:g.block<w4.heap.size:=(VQ g.block ⟨g,rfl,rfl⟩).2;refine X6 (show¬(5:Int)=2 by decide) (X6 (show¬(5:Int)=3 by decide) (X6 (show¬(5:Int)=4 by decide) (JF rfl (Xw (Mod (·=V.heap.size) w9) 16 (oz 10 0 [(false,10),(true,11),(true,12),(true,13),(false,14),(true,15)]) (Mod.of_ext _ (Ext.drew w9)) ?_))));have D3:¬w4.heap.size=V.heap.size:=by omega
  refine Qx (v:=.int .i64 (j:Nat)) (λU K=>by rw[(wq.mod K D3).cell];rfl) (KU (j:=j) Q (Xe (vs:=y.cells) rfl (λU K i v J=>K.cell (by rw[add_add];exact Yz _ _ (gK bw _ _ _ _ _ hy J)) (by rw[fQ,fQ];omega)) (Qx (v:=.int .i64 (l:Nat)) (λU K=>by rw[(wq.mod K D3).cell];rfl) (KU (j:=l) hl (Xe (vs:=z.cells) rfl (λU K i v J=>K.cell (by rw[add_add];exact Yz _ _ (gK bw _ _ _ _ _ hz J)) (by rw[fQ,fQ];omega)) (call (mQ3 hk y.A y.n y.c z.A z.n z.c _ (gA.ext (Ext.drew w9)) (kE.ext (Ext.drew w9)) dY qS) ?_))))));rintro _ Qu ⟨o,C,E,H,I,rfl,SE,wr,D0,SG⟩;have G:Ext w9 Qu:=(Ext.drew w9).trans SE;have qY:=(Ext.drew w9).size;have N:∀i,Qj o i->w9.heap.size<=i:=λi J=>by have:=SG i J;omega
  have gz:Set1 k H I (evF (.or u u')):=D0.congr (λe=>by simp[J5,evF]);refine⟨Mod.of_ext _ G,?_⟩;refine Qo (XX.ext G) λQJ dS kl ZC=>?_;have P:Mod (·=V.heap.size) Qu QJ:=vQB dS rfl;have fA:Ext w6 QJ:=P.ext (gk.trans G) λi J=>ω;have wt:=(S.ext X7).ext fA;refine⟨(Mod.of_ext (·=V.heap.size) G).trans P λ_=>.inl,?_⟩;have fu:=G.size;have wu:=wr.modr P (λg e h0 T=>by have:=N g.block ⟨g,e,rfl⟩;omega);have wv:∀d,o=some d->0<C->¬Qj (some g) d.block/\w2.heap.size<=d.block:=λd e _=>⟨λT=>by
   have h1:=N d.block ⟨d,e,rfl⟩;have h2:=(VQ _ T).2;omega,by have h1:=N d.block ⟨d,e,rfl⟩;omega⟩
  refine KT rfl (Qm ZC (XM (⟨o,C,E,H,I⟩:DV).cells ?_));intro Y M s6 cU;have D:=wt.ext M;have Z:Sl Y 2 (some ⟨QJ.heap.size,0,none⟩) 1 1 (⟨o,C,E,H,I⟩:DV).cells:=Sl.own (sz:=2) (n:=1) cU (Qw _) δ (by simp[DV.cells]);refine XV (sz:=2) (n:=L.length) D.own Z (by intro u B;simp[DV.cells] at B;obtain rfl|rfl:=B <;>rfl) (by unfold maxLen;omega) (D.e.size) ?_ (b:=(by show _*32<=_;omega));intro W c' dR lR lS lT;have lU:=D.put O (x:=⟨o,C,E,H,I⟩) (wu.ext M) gz wv lR lS lT;refine QF (L.length) ?_;exact⟨(L++ [⟨o,C,E,H,I⟩],W,c'),by simp only[Qy,Xa,Jz];rfl,⟨lU,by show(L++ [_]).length<=n;simp only[Qy,Xa,Jz];omega⟩,by show n-(L++ [_]).length<n-L.length;simp only[Qy,Xa,Jz];omega⟩
 have Kh:L.length=n:=by simp only at h1;omega
 obtain⟨y,u,hy,B,gA,dY,mi⟩:=S.got (L.length-1) ω;have mj:=Nw (f:=f) (t:=u) (by rw[show f.length-1=L.length-1 by omega];exact B);refine Qz ((L.length-1:Nat):Int) ?_ (hm:=by show((L.length:Nat):Int)-1=_;omega);refine XG bw (l:=L) (j:=L.length-1) ⟨S.own.sl,rfl⟩ rfl ω λp2 R SD Vj=>?_;have Uo:R=y:=Option.some.inj (SD.symm.trans hy);subst Uo;refine Jm (vs:=R.cells) rfl Vj ?_;have QU:=(Qh.ext Qg).ext S.e;refine Qo QU λw5 Zx KA QC=>?_;have Zu:Mod (·=w.heap.size) w4 w5:=vQB Zx rfl;refine Qm QC ?_;exact⟨R.A,R.n,R.c,R.nd,R.r,rfl,Zu.ext Qq λi J=>ω,gA.modr Zu (λg e h0 T=>by have:=(mi g e h0).2;omega),by rw[mj];exact dY,λg e h0=>by have:=(mi g e h0).2;have:=Q1.size;omega⟩
end
section
structure QP where
 r:Nat
 NA:Θ
 nn:Nat
 nc:Nat
 nm:Λ
 FA:Θ
 nf:Nat
 cf:Nat
 fs:List (Γ×Γ)
structure QPok (w0:World) (p:QP):Prop where
 nms:Sl w0 1 p.NA p.nn p.nc (Xb p.nm)
 nmb:KH p.nm
 nmk:p.nm.length<=12
 fls:SlS ci 2 w0 p.FA p.nf p.cf p.fs
 flb:∀x∈p.fs,FileOk x
 fl6:p.fs.length<=256
 nd:(p.fs.map (·.1)).Nodup
structure QM where
 OA:Θ
 oc:Nat
 DA:Θ
 dc:Nat
 L:List DV
 T:Nat->Prop
structure QV where
 d:Nat
 rd:Γ
 g:Gs
 b:Pl
abbrev y9 (p:QP)(m:QM)(v:QV):List Value:=[.slice p.NA p.nn p.nc,.slice p.FA p.nf p.cf,.int .i64 v.d,.slice m.DA v.rd.length m.dc,.string (Qb v.g.tx),.slice m.OA v.g.sg.length m.oc,.bool v.g.fr,.int .i64 v.b.e,.int .i64 v.b.f,.int .i64 v.b.l]
def QS (p:QP)(m:QM):Nat->Prop:=λk=>k=p.r∨Qj m.OA k∨Qj m.DA k
def TQ (p:QP)(m:QM):Nat->Prop:=λk=>QS p m k∨m.T k
structure Qr (w0 w:World) (base:Nat) (p:QP) (m:QM) (v:QV):Prop where
 e0:Ext w0 w
 lor:w0.heap.size<=p.r
 rb:p.r<base
 top:base<=w.heap.size
 blk:Blk w p.r 201 (y9 p m v)
 rdo:Own w base 3 1 m.DA v.rd.length m.dc (j5 v.rd.reverse)
 out:Own w base 48 6 m.OA v.g.sg.length m.oc (cN v.g.sg m.L)
 len:m.L.length=v.g.sg.length
 dgs:∀(j:Nat) (s:Sg) (x:DV),v.g.sg[j]? =some s->m.L[j]? =some x->DgO w (TQ p m) p.nm.length x s.o
 tl:v.g.tx.length<=1048576
 sl:v.g.sg.length<=65536
 b8:∀x∈v.g.tx,x<256
 nf:v.g.fr=false->v.g.sg≠ []∨v.rd=[]
 tt:∀i,m.T i->i<w.heap.size
 dl:v.d<=65
 rl:v.rd.length<=65+65
section
variable {w0 w w':World} {base:Nat} {p:QP} {m:QM} {v:QV}
theorem Qr.lo (h:Qr w0 w base p m v):∀i,QS p m i->w0.heap.size<=i:=λi a=>by have:=h.lor;have:=h.rb;obtain rfl|a|a:=a;assumption;have:=(h.out.rows i a).1;omega;have:=(h.rdo.rows i a).1;omega
theorem Qr.hi (h:Qr w0 w base p m v):∀i,QS p m i->i<w.heap.size:=λi a=>by have:=h.rb;have:=h.top;obtain rfl|a|a:=a;omega;exact(h.out.rows i a).2;exact(h.rdo.rows i a).2
theorem Qr.hiT (h:Qr w0 w base p m v):∀i,TQ p m i->i<w.heap.size:=λi a=>a.elim (h.hi i) (h.tt i)
theorem Qr.ext (h:Qr w0 w base p m v)(k:Ext w w'):Qr w0 w' base p m v:=
 ⟨h.e0.trans k,h.lor,h.rb,XU h.top k.size,h.blk.ext k,h.rdo.ext k,h.out.ext k,h.len,λj s x a b=>(h.dgs j s x a b).ext k,h.tl,h.sl,h.b8,h.nf,λi c=>JZ (h.tt i c) k.size,h.dl,h.rl⟩
theorem QS.moved {m':QM}(b:Moved w m.OA m'.OA)(c:Moved w m.DA m'.DA):∀k,QS p m' k->QS p m k∨w.heap.size<=k:=by rintro k (rfl|a|a);exact .inl (.inl rfl);obtain h|h:=b.rows k a;exact .inl (.inr (.inl h));exact .inr h;obtain h|h:=c.rows k a;exact .inl (.inr (.inr h));exact .inr h
theorem TQ.moved {m':QM}(b:m'.T=m.T)(c:Moved w m.OA m'.OA)(d:Moved w m.DA m'.DA):∀k,TQ p m' k->TQ p m k∨w.heap.size<=k:=by rintro k (a|a);obtain h|h:=QS.moved (p:=p) c d k a;exact .inl (.inl h);exact .inr h;exact .inl (.inr (by rw[<-b];exact a))
theorem Qr.nrow (h:Qr w0 w base p m v):¬Qj m.OA p.r/\¬Qj m.DA p.r:=by have:=h.rb;exact⟨λa=>by have:=(h.out.rows _ a).1;omega,λa=>by have:=(h.rdo.rows _ a).1;omega⟩
theorem Qr.put (h:Qr w0 w base p m v){v':QV}(b:Mod (·=p.r) w w')(g:Blk w' p.r 201 (y9 p m v'))(d:v'.g.tx=v.g.tx)(c:v'.g.sg=v.g.sg)(f:v'.rd=v.rd)(k:v'.g.fr=false->v'.g.sg≠ []∨v'.rd=[])(l:v'.d<=65):Qr w0 w' base p m v':=by have n:=b.ext h.e0 (λi a=>by subst a;exact h.lor);refine⟨n,h.lor,h.rb,XU h.top b.size,g,?_,?_,by rw[c];exact h.len,λj s x g n=>?_,by rw[d];exact h.tl,by rw[c];exact h.sl,by rw[d];exact h.b8,k,λi a=>JZ (h.tt i a) b.size,l,by rw[f];exact h.rl⟩;rw[f];exact h.rdo.mod b (λi a e=>by subst e;exact h.nrow.2 a);rw[c];exact h.out.mod b (λi a e=>by subst e;exact h.nrow.1 a);rw[c] at g;exact(h.dgs j s x g n).keep b λi a=>.inl (.inl (.inl a))
theorem Qr.modT {U T':Nat->Prop}(h:Qr w0 w base p m v)(b:Mod U w w')(e:∀i,U i->m.T i)(d:∀i,U i->¬QS p m i)(a:∀i,U i->w0.heap.size<=i)(f:∀i,T' i->m.T i∨w.heap.size<=i)(g:∀i,T' i->i<w'.heap.size):
  Qr w0 w' base p {m with T:=T'} v:=
 ⟨b.ext h.e0 a,h.lor,h.rb,XU h.top b.size,h.blk.mod b λc=>d _ c (.inl rfl),h.rdo.mod b λi a c=>d _ c (.inr (.inr a)),h.out.mod b λi a c=>d _ c (.inr (.inl a)),h.len,
  λj s x c d=>(h.dgs j s x c d).step (b.mono λi a=>.inl (.inr (e i a))) λi a=>a.elim (λb=>.inl (.inl b)) λa=>(f i a).elim (λh=>.inl (.inr h)) .inr,
  h.tl,h.sl,h.b8,h.nf,g,h.dl,h.rl⟩
end
def QTo (d w:θ)(a:Nat)(p:QP)(m:QM)(v:QV)(c:θ):Prop:=∃b,b.T=m.T/\Qr d c a p b v/\Mod (QS p m) w c/\Moved w m.OA b.OA/\Moved w m.DA b.DA
def ZW (b q:Pl):Pl:=if b.e=0 then q else b
def cQ {α:Type}(b:Pl)(f l:Int):Except Int α->Pl|.ok _=>b|.error e=>ZW b ⟨e,f,l⟩
theorem lv {w:θ}{g t:Nat}{a:χ τ}{j i:Nat}{v:τ}{K:τ->Prop}(h:Blk w g t a)(b:a[j+i]? =some v)(k:K v):kT w (((⟨g,0,none⟩:Addr).add j).add i) K:=by rw[add_add];exact Qp h b k
def sm (w:θ)(x:DV):Prop:=∀a,x.A=some a->0<x.n->w.heap.size<=a.block
section
variable {w0:World} {base:Nat} {p:QP} {m:QM} {v:QV}
theorem et (e f l:Int)(w:θ)(h:Qr w0 w base p m v):
  Fn ψ 186 [.pointer (some ⟨p.r,0,none⟩),.int .i64 e,.int .i64 f,.int .i64 l] w (λ_ a=>Qr w0 a base p m {v with b:=ZW v.b ⟨e,f,l⟩}/\Mod (·=p.r) w a):=by
 refine QK jQB [] Tryz.func186 ?_;refine lv h.blk rfl (X0 (λa=>?_) λa=>?_);refine iY h.blk (show 7+3<=10 by decide) (sc rfl) λw1 c _ g=>?_;have d:Mod (·=p.r) w w1:=vQB c rfl;have c:ZW v.b ⟨e,f,l⟩=⟨e,f,l⟩:=Qf a;rw[c];exact⟨h.put d g rfl rfl rfl h.nf h.dl,d⟩;have c:ZW v.b ⟨e,f,l⟩=v.b:=φ a;rw[c];exact⟨h,Mod.refl _ _⟩
theorem eQo (s:Γ)(f l:Int)(w:θ)(c:QPok w0 p)(h:Qr w0 w base p m v)(d:∀x∈s,x<256)(g:s.length<=1000000000000):
  Fn ψ 182 [.pointer (some ⟨p.r,0,none⟩),.string (Qb s),.int .i64 f,.int .i64 l] w (λu a=>∃(x:DV) (o:BF),u=Q5 x.A x.n x.c x.r/\Qr w0 a base p m {v with b:=cQ v.b f l (Jn p.nm s)}/\Mod (·=p.r) w a/\SB a x.A x.n x.c x.nd/\Set1 p.nm.length x.nd x.r o/\sm w x/\∀o',Jn p.nm s= .ok o'->o=o'):=by
 refine QK jQy [] Tryz.func182 ?_;refine new λn k a y=>?_;have a:=h.ext k;refine QQ a.blk rfl (call (lQS p.nm p.NA p.nn p.nc s n (c.nms.ext a.e0) c.nmb d g) ?_);rw[cQg];have A:Jn p.nm s=match gT p.nm s with|.ok t=>.ok (evF t)|.error e=>.error (if e=2 then 2 else 71):=rfl
 have J:∀e:Int,Jn p.nm s= .error e->∀d,Qr w0 d base p m {v with b:=ZW v.b ⟨e,f,l⟩}->Mod (·=p.r) w d->Blk d w.heap.size 32 [.slice none 0 0,.int .i64 0]->∃(x:DV) (o:BF),Q5 none 0 0 0=Q5 x.A x.n x.c x.r/\Qr w0 d base p m {v with b:=cQ v.b f l (Jn p.nm s)}/\Mod (·=p.r) w d/\SB d x.A x.n x.c x.nd/\Set1 p.nm.length x.nd x.r o/\sm w x/\∀o',Jn p.nm s= .ok o'->o=o':=λe K d B a _=>by rw[K];exact⟨⟨none,0,0,[],0⟩,_,rfl,B,a,SlS.nil d,Y0 _ false,(λC e=>by cases e),λo' q=>by cases q⟩
 have E:¬w.heap.size=p.r:=λe=>by have:=h.rb;have:=h.top;omega
 cases H:gT p.nm s with|ok t=>rw[H] at A;obtain⟨a,g,k3⟩:=cQk H;rintro _ d ⟨G,z,I,rfl,a,M⟩;have n:=c.nmk;refine X6 (show¬(0:Int)=2 by decide) (KT rfl (call (oQ9 G z I _ p.nm.length n d M (bQZ (g.mono ω) k3) (ve t _ 0 g)) ?_));rintro _ c ⟨D,S,T,U,r,rfl,n,V,N,O⟩;rw[bQY] at N;refine new λw4 F L g=>?_;refine Qo g λw5 L _ Q=>?_;have P:Ext c w5:=X1 F g L;refine Qm Q ?_;have F:=(a.trans n).trans P;refine Qo (y.ext F) λw6 n _ L=>?_;have Q:Mod (·=w.heap.size) w5 w6:=vQB n rfl;refine Qm L ?_;have R:Ext w w6:=Q.ext (k.trans F) λi n=>ω;rw[A];have F:=a.size;have F:=k.size;exact⟨⟨D,S,T,U,r⟩,_,rfl,h.ext R,Mod.of_ext _ R,SB.modo (V.ext P) Q (λC e F L=>by have:=O C e F;omega),N,λC e F=>by have:=O C e F;omega,λo' q=>by cases q;rfl⟩|error e=>
  rw[H] at A;rintro _ d ⟨G,z,I,rfl,a,M⟩;have M:=k.trans a;have B:=h.ext M;have N:=y.ext a;have q:∀(I:Int) c,Jn p.nm s= .error I->Qr w0 c base p m {v with b:=ZW v.b ⟨I,f,l⟩}->Mod (·=p.r) d c->∀w4,c.grownBy w4 (some w.heap.size)->Blk w4 w.heap.size 32 [.slice none 0 0,.int .i64 0]->∃(x:DV) (o:BF),Q5 none 0 0 0=Q5 x.A x.n x.c x.r/\Qr w0 w4 base p m {v with b:=cQ v.b f l (Jn p.nm s)}/\Mod (·=p.r) w w4/\SB w4 x.A x.n x.c x.nd/\Set1 p.nm.length x.nd x.r o/\sm w x/\∀o',Jn p.nm s= .ok o'->o=o':=λI c K a k w4 y g=>by
   have z:Mod (·=w.heap.size) c w4:=vQB y rfl;have O:Mod (·=p.r) w w4:=((Mod.of_ext (·=p.r) M).trans k λ_=>.inl).trans z λi n=>.inr ω;have M:=k.size;have M:∀i,i=w.heap.size->¬QS p m i:=λi n P=>by have:=h.hi i P;omega
   have P:¬m.T w.heap.size:=λL=>by have:=h.tt _ L;omega
   refine J I K w4 ?_ O g;have I:Ext w0 w4:=z.ext a.e0 (λi n=>by have:=h.e0.size;omega);exact⟨I,a.lor,a.rb,XU a.top z.size,a.blk.mod z λe=>E e.symm,a.rdo.mod z λi n e=>M i e (.inr (.inr n)),a.out.mod z λi n e=>M i e (.inr (.inl n)),a.len,
    λj s x I J=>(a.dgs j s x I J).sb.modo z (λC K F L=>by
     have:=SB.lt (h.dgs j s x I J).sb C K F;omega) |> λC=>⟨C,(a.dgs j s x I J).st,(a.dgs j s x I J).off⟩,a.tl,a.sl,a.b8,a.nf,λi n=>JZ (a.tt i n) z.size,a.dl,a.rl⟩
  have n:∀c,Mod (·=p.r) d c->Blk c w.heap.size 32 [.slice none 0 0,.int .i64 0]:=λc k=>N.mod k E;obtain rfl|rfl|rfl|rfl:=cQl H
  refine X6 δ (iX δ (call (et 71 f l d B) ?_));rintro _ c ⟨a,k⟩;refine Qo (n c k) λw4 y _ g=>?_;exact Qm g (q 71 c A a k w4 y g);refine JF rfl (call (et 2 f l d B) ?_);rintro _ c ⟨a,k⟩;refine Qo (n c k) λw4 y _ g=>?_;exact Qm g (q 2 c A a k w4 y g);refine X6 δ (iX δ (call (et 71 f l d B) ?_));rintro _ c ⟨a,k⟩;refine Qo (n c k) λw4 y _ g=>?_;exact Qm g (q 71 c A a k w4 y g);refine X6 δ (iX δ (call (et 71 f l d B) ?_));rintro _ c ⟨a,k⟩;refine Qo (n c k) λw4 y _ g=>?_;exact Qm g (q 71 c A a k w4 y g)
theorem eQp (f l:Int)(w:θ)(h:Qr w0 w base p m v)(a:v.d<=64):
  Fn ψ 183 [.pointer (some ⟨p.r,0,none⟩),.int .i64 f,.int .i64 l] w (λ_ a=>Qr w0 a base p m {v with d:=v.d+1,b:=if v.d=64 then ZW v.b ⟨2,f,l⟩else v.b}/\Mod (·=p.r) w a):=by
 refine QK jQz [] Tryz.func183 ?_;refine Qp h.blk rfl (Ql (λa=>?_) λa=>?_);rw[Qf ω];refine call (et 2 f l w h) ?_;rintro _ a ⟨c,g⟩;refine Qp c.blk rfl (QF (v.d) (Xv c.blk (show 2<10 by decide) λi a e=>?_));exact⟨c.put a e rfl rfl rfl c.nf (by show v.d+1<=65;omega),g.trans a λ_=>.inl⟩;rw[φ ω];refine Qp h.blk rfl (QF (v.d) (Xv h.blk (show 2<10 by decide) λi a e=>?_));exact⟨h.put a e rfl rfl rfl h.nf (by show v.d+1<=65;omega),a⟩
theorem eQq (s:Γ)(w:θ)(b:QPok w0 p)(h:Qr w0 w base p m v)(g:∀x∈s,x<256):
  Fn ψ 125 [.pointer (some ⟨p.r,0,none⟩),.string (Qb s)] w (λu a=>u= .int .i64 (match ZS (p.fs.map (·.1)) s with|some n=>(n:Int)|none=> -1)/\w=a):=by
 have c:=b.fls.2;have c:=b.fl6;refine QK iQK [] Tryz.func125 ?_;refine loop Qe [5] (λi:Nat=>[.int .i64 i]) (λi a=>w=a/\i<=p.fs.length/\s∉(p.fs.map (·.1)).take i) (λi _=>p.fs.length-i) 0 rfl ⟨rfl,Q9 _,by simp⟩ ?_;rintro i _ ⟨rfl,a,d⟩;refine Qp h.blk rfl (Ql (λa=>?_) λa=>?_);have c:i<p.fs.length:=by omega
 have f:p.fs[i]? =some p.fs[i]:=Q6 c;refine Qp h.blk rfl (XG gU (b.fls.ext h.e0) rfl ω λk x a j=>?_);obtain rfl:p.fs[i]=x:=Option.some.inj (f.symm.trans a);refine load (by have:=j 0 _ rfl;simpa [Addr.add] using this) ?_;have j:=b.flb _ (Fp c);refine Z0 (λa=>?_) λa=>?_;rw[rN j.n8 g] at a;have a:=WY a;have:=NO (p.fs.map (·.1)) i 0 none s b.nd (by rw[Wy,f,<-a];rfl);rw[YW] at this;have e:ZS (p.fs.map (·.1)) s=some i:=this;rw[e];exact⟨rfl,rfl⟩;rw[rN j.n8 g] at a;have a:=of_decide_eq_false a;refine QF i ?_;refine⟨i+1,rfl,⟨rfl,ω,?_⟩,QL⟩;rw[JT,Wy,f];simp only[AL,rz,X2,Xx,not_or];exact⟨d,λe=>a e.symm⟩;have c:i=p.fs.length:=by omega
 rw[c,ZJ (by simp)] at d;have e:ZS (p.fs.map (·.1)) s=none:=Gm s _ 0 none d;rw[e];exact⟨rfl,rfl⟩
theorem pQa (n:Nat)(w:θ)(h:Qr w0 w base p m v):Fn ψ 218 [.pointer (some ⟨p.r,0,none⟩),.int .i64 n] w (λu a=>u= .bool (decide (n∈v.rd))/\w=a):=by
 have b:=h.rl;refine QK jQ1 [] Tryz.func218 ?_;refine loop Qe [5] (λi:Nat=>[.int .i64 i]) (λi a=>w=a/\i<=v.rd.length/\n∉v.rd.reverse.take i) (λi _=>v.rd.length-i) 0 rfl ⟨rfl,Q9 _,by simp⟩ ?_;rintro i _ ⟨rfl,a,c⟩;refine Qp h.blk rfl (Ql (λa=>?_) λa=>?_);have a:i<v.rd.length:=by omega
 have b:v.rd.reverse[i]? =some (v.rd.reverse[i]'(by simpa using a)):=Q6 _;generalize v.rd.reverse[i]'(by simpa using a)=y at b;refine Qp h.blk rfl (Zq h.rdo.sl a λg u j d f=>?_);rw[nQi b] at d;cases d;refine load f (X0 (λd=>?_) λd=>?_);refine⟨?_,rfl⟩;have f:y∈v.rd:=by have:=Xd b;simpa using this
 rw[Zg (by rw[show n=y by omega];exact f)];refine QF i ?_;refine⟨i+1,rfl,⟨rfl,ω,?_⟩,QL⟩;rw[JT,b];simp only[rz,X2,Xx,not_or];exact⟨c,λe=>d ω⟩;have a:i=v.rd.length:=by omega
 rw[a,ZJ (by simp)] at c;exact⟨by rw[XZ (by simpa using c)],rfl⟩
end
end
section
section
variable {w0:World} {base:Nat} {p:QP}
theorem Qr.app {m:QM}{v v':QV}{w c w2:θ}(h:Qr w0 w base p m v)(s:Sg)(x:DV){b:Θ}{a:Nat}(f:Mod (Qj m.OA) w c)(k:Own c base 48 6 b (v.g.sg.length+1) a (cN v.g.sg m.L++lh (s,x)))(g:Moved w m.OA b)(d:Mod (·=p.r) c w2)
  (hx:DgO w (TQ p m) p.nm.length x s.o) (hl:v.g.sg.length<65536) (e1:v'.g.tx=v.g.tx) (e2:v'.g.sg=v.g.sg++ [s]) (e3:v'.rd=v.rd) (e4:v'.d<=65) (hB:Blk w2 p.r 201 (y9 p {m with OA:=b,oc:=a,L:=m.L++ [x]} v')):Qr w0 w2 base p {m with OA:=b,oc:=a,L:=m.L++ [x]} v':=by
 have l:=TQ.moved (p:=p) (m:=m) (m':={m with OA:=b,oc:=a,L:=m.L++ [x]}) rfl g (Moved.refl w m.DA);have g:Mod (QS p m) w w2:=(f.mono (S':=QS p m) λi a=>.inl (.inr (.inl a))).trans d λi a=>.inl (.inl a);have n:∀i,Qj b i->¬i=p.r:=λi a e=>by subst e;have:=(k.rows _ a).1;have:=h.rb;omega
 have b:=h.top;have b:=f.size;have b:=d.size;refine⟨g.ext h.e0 h.lo,h.lor,h.rb,ω,hB,?_,?_,?_,?_,by rw[e1];exact h.tl,?_,by rw[e1];exact h.b8,λ_=>.inl (by rw[e2];simp),λi a=>JZ (h.tt i a) ω,e4,by rw[e3];exact h.rl⟩;rw[e3];exact(h.rdo.mod f λi a c=>h.rdo.apart h.out δ a c).mod d (λi a e=>by subst e;exact h.nrow.2 a);rw[e2];have:=k.mod d n;rw[GK h.len,Qy];exact this;rw[e2];show(m.L++ [x]).length=_;rw[Qy,Qy,h.len]<;>rfl
 rw[e2];intro j f x1 d b;have b:(m.L++ [x])[j]? =some x1:=b;obtain⟨c,d⟩|⟨c,d⟩:=nD d;rw[eW (by rw[h.len];exact c)] at b;exact(h.dgs j f x1 d b).step (g.mono λi a=>.inl (.inl a)) l;rw[aZ (by rw[h.len];exact c),h.len] at b;obtain⟨c,rfl⟩:=i7 d;obtain⟨_,rfl⟩:=i7 b;exact hx.step (g.mono λi a=>.inl (.inl a)) l;rw[e2,Qy];simp;omega
def CI (e:θ)(a:Nat)(p:QP)(m:QM)(v:QV)(s:Γ)(fl c:Nat)(f:Int)(o:BF)(w d:θ):Prop:=match Yo s fl c o v.g with|some h=>QTo e w a p m {v with g:=h} d|none=>Qr e d a p m {v with b:=ZW v.b ⟨2,fl,f⟩}/\Mod (·=p.r) w d
theorem pQb (m:QM)(v:QV)(s:Γ)(fl at_:Nat)(c:Int)(k:DV)(o:BF)(w:θ)(h:Qr w0 w base p m v)(a:DgO w (TQ p m) p.nm.length k o)(T:∀x∈s,x<256)(f:s.length<=1048577)(R:v.rd≠ []):Fn ψ 180 [.pointer (some ⟨p.r,0,none⟩),.string (Qb s),Q5 k.A k.n k.c k.r,.int .i64 fl,.int .i64 at_,.int .i64 c] w (λ_ D=>CI w0 base p m v s fl at_ c o w D):=by
 have O:=QZ s;have f:=h.tl;have f:=h.sl;have K:=QZ v.g.tx;refine QK jQw [2,4] Tryz.func180 ?_;refine new λy A f G=>?_;have q:=h.ext A;have Q:=a.ext A;refine lv q.blk rfl ?_;have r:Yo s fl at_ o v.g=none->∀w2,Qr w0 w2 base p m {v with b:=ZW v.b ⟨2,fl,c⟩}->Mod (·=p.r) y w2->CI w0 base p m v s fl at_ c o w w2:=λf w2 a B=>by unfold CI;rw[f];exact⟨a,(Mod.of_ext (·=p.r) A).trans B λ_=>.inl⟩
 refine M5 [] Qe (λw2=>y=w2/\¬(1048576<v.g.tx.length+s.length∨(v.g.fr=true/\v.g.sg.length=65536))) ?_ ?_;refine lv q.blk rfl (Qz ((v.g.tx.length+s.length:Nat):Int) ?_ (hm:=by rw[O,K];omega));refine Ql (λf=>?_) λf=>?_;refine call (et 2 fl c y q) ?_;rintro _ w2 ⟨a,B⟩;exact r (GN (.inl ω)) w2 a B;refine Qp q.blk rfl (Z0 (λf=>?_) λf=>?_);refine Ql (λt=>?_) λt=>?_;refine call (et 2 fl c y q) ?_;rintro _ w2 ⟨a,B⟩;exact r (GN (.inr ⟨f,ω⟩)) w2 a B;exact⟨rfl,rfl,ω⟩;exact⟨rfl,rfl,by rw[f];intro t;obtain t|⟨t,_⟩:=t;omega;cases t⟩;rintro _ ⟨rfl,c⟩;have U:=cQQ (s:=s) (fl:=fl) (at_:=at_) (k:=o) (g:=v.g) c;refine cL [] Qe [12] (λn:Nat=>[.int .i64 n]) (λn w2=>QTo w0 y base p m {v with g:=⟨v.g.tx,if v.g.fr then v.g.sg++ [⟨v.g.tx.length,0,fl,at_,o⟩] else v.g.sg,v.g.fr⟩} w2/\n=(if v.g.fr then v.g.sg++ [(⟨v.g.tx.length,0,fl,at_,o⟩:Sg)] else v.g.sg).length) ?_ ?_;refine Qp q.blk rfl (Z0 (λf=>?_) λf=>?_);have f:v.g.fr=true:=f;have S:v.g.sg.length<65536:=by obtain t|t:=Nat.lt_or_ge v.g.sg.length 65536;exact t;exact Xg (Or.inr ⟨f,ω⟩) c
 have r:=q.nrow;have E:¬Qj m.OA w.heap.size:=λc=>by have:=(h.out.rows _ c).2;omega
 refine Xw (Mod (Qj m.OA) y) 18 (oz 16 0 [(false,16),(false,17)]) (Mod.of_ext _ (Ext.drew y)) ?_;have F:=Ext.drew y;refine Qx (v:=.slice m.OA v.g.sg.length m.oc) (λD z=>by rw[add_add,(q.blk.mod z r.1).cell];rfl) (Qx (v:=.string (Qb v.g.tx)) (λD z=>by rw[add_add,(q.blk.mod z r.1).cell];rfl) (Xe (vs:=k.cells) rfl (λD z j u C=>by rw[(G.mod z E).cell];exact C) (XM [.int .i64 ((Qb v.g.tx).size:Nat),.int .i64 0,.int .i64 fl,.int .i64 at_,.slice k.A k.n k.c,.int .i64 k.r] ?_)));intro I H E G;rw[K] at G;have E:=F.trans H;refine⟨Mod.of_ext _ E,?_⟩;have H:=q.ext E;have J:Sl I 6 (some ⟨y.drew.heap.size,0,none⟩) 1 1 (lh (⟨v.g.tx.length,0,fl,at_,o⟩,k)):=Sl.own (sz:=6) (n:=1) G (Qw _) δ (by simp[lh]);refine XV H.out J (cQO _) (by unfold maxLen;omega) H.top ?_ (b:=(by show(v.g.sg.length+1)*64<=_;omega));intro M N w4 y V P;refine⟨(Mod.of_ext (Qj m.OA) E).trans y λ_=>.inl,?_⟩;show eY w4 (((⟨p.r,0,none⟩:Addr).add 4).add 1) _ _;rw[add_add];refine Xv (H.blk.mod y r.1) (show 5<10 by decide) λw5 J W=>?_;refine QF (v.g.sg.length) ?_;have r:DgO I (TQ p m) p.nm.length k (⟨v.g.tx.length,0,fl,at_,o⟩:Sg).o:=Q.ext E;rw[f,Qf rfl];refine⟨v.g.sg.length+1,rfl,⟨{m with OA:=M,oc:=N,L:=m.L++ [k]},rfl,H.app ⟨v.g.tx.length,0,fl,at_,o⟩ k y V P J r S rfl rfl rfl h.dl ?_,?_,P.back E.size,Moved.refl _ _⟩,by simp⟩;have e:(v.g.sg++ [(⟨v.g.tx.length,0,fl,at_,o⟩:Sg)]).length=v.g.sg.length+1:=by simp
 show Blk w5 p.r 201 [.slice p.NA p.nn p.nc,.slice p.FA p.nf p.cf,.int .i64 v.d,.slice m.DA v.rd.length m.dc,.string (Qb v.g.tx),.slice M (v.g.sg++ [(⟨v.g.tx.length,0,fl,at_,o⟩:Sg)]).length N,.bool true,.int .i64 v.b.e,.int .i64 v.b.f,.int .i64 v.b.l];have r:Blk w5 p.r 201 [.slice p.NA p.nn p.nc,.slice p.FA p.nf p.cf,.int .i64 v.d,.slice m.DA v.rd.length m.dc,.string (Qb v.g.tx),.slice M (v.g.sg.length+1) N,.bool v.g.fr,.int .i64 v.b.e,.int .i64 v.b.f,.int .i64 v.b.l]:=W;rw[e,<-f];exact r;exact((Mod.of_ext (QS p m) E).trans y λi c=>.inl (.inr (.inl c))).trans J λi c=>.inl (.inl c);have f:v.g.fr=false:=f;have e:(⟨v.g.tx,if v.g.fr then v.g.sg++ [⟨v.g.tx.length,0,fl,at_,o⟩] else v.g.sg,v.g.fr⟩:Gs)=v.g:=by obtain⟨d,r,⟨E,H,M⟩,b⟩:=v;simp only at f;subst f;rfl
 rw[e];exact⟨v.g.sg.length,rfl,⟨m,rfl,q,Mod.refl _ _,Moved.refl _ _,Moved.refl _ _⟩,by rw[f];rfl⟩;rintro n w2 ⟨⟨q,V,a,B,P,Q⟩,E⟩;have r:(if v.g.fr then v.g.sg++ [(⟨v.g.tx.length,0,fl,at_,o⟩:Sg)] else v.g.sg)≠ []:=by cases f:v.g.fr with|true=>rw[Qf rfl];simp|false=>rw[φ δ];exact(h.nf f).resolve_right R
 generalize H:(if v.g.fr then v.g.sg++ [(⟨v.g.tx.length,0,fl,at_,o⟩:Sg)] else v.g.sg)=f at*;have R:=a.sl;simp only at R;subst E;obtain⟨M,S,E,N,H,W,X⟩:=cQR (l:=f) a.len r;have N:0<f.length:=mU.2 r;obtain⟨oa,E,_⟩:=a.out.sl.at_ N;have E:q.OA=some oa:=E;refine Xv a.blk (show 6<10 by decide) λI r G=>?_;refine lv G rfl (XF (v':=.string (Qb (v.g.tx++s))) (by rw[O,K];unfold maxLen;omega) (QG Value.string (ZR _ _)) ?_);show eY I (((⟨p.r,0,none⟩:Addr).add 4).add 0) _ _;rw[add_add];refine Xv G (show 4<10 by decide) λw4 y K=>?_;have G:Mod (·=p.r) w2 w4:=r.trans y λ_=>.inl;have I:=a.nrow;have y:=a.out.mod G (λi c e=>by subst e;exact I.1 c);have F:=Ext.drew w4;have r:=K.ext F;have O:=QZ (v.g.tx++s);refine rL Qe 15 κ (Qx (v:=.slice q.OA f.length q.oc) (λD z=>by subst z;rw[add_add,r.cell];rfl) (Qz ((f.length-1:Nat):Int) (Qx (v:=.string (Qb (v.g.tx++s))) (λD z=>by subst z;rw[add_add,r.cell];rfl) ?_)));rw[E];refine KU (j:=f.length-1) (by show f.length-1<f.length;omega) ?_;have r:=y.ext F;rw[E] at r;have y:f.length=M.length+1:=by rw[H];simp
 show eY _ ((oa.add ((f.length-1)*6)).add 1) _ _;rw[add_add];refine GL r N (by show(f.length-1)*6+1<f.length*6;omega) λw5 J z=>?_;rw[O,Qy] at z;have r:(cN f q.L).set ((f.length-1)*6+1) (.int .i64 ((v.g.tx.length+s.length:Nat):Int))=cN (lf (v.g.tx.length+s.length) f) q.L:=by
  have e:(M++ [S]).length-1=M.length:=by simp
  rw[H,W,jW,e,cQP X]
 rw[r] at z;have y:(lf (v.g.tx.length+s.length) f).length=f.length:=by rw[H,jW];simp
 have D:Mod (Qj q.OA) w4 w5:=by rw[E];exact(Mod.of_ext _ F).trans J λ_=>.inl
 have r:Mod (QS p q) w2 w5:=(G.mono (S':=QS p q) λi c=>.inl (.inl c)).trans D λi c=>.inl (.inr (.inl c));have F:=G.size;have F:=D.size;have F:=a.top;unfold CI;rw[U];refine⟨q,V,⟨r.ext a.e0 a.lo,a.lor,a.rb,ω,?_,?_,?_,?_,?_,?_,?_,?_,λ_=>?_,λi c=>JZ (a.tt i c) ω,a.dl,a.rl⟩,?_,?_,?_⟩
 all_goals try simp only
 show Blk w5 p.r 201 [.slice p.NA p.nn p.nc,.slice p.FA p.nf p.cf,.int .i64 v.d,.slice q.DA v.rd.length q.dc,.string (Qb (v.g.tx++s)),.slice q.OA (lf (v.g.tx.length+s.length) f).length q.oc,.bool false,.int .i64 v.b.e,.int .i64 v.b.f,.int .i64 v.b.l];rw[y];exact K.mod D I.1;exact(a.rdo.mod G λi c e=>by subst e;exact I.2 c).mod D λi c C=>a.rdo.apart a.out δ c C;rw[y];rw[<-E] at z;exact z;rw[y];exact a.len;intro j E F q G;have D:∃z,f[j]? =some z/\z.o=E.o:=by rw[H,jW] at q;rw[H];obtain⟨C,q⟩|⟨C,q⟩:=nD q;exact⟨E,by rw[eW C];exact q,rfl⟩;obtain⟨f,rfl⟩:=i7 q;exact⟨S,by rw[aZ C,f];rfl,rfl⟩
 obtain⟨z,f,q⟩:=D;rw[<-q];exact(a.dgs j z F f G).keep (r.mono λi c=>.inl (.inl c)) λ_=>.inl;rw[Qy];omega;rw[y];exact R;exact yN h.b8 T;exact .inl (by rw[<-mU,y];exact N);exact(((Mod.of_ext (QS p m) A).trans B λ_=>.inl).trans r (λi c=>by
  obtain t|t:=QS.moved (p:=p) P Q i c;exact .inl t;exact .inr (by have:=A.size;omega)))
 exact P.back A.size;exact Q.back A.size
end
end
section
theorem Qr.aside {c w f k:θ}{a:Nat}{p:QP}{m:QM}{l v:QV}{g:Nat}(d:Qr c w a p m l)(h:Qr c f a p m v)(e:v.g.sg=l.g.sg)(b:Mod (·=g) f k)(n:w.heap.size<=g):Qr c k a p m v:=by
 have c:∀i,i=g->¬QS p m i:=λi a f=>by have:=d.hi i f;omega
 refine⟨b.ext h.e0 (λi a=>by have:=d.e0.size;omega),h.lor,h.rb,XU h.top b.size,h.blk.mod b λk=>c _ k (.inl rfl),h.rdo.mod b λi a e=>c i e (.inr (.inr a)),h.out.mod b λi a e=>c i e (.inr (.inl a)),h.len,λj s x f l=>?_,h.tl,h.sl,h.b8,h.nf,λi a=>JZ (h.tt i a) b.size,h.dl,h.rl⟩;have a:=h.dgs j s x f l;rw[e] at f;refine⟨a.sb.modo b λc n o k=>?_,a.st,a.off⟩;have:=SB.lt (d.dgs j s x f l).sb c n o;omega
structure BrR (w0:World) (base:Nat) (p:QP) (m:QM) (v':QV) (w:World) (z:List SeV) (A:Θ) (c:Nat) (w':World):Prop where
 rr:Qr w0 w' base p m v'
 md:Mod (·=p.r) w w'
 ow:Own w' base 266 6 A z.length c (Z2 z)
 nw:∀i,Qj A i->w.heap.size<=i
section
variable {w0:World} {base:Nat} {p:QP} {m:QM} {v:QV}
theorem Pk (s:Γ)(A:Θ)(c:Nat)(fl:Nat)(a:Int)(w:θ)(h:Qr w0 w base p m v):
  Fn ψ 185 [.pointer (some ⟨p.r,0,none⟩),.string (Qb s),.slice A 0 c,.int .i64 fl,.int .i64 a] w (λu d=>u= .tuple #[.slice A 0 c,Q5 none 0 0 0]/\Qr w0 d base p m {v with b:=ZW v.b ⟨72,fl,a⟩}/\Mod (·=p.r) w d):=by
 refine QK Bo [] Tryz.func185 ?_;refine new λf d j g=>?_;have j:=h.ext d;refine JF rfl (call (et 72 fl a f j) ?_);rintro _ j ⟨k,f⟩;have a:¬w.heap.size=p.r:=λe=>by have:=h.rb;have:=h.top;omega
 refine Qo (g.mod f a) λw3 l _ n=>?_;have a:Mod (·=w.heap.size) j w3:=vQB l rfl;refine Qm n ?_;exact⟨rfl,h.aside k rfl a (Qw _),((Mod.of_ext (·=p.r) d).trans f λ_=>.inl).trans a λi d=>.inr ω⟩
theorem pQc (z:χ SeV)(x:SeV)(A:Θ)(c:Nat)(fl:Nat)(a:Int)(w:θ)(h:Qr w0 w base p m v)(f:Own w base 266 6 A (z.length+1) c (Z2 z++x.cells))(b:z.length<=64)(g:1<=v.d):
  Fn ψ 185 [.pointer (some ⟨p.r,0,none⟩),.string (Qb X5),.slice A (z.length+1) c,.int .i64 fl,.int .i64 a] w (λu k=>∃a,a=A/\u= .tuple #[.slice A z.length c,Q5 x.x.A x.x.n x.x.c x.x.r]/\Qr w0 k base p m {v with d:=v.d-1}/\Mod (·=p.r) w k):=by
 refine QK Bo [] Tryz.func185 ?_;have l:¬w.heap.size=p.r:=λe=>by have:=h.rb;have:=h.top;omega
 refine new λo n a g=>?_;refine X6 ω ?_;have b:=f.ext n;obtain⟨f,q,a⟩:=b.sl.at_ (by omega:0<z.length+1);have f:=lk z;refine Qz ((z.length:Nat):Int) ?_;rw[q];refine KU (j:=z.length) ω ?_;rw[show z.length*6=(Z2 z).length from f.symm];refine Jm (vs:=x.cells) rfl (λi u r=>?_) ?_;rw[add_add];exact a _ u (lj r);refine new λa s t f=>?_;refine Qo f λw3 t _ y=>?_;have a:Ext o w3:=X1 s f t;have f:=a.size;refine Qz ((z.length:Nat):Int) ?_;have f:=b.sl.le;refine bm (h:=z.length) Qe rfl rfl rfl rfl rfl rfl ω ?_;have f:=(h.ext n).ext a;have s:=g.ext a;have g:=b.ext a;refine Q3 rfl (Qp f.blk rfl ?_);have b:=h.dl;refine Qz ((v.d-1:Nat):Int) (Xv f.blk (show 2<10 by decide) λb g t=>?_);have B:Qr w0 b base p m {v with d:=v.d-1}:=f.put g t rfl rfl rfl f.nf (by show v.d-1<=65;omega);have f:¬o.heap.size=p.r:=λe=>by have:=h.rb;have:=h.top;omega
 have o:=y.mod g f;have t:=s.mod g l;have l:=Ext.drew b;refine Xw (Mod (·=w.heap.size) b) 5 (oz 4 0 [(false,4)]) (Mod.of_ext _ l) ?_;refine Xe (vs:=x.x.cells) rfl (λk s j u f=>by
  rw[add_add,(o.mod s ω).cell];match j,f with|0,f=>exact f|1,f=>exact f) ?_
 refine Qo (t.ext l) λw5 f _ k=>?_;have o:Mod (·=w.heap.size) b.drew w5:=vQB f rfl;have f:Mod (·=w.heap.size) b w5:=(Mod.of_ext _ l).trans o λ_=>.inl;refine⟨f,?_⟩;refine Qm k ?_;rw[<-q];exact⟨A,rfl,rfl,h.aside B rfl f (Qw _),(((Mod.of_ext (·=p.r) (n.trans a))).trans g λ_=>.inl).trans f λi r=>.inr ω⟩
theorem eQr (s:Γ)(z:χ SeV)(x:SeV)(A:Θ)(c:Nat)(fl:Nat)(d:Int)(w:θ)(q:∀b∈s,b<256)(r:s≠X5)(t:x.s.ot=true)(h:Qr w0 w base p m v)(l:Own w base 266 6 A (z.length+1) c (Z2 z++x.cells))(a:z.length<=64):
  Fn ψ 185 [.pointer (some ⟨p.r,0,none⟩),.string (Qb s),.slice A (z.length+1) c,.int .i64 fl,.int .i64 d] w (λu a=>u= .tuple #[.slice A (z.length+1) c,Q5 none 0 0 0]/\Qr w0 a base p m {v with b:=ZW v.b ⟨71,fl,d⟩}/\Mod (·=p.r) w a):=by
 refine QK Bo [] Tryz.func185 ?_;have f:¬w.heap.size=p.r:=λe=>by have:=h.rb;have:=h.top;omega
 refine new λy g a B=>?_;refine X6 ω ?_;have k:=l.ext g;obtain⟨n,l,a⟩:=k.sl.at_ (by omega:0<z.length+1);have n:=lk z;refine Qz ((z.length:Nat):Int) ?_;rw[l];refine KU (j:=z.length) ω ?_;rw[show z.length*6=(Z2 z).length from n.symm];refine Jm (vs:=x.cells) rfl (λi u n=>?_) ?_;rw[add_add];exact a _ u (lj n);refine new λa C D o=>?_;refine Qo o λw3 D _ E=>?_;have a:Ext y w3:=X1 C o D;have o:=a.size;refine Qz ((z.length:Nat):Int) ?_;have o:=k.sl.le;refine bm (h:=z.length) Qe rfl rfl rfl rfl rfl rfl ω ?_;have o:=(h.ext g).ext a;have y:=B.ext a;have B:=k.ext a;refine QX (by show decide (Qb s=Qb X5)=false;rw[rN q δ];exact XZ r) (Qp E rfl (Q3 t (call (et 71 fl d w3 o) ?_)));rintro _ k ⟨o,d⟩;refine Qo (y.mod d f) λw5 q _ r=>?_;have f:Mod (·=w.heap.size) k w5:=vQB q rfl;refine Qm r ?_;rw[<-l];exact⟨rfl,h.aside o rfl f (Qw _),((Mod.of_ext (·=p.r) (g.trans a)).trans d λ_=>.inl).trans f λi n=>.inr ω⟩
theorem pQd (z:χ SeV)(x:SeV)(A:Θ)(c:Nat)(fl:Nat)(a:Int)(w:θ)(s:x.s.ot=false)(h:Qr w0 w base p m v)(y:Own w base 266 6 A (z.length+1) c (Z2 z++x.cells))(d:z.length<=64):
  Fn ψ 185 [.pointer (some ⟨p.r,0,none⟩),.string (Qb J6),.slice A (z.length+1) c,.int .i64 fl,.int .i64 a] w (λu B=>∃g l,u= .tuple #[.slice g (z.length+1) l,Q5 x.y.A x.y.n x.y.c x.y.r]/\BrR w0 base p m v w (z++ [⟨{x.s with ot:=true},x.x,x.y⟩]) g l B):=by
 refine QK Bo [] Tryz.func185 ?_;have a:¬w.heap.size=p.r:=λe=>by have:=h.rb;have:=h.top;omega
 refine new λD q a t=>?_;refine X6 ω ?_;have d:=y.ext q;obtain⟨G,E,f⟩:=d.sl.at_ (by omega:0<z.length+1);have F:=lk z;refine Qz ((z.length:Nat):Int) ?_;rw[E];refine KU (j:=z.length) ω ?_;rw[show z.length*6=(Z2 z).length from F.symm];refine Jm (vs:=x.cells) rfl (λi u a=>?_) ?_;rw[add_add];exact f _ u (lj a);refine new λf C r o=>?_;refine Qo o λw3 H _ r=>?_;have f:Ext D w3:=X1 C o H;have o:=f.size;refine Qz ((z.length:Nat):Int) ?_;have o:=d.sl.le;refine bm (h:=z.length) Qe rfl rfl rfl rfl rfl rfl ω ?_;have o:=(h.ext q).ext f;have H:=t.ext f;have o:=d.ext f;refine QX rfl (Qp r rfl (QX s ?_));refine Jm (vs:=x.y.cells) rfl (λj u d=>by
  rw[add_add,r.cell];match j,d with|0,d=>exact d|1,d=>exact d) ?_
 refine new λo t C s=>?_;refine Qo s λw5 C _ I=>?_;have o:Ext w3 w5:=X1 t s C;refine Q3 rfl (Xv (r.ext o) (show 4<6 by decide) λwA s C=>?_);have r:=(q.trans f).trans o;have t:Ext w wA:=s.ext r λi a=>ω;have f:=o.size;have P:=(H.ext o).mod s ω;have o:=I.mod s ω;have H:=y.ext t;let f:SeV:=⟨{x.s with ot:=true},x.x,x.y⟩
 let I:DV:=x.y
 have C:Blk wA D.heap.size 266 f.cells:=C;have D:∀(q:Θ) (r:Nat) (wE wF:θ),Ext wA wE->Own wE wA.heap.size 266 6 q (z.length+1) r (Z2 z++f.cells)->Mod (·=w.heap.size) wE wF->∃g l,(Value.tuple #[.slice q (z.length+1) r,Q5 x.y.A x.y.n x.y.c x.y.r]:τ)= .tuple #[.slice g (z.length+1) l,Q5 x.y.A x.y.n x.y.c x.y.r]/\BrR w0 base p m v w (z++ [⟨{x.s with ot:=true},x.x,x.y⟩]) g l wF:=λq r wE wF l g y=>by have J:=t.size;have J:=h.top;refine⟨q,r,rfl,h.aside (h.ext (t.trans l)) rfl y (Qw _),(Mod.of_ext (·=p.r) (t.trans l)).trans y λi a=>.inr ω,?_,λi a=>by have:=(g.rows i a).1;omega⟩;rw[Qy,ep];exact(g.mod y λi a e=>by have:=(g.rows i a).1;have:=s.size;omega).up ω
 have M:=Ext.drew wA;have Q:Sl wA 6 (some G) z.length c (Z2 z):=by have:=(H.take (k:=z.length) ω).sl;rw[uw (by rw[F]),E] at this;exact this
 refine nM Qe (Ext wA) 8 (.quiet 1 (.quiet 3 (.quiet 6 (.fork 0 (.fork 2 (.fork 4 (.fork 5 (.quiet 7 .done) .skip) .skip) (.fork 4 (.fork 2 (.fork 5 (.quiet 7 .done) .skip) .skip) .skip)) (.fork 4 (.fork 0 (.fork 2 (.fork 5 (.quiet 7 .done) .skip) .skip) .skip) .skip))))) κ M (Xe (vs:=f.cells) rfl (λB l j u d=>by rw[(C.ext l).cell];exact d) (Xe (vs:=I.cells) rfl (λB l j u d=>by rw[(o.ext l).cell];exact d) ?_));refine⟨?_,?_⟩;refine d8 ?_;intro N O Us R;have s:=M.trans O;refine⟨s,?_⟩;have E:Own N wA.heap.size 266 6 (some ⟨wA.drew.heap.size,0,none⟩) 0 0 (Z2 []):=Own.empty R (M).size;refine⟨?_,?_⟩;refine XV (n:=0) (E) (Q.ext s) (vn gV _) (by unfold maxLen;omega) (s).size ?_ (b:=(by show(0+z.length)*80<=_;omega));intro V W wD F C X;have t:Ext wA wD:=F.ext (s) λi a=>(Own.rows (E) i a).1;refine⟨t,?_⟩;refine⟨?_,trivial⟩;refine XM (f.cells) ?_;intro G B Y H;have l:=t.trans B;refine⟨l,?_⟩;have I:Sl G 6 (some ⟨wD.heap.size,0,none⟩) 1 1 f.cells:=Sl.own (sz:=6) (n:=1) H (Qw _) δ (by simp[SeV.cells]);refine⟨?_,trivial⟩;refine XV (n:=0+z.length) (C.ext B) I (gV f) (by unfold maxLen;omega) (l).size ?_ (b:=(by show(0+z.length+1)*80<=_;omega));intro q r wE J g Z;have o:Ext wA wE:=J.ext (l) λi a=>(Own.rows (C.ext B) i a).1;refine⟨o,?_⟩;refine Qo (P.ext o) λwF K _ L=>?_;have y:Mod (·=w.heap.size) wE wF:=vQB K rfl;refine Qm L ?_;rw[show 0+z.length+1=z.length+1 by omega] at g ⊢;exact D q r wE wF o g y;refine⟨?_,trivial⟩;refine XM (f.cells) ?_;intro G B Y H;have l:=s.trans B;refine⟨l,?_⟩;have I:Sl G 6 (some ⟨N.heap.size,0,none⟩) 1 1 f.cells:=Sl.own (sz:=6) (n:=1) H (Qw _) δ (by simp[SeV.cells]);refine⟨?_,trivial⟩;refine XV (n:=0) (E.ext (B)) (Q.ext l) (vn gV _) (by unfold maxLen;omega) (l).size ?_ (b:=(by show(0+z.length)*80<=_;omega));intro V W wD F C X;have t:Ext wA wD:=F.ext (l) λi a=>(Own.rows (E.ext (B)) i a).1;refine⟨t,?_⟩;refine⟨?_,trivial⟩;refine XV (n:=0+z.length) (C) (I.modS F λ_ i a d=>by obtain⟨a1,S,rfl⟩:=a;obtain⟨a2,T,U⟩:=d;cases S;cases T;simp only at U;omega) (gV f) (by unfold maxLen;omega) (t).size ?_ (b:=(by show(0+z.length+1)*80<=_;omega));intro q r wE J g Z;have o:Ext wA wE:=J.ext (t) λi a=>(Own.rows (C) i a).1;refine⟨o,?_⟩;refine Qo (P.ext o) λwF K _ L=>?_;have y:Mod (·=w.heap.size) wE wF:=vQB K rfl;refine Qm L ?_;rw[show 0+z.length+1=z.length+1 by omega] at g ⊢;exact D q r wE wF o g y;refine⟨?_,trivial⟩;refine XM (f.cells) ?_;intro G B Y H;have l:=M.trans B;refine⟨l,?_⟩;have I:Sl G 6 (some ⟨wA.drew.heap.size,0,none⟩) 1 1 f.cells:=Sl.own (sz:=6) (n:=1) H (Qw _) δ (by simp[SeV.cells]);refine⟨?_,trivial⟩;refine d8 ?_;intro N O Us R;have s:=l.trans O;refine⟨s,?_⟩;have E:Own N wA.heap.size 266 6 (some ⟨G.heap.size,0,none⟩) 0 0 (Z2 []):=Own.empty R (l).size;refine⟨?_,trivial⟩;refine XV (n:=0) (E) (Q.ext s) (vn gV _) (by unfold maxLen;omega) (s).size ?_ (b:=(by show(0+z.length)*80<=_;omega));intro V W wD F C X;have t:Ext wA wD:=F.ext (s) λi a=>(Own.rows (E) i a).1;refine⟨t,?_⟩;refine⟨?_,trivial⟩;refine XV (n:=0+z.length) (C) ((I.ext O).modS F λ_ i a d=>by obtain⟨a1,S,rfl⟩:=a;obtain⟨a2,T,U⟩:=d;cases S;cases T;simp only at U;omega) (gV f) (by unfold maxLen;omega) (t).size ?_ (b:=(by show(0+z.length+1)*80<=_;omega));intro q r wE J g Z;have o:Ext wA wE:=J.ext (t) λi a=>(Own.rows (C) i a).1;refine⟨o,?_⟩;refine Qo (P.ext o) λwF K _ L=>?_;have y:Mod (·=w.heap.size) wE wF:=vQB K rfl;refine Qm L ?_;rw[show 0+z.length+1=z.length+1 by omega] at g ⊢;exact D q r wE wF o g y
theorem pQe (F:Γ)(z:χ SeV)(x:SeV)(A:Θ)(c:Nat)(fl:Nat)(E:Int)(w:θ)(D:QPok w0 p)(r:∀b∈F,b<256)(a:F.length<=1000000000)(H:x.s.ot=false)(h:Qr w0 w base p m v)(U:Own w base 266 6 A (z.length+1) c (Z2 z++x.cells))(f:z.length<=64)(Q:DgO w (TQ p m) p.nm.length x.y x.s.re)(YC:∀i,Qj A i->¬i=p.r):
  Fn ψ 185 [.pointer (some ⟨p.r,0,none⟩),.string (Qb (pElif++F)),.slice A (z.length+1) c,.int .i64 fl,.int .i64 E] w (λu I=>∃(C:Θ) (J:Nat) (o:BF) (b d:DV),(∀i,Qj C i->(∀a,b.A=some a->0<b.n->a.block<i)/\∀a,d.A=some a->0<d.n->a.block<i)/\u= .tuple #[.slice C (z.length+1) J,Q5 b.A b.n b.c b.r]/\(∀K,Jn p.nm F= .ok K->o=K)/\SB I b.A b.n b.c b.nd/\Set1 p.nm.length b.nd b.r (Jw x.s.re o)/\sm w b/\SB I d.A d.n d.c d.nd/\Set1 p.nm.length d.nd d.r (Vm x.s.re o)/\sm w d/\BrR w0 base p m {v with b:=cQ v.b fl E (Jn p.nm F)} w (z++ [⟨{x.s with re:=Vm x.s.re o},x.x,d⟩]) C J I):=by
 refine QK Bo [] Tryz.func185 ?_;have y:¬w.heap.size=p.r:=λe=>by have:=h.rb;have:=h.top;omega
 refine new λL q f G=>?_;refine X6 ω ?_;have g:=U.ext q;obtain⟨oa,V,l⟩:=g.sl.at_ (by omega:0<z.length+1);have W:=lk z;refine Qz ((z.length:Nat):Int) ?_;rw[V];refine KU (j:=z.length) ω ?_;rw[show z.length*6=(Z2 z).length from W.symm];refine Jm (vs:=x.cells) rfl (λi u f=>?_) ?_;rw[add_add];exact l _ u (lj f);refine new λl M B s=>?_;refine Qo s λw3 N _ B=>?_;have l:Ext L w3:=X1 M s N;have s:=l.size;refine Qz ((z.length:Nat):Int) ?_;have s:=g.sl.le;refine bm (h:=z.length) Qe rfl rfl rfl rfl rfl rfl ω ?_;have s:=(h.ext q).ext l;have N:=G.ext l;have s:=g.ext l;have G:∀b∈pElif++F,b<256:=yN δ r;have O:=QZ (pElif++F);have g:(pElif++F).length=6+F.length:=by simp[pElif];omega
 refine QX (by show decide (Qb (pElif++F)=Qb X5)=false;rw[rN G δ];simp[pElif,X5]) (Qp B rfl (QX H ?_));refine Jm (vs:=x.y.cells) rfl (λj u g=>by
  rw[add_add,B.cell];match j,g with|0,g=>exact g|1,g=>exact g) ?_
 refine new λs M P H=>?_;refine Qo H λw5 P _ S=>?_;have s:Ext w3 w5:=X1 M H P;have H:=s.size;have M:=(q.trans l).trans s;refine QX (by show decide (Qb (pElif++F)=Qb J6)=false;rw[rN G δ];simp[pElif,J6]) ?_;refine XF (v':=.string (Qb F)) ⟨δ,ω,ω⟩ (by
  rw[Kj,O];simp only[WX];rw[ZJ (Qw _)];rfl) ?_
 have l:=h.ext M;refine call (eQo F fl E w5 D l r ω) ?_;rintro _ H ⟨t,o,rfl,O,q,G,R,T,Zb⟩;have l:=q.size;refine new λl X P r=>?_;refine Qo r λw8 Y _ P=>?_;have l:Ext H w8:=X1 X r Y;have r:=l.size;have H:∀i,w.heap.size<=i->¬i=p.r:=λi f e=>by have:=h.rb;have:=h.top;omega
 have r:=((B.ext s).mod q (H _ ω)).ext l;have B:=(S.mod q (H _ ω)).ext l;have gj:=((N.ext s).mod q y).ext l;have H:Mod (·=p.r) w w8:=((Mod.of_ext (·=p.r) M).trans q λ_=>.inl).trans (Mod.of_ext _ l) λ_=>.inl;have N:=O.ext l;have y:DgO w8 (TQ p m) p.nm.length x.y x.s.re:=Q.keep H λi f=>.inl (.inl (.inl f));have S:=G.ext l;refine Jm (vs:=x.y.cells) rfl (λj u g=>by
  rw[add_add,r.cell];match j,g with|0,g=>exact g|1,g=>exact g) ?_
 refine Qm P (call (vp D.nmk x.y.A x.y.n x.y.c t.A t.n t.c w8 y.sb S y.st R) ?_);rintro _ X ⟨Y,Z,bc,M,br,rfl,q,I9,qU,O⟩;have l:=q.size;refine Qo (B.ext q) λQu l _ Zo=>?_;have s:Mod (·=w3.heap.size) X Qu:=vQB l rfl;have B:=(r.ext q).mod s ω;have r:=(P.ext q).mod s ω;have P:=(gj.ext q).mod s ω;have V5:∀a,x.y.A=some a->0<x.y.n->a.block<w.heap.size:=λa e l=>SB.lt Q.sb a e l;have Q:SB Qu x.y.A x.y.n x.y.c x.y.nd:=SB.modo (y.sb.ext q) s (λa e l G=>by have:=V5 a e l;omega);have RE:SB Qu t.A t.n t.c t.nd:=SB.modo (S.ext q) s (λa e l G=>by have:=T a e l;omega);have S:=s.size;refine Jm (vs:=x.y.cells) rfl (λj u g=>by
  rw[add_add,B.cell];match j,g with|0,g=>exact g|1,g=>exact g) ?_
 refine Qm r (call (OG D.nmk x.y.A x.y.n x.y.c t.A t.n t.c Qu Q RE y.st R) ?_);rintro _ Q ⟨T,dn,dc,r,dr,rfl,y,oy,jD,R⟩;have D:=y.size;refine iY (B.ext y) (show 2+2<=6 by decide) (sc rfl) λwA D _ S=>?_;have B:Mod (·=L.heap.size) Q wA:=vQB D rfl;have D:=B.size;let d:DV:=⟨T,dn,dc,r,dr⟩
 let r:SeV:=⟨{x.s with re:=Vm x.s.re o},x.x,d⟩
 let D:DV:=⟨Y,Z,bc,M,br⟩
 have S:Blk wA L.heap.size 266 r.cells:=S;have T:=(P.ext y).mod B ω;have SJ:Blk wA w3.heap.size 32 D.cells:=(Zo.ext y).mod B ω;have L:SB wA d.A d.n d.c d.nd:=SB.modo (w:=Q) oy B (λa e l G=>by have:=R a.block ⟨a,e,rfl⟩;omega);have M:SB wA D.A D.n D.c D.nd:=SB.modo (w:=Q) ((SB.modo (w:=X) I9 s λa e l G=>by have:=O a.block ⟨a,e,rfl⟩;omega).ext y) B (λa e l G=>by have:=O a.block ⟨a,e,rfl⟩;omega);have P:Qr w0 Qu base p m {v with b:=cQ v.b fl E (Jn p.nm F)}:=h.aside (N.ext q) rfl s ω;have Q:Qr w0 wA base p m {v with b:=cQ v.b fl E (Jn p.nm F)}:=h.aside (P.ext y) rfl B ω;have N:Mod (·=p.r) w wA:=(((H.trans (Mod.of_ext (·=p.r) q) λ_=>.inl).trans s λi f=>.inr ω).trans (Mod.of_ext (·=p.r) y) λ_=>.inl).trans B λi f=>.inr ω;have P:=U.mod N YC;have H:∀(y:Θ) (B:Nat) (wE wF:θ),Ext wA wE->Own wE wA.heap.size 266 6 y (z.length+1) B (Z2 z++r.cells)->Mod (·=w.heap.size) wE wF->∃(C:Θ) (J:Nat) (o:BF) (b d:DV),(∀i,Qj C i->(∀a,b.A=some a->0<b.n->a.block<i)/\∀a,d.A=some a->0<d.n->a.block<i)/\(Value.tuple #[.slice y (z.length+1) B,Q5 Y Z bc br]:τ)= .tuple #[.slice C (z.length+1) J,Q5 b.A b.n b.c b.r]/\(∀K,Jn p.nm F= .ok K->o=K)/\SB wF b.A b.n b.c b.nd/\Set1 p.nm.length b.nd b.r (Jw x.s.re o)/\sm w b/\SB wF d.A d.n d.c d.nd/\Set1 p.nm.length d.nd d.r (Vm x.s.re o)/\sm w d/\BrR w0 base p m {v with b:=cQ v.b fl E (Jn p.nm F)} w (z++ [⟨{x.s with re:=Vm x.s.re o},x.x,d⟩]) C J wF:=λy B wE wF C q s=>by have E:=h.top;refine⟨y,B,o,D,d,λi f=>⟨λa e l=>by have:=(q.rows i f).1;have:=SB.lt M a e l;omega,λa e l=>by have:=(q.rows i f).1;have:=SB.lt L a e l;omega⟩,rfl,Zb,SB.modo (w:=wE) (M.ext C) s (λa e l G=>by have:=O a.block ⟨a,e,rfl⟩;omega),qU.congr (λe=>by simp[J5]),λa e l=>by have:=O a.block ⟨a,e,rfl⟩;omega,SB.modo (w:=wE) (L.ext C) s (λa e l G=>by have:=R a.block ⟨a,e,rfl⟩;omega),jD,λa e l=>by have:=R a.block ⟨a,e,rfl⟩;omega,h.aside (Q.ext C) rfl s (Qw _),(N.trans (Mod.of_ext (·=p.r) C) λ_=>.inl).trans s λi f=>.inr ω,?_,λi f=>by have:=(q.rows i f).1;omega⟩;rw[Qy,ep];exact(q.mod s λi f e=>by have:=(q.rows i f).1;omega).up ω
 have Q:=Ext.drew wA;have U:Sl wA 6 (some oa) z.length c (Z2 z):=by have:=(P.take (k:=z.length) ω).sl;rw[uw (by rw[W]),V] at this;exact this
 refine nM Qe (Ext wA) 8 (.quiet 1 (.quiet 3 (.quiet 6 (.fork 0 (.fork 2 (.fork 4 (.fork 5 (.quiet 7 .done) .skip) .skip) (.fork 4 (.fork 2 (.fork 5 (.quiet 7 .done) .skip) .skip) .skip)) (.fork 4 (.fork 0 (.fork 2 (.fork 5 (.quiet 7 .done) .skip) .skip) .skip) .skip))))) κ Q (Xe (vs:=r.cells) rfl (λI a j u g=>by rw[(S.ext a).cell];exact g) (Xe (vs:=D.cells) rfl (λI a j u g=>by rw[(SJ.ext a).cell];exact g) ?_));refine⟨?_,?_⟩;refine d8 ?_;intro R S Us V;have C:=Q.trans S;refine⟨C,?_⟩;have I:Own R wA.heap.size 266 6 (some ⟨wA.drew.heap.size,0,none⟩) 0 0 (Z2 []):=Own.empty V (Q).size;refine⟨?_,?_⟩;refine XV (n:=0) (I) (U.ext C) (vn gV _) (by unfold maxLen;omega) (C).size ?_ (b:=(by show(0+z.length)*80<=_;omega));intro Z c1 wD J G EY;have D:Ext wA wD:=J.ext (C) λi f=>(Own.rows (I) i f).1;refine⟨D,?_⟩;refine⟨?_,trivial⟩;refine XM (r.cells) ?_;intro K E EZ L;have a:=D.trans E;refine⟨a,?_⟩;have M:Sl K 6 (some ⟨wD.heap.size,0,none⟩) 1 1 r.cells:=Sl.own (sz:=6) (n:=1) L (Qw _) δ (by simp[SeV.cells]);refine⟨?_,trivial⟩;refine XV (n:=0+z.length) (G.ext E) M (gV r) (by unfold maxLen;omega) (a).size ?_ (b:=(by show(0+z.length+1)*80<=_;omega));intro y B wE N q E0;have l:Ext wA wE:=N.ext (a) λi f=>(Own.rows (G.ext E) i f).1;refine⟨l,?_⟩;refine Qo (T.ext l) λwF O _ P=>?_;have s:Mod (·=w.heap.size) wE wF:=vQB O rfl;refine Qm P ?_;rw[show 0+z.length+1=z.length+1 by omega] at q ⊢;exact H y B wE wF l q s;refine⟨?_,trivial⟩;refine XM (r.cells) ?_;intro K E EZ L;have a:=C.trans E;refine⟨a,?_⟩;have M:Sl K 6 (some ⟨R.heap.size,0,none⟩) 1 1 r.cells:=Sl.own (sz:=6) (n:=1) L (Qw _) δ (by simp[SeV.cells]);refine⟨?_,trivial⟩;refine XV (n:=0) (I.ext (E)) (U.ext a) (vn gV _) (by unfold maxLen;omega) (a).size ?_ (b:=(by show(0+z.length)*80<=_;omega));intro Z c1 wD J G EY;have D:Ext wA wD:=J.ext (a) λi f=>(Own.rows (I.ext (E)) i f).1;refine⟨D,?_⟩;refine⟨?_,trivial⟩;refine XV (n:=0+z.length) (G) (M.modS J λ_ i f g=>by obtain⟨a1,W,rfl⟩:=f;obtain⟨a2,X,Y⟩:=g;cases W;cases X;simp only at Y;omega) (gV r) (by unfold maxLen;omega) (D).size ?_ (b:=(by show(0+z.length+1)*80<=_;omega));intro y B wE N q E0;have l:Ext wA wE:=N.ext (D) λi f=>(Own.rows (G) i f).1;refine⟨l,?_⟩;refine Qo (T.ext l) λwF O _ P=>?_;have s:Mod (·=w.heap.size) wE wF:=vQB O rfl;refine Qm P ?_;rw[show 0+z.length+1=z.length+1 by omega] at q ⊢;exact H y B wE wF l q s;refine⟨?_,trivial⟩;refine XM (r.cells) ?_;intro K E EZ L;have a:=Q.trans E;refine⟨a,?_⟩;have M:Sl K 6 (some ⟨wA.drew.heap.size,0,none⟩) 1 1 r.cells:=Sl.own (sz:=6) (n:=1) L (Qw _) δ (by simp[SeV.cells]);refine⟨?_,trivial⟩;refine d8 ?_;intro R S Us V;have C:=a.trans S;refine⟨C,?_⟩;have I:Own R wA.heap.size 266 6 (some ⟨K.heap.size,0,none⟩) 0 0 (Z2 []):=Own.empty V (a).size;refine⟨?_,trivial⟩;refine XV (n:=0) (I) (U.ext C) (vn gV _) (by unfold maxLen;omega) (C).size ?_ (b:=(by show(0+z.length)*80<=_;omega));intro Z c1 wD J G EY;have D:Ext wA wD:=J.ext (C) λi f=>(Own.rows (I) i f).1;refine⟨D,?_⟩;refine⟨?_,trivial⟩;refine XV (n:=0+z.length) (G) ((M.ext S).modS J λ_ i f g=>by obtain⟨a1,W,rfl⟩:=f;obtain⟨a2,X,Y⟩:=g;cases W;cases X;simp only at Y;omega) (gV r) (by unfold maxLen;omega) (D).size ?_ (b:=(by show(0+z.length+1)*80<=_;omega));intro y B wE N q E0;have l:Ext wA wE:=N.ext (D) λi f=>(Own.rows (G) i f).1;refine⟨l,?_⟩;refine Qo (T.ext l) λwF O _ P=>?_;have s:Mod (·=w.heap.size) wE wF:=vQB O rfl;refine Qm P ?_;rw[show 0+z.length+1=z.length+1 by omega] at q ⊢;exact H y B wE wF l q s
end
end
section
def vw (s:Γ):Bool:=match X3 s with|.txt=>false|_=>true
theorem ji (s:Γ)(w:θ)(f:∀b∈s,b<256):Fn ψ 179 [.string (Qb s)] w (λv a=>v= .bool (vw s)/\w=a):=by
 refine QK jQv [] Tryz.func179 ?_;have h:=rN f (show∀b∈J6,b<256 by decide);have i:=rN f (show∀b∈X5,b<256 by decide);refine call (Hm s Zd w f δ) ?_;rintro _ _ ⟨rfl,rfl⟩;have e:vw s=(Zd.isPrefixOf s||pInc.isPrefixOf s||pElif.isPrefixOf s||decide (s=J6)||decide (s=X5)):=by unfold vw X3;cases c:Zd.isPrefixOf s<;>cases d:pInc.isPrefixOf s<;>cases g:pElif.isPrefixOf s<;>by_cases a:s=J6<;>by_cases j:s=X5<;>simp[a,j,show¬X5=J6 by decide]
 rw[e];refine Z0 (λc=>?_) λc=>?_;rw[c];exact⟨rfl,rfl⟩;refine call (Hm s pElif w f δ) ?_;rintro _ _ ⟨rfl,rfl⟩;refine Z0 (λd=>?_) λd=>?_;rw[c,d];exact⟨by simp,rfl⟩;refine call (Hm s pInc w f δ) ?_;rintro _ _ ⟨rfl,rfl⟩;refine Z0 (λg=>?_) λg=>?_;rw[c,d,g];exact⟨by simp,rfl⟩;refine Z0 (λa=>?_) λa=>?_;have a:decide (Qb s=Qb J6)=true:=a;rw[h] at a;rw[c,d,g,a];exact⟨by simp,rfl⟩;have a:decide (Qb s=Qb J6)=false:=a;rw[h] at a;rw[c,d,g,a];refine⟨?_,rfl⟩;show Value.bool (decide (Qb s=Qb X5))=_;rw[i];simp
def aL (p:QP)(f n:Nat)(a:Γ):lm:=λr b d k g=>match eo (ZS (p.fs.map (·.1))) (n::a) r with|.error e=>.error ⟨e,n,b⟩|.ok m=>if d=64 then .error ⟨2,n,b⟩else Yc p.nm p.fs f (n::a) (d+1) m k g
def CJ (e:θ)(a:Nat)(p:QP)(m:QM)(v:QV)(R:Except Pl Gs)(w d:θ):Prop:=∃(c:QM)(b:QV),c.T=m.T/\Qr e d a p c b/\Mod (QS p m) w d/\Moved w m.OA c.OA/\Moved w m.DA c.DA/\b.rd=v.rd/\match R with|.ok f=>b={v with g:=f}|.error q=>b.b=q/\q.e≠0/\v.d<=b.d
def eQs (b:θ)(a:Nat)(p:QP)(f:Nat):Prop:=∀(m:QM)(v:QV)(n:Nat)(k:DV)(o:BF)(w:θ),Qr b w a p m v->DgO w (TQ p m) p.nm.length k o->n<p.fs.length->n∉v.rd->v.d<=64->65<=f+v.d->v.b.e=0->v.rd.length<=v.d->
 Fn Tryz.prog 126 [.pointer (some ⟨p.r,0,none⟩),.int .i64 n,Q5 k.A k.n k.c k.r] w λ_ c=>CJ b a p m v (Yc p.nm p.fs f v.rd v.d n o v.g) w c
theorem pQf {s a:Γ}(h:s=34::(a++ [34])):s.count 34=a.count 34+2:=by subst h;simp[AM,AR]
theorem pQg {s:Γ}(e:¬s.length<2)(c:s.head? =some 34)(d:s.getLast? =some 34):s=34::((s.drop 1).take (s.length-2)++ [34]):=by
 cases s with
 |nil=>cases c
 |cons a s=>
  have:a=34:=by simpa using c
  subst this;obtain rfl|⟨l,b,rfl⟩:=kS s;simp at e;have c:b=34:=by rw[show(34::l.concat b).getLast? =some b by simp[List.getLast?_cons]] at d;exact Option.some.inj d
  subst c;simp
theorem pQh {G:θ}{c:Nat}{p:QP}{f:Nat}(ih:eQs G c p f)(m:QM)(v:QV)(n:Nat)(z:Γ)(s:Γ)(l:Nat)(k:DV)(o:BF)(w:θ)(hP:QPok G p)(h:Qr G w c p m v)(hk:DgO w (TQ p m) p.nm.length k o)(h8:∀b∈s,b<256)(me:s.length<=1000000000)(O:v.rd=n::z)(hd:v.d<=64)(hf:64<=f+v.d)(J:v.b.e=0)(V:v.rd.length<=v.d+1):Fn ψ 184 [.pointer (some ⟨p.r,0,none⟩),.string (Qb s),Q5 k.A k.n k.c k.r,.int .i64 n,.int .i64 l] w (λ_ Z=>CJ G c p m v (aL p f n z s l v.d o v.g) w Z):=by
 have XC:=QZ s;have Wt:=We h8;refine QK jQA [] Tryz.func184 ?_;refine new λA L Q0 Qh=>?_;have B:=h.ext L;have t:∀(e:Int),e≠0->aL p f n z s l v.d o v.g= .error ⟨e,n,l⟩->∀w2,Qr G w2 c p m {v with b:=ZW v.b ⟨e,(n:Int),(l:Int)⟩}->Mod (·=p.r) A w2->CJ G c p m v (aL p f n z s l v.d o v.g) w w2:=λe he hq w2 a r=>by rw[hq];exact⟨m,_,rfl,a,((Mod.of_ext (QS p m) L).trans (r.mono (S':=QS p m) λi E=>.inl (.inl E)) λ_=>.inl),Moved.refl _ _,Moved.refl _ _,rfl,by show ZW v.b ⟨e,n,l⟩=_;exact Qf J,he,Qw _⟩
 have P:(s.length<2∨s.head? ≠some 34∨s.getLast? ≠some 34∨s.count 34≠2)->aL p f n z s l v.d o v.g= .error ⟨71,n,l⟩:=λD=>by unfold aL;rw[Cs D]
 refine Ql (λc1=>?_) λc1=>?_;refine call (et 71 n l A B) ?_;rintro _ w2 ⟨a,r⟩;exact t 71 δ (P (.inl ω)) w2 a r;have hs:¬s.length<2:=by omega
 refine Wd (j:=0) ω λx hx eM=>?_;rw[Wt] at hx;have Q:s.head? =some x:=by rw[List.head?_eq_getElem?];exact hx
 refine Ya (λc2=>?_) λc2=>?_;refine call (et 71 n l A B) ?_;rintro _ w2 ⟨a,r⟩;exact t 71 δ (P (.inr (.inl (by rw[Q];intro e;cases e;exact c2 rfl)))) w2 a r;have Ry:x=34:=by omega
 refine Qz ((s.length-1:Nat):Int) ?_ (hm:=by rw[XC];omega);refine Wd (j:=s.length-1) ω λy hy EM=>?_;rw[Wt] at hy;have T:s.getLast? =some y:=by rw[oW];exact hy
 refine Ya (λc3=>?_) λc3=>?_;refine call (et 71 n l A B) ?_;rintro _ w2 ⟨a,r⟩;exact t 71 δ (P (.inr (.inr (.inl (by rw[T];intro e;cases e;exact c3 rfl))))) w2 a r;have Rz:y=34:=by omega
 subst Ry;subst Rz;have Y:=pQg hs Q T;have kx:=pQf Y;refine Qz ((s.length-1:Nat):Int) ?_ (hm:=by rw[XC];omega);refine XF (v':=.string (Qb ((s.drop 1).take (s.length-2)))) ⟨δ,ω,ω⟩ (by
  rw[Kj];simp only[WX,Int.toNat_one];rw[dm];congr 3) ?_
 have H6:∀b∈(s.drop 1).take (s.length-2),b<256:=λb J=>h8 b (a8 (aw J));have JP:((s.drop 1).take (s.length-2)).length<=s.length:=by rw[KR];omega
 have kG:(s.drop 1).take (s.length-2)=(s.drop 1).take (s.length-2):=rfl;have oP:∀q,eo q (n::z) s=if s.length<2∨s.head? ≠some 34∨s.getLast? ≠some 34∨s.count 34≠2 then .error 71 else match q ((s.drop 1).take (s.length-2))with|none=>.error 73|some n'=>if n'∈n::z then .error 73 else .ok n':=λq=>cQM q _ _
 generalize ku:(s.drop 1).take (s.length-2)=nm at*;have cE:=QZ nm;have Kq:=We H6;refine loop Qe [11] (λi:Nat=>[.int .i64 i]) (λi Z=>A=Z/\i<=nm.length/\34∉nm.take i) (λi _=>nm.length-i) 0 rfl ⟨rfl,Q9 _,by simp⟩ ?_;rintro i _ ⟨rfl,E,S⟩;refine Ql (λc4=>?_) λc4=>?_;have KF:i<nm.length:=by omega
 refine Wd (j:=i) ω λb W _=>?_;rw[Kq] at W;refine X0 (λc5=>?_) λc5=>?_;refine call (et 71 n l A B) ?_;rintro _ w2 ⟨a,r⟩;refine t 71 δ (P (.inr (.inr (.inr ?_)))) w2 a r;have:34∈nm:=by have:=Xd W;rwa [show b=34 by omega] at this
 have:=UZ.2 this;omega;refine QF i ?_;refine⟨i+1,rfl,⟨rfl,ω,?_⟩,QL⟩;rw[JT,W];simp only[rz,X2,Xx,not_or];exact⟨S,λe=>c5 ω⟩;have KF:i=nm.length:=by omega
 rw[KF,ry] at S;have nR:nm.count 34=0:=List.count_eq_zero.2 S;have I:¬(s.length<2∨s.head? ≠some 34∨s.getLast? ≠some 34∨s.count 34≠2):=by rintro(D|D|D|D);exact hs D;exact D Q;exact D T;omega
 have C:=oP (ZS (p.fs.map (·.1)));rw[φ I] at C;refine call (eQq nm A hP B H6) ?_;rintro _ _ ⟨rfl,rfl⟩;have F:aL p f n z s l v.d o v.g=match eo (ZS (p.fs.map (·.1))) (n::z) s with|.error e=>.error ⟨e,n,((l:Nat):Int)⟩|.ok m=>if v.d=64 then .error ⟨2,n,((l:Nat):Int)⟩else Yc p.nm p.fs f (n::z) (v.d+1) m o v.g:=rfl
 cases R:ZS (p.fs.map (·.1)) nm with|none=>rw[R] at C;refine Zm (show(-1:Int)<0 by decide) (call (et 73 n l A B) ?_);rintro _ w2 ⟨a,r⟩;exact t 73 δ (by rw[F,C]) w2 a r|some n'=>
  rw[R] at C;simp only at C;refine XB (show¬((n':Nat):Int)<0 by omega) (call (pQa n' A B) ?_);rintro _ _ ⟨rfl,rfl⟩;rw[O];by_cases K:n'∈n::z;rw[Qf K] at C;refine Zm K (call (et 73 n l A B) ?_);rintro _ w2 ⟨a,r⟩;exact t 73 δ (by rw[F,C]) w2 a r;rw[φ K] at C;rw[C] at F;simp only at F;refine XB K ?_;have K8:n'<p.fs.length:=by have:=ld R;simpa using this
  refine call (eQp n l A B hd) ?_;rintro _ w2 ⟨a,r⟩;have uQG:=a.dl;by_cases aQ:v.d=64;rw[Qf aQ] at F a;have N:ZW v.b ⟨2,(n:Int),(l:Int)⟩=⟨2,n,l⟩:=Qf J;rw[N] at a;refine lv a.blk rfl (X6 (show¬(2:Int)=0 by decide) (Qp a.blk rfl (Qz ((v.d:Nat):Int) ?_ (hm:=by show((v.d+1:Nat):Int)-1=_;omega))));refine Xv a.blk (show 2<10 by decide) λw3 ZG Qt=>?_;have H:Qr G w3 c p m {v with b:=⟨2,n,l⟩}:=a.put ZG Qt rfl rfl rfl a.nf h.dl;exact t 2 δ F w3 (by rw[N];exact H) (r.trans ZG λ_=>.inl);rw[φ aQ] at F a;refine lv a.blk rfl (JF J ?_);have X:¬w.heap.size=p.r:=λe=>by have:=h.rb;have:=h.top;omega
  refine Qm (Qh.mod r X) ?_;have V3:DgO w2 (TQ p m) p.nm.length k o:=(hk.ext L).keep r λi E=>.inl (.inl (.inl E));refine call (ih m {v with d:=v.d+1} n' k o w2 a V3 K8 (by show n'∉v.rd;rw[O];exact K) (by show v.d+1<=64;omega) (by show 65<=f+(v.d+1);omega) J (by show v.rd.length<=v.d+1;exact V)) ?_;rintro _ w3 ⟨m',v',iS,H,XL,zl,Rj,Rv,u⟩;have u:match Yc p.nm p.fs f v.rd (v.d+1) n' o v.g with|.ok U=>v'={{v with d:=v.d+1}with g:=U}|.error q=>v'.b=q/\q.e≠0/\v.d+1<=v'.d:=u
  rw[O] at u;have Ut:v.d+1<=v'.d:=by cases M:Yc p.nm p.fs f (n::z) (v.d+1) n' o v.g with|ok U=>rw[M] at u;rw[u];exact Qw _|error q=>rw[M] at u;exact u.2.2
  have uQH:=H.dl;refine Qp H.blk rfl (Qz ((v'.d-1:Nat):Int) (Xv H.blk (show 2<10 by decide) λw4 ZQ QU=>?_));have h4:Qr G w4 c p m' {v' with d:=v'.d-1}:=H.put ZQ QU rfl rfl rfl H.nf (by show v'.d-1<=65;omega);have Dl:=r.size;have rQ4:=L.size;have ZV:Mod (QS p m) w w3:=((Mod.of_ext (QS p m) L).trans (r.mono (S':=QS p m) λi E=>.inl (.inl E)) λ_=>.inl).trans XL λ_=>.inl;refine⟨m',{v' with d:=v'.d-1},iS,h4,ZV.trans ZQ λi E=>.inl (.inl E),zl.back ω,Rj.back ω,Rv,?_⟩;rw[F];cases M:Yc p.nm p.fs f (n::z) (v.d+1) n' o v.g with|ok U=>rw[M] at u;simp only at u ⊢;rw[u];simp only[Nat.add_sub_cancel,O]|error q=>rw[M] at u;simp only at u ⊢;exact⟨u.1,u.2.1,by show v.d<=v'.d-1;omega⟩
theorem Qr.pop {b w d:θ}{a:Nat}{p:QP}{m:QM}{v:QV}(h:Qr b w a p m v){n:Nat}{rd:Γ}(o:v.rd=n::rd)(c:Mod (·=p.r) w d){g':Gs}(q:g'.tx=v.g.tx)(f:g'.sg=v.g.sg)(r:g'.fr=true)
  (hB:Blk d p.r 201 (y9 p m {v with rd:=rd,g:=g'})):Qr b d a p m {v with rd:=rd,g:=g'}:=by
 have l:=c.ext h.e0 (λi b=>by subst b;exact h.lor);refine⟨l,h.lor,h.rb,XU h.top c.size,hB,?_,?_,by show m.L.length=g'.sg.length;rw[f];exact h.len,λj s x l t=>?_,by show g'.tx.length<=_;rw[q];exact h.tl,by show g'.sg.length<=_;rw[f];exact h.sl,by show∀x∈g'.tx,_;rw[q];exact h.b8,λe=>by(have e:g'.fr=false:=e;rw[r] at e;cases e),λi b=>JZ (h.tt i b) c.size,h.dl,by have:=h.rl;rw[o,Xa] at this;show rd.length<=_;omega⟩;have:=(h.rdo.take (k:=rd.length) (by rw[o];simp)).mod c (λi b e=>by subst e;exact h.nrow.2 b);have e:(j5 v.rd.reverse).take (rd.length*1)=j5 rd.reverse:=by rw[o];exact oQ7
 rw[e] at this;exact this;show Own d a 48 6 m.OA g'.sg.length m.oc (cN g'.sg m.L);rw[f];exact h.out.mod c (λi b e=>by subst e;exact h.nrow.1 b);have l:g'.sg[j]? =some s:=l;rw[f] at l;exact(h.dgs j s x l t).keep c λi b=>.inl (.inl (.inl b))
structure LQ where
 k:DV
 o:BF
 z:List SeV
 m:QM
 v:QV
 ln:Nat
 at_:Nat
 ls:Λ
 A:Θ
 c:Nat
abbrev pQ:TypeId:=266
def Kt (p:QP)(m:QM)(A:Θ)(a:Nat):Nat->Prop:=λi=>QS p m i∨Qj A i∨i=a
def StQ (p:QP)(v:QV)(n:Nat)(b:lm)(a:Except Pl Gs)(s:LQ):Prop:=
 (s.v.b=v.b/\s.v.d=v.d+s.z.length/\s.v.d<=64/\Z9 p.nm n v.d b s.ls s.ln s.at_ s.o (s.z.reverse.map (·.s)) s.v.g=a)∨(s.v.b.e≠0/\a= .error s.v.b/\v.d<=s.v.d)
structure FqI (w0 w:World) (base:Nat) (p:QP) (m:QM) (v:QV) (n bk:Nat) (text:Γ) (inc:lm) (res:Except Pl Gs) (s:LQ) (w':World):Prop where
 rr:Qr w0 w' base p s.m s.v
 rdv:s.v.rd=n::v.rd
 tt:s.m.T=λi=>m.T i∨Qj s.A i∨i=bk
 kb:Blk w' bk 32 s.k.cells
 kd:DgO w' (TQ p s.m) p.nm.length s.k s.o
 ow:Own w' base pQ 6 s.A s.z.length s.c (Z2 s.z)
 zx:∀z∈s.z,DgO w' (TQ p s.m) p.nm.length z.x z.s.ou
 zy:∀z∈s.z,DgO w' (TQ p s.m) p.nm.length z.y z.s.re
 dr:text.drop s.at_=Qk s.ls
 al:s.at_+(Qk s.ls).length=text.length
 li:pE s.ls
 mw:Mod (QS p m) w w'
 ma:Moved w m.OA s.m.OA
 mb:Moved w m.DA s.m.DA
 nw:∀i,Qj s.A i->w.heap.size<=i
 dl:s.z.length<=65
 lb:s.ln+s.ls.length<=1048576
 st:StQ p v n inc res s
section
variable {w0 w w' Z8:World} {base:Nat} {p:QP} {m:QM} {v:QV} {n bk:Nat} {text:List Nat} {inc:lm} {res:Except Pl Gs} {s s':LQ}
theorem FqI.sub (h:FqI w0 w base p m v n bk text inc res s w'):∀i,Kt p s.m s.A bk i->TQ p s.m i:=λi a=>by obtain a|a|a:=a;exact .inl a;exact .inr (by rw[h.tt];exact .inr (.inl a));exact .inr (by rw[h.tt];exact .inr (.inr a))
theorem FqI.back (h:FqI w0 w base p m v n bk text inc res s w')(c:s'.m.T=λi=>m.T i∨Qj s'.A i∨i=bk)(d:Moved w' s.A s'.A)(e:Moved w' s.m.OA s'.m.OA)(f:Moved w' s.m.DA s'.m.DA):∀i,TQ p s'.m i->TQ p s.m i∨w'.heap.size<=i:=λi a=>by obtain a|a:=a;obtain b|b:=QS.moved (p:=p) e f i a;exact .inl (.inl b);exact .inr b;rw[c] at a;obtain a|a|a:=a;exact .inl (.inr (by rw[h.tt];exact .inl a));obtain b|b:=d.rows i a;exact .inl (.inr (by rw[h.tt];exact .inr (.inl b)));exact .inr b;exact .inl (.inr (by rw[h.tt];exact .inr (.inr a)))
theorem FqI.kp (h:FqI w0 w base p m v n bk text inc res s w')(a:Mod (Kt p s.m s.A bk) w' Z8)(b:s'.m.T=λi=>m.T i∨Qj s'.A i∨i=bk)(c:Moved w' s.A s'.A)(d:Moved w' s.m.OA s'.m.OA)(e:Moved w' s.m.DA s'.m.DA){x:DV}{o:BF}(f:DgO w' (TQ p s.m) p.nm.length x o):DgO Z8 (TQ p s'.m) p.nm.length x o:=
 f.step (a.mono λi g=>.inl (h.sub i g)) (h.back b c d e)
theorem FqI.new (h:FqI w0 w base p m v n bk text inc res s w'){w1:θ}(a:w'.heap.size<=w1.heap.size)(d:s'.m.T=λi=>m.T i∨Qj s'.A i∨i=bk){x:DV}{o:BF}(g:∀i,Qj s'.A i->Qj s.A i∨∀b,x.A=some b->0<x.n->b.block≠i)(c:SB Z8 x.A x.n x.c x.nd)(j:Set1 p.nm.length x.nd x.r o)(k:sm w1 x)(l:∀i,QS p s'.m i->i<w1.heap.size):DgO Z8 (TQ p s'.m) p.nm.length x o:=by refine⟨c,j,λb e f a=>?_⟩;have c:=k b e f;have c:=h.rr.hiT;obtain a|a:=a;have:=l _ a;omega;rw[d] at a;obtain a|a|a:=a;have:=c _ (.inr (by rw[h.tt];exact .inl a));omega;obtain d|d:=g _ a;have:=c _ (.inr (by rw[h.tt];exact .inr (.inl d)));omega;exact d b e f rfl;have:=c _ (.inr (by rw[h.tt];exact .inr (.inr a)));omega
theorem FqI.mw' (h:FqI w0 w base p m v n bk text inc res s w')(a:w.heap.size<=bk)(b:Mod (Kt p s.m s.A bk) w' Z8):Mod (QS p m) w Z8:=
 h.mw.trans b (λi a=>by
  obtain a|a|a:=a;exact QS.moved (p:=p) h.ma h.mb i a;exact .inr (h.nw i a);exact .inr ω)
theorem FqI.go (h:FqI w0 w base p m v n bk text inc res s w')(j:w.heap.size<=bk)(k:Mod (Kt p s.m s.A bk) w' Z8)(o:Qr w0 Z8 base p s'.m s'.v)(a:s'.v.rd=n::v.rd)(q:s'.m.T=λi=>m.T i∨Qj s'.A i∨i=bk)(r:∀i,Qj s'.A i->w.heap.size<=i)(u:Moved w' s.m.OA s'.m.OA)(x:Moved w' s.m.DA s'.m.DA)(y:Blk Z8 bk 32 s'.k.cells) (A:DgO Z8 (TQ p s'.m) p.nm.length s'.k s'.o) (B:Own Z8 base pQ 6 s'.A s'.z.length s'.c (Z2 s'.z)) (C:∀z∈s'.z,DgO Z8 (TQ p s'.m) p.nm.length z.x z.s.ou) (D:∀z∈s'.z,DgO Z8 (TQ p s'.m) p.nm.length z.y z.s.re){l:Γ} (b:s.ls=l::s'.ls) (c:s'.at_=s.at_+l.length+1) (E:s'.z.length<=65) (F:s'.ln=s.ln+1) (G:StQ p v n inc res s'):FqI w0 w base p m v n bk text inc res s' Z8:=by
 have d:=h.dr;have e:=h.al;have f:=h.lb;have g:=h.li;rw[b,YJ] at d e;rw[b] at f g;have b:=h.mw.size;refine⟨o,a,q,y,A,B,C,D,?_,?_,λt H=>g t (by simp[H]),h.mw' j k,h.ma.trans u b,h.mb.trans x b,r,E,?_,G⟩;rw[c,show s.at_+l.length+1=s.at_+(l.length+1) by omega,<-mP,d,<-mP,List.drop_left' rfl]<;>rfl
 rw[c];simp only[Qy,Xa] at e;omega;rw[F];simp only[Xa] at f;omega
end
end
end Go.Proofs.YtjabbbcdgmlojaaGreatDoor
