/-
  What PPatchWeaves rests on, part 5 (wip/shake.py).
  Conditions: none.
-/
import Derived.Test.YtjabbbcdgmlojaaGreatDoorQPPatchWeavesd
set_option linter.all false
set_option linter.deprecated false
namespace Go.Proofs.YtjabbbcdgmlojaaGreatDoor
section
open Go Go.RowKit
def bQR (p:DV×List Nat):List Value:=[.slice p.1.A p.1.n p.1.c,.int .i64 p.1.r,.string (aQh p.2)]
theorem kQh (p:DV×List Nat):(bQR p).length=3:=rfl
structure WP where
 pb:Nat
 wb:Nat
 nb:Nat
 PA:Option Addr
 pn:Nat
 pc:Nat
 NA:Option Addr
 nn:Nat
 nc:Nat
 nm:List (List Nat)
 ps:List (DV×List Nat)
def WP.caps (p:WP):List Value:=[.pointer (some ⟨p.pb,0,none⟩),.pointer (some ⟨p.wb,0,none⟩),.pointer (some ⟨p.nb,0,none⟩)]
def WP.clo (p:WP):Value:=.func (.func 116) #[] #[.pointer (some ⟨p.pb,0,none⟩),.pointer (some ⟨p.wb,0,none⟩),.pointer (some ⟨p.nb,0,none⟩)]
structure WK (w:World) (p:WP):Prop where
 pbb:Blk w p.pb 54 [.slice p.PA p.pn p.pc]
 wbb:Blk w p.wb 192 [p.clo]
 nbb:Blk w p.nb 37 [.slice p.NA p.nn p.nc]
 pss:SlS bQR 3 w p.PA p.pn p.pc p.ps
 sbs:∀q∈p.ps,SB w q.1.A q.1.n q.1.c q.1.nd
 nms:Sl w 1 p.NA p.nn p.nc (aQ6 p.nm)
theorem WK.ext {w w':World}{p:WP}(h:WK w p)(k:Ext w w'):WK w' p:=⟨h.pbb.ext k,h.wbb.ext k,h.nbb.ext k,h.pss.ext k,fun q hq=>(h.sbs q hq).ext k,h.nms.ext k⟩
def xQH (k:Nat)(wR:World)(oh ol:BF)(t:DV×DV×Nat×Nat)(w':World):Prop:=Ext wR w'/\Blk w' t.2.2.1 32 t.1.cells/\Blk w' t.2.2.2 32 t.2.1.cells/\SB w' t.1.A t.1.n t.1.c t.1.nd/\Set1 k t.1.nd t.1.r oh/\SB w' t.2.1.A t.2.1.n t.2.1.c t.2.1.nd/\Set1 k t.2.1.nd t.2.1.r ol
theorem mQY {k:Nat}(hk:k<=12){x y:DV}{o o':BF}(s:Set1 k x.nd x.r o)(s':Set1 k y.nd y.r o'):qQE x.nd x.r y.nd y.r=true↔∀e,o e=true->o' e=true:=by
 rw[jQ6];constructor
 ·rintro⟨_,_,hn⟩ e he;cases h:o' e with
  | true=>rfl
  | false=>exact absurd ⟨e,by rw[s.mean];exact he,by rw[s'.mean];exact h⟩ hn
 ·intro h;refine⟨s.chk hk,s'.chk hk,fun⟨e,h1,h2⟩=>?_⟩;rw[s.mean] at h1;rw[s'.mean,h e h1] at h2;cases h2
set_option maxHeartbeats 3200000 in
theorem vQe (p:WP)(n:Nat)(hn4:n<=4)(hnm:p.nm.length=n)(hnb:aQ2 p.nm)(hnl:∀s∈p.nm,s.length<=1000000)(hov:∀q∈p.ps,ovD n q.1.nd q.1.r=true/\bQE q.2=true/\(∀b∈q.2,b<256)/\q.2.length<=1000000):
  ∀(k v:Nat) (x:DV) (o:BF) (w:World),v+k=n->WK w p->SB w x.A x.n x.c x.nd->Set1 n x.nd x.r o->aQW n o≠ []->PaOk (aQW n o) (prs p.ps)->Apt (aQW n o) v k->
  Fn Tryz.prog 116 (dgV x.A x.n x.c x.r:: .int .i64 v::p.caps) w (fun u w'=>iQW w u ((cQf p.nm (fP (prs p.ps)) k v (aQW n o)).map (·++ [10])) w'):=by
 have hk:n<=12:=by omega
 intro k;induction k using Nat.strongRecOn with
 | ind k ih=>
 intro v x o w hvk hK hx sx hne hpa hap;have hpl:=hK.pss.2;refine aQf (c:={yQg with cuts:=[]}) aQb Tryz.func116 rfl rfl rfl ?_;refine new (fun w1 hE1 hz1 hB1=>?_);have hK1:=hK.ext hE1;refine aQg hK1.pbb rfl ?_;refine loop aQb [17] (fun i:Nat=>[.int .i64 i]) (fun i w'=>Ext w1 w'/\i<=p.pn/\∀q∈p.ps.take i,¬∀e,o e=true->oD q.1 e=true) (fun i _=>p.pn-i) 0 rfl ⟨Ext.refl _,Nat.zero_le _,fun q hq=>by simp at hq⟩ ?_;rintro i w2 ⟨hE2,hi,hno⟩;have hE02:=hE1.trans hE2;have hpnb:p.pn<=9223372036854775807:=by have:=hK.pss.1.le;have:=hK.pss.1.cap;simp only[maxLen] at this;omega
 refine aQq (fun c1=>?_) (fun c1=>?_)
 ·have hin:i<p.pn:=by omega
  refine aQp kQh (hK.ext hE02).pss rfl hin (fun ad q hq hc=>?_);have hqm:=List.mem_of_getElem? hq;obtain⟨o1,o2,o3,o4⟩:=hov q hqm;refine aQK (vs:=bQR q) rfl hc ?_;refine new (fun w3 hE3 hz3 hB3=>?_);refine aQc hB3 rfl (sc rfl) (fun w4 hg4 _ hB4=>?_);have hE24:Ext w2 w4:=aQJ hE3 hB3 hg4;have hE04:=hE02.trans hE24;refine aQd (hB1.ext (hE2.trans hE24)) rfl ?_;refine bQM (vs:=[.slice q.1.A q.1.n q.1.c,.int .i64 q.1.r]) hB4 rfl (fun j u hj=>by match j,hj with | 0,hj=>exact hj | 1,hj=>exact hj) ?_;refine call (lQw x.A x.n x.c x.nd x.r q.1.A q.1.n q.1.c q.1.nd q.1.r w4 (hx.ext hE04) ((hK.sbs q hqm).ext hE04)) ?_;rintro _ w5 ⟨rfl,hE5⟩;have hE05:=hE04.trans hE5;refine wif (fun d1=>?_) (fun d1=>?_)
  ·have d1:qQE x.nd x.r q.1.nd q.1.r=true:=d1;have hw:=(mQY hk sx (eQH o1)).1 d1;refine aQe (hB4.ext hE5) rfl ?_;refine call (fQK q.2 w5 o3 (by omega)) ?_;rintro _ w6 ⟨A,c,rfl,hE6,hS6⟩;have hwv:cQf p.nm (fP (prs p.ps)) k v (aQW n o)=aQi q.2:=oQ3 hpa hne (p:=⟨oD q.1,q.2⟩) (List.mem_map.2 ⟨q,hqm,rfl⟩) (fun c hc=>hw _ (aQH.1 hc).2) k v;have ht:eQC q.2=true:=by unfold bQE at o2;rw[Bool.and_eq_true] at o2;exact o2.1
   have hln:qQf q.2=(cQf p.nm (fP (prs p.ps)) k v (aQW n o)).map (·++ [10]):=by rw[hwv,jQQ (dQt ht)]
   rw[hln] at hS6 ⊢;exact⟨A,c,rfl,hE05.trans hE6,hS6⟩
  ·have d1:qQE x.nd x.r q.1.nd q.1.r=false:=d1;refine aQa ((i+1:Nat):Int) (by show((i:Nat):Int)+1=_;omega) (by omega) ?_;refine⟨i+1,rfl,⟨(hE2.trans hE24).trans hE5,hin,fun q' hq' hall=>?_⟩,by show p.pn-(i+1)<p.pn-i;omega⟩;rw[List.take_add_one,hq] at hq';rcases List.mem_append.1 hq' with hq' | hq'
   ·exact hno q' hq' hall
   ·have:q'=q:=by simpa using hq'
    subst this;rw[(mQY hk sx (eQH o1)).2 hall] at d1;cases d1
 have hin:i=p.pn:=by omega
 rw[hin,List.take_of_length_le (by omega)] at hno;cases k with
 | zero=>
  obtain⟨q0,hq0,hall⟩:=mQW hpa hne hap;obtain⟨q,hq,rfl⟩:=List.mem_map.1 hq0;exact absurd ((qQR sx.dep (eQH (hov q hq).1).dep).2 hall) (hno q hq)
 | succ k=>
 have hvn:v<n:=by omega
 refine call (mQz (v:Int) w2 (by omega) (by omega)) ?_;rintro _ w3 ⟨YA,yn,yc,rfl,hE3,hY3,_⟩;refine call (hQc ⟨YA,yn,yc,[⟨(v:Int),0,1⟩],2⟩ w3) ?_;rintro _ w4 ⟨rfl,hE4⟩;refine new (fun w5 hE5 hz5 hB5=>?_);refine aQc hB5 rfl (sc rfl) (fun wR hgR _ hBR=>?_);have hE4R:Ext w4 wR:=aQJ hE5 hB5 hgR;have hE2R:=(hE3.trans hE4).trans hE4R;have hE1R:=hE2.trans hE2R;have hE0R:=hE1.trans hE1R;obtain⟨y,hy⟩:∃y:DV,y=⟨YA,yn,yc,[⟨(v:Int),0,1⟩],2⟩:=⟨_,rfl⟩
 have sy:Set1 n y.nd y.r (fun e=>e v):=by rw[hy];exact mQN hvn (by omega)
 have hyb:SB wR y.A y.n y.c y.nd:=by rw[hy];exact hY3.ext (hE4.trans hE4R)
 have hBY:Blk wR w4.heap.size 32 y.cells:=by rw[hy];exact hBR
 have hBX:=hB1.ext hE1R;have hxR:=hx.ext hE0R;have hKR:=hK.ext hE0R;clear hBR hB5;refine sQN [11,12] (fun t:DV×DV×Nat×Nat=>[.pointer (some ⟨t.2.2.1,0,none⟩),.pointer (some ⟨t.2.2.2,0,none⟩)]) (fun t w'=>xQH n wR (fun e=>o e&&e v) (fun e=>o e && !e v) t w') ?_ ?_
 ·have eR:=Ext.drew wR;have hx:=hxR;have hy:=hyb;refine hQ7 aQb (Ext wR) 10 (.quiet 0 (.quiet 1 (.quiet 3 (.quiet 4 (.fork 2 (.fork 5 (.fork 6 (.fork 7 (.fork 8 (.fork 9 .done .skip) .skip) .skip) (.fork 7 (.fork 6 (.fork 8 (.fork 9 .done .skip) .skip) .skip) .skip)) (.fork 6 (.fork 5 (.fork 7 (.fork 8 (.fork 9 .done .skip) .skip) .skip) (.fork 7 (.fork 5 (.fork 8 (.fork 9 .done .skip) .skip) .skip) .skip)) (.fork 7 (.fork 5 (.fork 6 (.fork 8 (.fork 9 .done .skip) .skip) .skip) (.fork 6 (.fork 5 (.fork 8 (.fork 9 .done .skip) .skip) .skip) .skip)) .skip))) (.fork 6 (.fork 2 (.fork 5 (.fork 7 (.fork 8 (.fork 9 .done .skip) .skip) .skip) (.fork 7 (.fork 5 (.fork 8 (.fork 9 .done .skip) .skip) .skip) .skip)) (.fork 7 (.fork 2 (.fork 5 (.fork 8 (.fork 9 .done .skip) .skip) .skip) .skip) .skip)) (.fork 7 (.fork 2 (.fork 5 (.fork 6 (.fork 8 (.fork 9 .done .skip) .skip) .skip) (.fork 6 (.fork 5 (.fork 8 (.fork 9 .done .skip) .skip) .skip) .skip)) (.fork 6 (.fork 2 (.fork 5 (.fork 8 (.fork 9 .done .skip) .skip) .skip) .skip) .skip)) .skip))))))) (by kernel_rfl) (Ext.drew wR) ?_;refine aQw (vs:=x.cells) rfl (fun w' hw' j u hj=>by rw[(hBX.ext hw').cell];exact hj) ?_;refine aQw (vs:=y.cells) rfl (fun w' hw' j u hj=>by rw[(hBY.ext hw').cell];exact hj) ?_;refine aQw (vs:=x.cells) rfl (fun w' hw' j u hj=>by rw[(hBX.ext hw').cell];exact hj) ?_;refine aQw (vs:=y.cells) rfl (fun w' hw' j u hj=>by rw[(hBY.ext hw').cell];exact hj) ?_;refine⟨?_,?_⟩
  ·refine call (dQu hk x y wR.drew (hx.ext eR) (hy.ext eR) sx sy) ?_;rintro _ v1 ⟨HA,Hn,Hc,Hnd,Hr,rfl,g1,Hb,Hs,HR⟩;have e1:=eR.trans g1;refine⟨e1,?_⟩;have z1:=g1.size;have y1:=fun ad ea h0=>SB.lt Hb ad ea h0
   have r1:=fun(ad:Addr) (ea:HA=some ad)=>HR ad.block ⟨ad,ea,rfl⟩
   refine⟨?_,?_⟩
   ·refine call (bQk hk x y v1 (hx.ext e1) (hy.ext e1) sx sy) ?_;rintro _ v2 ⟨LA,Ln,Lc,Lnd,Lr,rfl,g2,Lb,Ls,LR⟩;have e2:=e1.trans g2;refine⟨e2,?_⟩;have z2:=g2.size;have y2:=fun ad ea h0=>SB.lt Lb ad ea h0
    have r2:=fun(ad:Addr) (ea:LA=some ad)=>LR ad.block ⟨ad,ea,rfl⟩
    refine⟨?_,?_⟩
    ·refine new (fun v3 g3 z3 B3=>?_);have e3:=e2.trans g3;refine⟨e3,?_⟩;have l3:=e2.size;refine⟨?_,trivial⟩;refine new (fun v4 g4 z4 B4=>?_);have e4:=e3.trans g4;refine⟨e4,?_⟩;have l4:=e3.size;refine⟨?_,trivial⟩;refine aQc (B3.ext g4) rfl (sc rfl) (fun v5 h5 _ B5=>?_);have m5:Mod (·=v2.heap.size) v4 v5:=zQE h5 rfl;have e5:Ext wR v5:=m5.ext e4 (fun i hi=>by omega);refine⟨e5,?_⟩;refine⟨?_,trivial⟩;refine aQc (B4.mod m5 (by show¬v3.heap.size=v2.heap.size;omega)) rfl (sc rfl) (fun v6 h6 _ B6=>?_);have m6:Mod (·=v3.heap.size) v5 v6:=zQE h6 rfl;have e6:Ext wR v6:=m6.ext e5 (fun i hi=>by omega);refine⟨e6,?_⟩;exact⟨(⟨HA,Hn,Hc,Hnd,Hr⟩,⟨LA,Ln,Lc,Lnd,Lr⟩,v2.heap.size,v3.heap.size),rfl,⟨e6,(B5.mod m6 (by show¬v2.heap.size=v3.heap.size;omega)),B6,(SB.modo (SB.modo (((Hb.ext g2).ext g3).ext g4) m5 (fun ad ea h0 hh=>by have q1:=y1 ad ea h0;have q2:=r1 ad ea;omega)) m6 (fun ad ea h0 hh=>by have q1:=y1 ad ea h0;have q2:=r1 ad ea;omega)),Hs,(SB.modo (SB.modo ((Lb.ext g3).ext g4) m5 (fun ad ea h0 hh=>by have q1:=y2 ad ea h0;have q2:=r2 ad ea;omega)) m6 (fun ad ea h0 hh=>by have q1:=y2 ad ea h0;have q2:=r2 ad ea;omega)),Ls⟩⟩
    ·refine⟨?_,trivial⟩;refine new (fun v7 g7 z7 B7=>?_);have e7:=e2.trans g7;refine⟨e7,?_⟩;have l7:=e2.size;refine⟨?_,trivial⟩;refine new (fun v8 g8 z8 B8=>?_);have e8:=e7.trans g8;refine⟨e8,?_⟩;have l8:=e7.size;refine⟨?_,trivial⟩;refine aQc B8 rfl (sc rfl) (fun v9 h9 _ B9=>?_);have m9:Mod (·=v7.heap.size) v8 v9:=zQE h9 rfl;have e9:Ext wR v9:=m9.ext e8 (fun i hi=>by omega);refine⟨e9,?_⟩;refine⟨?_,trivial⟩;refine aQc ((B7.ext g8).mod m9 (by show¬v2.heap.size=v7.heap.size;omega)) rfl (sc rfl) (fun v10 h10 _ B10=>?_);have m10:Mod (·=v2.heap.size) v9 v10:=zQE h10 rfl;have e10:Ext wR v10:=m10.ext e9 (fun i hi=>by omega);refine⟨e10,?_⟩;exact⟨(⟨HA,Hn,Hc,Hnd,Hr⟩,⟨LA,Ln,Lc,Lnd,Lr⟩,v7.heap.size,v2.heap.size),rfl,⟨e10,(B9.mod m10 (by show¬v7.heap.size=v2.heap.size;omega)),B10,(SB.modo (SB.modo (((Hb.ext g2).ext g7).ext g8) m9 (fun ad ea h0 hh=>by have q1:=y1 ad ea h0;have q2:=r1 ad ea;omega)) m10 (fun ad ea h0 hh=>by have q1:=y1 ad ea h0;have q2:=r1 ad ea;omega)),Hs,(SB.modo (SB.modo ((Lb.ext g7).ext g8) m9 (fun ad ea h0 hh=>by have q1:=y2 ad ea h0;have q2:=r2 ad ea;omega)) m10 (fun ad ea h0 hh=>by have q1:=y2 ad ea h0;have q2:=r2 ad ea;omega)),Ls⟩⟩
   ·refine⟨?_,?_⟩
    ·refine new (fun v11 g11 z11 B11=>?_);have e11:=e1.trans g11;refine⟨e11,?_⟩;have l11:=e1.size;refine⟨?_,?_⟩
     ·refine call (bQk hk x y v11 (hx.ext e11) (hy.ext e11) sx sy) ?_;rintro _ v12 ⟨LA,Ln,Lc,Lnd,Lr,rfl,g12,Lb,Ls,LR⟩;have e12:=e11.trans g12;refine⟨e12,?_⟩;have z12:=g12.size;have y12:=fun ad ea h0=>SB.lt Lb ad ea h0
      have r12:=fun(ad:Addr) (ea:LA=some ad)=>LR ad.block ⟨ad,ea,rfl⟩
      refine⟨?_,trivial⟩;refine new (fun v13 g13 z13 B13=>?_);have e13:=e12.trans g13;refine⟨e13,?_⟩;have l13:=e12.size;refine⟨?_,trivial⟩;refine aQc ((B11.ext g12).ext g13) rfl (sc rfl) (fun v14 h14 _ B14=>?_);have m14:Mod (·=v1.heap.size) v13 v14:=zQE h14 rfl;have e14:Ext wR v14:=m14.ext e13 (fun i hi=>by omega);refine⟨e14,?_⟩;refine⟨?_,trivial⟩;refine aQc (B13.mod m14 (by show¬v12.heap.size=v1.heap.size;omega)) rfl (sc rfl) (fun v15 h15 _ B15=>?_);have m15:Mod (·=v12.heap.size) v14 v15:=zQE h15 rfl;have e15:Ext wR v15:=m15.ext e14 (fun i hi=>by omega);refine⟨e15,?_⟩;exact⟨(⟨HA,Hn,Hc,Hnd,Hr⟩,⟨LA,Ln,Lc,Lnd,Lr⟩,v1.heap.size,v12.heap.size),rfl,⟨e15,(B14.mod m15 (by show¬v1.heap.size=v12.heap.size;omega)),B15,(SB.modo (SB.modo (((Hb.ext g11).ext g12).ext g13) m14 (fun ad ea h0 hh=>by have q1:=y1 ad ea h0;have q2:=r1 ad ea;omega)) m15 (fun ad ea h0 hh=>by have q1:=y1 ad ea h0;have q2:=r1 ad ea;omega)),Hs,(SB.modo (SB.modo (Lb.ext g13) m14 (fun ad ea h0 hh=>by have q1:=y12 ad ea h0;have q2:=r12 ad ea;omega)) m15 (fun ad ea h0 hh=>by have q1:=y12 ad ea h0;have q2:=r12 ad ea;omega)),Ls⟩⟩
     ·refine⟨?_,trivial⟩;refine new (fun v16 g16 z16 B16=>?_);have e16:=e11.trans g16;refine⟨e16,?_⟩;have l16:=e11.size;refine⟨?_,trivial⟩;refine call (bQk hk x y v16 (hx.ext e16) (hy.ext e16) sx sy) ?_;rintro _ v17 ⟨LA,Ln,Lc,Lnd,Lr,rfl,g17,Lb,Ls,LR⟩;have e17:=e16.trans g17;refine⟨e17,?_⟩;have z17:=g17.size;have y17:=fun ad ea h0=>SB.lt Lb ad ea h0
      have r17:=fun(ad:Addr) (ea:LA=some ad)=>LR ad.block ⟨ad,ea,rfl⟩
      refine⟨?_,trivial⟩;refine aQc ((B11.ext g16).ext g17) rfl (sc rfl) (fun v18 h18 _ B18=>?_);have m18:Mod (·=v1.heap.size) v17 v18:=zQE h18 rfl;have e18:Ext wR v18:=m18.ext e17 (fun i hi=>by omega);refine⟨e18,?_⟩;refine⟨?_,trivial⟩;refine aQc ((B16.ext g17).mod m18 (by show¬v11.heap.size=v1.heap.size;omega)) rfl (sc rfl) (fun v19 h19 _ B19=>?_);have m19:Mod (·=v11.heap.size) v18 v19:=zQE h19 rfl;have e19:Ext wR v19:=m19.ext e18 (fun i hi=>by omega);refine⟨e19,?_⟩;exact⟨(⟨HA,Hn,Hc,Hnd,Hr⟩,⟨LA,Ln,Lc,Lnd,Lr⟩,v1.heap.size,v11.heap.size),rfl,⟨e19,(B18.mod m19 (by show¬v1.heap.size=v11.heap.size;omega)),B19,(SB.modo (SB.modo (((Hb.ext g11).ext g16).ext g17) m18 (fun ad ea h0 hh=>by have q1:=y1 ad ea h0;have q2:=r1 ad ea;omega)) m19 (fun ad ea h0 hh=>by have q1:=y1 ad ea h0;have q2:=r1 ad ea;omega)),Hs,(SB.modo (SB.modo Lb m18 (fun ad ea h0 hh=>by have q1:=y17 ad ea h0;have q2:=r17 ad ea;omega)) m19 (fun ad ea h0 hh=>by have q1:=y17 ad ea h0;have q2:=r17 ad ea;omega)),Ls⟩⟩
    ·refine⟨?_,trivial⟩;refine new (fun v20 g20 z20 B20=>?_);have e20:=e1.trans g20;refine⟨e20,?_⟩;have l20:=e1.size;refine⟨?_,?_⟩
     ·refine call (bQk hk x y v20 (hx.ext e20) (hy.ext e20) sx sy) ?_;rintro _ v21 ⟨LA,Ln,Lc,Lnd,Lr,rfl,g21,Lb,Ls,LR⟩;have e21:=e20.trans g21;refine⟨e21,?_⟩;have z21:=g21.size;have y21:=fun ad ea h0=>SB.lt Lb ad ea h0
      have r21:=fun(ad:Addr) (ea:LA=some ad)=>LR ad.block ⟨ad,ea,rfl⟩
      refine⟨?_,trivial⟩;refine new (fun v22 g22 z22 B22=>?_);have e22:=e21.trans g22;refine⟨e22,?_⟩;have l22:=e21.size;refine⟨?_,trivial⟩;refine aQc B22 rfl (sc rfl) (fun v23 h23 _ B23=>?_);have m23:Mod (·=v21.heap.size) v22 v23:=zQE h23 rfl;have e23:Ext wR v23:=m23.ext e22 (fun i hi=>by omega);refine⟨e23,?_⟩;refine⟨?_,trivial⟩;refine aQc (((B20.ext g21).ext g22).mod m23 (by show¬v1.heap.size=v21.heap.size;omega)) rfl (sc rfl) (fun v24 h24 _ B24=>?_);have m24:Mod (·=v1.heap.size) v23 v24:=zQE h24 rfl;have e24:Ext wR v24:=m24.ext e23 (fun i hi=>by omega);refine⟨e24,?_⟩;exact⟨(⟨HA,Hn,Hc,Hnd,Hr⟩,⟨LA,Ln,Lc,Lnd,Lr⟩,v21.heap.size,v1.heap.size),rfl,⟨e24,(B23.mod m24 (by show¬v21.heap.size=v1.heap.size;omega)),B24,(SB.modo (SB.modo (((Hb.ext g20).ext g21).ext g22) m23 (fun ad ea h0 hh=>by have q1:=y1 ad ea h0;have q2:=r1 ad ea;omega)) m24 (fun ad ea h0 hh=>by have q1:=y1 ad ea h0;have q2:=r1 ad ea;omega)),Hs,(SB.modo (SB.modo (Lb.ext g22) m23 (fun ad ea h0 hh=>by have q1:=y21 ad ea h0;have q2:=r21 ad ea;omega)) m24 (fun ad ea h0 hh=>by have q1:=y21 ad ea h0;have q2:=r21 ad ea;omega)),Ls⟩⟩
     ·refine⟨?_,trivial⟩;refine new (fun v25 g25 z25 B25=>?_);have e25:=e20.trans g25;refine⟨e25,?_⟩;have l25:=e20.size;refine⟨?_,trivial⟩;refine call (bQk hk x y v25 (hx.ext e25) (hy.ext e25) sx sy) ?_;rintro _ v26 ⟨LA,Ln,Lc,Lnd,Lr,rfl,g26,Lb,Ls,LR⟩;have e26:=e25.trans g26;refine⟨e26,?_⟩;have z26:=g26.size;have y26:=fun ad ea h0=>SB.lt Lb ad ea h0
      have r26:=fun(ad:Addr) (ea:LA=some ad)=>LR ad.block ⟨ad,ea,rfl⟩
      refine⟨?_,trivial⟩;refine aQc (B25.ext g26) rfl (sc rfl) (fun v27 h27 _ B27=>?_);have m27:Mod (·=v20.heap.size) v26 v27:=zQE h27 rfl;have e27:Ext wR v27:=m27.ext e26 (fun i hi=>by omega);refine⟨e27,?_⟩;refine⟨?_,trivial⟩;refine aQc (((B20.ext g25).ext g26).mod m27 (by show¬v1.heap.size=v20.heap.size;omega)) rfl (sc rfl) (fun v28 h28 _ B28=>?_);have m28:Mod (·=v1.heap.size) v27 v28:=zQE h28 rfl;have e28:Ext wR v28:=m28.ext e27 (fun i hi=>by omega);refine⟨e28,?_⟩;exact⟨(⟨HA,Hn,Hc,Hnd,Hr⟩,⟨LA,Ln,Lc,Lnd,Lr⟩,v20.heap.size,v1.heap.size),rfl,⟨e28,(B27.mod m28 (by show¬v20.heap.size=v1.heap.size;omega)),B28,(SB.modo (SB.modo (((Hb.ext g20).ext g25).ext g26) m27 (fun ad ea h0 hh=>by have q1:=y1 ad ea h0;have q2:=r1 ad ea;omega)) m28 (fun ad ea h0 hh=>by have q1:=y1 ad ea h0;have q2:=r1 ad ea;omega)),Hs,(SB.modo (SB.modo Lb m27 (fun ad ea h0 hh=>by have q1:=y26 ad ea h0;have q2:=r26 ad ea;omega)) m28 (fun ad ea h0 hh=>by have q1:=y26 ad ea h0;have q2:=r26 ad ea;omega)),Ls⟩⟩
  ·refine⟨?_,?_⟩
   ·refine new (fun v29 g29 z29 B29=>?_);have e29:=eR.trans g29;refine⟨e29,?_⟩;have l29:=eR.size;refine⟨?_,?_⟩
    ·refine call (dQu hk x y v29 (hx.ext e29) (hy.ext e29) sx sy) ?_;rintro _ v30 ⟨HA,Hn,Hc,Hnd,Hr,rfl,g30,Hb,Hs,HR⟩;have e30:=e29.trans g30;refine⟨e30,?_⟩;have z30:=g30.size;have y30:=fun ad ea h0=>SB.lt Hb ad ea h0
     have r30:=fun(ad:Addr) (ea:HA=some ad)=>HR ad.block ⟨ad,ea,rfl⟩
     refine⟨?_,?_⟩
     ·refine call (bQk hk x y v30 (hx.ext e30) (hy.ext e30) sx sy) ?_;rintro _ v31 ⟨LA,Ln,Lc,Lnd,Lr,rfl,g31,Lb,Ls,LR⟩;have e31:=e30.trans g31;refine⟨e31,?_⟩;have z31:=g31.size;have y31:=fun ad ea h0=>SB.lt Lb ad ea h0
      have r31:=fun(ad:Addr) (ea:LA=some ad)=>LR ad.block ⟨ad,ea,rfl⟩
      refine⟨?_,trivial⟩;refine new (fun v32 g32 z32 B32=>?_);have e32:=e31.trans g32;refine⟨e32,?_⟩;have l32:=e31.size;refine⟨?_,trivial⟩;refine aQc (((B29.ext g30).ext g31).ext g32) rfl (sc rfl) (fun v33 h33 _ B33=>?_);have m33:Mod (·=wR.drew.heap.size) v32 v33:=zQE h33 rfl;have e33:Ext wR v33:=m33.ext e32 (fun i hi=>by omega);refine⟨e33,?_⟩;refine⟨?_,trivial⟩;refine aQc (B32.mod m33 (by show¬v31.heap.size=wR.drew.heap.size;omega)) rfl (sc rfl) (fun v34 h34 _ B34=>?_);have m34:Mod (·=v31.heap.size) v33 v34:=zQE h34 rfl;have e34:Ext wR v34:=m34.ext e33 (fun i hi=>by omega);refine⟨e34,?_⟩;exact⟨(⟨HA,Hn,Hc,Hnd,Hr⟩,⟨LA,Ln,Lc,Lnd,Lr⟩,wR.drew.heap.size,v31.heap.size),rfl,⟨e34,(B33.mod m34 (by show¬wR.drew.heap.size=v31.heap.size;omega)),B34,(SB.modo (SB.modo ((Hb.ext g31).ext g32) m33 (fun ad ea h0 hh=>by have q1:=y30 ad ea h0;have q2:=r30 ad ea;omega)) m34 (fun ad ea h0 hh=>by have q1:=y30 ad ea h0;have q2:=r30 ad ea;omega)),Hs,(SB.modo (SB.modo (Lb.ext g32) m33 (fun ad ea h0 hh=>by have q1:=y31 ad ea h0;have q2:=r31 ad ea;omega)) m34 (fun ad ea h0 hh=>by have q1:=y31 ad ea h0;have q2:=r31 ad ea;omega)),Ls⟩⟩
     ·refine⟨?_,trivial⟩;refine new (fun v35 g35 z35 B35=>?_);have e35:=e30.trans g35;refine⟨e35,?_⟩;have l35:=e30.size;refine⟨?_,trivial⟩;refine call (bQk hk x y v35 (hx.ext e35) (hy.ext e35) sx sy) ?_;rintro _ v36 ⟨LA,Ln,Lc,Lnd,Lr,rfl,g36,Lb,Ls,LR⟩;have e36:=e35.trans g36;refine⟨e36,?_⟩;have z36:=g36.size;have y36:=fun ad ea h0=>SB.lt Lb ad ea h0
      have r36:=fun(ad:Addr) (ea:LA=some ad)=>LR ad.block ⟨ad,ea,rfl⟩
      refine⟨?_,trivial⟩;refine aQc (((B29.ext g30).ext g35).ext g36) rfl (sc rfl) (fun v37 h37 _ B37=>?_);have m37:Mod (·=wR.drew.heap.size) v36 v37:=zQE h37 rfl;have e37:Ext wR v37:=m37.ext e36 (fun i hi=>by omega);refine⟨e37,?_⟩;refine⟨?_,trivial⟩;refine aQc ((B35.ext g36).mod m37 (by show¬v30.heap.size=wR.drew.heap.size;omega)) rfl (sc rfl) (fun v38 h38 _ B38=>?_);have m38:Mod (·=v30.heap.size) v37 v38:=zQE h38 rfl;have e38:Ext wR v38:=m38.ext e37 (fun i hi=>by omega);refine⟨e38,?_⟩;exact⟨(⟨HA,Hn,Hc,Hnd,Hr⟩,⟨LA,Ln,Lc,Lnd,Lr⟩,wR.drew.heap.size,v30.heap.size),rfl,⟨e38,(B37.mod m38 (by show¬wR.drew.heap.size=v30.heap.size;omega)),B38,(SB.modo (SB.modo ((Hb.ext g35).ext g36) m37 (fun ad ea h0 hh=>by have q1:=y30 ad ea h0;have q2:=r30 ad ea;omega)) m38 (fun ad ea h0 hh=>by have q1:=y30 ad ea h0;have q2:=r30 ad ea;omega)),Hs,(SB.modo (SB.modo Lb m37 (fun ad ea h0 hh=>by have q1:=y36 ad ea h0;have q2:=r36 ad ea;omega)) m38 (fun ad ea h0 hh=>by have q1:=y36 ad ea h0;have q2:=r36 ad ea;omega)),Ls⟩⟩
    ·refine⟨?_,trivial⟩;refine new (fun v39 g39 z39 B39=>?_);have e39:=e29.trans g39;refine⟨e39,?_⟩;have l39:=e29.size;refine⟨?_,trivial⟩;refine call (dQu hk x y v39 (hx.ext e39) (hy.ext e39) sx sy) ?_;rintro _ v40 ⟨HA,Hn,Hc,Hnd,Hr,rfl,g40,Hb,Hs,HR⟩;have e40:=e39.trans g40;refine⟨e40,?_⟩;have z40:=g40.size;have y40:=fun ad ea h0=>SB.lt Hb ad ea h0
     have r40:=fun(ad:Addr) (ea:HA=some ad)=>HR ad.block ⟨ad,ea,rfl⟩
     refine⟨?_,trivial⟩;refine call (bQk hk x y v40 (hx.ext e40) (hy.ext e40) sx sy) ?_;rintro _ v41 ⟨LA,Ln,Lc,Lnd,Lr,rfl,g41,Lb,Ls,LR⟩;have e41:=e40.trans g41;refine⟨e41,?_⟩;have z41:=g41.size;have y41:=fun ad ea h0=>SB.lt Lb ad ea h0
     have r41:=fun(ad:Addr) (ea:LA=some ad)=>LR ad.block ⟨ad,ea,rfl⟩
     refine⟨?_,trivial⟩;refine aQc (((B29.ext g39).ext g40).ext g41) rfl (sc rfl) (fun v42 h42 _ B42=>?_);have m42:Mod (·=wR.drew.heap.size) v41 v42:=zQE h42 rfl;have e42:Ext wR v42:=m42.ext e41 (fun i hi=>by omega);refine⟨e42,?_⟩;refine⟨?_,trivial⟩;refine aQc (((B39.ext g40).ext g41).mod m42 (by show¬v29.heap.size=wR.drew.heap.size;omega)) rfl (sc rfl) (fun v43 h43 _ B43=>?_);have m43:Mod (·=v29.heap.size) v42 v43:=zQE h43 rfl;have e43:Ext wR v43:=m43.ext e42 (fun i hi=>by omega);refine⟨e43,?_⟩;exact⟨(⟨HA,Hn,Hc,Hnd,Hr⟩,⟨LA,Ln,Lc,Lnd,Lr⟩,wR.drew.heap.size,v29.heap.size),rfl,⟨e43,(B42.mod m43 (by show¬wR.drew.heap.size=v29.heap.size;omega)),B43,(SB.modo (SB.modo (Hb.ext g41) m42 (fun ad ea h0 hh=>by have q1:=y40 ad ea h0;have q2:=r40 ad ea;omega)) m43 (fun ad ea h0 hh=>by have q1:=y40 ad ea h0;have q2:=r40 ad ea;omega)),Hs,(SB.modo (SB.modo Lb m42 (fun ad ea h0 hh=>by have q1:=y41 ad ea h0;have q2:=r41 ad ea;omega)) m43 (fun ad ea h0 hh=>by have q1:=y41 ad ea h0;have q2:=r41 ad ea;omega)),Ls⟩⟩
   ·refine⟨?_,trivial⟩;refine new (fun v44 g44 z44 B44=>?_);have e44:=eR.trans g44;refine⟨e44,?_⟩;have l44:=eR.size;refine⟨?_,?_⟩
    ·refine call (dQu hk x y v44 (hx.ext e44) (hy.ext e44) sx sy) ?_;rintro _ v45 ⟨HA,Hn,Hc,Hnd,Hr,rfl,g45,Hb,Hs,HR⟩;have e45:=e44.trans g45;refine⟨e45,?_⟩;have z45:=g45.size;have y45:=fun ad ea h0=>SB.lt Hb ad ea h0
     have r45:=fun(ad:Addr) (ea:HA=some ad)=>HR ad.block ⟨ad,ea,rfl⟩
     refine⟨?_,?_⟩
     ·refine call (bQk hk x y v45 (hx.ext e45) (hy.ext e45) sx sy) ?_;rintro _ v46 ⟨LA,Ln,Lc,Lnd,Lr,rfl,g46,Lb,Ls,LR⟩;have e46:=e45.trans g46;refine⟨e46,?_⟩;have z46:=g46.size;have y46:=fun ad ea h0=>SB.lt Lb ad ea h0
      have r46:=fun(ad:Addr) (ea:LA=some ad)=>LR ad.block ⟨ad,ea,rfl⟩
      refine⟨?_,trivial⟩;refine new (fun v47 g47 z47 B47=>?_);have e47:=e46.trans g47;refine⟨e47,?_⟩;have l47:=e46.size;refine⟨?_,trivial⟩;refine aQc B47 rfl (sc rfl) (fun v48 h48 _ B48=>?_);have m48:Mod (·=v46.heap.size) v47 v48:=zQE h48 rfl;have e48:Ext wR v48:=m48.ext e47 (fun i hi=>by omega);refine⟨e48,?_⟩;refine⟨?_,trivial⟩;refine aQc ((((B44.ext g45).ext g46).ext g47).mod m48 (by show¬wR.drew.heap.size=v46.heap.size;omega)) rfl (sc rfl) (fun v49 h49 _ B49=>?_);have m49:Mod (·=wR.drew.heap.size) v48 v49:=zQE h49 rfl;have e49:Ext wR v49:=m49.ext e48 (fun i hi=>by omega);refine⟨e49,?_⟩;exact⟨(⟨HA,Hn,Hc,Hnd,Hr⟩,⟨LA,Ln,Lc,Lnd,Lr⟩,v46.heap.size,wR.drew.heap.size),rfl,⟨e49,(B48.mod m49 (by show¬v46.heap.size=wR.drew.heap.size;omega)),B49,(SB.modo (SB.modo ((Hb.ext g46).ext g47) m48 (fun ad ea h0 hh=>by have q1:=y45 ad ea h0;have q2:=r45 ad ea;omega)) m49 (fun ad ea h0 hh=>by have q1:=y45 ad ea h0;have q2:=r45 ad ea;omega)),Hs,(SB.modo (SB.modo (Lb.ext g47) m48 (fun ad ea h0 hh=>by have q1:=y46 ad ea h0;have q2:=r46 ad ea;omega)) m49 (fun ad ea h0 hh=>by have q1:=y46 ad ea h0;have q2:=r46 ad ea;omega)),Ls⟩⟩
     ·refine⟨?_,trivial⟩;refine new (fun v50 g50 z50 B50=>?_);have e50:=e45.trans g50;refine⟨e50,?_⟩;have l50:=e45.size;refine⟨?_,trivial⟩;refine call (bQk hk x y v50 (hx.ext e50) (hy.ext e50) sx sy) ?_;rintro _ v51 ⟨LA,Ln,Lc,Lnd,Lr,rfl,g51,Lb,Ls,LR⟩;have e51:=e50.trans g51;refine⟨e51,?_⟩;have z51:=g51.size;have y51:=fun ad ea h0=>SB.lt Lb ad ea h0
      have r51:=fun(ad:Addr) (ea:LA=some ad)=>LR ad.block ⟨ad,ea,rfl⟩
      refine⟨?_,trivial⟩;refine aQc (B50.ext g51) rfl (sc rfl) (fun v52 h52 _ B52=>?_);have m52:Mod (·=v45.heap.size) v51 v52:=zQE h52 rfl;have e52:Ext wR v52:=m52.ext e51 (fun i hi=>by omega);refine⟨e52,?_⟩;refine⟨?_,trivial⟩;refine aQc ((((B44.ext g45).ext g50).ext g51).mod m52 (by show¬wR.drew.heap.size=v45.heap.size;omega)) rfl (sc rfl) (fun v53 h53 _ B53=>?_);have m53:Mod (·=wR.drew.heap.size) v52 v53:=zQE h53 rfl;have e53:Ext wR v53:=m53.ext e52 (fun i hi=>by omega);refine⟨e53,?_⟩;exact⟨(⟨HA,Hn,Hc,Hnd,Hr⟩,⟨LA,Ln,Lc,Lnd,Lr⟩,v45.heap.size,wR.drew.heap.size),rfl,⟨e53,(B52.mod m53 (by show¬v45.heap.size=wR.drew.heap.size;omega)),B53,(SB.modo (SB.modo ((Hb.ext g50).ext g51) m52 (fun ad ea h0 hh=>by have q1:=y45 ad ea h0;have q2:=r45 ad ea;omega)) m53 (fun ad ea h0 hh=>by have q1:=y45 ad ea h0;have q2:=r45 ad ea;omega)),Hs,(SB.modo (SB.modo Lb m52 (fun ad ea h0 hh=>by have q1:=y51 ad ea h0;have q2:=r51 ad ea;omega)) m53 (fun ad ea h0 hh=>by have q1:=y51 ad ea h0;have q2:=r51 ad ea;omega)),Ls⟩⟩
    ·refine⟨?_,trivial⟩;refine new (fun v54 g54 z54 B54=>?_);have e54:=e44.trans g54;refine⟨e54,?_⟩;have l54:=e44.size;refine⟨?_,trivial⟩;refine call (dQu hk x y v54 (hx.ext e54) (hy.ext e54) sx sy) ?_;rintro _ v55 ⟨HA,Hn,Hc,Hnd,Hr,rfl,g55,Hb,Hs,HR⟩;have e55:=e54.trans g55;refine⟨e55,?_⟩;have z55:=g55.size;have y55:=fun ad ea h0=>SB.lt Hb ad ea h0
     have r55:=fun(ad:Addr) (ea:HA=some ad)=>HR ad.block ⟨ad,ea,rfl⟩
     refine⟨?_,trivial⟩;refine call (bQk hk x y v55 (hx.ext e55) (hy.ext e55) sx sy) ?_;rintro _ v56 ⟨LA,Ln,Lc,Lnd,Lr,rfl,g56,Lb,Ls,LR⟩;have e56:=e55.trans g56;refine⟨e56,?_⟩;have z56:=g56.size;have y56:=fun ad ea h0=>SB.lt Lb ad ea h0
     have r56:=fun(ad:Addr) (ea:LA=some ad)=>LR ad.block ⟨ad,ea,rfl⟩
     refine⟨?_,trivial⟩;refine aQc ((B54.ext g55).ext g56) rfl (sc rfl) (fun v57 h57 _ B57=>?_);have m57:Mod (·=v44.heap.size) v56 v57:=zQE h57 rfl;have e57:Ext wR v57:=m57.ext e56 (fun i hi=>by omega);refine⟨e57,?_⟩;refine⟨?_,trivial⟩;refine aQc ((((B44.ext g54).ext g55).ext g56).mod m57 (by show¬wR.drew.heap.size=v44.heap.size;omega)) rfl (sc rfl) (fun v58 h58 _ B58=>?_);have m58:Mod (·=wR.drew.heap.size) v57 v58:=zQE h58 rfl;have e58:Ext wR v58:=m58.ext e57 (fun i hi=>by omega);refine⟨e58,?_⟩;exact⟨(⟨HA,Hn,Hc,Hnd,Hr⟩,⟨LA,Ln,Lc,Lnd,Lr⟩,v44.heap.size,wR.drew.heap.size),rfl,⟨e58,(B57.mod m58 (by show¬v44.heap.size=wR.drew.heap.size;omega)),B58,(SB.modo (SB.modo (Hb.ext g56) m57 (fun ad ea h0 hh=>by have q1:=y55 ad ea h0;have q2:=r55 ad ea;omega)) m58 (fun ad ea h0 hh=>by have q1:=y55 ad ea h0;have q2:=r55 ad ea;omega)),Hs,(SB.modo (SB.modo Lb m57 (fun ad ea h0 hh=>by have q1:=y56 ad ea h0;have q2:=r56 ad ea;omega)) m58 (fun ad ea h0 hh=>by have q1:=y56 ad ea h0;have q2:=r56 ad ea;omega)),Ls⟩⟩
 rintro⟨xh,xl,b1,b2⟩ w6 ⟨hE6,hB1,hB2,hHb,hHs,hLb,hLs⟩;simp only at hB1 hB2 hHb hHs hLb hLs;have hE06:=hE0R.trans hE6;have hK6:=hKR.ext hE6;have mh:aQW n (fun e=>o e&&e v)=hiS (aQW n o) v:=by
  rw[lQC (o:=o) (v:=v) true (fun e=>by cases e v<;>rfl)];congr 1;funext c;cases c.testBit v<;>rfl
 have ml:aQW n (fun e=>o e && !e v)=loS (aQW n o) v:=by
  rw[lQC (o:=o) (v:=v) false (fun e=>by cases e v<;>rfl)];congr 1;funext c;cases c.testBit v<;>rfl
 have h0:=hHs.root0;have l0:=hLs.root0;rw[mh] at h0;rw[ml] at l0;have ihh:=fun(hq:hiS (aQW n o) v≠ []) (w7:World) (hE7:Ext w6 w7)=>ih k (Nat.lt_succ_self k) (v+1) xh (fun e=>o e&&e v) w7 (by omega) (hK6.ext hE7) (hHb.ext hE7) hHs (by rw[mh];exact hq) (by rw[mh];exact hpa.sub (fun c hc=>(List.mem_filter.1 hc).1)) (by rw[mh];exact wQQ hap)
 rw[mh] at ihh;have ihl:=fun(hq:loS (aQW n o) v≠ []) (w7:World) (hE7:Ext w6 w7)=>ih k (Nat.lt_succ_self k) (v+1) xl (fun e=>o e && !e v) w7 (by omega) (hK6.ext hE7) (hLb.ext hE7) hLs (by rw[ml];exact hq) (by rw[ml];exact hpa.sub (fun c hc=>(List.mem_filter.1 hc).1)) (by rw[ml];exact wQR hap)
 rw[ml] at ihl;have hv1:((v+1:Nat):Int)=(v:Int)+1:=by omega
 refine aQe hB2 rfl ?_;refine aQP (fun c9=>?_) (fun c9=>?_)
 ·have hlo:=l0.1 c9;have hhi:hiS (aQW n o) v≠ []:=by rw[tQK hlo];exact hne
  rw[wQO hne hlo];refine aQg hK6.wbb rfl ?_;refine aQd hB1 rfl ?_;refine aQa ((v+1:Nat):Int) (by omega) (by omega) ?_;refine call (ihh hhi w6 (Ext.refl _)) ?_;rintro _ w7 ⟨A,c,rfl,hE7,hS7⟩;exact⟨A,c,rfl,hE06.trans hE7,hS7⟩
 have hlo:loS (aQW n o) v≠ []:=fun e=>c9 (l0.2 e)
 refine aQe hB1 rfl ?_;refine aQP (fun c11=>?_) (fun c11=>?_)
 ·have hhi:=h0.1 c11;rw[wQP hne hhi];refine aQg hK6.wbb rfl ?_;refine aQd hB2 rfl ?_;refine aQa ((v+1:Nat):Int) (by omega) (by omega) ?_;refine call (ihl hlo w6 (Ext.refl _)) ?_;rintro _ w7 ⟨A,c,rfl,hE7,hS7⟩;exact⟨A,c,rfl,hE06.trans hE7,hS7⟩
 have hhi:hiS (aQW n o) v≠ []:=fun e=>c11 (h0.2 e)
 rw[vQc hne hlo hhi];have hb:∀s,s∈aQW n o->(∀r∈aQi (fP (prs p.ps) s),(∀x∈r,x<256)/\r.length<=1000000000)/\(aQi (fP (prs p.ps) s)).length<=1000000:=fun s hs=>by
  obtain⟨q0,hq0,hq1⟩:=hpa.cov s hs;obtain⟨q,hq,rfl⟩:=List.mem_map.1 hq0;rw[hpa.get hs hq0 hq1];obtain⟨_,o2,o3,o4⟩:=hov q hq;have ht:eQC q.2=true:=by unfold bQE at o2;rw[Bool.and_eq_true] at o2;exact o2.1
  have hu:=aQR (dQt ht);have hul:=lQc (aQi q.2);rw[hu] at hul;refine⟨fun r hr=>⟨fun x hx=>o3 x (by rw[<-hu];exact List.mem_flatMap.2 ⟨r,hr,by simp[hx]⟩),?_⟩,by show(aQi q.2).length<=_;omega⟩;have:r.length<=(unl (aQi q.2)).length:=by
   have h5:∀(ls:List (List Nat)),r∈ls->r.length<=(unl ls).length:=fun ls=>by
    induction ls with
    | nil=>intro h;cases h
    | cons a ls ih2=>
     intro h;rw[aQ7,List.length_append,List.length_cons];rcases List.mem_cons.1 h with rfl | h
     ·omega
     ·have:=ih2 h;omega
   exact h5 _ hr
  rw[hu] at this;omega
 have hif:∀v ng,(∀x∈ifT p.nm v ng,x<256)/\(ifT p.nm v ng).length<=1000000000:=fun v ng=>by
  unfold ifT;cases hg:p.nm[v]? with
  | none=>cases ng<;>exact⟨by simp[pIf],by simp[pIf]⟩
  | some s=>
   have hsm:=List.mem_of_getElem? hg;have hs8:=(hnb s hsm).1;have hsl:=hnl s hsm;refine⟨fun x hx=>?_,?_⟩
   ·rcases List.mem_append.1 hx with hx | hx
    ·exact(show∀y∈pIf,y<256 by decide) x hx
    ·rcases List.mem_append.1 hx with hx | hx
     ·cases ng
      ·cases hx
      ·rw[List.mem_singleton.1 hx];decide
     ·exact hs8 x hx
   ·simp only[List.length_append,Option.getD_some];cases ng<;>simp[pIf]<;>omega
 have h2n:(aQW n o).length<=16:=by
  have h1:(aQW n o).length<=2^n:=Nat.le_trans (List.length_filter_le _ _) (by simp);have h2:2^n<=2^4:=Nat.pow_le_pow_right (by decide) hn4;omega
 have bnd:∀S,S≠ []->(∀c∈S,c∈aQW n o)->S.length<=16->sQK (cQf p.nm (fP (prs p.ps)) k (v+1) S)/\(cQf p.nm (fP (prs p.ps)) k (v+1) S).length<=100000000:=fun S hS hSm hSl=>by
  obtain⟨a1,a2⟩:=gQL (nm:=p.nm) (f:=fP (prs p.ps)) (P:=fun r=>(∀x∈r,x<256)/\r.length<=1000000000) (M:=1000000) hif (by decide) (by decide) k (v+1) S hS (fun c hc=>hb c (hSm c hc));have:=Nat.mul_le_mul_right (1000000+3) hSl;exact⟨a1,by omega⟩
 obtain⟨bh1,bh2⟩:=bnd _ hhi (fun c hc=>(List.mem_filter.1 hc).1) (Nat.le_trans (List.length_filter_le _ _) h2n);obtain⟨bl1,bl2⟩:=bnd _ hlo (fun c hc=>(List.mem_filter.1 hc).1) (Nat.le_trans (List.length_filter_le _ _) h2n);generalize hWH:cQf p.nm (fP (prs p.ps)) k (v+1) (hiS (aQW n o) v)=WH at*;generalize hWL:cQf p.nm (fP (prs p.ps)) k (v+1) (loS (aQW n o) v)=WL at*;refine aQm aQb (Ext w6) 12 [(true,0),(true,1),(true,2),(true,3),(true,5),(true,6),(true,7),(true,8),(false,4),(false,9),(true,10),(true,11)] (by kernel_rfl) (Ext.drew w6) ?_;refine aQy (v:=p.clo) (fun w' hw'=>by rw[(hK6.wbb.ext hw').cell0];rfl) ?_;refine aQw (vs:=xh.cells) rfl (fun w' hw' j u hj=>by rw[(hB1.ext hw').cell];exact hj) ?_;refine aQa ((v+1:Nat):Int) (by omega) (by omega) ?_;refine aQy (v:=p.clo) (fun w' hw'=>by rw[(hK6.wbb.ext hw').cell0];rfl) ?_;refine aQw (vs:=xl.cells) rfl (fun w' hw' j u hj=>by rw[(hB2.ext hw').cell];exact hj) ?_;refine aQa ((v+1:Nat):Int) (by omega) (by omega) ?_;have hd:=Ext.drew w6;refine call (ihh hhi w6.drew hd) ?_;rintro _ w7 ⟨HA,hc,rfl,hE7,hS7⟩;refine⟨hd.trans hE7,?_⟩;refine call (ihl hlo w7 (hd.trans hE7)) ?_;rintro _ w8 ⟨LA,lc,rfl,hE8,hS8⟩;refine⟨(hd.trans hE7).trans hE8,?_⟩;have hE68:=(hd.trans hE7).trans hE8;refine call (qQY HA LA _ hc _ lc WH WL w8 (hS7.ext hE8).1 hS8.1 bh1 bl1) ?_;rintro _ w9 ⟨rfl,hE9⟩;have hE69:=hE68.trans hE9;by_cases heq:WH=WL
 ·rw[if_pos heq];refine aQO heq ?_;exact⟨HA,hc,rfl,hE06.trans hE69,(hS7.ext hE8).ext hE9⟩
 ·rw[if_neg heq];refine aQB heq ?_;have hvn2:v<p.nn:=by have:=hK.nms.len;rw[aQQ] at this;omega
  refine aQg (hK6.ext hE69).nbb rfl ?_;obtain⟨s,hs⟩:∃s,p.nm[v]? =some s:=⟨_,List.getElem?_eq_getElem (by omega)⟩
  refine aQ3 (hK6.ext hE69).nms hvn2 (fun ad u hA hu hcell=>?_);rw[cQI hs] at hu;cases hu;refine load hcell ?_;have es:nmT p.nm v=s:=by unfold nmT;rw[hs];rfl
  rw[<-es];refine call (sQL p.nm v WH WL HA LA _ hc _ lc w9 ((hS7.ext hE8).ext hE9).1 (hS8.ext hE9).1 bh1 bl1 (by rw[es];have:=hnl s (List.mem_of_getElem? hs);omega) (by rw[List.length_map];exact bh2) (by rw[List.length_map];exact bl2)) ?_;rintro _ w10 ⟨JA,jc,rfl,hE10,hS10⟩;exact⟨JA,jc,rfl,(hE06.trans hE69).trans hE10,hS10⟩
theorem nQ2 (NA:Option Addr)(nn nc:Nat)(nm:List (List Nat))(x:DV)(o:BF)(PA:Option Addr)(pn pc:Nat)(ps:List (DV×List Nat))(n:Nat)(hn4:n<=4)(hnm:nm.length=n)(hnb:aQ2 nm)(hnl:∀s∈nm,s.length<=1000000)(hov:∀q∈ps,ovD n q.1.nd q.1.r=true/\bQE q.2=true/\(∀b∈q.2,b<256)/\q.2.length<=1000000)(w:World)
  (hN:Sl w 1 NA nn nc (aQ6 nm)) (hx:SB w x.A x.n x.c x.nd) (sx:Set1 n x.nd x.r o) (hP:SlS bQR 3 w PA pn pc ps) (hPs:∀q∈ps,SB w q.1.A q.1.n q.1.c q.1.nd) (hne:aQW n o≠ []) (hpa:PaOk (aQW n o) (prs ps)):
  Fn Tryz.prog 65 [.slice NA nn nc,dgV x.A x.n x.c x.r,.slice PA pn pc] w (fun u w'=>iQW w u ((cQf nm (fP (prs ps)) n 0 (aQW n o)).map (·++ [10])) w'):=by
 refine aQf (c:={c65 with cuts:=[]}) aQb Tryz.func65 rfl rfl rfl ?_;refine new (fun w1 hE1 hz1 hB1=>?_);refine new (fun w2 hE2 hz2 hB2=>?_);refine new (fun w3 hE3 hz3 hB3=>?_);refine new (fun w4 hE4 hz4 hB4=>?_);have hE34:=hE3.trans hE4;have hE24:=hE2.trans hE34;have hE04:=hE1.trans hE24;refine aQC hB4 (by decide) (fun w5 hM5 hB5=>?_);have hE45:Ext w3 w5:=hM5.ext hE4 (fun i hi=>by omega)
 let p:WP:=⟨w2.heap.size,w3.heap.size,w.heap.size,PA,pn,pc,NA,nn,nc,nm,ps⟩
 have hE05:Ext w w5:=((hE1.trans hE2).trans hE3).trans hE45;have hK:WK w5 p:=⟨hB3.ext hE45,hB5,hB1.ext ((hE2.trans hE3).trans hE45),hP.ext hE05,fun q hq=>(hPs q hq).ext hE05,hN.ext hE05⟩
 refine aQg hK.wbb rfl ?_;refine aQd (hB2.ext (hE3.trans hE45)) rfl ?_;refine call (vQe p n hn4 hnm hnb hnl hov n 0 x o w5 (by omega) hK (hx.ext hE05) sx hne hpa vQb) ?_;rintro _ w6 ⟨A,c,rfl,hE6,hS6⟩;exact⟨A,c,rfl,hE05.trans hE6,hS6⟩
theorem lQG:∀(xs:List (List UInt8)),([]:List UInt8).intercalate xs=xs.flatten
 | []=>rfl
 | [x]=>by simp[List.intercalate]
 | x::y::l=>by
  have ih:=lQG (y::l);simp only[List.intercalate,List.intersperse_cons₂,List.flatten_cons,List.nil_append] at ih ⊢;rw[ih]
theorem sQO (ls:List (List Nat)):Lib.join ((ls.map (fun s=>aQh (s++ [10]))).map (·.data.toList)) []=(unl ls).map UInt8.ofNat:=by
 unfold Lib.join;rw[lQG];induction ls with
 | nil=>rfl
 | cons s ls ih=>
  rw[List.map_cons,List.map_cons,List.flatten_cons,ih,aQ7,dQQ];simp
theorem sQP (A:Option Addr)(n c:Nat)(ls:List (List Nat))(w:World)(h:Sn w A n c (lfV ls))(hlt:∀ad,A=some ad->0<n->ad.block<w.heap.size)(hn:n<=1000000000)(hlen:(unl ls).length<=1000000000):
  Fn Tryz.prog 102 [.slice A n c,.string ⟨#[]⟩] w (fun u w'=>u= .string (aQh (unl ls))/\Ext w w'):=by
 have hl:=eQ2 h.1;by_cases h0:n=0
 ·subst h0;have:ls=[]:=List.eq_nil_of_length_eq_zero hl;subst this;refine aQf (c:={xQ4 with cuts:=[]}) aQb Tryz.func102 rfl rfl rfl ?_;refine aQZ rfl ?_;exact⟨rfl,Ext.refl _⟩
 ·obtain⟨g,o,rfl⟩:=h.2 (by omega);obtain⟨ad,e,hc⟩:=h.1.at_ (by omega);cases e;have hx:(ls.map (fun s=>aQh (s++ [10]))).length=n:=by rw[List.length_map,hl]
  have hj:=sQO ls;have hcall:=Tryz.strings_Join g o c (ls.map (fun s=>aQh (s++ [10]))) ⟨#[]⟩ w (fun j x hj=>by
   rw[List.getElem?_map] at hj;cases hs:ls[j]? with
   | none=>rw[hs] at hj;cases hj
   | some s=>
    rw[hs] at hj;cases hj;have:=hc j _ (cQ7 hs);have e3:(⟨g,o,none⟩:Addr).add j=⟨g,o+j,none⟩:=by
     unfold Addr.add;by_cases hj0:j=0
     ·subst hj0;simp
     ·simp[hj0]
    rw[e3] at this;exact this) (hlt _ rfl (by omega)) (by omega) (by rw[hx];exact h.1.le) (by
   have:(⟨#[]⟩:ByteArray).data.toList=[]:=rfl;rw[this,hj,List.length_map];omega)
  have e0:(⟨#[]⟩:ByteArray).data.toList=[]:=rfl;rw[e0,hj,hx] at hcall;unfold Fn;refine hcall.mono fun e w' he=>?_
  obtain⟨rfl,hb⟩:=he;exact⟨rfl,Ext.of_below hb⟩
theorem lQH (ls:List (List Nat))(s:List Nat):(unl (ls++ [s])).length=(unl ls).length+(s.length+1):=by simp[unl]
theorem sQQ (A:Option Addr)(n c:Nat)(ls:List (List Nat))(w:World)(h:Sn w A n c (lfV ls))(hlen:(unl ls).length<=1048576):
  Fn Tryz.prog 50 [.slice A n c] w (fun u w'=>u= .string (aQh (unl ls))/\Ext w w'):=by
 have hl:=eQ2 h.1;have hll:=lQc ls;refine aQf (c:={c50 with cuts:=[]}) aQb Tryz.func50 rfl rfl rfl ?_;refine loop aQb [8,3] (fun i:Nat=>[.int .i64 i,.int .i64 (unl (ls.take i)).length]) (fun i w'=>w=w'/\i<=n) (fun i _=>n-i) 0 rfl ⟨rfl,Nat.zero_le _⟩ ?_;rintro i _ ⟨rfl,hi⟩;refine aQq (fun c1=>?_) (fun c1=>?_)
 ·have hin:i<n:=by omega
  obtain⟨s,hs⟩:∃s,ls[i]? =some s:=⟨_,List.getElem?_eq_getElem (by omega)⟩
  have htk:ls.take (i+1)=ls.take i++ [s]:=by rw[List.take_add_one,hs];rfl
  have hu:=lQH (ls.take i) s;rw[<-htk] at hu;have hle:(unl (ls.take (i+1))).length<=(unl ls).length:=by
   have e5:unl ls=unl (ls.take (i+1))++unl (ls.drop (i+1)):=by
    have e6:∀a b:List (List Nat),unl (a++b)=unl a++unl b:=fun a b=>by simp[unl]
    rw[<-e6,List.take_append_drop]
   rw[e5,List.length_append];omega
  refine aQ3 h.1 hin (fun ad u hA hu' hcell=>?_);rw[cQ7 hs] at hu';cases hu';refine load hcell ?_;have hsz:=aQj (s++ [10]);rw[List.length_append,List.length_singleton] at hsz;refine aQa (((unl (ls.take (i+1))).length:Nat):Int) (by rw[hu];omega) (by omega) ?_;refine aQB (by omega) ?_;refine aQa ((i+1:Nat):Int) (by show((i:Nat):Int)+1=_;omega) (by omega) ?_;exact⟨i+1,rfl,⟨rfl,hin⟩,by show n-(i+1)<n-i;omega⟩
 ·refine call (sQP A n c ls w h (fun ad e h0=>?_) (by omega) (by omega)) ?_
  ·obtain⟨ad',e',hc⟩:=h.1.at_ h0;rw[e] at e';cases e';obtain⟨s,hs⟩:∃s,ls[0]? =some s:=⟨_,List.getElem?_eq_getElem (by omega)⟩
   have:=hc 0 _ (cQ7 hs);have h6:=World.block_lt_of_cell? w _ this;rw[cQG] at h6;exact h6
  rintro _ w1 ⟨rfl,hE1⟩;exact⟨rfl,hE1⟩
end
section
namespace Nt
def val:List Nat->Nat
 | []=>0
 | x::l=>x+4294967296*val l
def Limbs (l:List Nat):Prop:=∀x∈l,x<4294967296
def tQN:Nat->Nat->List Nat
 | 0,_=>[]
 | f+1,n=>if n=0 then [] else(n % 4294967296)::tQN f (n/4294967296)
def toL (n:Nat):List Nat:=tQN n n
theorem vQf:∀(f g n:Nat),n<=f->n<=g->tQN f n=tQN g n:=by
 intro f;induction f with
 | zero=>
      intro g n h1 _;have:n=0:=by omega
      subst this;cases g<;>simp[tQN]
 | succ f ih=>
  intro g n h1 h2;by_cases h0:n=0
  ·subst h0;cases g<;>simp[tQN]
  ·cases g with
   | zero=>omega
   | succ g=>
    simp only[tQN,if_neg h0];rw[ih g (n/4294967296) (by omega) (by omega)]
theorem fQQ:toL 0=[]:=rfl
theorem iQa {n:Nat}(h:0<n):toL n=(n % 4294967296)::toL (n/4294967296):=by
 unfold toL;cases n with
 | zero=>omega
 | succ n=>
  rw[tQN,if_neg (by omega)];rw[vQf n ((n+1)/4294967296) _ (by omega) (Nat.le_refl _)]
theorem fQR:Limbs []:=fun x h=>by cases h
theorem cQE {x:Nat}{l:List Nat}:Limbs (x::l)↔x<4294967296/\Limbs l:=by
 unfold Limbs;simp
theorem lQI {l m:List Nat}:Limbs (l++m)↔Limbs l/\Limbs m:=by
 unfold Limbs;constructor
 ·exact fun h=>⟨fun x hx=>h x (by simp[hx]),fun x hx=>h x (by simp[hx])⟩
 ·intro h x hx;rcases List.mem_append.1 hx with h1 | h1
  ·exact h.1 x h1
  ·exact h.2 x h1
theorem Limbs.get {l:List Nat}(h:Limbs l){j x:Nat}(hx:l[j]? =some x):x<4294967296:=h x (List.mem_of_getElem? hx)
theorem Limbs.take {l:List Nat}(h:Limbs l)(n:Nat):Limbs (l.take n):=fun x hx=>h x (List.mem_of_mem_take hx)
theorem iQ2 (l m:List Nat):val (l++m)=val l+4294967296^l.length*val m:=by
 induction l with
 | nil=>simp[val]
 | cons x l ih=>simp only[List.cons_append,val,ih,List.length_cons,Nat.pow_succ];grind
theorem kQi (l:List Nat)(x:Nat):val (l++ [x])=val l+4294967296^l.length*x:=by
 rw[iQ2];simp[val]
theorem tQO {l:List Nat}(h:Limbs l):val l<4294967296^l.length:=by
 induction l with
 | nil=>simp[val]
 | cons x l ih=>
  have h1:=(cQE.1 h).1;have h2:=ih (cQE.1 h).2;simp only[val,List.length_cons,Nat.pow_succ];omega
theorem fQS {l:List Nat}{i x:Nat}(h:l[i]? =some x):val (l.take (i+1))=val (l.take i)+4294967296^i*x:=by
 have hi:i<l.length:=(List.getElem?_eq_some_iff.1 h).1;rw[List.take_add_one,h,Option.toList_some,kQi,List.length_take,Nat.min_eq_left (Nat.le_of_lt hi)]
theorem fQj (n:Nat):val (toL n)=n:=by
 induction n using Nat.strongRecOn with
 | _ n ih=>
  by_cases h:n=0
  ·subst h;rfl
  ·rw[iQa (by omega),val,ih _ (by omega)];omega
theorem fQT (n:Nat):Limbs (toL n):=by
 induction n using Nat.strongRecOn with
 | _ n ih=>
  by_cases h:n=0
  ·subst h;exact fQR
  ·rw[iQa (by omega),cQE];exact⟨Nat.mod_lt _ (by omega),ih _ (by omega)⟩
theorem sQR (n:Nat):(toL n).getLast? ≠some 0:=by
 induction n using Nat.strongRecOn with
 | _ n ih=>
  by_cases h:n=0
  ·subst h;simp[fQQ]
  ·rw[iQa (by omega)];by_cases h1:n/4294967296=0
   ·rw[h1,fQQ];simp;omega
   ·have:=ih (n/4294967296) (by omega);cases hl:toL (n/4294967296)with
    | nil=>have:=fQj (n/4294967296);rw[hl] at this;simp[val] at this;omega
    | cons y m=>rw[hl] at this;rw[List.getLast?_cons_cons];exact this
theorem vQg {l:List Nat}(h:Limbs l)(hz:l.getLast? ≠some 0):toL (val l)=l:=by
 induction l with
 | nil=>rfl
 | cons x l ih=>
  obtain⟨hx,hl⟩:=cQE.1 h;have hz':l.getLast? ≠some 0:=by
   cases l with
   | nil=>simp
   | cons y m=>rwa [List.getLast?_cons_cons] at hz
  have ih':=ih hl hz';have hpos:0<x+4294967296*val l:=by
   rcases Nat.eq_zero_or_pos x with h0 | h0
   ·subst h0;cases l with
    | nil=>simp at hz
    | cons y m=>
     rcases Nat.eq_zero_or_pos (val (y::m))with h1 | h1
     ·rw[h1,fQQ] at ih';cases ih'
     ·omega
   ·omega
  rw[val,iQa hpos];have e1:(x+4294967296*val l) % 4294967296=x:=by omega
  have e2:(x+4294967296*val l)/4294967296=val l:=by omega
  rw[e1,e2,ih']
theorem mQZ (n k:Nat):(toL n).length<=k↔n<4294967296^k:=by
 constructor
 ·intro h;have:=tQO (fQT n);rw[fQj] at this;exact Nat.lt_of_lt_of_le this (Nat.pow_le_pow_right (by omega) h)
 ·intro h;induction k generalizing n with
  | zero=>simp at h;subst h;simp[fQQ]
  | succ k ih=>
   by_cases h0:n=0
   ·subst h0;simp[fQQ]
   ·rw[iQa (by omega),List.length_cons];have:n/4294967296<4294967296^k:=by
     rw[Nat.pow_succ] at h;exact Nat.div_lt_of_lt_mul (by omega)
    have:=ih _ this;omega
def Vd (l:List Nat):Prop:=l.length<=1024/\l.getLast? ≠some 0
instance (l:List Nat):Decidable (Vd l):=by unfold Vd;infer_instance
theorem iQ3 {n:Nat}(h:n<4294967296^1024):Vd (toL n):=⟨(mQZ n 1024).2 h,sQR n⟩
def nQ3 (n:Nat):List Nat:=if(toL n).length<=1024 then toL n else []
def vQh (n:Nat):Int:=if(toL n).length<=1024 then 0 else 2
theorem kQj {l:List Nat}{n:Nat}(h:∀x∈l.drop n,x=0):val (l.take n)=val l:=by
 have h1:val l=val (l.take n++l.drop n):=by rw[List.take_append_drop]
 rw[h1,iQ2];have:∀m:List Nat,(∀x∈m,x=0)->val m=0:=by
  intro m;induction m with
  | nil=>intro _;rfl
  | cons x m ih=>intro h;rw[val,h x (by simp),ih (fun y hy=>h y (by simp[hy]))]
 rw[this _ h];simp
theorem sQS {l:List Nat}(hl:Limbs l){n:Nat}(h:∀x∈l.drop n,x=0)(hn:n=0∨∃x,l[n-1]? =some x/\x≠0):l.take n=toL (val l):=by
 rw[<-kQj h,vQg (hl.take n)];rcases hn with rfl | ⟨x,hx,h0⟩
 ·simp
 ·have hlt:n-1<l.length:=(List.getElem?_eq_some_iff.1 hx).1;rcases Nat.eq_zero_or_pos n with rfl | hp
  ·simp
  ·rw[List.getLast?_eq_getElem?,List.length_take,Nat.min_eq_left (by omega),List.getElem?_take,if_pos (by omega),hx];simpa using h0
theorem mQ0 {l:List Nat}(h:Limbs l)(i:Nat):val (l.take i)<4294967296^i:=
 Nat.lt_of_lt_of_le (tQO (h.take i)) (Nat.pow_le_pow_right (by omega) (by rw[List.length_take];omega))
theorem xQe (l:List Nat)(i:Nat):val (l.drop i)=l[i]?.getD 0+4294967296*val (l.drop (i+1)):=by
 rcases Nat.lt_or_ge i l.length with h | h
 ·rw[List.drop_eq_getElem_cons h,val];simp[h]
 ·rw[List.drop_of_length_le h,List.drop_of_length_le (by omega)];simp[val,h]
theorem eQ3 (l:List Nat)(i:Nat):val (l.take (i+1))=val (l.take i)+4294967296^i*l[i]?.getD 0:=by
 rcases Nat.lt_or_ge i l.length with h | h
 ·rw[fQS (List.getElem?_eq_getElem h)];simp[h]
 ·rw[List.take_of_length_le h,List.take_of_length_le (by omega)];simp[h]
theorem oQ4 {l:List Nat}(h:Limbs l)(i:Nat):l[i]?.getD 0<4294967296:=by
 cases hi:l[i]? with
 | none=>simp
 | some x=>simpa using h.get hi
theorem sQT {p:List Nat}{i c:Nat}{a b:List Nat}(hp:p.length=i)(h:val p+c*4294967296^i=val (a.take i)+val (b.take i)){s:Nat}(hs:s=c+a[i]?.getD 0+b[i]?.getD 0):
  val (p++ [s % 4294967296])+s/4294967296*4294967296^(i+1)=val (a.take (i+1))+val (b.take (i+1)):=by
 rw[kQi,hp,eQ3,eQ3,Nat.pow_succ];have hd:s % 4294967296+4294967296*(s/4294967296)=s:=Nat.mod_add_div s 4294967296;generalize 4294967296^i=P at*;generalize s % 4294967296=r at*;generalize s/4294967296=q at*
 grind
theorem iQ4 {p:List Nat}(hp:Limbs p)(s:Nat):Limbs (p++ [s % 4294967296]):=lQI.2 ⟨hp,cQE.2 ⟨Nat.mod_lt _ (by omega),fQR⟩⟩
theorem vQi {α:Type}(p:List α)(x y:α)(r:List α):(p++x::r).set p.length y=p++y::r:=by
 induction p with
 | nil=>rfl
 | cons z p ih=>simp[ih]
theorem nQ4 {α:Type}(p:List α)(x y:α)(r:List α){i:Nat}(hi:p.length=i):(p++x::r).set i y=(p++ [y])++r:=by
 subst hi;rw[vQi];simp
theorem vQj {α:Type}(p:List α)(x:α)(r:List α){i:Nat}(hi:p.length=i):(p++x::r)[i]? =some x:=by
 subst hi;simp
end Nt
end
section
namespace Nt
open Go Go.RowKit
def cells (l:List Nat):List Value:=l.map fun(x:Nat)=>.int .u32 x
theorem fQU {l:List Nat}{j:Nat}{u:Value}(h:(cells l)[j]? =some u):∃x,l[j]? =some x/\u= .int .u32 (x:Int):=by
 simp only[cells,List.getElem?_map,Option.map_eq_some_iff] at h;obtain⟨x,hx,rfl⟩:=h;exact⟨x,hx,rfl⟩
theorem oQ5 {l:List Nat}{j x:Nat}(h:l[j]? =some x):(cells l)[j]? =some (.int .u32 (x:Int)):=by
 simp[cells,h]
theorem lQJ (l m:List Nat):cells (l++m)=cells l++cells m:=by simp[cells]
theorem oQ6 (l:List Nat)(n:Nat):cells (l.take n)=(cells l).take n:=by simp[cells]
theorem lQK (l:List Nat)(i x:Nat):cells (l.set i x)=(cells l).set i (.int .u32 (x:Int)):=by simp[cells,List.map_set]
theorem lQL (l:List Nat):∀u∈cells l,aQ8 u=true:=by
 intro u hu;simp only[cells,List.mem_map] at hu;obtain⟨x,_,rfl⟩:=hu;rfl
abbrev SN (w:World)(A:Option Addr)(n c:Nat)(l:List Nat):Prop:=Sl w 1 A n c (cells l)
theorem SN.length {w:World}{A:Option Addr}{n c:Nat}{l:List Nat}(h:SN w A n c l):l.length=n:=by have:=h.len;simpa [cells] using this
theorem SN.bd {w:World}{A:Option Addr}{n c:Nat}{l:List Nat}(h:SN w A n c l):n<=c/\(c:Int)<=9223372036854775807:=by
 have h1:=h.le;have h2:=h.cap;unfold maxLen at h2;omega
theorem wQT (l:List Nat):decide (Vd l)=(decide (l.length<=1024)&&(decide (l.length=0)||(l.getLast? !=some 0))):=by
 unfold Vd;cases l with
 | nil=>simp
 | cons x l=>rw[Bool.eq_iff_iff];simp
theorem kQk (A:Option Addr)(n c:Nat)(l:List Nat)(w:World)(h:SN w A n c l):
  Fn Tryz.prog 139 [.slice A n c] w (fun v w'=>v= .bool (decide (Vd l))/\w'=w):=by
 have hl:=h.length;have hb:=h.bd;refine aQf (c:=yQr) aQb Tryz.func139 rfl rfl rfl ?_;rw[wQT];refine aQq (fun h1=>?_) (fun h1=>?_)
 ·refine aQP (fun h2=>?_) (fun h2=>?_)
  ·refine And.intro ?_ rfl;have:l=[]:=List.eq_nil_of_length_eq_zero (by omega);subst this;simp
  ·refine aQa ((n-1:Nat):Int) (by omega) (by omega) ?_;refine aQ3 h (by omega) (fun ad u hA hu hcell=>?_);obtain⟨x,hx,rfl⟩:=fQU hu;refine load hcell ?_;refine And.intro ?_ rfl;have hlast:l.getLast? =some x:=by rw[List.getLast?_eq_getElem?];rw[hl];exact hx
   congr 1;rw[hlast,decide_eq_true (by omega:l.length<=1024),decide_eq_false (by omega:¬l.length=0)];show((x:Int) !=0)=_;rw[Bool.eq_iff_iff];simp
 ·refine And.intro ?_ rfl;rw[decide_eq_false (by omega:¬l.length<=1024)];rfl
theorem qQ1 {l:List Nat}{k:Nat}(hk:0<k)(h:∀x∈l.drop k,x=0)(h0:l[k-1]? =some 0):∀x∈l.drop (k-1),x=0:=by
 have hlt:k-1<l.length:=(List.getElem?_eq_some_iff.1 h0).1;rw[List.drop_eq_getElem_cons hlt];intro x hx;rcases List.mem_cons.1 hx with rfl | hx
 ·simpa [List.getElem?_eq_getElem hlt] using h0
 ·rw[show k-1+1=k by omega] at hx;exact h x hx
theorem sQU (A:Option Addr)(n c:Nat)(l:List Nat)(w:World)(h:SN w A n c l)(hL:Limbs l):
  Fn Tryz.prog 195 [.slice A n c] w (fun v w'=>∃A' c',v= .tuple #[.slice A' (nQ3 (val l)).length c',.int .i64 (vQh (val l))]/\SN w A' (nQ3 (val l)).length c' (nQ3 (val l))/\(A'=A∨A'=none)/\w'=w):=by
 have hl:=h.length;have hb:=h.bd;refine aQf (c:=yQZ) aQb Tryz.func195 rfl rfl rfl ?_;refine loop aQb [4] (fun k:Nat=>[.int .i64 k]) (fun k w'=>w'=w/\k<=n/\∀x∈l.drop k,x=0) (fun k _=>k) n rfl ⟨rfl,Nat.le_refl n,by rw[<-hl];simp⟩ ?_;intro k w' hI;obtain⟨rfl,hkn,hz⟩:=hI;have done:(k=0∨∃x,l[k-1]? =some x/\x≠0)->∃A' c',(if k<=1024 then Value.tuple #[.slice A k c,.int .i64 0] else .tuple #[.slice none 0 0,.int .i64 2])= .tuple #[.slice A' (nQ3 (val l)).length c',.int .i64 (vQh (val l))]/\SN w' A' (nQ3 (val l)).length c' (nQ3 (val l))/\(A'=A∨A'=none)/\w'=w':=by
  intro hlast;have hs:=sQS hL hz hlast;have hlen:(toL (val l)).length=k:=by rw[<-hs,List.length_take];omega
  unfold nQ3 vQh;rw[hlen];split
  ·refine⟨A,c,by rw[hlen],?_,.inl rfl,rfl⟩;rw[hlen];have:=h.take hkn
   rwa [Nat.mul_one,<-oQ6,hs] at this
  ·exact⟨none,0,rfl,Sl.nil w' 1,.inr rfl,rfl⟩
 refine aQq (fun h1=>?_) (fun h1=>?_)
 ·refine aQa ((k-1:Nat):Int) (by omega) (by omega) ?_;refine aQ3 h (by omega) (fun ad u hA hu hcell=>?_);obtain⟨x,hx,rfl⟩:=fQU hu;refine load hcell ?_;refine aQP (fun h2=>?_) (fun h2=>?_)
  ·refine aQa ((k-1:Nat):Int) (by omega) (by omega) ?_;refine⟨k-1,rfl,⟨rfl,by omega,?_⟩,by show k-1<k;omega⟩;have:x=0:=by omega
   subst this;exact qQ1 (by omega) hz hx
  ·have hd:=done (.inr ⟨x,hx,by omega⟩);refine aQq (fun h3=>?_) (fun h3=>?_)
   ·rw[if_neg (by omega)] at hd;exact hd
   ·refine bQ1 aQb rfl rfl rfl rfl rfl rfl (by omega) ?_;rw[if_pos (by omega)] at hd;exact hd
 ·have hd:=done (.inl (by omega));refine aQq (fun h3=>?_) (fun h3=>?_)
  ·omega
  ·refine bQ1 aQb rfl rfl rfl rfl rfl rfl (by omega) ?_;rw[if_pos (by omega)] at hd;exact hd
theorem qQ2 (A:Option Addr)(n c:Nat)(l:List Nat)(w:World)(h:SN w A n c l)(hL:Limbs l):
  Fn Tryz.prog 195 [.slice A n c] w (fun v w'=>∃A' c',v= .tuple #[.slice A' (nQ3 (val l)).length c',.int .i64 (vQh (val l))]/\SN w A' (nQ3 (val l)).length c' (nQ3 (val l))/\w'=w):=
 (sQU A n c l w h hL).mono fun _ _ ⟨A',c',h1,h2,_,h4⟩=>⟨A',c',h1,h2,h4⟩
end Nt
end
section
namespace Nt
open Go Go.RowKit
theorem mQ1 {n:Nat}(h:(toL n).length<=1024):nQ3 n=toL n:=if_pos h
theorem vQk {n:Nat}(h:(toL n).length<=1024):vQh n=0:=if_pos h
theorem vQl (N:Nat)(h:N<18446744073709551616):val [N % 4294967296,N/4294967296 % 4294967296]=N:=by
 simp[val];omega
theorem of_fn (N:Nat)(w:World)(hN:N<18446744073709551616):
  Fn Tryz.prog 135 [.int .u64 N] w (fun v w'=>∃A c,v= .slice A (toL N).length c/\SN w' A (toL N).length c (toL N)/\Ext w w'):=by
 refine aQf (c:=yQn) aQb Tryz.func135 rfl rfl rfl ?_;refine gQ0 ?_;refine fQr 32 4294967296 (by decide) rfl rfl ?_;refine gQ0 ?_;refine dQB aQb rfl rfl rfl rfl rfl rfl rfl rfl rfl rfl ?_;intro w1 hE hsz hB;have hs:SN w1 (some ⟨w.heap.size,0,none⟩) 2 2 [N % 4294967296,N/4294967296 % 4294967296]:=Sl.own' hB rfl (by simp[maxLen]);have hL:Limbs [N % 4294967296,N/4294967296 % 4294967296]:=cQE.2 ⟨Nat.mod_lt _ (by omega),cQE.2 ⟨Nat.mod_lt _ (by omega),fQR⟩⟩;refine call (qQ2 _ _ _ _ _ hs hL) ?_;rintro v w' ⟨A',c',rfl,hs',rfl⟩;rw[vQl N hN] at hs' ⊢;have hr:nQ3 N=toL N:=mQ1 (by have:=(mQZ N 2).2 (by omega);omega);rw[hr] at hs' ⊢;exact⟨A',c',rfl,hs',hE⟩
end Nt
end
section
namespace Nt
open Go Go.RowKit
def xQI (a b:List Nat)(n:Nat):List Nat:=if Vd a/\Vd b then nQ3 n else []
def xQJ (a b:List Nat)(n:Nat):Int:=if Vd a/\Vd b then vQh n else 1
theorem qQ3 {a b:List Nat}{n:Nat}(h:¬(Vd a/\Vd b)):xQI a b n=[]:=if_neg h
theorem qQ4 {a b:List Nat}{n:Nat}(h:¬(Vd a/\Vd b)):xQJ a b n=1:=if_neg h
theorem kQl {a b:List Nat}{n:Nat}(ha:Vd a)(hb:Vd b):xQI a b n=nQ3 n:=if_pos ⟨ha,hb⟩
theorem nQ5 {a b:List Nat}{n:Nat}(ha:Vd a)(hb:Vd b):xQJ a b n=vQh n:=if_pos ⟨ha,hb⟩
def tQP (w:World)(l:List Nat)(e:Int)(v:Value)(w':World):Prop:=
 ∃A c,v= .tuple #[.slice A l.length c,.int .i64 e]/\SN w' A l.length c l/\Ext w w'
theorem iQ5 (w w':World)(e:Int)(h:Ext w w'):tQP w [] e (.tuple #[.slice none 0 0,.int .i64 e]) w':=⟨none,0,rfl,Sl.nil _ 1,h⟩
theorem add_fn (A B:Option Addr)(n c m d:Nat)(a b:List Nat)(w:World)(ha:SN w A n c a)(hb:SN w B m d b)(hLa:Limbs a)(hLb:Limbs b):
  Fn Tryz.prog 138 [.slice A n c,.slice B m d] w (tQP w (xQI a b (val a+val b)) (xQJ a b (val a+val b))):=by
 refine aQf (c:={yQq with cuts:=[3,12]}) aQb Tryz.func138 rfl rfl rfl ?_;refine call (kQk _ _ _ _ _ ha) ?_;rintro v w' ⟨rfl,rfl⟩;refine eQl (aQq (fun hva=>?_) (fun hva=>?_))
 case refine_2=>rw[qQ3 (fun h=>hva h.1),qQ4 (fun h=>hva h.1)];exact iQ5 _ _ _ (Ext.refl _)
 refine call (kQk _ _ _ _ _ hb) ?_;rintro v w' ⟨rfl,rfl⟩;refine eQl (aQq (fun hvb=>?_) (fun hvb=>?_))
 case refine_2=>rw[qQ3 (fun h=>hvb h.2),qQ4 (fun h=>hvb h.2)];exact iQ5 _ _ _ (Ext.refl _)
 rw[kQl hva hvb,nQ5 hva hvb];refine cut aQb [0,1] (fun s:(Option Addr×Nat×Nat×List Nat)×(Option Addr×Nat×Nat×List Nat)=>[.slice s.1.1 s.1.2.1 s.1.2.2.1,.slice s.2.1 s.2.2.1 s.2.2.2.1])
  (fun s w2=>w2=w'/\SN w' s.1.1 s.1.2.1 s.1.2.2.1 s.1.2.2.2/\SN w' s.2.1 s.2.2.1 s.2.2.2.1 s.2.2.2.2/\Limbs s.1.2.2.2/\Limbs s.2.2.2.2/\s.2.2.1<=s.1.2.1/\s.1.2.1<=1024/\val a+val b=val s.1.2.2.2+val s.2.2.2.2) ?_ ?_
 ·have hla:=ha.length;have hlb:=hb.length;have h1:=hva.1;have h2:=hvb.1;refine aQq (fun h=>?_) (fun h=>?_)
  ·exact⟨((B,m,d,b),(A,n,c,a)),rfl,rfl,hb,ha,hLb,hLa,by show n<=m;omega,by show m<=1024;omega,Nat.add_comm _ _⟩
  ·exact⟨((A,n,c,a),(B,m,d,b)),rfl,rfl,ha,hb,hLa,hLb,by show m<=n;omega,by show n<=1024;omega,rfl⟩
 rintro⟨⟨A,n,c,x⟩,⟨B,m,d,y⟩⟩ w2 ⟨rfl,hx,hy,hLx,hLy,hmn,hn,hval⟩
 dsimp only at hx hy hLx hLy hmn hn hval ⊢
 rw[hval];clear hval hva hvb ha hb hLa hLb;have hlx:=hx.length;have hly:=hy.length;refine aQa ((n+1:Nat):Int) (by omega) (by omega) ?_;refine jQh aQb rfl rfl rfl rfl rfl rfl rfl rfl (by show 4*_<=_;omega) (by unfold maxLen;omega) ?_;intro w3 hE3 hsz3 hB3;refine uQb aQb rfl rfl rfl rfl rfl rfl rfl hB3 (hx.ext hE3) (by omega) (by simp) (lQL x) ?_;intro w4 hgr4 hsz4 hB4;have hE4:Ext w2 w4:=hE3.own hgr4 (Nat.le_refl _);have hB4':Blk w4 w2.heap.size 219 (cells (x++ [0])):=by
  have e:cells x++(List.replicate (n+1) (Value.int .u32 0)).drop n=cells (x++ [0]):=by
   rw[lQJ,List.drop_replicate,show n+1-n=1 by omega];rfl
  rw[<-e];exact hB4
 refine loop aQb [33,7] (fun s:Nat×Nat=>[.int .i64 s.1,.int .u64 s.2]) (fun s w5=>Ext w2 w5/\s.1<=n/\s.2<2/\∃p,p.length=s.1/\Limbs p/\Blk w5 w2.heap.size 219 (cells (p++(x.drop s.1++ [0])))/\val p+s.2*4294967296^s.1=val (x.take s.1)+val (y.take s.1))
  (fun s _=>n-s.1) (0,0) rfl ⟨hE4,Nat.zero_le _,by decide,[],rfl,fQR,by simpa using hB4',by simp[val]⟩ ?_
 rintro⟨i,k⟩ w5 ⟨hE5,hi,hk,p,hp,hLp,hB5,hv⟩
 dsimp only at hi hk hp hB5 hv ⊢
 refine aQq (fun h2=>?_) (fun h2=>?_)
 ·have hxi:x[i]? =some x[i]:=List.getElem?_eq_getElem (by omega);have hcx:x.drop i=x[i]::x.drop (i+1):=List.drop_eq_getElem_cons (by omega);have hxl:=hLx.get hxi;rw[hcx,List.cons_append] at hB5;refine index (by omega) ?_;refine aQe hB5 (oQ5 (vQj p _ _ hp)) ?_;refine gQZ (by omega) ?_;refine cQh ((k+x[i]:Nat):Int) (by omega) (by omega) ?_;refine cut aQb [7] (fun s:Nat=>[.int .u64 s]) (fun s w6=>w6=w5/\s=k+x[i]?.getD 0+y[i]?.getD 0) ?_ ?_
  ·refine aQq (fun h3=>?_) (fun h3=>?_)
   ·refine aQ3 (hy.ext hE5) (by omega) (fun ad u hA hu hcell=>?_);obtain⟨z,hz,rfl⟩:=fQU hu;have hzl:=hLy.get hz;refine load hcell ?_;refine gQZ (by omega) ?_;refine cQh ((k+x[i]+z:Nat):Int) (by omega) (by omega) ?_;exact⟨k+x[i]+z,rfl,rfl,by rw[hz,hxi];rfl⟩
   ·exact⟨k+x[i],rfl,rfl,by rw[hxi,List.getElem?_eq_none (by omega)];rfl⟩
  rintro s w6 ⟨rfl,hs⟩;have hyl:=oQ4 hLy i;have hsb:s<2*4294967296:=by rw[hxi,Option.getD_some] at hs;omega
  refine gQ0 ?_;refine index (by omega) ?_;refine fQs hB5 (by simp[cells];omega) ?_;intro w7 hgr7 hB7;refine fQr 32 4294967296 (by decide) rfl rfl ?_;refine aQa ((i+1:Nat):Int) (by omega) (by omega) ?_;refine⟨(i+1,s/4294967296),rfl,⟨hE5.own hgr7 (Nat.le_refl _),by show i+1<=n;omega,by show s/4294967296<2;omega,p++ [s % 4294967296],by simp[hp],iQ4 hLp s,?_,sQT hp hv hs⟩,by show n-(i+1)<n-i;omega⟩;rw[<-lQK,nQ4 _ _ _ _ hp] at hB7;exact hB7
 ·have:i=n:=by omega
  subst this;rw[List.drop_of_length_le (by omega),List.nil_append] at hB5;rw[List.take_of_length_le (by omega),List.take_of_length_le (by omega)] at hv;refine gQ0 ?_;refine index (by omega) ?_;refine fQs hB5 (by simp[cells];omega) ?_;intro w7 hgr7 hB7;rw[<-lQK,nQ4 _ _ _ _ hp,List.append_nil] at hB7;have hs:SN w7 (some ⟨w2.heap.size,0,none⟩) (i+1) (i+1) (p++ [k % 4294967296]):=Sl.own' hB7 (by simp[cells,hp]) (by unfold maxLen;omega);refine call (qQ2 _ _ _ _ _ hs (iQ4 hLp k)) ?_;rintro v w8 ⟨A',c',rfl,hs',rfl⟩;have e:val (p++ [k % 4294967296])=val x+val y:=by
   rw[kQi,hp,Nat.mod_eq_of_lt (by omega),Nat.mul_comm];exact hv
  rw[e] at hs' ⊢;exact⟨A',c',rfl,hs',hE5.own hgr7 (Nat.le_refl _)⟩
end Nt
end
section
namespace Nt
open Go Go.RowKit
def sQV (l:List Nat):Bool:=decide (Vd l)&&decide (l.length<=2)
def vQN (l:List Nat):Nat:=if sQV l=true then val l else 0
theorem tQQ {l:List Nat}(h:¬(Vd l/\l.length<=2)):vQN l=0/\sQV l=false:=by
 have hb:sQV l=false:=by unfold sQV;rw[Bool.eq_false_iff];simpa using h
 exact⟨by unfold vQN;rw[hb];rfl,hb⟩
theorem qQ5 {l:List Nat}(h1:Vd l)(h2:l.length<=2):vQN l=val l/\sQV l=true:=by
 have hb:sQV l=true:=by unfold sQV;simp[h1,h2]
 exact⟨by unfold vQN;rw[hb];rfl,hb⟩
theorem iQ6 {x n d:Nat}{y:Int}{K:Int->Prop}(hy:0<=y)(hn:min y.toNat 64=n)(hd:2^n=d)(hx:x*d<=18446744073709551615)(k:K ((x*d:Nat):Int)):eQc (0<=y) (IntKind.u64.wrap ((x:Int)*2^(min y.toNat IntKind.u64.bits))) K:=by
 refine normIf hy ?_ k;rw[show min y.toNat IntKind.u64.bits=n from hn];have e:(x:Int)*2^n=((x*d:Nat):Int):=by rw[<-hd];norm_cast
 rw[e];exact IntWalk.u64_in _ (by omega)
theorem vQm {a x:Nat}(ha:a<4294967296):a ||| (x*4294967296)=a+4294967296*x:=by
 have:=Nat.shiftLeft_add_eq_or_of_lt (b:=a) (i:=32) (by omega) x;rw[Nat.shiftLeft_eq,show(2:Nat)^32=4294967296 from rfl] at this;rw[Nat.or_comm];omega
theorem qQ6 (A:Option Addr)(n c:Nat)(l:List Nat)(w:World)(h:SN w A n c l)(hL:Limbs l):
  Fn Tryz.prog 88 [.slice A n c] w (fun v w'=>v= .tuple #[.int .u64 (vQN l),.bool (sQV l)]/\w'=w):=by
 have hl:=h.length;refine aQf (c:=c88) aQb Tryz.func88 rfl rfl rfl ?_;refine call (kQk _ _ _ _ _ h) ?_;rintro v w' ⟨rfl,rfl⟩;refine eQl (aQq (fun hv=>?_) (fun hv=>?_))
 ·refine aQq (fun h2=>?_) (fun h2=>?_)
  ·obtain⟨e1,e2⟩:=tQQ (l:=l) (fun k=>by omega);rw[e1,e2];exact And.intro rfl rfl
  ·obtain⟨e1,e2⟩:=qQ5 hv (by omega);rw[e1,e2];refine loop aQb [16,4] (fun s:Nat=>[.int .i64 s,.int .u64 (val (l.take s):Nat)]) (fun s w2=>w2=w'/\s<=n) (fun s _=>n-s) 0 rfl ⟨rfl,Nat.zero_le _⟩ ?_;rintro k w2 ⟨rfl,hk⟩
   dsimp only
   refine aQq (fun h3=>?_) (fun h3=>?_)
   ·refine aQ3 h (by omega) (fun ad u hA hu hcell=>?_);obtain⟨x,hx,rfl⟩:=fQU hu;have hxl:=hL.get hx;refine load hcell ?_;refine gQZ (by omega) ?_;have hsucc:=fQS hx;have hlt:=mQ0 hL k;rcases(by omega:k=0∨k=1)with rfl | rfl
    ·refine aQa 0 (by omega) (by omega) ?_;refine iQ6 (n:=0) (d:=1) (by decide) (by decide) (by decide) (by omega) ?_;rw[Nat.mul_one];have e0:val (l.take 0)=0:=by simp[val]
     rw[e0];refine kQI (s:=x) (Nat.zero_or x) (by omega) (by omega) ?_;refine aQa ((1:Nat):Int) (by omega) (by omega) ?_;have hs1:val (l.take 1)=x:=by have h9:=hsucc;rw[e0] at h9;simpa using h9
     refine⟨1,?_,⟨rfl,by omega⟩,by show n-1<n-0;omega⟩
     dsimp only
     rw[hs1];rfl
    ·refine aQa 32 (by omega) (by omega) ?_;refine iQ6 (n:=32) (d:=4294967296) (by decide) (by decide) (by decide) (by omega) ?_;refine kQI (vQm (by omega)) (by omega) (by omega) ?_;refine aQa ((2:Nat):Int) (by omega) (by omega) ?_;have hs2:val (l.take 2)=val (l.take 1)+4294967296*x:=by have h9:=hsucc;simpa using h9
     refine⟨2,?_,⟨rfl,by omega⟩,by show n-2<n-1;omega⟩
     dsimp only
     rw[hs2];rfl
   ·rw[List.take_of_length_le (by omega)];exact And.intro rfl rfl
 ·obtain⟨e1,e2⟩:=tQQ (l:=l) (fun k=>hv k.1);rw[e1,e2];exact And.intro rfl rfl
theorem u8_of {a:Int}(h:(Lit.int .u8 a).wf=true):∃N:Nat,a=(N:Int)/\N<256:=by
 simp[Lit.wf,IntKind.min,IntKind.max,IntKind.signed,IntKind.bits] at h;exact⟨a.toNat,by omega,by omega⟩
end Nt
end
section
open Go Go.RowKit
def NumIn (w:World)(b:Nat)(v:Value):Prop:=∃A m c N,v= .slice A m c/\Nt.SN w A m c (Nt.toL N)/\N<=b
theorem NumIn.ext {w w':World}{b:Nat}{v:Value}(h:NumIn w b v)(k:Ext w w'):NumIn w' b v:=by
 obtain⟨A,m,c,N,h1,h2,h3⟩:=h;exact⟨A,m,c,N,h1,h2.ext k,h3⟩
theorem NumIn.mod {w w':World}{b g t:Nat}{v:Value}{cs:List Value}(h:NumIn w b v)(hB:Blk w g t cs)(hcs:∀u∈cs,∃A m c,u= .slice A m c)(hm:Mod (·=g) w w'):NumIn w' b v:=by
 obtain⟨A,m,c,N,h1,h2,h3⟩:=h;refine⟨A,m,c,N,h1,h2.modS hm (fun h0 i hi e=>?_),h3⟩;subst e;obtain⟨ad,rfl,hc⟩:=h2.at_ h0;obtain⟨ad',ea',hb⟩:=hi;cases ea';have hlen:=h2.length;obtain⟨x,hx⟩:∃x,(Nt.toL N)[0]? =some x:=⟨_,List.getElem?_eq_getElem (by omega)⟩
 have hcell:=hc 0 _ (show(Nt.cells (Nt.toL N))[0]? =some (.int .u32 x) by unfold Nt.cells;rw[List.getElem?_map,hx];rfl);unfold World.cell? at hcell;rw[cQG,hb,show w.heap[i]? =_ from hB] at hcell;simp only at hcell;split at hcell
 ·cases hcell
 ·rw[List.getElem?_toArray] at hcell;obtain⟨_,_,_,hs⟩:=hcs _ (List.mem_of_getElem? hcell);cases hs
def nQ6 (n:Nat)(nd:List Br)(x:Nat):Nat:=min n (aQz nd x).toNat
theorem vQn (x:DV)(n nb ab m:Nat)(w:World)(hN:Blk w nb 3 [.int .i64 n])(hA:Blk w ab 32 x.cells)(hx:SB w x.A x.n x.c x.nd)(hm:m<x.n+2)(h0:0<=aQz x.nd m):
  Fn Tryz.prog 136 [.int .i64 m,.pointer (some ⟨nb,0,none⟩),.pointer (some ⟨ab,0,none⟩)] w (fun u w'=>u= .int .i64 (nQ6 n x.nd m)/\Ext w w'):=by
 refine aQf (c:={yQo with cuts:=[]}) aQb Tryz.func136 rfl rfl rfl ?_;have hd:=Ext.drew w;refine aQm aQb (Ext w) 6 [(true,0),(true,1),(true,2),(false,3),(true,4),(true,5)] (by kernel_rfl) hd ?_;refine aQy (v:=.int .i64 n) (fun w' hw'=>by rw[(hN.ext hw').cell0];rfl) ?_;refine aQw (vs:=x.cells) rfl (fun w' hw' j u hj=>by rw[(hA.ext hw').cell];exact hj) ?_;refine call (bQT x.A x.n x.c x.r m x.nd w.drew (hx.ext hd) (by omega)) ?_;rintro _ w2 ⟨rfl,hE2⟩;refine⟨hd.trans hE2,?_⟩;refine norm (m:=(nQ6 n x.nd m:Int)) (by unfold nQ6;split<;>omega) ?_;exact⟨rfl,hd.trans hE2⟩
abbrev zQx (nb ab:Nat):Value:=.func (.func 136) #[] #[.pointer (some ⟨nb,0,none⟩),.pointer (some ⟨ab,0,none⟩)]
structure CtK (w:World) (x:DV) (n nb ab cb pb sb:Nat) (cs:List Value):Prop where
 hN:Blk w nb 3 [.int .i64 n]
 hA:Blk w ab 32 x.cells
 hx:SB w x.A x.n x.c x.nd
 hC:Blk w cb 213 [.slice (some ⟨sb,0,none⟩) (x.n+2) (x.n+2)]
 hP:Blk w pb 215 [zQx nb ab]
 hS:Blk w sb 143 cs
 len:cs.length=x.n+2
 sl:∀u∈cs,∃A m c,u= .slice A m c
 nums:∀(j:Nat) (v:Value),cs[j]? =some v->NumIn w (2^(n-nQ6 n x.nd j)) v
theorem CtK.ext {w w':World}{x:DV}{n nb ab cb pb sb:Nat}{cs:List Value}(h:CtK w x n nb ab cb pb sb cs)(k:Ext w w'):CtK w' x n nb ab cb pb sb cs:=
 ⟨h.hN.ext k,h.hA.ext k,h.hx.ext k,h.hC.ext k,h.hP.ext k,h.hS.ext k,h.len,h.sl,fun j v hv=>(h.nums j v hv).ext k⟩
theorem qQ7 {A B:Option Addr}{m c k d N M b:Nat}(hb:N+M<=b)(hb2:b<=4096)(w:World)(hA:Nt.SN w A m c (Nt.toL N))(hB:Nt.SN w B k d (Nt.toL M)):
  Fn Tryz.prog 138 [.slice A m c,.slice B k d] w (fun u w'=>∃v,u= .tuple #[v,.int .i64 0]/\NumIn w' b v/\Ext w w'):=by
 have lim:∀x,x<=4096->x<4294967296^1024:=fun x hx=>(show ∀k,0<k->x<4294967296^k from λk p=>Nat.lt_of_lt_of_le (show x<4294967296^1 by omega) (Nat.pow_le_pow_right (by decide) p)) 1024 (by decide)
 have vA:=Nt.iQ3 (lim N (by omega));have vB:=Nt.iQ3 (lim M (by omega));refine(Nt.add_fn A B m c k d _ _ w hA hB (Nt.fQT N) (Nt.fQT M)).mono ?_;rintro u w' ⟨A',c',hu,hS,hE⟩;rw[Nt.nQ5 vA vB,Nt.kQl vA vB,Nt.fQj,Nt.fQj,Nt.vQk (Nt.iQ3 (lim (N+M) (by omega))).1,Nt.mQ1 (Nt.iQ3 (lim (N+M) (by omega))).1] at hu;rw[Nt.kQl vA vB,Nt.fQj,Nt.fQj,Nt.mQ1 (Nt.iQ3 (lim (N+M) (by omega))).1] at hS;subst hu;exact⟨_,rfl,⟨A',_,c',N+M,rfl,hS,hb⟩,hE⟩
theorem mQ2 {w:World}{x:DV}{n nb ab cb pb sb:Nat}{cs:List Value}(hn:n<=12)(K:CtK w x n nb ab cb pb sb cs)(m f:Nat)(hm:m<x.n+2)(h0:0<=aQz x.nd m)(hf:f<=nQ6 n x.nd m):
  Fn Tryz.prog 137 [.int .i64 m,.int .i64 f,.pointer (some ⟨cb,0,none⟩),.pointer (some ⟨pb,0,none⟩)] w (fun u w'=>∃v,u= .tuple #[v,.int .i64 0]/\NumIn w' (2^(n-f)) v/\Ext w w'):=by
 have hpn:nQ6 n x.nd m<=n:=Nat.min_le_left _ _;have hmx:=K.hx.1.cap;have hmle:=K.hx.1.le;refine aQf (c:={yQp with cuts:=[]}) aQb Tryz.func137 rfl rfl rfl ?_;refine aQg K.hC rfl ?_;obtain⟨v,hv⟩:∃v,cs[m]? =some v:=⟨_,List.getElem?_eq_getElem (by rw[K.len];omega)⟩
 refine index (j:=m) (by omega) ?_;refine aQe K.hS hv ?_;refine aQg K.hP rfl ?_;refine call (vQn x n nb ab m w K.hN K.hA K.hx hm h0) ?_;rintro _ w1 ⟨rfl,hE1⟩;generalize hp:nQ6 n x.nd m=p at*;refine aQa ((p-f:Nat):Int) (by omega) (by omega) ?_;have hN0:=(K.nums m v hv).ext hE1;rw[hp] at hN0;refine loop aQb [8,20] (fun s:Value×Nat=>[s.1,.int .i64 s.2]) (fun s w'=>Ext w w'/\s.2<=p-f/\NumIn w' (2^(n-p)*2^s.2) s.1) (fun s _=>p-f-s.2) (v,0) rfl ⟨hE1,Nat.zero_le _,by simpa using hN0⟩ ?_;rintro⟨u,i⟩ w2 ⟨hE2,hi,A,mm,c,N,rfl,hS,hNb⟩;simp only at hi hNb;refine aQq (fun c1=>?_) (fun c1=>?_)
 ·have hip:i<p-f:=by simp only at c1;omega
  have e2:2^(n-p)*2^(i+1)<=4096:=by
   rw[<-Nat.pow_add];exact Nat.le_trans (Nat.pow_le_pow_right (by decide) (show n-p+(i+1)<=12 by omega)) (by decide)
  refine call (qQ7 (b:=2^(n-p)*2^(i+1)) (by rw[Nat.pow_succ,<-Nat.mul_assoc];omega) e2 w2 hS hS) ?_;rintro _ w3 ⟨u,rfl,hNu,hE3⟩;refine bQB rfl ?_;refine aQa ((i+1:Nat):Int) (by show((i:Nat):Int)+1=_;omega) (by omega) ?_;exact⟨(u,i+1),rfl,⟨hE2.trans hE3,hip,hNu⟩,by show p-f-(i+1)<p-f-i;omega⟩
 ·have hip:i=p-f:=by simp only at c1;omega
  refine⟨_,rfl,⟨A,mm,c,N,rfl,hS,?_⟩,hE2⟩;rw[hip,<-Nat.pow_add,show n-p+(p-f)=n-f by omega] at hNb;exact hNb
theorem vQo {c:Cx}{o:Oper}{S:Env}{w:World}{K:Env->World->Prop}{Q:cQB}{x y z:Operand}{ts:Array TypeId}{k1 k2 k3:IntKind}(ho:o.op= .call ⟨.builtin .max, #[x,y,z],ts⟩)(hx:S.ev x=some (.int k1 0))(hy:S.ev y=some (.int k2 0))(hz:S.ev z=some (.int k3 0))
  (kk:bQq c S o.dst (.v (.int k1 0)) (fun S=>K S w)):cQv c o S w K Q:=by
 refine aQ9 (w':=w) (v:=.int k1 0) (fun a hf=>?_) kk;have e1:=hf.ev hx;have e2:=hf.ev hy;have e3:=hf.ev hz;simp[execOp,ho,resolve,invoke,builtin,e1,e2,e3,Builtin.max_,Builtin.max2]
theorem wQU {n:Nat}{nd:List Br}{x:Nat}(h:(x:Int)<2)(hn:n<=12):nQ6 n nd x=n:=by
 unfold nQ6 aQz;rw[if_pos h];show min n 64=n;omega
theorem wQV {n i:Nat}{nd:List Br}{b:Br}(hb:nd[i]? =some b)(h0:0<=b.v)(hv:b.v<n):nQ6 n nd (i+2)=b.v.toNat:=by
 unfold nQ6 aQz;rw[if_neg (by omega),show(((i+2:Nat):Int)-2).toNat=i by omega,hb];simp only[Option.map_some,Option.getD_some];omega
theorem qQ8 {nd:List Br}{r:Int}(h:VD nd r){x:Int}:0<=aQz nd x:=by
 unfold aQz;split
 ·decide
 ·cases hb:nd[(x-2).toNat]? with
  | none=>simp
  | some b=>simpa using (h.1 _ b hb).1
set_option maxHeartbeats 1600000 in
theorem qQ9 (x:DV)(n:Nat)(hn:n<=12)(w:World)(hx:SB w x.A x.n x.c x.nd)(hov:ovD n x.nd x.r=true):
  Fn Tryz.prog 87 [dgV x.A x.n x.c x.r,.int .i64 n] w (fun u w'=>∃v,u= .tuple #[v,.int .i64 0]/\NumIn w' (2^n) v/\Ext w w'):=by
 obtain⟨hchk,hvin⟩:=iQ0.1 hov;have hvd:=(bQC.1 hchk).2;have hl:=hx.2;have hcap:=hx.1.cap;have hle:=hx.1.le;have h4096:=(bQC.1 hchk).1;simp only[maxLen] at hcap;refine aQf (c:={c87 with cuts:=[]}) aQb Tryz.func87 rfl rfl rfl ?_;refine new (fun w1 hE1 hz1 hB1=>?_);refine new (fun w2 hE2 hz2 hB2=>?_);have hE02:=hE1.trans hE2;have hA2:=hB1.ext hE2;refine aQd hA2 rfl ?_;refine call (dQI x.A x.n x.c x.nd x.r w2 (hx.ext hE02)) ?_;rintro _ w3 ⟨rfl,hE3⟩;have hE03:=hE02.trans hE3;refine bQB hchk ?_;have hA3:=hA2.ext hE3;have hN3:=hB2.ext hE3;refine aQg hN3 rfl ?_;refine aQB (by omega) ?_;refine aQg hN3 rfl ?_;refine aQB (by omega) ?_;refine aQe hA3 rfl ?_;refine loop aQb [35] (fun i:Nat=>[.int .i64 i]) (fun i w'=>Ext w3 w'/\i<=x.n) (fun i _=>x.n-i) 0 rfl ⟨Ext.refl _,Nat.zero_le _⟩ ?_;rintro i w4 ⟨hE4,hi⟩;refine aQq (fun c1=>?_) (fun c1=>?_)
 ·have hin:i<x.n:=by omega
  refine aQp cQl ((hx.ext hE03).ext hE4) rfl hin (fun p b hb hc=>?_);refine aQK (vs:=b.cells) rfl hc ?_;refine new (fun w5 hE5 hz5 hB5=>?_);refine aQc hB5 rfl (sc rfl) (fun w6 hg6 _ hB6=>?_);have hE46:Ext w4 w6:=aQJ hE5 hB5 hg6;have hbv:=hvin b (List.mem_of_getElem? hb);refine aQg hB6 rfl ?_;refine aQg ((hN3.ext hE4).ext hE46) rfl ?_;refine aQB (by omega) ?_;refine aQa ((i+1:Nat):Int) (by show((i:Nat):Int)+1=_;omega) (by omega) ?_;exact⟨i+1,rfl,⟨hE4.trans hE46,hin⟩,by show x.n-(i+1)<x.n-i;omega⟩
 have hE04:=hE03.trans hE4;have hA4:=hA3.ext hE4;have hN4:=hN3.ext hE4;refine aQe hA4 rfl ?_;refine aQa ((x.n+2:Nat):Int) (by omega) (by omega) ?_;refine jQh aQb rfl rfl rfl rfl rfl rfl rfl rfl (by show 24*(x.n+2)<=_;omega) (by unfold maxLen;omega) (fun w5 hE5 hz5 hB5=>?_);refine new (fun w6 hE6 hz6 hB6=>?_);refine aQC hB6 (by decide) (fun w7 hM7 hB7=>?_);have hE57:Ext w5 w7:=hM7.ext hE6 (fun i hi=>by omega);have hz7:=hM7.size;have hB57:=hB5.ext hE57;have hs57:=hE57.size;refine aQm aQb (fun w'=>Mod (·=w4.heap.size) w7 w') 4 [(true,0),(false,1),(true,2),(false,3)] (by kernel_rfl) (Mod.of_ext _ (Ext.drew w7)) ?_;have ns:¬w5.heap.size=w4.heap.size:=by omega
 refine aQy (v:=.slice (some ⟨w4.heap.size,0,none⟩) (x.n+2) (x.n+2)) (fun w' hw'=>by rw[(hB7.mod hw' ns).cell0];rfl) ?_;refine call (Nt.of_fn 1 w7.drew (by decide)) ?_;rintro _ w8 ⟨A8,c8,rfl,hS8,hE8⟩;have hE78:Ext w7 w8:=(Ext.drew w7).trans hE8;refine⟨Mod.of_ext _ hE78,?_⟩;refine index (j:=1) (by omega) ?_;have hB8:=hB57.ext hE78;refine aQn hB8 (by simp) (fun w9 hM9 hB9=>?_);have hM79:Mod (·=w4.heap.size) w7 w9:=(Mod.of_ext _ hE78).trans hM9 (fun i hi=>.inl hi);refine⟨hM79,?_⟩;have hE49:Ext w4 w9:=hM79.ext (hE5.trans hE57) (fun i hi=>by omega);have hz9:=hM79.size;refine new (fun w10 hE10 hz10 hB10=>?_);refine aQC hB10 (by decide) (fun w11 hM11 hB11=>?_);have hE911:Ext w9 w11:=hM11.ext hE10 (fun i hi=>by omega);have hE411:=hE49.trans hE911;have hz11:=hM11.size;have hE011:=hE04.trans hE411;have hcs0:∀u∈(List.replicate (x.n+2) (Value.slice none 0 0)).set 1 (.slice A8 (Nt.toL 1).length c8),∃A m c,u= .slice A m c:=fun u hu=>by
  rcases List.mem_or_eq_of_mem_set hu with hu | rfl
  ·exact⟨none,0,0,List.eq_of_mem_replicate hu⟩
  ·exact⟨_,_,_,rfl⟩
 have K0:CtK w11 x n w1.heap.size w.heap.size w5.heap.size w9.heap.size w4.heap.size ((List.replicate (x.n+2) (Value.slice none 0 0)).set 1 (.slice A8 (Nt.toL 1).length c8)):=by
  refine⟨hN4.ext hE411,hA4.ext hE411,hx.ext hE011,(hB7.mod hM79 ns).ext hE911,hB11,hB9.ext hE911,by simp,hcs0,fun j v hv=>?_⟩;by_cases hj:1=j
  ·subst hj;rw[List.getElem?_set_self (by simp)] at hv;cases hv;rw[wQU (by decide) hn,Nat.sub_self];have h1:NumIn w8 (2^0) (.slice A8 (Nt.toL 1).length c8):=⟨A8,_,c8,1,rfl,hS8,Nat.le_refl _⟩
   exact(h1.mod hB8 (fun u hu=>⟨none,0,0,List.eq_of_mem_replicate hu⟩) hM9).ext hE911
  ·rw[List.getElem?_set_ne hj] at hv;have:=List.eq_of_mem_replicate (List.mem_of_getElem? hv);subst this;exact⟨none,0,0,0,rfl,Sl.nil _ _,Nat.zero_le _⟩
 generalize (List.replicate (x.n+2) (Value.slice none 0 0)).set 1 (.slice A8 (Nt.toL 1).length c8)=cs0 at*;refine aQe K0.hA rfl ?_;refine loop aQb [57] (fun i:Nat=>[.int .i64 i]) (fun i w'=>Mod (·=w4.heap.size) w11 w'/\i<=x.n/\∃cs,CtK w' x n w1.heap.size w.heap.size w5.heap.size w9.heap.size w4.heap.size cs) (fun i _=>x.n-i) 0 rfl ⟨Mod.refl _ _,Nat.zero_le _,cs0,K0⟩ ?_;rintro i w12 ⟨hM12,hi,cs,K⟩;have hE012:Ext w w12:=hM12.ext hE011 (fun j hj=>by have:=hE04.size;omega);refine aQq (fun c1=>?_) (fun c1=>?_)
 ·have hin:i<x.n:=by omega
  refine aQp cQl K.hx rfl hin (fun p b hb hc=>?_);obtain⟨k1,k2,k3,k4,k5,k6,k7,k8,k9,k10⟩:=hvd.1 i b hb;have hbv:=hvin b (List.mem_of_getElem? hb);obtain⟨bv,hbe⟩:=Int.eq_ofNat_of_zero_le k1;obtain⟨bl,hble⟩:=Int.eq_ofNat_of_zero_le k3;obtain⟨bh,hbhe⟩:=Int.eq_ofNat_of_zero_le k5;refine aQK (vs:=b.cells) rfl hc ?_;refine new (fun w13 hE13 hz13 hB13=>?_);refine aQc hB13 rfl (sc rfl) (fun w14 hg14 _ hB14=>?_);have hE1214:Ext w12 w14:=aQJ hE13 hB13 hg14;have K14:=K.ext hE1214;refine aQe hB14 rfl ?_;refine aQg hB14 rfl ?_;refine aQa ((bv+1:Nat):Int) (by show b.v+1=_;omega) (by omega) ?_;have hpl:∀y:Int,b.v<aQz x.nd y->∀m:Nat,y=m->bv+1<=nQ6 n x.nd m:=fun y hy m hm=>by
   subst hm;unfold nQ6;omega
  show eQh _ _ [.int .i64 b.l,_,_,_] _ _ _;rw[hble];refine call (mQ2 hn K14 bl (bv+1) (by omega) (qQ8 hvd) (hpl b.l k9 bl hble)) ?_;rintro _ w15 ⟨ul,rfl,hUl,hE15⟩;refine aQe (hB14.ext hE15) rfl ?_;refine aQg (hB14.ext hE15) rfl ?_;refine aQa ((bv+1:Nat):Int) (by show b.v+1=_;omega) (by omega) ?_;show eQh _ _ [.int .i64 b.h,_,_,_] _ _ _;rw[hbhe];refine call (mQ2 hn (K14.ext hE15) bh (bv+1) (by omega) (qQ8 hvd) (hpl b.h k10 bh hbhe)) ?_;rintro _ w16 ⟨uh,rfl,⟨Ah,mh,ch,Nh,rfl,hSh,hNh⟩,hE16⟩;obtain⟨Al,ml,cl,Nl,rfl,hSl,hNl⟩:=hUl.ext hE16;have hpw:2^(n-(bv+1))+2^(n-(bv+1))=2^(n-bv):=by
   rw[show n-bv=(n-(bv+1))+1 by omega,Nat.pow_succ];omega
  refine call (qQ7 (b:=2^(n-bv)) (by omega) (Nat.le_trans (Nat.pow_le_pow_right (by decide) (show n-bv<=12 by omega)) (by decide)) w16 hSl hSh) ?_;rintro _ w17 ⟨_,rfl,⟨Au,mu,cu,Nu,rfl,hSu,hNu⟩,hE17⟩;have hUs:NumIn w17 (2^(n-bv)) (.slice Au mu cu):=⟨Au,mu,cu,Nu,rfl,hSu,hNu⟩
  have hE1417:=(hE15.trans hE16).trans hE17;have K17:=K14.ext hE1417;refine vQo rfl rfl rfl rfl ?_;refine bQB rfl ?_;refine aQg K17.hC rfl ?_;refine aQa ((i+2:Nat):Int) (by show((i:Nat):Int)+2=_;omega) (by omega) ?_;refine index (j:=i+2) (by omega) ?_;refine aQn (j:=i+2) K17.hS (by rw[K17.len];omega) (fun w18 hM18 hB18=>?_);refine aQa ((i+1:Nat):Int) (by show((i:Nat):Int)+1=_;omega) (by omega) ?_;have hE1217:=hE1214.trans hE1417;refine⟨i+1,rfl,⟨(hM12.trans (Mod.of_ext (·=w4.heap.size) hE1217) (fun j hj=>.inl hj)).trans hM18 (fun j hj=>.inl hj),hin,cs.set (i+2) (.slice Au mu cu),?_⟩,by show x.n-(i+1)<x.n-i;omega⟩;have hv5:b.v=bv:=hbe;have hpa:nQ6 n x.nd (i+2)=bv:=by rw[wQV hb k1 hbv];omega
  have K18:Ext w12 w17:=hE1217;have hMd:Mod (·=w4.heap.size) w17 w18:=hM18;have n1:¬w1.heap.size=w4.heap.size:=by have:=hE3.size;have:=hE4.size;omega
  have n0:¬w.heap.size=w4.heap.size:=by have:=hE3.size;have:=hE4.size;omega
  have n9:¬w9.heap.size=w4.heap.size:=by have:=hE49.size;omega
  have hx17:=K17.hx;refine⟨K17.hN.mod hMd n1,K17.hA.mod hMd n0,hx17.modo hMd (fun ad ea h0=>by have:=SB.lt hx ad ea h0;have:=hE04.size;omega),K17.hC.mod hMd ns,K17.hP.mod hMd n9,hB18,by rw[List.length_set];exact K17.len,fun u hu=>?_,fun j v hv=>?_⟩
  ·rcases List.mem_or_eq_of_mem_set hu with hu | rfl
   ·exact K17.sl u hu
   ·exact⟨_,_,_,rfl⟩
  ·by_cases hj:i+2=j
   ·subst hj;rw[List.getElem?_set_self (by rw[K17.len];omega)] at hv;cases hv;rw[hpa];exact hUs.mod K17.hS K17.sl hMd
   ·rw[List.getElem?_set_ne hj] at hv;exact(K17.nums j v hv).mod K17.hS K17.sl hMd
 ·obtain⟨rt,hrt⟩:=Int.eq_ofNat_of_zero_le hvd.2.1;have hr2:=hvd.2.2.1;refine aQe K.hA rfl ?_;show eQh _ _ [.int .i64 x.r,_,_,_] _ _ _;rw[hrt];refine call (mQ2 hn K rt 0 (by omega) (qQ8 hvd) (Nat.zero_le _)) ?_;rintro _ w13 ⟨u,rfl,hU,hE13⟩;exact⟨u,rfl,hU,hE012.trans hE13⟩
def eQf:Nat->List (List Nat)->List (Nat×List Nat)
 | _,[]=>[]
 | a,s::ls=>(a,s)::eQf (a+s.length+1) ls
theorem rQa:∀(a:Nat)(l m:List (List Nat)),eQf a (l++m)=eQf a l++eQf (a+(unl l).length) m
 | a,[],m=>by simp[eQf,unl]
 | a,s::l,m=>by
  rw[List.cons_append,eQf,eQf,rQa (a+s.length+1) l m,List.cons_append,aQ7];congr 3;simp only[List.length_append,List.length_cons];omega
theorem lQM {l:List Nat}(h:cQ6 l)(s:List Nat)(hs:10∉s):aQi (l++(s++ [10]))=aQi l++ [s]:=by
 have h1:=aQR h;have h2:l++(s++ [10])=unl (aQi l++ [s]):=by rw[jQ7,h1]
 rw[h2,bQY (fun t ht=>by
  rcases List.mem_append.1 ht with ht | ht
  ·exact bQv l t ht
  ·rw[List.mem_singleton.1 ht];exact hs)]
def txL (nm:List (List Nat)):List (List Nat)->Nat->BF->List (BF×BF)->List (Nat×List Nat×BF)
 | [],_,_,_=>[]
 | s::ls,a,k,op=>match bQc s with
  | .txt=>(a,s,k)::txL nm ls (a+s.length+1) k op
  | .ifd r=>match gQ9 nm r with
   | .ok d=>txL nm ls (a+s.length+1) (dQd k d) ((k,eQR k d)::op)
   | .error _=>[]
  | .elif r=>match op with
   | []=>[]
   | x::op'=>match gQ9 nm r with
    | .ok d=>txL nm ls (a+s.length+1) (dQd x.2 d) ((x.1,eQR x.2 d)::op')
    | .error _=>[]
  | .els=>match op with
   | []=>[]
   | x::op'=>txL nm ls (a+s.length+1) x.2 (x::op')
  | .en=>match op with
   | []=>[]
   | x::op'=>txL nm ls (a+s.length+1) x.1 op'
  | .inc _=>[]
abbrev xQf (tx:List Nat)(s:Sg):List (Nat×List Nat×BF):=(eQf s.at_ (aQi (bQn tx s))).map (fun q=>(q.1,q.2,s.o))
def sQW (g:Gs):List (Nat×List Nat×BF):=g.sg.flatMap (xQf g.tx)
theorem nQ7 {fs:List (List Nat×List Nat)}{tx:List Nat}{s:Sg}(h:SgOk fs tx s):cQ6 (bQn tx s)/\(bQn tx s).length=s.t-s.f:=by
 have h1:=h.ft;have h2:=h.tl;have hl:(bQn tx s).length=s.t-s.f:=by unfold bQn;simp;omega
 refine⟨.inr ?_,hl⟩;rw[List.getLast?_eq_getElem?,hl];unfold bQn;rw[List.getElem?_drop,List.getElem?_take_of_lt (by omega),show s.f+(s.t-s.f-1)=s.t-1 by omega];exact h.nl
theorem kQm {tx s:List Nat}:∀{l:List Sg},(∀x∈l,x.t<=tx.length)->l.flatMap (xQf (tx++s))=l.flatMap (xQf tx)
 | [],_=>rfl
 | x::l,h=>by rw[List.flatMap_cons,List.flatMap_cons,kQm (fun y hy=>h y (by simp[hy])),xQf,lQz (h x (by simp))]
theorem vQp {fs:List (List Nat×List Nat)}{n p:Nat}{k:BF}{g g':Gs}{s:List Nat}(h:GInv fs g)(hc:qQI n p k g)(hs:10∉s)(ha:fQ0 (s++ [10]) n p k g=some g'):sQW g'=sQW g++ [(p,s,k)]:=by
 unfold fQ0 at ha;split at ha
 ·cases ha
 cases ha;cases hf:g.fr with
 | true=>
  rw[if_pos rfl,bQD];unfold sQW;simp only;rw[List.flatMap_append,kQm (fun x hx=>(h.ok x hx).tl)];congr 1;simp only[List.flatMap_cons,List.flatMap_nil,List.append_nil];have e:bQn (g.tx++(s++ [10])) ⟨g.tx.length,g.tx.length+(s++ [10]).length,n,p,k⟩=[]++(s++ [10]):=by
   unfold bQn;simp only;rw[List.take_of_length_le (by simp),List.drop_left];rfl
  show(eQf p (aQi (bQn _ _))).map _=_;rw[e,lQM (.inl rfl) s hs];rfl
 | false=>
  rw[if_neg (by decide)];obtain⟨l,y,e,e1,e2,e3⟩:=hc hf;have hch:=h.ch;have hok:=h.ok;rw[e] at hch hok;rw[ChG.snoc] at hch;have hy:=hok y (by simp);rw[e,bQD];unfold sQW;simp only;rw[e,List.flatMap_append,List.flatMap_append,kQm (fun x hx=>(hok x (by simp[hx])).tl),List.append_assoc];congr 1;have h1:=hy.ft;have h2:=hch.2;have hp:=nQ7 hy;have e4:bQn (g.tx++(s++ [10])) {y with t:=g.tx.length+(s++ [10]).length}=bQn g.tx y++(s++ [10]):=by
   unfold bQn;simp only;rw[List.take_of_length_le (by simp),List.drop_append_of_le_length (by omega),h2,List.take_length]
  simp only[List.flatMap_cons,List.flatMap_nil,List.append_nil];show(eQf y.at_ (aQi (bQn _ {y with t:=g.tx.length+(s++ [10]).length}))).map _=_;rw[e4,lQM hp.1 s hs,rQa,aQR hp.1,hp.2,e2,List.map_append];show _=(eQf y.at_ (aQi (bQn g.tx y))).map (fun q=>(q.1,q.2,y.o))++_;rw[e3];rfl
def ChA:List Sg->Nat->Prop
 | [],_=>True
 | s::l,p=>(∀x∈l,s.at_+(s.t-s.f)<=x.at_)/\s.at_+(s.t-s.f)<=p/\ChA l p
theorem ChA.mono {p q:Nat}(h:p<=q):∀{l:List Sg},ChA l p->ChA l q
 | [],_=>trivial
 | _::_,⟨h1,h2,h3⟩=>⟨h1,by omega,h3.mono h⟩
theorem ChA.snoc {x:Sg}{p q:Nat}(hx:p<=x.at_)(hq:x.at_+(x.t-x.f)<=q):∀{l:List Sg},ChA l p->ChA (l++ [x]) q
 | [],_=>⟨(fun _ h=>by cases h),hq,trivial⟩
 | s::l,⟨h1,h2,h3⟩=>⟨fun y hy=>by
   rcases List.mem_append.1 hy with hy | hy
   ·exact h1 y hy
   ·rw[List.mem_singleton.1 hy];omega,by omega,ChA.snoc hx hq h3⟩
theorem ChA.last {x y:Sg}{p q:Nat}(hx:y.at_=x.at_)(hq:y.at_+(y.t-y.f)<=q)(hpq:p<=q):∀{l:List Sg},ChA (l++ [x]) p->ChA (l++ [y]) q
 | [],_=>⟨(fun _ h=>by cases h),hq,trivial⟩
 | s::l,⟨h1,h2,h3⟩=>⟨fun z hz=>by
   rcases List.mem_append.1 hz with hz | hz
   ·exact h1 z (by simp[hz])
   ·rw[List.mem_singleton.1 hz,hx];exact h1 x (by simp),by omega,ChA.last hx hq hpq h3⟩
theorem vQq {fs:List (List Nat×List Nat)}{n p:Nat}{k:BF}{g g':Gs}{s:List Nat}(h:GInv fs g)(hc:qQI n p k g)(hp:ChA g.sg p)(ha:fQ0 (s++ [10]) n p k g=some g'):ChA g'.sg (p+s.length+1):=by
 unfold fQ0 at ha;split at ha
 ·cases ha
 cases ha;cases hf:g.fr with
 | true=>
  rw[if_pos rfl,bQD];exact hp.snoc (Nat.le_refl p) (by simp;omega)
 | false=>
  rw[if_neg (by decide)];obtain⟨l,y,e,e1,e2,e3⟩:=hc hf;have hch:=h.ch;rw[e] at hch hp;rw[ChG.snoc] at hch;have hy:=(h.ok y (by rw[e];simp)).ft;rw[e,bQD];exact ChA.last (p:=p) (q:=p+s.length+1) (x:=y) (y:={y with t:=g.tx.length+(s++ [10]).length}) rfl (by simp only[List.length_append,List.length_singleton];omega) (by omega) hp
theorem rQb {nm:List (List Nat)}{fs:List (List Nat×List Nat)}{n d0:Nat}{inc:tQA}{x:List Nat×List Nat}(hx:fs[n]? =some x)
  (hi:∀r ln d k g g',inc r ln d k g≠ .ok g'):∀(ls:List (List Nat)) (ln at_:Nat) (k:BF) (op:List Se) (g g':Gs),gQn ls->
  x.2.drop at_=unl ls->at_<=x.2.length->GInv fs g->qQI n at_ k g->ChA g.sg at_->rdL nm n d0 inc ls ln at_ k op g= .ok g'->sQW g'=sQW g++txL nm ls at_ k (opM op)/\ChA g'.sg (at_+(unl ls).length)
 | [],ln,at_,k,op,g,g',_,_,_,hg,_,hch,hr=>by
  cases op with
  | nil=>simp only[rdL,Except.ok.injEq] at hr;subst hr;exact⟨by rw[txL,List.append_nil];rfl,hch⟩
  | cons _ _=>simp[rdL] at hr
 | s::ls,ln,at_,k,op,g,g',hL0,hd,hat,hg,hc,hch,hr=>by
  have hl1:x.2.drop at_=(s++ [10])++unl ls:=by rw[hd,aQ7];simp
  have hL:(s++ [10]).length=s.length+1:=by simp
  have hlen:x.2.length-at_=s.length+1+(unl ls).length:=by
   have:=congrArg List.length hl1;simp only[List.length_drop,List.length_append,List.length_cons,List.length_nil] at this;omega
  have hu:at_+(unl (s::ls)).length=at_+s.length+1+(unl ls).length:=by rw[aQ7];simp;omega
  have hd2:x.2.drop (at_+s.length+1)=unl ls:=by
   rw[show at_+s.length+1=at_+(s++ [10]).length by simp;omega,<-List.drop_drop,hl1,List.drop_left]
  have hs10:10∉s:=hL0 s (by simp);have ih:=fun k op g g' h1 h2 h3=>rQb (nm:=nm) (d0:=d0) hx hi ls (ln+1) (at_+s.length+1) k op g g' (fun t ht=>hL0 t (by simp[ht])) hd2 (by omega) h1 h2 h3
  have cf:∀k' (g:Gs),qQI n (at_+s.length+1) k' {g with fr:=true}:=fun k' g h=>by cases h
  have hch':ChA g.sg (at_+s.length+1):=hch.mono (by omega);rw[rdL.eq_def] at hr;simp only at hr;rw[hu,txL.eq_def];simp only;cases hdir:bQc s with
  | txt=>
   rw[hdir] at hr;simp only at hr ⊢;cases ha:fQ0 (s++ [10]) n at_ k g with
   | none=>rw[ha] at hr;cases hr
   | some g1=>
    rw[ha] at hr;simp only at hr;obtain⟨i1,i2⟩:=mQS hg hc hx (by rw[hL,<-Nat.add_assoc,hd2];exact hl1) (by rw[hL];omega) (by simp) ha;obtain⟨j1,j2⟩:=ih k op g1 g' i1 (by rw[hL,<-Nat.add_assoc] at i2;exact i2) (vQq hg hc hch ha) hr;exact⟨by rw[j1,vQp hg hc hs10 ha,List.append_assoc];rfl,j2⟩
  | ifd r=>
   rw[hdir] at hr;simp only at hr ⊢;cases hs:gQ9 nm r with
   | error e=>rw[hs] at hr;cases hr
   | ok d=>
    rw[hs] at hr;simp only at hr ⊢;split at hr
    ·cases hr
    ·exact ih _ _ _ _ (hg.fr true) (cf _ _) hch' hr
  | inc r=>
   rw[hdir] at hr;simp only at hr;cases hs:inc r (ln+1) (d0+op.length) k g with
   | error e=>rw[hs] at hr;cases hr
   | ok g1=>exact absurd hs (hi _ _ _ _ _ _)
  | elif r=>
   rw[hdir] at hr;cases op with
   | nil=>cases hr
   | cons y op=>
    simp only at hr ⊢;split at hr
    ·cases hr
    ·cases hs:gQ9 nm r with
     | error e=>rw[hs] at hr;cases hr
     | ok d=>rw[hs] at hr;exact ih _ _ _ _ (hg.fr true) (cf _ _) hch' hr
  | els=>
   rw[hdir] at hr;cases op with
   | nil=>cases hr
   | cons y op=>
    simp only at hr ⊢;split at hr
    ·cases hr
    ·exact ih y.re ({y with ot:=true}::op) {g with fr:=true} g' (hg.fr true) (cf _ _) hch' hr
  | en=>
   rw[hdir] at hr;cases op with
   | nil=>cases hr
   | cons y op=>exact ih y.ou op {g with fr:=true} g' (hg.fr true) (cf _ _) hch' hr
def fF (t:List Nat):List (List Nat×List Nat):=[([102],t)]
theorem mQ3 {rd s:List Nat}{e:Int}(t:List Nat)(h:0∈rd):∀m,mQy (ixN ((fF t).map (·.1))) rd s≠ .ok m:=fun m hm=>by
 obtain⟨h1,tn,htn⟩:=mQK hm;have:=fQD htn;have h0:m=0:=by simpa [fF] using this
 rw[h0] at h1;exact h1 h
theorem lQN {nm:List (List Nat)}{t:List Nat}{g:Gs}(hr:cQJ nm (fF t) [102]= .ok g):cQ6 t/\sQW g=txL nm (aQi t) 0 (fun _=>true) []/\ChA g.sg t.length/\GInv (fF t) g:=by
 have hinv:=(lQx hr).1;unfold cQJ at hr;split at hr
 ·cases hr
 cases hfe:bQ6 (fF t)with
 | some p=>rw[hfe] at hr;cases hr
 | none=>
  rw[hfe] at hr;simp only at hr;have hall:∀x∈fF t,dQ7 x.1=true/\eQC x.2=true/\x.2.length<=1048576:=by
   unfold bQ6 at hfe;rw[if_neg (by simp[fF])] at hfe;exact hQb _ [] 0 hfe
  have ht:cQ6 t:=dQt (hall _ (List.mem_singleton.2 rfl)).2.1;cases hix:ixN ((fF t).map (·.1)) [102] with
  | none=>rw[hix] at hr;cases hr
  | some n=>
   rw[hix] at hr;simp only at hr;have hn:n<(fF t).length:=by have:=fQD hix;simpa using this
   have h0:n=0:=by simpa [fF] using hn
   subst h0;have hx:(fF t)[0]? =some ([102],t):=rfl;rw[rdF,hx] at hr;simp only[Option.map_some,Option.getD_some] at hr;obtain⟨a,b⟩:=rQb hx (fun r ln d' k' g1 g2 hi=>by
    split at hi
    ·cases hi
    ·rename_i m he;exact mQ3 t (by simp) (e:=0) _ he) (aQi t) 0 0 (fun _=>true) [] ⟨[],[],true⟩ g (bQv t) (by rw[List.drop_zero,aQR ht]) (Nat.zero_le _) (⟨rfl,fun s hs=>by cases hs⟩:GInv (fF t) ⟨[],[],true⟩) (fun h=>by cases h) trivial hr
   rw[aQR ht,Nat.zero_add] at b;exact⟨ht,a,b,hinv⟩
structure Ed where
 fr:Int
 to_:Int
 tx:List Nat
 o:BF
structure EdV where
 fr:Int
 to_:Int
 tx:List Nat
 x:DV
def EdV.ed (e:EdV):Ed:=⟨e.fr,e.to_,e.tx,oD e.x⟩
def eQW (f:List Nat)(a b:Nat):List Nat:=(f.drop a).take (b-a)
def dQe (f:List Nat)(c:Nat)(st:List Nat×Nat)(e:Ed):List Nat×Nat:=
 if e.o (bits c)=true then(st.1++eQW f st.2 e.fr.toNat++e.tx,e.to_.toNat)else st
def lQ0 (f:List Nat)(stop:Nat)(a:Nat)(es:List Ed)(c:Nat):List Nat:=
 (es.foldl (dQe f c) ([],a)).1++eQW f (es.foldl (dQe f c) ([],a)).2 stop
def vQr (a:Nat)(s:List Nat)(e:Ed):Bool:=decide ((a:Int)<=e.fr/\e.to_<=a+s.length)
def kQz (S:List Nat)(o:BF):Bool:=S.any (fun c=>o (bits c))
def iQb (es:List Ed)(S:List Nat)(a:Nat)(s:List Nat):List Ed:=es.filter (fun e=>vQr a s e&&kQz S e.o)
def eQ4 (S:List Nat)(e b:Ed):Bool:= !(decide (b.fr<e.to_)&&kQz S (fun v=>e.o v&&b.o v))
def dQU (S:List Nat):List Ed->Bool
 | []=>true
 | e::es=>es.all (eQ4 S e)&&dQU S es
def edL (nm:List (List Nat))(f:List Nat)(es:List Ed)(S:List Nat)(a:Nat)(s:List Nat):Option (List (List Nat)):=
 if iQb es S a s=[] then some [s]
 else if dQU S (iQb es S a s)=false then none
 else if S.all (fun c=>bQE (lQ0 f (a+s.length+1) a (iQb es S a s) c))=false then none
 else some (cQf nm (lQ0 f (a+s.length+1) a (iQb es S a s)) nm.length 0 S)
def vQO (g:Gs)(a:Nat):BF:=((g.sg.find? (fun s=>decide (a<s.at_+(s.t-s.f)))).map (·.o)).getD (fun _=>false)
def apL (nm:List (List Nat))(d:BF)(g:Gs)(f:List Nat)(es:List Ed):List (List Nat)->Nat->Option (List (List Nat))
 | [],_=>some []
 | s::ls,a=>match (if bQc s= .txt then edL nm f es (aQW nm.length (dQd d (vQO g a))) a s else some [s])with
  | none=>none
  | some l=>match apL nm d g f es ls (a+s.length+1)with
   | none=>none
   | some m=>some (l++m)
def rQS (e:Ed)(q:Nat×List Nat):Bool:=decide ((q.1:Int)<=e.fr/\e.to_<=q.1+q.2.length/\e.fr<=e.to_/\bQc q.2= .txt)
def xQK (n:Nat)(f:List Nat)(e:Ed):Bool:=decide (aQW n e.o≠ [])&&(eQf 0 (aQi f)).any (rQS e)
def kQn (n:Nat)(f:List Nat):Int->List Ed->Bool
 | _,[]=>true
 | p,e::es=>xQK n f e&&decide (p<=e.fr)&&kQn n f e.fr es
def rQc (
      nm:List (List Nat)) (o:BF) (f:List Nat) (es:List Ed):Except Int (List Nat):=
 match cQJ nm (fF f) [102] with
  | .error p=>.error p.e
  | .ok g=>if kQn nm.length f 0 es=false then .error 291
   else match apL nm o g f es (aQi f) 0 with
    | none=>.error 291
    | some l=>if 1048576<(unl l).length then .error 2
     else match cQJ nm (fF (unl l)) [102] with
      | .error p=>if p.e=2 then .error 2 else .ok (unl l)
      | .ok _=>.ok (unl l)
noncomputable def iQ7 (nm:List (List Nat))(x:DV)(f:List Nat)(es:List EdV):Except Int (List Nat):=
 if aQV nm=false∨ovD nm.length x.nd x.r=false then .error 1
 else if es.all (fun e=>ovD nm.length e.x.nd e.x.r)=true then rQc nm (oD x) f (es.map EdV.ed)
 else match cQJ nm (fF f) [102] with
  | .error p=>.error p.e
  | .ok _=>.error 291
theorem vQs {g:Gs}{a:Nat}{s:List Nat}{k:BF}(h:(a,s,k)∈sQW g):∃x∈g.sg,x.o=k/\(a,s)∈eQf x.at_ (aQi (bQn g.tx x)):=by
 obtain⟨x,hx,hm⟩:=List.mem_flatMap.1 h;obtain⟨q,hq,e⟩:=List.mem_map.1 hm;simp only[Prod.mk.injEq] at e;obtain⟨e1,e2,e3⟩:=e;refine⟨x,hx,e3,?_⟩;rw[<-e1,<-e2];exact hq
theorem gQM:∀{ls:List (List Nat)}{p a:Nat}{s:List Nat},(a,s)∈eQf p ls->p<=a/\a+s.length+1<=p+(unl ls).length
 | [],p,a,s,h=>by cases h
 | t::ls,p,a,s,h=>by
  rw[aQ7];simp only[List.length_append,List.length_cons];rcases List.mem_cons.1 h with h | h
  ·cases h;omega
  ·have:=gQM h;omega
theorem ChA.later {x y:Sg}{p:Nat}:∀{l:List Sg}{i j:Nat},ChA l p->l[i]? =some x->l[j]? =some y->i<j->x.at_+(x.t-x.f)<=y.at_
 | [],i,j,_,h,_,_=>by simp at h
 | z::l,i,j+1,⟨h1,h2,h3⟩,hi,hj,hlt=>by
  have hj':l[j]? =some y:=by simpa using hj
  cases i with
  | zero=>
   have:z=x:=by simpa using hi
   subst this;exact h1 y (List.mem_of_getElem? hj')
  | succ i=>exact ChA.later h3 (by simpa using hi) hj' (by omega)
 | z::l,i,0,_,_,_,hlt=>by omega
structure SegAt (g:Gs) (a:Nat) (k:BF) (i:Nat) (x:Sg):Prop where
 get:g.sg[i]? =some x
 lo:x.at_<=a
 hi:a<x.at_+(x.t-x.f)
 o:x.o=k
 first:∀j y,g.sg[j]? =some y->j<i->y.at_+(y.t-y.f)<=a
 last:∀j y,g.sg[j]? =some y->i<j->a<y.at_
theorem wQW {fs:List (List Nat×List Nat)}{g:Gs}{p a:Nat}{s:List Nat}{k:BF}(hi:GInv fs g)(hc:ChA g.sg p)(h:(a,s,k)∈sQW g):∃i x,SegAt g a k i x/\a+s.length+1<=x.at_+(x.t-x.f):=by
 obtain⟨x,hx,hk,hm⟩:=vQs h;obtain⟨i,hi'⟩:=List.mem_iff_getElem?.1 hx;have hp:=nQ7 (hi.ok x hx);have ho:=gQM hm;rw[aQR hp.1,hp.2] at ho;refine⟨i,x,⟨hi',ho.1,by omega,hk,fun j y hj hlt=>?_,fun j y hj hlt=>?_⟩,ho.2⟩
 ·have:=hc.later hj hi' hlt;omega
 ·have:=hc.later hi' hj hlt;omega
theorem iQ8 {α:Type}{p:α->Bool}:∀{l:List α}{i:Nat}{x:α},l[i]? =some x->p x=true->(∀j y,l[j]? =some y->j<i->p y=false)->l.find? p=some x
 | [],i,x,h,_,_=>by simp at h
 | y::l,0,x,h,hp,_=>by
  have:y=x:=by simpa using h
  subst this;rw[List.find?_cons_of_pos hp]
 | y::l,i+1,x,h,hp,hj=>by
  rw[List.find?_cons_of_neg (by rw[hj 0 y rfl (by omega)];decide)];exact iQ8 (by simpa using h) hp (fun j z hz hlt=>hj (j+1) z (by simpa using hz) (by omega))
theorem SegAt.cnd {g:Gs}{a:Nat}{k:BF}{i:Nat}{x:Sg}(h:SegAt g a k i x):vQO g a=k:=by
 unfold vQO;rw[iQ8 (p:=fun s:Sg=>decide (a<s.at_+(s.t-s.f))) h.get (decide_eq_true h.hi) (fun j y hj hlt=>decide_eq_false (by have:=h.first j y hj hlt;omega))];exact h.o
theorem rQd:∀{ls:List (List Nat)}{p a:Nat}{s:List Nat},(a,s)∈eQf p ls->∃i,ls[i]? =some s/\a=p+(unl (ls.take i)).length
 | [],p,a,s,h=>by cases h
 | t::ls,p,a,s,h=>by
  rcases List.mem_cons.1 h with h | h
  ·cases h;exact⟨0,rfl,by simp[unl]⟩
  ·obtain⟨i,h1,h2⟩:=rQd h;refine⟨i+1,by simpa using h1,?_⟩;rw[List.take_succ_cons,aQ7];simp only[List.length_append,List.length_cons];omega
theorem nQ8:∀{ls:List (List Nat)}{p a b:Nat}{s t:List Nat}{x:Nat},(a,s)∈eQf p ls->(b,t)∈eQf p ls->a<=x->x<=a+s.length->b<=x->x<=b+t.length->a=b/\s=t
 | [],p,a,b,s,t,x,h,_,_,_,_,_=>by cases h
 | u::ls,p,a,b,s,t,x,h,h',h1,h2,h3,h4=>by
  rcases List.mem_cons.1 h with h | h
  ·cases h;rcases List.mem_cons.1 h' with h' | h'
   ·cases h';exact⟨rfl,rfl⟩
   ·have:=gQM h';omega
  ·rcases List.mem_cons.1 h' with h' | h'
   ·cases h';have:=gQM h;omega
   ·exact nQ8 h h' h1 h2 h3 h4
theorem rQe:∀{ls:List (List Nat)}{p x:Nat},p<=x->x<p+(unl ls).length->∃a s,(a,s)∈eQf p ls/\a<=x/\x<=a+s.length
 | [],p,x,h1,h2=>by simp[unl] at h2;omega
 | t::ls,p,x,h1,h2=>by
  rw[aQ7] at h2;simp only[List.length_append,List.length_cons] at h2;by_cases h:x<=p+t.length
  ·exact⟨p,t,List.mem_cons_self,h1,h⟩
  ·obtain⟨a,s,hm,h3,h4⟩:=rQe (ls:=ls) (p:=p+t.length+1) (x:=x) (by omega) (by omega);exact⟨a,s,List.mem_cons_of_mem _ hm,h3,h4⟩
theorem tQR {ls:List (List Nat)}{a:Nat}{s:List Nat}{e:Ed}(hm:(a,s)∈eQf 0 ls)(h1:(a:Int)<=e.fr)(h2:e.fr<=a+s.length)(h3:e.fr<=e.to_):
  (eQf 0 ls).any (rQS e)=decide (e.to_<=a+s.length/\bQc s= .txt):=by
 by_cases h:e.to_<=a+s.length/\bQc s= .txt
 ·rw[decide_eq_true h];exact List.any_eq_true.2 ⟨(a,s),hm,decide_eq_true ⟨h1,h.1,h3,h.2⟩⟩
 ·rw[decide_eq_false h];refine Bool.eq_false_iff.2 (fun ha=>?_);obtain⟨⟨b,t⟩,hb,hp⟩:=List.any_eq_true.1 ha;have hp:=of_decide_eq_true hp;obtain⟨p1,p2,p3,p4⟩:=hp;simp only at p1 p2 p3 p4;obtain⟨x,hx⟩:=Int.eq_ofNat_of_zero_le (a:=e.fr) (by omega);obtain⟨q1,q2⟩:=nQ8 (x:=x) hm hb (by omega) (by omega) (by omega) (by omega);subst q1;subst q2;exact h ⟨p2,p4⟩
theorem eQI {nm:List (List Nat)}{f g:Nat->List Nat}:∀(k v:Nat)(l:List Nat),l≠ []->(∀c∈l,f c=g c)->cQf nm f k v l=cQf nm g k v l
 | 0,v,l,hl,h=>by rw[cQf,cQf,h _ (dQT hl)]
 | k+1,v,l,hl,h=>by
  rw[eQb hl,eQb hl];split
  ·exact eQI k (v+1) l hl h
  ·rename_i h0;have n1:l.filter (fun c=> !c.testBit v)≠ []:=fun e=>h0 (.inl e)
   have n2:l.filter (fun c=>c.testBit v)≠ []:=fun e=>h0 (.inr e)
   rw[eQI k (v+1) _ n1 (fun c hc=>h c (List.mem_filter.1 hc).1),eQI k (v+1) _ n2 (fun c hc=>h c (List.mem_filter.1 hc).1)]
structure AV where
 o:BF
 d:List Nat
 a:Nat
def cQV (n:Nat)(f:List Nat)(e:Ed)(v:AV):List AV:=
 if aQW n (dQd v.o e.o)=[] then(if aQW n v.o=[] then [] else [v])
 else⟨dQd v.o e.o,v.d++eQW f v.a e.fr.toNat++e.tx,e.to_.toNat⟩::(if aQW n (eQR v.o (dQd v.o e.o))=[] then [] else [⟨eQR v.o (dQd v.o e.o),v.d,v.a⟩])
structure VI (n:Nat) (f:List Nat) (S:List Nat) (a:Nat) (es:List Ed) (vs:List AV):Prop where
 cov:∀c∈S,∃v∈vs,v.o (bits c)=true
 ne:∀v∈vs,aQW n v.o≠ []
 st:∀v∈vs,∀c∈aQW n v.o,c∈S/\es.foldl (dQe f c) ([],a)=(v.d,v.a)
theorem VI.start {n:Nat}{f:List Nat}{o:BF}{a:Nat}(h:aQW n o≠ []):VI n f (aQW n o) a [] [⟨o,[],a⟩]:=
 ⟨fun c hc=>⟨_,List.mem_singleton.2 rfl,(aQH.1 hc).2⟩,fun v hv=>by rw[List.mem_singleton.1 hv];exact h,fun v hv c hc=>by rw[List.mem_singleton.1 hv] at hc ⊢;exact⟨hc,rfl⟩⟩
theorem VI.step {n:Nat}{f:List Nat}{S:List Nat}{a:Nat}{es:List Ed}{vs:List AV}(h:VI n f S a es vs)(hS:∀c∈S,c<2^n)(e:Ed):VI n f S a (es++ [e]) (vs.flatMap (cQV n f e)):=by
 have hfold:∀c,(es++ [e]).foldl (dQe f c) ([],a)=dQe f c (es.foldl (dQe f c) ([],a)) e:=fun c=>by rw[List.foldl_append];rfl
 refine⟨fun c hc=>?_,fun v hv=>?_,fun v hv c hc=>?_⟩
 ·obtain⟨v,hv,hvc⟩:=h.cov c hc;have hcn:=hS c hc;have hm:c∈aQW n v.o:=aQH.2 ⟨hcn,hvc⟩;by_cases hb:aQW n (dQd v.o e.o)=[]
  ·refine⟨v,List.mem_flatMap.2 ⟨v,hv,?_⟩,hvc⟩;unfold cQV;rw[if_pos hb,if_neg (fun e0=>by rw[e0] at hm;cases hm)];exact List.mem_singleton.2 rfl
  ·cases hec:e.o (bits c)with
   | true=>
    refine⟨⟨dQd v.o e.o,v.d++eQW f v.a e.fr.toNat++e.tx,e.to_.toNat⟩,List.mem_flatMap.2 ⟨v,hv,?_⟩,?_⟩
    ·unfold cQV;rw[if_neg hb];exact List.mem_cons_self
    ·show(v.o (bits c)&&e.o (bits c))=true;rw[hvc,hec];rfl
   | false=>
    have hsub:(eQR v.o (dQd v.o e.o)) (bits c)=true:=by
     show(v.o (bits c) && !(v.o (bits c)&&e.o (bits c)))=true;rw[hvc,hec];rfl
    refine⟨⟨eQR v.o (dQd v.o e.o),v.d,v.a⟩,List.mem_flatMap.2 ⟨v,hv,?_⟩,hsub⟩;unfold cQV;rw[if_neg hb,if_neg (fun e0=>by
     have:c∈aQW n (eQR v.o (dQd v.o e.o)):=aQH.2 ⟨hcn,hsub⟩;rw[e0] at this;cases this)]
    simp
 ·obtain⟨v0,hv0,hv⟩:=List.mem_flatMap.1 hv;unfold cQV at hv;split at hv
  ·split at hv
   ·cases hv
   ·rename_i h1;rw[List.mem_singleton.1 hv];exact h1
  ·rename_i h1;rcases List.mem_cons.1 hv with rfl | hv
   ·exact h1
   ·split at hv
    ·cases hv
    ·rename_i h2;rw[List.mem_singleton.1 hv];exact h2
 ·obtain⟨v0,hv0,hv⟩:=List.mem_flatMap.1 hv;rw[hfold];unfold cQV at hv;split at hv
  ·rename_i h1;split at hv
   ·cases hv
   ·rw[List.mem_singleton.1 hv] at hc ⊢;obtain⟨q1,q2⟩:=h.st v0 hv0 c hc;refine⟨q1,?_⟩;rw[q2];unfold dQe;rw[if_neg];intro hec;have:c∈aQW n (dQd v0.o e.o):=aQH.2 ⟨(aQH.1 hc).1,by show(v0.o (bits c)&&e.o (bits c))=true;rw[show v0.o (bits c)=true from (aQH.1 hc).2,hec];rfl⟩;rw[h1] at this;cases this
  ·rcases List.mem_cons.1 hv with rfl | hv
   ·obtain⟨c1,c2⟩:=aQH.1 hc;have c2:(v0.o (bits c)&&e.o (bits c))=true:=c2;rw[Bool.and_eq_true] at c2;obtain⟨q1,q2⟩:=h.st v0 hv0 c (aQH.2 ⟨c1,c2.1⟩);refine⟨q1,?_⟩;rw[q2];unfold dQe;rw[if_pos c2.2]
   ·split at hv
    ·cases hv
    ·rw[List.mem_singleton.1 hv] at hc ⊢;obtain⟨c1,c2⟩:=aQH.1 hc;have c2:(v0.o (bits c) && !(v0.o (bits c)&&e.o (bits c)))=true:=c2;have c3:v0.o (bits c)=true/\e.o (bits c)=false:=by
      cases h1:v0.o (bits c)<;>cases h2:e.o (bits c)<;>rw[h1,h2] at c2<;>simp_all
     obtain⟨q1,q2⟩:=h.st v0 hv0 c (aQH.2 ⟨c1,c3.1⟩);refine⟨q1,?_⟩;rw[q2];unfold dQe;rw[if_neg (by rw[c3.2];decide)]
theorem rQf (f:List Nat)(c:Nat):∀(es:List Ed)(st:List Nat×Nat),(es.foldl (dQe f c) st).2=st.2∨∃e∈es,e.o (bits c)=true/\(es.foldl (dQe f c) st).2=e.to_.toNat
 | [],st=>.inl rfl
 | e::es,st=>by
  rw[List.foldl_cons];rcases rQf f c es (dQe f c st e)with h | ⟨b,hb,h1,h2⟩
  ·by_cases he:e.o (bits c)=true
   ·refine .inr ⟨e,by simp,he,?_⟩;rw[h];unfold dQe;rw[if_pos he]
   ·refine .inl ?_;rw[h];unfold dQe;rw[if_neg he]
  ·exact .inr ⟨b,by simp[hb],h1,h2⟩
theorem iQ9 {S:List Nat}:∀{es:List Ed}{i j:Nat}{e b:Ed},dQU S es=true->es[i]? =some e->es[j]? =some b->i<j->eQ4 S e b=true
 | [],i,j,e,b,_,h,_,_=>by simp at h
 | x::es,i,j+1,e,b,ha,hi,hj,hlt=>by
  rw[dQU,Bool.and_eq_true,List.all_eq_true] at ha;have hj':es[j]? =some b:=by simpa using hj
  cases i with
  | zero=>
   have:x=e:=by simpa using hi
   subst this;exact ha.1 b (List.mem_of_getElem? hj')
  | succ i=>exact iQ9 ha.2 (by simpa using hi) hj' (by omega)
 | x::es,i,0,e,b,_,_,_,hlt=>by omega
theorem vQt {f:List Nat}{S:List Nat}{es:List Ed}(ha:dQU S es=true){a i c:Nat}{e:Ed}(hi:es[i]? =some e)(hc:c∈S)(hec:e.o (bits c)=true)(h0:(a:Int)<=e.fr)(hp:∀b∈es,0<=b.to_):
  (((es.take i).foldl (dQe f c) ([],a)).2:Int)<=e.fr:=by
 rcases rQf f c (es.take i) ([],a)with h | ⟨b,hb,h1,h2⟩
 ·rw[h];exact h0
 ·rw[h2];obtain⟨j,hj⟩:=List.mem_iff_getElem?.1 hb;have hji:j<i:=by
   apply Classical.byContradiction;intro hh;rw[List.getElem?_take] at hj;rw[if_neg hh] at hj;cases hj
  rw[List.getElem?_take_of_lt hji] at hj;have:=iQ9 ha hj hi hji;unfold eQ4 at this;have hm:kQz S (fun v=>b.o v&&e.o v)=true:=List.any_eq_true.2 ⟨c,hc,by show(b.o (bits c)&&e.o (bits c))=true;rw[h1,hec];rfl⟩;rw[hm,Bool.and_true,Bool.not_eq_true',decide_eq_false_iff_not] at this;have:=hp b (List.mem_of_getElem? hj);omega
def ixQ (ps:List Pr)(t:List Nat):Nat:=(ps.takeWhile (fun p=>decide (p.t≠t))).length
def mQ4 (ps:List Pr)(o:BF)(t:List Nat):List Pr:=match ps[ixQ ps t]? with
 | some p=>ps.set (ixQ ps t) ⟨fun e=>p.o e||o e,p.t⟩
 | none=>ps++ [⟨o,t⟩]
theorem wQX (ps:List Pr)(t:List Nat):ixQ ps t<=ps.length:=(List.takeWhile_sublist _).length_le
theorem fQV (t:List Nat):∀ps:List Pr,(∀p,ps[ixQ ps t]? =some p->p.t=t)/\∀j p,ps[j]? =some p->j<ixQ ps t->p.t≠t
 | []=>⟨fun p h=>by simp at h,fun j p h=>by simp at h⟩
 | q::ps=>by
  obtain⟨h1,h2⟩:=fQV t ps;by_cases hq:q.t=t
  ·have e:ixQ (q::ps) t=0:=by unfold ixQ;rw[List.takeWhile_cons_of_neg (by simpa using hq)];rfl
   rw[e];exact⟨fun p h=>by
              have:q=p:=by simpa using h
              rw[<-this];exact hq,fun j p _ hj=>by omega⟩
  ·have e:ixQ (q::ps) t=ixQ ps t+1:=by unfold ixQ;rw[List.takeWhile_cons_of_pos (by simpa using hq)];rfl
   rw[e];refine⟨fun p h=>h1 p (by simpa using h),fun j p h hj=>?_⟩;cases j with
   | zero=>
        have:q=p:=by simpa using h
        rw[<-this];exact hq
   | succ j=>exact h2 j p (by simpa using h) (by omega)
structure QI (n:Nat) (S:List Nat) (ver:Nat->List Nat) (vs:List AV) (ps:List Pr):Prop where
 cov:∀v∈vs,∀c∈aQW n v.o,∃p∈ps,p.o (bits c)=true
 tx:∀(i j:Nat) (p q:Pr),ps[i]? =some p->ps[j]? =some q->p.t=q.t->i=j
 val:∀p∈ps,∀c∈aQW n p.o,c∈S/\p.t=ver c
theorem QI.nil {n:Nat}{S:List Nat}{ver:Nat->List Nat}:QI n S ver [] []:=⟨(fun v hv=>by cases hv),(fun i j p q h=>by simp at h),(fun p hp=>by cases hp)⟩
theorem QI.ins {n:Nat}{S:List Nat}{ver:Nat->List Nat}{vs:List AV}{ps:List Pr}(h:QI n S ver vs ps){v:AV}{t:List Nat}(hv:∀c∈aQW n v.o,c∈S/\ver c=t):QI n S ver (vs++ [v]) (mQ4 ps v.o t):=by
 obtain⟨s1,s2⟩:=fQV t ps;unfold mQ4;cases hg:ps[ixQ ps t]? with
 | none=>
  have hle:=List.getElem?_eq_none_iff.1 hg;simp only;refine⟨fun u hu c hc=>?_,fun i j p q hi hj he=>?_,fun p hp c hc=>?_⟩
  ·rcases List.mem_append.1 hu with hu | hu
   ·obtain⟨p,hp,hpc⟩:=h.cov u hu c hc;exact⟨p,by simp[hp],hpc⟩
   ·rw[List.mem_singleton.1 hu] at hc;exact⟨⟨v.o,t⟩,by simp,(aQH.1 hc).2⟩
  ·have key:∀i (p:Pr),(ps++ [⟨v.o,t⟩])[i]? =some p->(ps[i]? =some p/\i<ps.length)∨(i=ps.length/\p.t=t):=fun i p hi=>by
    by_cases hlt:i<ps.length
    ·rw[List.getElem?_append_left hlt] at hi;exact .inl ⟨hi,hlt⟩
    ·rw[List.getElem?_append_right (by omega)] at hi;have:=(List.getElem?_eq_some_iff.1 hi).1;simp at this;have e:i=ps.length:=by omega
     subst e;simp at hi;exact .inr ⟨rfl,by rw[<-hi]⟩
   rcases key i p hi with⟨h1,l1⟩ | ⟨h1,t1⟩<;>rcases key j q hj with⟨h2,l2⟩ | ⟨h2,t2⟩
   ·exact h.tx i j p q h1 h2 he
   ·exact absurd (he.trans t2) (s2 i p h1 (by omega))
   ·exact absurd (he.symm.trans t1) (s2 j q h2 (by omega))
   ·omega
  ·rcases List.mem_append.1 hp with hp | hp
   ·exact h.val p hp c hc
   ·rw[List.mem_singleton.1 hp] at hc ⊢;obtain⟨a,b⟩:=hv c hc;exact⟨a,b.symm⟩
 | some p0=>
  have ht:=s1 p0 hg;have hlt:=(List.getElem?_eq_some_iff.1 hg).1;simp only;generalize ixQ ps t=i0 at*;have key:∀i (p:Pr),(ps.set i0 ⟨fun e=>p0.o e||v.o e,p0.t⟩)[i]? =some p->(i≠i0/\ps[i]? =some p)∨(i=i0/\p=⟨fun e=>p0.o e||v.o e,p0.t⟩):=fun i p hi=>by
   by_cases hii:i0=i
   ·subst hii;rw[List.getElem?_set_self hlt] at hi;exact .inr ⟨rfl,(Option.some.inj hi).symm⟩
   ·rw[List.getElem?_set_ne hii] at hi;exact .inl ⟨fun e=>hii e.symm,hi⟩
  refine⟨fun u hu c hc=>?_,fun i j p q hi hj he=>?_,fun p hp c hc=>?_⟩
  ·rcases List.mem_append.1 hu with hu | hu
   ·obtain⟨p,hp,hpc⟩:=h.cov u hu c hc;obtain⟨i,hi⟩:=List.mem_iff_getElem?.1 hp;by_cases hii:i0=i
    ·subst hii;rw[hg] at hi;cases hi;exact⟨_,List.mem_of_getElem? (List.getElem?_set_self hlt),by simp only;rw[hpc];rfl⟩
    ·exact⟨p,List.mem_of_getElem? (i:=i) (by rw[List.getElem?_set_ne hii];exact hi),hpc⟩
   ·rw[List.mem_singleton.1 hu] at hc;refine⟨_,List.mem_of_getElem? (List.getElem?_set_self hlt),?_⟩;simp only;rw[show v.o (bits c)=true from (aQH.1 hc).2,Bool.or_true]
  ·rcases key i p hi with⟨n1,h1⟩ | ⟨h1,e1⟩<;>rcases key j q hj with⟨n2,h2⟩ | ⟨h2,e2⟩
   ·exact h.tx i j p q h1 h2 he
   ·rw[h2];exact h.tx i i0 p p0 h1 hg (by rw[he,e2])
   ·rw[h1];exact h.tx i0 j p0 q hg h2 (by rw[<-he,e1])
   ·omega
  ·obtain⟨i,hi⟩:=List.mem_iff_getElem?.1 hp;rcases key i p hi with⟨_,h1⟩ | ⟨_,e1⟩
   ·exact h.val p (List.mem_of_getElem? h1) c hc
   ·subst e1;obtain⟨c1,c2⟩:=aQH.1 hc;have c2:(p0.o (bits c)||v.o (bits c))=true:=c2;rw[Bool.or_eq_true] at c2;rcases c2 with c2 | c2
    ·exact h.val p0 (List.mem_of_getElem? hg) c (aQH.2 ⟨c1,c2⟩)
    ·obtain⟨a,b⟩:=hv c (aQH.2 ⟨c1,c2⟩);exact⟨a,by rw[b];exact ht⟩
theorem QI.pa {n:Nat}{f:List Nat}{S:List Nat}{a:Nat}{es:List Ed}{ver:Nat->List Nat}{vs:List AV}{ps:List Pr}(h:QI n S ver vs ps)(hv:VI n f S a es vs)(hS:∀c∈S,c<2^n):PaOk S ps/\∀c∈S,fP ps c=ver c:=by
 have hp:PaOk S ps:=by
  refine⟨fun c hc=>?_,fun c hc i j p q hi hj h1 h2=>?_⟩
  ·obtain⟨v,hvm,hvc⟩:=hv.cov c hc;exact h.cov v hvm c (aQH.2 ⟨hS c hc,hvc⟩)
  ·refine h.tx i j p q hi hj ?_;rw[(h.val p (List.mem_of_getElem? hi) c (aQH.2 ⟨hS c hc,h1⟩)).2,(h.val q (List.mem_of_getElem? hj) c (aQH.2 ⟨hS c hc,h2⟩)).2]
 refine⟨hp,fun c hc=>?_⟩;obtain⟨p,hpm,hpc⟩:=hp.cov c hc;rw[hp.get hc hpm hpc,(h.val p hpm c (aQH.2 ⟨hS c hc,hpc⟩)).2]
def vQu (n:Nat):List Nat->List Pr->Bool
 | R,[]=>decide (R=[])
 | R,p::ps=>(decide (aQW n p.o≠ [])&&(aQW n p.o).all (fun c=>decide (c∈R))&&bQE p.t)&&vQu n (qQS n R p.o) ps
def dQV (nm:List (List Nat))(o:BF)(ps:List Pr):Except Int (List Nat):=
 if vQu nm.length (aQW nm.length o) ps=false then .error 290
 else if ps=[] then .ok []
 else if 1048576<(unl (cQf nm (fP ps) nm.length 0 (aQW nm.length o))).length then .error 2
 else .ok (unl (cQf nm (fP ps) nm.length 0 (aQW nm.length o)))
theorem tQS {n:Nat}:∀(ps:List (DV×List Nat))(R:List Nat),(∀p∈ps,ovD n p.1.nd p.1.r=true)->cQA n R ps=vQu n R (prs ps)
 | [],R,_=>rfl
 | p::ps,R,h=>by
  have ih:=tQS ps (qQS n R (oD p.1)) (fun q hq=>h q (by simp[hq]));show(_&&cQA n (qQS n R (oD p.1)) ps)=_;rw[ih,h p (by simp),Bool.true_and];rfl
theorem kQo {nm:List (List Nat)}{x:DV}{ps:List (DV×List Nat)}(hn:aQV nm=true)(hx:ovD nm.length x.nd x.r=true)(h:∀p∈ps,ovD nm.length p.1.nd p.1.r=true):fQP nm x ps=dQV nm (oD x) (prs ps):=by
 unfold fQP dQV;rw[if_neg (by rw[hn,hx];simp),tQS ps _ h];by_cases h0:ps=[]
 ·subst h0;rfl
 ·have h1:prs ps≠ []:=fun e=>h0 (by simpa [prs] using e)
  rw[if_neg h0,if_neg h1]
def PrM (n:Nat):List Pr->List Pt->Prop
 | [],[]=>True
 | q::qs,p::ps=>(q.t=unl p.2/\∀c,c<2^n->q.o (bits c)=decide (c∈p.1))/\PrM n qs ps
 | _,_=>False
theorem tQT {n:Nat}:∀{qs:List Pr}{ps:List Pt}{R:List Nat},PrM n qs ps->(∀c∈R,c<2^n)->(∀p∈ps,p.1≠ []/\bQE (unl p.2)=true/\∀c∈p.1,c∈R)->(∀c∈R,∃p∈ps,c∈p.1)->
  (∀(i j:Nat) (p q:Pt) (c:Nat),ps[i]? =some p->ps[j]? =some q->c∈p.1->c∈q.1->i=j)->vQu n R qs=true
 | [],[],R,_,_,_,hc,_=>by
  cases R with
  | nil=>rfl
  | cons c R=>obtain⟨p,hp,_⟩:=hc c (by simp);cases hp
 | q::qs,p::ps,R,⟨⟨h1,h2⟩,hm⟩,hR,hp,hc,hd=>by
  obtain⟨p1,p2,p3⟩:=hp p (by simp);have hmem:∀c,c∈aQW n q.o↔c∈p.1:=fun c=>by
   rw[aQH];constructor
   ·rintro⟨a,b⟩;have:=h2 c a;rw[show q.o (bits c)=true from b] at this;exact of_decide_eq_true this.symm
   ·intro a;have hc2:=hR c (p3 c a);exact⟨hc2,by show q.o (bits c)=true;rw[h2 c hc2,decide_eq_true a]⟩
  have ih:=tQT (R:=qQS n R q.o) hm (fun c hcm=>hR c (List.mem_filter.1 hcm).1) (fun u hu=>by
   obtain⟨u1,u2,u3⟩:=hp u (by simp[hu]);refine⟨u1,u2,fun c hcu=>List.mem_filter.2 ⟨u3 c hcu,?_⟩⟩;have hcR:=u3 c hcu;obtain⟨j,hj⟩:=List.mem_iff_getElem?.1 hu;have hnp:c∉p.1:=fun hcp=>by
    have:=hd 0 (j+1) p u c rfl (by simpa using hj) hcp hcu;omega
   rw[h2 c (hR c hcR),decide_eq_false hnp];rfl) (fun c hcm=>by
   obtain⟨a,b⟩:=List.mem_filter.1 hcm;obtain⟨u,hu,hcu⟩:=hc c a;rcases List.mem_cons.1 hu with rfl | hu
   ·rw[h2 c (hR c a),decide_eq_true hcu] at b;cases b
   ·exact⟨u,hu,hcu⟩) (fun i j u v c hi hj hu hv=>by
   have:=hd (i+1) (j+1) u v c (by simpa using hi) (by simpa using hj) hu hv;omega)
  rw[vQu,ih,Bool.and_true,Bool.and_eq_true,Bool.and_eq_true];refine⟨⟨decide_eq_true (fun e=>?_),List.all_eq_true.2 (fun c hcm=>decide_eq_true (p3 c ((hmem c).1 hcm)))⟩,by rw[h1];exact p2⟩;obtain⟨c,hcp⟩:=List.exists_mem_of_ne_nil _ p1;have:=(hmem c).2 hcp;rw[e] at this;cases this
theorem wQY {n:Nat}{f:Nat->List (List Nat)}{S:List Nat}(hS:∀c∈S,c<2^n):∀{qs:List Pr}{ps:List Pt},PrM n qs ps->(∀p∈ps,∀c∈p.1,f c=p.2)->∀c∈S,(∃p∈ps,c∈p.1)->fP qs c=unl (f c)
 | [],[],_,_,c,_,⟨p,hp,_⟩=>by cases hp
 | q::qs,p::ps,⟨⟨h1,h2⟩,hm⟩,ht,c,hc,hex=>by
  unfold fP;cases hq:q.o (bits c)with
  | true=>
   rw[List.find?_cons_of_pos (by exact hq)];have:=h2 c (hS c hc);rw[hq] at this;have hcp:=of_decide_eq_true this.symm;show q.t=_;rw[h1,ht p (by simp) c hcp]
  | false=>
   rw[List.find?_cons_of_neg (by rw[hq];decide)];refine wQY hS hm (fun u hu=>ht u (by simp[hu])) c hc ?_;obtain⟨u,hu,hcu⟩:=hex;rcases List.mem_cons.1 hu with rfl | hu
   ·have:=h2 c (hS c hc);rw[hq,decide_eq_true hcu] at this;cases this
   ·exact⟨u,hu,hcu⟩
theorem rQg {nm:List (List Nat)}{o:BF}{f:Nat->List (List Nat)}{qs:List Pr}{ps:List Pt}(hm:PrM nm.length qs ps)(hp:PtOk f (aQW nm.length o) ps)(hpl:∀c,bQE (unl (f c))=true)(hne:aQW nm.length o≠ [])
  (hlen:(unl (cQf nm (fun c=>unl (f c)) nm.length 0 (aQW nm.length o))).length<=1048576):
  dQV nm o qs= .ok (unl (cQf nm (fun c=>unl (f c)) nm.length 0 (aQW nm.length o))):=by
 have hS:∀c∈aQW nm.length o,c<2^nm.length:=fun c hc=>(aQH.1 hc).1
 have hchk:vQu nm.length (aQW nm.length o) qs=true:=tQT hm hS (fun p hpm=>⟨hp.ne p hpm,by
  obtain⟨c,hc⟩:=List.exists_mem_of_ne_nil _ (hp.ne p hpm);rw[<-(hp.tx p hpm c hc).2];exact hpl c,fun c hc=>(hp.tx p hpm c hc).1⟩) hp.cov hp.dj
 have hq:qs≠ []:=fun e=>by
  subst e;have:=hchk;rw[vQu] at this;exact hne (of_decide_eq_true this)
 have hw:=eQI (nm:=nm) (f:=fP qs) (g:=fun c=>unl (f c)) nm.length 0 (aQW nm.length o) hne (fun c hc=>wQY hS hm (fun p hpm c hc=>(hp.tx p hpm c hc).2) c hc (hp.cov c hc));unfold dQV;rw[if_neg (by rw[hchk];decide),if_neg hq,hw,if_neg (by omega)]
def eQ5 (k:Int):List PanicEntry:=[{v:=.iface 34 (.int .i64 k),recovered:=false}]
theorem aQY (k:Int)(hk:k≠0)(w:World):FnP Tryz.prog 44 [.int .i64 k] w (fun _ _=>False) (fun ch w'=>ch=eQ5 k/\w=w'):=by
 refine aQT (c:={c44 with cuts:=[]}) aQb Tryz.func44 rfl rfl rfl ?_;refine fQ7 hk ?_;exact dQ3 rfl rfl ⟨rfl,rfl⟩
theorem lQO (A:Option Addr)(n c:Nat)(ls:List (List Nat))(w:World)(h:Sn w A n c (lfV ls))(hlen:(unl ls).length<=1000000000000000000):
  FnP Tryz.prog 50 [.slice A n c] w (fun u w'=>(unl ls).length<=1048576/\u= .string (aQh (unl ls))/\Ext w w') (fun ch w'=>1048576<(unl ls).length/\ch=eQ5 2/\w=w'):=by
 by_cases hle:(unl ls).length<=1048576
 ·exact(sQQ A n c ls w h hle).toP.mono (fun v w' hh=>⟨hle,hh.1,hh.2⟩) (fun _ _ hh=>hh)
 have hl:=eQ2 h.1;have hll:=lQc ls;refine aQT (c:={c50 with cuts:=[]}) aQb Tryz.func50 rfl rfl rfl ?_;refine loop aQb [8,3] (fun i:Nat=>[.int .i64 i,.int .i64 (unl (ls.take i)).length]) (fun i w'=>w=w'/\i<=n/\(unl (ls.take i)).length<=1048576) (fun i _=>n-i) 0 rfl ⟨rfl,Nat.zero_le _,by simp[unl]⟩ ?_;rintro i _ ⟨rfl,hi,hbd⟩;refine aQq (fun c1=>?_) (fun c1=>?_)
 ·have hin:i<n:=by omega
  obtain⟨s,hs⟩:∃s,ls[i]? =some s:=⟨_,List.getElem?_eq_getElem (by omega)⟩
  have htk:ls.take (i+1)=ls.take i++ [s]:=by rw[List.take_add_one,hs];rfl
  have hu:=lQH (ls.take i) s;rw[<-htk] at hu;have hle2:(unl (ls.take (i+1))).length<=(unl ls).length:=by
   have e5:unl ls=unl (ls.take (i+1))++unl (ls.drop (i+1)):=by
    have e6:∀a b:List (List Nat),unl (a++b)=unl a++unl b:=fun a b=>by simp[unl]
    rw[<-e6,List.take_append_drop]
   rw[e5,List.length_append];omega
  refine aQ3 h.1 hin (fun ad u hA hu' hcell=>?_);rw[cQ7 hs] at hu';cases hu';refine load hcell ?_;have hsz:=aQj (s++ [10]);rw[List.length_append,List.length_singleton] at hsz;refine aQa (((unl (ls.take (i+1))).length:Nat):Int) (by rw[hu];omega) (by omega) ?_;refine aQq (fun d1=>?_) (fun d1=>?_)
  ·refine aQX (aQY 2 (by decide) w) (fun _ _ hf=>hf.elim) ?_;rintro ch _ ⟨rfl,rfl⟩;exact⟨by omega,rfl,rfl⟩
  ·refine aQa ((i+1:Nat):Int) (by show((i:Nat):Int)+1=_;omega) (by omega) ?_;exact⟨i+1,rfl,⟨rfl,hin,by omega⟩,by show n-(i+1)<n-i;omega⟩
 ·have:i=n:=by omega
  subst this;rw[List.take_of_length_le (by omega)] at hbd;exact absurd hbd hle
theorem rQh (nm:List (List Nat)):oQH nm [] 1=if aQV nm=true then(dQE,0)else([],1):=by
 have h1:bQS [] 1=0:=(bQi 0 true).chk (by decide);have h2:ofP [] 1=(aQ4 (.c true) 0,0):=by
  rw[tQp h1];have e:cf [] 1= .c true:=rfl;rw[e,if_neg (by decide)]
 unfold oQH;rw[h2];by_cases h:aQV nm=true
 ·rw[if_pos h,if_pos h,if_pos rfl,kQW h (pQ0 (show VarsIn 64 (.c true) from trivial) (by decide)) (fun x hx ho=>by
   rw[List.mem_singleton.1 hx] at ho;exact absurd ho (by decide)),fQc]
  rfl
 ·rw[if_neg h,if_neg h]
abbrev vQv (nm:List (List Nat))(x:DV):Prop:=aQV nm=true/\ovD nm.length x.nd x.r=true
theorem rQi {l:List Nat}{N:Nat}(hl:l=Nt.toL N)(hN:N<=4096):Nt.vQN l=N/\Nt.sQV l=true:=by
 have hlim:N<4294967296^1024:=(show ∀k,0<k->N<4294967296^k from λk p=>Nat.lt_of_lt_of_le (show N<4294967296^1 by omega) (Nat.pow_le_pow_right (by decide) p)) 1024 (by decide);have hlen:(Nt.toL N).length<=2:=(Nt.mQZ N 2).2 (by omega);obtain⟨e1,e2⟩:=Nt.qQ5 (l:=l) (by rw[hl];exact Nt.iQ3 hlim) (by rw[hl];exact hlen);exact⟨by rw[e1,hl,Nt.fQj],e2⟩
theorem lQP (NA:Option Addr)(nn nc:Nat)(nm:List (List Nat))(x:DV)(hn12:nm.length<=12)(hnb:aQ2 nm)(w:World)(hN:Sl w 1 NA nn nc (aQ6 nm))(hx:SB w x.A x.n x.c x.nd):
  FnP Tryz.prog 42 [.slice NA nn nc,dgV x.A x.n x.c x.r] w (fun _ w'=>vQv nm x/\Ext w w') (fun ch w'=>¬vQv nm x/\ch=eQ5 1/\Ext w w'):=by
 have hlen:nm.length=nn:=by have:=hN.len;rw[aQQ] at this;omega
 refine aQT (c:={c42 with cuts:=[]}) aQb Tryz.func42 rfl rfl rfl ?_;refine new (fun w1 hE1 hz1 hB1=>?_);refine call (bQm true w1) ?_;rintro _ w2 ⟨rfl,hE2⟩;have hE02:=hE1.trans hE2;refine call (uQB nm NA none nn nc 0 0 [] 1 w2 (hN.ext hE02) hnb (SlS.nil _) (by
  have h1:bQS [] 1=0:=(bQi 0 true).chk (by decide);have h2:ofP [] 1=(aQ4 (.c true) 0,0):=by
   rw[tQp h1];have e:cf [] 1= .c true:=rfl;rw[e,if_neg (by decide)]
  rw[h2];show(prF nm 0 (eQd (aQ4 (.c true) 0))).length<=_;rw[fQc];show dQE.length<=_;decide)) ?_
 rintro _ w3 ⟨rfl,hE3⟩;have hE03:=hE02.trans hE3;rw[rQh nm];by_cases hok:aQV nm=true
 ·rw[if_pos hok];refine bQB rfl ?_;refine aQd ((hB1.ext hE2).ext hE3) rfl ?_;rw[<-hlen];refine call (kQd x.A x.n x.c nm.length x.nd x.r w3 (hx.ext hE03)) ?_;rintro _ w4 ⟨rfl,hE4⟩;have hE04:=hE03.trans hE4;cases hov:ovD nm.length x.nd x.r with
  | false=>
   refine aQM rfl ?_;refine aQX (aQY 1 (by decide) w4) (fun _ _ hf=>hf.elim) ?_;rintro ch _ ⟨rfl,rfl⟩;exact⟨fun hh=>(by have h2:=hh.2;rw[hov] at h2;cases h2),rfl,hE04⟩
  | true=>
   refine aQN rfl ?_;refine aQd (((hB1.ext hE2).ext hE3).ext hE4) rfl ?_;refine call (qQ9 x nm.length hn12 w4 (hx.ext hE04) hov) ?_;rintro _ w5 ⟨_,rfl,⟨A,m,c,N,rfl,hS,hNb⟩,hE5⟩;have hN4:N<=4096:=Nat.le_trans hNb (Nat.le_trans (Nat.pow_le_pow_right (by decide) hn12) (by decide));obtain⟨e1,e2⟩:=rQi rfl hN4;refine call (gQu w5) ?_;rintro _ _ rfl;refine call (Nt.qQ6 A m c (Nt.toL N) w5 hS (Nt.fQT N)) ?_;rintro _ _ ⟨rfl,rfl⟩;rw[e1,e2];refine aQN rfl ?_;refine aQB (by omega) ?_;exact⟨⟨hok,hov⟩,hE04.trans hE5⟩
 ·rw[if_neg hok];refine fQ7 (by decide) ?_;refine aQX (aQY 1 (by decide) w3) (fun _ _ hf=>hf.elim) ?_;rintro ch _ ⟨rfl,rfl⟩;exact⟨fun hh=>hok hh.1,rfl,hE03⟩
theorem eQ6 {c:Cx}{o:Oper}{S:Env}{w:World}{K:Env->World->Prop}{Q:cQB}{x:Operand}{tx t:Nat}{k:IntKind}{r:TyRow}(hg:c.g.Ok)(ho:o.op= .typeAssert x tx t true)(hr:aQA c.g.tys t=some r)(hd:r.d= .int k)(hx:S.ev x=some .nilIface)
  (kk:bQq c S o.dst (.v (.tuple #[r.z,.bool false])) (fun S=>K S w)):cQv c o S w K Q:=by
 obtain⟨hr',i,hi,_,_,hz⟩:=hg.row hr;rw[hd] at hr';refine aQ9 (w':=w) (v:=.tuple #[r.z,.bool false]) (fun a hf=>?_) kk;have e1:=hf.ev hx;simp only[execOp,ho,e1];simp[Instr.typeAssert,run_underlying hr',zeroValue,typeInfo,hi,hz]
def xQg (f e:Nat)(k:Int)(w w':World):Prop:=Blk w' f 9 [.string ⟨#[]⟩]/\Blk w' e 34 [.int .i64 k]/\Mod (fun i=>i=f∨i=e) w w'
theorem fQk (f e:Nat)(k:Int)(w:World)(v1 v2:Value)(hne:f≠e)(hf:Blk w f 9 [v1])(he:Blk w e 34 [v2]):
  CallsD Tryz.prog 60 #[.pointer (some ⟨f,0,none⟩),.pointer (some ⟨e,0,none⟩)] (.panicking (eQ5 k)) w
   (fun en u' w'=>∃v,en= .returned v/\settle u'= .returning/\xQg f e k w w'):=by
 refine callsD_of_wpS Tryz.func60 rfl fun c₀ cs hu=>?_
 have hfit:=bQK (N:=Tryz.f60.ntmps) [.pointer (some ⟨f,0,none⟩),.pointer (some ⟨e,0,none⟩)] (Nat.le_of_ble_eq_true rfl) [(0,.v (.pointer (some ⟨f,0,none⟩))),(1,.v (.pointer (some ⟨e,0,none⟩)))] (by
  intro k x hk
  match k,hk with
  | 0,hk=>cases hk;rfl
  | 1,hk=>cases hk;rfl
  | k+2,hk=>exact nomatch (show(none:Option Ent)=some x from hk))
 have hf5:=hfit.put (d:=5) (by decide) (.v (.iface 34 (.int .i64 k)));refine wpS_seq (wpS_region ?_);show wpOpsS _ _ _ [0,1,2,3,4,5,6] _ _ _;refine bQO (o:=_) (cs':={c₀ with mode:=.panicking [{v:=.iface 34 (.int .i64 k),recovered:=true}]}::cs) (v:=.iface 34 (.int .i64 k)) (d:=5) rfl rfl rfl rfl (.inl (by simp[recoverD,hu,eQ5])) ?_;generalize hact:Act.put _ (some 5) _=act;have hf5':Fits c60.N [(5,.v (.iface 34 (.int .i64 k))),(0,.v (.pointer (some ⟨f,0,none⟩))),(1,.v (.pointer (some ⟨e,0,none⟩)))] act:=by rw[<-hact];exact hf5
 clear hact hf5 hfit;generalize hops: #[_,_,_,_,_,_,_]=ops0;have h1:=(congrArg (fun(x:Array Oper)=>x[1]?) hops).symm;have h2:=(congrArg (fun(x:Array Oper)=>x[2]?) hops).symm;have h3:=(congrArg (fun(x:Array Oper)=>x[3]?) hops).symm;have h4:=(congrArg (fun(x:Array Oper)=>x[4]?) hops).symm;have h5:=(congrArg (fun(x:Array Oper)=>x[5]?) hops).symm;have h6:=(congrArg (fun(x:Array Oper)=>x[6]?) hops).symm;clear hops;refine aQr (c:=c60) aQb rfl h1 rfl hf5' (K:=fun S' w'=>S'=[(6,Ent.v (.tuple #[.int .i64 k,.bool true])),(5,.v (.iface 34 (.int .i64 k))),(0,.v (.pointer (some ⟨f,0,none⟩))),(1,.v (.pointer (some ⟨e,0,none⟩)))]/\w=w') (eQt aQb rfl rfl rfl rfl ⟨rfl,rfl⟩) ?_;rintro _ a1 _ hf1 ⟨rfl,rfl⟩;refine aQr (c:=c60) aQb rfl h2 rfl hf1 (K:=fun S' w'=>S'=_/\w=w') ⟨rfl,rfl⟩ ?_;rintro _ a2 _ hf2 ⟨rfl,rfl⟩;refine aQr (c:=c60) aQb rfl h3 rfl hf2 (K:=fun S' w'=>S'=_/\w=w') ⟨rfl,rfl⟩ ?_;rintro _ a3 _ hf3 ⟨rfl,rfl⟩;refine aQr (c:=c60) aQb rfl h4 rfl hf3 (K:=fun S' w'=>S'=_/\w=w') ⟨rfl,rfl⟩ ?_;rintro _ a4 _ hf4 ⟨rfl,rfl⟩;refine aQr (c:=c60) aQb rfl h5 rfl hf4 (K:=fun S' w'=>S'=_/\w=w') ⟨rfl,rfl⟩ ?_;rintro _ a5 _ hf5 ⟨rfl,rfl⟩;refine aQr (c:=c60) aQb rfl h6 rfl hf5 (K:=fun S' w'=>S'=_/\w=w') ⟨rfl,rfl⟩ ?_;rintro _ a6 _ hf6 ⟨rfl,rfl⟩;unfold wpOpsS;refine dQi (c:=c60) aQb rfl hf6 ?_;refine aQM rfl ?_;refine aQC hf (by simp) (fun w1 hm1 hB1=>?_);refine aQC (he.mod hm1 (fun h=>hne h.symm)) (by simp) (fun w2 hm2 hB2=>?_);exact⟨_,rfl,rfl,hB1.mod hm2 hne,hB2,(hm1.mono (fun i hi=>.inl (.inl hi))).trans hm2 (fun i hi=>.inl (.inr hi))⟩
theorem rQj (f e:Nat)(w:World):
  CallsD Tryz.prog 60 #[.pointer (some ⟨f,0,none⟩),.pointer (some ⟨e,0,none⟩)] .returning w
   (fun en u' w'=>∃v,en= .returned v/\settle u'= .returning/\w=w'):=by
 refine callsD_of_wpS Tryz.func60 rfl fun c₀ cs hu=>?_
 have hfit:=bQK (N:=Tryz.f60.ntmps) [.pointer (some ⟨f,0,none⟩),.pointer (some ⟨e,0,none⟩)] (Nat.le_of_ble_eq_true rfl) [(0,.v (.pointer (some ⟨f,0,none⟩))),(1,.v (.pointer (some ⟨e,0,none⟩)))] (by
  intro k x hk
  match k,hk with
  | 0,hk=>cases hk;rfl
  | 1,hk=>cases hk;rfl
  | k+2,hk=>exact nomatch (show(none:Option Ent)=some x from hk))
 have hf5:=hfit.put (d:=5) (by decide) (.v .nilIface);refine wpS_seq (wpS_region ?_);show wpOpsS _ _ _ [0,1,2,3,4,5,6] _ _ _;refine bQO (o:=_) (cs':={c₀ with mode:=.returning}::cs) (v:=.nilIface) (d:=5) rfl rfl rfl rfl (.inr ⟨by simp[recoverD,hu],rfl,by rw[<-hu]⟩) ?_;generalize hact:Act.put _ (some 5) _=act;have hf5':Fits c60.N [(5,.v .nilIface),(0,.v (.pointer (some ⟨f,0,none⟩))),(1,.v (.pointer (some ⟨e,0,none⟩)))] act:=by rw[<-hact];exact hf5
 clear hact hf5 hfit;generalize hops: #[_,_,_,_,_,_,_]=ops0;have h1:=(congrArg (fun(x:Array Oper)=>x[1]?) hops).symm;have h2:=(congrArg (fun(x:Array Oper)=>x[2]?) hops).symm;have h3:=(congrArg (fun(x:Array Oper)=>x[3]?) hops).symm;have h4:=(congrArg (fun(x:Array Oper)=>x[4]?) hops).symm;have h5:=(congrArg (fun(x:Array Oper)=>x[5]?) hops).symm;have h6:=(congrArg (fun(x:Array Oper)=>x[6]?) hops).symm;clear hops;refine aQr (c:=c60) aQb rfl h1 rfl hf5' (K:=fun S' w'=>S'=_/\w=w') (eQ6 aQb rfl rfl rfl rfl ⟨rfl,rfl⟩) ?_;rintro _ a1 _ hf1 ⟨rfl,rfl⟩;refine aQr (c:=c60) aQb rfl h2 rfl hf1 (K:=fun S' w'=>S'=_/\w=w') ⟨rfl,rfl⟩ ?_;rintro _ a2 _ hf2 ⟨rfl,rfl⟩;refine aQr (c:=c60) aQb rfl h3 rfl hf2 (K:=fun S' w'=>S'=_/\w=w') ⟨rfl,rfl⟩ ?_;rintro _ a3 _ hf3 ⟨rfl,rfl⟩;refine aQr (c:=c60) aQb rfl h4 rfl hf3 (K:=fun S' w'=>S'=_/\w=w') ⟨rfl,rfl⟩ ?_;rintro _ a4 _ hf4 ⟨rfl,rfl⟩;refine aQr (c:=c60) aQb rfl h5 rfl hf4 (K:=fun S' w'=>S'=_/\w=w') ⟨rfl,rfl⟩ ?_;rintro _ a5 _ hf5 ⟨rfl,rfl⟩;refine aQr (c:=c60) aQb rfl h6 rfl hf5 (K:=fun S' w'=>S'=_/\w=w') ⟨rfl,rfl⟩ ?_;rintro _ a6 _ hf6 ⟨rfl,rfl⟩;unfold wpOpsS;refine dQi (c:=c60) aQb rfl hf6 ?_;refine aQN rfl ?_;exact⟨_,rfl,rfl,rfl⟩
theorem gQv (f e:Nat)(k:Int)(w:World)(v1 v2:Value)(hne:f≠e)(hf:Blk w f 9 [v1])(he:Blk w e 34 [v2]):
  CallsD Tryz.prog 41 #[.pointer (some ⟨f,0,none⟩),.pointer (some ⟨e,0,none⟩)] (.panicking (eQ5 k)) w
   (fun en u' w'=>∃v,en= .returned v/\settle u'= .returning/\xQg f e k w w'):=by
 refine callsD_of_wpS Tryz.func41 rfl fun c₀ cs hu=>?_
 have hfit:=bQK (N:=Tryz.f41.ntmps) [.pointer (some ⟨f,0,none⟩),.pointer (some ⟨e,0,none⟩)] (Nat.le_of_ble_eq_true rfl) [(0,.v (.pointer (some ⟨f,0,none⟩))),(1,.v (.pointer (some ⟨e,0,none⟩)))] (by
  intro k x hk
  match k,hk with
  | 0,hk=>cases hk;rfl
  | 1,hk=>cases hk;rfl
  | k+2,hk=>exact nomatch (show(none:Option Ent)=some x from hk))
 have hf5:=hfit.put (d:=5) (by decide) (.v (.iface 34 (.int .i64 k)));refine wpS_seq (wpS_region ?_);show wpOpsS _ _ _ [0,1,2,3,4,5,6] _ _ _;refine bQO (o:=_) (cs':={c₀ with mode:=.panicking [{v:=.iface 34 (.int .i64 k),recovered:=true}]}::cs) (v:=.iface 34 (.int .i64 k)) (d:=5) rfl rfl rfl rfl (.inl (by simp[recoverD,hu,eQ5])) ?_;generalize hact:Act.put _ (some 5) _=act;have hf5':Fits c41.N [(5,.v (.iface 34 (.int .i64 k))),(0,.v (.pointer (some ⟨f,0,none⟩))),(1,.v (.pointer (some ⟨e,0,none⟩)))] act:=by rw[<-hact];exact hf5
 clear hact hf5 hfit;generalize hops: #[_,_,_,_,_,_,_]=ops0;have h1:=(congrArg (fun(x:Array Oper)=>x[1]?) hops).symm;have h2:=(congrArg (fun(x:Array Oper)=>x[2]?) hops).symm;have h3:=(congrArg (fun(x:Array Oper)=>x[3]?) hops).symm;have h4:=(congrArg (fun(x:Array Oper)=>x[4]?) hops).symm;have h5:=(congrArg (fun(x:Array Oper)=>x[5]?) hops).symm;have h6:=(congrArg (fun(x:Array Oper)=>x[6]?) hops).symm;clear hops;refine aQr (c:=c41) aQb rfl h1 rfl hf5' (K:=fun S' w'=>S'=[(6,Ent.v (.tuple #[.int .i64 k,.bool true])),(5,.v (.iface 34 (.int .i64 k))),(0,.v (.pointer (some ⟨f,0,none⟩))),(1,.v (.pointer (some ⟨e,0,none⟩)))]/\w=w') (eQt aQb rfl rfl rfl rfl ⟨rfl,rfl⟩) ?_;rintro _ a1 _ hf1 ⟨rfl,rfl⟩;refine aQr (c:=c41) aQb rfl h2 rfl hf1 (K:=fun S' w'=>S'=_/\w=w') ⟨rfl,rfl⟩ ?_;rintro _ a2 _ hf2 ⟨rfl,rfl⟩;refine aQr (c:=c41) aQb rfl h3 rfl hf2 (K:=fun S' w'=>S'=_/\w=w') ⟨rfl,rfl⟩ ?_;rintro _ a3 _ hf3 ⟨rfl,rfl⟩;refine aQr (c:=c41) aQb rfl h4 rfl hf3 (K:=fun S' w'=>S'=_/\w=w') ⟨rfl,rfl⟩ ?_;rintro _ a4 _ hf4 ⟨rfl,rfl⟩;refine aQr (c:=c41) aQb rfl h5 rfl hf4 (K:=fun S' w'=>S'=_/\w=w') ⟨rfl,rfl⟩ ?_;rintro _ a5 _ hf5 ⟨rfl,rfl⟩;refine aQr (c:=c41) aQb rfl h6 rfl hf5 (K:=fun S' w'=>S'=_/\w=w') ⟨rfl,rfl⟩ ?_;rintro _ a6 _ hf6 ⟨rfl,rfl⟩;unfold wpOpsS;refine dQi (c:=c41) aQb rfl hf6 ?_;refine aQM rfl ?_;refine aQC hf (by simp) (fun w1 hm1 hB1=>?_);refine aQC (he.mod hm1 (fun h=>hne h.symm)) (by simp) (fun w2 hm2 hB2=>?_);exact⟨_,rfl,rfl,hB1.mod hm2 hne,hB2,(hm1.mono (fun i hi=>.inl (.inl hi))).trans hm2 (fun i hi=>.inl (.inr hi))⟩
theorem rQk (f e:Nat)(w:World):
  CallsD Tryz.prog 41 #[.pointer (some ⟨f,0,none⟩),.pointer (some ⟨e,0,none⟩)] .returning w
   (fun en u' w'=>∃v,en= .returned v/\settle u'= .returning/\w=w'):=by
 refine callsD_of_wpS Tryz.func41 rfl fun c₀ cs hu=>?_
 have hfit:=bQK (N:=Tryz.f41.ntmps) [.pointer (some ⟨f,0,none⟩),.pointer (some ⟨e,0,none⟩)] (Nat.le_of_ble_eq_true rfl) [(0,.v (.pointer (some ⟨f,0,none⟩))),(1,.v (.pointer (some ⟨e,0,none⟩)))] (by
  intro k x hk
  match k,hk with
  | 0,hk=>cases hk;rfl
  | 1,hk=>cases hk;rfl
  | k+2,hk=>exact nomatch (show(none:Option Ent)=some x from hk))
 have hf5:=hfit.put (d:=5) (by decide) (.v .nilIface);refine wpS_seq (wpS_region ?_);show wpOpsS _ _ _ [0,1,2,3,4,5,6] _ _ _;refine bQO (o:=_) (cs':={c₀ with mode:=.returning}::cs) (v:=.nilIface) (d:=5) rfl rfl rfl rfl (.inr ⟨by simp[recoverD,hu],rfl,by rw[<-hu]⟩) ?_;generalize hact:Act.put _ (some 5) _=act;have hf5':Fits c41.N [(5,.v .nilIface),(0,.v (.pointer (some ⟨f,0,none⟩))),(1,.v (.pointer (some ⟨e,0,none⟩)))] act:=by rw[<-hact];exact hf5
 clear hact hf5 hfit;generalize hops: #[_,_,_,_,_,_,_]=ops0;have h1:=(congrArg (fun(x:Array Oper)=>x[1]?) hops).symm;have h2:=(congrArg (fun(x:Array Oper)=>x[2]?) hops).symm;have h3:=(congrArg (fun(x:Array Oper)=>x[3]?) hops).symm;have h4:=(congrArg (fun(x:Array Oper)=>x[4]?) hops).symm;have h5:=(congrArg (fun(x:Array Oper)=>x[5]?) hops).symm;have h6:=(congrArg (fun(x:Array Oper)=>x[6]?) hops).symm;clear hops;refine aQr (c:=c41) aQb rfl h1 rfl hf5' (K:=fun S' w'=>S'=_/\w=w') (eQ6 aQb rfl rfl rfl rfl ⟨rfl,rfl⟩) ?_;rintro _ a1 _ hf1 ⟨rfl,rfl⟩;refine aQr (c:=c41) aQb rfl h2 rfl hf1 (K:=fun S' w'=>S'=_/\w=w') ⟨rfl,rfl⟩ ?_;rintro _ a2 _ hf2 ⟨rfl,rfl⟩;refine aQr (c:=c41) aQb rfl h3 rfl hf2 (K:=fun S' w'=>S'=_/\w=w') ⟨rfl,rfl⟩ ?_;rintro _ a3 _ hf3 ⟨rfl,rfl⟩;refine aQr (c:=c41) aQb rfl h4 rfl hf3 (K:=fun S' w'=>S'=_/\w=w') ⟨rfl,rfl⟩ ?_;rintro _ a4 _ hf4 ⟨rfl,rfl⟩;refine aQr (c:=c41) aQb rfl h5 rfl hf4 (K:=fun S' w'=>S'=_/\w=w') ⟨rfl,rfl⟩ ?_;rintro _ a5 _ hf5 ⟨rfl,rfl⟩;refine aQr (c:=c41) aQb rfl h6 rfl hf5 (K:=fun S' w'=>S'=_/\w=w') ⟨rfl,rfl⟩ ?_;rintro _ a6 _ hf6 ⟨rfl,rfl⟩;unfold wpOpsS;refine dQi (c:=c41) aQb rfl hf6 ?_;refine aQN rfl ?_;exact⟨_,rfl,rfl,rfl⟩
end
section
open Go Go.RowKit
structure QP where
 r:Nat
 NA:Option Addr
 nn:Nat
 nc:Nat
 nm:List (List Nat)
 FA:Option Addr
 nf:Nat
 cf:Nat
 fs:List (List Nat×List Nat)
structure QM where
 OA:Option Addr
 oc:Nat
 DA:Option Addr
 dc:Nat
 L:List DV
 T:Nat->Prop
structure QV where
 d:Nat
 rd:List Nat
 g:Gs
 b:Pl
abbrev qdC (p:QP)(m:QM)(v:QV):List Value:=[.slice p.NA p.nn p.nc,.slice p.FA p.nf p.cf,.int .i64 v.d,.slice m.DA v.rd.length m.dc,.string (aQh v.g.tx),.slice m.OA v.g.sg.length m.oc,.bool v.g.fr,.int .i64 v.b.e,.int .i64 v.b.f,.int .i64 v.b.l]
def QS (p:QP)(m:QM):Nat->Prop:=fun k=>k=p.r∨aQx m.OA k∨aQx m.DA k
def TQ (p:QP)(m:QM):Nat->Prop:=fun k=>QS p m k∨m.T k
structure Qr (w0 w:World) (base:Nat) (p:QP) (m:QM) (v:QV):Prop where
 e0:Ext w0 w
 lor:w0.heap.size<=p.r
 rb:p.r<base
 top:base<=w.heap.size
 blk:Blk w p.r 201 (qdC p m v)
 rdo:Own w base 3 1 m.DA v.rd.length m.dc (ixV v.rd.reverse)
 out:Own w base 48 6 m.OA v.g.sg.length m.oc (sgV v.g.sg m.L)
 len:m.L.length=v.g.sg.length
 dgs:∀(j:Nat) (s:Sg) (x:DV),v.g.sg[j]? =some s->m.L[j]? =some x->DgO w (TQ p m) p.nm.length x s.o
 tl:v.g.tx.length<=1048576
 sl:v.g.sg.length<=65536
 b8:∀x∈v.g.tx,x<256
 nf:v.g.fr=false->v.g.sg≠ []∨v.rd=[]
 tt:∀i,m.T i->i<w.heap.size
 dl:v.d<=65
 rl:v.rd.length<=65+65
section
variable {w0 w w':World} {base:Nat} {p:QP} {m:QM} {v:QV}
theorem Qr.ext (h:Qr w0 w base p m v)(k:Ext w w'):Qr w0 w' base p m v:=
 ⟨h.e0.trans k,h.lor,h.rb,Nat.le_trans h.top k.size,h.blk.ext k,h.rdo.ext k,h.out.ext k,h.len,fun j s x h1 h2=>(h.dgs j s x h1 h2).ext k,h.tl,h.sl,h.b8,h.nf,fun i hi=>Nat.lt_of_lt_of_le (h.tt i hi) k.size,h.dl,h.rl⟩
end
theorem iQc {w:World}{g t:Nat}{cs:List Value}{j i:Nat}{v:Value}{K:Value->Prop}(h:Blk w g t cs)(hv:cs[j+i]? =some v)(k:K v):pQi w (((⟨g,0,none⟩:Addr).add j).add i) K:=by
 rw[add_add];exact aQe h hv k
section
variable {w0:World} {base:Nat} {p:QP} {m:QM} {v:QV}
end
end
section
open Go Go.RowKit
theorem nQ9 {nm:List (List Nat)}{s:List Nat}{e:Int}(h:gQ9 nm s= .error e):e≠0:=by
 unfold gQ9 at h;split at h
 ·cases h
 ·cases h;split<;>decide
def vQP:Except Int (List Nat)->Value
 | .ok l=>.tuple #[.string (aQh l),.int .i64 0]
 | .error e=>.tuple #[.string (aQh []),.int .i64 e]
theorem rQl (n:Nat)(o o':BF):aQW n (fun e=>o e && !o' e)=qQS n (aQW n o) o':=by
 unfold aQW qQS;rw[List.filter_filter];congr 1;funext c;rw[Bool.and_comm]
theorem gQw {M:Nat}:∀{ls:List (List Nat)},(∀s∈ls,s.length<=M)->(unl ls).length<=ls.length*(M+1)
 | [],_=>by simp[unl]
 | s::ls,h=>by
  have ih:=gQw (ls:=ls) (fun t ht=>h t (by simp[ht]));have h1:=h s (by simp);rw[aQ7,List.length_cons,Nat.add_mul,Nat.one_mul];simp only[List.length_append,List.length_cons];omega
theorem hQd:∀(l:List Nat),(aQi l).length<=l.length/\∀s∈aQi l,s.length<=l.length
 | []=>⟨by simp[aQi],fun s hs=>by simp[aQi] at hs⟩
 | b::l=>by
  obtain⟨h1,h2⟩:=hQd l;unfold aQi;split
  ·refine⟨by simp;omega,fun s hs=>?_⟩;rcases List.mem_cons.1 hs with rfl | hs
   ·simp
   ·have:=h2 s hs;simp;omega
  ·cases hl:aQi l with
   | nil=>refine⟨by simp,fun s hs=>?_⟩;rw[List.mem_singleton.1 hs];simp
   | cons t ls=>
    rw[hl] at h1 h2;refine⟨by simp at h1 ⊢;omega,fun s hs=>?_⟩;rcases List.mem_cons.1 hs with rfl | hs
    ·have:=h2 t (by simp);simp;omega
    ·have:=h2 s (by simp[hs]);simp;omega
theorem rQm {nm:List (List Nat)}(h:∀s∈nm,s.length<=1000)(v:Nat)(ng:Bool):(ifT nm v ng).length<=2100:=by
 unfold ifT;have h1:((nm[v]?).getD []).length<=1000:=by
  cases hv:nm[v]? with
  | none=>simp
  | some s=>exact h s (List.mem_of_getElem? hv)
 have h2:(if ng then [33] else([]:List Nat)).length<=1:=by cases ng<;>simp
 have h3:pIf.length=4:=rfl;simp only[List.length_append];omega
theorem rQn {nm:List (List Nat)}{f:Nat->List Nat}(hn:∀s∈nm,s.length<=1000){S:List Nat}(hS:S≠ [])(hS16:S.length<=16)(h:∀c∈S,(f c).length<=2000)(k v:Nat):(unl (cQf nm f k v S)).length<=1000000000:=by
 obtain⟨h1,h2⟩:=gQL (nm:=nm) (f:=f) (P:=fun s=>s.length<=2100) (M:=2000) (fun v ng=>rQm hn v ng) (by decide) (by decide) k v S hS (fun c hc=>by
  obtain⟨a,b⟩:=hQd (f c);have:=h c hc;exact⟨fun s hs=>by have:=b s hs;omega,by omega⟩)
 have h3:=gQw h1;have h4:S.length*(2000+3)<=16*2003:=Nat.mul_le_mul_right _ hS16;have h5:(cQf nm f k v S).length*(2100+1)<=32048*2101:=Nat.mul_le_mul_right _ (by omega);omega
theorem rQo (n:Nat)(o:BF):(aQW n o).length<=2^n:=by
 unfold aQW;refine Nat.le_trans (List.length_filter_le _ _) ?_;rw[List.length_range];exact Nat.le_refl _
set_option maxHeartbeats 3200000 in
theorem fQW (NA:Option Addr)(nn nc:Nat)(nm:List (List Nat))(x:DV)(PA:Option Addr)(pn pc:Nat)(ps:List (DV×List Nat))(hn4:nm.length<=4)(hnb:aQ2 nm)(hnl:∀s∈nm,s.length<=1000)(hps:∀q∈ps,(∀b∈q.2,b<256)/\q.2.length<=2000)(w:World)
  (hN:Sl w 1 NA nn nc (aQ6 nm)) (hx:SB w x.A x.n x.c x.nd) (hP:SlS bQR 3 w PA pn pc ps) (hPs:∀q∈ps,SB w q.1.A q.1.n q.1.c q.1.nd):
  Fn Tryz.prog 24 [.slice NA nn nc,dgV x.A x.n x.c x.r,.slice PA pn pc] w (fun u w'=>u=vQP (fQP nm x ps)/\Ext w w'):=by
 have hlen:nm.length=nn:=by have:=hN.len;rw[aQQ] at this;omega
 have hk:nm.length<=12:=by omega
 have hpl:=hP.2;have hpcap:=hP.1.cap;have hple:=hP.1.le;simp only[maxLen] at hpcap;refine hQs (c:={c24 with cuts:=[]}) aQb Tryz.func24 rfl rfl rfl ?_;refine aQL (aQv aQb ?_);refine new (fun w1 hE1 hz1 hB1=>?_);refine new (fun w2 hE2 hz2 hB2=>?_);refine new (fun w3 hE3 hz3 hB3=>?_);have hE23:=hE2.trans hE3;have hE03:=hE1.trans hE23;have hne:w1.heap.size≠w2.heap.size:=by omega
 refine aQL (eQs aQb rfl rfl rfl rfl ⟨_,_,_,_,rfl,rfl,?_⟩);refine aQL (aQv aQb ?_);refine aQd (hB1.ext hE23) rfl ?_;refine aQX (lQP NA nn nc nm x hk hnb w3 (hN.ext hE03) (hx.ext hE03)) ?_ ?_
 rotate_left
 ·rintro ch w4 ⟨hno,rfl,hE4⟩;refine eQe aQb rfl rfl (args:= #[.pointer (some ⟨w1.heap.size,0,none⟩),.pointer (some ⟨w2.heap.size,0,none⟩)]) (by simp) ((fQk _ _ 1 w4 _ _ hne ((hB2.ext hE3).ext hE4) (hB3.ext hE4)).mono ?_);rintro e u' w5 ⟨v,rfl,hs5,hR5⟩;refine⟨v,rfl,hs5,?_⟩;refine aQg hR5.1 rfl ?_;refine aQg hR5.2.1 rfl ?_;have hm:fQP nm x ps= .error 1:=by
   unfold fQP;rw[if_pos (by
    by_cases h1:aQV nm=true
    ·exact .inr (Bool.eq_false_iff.2 (fun h2=>hno ⟨h1,h2⟩))
    ·exact .inl (by simpa using h1))]
  rw[hm];exact⟨rfl,hR5.2.2.ext (hE03.trans hE4) (fun i hi=>by rcases hi with rfl | rfl<;>omega)⟩
 rintro _ w4 ⟨⟨hok,hov⟩,hE4⟩;have hE04:=hE03.trans hE4;have sx:=eQH hov;have hB14:=(hB1.ext hE23).ext hE4;have hBo:=(hB2.ext hE3).ext hE4;have hBe:=hB3.ext hE4;have hm:fQP nm x ps=if cQA nm.length (aQW nm.length (oD x)) ps=false then .error 290
   else if ps=[] then .ok []
   else if 1048576<(unl (cQf nm (fP (prs ps)) nm.length 0 (aQW nm.length (oD x)))).length then .error 2
   else .ok (unl (cQf nm (fP (prs ps)) nm.length 0 (aQW nm.length (oD x)))):=by
  rw[fQP,if_neg (by rw[hok,hov];simp)]
 generalize fQP nm x ps=M at*;have e290:∀w',Ext w4 w'->cQA nm.length (aQW nm.length (oD x)) ps=false->∀w5,xQg w1.heap.size w2.heap.size 290 w' w5->Value.tuple #[.string ⟨#[]⟩,.int .i64 290]=vQP M/\Ext w w5:=fun w' hE' hc w5 hR=>by
  refine⟨by rw[hm,if_pos hc];rfl,hR.2.2.ext (hE04.trans hE') (fun i hi=>by rcases hi with rfl | rfl<;>omega)⟩
 refine aQL (aQv aQb ?_);refine aQd hB14 rfl ?_;refine new (fun w5 hE5 hz5 hB5=>?_);refine aQc hB5 rfl (sc rfl) (fun w6 hg6 _ hB6=>?_);have hE46:Ext w4 w6:=aQJ hE5 hB5 hg6;have hz4:=hE4.size;have hs46:=hE46.size;refine aQL (aQv aQb ?_);refine loop aQb [18] (fun i:Nat=>[.int .i64 i]) (fun i w'=>Mod (·=w4.heap.size) w6 w'/\i<=pn/\∃(R:DV) (oR:BF),Blk w' w4.heap.size 32 R.cells/\SB w' R.A R.n R.c R.nd/\Set1 nm.length R.nd R.r oR/\(∀ad,R.A=some ad->0<R.n->ad.block≠w4.heap.size)/\cQA nm.length (aQW nm.length (oD x)) ps=cQA nm.length (aQW nm.length oR) (ps.drop i)) (fun i _=>pn-i) 0 rfl ⟨Mod.refl _ _,Nat.zero_le _,x,oD x,hB6,(hx.ext hE04).ext hE46,sx,fun ad ea h0=>by have:=SB.lt (hx.ext hE04) ad ea h0;omega,rfl⟩ ?_;rintro i w7 ⟨hM7,hi,R,oR,hB7,hR7,sR,hRn,hch⟩;have hE47:Ext w4 w7:=hM7.ext hE46 (fun j hj=>by omega);have hE07:=hE04.trans hE47;have hs47:=hE47.size;have hBo7:=hBo.ext hE47;have hBe7:=hBe.ext hE47;refine aQq (fun c1=>?_) (fun c1=>?_)
 ·have hin:i<pn:=by omega
  refine aQp kQh (hP.ext hE07) rfl hin (fun ad q hq hc=>?_);have hqm:=List.mem_of_getElem? hq;obtain⟨q8,ql⟩:=hps q hqm;have hdrop:ps.drop i=q::ps.drop (i+1):=by
   have hlt:=(List.getElem?_eq_some_iff.1 hq).1;rw[List.drop_eq_getElem_cons hlt];congr 1;rw[List.getElem?_eq_getElem hlt] at hq;exact Option.some.inj hq
  rw[hdrop] at hch;refine aQK (vs:=bQR q) rfl hc ?_;refine new (fun w8 hE8 hz8 hB8=>?_);refine aQc hB8 rfl (sc rfl) (fun w9 hg9 _ hB9=>?_);have hE79:Ext w7 w9:=aQJ hE8 hB8 hg9;have hs79:=hE79.size;have hq9:=(hPs q hqm).ext (hE07.trans hE79);refine bQM (vs:=[.slice q.1.A q.1.n q.1.c,.int .i64 q.1.r]) hB9 rfl (fun j u hj=>by match j,hj with | 0,hj=>exact hj | 1,hj=>exact hj) ?_;rw[<-hlen];refine call (kQd q.1.A q.1.n q.1.c nm.length q.1.nd q.1.r w9 hq9) ?_;rintro _ w10 ⟨rfl,hE10⟩;have hE710:=hE79.trans hE10;have bad:∀w',Ext w7 w'->cQA nm.length (aQW nm.length oR) (q::ps.drop (i+1))=false->∀w5,xQg w1.heap.size w2.heap.size 290 w' w5->Value.tuple #[.string ⟨#[]⟩,.int .i64 290]=vQP M/\Ext w w5:=fun w' hE' hc w5 hR=>e290 w' (hE47.trans hE') (hch.trans hc) w5 hR
  cases hqo:ovD nm.length q.1.nd q.1.r with
  | false=>
   refine aQM rfl ?_;refine aQX (aQY 290 (by decide) w10) (fun _ _ hf=>hf.elim) ?_;rintro ch _ ⟨rfl,rfl⟩;refine eQe aQb rfl rfl (args:= #[.pointer (some ⟨w1.heap.size,0,none⟩),.pointer (some ⟨w2.heap.size,0,none⟩)]) (by simp) ((fQk _ _ 290 w10 _ _ hne (hBo7.ext hE710) (hBe7.ext hE710)).mono ?_);rintro e u' w11 ⟨v,rfl,hs11,hR11⟩;refine⟨v,rfl,hs11,?_⟩;refine aQg hR11.1 rfl ?_;refine aQg hR11.2.1 rfl ?_;exact bad w10 hE710 (by
    refine Bool.eq_false_iff.2 (fun hh=>?_);rw[(kQc.1 hh).1.1] at hqo;cases hqo) w11 hR11
  | true=>
  have sq:=eQH hqo;have hr0:=sq.root0;have hB10:=hB9.ext hE10;refine aQN rfl ?_;refine iQc (j:=0) (i:=1) hB10 rfl ?_;have hcc:=kQc (n:=nm.length) (R:=aQW nm.length oR) (p:=q) (ps:=ps.drop (i+1));refine aQP (fun hz=>?_) (fun hz=>?_)
  ·refine aQX (aQY 290 (by decide) w10) (fun _ _ hf=>hf.elim) ?_;rintro ch _ ⟨rfl,rfl⟩;refine eQe aQb rfl rfl (args:= #[.pointer (some ⟨w1.heap.size,0,none⟩),.pointer (some ⟨w2.heap.size,0,none⟩)]) (by simp) ((fQk _ _ 290 w10 _ _ hne (hBo7.ext hE710) (hBe7.ext hE710)).mono ?_);rintro e u' w20 ⟨v,rfl,hs20,hR20⟩;refine⟨v,rfl,hs20,?_⟩;refine aQg hR20.1 rfl ?_;refine aQg hR20.2.1 rfl ?_;exact bad w10 hE710 (Bool.eq_false_iff.2 (fun hh=>(hcc.1 hh).1.2.1 (hr0.1 hz))) w20 hR20
  ·refine bQM (vs:=[.slice q.1.A q.1.n q.1.c,.int .i64 q.1.r]) hB10 rfl (fun j u hj=>by match j,hj with | 0,hj=>exact hj | 1,hj=>exact hj) ?_;refine aQd (hB7.ext hE710) rfl ?_;refine call (lQw q.1.A q.1.n q.1.c q.1.nd q.1.r R.A R.n R.c R.nd R.r w10 (hq9.ext hE10) (hR7.ext hE710)) ?_;rintro _ w11 ⟨rfl,hE11⟩;have hE711:=hE710.trans hE11;have hwi:qQE q.1.nd q.1.r R.nd R.r=true↔∀c∈aQW nm.length (oD q.1),c∈aQW nm.length oR:=by
    rw[mQY hk sq sR,qQR sq.dep sR.dep];exact⟨fun h c hc=>aQH.2 ⟨(aQH.1 hc).1,h c hc⟩,fun h c hc=>(aQH.1 (h c hc)).2⟩
   cases hwb:qQE q.1.nd q.1.r R.nd R.r with
   | false=>
    refine aQM rfl ?_;refine aQX (aQY 290 (by decide) w11) (fun _ _ hf=>hf.elim) ?_;rintro ch _ ⟨rfl,rfl⟩;refine eQe aQb rfl rfl (args:= #[.pointer (some ⟨w1.heap.size,0,none⟩),.pointer (some ⟨w2.heap.size,0,none⟩)]) (by simp) ((fQk _ _ 290 w11 _ _ hne (hBo7.ext hE711) (hBe7.ext hE711)).mono ?_);rintro e u' w20 ⟨v,rfl,hs20,hR20⟩;refine⟨v,rfl,hs20,?_⟩;refine aQg hR20.1 rfl ?_;refine aQg hR20.2.1 rfl ?_;exact bad w11 hE711 (Bool.eq_false_iff.2 (fun hh=>by rw[hwi.2 (hcc.1 hh).1.2.2.1] at hwb;cases hwb)) w20 hR20
   | true=>
    refine aQN rfl ?_;have hB11:=hB10.ext hE11;refine aQe hB11 rfl ?_;refine call (lQE q.2 w11 q8 (by omega)) ?_;rintro _ w12 ⟨rfl,hE12⟩;have hE712:=hE711.trans hE12;cases hpl2:bQE q.2 with
    | false=>
     refine aQM rfl ?_;refine aQX (aQY 290 (by decide) w12) (fun _ _ hf=>hf.elim) ?_;rintro ch _ ⟨rfl,rfl⟩;refine eQe aQb rfl rfl (args:= #[.pointer (some ⟨w1.heap.size,0,none⟩),.pointer (some ⟨w2.heap.size,0,none⟩)]) (by simp) ((fQk _ _ 290 w12 _ _ hne (hBo7.ext hE712) (hBe7.ext hE712)).mono ?_);rintro e u' w20 ⟨v,rfl,hs20,hR20⟩;refine⟨v,rfl,hs20,?_⟩;refine aQg hR20.1 rfl ?_;refine aQg hR20.2.1 rfl ?_;exact bad w12 hE712 (Bool.eq_false_iff.2 (fun hh=>by rw[(hcc.1 hh).1.2.2.2] at hpl2;cases hpl2)) w20 hR20
    | true=>
     refine aQN rfl ?_;refine aQd (hB7.ext hE712) rfl ?_;refine bQM (vs:=[.slice q.1.A q.1.n q.1.c,.int .i64 q.1.r]) (hB11.ext hE12) rfl (fun j u hj=>by match j,hj with | 0,hj=>exact hj | 1,hj=>exact hj) ?_;refine call (bQk hk R q.1 w12 (hR7.ext hE712) ((hPs q hqm).ext (hE07.trans hE712)) sR sq) ?_;rintro _ w13 ⟨QA,Qn,Qc,Qnd,Qr,rfl,hE13,hQ13,sQ,hQR⟩;refine aQc ((hB7.ext hE712).ext hE13) rfl (sc rfl) (fun w14 hg14 _ hB14=>?_);have hM14:Mod (·=w4.heap.size) w13 w14:=zQE hg14 rfl;refine aQa ((i+1:Nat):Int) (by show((i:Nat):Int)+1=_;omega) (by omega) ?_;have hoff:∀ad,QA=some ad->0<Qn->ad.block≠w4.heap.size:=fun ad ea h0=>by
      have:=hQR ad.block ⟨ad,ea,rfl⟩;have:=hE712.size;have:=hB7.lt;omega
     have h713:=hE712.trans hE13;refine⟨i+1,rfl,⟨(hM7.trans (Mod.of_ext (·=w4.heap.size) h713) (fun j hj=>.inl hj)).trans hM14 (fun j hj=>.inl hj),hin,⟨QA,Qn,Qc,Qnd,Qr⟩,_,hB14,hQ13.modo hM14 hoff,sQ,hoff,?_⟩,by show pn-(i+1)<pn-i;omega⟩;rw[hch,rQl];have h1:ovD nm.length q.1.nd q.1.r=true/\aQW nm.length (oD q.1)≠ []/\(∀c∈aQW nm.length (oD q.1),c∈aQW nm.length oR)/\bQE q.2=true:=⟨hqo,fun e=>hz (hr0.2 e),hwi.1 hwb,hpl2⟩
     have h2:cQA nm.length (aQW nm.length oR) (q::ps.drop (i+1))=true↔cQA nm.length (qQS nm.length (aQW nm.length oR) (oD q.1)) (ps.drop (i+1))=true:=hcc.trans ⟨fun h=>h.2,fun h=>⟨h1,h⟩⟩;exact Bool.eq_iff_iff.2 h2
 have hin:i=pn:=by omega
 have hdrop:ps.drop i=[]:=List.drop_eq_nil_of_le (by omega);rw[hdrop] at hch;have hR0:=sR.root0;have hch:cQA nm.length (aQW nm.length (oD x)) ps=decide (aQW nm.length oR=[]):=hch;refine aQL (aQv aQb ?_);refine aQe hB7 rfl ?_;refine cQj (fun hz=>?_) (fun hz=>?_)
 ·refine aQX (aQY 290 (by decide) w7) (fun _ _ hf=>hf.elim) ?_;rintro ch _ ⟨rfl,rfl⟩;refine eQe aQb rfl rfl (args:= #[.pointer (some ⟨w1.heap.size,0,none⟩),.pointer (some ⟨w2.heap.size,0,none⟩)]) (by simp) ((fQk _ _ 290 w7 _ _ hne hBo7 hBe7).mono ?_);rintro e u' w20 ⟨v,rfl,hs20,hR20⟩;refine⟨v,rfl,hs20,?_⟩;refine aQg hR20.1 rfl ?_;refine aQg hR20.2.1 rfl ?_;exact e290 w7 hE47 (by rw[hch];exact decide_eq_false (fun e=>hz (hR0.2 e))) w20 hR20
 have hchk:cQA nm.length (aQW nm.length (oD x)) ps=true:=by rw[hch];exact decide_eq_true (hR0.1 hz)
 rw[if_neg (by rw[hchk];decide)] at hm;refine aQL (aQv aQb ?_);refine aQP (fun h0=>?_) (fun h0=>?_)
 ·have hps0:ps=[]:=List.eq_nil_of_length_eq_zero (by omega);rw[if_pos hps0] at hm;refine aQC hBo7 (by simp[bQd]) (fun w8 hM8 hB8=>?_);refine aQC (hBe7.mod hM8 hne.symm) (by simp[bQd]) (fun w9 hM9 hB9=>?_);refine pQf aQb rfl rfl (.inl rfl) (args:= #[.pointer (some ⟨w1.heap.size,0,none⟩),.pointer (some ⟨w2.heap.size,0,none⟩)]) (by simp) ((rQj _ _ w9).mono ?_);rintro e u' w20 ⟨v,rfl,hs20,rfl⟩;refine⟨v,rfl,hs20,?_⟩;refine aQg (hB8.mod hM9 hne) rfl ?_;refine aQg hB9 rfl ?_;exact⟨by rw[hm];rfl,hM9.ext (hM8.ext hE07 (fun j hj=>by omega)) (fun j hj=>by omega)⟩
 ·have hps0:ps≠ []:=fun e=>h0 (by rw[<-hpl,e];rfl)
  rw[if_neg hps0] at hm;obtain⟨hpa,hov2⟩:=tQL (fun c hc=>(aQH.1 hc).1) hchk;have hne0:aQW nm.length (oD x)≠ []:=fun e=>by
   obtain⟨q,hq⟩:=List.exists_mem_of_ne_nil _ hps0;obtain⟨_,n1,_,n2⟩:=hov2 q hq;obtain⟨c,hc⟩:=List.exists_mem_of_ne_nil _ n1;have:=n2 c hc;rw[e] at this;cases this
  refine aQv aQb ?_;refine aQd (hB14.ext hE47) rfl ?_;refine call (nQ2 NA nn nc nm x (oD x) PA pn pc ps nm.length hn4 rfl hnb (fun s hs=>by have:=hnl s hs;omega) (fun q hq=>by
   obtain⟨a,b,c,d⟩:=hov2 q hq;obtain⟨e1,e2⟩:=hps q hq;exact⟨a,c,e1,by omega⟩) w7 (hN.ext hE07) (hx.ext hE07) sx (hP.ext hE07) (fun q hq=>(hPs q hq).ext hE07) hne0 hpa) ?_
  rintro _ w8 ⟨A8,c8,rfl,hE8,hS8⟩;have hfl:∀c∈aQW nm.length (oD x),(fP (prs ps) c).length<=2000:=fun c hc=>by
   obtain⟨p,hp,hpc⟩:=hpa.cov c hc;rw[hpa.get hc hp hpc];obtain⟨q,hq,rfl⟩:=List.mem_map.1 hp;exact(hps q hq).2
  have h16:(aQW nm.length (oD x)).length<=16:=Nat.le_trans (rQo _ _) (Nat.le_trans (Nat.pow_le_pow_right (by decide) hn4) (by decide));have hlenW:=rQn hnl hne0 h16 hfl nm.length 0;generalize cQf nm (fP (prs ps)) nm.length 0 (aQW nm.length (oD x))=W at*;refine aQX (lQO A8 _ c8 W w8 hS8 (by omega)) ?_ ?_
  rotate_left
  ·rintro ch _ ⟨hbig,rfl,rfl⟩;rw[if_pos hbig] at hm;refine eQe aQb rfl rfl (args:= #[.pointer (some ⟨w1.heap.size,0,none⟩),.pointer (some ⟨w2.heap.size,0,none⟩)]) (by simp) ((fQk _ _ 2 w8 _ _ hne (hBo7.ext hE8) (hBe7.ext hE8)).mono ?_);rintro e u' w20 ⟨v,rfl,hs20,hR20⟩;refine⟨v,rfl,hs20,?_⟩;refine aQg hR20.1 rfl ?_;refine aQg hR20.2.1 rfl ?_;exact⟨by rw[hm];rfl,hR20.2.2.ext (hE07.trans hE8) (fun i hi=>by rcases hi with rfl | rfl<;>omega)⟩
  rintro _ w9 ⟨hfit,rfl,hE9⟩;rw[if_neg (by omega)] at hm;have hE79:=hE8.trans hE9;refine aQC (hBo7.ext hE79) (by simp[bQd]) (fun w10 hM10 hB10=>?_);refine aQC ((hBe7.ext hE79).mod hM10 hne.symm) (by simp[bQd]) (fun w11 hM11 hB11=>?_);refine pQf aQb rfl rfl (.inl rfl) (args:= #[.pointer (some ⟨w1.heap.size,0,none⟩),.pointer (some ⟨w2.heap.size,0,none⟩)]) (by simp) ((rQj _ _ w11).mono ?_);rintro e u' w20 ⟨v,rfl,hs20,rfl⟩;refine⟨v,rfl,hs20,?_⟩;refine aQg (hB10.mod hM11 hne) rfl ?_;refine aQg hB11 rfl ?_;exact⟨by rw[hm];rfl,hM11.ext (hM10.ext (hE07.trans hE79) (fun j hj=>by omega)) (fun j hj=>by omega)⟩
theorem oQa {ls:List (List Nat)}(hL:gQn ls){a:Nat}{s:List Nat}(h:(a,s)∈eQf 0 ls):∃pre suf,unl ls=pre++(s++10::suf)/\pre.length=a/\cQ6 pre/\10∉s:=by
 obtain⟨i,h1,h2⟩:=rQd h;have hlt:=(List.getElem?_eq_some_iff.1 h1).1;have hs:ls[i]=s:=by rw[List.getElem?_eq_getElem hlt] at h1;exact Option.some.inj h1
 refine⟨unl (ls.take i),unl (ls.drop (i+1)),?_,by omega,tQr _,hL s (List.mem_of_getElem? h1)⟩;have hu:∀a b:List (List Nat),unl (a++b)=unl a++unl b:=fun a b=>by simp[unl]
 have e:ls=ls.take i++s::ls.drop (i+1):=by
  have:=(List.take_append_drop i ls).symm;rw[List.drop_eq_getElem_cons hlt,hs] at this;exact this
 have e2:=congrArg unl e;rw[hu,aQ7] at e2;exact e2
theorem mQ5 {l:List Nat}(hl:∀x∈l,x<256){j b:Nat}(h:l[j]? =some b):(((aQh l).data[j]!).toNat:Int)=b:=by
 have hlt:=(List.getElem?_eq_some_iff.1 h).1;have hb:=hl b (List.mem_of_getElem? h);have e:(aQh l).data[j]! =UInt8.ofNat b:=by
  have:(aQh l).data=(l.map UInt8.ofNat).toArray:=rfl;rw[this,getElem!_def,List.getElem?_toArray,List.getElem?_map,h];rfl
 rw[e];have:(UInt8.ofNat b).toNat=b:=by simp[Nat.mod_eq_of_lt hb]
 rw[this]
theorem rQp {ls:List (List Nat)}(hL:gQn ls)(h8:∀x∈unl ls,x<256){a x:Nat}{s:List Nat}(h:(a,s)∈eQf 0 ls)(h1:a<=x)(h2:x<=a+s.length):Lib.lastIndexByte (aQh ((unl ls).take x)) 10=(a:Int)-1:=by
 obtain⟨pre,suf,e,hp,ht,hs⟩:=oQa hL h;have hlen:x<=(unl ls).length:=by rw[e];simp;omega
 have hsz:(aQh ((unl ls).take x)).size=x:=by rw[aQj,List.length_take];omega
 have h8':∀y∈(unl ls).take x,y<256:=fun y hy=>h8 y (List.mem_of_mem_take hy)
 have hget:∀j,j<x->((unl ls).take x)[j]? =(unl ls)[j]? :=fun j hj=>List.getElem?_take_of_lt hj
 have hin:∀j,a<=j->j<x->((unl ls).take x)[j]? ≠some 10:=fun j ha hj hh=>by
  rw[hget j hj,e,List.getElem?_append_right (by omega),hp,List.getElem?_append_left (by omega)] at hh;exact hs (List.mem_of_getElem? hh)
 have ne:∀j,j<x->∃b,((unl ls).take x)[j]? =some b:=fun j hj=>⟨_,List.getElem?_eq_getElem (by rw[List.length_take];omega)⟩
 have hpre:0<a->((unl ls).take x)[a-1]? =some 10∨x<a:=fun h0=>by
  left
  rw[hget (a-1) (by omega),e,List.getElem?_append_left (by omega)];rcases ht with ht | ht
  ·subst ht;simp at hp;omega
  ·rw[List.getLast?_eq_getElem?,hp] at ht;exact ht
 rcases Lib.lastIndexByte_spec (aQh ((unl ls).take x)) 10 with⟨k1,k2⟩ | ⟨i,i1,i2,i3,i4⟩
 ·rw[k1];by_cases h0:a=0
  ·subst h0;rfl
  ·exfalso;rcases hpre (by omega)with hh | hh
   ·have:=mQ5 h8' hh;exact k2 (a-1) (by rw[hsz];omega) (by rw[this];rfl)
   ·omega
 ·rw[hsz] at i1;obtain⟨b,hb⟩:=ne i i1;have hb10:b=10:=by
   have:=mQ5 h8' hb;rw[this] at i3
   exact_mod_cast i3
  subst hb10;rw[i2];have hia:i<a:=by
   apply Classical.byContradiction;intro hh;exact hin i (by omega) i1 hb
  rcases hpre (by omega)with hh | hh
  ·have hle:i=a-1:=by
    apply Classical.byContradiction;intro hh2;have:=mQ5 h8' hh;exact i4 (a-1) (by omega) (by rw[hsz];omega) (by rw[this];rfl)
   omega
  ·omega
theorem oQb {ls:List (List Nat)}(hL:gQn ls){a:Nat}{s:List Nat}(h:(a,s)∈eQf 0 ls):ixB 10 ((unl ls).drop a)=s.length/\((unl ls).drop a).take (s.length+1)=s++ [10]:=by
 obtain⟨pre,suf,e,hp,ht,hs⟩:=oQa hL h;have e2:(unl ls).drop a=s++10::suf:=by rw[e,<-hp,List.drop_left]
 rw[e2];constructor
 ·unfold ixB;rw[if_pos (by simp)];congr 1;clear e e2 h;induction s with
  | nil=>simp
  | cons b s ih=>
   simp only[List.mem_cons,not_or] at hs;rw[List.cons_append,List.takeWhile_cons,if_pos (by simpa using fun e:b=10=>hs.1 e.symm),List.length_cons,ih hs.2,List.length_cons]
 ·rw[show s++10::suf=(s++ [10])++suf by simp,List.take_left' (by simp)]
theorem tQU {ls:List (List Nat)}{e:Ed}(h:(eQf 0 ls).any (rQS e)=true):0<=e.fr/\e.fr<=e.to_/\e.to_<(unl ls).length:=by
 obtain⟨⟨a,s⟩,hm,hp⟩:=List.any_eq_true.1 h;obtain⟨p1,p2,p3,p4⟩:=of_decide_eq_true hp;have:=gQM hm;simp only at p1 p2;omega
def edC (e:EdV):List Value:=[.int .i64 e.fr,.int .i64 e.to_,.string (aQh e.tx),.slice e.x.A e.x.n e.x.c,.int .i64 e.x.r]
theorem iQd (e:EdV):(edC e).length=5:=rfl
structure EP where
 eb:Nat
 NA:Option Addr
 nn:Nat
 nc:Nat
 nm:List (List Nat)
 x:DV
 f:List Nat
 EA:Option Addr
 en:Nat
 ec:Nat
 es:List EdV
structure EK (w:World) (p:EP):Prop where
 blk:Blk w p.eb 99 [.slice p.NA p.nn p.nc,.slice p.x.A p.x.n p.x.c,.int .i64 p.x.r,.string (aQh p.f),.slice p.EA p.en p.ec]
 nms:Sl w 1 p.NA p.nn p.nc (aQ6 p.nm)
 eds:SlS edC 5 w p.EA p.en p.ec p.es
 sbs:∀e∈p.es,SB w e.x.A e.x.n e.x.c e.x.nd
theorem EK.ext {w w':World}{p:EP}(h:EK w p)(k:Ext w w'):EK w' p:=⟨h.blk.ext k,h.nms.ext k,h.eds.ext k,fun e he=>(h.sbs e he).ext k⟩
structure EB (p:EP):Prop where
 n4:p.nm.length<=4
 nb:aQ2 p.nm
 nl:∀s∈p.nm,s.length<=1000
 f8:∀b∈p.f,b<256
 fl:p.f.length<=60000
 ok:cQ6 p.f
 i64:∀e∈p.es, -9223372036854775808<=e.fr/\e.fr<=9223372036854775807/\ -9223372036854775808<=e.to_/\e.to_<=9223372036854775807
 t8:∀e∈p.es,∀b∈e.tx,b<256
 tl:∀e∈p.es,e.tx.length<=1000
 el:p.es.length<=10
abbrev vQQ (p:EP):Prop:=p.es.all (fun e=>ovD p.nm.length e.x.nd e.x.r)=true/\kQn p.nm.length p.f 0 (p.es.map EdV.ed)=true
def iQq (p:EP)(i:Nat):Int:=if i=0 then 0 else((p.es[i-1]?).map (·.fr)).getD 0
abbrev rQq (p:EP)(i:Nat):Prop:=(p.es.drop i).all (fun e=>ovD p.nm.length e.x.nd e.x.r)=true/\kQn p.nm.length p.f (iQq p i) ((p.es.drop i).map EdV.ed)=true
theorem rQr {p:EP}{i:Nat}{e:EdV}(h:p.es[i]? =some e):rQq p i↔(ovD p.nm.length e.x.nd e.x.r=true/\aQW p.nm.length (oD e.x)≠ []/\(eQf 0 (aQi p.f)).any (rQS e.ed)=true/\iQq p i<=e.fr)/\rQq p (i+1):=by
 have hlt:=(List.getElem?_eq_some_iff.1 h).1;have hd:p.es.drop i=e::p.es.drop (i+1):=by
  rw[List.drop_eq_getElem_cons hlt];congr 1;rw[List.getElem?_eq_getElem hlt] at h;exact Option.some.inj h
 have hp:iQq p (i+1)=e.fr:=by unfold iQq;rw[if_neg (by omega),show i+1-1=i by omega,h];rfl
 unfold rQq;rw[hd,hp];simp only[List.all_cons,List.map_cons,kQn,xQK,Bool.and_eq_true,decide_eq_true_eq];constructor
 ·rintro⟨⟨a,b⟩,⟨⟨c,d⟩,e1⟩,f⟩;exact⟨⟨a,c,d,e1⟩,b,f⟩
 ·rintro⟨⟨a,c,d,e1⟩,b,f⟩;exact⟨⟨a,b⟩,⟨⟨c,d⟩,e1⟩,f⟩
theorem iQe (l:List Nat)(w:World)(hl:l.length<=1000000000):
  Fn Tryz.prog 93 [.string (aQh l),.int .u8 10] w (fun v w'=>v= .int .i64 (Lib.lastIndexByte (aQh l) 10)/\w=w'):=
 cQK (Tryz.strings_LastIndexByte (aQh l) 10 (by rw[aQj];omega) w)
set_option maxHeartbeats 3200000 in
theorem rQs (p:EP)(hB:EB p)(w:World)(K:EK w p):
  FnP Tryz.prog 45 [.pointer (some ⟨p.eb,0,none⟩)] w (fun _ w'=>vQQ p/\Ext w w') (fun ch w'=>¬vQQ p/\ch=eQ5 291/\Ext w w'):=by
 have hel:=K.eds.2;have hecap:=K.eds.1.cap;have hele:=K.eds.1.le;simp only[maxLen] at hecap;have hlen:p.nm.length=p.nn:=by have:=K.nms.len;rw[aQQ] at this;omega
 refine aQT (c:={c45 with cuts:=[]}) aQb Tryz.func45 rfl rfl rfl ?_;refine aQe K.blk rfl ?_;refine loop aQb [11] (fun i:Nat=>[.int .i64 i]) (fun i w'=>Ext w w'/\i<=p.en/\(vQQ p↔rQq p i)) (fun i _=>p.en-i) 0 rfl ⟨Ext.refl _,Nat.zero_le _,Iff.rfl⟩ ?_;rintro i w1 ⟨hE1,hi,hiff⟩;refine aQq (fun c1=>?_) (fun c1=>?_)
 ·have hin:i<p.en:=by omega
  refine aQp iQd (K.eds.ext hE1) rfl hin (fun ad e he hc=>?_);have hem:=List.mem_of_getElem? he;obtain⟨i1,i2,i3,i4⟩:=hB.i64 e hem;rw[rQr he] at hiff;refine aQK (vs:=edC e) rfl hc ?_;refine new (fun w2 hE2 hz2 hB2=>?_);refine aQc hB2 rfl (sc rfl) (fun w3 hg3 _ hB3=>?_);have hE13:Ext w1 w3:=aQJ hE2 hB2 hg3;have hE03:=hE1.trans hE13;have K3:=K.ext hE03;have hd:=Ext.drew w3;have hdb:∀{w':World} (hw':Ext w3 w') (j:Nat) (u:Value),(edC e)[3+j]? =some u->w'.cell? (((⟨w1.heap.size,0,none⟩:Addr).add 3).add j)=some u:=fun hw' j u hj=>by rw[add_add,(hB3.ext hw').cell];exact hj
  refine aQm aQb (Ext w3) 55 [(true,0),(true,1),(true,2),(true,3),(true,4),(true,5),(true,6),(false,7),(true,8),(true,9),(true,10),(true,11),(true,12),(true,13),(true,14),(true,15),(true,16),(true,17),(true,18),(true,19),(true,20),(true,21),(true,22),(true,23),(true,24),(true,25),(true,26),(true,27),(true,28),(true,29),(true,30),(true,31),(true,32),(true,33),(true,34),(true,35),(true,36),(true,37),(true,38),(true,39),(true,40),(true,41),(true,42),(true,43),(true,44),(true,45),(true,46),(true,47),(true,48),(true,49),(true,50),(true,51),(true,52),(true,53),(true,54)] (by kernel_rfl) hd ?_;refine aQw (vs:=[.slice e.x.A e.x.n e.x.c,.int .i64 e.x.r]) rfl (fun w' hw' j u hj=>hdb hw' j u (by match j,hj with | 0,hj=>exact hj | 1,hj=>exact hj)) ?_;refine aQy (v:=.slice p.NA p.nn p.nc) (fun w' hw'=>(K3.blk.ext hw').cell 0) ?_;rw[<-hlen];refine call (kQd e.x.A e.x.n e.x.c p.nm.length e.x.nd e.x.r w3.drew ((K3.sbs e hem).ext hd)) ?_;rintro _ w4 ⟨rfl,hE4⟩;have hE34:=hd.trans hE4;have hE04:=hE03.trans hE34;refine⟨hE34,?_⟩;have no:¬(ovD p.nm.length e.x.nd e.x.r=true/\aQW p.nm.length (oD e.x)≠ []/\(eQf 0 (aQi p.f)).any (rQS e.ed)=true/\iQq p i<=e.fr)->¬vQQ p:=fun hno hh=>hno (hiff.1 hh).1
  have hany:(eQf 0 (aQi p.f)).any (rQS e.ed)=true->0<=e.fr/\e.fr<=e.to_/\e.to_<p.f.length:=fun h=>by
   have:=tQU h;rw[aQR hB.ok] at this;exact this
  have hfs:=aQj p.f;cases hov:ovD p.nm.length e.x.nd e.x.r with
  | false=>
   refine aQM rfl ?_;refine aQX (aQY 291 (by decide) w4) (fun _ _ hf=>hf.elim) ?_;rintro ch _ ⟨rfl,rfl⟩;exact⟨no (fun hh=>by rw[hov] at hh;cases hh.1),rfl,hE04⟩
  | true=>
   refine aQN rfl ?_;have se:=eQH hov;have hr0:=se.root0;refine aQy (v:=.int .i64 e.x.r) (fun w' hw'=>hdb hw' 1 _ rfl) ?_;refine aQP (fun hz=>?_) (fun hz=>?_)
   ·refine aQX (aQY 291 (by decide) w4) (fun _ _ hf=>hf.elim) ?_;rintro ch _ ⟨rfl,rfl⟩;exact⟨no (fun hh=>hh.2.1 (hr0.1 hz)),rfl,hE04⟩
   refine aQy (v:=.int .i64 e.fr) (fun w' hw'=>(hB3.ext hw').cell 0) ?_;refine aQq (fun h1=>?_) (fun h1=>?_)
   ·refine aQX (aQY 291 (by decide) w4) (fun _ _ hf=>hf.elim) ?_;rintro ch _ ⟨rfl,rfl⟩;exact⟨no (fun hh=>by have:=hany hh.2.2.1;omega),rfl,hE04⟩
   refine aQy (v:=.int .i64 e.to_) (fun w' hw'=>(hB3.ext hw').cell 1) ?_;refine aQy (v:=.int .i64 e.fr) (fun w' hw'=>(hB3.ext hw').cell 0) ?_;refine aQq (fun h2=>?_) (fun h2=>?_)
   ·refine aQX (aQY 291 (by decide) w4) (fun _ _ hf=>hf.elim) ?_;rintro ch _ ⟨rfl,rfl⟩;exact⟨no (fun hh=>by have:=hany hh.2.2.1;omega),rfl,hE04⟩
   refine aQy (v:=.int .i64 e.to_) (fun w' hw'=>(hB3.ext hw').cell 1) ?_;refine aQy (v:=.string (aQh p.f)) (fun w' hw'=>(K3.blk.ext hw').cell 3) ?_;refine aQq (fun h3=>?_) (fun h3=>?_)
   ·refine aQX (aQY 291 (by decide) w4) (fun _ _ hf=>hf.elim) ?_;rintro ch _ ⟨rfl,rfl⟩;exact⟨no (fun hh=>by have:=hany hh.2.2.1;omega),rfl,hE04⟩
   have hi8:(i:Int)<=9223372036854775807:=by omega
   refine aQq (fun h4=>?_) (fun h4=>?_)
   ·have hi0:0<i:=by omega
    refine aQy (v:=.int .i64 e.fr) (fun w' hw'=>(hB3.ext hw').cell 0) ?_;refine aQy (v:=.slice p.EA p.en p.ec) (fun w' hw'=>(K3.blk.ext hw').cell 4) ?_;refine aQa ((i-1:Nat):Int) (by omega) (by omega) ?_;refine aQp iQd K3.eds rfl (by omega) (fun ad2 e2 he2 hc2=>?_);refine aQy (v:=.int .i64 e2.fr) (fun w' hw'=>(hw'.cell (hc2 0 _ rfl))) ?_;have hpv:iQq p i=e2.fr:=by unfold iQq;rw[if_neg (by omega),he2];rfl
    refine aQq (fun h9=>?_) (fun h9=>?_)
    ·refine aQX (aQY 291 (by decide) w4) (fun _ _ hf=>hf.elim) ?_;rintro ch _ ⟨rfl,rfl⟩;exact⟨no (fun hh=>by have:=hh.2.2.2;rw[hpv] at this;omega),rfl,hE04⟩
    have hprev:iQq p i<=e.fr:=by rw[hpv];omega
    have hx0:e.fr=(e.fr.toNat:Int):=by omega
    obtain⟨a,s,hm,a1,a2⟩:=rQe (ls:=aQi p.f) (p:=0) (x:=e.fr.toNat) (Nat.zero_le _) (by rw[aQR hB.ok];omega);have hLs:=bQv p.f;have hun:=aQR hB.ok;have hlf:=rQp hLs (by rw[hun];exact hB.f8) hm a1 a2;have hff:=oQb hLs hm;have hoin:=gQM hm;rw[hun] at hlf hff hoin;have han:=tQR (e:=e.ed) hm (by show(a:Int)<=e.fr;omega) (by show e.fr<=a+s.length;omega) (by show e.fr<=e.to_;omega);have hd5:=Ext.drew w4;refine aQm aQb (Ext w4) 10 [(true,0),(true,1),(true,2),(true,3),(true,4),(true,5),(true,6),(false,7),(true,8),(true,9)] (by kernel_rfl) hd5 ?_;refine aQy (v:=.string (aQh p.f)) (fun w' hw'=>((K3.blk.ext hE34).ext hw').cell 3) ?_;refine aQy (v:=.int .i64 e.fr) (fun w' hw'=>((hB3.ext hE34).ext hw').cell 0) ?_;refine aQ1 (v':=.string (aQh (p.f.take e.fr.toNat))) ⟨by omega,by omega,by rw[hfs];omega⟩ (by rw[aQt];rfl) ?_;refine call (iQe (p.f.take e.fr.toNat) w4.drew (by rw[List.length_take];have:=hB.fl;omega)) ?_;rintro _ _ ⟨rfl,rfl⟩;refine⟨hd5,?_⟩;rw[hlf];refine aQa (a:Int) (by omega) (by have:=hB.fl;omega) ?_;have hE4d:=hE34.trans hd5;have hE0d:=hE03.trans hE4d;refine aQe (K3.blk.ext hE4d) rfl ?_;refine aQ1 (v':=.string (aQh (p.f.drop a))) ⟨by omega,by rw[hfs];omega,by rw[hfs];omega⟩ (by
     rw[aQt,hfs];show Value.string (aQh ((p.f.take p.f.length).drop _))=_;rw[List.take_of_length_le (Nat.le_refl _)];rfl) ?_
    refine call (eQD (p.f.drop a) 10 w4.drew (fun x hx=>hB.f8 x (List.mem_of_mem_drop hx)) (by decide)) ?_;rintro _ _ ⟨rfl,rfl⟩;rw[hff.1];refine aQa ((a+s.length:Nat):Int) (by omega) (by have:=hB.fl;omega) ?_;refine aQe (hB3.ext hE4d) rfl ?_;refine aQq (fun h5=>?_) (fun h5=>?_)
    ·refine aQX (aQY 291 (by decide) w4.drew) (fun _ _ hf=>hf.elim) ?_;rintro ch _ ⟨rfl,rfl⟩;exact⟨no (fun hh=>by have h7:=hh.2.2.1;rw[han,decide_eq_true_eq] at h7;have h8:e.to_<=_:=h7.1;omega),rfl,hE0d⟩
    refine aQe (K3.blk.ext hE4d) rfl ?_;refine aQa ((a+s.length+1:Nat):Int) (by omega) (by have:=hB.fl;omega) ?_;refine aQ1 (v':=.string (aQh (s++ [10]))) ⟨by omega,by omega,by rw[hfs];omega⟩ (by
     rw[aQt];show Value.string (aQh ((p.f.take (a+s.length+1)).drop a))=_;rw[List.drop_take,show a+s.length+1-a=s.length+1 by omega,hff.2]) ?_
    have hs8:∀b∈s++ [10],b<256:=fun b hb=>by
     rw[<-hff.2] at hb;exact hB.f8 b (List.mem_of_mem_drop (List.mem_of_mem_take hb))
    refine call (cQU (s++ [10]) w4.drew hs8) ?_;rintro _ w6 ⟨rfl,hE6⟩;have hE06:=hE0d.trans hE6;rw[jQR];refine aQq (fun h6=>?_) (fun h6=>?_)
    ·refine aQX (aQY 291 (by decide) w6) (fun _ _ hf=>hf.elim) ?_;rintro ch _ ⟨rfl,rfl⟩;exact⟨no (fun hh=>by have h7:=hh.2.2.1;rw[han,decide_eq_true_eq] at h7;exact h6 h7.2),rfl,hE06⟩
    refine aQa ((i+1:Nat):Int) (by show((i:Nat):Int)+1=_;omega) (by omega) ?_;have hyes:(eQf 0 (aQi p.f)).any (rQS e.ed)=true:=by
     rw[han,decide_eq_true_eq];exact⟨by show e.to_<=_;omega,Decidable.not_not.1 h6⟩
    exact⟨i+1,rfl,⟨hE06,hin,hiff.trans ⟨fun h=>h.2,fun h=>⟨⟨hov,fun e0=>hz (hr0.2 e0),hyes,hprev⟩,h⟩⟩⟩,by show p.en-(i+1)<p.en-i;omega⟩
   ·have hi0:i=0:=by omega
    have hprev:iQq p i<=e.fr:=by unfold iQq;rw[if_pos hi0];omega
    have hx0:e.fr=(e.fr.toNat:Int):=by omega
    obtain⟨a,s,hm,a1,a2⟩:=rQe (ls:=aQi p.f) (p:=0) (x:=e.fr.toNat) (Nat.zero_le _) (by rw[aQR hB.ok];omega);have hLs:=bQv p.f;have hun:=aQR hB.ok;have hlf:=rQp hLs (by rw[hun];exact hB.f8) hm a1 a2;have hff:=oQb hLs hm;have hoin:=gQM hm;rw[hun] at hlf hff hoin;have han:=tQR (e:=e.ed) hm (by show(a:Int)<=e.fr;omega) (by show e.fr<=a+s.length;omega) (by show e.fr<=e.to_;omega);have hd5:=Ext.drew w4;refine aQm aQb (Ext w4) 10 [(true,0),(true,1),(true,2),(true,3),(true,4),(true,5),(true,6),(false,7),(true,8),(true,9)] (by kernel_rfl) hd5 ?_;refine aQy (v:=.string (aQh p.f)) (fun w' hw'=>((K3.blk.ext hE34).ext hw').cell 3) ?_;refine aQy (v:=.int .i64 e.fr) (fun w' hw'=>((hB3.ext hE34).ext hw').cell 0) ?_;refine aQ1 (v':=.string (aQh (p.f.take e.fr.toNat))) ⟨by omega,by omega,by rw[hfs];omega⟩ (by rw[aQt];rfl) ?_;refine call (iQe (p.f.take e.fr.toNat) w4.drew (by rw[List.length_take];have:=hB.fl;omega)) ?_;rintro _ _ ⟨rfl,rfl⟩;refine⟨hd5,?_⟩;rw[hlf];refine aQa (a:Int) (by omega) (by have:=hB.fl;omega) ?_;have hE4d:=hE34.trans hd5;have hE0d:=hE03.trans hE4d;refine aQe (K3.blk.ext hE4d) rfl ?_;refine aQ1 (v':=.string (aQh (p.f.drop a))) ⟨by omega,by rw[hfs];omega,by rw[hfs];omega⟩ (by
     rw[aQt,hfs];show Value.string (aQh ((p.f.take p.f.length).drop _))=_;rw[List.take_of_length_le (Nat.le_refl _)];rfl) ?_
    refine call (eQD (p.f.drop a) 10 w4.drew (fun x hx=>hB.f8 x (List.mem_of_mem_drop hx)) (by decide)) ?_;rintro _ _ ⟨rfl,rfl⟩;rw[hff.1];refine aQa ((a+s.length:Nat):Int) (by omega) (by have:=hB.fl;omega) ?_;refine aQe (hB3.ext hE4d) rfl ?_;refine aQq (fun h5=>?_) (fun h5=>?_)
    ·refine aQX (aQY 291 (by decide) w4.drew) (fun _ _ hf=>hf.elim) ?_;rintro ch _ ⟨rfl,rfl⟩;exact⟨no (fun hh=>by have h7:=hh.2.2.1;rw[han,decide_eq_true_eq] at h7;have h8:e.to_<=_:=h7.1;omega),rfl,hE0d⟩
    refine aQe (K3.blk.ext hE4d) rfl ?_;refine aQa ((a+s.length+1:Nat):Int) (by omega) (by have:=hB.fl;omega) ?_;refine aQ1 (v':=.string (aQh (s++ [10]))) ⟨by omega,by omega,by rw[hfs];omega⟩ (by
     rw[aQt];show Value.string (aQh ((p.f.take (a+s.length+1)).drop a))=_;rw[List.drop_take,show a+s.length+1-a=s.length+1 by omega,hff.2]) ?_
    have hs8:∀b∈s++ [10],b<256:=fun b hb=>by
     rw[<-hff.2] at hb;exact hB.f8 b (List.mem_of_mem_drop (List.mem_of_mem_take hb))
    refine call (cQU (s++ [10]) w4.drew hs8) ?_;rintro _ w6 ⟨rfl,hE6⟩;have hE06:=hE0d.trans hE6;rw[jQR];refine aQq (fun h6=>?_) (fun h6=>?_)
    ·refine aQX (aQY 291 (by decide) w6) (fun _ _ hf=>hf.elim) ?_;rintro ch _ ⟨rfl,rfl⟩;exact⟨no (fun hh=>by have h7:=hh.2.2.1;rw[han,decide_eq_true_eq] at h7;exact h6 h7.2),rfl,hE06⟩
    refine aQa ((i+1:Nat):Int) (by show((i:Nat):Int)+1=_;omega) (by omega) ?_;have hyes:(eQf 0 (aQi p.f)).any (rQS e.ed)=true:=by
     rw[han,decide_eq_true_eq];exact⟨by show e.to_<=_;omega,Decidable.not_not.1 h6⟩
    exact⟨i+1,rfl,⟨hE06,hin,hiff.trans ⟨fun h=>h.2,fun h=>⟨⟨hov,fun e0=>hz (hr0.2 e0),hyes,hprev⟩,h⟩⟩⟩,by show p.en-(i+1)<p.en-i;omega⟩
 ·have hin:i=p.en:=by omega
  have hdr:p.es.drop i=[]:=List.drop_eq_nil_of_le (by omega);exact⟨hiff.2 (by unfold rQq;rw[hdr];exact⟨rfl,rfl⟩),hE1⟩
def mQ6 (n:Nat)(f:List Nat)(o:BF)(a:Nat)(es:List Ed):List AV:=es.foldl (fun vs e=>vs.flatMap (cQV n f e)) [⟨o,[],a⟩]
theorem rQt (n:Nat)(f:List Nat)(o:BF)(a:Nat)(es:List Ed)(e:Ed):mQ6 n f o a (es++ [e])=(mQ6 n f o a es).flatMap (cQV n f e):=by unfold mQ6;rw[List.foldl_append];rfl
theorem cQL {α:Type}{l:List α}{i:Nat}{x:α}(h:l[i]? =some x):l.take (i+1)=l.take i++ [x]:=by rw[List.take_add_one,h];rfl
theorem kQp {n:Nat}{f:List Nat}{o:BF}{a:Nat}(hne:aQW n o≠ []):∀(es:List Ed),VI n f (aQW n o) a es (mQ6 n f o a es):=by
 have key:∀(es pre:List Ed) (vs:List AV),VI n f (aQW n o) a pre vs->VI n f (aQW n o) a (pre++es) (es.foldl (fun vs e=>vs.flatMap (cQV n f e)) vs):=by
  intro es;induction es with
  | nil=>intro pre vs h;simpa using h
  | cons e es ih=>
   intro pre vs h;have:=ih (pre++ [e]) (vs.flatMap (cQV n f e)) (h.step (fun c hc=>(aQH.1 hc).1) e);simpa using this
 intro es;have:=key es [] _ (VI.start (f:=f) (a:=a) hne);rw[List.nil_append] at this;exact this
theorem rQu (n:Nat)(f:List Nat)(e:Ed)(v:AV):(cQV n f e v).length<=2:=by
 unfold cQV;split
 ·split<;>simp
 ·simp only[List.length_cons];split<;>simp
theorem kQq (n:Nat)(f:List Nat)(e:Ed):∀vs:List AV,(vs.flatMap (cQV n f e)).length<=2*vs.length
 | []=>by simp
 | v::vs=>by
  rw[List.flatMap_cons,List.length_append,List.length_cons];have:=rQu n f e v;have:=kQq n f e vs;omega
theorem sQX (n:Nat)(f:List Nat)(o:BF)(a:Nat):∀(es:List Ed),(mQ6 n f o a es).length<=2^es.length:=by
 have key:∀(es:List Ed) (vs:List AV),(es.foldl (fun vs e=>vs.flatMap (cQV n f e)) vs).length<=2^es.length*vs.length:=by
  intro es;induction es with
  | nil=>intro vs;simp
  | cons e es ih=>
   intro vs;have h1:=ih (vs.flatMap (cQV n f e));have h2:=kQq n f e vs;have h3:=Nat.mul_le_mul_left (2^es.length) h2;rw[List.foldl_cons,List.length_cons,Nat.pow_succ,Nat.mul_assoc];omega
 intro es;have:=key es [⟨o,[],a⟩];simpa [mQ6] using this
structure VB (B T:Nat) (v:AV):Prop where
 b8:∀b∈v.d,b<256
 ln:v.d.length<=B
 at_:v.a<=T
theorem fQl (f:List Nat)(a b:Nat):(eQW f a b).length<=f.length:=by unfold eQW;rw[List.length_take,List.length_drop];omega
theorem gQx {f:List Nat}(h:∀b∈f,b<256)(x y:Nat):∀b∈eQW f x y,b<256:=fun b hb=>h b (List.mem_of_mem_drop (List.mem_of_mem_take hb))
theorem VB.step {B T:Nat}{v:AV}(h:VB B T v){n:Nat}{f:List Nat}{e:Ed}(hf:∀b∈f,b<256)(hfl:f.length<=60000)(ht:∀b∈e.tx,b<256)(htl:e.tx.length<=1000)(he:e.to_.toNat<=T):∀u∈cQV n f e v,VB (B+70000) T u:=fun u hu=>by
 unfold cQV at hu;split at hu
 ·split at hu
  ·cases hu
  ·rw[List.mem_singleton.1 hu];exact⟨h.b8,by have:=h.ln;omega,h.at_⟩
 ·rcases List.mem_cons.1 hu with rfl | hu
  ·refine⟨fun b hb=>?_,?_,he⟩
   ·simp only[List.mem_append] at hb;rcases hb with(hb | hb) | hb
    ·exact h.b8 b hb
    ·exact gQx hf _ _ b hb
    ·exact ht b hb
   ·simp only[List.length_append];have:=h.ln;have:=fQl f v.a e.fr.toNat;omega
  ·split at hu
   ·cases hu
   ·rw[List.mem_singleton.1 hu];exact⟨h.b8,by have:=h.ln;simp only;omega,h.at_⟩
theorem wQZ {n:Nat}{f:List Nat}{o:BF}{a T:Nat}(hf:∀b∈f,b<256)(hfl:f.length<=60000)(haT:a<=T):∀(es:List Ed),(∀e∈es,(∀b∈e.tx,b<256)/\e.tx.length<=1000/\e.to_.toNat<=T)->∀v∈mQ6 n f o a es,VB (es.length*70000) T v:=by
 have key:∀(es:List Ed) (vs:List AV) (B:Nat),(∀e∈es,(∀b∈e.tx,b<256)/\e.tx.length<=1000/\e.to_.toNat<=T)->(∀v∈vs,VB B T v)->∀v∈es.foldl (fun vs e=>vs.flatMap (cQV n f e)) vs,VB (B+es.length*70000) T v:=by
  intro es;induction es with
  | nil=>intro vs B _ h v hv;simpa using h v hv
  | cons e es ih=>
   intro vs B he h v hv;obtain⟨e1,e2,e3⟩:=he e (by simp);have:=ih (vs.flatMap (cQV n f e)) (B+70000) (fun b hb=>he b (by simp[hb])) (fun u hu=>by
    obtain⟨v0,hv0,hu⟩:=List.mem_flatMap.1 hu;exact(h v0 hv0).step hf hfl e1 e2 e3 u hu) v hv
   rw[List.length_cons,Nat.add_mul,Nat.one_mul];rw[show B+(es.length*70000+70000)=B+70000+es.length*70000 by omega];exact this
 intro es he v hv;have:=key es [⟨o,[],a⟩] 0 he (fun v hv=>by rw[List.mem_singleton.1 hv];exact⟨(fun b hb=>by cases hb),Nat.zero_le _,haT⟩) v hv
 rwa [Nat.zero_add] at this
theorem wQ0 {n:Nat}{f:List Nat}{o:BF}{a i:Nat}{es:List Ed}{e:Ed}(hne:aQW n o≠ [])(ha:dQU (aQW n o) es=true)(hi:es[i]? =some e)(h0:(a:Int)<=e.fr)(hp:∀b∈es,0<=b.to_){v:AV}(hv:v∈mQ6 n f o a (es.take i))(hb:aQW n (dQd v.o e.o)≠ []):(v.a:Int)<=e.fr:=by
 obtain⟨c,hc⟩:=List.exists_mem_of_ne_nil _ hb;obtain⟨c1,c2⟩:=aQH.1 hc;have c2:(v.o (bits c)&&e.o (bits c))=true:=c2;rw[Bool.and_eq_true] at c2;obtain⟨q1,q2⟩:=(kQp (f:=f) (a:=a) hne (es.take i)).st v hv c (aQH.2 ⟨c1,c2.1⟩);have:=vQt (f:=f) ha (a:=a) hi q1 c2.2 h0 hp;rw[q2] at this;exact this
theorem vQw {n:Nat}{f:List Nat}{o:BF}{a stop:Nat}{es:List Ed}(hne:aQW n o≠ []):((aQW n o).all (fun c=>bQE (lQ0 f stop a es c))=true)↔∀v∈mQ6 n f o a es,bQE (v.d++eQW f v.a stop)=true:=by
 have hI:=kQp (f:=f) (a:=a) hne es;constructor
 ·intro h v hv;obtain⟨c,hc⟩:=List.exists_mem_of_ne_nil _ (hI.ne v hv);obtain⟨q1,q2⟩:=hI.st v hv c hc;have:=List.all_eq_true.1 h c q1;unfold lQ0 at this;rw[q2] at this;exact this
 ·intro h;refine List.all_eq_true.2 (fun c hc=>?_);obtain⟨v,hv,hvc⟩:=hI.cov c hc;obtain⟨_,q2⟩:=hI.st v hv c (aQH.2 ⟨(aQH.1 hc).1,hvc⟩);unfold lQ0;rw[q2];exact h v hv
def sQY (f:List Nat)(stop:Nat)(vs:List AV):List Pr:=vs.foldl (fun ps v=>mQ4 ps v.o (v.d++eQW f v.a stop)) []
theorem rQv (f:List Nat)(stop:Nat)(vs:List AV)(v:AV):sQY f stop (vs++ [v])=mQ4 (sQY f stop vs) v.o (v.d++eQW f v.a stop):=by unfold sQY;rw[List.foldl_append];rfl
theorem vQx {n:Nat}{f:List Nat}{o:BF}{a stop:Nat}{es:List Ed}(hne:aQW n o≠ []):QI n (aQW n o) (lQ0 f stop a es) (mQ6 n f o a es) (sQY f stop (mQ6 n f o a es)):=by
 have hI:=kQp (f:=f) (a:=a) hne es;generalize mQ6 n f o a es=V at*;have key:∀(vs pre:List AV) (ps:List Pr),(∀v∈vs,v∈V)->QI n (aQW n o) (lQ0 f stop a es) pre ps->QI n (aQW n o) (lQ0 f stop a es) (pre++vs) (vs.foldl (fun ps v=>mQ4 ps v.o (v.d++eQW f v.a stop)) ps):=by
  intro vs;induction vs with
  | nil=>intro pre ps _ h;simpa using h
  | cons v vs ih=>
   intro pre ps hV h;have:=ih (pre++ [v]) _ (fun u hu=>hV u (by simp[hu])) (h.ins (v:=v) (t:=v.d++eQW f v.a stop) (fun c hc=>by
    obtain⟨q1,q2⟩:=hI.st v (hV v (by simp)) c hc;refine⟨q1,?_⟩;unfold lQ0;rw[q2]))
   simpa using this
 have:=key V [] [] (fun v hv=>hv) QI.nil;rw[List.nil_append] at this;exact this
theorem rQw {f:List Nat}{stop:Nat}{P:List Nat->Prop}:∀(vs:List AV),(∀v∈vs,P (v.d++eQW f v.a stop))->∀q∈sQY f stop vs,P q.t:=by
 have key:∀(vs:List AV) (ps:List Pr),(∀v∈vs,P (v.d++eQW f v.a stop))->(∀q∈ps,P q.t)->∀q∈vs.foldl (fun ps v=>mQ4 ps v.o (v.d++eQW f v.a stop)) ps,P q.t:=by
  intro vs;induction vs with
  | nil=>intro ps _ h;exact h
  | cons v vs ih=>
   intro ps hv h;refine ih _ (fun u hu=>hv u (by simp[hu])) (fun q hq=>?_);have hq:q∈mQ4 ps v.o (v.d++eQW f v.a stop):=hq;unfold mQ4 at hq;split at hq
   ·rename_i p hp;rcases List.mem_or_eq_of_mem_set hq with hq | rfl
    ·exact h q hq
    ·exact h p (List.mem_of_getElem? hp)
   ·rcases List.mem_append.1 hq with hq | hq
    ·exact h q hq
    ·rw[List.mem_singleton.1 hq];exact hv v (by simp)
 intro vs hv;exact key vs [] hv (fun q hq=>by cases hq)
theorem lQQ {α:Type}{f:α->List Value}{sz:Nat}(hf:∀x,(f x).length=sz):∀(l:Nat)(L:List α),(L.drop l).flatMap f=(L.flatMap f).drop (l*sz)
 | 0,L=>by simp
 | l+1,[]=>by simp
 | l+1,x::L=>by
  rw[List.drop_succ_cons,lQQ hf l L,List.flatMap_cons,Nat.add_mul,Nat.one_mul,Nat.add_comm,<-List.drop_drop];congr 1;rw[<-hf x,List.drop_left]
theorem SlS.from {α:Type}{f:α->List Value}{sz:Nat}(hf:∀x,(f x).length=sz){w:World}{A:Option Addr}{n c l:Nat}{L:List α}(h:SlS f sz w A n c L)(hl:l<=n):SlS f sz w (if c=l then A else A.map (·.add (l*sz))) (n-l) (c-l) (L.drop l):=by
 have h1:=h.1.len;have h2:=h.1.le;have h3:=h.1.cap;refine⟨?_,by rw[List.length_drop,h.2]⟩;rw[lQQ hf];refine⟨by rw[List.length_drop,h1,<-Nat.sub_mul],by omega,by omega,fun h0=>?_⟩;obtain⟨ad,rfl,hc⟩:=h.1.at_ (by omega);refine⟨ad.add (l*sz),by rw[if_neg (by omega)];rfl,fun j u hu=>?_⟩;rw[Addr.add_add];exact hc _ _ (by rw[List.getElem?_drop] at hu;exact hu)
theorem oQc {n:Nat}(hn:n<=12){x y:DV}{o o':BF}(s:Set1 n x.nd x.r o)(s':Set1 n y.nd y.r o'):uQV x.nd x.r y.nd y.r= !(kQz (aQW n o') o):=by
 cases hm:kQz (aQW n o') o with
 | true=>
  obtain⟨c,hc,hoc⟩:=List.any_eq_true.1 hm;refine qQC (fun h=>h.2.2 ⟨bits c,by rw[s.mean];exact hoc,by rw[s'.mean];exact(aQH.1 hc).2⟩)
 | false=>
  refine tQC ⟨s.chk hn,s'.chk hn,fun⟨e,h1,h2⟩=>?_⟩;rw[s.mean] at h1;rw[s'.mean] at h2;obtain⟨c,hc,hb⟩:=kQb n e;have:kQz (aQW n o') o=true:=List.any_eq_true.2 ⟨c,aQH.2 ⟨hc,by rw[s'.dep _ e hb];exact h2⟩,by rw[s.dep _ e hb];exact h1⟩;rw[hm] at this;cases this
theorem vQy {k:Nat}(hk:k<=12)(x y:DV){o o':BF}(w:World)(h:SB w x.A x.n x.c x.nd)(h':SB w y.A y.n y.c y.nd)(s:Set1 k x.nd x.r o)(s':Set1 k y.nd y.r o'):
  Fn Tryz.prog 101 [dgV x.A x.n x.c x.r,dgV y.A y.n y.c y.r] w (wQl w k (fun e=>o e||o' e)):=by
 refine(tQu x.A x.n x.c x.nd x.r y.A y.n y.c y.nd y.r w h h').mono ?_;rw[eQB hk s s' 1];have c1:Set1 k _ _ (fun e=>o e||o' e):=(bQ4 s s' 1).congr (fun e=>by simp[opB]);generalize cQO x.nd x.r y.nd y.r 1=D at*;obtain⟨D1,D2⟩:=D;rintro v w' ⟨PA,q,pc,rfl,hE,hP,hR⟩;exact⟨PA,q,pc,D1,D2,rfl,hE,hP,c1,hR⟩
theorem rQx (q:DV×List Nat)(t:List Nat)(tb:Nat)(w:World)(hq:∀b∈q.2,b<256)(ht:∀b∈t,b<256)(hB:Blk w tb 9 [.string (aQh t)]):
  Fn Tryz.prog 99 [.agg (bQR q).toArray,.pointer (some ⟨tb,0,none⟩)] w (fun u w'=>u= .bool (decide (q.2=t))/\Ext w w'):=by
 refine aQf (c:={c99 with cuts:=[]}) aQb Tryz.func99 rfl rfl rfl ?_;refine new (fun w1 hE1 hz1 hB1=>?_);refine aQe hB1 rfl ?_;refine aQg (hB.ext hE1) rfl ?_;refine⟨?_,hE1⟩;refine congrArg Value.bool ?_;refine decide_eq_decide.2 ⟨fun e=>aQD hq ht e,fun e=>by rw[e]⟩
theorem oQ7 (PA:Option Addr)(pn pc:Nat)(ps:List (DV×List Nat))(t:List Nat)(tb:Nat)(w:World)(h:SlS bQR 3 w PA pn pc ps)(hp:∀q∈ps,∀b∈q.2,b<256)(ht:∀b∈t,b<256)(hB:Blk w tb 9 [.string (aQh t)]):
  Fn Tryz.prog 98 [.slice PA pn pc,.func (.func 99) #[] #[.pointer (some ⟨tb,0,none⟩)]] w (fun u w'=>u= .int .i64 (if ixQ (prs ps) t<pn then(ixQ (prs ps) t:Int)else -1)/\Ext w w'):=by
 have hn:=h.2;have hle:=h.1.le;have hcap:=h.1.cap;have hpl:(prs ps).length=ps.length:=by simp[prs]
 obtain⟨s1,s2⟩:=fQV t (prs ps);refine aQf (c:={c98 with cuts:=[]}) aQb Tryz.func98 rfl rfl rfl ?_;refine loop aQb [8] (fun i:Nat=>[.int .i64 i]) (fun i w'=>Ext w w'/\i<=pn/\∀q∈ps.take i,q.2≠t) (fun i _=>pn-i) 0 rfl ⟨Ext.refl _,Nat.zero_le _,fun q hq=>by simp at hq⟩ ?_;rintro i w1 ⟨hE1,hi,hno⟩;have hge:i<=ixQ (prs ps) t:=by
  apply Classical.byContradiction;intro hh;have hlt:ixQ (prs ps) t<ps.length:=by omega
  obtain⟨q,hq⟩:∃q,ps[ixQ (prs ps) t]? =some q:=⟨_,List.getElem?_eq_getElem hlt⟩
  have:=s1 ⟨oD q.1,q.2⟩ (by unfold prs;rw[List.getElem?_map];show Option.map _ (ps[ixQ (prs ps) t]?)=_;rw[hq];rfl);exact hno q (List.mem_of_getElem? (i:=ixQ (prs ps) t) (by rw[List.getElem?_take_of_lt (by omega)];exact hq)) this
 refine aQq (fun c1=>?_) (fun c1=>?_)
 ·have hin:i<pn:=by omega
  refine aQp kQh (h.ext hE1) rfl hin (fun ad q hq hc=>?_);have hqm:=List.mem_of_getElem? hq;refine aQK (vs:=bQR q) rfl hc ?_;refine call (rQx q t tb w1 (hp q hqm) ht (hB.ext hE1)) ?_;rintro _ w2 ⟨rfl,hE2⟩;have hpq:(prs ps)[i]? =some ⟨oD q.1,q.2⟩:=by unfold prs;rw[List.getElem?_map,hq];rfl
  refine aQq (fun d1=>?_) (fun d1=>?_)
  ·have hix:ixQ (prs ps) t=i:=by
    apply Classical.byContradiction;intro hh;exact s2 i _ hpq (by omega) d1
   rw[hix,if_pos hin];exact⟨rfl,hE1.trans hE2⟩
  ·simp only[maxLen] at hcap;refine aQa ((i+1:Nat):Int) (by show((i:Nat):Int)+1=_;omega) (by omega) ?_;refine⟨i+1,rfl,⟨hE1.trans hE2,hin,fun q' hq'=>?_⟩,by show pn-(i+1)<pn-i;omega⟩;rw[List.take_add_one,hq] at hq';rcases List.mem_append.1 hq' with hq' | hq'
   ·exact hno q' hq'
   ·have:q'=q:=by simpa using hq'
    rw[this];exact d1
 ·have hin:i=pn:=by omega
  rw[if_neg (by omega)];exact⟨rfl,hE1⟩
theorem lQR {j:Nat}{vs l:List Value}{c:Value}(h:l[j+vs.length]? =some c):fQZ j vs l=fQZ j (vs++ [c]) l:=by
 have hlt:=(List.getElem?_eq_some_iff.1 h).1;rw[bQ9 j vs l (by omega),bQ9 j (vs++ [c]) l (by simp;omega)];rw[List.append_assoc,List.append_assoc,List.append_assoc];congr 2;rw[List.drop_eq_getElem_cons hlt,List.length_append,List.length_singleton];have:l[j+vs.length]=c:=by rw[List.getElem?_eq_getElem hlt] at h;exact Option.some.inj h
 rw[this]<;>rfl
theorem sQZ (f:List Nat)(stop:Nat):∀vs:List AV,(sQY f stop vs).length<=vs.length:=by
 have key:∀(vs:List AV) (ps:List Pr),(vs.foldl (fun ps v=>mQ4 ps v.o (v.d++eQW f v.a stop)) ps).length<=ps.length+vs.length:=by
  intro vs;induction vs with
  | nil=>intro ps;simp
  | cons v vs ih=>
   intro ps;have h1:=ih (mQ4 ps v.o (v.d++eQW f v.a stop));have h2:(mQ4 ps v.o (v.d++eQW f v.a stop)).length<=ps.length+1:=by
    unfold mQ4;split
    ·rw[List.length_set];omega
    ·simp
   rw[List.foldl_cons,List.length_cons];omega
 intro vs;have:=key vs [];simpa [sQY] using this
theorem oQd {n:Nat}{qs:List (DV×Pr)}(h:∀q∈qs,Set1 n q.1.nd q.1.r q.2.o):prs (qs.map (fun q=>(q.1,q.2.t)))=qs.map (·.2):=by
 unfold prs;rw[List.map_map];refine List.map_congr_left (fun q hq=>?_);have:oD q.1=q.2.o:=funext (fun e=>(h q hq).mean e);show(⟨oD q.1,q.2.t⟩:Pr)=q.2;rw[this]
theorem kQr {ad:Addr}{n j sz:Nat}{K:Addr->Prop}(h:j<n)(k:K (ad.add (j*sz))):dQz (some ad) n (j:Int) sz K:=by
 unfold dQz;exact⟨ad,rfl,by omega,by omega,by simpa using k⟩
def vvC (v:DV×AV):List Value:=[.slice v.1.A v.1.n v.1.c,.int .i64 v.1.r,.string (aQh v.2.d),.int .i64 v.2.a]
theorem tQV (v:DV×AV):(vvC v).length=4:=rfl
def pqC (q:DV×Pr):List Value:=bQR (q.1,q.2.t)
theorem gQN (q:DV×Pr):(pqC q).length=3:=rfl
theorem oQe (l:List (DV×Pr)):l.flatMap pqC=(l.map (fun q=>(q.1,q.2.t))).flatMap bQR:=by rw[List.flatMap_map];rfl
theorem xQL (e:EdV):∀u∈edC e,aQ8 u=true:=sc rfl
theorem vQz (v:DV×AV):∀u∈vvC v,aQ8 u=true:=sc rfl
theorem vQA (v:DV×List Nat):∀u∈bQR v,aQ8 u=true:=sc rfl
theorem wQ1 {p:EP}(hV:vQQ p):∀e∈p.es,ovD p.nm.length e.x.nd e.x.r=true/\(eQf 0 (aQi p.f)).any (rQS e.ed)=true:=by
 obtain⟨h1,h2⟩:=hV;have key:∀(es:List Ed) (q:Int),kQn p.nm.length p.f q es=true->∀e∈es,(eQf 0 (aQi p.f)).any (rQS e)=true:=by
  intro es;induction es with
  | nil=>intro q _ e he;cases he
  | cons b es ih=>
   intro q h e he;rw[kQn,Bool.and_eq_true,Bool.and_eq_true,xQK,Bool.and_eq_true] at h;rcases List.mem_cons.1 he with rfl | he
   ·exact h.1.1.2
   ·exact ih _ h.2 e he
 exact fun e he=>⟨List.all_eq_true.1 h1 e he,key _ 0 h2 e.ed (List.mem_map.2 ⟨e,he,rfl⟩)⟩
theorem sQ0 (es:List EdV)(S:List Nat)(a:Nat)(s:List Nat):iQb (es.map EdV.ed) S a s=(es.filter (fun e=>vQr a s e.ed&&kQz S e.ed.o)).map EdV.ed:=by
 unfold iQb;rw[List.filter_map];rfl
theorem oQ8 {α:Type}{l:List α}{i:Nat}{x:α}(h:l[i]? =some x):l.drop i=x::l.drop (i+1):=by
 have hlt:=(List.getElem?_eq_some_iff.1 h).1;rw[List.drop_eq_getElem_cons hlt];congr 1;rw[List.getElem?_eq_getElem hlt] at h;exact Option.some.inj h
set_option maxHeartbeats 6400000 in
theorem sQ1 (p:EP)(hB:EB p)(hV:vQQ p)(a:Nat)(s:List Nat)(hm:(a,s)∈eQf 0 (aQi p.f))(d:DV)(o:BF)(w:World)(K:EK w p)(hd:SB w d.A d.n d.c d.nd)(sd:Set1 p.nm.length d.nd d.r o):
  FnP Tryz.prog 48 [.pointer (some ⟨p.eb,0,none⟩),.string (aQh (s++ [10])),.int .i64 a,dgV d.A d.n d.c d.r] w
   (fun u w'=>∃L,edL p.nm p.f (p.es.map EdV.ed) (aQW p.nm.length o) a s=some L/\iQW w u (L.map (·++ [10])) w')
   (fun ch w'=>edL p.nm p.f (p.es.map EdV.ed) (aQW p.nm.length o) a s=none/\ch=eQ5 291/\Ext w w'):=by
 have hLs:=bQv p.f;have hun:=aQR hB.ok;have hoin:=gQM hm;rw[hun] at hoin;have hfl:=hB.fl;have hk:p.nm.length<=12:=by have:=hB.n4;omega
 have hel:=K.eds.2;have hel10:=hB.el;have hecap:=K.eds.1.cap;have hele:=K.eds.1.le;simp only[maxLen] at hecap;have hssz:(aQh (s++ [10])).size=s.length+1:=by rw[aQj];simp
 have hfs:=aQj p.f;have hval:=wQ1 hV;generalize hSg:aQW p.nm.length o=S at*;have hed:∀e∈p.es,0<=e.fr/\e.fr<=e.to_/\e.to_<p.f.length:=fun e he=>by
  have:=tQU (hval e he).2;rw[hun] at this;exact this
 refine aQT (c:={c48 with cuts:=[]}) aQb Tryz.func48 rfl rfl rfl ?_;refine new (fun w1 hE1 hz1 hB1=>?_);have K1:=K.ext hE1;refine aQe K1.blk rfl ?_;refine loop aQb [33,9] (fun t:Nat×List EdV×Option Addr×Nat=>[.int .i64 t.1,.slice t.2.2.1 t.2.1.length t.2.2.2]) (fun t w'=>Ext w1 w'/\t.1<=p.en/\t.2.1=(p.es.take t.1).filter (fun e=>vQr a s e.ed&&kQz S e.ed.o)/\Own w' w1.heap.size 58 5 t.2.2.1 t.2.1.length t.2.2.2 (t.2.1.flatMap edC)) (fun t _=>p.en-t.1) (0,[],none,0) rfl ⟨Ext.refl _,Nat.zero_le _,by simp,Own.nil _ _ _ _⟩ ?_;rintro⟨i,m,MA,mc⟩ w2 ⟨hE2,hi,hmd,hO⟩;simp only at hi hmd hO;have hE02:=hE1.trans hE2;have hml:m.length<=i:=by rw[hmd];exact Nat.le_trans (List.length_filter_le _ _) (by rw[List.length_take];omega)
 refine aQq (fun c1=>?_) (fun c1=>?_)
 ·have hin:i<p.en:=by simp only at c1;omega
  refine aQp iQd (K.ext hE02).eds rfl hin (fun ad e he hc=>?_);have hem:=List.mem_of_getElem? he;obtain⟨e1,e2,e3⟩:=hed e hem;have se:=eQH (hval e hem).1;refine aQK (vs:=edC e) rfl hc ?_;refine new (fun w3 hE3 hz3 hB3=>?_);refine aQc hB3 rfl (sc rfl) (fun w4 hg4 _ hB4=>?_);have hE24:Ext w2 w4:=aQJ hE3 hB3 hg4;refine aQg hB4 rfl ?_;refine aQq (fun d1=>?_) (fun d1=>?_)
  ·refine aQe hB4 rfl ?_;refine aQa ((a+s.length+1:Nat):Int) (by rw[hssz];omega) (by omega) ?_;refine aQq (fun d2=>?_) (fun d2=>?_)
   ·refine bQM (vs:=[.slice e.x.A e.x.n e.x.c,.int .i64 e.x.r]) hB4 rfl (fun j u hj=>by match j,hj with | 0,hj=>exact hj | 1,hj=>exact hj) ?_;refine aQd (hB1.ext (hE2.trans hE24)) rfl ?_;refine call (hQT e.x.A e.x.n e.x.c e.x.nd e.x.r d.A d.n d.c d.nd d.r w4 ((K.sbs e hem).ext (hE02.trans hE24)) (hd.ext (hE02.trans hE24))) ?_;rintro _ w5 ⟨rfl,hE5⟩;have hE25:=hE24.trans hE5;rw[oQc hk se sd,hSg];have hil:vQr a s e.ed=true:=decide_eq_true ⟨by show(a:Int)<=e.fr;omega,by show e.to_<=a+s.length;omega⟩;cases hmt:kQz S (oD e.x)with
    | false=>
     refine aQN rfl ?_;refine aQa ((i+1:Nat):Int) (by show((i:Nat):Int)+1=_;omega) (by omega) ?_;refine⟨(i+1,m,MA,mc),rfl,⟨hE2.trans hE25,hin,?_,hO.ext hE25⟩,by show p.en-(i+1)<p.en-i;omega⟩;simp only;rw[cQL he,List.filter_append,<-hmd,List.filter_cons,if_neg (by show¬(vQr a s e.ed&&kQz S (oD e.x))=true;rw[hmt,Bool.and_false];decide),List.filter_nil,List.append_nil]
    | true=>
     refine aQM rfl ?_;refine aQd (hB4.ext hE5) rfl ?_;refine aQl aQb [edC e] rfl rfl rfl rfl rfl ⟨rfl,rfl,⟨⟩⟩ rfl (fun cs h=>by simp only[List.mem_singleton] at h;subst h;rfl) rfl (by decide) (by decide) ?_;intro w6 hE6 hz6 hB6;have hE26:=hE25.trans hE6;have hs6:Sl w6 5 (some ⟨w5.heap.size,0,none⟩) 1 1 (edC e):=Sl.own (sz:=5) (n:=1) hB6 (Nat.le_refl _) (by decide) (by simp[edC]);refine bQf (n:=m.length) aQb rfl rfl rfl rfl rfl (by decide) rfl rfl ⟨_,rfl⟩ rfl rfl (hO.ext hE26) hs6 (xQL e) (by unfold maxLen;omega) (by show(m.length+1)*64<=_;omega) (by have:=hE2.size;have:=hE26.size;omega) ?_;intro A' c' w7 hm7 hown7 hmv7;refine aQa ((i+1:Nat):Int) (by show((i:Nat):Int)+1=_;omega) (by omega) ?_;refine⟨(i+1,m++ [e],A',c'),by simp only[List.length_append];rfl,⟨hm7.ext (hE2.trans hE26) (fun k hk=>(hO.rows k hk).1),hin,?_,?_⟩,by show p.en-(i+1)<p.en-i;omega⟩
     ·simp only;rw[cQL he,List.filter_append,<-hmd,List.filter_cons,if_pos (by show(vQr a s e.ed&&kQz S (oD e.x))=true;rw[hmt,hil];rfl),List.filter_nil]
     ·simp only;rw[List.length_append,List.flatMap_append];simpa using hown7
   ·refine aQa ((i+1:Nat):Int) (by show((i:Nat):Int)+1=_;omega) (by omega) ?_;refine⟨(i+1,m,MA,mc),rfl,⟨hE2.trans hE24,hin,?_,hO.ext hE24⟩,by show p.en-(i+1)<p.en-i;omega⟩;simp only;rw[cQL he,List.filter_append,<-hmd,List.filter_cons,if_neg (by intro hh;rw[Bool.and_eq_true] at hh;have h3:(a:Int)<=e.fr/\e.to_<=a+s.length:=of_decide_eq_true hh.1;omega),List.filter_nil,List.append_nil]
  ·refine aQa ((i+1:Nat):Int) (by show((i:Nat):Int)+1=_;omega) (by omega) ?_;refine⟨(i+1,m,MA,mc),rfl,⟨hE2.trans hE24,hin,?_,hO.ext hE24⟩,by show p.en-(i+1)<p.en-i;omega⟩;simp only;rw[cQL he,List.filter_append,<-hmd,List.filter_cons,if_neg (by intro hh;rw[Bool.and_eq_true] at hh;have h3:(a:Int)<=e.fr/\e.to_<=a+s.length:=of_decide_eq_true hh.1;omega),List.filter_nil,List.append_nil]
 have hin:i=p.en:=by simp only at c1;omega
 have hmd:m=p.es.filter (fun e=>vQr a s e.ed&&kQz S e.ed.o):=by rw[hmd,List.take_of_length_le (by omega)]
 have hmine:=sQ0 p.es S a s;rw[<-hmd] at hmine;have hme:∀e∈m,e∈p.es/\(a:Int)<=e.fr/\e.to_<=a+s.length/\kQz S (oD e.x)=true:=fun e he=>by
  rw[hmd] at he;obtain⟨h1,h2⟩:=List.mem_filter.1 he;rw[Bool.and_eq_true] at h2;have h3:(a:Int)<=e.fr/\e.to_<=a+s.length:=of_decide_eq_true h2.1;exact⟨h1,h3.1,h3.2,h2.2⟩
 have hm10:m.length<=10:=by omega
 have hM:SlS edC 5 w2 MA m.length mc m:=⟨hO.sl,rfl⟩
 clear hmd hi c1;have hedL:edL p.nm p.f (p.es.map EdV.ed) S a s=if m.map EdV.ed=[] then some [s] else if dQU S (m.map EdV.ed)=false then none else if S.all (fun c=>bQE (lQ0 p.f (a+s.length+1) a (m.map EdV.ed) c))=false then none else some (cQf p.nm (lQ0 p.f (a+s.length+1) a (m.map EdV.ed)) p.nm.length 0 S):=by
  unfold edL;rw[hmine]
 generalize edL p.nm p.f (p.es.map EdV.ed) S a s=RES at*;refine aQP (fun h0=>?_) (fun h0=>?_)
 ·have hm0:m=[]:=List.eq_nil_of_length_eq_zero (by simp only at h0;omega);refine aQl aQb [[Value.string (aQh (s++ [10]))]] rfl rfl rfl rfl rfl ⟨rfl,rfl,⟨⟩⟩ rfl (fun cs hh=>by simp only[List.mem_singleton] at hh;subst hh;rfl) rfl (by decide) (by decide) ?_;intro w3 hE3 hz3 hB3;refine⟨[s],by rw[hedL,hm0];rfl,_,_,rfl,hE02.trans hE3,Sl.own' (n:=1) hB3 rfl (by decide),fun _=>⟨_,_,rfl⟩⟩
 have hm1:m≠ []:=fun e=>h0 (by rw[e];rfl)
 have hm1':m.map EdV.ed≠ []:=fun e=>hm1 (List.map_eq_nil_iff.1 e)
 rw[if_neg hm1'] at hedL;have hSne:S≠ []:=by
  obtain⟨e,he⟩:=List.exists_mem_of_ne_nil _ hm1;intro e0;have:=(hme e he).2.2.2;rw[e0] at this;cases this
 refine loop aQb [69] (fun i:Nat=>[.int .i64 i]) (fun i w'=>Ext w2 w'/\i<=m.length/\dQU S (m.map EdV.ed)=dQU S ((m.drop i).map EdV.ed)) (fun i _=>m.length-i) 0 rfl ⟨Ext.refl _,Nat.zero_le _,rfl⟩ ?_;rintro i w3 ⟨hE3,hi,hap⟩;have hE03:=hE02.trans hE3;refine aQq (fun c1=>?_) (fun c1=>?_)
 ·have hin:i<m.length:=by simp only at c1;omega
  refine aQp iQd (hM.ext hE3) rfl hin (fun ad e he hc=>?_);have hem:=List.mem_of_getElem? he;obtain⟨e1,e2,e3,e4⟩:=hme e hem;have se:=eQH (hval e e1).1;rw[oQ8 he,List.map_cons,dQU] at hap;refine aQK (vs:=edC e) rfl hc ?_;refine new (fun w4 hE4 hz4 hB4=>?_);refine aQc hB4 rfl (sc rfl) (fun w5 hg5 _ hB5=>?_);have hE35:Ext w3 w5:=aQJ hE4 hB4 hg5;have hE25:=hE3.trans hE35;refine aQa ((i+1:Nat):Int) (by show((i:Nat):Int)+1=_;omega) (by omega) ?_;refine iQx aQb rfl rfl rfl rfl rfl rfl (by omega) ?_;have hFr:=(hM.ext hE25).from iQd (l:=i+1) (by omega)
  have hmc:=hM.1.le;refine loop aQb [79] (fun j:Nat=>[.int .i64 j]) (fun j w'=>Ext w5 w'/\j<=m.length-(i+1)/\((m.drop (i+1)).take j).all (fun b=>eQ4 S e.ed b.ed)=true) (fun j _=>m.length-(i+1)-j) 0 rfl ⟨Ext.refl _,Nat.zero_le _,by simp⟩ ?_;rintro j w6 ⟨hE6,hj,hall⟩;refine aQq (fun c2=>?_) (fun c2=>?_)
  ·have hjn:j<m.length-(i+1):=by simp only at c2;omega
   refine aQp iQd (hFr.ext hE6) rfl hjn (fun ad2 b hb hc2=>?_);have hbm:b∈m:=List.mem_of_mem_drop (List.mem_of_getElem? hb);obtain⟨b1,b2,b3,b4⟩:=hme b hbm;have sb:=eQH (hval b b1).1;refine aQK (vs:=edC b) rfl hc2 ?_;refine new (fun w7 hE7 hz7 hB7=>?_);refine aQc hB7 rfl (sc rfl) (fun w8 hg8 _ hB8=>?_);have hE68:Ext w6 w8:=aQJ hE7 hB7 hg8;have hE58:=hE6.trans hE68;have hE08:=hE03.trans (hE35.trans hE58);have hB58:=hB5.ext hE58;have hd8:=Ext.drew w8;have next:∀w',Ext w8 w'->eQ4 S e.ed b.ed=true->Ext w5 w'/\j+1<=m.length-(i+1)/\((m.drop (i+1)).take (j+1)).all (fun b=>eQ4 S e.ed b.ed)=true:=fun w' hE' h2=>by
    refine⟨hE58.trans hE',by omega,?_⟩;rw[cQL hb,List.all_append,hall];simp only[List.all_cons,List.all_nil,Bool.and_true,Bool.true_and];exact h2
   refine aQm aQb (Ext w8) 15 [(true,0),(true,1),(true,2),(true,3),(true,4),(true,5),(true,6),(true,7),(true,8),(true,9),(true,11),(false,10),(false,12),(true,13),(true,14)] (by kernel_rfl) hd8 ?_;refine aQy (v:=.int .i64 e.to_) (fun w' hw'=>(hB58.ext hw').cell 1) ?_;refine aQy (v:=.int .i64 b.fr) (fun w' hw'=>(hB8.ext hw').cell 0) ?_;refine aQq (fun d1=>?_) (fun d1=>?_)
   ·refine aQw (vs:=[.slice e.x.A e.x.n e.x.c,.int .i64 e.x.r]) rfl (fun w' hw' k u hk=>by rw[add_add,(hB58.ext hw').cell];match k,hk with | 0,hk=>exact hk | 1,hk=>exact hk) ?_;refine aQw (vs:=[.slice b.x.A b.x.n b.x.c,.int .i64 b.x.r]) rfl (fun w' hw' k u hk=>by rw[add_add,(hB8.ext hw').cell];match k,hk with | 0,hk=>exact hk | 1,hk=>exact hk) ?_;refine aQw (vs:=d.cells) rfl (fun w' hw' k u hk=>by rw[((hB1.ext (hE2.trans (hE3.trans (hE35.trans hE58)))).ext hw').cell];exact hk) ?_;have hE0d:=hE08.trans hd8;refine call (dQu hk e.x b.x w8.drew ((K.sbs e e1).ext hE0d) ((K.sbs b b1).ext hE0d) se sb) ?_;rintro _ w9 ⟨QA,Qn,Qc,Qnd,Qr,rfl,hE9,hQ9,sQ,_⟩;refine⟨hd8.trans hE9,?_⟩;refine call (hQT QA Qn Qc Qnd Qr d.A d.n d.c d.nd d.r w9 hQ9 (hd.ext (hE0d.trans hE9))) ?_;rintro _ w10 ⟨rfl,hE10⟩;have hE810:=(hd8.trans hE9).trans hE10;refine⟨hE810,?_⟩;rw[oQc (x:=⟨QA,Qn,Qc,Qnd,Qr⟩) hk sQ sd,hSg];cases hmt:kQz S (fun v=>oD e.x v&&oD b.x v)with
    | false=>
     refine aQN rfl ?_;refine aQa ((j+1:Nat):Int) (by show((j:Nat):Int)+1=_;omega) (by omega) ?_;exact⟨j+1,rfl,next w10 hE810 (by show(!(decide (b.fr<e.to_)&&kQz S (fun v=>oD e.x v&&oD b.x v)))=true;rw[hmt,Bool.and_false];rfl),by show m.length-(i+1)-(j+1)<m.length-(i+1)-j;omega⟩
    | true=>
     refine aQM rfl ?_;refine aQX (aQY 291 (by decide) w10) (fun _ _ hf=>hf.elim) ?_;rintro ch _ ⟨rfl,rfl⟩;have hno:eQ4 S e.ed b.ed=false:=by
      show(!(decide (b.fr<e.to_)&&kQz S (fun v=>oD e.x v&&oD b.x v)))=false;rw[hmt,decide_eq_true (by omega:b.fr<e.to_)];rfl
     have hal:(m.drop (i+1)).all (fun b=>eQ4 S e.ed b.ed)=false:=List.all_eq_false.2 ⟨b,List.mem_of_getElem? hb,by rw[hno];decide⟩;refine⟨?_,rfl,hE08.trans hE810⟩;have:dQU S (m.map EdV.ed)=false:=by
      rw[hap,List.all_map];show((m.drop (i+1)).all (fun b=>eQ4 S e.ed b.ed)&&_)=false;rw[hal];rfl
     rw[hedL,if_pos this]
   ·refine aQa ((j+1:Nat):Int) (by show((j:Nat):Int)+1=_;omega) (by omega) ?_;exact⟨j+1,rfl,next w8.drew hd8 (by show(!(decide (b.fr<e.to_)&&kQz S (fun v=>oD e.x v&&oD b.x v)))=true;rw[decide_eq_false (by omega:¬b.fr<e.to_)];rfl),by show m.length-(i+1)-(j+1)<m.length-(i+1)-j;omega⟩
  ·have hjn:j=m.length-(i+1):=by simp only at c2;omega
   rw[List.take_of_length_le (by rw[List.length_drop];omega)] at hall;refine aQa ((i+1:Nat):Int) (by show((i:Nat):Int)+1=_;omega) (by omega) ?_;refine⟨i+1,rfl,⟨hE25.trans hE6,hin,?_⟩,by show m.length-(i+1)<m.length-i;omega⟩;rw[hap,List.all_map];show((m.drop (i+1)).all (fun b=>eQ4 S e.ed b.ed)&&_)=_;rw[hall,Bool.true_and]
 have hin:i=m.length:=by simp only at c1;omega
 have hapart:dQU S (m.map EdV.ed)=true:=by rw[hap,hin,List.drop_eq_nil_of_le (Nat.le_refl _)];rfl
 clear hap c1 hi;rw[if_neg (by rw[hapart];decide)] at hedL;have hE13:=hE2.trans hE3;refine aQd (hB1.ext hE13) rfl ?_;refine aQl aQb [vvC (d,⟨o,[],a⟩)] rfl rfl rfl rfl rfl ⟨rfl,rfl,⟨⟩⟩ rfl (fun cs h=>by simp only[List.mem_singleton] at h;subst h;rfl) rfl (by decide) (by decide) ?_;intro w4 hE4 hz4 hB4;have hE04:=hE03.trans hE4;have hne:aQW p.nm.length o≠ []:=by rw[hSg];exact hSne
 have hap':dQU (aQW p.nm.length o) (m.map EdV.ed)=true:=by rw[hSg];exact hapart
 have hep:∀b∈m.map EdV.ed,0<=b.to_:=fun b hb=>by
  obtain⟨e,he,rfl⟩:=List.mem_map.1 hb;have:=hed e (hme e he).1;show 0<=e.to_;omega
 have hVB:∀i,i<=m.length->∀v∈mQ6 p.nm.length p.f o a ((m.map EdV.ed).take i),VB (i*70000) (a+s.length) v:=fun i hi v hv=>by
  have:=wQZ (n:=p.nm.length) (o:=o) (a:=a) (T:=a+s.length) hB.f8 hfl (by omega) ((m.map EdV.ed).take i) (fun b hb=>by
   obtain⟨e,he,rfl⟩:=List.mem_map.1 (List.mem_of_mem_take hb);obtain⟨h1,h2,h3,h4⟩:=hme e he;exact⟨hB.t8 e h1,hB.tl e h1,by show e.to_.toNat<=_;omega⟩) v hv
  rw[List.length_take,List.length_map,Nat.min_eq_left hi] at this;exact this
 have hVL:∀i,i<=m.length->(mQ6 p.nm.length p.f o a ((m.map EdV.ed).take i)).length<=1024:=fun i hi=>by
  refine Nat.le_trans (sQX _ _ _ _ _) ?_;rw[List.length_take,List.length_map,Nat.min_eq_left hi];exact Nat.le_trans (Nat.pow_le_pow_right (by decide) (show i<=10 by omega)) (by decide)
 refine loop aQb [107,16] (fun t:Nat×List (DV×AV)×Option Addr×Nat=>[.int .i64 t.1,.slice t.2.2.1 t.2.1.length t.2.2.2]) (fun t w'=>Ext w4 w'/\t.1<=m.length/\t.2.1.map (·.2)=mQ6 p.nm.length p.f o a ((m.map EdV.ed).take t.1)/\SlS vvC 4 w' t.2.2.1 t.2.1.length t.2.2.2 t.2.1/\∀v∈t.2.1,SB w' v.1.A v.1.n v.1.c v.1.nd/\Set1 p.nm.length v.1.nd v.1.r v.2.o) (fun t _=>m.length-t.1) (0,[(d,⟨o,[],a⟩)],some ⟨w3.heap.size,0,none⟩,1) rfl ⟨Ext.refl _,Nat.zero_le _,rfl,⟨Sl.own (sz:=4) (n:=1) hB4 (Nat.le_refl _) (by show 1<=maxLen;decide) (by simp[vvC]),rfl⟩,fun v hv=>by
  rw[List.mem_singleton.1 hv];exact⟨hd.ext hE04,sd⟩⟩ ?_
 rintro⟨i,vs,VA,vc⟩ w5 ⟨hE5,hi,hvs,hVs,hsets⟩;simp only at hi hvs hVs hsets;have hE05:=hE04.trans hE5;have hvl:vs.length<=1024:=by have:=hVL i hi;rw[<-hvs,List.length_map] at this;exact this
 have hvb:∀v∈vs,VB (i*70000) (a+s.length) v.2:=fun v hv=>hVB i hi v.2 (by rw[<-hvs];exact List.mem_map.2 ⟨v,hv,rfl⟩)
 refine aQq (fun c1=>?_) (fun c1=>?_)
 ·have hin:i<m.length:=by simp only at c1;omega
  refine aQp iQd (hM.ext (hE3.trans (hE4.trans hE5))) rfl hin (fun ad e he hc=>?_);have hem:=List.mem_of_getElem? he;obtain⟨e1,e2,e3,e4⟩:=hme e hem;obtain⟨e5,e6,e7⟩:=hed e e1;have se:=eQH (hval e e1).1;have heg:(m.map EdV.ed)[i]? =some e.ed:=by rw[List.getElem?_map,he];rfl
  refine aQK (vs:=edC e) rfl hc ?_;refine new (fun w6 hE6 hz6 hB6=>?_);refine aQc hB6 rfl (sc rfl) (fun w7 hg7 _ hB7=>?_);have hE57:Ext w5 w7:=aQJ hE6 hB6 hg7;have hE07:=hE05.trans hE57;refine loop aQb [113,19] (fun t:Nat×List (DV×AV)×Option Addr×Nat=>[.int .i64 t.1,.slice t.2.2.1 t.2.1.length t.2.2.2]) (fun t w'=>Ext w7 w'/\t.1<=vs.length/\t.2.1.map (·.2)=((vs.map (·.2)).take t.1).flatMap (cQV p.nm.length p.f e.ed)/\Own w' w7.heap.size 166 4 t.2.2.1 t.2.1.length t.2.2.2 (t.2.1.flatMap vvC)/\∀v∈t.2.1,DgO w' (aQx t.2.2.1) p.nm.length v.1 v.2.o) (fun t _=>vs.length-t.1) (0,[],none,0) rfl ⟨Ext.refl _,Nat.zero_le _,rfl,Own.nil _ _ _ _,fun v hv=>by cases hv⟩ ?_;rintro⟨j,nx,NX,nxc⟩ w8 ⟨hE8,hj,hnx,hO8,hD8⟩;simp only at hj hnx hO8 hD8;have hE08:=hE07.trans hE8;have hE58:=hE57.trans hE8;have hnxl:nx.length<=2*j:=by
   have h1:=congrArg List.length hnx;have h2:=kQq p.nm.length p.f e.ed ((vs.map (·.2)).take j);rw[List.length_map] at h1;rw[List.length_take] at h2;omega
  refine aQq (fun c2=>?_) (fun c2=>?_)
  ·have hjn:j<vs.length:=by simp only at c2;omega
   refine aQp tQV (hVs.ext hE58) rfl hjn (fun ad2 v hv hc2=>?_);have hvm:=List.mem_of_getElem? hv;obtain⟨sbv,stv⟩:=hsets v hvm;obtain⟨vb8,vbl,vba⟩:=hvb v hvm;have hvg:(vs.map (·.2))[j]? =some v.2:=by rw[List.getElem?_map,hv];rfl
   refine aQK (vs:=vvC v) rfl hc2 ?_;refine new (fun w9 hE9 hz9 hB9=>?_);refine aQc hB9 rfl (sc rfl) (fun w10 hg10 _ hB10=>?_);have hE810:Ext w8 w10:=aQJ hE9 hB9 hg10;have hE710:=hE8.trans hE810;have hE010:=hE08.trans hE810;refine bQM (vs:=[.slice v.1.A v.1.n v.1.c,.int .i64 v.1.r]) hB10 rfl (fun k u hk=>by match k,hk with | 0,hk=>exact hk | 1,hk=>exact hk) ?_;refine bQM (vs:=[.slice e.x.A e.x.n e.x.c,.int .i64 e.x.r]) (hB7.ext hE710) rfl (fun k u hk=>by match k,hk with | 0,hk=>exact hk | 1,hk=>exact hk) ?_;refine call (dQu hk v.1 e.x w10 (sbv.ext (hE58.trans hE810)) ((K.sbs e e1).ext hE010) stv se) ?_;rintro _ w11 ⟨QA,Qn,Qc,Qnd,Qr,rfl,hE11,hQ11,sQ,hQR⟩;refine new (fun w12 hE12 hz12 hB12=>?_);refine aQc hB12 rfl (sc rfl) (fun w13 hg13 _ hB13=>?_);have hE1113:Ext w11 w13:=aQJ hE12 hB12 hg13;have hE1013:=hE11.trans hE1113;have hE813:=hE810.trans hE1013;have hE713:=hE8.trans hE813;have hE013:=hE08.trans hE813;have hB10':=hB10.ext hE1013;have hQ13:=hQ11.ext hE1113;have z11:=hE11.size;have z1113:=hE1113.size;have z810:=hE810.size;have z8:=hE8.size;have hrO:=hO8.rows;have hQ0:=sQ.root0;have hstep:(vs.map (·.2)).take (j+1)=(vs.map (·.2)).take j++ [v.2]:=cQL hvg;refine aQe hB13 rfl ?_;refine cQj (fun hz=>?_) (fun hz=>?_)
   ·have hbne:aQW p.nm.length (dQd v.2.o (oD e.x))≠ []:=fun e0=>hz (hQ0.2 e0)
    have hva:=wQ0 (f:=p.f) (a:=a) hne hap' heg (by show(a:Int)<=e.fr;omega) hep (v:=v.2) (by rw[<-hvs];exact List.mem_map.2 ⟨v,hvm,rfl⟩) hbne;have hva:(v.2.a:Int)<=e.fr:=hva;have hdd:=Ext.drew w13;have dl:=fQl p.f v.2.a e.fr.toNat;have tl:=hB.tl e e1;have hto:((e.to_.toNat:Nat):Int)=e.to_:=by omega
    refine aQm aQb (Mod (aQx NX) w13) 23 [(true,0),(true,1),(true,2),(true,3),(true,4),(true,5),(true,6),(true,7),(true,8),(true,9),(true,10),(true,11),(true,12),(true,13),(true,14),(true,15),(true,16),(true,17),(true,18),(true,19),(false,20),(false,21),(true,22)] (by kernel_rfl) (Mod.of_ext _ hdd) ?_;have n22:¬aQx NX w11.heap.size:=fun h=>by have:=hrO _ h;omega
    have n21:¬aQx NX w8.heap.size:=fun h=>by have:=hrO _ h;omega
    have n18:¬aQx NX w5.heap.size:=fun h=>by have:=hrO _ h;have:=hE57.size;have:=hB7.lt;omega
    have neb:¬aQx NX p.eb:=fun h=>by have:=hrO _ h;have:=K.blk.lt;have:=hE07.size;omega
    have ds:=aQj v.2.d;have cs:=aQj (eQW p.f v.2.a e.fr.toNat);have dcs:=aQj (v.2.d++eQW p.f v.2.a e.fr.toNat);have txs:=aQj e.tx;rw[List.length_append] at dcs;refine aQw (vs:=[.slice QA Qn Qc,.int .i64 Qr]) rfl (fun w' hw' k u hk=>by rw[(hB13.mod hw' n22).cell];exact hk) ?_;refine aQy (v:=.string (aQh v.2.d)) (fun w' hw'=>(hB10'.mod hw' n21).cell 2) ?_;refine aQy (v:=.string (aQh p.f)) (fun w' hw'=>((K.blk.ext hE013).mod hw' neb).cell 3) ?_;refine aQy (v:=.int .i64 v.2.a) (fun w' hw'=>(hB10'.mod hw' n21).cell 3) ?_;refine aQy (v:=.int .i64 e.fr) (fun w' hw'=>((hB7.ext hE713).mod hw' n18).cell 0) ?_;refine aQ1 (v':=.string (aQh (eQW p.f v.2.a e.fr.toNat))) ⟨by omega,by omega,by rw[hfs];omega⟩ (by
     rw[aQt];show Value.string (aQh ((p.f.take e.fr.toNat).drop v.2.a))=_;rw[List.drop_take];rfl) ?_
    refine aQ1 (v':=.string (aQh (v.2.d++eQW p.f v.2.a e.fr.toNat))) (by rw[ds,cs];unfold maxLen;omega) (by rw[bQr]) ?_;refine aQy (v:=.string (aQh e.tx)) (fun w' hw'=>((hB7.ext hE713).mod hw' n18).cell 2) ?_;refine aQ1 (v':=.string (aQh (v.2.d++eQW p.f v.2.a e.fr.toNat++e.tx))) (by rw[dcs,txs];unfold maxLen;omega) (by rw[bQr]) ?_;refine aQy (v:=.int .i64 ((e.to_.toNat:Nat):Int)) (fun w' hw'=>by rw[hto];exact((hB7.ext hE713).mod hw' n18).cell 1) ?_;refine aQl aQb [vvC (⟨QA,Qn,Qc,Qnd,Qr⟩,⟨dQd v.2.o (oD e.x),v.2.d++eQW p.f v.2.a e.fr.toNat++e.tx,e.to_.toNat⟩)] rfl rfl rfl rfl rfl ⟨rfl,rfl,⟨⟩⟩ rfl (fun cs h=>by simp only[List.mem_singleton] at h;subst h;rfl) rfl (by decide) (by decide) ?_;generalize hV1:(((⟨QA,Qn,Qc,Qnd,Qr⟩:DV),(⟨dQd v.2.o (oD e.x),v.2.d++eQW p.f v.2.a e.fr.toNat++e.tx,e.to_.toNat⟩:AV)):DV×AV)=V1;intro w14 hE14 hz14 hB14;have hE1314:=hdd.trans hE14;have hE814:=hE813.trans hE1314;refine⟨Mod.of_ext _ hE1314,?_⟩;have hs14:Sl w14 4 (some ⟨w13.drew.heap.size,0,none⟩) 1 1 (vvC V1):=Sl.own (sz:=4) (n:=1) hB14 (Nat.le_refl _) (by decide) (by simp[vvC]);refine bQf (n:=nx.length) aQb rfl rfl rfl rfl rfl (by decide) rfl rfl ⟨_,rfl⟩ rfl rfl (hO8.ext hE814) hs14 (vQz _) (by unfold maxLen;omega) (by show(nx.length+1)*56<=_;omega) (by have:=(hE8.trans hE814).size;omega) ?_;intro NX2 nc2 w15 hm15 hO15 hmv15;have hM1315:Mod (aQx NX) w13 w15:=(Mod.of_ext (aQx NX) hE1314).trans hm15 (fun i hi=>.inl hi);refine⟨hM1315,?_⟩;have hM815:Mod (aQx NX) w8 w15:=(Mod.of_ext (aQx NX) hE813).trans hM1315 (fun i hi=>.inl hi);have hE715:Ext w7 w15:=hM815.ext hE8 (fun k hk=>(hrO k hk).1);have hE015:=hE07.trans hE715;have hE515:=hE57.trans hE715;have z1315:=hM1315.size;have r15:∀k,aQx NX2 k->aQx NX k∨w14.heap.size<=k:=hmv15.rows
    have z14:=hE1314.size;have hD15:∀u∈nx,DgO w15 (aQx NX2) p.nm.length u.1 u.2.o:=fun u hu=>(hD8 u hu).step hM815 (fun k hk=>by
     rcases r15 k hk with h | h
     ·exact .inl h
     ·exact .inr (by omega))
    have hDV1:DgO w15 (aQx NX2) p.nm.length V1.1 V1.2.o:=by
     rw[<-hV1];have h0:DgO w13 (aQx NX) p.nm.length ⟨QA,Qn,Qc,Qnd,Qr⟩ (dQd v.2.o (oD e.x)):=⟨hQ13,sQ,fun ad ea h0 h=>by have:=hQR ad.block ⟨ad,ea,rfl⟩;have:=hrO _ h;omega⟩
     exact h0.step hM1315 (fun k hk=>by
      rcases r15 k hk with h | h
      ·exact .inl h
      ·exact .inr (by omega))
    have hrows15:=hO15.rows;rw[show nx.flatMap vvC++vvC V1=(nx++ [V1]).flatMap vvC by rw[List.flatMap_append];simp] at hO15;have hB21:=hB10'.mod hM1315 n21;have hB22:=hB13.mod hM1315 n22;refine bQM (vs:=[.slice v.1.A v.1.n v.1.c,.int .i64 v.1.r]) hB21 rfl (fun k u hk=>by match k,hk with | 0,hk=>exact hk | 1,hk=>exact hk) ?_;refine aQd hB22 rfl ?_;have hQ15:SB w15 QA Qn Qc Qnd:=by have:=hDV1.sb;rw[<-hV1] at this;exact this
    refine call (bQk hk v.1 ⟨QA,Qn,Qc,Qnd,Qr⟩ w15 (sbv.ext hE515) hQ15 stv sQ) ?_;rintro _ w16 ⟨PA,Pn,Pc,Pnd,Pr',rfl,hE16,hP16,sP,hPR⟩;have hP0:=sP.root0;refine bQ2 (j:=0) (hB21.ext hE16) (by show 0+2<=4;decide) (sc rfl) (fun w17 hg17 hz17 hB17=>?_);have hM17:Mod (·=w8.heap.size) w16 w17:=zQE hg17 rfl;have hE717:Ext w7 w17:=hM17.ext (hE715.trans hE16) (fun k hk=>by omega);have z16:=hE16.size;have nx21:∀k,aQx NX2 k->¬k=w8.heap.size:=fun k hk hh=>by
     rcases r15 k hk with h | h
     ·have:=hrO _ h;omega
     ·omega
    have hO17:=(hO15.ext hE16).mod hM17 nx21;have hlt21:=hB10.lt;have hD17:∀u∈nx++ [V1],DgO w17 (aQx NX2) p.nm.length u.1 u.2.o:=fun u hu=>by
     have hu15:DgO w15 (aQx NX2) p.nm.length u.1 u.2.o:=by
      rcases List.mem_append.1 hu with hu | hu
      ·exact hD15 u hu
      ·rw[List.mem_singleton.1 hu];exact hDV1
     have hn21:∀ad,u.1.A=some ad->0<u.1.n->¬ad.block=w8.heap.size:=fun ad ea h0 hh=>by
      rcases List.mem_append.1 hu with hu | hu
      ·have:=SB.lt (hD8 u hu).sb ad ea h0;omega
      ·rw[List.mem_singleton.1 hu,<-hV1] at ea h0;have:=hQR ad.block ⟨ad,ea,rfl⟩;omega
     exact⟨SB.modo (hu15.sb.ext hE16) hM17 hn21,hu15.st,hu15.off⟩
    refine iQc (j:=0) (i:=1) hB17 rfl ?_;refine cQj (fun hy=>?_) (fun hy=>?_)
    ·refine aQd hB17 rfl ?_;refine aQl aQb [vvC (⟨PA,Pn,Pc,Pnd,Pr'⟩,⟨eQR v.2.o (dQd v.2.o (oD e.x)),v.2.d,v.2.a⟩)] rfl rfl rfl rfl rfl ⟨rfl,rfl,⟨⟩⟩ rfl (fun cs h=>by simp only[List.mem_singleton] at h;subst h;rfl) rfl (by decide) (by decide) ?_;generalize hV2:(((⟨PA,Pn,Pc,Pnd,Pr'⟩:DV),(⟨eQR v.2.o (dQd v.2.o (oD e.x)),v.2.d,v.2.a⟩:AV)):DV×AV)=V2;intro w18 hE18 hz18 hB18;have hs18:Sl w18 4 (some ⟨w17.heap.size,0,none⟩) 1 1 (vvC V2):=Sl.own (sz:=4) (n:=1) hB18 (Nat.le_refl _) (by decide) (by simp[vvC]);refine bQf (n:=nx.length+1) aQb rfl rfl rfl rfl rfl (by decide) rfl rfl ⟨_,rfl⟩ rfl rfl (hO17.ext hE18) hs18 (vQz _) (by unfold maxLen;omega) (by show(nx.length+1+1)*56<=_;omega) (by have:=(hE717.trans hE18).size;omega) ?_;intro NX3 nc3 w19 hm19 hO19 hmv19;have hM1719:Mod (aQx NX2) w17 w19:=(Mod.of_ext (aQx NX2) hE18).trans hm19 (fun i hi=>.inl hi);have r19:∀k,aQx NX3 k->aQx NX2 k∨w18.heap.size<=k:=hmv19.rows
     have z18:=hE18.size;have hE719:Ext w7 w19:=hM1719.ext hE717 (fun k hk=>(hrows15 k hk).1);have hP17:SB w17 PA Pn Pc Pnd:=SB.modo hP16 hM17 (fun ad ea h0 hh=>by have:=hPR ad.block ⟨ad,ea,rfl⟩;omega);have hDV2:DgO w19 (aQx NX3) p.nm.length V2.1 V2.2.o:=by
      rw[<-hV2];have h0:DgO w17 (aQx NX2) p.nm.length ⟨PA,Pn,Pc,Pnd,Pr'⟩ (eQR v.2.o (dQd v.2.o (oD e.x))):=⟨hP17,sP,fun ad ea h0 h=>by have:=hPR ad.block ⟨ad,ea,rfl⟩;have:=(hrows15 _ h).2;omega⟩
      exact h0.step hM1719 (fun k hk=>by
       rcases r19 k hk with h | h
       ·exact .inl h
       ·exact .inr (by omega))
     refine aQa ((j+1:Nat):Int) (by show((j:Nat):Int)+1=_;omega) (by omega) ?_;rw[show(nx++ [V1]).flatMap vvC++vvC V2=(nx++ [V1]++ [V2]).flatMap vvC by rw[List.flatMap_append];simp] at hO19;refine⟨(j+1,nx++ [V1]++ [V2],NX3,nc3),by simp only[List.length_append];rfl,⟨hE719,hjn,?_,by simp only;rw[List.length_append,List.length_append];exact hO19,fun u hu=>?_⟩,by show vs.length-(j+1)<vs.length-j;omega⟩
     ·simp only;rw[hstep,List.flatMap_append,<-hnx,List.map_append,List.map_append,List.flatMap_cons,List.flatMap_nil,List.append_nil,List.append_assoc];congr 1;have h9:aQW p.nm.length (eQR v.2.o (dQd v.2.o (oD e.x)))≠ []:=fun e0=>hy (hP0.2 e0)
      unfold cQV;rw[if_neg (by exact hbne),if_neg (by exact h9),<-hV1,<-hV2];rfl
     ·rcases List.mem_append.1 hu with hu | hu
      ·exact(hD17 u hu).step hM1719 (fun k hk=>by
        rcases r19 k hk with h | h
        ·exact .inl h
        ·exact .inr (by omega))
      ·rw[List.mem_singleton.1 hu];exact hDV2
    ·refine aQa ((j+1:Nat):Int) (by show((j:Nat):Int)+1=_;omega) (by omega) ?_;refine⟨(j+1,nx++ [V1],NX2,nc2),by simp only[List.length_append];rfl,⟨hE717,hjn,?_,by simp only;rw[List.length_append];exact hO17,hD17⟩,by show vs.length-(j+1)<vs.length-j;omega⟩;simp only;rw[hstep,List.flatMap_append,<-hnx,List.map_append,List.flatMap_cons,List.flatMap_nil,List.append_nil];congr 1;have h9:aQW p.nm.length (eQR v.2.o (dQd v.2.o (oD e.x)))=[]:=hP0.1 hy;unfold cQV;rw[if_neg (by exact hbne),if_pos (by exact h9),<-hV1];rfl
   ·have hb0:aQW p.nm.length (dQd v.2.o (oD e.x))=[]:=hQ0.1 hz;have hv0:=stv.root0;refine iQc (j:=0) (i:=1) hB10' rfl ?_;refine cQj (fun hy=>?_) (fun hy=>?_)
    ·refine aQd hB10' rfl ?_;refine aQl aQb [vvC v] rfl rfl rfl rfl rfl ⟨rfl,rfl,⟨⟩⟩ rfl (fun cs h=>by simp only[List.mem_singleton] at h;subst h;rfl) rfl (by decide) (by decide) ?_;intro w14 hE14 hz14 hB14;have hE814:=hE813.trans hE14;have hs14:Sl w14 4 (some ⟨w13.heap.size,0,none⟩) 1 1 (vvC v):=Sl.own (sz:=4) (n:=1) hB14 (Nat.le_refl _) (by decide) (by simp[vvC]);refine bQf (n:=nx.length) aQb rfl rfl rfl rfl rfl (by decide) rfl rfl ⟨_,rfl⟩ rfl rfl (hO8.ext hE814) hs14 (vQz _) (by unfold maxLen;omega) (by show(nx.length+1)*56<=_;omega) (by have:=(hE8.trans hE814).size;omega) ?_;intro NX2 nc2 w15 hm15 hO15 hmv15;have hM815:Mod (aQx NX) w8 w15:=(Mod.of_ext (aQx NX) hE814).trans hm15 (fun i hi=>.inl hi);have hE715:Ext w7 w15:=hM815.ext hE8 (fun k hk=>(hrO k hk).1);have r15:∀k,aQx NX2 k->aQx NX k∨w14.heap.size<=k:=hmv15.rows
     have z814:=hE814.size;have st15:∀k,aQx NX2 k->aQx NX k∨w8.heap.size<=k:=fun k hk=>by
      rcases r15 k hk with h | h
      ·exact .inl h
      ·exact .inr (by omega)
     refine aQa ((j+1:Nat):Int) (by show((j:Nat):Int)+1=_;omega) (by omega) ?_;rw[show nx.flatMap vvC++vvC v=(nx++ [v]).flatMap vvC by rw[List.flatMap_append];simp] at hO15;refine⟨(j+1,nx++ [v],NX2,nc2),by simp only[List.length_append];rfl,⟨hE715,hjn,?_,by simp only;rw[List.length_append];exact hO15,fun u hu=>?_⟩,by show vs.length-(j+1)<vs.length-j;omega⟩
     ·simp only;rw[hstep,List.flatMap_append,<-hnx,List.map_append,List.flatMap_cons,List.flatMap_nil,List.append_nil];congr 1;unfold cQV;rw[if_pos (by exact hb0),if_neg (fun e0=>hy (hv0.2 e0))];rfl
     ·rcases List.mem_append.1 hu with hu | hu
      ·exact(hD8 u hu).step hM815 st15
      ·rw[List.mem_singleton.1 hu];have h0:DgO w8 (aQx NX) p.nm.length v.1 v.2.o:=⟨sbv.ext hE58,stv,fun ad ea h0 h=>by have:=SB.lt (sbv.ext hE57) ad ea h0;have:=(hrO _ h).1;omega⟩
       exact h0.step hM815 st15
    ·refine aQa ((j+1:Nat):Int) (by show((j:Nat):Int)+1=_;omega) (by omega) ?_;refine⟨(j+1,nx,NX,nxc),rfl,⟨hE8.trans hE813,hjn,?_,hO8.ext hE813,fun u hu=>(hD8 u hu).ext hE813⟩,by show vs.length-(j+1)<vs.length-j;omega⟩;simp only;rw[hstep,List.flatMap_append,<-hnx,List.flatMap_cons,List.flatMap_nil,List.append_nil];unfold cQV;rw[if_pos (by exact hb0),if_pos (hv0.1 hy),List.append_nil]
  ·have hjn:j=vs.length:=by simp only at c2;omega
   rw[List.take_of_length_le (by rw[List.length_map];omega),hvs,<-rQt,<-cQL heg] at hnx;refine aQa ((i+1:Nat):Int) (by show((i:Nat):Int)+1=_;omega) (by omega) ?_;exact⟨(i+1,nx,NX,nxc),rfl,⟨hE5.trans (hE57.trans hE8),hin,hnx,⟨hO8.sl,rfl⟩,fun v hv=>⟨(hD8 v hv).sb,(hD8 v hv).st⟩⟩,by show m.length-(i+1)<m.length-i;omega⟩
 have hin:i=m.length:=by simp only at c1;omega
 rw[List.take_of_length_le (by rw[List.length_map];omega)] at hvs;have hver:=vQw (f:=p.f) (a:=a) (stop:=a+s.length+1) (es:=m.map EdV.ed) hne;rw[hSg] at hver;have hqi:=vQx (f:=p.f) (a:=a) (stop:=a+s.length+1) (es:=m.map EdV.ed) hne;have hvi:=kQp (f:=p.f) (a:=a) hne (m.map EdV.ed);rw[<-hvs] at hver hqi hvi;refine loop aQb [165,23] (fun t:Nat×List (DV×Pr)×Option Addr×Nat=>[.int .i64 t.1,.slice t.2.2.1 t.2.1.length t.2.2.2]) (fun t w'=>Ext w5 w'/\t.1<=vs.length/\t.2.1.map (·.2)=sQY p.f (a+s.length+1) ((vs.map (·.2)).take t.1)/\Own w' w5.heap.size 56 3 t.2.2.1 t.2.1.length t.2.2.2 (t.2.1.flatMap pqC)/\(∀q∈t.2.1,DgO w' (aQx t.2.2.1) p.nm.length q.1 q.2.o)/\∀v∈(vs.map (·.2)).take t.1,bQE (v.d++eQW p.f v.a (a+s.length+1))=true) (fun t _=>vs.length-t.1) (0,[],none,0) rfl ⟨Ext.refl _,Nat.zero_le _,rfl,Own.nil _ _ _ _,(fun q hq=>by cases hq),fun v hv=>by simp at hv⟩ ?_;rintro⟨k,qs,PA,pc⟩ w6 ⟨hE6,hk6,hqs,hO6,hD6,hpl6⟩;simp only at hk6 hqs hO6 hD6 hpl6;have hE06:=hE05.trans hE6;have hql:qs.length<=k:=by
  have h1:=congrArg List.length hqs;have h2:=sQZ p.f (a+s.length+1) ((vs.map (·.2)).take k);rw[List.length_map] at h1;rw[List.length_take] at h2;omega
 have hrO:=hO6.rows;refine aQq (fun c2=>?_) (fun c2=>?_)
 ·have hkn:k<vs.length:=by simp only at c2;omega
  refine aQp tQV (hVs.ext hE6) rfl hkn (fun ad2 v hv hc2=>?_);have hvm:=List.mem_of_getElem? hv;obtain⟨sbv,stv⟩:=hsets v hvm;obtain⟨vb8,vbl,vba⟩:=hvb v hvm;have hvg:(vs.map (·.2))[k]? =some v.2:=by rw[List.getElem?_map,hv];rfl
  have hvV:v.2∈vs.map (·.2):=List.mem_map.2 ⟨v,hvm,rfl⟩;have hstep:(vs.map (·.2)).take (k+1)=(vs.map (·.2)).take k++ [v.2]:=cQL hvg;refine aQK (vs:=vvC v) rfl hc2 ?_;refine new (fun w7 hE7 hz7 hB7=>?_);refine aQc hB7 rfl (sc rfl) (fun w8 hg8 _ hB8=>?_);have hE68:Ext w6 w8:=aQJ hE7 hB7 hg8;have hE08:=hE06.trans hE68;have hdd:=Ext.drew w8;have ds:=aQj v.2.d;have cs:=aQj (eQW p.f v.2.a (a+s.length+1));have dl:=fQl p.f v.2.a (a+s.length+1);refine aQm aQb (Ext w8) 16 [(true,0),(true,1),(true,2),(true,3),(true,4),(true,5),(true,6),(true,7),(true,8),(true,9),(true,10),(true,11),(true,12),(true,13),(false,14),(false,15)] (by kernel_rfl) hdd ?_;refine aQy (v:=.string (aQh v.2.d)) (fun w' hw'=>(hB8.ext hw').cell 2) ?_;refine aQy (v:=.string (aQh p.f)) (fun w' hw'=>((K.blk.ext hE08).ext hw').cell 3) ?_;refine aQy (v:=.int .i64 v.2.a) (fun w' hw'=>(hB8.ext hw').cell 3) ?_;refine aQa ((a+s.length+1:Nat):Int) (by rw[hssz];omega) (by omega) ?_;refine aQ1 (v':=.string (aQh (eQW p.f v.2.a (a+s.length+1)))) ⟨by omega,by omega,by rw[hfs];omega⟩ (by
   rw[aQt];show Value.string (aQh ((p.f.take (a+s.length+1)).drop v.2.a))=_;rw[List.drop_take];rfl) ?_
  refine aQ1 (v':=.string (aQh (v.2.d++eQW p.f v.2.a (a+s.length+1)))) (by rw[ds,cs];unfold maxLen;omega) (by rw[bQr]) ?_;have ht8:∀b∈v.2.d++eQW p.f v.2.a (a+s.length+1),b<256:=fun b hb=>by
   rcases List.mem_append.1 hb with hb | hb
   ·exact vb8 b hb
   ·exact gQx hB.f8 _ _ b hb
  have htl:(v.2.d++eQW p.f v.2.a (a+s.length+1)).length<=1000000:=by rw[List.length_append];omega
  generalize hT:v.2.d++eQW p.f v.2.a (a+s.length+1)=T at*;refine new (fun w9 hE9 hz9 hB9=>?_);refine⟨hdd.trans hE9,?_⟩;refine aQC hB9 (by decide) (fun w10 hM10 hB10=>?_);have hE810:Ext w8 w10:=hM10.ext (hdd.trans hE9) (fun i hi=>by have:=hdd.size;omega);refine⟨hE810,?_⟩;have hB10:Blk w10 w8.drew.heap.size 9 [.string (aQh T)]:=hB10;refine aQg hB10 rfl ?_;refine call (lQE T w10 ht8 (by omega)) ?_;rintro _ w11 ⟨rfl,hE11⟩;have hE611:=hE68.trans (hE810.trans hE11);have hE011:=hE06.trans hE611;cases hpl:bQE T with
  | false=>
   refine aQM rfl ?_;refine aQX (aQY 291 (by decide) w11) (fun _ _ hf=>hf.elim) ?_;rintro ch _ ⟨rfl,rfl⟩;refine⟨?_,rfl,hE011⟩;rw[hedL,if_pos];refine Bool.eq_false_iff.2 (fun hh=>?_);have:=hver.1 hh v.2 hvV;rw[hT,hpl] at this;cases this
  | true=>
  refine aQN rfl ?_;have hB11:=hB10.ext hE11;have hO11:=hO6.ext hE611;have hPS:SlS bQR 3 w11 PA qs.length pc (qs.map (fun q=>(q.1,q.2.t))):=⟨by rw[<-oQe];exact hO11.sl,by rw[List.length_map]⟩
  have hqt:∀q∈qs,(∀b∈q.2.t,b<256)/\q.2.t.length<=1000000:=fun q hq=>by
   refine rQw (P:=fun t=>(∀b∈t,b<256)/\t.length<=1000000) ((vs.map (·.2)).take k) (fun u hu=>?_) q.2 (by rw[<-hqs];exact List.mem_map.2 ⟨q,hq,rfl⟩);obtain⟨u0,hu0,rfl⟩:=List.mem_map.1 (List.mem_of_mem_take hu);obtain⟨a1,a2,a3⟩:=hvb u0 hu0;refine⟨fun b hb=>?_,?_⟩
   ·rcases List.mem_append.1 hb with hb | hb
    ·exact a1 b hb
    ·exact gQx hB.f8 _ _ b hb
   ·have:=fQl p.f u0.2.a (a+s.length+1);rw[List.length_append];omega
  have hprs:prs (qs.map (fun q=>(q.1,q.2.t)))=qs.map (·.2):=oQd (fun q hq=>(hD6 q hq).st);refine call (oQ7 PA qs.length pc (qs.map (fun q=>(q.1,q.2.t))) T w8.drew.heap.size w11 hPS (fun q hq=>by
   obtain⟨q0,hq0,rfl⟩:=List.mem_map.1 hq;exact(hqt q0 hq0).1) ht8 hB11) ?_
  rintro _ w12 ⟨rfl,hE12⟩;rw[hprs];have hE612:=hE611.trans hE12;have hE012:=hE06.trans hE612;have hE812:=(hE810.trans hE11).trans hE12;have hO12:=hO6.ext hE612;have hB12:=hB11.ext hE12;have hB8':=hB8.ext hE812;have z612:=hE612.size;obtain⟨s1,s2⟩:=fQV T (qs.map (·.2));have hixl:=wQX (qs.map (·.2)) T;rw[List.length_map] at hixl;have hins:sQY p.f (a+s.length+1) ((vs.map (·.2)).take (k+1))=mQ4 (qs.map (·.2)) v.2.o T:=by rw[hstep,rQv,<-hqs,hT]
  have hpl7:∀u∈(vs.map (·.2)).take (k+1),bQE (u.d++eQW p.f u.a (a+s.length+1))=true:=fun u hu=>by
   rw[hstep] at hu;rcases List.mem_append.1 hu with hu | hu
   ·exact hpl6 u hu
   ·rw[List.mem_singleton.1 hu,hT];exact hpl
  generalize hix:ixQ (qs.map (·.2)) T=ix at*;by_cases hlt:ix<qs.length
  ·rw[if_pos hlt];refine aQB (by omega) ?_;have hpos:0<qs.length:=by omega
   obtain⟨q0,hq0⟩:∃q0,qs[ix]? =some q0:=⟨_,List.getElem?_eq_getElem hlt⟩
   have hq0m:=List.mem_of_getElem? hq0;obtain⟨pa,hpa,_⟩:=hO12.sl.at_ hpos;subst hpa;have n25:¬aQx (some pa) w6.heap.size:=fun h=>by have:=(hrO _ h).2;omega
   have hed12:=Ext.drew w12;have hD12:∀q∈qs,DgO w12 (aQx (some pa)) p.nm.length q.1 q.2.o:=fun q hq=>(hD6 q hq).ext hE612
   refine aQm aQb (Mod (aQx (some pa)) w12) 16 [(true,0),(true,1),(true,2),(true,3),(true,4),(true,5),(true,7),(true,8),(false,6),(false,9),(true,10),(true,11),(false,12),(true,13),(true,14),(false,15)] (by kernel_rfl) (Mod.of_ext _ hed12) ?_;refine kQr (j:=ix) hlt ?_;refine aQw (vs:=[.slice v.1.A v.1.n v.1.c,.int .i64 v.1.r]) rfl (fun w' hw' k u hk=>by rw[add_add,(hB8'.mod hw' n25).cell];match k,hk with | 0,hk=>exact hk | 1,hk=>exact hk) ?_;have hOd:=hO12.ext hed12;refine aQK (vs:=[.slice q0.1.A q0.1.n q0.1.c,.int .i64 q0.1.r]) rfl (fun k u hk=>by
    rw[add_add];refine fQM (o:=ix*3) (i:=0+k) hOd hpos ?_;rw[Nat.zero_add];refine cQd gQN qs ix q0 k u hq0 ?_
    match k,hk with
    | 0,hk=>exact hk
    | 1,hk=>exact hk) ?_
   refine⟨Mod.of_ext _ hed12,?_⟩;have sq0:=(hD12 q0 hq0m)
   refine call (vQy hk q0.1 v.1 w12.drew (sq0.sb.ext hed12) ((sbv.ext (hE6.trans hE612)).ext hed12) sq0.st stv) ?_;rintro _ w13 ⟨OA,On,Oc,Ond,Or',rfl,hE13,hOs,sO,hOR⟩;have hE1213:=hed12.trans hE13;refine⟨Mod.of_ext _ hE1213,?_⟩;refine call (hQc ⟨OA,On,Oc,Ond,Or'⟩ w13) ?_;rintro _ w14 ⟨rfl,hE14⟩;have hE1214:=hE1213.trans hE14;refine⟨Mod.of_ext _ hE1214,?_⟩;refine kQr (j:=ix) hlt ?_;show fQo _ _ ((pa.add (ix*3)).add 0) _ _;rw[add_add];have hfl3:=aQ5 gQN qs;refine fQh (hO12.ext hE1214) (by show ix*3+0+2<=qs.length*3;omega) (sc rfl) (fun w15 hm15 hO15=>?_);have hM1215:Mod (aQx (some pa)) w12 w15:=(Mod.of_ext _ hE1214).trans hm15 (fun i hi=>.inl hi);refine⟨hM1215,?_⟩;have hM615:Mod (aQx (some pa)) w6 w15:=(Mod.of_ext _ hE612).trans hM1215 (fun i hi=>.inl hi);have hcell2:(qs.flatMap pqC)[ix*3+0+ [Value.slice OA On Oc,.int .i64 Or'].length]? =some (.string (aQh q0.2.t)):=cQd gQN qs ix q0 2 _ hq0 rfl;rw[show(#[Value.slice OA On Oc,Value.int IntKind.i64 Or']:Array Value).toList=[Value.slice OA On Oc,.int .i64 Or'] from rfl,lQR hcell2] at hO15;have hO15:Own w15 w5.heap.size 56 3 (some pa) qs.length pc ((qs.set ix (⟨OA,On,Oc,Ond,Or'⟩,Pr.mk (fun e=>q0.2.o e||v.2.o e) q0.2.t)).flatMap pqC):=by
    rw[<-fQG gQN qs _ hlt];exact hO15
   refine aQa ((k+1:Nat):Int) (by show((k:Nat):Int)+1=_;omega) (by omega) ?_;have hsome:(qs.map (·.2))[ix]? =some q0.2:=by rw[List.getElem?_map,hq0];rfl
   have z1214:=hE1214.size;have z1213:=hed12.size;refine⟨(k+1,qs.set ix (⟨OA,On,Oc,Ond,Or'⟩,Pr.mk (fun e=>q0.2.o e||v.2.o e) q0.2.t),some pa,pc),by simp only[List.length_set];rfl,⟨hM615.ext hE6 (fun i hi=>(hrO i hi).1),hkn,?_,by simp only;rw[List.length_set];exact hO15,fun q hq=>?_,hpl7⟩,by show vs.length-(k+1)<vs.length-k;omega⟩
   ·simp only;rw[hins];unfold mQ4;rw[hix,hsome,List.map_set]
   ·rcases List.mem_or_eq_of_mem_set hq with hq | rfl
    ·exact(hD6 q hq).step hM615 (fun i hi=>.inl hi)
    ·have h0:DgO w14 (aQx (some pa)) p.nm.length ⟨OA,On,Oc,Ond,Or'⟩ (fun e=>q0.2.o e||v.2.o e):=⟨hOs.ext hE14,sO,fun ad ea h0 h=>by have:=hOR ad.block ⟨ad,ea,rfl⟩;have:=(hrO _ h).2;omega⟩
     exact h0.step hm15 (fun i hi=>.inl hi)
  ·rw[if_neg hlt];refine aQO (by decide) ?_;refine bQM (vs:=[.slice v.1.A v.1.n v.1.c,.int .i64 v.1.r]) hB8' rfl (fun k u hk=>by match k,hk with | 0,hk=>exact hk | 1,hk=>exact hk) ?_;refine aQg hB12 rfl ?_;refine aQl aQb [pqC (v.1,Pr.mk v.2.o T)] rfl rfl rfl rfl rfl ⟨rfl,rfl,⟨⟩⟩ rfl (fun cs h=>by simp only[List.mem_singleton] at h;subst h;rfl) rfl (by decide) (by decide) ?_;intro w13 hE13 hz13 hB13;have hE613:=hE612.trans hE13;have hs13:Sl w13 3 (some ⟨w12.heap.size,0,none⟩) 1 1 (pqC (v.1,Pr.mk v.2.o T)):=Sl.own (sz:=3) (n:=1) hB13 (Nat.le_refl _) (by decide) (by simp[pqC,bQR]);refine bQf (n:=qs.length) aQb rfl rfl rfl rfl rfl (by decide) rfl rfl ⟨_,rfl⟩ rfl rfl (hO6.ext hE613) hs13 (vQA _) (by unfold maxLen;omega) (by show(qs.length+1)*48<=_;omega) (by have:=(hE6.trans hE613).size;omega) ?_;intro PA2 pc2 w14 hm14 hO14 hmv14;have hM614:Mod (aQx PA) w6 w14:=(Mod.of_ext (aQx PA) hE613).trans hm14 (fun i hi=>.inl hi);have r14:∀k,aQx PA2 k->aQx PA k∨w13.heap.size<=k:=hmv14.rows
   have z613:=hE613.size;have st14:∀k,aQx PA2 k->aQx PA k∨w6.heap.size<=k:=fun k hk=>by
    rcases r14 k hk with h | h
    ·exact .inl h
    ·exact .inr (by omega)
   refine aQa ((k+1:Nat):Int) (by show((k:Nat):Int)+1=_;omega) (by omega) ?_;rw[show qs.flatMap pqC++pqC (v.1,Pr.mk v.2.o T)=(qs++ [(v.1,Pr.mk v.2.o T)]).flatMap pqC by rw[List.flatMap_append];simp] at hO14;have hnone:(qs.map (·.2))[ix]? =none:=List.getElem?_eq_none_iff.2 (by rw[List.length_map];omega);refine⟨(k+1,qs++ [(v.1,Pr.mk v.2.o T)],PA2,pc2),by simp only[List.length_append];rfl,⟨hM614.ext hE6 (fun i hi=>(hrO i hi).1),hkn,?_,by simp only;rw[List.length_append];exact hO14,fun q hq=>?_,hpl7⟩,by show vs.length-(k+1)<vs.length-k;omega⟩
   ·simp only;rw[hins];unfold mQ4;rw[hix,hnone,List.map_append];rfl
   ·rcases List.mem_append.1 hq with hq | hq
    ·exact(hD6 q hq).step hM614 st14
    ·rw[List.mem_singleton.1 hq];have h0:DgO w6 (aQx PA) p.nm.length v.1 v.2.o:=⟨sbv.ext hE6,stv,fun ad ea h0 h=>by have:=SB.lt sbv ad ea h0;have:=(hrO _ h).1;omega⟩
     exact h0.step hM614 st14
 have hkn:k=vs.length:=by simp only at c2;omega
 rw[List.take_of_length_le (by rw[List.length_map];omega)] at hqs hpl6;rw[<-hqs] at hqi;obtain⟨hpa,hfP⟩:=hqi.pa hvi (fun c hc=>(aQH.1 hc).1);have hprs:prs (qs.map (fun q=>(q.1,q.2.t)))=qs.map (·.2):=oQd (fun q hq=>(hD6 q hq).st);rw[if_neg (by rw[hver.2 hpl6];decide)] at hedL;have hqt:∀q∈qs,bQE q.2.t=true/\(∀b∈q.2.t,b<256)/\q.2.t.length<=1000000:=fun q hq=>by
  refine rQw (P:=fun t=>bQE t=true/\(∀b∈t,b<256)/\t.length<=1000000) (vs.map (·.2)) (fun u hu=>?_) q.2 (by rw[<-hqs];exact List.mem_map.2 ⟨q,hq,rfl⟩);have hu1:=hpl6 u hu;obtain⟨u0,hu0,rfl⟩:=List.mem_map.1 hu;obtain⟨a1,a2,a3⟩:=hvb u0 hu0;refine⟨hu1,fun b hb=>?_,?_⟩
  ·rcases List.mem_append.1 hb with hb | hb
   ·exact a1 b hb
   ·exact gQx hB.f8 _ _ b hb
  ·have:=fQl p.f u0.2.a (a+s.length+1);rw[List.length_append];omega
 have hdd:=Ext.drew w6;refine aQm aQb (Ext w6) 8 [(true,0),(true,1),(true,2),(true,3),(true,4),(true,5),(false,6),(true,7)] (by kernel_rfl) hdd ?_;refine aQy (v:=.slice p.NA p.nn p.nc) (fun w' hw'=>((K.blk.ext hE06).ext hw').cell 0) ?_;refine aQw (vs:=d.cells) rfl (fun w' hw' k u hk=>by rw[((hB1.ext (hE13.trans (hE4.trans (hE5.trans hE6)))).ext hw').cell];exact hk) ?_;have hE0d:=hE06.trans hdd;refine call (nQ2 p.NA p.nn p.nc p.nm d o PA qs.length pc (qs.map (fun q=>(q.1,q.2.t))) p.nm.length hB.n4 rfl hB.nb (fun s hs=>by have:=hB.nl s hs;omega) (fun q hq=>by
  obtain⟨q0,hq0,rfl⟩:=List.mem_map.1 hq;obtain⟨t1,t2,t3⟩:=hqt q0 hq0;exact⟨(eQ1 hk (hD6 q0 hq0).st).1,t1,t2,t3⟩) w6.drew (K.nms.ext hE0d) (hd.ext hE0d) sd ⟨by rw[<-oQe];exact(hO6.ext hdd).sl,by rw[List.length_map]⟩ (fun q hq=>by
  obtain⟨q0,hq0,rfl⟩:=List.mem_map.1 hq;exact(hD6 q0 hq0).sb.ext hdd) hne (by rw[hprs];exact hpa)) ?_
 rintro _ w7 ⟨A7,c7,rfl,hE7,hS7⟩;refine⟨hdd.trans hE7,?_⟩;rw[hprs,eQI p.nm.length 0 (aQW p.nm.length o) hne hfP,hSg] at hS7 ⊢;exact⟨_,hedL,A7,c7,rfl,hE0d.trans hE7,hS7⟩
end
section
open Go Go.RowKit
theorem tQW {nm:List (List Nat)}{n d0:Nat}{inc:tQA}(hi:∀r ln d k g q,inc r ln d k g= .error q->q.e≠0):∀(ls:List (List Nat))(ln at_:Nat)(k:BF)(op:List Se)(g:Gs)(q:Pl),rdL nm n d0 inc ls ln at_ k op g= .error q->q.e≠0
 | [],ln,at_,k,op,g,q,h=>by
  cases op with
  | nil=>simp[rdL] at h
  | cons x op=>simp only[rdL,Except.error.injEq] at h;rw[<-h];exact(by decide:(72:Int)≠0)
 | s::ls,ln,at_,k,op,g,q,h=>by
  have ih:=fun k op g h=>tQW (nm:=nm) (n:=n) (d0:=d0) hi ls (ln+1) (at_+s.length+1) k op g q h
  rw[rdL.eq_def] at h;simp only at h;cases hdir:bQc s with
  | txt=>
   rw[hdir] at h;simp only at h;cases ha:fQ0 (s++ [10]) n at_ k g with
   | none=>rw[ha] at h;cases h;exact(by decide:(2:Int)≠0)
   | some g1=>rw[ha] at h;exact ih _ _ _ h
  | ifd r=>
   rw[hdir] at h;simp only at h;cases hs:gQ9 nm r with
   | error e=>rw[hs] at h;cases h;exact nQ9 hs
   | ok d=>
    rw[hs] at h;simp only at h;split at h
    ·cases h;exact(by decide:(2:Int)≠0)
    ·exact ih _ _ _ h
  | inc r=>
   rw[hdir] at h;simp only at h;cases hs:inc r (ln+1) (d0+op.length) k g with
   | error e=>rw[hs] at h;cases h;exact hi _ _ _ _ _ _ hs
   | ok g1=>rw[hs] at h;exact ih _ _ _ h
  | elif r=>
   rw[hdir] at h;cases op with
   | nil=>cases h;exact(by decide:(72:Int)≠0)
   | cons y op=>
    simp only at h;split at h
    ·cases h;exact(by decide:(71:Int)≠0)
    ·cases hs:gQ9 nm r with
     | error e=>rw[hs] at h;cases h;exact nQ9 hs
     | ok d=>rw[hs] at h;exact ih _ _ _ h
  | els=>
   rw[hdir] at h;cases op with
   | nil=>cases h;exact(by decide:(72:Int)≠0)
   | cons y op=>
    simp only at h;split at h
    ·cases h;exact(by decide:(71:Int)≠0)
    ·exact ih _ _ _ h
  | en=>
   rw[hdir] at h;cases op with
   | nil=>cases h;exact(by decide:(72:Int)≠0)
   | cons y op=>exact ih y.ou op {g with fr:=true} h
theorem vQB {ix:List Nat->Option Nat}{rd s:List Nat}{e:Int}(h:mQy ix rd s= .error e):e≠0:=by
 rw[uQO] at h;split at h
 ·cases h;decide
 ·split at h
  ·cases h;decide
  ·split at h
   ·cases h;decide
   ·cases h
theorem sQ2 {nm:List (List Nat)}{t:List Nat}{q:Pl}(h:cQJ nm (fF t) [102]= .error q):q.e≠0:=by
 unfold cQJ at h;split at h
 ·cases h;decide
 cases hfe:bQ6 (fF t)with
 | some p=>rw[hfe] at h;cases h;exact lQo hfe
 | none=>
  rw[hfe] at h;simp only at h;cases hix:ixN ((fF t).map (·.1)) [102] with
  | none=>rw[hix] at h;cases h;decide
  | some n=>
   rw[hix] at h;simp only at h;have hn:n<(fF t).length:=by have:=fQD hix;simpa using this
   have h0:n=0:=by simpa [fF] using hn
   subst h0;rw[rdF] at h;refine tQW (fun r ln d k g q hi=>?_) _ _ _ _ _ _ _ h;split at hi
   ·rename_i e he;cases hi;exact vQB he
   ·rename_i m he;exact absurd he (mQ3 t (by simp) (e:=0) _)
theorem iQf:∀(l:List Nat),∀s∈aQi l,∀b∈s,b∈l
 | []=>fun s hs=>by simp[aQi] at hs
 | c::l=>by
  have ih:=iQf l;intro s hs b hb;unfold aQi at hs;split at hs
  ·rcases List.mem_cons.1 hs with rfl | hs
   ·cases hb
   ·exact List.mem_cons_of_mem _ (ih s hs b hb)
  ·cases hl:aQi l with
   | nil=>rw[hl] at hs;rw[List.mem_singleton.1 hs] at hb;rw[List.mem_singleton.1 hb];simp
   | cons t ls=>
    rw[hl] at hs ih;rcases List.mem_cons.1 hs with rfl | hs
    ·rcases List.mem_cons.1 hb with rfl | hb
     ·simp
     ·exact List.mem_cons_of_mem _ (ih t (by simp) b hb)
    ·exact List.mem_cons_of_mem _ (ih s (by simp[hs]) b hb)
theorem wQ2 {f:List Nat}(hf:∀b∈f,b<256)(hfl:f.length<=60000)(c:Nat):∀(es:List Ed)(st:List Nat×Nat),(∀e∈es,(∀b∈e.tx,b<256)/\e.tx.length<=1000)->(∀b∈st.1,b<256)->
  (∀b∈(es.foldl (dQe f c) st).1,b<256)/\(es.foldl (dQe f c) st).1.length<=st.1.length+es.length*70000
 | [],st,_,h=>⟨h,by simp⟩
 | e::es,st,he,h=>by
  obtain⟨e1,e2⟩:=he e (by simp);have hcl:=fQl f st.2 e.fr.toNat;have hst:(∀b∈(dQe f c st e).1,b<256)/\(dQe f c st e).1.length<=st.1.length+70000:=by
   unfold dQe;split
   ·refine⟨fun b hb=>?_,by simp only[List.length_append];omega⟩;simp only[List.mem_append] at hb;rcases hb with(hb | hb) | hb
    ·exact h b hb
    ·exact gQx hf _ _ b hb
    ·exact e1 b hb
   ·exact⟨h,by omega⟩
  obtain⟨i1,i2⟩:=wQ2 hf hfl c es (dQe f c st e) (fun b hb=>he b (by simp[hb])) hst.1;rw[List.foldl_cons,List.length_cons,Nat.add_mul,Nat.one_mul];exact⟨i1,by omega⟩
theorem wQ3 {f:List Nat}(hf:∀b∈f,b<256)(hfl:f.length<=60000){stop a:Nat}{es:List Ed}(he:∀e∈es,(∀b∈e.tx,b<256)/\e.tx.length<=1000)(hl:es.length<=10)(c:Nat):(∀b∈lQ0 f stop a es c,b<256)/\(lQ0 f stop a es c).length<=1000000:=by
 obtain⟨h1,h2⟩:=wQ2 hf hfl c es ([],a) he (fun b hb=>by cases hb);unfold lQ0;refine⟨fun b hb=>?_,?_⟩
 ·rcases List.mem_append.1 hb with hb | hb
  ·exact h1 b hb
  ·exact gQx hf _ _ b hb
 ·have:=fQl f (es.foldl (dQe f c) ([],a)).2 stop;have:=Nat.mul_le_mul_right 70000 hl;rw[List.length_append];simp only[List.length_nil] at h2;omega
def vQR (s:List Nat):Prop:=(∀b∈s,b<256)/\s.length<=1000000
theorem tQX {nm:List (List Nat)}(hb:aQ2 nm)(h:∀s∈nm,s.length<=1000)(v:Nat)(ng:Bool):vQR (ifT nm v ng):=by
 refine⟨fun b hb2=>?_,?_⟩
 ·unfold ifT at hb2;simp only[List.mem_append] at hb2;rcases hb2 with hb2 | hb2 | hb2
  ·exact(by decide:∀b∈pIf,b<256) b hb2
  ·cases ng with
   | true=>
        have:b=33:=by simpa using hb2
        rw[this];decide
   | false=>simp at hb2
  ·cases hv:nm[v]? with
   | none=>rw[hv] at hb2;simp at hb2
   | some s=>rw[hv] at hb2;exact(hb s (List.mem_of_getElem? hv)).1 b hb2
 ·unfold ifT;have h1:((nm[v]?).getD []).length<=1000:=by
   cases hv:nm[v]? with
   | none=>simp
   | some s=>exact h s (List.mem_of_getElem? hv)
  have h2:(if ng then [33] else([]:List Nat)).length<=1:=by cases ng<;>simp
  have h3:pIf.length=4:=rfl;simp only[List.length_append];omega
theorem xQM {nm:List (List Nat)}(hnb:aQ2 nm)(hnl:∀s∈nm,s.length<=1000){f:List Nat}(hf:∀b∈f,b<256)(hfl:f.length<=60000){es:List Ed}(he:∀e∈es,(∀b∈e.tx,b<256)/\e.tx.length<=1000)(hl:es.length<=10){S:List Nat}(hS:S.length<=16){a:Nat}{s:List Nat}(hs:vQR s){L:List (List Nat)}(h:edL nm f es S a s=some L):
  L.length<=16000048/\∀u∈L,vQR u:=by
 unfold edL at h;split at h
 ·rw[<-Option.some.inj h];exact⟨by show 1<=16000048;decide,fun u hu=>by rw[List.mem_singleton.1 hu];exact hs⟩
 ·rename_i h0;split at h
  ·cases h
  ·split at h
   ·cases h
   ·rw[<-Option.some.inj h];have hne:S≠ []:=fun e=>by
     apply h0;unfold iQb;rw[List.filter_eq_nil_iff];intro b hb;rw[e];simp[kQz]
    have hm:∀e∈iQb es S a s,(∀b∈e.tx,b<256)/\e.tx.length<=1000:=fun e hm=>he e (List.mem_filter.1 hm).1
    have hml:(iQb es S a s).length<=10:=Nat.le_trans (List.length_filter_le _ _) hl;obtain⟨h1,h2⟩:=gQL (nm:=nm) (f:=lQ0 f (a+s.length+1) a (iQb es S a s)) (P:=vQR) (M:=1000000) (fun v ng=>tQX hnb hnl v ng) ⟨by decide,by decide⟩ ⟨by decide,by decide⟩ nm.length 0 S hne (fun c hc=>by
     obtain⟨v1,v2⟩:=wQ3 hf hfl (stop:=a+s.length+1) (a:=a) hm hml c;obtain⟨l1,l2⟩:=hQd (lQ0 f (a+s.length+1) a (iQb es S a s) c);exact⟨fun u hu=>⟨fun b hb=>v1 b (iQf _ u hu b hb),by have:=l2 u hu;omega⟩,by omega⟩)
    have:=Nat.mul_le_mul_right (1000000+3) hS;exact⟨by omega,h1⟩
def ApR (nm:List (List Nat))(d:BF)(g:Gs)(f:List Nat)(es:List Ed)(ls:List (List Nat))(i:Nat)(L:List (List Nat)):Prop:=
 apL nm d g f es ls 0=match apL nm d g f es (ls.drop i) (unl (ls.take i)).length with
  | none=>none
  | some m=>some (L++m)
theorem ApR.zero {nm:List (List Nat)}{d:BF}{g:Gs}{f:List Nat}{es:List Ed}{ls:List (List Nat)}:ApR nm d g f es ls 0 []:=by
 unfold ApR;show apL nm d g f es ls 0=match apL nm d g f es ls 0 with
  | none=>none
  | some m=>some ([]++m)
 cases apL nm d g f es ls 0<;>rfl
theorem oQf {ls:List (List Nat)}{i:Nat}{s:List Nat}(h:ls[i]? =some s):(unl (ls.take (i+1))).length=(unl (ls.take i)).length+s.length+1:=by
 rw[List.take_add_one,h];show(unl (ls.take i++ [s])).length=_;rw[jQ7];simp only[List.length_append,List.length_singleton];omega
theorem ApR.next {nm:List (List Nat)}{d:BF}{g:Gs}{f:List Nat}{es:List Ed}{ls:List (List Nat)}{i:Nat}{L l:List (List Nat)}{s:List Nat}(h:ApR nm d g f es ls i L)(hs:ls[i]? =some s)
  (hl:(if bQc s= .txt then edL nm f es (aQW nm.length (dQd d (vQO g (unl (ls.take i)).length))) (unl (ls.take i)).length s else some [s])=some l):ApR nm d g f es ls (i+1) (L++l):=by
 have hlt:=(List.getElem?_eq_some_iff.1 hs).1;have hd:ls.drop i=s::ls.drop (i+1):=by
  rw[List.drop_eq_getElem_cons hlt];congr 1;rw[List.getElem?_eq_getElem hlt] at hs;exact Option.some.inj hs
 unfold ApR at h ⊢;rw[hd,apL,hl] at h;rw[oQf hs,h];simp only;cases apL nm d g f es (ls.drop (i+1)) ((unl (ls.take i)).length+s.length+1)with
 | none=>rfl
 | some m=>simp only[List.append_assoc]
theorem ApR.none {nm:List (List Nat)}{d:BF}{g:Gs}{f:List Nat}{es:List Ed}{ls:List (List Nat)}{i:Nat}{L:List (List Nat)}{s:List Nat}(h:ApR nm d g f es ls i L)(hs:ls[i]? =some s)
  (hl:(if bQc s= .txt then edL nm f es (aQW nm.length (dQd d (vQO g (unl (ls.take i)).length))) (unl (ls.take i)).length s else some [s])=Option.none):apL nm d g f es ls 0=Option.none:=by
 have hlt:=(List.getElem?_eq_some_iff.1 hs).1;have hd:ls.drop i=s::ls.drop (i+1):=by
  rw[List.drop_eq_getElem_cons hlt];congr 1;rw[List.getElem?_eq_getElem hlt] at hs;exact Option.some.inj hs
 unfold ApR at h;rw[hd,apL,hl] at h;exact h
theorem ApR.fin {nm:List (List Nat)}{d:BF}{g:Gs}{f:List Nat}{es:List Ed}{ls:List (List Nat)}{i:Nat}{L:List (List Nat)}(h:ApR nm d g f es ls i L)(hi:ls.length<=i):apL nm d g f es ls 0=some L:=by
 unfold ApR at h;rw[List.drop_eq_nil_of_le hi] at h;rw[h];show some (L++ [])=some L;rw[List.append_nil]
theorem rQy:∀{ls:List (List Nat)}{p i:Nat}{s:List Nat},ls[i]? =some s->(p+(unl (ls.take i)).length,s)∈eQf p ls
 | [],p,i,s,h=>by simp at h
 | t::ls,p,0,s,h=>by
  have:t=s:=by simpa using h
  subst this;simp[eQf,unl]
 | t::ls,p,i+1,s,h=>by
  have:=rQy (p:=p+t.length+1) (ls:=ls) (i:=i) (s:=s) (by simpa using h);refine List.mem_cons_of_mem _ ?_;rw[List.take_succ_cons,aQ7];simp only[List.length_append,List.length_cons];rw[show p+(t.length+((unl (ls.take i)).length+1))=p+t.length+1+(unl (ls.take i)).length by omega];exact this
theorem tQY {nm:List (List Nat)}{n d0:Nat}{inc:tQA}(hi:∀r ln d k g g',inc r ln d k g≠ .ok g'):∀(ls:List (List Nat))(ln at_:Nat)(k:BF)(op:List Se)(g g':Gs),rdL nm n d0 inc ls ln at_ k op g= .ok g'->∀q∈eQf at_ ls,bQc q.2= .txt->∃k',(q.1,q.2,k')∈txL nm ls at_ k (opM op)
 | [],ln,at_,k,op,g,g',_,q,hq,_=>by cases hq
 | s::ls,ln,at_,k,op,g,g',h,q,hq,hqd=>by
  have ih:=fun k op g h hq=>tQY (nm:=nm) (n:=n) (d0:=d0) hi ls (ln+1) (at_+s.length+1) k op g g' h q hq hqd
  rw[rdL.eq_def] at h;simp only at h;rw[txL.eq_def];simp only;rw[eQf] at hq;cases hdir:bQc s with
  | txt=>
   rw[hdir] at h;simp only at h ⊢;cases ha:fQ0 (s++ [10]) n at_ k g with
   | none=>rw[ha] at h;cases h
   | some g1=>
    rw[ha] at h;rcases List.mem_cons.1 hq with rfl | hq
    ·exact⟨k,List.mem_cons_self⟩
    ·obtain⟨k',hk'⟩:=ih _ _ _ h hq;exact⟨k',List.mem_cons_of_mem _ hk'⟩
  | ifd r=>
   rw[hdir] at h;simp only at h ⊢;rcases List.mem_cons.1 hq with rfl | hq
   ·rw[hdir] at hqd;cases hqd
   cases hs:gQ9 nm r with
   | error e=>rw[hs] at h;cases h
   | ok d=>
    rw[hs] at h;simp only at h ⊢;split at h
    ·cases h
    ·exact ih _ _ _ h hq
  | inc r=>
   rw[hdir] at h;simp only at h;cases hs:inc r (ln+1) (d0+op.length) k g with
   | error e=>rw[hs] at h;cases h
   | ok g1=>exact absurd hs (hi _ _ _ _ _ _)
  | elif r=>
   rw[hdir] at h;rcases List.mem_cons.1 hq with rfl | hq
   ·rw[hdir] at hqd;cases hqd
   cases op with
   | nil=>cases h
   | cons y op=>
    simp only at h ⊢;split at h
    ·cases h
    ·cases hs:gQ9 nm r with
     | error e=>rw[hs] at h;cases h
     | ok d=>rw[hs] at h;exact ih _ _ _ h hq
  | els=>
   rw[hdir] at h;rcases List.mem_cons.1 hq with rfl | hq
   ·rw[hdir] at hqd;cases hqd
   cases op with
   | nil=>cases h
   | cons y op=>
    simp only at h ⊢;split at h
    ·cases h
    ·exact ih y.re ({y with ot:=true}::op) {g with fr:=true} h hq
  | en=>
   rw[hdir] at h;rcases List.mem_cons.1 hq with rfl | hq
   ·rw[hdir] at hqd;cases hqd
   cases op with
   | nil=>cases h
   | cons y op=>exact ih y.ou op {g with fr:=true} h hq
theorem rQz {nm:List (List Nat)}{t:List Nat}{g:Gs}(hr:cQJ nm (fF t) [102]= .ok g){q:Nat×List Nat}(hq:q∈eQf 0 (aQi t))(hd:bQc q.2= .txt):∃k i x,SegAt g q.1 k i x:=by
 obtain⟨ht,h1,h2,h3⟩:=lQN hr;have key:∃k',(q.1,q.2,k')∈txL nm (aQi t) 0 (fun _=>true) []:=by
  unfold cQJ at hr;split at hr
  ·cases hr
  cases hfe:bQ6 (fF t)with
  | some p=>rw[hfe] at hr;cases hr
  | none=>
   rw[hfe] at hr;simp only at hr;cases hix:ixN ((fF t).map (·.1)) [102] with
   | none=>rw[hix] at hr;cases hr
   | some n=>
    rw[hix] at hr;simp only at hr;have hn:n<(fF t).length:=by have:=fQD hix;simpa using this
    have h0:n=0:=by simpa [fF] using hn
    subst h0;have hx:(fF t)[0]? =some ([102],t):=rfl;rw[rdF,hx] at hr;simp only[Option.map_some,Option.getD_some] at hr;exact tQY (fun r ln d' k' g1 g2 hi=>by
     split at hi
     ·cases hi
     ·rename_i m he;exact mQ3 t (by simp) (e:=0) _ he) (aQi t) 0 0 (fun _=>true) [] ⟨[],[],true⟩ g hr q hq hd
 obtain⟨k',hk⟩:=key;rw[<-h1] at hk;obtain⟨i,x,hs,_⟩:=wQW h3 h2 hk;exact⟨k',i,x,hs⟩
end
section
open Go Go.RowKit
section
variable {P:Program} {ops:Array Oper} {md:Region.Mode} {C:World->Prop} {Q:Exit->Act->World->Prop}
def PanE (N:Slots)(T:Env)(pan:List PanicEntry->World->Prop)(Q:Exit->Act->World->Prop):Exit->Act->World->Prop
 | .panic ch,a,w=>Fits N T a/\pan ch w
 | e,a,w=>Q e a w
def rQA (T:Env)(d:Option Tmp):Bool:=match d with
 | none=>true
 | some d=> !(fQq d T)
theorem PanE.put {N:Slots}{T:Env}{pan:List PanicEntry->World->Prop}{Q:Exit->Act->World->Prop}{ch:List PanicEntry}{a:Act}{d:Option Tmp}{v:Value}{w:World}(hd:rQA T d=true)(h:PanE N T pan Q (.panic ch) (a.put d v) w):PanE N T pan Q (.panic ch) a w:=by
 obtain⟨h1,h3⟩:=h;cases d with
 | none=>exact⟨h1,h3⟩
 | some d=>
  refine⟨⟨by simpa [Act.put] using h1.size,by simpa [Act.put] using h1.defers,fun k x hk=>?_⟩,h3⟩;have h4:=h1.has k x hk;have hne:d≠k:=fun e=>by
   subst e;have h5:fQq d T=false:=by simpa [rQA] using hd
   rw[gQz h5] at hk;cases hk
  simpa [Act.put,hne] using h4
theorem PanE.imp {c:Cx}{T:Env}{pan:List PanicEntry->World->Prop}{Q:cQB}(hp:∀ch w,pan ch w->Q (.panic ch) T w):∀(e:Exit)(a:Act)(w:World),PanE c.N T pan (Up c Q) e a w->Up c Q e a w:=fun e a w h=>by
 cases e<;>first | exact h | (obtain⟨h1,h3⟩:=h;exact⟨T,h1,hp _ _ h3⟩)
theorem oQ9 {N:Slots}{T:Env}{pan:List PanicEntry->World->Prop}{n i:Nat}{oi:Oper}{v:Value}{L:Array Bool->Act->World->Prop}(hi:ops[i]? =some oi)(hsel:∀(j:Nat)(o:Oper) cs b,ops[j]? =some o->o.op≠ .select cs b)(hT:rQA T oi.dst=true)
  (hs:rQ3 md ops n) (hin:i<n) (hdone:∀listed a w,L listed a w->∀j∈Region.ready md ops listed,n<=j):
  ∀(f:Nat) (listed:Array Bool) (a:Act) (w:World),HeadInv md ops n listed->
   (∀j oj,ops[j]? =some oj->j≠i->listed.getD j true=false->(∀e∈oj.after,Region.binds md e=true->e.on≠i)->oi.apart ops oj=true)->
   i∈Region.ready md ops listed->YieldsIf P ops C oi v a->C w->
   wpG P md ops (PanE N T pan Q) C n L f (listed.setIfInBounds i true) (a.put oi.dst v) w->wpG P md ops (PanE N T pan Q) C n L (f+1) listed a w:=by
 intro f;induction f with
 | zero=>
  intro listed a w inv _ hr hy hC H;have hun:=(mem_ready.1 hr).1;refine⟨fun h=>(by rw[h] at hr;cases hr),fun j hj=>?_⟩;have hjn:=fQ8 hs inv hin hun j hj;refine⟨hjn,?_⟩;by_cases hji:j=i
  ·subst hji;exact hy.wpOp hi hC ⟨hC,H⟩
  ·have:=hdone _ _ _ H j (ready_mono hj hji);omega
 | succ f ih=>
  intro listed a w inv hfree hr hy hC H;have hun:=(mem_ready.1 hr).1;refine⟨fun h=>(by rw[h] at hr;cases hr),fun j hj=>?_⟩;have hjn:=fQ8 hs inv hin hun j hj;refine⟨hjn,?_⟩;by_cases hji:j=i
  ·subst hji;exact hy.wpOp hi hC ⟨hC,H⟩
  ·have h1:=(H.2 j (ready_mono hj hji)).2;obtain⟨hjun,oj,hoj,hall⟩:=mem_ready.1 hj;have hnot:∀e∈oj.after,Region.binds md e=true->e.on≠i:=fun e he hb heq=>by
    have h1:=hall e he hb;rw[heq,getD_both hun] at h1;cases h1
   have h2:=wpOp_putIf hoj (hfree j oj hoj hji hjun hnot) (fun cs b=>hsel i oi cs b hi) (fun cs b=>hsel j oj cs b hoj) (fun _ _ _ h=>PanE.put hT h) hy h1;have hfree':∀k ok,ops[k]? =some ok->k≠i->(listed.setIfInBounds j true).getD k true=false->
     (∀e∈ok.after,Region.binds md e=true->e.on≠i)->oi.apart ops ok=true:=fun k ok hk hki hun hno=>by
    refine hfree k ok hk hki ?_ hno;by_cases hjk:j=k
    ·subst hjk;exact hjun
    ·rw[getD_set_ne true hjk] at hun;exact hun
   refine wpOp_mono (fun a' w' h3=>⟨h3.2.1,ih (listed.setIfInBounds j true) a' w' (inv.set hj hjn) hfree' (ready_mono hr (Ne.symm hji)) h3.1 h3.2.1 ?_⟩) h2;rw[Array.setIfInBounds_comm _ _ hji];exact h3.2.2
end
section
variable {c:Cx} {S:Env} {a:Act}
def fQX (c:Cx)(T:Env)(pan:List PanicEntry->World->Prop)(all:List Oper)(C:World->Prop):List (Bool×Nat)->Env->World->(Env->World->Prop)->Prop
 | [],S,w,K=>K S w
 | (true,k)::l,S,w,K=>match gQO all k with
  | some o=>eQZ all o S (fun S=>oQu c o S C (fun S=>fQX c T pan all C l S w K)) (fun S=>bQq c S o.dst (.v undef) (fun S=>fQX c T pan all C l S w K))
  | none=>False
 | (false,k)::l,S,w,K=>match gQO all k with
  | some o=>eQZ all o S (fun S=>fQ3 c o S w (fun S w=>C w/\fQX c T pan all C l S w K) (fun e S w=>match e with
   | .panic ch=>Has T S/\pan ch w
   | _=>False)) (fun S=>bQq c S o.dst (.v undef) (fun S=>fQX c T pan all C l S w K))
  | none=>False
theorem dQv (hg:c.g.Ok){md:Region.Mode}{ops:List Oper}{C:World->Prop}{Q:Exit->Act->World->Prop}{n:Nat}(hs:Region.noSelect ops.toArray=true){T:Env}(hT:ops.all (fun o=>rQA T o.dst)=true)(hk:rQ3 md ops.toArray n){K:Env->World->Prop}{pan:List PanicEntry->World->Prop}:
  ∀(l:List (Bool×Nat)) (listed:Array Bool) (S:Env) (a:Act) (w:World),HeadInv md ops.toArray n listed->fQu md ops.toArray n l listed=true->fQX c T pan ops C l S w K->Fits c.N S a->C w->
  wpG c.g.P md ops.toArray (PanE c.N T pan Q) C n (fun listed' a' w'=>Region.seqB md ops.toArray (ops.toArray.size-n) n listed'=true/\∃S',Fits c.N S' a'/\K S' w') l.length listed a w
 | [],listed,S,a,w,inv,hB,h,hf,hC=>⟨hB,S,hf,h⟩
 | (true,k)::l,listed,S,a,w,inv,hB,h,hf,hC=>by
  simp only[fQu,Bool.and_eq_true] at hB;obtain⟨⟨⟨hkn,hr⟩,hfr⟩,hB'⟩:=hB;have hkn:k<n:=by rw[Nat.blt_eq] at hkn;exact hkn
  have hr':k∈Region.ready md ops.toArray listed:=by simpa using hr
  obtain⟨_,o,ho,_⟩:=mem_ready.1 hr';have hn:gQO ops k=some o:=by rw[dQx];simpa using ho
  simp only[fQX,hn] at h;have key:∃v,YieldsIf c.g.P ops.toArray C o v a/\∃S',Fits c.N S' (a.put o.dst v)/\fQX c T pan ops C l S' w K:=by
   rcases bQX h hf with⟨hw,S1,hf1,h1⟩ | ⟨hw,S1,hf1,h1⟩
   ·obtain⟨v,h2,h3⟩:=dQ0 hg h1 hf1;exact⟨v,.inl ⟨hw,h2⟩,h3⟩
   ·exact⟨undef,.inr ⟨hw,rfl⟩,aQo (e:=.v undef) h1 hf1⟩
  obtain⟨v,hy,S',hf',h'⟩:=key;exact oQ9 ho (Region.noSelect_spec hs) (List.all_eq_true.1 hT o (List.mem_of_getElem? (by simpa using ho))) hk hkn (fun listed' a' w' hL=>seqB_ready hL.1) l.length listed a w inv (Region.free_spec ho hfr) hr' hy hC
   (dQv hg hs hT hk l _ S' _ w (inv.set hr' hkn) hB' h' hf' hC)
 | (false,k)::l,listed,S,a,w,inv,hB,h,hf,hC=>by
  simp only[fQu,Bool.and_eq_true,decide_eq_true_eq] at hB;obtain⟨⟨hkn,hr⟩,hB'⟩:=hB;have hkn:k<n:=by rw[Nat.blt_eq] at hkn;exact hkn
  have hr':k∈Region.ready md ops.toArray listed:=by rw[hr];simp
  obtain⟨_,o,ho,_⟩:=mem_ready.1 hr';have hn:gQO ops k=some o:=by rw[dQx];simpa using ho
  simp only[fQX,hn] at h;have inv':=inv.set hr' hkn;refine⟨fun h0=>(by rw[hr] at h0;cases h0),fun i hi=>?_⟩;rw[hr] at hi;have hik:i=k:=by simpa using hi
  subst hik;refine⟨hkn,?_⟩;unfold wpOp;simp only[ho];rcases bQX h hf with⟨hw,S1,hf1,h1⟩ | ⟨hw,S1,hf1,h1⟩
  ·rw[if_pos hw];refine .inl ?_;have h2:=cQC hg h1 hf1;have h3:=Oper.wp_mono (K':=fun a' w'=>C w'/\wpG c.g.P md ops.toArray (PanE c.N T pan Q) C n (fun listed' a' w'=>Region.seqB md ops.toArray (ops.toArray.size-n) n listed'=true/\∃S',Fits c.N S' a'/\K S' w') l.length (listed.setIfInBounds i true) a' w')
    (fun a' w' ⟨S',hf',hc',hk'⟩=>⟨hc',dQv hg hs hT hk l _ S' a' w' inv' hB' hk' hf' hc'⟩) h2
   unfold Oper.wp at h3 ⊢;generalize (execOp a.eval o).run c.g.P w=r at*;cases r with
   | ok nx w'=>
    cases nx<;>simp only[Oper.upon] at h3 ⊢ <;> try exact h3
    exact h3.mono fun e w'' he=>by
     cases e with
     | returned v=>exact he
     | panicked ch=>obtain⟨_,hfz,he⟩:=he;exact⟨he.1.fits hfz,he.2⟩
     | outgrown=>obtain⟨_,_,_,_,he⟩:=he;exact he.elim
   | halt x w'=>cases x<;>simp only[Oper.upon] at h3 ⊢ <;> first | exact h3 | (obtain⟨_,hfz,h3⟩:=h3;exact⟨h3.1.fits hfz,h3.2⟩) | (obtain⟨_,_,h3⟩:=h3;exact h3.elim)
  ·rw[if_neg (by rw[hw];decide)];obtain⟨S',hf',h'⟩:=aQo (e:=.v undef) h1 hf1;exact⟨hC,dQv hg hs hT hk l _ S' _ w inv' hB' h' hf' hC⟩
theorem pQa (hg:c.g.Ok){id:Nat}{ops:List Oper}{w:World}{Q:cQB}(T:Env)(hT:ops.all (fun o=>rQA T o.dst)=true)(pan:List PanicEntry->World->Prop)(hpan:∀ch w,pan ch w->Q (.panic ch) T w)(C:World->Prop)(n:Nat)(plan:List (Bool×Nat))
  (hB:(Region.noSelect ops.toArray&&Nat.beq plan.length n&&iQy .any ops.toArray n&&fQu .any ops.toArray n plan (Array.replicate ops.toArray.size false))=true) (hC:C w.drew)
  (h:fQX {c with named:=1000000} T pan ops C plan S w.drew (fun S w=>dQa c ops (ops.drop n) S w (fun S w=>Q .normal S w) (fun e S w=>match e with
   | .panic ch=>Has T S/\pan ch w
   | _=>False))):cQw c id ops S w Q:=by
 unfold cQw;intro a hf;simp only[Bool.and_eq_true] at hB;obtain⟨⟨⟨hs,hl⟩,hsk⟩,hpl⟩:=hB;have hl:=Nat.eq_of_beq_eq_true hl;have hk:=dQZ hsk;have hnle:n<=ops.length:=by
  rcases hk with hk | hk
  ·rw[hk];simp
  ·have:=hk.1;simp at this;omega
 refine Code.wp_mono (PanE.imp hpan) (wp_region_any hg.mixed ?_);have inv0:HeadInv .any ops.toArray n (Array.replicate ops.toArray.size false):=
  ⟨by simp,fun j oj _ hl=>(by rw[getD_replicate_false] at hl;cases hl),fun t _ ht=>getD_in (by simpa using ht) (getD_replicate_false _ _)⟩
 have H:=dQv (c:={c with named:=1000000}) hg (Q:=Up c Q) hs hT hk plan _ S a _ inv0 hpl h hf hC;have hdl:(ops.drop n).length=ops.toArray.size-n:=by simp
 have H2:=dQC (Q:=PanE c.N T pan (Up c Q)) (g:=ops.toArray.size-n) (fun listed' a' w' hL=>by
  obtain⟨hq,S',hf',hk'⟩:=hL;have h2:=bQI (c:=c) hg ops _ _ _ _ hk' hf';have:=wpAny_of_seq (P:=c.g.P) (md:=.any) (ops:=ops.toArray) (Q':=PanE c.N T pan (Up c Q)) (ops.drop n) n listed' a' w' (fun j=>by simp) (by rw[hdl];exact hq) (bQF (fun e a w hq=>by
   cases e with
   | normal=>exact hq
   | panic ch=>obtain⟨_,hfz,h⟩:=hq;exact⟨h.1.fits hfz,h.2⟩
   | _=>exact absurd hq (by rintro⟨_,_,h⟩;exact h)) h2)
  rwa [hdl] at this) _ _ _ _ H
 rw[hl,show n+(ops.toArray.size-n)=ops.toArray.size by simp;omega] at H2;exact H2
end
end
end Go.Proofs.YtjabbbcdgmlojaaGreatDoor
