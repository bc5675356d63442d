/-
  What PPatchShares rests on, part 5 (wip/shake.py).
  Conditions: none.
-/
import Derived.Test.YtjabbbcdgmlojaaGreatDoorQPPatchSharesd
set_option linter.all false
set_option linter.deprecated false
set_option maxHeartbeats 12800000
namespace Go.Proofs.YtjabbbcdgmlojaaGreatDoor
open Go Go.RowKit
section
theorem SC {nm:List (List Nat)}{s:List Nat}{e:Int}(h:Yu nm s= .error e):e≠0:=by
 unfold Yu at h;split at h
 ·cases h
 ·cases h;split<;>decide
def ta:Except Int (List Nat)->Value
 | .ok l=>.tuple #[.string (Qe l),.int .i64 0]
 | .error e=>.tuple #[.string (Qe []),.int .i64 e]
theorem iQb (n:Nat)(o o':BF):QF n (λe=>o e && !o' e)=gz n (QF n o) o':=by
 unfold QF gz;rw[List.filter_filter];congr 1;funext c;rw[Bool.and_comm]
theorem td {M:Nat}:∀{ls:List (List Nat)},(∀s∈ls,s.length<=M)->(Qo ls).length<=ls.length*(M+1)
 | [],_=>by simp[Qo]
 | s::ls,h=>by
  have ih:=td (ls:=ls) (λt ht=>h t (by simp[ht]));have h1:=h s (by simp);rw[Wu,Xj,rv,Nat.one_mul];simp only[Qu,Xj];omega
theorem AO:∀(l:List Nat),(QT l).length<=l.length/\∀s∈QT l,s.length<=l.length
 | []=>⟨by simp[QT],λs hs=>by simp[QT] at hs⟩
 | b::l=>by
  obtain⟨h1,h2⟩:=AO l;unfold QT;split
  ·refine⟨by simp;omega,λs hs=>?_⟩;rcases QZ.1 hs with rfl | hs
   ·simp
   ·have:=h2 s hs;simp;omega
  ·cases hl:QT l with
   | nil=>refine⟨by simp,λs hs=>?_⟩;rw[QL.1 hs];simp
   | cons t ls=>
    rw[hl] at h1 h2;refine⟨by simp at h1 ⊢;omega,λs hs=>?_⟩;rcases QZ.1 hs with rfl | hs
    ·have:=h2 t (by simp);simp;omega
    ·have:=h2 s (by simp[hs]);simp;omega
theorem SD {nm:List (List Nat)}(h:∀s∈nm,s.length<=1000)(v:Nat)(ng:Bool):(ZA nm v ng).length<=2100:=by
 unfold ZA;have h1:((nm[v]?).getD []).length<=1000:=by
  cases hv:nm[v]? with
  | none=>simp
  | some s=>exact h s (QO hv)
 have h2:(if ng then [33] else([]:List Nat)).length<=1:=by cases ng<;>simp
 have h3:Zl.length=4:=rfl;simp only[Qu];omega
theorem iQc {nm:List (List Nat)}{f:Nat->List Nat}(hn:∀s∈nm,s.length<=1000){S:List Nat}(hS:S≠ [])(Il:S.length<=16)(h:∀c∈S,(f c).length<=2000)(k v:Nat):(Qo (XV nm f k v S)).length<=1000000000:=by
 obtain⟨h1,h2⟩:=kz (nm:=nm) (f:=f) (P:=λs=>s.length<=2100) (M:=2000) (λv ng=>SD hn v ng) (by decide) (by decide) k v S hS (λc hc=>by
  obtain⟨a,b⟩:=AO (f c);have:=h c hc;exact⟨λs hs=>by have:=b s hs;omega,by omega⟩)
 have h3:=td h1;have h4:S.length*(2000+3)<=16*2003:=Y1 _ Il;have h5:(XV nm f k v S).length*(2100+1)<=32048*2101:=Y1 _ (by omega);omega
theorem SE (n:Nat)(o:BF):(QF n o).length<=2^n:=by
 unfold QF;refine Zf (uG _ _) ?_;rw[List.length_range];exact QC _
theorem AP (NA:Option Addr)(nn nc:Nat)(nm:List (List Nat))(x:DV)(PA:Option Addr)(pn pc:Nat)(ps:List (DV×List Nat))(la:nm.length<=4)(VO:Ks nm)(KB:∀s∈nm,s.length<=1000)(bJ:∀q∈ps,(∀b∈q.2,b<256)/\q.2.length<=2000)(w:World)
  (hN:Sl w 1 NA nn nc (XW nm)) (hx:SB w x.A x.n x.c x.nd) (hP:SlS Ju 3 w PA pn pc ps) (yv:∀q∈ps,SB w q.1.A q.1.n q.1.c q.1.nd):
  Fn Tryz.prog 24 [.slice NA nn nc,Xm x.A x.n x.c x.r,.slice PA pn pc] w (λu w'=>u=ta (kx nm x ps)/\Ext w w'):=by
 have Xd:nm.length=nn:=by have:=hN.len;rw[bn] at this;omega
 have hk:nm.length<=12:=by omega
 have Jq:=hP.2;have lQu:=hP.1.cap;have mQN:=hP.1.le;simp only[maxLen] at lQu;refine vg (c:={c24 with cuts:=[]}) Qa Tryz.func24 rfl rfl rfl ?_;refine ZE (Zt Qa ?_);refine new (λw1 Qd Q3 Qh=>?_);refine new (λw2 Qg Zb Qw=>?_);refine new (λw3 Qk JI Qt=>?_);have Vt:=Qg.trans Qk;have QW:=Qd.trans Vt;have QQ:w1.heap.size≠w2.heap.size:=by omega
 refine ZE (vf Qa rfl rfl rfl rfl ⟨_,_,_,_,rfl,rfl,?_⟩);refine ZE (Zt Qa ?_);refine Qs (Qh.ext Vt) rfl ?_;refine XO (Sv NA nn nc nm x hk VO w3 (hN.ext QW) (hx.ext QW)) ?_ ?_
 rotate_left
 ·rintro ch w4 ⟨Xf,rfl,Qq⟩;refine W0 Qa rfl rfl (args:= #[.pointer (some ⟨w1.heap.size,0,none⟩),.pointer (some ⟨w2.heap.size,0,none⟩)]) (by simp) ((pL _ _ 1 w4 _ _ QQ ((Qw.ext Qk).ext Qq) (Qt.ext Qq)).mono ?_);rintro e u' w5 ⟨v,rfl,kM,aO⟩;refine⟨v,rfl,kM,?_⟩;refine Qx aO.1 rfl ?_;refine Qx aO.2.1 rfl ?_;have hm:kx nm x ps= .error 1:=by
   unfold kx;rw[Qf (by
    by_cases h1:ZM nm=true
    ·exact .inr (dK.2 (λh2=>Xf ⟨h1,h2⟩))
    ·exact .inl (by simpa using h1))]
  rw[hm];exact⟨rfl,aO.2.2.ext (QW.trans Qq) (λi hi=>by rcases hi with rfl | rfl<;>omega)⟩
 rintro _ w4 ⟨⟨Zq,Yd⟩,Qq⟩;have XL:=QW.trans Qq;have sx:=gy Yd;have JU:=(Qh.ext Vt).ext Qq;have lG:=(Qw.ext Qk).ext Qq;have eP:=Qt.ext Qq;have hm:kx nm x ps=if ae nm.length (QF nm.length (oD x)) ps=false then .error 290
   else if ps=[] then .ok []
   else if 1048576<(Qo (XV nm (fP (Zn ps)) nm.length 0 (QF nm.length (oD x)))).length then .error 2
   else .ok (Qo (XV nm (fP (Zn ps)) nm.length 0 (QF nm.length (oD x)))):=by
  rw[kx,if_neg (by rw[Zq,Yd];simp)]
 generalize kx nm x ps=M at*;have aQc:∀w',Ext w4 w'->ae nm.length (QF nm.length (oD x)) ps=false->∀w5,AN w1.heap.size w2.heap.size 290 w' w5->Value.tuple #[.string ⟨#[]⟩,.int .i64 290]=ta M/\Ext w w5:=λw' fW hc w5 hR=>by
  refine⟨by rw[hm,Qf hc];rfl,hR.2.2.ext (XL.trans fW) (λi hi=>by rcases hi with rfl | rfl<;>omega)⟩
 refine ZE (Zt Qa ?_);refine Qs JU rfl ?_;refine new (λw5 Qv KJ QK=>?_);refine Qz QK rfl (sc rfl) (λw6 WE _ Xo=>?_);have Xz:Ext w4 w6:=X9 Qv QK WE;have KY:=Qq.size;have mQf:=Xz.size;refine ZE (Zt Qa ?_);refine loop Qa [18] (λi:Nat=>[.int .i64 i]) (λi w'=>Mod (·=w4.heap.size) w6 w'/\i<=pn/\∃(R:DV) (oR:BF),Blk w' w4.heap.size 32 R.cells/\SB w' R.A R.n R.c R.nd/\Set1 nm.length R.nd R.r oR/\(∀ad,R.A=some ad->0<R.n->ad.block≠w4.heap.size)/\ae nm.length (QF nm.length (oD x)) ps=ae nm.length (QF nm.length oR) (ps.drop i)) (λi _=>pn-i) 0 rfl ⟨Mod.refl _ _,XJ _,x,oD x,Xo,(hx.ext XL).ext Xz,sx,λad ea h0=>by have:=SB.lt (hx.ext XL) ad ea h0;omega,rfl⟩ ?_;rintro i w7 ⟨Xb,hi,R,oR,Q6,Kt,sR,hRn,Jy⟩;have V7:Ext w4 w7:=Xb.ext Xz (λj hj=>by omega);have K4:=XL.trans V7;have mQg:=V7.size;have nD:=lG.ext V7;have nE:=eP.ext V7;refine Qy (λc1=>?_) (λc1=>?_)
 ·have Xe:i<pn:=by omega
  refine Zw FJ (hP.ext K4) rfl Xe (λad q hq hc=>?_);have cJ:=QO hq;obtain⟨q8,ql⟩:=bJ q cJ;have im:ps.drop i=q::ps.drop (i+1):=by
   have Xc:=(Z0.1 hq).1;rw[bR Xc];congr 1;rw[Xn Xc] at hq;exact Option.some.inj hq
  rw[im] at Jy;refine Kr (vs:=Ju q) rfl hc ?_;refine new (λw8 Q0 VJ Xt=>?_);refine Qz Xt rfl (sc rfl) (λw9 eC _ JT=>?_);have Yn:Ext w7 w9:=X9 Q0 Xt eC;have mQh:=Yn.size;have BI:=(yv q cJ).ext (K4.trans Yn);refine fk (vs:=[.slice q.1.A q.1.n q.1.c,.int .i64 q.1.r]) JT rfl (λj u hj=>by match j,hj with | 0,hj=>exact hj | 1,hj=>exact hj) ?_;rw[<-Xd];refine call (FE q.1.A q.1.n q.1.c nm.length q.1.nd q.1.r w9 BI) ?_;rintro _ QJ ⟨rfl,ZJ⟩;have gX:=Yn.trans ZJ;have bad:∀w',Ext w7 w'->ae nm.length (QF nm.length oR) (q::ps.drop (i+1))=false->∀w5,AN w1.heap.size w2.heap.size 290 w' w5->Value.tuple #[.string ⟨#[]⟩,.int .i64 290]=ta M/\Ext w w5:=λw' fW hc w5 hR=>aQc w' (V7.trans fW) (Jy.trans hc) w5 hR
  cases Dq:Kk nm.length q.1.nd q.1.r with
  | false=>
   refine Xa rfl ?_;refine XO (Yw 290 (by decide) QJ) (λ_ _ hf=>hf.elim) ?_;rintro ch _ ⟨rfl,rfl⟩;refine W0 Qa rfl rfl (args:= #[.pointer (some ⟨w1.heap.size,0,none⟩),.pointer (some ⟨w2.heap.size,0,none⟩)]) (by simp) ((pL _ _ 290 QJ _ _ QQ (nD.ext gX) (nE.ext gX)).mono ?_);rintro e u' QG ⟨v,rfl,kQs,Im⟩;refine⟨v,rfl,kQs,?_⟩;refine Qx Im.1 rfl ?_;refine Qx Im.2.1 rfl ?_;exact bad QJ gX (by
    refine dK.2 (λhh=>?_);rw[(FD.1 hh).1.1] at Dq;cases Dq) QG Im
  | true=>
  have sq:=gy Dq;have i7:=sq.root0;have Km:=JT.ext ZJ;refine Q5 rfl ?_;refine F5 (j:=0) (i:=1) Km rfl ?_;have Dr:=FD (n:=nm.length) (R:=QF nm.length oR) (p:=q) (ps:=ps.drop (i+1));refine Zh (λhz=>?_) (λhz=>?_)
  ·refine XO (Yw 290 (by decide) QJ) (λ_ _ hf=>hf.elim) ?_;rintro ch _ ⟨rfl,rfl⟩;refine W0 Qa rfl rfl (args:= #[.pointer (some ⟨w1.heap.size,0,none⟩),.pointer (some ⟨w2.heap.size,0,none⟩)]) (by simp) ((pL _ _ 290 QJ _ _ QQ (nD.ext gX) (nE.ext gX)).mono ?_);rintro e u' YB ⟨v,rfl,eI,WN⟩;refine⟨v,rfl,eI,?_⟩;refine Qx WN.1 rfl ?_;refine Qx WN.2.1 rfl ?_;exact bad QJ gX (dK.2 (λhh=>(Dr.1 hh).1.2.1 (i7.1 hz))) YB WN
  ·refine fk (vs:=[.slice q.1.A q.1.n q.1.c,.int .i64 q.1.r]) Km rfl (λj u hj=>by match j,hj with | 0,hj=>exact hj | 1,hj=>exact hj) ?_;refine Qs (Q6.ext gX) rfl ?_;refine call (Rg q.1.A q.1.n q.1.c q.1.nd q.1.r R.A R.n R.c R.nd R.r QJ (BI.ext ZJ) (Kt.ext gX)) ?_;rintro _ QG ⟨rfl,J9⟩;have gP:=gX.trans J9;have hwi:gv q.1.nd q.1.r R.nd R.r=true↔∀c∈QF nm.length (oD q.1),c∈QF nm.length oR:=by
    rw[FK hk sq sR,RC sq.dep sR.dep];exact⟨λh c hc=>Z7.2 ⟨(Z7.1 hc).1,h c hc⟩,λh c hc=>(Z7.1 (h c hc)).2⟩
   cases L0:gv q.1.nd q.1.r R.nd R.r with
   | false=>
    refine Xa rfl ?_;refine XO (Yw 290 (by decide) QG) (λ_ _ hf=>hf.elim) ?_;rintro ch _ ⟨rfl,rfl⟩;refine W0 Qa rfl rfl (args:= #[.pointer (some ⟨w1.heap.size,0,none⟩),.pointer (some ⟨w2.heap.size,0,none⟩)]) (by simp) ((pL _ _ 290 QG _ _ QQ (nD.ext gP) (nE.ext gP)).mono ?_);rintro e u' YB ⟨v,rfl,eI,WN⟩;refine⟨v,rfl,eI,?_⟩;refine Qx WN.1 rfl ?_;refine Qx WN.2.1 rfl ?_;exact bad QG gP (dK.2 (λhh=>by rw[hwi.2 (Dr.1 hh).1.2.2.1] at L0;cases L0)) YB WN
   | true=>
    refine Q5 rfl ?_;have ZZ:=Km.ext J9;refine Qp ZZ rfl ?_;refine call (RH q.2 QG q8 (by omega)) ?_;rintro _ Xg ⟨rfl,Xs⟩;have lf:=gP.trans Xs;cases In:Ve q.2 with
    | false=>
     refine Xa rfl ?_;refine XO (Yw 290 (by decide) Xg) (λ_ _ hf=>hf.elim) ?_;rintro ch _ ⟨rfl,rfl⟩;refine W0 Qa rfl rfl (args:= #[.pointer (some ⟨w1.heap.size,0,none⟩),.pointer (some ⟨w2.heap.size,0,none⟩)]) (by simp) ((pL _ _ 290 Xg _ _ QQ (nD.ext lf) (nE.ext lf)).mono ?_);rintro e u' YB ⟨v,rfl,eI,WN⟩;refine⟨v,rfl,eI,?_⟩;refine Qx WN.1 rfl ?_;refine Qx WN.2.1 rfl ?_;exact bad Xg lf (dK.2 (λhh=>by rw[(Dr.1 hh).1.2.2.2] at In;cases In)) YB WN
    | true=>
     refine Q5 rfl ?_;refine Qs (Q6.ext lf) rfl ?_;refine fk (vs:=[.slice q.1.A q.1.n q.1.c,.int .i64 q.1.r]) (ZZ.ext Xs) rfl (λj u hj=>by match j,hj with | 0,hj=>exact hj | 1,hj=>exact hj) ?_;refine call (dZ hk R q.1 Xg (Kt.ext lf) ((yv q cJ).ext (K4.trans lf)) sR sq) ?_;rintro _ X2 ⟨QA,Qn,Qc,Qnd,Qr,rfl,XK,Io,sQ,Ds⟩;refine Qz ((Q6.ext lf).ext XK) rfl (sc rfl) (λZi ep _ JU=>?_);have KP:Mod (·=w4.heap.size) X2 Zi:=mQW ep rfl;refine Qi ((i+1:Nat):Int) (by show((i:Nat):Int)+1=_;omega) (by omega) ?_;have av:∀ad,QA=some ad->0<Qn->ad.block≠w4.heap.size:=λad ea h0=>by
      have:=Ds ad.block ⟨ad,ea,rfl⟩;have:=lf.size;have:=Q6.lt;omega
     have kQt:=lf.trans XK;refine⟨i+1,rfl,⟨(Xb.trans (Mod.of_ext (·=w4.heap.size) kQt) (λj hj=>.inl hj)).trans KP (λj hj=>.inl hj),Xe,⟨QA,Qn,Qc,Qnd,Qr⟩,_,JU,Io.modo KP av,sQ,av,?_⟩,by show pn-(i+1)<pn-i;omega⟩;rw[Jy,iQb];have h1:Kk nm.length q.1.nd q.1.r=true/\QF nm.length (oD q.1)≠ []/\(∀c∈QF nm.length (oD q.1),c∈QF nm.length oR)/\Ve q.2=true:=⟨Dq,λe=>hz (i7.2 e),hwi.1 L0,In⟩
     have h2:ae nm.length (QF nm.length oR) (q::ps.drop (i+1))=true↔ae nm.length (gz nm.length (QF nm.length oR) (oD q.1)) (ps.drop (i+1))=true:=Dr.trans ⟨λh=>h.2,λh=>⟨h1,h⟩⟩;exact oE.2 h2
 have Xe:i=pn:=by omega
 have im:ps.drop i=[]:=uJ (by omega);rw[im] at Jy;have hR0:=sR.root0;have Jy:ae nm.length (QF nm.length (oD x)) ps=decide (QF nm.length oR=[]):=Jy;refine ZE (Zt Qa ?_);refine Qp Q6 rfl ?_;refine bg (λhz=>?_) (λhz=>?_)
 ·refine XO (Yw 290 (by decide) w7) (λ_ _ hf=>hf.elim) ?_;rintro ch _ ⟨rfl,rfl⟩;refine W0 Qa rfl rfl (args:= #[.pointer (some ⟨w1.heap.size,0,none⟩),.pointer (some ⟨w2.heap.size,0,none⟩)]) (by simp) ((pL _ _ 290 w7 _ _ QQ nD nE).mono ?_);rintro e u' YB ⟨v,rfl,eI,WN⟩;refine⟨v,rfl,eI,?_⟩;refine Qx WN.1 rfl ?_;refine Qx WN.2.1 rfl ?_;exact aQc w7 V7 (by rw[Jy];exact X4 (λe=>hz (hR0.2 e))) YB WN
 have lH:ae nm.length (QF nm.length (oD x)) ps=true:=by rw[Jy];exact XR (hR0.1 hz)
 rw[if_neg (by rw[lH];decide)] at hm;refine ZE (Zt Qa ?_);refine Zh (λh0=>?_) (λh0=>?_)
 ·have CJ:ps=[]:=aA (by omega);rw[Qf CJ] at hm;refine KE nD (by simp[JN]) (λw8 ZC Xt=>?_);refine KE (nE.mod ZC QQ.symm) (by simp[JN]) (λw9 Ze JT=>?_);refine fq Qa rfl rfl (.inl rfl) (args:= #[.pointer (some ⟨w1.heap.size,0,none⟩),.pointer (some ⟨w2.heap.size,0,none⟩)]) (by simp) ((Sy _ _ w9).mono ?_);rintro e u' YB ⟨v,rfl,eI,rfl⟩;refine⟨v,rfl,eI,?_⟩;refine Qx (Xt.mod Ze QQ) rfl ?_;refine Qx JT rfl ?_;exact⟨by rw[hm];rfl,Ze.ext (ZC.ext K4 (λj hj=>by omega)) (λj hj=>by omega)⟩
 ·have CJ:ps≠ []:=λe=>h0 (by rw[<-Jq,e];rfl)
  rw[if_neg CJ] at hm;obtain⟨ZP,aQd⟩:=RF (λc hc=>(Z7.1 hc).1) lH;have aQe:QF nm.length (oD x)≠ []:=λe=>by
   obtain⟨q,hq⟩:=lQ _ CJ;obtain⟨_,n1,_,n2⟩:=aQd q hq;obtain⟨c,hc⟩:=lQ _ n1;have:=n2 c hc;rw[e] at this;cases this
  refine Zt Qa ?_;refine Qs (JU.ext V7) rfl ?_;refine call (RQ NA nn nc nm x (oD x) PA pn pc ps nm.length la rfl VO (λs hs=>by have:=KB s hs;omega) (λq hq=>by
   obtain⟨a,b,c,d⟩:=aQd q hq;obtain⟨e1,e2⟩:=bJ q hq;exact⟨a,c,e1,by omega⟩) w7 (hN.ext K4) (hx.ext K4) sx (hP.ext K4) (λq hq=>(yv q hq).ext K4) aQe ZP) ?_
  rintro _ w8 ⟨A8,c8,rfl,Q0,gK⟩;have Ka:∀c∈QF nm.length (oD x),(fP (Zn ps) c).length<=2000:=λc hc=>by
   obtain⟨p,hp,Kp⟩:=ZP.cov c hc;rw[ZP.get hc hp Kp];obtain⟨q,hq,rfl⟩:=Z4.1 hp;exact(bJ q hq).2
  have au:(QF nm.length (oD x)).length<=16:=Zf (SE _ _) (Zf (Wl (by decide) la) (by decide));have mQO:=iQc KB aQe au Ka nm.length 0;generalize XV nm (fP (Zn ps)) nm.length 0 (QF nm.length (oD x))=W at*;refine XO (Su A8 _ c8 W w8 gK (by omega)) ?_ ?_
  rotate_left
  ·rintro ch _ ⟨qO,rfl,rfl⟩;rw[Qf qO] at hm;refine W0 Qa rfl rfl (args:= #[.pointer (some ⟨w1.heap.size,0,none⟩),.pointer (some ⟨w2.heap.size,0,none⟩)]) (by simp) ((pL _ _ 2 w8 _ _ QQ (nD.ext Q0) (nE.ext Q0)).mono ?_);rintro e u' YB ⟨v,rfl,eI,WN⟩;refine⟨v,rfl,eI,?_⟩;refine Qx WN.1 rfl ?_;refine Qx WN.2.1 rfl ?_;exact⟨by rw[hm];rfl,WN.2.2.ext (K4.trans Q0) (λi hi=>by rcases hi with rfl | rfl<;>omega)⟩
  rintro _ w9 ⟨JY,rfl,XE⟩;rw[if_neg (by omega)] at hm;have Yn:=Q0.trans XE;refine KE (nD.ext Yn) (by simp[JN]) (λQJ Zp Km=>?_);refine KE ((nE.ext Yn).mod Zp QQ.symm) (by simp[JN]) (λQG ZV ZZ=>?_);refine fq Qa rfl rfl (.inl rfl) (args:= #[.pointer (some ⟨w1.heap.size,0,none⟩),.pointer (some ⟨w2.heap.size,0,none⟩)]) (by simp) ((Sy _ _ QG).mono ?_);rintro e u' YB ⟨v,rfl,eI,rfl⟩;refine⟨v,rfl,eI,?_⟩;refine Qx (Km.mod ZV QQ) rfl ?_;refine Qx ZZ rfl ?_;exact⟨by rw[hm];rfl,ZV.ext (Zp.ext (K4.trans Yn) (λj hj=>by omega)) (λj hj=>by omega)⟩
theorem SG {ls:List (List Nat)}(hL:dU ls){a:Nat}{s:List Nat}(h:(a,s)∈Jv 0 ls):∃pre Wf,Qo ls=pre++(s++10::Wf)/\pre.length=a/\cd pre/\10∉s:=by
 obtain⟨i,h1,h2⟩:=Sk h;have Xc:=(Z0.1 h1).1;have hs:ls[i]=s:=by rw[Xn Xc] at h1;exact Option.some.inj h1
 refine⟨Qo (ls.take i),Qo (ls.drop (i+1)),?_,by omega,E2 _,hL s (QO h1)⟩;have hu:∀a b:List (List Nat),Qo (a++b)=Qo a++Qo b:=λa b=>by simp[Qo]
 have e:ls=ls.take i++s::ls.drop (i+1):=by
  have:=(eZ i ls).symm;rw[bR Xc,hs] at this;exact this
 have e2:=QN Qo e;rw[hu,Wu] at e2;exact e2
theorem F6 {l:List Nat}(hl:∀x∈l,x<256){j b:Nat}(h:l[j]? =some b):(((Qe l).data[j]!).toNat:Int)=b:=by
 have Xc:=(Z0.1 h).1;have hb:=hl b (QO h);have e:(Qe l).data[j]! =UInt8.ofNat b:=by
  have:(Qe l).data=(l.map UInt8.ofNat).toArray:=rfl;rw[this,getElem!_def,Mv,VR,h]<;>rfl
 rw[e];have:(UInt8.ofNat b).toNat=b:=by simp[iq hb]
 rw[this]
theorem SH {ls:List (List Nat)}(hL:dU ls)(h8:∀x∈Qo ls,x<256){a x:Nat}{s:List Nat}(h:(a,s)∈Jv 0 ls)(h1:a<=x)(h2:x<=a+s.length):Lib.lastIndexByte (Qe ((Qo ls).take x)) 10=(a:Int)-1:=by
 obtain⟨pre,Wf,e,hp,ht,hs⟩:=SG hL h;have Xd:x<=(Qo ls).length:=by rw[e];simp;omega
 have Xu:(Qe ((Qo ls).take x)).size=x:=by rw[XF,Ye];omega
 have Ip:∀y∈(Qo ls).take x,y<256:=λy hy=>h8 y (fa hy)
 have C0:∀j,j<x->((Qo ls).take x)[j]? =(Qo ls)[j]? :=λj hj=>uB hj
 have Xe:∀j,a<=j->j<x->((Qo ls).take x)[j]? ≠some 10:=λj ha hj hh=>by
  rw[C0 j hj,e,YI (by omega),hp,Wh (by omega)] at hh;exact hs (QO hh)
 have ne:∀j,j<x->∃b,((Qo ls).take x)[j]? =some b:=λj hj=>⟨_,Xn (by rw[Ye];omega)⟩
 have ug:0<a->((Qo ls).take x)[a-1]? =some 10∨x<a:=λh0=>by
  left
  rw[C0 (a-1) (by omega),e,Wh (by omega)];rcases ht with ht | ht
  ·subst ht;simp at hp;omega
  ·rw[lP,hp] at ht;exact ht
 rcases Lib.lastIndexByte_spec (Qe ((Qo ls).take x)) 10 with⟨k1,k2⟩ | ⟨i,i1,i2,i3,i4⟩
 ·rw[k1];by_cases h0:a=0
  ·subst h0;rfl
  ·exfalso;rcases ug (by omega)with hh | hh
   ·have:=F6 Ip hh;exact k2 (a-1) (by rw[Xu];omega) (by rw[this];rfl)
   ·omega
 ·rw[Xu] at i1;obtain⟨b,hb⟩:=ne i i1;have qm:b=10:=by
   have:=F6 Ip hb;rw[this] at i3
   exact_mod_cast i3
  subst qm;rw[i2];have hia:i<a:=by
   apply Classical.byContradiction;intro hh;exact Xe i (by omega) i1 hb
  rcases ug (by omega)with hh | hh
  ·have ZO:i=a-1:=by
    apply Classical.byContradiction;intro kO;have:=F6 Ip hh;exact i4 (a-1) (by omega) (by rw[Xu];omega) (by rw[this];rfl)
   omega
  ·omega
theorem SI {ls:List (List Nat)}(hL:dU ls){a:Nat}{s:List Nat}(h:(a,s)∈Jv 0 ls):gn 10 ((Qo ls).drop a)=s.length/\((Qo ls).drop a).take (s.length+1)=s++ [10]:=by
 obtain⟨pre,Wf,e,hp,ht,hs⟩:=SG hL h;have e2:(Qo ls).drop a=s++10::Wf:=by rw[e,<-hp,rB]
 rw[e2];constructor
 ·unfold gn;rw[Qf (by simp)];congr 1;clear e e2 h;induction s with
  | nil=>simp
  | cons b s ih=>
   simp only[QZ,not_or] at hs;rw[Jb,Wj,Qf (by simpa using λe:b=10=>hs.1 e.symm),Xj,ih hs.2,Xj]
 ·rw[show s++10::Wf=(s++ [10])++Wf by simp,List.take_left' (by simp)]
theorem SJ {ls:List (List Nat)}{e:Ed}(h:(Jv 0 ls).any (iT e)=true):0<=e.fr/\e.fr<=e.to_/\e.to_<(Qo ls).length:=by
 obtain⟨⟨a,s⟩,hm,hp⟩:=uI.1 h;obtain⟨p1,p2,p3,p4⟩:=a8 hp;have:=mL hm;simp only at p1 p2;omega
def Kl (e:EdV):List Value:=[.int .i64 e.fr,.int .i64 e.to_,.string (Qe e.tx),.slice e.x.A e.x.n e.x.c,.int .i64 e.x.r]
theorem pM (e:EdV):(Kl e).length=5:=rfl
structure EP where
 eb:Nat
 NA:Option Addr
 nn:Nat
 nc:Nat
 nm:List (List Nat)
 x:DV
 f:List Nat
 EA:Option Addr
 en:Nat
 ec:Nat
 es:List EdV
structure EK (w:World) (p:EP):Prop where
 blk:Blk w p.eb 99 [.slice p.NA p.nn p.nc,.slice p.x.A p.x.n p.x.c,.int .i64 p.x.r,.string (Qe p.f),.slice p.EA p.en p.ec]
 nms:Sl w 1 p.NA p.nn p.nc (XW p.nm)
 eds:SlS Kl 5 w p.EA p.en p.ec p.es
 sbs:∀e∈p.es,SB w e.x.A e.x.n e.x.c e.x.nd
theorem EK.ext {w w':World}{p:EP}(h:EK w p)(k:Ext w w'):EK w' p:=⟨h.blk.ext k,h.nms.ext k,h.eds.ext k,λe he=>(h.sbs e he).ext k⟩
structure EB (p:EP):Prop where
 n4:p.nm.length<=4
 nb:Ks p.nm
 nl:∀s∈p.nm,s.length<=1000
 f8:∀b∈p.f,b<256
 fl:p.f.length<=60000
 ok:cd p.f
 i64:∀e∈p.es, -9223372036854775808<=e.fr/\e.fr<=9223372036854775807/\ -9223372036854775808<=e.to_/\e.to_<=9223372036854775807
 t8:∀e∈p.es,∀b∈e.tx,b<256
 tl:∀e∈p.es,e.tx.length<=1000
 el:p.es.length<=10
abbrev tf (p:EP):Prop:=p.es.all (λe=>Kk p.nm.length e.x.nd e.x.r)=true/\kD p.nm.length p.f 0 (p.es.map EdV.ed)=true
def iV (p:EP)(i:Nat):Int:=if i=0 then 0 else((p.es[i-1]?).map (·.fr)).getD 0
abbrev vY (p:EP)(i:Nat):Prop:=(p.es.drop i).all (λe=>Kk p.nm.length e.x.nd e.x.r)=true/\kD p.nm.length p.f (iV p i) ((p.es.drop i).map EdV.ed)=true
theorem iQd {p:EP}{i:Nat}{e:EdV}(h:p.es[i]? =some e):vY p i↔(Kk p.nm.length e.x.nd e.x.r=true/\QF p.nm.length (oD e.x)≠ []/\(Jv 0 (QT p.f)).any (iT e.ed)=true/\iV p i<=e.fr)/\vY p (i+1):=by
 have Xc:=(Z0.1 h).1;have hd:p.es.drop i=e::p.es.drop (i+1):=by
  rw[bR Xc];congr 1;rw[Xn Xc] at h;exact Option.some.inj h
 have hp:iV p (i+1)=e.fr:=by unfold iV;rw[if_neg (by omega),show i+1-1=i by omega,h]<;>rfl
 unfold vY;rw[hd,hp];simp only[yH,Y0,kD,FY,JL,Vl];constructor
 ·rintro⟨⟨a,b⟩,⟨⟨c,d⟩,e1⟩,f⟩;exact⟨⟨a,c,d,e1⟩,b,f⟩
 ·rintro⟨⟨a,c,d,e1⟩,b,f⟩;exact⟨⟨a,b⟩,⟨⟨c,d⟩,e1⟩,f⟩
theorem SK (l:List Nat)(w:World)(hl:l.length<=1000000000):
  Fn Tryz.prog 93 [.string (Qe l),.int .u8 10] w (λv w'=>v= .int .i64 (Lib.lastIndexByte (Qe l) 10)/\w=w'):=
 vI (Tryz.strings_LastIndexByte (Qe l) 10 (by rw[XF];omega) w)
theorem iQe (p:EP)(hB:EB p)(w:World)(K:EK w p):
  FnP Tryz.prog 45 [.pointer (some ⟨p.eb,0,none⟩)] w (λ_ w'=>tf p/\Ext w w') (λch w'=>¬tf p/\ch=iU 291/\Ext w w'):=by
 have Dt:=K.eds.2;have L3:=K.eds.1.cap;have lQv:=K.eds.1.le;simp only[maxLen] at L3;have Xd:p.nm.length=p.nn:=by have:=K.nms.len;rw[bn] at this;omega
 refine aB (c:={c45 with cuts:=[]}) Qa Tryz.func45 rfl rfl rfl ?_;refine Qp K.blk rfl ?_;refine loop Qa [11] (λi:Nat=>[.int .i64 i]) (λi w'=>Ext w w'/\i<=p.en/\(tf p↔vY p i)) (λi _=>p.en-i) 0 rfl ⟨Ext.refl _,XJ _,Iff.rfl⟩ ?_;rintro i w1 ⟨Qd,hi,ro⟩;refine Qy (λc1=>?_) (λc1=>?_)
 ·have Xe:i<p.en:=by omega
  refine Zw pM (K.eds.ext Qd) rfl Xe (λad e he hc=>?_);have ju:=QO he;obtain⟨i1,i2,i3,i4⟩:=hB.i64 e ju;rw[iQd he] at ro;refine Kr (vs:=Kl e) rfl hc ?_;refine new (λw2 Qg Zb Qw=>?_);refine Qz Qw rfl (sc rfl) (λw3 ZY _ Qt=>?_);have XK:Ext w1 w3:=X9 Qg Qw ZY;have QW:=Qd.trans XK;have K3:=K.ext QW;have hd:=Ext.drew w3;have C5:∀{w':World} (Qb:Ext w3 w') (j:Nat) (u:Value),(Kl e)[3+j]? =some u->w'.cell? (((⟨w1.heap.size,0,none⟩:Addr).add 3).add j)=some u:=λQb j u hj=>by rw[add_add,(Qt.ext Qb).cell];exact hj
  refine XC Qa (Ext w3) 55 [(true,0),(true,1),(true,2),(true,3),(true,4),(true,5),(true,6),(false,7),(true,8),(true,9),(true,10),(true,11),(true,12),(true,13),(true,14),(true,15),(true,16),(true,17),(true,18),(true,19),(true,20),(true,21),(true,22),(true,23),(true,24),(true,25),(true,26),(true,27),(true,28),(true,29),(true,30),(true,31),(true,32),(true,33),(true,34),(true,35),(true,36),(true,37),(true,38),(true,39),(true,40),(true,41),(true,42),(true,43),(true,44),(true,45),(true,46),(true,47),(true,48),(true,49),(true,50),(true,51),(true,52),(true,53),(true,54)] (by kernel_rfl) hd ?_;refine Xq (vs:=[.slice e.x.A e.x.n e.x.c,.int .i64 e.x.r]) rfl (λw' Qb j u hj=>C5 Qb j u (by match j,hj with | 0,hj=>exact hj | 1,hj=>exact hj)) ?_;refine QH (v:=.slice p.NA p.nn p.nc) (λw' Qb=>(K3.blk.ext Qb).cell 0) ?_;rw[<-Xd];refine call (FE e.x.A e.x.n e.x.c p.nm.length e.x.nd e.x.r w3.drew ((K3.sbs e ju).ext hd)) ?_;rintro _ w4 ⟨rfl,Qq⟩;have KQ:=hd.trans Qq;have XL:=QW.trans KQ;refine⟨KQ,?_⟩;have no:¬(Kk p.nm.length e.x.nd e.x.r=true/\QF p.nm.length (oD e.x)≠ []/\(Jv 0 (QT p.f)).any (iT e.ed)=true/\iV p i<=e.fr)->¬tf p:=λXf hh=>Xf (ro.1 hh).1
  have L4:(Jv 0 (QT p.f)).any (iT e.ed)=true->0<=e.fr/\e.fr<=e.to_/\e.to_<p.f.length:=λh=>by
   have:=SJ h;rw[W6 hB.ok] at this;exact this
  have dF:=XF p.f;cases Yd:Kk p.nm.length e.x.nd e.x.r with
  | false=>
   refine Xa rfl ?_;refine XO (Yw 291 (by decide) w4) (λ_ _ hf=>hf.elim) ?_;rintro ch _ ⟨rfl,rfl⟩;exact⟨no (λhh=>by rw[Yd] at hh;cases hh.1),rfl,XL⟩
  | true=>
   refine Q5 rfl ?_;have se:=gy Yd;have i7:=se.root0;refine QH (v:=.int .i64 e.x.r) (λw' Qb=>C5 Qb 1 _ rfl) ?_;refine Zh (λhz=>?_) (λhz=>?_)
   ·refine XO (Yw 291 (by decide) w4) (λ_ _ hf=>hf.elim) ?_;rintro ch _ ⟨rfl,rfl⟩;exact⟨no (λhh=>hh.2.1 (i7.1 hz)),rfl,XL⟩
   refine QH (v:=.int .i64 e.fr) (λw' Qb=>(Qt.ext Qb).cell 0) ?_;refine Qy (λh1=>?_) (λh1=>?_)
   ·refine XO (Yw 291 (by decide) w4) (λ_ _ hf=>hf.elim) ?_;rintro ch _ ⟨rfl,rfl⟩;exact⟨no (λhh=>by have:=L4 hh.2.2.1;omega),rfl,XL⟩
   refine QH (v:=.int .i64 e.to_) (λw' Qb=>(Qt.ext Qb).cell 1) ?_;refine QH (v:=.int .i64 e.fr) (λw' Qb=>(Qt.ext Qb).cell 0) ?_;refine Qy (λh2=>?_) (λh2=>?_)
   ·refine XO (Yw 291 (by decide) w4) (λ_ _ hf=>hf.elim) ?_;rintro ch _ ⟨rfl,rfl⟩;exact⟨no (λhh=>by have:=L4 hh.2.2.1;omega),rfl,XL⟩
   refine QH (v:=.int .i64 e.to_) (λw' Qb=>(Qt.ext Qb).cell 1) ?_;refine QH (v:=.string (Qe p.f)) (λw' Qb=>(K3.blk.ext Qb).cell 3) ?_;refine Qy (λh3=>?_) (λh3=>?_)
   ·refine XO (Yw 291 (by decide) w4) (λ_ _ hf=>hf.elim) ?_;rintro ch _ ⟨rfl,rfl⟩;exact⟨no (λhh=>by have:=L4 hh.2.2.1;omega),rfl,XL⟩
   have hi8:(i:Int)<=9223372036854775807:=by omega
   refine Qy (λh4=>?_) (λh4=>?_)
   ·have hi0:0<i:=by omega
    refine QH (v:=.int .i64 e.fr) (λw' Qb=>(Qt.ext Qb).cell 0) ?_;refine QH (v:=.slice p.EA p.en p.ec) (λw' Qb=>(K3.blk.ext Qb).cell 4) ?_;refine Qi ((i-1:Nat):Int) (by omega) (by omega) ?_;refine Zw pM K3.eds rfl (by omega) (λIq e2 he2 KK=>?_);refine QH (v:=.int .i64 e2.fr) (λw' Qb=>(Qb.cell (KK 0 _ rfl))) ?_;have hpv:iV p i=e2.fr:=by unfold iV;rw[if_neg (by omega),he2]<;>rfl
    refine Qy (λh9=>?_) (λh9=>?_)
    ·refine XO (Yw 291 (by decide) w4) (λ_ _ hf=>hf.elim) ?_;rintro ch _ ⟨rfl,rfl⟩;exact⟨no (λhh=>by have:=hh.2.2.2;rw[hpv] at this;omega),rfl,XL⟩
    have L5:iV p i<=e.fr:=by rw[hpv];omega
    have fH:e.fr=(e.fr.toNat:Int):=by omega
    obtain⟨a,s,hm,a1,a2⟩:=F0 (ls:=QT p.f) (p:=0) (x:=e.fr.toNat) (XJ _) (by rw[W6 hB.ok];omega);have io:=mv p.f;have JK:=W6 hB.ok;have yy:=SH io (by rw[JK];exact hB.f8) hm a1 a2;have fX:=SI io hm;have yz:=mL hm;rw[JK] at yy fX yz;have rp:=So (e:=e.ed) hm (by show(a:Int)<=e.fr;omega) (by show e.fr<=a+s.length;omega) (by show e.fr<=e.to_;omega);have qv:=Ext.drew w4;refine XC Qa (Ext w4) 10 [(true,0),(true,1),(true,2),(true,3),(true,4),(true,5),(true,6),(false,7),(true,8),(true,9)] (by kernel_rfl) qv ?_;refine QH (v:=.string (Qe p.f)) (λw' Qb=>((K3.blk.ext KQ).ext Qb).cell 3) ?_;refine QH (v:=.int .i64 e.fr) (λw' Qb=>((Qt.ext KQ).ext Qb).cell 0) ?_;refine Ke (v':=.string (Qe (p.f.take e.fr.toNat))) ⟨by omega,by omega,by rw[dF];omega⟩ (by rw[KN];rfl) ?_;refine call (SK (p.f.take e.fr.toNat) w4.drew (by rw[Ye];have:=hB.fl;omega)) ?_;rintro _ _ ⟨rfl,rfl⟩;refine⟨qv,?_⟩;rw[yy];refine Qi (a:Int) (by omega) (by have:=hB.fl;omega) ?_;have lK:=KQ.trans qv;have eX:=QW.trans lK;refine Qp (K3.blk.ext lK) rfl ?_;refine Ke (v':=.string (Qe (p.f.drop a))) ⟨by omega,by rw[dF];omega,by rw[dF];omega⟩ (by
     rw[KN,dF];show Value.string (Qe ((p.f.take p.f.length).drop _))=_;rw[Jm (QC _)];rfl) ?_
    refine call (E9 (p.f.drop a) 10 w4.drew (λx hx=>hB.f8 x (aZ hx)) (by decide)) ?_;rintro _ _ ⟨rfl,rfl⟩;rw[fX.1];refine Qi ((a+s.length:Nat):Int) (by omega) (by have:=hB.fl;omega) ?_;refine Qp (Qt.ext lK) rfl ?_;refine Qy (λh5=>?_) (λh5=>?_)
    ·refine XO (Yw 291 (by decide) w4.drew) (λ_ _ hf=>hf.elim) ?_;rintro ch _ ⟨rfl,rfl⟩;exact⟨no (λhh=>by have h7:=hh.2.2.1;rw[rp,Vl] at h7;have h8:e.to_<=_:=h7.1;omega),rfl,eX⟩
    refine Qp (K3.blk.ext lK) rfl ?_;refine Qi ((a+s.length+1:Nat):Int) (by omega) (by have:=hB.fl;omega) ?_;refine Ke (v':=.string (Qe (s++ [10]))) ⟨by omega,by omega,by rw[dF];omega⟩ (by
     rw[KN];show Value.string (Qe ((p.f.take (a+s.length+1)).drop a))=_;rw[f9,show a+s.length+1-a=s.length+1 by omega,fX.2]) ?_
    have ld:∀b∈s++ [10],b<256:=λb hb=>by
     rw[<-fX.2] at hb;exact hB.f8 b (aZ (fa hb))
    refine call (Ay (s++ [10]) w4.drew ld) ?_;rintro _ w6 ⟨rfl,Xh⟩;have XM:=eX.trans Xh;rw[iN];refine Qy (λh6=>?_) (λh6=>?_)
    ·refine XO (Yw 291 (by decide) w6) (λ_ _ hf=>hf.elim) ?_;rintro ch _ ⟨rfl,rfl⟩;exact⟨no (λhh=>by have h7:=hh.2.2.1;rw[rp,Vl] at h7;exact h6 h7.2),rfl,XM⟩
    refine Qi ((i+1:Nat):Int) (by show((i:Nat):Int)+1=_;omega) (by omega) ?_;have L6:(Jv 0 (QT p.f)).any (iT e.ed)=true:=by
     rw[rp,Vl];exact⟨by show e.to_<=_;omega,Decidable.not_not.1 h6⟩
    exact⟨i+1,rfl,⟨XM,Xe,ro.trans ⟨λh=>h.2,λh=>⟨⟨Yd,λe0=>hz (i7.2 e0),L6,L5⟩,h⟩⟩⟩,by show p.en-(i+1)<p.en-i;omega⟩
   ·have hi0:i=0:=by omega
    have L5:iV p i<=e.fr:=by unfold iV;rw[Qf hi0];omega
    have fH:e.fr=(e.fr.toNat:Int):=by omega
    obtain⟨a,s,hm,a1,a2⟩:=F0 (ls:=QT p.f) (p:=0) (x:=e.fr.toNat) (XJ _) (by rw[W6 hB.ok];omega);have io:=mv p.f;have JK:=W6 hB.ok;have yy:=SH io (by rw[JK];exact hB.f8) hm a1 a2;have fX:=SI io hm;have yz:=mL hm;rw[JK] at yy fX yz;have rp:=So (e:=e.ed) hm (by show(a:Int)<=e.fr;omega) (by show e.fr<=a+s.length;omega) (by show e.fr<=e.to_;omega);have qv:=Ext.drew w4;refine XC Qa (Ext w4) 10 [(true,0),(true,1),(true,2),(true,3),(true,4),(true,5),(true,6),(false,7),(true,8),(true,9)] (by kernel_rfl) qv ?_;refine QH (v:=.string (Qe p.f)) (λw' Qb=>((K3.blk.ext KQ).ext Qb).cell 3) ?_;refine QH (v:=.int .i64 e.fr) (λw' Qb=>((Qt.ext KQ).ext Qb).cell 0) ?_;refine Ke (v':=.string (Qe (p.f.take e.fr.toNat))) ⟨by omega,by omega,by rw[dF];omega⟩ (by rw[KN];rfl) ?_;refine call (SK (p.f.take e.fr.toNat) w4.drew (by rw[Ye];have:=hB.fl;omega)) ?_;rintro _ _ ⟨rfl,rfl⟩;refine⟨qv,?_⟩;rw[yy];refine Qi (a:Int) (by omega) (by have:=hB.fl;omega) ?_;have lK:=KQ.trans qv;have eX:=QW.trans lK;refine Qp (K3.blk.ext lK) rfl ?_;refine Ke (v':=.string (Qe (p.f.drop a))) ⟨by omega,by rw[dF];omega,by rw[dF];omega⟩ (by
     rw[KN,dF];show Value.string (Qe ((p.f.take p.f.length).drop _))=_;rw[Jm (QC _)];rfl) ?_
    refine call (E9 (p.f.drop a) 10 w4.drew (λx hx=>hB.f8 x (aZ hx)) (by decide)) ?_;rintro _ _ ⟨rfl,rfl⟩;rw[fX.1];refine Qi ((a+s.length:Nat):Int) (by omega) (by have:=hB.fl;omega) ?_;refine Qp (Qt.ext lK) rfl ?_;refine Qy (λh5=>?_) (λh5=>?_)
    ·refine XO (Yw 291 (by decide) w4.drew) (λ_ _ hf=>hf.elim) ?_;rintro ch _ ⟨rfl,rfl⟩;exact⟨no (λhh=>by have h7:=hh.2.2.1;rw[rp,Vl] at h7;have h8:e.to_<=_:=h7.1;omega),rfl,eX⟩
    refine Qp (K3.blk.ext lK) rfl ?_;refine Qi ((a+s.length+1:Nat):Int) (by omega) (by have:=hB.fl;omega) ?_;refine Ke (v':=.string (Qe (s++ [10]))) ⟨by omega,by omega,by rw[dF];omega⟩ (by
     rw[KN];show Value.string (Qe ((p.f.take (a+s.length+1)).drop a))=_;rw[f9,show a+s.length+1-a=s.length+1 by omega,fX.2]) ?_
    have ld:∀b∈s++ [10],b<256:=λb hb=>by
     rw[<-fX.2] at hb;exact hB.f8 b (aZ (fa hb))
    refine call (Ay (s++ [10]) w4.drew ld) ?_;rintro _ w6 ⟨rfl,Xh⟩;have XM:=eX.trans Xh;rw[iN];refine Qy (λh6=>?_) (λh6=>?_)
    ·refine XO (Yw 291 (by decide) w6) (λ_ _ hf=>hf.elim) ?_;rintro ch _ ⟨rfl,rfl⟩;exact⟨no (λhh=>by have h7:=hh.2.2.1;rw[rp,Vl] at h7;exact h6 h7.2),rfl,XM⟩
    refine Qi ((i+1:Nat):Int) (by show((i:Nat):Int)+1=_;omega) (by omega) ?_;have L6:(Jv 0 (QT p.f)).any (iT e.ed)=true:=by
     rw[rp,Vl];exact⟨by show e.to_<=_;omega,Decidable.not_not.1 h6⟩
    exact⟨i+1,rfl,⟨XM,Xe,ro.trans ⟨λh=>h.2,λh=>⟨⟨Yd,λe0=>hz (i7.2 e0),L6,L5⟩,h⟩⟩⟩,by show p.en-(i+1)<p.en-i;omega⟩
 ·have Xe:i=p.en:=by omega
  have bO:p.es.drop i=[]:=uJ (by omega);exact⟨ro.2 (by unfold vY;rw[bO];exact⟨rfl,rfl⟩),Qd⟩
def co (n:Nat)(f:List Nat)(o:BF)(a:Nat)(es:List Ed):List AV:=es.foldl (λvs e=>vs.flatMap (V4 n f e)) [⟨o,[],a⟩]
theorem iQf (n:Nat)(f:List Nat)(o:BF)(a:Nat)(es:List Ed)(e:Ed):co n f o a (es++ [e])=(co n f o a es).flatMap (V4 n f e):=by unfold co;rw[MC]<;>rfl
theorem mM {α:Type}{l:List α}{i:Nat}{x:α}(h:l[i]? =some x):l.take (i+1)=l.take i++ [x]:=by rw[VT,h]<;>rfl
theorem AQ {n:Nat}{f:List Nat}{o:BF}{a:Nat}(QQ:QF n o≠ []):∀(es:List Ed),VI n f (QF n o) a es (co n f o a es):=by
 have key:∀(es pre:List Ed) (vs:List AV),VI n f (QF n o) a pre vs->VI n f (QF n o) a (pre++es) (es.foldl (λvs e=>vs.flatMap (V4 n f e)) vs):=by
  intro es;induction es with
  | nil=>intro pre vs h;simpa using h
  | cons e es ih=>
   intro pre vs h;have:=ih (pre++ [e]) (vs.flatMap (V4 n f e)) (h.step (λc hc=>(Z7.1 hc).1) e);simpa using this
 intro es;have:=key es [] _ (VI.start (f:=f) (a:=a) QQ);rw[bP] at this;exact this
theorem iQg (n:Nat)(f:List Nat)(e:Ed)(v:AV):(V4 n f e v).length<=2:=by
 unfold V4;split
 ·split<;>simp
 ·simp only[Xj];split<;>simp
theorem F7 (n:Nat)(f:List Nat)(e:Ed):∀vs:List AV,(vs.flatMap (V4 n f e)).length<=2*vs.length
 | []=>by simp
 | v::vs=>by
  rw[cK,Qu,Xj];have:=iQg n f e v;have:=F7 n f e vs;omega
theorem iQh (n:Nat)(f:List Nat)(o:BF)(a:Nat):∀(es:List Ed),(co n f o a es).length<=2^es.length:=by
 have key:∀(es:List Ed) (vs:List AV),(es.foldl (λvs e=>vs.flatMap (V4 n f e)) vs).length<=2^es.length*vs.length:=by
  intro es;induction es with
  | nil=>intro vs;simp
  | cons e es ih=>
   intro vs;have h1:=ih (vs.flatMap (V4 n f e));have h2:=F7 n f e vs;have h3:=Nat.mul_le_mul_left (2^es.length) h2;rw[yE,Xj,lO,Nat.mul_assoc];omega
 intro es;have:=key es [⟨o,[],a⟩];simpa [co] using this
structure VB (B T:Nat) (v:AV):Prop where
 b8:∀b∈v.d,b<256
 ln:v.d.length<=B
 at_:v.a<=T
theorem pN (f:List Nat)(a b:Nat):(J1 f a b).length<=f.length:=by unfold J1;rw[Ye,Y3];omega
theorem tg {f:List Nat}(h:∀b∈f,b<256)(x y:Nat):∀b∈J1 f x y,b<256:=λb hb=>h b (aZ (fa hb))
theorem VB.step {B T:Nat}{v:AV}(h:VB B T v){n:Nat}{f:List Nat}{e:Ed}(hf:∀b∈f,b<256)(Ka:f.length<=60000)(ht:∀b∈e.tx,b<256)(YE:e.tx.length<=1000)(he:e.to_.toNat<=T):∀u∈V4 n f e v,VB (B+70000) T u:=λu hu=>by
 unfold V4 at hu;split at hu
 ·split at hu
  ·cases hu
  ·rw[QL.1 hu];exact⟨h.b8,by have:=h.ln;omega,h.at_⟩
 ·rcases QZ.1 hu with rfl | hu
  ·refine⟨λb hb=>?_,?_,he⟩
   ·simp only[Xw] at hb;rcases hb with(hb | hb) | hb
    ·exact h.b8 b hb
    ·exact tg hf _ _ b hb
    ·exact ht b hb
   ·simp only[Qu];have:=h.ln;have:=pN f v.a e.fr.toNat;omega
  ·split at hu
   ·cases hu
   ·rw[QL.1 hu];exact⟨h.b8,by have:=h.ln;simp only;omega,h.at_⟩
theorem iQi {n:Nat}{f:List Nat}{o:BF}{a T:Nat}(hf:∀b∈f,b<256)(Ka:f.length<=60000)(haT:a<=T):∀(es:List Ed),(∀e∈es,(∀b∈e.tx,b<256)/\e.tx.length<=1000/\e.to_.toNat<=T)->∀v∈co n f o a es,VB (es.length*70000) T v:=by
 have key:∀(es:List Ed) (vs:List AV) (B:Nat),(∀e∈es,(∀b∈e.tx,b<256)/\e.tx.length<=1000/\e.to_.toNat<=T)->(∀v∈vs,VB B T v)->∀v∈es.foldl (λvs e=>vs.flatMap (V4 n f e)) vs,VB (B+es.length*70000) T v:=by
  intro es;induction es with
  | nil=>intro vs B _ h v hv;simpa using h v hv
  | cons e es ih=>
   intro vs B he h v hv;obtain⟨e1,e2,e3⟩:=he e (by simp);have:=ih (vs.flatMap (V4 n f e)) (B+70000) (λb hb=>he b (by simp[hb])) (λu hu=>by
    obtain⟨v0,eu,hu⟩:=ga.1 hu;exact(h v0 eu).step hf Ka e1 e2 e3 u hu) v hv
   rw[Xj,rv,Nat.one_mul];rw[show B+(es.length*70000+70000)=B+70000+es.length*70000 by omega];exact this
 intro es he v hv;have:=key es [⟨o,[],a⟩] 0 he (λv hv=>by rw[QL.1 hv];exact⟨(λb hb=>by cases hb),XJ _,haT⟩) v hv
 rwa [bQ] at this
theorem iQj {n:Nat}{f:List Nat}{o:BF}{a i:Nat}{es:List Ed}{e:Ed}(QQ:QF n o≠ [])(ha:d5 (QF n o) es=true)(hi:es[i]? =some e)(h0:(a:Int)<=e.fr)(hp:∀b∈es,0<=b.to_){v:AV}(hv:v∈co n f o a (es.take i))(hb:QF n (JE v.o e.o)≠ []):(v.a:Int)<=e.fr:=by
 obtain⟨c,hc⟩:=lQ _ hb;obtain⟨c1,c2⟩:=Z7.1 hc;have c2:(v.o (bits c)&&e.o (bits c))=true:=c2;rw[JL] at c2;obtain⟨q1,q2⟩:=(AQ (f:=f) (a:=a) QQ (es.take i)).st v hv c (Z7.2 ⟨c1,c2.1⟩);have:=hQ2 (f:=f) ha (a:=a) hi q1 c2.2 h0 hp;rw[q2] at this;exact this
theorem iQk {n:Nat}{f:List Nat}{o:BF}{a stop:Nat}{es:List Ed}(QQ:QF n o≠ []):((QF n o).all (λc=>Ve (bz f stop a es c))=true)↔∀v∈co n f o a es,Ve (v.d++J1 f v.a stop)=true:=by
 have hI:=AQ (f:=f) (a:=a) QQ es;constructor
 ·intro h v hv;obtain⟨c,hc⟩:=lQ _ (hI.ne v hv);obtain⟨q1,q2⟩:=hI.st v hv c hc;have:=Y2.1 h c q1;unfold bz at this;rw[q2] at this;exact this
 ·intro h;refine Y2.2 (λc hc=>?_);obtain⟨v,hv,oA⟩:=hI.cov c hc;obtain⟨_,q2⟩:=hI.st v hv c (Z7.2 ⟨(Z7.1 hc).1,oA⟩);unfold bz;rw[q2];exact h v hv
def kE (f:List Nat)(stop:Nat)(vs:List AV):List Pr:=vs.foldl (λps v=>cm ps v.o (v.d++J1 f v.a stop)) []
theorem iQl (f:List Nat)(stop:Nat)(vs:List AV)(v:AV):kE f stop (vs++ [v])=cm (kE f stop vs) v.o (v.d++J1 f v.a stop):=by unfold kE;rw[MC]<;>rfl
theorem iQm {n:Nat}{f:List Nat}{o:BF}{a stop:Nat}{es:List Ed}(QQ:QF n o≠ []):QI n (QF n o) (bz f stop a es) (co n f o a es) (kE f stop (co n f o a es)):=by
 have hI:=AQ (f:=f) (a:=a) QQ es;generalize co n f o a es=V at*;have key:∀(vs pre:List AV) (ps:List Pr),(∀v∈vs,v∈V)->QI n (QF n o) (bz f stop a es) pre ps->QI n (QF n o) (bz f stop a es) (pre++vs) (vs.foldl (λps v=>cm ps v.o (v.d++J1 f v.a stop)) ps):=by
  intro vs;induction vs with
  | nil=>intro pre ps _ h;simpa using h
  | cons v vs ih=>
   intro pre ps hV h;have:=ih (pre++ [v]) _ (λu hu=>hV u (by simp[hu])) (h.ins (v:=v) (t:=v.d++J1 f v.a stop) (λc hc=>by
    obtain⟨q1,q2⟩:=hI.st v (hV v (by simp)) c hc;refine⟨q1,?_⟩;unfold bz;rw[q2]))
   simpa using this
 have:=key V [] [] (λv hv=>hv) QI.nil;rw[bP] at this;exact this
theorem SM {f:List Nat}{stop:Nat}{P:List Nat->Prop}:∀(vs:List AV),(∀v∈vs,P (v.d++J1 f v.a stop))->∀q∈kE f stop vs,P q.t:=by
 have key:∀(vs:List AV) (ps:List Pr),(∀v∈vs,P (v.d++J1 f v.a stop))->(∀q∈ps,P q.t)->∀q∈vs.foldl (λps v=>cm ps v.o (v.d++J1 f v.a stop)) ps,P q.t:=by
  intro vs;induction vs with
  | nil=>intro ps _ h;exact h
  | cons v vs ih=>
   intro ps hv h;refine ih _ (λu hu=>hv u (by simp[hu])) (λq hq=>?_);have hq:q∈cm ps v.o (v.d++J1 f v.a stop):=hq;unfold cm at hq;split at hq
   ·rename_i p hp;rcases DO hq with hq | rfl
    ·exact h q hq
    ·exact h p (QO hp)
   ·rcases Xw.1 hq with hq | hq
    ·exact h q hq
    ·rw[QL.1 hq];exact hv v (by simp)
 intro vs hv;exact key vs [] hv (λq hq=>by cases hq)
theorem SO {α:Type}{f:α->List Value}{sz:Nat}(hf:∀x,(f x).length=sz):∀(l:Nat)(L:List α),(L.drop l).flatMap f=(L.flatMap f).drop (l*sz)
 | 0,L=>by simp
 | l+1,[]=>by simp
 | l+1,x::L=>by
  rw[Mx,SO hf l L,cK,rv,Nat.one_mul,Nat.add_comm,<-oG];congr 1;rw[<-hf x,rB]
theorem SlS.from {α:Type}{f:α->List Value}{sz:Nat}(hf:∀x,(f x).length=sz){w:World}{A:Option Addr}{n c l:Nat}{L:List α}(h:SlS f sz w A n c L)(hl:l<=n):SlS f sz w (if c=l then A else A.map (·.add (l*sz))) (n-l) (c-l) (L.drop l):=by
 have h1:=h.1.len;have h2:=h.1.le;have h3:=h.1.cap;refine⟨?_,by rw[Y3,h.2]⟩;rw[SO hf];refine⟨by rw[Y3,h1,<-Nat.sub_mul],by omega,by omega,λh0=>?_⟩;obtain⟨ad,rfl,hc⟩:=h.1.at_ (by omega);refine⟨ad.add (l*sz),by rw[if_neg (by omega)];rfl,λj u hu=>?_⟩;rw[Addr.add_add];exact hc _ _ (by rw[DN] at hu;exact hu)
theorem SP {n:Nat}(hn:n<=12){x y:DV}{o o':BF}(s:Set1 n x.nd x.r o)(s':Set1 n y.nd y.r o'):pA x.nd x.r y.nd y.r= !(af (QF n o') o):=by
 cases hm:af (QF n o') o with
 | true=>
  obtain⟨c,hc,hoc⟩:=uI.1 hm;refine Fu (λh=>h.2.2 ⟨bits c,by rw[s.mean];exact hoc,by rw[s'.mean];exact(Z7.1 hc).2⟩)
 | false=>
  refine Rb ⟨s.chk hn,s'.chk hn,λ⟨e,h1,h2⟩=>?_⟩;rw[s.mean] at h1;rw[s'.mean] at h2;obtain⟨c,hc,hb⟩:=AG n e;have:af (QF n o') o=true:=uI.2 ⟨c,Z7.2 ⟨hc,by rw[s'.dep _ e hb];exact h2⟩,by rw[s.dep _ e hb];exact h1⟩;rw[hm] at this;cases this
theorem iQn {k:Nat}(hk:k<=12)(x y:DV){o o':BF}(w:World)(h:SB w x.A x.n x.c x.nd)(h':SB w y.A y.n y.c y.nd)(s:Set1 k x.nd x.r o)(s':Set1 k y.nd y.r o'):
  Fn Tryz.prog 101 [Xm x.A x.n x.c x.r,Xm y.A y.n y.c y.r] w (vO w k (λe=>o e||o' e)):=by
 refine(Po x.A x.n x.c x.nd x.r y.A y.n y.c y.nd y.r w h h').mono ?_;rw[gm hk s s' 1];have c1:Set1 k _ _ (λe=>o e||o' e):=(dS s s' 1).congr (λe=>by simp[Ki]);generalize VE x.nd x.r y.nd y.r 1=D at*;obtain⟨D1,D2⟩:=D;rintro v w' ⟨PA,q,pc,rfl,hE,hP,hR⟩;exact⟨PA,q,pc,D1,D2,rfl,hE,hP,c1,hR⟩
theorem iQo (q:DV×List Nat)(t:List Nat)(tb:Nat)(w:World)(hq:∀b∈q.2,b<256)(ht:∀b∈t,b<256)(hB:Blk w tb 9 [.string (Qe t)]):
  Fn Tryz.prog 99 [.agg (Ju q).toArray,.pointer (some ⟨tb,0,none⟩)] w (λu w'=>u= .bool (decide (q.2=t))/\Ext w w'):=by
 refine QD (c:={c99 with cuts:=[]}) Qa Tryz.func99 rfl rfl rfl ?_;refine new (λw1 Qd Q3 Qh=>?_);refine Qp Qh rfl ?_;refine Qx (hB.ext Qd) rfl ?_;refine⟨?_,Qd⟩;refine QN Value.bool ?_;refine oM.2 ⟨λe=>Jc hq ht e,λe=>by rw[e]⟩
theorem iQp (PA:Option Addr)(pn pc:Nat)(ps:List (DV×List Nat))(t:List Nat)(tb:Nat)(w:World)(h:SlS Ju 3 w PA pn pc ps)(hp:∀q∈ps,∀b∈q.2,b<256)(ht:∀b∈t,b<256)(hB:Blk w tb 9 [.string (Qe t)]):
  Fn Tryz.prog 98 [.slice PA pn pc,.func (.func 99) #[] #[.pointer (some ⟨tb,0,none⟩)]] w (λu w'=>u= .int .i64 (if Vp (Zn ps) t<pn then(Vp (Zn ps) t:Int)else -1)/\Ext w w'):=by
 have hn:=h.2;have ZO:=h.1.le;have bN:=h.1.cap;have Jq:(Zn ps).length=ps.length:=by simp[Zn]
 obtain⟨s1,s2⟩:=vX t (Zn ps);refine QD (c:={c98 with cuts:=[]}) Qa Tryz.func98 rfl rfl rfl ?_;refine loop Qa [8] (λi:Nat=>[.int .i64 i]) (λi w'=>Ext w w'/\i<=pn/\∀q∈ps.take i,q.2≠t) (λi _=>pn-i) 0 rfl ⟨Ext.refl _,XJ _,λq hq=>by simp at hq⟩ ?_;rintro i w1 ⟨Qd,hi,Xf⟩;have hge:i<=Vp (Zn ps) t:=by
  apply Classical.byContradiction;intro hh;have Xc:Vp (Zn ps) t<ps.length:=by omega
  obtain⟨q,hq⟩:∃q,ps[Vp (Zn ps) t]? =some q:=⟨_,Xn Xc⟩
  have:=s1 ⟨oD q.1,q.2⟩ (by unfold Zn;rw[VR];show Option.map _ (ps[Vp (Zn ps) t]?)=_;rw[hq];rfl);exact Xf q (QO (i:=Vp (Zn ps) t) (by rw[uB (by omega)];exact hq)) this
 refine Qy (λc1=>?_) (λc1=>?_)
 ·have Xe:i<pn:=by omega
  refine Zw FJ (h.ext Qd) rfl Xe (λad q hq hc=>?_);have cJ:=QO hq;refine Kr (vs:=Ju q) rfl hc ?_;refine call (iQo q t tb w1 (hp q cJ) ht (hB.ext Qd)) ?_;rintro _ w2 ⟨rfl,Qg⟩;have ic:(Zn ps)[i]? =some ⟨oD q.1,q.2⟩:=by unfold Zn;rw[VR,hq]<;>rfl
  refine Qy (λd1=>?_) (λd1=>?_)
  ·have Kb:Vp (Zn ps) t=i:=by
    apply Classical.byContradiction;intro hh;exact s2 i _ ic (by omega) d1
   rw[Kb,Qf Xe];exact⟨rfl,Qd.trans Qg⟩
  ·simp only[maxLen] at bN;refine Qi ((i+1:Nat):Int) (by show((i:Nat):Int)+1=_;omega) (by omega) ?_;refine⟨i+1,rfl,⟨Qd.trans Qg,Xe,λq' hq'=>?_⟩,by show pn-(i+1)<pn-i;omega⟩;rw[VT,hq] at hq';rcases Xw.1 hq' with hq' | hq'
   ·exact Xf q' hq'
   ·have:q'=q:=by simpa using hq'
    rw[this];exact d1
 ·have Xe:i=pn:=by omega
  rw[if_neg (by omega)];exact⟨rfl,Qd⟩
theorem SQ {j:Nat}{vs l:List Value}{c:Value}(h:l[j+vs.length]? =some c):KV j vs l=KV j (vs++ [c]) l:=by
 have Xc:=(Z0.1 h).1;rw[iF j vs l (by omega),iF j (vs++ [c]) l (by simp;omega)];rw[Je,Je,Je];congr 2;rw[bR Xc,Qu,oL];have:l[j+vs.length]=c:=by rw[Xn Xc] at h;exact Option.some.inj h
 rw[this]<;>rfl
theorem iQq (f:List Nat)(stop:Nat):∀vs:List AV,(kE f stop vs).length<=vs.length:=by
 have key:∀(vs:List AV) (ps:List Pr),(vs.foldl (λps v=>cm ps v.o (v.d++J1 f v.a stop)) ps).length<=ps.length+vs.length:=by
  intro vs;induction vs with
  | nil=>intro ps;simp
  | cons v vs ih=>
   intro ps;have h1:=ih (cm ps v.o (v.d++J1 f v.a stop));have h2:(cm ps v.o (v.d++J1 f v.a stop)).length<=ps.length+1:=by
    unfold cm;split
    ·rw[dG];omega
    ·simp
   rw[yE,Xj];omega
 intro vs;have:=key vs [];simpa [kE] using this
theorem AR {n:Nat}{qs:List (DV×Pr)}(h:∀q∈qs,Set1 n q.1.nd q.1.r q.2.o):Zn (qs.map (λq=>(q.1,q.2.t)))=qs.map (·.2):=by
 unfold Zn;rw[yF];refine List.map_congr_left (λq hq=>?_);have:oD q.1=q.2.o:=funext (λe=>(h q hq).mean e);show(⟨oD q.1,q.2.t⟩:Pr)=q.2;rw[this]
theorem AT {ad:Addr}{n j sz:Nat}{K:Addr->Prop}(h:j<n)(k:K (ad.add (j*sz))):Y4 (some ad) n (j:Int) sz K:=by
 unfold Y4;exact⟨ad,rfl,by omega,by omega,by simpa using k⟩
def Vq (v:DV×AV):List Value:=[.slice v.1.A v.1.n v.1.c,.int .i64 v.1.r,.string (Qe v.2.d),.int .i64 v.2.a]
theorem SR (v:DV×AV):(Vq v).length=4:=rfl
def Z8 (q:DV×Pr):List Value:=Ju (q.1,q.2.t)
theorem mN (q:DV×Pr):(Z8 q).length=3:=rfl
theorem AU (l:List (DV×Pr)):l.flatMap Z8=(l.map (λq=>(q.1,q.2.t))).flatMap Ju:=by rw[List.flatMap_map]<;>rfl
theorem iQr (e:EdV):∀u∈Kl e,Jz u=true:=sc rfl
theorem F8 (v:DV×AV):∀u∈Vq v,Jz u=true:=sc rfl
theorem F9 (v:DV×List Nat):∀u∈Ju v,Jz u=true:=sc rfl
theorem iQs {p:EP}(hV:tf p):∀e∈p.es,Kk p.nm.length e.x.nd e.x.r=true/\(Jv 0 (QT p.f)).any (iT e.ed)=true:=by
 obtain⟨h1,h2⟩:=hV;have key:∀(es:List Ed) (q:Int),kD p.nm.length p.f q es=true->∀e∈es,(Jv 0 (QT p.f)).any (iT e)=true:=by
  intro es;induction es with
  | nil=>intro q _ e he;cases he
  | cons b es ih=>
   intro q h e he;rw[kD,JL,JL,FY,JL] at h;rcases QZ.1 he with rfl | he
   ·exact h.1.1.2
   ·exact ih _ h.2 e he
 exactλe he=>⟨Y2.1 h1 e he,key _ 0 h2 e.ed (Z4.2 ⟨e,he,rfl⟩)⟩
theorem iQt (es:List EdV)(S:List Nat)(a:Nat)(s:List Nat):gA (es.map EdV.ed) S a s=(es.filter (λe=>pJ a s e.ed&&af S e.ed.o)).map EdV.ed:=by
 unfold gA;rw[List.filter_map]<;>rfl
theorem iQu {α:Type}{l:List α}{i:Nat}{x:α}(h:l[i]? =some x):l.drop i=x::l.drop (i+1):=by
 have Xc:=(Z0.1 h).1;rw[bR Xc];congr 1;rw[Xn Xc] at h;exact Option.some.inj h
theorem iQv (p:EP)(hB:EB p)(hV:tf p)(a:Nat)(s:List Nat)(hm:(a,s)∈Jv 0 (QT p.f))(d:DV)(o:BF)(w:World)(K:EK w p)(hd:SB w d.A d.n d.c d.nd)(sd:Set1 p.nm.length d.nd d.r o):
  FnP Tryz.prog 48 [.pointer (some ⟨p.eb,0,none⟩),.string (Qe (s++ [10])),.int .i64 a,Xm d.A d.n d.c d.r] w
   (λu w'=>∃L,fC p.nm p.f (p.es.map EdV.ed) (QF p.nm.length o) a s=some L/\sL w u (L.map (·++ [10])) w')
   (λch w'=>fC p.nm p.f (p.es.map EdV.ed) (QF p.nm.length o) a s=none/\ch=iU 291/\Ext w w'):=by
 have io:=mv p.f;have JK:=W6 hB.ok;have yz:=mL hm;rw[JK] at yz;have Ka:=hB.fl;have hk:p.nm.length<=12:=by have:=hB.n4;omega
 have Dt:=K.eds.2;have mQi:=hB.el;have L3:=K.eds.1.cap;have lQv:=K.eds.1.le;simp only[maxLen] at L3;have yA:(Qe (s++ [10])).size=s.length+1:=by rw[XF];simp
 have dF:=XF p.f;have hval:=iQs hV;generalize uA:QF p.nm.length o=S at*;have L7:∀e∈p.es,0<=e.fr/\e.fr<=e.to_/\e.to_<p.f.length:=λe he=>by
  have:=SJ (hval e he).2;rw[JK] at this;exact this
 refine aB (c:={c48 with cuts:=[]}) Qa Tryz.func48 rfl rfl rfl ?_;refine new (λw1 Qd Q3 Qh=>?_);have K1:=K.ext Qd;refine Qp K1.blk rfl ?_;refine loop Qa [33,9] (λt:Nat×List EdV×Option Addr×Nat=>[.int .i64 t.1,.slice t.2.2.1 t.2.1.length t.2.2.2]) (λt w'=>Ext w1 w'/\t.1<=p.en/\t.2.1=(p.es.take t.1).filter (λe=>pJ a s e.ed&&af S e.ed.o)/\Own w' w1.heap.size 58 5 t.2.2.1 t.2.1.length t.2.2.2 (t.2.1.flatMap Kl)) (λt _=>p.en-t.1) (0,[],none,0) rfl ⟨Ext.refl _,XJ _,by simp,Own.nil _ _ _ _⟩ ?_;rintro⟨i,m,MA,mc⟩ w2 ⟨Qg,hi,aX,hO⟩;simp only at hi aX hO;have Q7:=Qd.trans Qg;have LH:m.length<=i:=by rw[aX];exact Zf (uG _ _) (by rw[Ye];omega)
 refine Qy (λc1=>?_) (λc1=>?_)
 ·have Xe:i<p.en:=by simp only at c1;omega
  refine Zw pM (K.ext Q7).eds rfl Xe (λad e he hc=>?_);have ju:=QO he;obtain⟨e1,e2,e3⟩:=L7 e ju;have se:=gy (hval e ju).1;refine Kr (vs:=Kl e) rfl hc ?_;refine new (λw3 Qk JI Qt=>?_);refine Qz Qt rfl (sc rfl) (λw4 cq _ Q4=>?_);have Jj:Ext w2 w4:=X9 Qk Qt cq;refine Qx Q4 rfl ?_;refine Qy (λd1=>?_) (λd1=>?_)
  ·refine Qp Q4 rfl ?_;refine Qi ((a+s.length+1:Nat):Int) (by rw[yA];omega) (by omega) ?_;refine Qy (λd2=>?_) (λd2=>?_)
   ·refine fk (vs:=[.slice e.x.A e.x.n e.x.c,.int .i64 e.x.r]) Q4 rfl (λj u hj=>by match j,hj with | 0,hj=>exact hj | 1,hj=>exact hj) ?_;refine Qs (Qh.ext (Qg.trans Jj)) rfl ?_;refine call (Rc e.x.A e.x.n e.x.c e.x.nd e.x.r d.A d.n d.c d.nd d.r w4 ((K.sbs e ju).ext (Q7.trans Jj)) (hd.ext (Q7.trans Jj))) ?_;rintro _ w5 ⟨rfl,Qv⟩;have lg:=Jj.trans Qv;rw[SP hk se sd,uA];have oy:pJ a s e.ed=true:=XR ⟨by show(a:Int)<=e.fr;omega,by show e.to_<=a+s.length;omega⟩;cases qJ:af S (oD e.x)with
    | false=>
     refine Q5 rfl ?_;refine Qi ((i+1:Nat):Int) (by show((i:Nat):Int)+1=_;omega) (by omega) ?_;refine⟨(i+1,m,MA,mc),rfl,⟨Qg.trans lg,Xe,?_,hO.ext lg⟩,by show p.en-(i+1)<p.en-i;omega⟩;simp only;rw[mM he,DR,<-aX,uE,if_neg (by show¬(pJ a s e.ed&&af S (oD e.x))=true;rw[qJ,Bool.and_false];decide),List.filter_nil,YH]
    | true=>
     refine Xa rfl ?_;refine Qs (Q4.ext Qv) rfl ?_;refine XI Qa [Kl e] rfl rfl rfl rfl rfl ⟨rfl,rfl,⟨⟩⟩ rfl (λcs h=>by simp only[QL] at h;subst h;rfl) rfl (by decide) (by decide) ?_;intro w6 Xh em Xo;have tW:=lg.trans Xh;have GD:Sl w6 5 (some ⟨w5.heap.size,0,none⟩) 1 1 (Kl e):=Sl.own (sz:=5) (n:=1) Xo (QC _) (by decide) (by simp[Kl]);refine JB (n:=m.length) Qa rfl rfl rfl rfl rfl (by decide) rfl rfl ⟨_,rfl⟩ rfl rfl (hO.ext tW) GD (iQr e) (by unfold maxLen;omega) (by show(m.length+1)*64<=_;omega) (by have:=Qg.size;have:=tW.size;omega) ?_;intro A' c' w7 J5 tD mQj;refine Qi ((i+1:Nat):Int) (by show((i:Nat):Int)+1=_;omega) (by omega) ?_;refine⟨(i+1,m++ [e],A',c'),by simp only[Qu];rfl,⟨J5.ext (Qg.trans tW) (λk hk=>(hO.rows k hk).1),Xe,?_,?_⟩,by show p.en-(i+1)<p.en-i;omega⟩
     ·simp only;rw[mM he,DR,<-aX,uE,Qf (by show(pJ a s e.ed&&af S (oD e.x))=true;rw[qJ,oy];rfl),List.filter_nil]
     ·simp only;rw[Qu,dJ];simpa using tD
   ·refine Qi ((i+1:Nat):Int) (by show((i:Nat):Int)+1=_;omega) (by omega) ?_;refine⟨(i+1,m,MA,mc),rfl,⟨Qg.trans Jj,Xe,?_,hO.ext Jj⟩,by show p.en-(i+1)<p.en-i;omega⟩;simp only;rw[mM he,DR,<-aX,uE,if_neg (by intro hh;rw[JL] at hh;have h3:(a:Int)<=e.fr/\e.to_<=a+s.length:=a8 hh.1;omega),List.filter_nil,YH]
  ·refine Qi ((i+1:Nat):Int) (by show((i:Nat):Int)+1=_;omega) (by omega) ?_;refine⟨(i+1,m,MA,mc),rfl,⟨Qg.trans Jj,Xe,?_,hO.ext Jj⟩,by show p.en-(i+1)<p.en-i;omega⟩;simp only;rw[mM he,DR,<-aX,uE,if_neg (by intro hh;rw[JL] at hh;have h3:(a:Int)<=e.fr/\e.to_<=a+s.length:=a8 hh.1;omega),List.filter_nil,YH]
 have Xe:i=p.en:=by simp only at c1;omega
 have aX:m=p.es.filter (λe=>pJ a s e.ed&&af S e.ed.o):=by rw[aX,Jm (by omega)]
 have aQQ:=iQt p.es S a s;rw[<-aX] at aQQ;have ov:∀e∈m,e∈p.es/\(a:Int)<=e.fr/\e.to_<=a+s.length/\af S (oD e.x)=true:=λe he=>by
  rw[aX] at he;obtain⟨h1,h2⟩:=JZ.1 he;rw[JL] at h2;have h3:(a:Int)<=e.fr/\e.to_<=a+s.length:=a8 h2.1;exact⟨h1,h3.1,h3.2,h2.2⟩
 have Jk:m.length<=10:=by omega
 have hM:SlS Kl 5 w2 MA m.length mc m:=⟨hO.sl,rfl⟩
 clear aX hi c1;have rq:fC p.nm p.f (p.es.map EdV.ed) S a s=if m.map EdV.ed=[] then some [s] else if d5 S (m.map EdV.ed)=false then none else if S.all (λc=>Ve (bz p.f (a+s.length+1) a (m.map EdV.ed) c))=false then none else some (XV p.nm (bz p.f (a+s.length+1) a (m.map EdV.ed)) p.nm.length 0 S):=by
  unfold fC;rw[aQQ]
 generalize fC p.nm p.f (p.es.map EdV.ed) S a s=RES at*;refine Zh (λh0=>?_) (λh0=>?_)
 ·have hm0:m=[]:=aA (by simp only at h0;omega);refine XI Qa [[Value.string (Qe (s++ [10]))]] rfl rfl rfl rfl rfl ⟨rfl,rfl,⟨⟩⟩ rfl (λcs hh=>by simp only[QL] at hh;subst hh;rfl) rfl (by decide) (by decide) ?_;intro w3 Qk JI Qt;refine⟨[s],by rw[rq,hm0];rfl,_,_,rfl,Q7.trans Qk,Sl.own' (n:=1) Qt rfl (by decide),λ_=>⟨_,_,rfl⟩⟩
 have Zo:m≠ []:=λe=>h0 (by rw[e];rfl)
 have tr:m.map EdV.ed≠ []:=λe=>Zo (List.map_eq_nil_iff.1 e)
 rw[if_neg tr] at rq;have lQw:S≠ []:=by
  obtain⟨e,he⟩:=lQ _ Zo;intro e0;have:=(ov e he).2.2.2;rw[e0] at this;cases this
 refine loop Qa [69] (λi:Nat=>[.int .i64 i]) (λi w'=>Ext w2 w'/\i<=m.length/\d5 S (m.map EdV.ed)=d5 S ((m.drop i).map EdV.ed)) (λi _=>m.length-i) 0 rfl ⟨Ext.refl _,XJ _,rfl⟩ ?_;rintro i w3 ⟨Qk,hi,aW⟩;have QW:=Q7.trans Qk;refine Qy (λc1=>?_) (λc1=>?_)
 ·have Xe:i<m.length:=by simp only at c1;omega
  refine Zw pM (hM.ext Qk) rfl Xe (λad e he hc=>?_);have ju:=QO he;obtain⟨e1,e2,e3,e4⟩:=ov e ju;have se:=gy (hval e e1).1;rw[iQu he,Y0,d5] at aW;refine Kr (vs:=Kl e) rfl hc ?_;refine new (λw4 Qq KY Q4=>?_);refine Qz Q4 rfl (sc rfl) (λw5 Jw _ QK=>?_);have J6:Ext w3 w5:=X9 Qq Q4 Jw;have lg:=Qk.trans J6;refine Qi ((i+1:Nat):Int) (by show((i:Nat):Int)+1=_;omega) (by omega) ?_;refine M8 Qa rfl rfl rfl rfl rfl rfl (by omega) ?_;have hFr:=(hM.ext lg).from pM (l:=i+1) (by omega)
  have ut:=hM.1.le;refine loop Qa [79] (λj:Nat=>[.int .i64 j]) (λj w'=>Ext w5 w'/\j<=m.length-(i+1)/\((m.drop (i+1)).take j).all (λb=>iS S e.ed b.ed)=true) (λj _=>m.length-(i+1)-j) 0 rfl ⟨Ext.refl _,XJ _,by simp⟩ ?_;rintro j w6 ⟨Xh,hj,hall⟩;refine Qy (λc2=>?_) (λc2=>?_)
  ·have Kh:j<m.length-(i+1):=by simp only at c2;omega
   refine Zw pM (hFr.ext Xh) rfl Kh (λIq b hb KK=>?_);have ur:b∈m:=aZ (QO hb);obtain⟨b1,b2,b3,b4⟩:=ov b ur;have sb:=gy (hval b b1).1;refine Kr (vs:=Kl b) rfl KK ?_;refine new (λw7 Q2 WJ Q6=>?_);refine Qz Q6 rfl (sc rfl) (λw8 YQ _ Xt=>?_);have aQ:Ext w6 w8:=X9 Q2 Q6 YQ;have nF:=Xh.trans aQ;have YR:=QW.trans (J6.trans nF);have aQf:=QK.ext nF;have xw:=Ext.drew w8;have next:∀w',Ext w8 w'->iS S e.ed b.ed=true->Ext w5 w'/\j+1<=m.length-(i+1)/\((m.drop (i+1)).take (j+1)).all (λb=>iS S e.ed b.ed)=true:=λw' fW h2=>by
    refine⟨nF.trans fW,by omega,?_⟩;rw[mM hb,List.all_append,hall];simp only[yH,List.all_nil,Bool.and_true,dH];exact h2
   refine XC Qa (Ext w8) 15 [(true,0),(true,1),(true,2),(true,3),(true,4),(true,5),(true,6),(true,7),(true,8),(true,9),(true,11),(false,10),(false,12),(true,13),(true,14)] (by kernel_rfl) xw ?_;refine QH (v:=.int .i64 e.to_) (λw' Qb=>(aQf.ext Qb).cell 1) ?_;refine QH (v:=.int .i64 b.fr) (λw' Qb=>(Xt.ext Qb).cell 0) ?_;refine Qy (λd1=>?_) (λd1=>?_)
   ·refine Xq (vs:=[.slice e.x.A e.x.n e.x.c,.int .i64 e.x.r]) rfl (λw' Qb k u hk=>by rw[add_add,(aQf.ext Qb).cell];match k,hk with | 0,hk=>exact hk | 1,hk=>exact hk) ?_;refine Xq (vs:=[.slice b.x.A b.x.n b.x.c,.int .i64 b.x.r]) rfl (λw' Qb k u hk=>by rw[add_add,(Xt.ext Qb).cell];match k,hk with | 0,hk=>exact hk | 1,hk=>exact hk) ?_;refine Xq (vs:=d.cells) rfl (λw' Qb k u hk=>by rw[((Qh.ext (Qg.trans (Qk.trans (J6.trans nF)))).ext Qb).cell];exact hk) ?_;have eX:=YR.trans xw;refine call (mJ hk e.x b.x w8.drew ((K.sbs e e1).ext eX) ((K.sbs b b1).ext eX) se sb) ?_;rintro _ w9 ⟨QA,Qn,Qc,Qnd,Qr,rfl,XE,hQ9,sQ,_⟩;refine⟨xw.trans XE,?_⟩;refine call (Rc QA Qn Qc Qnd Qr d.A d.n d.c d.nd d.r w9 hQ9 (hd.ext (eX.trans XE))) ?_;rintro _ QJ ⟨rfl,ZJ⟩;have eJ:=(xw.trans XE).trans ZJ;refine⟨eJ,?_⟩;rw[SP (x:=⟨QA,Qn,Qc,Qnd,Qr⟩) hk sQ sd,uA];cases qJ:af S (λv=>oD e.x v&&oD b.x v)with
    | false=>
     refine Q5 rfl ?_;refine Qi ((j+1:Nat):Int) (by show((j:Nat):Int)+1=_;omega) (by omega) ?_;exact⟨j+1,rfl,next QJ eJ (by show(!(decide (b.fr<e.to_)&&af S (λv=>oD e.x v&&oD b.x v)))=true;rw[qJ,Bool.and_false];rfl),by show m.length-(i+1)-(j+1)<m.length-(i+1)-j;omega⟩
    | true=>
     refine Xa rfl ?_;refine XO (Yw 291 (by decide) QJ) (λ_ _ hf=>hf.elim) ?_;rintro ch _ ⟨rfl,rfl⟩;have Xf:iS S e.ed b.ed=false:=by
      show(!(decide (b.fr<e.to_)&&af S (λv=>oD e.x v&&oD b.x v)))=false;rw[qJ,XR (by omega:b.fr<e.to_)]<;>rfl
     have KU:(m.drop (i+1)).all (λb=>iS S e.ed b.ed)=false:=List.all_eq_false.2 ⟨b,QO hb,by rw[Xf];decide⟩;refine⟨?_,rfl,YR.trans eJ⟩;have:d5 S (m.map EdV.ed)=false:=by
      rw[aW,List.all_map];show((m.drop (i+1)).all (λb=>iS S e.ed b.ed)&&_)=false;rw[KU]<;>rfl
     rw[rq,Qf this]
   ·refine Qi ((j+1:Nat):Int) (by show((j:Nat):Int)+1=_;omega) (by omega) ?_;exact⟨j+1,rfl,next w8.drew xw (by show(!(decide (b.fr<e.to_)&&af S (λv=>oD e.x v&&oD b.x v)))=true;rw[X4 (by omega:¬b.fr<e.to_)];rfl),by show m.length-(i+1)-(j+1)<m.length-(i+1)-j;omega⟩
  ·have Kh:j=m.length-(i+1):=by simp only at c2;omega
   rw[Jm (by rw[Y3];omega)] at hall;refine Qi ((i+1:Nat):Int) (by show((i:Nat):Int)+1=_;omega) (by omega) ?_;refine⟨i+1,rfl,⟨lg.trans Xh,Xe,?_⟩,by show m.length-(i+1)<m.length-i;omega⟩;rw[aW,List.all_map];show((m.drop (i+1)).all (λb=>iS S e.ed b.ed)&&_)=_;rw[hall,dH]
 have Xe:i=m.length:=by simp only at c1;omega
 have aQR:d5 S (m.map EdV.ed)=true:=by rw[aW,Xe,uJ (QC _)]<;>rfl
 clear aW c1 hi;rw[if_neg (by rw[aQR];decide)] at rq;have XK:=Qg.trans Qk;refine Qs (Qh.ext XK) rfl ?_;refine XI Qa [Vq (d,⟨o,[],a⟩)] rfl rfl rfl rfl rfl ⟨rfl,rfl,⟨⟩⟩ rfl (λcs h=>by simp only[QL] at h;subst h;rfl) rfl (by decide) (by decide) ?_;intro w4 Qq KY Q4;have XL:=QW.trans Qq;have QQ:QF p.nm.length o≠ []:=by rw[uA];exact lQw
 have lQx:d5 (QF p.nm.length o) (m.map EdV.ed)=true:=by rw[uA];exact aQR
 have hep:∀b∈m.map EdV.ed,0<=b.to_:=λb hb=>by
  obtain⟨e,he,rfl⟩:=Z4.1 hb;have:=L7 e (ov e he).1;show 0<=e.to_;omega
 have hVB:∀i,i<=m.length->∀v∈co p.nm.length p.f o a ((m.map EdV.ed).take i),VB (i*70000) (a+s.length) v:=λi hi v hv=>by
  have:=iQi (n:=p.nm.length) (o:=o) (a:=a) (T:=a+s.length) hB.f8 Ka (by omega) ((m.map EdV.ed).take i) (λb hb=>by
   obtain⟨e,he,rfl⟩:=Z4.1 (fa hb);obtain⟨h1,h2,h3,h4⟩:=ov e he;exact⟨hB.t8 e h1,hB.tl e h1,by show e.to_.toNat<=_;omega⟩) v hv
  rw[Ye,JM,oH hi] at this;exact this
 have hVL:∀i,i<=m.length->(co p.nm.length p.f o a ((m.map EdV.ed).take i)).length<=1024:=λi hi=>by
  refine Zf (iQh _ _ _ _ _) ?_;rw[Ye,JM,oH hi];exact Zf (Wl (by decide) (show i<=10 by omega)) (by decide)
 refine loop Qa [107,16] (λt:Nat×List (DV×AV)×Option Addr×Nat=>[.int .i64 t.1,.slice t.2.2.1 t.2.1.length t.2.2.2]) (λt w'=>Ext w4 w'/\t.1<=m.length/\t.2.1.map (·.2)=co p.nm.length p.f o a ((m.map EdV.ed).take t.1)/\SlS Vq 4 w' t.2.2.1 t.2.1.length t.2.2.2 t.2.1/\∀v∈t.2.1,SB w' v.1.A v.1.n v.1.c v.1.nd/\Set1 p.nm.length v.1.nd v.1.r v.2.o) (λt _=>m.length-t.1) (0,[(d,⟨o,[],a⟩)],some ⟨w3.heap.size,0,none⟩,1) rfl ⟨Ext.refl _,XJ _,rfl,⟨Sl.own (sz:=4) (n:=1) Q4 (QC _) (by show 1<=maxLen;decide) (by simp[Vq]),rfl⟩,λv hv=>by
  rw[QL.1 hv];exact⟨hd.ext XL,sd⟩⟩ ?_
 rintro⟨i,vs,VA,vc⟩ w5 ⟨Qv,hi,js,L8,L9⟩;simp only at hi js L8 L9;have JV:=XL.trans Qv;have hvl:vs.length<=1024:=by have:=hVL i hi;rw[<-js,JM] at this;exact this
 have fV:∀v∈vs,VB (i*70000) (a+s.length) v.2:=λv hv=>hVB i hi v.2 (by rw[<-js];exact Z4.2 ⟨v,hv,rfl⟩)
 refine Qy (λc1=>?_) (λc1=>?_)
 ·have Xe:i<m.length:=by simp only at c1;omega
  refine Zw pM (hM.ext (Qk.trans (Qq.trans Qv))) rfl Xe (λad e he hc=>?_);have ju:=QO he;obtain⟨e1,e2,e3,e4⟩:=ov e ju;obtain⟨e5,e6,e7⟩:=L7 e e1;have se:=gy (hval e e1).1;have heg:(m.map EdV.ed)[i]? =some e.ed:=by rw[VR,he]<;>rfl
  refine Kr (vs:=Kl e) rfl hc ?_;refine new (λw6 Xh em Xo=>?_);refine Qz Xo rfl (sc rfl) (λw7 Zu _ Q6=>?_);have Vs:Ext w5 w7:=X9 Xh Xo Zu;have K4:=JV.trans Vs;refine loop Qa [113,19] (λt:Nat×List (DV×AV)×Option Addr×Nat=>[.int .i64 t.1,.slice t.2.2.1 t.2.1.length t.2.2.2]) (λt w'=>Ext w7 w'/\t.1<=vs.length/\t.2.1.map (·.2)=((vs.map (·.2)).take t.1).flatMap (V4 p.nm.length p.f e.ed)/\Own w' w7.heap.size 166 4 t.2.2.1 t.2.1.length t.2.2.2 (t.2.1.flatMap Vq)/\∀v∈t.2.1,DgO w' (Qj t.2.2.1) p.nm.length v.1 v.2.o) (λt _=>vs.length-t.1) (0,[],none,0) rfl ⟨Ext.refl _,XJ _,rfl,Own.nil _ _ _ _,λv hv=>by cases hv⟩ ?_;rintro⟨j,nx,NX,nxc⟩ w8 ⟨Q0,hj,cC,tY,qw⟩;simp only at hj cC tY qw;have YR:=K4.trans Q0;have nF:=Vs.trans Q0;have mQP:nx.length<=2*j:=by
   have h1:=QN List.length cC;have h2:=F7 p.nm.length p.f e.ed ((vs.map (·.2)).take j);rw[JM] at h1;rw[Ye] at h2;omega
  refine Qy (λc2=>?_) (λc2=>?_)
  ·have Kh:j<vs.length:=by simp only at c2;omega
   refine Zw SR (L8.ext nF) rfl Kh (λIq v hv KK=>?_);have lI:=QO hv;obtain⟨sbv,stv⟩:=L9 v lI;obtain⟨vb8,vbl,vba⟩:=fV v lI;have Ma:(vs.map (·.2))[j]? =some v.2:=by rw[VR,hv]<;>rfl
   refine Kr (vs:=Vq v) rfl KK ?_;refine new (λw9 XE et JT=>?_);refine Qz JT rfl (sc rfl) (λQJ kZ _ Km=>?_);have eJ:Ext w8 QJ:=X9 XE JT kZ;have gX:=Q0.trans eJ;have nz:=YR.trans eJ;refine fk (vs:=[.slice v.1.A v.1.n v.1.c,.int .i64 v.1.r]) Km rfl (λk u hk=>by match k,hk with | 0,hk=>exact hk | 1,hk=>exact hk) ?_;refine fk (vs:=[.slice e.x.A e.x.n e.x.c,.int .i64 e.x.r]) (Q6.ext gX) rfl (λk u hk=>by match k,hk with | 0,hk=>exact hk | 1,hk=>exact hk) ?_;refine call (mJ hk v.1 e.x QJ (sbv.ext (nF.trans eJ)) ((K.sbs e e1).ext nz) stv se) ?_;rintro _ QG ⟨QA,Qn,Qc,Qnd,Qr,rfl,J9,kQu,sQ,Ds⟩;refine new (λXg Xs jQK Vg=>?_);refine Qz Vg rfl (sc rfl) (λX2 wM _ K2=>?_);have Ir:Ext QG X2:=X9 Xs Vg wM;have aQg:=J9.trans Ir;have nG:=eJ.trans aQg;have Is:=Q0.trans nG;have p8:=YR.trans nG;have xx:=Km.ext aQg;have Io:=kQu.ext Ir;have Bk:=J9.size;have mQk:=Ir.size;have mQl:=eJ.size;have z8:=Q0.size;have Vy:=tY.rows;have hQ0:=sQ.root0;have cI:(vs.map (·.2)).take (j+1)=(vs.map (·.2)).take j++ [v.2]:=mM Ma;refine Qp K2 rfl ?_;refine bg (λhz=>?_) (λhz=>?_)
   ·have Mb:QF p.nm.length (JE v.2.o (oD e.x))≠ []:=λe0=>hz (hQ0.2 e0)
    have jt:=iQj (f:=p.f) (a:=a) QQ lQx heg (by show(a:Int)<=e.fr;omega) hep (v:=v.2) (by rw[<-js];exact Z4.2 ⟨v,lI,rfl⟩) Mb;have jt:(v.2.a:Int)<=e.fr:=jt;have YZ:=Ext.drew X2;have dl:=pN p.f v.2.a e.fr.toNat;have tl:=hB.tl e e1;have hto:((e.to_.toNat:Nat):Int)=e.to_:=by omega
    refine XC Qa (Mod (Qj NX) X2) 23 [(true,0),(true,1),(true,2),(true,3),(true,4),(true,5),(true,6),(true,7),(true,8),(true,9),(true,10),(true,11),(true,12),(true,13),(true,14),(true,15),(true,16),(true,17),(true,18),(true,19),(false,20),(false,21),(true,22)] (by kernel_rfl) (Mod.of_ext _ YZ) ?_;have Bp:¬Qj NX QG.heap.size:=λh=>by have:=Vy _ h;omega
    have It:¬Qj NX w8.heap.size:=λh=>by have:=Vy _ h;omega
    have Iu:¬Qj NX w5.heap.size:=λh=>by have:=Vy _ h;have:=Vs.size;have:=Q6.lt;omega
    have neb:¬Qj NX p.eb:=λh=>by have:=Vy _ h;have:=K.blk.lt;have:=K4.size;omega
    have ds:=XF v.2.d;have cs:=XF (J1 p.f v.2.a e.fr.toNat);have dcs:=XF (v.2.d++J1 p.f v.2.a e.fr.toNat);have txs:=XF e.tx;rw[Qu] at dcs;refine Xq (vs:=[.slice QA Qn Qc,.int .i64 Qr]) rfl (λw' Qb k u hk=>by rw[(K2.mod Qb Bp).cell];exact hk) ?_;refine QH (v:=.string (Qe v.2.d)) (λw' Qb=>(xx.mod Qb It).cell 2) ?_;refine QH (v:=.string (Qe p.f)) (λw' Qb=>((K.blk.ext p8).mod Qb neb).cell 3) ?_;refine QH (v:=.int .i64 v.2.a) (λw' Qb=>(xx.mod Qb It).cell 3) ?_;refine QH (v:=.int .i64 e.fr) (λw' Qb=>((Q6.ext Is).mod Qb Iu).cell 0) ?_;refine Ke (v':=.string (Qe (J1 p.f v.2.a e.fr.toNat))) ⟨by omega,by omega,by rw[dF];omega⟩ (by
     rw[KN];show Value.string (Qe ((p.f.take e.fr.toNat).drop v.2.a))=_;rw[f9];rfl) ?_
    refine Ke (v':=.string (Qe (v.2.d++J1 p.f v.2.a e.fr.toNat))) (by rw[ds,cs];unfold maxLen;omega) (by rw[jJ]) ?_;refine QH (v:=.string (Qe e.tx)) (λw' Qb=>((Q6.ext Is).mod Qb Iu).cell 2) ?_;refine Ke (v':=.string (Qe (v.2.d++J1 p.f v.2.a e.fr.toNat++e.tx))) (by rw[dcs,txs];unfold maxLen;omega) (by rw[jJ]) ?_;refine QH (v:=.int .i64 ((e.to_.toNat:Nat):Int)) (λw' Qb=>by rw[hto];exact((Q6.ext Is).mod Qb Iu).cell 1) ?_;refine XI Qa [Vq (⟨QA,Qn,Qc,Qnd,Qr⟩,⟨JE v.2.o (oD e.x),v.2.d++J1 p.f v.2.a e.fr.toNat++e.tx,e.to_.toNat⟩)] rfl rfl rfl rfl rfl ⟨rfl,rfl,⟨⟩⟩ rfl (λcs h=>by simp only[QL] at h;subst h;rfl) rfl (by decide) (by decide) ?_;generalize qr:(((⟨QA,Qn,Qc,Qnd,Qr⟩:DV),(⟨JE v.2.o (oD e.x),v.2.d++J1 p.f v.2.a e.fr.toNat++e.tx,e.to_.toNat⟩:AV)):DV×AV)=V1;intro Zi J7 G3 JU;have je:=YZ.trans J7;have qx:=nG.trans je;refine⟨Mod.of_ext _ je,?_⟩;have Iv:Sl Zi 4 (some ⟨X2.drew.heap.size,0,none⟩) 1 1 (Vq V1):=Sl.own (sz:=4) (n:=1) JU (QC _) (by decide) (by simp[Vq]);refine JB (n:=nx.length) Qa rfl rfl rfl rfl rfl (by decide) rfl rfl ⟨_,rfl⟩ rfl rfl (tY.ext qx) Iv (F8 _) (by unfold maxLen;omega) (by show(nx.length+1)*56<=_;omega) (by have:=(Q0.trans qx).size;omega) ?_;intro NX2 Iw Kw tZ gY Ix;have t6:Mod (Qj NX) X2 Kw:=(Mod.of_ext (Qj NX) je).trans tZ (λi hi=>.inl hi);refine⟨t6,?_⟩;have t7:Mod (Qj NX) w8 Kw:=(Mod.of_ext (Qj NX) nG).trans t6 (λi hi=>.inl hi);have xy:Ext w7 Kw:=t7.ext Q0 (λk hk=>(Vy k hk).1);have aQh:=K4.trans xy;have kQv:=Vs.trans xy;have mQm:=t6.size;have xz:∀k,Qj NX2 k->Qj NX k∨Zi.heap.size<=k:=Ix.rows
    have z14:=je.size;have kQw:∀u∈nx,DgO Kw (Qj NX2) p.nm.length u.1 u.2.o:=λu hu=>(qw u hu).step t7 (λk hk=>by
     rcases xz k hk with h | h
     ·exact .inl h
     ·exact .inr (by omega))
    have aQi:DgO Kw (Qj NX2) p.nm.length V1.1 V1.2.o:=by
     rw[<-qr];have h0:DgO X2 (Qj NX) p.nm.length ⟨QA,Qn,Qc,Qnd,Qr⟩ (JE v.2.o (oD e.x)):=⟨Io,sQ,λad ea h0 h=>by have:=Ds ad.block ⟨ad,ea,rfl⟩;have:=Vy _ h;omega⟩
     exact h0.step t6 (λk hk=>by
      rcases xz k hk with h | h
      ·exact .inl h
      ·exact .inr (by omega))
    have aQj:=gY.rows;rw[show nx.flatMap Vq++Vq V1=(nx++ [V1]).flatMap Vq by rw[dJ];simp] at gY;have tO:=xx.mod t6 It;have qk:=K2.mod t6 Bp;refine fk (vs:=[.slice v.1.A v.1.n v.1.c,.int .i64 v.1.r]) tO rfl (λk u hk=>by match k,hk with | 0,hk=>exact hk | 1,hk=>exact hk) ?_;refine Qs qk rfl ?_;have kQx:SB Kw QA Qn Qc Qnd:=by have:=aQi.sb;rw[<-qr] at this;exact this
    refine call (dZ hk v.1 ⟨QA,Qn,Qc,Qnd,Qr⟩ Kw (sbv.ext kQv) kQx stv sQ) ?_;rintro _ ao ⟨PA,Pn,Pc,Pnd,Pr',rfl,V8,kQy,sP,hPR⟩;have hP0:=sP.root0;refine jM (j:=0) (tO.ext V8) (by show 0+2<=4;decide) (sc rfl) (λVu HE kQz ni=>?_);have qh:Mod (·=w8.heap.size) ao Vu:=mQW HE rfl;have Iy:Ext w7 Vu:=qh.ext (xy.trans V8) (λk hk=>by omega);have z16:=V8.size;have kQA:∀k,Qj NX2 k->¬k=w8.heap.size:=λk hk hh=>by
     rcases xz k hk with h | h
     ·have:=Vy _ h;omega
     ·omega
    have CL:=(gY.ext V8).mod qh kQA;have mQn:=Km.lt;have aQk:∀u∈nx++ [V1],DgO Vu (Qj NX2) p.nm.length u.1 u.2.o:=λu hu=>by
     have Iz:DgO Kw (Qj NX2) p.nm.length u.1 u.2.o:=by
      rcases Xw.1 hu with hu | hu
      ·exact kQw u hu
      ·rw[QL.1 hu];exact aQi
     have kQB:∀ad,u.1.A=some ad->0<u.1.n->¬ad.block=w8.heap.size:=λad ea h0 hh=>by
      rcases Xw.1 hu with hu | hu
      ·have:=SB.lt (qw u hu).sb ad ea h0;omega
      ·rw[QL.1 hu,<-qr] at ea h0;have:=Ds ad.block ⟨ad,ea,rfl⟩;omega
     exact⟨SB.modo (Iz.sb.ext V8) qh kQB,Iz.st,Iz.off⟩
    refine F5 (j:=0) (i:=1) ni rfl ?_;refine bg (λhy=>?_) (λhy=>?_)
    ·refine Qs ni rfl ?_;refine XI Qa [Vq (⟨PA,Pn,Pc,Pnd,Pr'⟩,⟨Yk v.2.o (JE v.2.o (oD e.x)),v.2.d,v.2.a⟩)] rfl rfl rfl rfl rfl ⟨rfl,rfl,⟨⟩⟩ rfl (λcs h=>by simp only[QL] at h;subst h;rfl) rfl (by decide) (by decide) ?_;generalize BK:(((⟨PA,Pn,Pc,Pnd,Pr'⟩:DV),(⟨Yk v.2.o (JE v.2.o (oD e.x)),v.2.d,v.2.a⟩:AV)):DV×AV)=V2;intro Vh nH mQo qd;have kQC:Sl Vh 4 (some ⟨Vu.heap.size,0,none⟩) 1 1 (Vq V2):=Sl.own (sz:=4) (n:=1) qd (QC _) (by decide) (by simp[Vq]);refine JB (n:=nx.length+1) Qa rfl rfl rfl rfl rfl (by decide) rfl rfl ⟨_,rfl⟩ rfl rfl (CL.ext nH) kQC (F8 _) (by unfold maxLen;omega) (by show(nx.length+1+1)*56<=_;omega) (by have:=(Iy.trans nH).size;omega) ?_;intro NX3 nc3 bI kQD aQl kQE;have IA:Mod (Qj NX2) Vu bI:=(Mod.of_ext (Qj NX2) nH).trans kQD (λi hi=>.inl hi);have r19:∀k,Qj NX3 k->Qj NX2 k∨Vh.heap.size<=k:=kQE.rows
     have z18:=nH.size;have kQF:Ext w7 bI:=IA.ext Iy (λk hk=>(aQj k hk).1);have kQG:SB Vu PA Pn Pc Pnd:=SB.modo kQy qh (λad ea h0 hh=>by have:=hPR ad.block ⟨ad,ea,rfl⟩;omega);have kQH:DgO bI (Qj NX3) p.nm.length V2.1 V2.2.o:=by
      rw[<-BK];have h0:DgO Vu (Qj NX2) p.nm.length ⟨PA,Pn,Pc,Pnd,Pr'⟩ (Yk v.2.o (JE v.2.o (oD e.x))):=⟨kQG,sP,λad ea h0 h=>by have:=hPR ad.block ⟨ad,ea,rfl⟩;have:=(aQj _ h).2;omega⟩
      exact h0.step IA (λk hk=>by
       rcases r19 k hk with h | h
       ·exact .inl h
       ·exact .inr (by omega))
     refine Qi ((j+1:Nat):Int) (by show((j:Nat):Int)+1=_;omega) (by omega) ?_;rw[show(nx++ [V1]).flatMap Vq++Vq V2=(nx++ [V1]++ [V2]).flatMap Vq by rw[dJ];simp] at aQl;refine⟨(j+1,nx++ [V1]++ [V2],NX3,nc3),by simp only[Qu];rfl,⟨kQF,Kh,?_,by simp only;rw[Qu,Qu];exact aQl,λu hu=>?_⟩,by show vs.length-(j+1)<vs.length-j;omega⟩
     ·simp only;rw[cI,dJ,<-cC,f0,f0,cK,yS,YH,Je];congr 1;have h9:QF p.nm.length (Yk v.2.o (JE v.2.o (oD e.x)))≠ []:=λe0=>hy (hP0.2 e0)
      unfold V4;rw[if_neg (by exact Mb),if_neg (by exact h9),<-qr,<-BK]<;>rfl
     ·rcases Xw.1 hu with hu | hu
      ·exact(aQk u hu).step IA (λk hk=>by
        rcases r19 k hk with h | h
        ·exact .inl h
        ·exact .inr (by omega))
      ·rw[QL.1 hu];exact kQH
    ·refine Qi ((j+1:Nat):Int) (by show((j:Nat):Int)+1=_;omega) (by omega) ?_;refine⟨(j+1,nx++ [V1],NX2,Iw),by simp only[Qu];rfl,⟨Iy,Kh,?_,by simp only;rw[Qu];exact CL,aQk⟩,by show vs.length-(j+1)<vs.length-j;omega⟩;simp only;rw[cI,dJ,<-cC,f0,cK,yS,YH];congr 1;have h9:QF p.nm.length (Yk v.2.o (JE v.2.o (oD e.x)))=[]:=hP0.1 hy;unfold V4;rw[if_neg (by exact Mb),Qf (by exact h9),<-qr]<;>rfl
   ·have gQ:QF p.nm.length (JE v.2.o (oD e.x))=[]:=hQ0.1 hz;have eu:=stv.root0;refine F5 (j:=0) (i:=1) xx rfl ?_;refine bg (λhy=>?_) (λhy=>?_)
    ·refine Qs xx rfl ?_;refine XI Qa [Vq v] rfl rfl rfl rfl rfl ⟨rfl,rfl,⟨⟩⟩ rfl (λcs h=>by simp only[QL] at h;subst h;rfl) rfl (by decide) (by decide) ?_;intro Zi J7 G3 JU;have qx:=nG.trans J7;have Iv:Sl Zi 4 (some ⟨X2.heap.size,0,none⟩) 1 1 (Vq v):=Sl.own (sz:=4) (n:=1) JU (QC _) (by decide) (by simp[Vq]);refine JB (n:=nx.length) Qa rfl rfl rfl rfl rfl (by decide) rfl rfl ⟨_,rfl⟩ rfl rfl (tY.ext qx) Iv (F8 _) (by unfold maxLen;omega) (by show(nx.length+1)*56<=_;omega) (by have:=(Q0.trans qx).size;omega) ?_;intro NX2 Iw Kw tZ gY Ix;have t7:Mod (Qj NX) w8 Kw:=(Mod.of_ext (Qj NX) qx).trans tZ (λi hi=>.inl hi);have xy:Ext w7 Kw:=t7.ext Q0 (λk hk=>(Vy k hk).1);have xz:∀k,Qj NX2 k->Qj NX k∨Zi.heap.size<=k:=Ix.rows
     have mQp:=qx.size;have aQm:∀k,Qj NX2 k->Qj NX k∨w8.heap.size<=k:=λk hk=>by
      rcases xz k hk with h | h
      ·exact .inl h
      ·exact .inr (by omega)
     refine Qi ((j+1:Nat):Int) (by show((j:Nat):Int)+1=_;omega) (by omega) ?_;rw[show nx.flatMap Vq++Vq v=(nx++ [v]).flatMap Vq by rw[dJ];simp] at gY;refine⟨(j+1,nx++ [v],NX2,Iw),by simp only[Qu];rfl,⟨xy,Kh,?_,by simp only;rw[Qu];exact gY,λu hu=>?_⟩,by show vs.length-(j+1)<vs.length-j;omega⟩
     ·simp only;rw[cI,dJ,<-cC,f0,cK,yS,YH];congr 1;unfold V4;rw[Qf (by exact gQ),if_neg (λe0=>hy (eu.2 e0))]<;>rfl
     ·rcases Xw.1 hu with hu | hu
      ·exact(qw u hu).step t7 aQm
      ·rw[QL.1 hu];have h0:DgO w8 (Qj NX) p.nm.length v.1 v.2.o:=⟨sbv.ext nF,stv,λad ea h0 h=>by have:=SB.lt (sbv.ext Vs) ad ea h0;have:=(Vy _ h).1;omega⟩
       exact h0.step t7 aQm
    ·refine Qi ((j+1:Nat):Int) (by show((j:Nat):Int)+1=_;omega) (by omega) ?_;refine⟨(j+1,nx,NX,nxc),rfl,⟨Q0.trans nG,Kh,?_,tY.ext nG,λu hu=>(qw u hu).ext nG⟩,by show vs.length-(j+1)<vs.length-j;omega⟩;simp only;rw[cI,dJ,<-cC,cK,yS,YH];unfold V4;rw[Qf (by exact gQ),Qf (eu.1 hy),YH]
  ·have Kh:j=vs.length:=by simp only at c2;omega
   rw[Jm (by rw[JM];omega),js,<-iQf,<-mM heg] at cC;refine Qi ((i+1:Nat):Int) (by show((i:Nat):Int)+1=_;omega) (by omega) ?_;exact⟨(i+1,nx,NX,nxc),rfl,⟨Qv.trans (Vs.trans Q0),Xe,cC,⟨tY.sl,rfl⟩,λv hv=>⟨(qw v hv).sb,(qw v hv).st⟩⟩,by show m.length-(i+1)<m.length-i;omega⟩
 have Xe:i=m.length:=by simp only at c1;omega
 rw[Jm (by rw[JM];omega)] at js;have Du:=iQk (f:=p.f) (a:=a) (stop:=a+s.length+1) (es:=m.map EdV.ed) QQ;rw[uA] at Du;have Mc:=iQm (f:=p.f) (a:=a) (stop:=a+s.length+1) (es:=m.map EdV.ed) QQ;have hvi:=AQ (f:=p.f) (a:=a) QQ (m.map EdV.ed);rw[<-js] at Du Mc hvi;refine loop Qa [165,23] (λt:Nat×List (DV×Pr)×Option Addr×Nat=>[.int .i64 t.1,.slice t.2.2.1 t.2.1.length t.2.2.2]) (λt w'=>Ext w5 w'/\t.1<=vs.length/\t.2.1.map (·.2)=kE p.f (a+s.length+1) ((vs.map (·.2)).take t.1)/\Own w' w5.heap.size 56 3 t.2.2.1 t.2.1.length t.2.2.2 (t.2.1.flatMap Z8)/\(∀q∈t.2.1,DgO w' (Qj t.2.2.1) p.nm.length q.1 q.2.o)/\∀v∈(vs.map (·.2)).take t.1,Ve (v.d++J1 p.f v.a (a+s.length+1))=true) (λt _=>vs.length-t.1) (0,[],none,0) rfl ⟨Ext.refl _,XJ _,rfl,Own.nil _ _ _ _,(λq hq=>by cases hq),λv hv=>by simp at hv⟩ ?_;rintro⟨k,qs,PA,pc⟩ w6 ⟨Xh,HB,ip,fG,gZ,xA⟩;simp only at HB ip fG gZ xA;have XM:=JV.trans Xh;have hql:qs.length<=k:=by
  have h1:=QN List.length ip;have h2:=iQq p.f (a+s.length+1) ((vs.map (·.2)).take k);rw[JM] at h1;rw[Ye] at h2;omega
 have Vy:=fG.rows;refine Qy (λc2=>?_) (λc2=>?_)
 ·have Xl:k<vs.length:=by simp only at c2;omega
  refine Zw SR (L8.ext Xh) rfl Xl (λIq v hv KK=>?_);have lI:=QO hv;obtain⟨sbv,stv⟩:=L9 v lI;obtain⟨vb8,vbl,vba⟩:=fV v lI;have Ma:(vs.map (·.2))[k]? =some v.2:=by rw[VR,hv]<;>rfl
  have hvV:v.2∈vs.map (·.2):=Z4.2 ⟨v,lI,rfl⟩;have cI:(vs.map (·.2)).take (k+1)=(vs.map (·.2)).take k++ [v.2]:=mM Ma;refine Kr (vs:=Vq v) rfl KK ?_;refine new (λw7 Q2 WJ Q6=>?_);refine Qz Q6 rfl (sc rfl) (λw8 YQ _ Xt=>?_);have aQ:Ext w6 w8:=X9 Q2 Q6 YQ;have YR:=XM.trans aQ;have YZ:=Ext.drew w8;have ds:=XF v.2.d;have cs:=XF (J1 p.f v.2.a (a+s.length+1));have dl:=pN p.f v.2.a (a+s.length+1);refine XC Qa (Ext w8) 16 [(true,0),(true,1),(true,2),(true,3),(true,4),(true,5),(true,6),(true,7),(true,8),(true,9),(true,10),(true,11),(true,12),(true,13),(false,14),(false,15)] (by kernel_rfl) YZ ?_;refine QH (v:=.string (Qe v.2.d)) (λw' Qb=>(Xt.ext Qb).cell 2) ?_;refine QH (v:=.string (Qe p.f)) (λw' Qb=>((K.blk.ext YR).ext Qb).cell 3) ?_;refine QH (v:=.int .i64 v.2.a) (λw' Qb=>(Xt.ext Qb).cell 3) ?_;refine Qi ((a+s.length+1:Nat):Int) (by rw[yA];omega) (by omega) ?_;refine Ke (v':=.string (Qe (J1 p.f v.2.a (a+s.length+1)))) ⟨by omega,by omega,by rw[dF];omega⟩ (by
   rw[KN];show Value.string (Qe ((p.f.take (a+s.length+1)).drop v.2.a))=_;rw[f9];rfl) ?_
  refine Ke (v':=.string (Qe (v.2.d++J1 p.f v.2.a (a+s.length+1)))) (by rw[ds,cs];unfold maxLen;omega) (by rw[jJ]) ?_;have dk:∀b∈v.2.d++J1 p.f v.2.a (a+s.length+1),b<256:=λb hb=>by
   rcases Xw.1 hb with hb | hb
   ·exact vb8 b hb
   ·exact tg hB.f8 _ _ b hb
  have YE:(v.2.d++J1 p.f v.2.a (a+s.length+1)).length<=1000000:=by rw[Qu];omega
  generalize hT:v.2.d++J1 p.f v.2.a (a+s.length+1)=T at*;refine new (λw9 XE et JT=>?_);refine⟨YZ.trans XE,?_⟩;refine KE JT (by decide) (λQJ Zp Km=>?_);have eJ:Ext w8 QJ:=Zp.ext (YZ.trans XE) (λi hi=>by have:=YZ.size;omega);refine⟨eJ,?_⟩;have Km:Blk QJ w8.drew.heap.size 9 [.string (Qe T)]:=Km;refine Qx Km rfl ?_;refine call (RH T QJ dk (by omega)) ?_;rintro _ QG ⟨rfl,J9⟩;have kS:=aQ.trans (eJ.trans J9);have YS:=XM.trans kS;cases Jq:Ve T with
  | false=>
   refine Xa rfl ?_;refine XO (Yw 291 (by decide) QG) (λ_ _ hf=>hf.elim) ?_;rintro ch _ ⟨rfl,rfl⟩;refine⟨?_,rfl,YS⟩;rw[rq,Qf];refine dK.2 (λhh=>?_);have:=Du.1 hh v.2 hvV;rw[hT,Jq] at this;cases this
  | true=>
  refine Q5 rfl ?_;have ZZ:=Km.ext J9;have kQI:=fG.ext kS;have Md:SlS Ju 3 QG PA qs.length pc (qs.map (λq=>(q.1,q.2.t))):=⟨by rw[<-AU];exact kQI.sl,by rw[JM]⟩
  have oC:∀q∈qs,(∀b∈q.2.t,b<256)/\q.2.t.length<=1000000:=λq hq=>by
   refine SM (P:=λt=>(∀b∈t,b<256)/\t.length<=1000000) ((vs.map (·.2)).take k) (λu hu=>?_) q.2 (by rw[<-ip];exact Z4.2 ⟨q,hq,rfl⟩);obtain⟨u0,IB,rfl⟩:=Z4.1 (fa hu);obtain⟨a1,a2,a3⟩:=fV u0 IB;refine⟨λb hb=>?_,?_⟩
   ·rcases Xw.1 hb with hb | hb
    ·exact a1 b hb
    ·exact tg hB.f8 _ _ b hb
   ·have:=pN p.f u0.2.a (a+s.length+1);rw[Qu];omega
  have Dv:Zn (qs.map (λq=>(q.1,q.2.t)))=qs.map (·.2):=AR (λq hq=>(gZ q hq).st);refine call (iQp PA qs.length pc (qs.map (λq=>(q.1,q.2.t))) T w8.drew.heap.size QG Md (λq hq=>by
   obtain⟨q0,V9,rfl⟩:=Z4.1 hq;exact(oC q0 V9).1) dk ZZ) ?_
  rintro _ Xg ⟨rfl,Xs⟩;rw[Dv];have qy:=kS.trans Xs;have tJ:=XM.trans qy;have kQJ:=(eJ.trans J9).trans Xs;have IC:=fG.ext qy;have Vg:=ZZ.ext Xs;have wx:=Xt.ext kQJ;have mQq:=qy.size;obtain⟨s1,s2⟩:=vX T (qs.map (·.2));have aQS:=hQ3 (qs.map (·.2)) T;rw[JM] at aQS;have aQT:kE p.f (a+s.length+1) ((vs.map (·.2)).take (k+1))=cm (qs.map (·.2)) v.2.o T:=by rw[cI,iQl,<-ip,hT]
  have aQn:∀u∈(vs.map (·.2)).take (k+1),Ve (u.d++J1 p.f u.a (a+s.length+1))=true:=λu hu=>by
   rw[cI] at hu;rcases Xw.1 hu with hu | hu
   ·exact xA u hu
   ·rw[QL.1 hu,hT];exact Jq
  generalize Kb:Vp (qs.map (·.2)) T=ix at*;by_cases Xc:ix<qs.length
  ·rw[Qf Xc];refine Q9 (by omega) ?_;have jl:0<qs.length:=by omega
   obtain⟨q0,V9⟩:∃q0,qs[ix]? =some q0:=⟨_,Xn Xc⟩
   have lQy:=QO V9;obtain⟨pa,ZP,_⟩:=IC.sl.at_ jl;subst ZP;have n25:¬Qj (some pa) w6.heap.size:=λh=>by have:=(Vy _ h).2;omega
   have qz:=Ext.drew Xg;have kQK:∀q∈qs,DgO Xg (Qj (some pa)) p.nm.length q.1 q.2.o:=λq hq=>(gZ q hq).ext qy
   refine XC Qa (Mod (Qj (some pa)) Xg) 16 [(true,0),(true,1),(true,2),(true,3),(true,4),(true,5),(true,7),(true,8),(false,6),(false,9),(true,10),(true,11),(false,12),(true,13),(true,14),(false,15)] (by kernel_rfl) (Mod.of_ext _ qz) ?_;refine AT (j:=ix) Xc ?_;refine Xq (vs:=[.slice v.1.A v.1.n v.1.c,.int .i64 v.1.r]) rfl (λw' Qb k u hk=>by rw[add_add,(wx.mod Qb n25).cell];match k,hk with | 0,hk=>exact hk | 1,hk=>exact hk) ?_;have hOd:=IC.ext qz;refine Kr (vs:=[.slice q0.1.A q0.1.n q0.1.c,.int .i64 q0.1.r]) rfl (λk u hk=>by
    rw[add_add];refine vM (o:=ix*3) (i:=0+k) hOd jl ?_;rw[bQ];refine fm mN qs ix q0 k u V9 ?_
    match k,hk with
    | 0,hk=>exact hk
    | 1,hk=>exact hk) ?_
   refine⟨Mod.of_ext _ qz,?_⟩;have sq0:=(kQK q0 lQy)
   refine call (iQn hk q0.1 v.1 Xg.drew (sq0.sb.ext qz) ((sbv.ext (Xh.trans qy)).ext qz) sq0.st stv) ?_;rintro _ X2 ⟨OA,On,Oc,Ond,Or',rfl,XK,hOs,sO,hOR⟩;have aQo:=qz.trans XK;refine⟨Mod.of_ext _ aQo,?_⟩;refine call (AH ⟨OA,On,Oc,Ond,Or'⟩ X2) ?_;rintro _ Zi ⟨rfl,J7⟩;have qu:=aQo.trans J7;refine⟨Mod.of_ext _ qu,?_⟩;refine AT (j:=ix) Xc ?_;show jz _ _ ((pa.add (ix*3)).add 0) _ _;rw[add_add];have mQr:=cQ mN qs;refine Fl (IC.ext qu) (by show ix*3+0+2<=qs.length*3;omega) (sc rfl) (λKw tZ gY=>?_);have aQp:Mod (Qj (some pa)) Xg Kw:=(Mod.of_ext _ qu).trans tZ (λi hi=>.inl hi);refine⟨aQp,?_⟩;have aQq:Mod (Qj (some pa)) w6 Kw:=(Mod.of_ext _ qy).trans aQp (λi hi=>.inl hi);have ID:(qs.flatMap Z8)[ix*3+0+ [Value.slice OA On Oc,.int .i64 Or'].length]? =some (.string (Qe q0.2.t)):=fm mN qs ix q0 2 _ V9 rfl;rw[show(#[Value.slice OA On Oc,Value.int IntKind.i64 Or']:Array Value).toList=[Value.slice OA On Oc,.int .i64 Or'] from rfl,SQ ID] at gY;have gY:Own Kw w5.heap.size 56 3 (some pa) qs.length pc ((qs.set ix (⟨OA,On,Oc,Ond,Or'⟩,Pr.mk (λe=>q0.2.o e||v.2.o e) q0.2.t)).flatMap Z8):=by
    rw[<-zZ mN qs _ Xc];exact gY
   refine Qi ((k+1:Nat):Int) (by show((k:Nat):Int)+1=_;omega) (by omega) ?_;have lQz:(qs.map (·.2))[ix]? =some q0.2:=by rw[VR,V9]<;>rfl
   have mQs:=qu.size;have mQt:=qz.size;refine⟨(k+1,qs.set ix (⟨OA,On,Oc,Ond,Or'⟩,Pr.mk (λe=>q0.2.o e||v.2.o e) q0.2.t),some pa,pc),by simp only[dG];rfl,⟨aQq.ext Xh (λi hi=>(Vy i hi).1),Xl,?_,by simp only;rw[dG];exact gY,λq hq=>?_,aQn⟩,by show vs.length-(k+1)<vs.length-k;omega⟩
   ·simp only;rw[aQT];unfold cm;rw[Kb,lQz,List.map_set]
   ·rcases DO hq with hq | rfl
    ·exact(gZ q hq).step aQq (λi hi=>.inl hi)
    ·have h0:DgO Zi (Qj (some pa)) p.nm.length ⟨OA,On,Oc,Ond,Or'⟩ (λe=>q0.2.o e||v.2.o e):=⟨hOs.ext J7,sO,λad ea h0 h=>by have:=hOR ad.block ⟨ad,ea,rfl⟩;have:=(Vy _ h).2;omega⟩
     exact h0.step tZ (λi hi=>.inl hi)
  ·rw[if_neg Xc];refine XH (by decide) ?_;refine fk (vs:=[.slice v.1.A v.1.n v.1.c,.int .i64 v.1.r]) wx rfl (λk u hk=>by match k,hk with | 0,hk=>exact hk | 1,hk=>exact hk) ?_;refine Qx Vg rfl ?_;refine XI Qa [Z8 (v.1,Pr.mk v.2.o T)] rfl rfl rfl rfl rfl ⟨rfl,rfl,⟨⟩⟩ rfl (λcs h=>by simp only[QL] at h;subst h;rfl) rfl (by decide) (by decide) ?_;intro X2 XK Hy K2;have CM:=qy.trans XK;have HN:Sl X2 3 (some ⟨Xg.heap.size,0,none⟩) 1 1 (Z8 (v.1,Pr.mk v.2.o T)):=Sl.own (sz:=3) (n:=1) K2 (QC _) (by decide) (by simp[Z8,Ju]);refine JB (n:=qs.length) Qa rfl rfl rfl rfl rfl (by decide) rfl rfl ⟨_,rfl⟩ rfl rfl (fG.ext CM) HN (F9 _) (by unfold maxLen;omega) (by show(qs.length+1)*48<=_;omega) (by have:=(Xh.trans CM).size;omega) ?_;intro PA2 xB Zi BD aQr kQL;have IE:Mod (Qj PA) w6 Zi:=(Mod.of_ext (Qj PA) CM).trans BD (λi hi=>.inl hi);have r14:∀k,Qj PA2 k->Qj PA k∨X2.heap.size<=k:=kQL.rows
   have kQM:=CM.size;have aQs:∀k,Qj PA2 k->Qj PA k∨w6.heap.size<=k:=λk hk=>by
    rcases r14 k hk with h | h
    ·exact .inl h
    ·exact .inr (by omega)
   refine Qi ((k+1:Nat):Int) (by show((k:Nat):Int)+1=_;omega) (by omega) ?_;rw[show qs.flatMap Z8++Z8 (v.1,Pr.mk v.2.o T)=(qs++ [(v.1,Pr.mk v.2.o T)]).flatMap Z8 by rw[dJ];simp] at aQr;have Ll:(qs.map (·.2))[ix]? =none:=DQ.2 (by rw[JM];omega);refine⟨(k+1,qs++ [(v.1,Pr.mk v.2.o T)],PA2,xB),by simp only[Qu];rfl,⟨IE.ext Xh (λi hi=>(Vy i hi).1),Xl,?_,by simp only;rw[Qu];exact aQr,λq hq=>?_,aQn⟩,by show vs.length-(k+1)<vs.length-k;omega⟩
   ·simp only;rw[aQT];unfold cm;rw[Kb,Ll,f0]<;>rfl
   ·rcases Xw.1 hq with hq | hq
    ·exact(gZ q hq).step IE aQs
    ·rw[QL.1 hq];have h0:DgO w6 (Qj PA) p.nm.length v.1 v.2.o:=⟨sbv.ext Xh,stv,λad ea h0 h=>by have:=SB.lt sbv ad ea h0;have:=(Vy _ h).1;omega⟩
     exact h0.step IE aQs
 have Xl:k=vs.length:=by simp only at c2;omega
 rw[Jm (by rw[JM];omega)] at ip xA;rw[<-ip] at Mc;obtain⟨ZP,hfP⟩:=Mc.pa hvi (λc hc=>(Z7.1 hc).1);have Dv:Zn (qs.map (λq=>(q.1,q.2.t)))=qs.map (·.2):=AR (λq hq=>(gZ q hq).st);rw[if_neg (by rw[Du.2 xA];decide)] at rq;have oC:∀q∈qs,Ve q.2.t=true/\(∀b∈q.2.t,b<256)/\q.2.t.length<=1000000:=λq hq=>by
  refine SM (P:=λt=>Ve t=true/\(∀b∈t,b<256)/\t.length<=1000000) (vs.map (·.2)) (λu hu=>?_) q.2 (by rw[<-ip];exact Z4.2 ⟨q,hq,rfl⟩);have hu1:=xA u hu;obtain⟨u0,IB,rfl⟩:=Z4.1 hu;obtain⟨a1,a2,a3⟩:=fV u0 IB;refine⟨hu1,λb hb=>?_,?_⟩
  ·rcases Xw.1 hb with hb | hb
   ·exact a1 b hb
   ·exact tg hB.f8 _ _ b hb
  ·have:=pN p.f u0.2.a (a+s.length+1);rw[Qu];omega
 have YZ:=Ext.drew w6;refine XC Qa (Ext w6) 8 [(true,0),(true,1),(true,2),(true,3),(true,4),(true,5),(false,6),(true,7)] (by kernel_rfl) YZ ?_;refine QH (v:=.slice p.NA p.nn p.nc) (λw' Qb=>((K.blk.ext XM).ext Qb).cell 0) ?_;refine Xq (vs:=d.cells) rfl (λw' Qb k u hk=>by rw[((Qh.ext (XK.trans (Qq.trans (Qv.trans Xh)))).ext Qb).cell];exact hk) ?_;have eX:=XM.trans YZ;refine call (RQ p.NA p.nn p.nc p.nm d o PA qs.length pc (qs.map (λq=>(q.1,q.2.t))) p.nm.length hB.n4 rfl hB.nb (λs hs=>by have:=hB.nl s hs;omega) (λq hq=>by
  obtain⟨q0,V9,rfl⟩:=Z4.1 hq;obtain⟨t1,t2,t3⟩:=oC q0 V9;exact⟨(iQ hk (gZ q0 V9).st).1,t1,t2,t3⟩) w6.drew (K.nms.ext eX) (hd.ext eX) sd ⟨by rw[<-AU];exact(fG.ext YZ).sl,by rw[JM]⟩ (λq hq=>by
  obtain⟨q0,V9,rfl⟩:=Z4.1 hq;exact(gZ q0 V9).sb.ext YZ) QQ (by rw[Dv];exact ZP)) ?_
 rintro _ w7 ⟨A7,c7,rfl,Q2,XX⟩;refine⟨YZ.trans Q2,?_⟩;rw[Dv,vW p.nm.length 0 (QF p.nm.length o) QQ hfP,uA] at XX ⊢;exact⟨_,rq,A7,c7,rfl,eX.trans Q2,XX⟩
theorem SS {nm:List (List Nat)}{n d0:Nat}{inc:pz}(hi:∀r ln d k g q,inc r ln d k g= .error q->q.e≠0):∀(ls:List (List Nat))(ln at_:Nat)(k:BF)(op:List Se)(g:Gs)(q:Pl),ZS nm n d0 inc ls ln at_ k op g= .error q->q.e≠0
 | [],ln,at_,k,op,g,q,h=>by
  cases op with
  | nil=>simp[ZS] at h
  | cons x op=>simp only[ZS,Except.error.injEq] at h;rw[<-h];exact(by decide:(72:Int)≠0)
 | s::ls,ln,at_,k,op,g,q,h=>by
  have ih:=λk op g h=>SS (nm:=nm) (n:=n) (d0:=d0) hi ls (ln+1) (at_+s.length+1) k op g q h
  rw[ZS.eq_def] at h;simp only at h;cases X3:ZN s with
  | txt=>
   rw[X3] at h;simp only at h;cases ha:VZ (s++ [10]) n at_ k g with
   | none=>rw[ha] at h;cases h;exact(by decide:(2:Int)≠0)
   | some g1=>rw[ha] at h;exact ih _ _ _ h
  | ifd r=>
   rw[X3] at h;simp only at h;cases hs:Yu nm r with
   | error e=>rw[hs] at h;cases h;exact SC hs
   | ok d=>
    rw[hs] at h;simp only at h;split at h
    ·cases h;exact(by decide:(2:Int)≠0)
    ·exact ih _ _ _ h
  | inc r=>
   rw[X3] at h;simp only at h;cases hs:inc r (ln+1) (d0+op.length) k g with
   | error e=>rw[hs] at h;cases h;exact hi _ _ _ _ _ _ hs
   | ok g1=>rw[hs] at h;exact ih _ _ _ h
  | elif r=>
   rw[X3] at h;cases op with
   | nil=>cases h;exact(by decide:(72:Int)≠0)
   | cons y op=>
    simp only at h;split at h
    ·cases h;exact(by decide:(71:Int)≠0)
    ·cases hs:Yu nm r with
     | error e=>rw[hs] at h;cases h;exact SC hs
     | ok d=>rw[hs] at h;exact ih _ _ _ h
  | els=>
   rw[X3] at h;cases op with
   | nil=>cases h;exact(by decide:(72:Int)≠0)
   | cons y op=>
    simp only at h;split at h
    ·cases h;exact(by decide:(71:Int)≠0)
    ·exact ih _ _ _ h
  | en=>
   rw[X3] at h;cases op with
   | nil=>cases h;exact(by decide:(72:Int)≠0)
   | cons y op=>exact ih y.ou op {g with fr:=true} h
theorem iQw {ix:List Nat->Option Nat}{rd s:List Nat}{e:Int}(h:cY ix rd s= .error e):e≠0:=by
 rw[fQK] at h;split at h
 ·cases h;decide
 ·split at h
  ·cases h;decide
  ·split at h
   ·cases h;decide
   ·cases h
theorem iQx {nm:List (List Nat)}{t:List Nat}{q:Pl}(h:Ww nm (fF t) [102]= .error q):q.e≠0:=by
 unfold Ww at h;split at h
 ·cases h;decide
 cases K8:Wv (fF t)with
 | some p=>rw[K8] at h;cases h;exact P0 K8
 | none=>
  rw[K8] at h;simp only at h;cases Kb:Jo ((fF t).map (·.1)) [102] with
  | none=>rw[Kb] at h;cases h;decide
  | some n=>
   rw[Kb] at h;simp only at h;have hn:n<(fF t).length:=by have:=j8 Kb;simpa using this
   have h0:n=0:=by simpa [fF] using hn
   subst h0;rw[aF] at h;refine SS (λr ln d k g q hi=>?_) _ _ _ _ _ _ _ h;split at hi
   ·rename_i e he;cases hi;exact iQw he
   ·rename_i m he;exact Q8 he (FX t (by simp) (e:=0) _)
theorem Ga:∀(l:List Nat),∀s∈QT l,∀b∈s,b∈l
 | []=>λs hs=>by simp[QT] at hs
 | c::l=>by
  have ih:=Ga l;intro s hs b hb;unfold QT at hs;split at hs
  ·rcases QZ.1 hs with rfl | hs
   ·cases hb
   ·exact uH _ (ih s hs b hb)
  ·cases hl:QT l with
   | nil=>rw[hl] at hs;rw[QL.1 hs] at hb;rw[QL.1 hb];simp
   | cons t ls=>
    rw[hl] at hs ih;rcases QZ.1 hs with rfl | hs
    ·rcases QZ.1 hb with rfl | hb
     ·simp
     ·exact uH _ (ih t (by simp) b hb)
    ·exact uH _ (ih s (by simp[hs]) b hb)
theorem ST {f:List Nat}(hf:∀b∈f,b<256)(Ka:f.length<=60000)(c:Nat):∀(es:List Ed)(st:List Nat×Nat),(∀e∈es,(∀b∈e.tx,b<256)/\e.tx.length<=1000)->(∀b∈st.1,b<256)->
  (∀b∈(es.foldl (Yv f c) st).1,b<256)/\(es.foldl (Yv f c) st).1.length<=st.1.length+es.length*70000
 | [],st,_,h=>⟨h,by simp⟩
 | e::es,st,he,h=>by
  obtain⟨e1,e2⟩:=he e (by simp);have jm:=pN f st.2 e.fr.toNat;have nK:(∀b∈(Yv f c st e).1,b<256)/\(Yv f c st e).1.length<=st.1.length+70000:=by
   unfold Yv;split
   ·refine⟨λb hb=>?_,by simp only[Qu];omega⟩;simp only[Xw] at hb;rcases hb with(hb | hb) | hb
    ·exact h b hb
    ·exact tg hf _ _ b hb
    ·exact e1 b hb
   ·exact⟨h,by omega⟩
  obtain⟨i1,i2⟩:=ST hf Ka c es (Yv f c st e) (λb hb=>he b (by simp[hb])) nK.1;rw[yE,Xj,rv,Nat.one_mul];exact⟨i1,by omega⟩
theorem iQy {f:List Nat}(hf:∀b∈f,b<256)(Ka:f.length<=60000){stop a:Nat}{es:List Ed}(he:∀e∈es,(∀b∈e.tx,b<256)/\e.tx.length<=1000)(hl:es.length<=10)(c:Nat):(∀b∈bz f stop a es c,b<256)/\(bz f stop a es c).length<=1000000:=by
 obtain⟨h1,h2⟩:=ST hf Ka c es ([],a) he (λb hb=>by cases hb);unfold bz;refine⟨λb hb=>?_,?_⟩
 ·rcases Xw.1 hb with hb | hb
  ·exact h1 b hb
  ·exact tg hf _ _ b hb
 ·have:=pN f (es.foldl (Yv f c) ([],a)).2 stop;have:=Y1 70000 hl;rw[Qu];simp only[Z5] at h2;omega
def th (s:List Nat):Prop:=(∀b∈s,b<256)/\s.length<=1000000
theorem SU {nm:List (List Nat)}(hb:Ks nm)(h:∀s∈nm,s.length<=1000)(v:Nat)(ng:Bool):th (ZA nm v ng):=by
 refine⟨λb hb2=>?_,?_⟩
 ·unfold ZA at hb2;simp only[Xw] at hb2;rcases hb2 with hb2 | hb2 | hb2
  ·exact(by decide:∀b∈Zl,b<256) b hb2
  ·cases ng with
   | true=>
        have:b=33:=by simpa using hb2
        rw[this];decide
   | false=>simp at hb2
  ·cases hv:nm[v]? with
   | none=>rw[hv] at hb2;simp at hb2
   | some s=>rw[hv] at hb2;exact(hb s (QO hv)).1 b hb2
 ·unfold ZA;have h1:((nm[v]?).getD []).length<=1000:=by
   cases hv:nm[v]? with
   | none=>simp
   | some s=>exact h s (QO hv)
  have h2:(if ng then [33] else([]:List Nat)).length<=1:=by cases ng<;>simp
  have h3:Zl.length=4:=rfl;simp only[Qu];omega
theorem iQz {nm:List (List Nat)}(VO:Ks nm)(KB:∀s∈nm,s.length<=1000){f:List Nat}(hf:∀b∈f,b<256)(Ka:f.length<=60000){es:List Ed}(he:∀e∈es,(∀b∈e.tx,b<256)/\e.tx.length<=1000)(hl:es.length<=10){S:List Nat}(hS:S.length<=16){a:Nat}{s:List Nat}(hs:th s){L:List (List Nat)}(h:fC nm f es S a s=some L):
  L.length<=16000048/\∀u∈L,th u:=by
 unfold fC at h;split at h
 ·rw[<-Option.some.inj h];exact⟨by show 1<=16000048;decide,λu hu=>by rw[QL.1 hu];exact hs⟩
 ·rename_i h0;split at h
  ·cases h
  ·split at h
   ·cases h
   ·rw[<-Option.some.inj h];have QQ:S≠ []:=λe=>by
     apply h0;unfold gA;rw[yQ];intro b hb;rw[e];simp[af]
    have hm:∀e∈gA es S a s,(∀b∈e.tx,b<256)/\e.tx.length<=1000:=λe hm=>he e (JZ.1 hm).1
    have LH:(gA es S a s).length<=10:=Zf (uG _ _) hl;obtain⟨h1,h2⟩:=kz (nm:=nm) (f:=bz f (a+s.length+1) a (gA es S a s)) (P:=th) (M:=1000000) (λv ng=>SU VO KB v ng) ⟨by decide,by decide⟩ ⟨by decide,by decide⟩ nm.length 0 S QQ (λc hc=>by
     obtain⟨v1,v2⟩:=iQy hf Ka (stop:=a+s.length+1) (a:=a) hm LH c;obtain⟨l1,l2⟩:=AO (bz f (a+s.length+1) a (gA es S a s) c);exact⟨λu hu=>⟨λb hb=>v1 b (Ga _ u hu b hb),by have:=l2 u hu;omega⟩,by omega⟩)
    have:=Y1 (1000000+3) hS;exact⟨by omega,h1⟩
def ApR (nm:List (List Nat))(d:BF)(g:Gs)(f:List Nat)(es:List Ed)(ls:List (List Nat))(i:Nat)(L:List (List Nat)):Prop:=
 d6 nm d g f es ls 0=match d6 nm d g f es (ls.drop i) (Qo (ls.take i)).length with
  | none=>none
  | some m=>some (L++m)
theorem ApR.zero {nm:List (List Nat)}{d:BF}{g:Gs}{f:List Nat}{es:List Ed}{ls:List (List Nat)}:ApR nm d g f es ls 0 []:=by
 unfold ApR;show d6 nm d g f es ls 0=match d6 nm d g f es ls 0 with
  | none=>none
  | some m=>some ([]++m)
 cases d6 nm d g f es ls 0<;>rfl
theorem SV {ls:List (List Nat)}{i:Nat}{s:List Nat}(h:ls[i]? =some s):(Qo (ls.take (i+1))).length=(Qo (ls.take i)).length+s.length+1:=by
 rw[VT,h];show(Qo (ls.take i++ [s])).length=_;rw[Fy];simp only[Qu,oL];omega
theorem ApR.next {nm:List (List Nat)}{d:BF}{g:Gs}{f:List Nat}{es:List Ed}{ls:List (List Nat)}{i:Nat}{L l:List (List Nat)}{s:List Nat}(h:ApR nm d g f es ls i L)(hs:ls[i]? =some s)
  (hl:(if ZN s= .txt then fC nm f es (QF nm.length (JE d (sZ g (Qo (ls.take i)).length))) (Qo (ls.take i)).length s else some [s])=some l):ApR nm d g f es ls (i+1) (L++l):=by
 have Xc:=(Z0.1 hs).1;have hd:ls.drop i=s::ls.drop (i+1):=by
  rw[bR Xc];congr 1;rw[Xn Xc] at hs;exact Option.some.inj hs
 unfold ApR at h ⊢;rw[hd,d6,hl] at h;rw[SV hs,h];simp only;cases d6 nm d g f es (ls.drop (i+1)) ((Qo (ls.take i)).length+s.length+1)with
 | none=>rfl
 | some m=>simp only[Je]
theorem ApR.none {nm:List (List Nat)}{d:BF}{g:Gs}{f:List Nat}{es:List Ed}{ls:List (List Nat)}{i:Nat}{L:List (List Nat)}{s:List Nat}(h:ApR nm d g f es ls i L)(hs:ls[i]? =some s)
  (hl:(if ZN s= .txt then fC nm f es (QF nm.length (JE d (sZ g (Qo (ls.take i)).length))) (Qo (ls.take i)).length s else some [s])=Option.none):d6 nm d g f es ls 0=Option.none:=by
 have Xc:=(Z0.1 hs).1;have hd:ls.drop i=s::ls.drop (i+1):=by
  rw[bR Xc];congr 1;rw[Xn Xc] at hs;exact Option.some.inj hs
 unfold ApR at h;rw[hd,d6,hl] at h;exact h
theorem ApR.fin {nm:List (List Nat)}{d:BF}{g:Gs}{f:List Nat}{es:List Ed}{ls:List (List Nat)}{i:Nat}{L:List (List Nat)}(h:ApR nm d g f es ls i L)(hi:ls.length<=i):d6 nm d g f es ls 0=some L:=by
 unfold ApR at h;rw[uJ hi] at h;rw[h];show some (L++ [])=some L;rw[YH]
theorem SW:∀{ls:List (List Nat)}{p i:Nat}{s:List Nat},ls[i]? =some s->(p+(Qo (ls.take i)).length,s)∈Jv p ls
 | [],p,i,s,h=>by simp at h
 | t::ls,p,0,s,h=>by
  have:t=s:=by simpa using h
  subst this;simp[Jv,Qo]
 | t::ls,p,i+1,s,h=>by
  have:=SW (p:=p+t.length+1) (ls:=ls) (i:=i) (s:=s) (by simpa using h);refine uH _ ?_;rw[jx,Wu];simp only[Qu,Xj];rw[show p+(t.length+((Qo (ls.take i)).length+1))=p+t.length+1+(Qo (ls.take i)).length by omega];exact this
theorem SY {nm:List (List Nat)}{n d0:Nat}{inc:pz}(hi:∀r ln d k g g',inc r ln d k g≠ .ok g'):∀(ls:List (List Nat))(ln at_:Nat)(k:BF)(op:List Se)(g g':Gs),ZS nm n d0 inc ls ln at_ k op g= .ok g'->∀q∈Jv at_ ls,ZN q.2= .txt->∃k',(q.1,q.2,k')∈fB nm ls at_ k (Rv op)
 | [],ln,at_,k,op,g,g',_,q,hq,_=>by cases hq
 | s::ls,ln,at_,k,op,g,g',h,q,hq,lL=>by
  have ih:=λk op g h hq=>SY (nm:=nm) (n:=n) (d0:=d0) hi ls (ln+1) (at_+s.length+1) k op g g' h q hq lL
  rw[ZS.eq_def] at h;simp only at h;rw[fB.eq_def];simp only;rw[Jv] at hq;cases X3:ZN s with
  | txt=>
   rw[X3] at h;simp only at h ⊢;cases ha:VZ (s++ [10]) n at_ k g with
   | none=>rw[ha] at h;cases h
   | some g1=>
    rw[ha] at h;rcases QZ.1 hq with rfl | hq
    ·exact⟨k,MD⟩
    ·obtain⟨k',YD⟩:=ih _ _ _ h hq;exact⟨k',uH _ YD⟩
  | ifd r=>
   rw[X3] at h;simp only at h ⊢;rcases QZ.1 hq with rfl | hq
   ·rw[X3] at lL;cases lL
   cases hs:Yu nm r with
   | error e=>rw[hs] at h;cases h
   | ok d=>
    rw[hs] at h;simp only at h ⊢;split at h
    ·cases h
    ·exact ih _ _ _ h hq
  | inc r=>
   rw[X3] at h;simp only at h;cases hs:inc r (ln+1) (d0+op.length) k g with
   | error e=>rw[hs] at h;cases h
   | ok g1=>exact Q8 hs (hi _ _ _ _ _ _)
  | elif r=>
   rw[X3] at h;rcases QZ.1 hq with rfl | hq
   ·rw[X3] at lL;cases lL
   cases op with
   | nil=>cases h
   | cons y op=>
    simp only at h ⊢;split at h
    ·cases h
    ·cases hs:Yu nm r with
     | error e=>rw[hs] at h;cases h
     | ok d=>rw[hs] at h;exact ih _ _ _ h hq
  | els=>
   rw[X3] at h;rcases QZ.1 hq with rfl | hq
   ·rw[X3] at lL;cases lL
   cases op with
   | nil=>cases h
   | cons y op=>
    simp only at h ⊢;split at h
    ·cases h
    ·exact ih y.re ({y with ot:=true}::op) {g with fr:=true} h hq
  | en=>
   rw[X3] at h;rcases QZ.1 hq with rfl | hq
   ·rw[X3] at lL;cases lL
   cases op with
   | nil=>cases h
   | cons y op=>exact ih y.ou op {g with fr:=true} h hq
theorem iQA {nm:List (List Nat)}{t:List Nat}{g:Gs}(hr:Ww nm (fF t) [102]= .ok g){q:Nat×List Nat}(hq:q∈Jv 0 (QT t))(hd:ZN q.2= .txt):∃k i x,SegAt g q.1 k i x:=by
 obtain⟨ht,h1,h2,h3⟩:=Si hr;have key:∃k',(q.1,q.2,k')∈fB nm (QT t) 0 (λ_=>true) []:=by
  unfold Ww at hr;split at hr
  ·cases hr
  cases K8:Wv (fF t)with
  | some p=>rw[K8] at hr;cases hr
  | none=>
   rw[K8] at hr;simp only at hr;cases Kb:Jo ((fF t).map (·.1)) [102] with
   | none=>rw[Kb] at hr;cases hr
   | some n=>
    rw[Kb] at hr;simp only at hr;have hn:n<(fF t).length:=by have:=j8 Kb;simpa using this
    have h0:n=0:=by simpa [fF] using hn
    subst h0;have hx:(fF t)[0]? =some ([102],t):=rfl;rw[aF,hx] at hr;simp only[yJ,iu] at hr;exact SY (λr ln d' k' g1 g2 hi=>by
     split at hi
     ·cases hi
     ·rename_i m he;exact FX t (by simp) (e:=0) _ he) (QT t) 0 0 (λ_=>true) [] ⟨[],[],true⟩ g hr q hq hd
 obtain⟨k',hk⟩:=key;rw[<-h1] at hk;obtain⟨i,x,hs,_⟩:=hQ1 h3 h2 hk;exact⟨k',i,x,hs⟩
end
section
section
variable {P:Program} {ops:Array Oper} {md:Region.Mode} {C:World->Prop} {Q:Exit->Act->World->Prop}
def PanE (N:Slots)(T:Env)(Xi:List PanicEntry->World->Prop)(Q:Exit->Act->World->Prop):Exit->Act->World->Prop
 | .panic ch,a,w=>Fits N T a/\Xi ch w
 | e,a,w=>Q e a w
def vZ (T:Env)(d:Option Tmp):Bool:=match d with
 | none=>true
 | some d=> !(jC d T)
theorem PanE.put {N:Slots}{T:Env}{Xi:List PanicEntry->World->Prop}{Q:Exit->Act->World->Prop}{ch:List PanicEntry}{a:Act}{d:Option Tmp}{v:Value}{w:World}(hd:vZ T d=true)(h:PanE N T Xi Q (.panic ch) (a.put d v) w):PanE N T Xi Q (.panic ch) a w:=by
 obtain⟨h1,h3⟩:=h;cases d with
 | none=>exact⟨h1,h3⟩
 | some d=>
  refine⟨⟨by simpa [Act.put] using h1.size,by simpa [Act.put] using h1.defers,λk x hk=>?_⟩,h3⟩;have h4:=h1.has k x hk;have QQ:d≠k:=λe=>by
   subst e;have h5:jC d T=false:=by simpa [vZ] using hd
   rw[M0 h5] at hk;cases hk
  simpa [Act.put,QQ] using h4
theorem PanE.imp {c:Cx}{T:Env}{Xi:List PanicEntry->World->Prop}{Q:Zg}(hp:∀ch w,Xi ch w->Q (.panic ch) T w):∀(e:Exit)(a:Act)(w:World),PanE c.N T Xi (Up c Q) e a w->Up c Q e a w:=λe a w h=>by
 cases e<;>first | exact h | (obtain⟨h1,h3⟩:=h;exact⟨T,h1,hp _ _ h3⟩)
theorem iQB {N:Slots}{T:Env}{Xi:List PanicEntry->World->Prop}{n i:Nat}{oi:Oper}{v:Value}{L:Array Bool->Act->World->Prop}(hi:ops[i]? =some oi)(nP:∀(j:Nat)(o:Oper) cs b,ops[j]? =some o->o.op≠ .select cs b)(hT:vZ T oi.dst=true)
  (hs:jK md ops n) (Xe:i<n) (xI:∀listed a w,L listed a w->∀j∈Region.ready md ops listed,n<=j):
  ∀(f:Nat) (listed:Array Bool) (a:Act) (w:World),HeadInv md ops n listed->
   (∀j oj,ops[j]? =some oj->j≠i->listed.getD j true=false->(∀e∈oj.after,Region.binds md e=true->e.on≠i)->oi.apart ops oj=true)->
   i∈Region.ready md ops listed->YieldsIf P ops C oi v a->C w->
   WX P md ops (PanE N T Xi Q) C n L f (listed.setIfInBounds i true) (a.put oi.dst v) w->WX P md ops (PanE N T Xi Q) C n L (f+1) listed a w:=by
 intro f;induction f with
 | zero=>
  intro listed a w inv _ hr hy hC H;have JK:=(mem_ready.1 hr).1;refine⟨λh=>(by rw[h] at hr;cases hr),λj hj=>?_⟩;have Kh:=rN hs inv Xe JK j hj;refine⟨Kh,?_⟩;by_cases KT:j=i
  ·subst KT;exact hy.wpOp hi hC ⟨hC,H⟩
  ·have:=xI _ _ _ H j (ready_mono hj KT);omega
 | succ f ih=>
  intro listed a w inv nQ hr hy hC H;have JK:=(mem_ready.1 hr).1;refine⟨λh=>(by rw[h] at hr;cases hr),λj hj=>?_⟩;have Kh:=rN hs inv Xe JK j hj;refine⟨Kh,?_⟩;by_cases KT:j=i
  ·subst KT;exact hy.wpOp hi hC ⟨hC,H⟩
  ·have h1:=(H.2 j (ready_mono hj KT)).2;obtain⟨nR,oj,eM,hall⟩:=mem_ready.1 hj;have lr:∀e∈oj.after,Region.binds md e=true->e.on≠i:=λe he hb heq=>by
    have h1:=hall e he hb;rw[heq,getD_both JK] at h1;cases h1
   have h2:=wpOp_putIf eM (nQ j oj eM KT nR lr) (λcs b=>nP i oi cs b hi) (λcs b=>nP j oj cs b eM) (λ_ _ _ h=>PanE.put hT h) hy h1;have xJ:∀k ok,ops[k]? =some ok->k≠i->(listed.setIfInBounds j true).getD k true=false->
     (∀e∈ok.after,Region.binds md e=true->e.on≠i)->oi.apart ops ok=true:=λk ok hk xK JK Xf=>by
    refine nQ k ok hk xK ?_ Xf;by_cases nT:j=k
    ·subst nT;exact nR
    ·rw[getD_set_ne true nT] at JK;exact JK
   refine wpOp_mono (λa' w' h3=>⟨h3.2.1,ih (listed.setIfInBounds j true) a' w' (inv.set hj Kh) xJ (ready_mono hr (Ne.symm KT)) h3.1 h3.2.1 ?_⟩) h2;rw[aQZ _ _ KT];exact h3.2.2
end
section
variable {c:Cx} {S:Env} {a:Act}
def kF (c:Cx)(T:Env)(Xi:List PanicEntry->World->Prop)(all:List Oper)(C:World->Prop):List (Bool×Nat)->Env->World->(Env->World->Prop)->Prop
 | [],S,w,K=>K S w
 | (true,k)::l,S,w,K=>match VC all k with
  | some o=>iE all o S (λS=>rP c o S C (λS=>kF c T Xi all C l S w K)) (λS=>Xk c S o.dst (.v undef) (λS=>kF c T Xi all C l S w K))
  | none=>False
 | (false,k)::l,S,w,K=>match VC all k with
  | some o=>iE all o S (λS=>dN c o S w (λS w=>C w/\kF c T Xi all C l S w K) (λe S w=>match e with
   | .panic ch=>Has T S/\Xi ch w
   | _=>False)) (λS=>Xk c S o.dst (.v undef) (λS=>kF c T Xi all C l S w K))
  | none=>False
theorem AW (hg:c.g.Ok){md:Region.Mode}{ops:List Oper}{C:World->Prop}{Q:Exit->Act->World->Prop}{n:Nat}(hs:Region.noSelect ops.toArray=true){T:Env}(hT:ops.all (λo=>vZ T o.dst)=true)(hk:jK md ops.toArray n){K:Env->World->Prop}{Xi:List PanicEntry->World->Prop}:
  ∀(l:List (Bool×Nat)) (listed:Array Bool) (S:Env) (a:Act) (w:World),HeadInv md ops.toArray n listed->cP md ops.toArray n l listed=true->kF c T Xi ops C l S w K->Fits c.N S a->C w->
  WX c.g.P md ops.toArray (PanE c.N T Xi Q) C n (λKz a' w'=>Region.seqB md ops.toArray (ops.toArray.size-n) n Kz=true/\∃S',Fits c.N S' a'/\K S' w') l.length listed a w
 | [],listed,S,a,w,inv,hB,h,hf,hC=>⟨hB,S,hf,h⟩
 | (true,k)::l,listed,S,a,w,inv,hB,h,hf,hC=>by
  simp only[cP,JL] at hB;obtain⟨⟨⟨Xl,hr⟩,ll⟩,VM⟩:=hB;have Xl:k<n:=by rw[jv] at Xl;exact Xl
  have Q1:k∈Region.ready md ops.toArray listed:=by simpa using hr
  obtain⟨_,o,ho,_⟩:=mem_ready.1 Q1;have hn:VC ops k=some o:=by rw[iz];simpa using ho
  simp only[kF,hn] at h;have key:∃v,YieldsIf c.g.P ops.toArray C o v a/\∃S',Fits c.N S' (a.put o.dst v)/\kF c T Xi ops C l S' w K:=by
   rcases lY h hf with⟨hw,S1,ZB,h1⟩ | ⟨hw,S1,ZB,h1⟩
   ·obtain⟨v,h2,h3⟩:=zt hg h1 ZB;exact⟨v,.inl ⟨hw,h2⟩,h3⟩
   ·exact⟨undef,.inr ⟨hw,rfl⟩,Zs (e:=.v undef) h1 ZB⟩
  obtain⟨v,hy,S',QY,h'⟩:=key;exact iQB ho (Region.noSelect_spec hs) (Y2.1 hT o (QO (by simpa using ho))) hk Xl (λKz a' w' hL=>seqB_ready hL.1) l.length listed a w inv (Region.free_spec ho ll) Q1 hy hC
   (AW hg hs hT hk l _ S' _ w (inv.set Q1 Xl) VM h' QY hC)
 | (false,k)::l,listed,S,a,w,inv,hB,h,hf,hC=>by
  simp only[cP,JL,Vl] at hB;obtain⟨⟨Xl,hr⟩,VM⟩:=hB;have Xl:k<n:=by rw[jv] at Xl;exact Xl
  have Q1:k∈Region.ready md ops.toArray listed:=by rw[hr];simp
  obtain⟨_,o,ho,_⟩:=mem_ready.1 Q1;have hn:VC ops k=some o:=by rw[iz];simpa using ho
  simp only[kF,hn] at h;have hZ:=inv.set Q1 Xl;refine⟨λh0=>(by rw[hr] at h0;cases h0),λi hi=>?_⟩;rw[hr] at hi;have xL:i=k:=by simpa using hi
  subst xL;refine⟨Xl,?_⟩;unfold wpOp;simp only[ho];rcases lY h hf with⟨hw,S1,ZB,h1⟩ | ⟨hw,S1,ZB,h1⟩
  ·rw[Qf hw];refine .inl ?_;have h2:=rH hg h1 ZB;have h3:=Oper.wp_mono (K':=λa' w'=>C w'/\WX c.g.P md ops.toArray (PanE c.N T Xi Q) C n (λKz a' w'=>Region.seqB md ops.toArray (ops.toArray.size-n) n Kz=true/\∃S',Fits c.N S' a'/\K S' w') l.length (listed.setIfInBounds i true) a' w')
    (λa' w' ⟨S',QY,Z2,YD⟩=>⟨Z2,AW hg hs hT hk l _ S' a' w' hZ VM YD QY Z2⟩) h2
   unfold Oper.wp at h3 ⊢;generalize (execOp a.eval o).run c.g.P w=r at*;cases r with
   | ok nx w'=>
    cases nx<;>simp only[Oper.upon] at h3 ⊢ <;> try exact h3
    exact h3.mono λe K6 he=>by
     cases e with
     | returned v=>exact he
     | panicked ch=>obtain⟨_,hfz,he⟩:=he;exact⟨he.1.fits hfz,he.2⟩
     | outgrown=>obtain⟨_,_,_,_,he⟩:=he;exact he.elim
   | halt x w'=>cases x<;>simp only[Oper.upon] at h3 ⊢ <;> first | exact h3 | (obtain⟨_,hfz,h3⟩:=h3;exact⟨h3.1.fits hfz,h3.2⟩) | (obtain⟨_,_,h3⟩:=h3;exact h3.elim)
  ·rw[if_neg (by rw[hw];decide)];obtain⟨S',QY,h'⟩:=Zs (e:=.v undef) h1 ZB;exact⟨hC,AW hg hs hT hk l _ S' _ w hZ VM h' QY hC⟩
theorem iQC (hg:c.g.Ok){id:Nat}{ops:List Oper}{w:World}{Q:Zg}(T:Env)(hT:ops.all (λo=>vZ T o.dst)=true)(Xi:List PanicEntry->World->Prop)(Ly:∀ch w,Xi ch w->Q (.panic ch) T w)(C:World->Prop)(n:Nat)(plan:List (Bool×Nat))
  (hB:(Region.noSelect ops.toArray&&Nat.beq plan.length n&&rO .any ops.toArray n&&cP .any ops.toArray n plan (Array.replicate ops.toArray.size false))=true) (hC:C w.drew)
  (h:kF {c with named:=1000000} T Xi ops C plan S w.drew (λS w=>Yq c ops (ops.drop n) S w (λS w=>Q .normal S w) (λe S w=>match e with
   | .panic ch=>Has T S/\Xi ch w
   | _=>False))):WV c id ops S w Q:=by
 unfold WV;intro a hf;simp only[JL] at hB;obtain⟨⟨⟨hs,hl⟩,bM⟩,Jq⟩:=hB;have hl:=Vz hl;have hk:=zr bM;have I1:n<=ops.length:=by
  rcases hk with hk | hk
  ·rw[hk];simp
  ·have:=hk.1;simp at this;omega
 refine Code.wp_mono (PanE.imp Ly) (wp_region_any hg.mixed ?_);have pR:HeadInv .any ops.toArray n (Array.replicate ops.toArray.size false):=
  ⟨by simp,λj oj _ hl=>(by rw[getD_replicate_false] at hl;cases hl),λt _ ht=>getD_in (by simpa using ht) (getD_replicate_false _ _)⟩
 have H:=AW (c:={c with named:=1000000}) hg (Q:=Up c Q) hs hT hk plan _ S a _ pR Jq h hf hC;have Yp:(ops.drop n).length=ops.toArray.size-n:=by simp
 have H2:=uV (Q:=PanE c.N T Xi (Up c Q)) (g:=ops.toArray.size-n) (λKz a' w' hL=>by
  obtain⟨hq,S',QY,YD⟩:=hL;have h2:=jF (c:=c) hg ops _ _ _ _ YD QY;have:=wpAny_of_seq (P:=c.g.P) (md:=.any) (ops:=ops.toArray) (Q':=PanE c.N T Xi (Up c Q)) (ops.drop n) n Kz a' w' (λj=>by simp) (by rw[Yp];exact hq) (lW (λe a w hq=>by
   cases e with
   | normal=>exact hq
   | panic ch=>obtain⟨_,hfz,h⟩:=hq;exact⟨h.1.fits hfz,h.2⟩
   | _=>exact Q8 hq (by rintro⟨_,_,h⟩;exact h)) h2)
  rwa [Yp] at this) _ _ _ _ H
 rw[hl,show n+(ops.toArray.size-n)=ops.toArray.size by simp;omega] at H2;exact H2
end
end
section
theorem iQD {nm:List (List Nat)}{x:DV}{f:List Nat}{es:List EdV}(h:F4 nm x):s6 nm x f es=match Ww nm (fF f) [102] with
  | .error p=>.error p.e
  | .ok g=>if¬(es.all (λe=>Kk nm.length e.x.nd e.x.r)=true/\kD nm.length f 0 (es.map EdV.ed)=true)then .error 291
   else match d6 nm (oD x) g f (es.map EdV.ed) (QT f) 0 with
    | none=>.error 291
    | some l=>if 1048576<(Qo l).length then .error 2
     else match Ww nm (fF (Qo l)) [102] with
      | .error p=>if p.e=2 then .error 2 else .ok (Qo l)
      | .ok _=>.ok (Qo l):=by
 unfold s6;rw[if_neg (by rw[h.1,h.2];simp)];by_cases Yd:es.all (λe=>Kk nm.length e.x.nd e.x.r)=true
 ·rw[Qf Yd];unfold FZ;cases Ww nm (fF f) [102] with
  | error p=>rfl
  | ok g=>
   simp only;by_cases hv:kD nm.length f 0 (es.map EdV.ed)=true
   ·rw[if_neg (by rw[hv];decide),if_neg (λhh=>hh ⟨Yd,hv⟩)];rfl
   ·rw[Qf (by simpa using hv),Qf (λhh=>hv hh.2)]
 ·rw[if_neg Yd];cases Ww nm (fF f) [102] with
  | error p=>rfl
  | ok g=>simp only;rw[Qf (λhh=>Yd hh.1)]
theorem SZ {w:World}{w':World}{t:List Nat}{g:Nat}(hB:Blk w' g 85 (gr ([102],t))):SlS gr 2 w' (some ⟨g,0,none⟩) 1 1 (fF t):=⟨Sl.own (sz:=2) (n:=1) hB (QC _) (by decide) (by simp[gr]),rfl⟩
theorem S3 {t:List Nat}(h:∀b∈t,b<256)(hl:t.length<=9223372036854775807):∀x∈fF t,FileB x:=λx hx=>by
 rw[QL.1 hx];exact⟨(by decide:∀b∈ [102],b<256),h,by show 1<=_;decide,hl⟩
theorem iQE (NA:Option Addr)(nn nc:Nat)(nm:List (List Nat))(x:DV)(f:List Nat)(EA:Option Addr)(en ec:Nat)(es:List EdV)(la:nm.length<=4)(VO:Ks nm)(KB:∀s∈nm,s.length<=1000)(fK:∀b∈f,b<256)(Ka:f.length<=60000)
  (kQN:∀e∈es, -9223372036854775808<=e.fr/\e.fr<=9223372036854775807/\ -9223372036854775808<=e.to_/\e.to_<=9223372036854775807) (ht:∀e∈es,(∀b∈e.tx,b<256)/\e.tx.length<=1000) (Dt:es.length<=10) (w:World)
  (hN:Sl w 1 NA nn nc (XW nm)) (hx:SB w x.A x.n x.c x.nd) (hEs:SlS Kl 5 w EA en ec es) (LV:∀e∈es,SB w e.x.A e.x.n e.x.c e.x.nd):
  Fn Tryz.prog 15 [.slice NA nn nc,Xm x.A x.n x.c x.r,.string (Qe f),.slice EA en ec] w (λu w'=>u=ta (s6 nm x f es)/\Ext w w'):=by
 have hk:nm.length<=12:=by omega
 have Xd:nm.length=nn:=by have:=hN.len;rw[bn] at this;omega
 refine vg (c:={c15 with cuts:=[]}) Qa Tryz.func15 rfl rfl rfl ?_;refine ZE (Zt Qa ?_);refine new (λw0 Bm kW hB0=>?_);refine new (λw1' Qd Q3 Qh=>?_);refine new (λw3 Qk JI Qt=>?_);obtain⟨w1,hw1⟩:∃w1,w1=w0:=⟨_,rfl⟩
 obtain⟨w2,hw2⟩:∃w2,w2=w1':=⟨_,rfl⟩
 subst hw1;subst hw2;have Vt:=Qd.trans Qk;have QW:=Bm.trans Vt;have QQ:w1.heap.size≠w2.heap.size:=by omega
 refine ZE (vf Qa rfl rfl rfl rfl ⟨_,_,_,_,rfl,rfl,?_⟩);refine ZE (Zt Qa ?_);refine Qs (hB0.ext Vt) rfl ?_;generalize YG:s6 nm x f es=M;refine XO (Sv NA nn nc nm x hk VO w3 (hN.ext QW) (hx.ext QW)) ?_ ?_
 rotate_left
 ·rintro ch w4 ⟨Xf,rfl,Qq⟩;refine W0 Qa (asx:= #[]) (cap:= #[.pointer (some ⟨w1.heap.size,0,none⟩),.pointer (some ⟨w2.heap.size,0,none⟩)]) rfl rfl (args:= #[.pointer (some ⟨w1.heap.size,0,none⟩),.pointer (some ⟨w2.heap.size,0,none⟩)]) (by simp) ((s9 _ _ 1 w4 _ _ QQ ((Qh.ext Qk).ext Qq) (Qt.ext Qq)).mono ?_);rintro e u' qA ⟨v,rfl,cy,Yo⟩;refine⟨v,rfl,cy,?_⟩;refine Qx Yo.1 rfl ?_;refine Qx Yo.2.1 rfl ?_;have ay:M= .error 1:=by
     rw[<-YG];unfold s6;rw[Qf (by
      by_cases h1:ZM nm=true
      ·exact .inr (dK.2 (λh2=>Xf ⟨h1,h2⟩))
      ·exact .inl (by simpa using h1))]
  rw[ay];exact⟨rfl,Yo.2.2.ext (QW.trans Qq) (λi hi=>by rcases hi with rfl | rfl<;>omega)⟩
 rintro _ w4 ⟨Zq,Qq⟩;have XL:=QW.trans Qq;rw[iQD Zq] at YG;have sx:=gy Zq.2;have Me:=(hB0.ext Vt).ext Qq;have lG:=(Qh.ext Qk).ext Qq;have eP:=Qt.ext Qq;refine ZE (Zt Qa ?_);refine XI Qa [gr ([102],f)] rfl rfl rfl rfl rfl ⟨rfl,rfl,⟨⟩⟩ rfl (λcs h=>by simp only[QL] at h;subst h;rfl) rfl (by decide) (by decide) ?_;intro w5 Qv KJ QK;have JV:=XL.trans Qv;refine call (P4 nm NA nn nc (fF f) _ 1 1 [102] w5 (hN.ext JV) VO hk (SZ (w:=w) QK) (S3 fK (by omega)) (by decide) (by decide)) ?_;rintro u6 w6 ⟨Xh,gD⟩;have XM:=JV.trans Xh;have Xz:=Qv.trans Xh;cases Wg:Ww nm (fF f) [102] with
 | error q=>
  rw[Wg] at gD YG;have hq:=iQx Wg;subst gD;refine new (λw7 Q2 WJ Q6=>?_);refine new (λw8 Q0 VJ Xt=>?_);refine Qz (Q6.ext Q0) rfl (sc rfl) (λw9 eC et JT=>?_);have Ze:Mod (·=w6.heap.size) w8 w9:=mQW eC rfl;have CN:¬w7.heap.size=w6.heap.size:=by omega
  refine Qz (Xt.mod Ze CN) rfl (sc rfl) (λQJ kZ wv Km=>?_);have Zp:Mod (·=w7.heap.size) w9 QJ:=mQW kZ rfl;have ua:Ext w6 QJ:=Zp.ext (Ze.ext (Q2.trans Q0) (λi hi=>by omega)) (λi hi=>by omega);have qC:=Xz.trans ua;refine ZE (Zt Qa ?_);refine Qx Km rfl ?_;refine XO (Yw q.e hq QJ) (λ_ _ hf=>hf.elim) ?_;rintro ch _ ⟨rfl,rfl⟩;refine W0 Qa (asx:= #[]) (cap:= #[.pointer (some ⟨w1.heap.size,0,none⟩),.pointer (some ⟨w2.heap.size,0,none⟩)]) rfl rfl (args:= #[.pointer (some ⟨w1.heap.size,0,none⟩),.pointer (some ⟨w2.heap.size,0,none⟩)]) (by simp) ((s9 _ _ q.e QJ _ _ QQ (lG.ext qC) (eP.ext qC)).mono ?_);rintro e u' qA ⟨v,rfl,cy,Yo⟩;refine⟨v,rfl,cy,?_⟩;refine Qx Yo.1 rfl ?_;refine Qx Yo.2.1 rfl ?_;have ay:M= .error q.e:=YG.symm;rw[ay];exact⟨rfl,Yo.2.2.ext (XL.trans qC) (λi hi=>by rcases hi with rfl | rfl<;>omega)⟩
 | ok g=>
  rw[Wg] at gD YG;simp only at YG;obtain⟨aQU,SA,scp,SL,rfl,Di⟩:=gD;obtain⟨Mf,mQQ,mQR,lQA⟩:=Si Wg;obtain⟨MX,Mg,aQV⟩:=gQG Di;have hMl:=aQV.len;refine new (λw7 Q2 WJ Q6=>?_);refine new (λw8 Q0 VJ Xt=>?_);refine Qz (Q6.ext Q0) rfl (sc rfl) (λw9 eC et JT=>?_);have Ze:Mod (·=w6.heap.size) w8 w9:=mQW eC rfl;have CN:¬w7.heap.size=w6.heap.size:=by omega
  refine Qz (Xt.mod Ze CN) rfl (sc rfl) (λQJ kZ wv Km=>?_);have Zp:Mod (·=w7.heap.size) w9 QJ:=mQW kZ rfl;have ua:Ext w6 QJ:=Zp.ext (Ze.ext (Q2.trans Q0) (λi hi=>by omega)) (λi hi=>by omega);have Dm:=JT.mod Zp (λh=>CN h.symm);refine ZE (Zt Qa ?_);refine Qx Km rfl ?_;refine call (FF QJ) ?_;rintro _ _ rfl;have qC:=Xz.trans ua;have nz:=XL.trans qC;refine ZE (Zt Qa ?_);refine Qs (Me.ext qC) rfl ?_;refine new (λQG J9 tH ZZ=>?_);have YS:=nz.trans J9;have cv:=qC.trans J9
  let p:EP:=⟨QJ.heap.size,NA,nn,nc,nm,x,f,EA,en,ec,es⟩
  have hB:EB p:=⟨la,VO,KB,fK,Ka,Mf,kQN,λe he=>(ht e he).1,λe he=>(ht e he).2,Dt⟩
  have K:EK QG p:=⟨ZZ,hN.ext YS,hEs.ext YS,λe he=>(LV e he).ext YS⟩
  refine ZE (Zt Qa ?_);refine XO (iQe p hB QG K) ?_ ?_
  rotate_left
  ·rintro ch Xg ⟨Xf,rfl,Xs⟩;refine W0 Qa (asx:= #[]) (cap:= #[.pointer (some ⟨w1.heap.size,0,none⟩),.pointer (some ⟨w2.heap.size,0,none⟩)]) rfl rfl (args:= #[.pointer (some ⟨w1.heap.size,0,none⟩),.pointer (some ⟨w2.heap.size,0,none⟩)]) (by simp) ((s9 _ _ 291 Xg _ _ QQ ((lG.ext cv).ext Xs) ((eP.ext cv).ext Xs)).mono ?_);rintro e u' qA ⟨v,rfl,cy,Yo⟩;refine⟨v,rfl,cy,?_⟩;refine Qx Yo.1 rfl ?_;refine Qx Yo.2.1 rfl ?_;have ay:M= .error 291:=by rw[<-YG,Qf Xf]
   rw[ay];exact⟨rfl,Yo.2.2.ext (YS.trans Xs) (λi hi=>by rcases hi with rfl | rfl<;>omega)⟩
  rintro _ Xg ⟨hV,Xs⟩;rw[if_neg (λhh=>hh hV)] at YG;have tJ:=YS.trans Xs;have kQO:=cv.trans Xs;have K12:=K.ext Xs;refine ZE (Zt Qa ?_);refine ZE (Zt Qa ?_);refine ZE (Zt Qa ?_);refine call (Ai f Xg fK (by omega)) ?_;rintro _ X2 ⟨PA,pc,rfl,XK,xC⟩;have jo:=vK Mf;have ly:(W8 f).length=(QT f).length:=by rw[jo,JM]
  rw[ly] at xC;have xC:Sn X2 PA (QT f).length pc (JG (QT f)):=by rw[jo] at xC;exact xC
  have io:=mv f;have JK:=W6 Mf;have aQW:=AO f;have p8:=tJ.trans XK;have ub:=kQO.trans XK;have K13:=K12.ext XK;have CO:=Dm.ext (J9.trans (Xs.trans XK));have kQP:=Mg.ext (ua.trans (J9.trans (Xs.trans XK)));have mQS:(QT f).length<=60000:=by have:=aQW.1;omega
  have lQB:∀s∈(QT f),th s:=λs hs=>by
   exact⟨λb hb=>fK b (Ga _ s hs b hb),by have:=aQW.2 s hs;omega⟩
  have lQC:∀e∈es.map EdV.ed,(∀b∈e.tx,b<256)/\e.tx.length<=1000:=λe he=>by
   obtain⟨e0,he0,rfl⟩:=Z4.1 he;exact ht e0 he0
  have Il:∀o:BF,(QF nm.length o).length<=16:=λo=>Zf (SE _ _) (Zf (Wl (by decide) la) (by decide))
  have mQT:g.sg.length<=65536:=aQU.sl;have lQD:∀i,(Qo ((QT f).take i)).length<=60000:=λi=>by
   have hu:∀a b:List (List Nat),Qo (a++b)=Qo a++Qo b:=λa b=>by simp[Qo]
   have e5:Qo (QT f)=Qo ((QT f).take i)++Qo ((QT f).drop i):=by rw[<-hu,eZ]
   have:=QN List.length e5;rw[JK,Qu] at this;omega
  refine loop Qa [46,13,14,15] (λt:Nat×List (List Nat)×Option Addr×Nat×Nat=>[.int .i64 t.1,.slice t.2.2.1 t.2.1.length t.2.2.2.1,.int .i64 (Qo ((QT f).take t.1)).length,.int .i64 t.2.2.2.2]) (λt w'=>Lo X2 w' t.2.2.1 t.2.1.length t.2.2.2.1 t.2.1/\t.1<=(QT f).length/\ApR nm (oD x) g f (es.map EdV.ed) (QT f) t.1 t.2.1/\(∀j y,g.sg[j]? =some y->j<t.2.2.2.2->y.at_+(y.t-y.f)<=(Qo ((QT f).take t.1)).length)/\t.2.1.length<=t.1*16000048/\(∀u∈t.2.1,th u)/\t.2.2.2.2<=g.sg.length) (λt _=>(QT f).length-t.1) (0,[],none,0,0) rfl ⟨⟨Ext.refl _,Own.nil _ _ _ _⟩,XJ _,ApR.zero,(λj y _ hj=>Q8 hj (Nat.not_lt_zero _)),XJ _,(λu hu=>by cases hu),XJ _⟩ ?_;rintro⟨i,L,LA,lc,seg⟩ Zi ⟨ru,hi,aW,Mh,LJ,yB,aQX⟩;simp only at ru hi aW Mh LJ yB aQX;have je:=ru.e;have Bq:=p8.trans je;have CQ:=ub.trans je;refine Qy (λc1=>?_) (λc1=>?_)
  ·have Xe:i<(QT f).length:=by simp only at c1;omega
   obtain⟨s,hs⟩:∃s,(QT f)[i]? =some s:=⟨_,Xn Xe⟩
   have fS:=QO hs;have bM:=lQB s fS;have hut:=SV hs;have mQu:=lQD (i+1);have av:=SW (p:=0) hs;rw[bQ] at av;refine X5 (cs:=JG (QT f)) (by rw[ly];exact xC.1.ext je) (by rw[ly];exact Xe) (λad u hA hu QE=>?_);rw[ZH hs] at hu;cases hu;refine load QE ?_;refine call (Ay (s++ [10]) Zi (YO bM.1)) ?_;rintro _ Kw ⟨rfl,V6⟩;have yA:(Qe (s++ [10])).size=s.length+1:=by rw[XF];simp
   have xW:(i+1)*16000048=i*16000048+16000048:=by omega
   rw[iN];refine Qy (λd1=>?_) (λd1=>?_)
   ·refine XI Qa [[Value.string (Qe (s++ [10]))]] rfl rfl rfl rfl rfl ⟨rfl,rfl,⟨⟩⟩ rfl (λcs hh=>by simp only[QL] at hh;subst hh;rfl) rfl (by decide) (by decide) ?_;intro ao V8 jQY YU;have tN:=V6.trans V8;have HP:Sl ao 1 (some ⟨Kw.heap.size,0,none⟩) 1 1 (JG [s]):=Sl.own' (n:=1) YU rfl (by decide);refine JB (n:=L.length) Qa rfl rfl rfl rfl rfl (by decide) rfl rfl ⟨_,rfl⟩ rfl rfl (ru.ext tN).ow HP (aJ _) (by unfold maxLen;omega) (by show(L.length+1)*16<=_;omega) (ru.ext tN).e.size ?_;intro LA2 IF Vu kQQ CL mQv;have kQR:=(ru.ext tN).app kQQ CL;refine Qi ((Qo ((QT f).take (i+1))).length:Int) (by show((Qo ((QT f).take i)).length:Int)+((Qe (s++ [10])).size:Int)=_;rw[yA,hut];omega) (by omega) ?_;refine Qi ((i+1:Nat):Int) (by show((i:Nat):Int)+1=_;omega) (by omega) ?_;refine⟨(i+1,L++ [s],LA2,IF,seg),by simp only[Qu];rfl,⟨by simp only[Qu];exact kQR,Xe,aW.next hs (by rw[if_neg d1]),λj y hy hj=>by have:=Mh j y hy hj;simp only;omega,by simp only[Qu,oL];omega,λu hu=>?_,aQX⟩,by show(QT f).length-(i+1)<(QT f).length-i;omega⟩;rcases Xw.1 hu with hu | hu
    ·exact yB u hu
    ·rw[QL.1 hu];exact bM
   ·have Mi:ZN s= .txt:=Decidable.not_not.1 d1;obtain⟨kk,σ,y,fY⟩:=iQA Wg av Mi;have fY:SegAt g (Qo ((QT f).take i)).length kk σ y:=fY;have lQE:=fY.cnd;have hσ:σ<g.sg.length:=(Z0.1 fY.get).1;have hsσ:seg<=σ:=by
     apply Classical.byContradiction;intro hh;have:=Mh σ y fY.get (by omega);have:=fY.hi;omega
    have aQt:=je.trans V6;have HO:=CO.ext aQt;have kQS:=kQP.ext aQt;have QE:∀{w':World} (_:Ext Kw w') (sg:Nat) (z:Sx),MX[sg]? =some z->∃q,g.sg[sg]? =some q/\z.f=q.f/\z.t=q.t/\z.at_=q.at_/\Set1 nm.length z.x.nd z.x.r q.o:=λ_ sg z hz=>by
     have Xc:=(Z0.1 hz).1;obtain⟨q,hq⟩:∃q,g.sg[sg]? =some q:=⟨_,Xn (by omega)⟩
     obtain⟨a1,a2,a3,a4,a5⟩:=aQV.get hq hz;exact⟨q,hq,a1,a2,a4,a5⟩
    refine loop Qa [15] (λsg:Nat=>[.int .i64 sg]) (λsg w'=>Ext Kw w'/\sg<=σ) (λsg _=>σ-sg) seg rfl ⟨Ext.refl _,hsσ⟩ ?_;rintro sg ao ⟨V8,Di⟩;have IG:=HO.ext V8;have IH:=kQS.ext V8;have II:=Ext.drew ao;obtain⟨q0,V9⟩:∃q0,g.sg[sg]? =some q0:=⟨_,Xn (by omega)⟩
    have Mj:=lQA.ok q0 (QO V9);have hqf:=Mj.ft;have oC:=Mj.tl;obtain⟨x0,fH,ei,_⟩:=Mj.src;have mQU:x0.2.length<=60000:=by
     have:q0.fl=0:=by
      have:=(Z0.1 fH).1;simpa [fF] using this
     rw[this] at fH;have:x0=([102],f):=(Option.some.inj fH).symm;rw[this];exact Ka
    have mQV:=aQU.tl;refine XC Qa (Ext ao) 22 [(true,0),(true,1),(true,2),(true,3),(true,4),(true,5),(true,6),(true,7),(true,8),(true,9),(true,10),(true,11),(true,12),(true,13),(true,14),(true,15),(true,16),(true,17),(true,18),(true,19),(true,20),(true,21)] (by kernel_rfl) II ?_;refine QH (v:=.slice SA g.sg.length scp) (λw' Qb=>(IG.ext Qb).cell 1) ?_;refine Zw Aw IH.sl rfl (by omega) (λpd z hz hc=>?_);obtain⟨q1,nA,z1,z2,z3,z4⟩:=QE V8 sg z hz;rw[V9] at nA;cases nA;refine QH (v:=.int .i64 z.at_) (λw' Qb=>Qb.cell (hc 3 _ rfl)) ?_;refine QH (v:=.slice SA g.sg.length scp) (λw' Qb=>(IG.ext Qb).cell 1) ?_;refine Zw Aw IH.sl rfl (by omega) (λpd2 z' WQ Z2=>?_);rw[hz] at WQ;cases WQ;refine QH (v:=.int .i64 z.t) (λw' Qb=>Qb.cell (Z2 1 _ rfl)) ?_;refine Qi ((q0.at_+q0.t:Nat):Int) (by omega) (by omega) ?_;refine QH (v:=.slice SA g.sg.length scp) (λw' Qb=>(IG.ext Qb).cell 1) ?_;refine Zw Aw IH.sl rfl (by omega) (λpd3 z' WQ IJ=>?_);rw[hz] at WQ;cases WQ;refine QH (v:=.int .i64 z.f) (λw' Qb=>Qb.cell (IJ 0 _ rfl)) ?_;refine Qi ((q0.at_+(q0.t-q0.f):Nat):Int) (by omega) (by omega) ?_;refine Qy (λc3=>?_) (λc3=>?_)
    ·have Xc:sg<σ:=by
      apply Classical.byContradiction;intro hh;have:sg=σ:=by omega
      subst this;rw[fY.get] at V9;cases V9;have:=fY.hi;simp only at c3;omega
     refine Qi ((sg+1:Nat):Int) (by show((sg:Nat):Int)+1=_;omega) (by omega) ?_;exact⟨sg+1,rfl,⟨V8.trans II,by omega⟩,by show σ-(sg+1)<σ-sg;omega⟩
    ·have Xc:sg=σ:=by
      apply Classical.byContradiction;intro hh;have:=fY.first sg q0 V9 (by omega);simp only at c3;omega
     subst Xc;rw[fY.get] at V9;cases V9;have eN:QF nm.length (λe=>oD x e&&y.o e)=QF nm.length (JE (oD x) (sZ g (Qo ((QT f).take i)).length)):=by rw[lQE,<-fY.o]
     have nj:Ext Zi ao.drew:=V6.trans (V8.trans II);have IK:=Bq.trans nj;have qD:=je.trans nj;have aQu:=ru.ext nj;have Vy:=aQu.ow.rows;generalize ao.drew=Vu at*;have YZ:=Ext.drew Vu;have z13:=ub.size;have kQT:=Me.ext (ub.trans qD);have aQv:Ext w6 Vu:=(ua.trans (J9.trans (Xs.trans XK))).trans qD;have kQM:=(ua.trans (J9.trans (Xs.trans XK))).size;have nx:¬Qj LA w.heap.size:=λh=>by have:=(Vy _ h).1;have:=Me.lt;omega
     have nS:¬Qj LA w6.heap.size:=λh=>by have:=(Vy _ h).1;have:=CO.lt;omega
     have kQU:=CO.ext qD;have hcL:LA=LA:=rfl;refine iQC Qa [(8,.v (.pointer (some ⟨w1.heap.size,0,none⟩))),(9,.v (.pointer (some ⟨w2.heap.size,0,none⟩)))] rfl (λch w'=>fC nm f (es.map EdV.ed) (QF nm.length (λe=>oD x e&&y.o e)) (Qo ((QT f).take i)).length s=none/\ch=iU 291/\Ext Vu w') (λch bI hp=>by
      obtain⟨Xf,rfl,qE⟩:=hp;refine W0 Qa (asx:= #[]) (cap:= #[.pointer (some ⟨w1.heap.size,0,none⟩),.pointer (some ⟨w2.heap.size,0,none⟩)]) rfl rfl (args:= #[.pointer (some ⟨w1.heap.size,0,none⟩),.pointer (some ⟨w2.heap.size,0,none⟩)]) (by simp) ((s9 _ _ 291 bI _ _ QQ (lG.ext (ub.trans (qD.trans qE))) (eP.ext (ub.trans (qD.trans qE)))).mono ?_);rintro e u' qA ⟨v,rfl,cy,Yo⟩;refine⟨v,rfl,cy,?_⟩;refine Qx Yo.1 rfl ?_;refine Qx Yo.2.1 rfl ?_;have ay:M= .error 291:=by rw[<-YG,aW.none hs (by rw[Qf Mi,<-eN];exact Xf)]
      rw[ay];exact⟨rfl,Yo.2.2.ext (XL.trans (ub.trans (qD.trans qE))) (λi hi=>by rcases hi with rfl | rfl<;>omega)⟩) (Mod (Qj LA) Vu) 15 [(true,0),(true,1),(true,2),(true,3),(true,4),(true,5),(true,6),(true,7),(true,8),(true,9),(true,10),(false,11),(false,12),(false,13),(true,14)] (by kernel_rfl) (Mod.of_ext _ YZ) ?_
     refine Xq (vs:=x.cells) rfl (λw' Qb k u hk=>by rw[(kQT.mod Qb nx).cell];exact hk) ?_;refine QH (v:=.slice SA g.sg.length scp) (λw' Qb=>(kQU.mod Qb nS).cell 1) ?_;refine Zw Aw Mg.sl rfl (by omega) (λpd4 z' WQ hc4=>?_);rw[hz] at WQ;cases WQ;have hpb:pd4.block<w6.heap.size:=by
      have:=World.block_lt_of_cell? w6 _ (hc4 4 _ rfl)
      rwa [o6] at this
     have npd:¬Qj LA pd4.block:=λh=>by have:=(Vy _ h).1;have:=CO.lt;omega
     refine Xq (vs:=[.slice z.x.A z.x.n z.x.c,.int .i64 z.x.r]) rfl (λw' Qb k u hk=>by
      rw[add_add];refine Qb.cell (aQv.cell (hc4 (4+k) u (by match k,hk with | 0,hk=>exact hk | 1,hk=>exact hk))) (by rw[o6];exact npd)) ?_
     have KY:Set1 nm.length z.x.nd z.x.r y.o:=z4;have yk:=(Mg.dg z (QO hz)).ext aQv;refine call (mJ hk x z.x Vu.drew ((hx.ext IK).ext YZ) (yk.ext YZ) sx KY) ?_;rintro _ Vh ⟨QA,Qn,Qc,Qnd,Qr,rfl,nH,kQV,sQ,_⟩;have CR:=YZ.trans nH;refine⟨Mod.of_ext _ CR,?_⟩;have np:=qD.trans CR;refine XO (iQv p hB hV (Qo ((QT f).take i)).length s av ⟨QA,Qn,Qc,Qnd,Qr⟩ _ Vh (K13.ext np) kQV sQ) ?_ ?_
     rotate_left
     ·rintro ch bI ⟨Xf,rfl,kY⟩;exact⟨rfl,Xf,rfl,CR.trans kY⟩
     rintro u19 bI ⟨Lx,oz,A19,Nk,rfl,kY,kQW⟩;have qE:=CR.trans kY;refine⟨Mod.of_ext _ qE,?_⟩;have oz:fC nm f (es.map EdV.ed) (QF nm.length (λe=>oD x e&&y.o e)) (Qo ((QT f).take i)).length s=some Lx:=oz;rw[eN] at oz;obtain⟨lx1,lx2⟩:=iQz VO KB fK Ka lQC (by rw[JM];exact Dt) (Il _) bM oz;have hmx:(Lx.map (·++ [10])).length=Lx.length:=by rw[JM]
     have aQw:i*16000048<=60000*16000048:=Y1 _ (by omega);have IL:=aQu.ext qE;refine JB (n:=L.length) Qa rfl rfl rfl rfl rfl (by decide) rfl rfl ⟨_,rfl⟩ rfl rfl IL.ow kQW.1 (aJ _) (by unfold maxLen;omega) (by show(L.length+(Lx.map (·++ [10])).length)*16<=_;omega) IL.e.size ?_;intro LA2 IF YB By kQX BB;have kQY:Mod (Qj LA) Vu YB:=(Mod.of_ext (Qj LA) qE).trans By (λi hi=>.inl hi);refine⟨kQY,?_⟩;have aQx:=IL.app By kQX;refine Qi ((Qo ((QT f).take (i+1))).length:Int) (by show((Qo ((QT f).take i)).length:Int)+((Qe (s++ [10])).size:Int)=_;rw[yA,hut];omega) (by omega) ?_;refine Qi ((i+1:Nat):Int) (by show((i:Nat):Int)+1=_;omega) (by omega) ?_;refine⟨(i+1,L++Lx,LA2,IF,sg),by simp only[Qu,JM];rfl,⟨by simp only[Qu];rw[hmx] at aQx;exact aQx,Xe,aW.next hs (by rw[Qf Mi];exact oz),λj y' qW hj=>by have:=fY.first j y' qW hj;simp only;omega,by simp only[Qu];omega,λu hu=>?_,by simp only;omega⟩,by show(QT f).length-(i+1)<(QT f).length-i;omega⟩;rcases Xw.1 hu with hu | hu
     ·exact yB u hu
     ·exact lx2 u hu
  ·have Xe:i=(QT f).length:=by simp only at c1;omega
   have Dh:=aW.fin (by omega);rw[Dh] at YG;simp only at YG;obtain⟨LA',lc',xg,_,CT⟩:=ru.fin (Ext.refl X2);simp only[Value.slice.injEq,JM] at xg;obtain⟨rfl,_,rfl⟩:=xg;have aQw:L.length<=60000*16000048:=Zf LJ (Y1 _ (by omega));have hub:(Qo L).length<=1000000000000000000:=by
    have h1:=td (M:=1000000) (λu hu=>(yB u hu).2);have h2:=Y1 (1000000+1) aQw;omega
   have CT:Sn Zi LA L.length lc (JG L):=by rw[JM] at CT;exact CT
   have hu8:∀b∈Qo L,b<256:=λb hb=>by
    obtain⟨u,hu,hb⟩:=ga.1 hb;exact YO (yB u hu).1 b hb
   refine ZE (Zt Qa ?_);refine XO (Su LA L.length lc L Zi CT hub) ?_ ?_
   rotate_left
   ·rintro ch _ ⟨qO,rfl,rfl⟩;refine W0 Qa (asx:= #[]) (cap:= #[.pointer (some ⟨w1.heap.size,0,none⟩),.pointer (some ⟨w2.heap.size,0,none⟩)]) rfl rfl (args:= #[.pointer (some ⟨w1.heap.size,0,none⟩),.pointer (some ⟨w2.heap.size,0,none⟩)]) (by simp) ((s9 _ _ 2 Zi _ _ QQ (lG.ext CQ) (eP.ext CQ)).mono ?_);rintro e u' qA ⟨v,rfl,cy,Yo⟩;refine⟨v,rfl,cy,?_⟩;refine Qx Yo.1 rfl ?_;refine Qx Yo.2.1 rfl ?_;have ay:M= .error 2:=by rw[<-YG,Qf qO]
    rw[ay];exact⟨rfl,Yo.2.2.ext (XL.trans CQ) (λi hi=>by rcases hi with rfl | rfl<;>omega)⟩
   rintro _ Kw ⟨JY,rfl,V6⟩;rw[if_neg (by omega)] at YG;have aQy:=CQ.trans V6;have aQh:=Bq.trans V6;refine KE (lG.ext aQy) (by simp[JN]) (λao aQz YU=>?_);have YU:Blk ao w1.heap.size 9 [.string (Qe (Qo L))]:=YU;have IM:Ext w ao:=aQz.ext aQh (λi hi=>by omega);have aQA:=(eP.ext aQy).mod aQz QQ.symm;refine ZE (Zt Qa ?_);refine Qx YU rfl ?_;refine XI Qa [gr ([102],Qo L)] rfl rfl rfl rfl rfl ⟨rfl,rfl,⟨⟩⟩ rfl (λcs h=>by simp only[QL] at h;subst h;rfl) rfl (by decide) (by decide) ?_;intro Vu tG kQz ni;have IK:=IM.trans tG;refine call (P4 nm NA nn nc (fF (Qo L)) _ 1 1 [102] Vu (hN.ext IK) VO hk (SZ (w:=w) ni) (S3 hu8 (by omega)) (by decide) (by decide)) ?_;rintro u18 Vh ⟨nH,CU⟩;have aQB:=tG.trans nH;have fin:∀(P:Value) (q:Pl) (Vh:World),True:=λ_ _ _=>trivial
   cases ah:Ww nm (fF (Qo L)) [102] with
   | error q=>
    rw[ah] at CU YG;simp only at YG;subst CU;refine new (λbI kY TZ wV=>?_);refine new (λYB xD T0 IN=>?_);refine Qz (wV.ext xD) rfl (sc rfl) (λgS wW kQZ tO=>?_);have ja:Mod (·=Vh.heap.size) YB gS:=mQW wW rfl;have jZq:¬bI.heap.size=Vh.heap.size:=by omega
    refine Qz (IN.mod ja jZq) rfl (sc rfl) (λaP IP kQ0 qk=>?_);have IQ:Mod (·=bI.heap.size) gS aP:=mQW IP rfl;have IR:Ext Vh aP:=IQ.ext (ja.ext (kY.trans xD) (λi hi=>by omega)) (λi hi=>by omega);have qF:=aQB.trans IR;have ud:=YU.ext qF;have Dw:=aQA.ext qF;have CV:=IM.trans qF;refine Qx qk rfl ?_;refine Zh (λh2=>?_) (λh2=>?_)
    ·have h2:q.e=2:=h2;rw[Qf h2] at YG;refine XO (Yw 2 (by decide) aP) (λ_ _ hf=>hf.elim) ?_;rintro ch _ ⟨rfl,rfl⟩;refine W0 Qa (asx:= #[]) (cap:= #[.pointer (some ⟨w1.heap.size,0,none⟩),.pointer (some ⟨w2.heap.size,0,none⟩)]) rfl rfl (args:= #[.pointer (some ⟨w1.heap.size,0,none⟩),.pointer (some ⟨w2.heap.size,0,none⟩)]) (by simp) ((s9 _ _ 2 aP _ _ QQ ud Dw).mono ?_);rintro e u' qA ⟨v,rfl,cy,Yo⟩;refine⟨v,rfl,cy,?_⟩;refine Qx Yo.1 rfl ?_;refine Qx Yo.2.1 rfl ?_;have ay:M= .error 2:=YG.symm;rw[ay];exact⟨rfl,Yo.2.2.ext CV (λi hi=>by rcases hi with rfl | rfl<;>omega)⟩
    have h2:q.e≠2:=h2;rw[if_neg h2] at YG;refine Zt Qa ?_;refine Qx ud rfl ?_;refine KE ud (by simp) (λIS xE mZ=>?_);refine KE (Dw.mod xE QQ.symm) (by simp[JN]) (λCW kL kU=>?_);refine fq Qa rfl rfl (.inl rfl) (args:= #[.pointer (some ⟨w1.heap.size,0,none⟩),.pointer (some ⟨w2.heap.size,0,none⟩)]) (by simp) ((Sz _ _ CW).mono ?_);rintro e u' qA ⟨v,rfl,cy,rfl⟩;refine⟨v,rfl,cy,?_⟩;refine Qx (mZ.mod kL QQ) rfl ?_;refine Qx kU rfl ?_;exact⟨by rw[<-YG];rfl,kL.ext (xE.ext CV (λj hj=>by omega)) (λj hj=>by omega)⟩
   | ok g2=>
    rw[ah] at CU YG;simp only at YG;obtain⟨_,SA2,sc2,SL2,rfl,_⟩:=CU;refine new (λbI kY TZ wV=>?_);refine new (λYB xD T0 IN=>?_);refine Qz (wV.ext xD) rfl (sc rfl) (λgS wW kQZ tO=>?_);have ja:Mod (·=Vh.heap.size) YB gS:=mQW wW rfl;have jZq:¬bI.heap.size=Vh.heap.size:=by omega
    refine Qz (IN.mod ja jZq) rfl (sc rfl) (λaP IP kQ0 qk=>?_);have IQ:Mod (·=bI.heap.size) gS aP:=mQW IP rfl;have IR:Ext Vh aP:=IQ.ext (ja.ext (kY.trans xD) (λi hi=>by omega)) (λi hi=>by omega);have qF:=aQB.trans IR;have ud:=YU.ext qF;have Dw:=aQA.ext qF;have CV:=IM.trans qF;refine Qx qk rfl ?_;refine XB (by decide) ?_;refine Zt Qa ?_;refine Qx ud rfl ?_;refine KE ud (by simp) (λIS xE mZ=>?_);refine KE (Dw.mod xE QQ.symm) (by simp[JN]) (λCW kL kU=>?_);refine fq Qa rfl rfl (.inl rfl) (args:= #[.pointer (some ⟨w1.heap.size,0,none⟩),.pointer (some ⟨w2.heap.size,0,none⟩)]) (by simp) ((Sz _ _ CW).mono ?_);rintro e u' qA ⟨v,rfl,cy,rfl⟩;refine⟨v,rfl,cy,?_⟩;refine Qx (mZ.mod kL QQ) rfl ?_;refine Qx kU rfl ?_;exact⟨by rw[<-YG];rfl,kL.ext (xE.ext CV (λj hj=>by omega)) (λj hj=>by omega)⟩
theorem pO {k:Nat}{x:DV}{o:BF}(s:Set1 k x.nd x.r o):oD x=o:=funext (λe=>s.mean e)
theorem Gb {k v:Nat}(hv:v<k)(hk:k<=12)(w:World):Fn Tryz.prog 34 [.int .i64 v] w (vO w k (λe=>e v)):=by
 refine(E3 (v:Int) w (by omega) (by omega)).mono ?_;rintro u w' ⟨A,n,c,rfl,hE,hb,hr⟩;exact⟨A,n,c,_,_,rfl,hE,hb,Ft hv (by omega),hr⟩
theorem Gc {k:Nat}(hk:k<=12)(x:DV){o:BF}(w:World)(h:SB w x.A x.n x.c x.nd)(s:Set1 k x.nd x.r o):Fn Tryz.prog 35 [Xm x.A x.n x.c x.r] w (vO w k (λe=> !o e)):=by
 refine(E6 x.A x.n x.c x.nd x.r w h).mono ?_;have s0:Set1 k [] 0 (λ_=>false):=br k false;rw[gm hk s s0 3];have c1:Set1 k _ _ (λe=> !o e):=(dS s s0 3).congr (λe=>by simp[Ki]);generalize VE x.nd x.r [] 0 3=D at*;obtain⟨D1,D2⟩:=D;rintro u w' ⟨A,n,c,rfl,hE,hb,hr⟩;exact⟨A,n,c,_,_,rfl,hE,hb,c1,hr⟩
theorem S4 {k:Nat}(hk:k<=12)(x y:DV){o o':BF}(w:World)(h:SB w x.A x.n x.c x.nd)(h':SB w y.A y.n y.c y.nd)(s:Set1 k x.nd x.r o)(s':Set1 k y.nd y.r o'):
  Fn Tryz.prog 36 [Xm x.A x.n x.c x.r,Xm y.A y.n y.c y.r] w (vO w k (λe=>o e&&o' e)):=by
 refine(vE x.A x.n x.c x.nd x.r y.A y.n y.c y.nd y.r w h h').mono ?_;rw[gm hk s s' 0];have c1:Set1 k _ _ (λe=>o e&&o' e):=(dS s s' 0).congr (λe=>by simp[Ki]);generalize VE x.nd x.r y.nd y.r 0=D at*;obtain⟨D1,D2⟩:=D;rintro v w' ⟨PA,q,pc,rfl,hE,hP,hR⟩;exact⟨PA,q,pc,D1,D2,rfl,hE,hP,c1,hR⟩
def iQF (r:Except Int (List Nat))(t:List Nat):Bool:=match r with
 | .ok l=>decide (l=t)
 | .error _=>false
def KO:List (List Nat):=[[65],[66]]
theorem Gd:Ks KO:=λs hs=>by
 simp only[KO,QZ,Jf,Jn] at hs;rcases hs with rfl | rfl<;>exact⟨by decide,by decide⟩
theorem Ge:∀s∈KO,s.length<=1000:=by decide
def AX (yes no:List Nat):Except Int (List Nat):=d7 KO (λ_=>true) [⟨λe=>e 0,yes⟩,⟨λe=> !e 0,no⟩]
theorem Gf (yes no want:List Nat)(hy:(∀b∈yes,b<256)/\yes.length<=2000)(hn:(∀b∈no,b<256)/\no.length<=2000)(w:World)(Zq:AX yes no= .ok want):
  Fn Tryz.prog 38 [.string (Qe yes),.string (Qe no),.string (Qe want)] w (λu w'=>u= .bool true/\Ext w w'):=by
 refine QD (c:={c38 with cuts:=[]}) Qa Tryz.func38 rfl rfl rfl ?_;refine call (Gb (k:=2) (v:=0) (by decide) (by decide) w) ?_;rintro _ w1 ⟨A1,n1,c1,d1,r1,rfl,Qd,eD,s1,_⟩;refine new (λw2 Qg Zb Qw=>?_);refine Qz Qw rfl (sc rfl) (λw3 ZY _ Qt=>?_);have XK:Ext w1 w3:=X9 Qg Qw ZY;refine Qs Qt rfl ?_;refine call (Gc (k:=2) (by decide) ⟨A1,n1,c1,d1,r1⟩ w3 (eD.ext XK) s1) ?_;rintro _ w4 ⟨A2,n2,c2,d2,r2,rfl,Qq,hb2,s2,_⟩;refine new (λw5 Qv KJ QK=>?_);refine Qz QK rfl (sc rfl) (λw6 WE _ Xo=>?_);have Xz:Ext w4 w6:=X9 Qv QK WE;have KS:=Qq.trans Xz;have XM:=Qd.trans (XK.trans KS);have kQ1:=Qt.ext KS;have hd:=Ext.drew w6;have fin:∀(NA:Option Addr) (nc:Nat) (PA:Option Addr) (pc:Nat) (w':World),Ext w6 w'->Sl w' 1 NA 2 nc (XW KO)->SlS Ju 3 w' PA 2 pc [(⟨A1,n1,c1,d1,r1⟩,yes),(⟨A2,n2,c2,d2,r2⟩,no)]->
   Fn Tryz.prog 24 [.slice NA 2 nc,Xm none 0 0 1,.slice PA 2 pc] w' (λu K6=>u= .tuple #[.string (Qe want),.int .i64 0]/\Ext w' K6):=λNA nc PA pc w' fW Mk Ml=>by
  refine(AP NA 2 nc KO ⟨none,0,0,[],1⟩ PA 2 pc _ (by decide) Gd Ge (λq hq=>by
   simp only[QZ,Jf,Jn] at hq;rcases hq with rfl | rfl
   ·exact hy
   ·exact hn) w' Mk (SlS.nil _) Ml (λq hq=>by
   simp only[QZ,Jf,Jn] at hq;rcases hq with rfl | rfl
   ·exact eD.ext (XK.trans (KS.trans fW))
   ·exact hb2.ext (Xz.trans fW))).mono ?_
  rintro u K6 ⟨rfl,Mm⟩;refine⟨?_,Mm⟩;have sc:Set1 2 [] 1 (λ_=>true):=br 2 true;rw[F3 (nm:=KO) (x:=⟨none,0,0,[],1⟩) (by decide) (iQ (x:=⟨none,0,0,[],1⟩) (by decide) sc).1 (λq hq=>by
   simp only[QZ,Jf,Jn] at hq;rcases hq with rfl | rfl
   ·exact(iQ (by decide) s1).1
   ·exact(iQ (by decide) s2).1)]
  have e0:oD ⟨none,0,0,[],1⟩=λ_=>true:=pO (x:=⟨none,0,0,[],1⟩) sc
  have e1:oD ⟨A1,n1,c1,d1,r1⟩=λe=>e 0:=pO (x:=⟨A1,n1,c1,d1,r1⟩) s1
  have e2:oD ⟨A2,n2,c2,d2,r2⟩=λe=> !e 0:=pO (x:=⟨A2,n2,c2,d2,r2⟩) s2
  rw[e0];have e3:Zn [((⟨A1,n1,c1,d1,r1⟩:DV),yes),(⟨A2,n2,c2,d2,r2⟩,no)]=[⟨λe=>e 0,yes⟩,⟨λe=> !e 0,no⟩]:=by
   simp only[Zn,Y0,yI,e1,e2]
  rw[e3];have:d7 KO (λ_=>true) [⟨λe=>e 0,yes⟩,⟨λe=> !e 0,no⟩]= .ok want:=Zq;rw[this]<;>rfl
 refine FI Qa (Ext w6) 15 (.quiet 2 (.quiet 3 (.quiet 4 (.quiet 5 (.quiet 6 (.quiet 7 (.fork 0 (.fork 1 (.fork 8 (.fork 9 (.quiet 10 (.quiet 11 (.quiet 12 (.quiet 13 (.quiet 14 .done))))) .skip) .skip) (.fork 8 (.fork 1 (.fork 9 (.quiet 10 (.quiet 11 (.quiet 12 (.quiet 13 (.quiet 14 .done))))) .skip) .skip) .skip)) (.fork 1 (.fork 0 (.fork 8 (.fork 9 (.quiet 10 (.quiet 11 (.quiet 12 (.quiet 13 (.quiet 14 .done))))) .skip) .skip) (.fork 8 (.fork 0 (.fork 9 (.quiet 10 (.quiet 11 (.quiet 12 (.quiet 13 (.quiet 14 .done))))) .skip) .skip) .skip)) (.fork 8 (.fork 0 (.fork 1 (.fork 9 (.quiet 10 (.quiet 11 (.quiet 12 (.quiet 13 (.quiet 14 .done))))) .skip) .skip) (.fork 1 (.fork 0 (.fork 9 (.quiet 10 (.quiet 11 (.quiet 12 (.quiet 13 (.quiet 14 .done))))) .skip) .skip) .skip)) .skip))))))))) (by kernel_rfl) hd ?_;refine Xq (vs:=[.slice A1 n1 c1,.int .i64 r1]) rfl (λw' Qb k u hk=>by rw[(kQ1.ext Qb).cell];exact hk) ?_;refine Xq (vs:=[.slice A2 n2 c2,.int .i64 r2]) rfl (λw' Qb k u hk=>by rw[(Xo.ext Qb).cell];exact hk) ?_;refine⟨?_,?_,?_,trivial⟩
 ·refine XI Qa [[Value.string (Qe [65])],[Value.string (Qe [66])]] rfl rfl rfl rfl rfl ⟨rfl,rfl,rfl,rfl,⟨⟩⟩ rfl (λcs h=>by simp only[QZ,Jf,Jn] at h;rcases h with rfl | rfl<;>rfl) rfl (by decide) (by decide) ?_;intro v1 g1 _ qG;have f1:=hd.trans g1;refine⟨f1,?_⟩;refine⟨?_,?_,trivial⟩
  ·refine call (ce true _) ?_;rintro _ v2 ⟨rfl,g2⟩;have f2:=f1.trans g2;refine⟨f2,?_⟩;refine⟨?_,trivial⟩
   ·refine XI Qa [Ju (⟨A1,n1,c1,d1,r1⟩,yes),Ju (⟨A2,n2,c2,d2,r2⟩,no)] rfl rfl rfl rfl rfl ⟨rfl,rfl,rfl,rfl,⟨⟩⟩ rfl (λcs h=>by simp only[QZ,Jf,Jn] at h;rcases h with rfl | rfl<;>rfl) rfl (by decide) (by decide) ?_;intro v3 g3 _ dx;have f3:=f2.trans g3;refine⟨f3,?_⟩;refine⟨?_,trivial⟩;refine call (fin _ 2 _ 2 v3 f3 (Sl.own' (n:=2) (qG.ext (g2.trans g3)) rfl (by decide)) ⟨Sl.own (sz:=3) (n:=2) dx (QC _) (by decide) (by simp[Ju]),rfl⟩) ?_;rintro _ w9 ⟨rfl,XE⟩;refine⟨f3.trans XE,?_⟩;refine Xa rfl ?_;exact⟨QN Value.bool (XR rfl),XM.trans (f3.trans XE)⟩
  ·refine XI Qa [Ju (⟨A1,n1,c1,d1,r1⟩,yes),Ju (⟨A2,n2,c2,d2,r2⟩,no)] rfl rfl rfl rfl rfl ⟨rfl,rfl,rfl,rfl,⟨⟩⟩ rfl (λcs h=>by simp only[QZ,Jf,Jn] at h;rcases h with rfl | rfl<;>rfl) rfl (by decide) (by decide) ?_;intro v2 g2 _ IT;have f2:=f1.trans g2;refine⟨f2,?_⟩;refine⟨?_,trivial⟩
   ·refine call (ce true _) ?_;rintro _ v3 ⟨rfl,g3⟩;have f3:=f2.trans g3;refine⟨f3,?_⟩;refine⟨?_,trivial⟩;refine call (fin _ 2 _ 2 v3 f3 (Sl.own' (n:=2) (qG.ext (g2.trans g3)) rfl (by decide)) ⟨Sl.own (sz:=3) (n:=2) (IT.ext g3) (QC _) (by decide) (by simp[Ju]),rfl⟩) ?_;rintro _ w9 ⟨rfl,XE⟩;refine⟨f3.trans XE,?_⟩;refine Xa rfl ?_;exact⟨QN Value.bool (XR rfl),XM.trans (f3.trans XE)⟩
 ·refine call (ce true _) ?_;rintro _ v1 ⟨rfl,g1⟩;have f1:=hd.trans g1;refine⟨f1,?_⟩;refine⟨?_,?_,trivial⟩
  ·refine XI Qa [[Value.string (Qe [65])],[Value.string (Qe [66])]] rfl rfl rfl rfl rfl ⟨rfl,rfl,rfl,rfl,⟨⟩⟩ rfl (λcs h=>by simp only[QZ,Jf,Jn] at h;rcases h with rfl | rfl<;>rfl) rfl (by decide) (by decide) ?_;intro v2 g2 _ qH;have f2:=f1.trans g2;refine⟨f2,?_⟩;refine⟨?_,trivial⟩
   ·refine XI Qa [Ju (⟨A1,n1,c1,d1,r1⟩,yes),Ju (⟨A2,n2,c2,d2,r2⟩,no)] rfl rfl rfl rfl rfl ⟨rfl,rfl,rfl,rfl,⟨⟩⟩ rfl (λcs h=>by simp only[QZ,Jf,Jn] at h;rcases h with rfl | rfl<;>rfl) rfl (by decide) (by decide) ?_;intro v3 g3 _ dx;have f3:=f2.trans g3;refine⟨f3,?_⟩;refine⟨?_,trivial⟩;refine call (fin _ 2 _ 2 v3 f3 (Sl.own' (n:=2) (qH.ext g3) rfl (by decide)) ⟨Sl.own (sz:=3) (n:=2) dx (QC _) (by decide) (by simp[Ju]),rfl⟩) ?_;rintro _ w9 ⟨rfl,XE⟩;refine⟨f3.trans XE,?_⟩;refine Xa rfl ?_;exact⟨QN Value.bool (XR rfl),XM.trans (f3.trans XE)⟩
  ·refine XI Qa [Ju (⟨A1,n1,c1,d1,r1⟩,yes),Ju (⟨A2,n2,c2,d2,r2⟩,no)] rfl rfl rfl rfl rfl ⟨rfl,rfl,rfl,rfl,⟨⟩⟩ rfl (λcs h=>by simp only[QZ,Jf,Jn] at h;rcases h with rfl | rfl<;>rfl) rfl (by decide) (by decide) ?_;intro v2 g2 _ IT;have f2:=f1.trans g2;refine⟨f2,?_⟩;refine⟨?_,trivial⟩
   ·refine XI Qa [[Value.string (Qe [65])],[Value.string (Qe [66])]] rfl rfl rfl rfl rfl ⟨rfl,rfl,rfl,rfl,⟨⟩⟩ rfl (λcs h=>by simp only[QZ,Jf,Jn] at h;rcases h with rfl | rfl<;>rfl) rfl (by decide) (by decide) ?_;intro v3 g3 _ dw;have f3:=f2.trans g3;refine⟨f3,?_⟩;refine⟨?_,trivial⟩;refine call (fin _ 2 _ 2 v3 f3 (Sl.own' (n:=2) dw rfl (by decide)) ⟨Sl.own (sz:=3) (n:=2) (IT.ext g3) (QC _) (by decide) (by simp[Ju]),rfl⟩) ?_;rintro _ w9 ⟨rfl,XE⟩;refine⟨f3.trans XE,?_⟩;refine Xa rfl ?_;exact⟨QN Value.bool (XR rfl),XM.trans (f3.trans XE)⟩
 ·refine XI Qa [Ju (⟨A1,n1,c1,d1,r1⟩,yes),Ju (⟨A2,n2,c2,d2,r2⟩,no)] rfl rfl rfl rfl rfl ⟨rfl,rfl,rfl,rfl,⟨⟩⟩ rfl (λcs h=>by simp only[QZ,Jf,Jn] at h;rcases h with rfl | rfl<;>rfl) rfl (by decide) (by decide) ?_;intro v1 g1 _ hP1;have f1:=hd.trans g1;refine⟨f1,?_⟩;refine⟨?_,?_,trivial⟩
  ·refine XI Qa [[Value.string (Qe [65])],[Value.string (Qe [66])]] rfl rfl rfl rfl rfl ⟨rfl,rfl,rfl,rfl,⟨⟩⟩ rfl (λcs h=>by simp only[QZ,Jf,Jn] at h;rcases h with rfl | rfl<;>rfl) rfl (by decide) (by decide) ?_;intro v2 g2 _ qH;have f2:=f1.trans g2;refine⟨f2,?_⟩;refine⟨?_,trivial⟩
   ·refine call (ce true _) ?_;rintro _ v3 ⟨rfl,g3⟩;have f3:=f2.trans g3;refine⟨f3,?_⟩;refine⟨?_,trivial⟩;refine call (fin _ 2 _ 2 v3 f3 (Sl.own' (n:=2) (qH.ext g3) rfl (by decide)) ⟨Sl.own (sz:=3) (n:=2) (hP1.ext (g2.trans g3)) (QC _) (by decide) (by simp[Ju]),rfl⟩) ?_;rintro _ w9 ⟨rfl,XE⟩;refine⟨f3.trans XE,?_⟩;refine Xa rfl ?_;exact⟨QN Value.bool (XR rfl),XM.trans (f3.trans XE)⟩
  ·refine call (ce true _) ?_;rintro _ v2 ⟨rfl,g2⟩;have f2:=f1.trans g2;refine⟨f2,?_⟩;refine⟨?_,trivial⟩
   ·refine XI Qa [[Value.string (Qe [65])],[Value.string (Qe [66])]] rfl rfl rfl rfl rfl ⟨rfl,rfl,rfl,rfl,⟨⟩⟩ rfl (λcs h=>by simp only[QZ,Jf,Jn] at h;rcases h with rfl | rfl<;>rfl) rfl (by decide) (by decide) ?_;intro v3 g3 _ dw;have f3:=f2.trans g3;refine⟨f3,?_⟩;refine⟨?_,trivial⟩;refine call (fin _ 2 _ 2 v3 f3 (Sl.own' (n:=2) dw rfl (by decide)) ⟨Sl.own (sz:=3) (n:=2) (hP1.ext (g2.trans g3)) (QC _) (by decide) (by simp[Ju]),rfl⟩) ?_;rintro _ w9 ⟨rfl,XE⟩;refine⟨f3.trans XE,?_⟩;refine Xa rfl ?_;exact⟨QN Value.bool (XR rfl),XM.trans (f3.trans XE)⟩
def pP (file:List Nat)(e:Ed):Except Int (List Nat):=FZ KO (λ_=>true) file [e]
theorem S5 (file:List Nat)(e:EdV){o:BF}(hf:(∀b∈file,b<256)/\file.length<=60000)(er: -9223372036854775808<=e.fr/\e.fr<=9223372036854775807/\ -9223372036854775808<=e.to_/\e.to_<=9223372036854775807)(ht:(∀b∈e.tx,b<256)/\e.tx.length<=1000)(se:Set1 2 e.x.nd e.x.r o)
  (NA:Option Addr) (nc:Nat) (EA:Option Addr) (ec:Nat) (w:World) (hb:SB w e.x.A e.x.n e.x.c e.x.nd) (hN:Sl w 1 NA 2 nc (XW KO)) (hE:SlS Kl 5 w EA 1 ec [e]):
  Fn Tryz.prog 15 [.slice NA 2 nc,Xm none 0 0 1,.string (Qe file),.slice EA 1 ec] w (λu w'=>u=ta (pP file ⟨e.fr,e.to_,e.tx,o⟩)/\Ext w w'):=by
 refine(iQE NA 2 nc KO ⟨none,0,0,[],1⟩ file EA 1 ec [e] (by decide) Gd Ge hf.1 hf.2 (λb hb=>by rw[QL.1 hb];exact er) (λb hb=>by rw[QL.1 hb];exact ht) (by show 1<=10;decide) w hN (SlS.nil _) hE (λb hb2=>by rw[QL.1 hb2];exact hb)).mono ?_;rintro u w' ⟨rfl,fW⟩;refine⟨?_,fW⟩;have sc:Set1 2 [] 1 (λ_=>true):=br 2 true;have e0:oD ⟨none,0,0,[],1⟩=λ_=>true:=pO (x:=⟨none,0,0,[],1⟩) sc
 have o1:Kk KO.length [] 1=true:=(iQ (x:=⟨none,0,0,[],1⟩) (n:=2) (by decide) sc).1;have o2:Kk KO.length e.x.nd e.x.r=true:=(iQ (n:=2) (by decide) se).1;have e3: [e].map EdV.ed=[⟨e.fr,e.to_,e.tx,o⟩]:=by
  show [(⟨e.fr,e.to_,e.tx,oD e.x⟩:Ed)]=_;rw[pO se]
 unfold s6 pP;rw[if_neg (by rw[show ZM KO=true from by decide];show¬(true=false∨Kk KO.length [] 1=false);rw[o1];decide),Qf (by simp only[yH,List.all_nil,Bool.and_true];exact o2),e0,e3]
theorem Gg (file want:List Nat)(e:EdV){o:BF}(hf:(∀b∈file,b<256)/\file.length<=60000)(er: -9223372036854775808<=e.fr/\e.fr<=9223372036854775807/\ -9223372036854775808<=e.to_/\e.to_<=9223372036854775807)(ht:(∀b∈e.tx,b<256)/\e.tx.length<=1000)(se:Set1 2 e.x.nd e.x.r o)(w:World)(hb:SB w e.x.A e.x.n e.x.c e.x.nd)(Zq:pP file ⟨e.fr,e.to_,e.tx,o⟩= .ok want):
  Fn Tryz.prog 39 [.string (Qe file),.agg (Kl e).toArray,.string (Qe want)] w (λu w'=>u= .bool true/\Ext w w'):=by
 refine QD (c:={c39 with cuts:=[]}) Qa Tryz.func39 rfl rfl rfl ?_;refine new (λw6 XM em Xo=>?_);have hd:=Ext.drew w6;have fin:∀(NA:Option Addr) (nc:Nat) (EA:Option Addr) (ec:Nat) (w':World),Ext w6 w'->Sl w' 1 NA 2 nc (XW KO)->SlS Kl 5 w' EA 1 ec [e]->
   Fn Tryz.prog 15 [.slice NA 2 nc,Xm none 0 0 1,.string (Qe file),.slice EA 1 ec] w' (λu K6=>u= .tuple #[.string (Qe want),.int .i64 0]/\Ext w' K6):=λNA nc EA ec w' fW Mk Ml=>by
  refine(S5 file e hf er ht se NA nc EA ec w' (hb.ext (XM.trans fW)) Mk Ml).mono ?_;rintro u K6 ⟨rfl,Mm⟩;rw[Zq];exact⟨rfl,Mm⟩
 refine FI Qa (Ext w6) 11 (.quiet 2 (.quiet 3 (.fork 0 (.fork 1 (.fork 4 (.fork 5 (.quiet 6 (.quiet 7 (.quiet 8 (.quiet 9 (.quiet 10 .done))))) .skip) .skip) (.fork 4 (.fork 1 (.fork 5 (.quiet 6 (.quiet 7 (.quiet 8 (.quiet 9 (.quiet 10 .done))))) .skip) .skip) .skip)) (.fork 1 (.fork 0 (.fork 4 (.fork 5 (.quiet 6 (.quiet 7 (.quiet 8 (.quiet 9 (.quiet 10 .done))))) .skip) .skip) (.fork 4 (.fork 0 (.fork 5 (.quiet 6 (.quiet 7 (.quiet 8 (.quiet 9 (.quiet 10 .done))))) .skip) .skip) .skip)) (.fork 4 (.fork 0 (.fork 1 (.fork 5 (.quiet 6 (.quiet 7 (.quiet 8 (.quiet 9 (.quiet 10 .done))))) .skip) .skip) (.fork 1 (.fork 0 (.fork 5 (.quiet 6 (.quiet 7 (.quiet 8 (.quiet 9 (.quiet 10 .done))))) .skip) .skip) .skip)) .skip))))) (by kernel_rfl) hd ?_;refine Xq (vs:=Kl e) rfl (λw' Qb k u hk=>by rw[(Xo.ext Qb).cell];exact hk) ?_;refine⟨?_,?_,?_,trivial⟩
 ·refine XI Qa [[Value.string (Qe [65])],[Value.string (Qe [66])]] rfl rfl rfl rfl rfl ⟨rfl,rfl,rfl,rfl,⟨⟩⟩ rfl (λcs h=>by simp only[QZ,Jf,Jn] at h;rcases h with rfl | rfl<;>rfl) rfl (by decide) (by decide) ?_;intro v1 g1 _ qG;have f1:=hd.trans g1;refine⟨f1,?_⟩;refine⟨?_,?_,trivial⟩
  ·refine call (ce true _) ?_;rintro _ v2 ⟨rfl,g2⟩;have f2:=f1.trans g2;refine⟨f2,?_⟩;refine⟨?_,trivial⟩
   ·refine XI Qa [Kl e] rfl rfl rfl rfl rfl ⟨rfl,rfl,⟨⟩⟩ rfl (λcs h=>by simp only[QL] at h;subst h;rfl) rfl (by decide) (by decide) ?_;intro v3 g3 _ Qk;have f3:=f2.trans g3;refine⟨f3,?_⟩;refine⟨?_,trivial⟩;refine call (fin _ 2 _ 1 v3 f3 (Sl.own' (n:=2) (qG.ext (g2.trans g3)) rfl (by decide)) ⟨Sl.own (sz:=5) (n:=1) Qk (QC _) (by decide) (by simp[Kl]),rfl⟩) ?_;rintro _ w9 ⟨rfl,XE⟩;refine⟨f3.trans XE,?_⟩;refine Xa rfl ?_;exact⟨QN Value.bool (XR rfl),XM.trans (f3.trans XE)⟩
  ·refine XI Qa [Kl e] rfl rfl rfl rfl rfl ⟨rfl,rfl,⟨⟩⟩ rfl (λcs h=>by simp only[QL] at h;subst h;rfl) rfl (by decide) (by decide) ?_;intro v2 g2 _ Qg;have f2:=f1.trans g2;refine⟨f2,?_⟩;refine⟨?_,trivial⟩
   ·refine call (ce true _) ?_;rintro _ v3 ⟨rfl,g3⟩;have f3:=f2.trans g3;refine⟨f3,?_⟩;refine⟨?_,trivial⟩;refine call (fin _ 2 _ 1 v3 f3 (Sl.own' (n:=2) (qG.ext (g2.trans g3)) rfl (by decide)) ⟨Sl.own (sz:=5) (n:=1) (Qg.ext g3) (QC _) (by decide) (by simp[Kl]),rfl⟩) ?_;rintro _ w9 ⟨rfl,XE⟩;refine⟨f3.trans XE,?_⟩;refine Xa rfl ?_;exact⟨QN Value.bool (XR rfl),XM.trans (f3.trans XE)⟩
 ·refine call (ce true _) ?_;rintro _ v1 ⟨rfl,g1⟩;have f1:=hd.trans g1;refine⟨f1,?_⟩;refine⟨?_,?_,trivial⟩
  ·refine XI Qa [[Value.string (Qe [65])],[Value.string (Qe [66])]] rfl rfl rfl rfl rfl ⟨rfl,rfl,rfl,rfl,⟨⟩⟩ rfl (λcs h=>by simp only[QZ,Jf,Jn] at h;rcases h with rfl | rfl<;>rfl) rfl (by decide) (by decide) ?_;intro v2 g2 _ qH;have f2:=f1.trans g2;refine⟨f2,?_⟩;refine⟨?_,trivial⟩
   ·refine XI Qa [Kl e] rfl rfl rfl rfl rfl ⟨rfl,rfl,⟨⟩⟩ rfl (λcs h=>by simp only[QL] at h;subst h;rfl) rfl (by decide) (by decide) ?_;intro v3 g3 _ Qk;have f3:=f2.trans g3;refine⟨f3,?_⟩;refine⟨?_,trivial⟩;refine call (fin _ 2 _ 1 v3 f3 (Sl.own' (n:=2) (qH.ext g3) rfl (by decide)) ⟨Sl.own (sz:=5) (n:=1) Qk (QC _) (by decide) (by simp[Kl]),rfl⟩) ?_;rintro _ w9 ⟨rfl,XE⟩;refine⟨f3.trans XE,?_⟩;refine Xa rfl ?_;exact⟨QN Value.bool (XR rfl),XM.trans (f3.trans XE)⟩
  ·refine XI Qa [Kl e] rfl rfl rfl rfl rfl ⟨rfl,rfl,⟨⟩⟩ rfl (λcs h=>by simp only[QL] at h;subst h;rfl) rfl (by decide) (by decide) ?_;intro v2 g2 _ Qg;have f2:=f1.trans g2;refine⟨f2,?_⟩;refine⟨?_,trivial⟩
   ·refine XI Qa [[Value.string (Qe [65])],[Value.string (Qe [66])]] rfl rfl rfl rfl rfl ⟨rfl,rfl,rfl,rfl,⟨⟩⟩ rfl (λcs h=>by simp only[QZ,Jf,Jn] at h;rcases h with rfl | rfl<;>rfl) rfl (by decide) (by decide) ?_;intro v3 g3 _ dw;have f3:=f2.trans g3;refine⟨f3,?_⟩;refine⟨?_,trivial⟩;refine call (fin _ 2 _ 1 v3 f3 (Sl.own' (n:=2) dw rfl (by decide)) ⟨Sl.own (sz:=5) (n:=1) (Qg.ext g3) (QC _) (by decide) (by simp[Kl]),rfl⟩) ?_;rintro _ w9 ⟨rfl,XE⟩;refine⟨f3.trans XE,?_⟩;refine Xa rfl ?_;exact⟨QN Value.bool (XR rfl),XM.trans (f3.trans XE)⟩
 ·refine XI Qa [Kl e] rfl rfl rfl rfl rfl ⟨rfl,rfl,⟨⟩⟩ rfl (λcs h=>by simp only[QL] at h;subst h;rfl) rfl (by decide) (by decide) ?_;intro v1 g1 _ Qd;have f1:=hd.trans g1;refine⟨f1,?_⟩;refine⟨?_,?_,trivial⟩
  ·refine XI Qa [[Value.string (Qe [65])],[Value.string (Qe [66])]] rfl rfl rfl rfl rfl ⟨rfl,rfl,rfl,rfl,⟨⟩⟩ rfl (λcs h=>by simp only[QZ,Jf,Jn] at h;rcases h with rfl | rfl<;>rfl) rfl (by decide) (by decide) ?_;intro v2 g2 _ qH;have f2:=f1.trans g2;refine⟨f2,?_⟩;refine⟨?_,trivial⟩
   ·refine call (ce true _) ?_;rintro _ v3 ⟨rfl,g3⟩;have f3:=f2.trans g3;refine⟨f3,?_⟩;refine⟨?_,trivial⟩;refine call (fin _ 2 _ 1 v3 f3 (Sl.own' (n:=2) (qH.ext g3) rfl (by decide)) ⟨Sl.own (sz:=5) (n:=1) (Qd.ext (g2.trans g3)) (QC _) (by decide) (by simp[Kl]),rfl⟩) ?_;rintro _ w9 ⟨rfl,XE⟩;refine⟨f3.trans XE,?_⟩;refine Xa rfl ?_;exact⟨QN Value.bool (XR rfl),XM.trans (f3.trans XE)⟩
  ·refine call (ce true _) ?_;rintro _ v2 ⟨rfl,g2⟩;have f2:=f1.trans g2;refine⟨f2,?_⟩;refine⟨?_,trivial⟩
   ·refine XI Qa [[Value.string (Qe [65])],[Value.string (Qe [66])]] rfl rfl rfl rfl rfl ⟨rfl,rfl,rfl,rfl,⟨⟩⟩ rfl (λcs h=>by simp only[QZ,Jf,Jn] at h;rcases h with rfl | rfl<;>rfl) rfl (by decide) (by decide) ?_;intro v3 g3 _ dw;have f3:=f2.trans g3;refine⟨f3,?_⟩;refine⟨?_,trivial⟩;refine call (fin _ 2 _ 1 v3 f3 (Sl.own' (n:=2) dw rfl (by decide)) ⟨Sl.own (sz:=5) (n:=1) (Qd.ext (g2.trans g3)) (QC _) (by decide) (by simp[Kl]),rfl⟩) ?_;rintro _ w9 ⟨rfl,XE⟩;refine⟨f3.trans XE,?_⟩;refine Xa rfl ?_;exact⟨QN Value.bool (XR rfl),XM.trans (f3.trans XE)⟩
def iQG (r:Except Int (List Nat))(k:Int):Bool:=match r with
 | .ok _=>false
 | .error e=>decide (e=k)
theorem mO {r:Except Int (List Nat)}{t:List Nat}(h:iQF r t=true):r= .ok t:=by
 cases r with
 | ok l=>rw[a8 h]
 | error e=>cases h
theorem Gh {r:Except Int (List Nat)}{k:Int}(h:iQG r k=true):r= .error k:=by
 cases r with
 | ok l=>cases h
 | error e=>rw[a8 h]
theorem S8 (x:DV){o:BF}(Q:List (DV×Pr))(NA:Option Addr)(nc:Nat)(PA:Option Addr)(pn pc:Nat)(w:World)(hN:Sl w 1 NA 2 nc (XW KO))(hx:SB w x.A x.n x.c x.nd)(sx:Set1 2 x.nd x.r o)(hP:SlS Z8 3 w PA pn pc Q)
  (hQ:∀q∈Q,SB w q.1.A q.1.n q.1.c q.1.nd/\Set1 2 q.1.nd q.1.r q.2.o/\(∀b∈q.2.t,b<256)/\q.2.t.length<=2000):
  Fn Tryz.prog 24 [.slice NA 2 nc,Xm x.A x.n x.c x.r,.slice PA pn pc] w (λu w'=>u=ta (d7 KO o (Q.map (·.2)))/\Ext w w'):=by
 refine(AP NA 2 nc KO x PA pn pc (Q.map (λq=>(q.1,q.2.t))) (by decide) Gd Ge (λq hq=>by
  obtain⟨q0,h0,rfl⟩:=Z4.1 hq;exact(hQ q0 h0).2.2) w hN hx ⟨by rw[<-AU];exact hP.1,by rw[JM];exact hP.2⟩ (λq hq=>by
  obtain⟨q0,h0,rfl⟩:=Z4.1 hq;exact(hQ q0 h0).1)).mono ?_
 rintro u w' ⟨rfl,hE⟩;refine⟨?_,hE⟩;rw[F3 (nm:=KO) (by decide) (iQ (n:=2) (by decide) sx).1 (λq hq=>by
  obtain⟨q0,h0,rfl⟩:=Z4.1 hq;exact(iQ (n:=2) (by decide) (hQ q0 h0).2.1).1),pO sx,AR (λq hq=>(hQ q hq).2.1)]
theorem S9 (x:DV){o:BF}(Q:List (DV×Pr))(NA:Option Addr)(nc:Nat)(PA:Option Addr)(pn pc:Nat)(w:World)(hN:Sl w 1 NA 2 nc (XW KO))(hx:SB w x.A x.n x.c x.nd)(sx:Set1 2 x.nd x.r o)(hP:SlS Z8 3 w PA pn pc Q)
  (hQ:∀q∈Q,SB w q.1.A q.1.n q.1.c q.1.nd/\Set1 2 q.1.nd q.1.r q.2.o/\(∀b∈q.2.t,b<256)/\q.2.t.length<=2000) {qs:List Pr} (ip:Q.map (·.2)=qs) {t:List Nat} (hr:d7 KO o qs= .ok t):
  Fn Tryz.prog 24 [.slice NA 2 nc,Xm x.A x.n x.c x.r,.slice PA pn pc] w (λu w'=>u= .tuple #[.string (Qe t),.int .i64 0]/\Ext w w'):=by
 refine(S8 x Q NA nc PA pn pc w hN hx sx hP hQ).mono ?_;rintro u w' ⟨rfl,hE⟩;exact⟨by rw[ip,hr];rfl,hE⟩
theorem Ta (x:DV){o:BF}(Q:List (DV×Pr))(NA:Option Addr)(nc:Nat)(PA:Option Addr)(pn pc:Nat)(w:World)(hN:Sl w 1 NA 2 nc (XW KO))(hx:SB w x.A x.n x.c x.nd)(sx:Set1 2 x.nd x.r o)(hP:SlS Z8 3 w PA pn pc Q)
  (hQ:∀q∈Q,SB w q.1.A q.1.n q.1.c q.1.nd/\Set1 2 q.1.nd q.1.r q.2.o/\(∀b∈q.2.t,b<256)/\q.2.t.length<=2000) {qs:List Pr} (ip:Q.map (·.2)=qs) {k:Int} (hr:d7 KO o qs= .error k):
  Fn Tryz.prog 24 [.slice NA 2 nc,Xm x.A x.n x.c x.r,.slice PA pn pc] w (λu w'=>u= .tuple #[.string (Qe []),.int .i64 k]/\Ext w w'):=by
 refine(S8 x Q NA nc PA pn pc w hN hx sx hP hQ).mono ?_;rintro u w' ⟨rfl,hE⟩;exact⟨by rw[ip,hr];rfl,hE⟩
theorem iQH (NA:Option Addr)(nc:Nat)(w:World)(hN:Sl w 1 NA 2 nc (XW [[65],[65]])):
  Fn Tryz.prog 24 [.slice NA 2 nc,Xm none 0 0 1,.slice none 0 0] w (λu w'=>u= .tuple #[.string (Qe []),.int .i64 1]/\Ext w w'):=by
 refine(AP NA 2 nc [[65],[65]] ⟨none,0,0,[],1⟩ none 0 0 [] (by decide) (λs hs=>by
  simp only[QZ,Jf,Jn] at hs;rcases hs with rfl | rfl<;>exact⟨by decide,by decide⟩) (by decide) (λq hq=>by cases hq) w hN (SlS.nil _) (SlS.nil _) (λq hq=>by cases hq)).mono ?_
 rintro u w' ⟨rfl,hE⟩;exact⟨by unfold kx;rw[Qf (.inl (by decide+kernel))];rfl,hE⟩
abbrev tA:BF:=λe=>e 0
abbrev tB:BF:=λe=>e 1
abbrev tX:List Nat:=[120,10]
theorem sn1:AX [120,10,121,10] [120,10,122,10]= .ok [120,10,35,105,102,32,65,10,121,10,35,101,108,115,101,10,122,10,35,101,110,100,10]:=mO (by decide+kernel)
theorem sn2:AX [120,10,121,10] [120,10]= .ok [120,10,35,105,102,32,65,10,121,10,35,101,110,100,10]:=mO (by decide+kernel)
theorem sn3:AX [120,10] [120,10,121,10]= .ok [120,10,35,105,102,32,33,65,10,121,10,35,101,110,100,10]:=mO (by decide+kernel)
theorem sn4:d7 KO (λ_=>true) [⟨λe=>e 0&&e 1,tX⟩,⟨λe=> !(e 0&&e 1),[]⟩]= .ok [35,105,102,32,65,10,35,105,102,32,66,10,120,10,35,101,110,100,10,35,101,110,100,10]:=mO (by decide+kernel)
theorem sn5:d7 KO tB [⟨λe=>e 0&&e 1,tX⟩,⟨λe=> !e 0&&e 1,[121,10]⟩]= .ok [35,105,102,32,65,10,120,10,35,101,108,115,101,10,121,10,35,101,110,100,10]:=mO (by decide+kernel)
theorem sn6:d7 KO (λ_=>true) [⟨tA,tX⟩]= .error 290:=Gh (by decide+kernel)
theorem sn7:d7 KO (λ_=>true) [⟨λ_=>true,[35,101,110,100,10]⟩]= .error 290:=Gh (by decide+kernel)
def mP:List Nat:=[35,105,102,32,65,10,120,10,35,101,110,100,10]
theorem sn8:pP [120,32,121,10,122,10] ⟨2,3,[119],tA⟩= .ok [35,105,102,32,65,10,120,32,119,10,35,101,108,115,101,10,120,32,121,10,35,101,110,100,10,122,10]:=mO (by decide+kernel)
theorem sn9:pP mP ⟨6,7,[121],λe=> !e 0⟩= .ok mP:=mO (by decide+kernel)
theorem iQI:pP mP ⟨6,7,[121],λ_=>true⟩= .ok [35,105,102,32,65,10,121,10,35,101,110,100,10]:=mO (by decide+kernel)
theorem iQJ:pP mP ⟨0,1,[121],tA⟩= .error 291:=Gh (by decide+kernel)
theorem iQK (w0:World):Fn Tryz.prog 11 [] w0 (λu w'=>u= .bool true/\Ext w0 w'):=by
 refine QD (c:={uY with cuts:=[]}) Qa Tryz.func11 rfl rfl rfl ?_;refine call (Gb (k:=2) (v:=0) (by decide) (by decide) w0) ?_;rintro _ a1 ⟨Aa,na,ca,da,ra,rfl,e1,ba,sa,_⟩;refine new (λx1 f1 y1 B1=>?_);refine Qz B1 rfl (sc rfl) (λw1 g1 _ Ba=>?_);have h1:Ext w0 w1:=e1.trans (X9 f1 B1 g1);have ba:=ba.ext (X9 f1 B1 g1);refine call (Gb (k:=2) (v:=1) (by decide) (by decide) w1) ?_;rintro _ a2 ⟨Ab,nb,cb,db,rb,rfl,e2,bb,sb,_⟩;refine new (λx2 f2 y2 B2=>?_);refine Qz B2 rfl (sc rfl) (λw2 g2 _ Bb=>?_);have h2:Ext w1 w2:=e2.trans (X9 f2 B2 g2);have bb:=bb.ext (X9 f2 B2 g2);refine Qs (Ba.ext h2) rfl ?_;refine call (Gc (k:=2) (by decide) (⟨Aa,na,ca,da,ra⟩:DV) w2 (ba.ext h2) sa) ?_;rintro _ a3 ⟨Anot,nnot,cnot,dnot,rnot,rfl,e3,bnot,snot,_⟩;refine new (λx3 f3 y3 B3=>?_);refine Qz B3 rfl (sc rfl) (λw3 g3 _ Bnot=>?_);have h3:Ext w2 w3:=e3.trans (X9 f3 B3 g3);have bnot:=bnot.ext (X9 f3 B3 g3);refine Qs (Ba.ext (h2.trans h3)) rfl ?_;refine Qs (Bb.ext h3) rfl ?_;refine call (S4 (k:=2) (by decide) (⟨Aa,na,ca,da,ra⟩:DV) (⟨Ab,nb,cb,db,rb⟩:DV) w3 (ba.ext (h2.trans h3)) (bb.ext h3) sa sb) ?_;rintro _ a4 ⟨Aboth,nboth,cboth,dboth,rboth,rfl,e4,bboth,sboth,_⟩;refine new (λx4 f4 y4 B4=>?_);refine Qz B4 rfl (sc rfl) (λw4 g4 _ Bboth=>?_);have h4:Ext w3 w4:=e4.trans (X9 f4 B4 g4);have bboth:=bboth.ext (X9 f4 B4 g4);refine Qs Bboth rfl ?_;refine call (Gc (k:=2) (by decide) (⟨Aboth,nboth,cboth,dboth,rboth⟩:DV) w4 bboth sboth) ?_;rintro _ a5 ⟨Arest,nrest,crest,drest,rrest,rfl,e5,brest,srest,_⟩;refine new (λx5 f5 y5 B5=>?_);refine Qz B5 rfl (sc rfl) (λw5 g5 _ Brest=>?_);have h5:Ext w4 w5:=e5.trans (X9 f5 B5 g5);have brest:=brest.ext (X9 f5 B5 g5);refine Qs (Bnot.ext (h4.trans h5)) rfl ?_;refine Qs (Bb.ext ((h3.trans h4).trans h5)) rfl ?_;refine call (S4 (k:=2) (by decide) (⟨Anot,nnot,cnot,dnot,rnot⟩:DV) (⟨Ab,nb,cb,db,rb⟩:DV) w5 (bnot.ext (h4.trans h5)) (bb.ext ((h3.trans h4).trans h5)) snot sb) ?_;rintro _ a6 ⟨Aoth,noth,coth,doth,roth,rfl,e6,both,soth,_⟩;refine new (λx6 f6 y6 B6=>?_);refine Qz B6 rfl (sc rfl) (λw6 g6 _ Both=>?_);have h6:Ext w5 w6:=e6.trans (X9 f6 B6 g6);have both:=both.ext (X9 f6 B6 g6);refine call (ce true w6) ?_;rintro _ a7 ⟨rfl,e7⟩;refine new (λx7 f7 y7 B7=>?_);refine Qz B7 rfl (sc rfl) (λw7 g7 _ Ball=>?_);have h7:Ext w6 w7:=e7.trans (X9 f7 B7 g7);have Ball:Blk w7 a7.heap.size 32 (⟨none,0,0,[],1⟩:DV).cells:=Ball;have sall:Set1 2 [] 1 (λ_=>true):=br 2 true;refine XI Qa [[Value.string (Qe [65])],[Value.string (Qe [66])]] rfl rfl rfl rfl rfl ⟨rfl,rfl,rfl,rfl,⟨⟩⟩ rfl (λcs h=>by simp only[QZ,Jf,Jn] at h;rcases h with rfl | rfl<;>rfl) rfl (by decide) (by decide) ?_;intro w8 h8 _ BN;have hN:Sl w8 1 (some ⟨w7.heap.size,0,none⟩) 2 2 (XW KO):=Sl.own' (n:=2) BN rfl (by decide);refine call (Gf [120,10,121,10] [120,10,122,10] _ (by decide) (by decide) w8 sn1) ?_;rintro _ w9 ⟨rfl,h9⟩;refine Xa rfl ?_;refine call (Gf [120,10,121,10] [120,10] _ (by decide) (by decide) w9 sn2) ?_;rintro _ QJ ⟨rfl,XN⟩;refine Xa rfl ?_;refine call (Gf [120,10] [120,10,121,10] _ (by decide) (by decide) QJ sn3) ?_;rintro _ QG ⟨rfl,ZK⟩;refine Qs (Ball.ext (((h8.trans h9).trans XN).trans ZK)) rfl ?_;refine Qs (Bboth.ext ((((((h5.trans h6).trans h7).trans h8).trans h9).trans XN).trans ZK)) rfl ?_;refine Qs (Brest.ext (((((h6.trans h7).trans h8).trans h9).trans XN).trans ZK)) rfl ?_;refine XI Qa [Z8 ((⟨Aboth,nboth,cboth,dboth,rboth⟩:DV),Pr.mk (λe=>e 0&&e 1) tX),Z8 ((⟨Arest,nrest,crest,drest,rrest⟩:DV),Pr.mk (λe=> !(e 0&&e 1)) [])] rfl rfl rfl rfl rfl ⟨rfl,rfl,rfl,rfl,⟨⟩⟩ rfl (λcs h=>by simp only[QZ,Jf,Jn] at h;rcases h with rfl | rfl<;>rfl) rfl (by decide) (by decide) ?_;intro Xg XY _ BP12;refine call (S9 ⟨none,0,0,[],1⟩ [((⟨Aboth,nboth,cboth,dboth,rboth⟩:DV),Pr.mk (λe=>e 0&&e 1) tX),((⟨Arest,nrest,crest,drest,rrest⟩:DV),Pr.mk (λe=> !(e 0&&e 1)) [])] _ 2 _ 2 2 Xg (hN.ext (((h9.trans XN).trans ZK).trans XY)) (SlS.nil _) sall ⟨Sl.own (sz:=3) (n:=2) BP12 (QC _) (by decide) (by simp[Z8,Ju]),rfl⟩ (λq hq=>by
  simp only[QZ,Jf,Jn] at hq;rcases hq with rfl | rfl
  ·exact⟨(bboth.ext (((((((h5.trans h6).trans h7).trans h8).trans h9).trans XN).trans ZK).trans XY)),sboth,(show(∀b∈(tX:List Nat),b<256)/\(tX:List Nat).length<=2000 by decide)⟩
  ·exact⟨(brest.ext ((((((h6.trans h7).trans h8).trans h9).trans XN).trans ZK).trans XY)),srest,(show(∀b∈([]:List Nat),b<256)/\([]:List Nat).length<=2000 by decide)⟩) rfl sn4) ?_
 rintro _ X2 ⟨rfl,KL⟩;refine Qs (Bb.ext ((((((((((h3.trans h4).trans h5).trans h6).trans h7).trans h8).trans h9).trans XN).trans ZK).trans XY).trans KL)) rfl ?_;refine Qs (Bboth.ext ((((((((h5.trans h6).trans h7).trans h8).trans h9).trans XN).trans ZK).trans XY).trans KL)) rfl ?_;refine Qs (Both.ext ((((((h7.trans h8).trans h9).trans XN).trans ZK).trans XY).trans KL)) rfl ?_;refine XI Qa [Z8 ((⟨Aboth,nboth,cboth,dboth,rboth⟩:DV),Pr.mk (λe=>e 0&&e 1) tX),Z8 ((⟨Aoth,noth,coth,doth,roth⟩:DV),Pr.mk (λe=> !e 0&&e 1) [121,10])] rfl rfl rfl rfl rfl ⟨rfl,rfl,rfl,rfl,⟨⟩⟩ rfl (λcs h=>by simp only[QZ,Jf,Jn] at h;rcases h with rfl | rfl<;>rfl) rfl (by decide) (by decide) ?_;intro Zi Vv _ BP14;refine call (S9 (⟨Ab,nb,cb,db,rb⟩:DV) [((⟨Aboth,nboth,cboth,dboth,rboth⟩:DV),Pr.mk (λe=>e 0&&e 1) tX),((⟨Aoth,noth,coth,doth,roth⟩:DV),Pr.mk (λe=> !e 0&&e 1) [121,10])] _ 2 _ 2 2 Zi (hN.ext (((((h9.trans XN).trans ZK).trans XY).trans KL).trans Vv)) (bb.ext (((((((((((h3.trans h4).trans h5).trans h6).trans h7).trans h8).trans h9).trans XN).trans ZK).trans XY).trans KL).trans Vv)) sb ⟨Sl.own (sz:=3) (n:=2) BP14 (QC _) (by decide) (by simp[Z8,Ju]),rfl⟩ (λq hq=>by
  simp only[QZ,Jf,Jn] at hq;rcases hq with rfl | rfl
  ·exact⟨(bboth.ext (((((((((h5.trans h6).trans h7).trans h8).trans h9).trans XN).trans ZK).trans XY).trans KL).trans Vv)),sboth,(show(∀b∈(tX:List Nat),b<256)/\(tX:List Nat).length<=2000 by decide)⟩
  ·exact⟨(both.ext (((((((h7.trans h8).trans h9).trans XN).trans ZK).trans XY).trans KL).trans Vv)),soth,(show(∀b∈([121,10]:List Nat),b<256)/\([121,10]:List Nat).length<=2000 by decide)⟩) rfl sn5) ?_
 rintro _ Kw ⟨rfl,Wd⟩;refine Qs (Ball.ext (((((((h8.trans h9).trans XN).trans ZK).trans XY).trans KL).trans Vv).trans Wd)) rfl ?_;refine Qs (Ba.ext (((((((((((((h2.trans h3).trans h4).trans h5).trans h6).trans h7).trans h8).trans h9).trans XN).trans ZK).trans XY).trans KL).trans Vv).trans Wd)) rfl ?_;refine XI Qa [Z8 ((⟨Aa,na,ca,da,ra⟩:DV),Pr.mk (λe=>e 0) tX)] rfl rfl rfl rfl rfl ⟨rfl,rfl,⟨⟩⟩ rfl (λcs h=>by simp only[QL] at h;subst h;rfl) rfl (by decide) (by decide) ?_;intro ao au _ BP16;refine call (Ta ⟨none,0,0,[],1⟩ [((⟨Aa,na,ca,da,ra⟩:DV),Pr.mk (λe=>e 0) tX)] _ 2 _ 1 1 ao (hN.ext (((((((h9.trans XN).trans ZK).trans XY).trans KL).trans Vv).trans Wd).trans au)) (SlS.nil _) sall ⟨Sl.own (sz:=3) (n:=1) BP16 (QC _) (by decide) (by simp[Z8,Ju]),rfl⟩ (λq hq=>by
  simp only[QZ,Jf,Jn] at hq;rcases hq with rfl
  ·exact⟨(ba.ext ((((((((((((((h2.trans h3).trans h4).trans h5).trans h6).trans h7).trans h8).trans h9).trans XN).trans ZK).trans XY).trans KL).trans Vv).trans Wd).trans au)),sa,(show(∀b∈(tX:List Nat),b<256)/\(tX:List Nat).length<=2000 by decide)⟩) rfl sn6) ?_
 rintro _ Vu ⟨rfl,dy⟩;refine Qs (Ball.ext (((((((((h8.trans h9).trans XN).trans ZK).trans XY).trans KL).trans Vv).trans Wd).trans au).trans dy)) rfl ?_;refine Qs (Ball.ext (((((((((h8.trans h9).trans XN).trans ZK).trans XY).trans KL).trans Vv).trans Wd).trans au).trans dy)) rfl ?_;refine XI Qa [Z8 ((⟨none,0,0,[],1⟩:DV),Pr.mk (λ_=>true) [35,101,110,100,10])] rfl rfl rfl rfl rfl ⟨rfl,rfl,⟨⟩⟩ rfl (λcs h=>by simp only[QL] at h;subst h;rfl) rfl (by decide) (by decide) ?_;intro Vh aq _ BP18;refine call (Ta ⟨none,0,0,[],1⟩ [((⟨none,0,0,[],1⟩:DV),Pr.mk (λ_=>true) [35,101,110,100,10])] _ 2 _ 1 1 Vh (hN.ext (((((((((h9.trans XN).trans ZK).trans XY).trans KL).trans Vv).trans Wd).trans au).trans dy).trans aq)) (SlS.nil _) sall ⟨Sl.own (sz:=3) (n:=1) BP18 (QC _) (by decide) (by simp[Z8,Ju]),rfl⟩ (λq hq=>by
  simp only[QZ,Jf,Jn] at hq;rcases hq with rfl
  ·exact⟨SlS.nil _,sall,(show(∀b∈([35,101,110,100,10]:List Nat),b<256)/\([35,101,110,100,10]:List Nat).length<=2000 by decide)⟩) rfl sn7) ?_
 rintro _ bI ⟨rfl,eH⟩;refine XI Qa [[Value.string (Qe [65])],[Value.string (Qe [65])]] rfl rfl rfl rfl rfl ⟨rfl,rfl,rfl,rfl,⟨⟩⟩ rfl (λcs h=>by simp only[QZ,Jf,Jn] at h;rcases h with rfl | rfl<;>rfl) rfl (by decide) (by decide) ?_;intro YB du _ BA;refine Qs (Ball.ext ((((((((((((h8.trans h9).trans XN).trans ZK).trans XY).trans KL).trans Vv).trans Wd).trans au).trans dy).trans aq).trans eH).trans du)) rfl ?_;refine call (iQH _ 2 YB (Sl.own' (n:=2) BA rfl (by decide))) ?_;rintro _ gS ⟨rfl,eG⟩;refine Kc rfl ?_;refine XH rfl ?_;refine Kc rfl ?_;refine XH rfl ?_;refine Kc rfl ?_;refine Kc rfl ?_;refine Qs (Ba.ext (((((((((((((((((((h2.trans h3).trans h4).trans h5).trans h6).trans h7).trans h8).trans h9).trans XN).trans ZK).trans XY).trans KL).trans Vv).trans Wd).trans au).trans dy).trans aq).trans eH).trans du).trans eG)) rfl ?_;refine call (Gg [120,32,121,10,122,10] _ ⟨2,3,[119],(⟨Aa,na,ca,da,ra⟩:DV)⟩ (by decide) (show(-9223372036854775808:Int)<=2/\(2:Int)<=9223372036854775807/\(-9223372036854775808:Int)<=3/\(3:Int)<=9223372036854775807 by decide) (show(∀b∈([119]:List Nat),b<256)/\([119]:List Nat).length<=1000 by decide) sa gS (ba.ext (((((((((((((((((((h2.trans h3).trans h4).trans h5).trans h6).trans h7).trans h8).trans h9).trans XN).trans ZK).trans XY).trans KL).trans Vv).trans Wd).trans au).trans dy).trans aq).trans eH).trans du).trans eG)) sn8) ?_;rintro _ aP ⟨rfl,jb⟩;refine Xa rfl ?_;refine Qs (Bnot.ext ((((((((((((((((((h4.trans h5).trans h6).trans h7).trans h8).trans h9).trans XN).trans ZK).trans XY).trans KL).trans Vv).trans Wd).trans au).trans dy).trans aq).trans eH).trans du).trans eG).trans jb)) rfl ?_;refine call (Gg mP mP ⟨6,7,[121],(⟨Anot,nnot,cnot,dnot,rnot⟩:DV)⟩ (by decide) (show(-9223372036854775808:Int)<=6/\(6:Int)<=9223372036854775807/\(-9223372036854775808:Int)<=7/\(7:Int)<=9223372036854775807 by decide) (show(∀b∈([121]:List Nat),b<256)/\([121]:List Nat).length<=1000 by decide) snot aP (bnot.ext ((((((((((((((((((h4.trans h5).trans h6).trans h7).trans h8).trans h9).trans XN).trans ZK).trans XY).trans KL).trans Vv).trans Wd).trans au).trans dy).trans aq).trans eH).trans du).trans eG).trans jb)) sn9) ?_;rintro _ IS ⟨rfl,nC⟩;refine Xa rfl ?_;refine Qs (Ball.ext (((((((((((((((h8.trans h9).trans XN).trans ZK).trans XY).trans KL).trans Vv).trans Wd).trans au).trans dy).trans aq).trans eH).trans du).trans eG).trans jb).trans nC)) rfl ?_;refine call (Gg mP _ ⟨6,7,[121],⟨none,0,0,[],1⟩⟩ (by decide) (show(-9223372036854775808:Int)<=6/\(6:Int)<=9223372036854775807/\(-9223372036854775808:Int)<=7/\(7:Int)<=9223372036854775807 by decide) (show(∀b∈([121]:List Nat),b<256)/\([121]:List Nat).length<=1000 by decide) sall IS (SlS.nil _) iQI) ?_;rintro _ CW ⟨rfl,gB⟩;refine Qs (Ball.ext ((((((((((((((((h8.trans h9).trans XN).trans ZK).trans XY).trans KL).trans Vv).trans Wd).trans au).trans dy).trans aq).trans eH).trans du).trans eG).trans jb).trans nC).trans gB)) rfl ?_;refine Qs (Ba.ext ((((((((((((((((((((((h2.trans h3).trans h4).trans h5).trans h6).trans h7).trans h8).trans h9).trans XN).trans ZK).trans XY).trans KL).trans Vv).trans Wd).trans au).trans dy).trans aq).trans eH).trans du).trans eG).trans jb).trans nC).trans gB)) rfl ?_;refine XI Qa [Kl ⟨0,1,[121],(⟨Aa,na,ca,da,ra⟩:DV)⟩] rfl rfl rfl rfl rfl ⟨rfl,rfl,⟨⟩⟩ rfl (λcs h=>by simp only[QL] at h;subst h;rfl) rfl (by decide) (by decide) ?_;intro w25 IU _ BE;refine call (S5 mP ⟨0,1,[121],(⟨Aa,na,ca,da,ra⟩:DV)⟩ (by decide) (show(-9223372036854775808:Int)<=0/\(0:Int)<=9223372036854775807/\(-9223372036854775808:Int)<=1/\(1:Int)<=9223372036854775807 by decide) (show(∀b∈([121]:List Nat),b<256)/\([121]:List Nat).length<=1000 by decide) sa _ 2 _ 1 w25 (ba.ext (((((((((((((((((((((((h2.trans h3).trans h4).trans h5).trans h6).trans h7).trans h8).trans h9).trans XN).trans ZK).trans XY).trans KL).trans Vv).trans Wd).trans au).trans dy).trans aq).trans eH).trans du).trans eG).trans jb).trans nC).trans gB).trans IU)) (hN.ext ((((((((((((((((h9.trans XN).trans ZK).trans XY).trans KL).trans Vv).trans Wd).trans au).trans dy).trans aq).trans eH).trans du).trans eG).trans jb).trans nC).trans gB).trans IU)) ⟨Sl.own (sz:=5) (n:=1) BE (QC _) (by decide) (by simp[Kl]),rfl⟩) ?_;rintro _ w26 ⟨rfl,h26⟩;rw[iQJ];refine Xa rfl ?_;refine Xa rfl ?_;refine Xa rfl ?_;exact⟨rfl,(((((((((((((((((((((((((h1.trans h2).trans h3).trans h4).trans h5).trans h6).trans h7).trans h8).trans h9).trans XN).trans ZK).trans XY).trans KL).trans Vv).trans Wd).trans au).trans dy).trans aq).trans eH).trans du).trans eG).trans jb).trans nC).trans gB).trans IU).trans h26)⟩
def AY:List (List Nat):=[[120],[121],[122],[120,32,121],[],[35],[35,105,102,102],[101,110,100]]
theorem Gi (k:Nat)(hk:k<=255)(w:World):Fn Tryz.prog 81 [.int .u8 k] w (λu w'=>u= .string (Qe (cj k++ [10]))/\Ext w w'):=by
 refine QD (c:={c81 with cuts:=[]}) Qa Tryz.func81 rfl rfl rfl ?_;refine XI Qa (AY.map (λs=>[Value.string (Qe s)])) rfl rfl rfl rfl rfl ⟨rfl,rfl,rfl,rfl,rfl,rfl,rfl,rfl,rfl,rfl,rfl,rfl,rfl,rfl,rfl,rfl,⟨⟩⟩ rfl (λcs h=>by
  obtain⟨s,_,rfl⟩:=Z4.1 h;rfl) rfl (by decide) (by decide) ?_
 intro w1 Qd Q3 Qh;refine Eb (d:=8) (by decide) ?_;have hS:Sl w1 1 (some ⟨w.heap.size,0,none⟩) 8 8 (XW AY):=Sl.own' (n:=8) Qh rfl (by decide);have hk8:k % 8<8:=oJ _ (by decide);refine X5 hS hk8 (λad u hA hu QE=>?_);obtain⟨s,hs⟩:∃s,AY[k % 8]? =some s:=⟨_,Xn hk8⟩
 rw[lZ hs] at hu;cases hu;refine load QE ?_;have e:cj k=s:=by unfold cj;show(AY[k % 8]?).getD []=s;rw[hs]<;>rfl
 rw[e];have h1:=XF s;have C6:s.length<=4:=by rw[<-e];exact(AC k).2
 refine Ke (v':=.string (Qe (s++ [10]))) (by rw[h1];show s.length+1<=_;unfold maxLen;omega) (by rw[<-jJ];rfl) ?_;exact⟨rfl,Qd⟩
theorem iQL {l:List Nat}{i k:Nat}(hi:l[i]? =some k)(h6:i<6):bw (l.take (i+1))=bw (l.take i)++ [cj k]:=by
 unfold bw;rw[yP,yP,Nat.min_eq_right (by omega),Nat.min_eq_right (by omega),VT,hi,f0]<;>rfl
theorem Tb (A:Option Addr)(n c:Nat)(l:List Nat)(hl:∀k∈l,k<=255)(w:World)(h:Sl w 1 A n c (Jt l)):
  Fn Tryz.prog 80 [.slice A n c] w (λu w'=>u= .string (Qe (Qo (bw l)))/\Ext w w'):=by
 have Xd:l.length=n:=by have:=h.len;simp only[Jt,JM] at this;omega
 refine QD (c:={c80 with cuts:=[]}) Qa Tryz.func80 rfl rfl rfl ?_;have ZO:=h.le;have bN:=h.cap;simp only[maxLen] at bN;refine loop Qa [4,3] (λi:Nat=>[.int .i64 i,.string (Qe (Qo (bw (l.take i))))]) (λi w'=>Ext w w'/\i<=6/\i<=n) (λi _=>6-i) 0 rfl ⟨Ext.refl _,XJ _,XJ _⟩ ?_;rintro i w1 ⟨Qd,h6,Xe⟩;have fin:(i=6∨i=n)->bw (l.take i)=bw l:=λhh=>by
  unfold bw;rcases hh with rfl | rfl
  ·rw[yP]<;>rfl
  ·rw[Jm (l:=l) (by omega)]
 refine Qy (λc1=>?_) (λc1=>?_)
 ·refine Qy (λc2=>?_) (λc2=>?_)
  ·obtain⟨k,hk⟩:∃k,l[i]? =some k:=⟨_,Xn (by omega)⟩
   refine X5 (h.ext Qd) (by omega) (λad u hA hu QE=>?_);have e1:(Jt l)[i]? =some (.int .u8 k):=by unfold Jt;rw[VR,hk]<;>rfl
   rw[e1] at hu;cases hu;refine load QE ?_;have xV:=QO hk;refine call (Gi k (hl k xV) w1) ?_;rintro _ w2 ⟨rfl,Qg⟩;have s1:=XF (Qo (bw (l.take i)));have s2:=XF (cj k++ [10]);have b1:(Qo (bw (l.take i))).length<=100:=by
    obtain⟨t1,t2⟩:=Ry (l.take i);have:=td (M:=4) (λs hs=>(t1 s hs).2);have:=Y1 (4+1) t2;omega
   have b2:=(AC k).2;rw[Qu,oL] at s2;refine Ke (v':=.string (Qe (Qo (bw (l.take (i+1)))))) (by rw[s1,s2];unfold maxLen;omega) (by rw[iQL hk (by omega),Fy,jJ]) ?_;refine Qi ((i+1:Nat):Int) (by show((i:Nat):Int)+1=_;omega) (by omega) ?_;exact⟨i+1,rfl,⟨Qd.trans Qg,by omega,by omega⟩,by show 6-(i+1)<6-i;omega⟩
  ·refine⟨?_,Qd⟩;rw[fin (.inl (by omega))]
 ·refine⟨?_,Qd⟩;rw[fin (.inr (by omega))]
theorem iQM:((List.range 256).all λf=>(List.range 8).all λc=>ci [f] 3 0 0 (gt c)==f.testBit c)=true:=by decide+kernel
theorem Tc {f c:Nat}(hf:f<=255)(hc:c<8):ci [f] 3 0 0 (bits c)=f.testBit c:=by
 have:=Y2.1 iQM f (fe.2 (by omega));have:=Y2.1 this c (fe.2 hc);rw[FC] at this;simpa using this
theorem iQN {o o':BF}(h:∀c,c<8->o (bits c)=o' (bits c)):QF 3 o=QF 3 o':=by
 unfold QF;refine List.filter_congr (λc hc=>?_);exact h c (fe.1 hc)
def fD (b:Nat):BF:=if b=0 then λ_=>true else ci [b] 3 0 0
theorem Td {b c:Nat}(hb:b<=255)(hc:c<8):fD b (bits c)=kr b c:=by
 unfold fD kr;by_cases h:b=0
 ·rw[Qf h,XR (by omega)]<;>rfl
 ·rw[if_neg h,Tc hb hc,X4 (by omega)]<;>rfl
theorem Te {b:Nat}(hb:b<=255):QF 3 (fD b)=WC b:=by
 unfold QF WC;refine List.filter_congr (λc hc=>?_);exact Td hb (fe.1 hc)
theorem iQO {b:Nat}(hb:b<=255):QF 3 (ci [b] 3 0 0)=[]↔b=0:=by
 constructor
 ·intro h;apply Classical.byContradiction;intro h0;have h1:=Te hb;unfold fD at h1;rw[if_neg h0,h] at h1;exact sU hb h1.symm
 ·rintro rfl;rw[iQN (o':=λ_=>false) (λc hc=>by rw[Tc (by decide) hc,Nat.zero_testBit])];decide
theorem Tf (b:Nat)(hb:b<=255)(w:World):Fn Tryz.prog 14 [.int .u8 b] w (fz w 3 (fD b)):=by
 refine QD (c:={c14 with cuts:=[]}) Qa Tryz.func14 rfl rfl rfl ?_;refine new (λw1 Qd Q3 Qh=>?_);refine XI Qa [[Value.int .u8 b]] rfl rfl rfl rfl rfl ⟨rfl,rfl,⟨⟩⟩ rfl (λcs h=>by simp only[QL] at h;subst h;rfl) rfl (by decide) (by decide) ?_;intro w2 Qg Zb Qw;refine call (Rt [b] _ 1 1 3 w2 (Sl.own' (n:=1) Qw rfl (by decide)) (λx hx=>by rw[QL.1 hx];exact hb) (by decide)) ?_;rintro _ w3 ⟨A,n,c,nd,r,rfl,Qk,tw,s3,gL⟩;have QW:=Qd.trans (Qg.trans Qk);have XK:=Qg.trans Qk;refine new (λw4 Qq KY Q4=>?_);refine Qz Q4 rfl (sc rfl) (λw5 Jw _ QK=>?_);have J6:Ext w3 w5:=X9 Qq Q4 Jw;have tM:=Qh.ext (XK.trans J6);have JV:=QW.trans J6;have pY:=XK.size;refine Qp QK rfl ?_;have h0:=s3.root0.trans (iQO hb);refine Zh (λhz=>?_) (λhz=>?_)
 ·refine call (Av true w5) ?_;rintro _ w6 ⟨rfl,Xh⟩;refine Qz (tM.ext Xh) rfl (sc rfl) (λw7 Zu _ Q6=>?_);have Xb:Mod (·=w.heap.size) w6 w7:=mQW Zu rfl;refine Qs Q6 rfl ?_;refine⟨none,0,0,[],1,rfl,Xb.ext (JV.trans Xh) (λi hi=>by omega),SlS.nil _,?_,λi hi=>by obtain⟨_,e,_⟩:=hi;cases e⟩;have e:fD b=λ_=>true:=by unfold fD;rw[Qf (h0.1 hz)]
  rw[e];exact br 3 true
 ·refine Qs QK rfl ?_;refine Qz tM rfl (sc rfl) (λw7 Zu _ Q6=>?_);have Xb:Mod (·=w.heap.size) w5 w7:=mQW Zu rfl;refine Qs Q6 rfl ?_;have Uh:=Qg.size;refine⟨A,n,c,nd,r,rfl,Xb.ext JV (λi hi=>by omega),SB.mod (tw.ext J6) Xb (λi hi e=>by have:=gL i hi;omega),?_,λi hi=>by have:=gL i hi;omega⟩;have e:fD b=ci [b] 3 0 0:=by unfold fD;rw[if_neg (λgQ=>hz (h0.2 gQ))]
  rw[e];exact s3
def oneO (c:Nat):BF:=ci [2^c] 3 0 0
theorem iQP:((List.range 8).all λc=>(List.range 8).all λd=>oneO c (gt d)==decide (d=c))=true:=by decide+kernel
theorem Gj {c d:Nat}(hc:c<8)(hd:d<8):oneO c (bits d)=decide (d=c):=by
 have:=Y2.1 iQP c (fe.2 hc);have:=Y2.1 this d (fe.2 hd);rw[FC] at this;simpa using this
theorem Gk (c:Nat)(hc:c<8)(w:World):Fn Tryz.prog 25 [.int .u64 c] w (fz w 3 (oneO c)):=by
 have hp:2^c<=128:=Wl (n:=2) (by decide) (show c<=7 by omega);refine QD (c:={c25 with cuts:=[]}) Qa Tryz.func25 rfl rfl rfl ?_;refine new (λw1 Qd Q3 Qh=>?_);refine normIf (m:=((2^c:Nat):Int)) (by omega) ?_ ?_
 ·rw[show min ((c:Int)).toNat IntKind.u8.bits=c by show min c 8=c;omega];have e:(1:Int)*2^c=((2^c:Nat):Int):=by rw[Int.one_mul];norm_cast
  rw[e];generalize 2^c=q at hp ⊢;exact IntWalk.u8_in _ (by omega)
 refine XI Qa [[Value.int .u8 ((2^c:Nat):Int)]] rfl rfl rfl rfl rfl ⟨rfl,rfl,⟨⟩⟩ rfl (λcs h=>by simp only[QL] at h;subst h;rfl) rfl (by decide) (by decide) ?_;intro w2 Qg Zb Qw;refine call (Rt [2^c] _ 1 1 3 w2 (Sl.own' (n:=1) Qw rfl (by decide)) (λx hx=>by rw[QL.1 hx];omega) (by decide)) ?_;rintro _ w3 ⟨A,n,cc,nd,r,rfl,Qk,tw,s3,gL⟩;have XK:=Qg.trans Qk;refine Qz (Qh.ext XK) rfl (sc rfl) (λw7 Zu _ Q6=>?_);have Xb:Mod (·=w.heap.size) w3 w7:=mQW Zu rfl;refine Qs Q6 rfl ?_;have Uh:=Qg.size;exact⟨A,n,cc,nd,r,rfl,Xb.ext (Qd.trans XK) (λi hi=>by omega),SB.mod tw Xb (λi hi e=>by have:=gL i hi;omega),s3,λi hi=>by have:=gL i hi;omega⟩
theorem iQQ (w:World):Fn Tryz.prog 16 [] w (λu w'=>∃A c,u= .slice A 3 c/\Ext w w'/\Sl w' 1 A 3 c (XW (VY.take 3))):=by
 refine QD (c:={c16 with cuts:=[]}) Qa Tryz.func16 rfl rfl rfl ?_;refine call (eQ0 3 w (by decide)) ?_;rintro _ w1 ⟨A,c,rfl,Qd,qG⟩;exact⟨A,c,rfl,Qd,qG⟩
structure RawV where
 fam:Nat
 cls:List Nat
 txs:List (Option Addr×Nat×Nat×List Nat)
 CA:Option Addr
 cn:Nat
 cc:Nat
 TA:Option Addr
 tn:Nat
 tc:Nat
def ti (t:Option Addr×Nat×Nat×List Nat):List Value:=[.slice t.1 t.2.1 t.2.2.1]
def RawV.cells (x:RawV):List Value:=[.int .u8 x.fam,.slice x.CA x.cn x.cc,.slice x.TA x.tn x.tc]
structure RawIn (w:World) (x:RawV):Prop where
 f8:x.fam<=255
 cl:Sl w 1 x.CA x.cn x.cc (Jt x.cls)
 c8:∀k∈x.cls,k<=255
 tx:SlS ti 1 w x.TA x.tn x.tc x.txs
 ts:∀t∈x.txs,Sl w 1 t.1 t.2.1 t.2.2.1 (Jt t.2.2.2)/\∀k∈t.2.2.2,k<=255
theorem RawIn.ext {w w':World}{x:RawV}(h:RawIn w x)(k:Ext w w'):RawIn w' x:=⟨h.f8,h.cl.ext k,h.c8,h.tx.ext k,λt ht=>⟨(h.ts t ht).1.ext k,(h.ts t ht).2⟩⟩
abbrev RawV.cho (x:RawV)(c:Nat):List (List Nat):=dY x.cls (x.txs.map (·.2.2.2)) c
theorem iQR (x:RawV)(c:Nat)(hc:c<8)(w:World)(h:RawIn w x):Fn Tryz.prog 33 [.agg x.cells.toArray,.int .u64 c] w (λu w'=>u= .string (Qe (Qo (x.cho c)))/\Ext w w'):=by
 have jm:x.cls.length=x.cn:=by have:=h.cl.len;simp only[Jt,JM] at this;omega
 have YE:=h.tx.2;have t1:=h.tx.1.le;have t2:=h.tx.1.cap;simp only[maxLen] at t2;refine QD (c:={c33 with cuts:=[]}) Qa Tryz.func33 rfl rfl rfl ?_;refine new (λw1 Qd Q3 Qh=>?_);have h1:=h.ext Qd;have fin:∀(k:Nat),k<4->(x.cls[c]?).elim 0 (· % 4)=k->∀t,(x.txs.map (·.2.2.2))[k]? =some t->x.cho c=bw t:=λk hk he t ht=>by
  show dY x.cls (x.txs.map (·.2.2.2)) c=_;unfold dY;rw[he,ht]
 have aQC:∀(k:Nat),k<4->(x.cls[c]?).elim 0 (· % 4)=k->(x.txs.map (·.2.2.2))[k]? =none->x.cho c=[cj k]:=λk hk he ht=>by
  show dY x.cls (x.txs.map (·.2.2.2)) c=_;unfold dY;rw[he,ht]
 refine Qi (c:Int) rfl (by omega) ?_;refine Qp Qh rfl ?_;refine Qy (λc1=>?_) (λc1=>?_)
 ·obtain⟨k0,xF⟩:∃k0,x.cls[c]? =some k0:=⟨_,Xn (by omega)⟩
  have mQw:=h.c8 k0 (QO xF);refine Qp Qh rfl ?_;refine X5 h1.cl (by omega) (λad u hA hu QE=>?_);have e1:(Jt x.cls)[c]? =some (.int .u8 k0):=by unfold Jt;rw[VR,xF]<;>rfl
  rw[e1] at hu;cases hu;refine load QE ?_;refine Eb (d:=4) (by decide) ?_;obtain⟨k,g9⟩:∃k,k=k0 % 4:=⟨_,rfl⟩
  rw[<-g9];have kR:k<4:=by omega
  have yC:(x.cls[c]?).elim 0 (· % 4)=k:=by rw[xF,g9]<;>rfl
  refine Qi ((k:Nat):Int) rfl (by omega) ?_;refine Qp Qh rfl ?_;refine Qy (λc2=>?_) (λc2=>?_)
  ·have Xl:k<x.tn:=by omega
   refine Qp Qh rfl ?_;refine Zw (f:=ti) (λ_=>rfl) h1.tx rfl Xl (λad t ht KK=>?_);obtain⟨IV,gM⟩:=h1.ts t (QO ht);refine load (KK 0 _ rfl) ?_;refine call (Tb t.1 t.2.1 t.2.2.1 t.2.2.2 gM w1 IV) ?_;rintro _ w2 ⟨rfl,Qg⟩;refine⟨?_,Qd.trans Qg⟩;rw[fin k kR yC t.2.2.2 (by rw[VR,ht];rfl)]
  ·have Xf:(x.txs.map (·.2.2.2))[k]? =none:=DQ.2 (by rw[JM];omega);refine M5 ((k:Nat):Int) rfl (by omega) ?_;refine call (Gi k (by omega) w1) ?_;rintro _ w2 ⟨rfl,Qg⟩;refine⟨?_,Qd.trans Qg⟩;rw[aQC k kR yC Xf];show Value.string (Qe (cj k++ [10]))= .string (Qe (Qo [cj k]));simp[Qo]
 ·have xF:x.cls[c]? =none:=DQ.2 (by omega);have kR:(0:Nat)<4:=by decide
  have yC:(x.cls[c]?).elim 0 (· % 4)=0:=by rw[xF]<;>rfl
  refine Qp Qh rfl ?_;refine Qy (λc2=>?_) (λc2=>?_)
  ·have Xl:0<x.tn:=by omega
   refine Qp Qh rfl ?_;refine Zw (f:=ti) (λ_=>rfl) h1.tx rfl Xl (λad t ht KK=>?_);obtain⟨IV,gM⟩:=h1.ts t (QO ht);refine load (KK 0 _ rfl) ?_;refine call (Tb t.1 t.2.1 t.2.2.1 t.2.2.2 gM w1 IV) ?_;rintro _ w2 ⟨rfl,Qg⟩;refine⟨?_,Qd.trans Qg⟩;rw[fin 0 kR yC t.2.2.2 (by rw[VR,ht];rfl)]
  ·have Xf:(x.txs.map (·.2.2.2))[0]? =none:=DQ.2 (by rw[JM];omega);refine M5 ((0:Nat):Int) rfl (by omega) ?_;refine call (Gi 0 (by omega) w1) ?_;rintro _ w2 ⟨rfl,Qg⟩;refine⟨?_,Qd.trans Qg⟩;rw[aQC 0 kR yC Xf];show Value.string (Qe (cj 0++ [10]))= .string (Qe (Qo [cj 0]));simp[Qo]
theorem PrM.len {n:Nat}:∀{qs:List Pr}{ps:List Pt},PrM n qs ps->qs.length=ps.length
 | [],[],_=>rfl
 | _::_,_::_,h=>by simp[PrM.len h.2]
theorem PrM.snoc {n:Nat}{q:Pr}{p:Pt}(hq:q.t=Qo p.2/\∀c,c<2^n->q.o (bits c)=decide (c∈p.1)):∀{qs:List Pr}{ps:List Pt},PrM n qs ps->PrM n (qs++ [q]) (ps++ [p])
 | [],[],_=>⟨hq,trivial⟩
 | _::_,_::_,h=>⟨h.1,PrM.snoc hq h.2⟩
theorem PrM.set {n:Nat}{q:Pr}{p:Pt}(hq:q.t=Qo p.2/\∀c,c<2^n->q.o (bits c)=decide (c∈p.1)):∀{qs:List Pr}{ps:List Pt}{k:Nat},PrM n qs ps->PrM n (qs.set k q) (ps.set k p)
 | [],[],_,_=>trivial
 | _::_,_::_,0,h=>⟨hq,h.2⟩
 | _::_,_::_,k+1,h=>⟨h.1,PrM.set (k:=k) hq h.2⟩
theorem PrM.get {n:Nat}:∀{qs:List Pr}{ps:List Pt}{k:Nat}{q:Pr}{p:Pt},PrM n qs ps->qs[k]? =some q->ps[k]? =some p->q.t=Qo p.2/\∀c,c<2^n->q.o (bits c)=decide (c∈p.1)
 | _::_,_::_,0,_,_,h,h1,h2=>by cases h1;cases h2;exact h.1
 | _::_,_::_,k+1,_,_,h,h1,h2=>PrM.get (k:=k) h.2 (by simpa using h1) (by simpa using h2)
theorem Tg {n:Nat}{s:List (List Nat)}(hs:dU s):∀{qs:List Pr}{ps:List Pt},PrM n qs ps->(∀p∈ps,dU p.2)->Vp qs (Qo s)=gw ps s
 | [],[],_,_=>rfl
 | q::qs,p::ps,h,hl=>by
  have ih:=Tg hs h.2 (λu hu=>hl u (by simp[hu]));have hp:=hl p (by simp);have ro:(decide (q.t≠Qo s))=decide (p.2≠s):=by
   rw[h.1.1];refine oM.2 (not_congr ⟨λe=>?_,λe=>by rw[e]⟩);have:=QN QT e
   rwa [j9 hp,j9 hs] at this
  unfold Vp gw at ih ⊢;rw[Wj,Wj,ro];split
  ·simp only[Xj];rw[ih]
  ·rfl
def YP (b c:Nat):List Nat:=(List.range c).filter (kr b)
theorem Th (b c:Nat):YP b (c+1)=YP b c++(if kr b c=true then [c] else []):=by
 unfold YP;rw[List.range_succ,DR,uE];split<;>simp
theorem iQS {b c d:Nat}(h:d∈YP b c):d<c:=fe.1 (JZ.1 h).1
theorem iQT (b c:Nat):(YP b c).Nodup:=(List.nodup_range).sublist (List.filter_sublist)
theorem iQU {single:Bool}{f:Nat->List (List Nat)}{S:List Nat}(hn:S.Nodup)(hf:∀c,dU (f c)):∀p∈YN single f S,dU p.2:=λp hp=>by
 have h:=FB single f S hn;obtain⟨c,hc⟩:=lQ _ (h.ne p hp);rw[<-(h.tx p hp c hc).2];exact hf c
theorem pQ (x:RawV)(c:Nat):dU (x.cho c):=λs hs=>((mI _ _ c).1 s hs).1.nl
theorem Gl (x:RawV)(c:Nat):(∀b∈Qo (x.cho c),b<256)/\(Qo (x.cho c)).length<=30:=by
 obtain⟨h1,h2⟩:=mI x.cls (x.txs.map (·.2.2.2)) c;refine⟨Ru (λs hs=>(h1 s hs).1.b8),?_⟩;have:=td (M:=4) (λs hs=>(h1 s hs).2);have:=Y1 (4+1) h2;show(Qo (dY x.cls (x.txs.map (·.2.2.2)) c)).length<=30;omega
structure PtsIn (w:World) (PA:Option Addr) (pn pc:Nat) (Q:List (DV×Pr)):Prop where
 sl:SlS Z8 3 w PA pn pc Q
 sb:∀q∈Q,SB w q.1.A q.1.n q.1.c q.1.nd/\Set1 3 q.1.nd q.1.r q.2.o
theorem PtsIn.ext {w w':World}{PA:Option Addr}{pn pc:Nat}{Q:List (DV×Pr)}(h:PtsIn w PA pn pc Q)(k:Ext w w'):PtsIn w' PA pn pc Q:=⟨h.sl.ext k,λq hq=>⟨(h.sb q hq).1.ext k,(h.sb q hq).2⟩⟩
theorem iQV (x:RawV)(single:Bool)(w:World)(h:RawIn w x):
  Fn Tryz.prog 26 [.agg x.cells.toArray,.bool single] w (λu w'=>∃PA pc Q,u= .slice PA (Q.length) pc/\Ext w w'/\PtsIn w' PA Q.length pc Q/\PrM 3 (Q.map (·.2)) (YN single x.cho (WC x.fam))):=by
 refine QD (c:={c26 with cuts:=[]}) Qa Tryz.func26 rfl rfl rfl ?_;refine new (λw1 Qd Q3 Qh=>?_);refine XI Qa [] rfl rfl rfl rfl rfl ⟨⟩ rfl (λcs h=>by cases h) rfl (by decide) (by decide) ?_;intro w2 Qg Zb Qw;have Q7:=Qd.trans Qg;refine loop Qa [6,5] (λt:Nat×List (DV×Pr)×Option Addr×Nat=>[.int .u64 t.1,.slice t.2.2.1 t.2.1.length t.2.2.2]) (λt w'=>Ext w1 w'/\t.1<=8/\Own w' w1.heap.size 56 3 t.2.2.1 t.2.1.length t.2.2.2 (t.2.1.flatMap Z8)/\(∀q∈t.2.1,DgO w' (Qj t.2.2.1) 3 q.1 q.2.o)/\PrM 3 (t.2.1.map (·.2)) (YN single x.cho (YP x.fam t.1))/\t.2.1.length<=t.1) (λt _=>8-t.1) (0,[],some ⟨w1.heap.size,0,none⟩,0) rfl ⟨Qg,XJ _,Own.empty Qw (QC _),(λq hq=>by cases hq),trivial,XJ _⟩ ?_;rintro⟨c,Q,PA,pc⟩ w3 ⟨Qk,nv,lh,nI,dx,hQl⟩;simp only at nv lh nI dx hQl;have QW:=Qd.trans Qk;have Vy:=lh.rows;refine Qy (λc1=>?_) (λc1=>?_)
 ·have hc:c<8:=by simp only at c1;omega
  have Qt:=Qh.ext Qk;refine Qx Qt rfl ?_;refine call (Tf x.fam h.f8 w3) ?_;rintro _ w4 ⟨A4,n4,c4,nd4,r4,rfl,Qq,WG,s4,_⟩;refine call (gQH A4 n4 c4 nd4 r4 c (by omega) w4 WG (s4.chk (by decide))) ?_;rintro _ w5 ⟨rfl,Qv⟩;have J6:=Qq.trans Qv;have JV:=QW.trans J6;have Xe:ev nd4 r4 (gt c)=kr x.fam c:=by rw[s4.mean,FC];exact Td h.f8 hc
  rw[Xe];cases fX:kr x.fam c with
  | false=>
   refine Xa rfl ?_;refine o0 ((c+1:Nat):Int) (by show((c:Nat):Int)+1=_;omega) (by omega) ?_;refine⟨(c+1,Q,PA,pc),rfl,⟨Qk.trans J6,hc,lh.ext J6,λq hq=>(nI q hq).ext J6,?_,by simp only;omega⟩,by show 8-(c+1)<8-c;omega⟩;simp only;rw[Th,fX];simpa using dx
  | true=>
   refine Q5 rfl ?_;have lu:c∉YP x.fam c:=λhm=>by have:=iQS hm;omega
   have hnd:=iQT x.fam c;have uw:YN single x.cho (YP x.fam (c+1))=ku single x.cho (YN single x.cho (YP x.fam c)) c:=by
    rw[Th,fX,Qf rfl,gQV]
   refine Qs (Qt.ext J6) rfl ?_;refine call (iQR x c hc w5 (h.ext JV)) ?_;rintro _ w6 ⟨rfl,Xh⟩;have KS:=J6.trans Xh;have XM:=QW.trans KS;obtain⟨cb1,cb2⟩:=Gl x c;have aQY:=dx.len;rw[JM] at aQY;have oC:∀q∈Q,(∀b∈q.2.t,b<256):=λq hq=>by
    obtain⟨k,hk⟩:=ff.1 hq;have Jl:=(Z0.1 hk).1;obtain⟨p,hp⟩:∃p,(YN single x.cho (YP x.fam c))[k]? =some p:=⟨_,Xn (by omega)⟩
    have h1:=(dx.get (q:=q.2) (k:=k) (by rw[VR,hk];rfl) hp).1;have h2:=FB single x.cho (YP x.fam c) hnd;obtain⟨d,hd⟩:=lQ _ (h2.ne p (QO hp));rw[h1,<-(h2.tx p (QO hp) d hd).2];exact(Gl x d).1
   cases single with
   | true=>
    refine loop Qa [8] (λk:Nat=>[.int .i64 k]) (λk w'=>w6=w'/\k=0) (λ_ _=>0) 0 rfl ⟨rfl,rfl⟩ ?_;rintro _ _ ⟨rfl,rfl⟩;refine Q5 rfl ?_;refine Xa rfl ?_;refine call (Gk c hc w6) ?_;rintro _ w7 ⟨A7,n7,c7,dz,r7,rfl,Q2,XX,s7,Kt⟩;refine XI Qa [Z8 (DV.mk A7 n7 c7 dz r7,Pr.mk (oneO c) (Qo (x.cho c)))] rfl rfl rfl rfl rfl ⟨rfl,rfl,⟨⟩⟩ rfl (λcs h=>by simp only[QL] at h;subst h;rfl) rfl (by decide) (by decide) ?_;intro w8 Q0 VJ Xt;have YV:=KS.trans (Q2.trans Q0);have ld:Sl w8 3 (some ⟨w7.heap.size,0,none⟩) 1 1 (Z8 (DV.mk A7 n7 c7 dz r7,Pr.mk (oneO c) (Qo (x.cho c)))):=Sl.own (sz:=3) (n:=1) Xt (QC _) (by decide) (by simp[Z8,Ju]);refine JB (n:=Q.length) Qa rfl rfl rfl rfl rfl (by decide) rfl rfl ⟨_,rfl⟩ rfl rfl (lh.ext YV) ld (F9 _) (by unfold maxLen;omega) (by show(Q.length+1)*48<=_;omega) (by have:=(Qk.trans YV).size;omega) ?_;intro PA2 xB w9 Yy jf IW;have nJ:Mod (Qj PA) w3 w9:=(Mod.of_ext (Qj PA) YV).trans Yy (λi hi=>.inl hi);have r9:∀k,Qj PA2 k->Qj PA k∨w8.heap.size<=k:=IW.rows
    have z38:=YV.size;have Ic:=KS.size;have z78:=Q0.size;refine o0 ((c+1:Nat):Int) (by show((c:Nat):Int)+1=_;omega) (by omega) ?_;rw[show Q.flatMap Z8++Z8 (DV.mk A7 n7 c7 dz r7,Pr.mk (oneO c) (Qo (x.cho c)))=(Q++ [(DV.mk A7 n7 c7 dz r7,Pr.mk (oneO c) (Qo (x.cho c)))]).flatMap Z8 by rw[dJ];simp] at jf;refine⟨(c+1,Q++ [(DV.mk A7 n7 c7 dz r7,Pr.mk (oneO c) (Qo (x.cho c)))],PA2,xB),by simp only[Qu];rfl,⟨nJ.ext Qk (λi hi=>(Vy i hi).1),hc,by simp only;rw[Qu];exact jf,λq hq=>?_,?_,by simp only[Qu,oL];omega⟩,by show 8-(c+1)<8-c;omega⟩
    ·rcases Xw.1 hq with hq | hq
     ·exact(nI q hq).step nJ (λk hk=>by
       rcases r9 k hk with h | h
       ·exact .inl h
       ·exact .inr (by omega))
     ·rw[QL.1 hq];have h0:DgO w8 (Qj PA) 3 ⟨A7,n7,c7,dz,r7⟩ (oneO c):=⟨XX.ext Q0,s7,λad ea h0 h=>by have:=Kt ad.block ⟨ad,ea,rfl⟩;have:=(Vy _ h).2;omega⟩
      exact h0.step Yy (λk hk=>by
       rcases r9 k hk with h | h
       ·exact .inl h
       ·exact .inr h)
    ·simp only;rw[uw,f0];have e:ku true x.cho (YN true x.cho (YP x.fam c)) c=YN true x.cho (YP x.fam c)++ [([c],x.cho c)]:=rfl;rw[e];exact PrM.snoc ⟨rfl,λd hd=>by show oneO c (bits d)=decide (d∈ [c]);rw[Gj hc hd];simp⟩ dx
   | false=>
    have Kb:=Tg (pQ x c) dx (iQU hnd (λd=>pQ x d));have aQS:=gQT (YN false x.cho (YP x.fam c)) (x.cho c);obtain⟨sq1,sq2⟩:=vX (Qo (x.cho c)) (Q.map (·.2));refine loop Qa [8] (λk:Nat=>[.int .i64 k]) (λk w'=>w6=w'/\k<=Vp (Q.map (·.2)) (Qo (x.cho c))) (λk _=>Vp (Q.map (·.2)) (Qo (x.cho c))-k) 0 rfl ⟨rfl,XJ _⟩ ?_;rintro k _ ⟨rfl,hk⟩;generalize hK:Vp (Q.map (·.2)) (Qo (x.cho c))=K at*;have Md:SlS Z8 3 w6 PA Q.length pc Q:=⟨(lh.ext KS).sl,rfl⟩
    refine Xa rfl ?_;refine Qy (λc2=>?_) (λc2=>?_)
    ·have Xl:k<Q.length:=by simp only at c2;omega
     refine Zw mN Md rfl Xl (λad q hq KK=>?_);have cJ:=QO hq;refine load (KK 2 _ rfl) ?_;have Mn:(Q.map (·.2))[k]? =some q.2:=by rw[VR,hq]<;>rfl
     by_cases ht:q.2.t=Qo (x.cho c)
     ·refine Q5 (by rw[ht];simp) ?_;have Mo:k=K:=by
       apply Classical.byContradiction;intro hh;exact sq2 k q.2 Mn (by omega) ht
      subst Mo;have QQ:¬(k:Int)=(Q.length:Int):=by omega
      refine Q5 rfl ?_;refine XB QQ ?_;obtain⟨pa,ZP,_⟩:=(lh.ext KS).sl.at_ (show 0<Q.length by omega);subst ZP;have fG:=lh.ext KS;have YZ:=Ext.drew w6;have gZ:∀q∈Q,DgO w6 (Qj (some pa)) 3 q.1 q.2.o:=λq hq=>(nI q hq).ext KS
      have jl:0<Q.length:=by omega
      refine XC Qa (Ext w6) 12 [(true,0),(true,1),(true,2),(true,3),(true,4),(true,5),(true,6),(true,7),(false,8),(false,9),(true,10),(true,11)] (by kernel_rfl) YZ ?_;refine AT (j:=k) Xl ?_;refine Xq (vs:=[.slice q.1.A q.1.n q.1.c,.int .i64 q.1.r]) rfl (λw' Qb i u hi=>by
       rw[add_add];refine vM (o:=k*3) (i:=0+i) (fG.ext Qb) jl ?_;rw[bQ];refine fm mN Q k q i u hq ?_
       match i,hi with
       | 0,hi=>exact hi
       | 1,hi=>exact hi) ?_
      refine call (Gk c hc w6.drew) ?_;rintro _ w7 ⟨A7,n7,c7,dz,r7,rfl,Q2,XX,s7,Kt⟩;have CX:=YZ.trans Q2;refine⟨CX,?_⟩;refine call (P5 (k:=3) (by decide) q.1.A q.1.n q.1.c A7 n7 c7 w7 ((gZ q cJ).sb.ext CX) XX (gZ q cJ).st s7) ?_;rintro _ w8 ⟨A8,n8,ue,CY,r8,rfl,Q0,gK,s8,nh⟩;have aQ:=CX.trans Q0;refine⟨aQ,?_⟩;refine AT (j:=k) Xl ?_;show jz _ _ ((pa.add (k*3)).add 0) _ _;rw[add_add];refine Fl (fG.ext aQ) (by show k*3+0+2<=Q.length*3;omega) (sc rfl) (λw9 Yy jf=>?_);have YV:=KS.trans aQ;have nJ:Mod (Qj (some pa)) w3 w9:=(Mod.of_ext _ YV).trans Yy (λi hi=>.inl hi);have ID:(Q.flatMap Z8)[k*3+0+ [Value.slice A8 n8 ue,.int .i64 r8].length]? =some (.string (Qe q.2.t)):=fm mN Q k q 2 _ hq rfl;rw[show(#[Value.slice A8 n8 ue,Value.int IntKind.i64 r8]:Array Value).toList=[Value.slice A8 n8 ue,.int .i64 r8] from rfl,SQ ID] at jf;have s8':Set1 3 CY r8 (λe=>q.2.o e||oneO c e):=s8.congr (λe=>by simp[Ki]);have jf:Own w9 w1.heap.size 56 3 (some pa) Q.length pc ((Q.set k (DV.mk A8 n8 ue CY r8,Pr.mk (λe=>q.2.o e||oneO c e) q.2.t)).flatMap Z8):=by
       rw[<-zZ mN Q _ Xl];exact jf
      refine o0 ((c+1:Nat):Int) (by show((c:Nat):Int)+1=_;omega) (by omega) ?_;have z68:=aQ.size;have TH:=CX.size;have Ic:=KS.size;refine⟨(c+1,Q.set k (DV.mk A8 n8 ue CY r8,Pr.mk (λe=>q.2.o e||oneO c e) q.2.t),some pa,pc),by simp only[dG];rfl,⟨nJ.ext Qk (λi hi=>(Vy i hi).1),hc,by simp only;rw[dG];exact jf,λq' hq'=>?_,?_,by simp only[dG];omega⟩,by show 8-(c+1)<8-c;omega⟩
      ·rcases DO hq' with hq' | rfl
       ·exact(nI q' hq').step nJ (λi hi=>.inl hi)
       ·have h0:DgO w8 (Qj (some pa)) 3 (DV.mk A8 n8 ue CY r8) (λe=>q.2.o e||oneO c e):=⟨gK,s8',λad ea h0 h=>by have:=nh ad.block ⟨ad,ea,rfl⟩;have:=(Vy _ h).2;omega⟩
        exact h0.step Yy (λi hi=>.inl hi)
      ·simp only;rw[uw,List.map_set];obtain⟨p0,qt⟩:∃p,(YN false x.cho (YP x.fam c))[k]? =some p:=⟨_,Xn (by omega)⟩
       have e:ku false x.cho (YN false x.cho (YP x.fam c)) c=(YN false x.cho (YP x.fam c)).set k (p0.1++ [c],p0.2):=by
        show kt _ c (x.cho c)=_;rcases AE c (x.cho c) (YN false x.cho (YP x.fam c))with⟨p,h1,h2,h3⟩ | ⟨h1,_⟩
        ·rw[<-Kb] at h1 h3;rw[qt] at h1;cases h1;exact h3
        ·omega
       rw[e];obtain⟨g1,g2⟩:=dx.get Mn qt;refine PrM.set (q:=Pr.mk (λe=>q.2.o e||oneO c e) q.2.t) (p:=(p0.1++ [c],p0.2)) ⟨g1,λd hd=>?_⟩ dx;show(q.2.o (bits d)||oneO c (bits d))=decide (d∈p0.1++ [c]);rw[g2 d hd,Gj hc hd];simp
     ·refine Xa (by rw[Bool.not_eq_true',decide_eq_false_iff_not];exactλe=>ht (Jc (oC q cJ) cb1 e)) ?_;have Mo:k<K:=by
       apply Classical.byContradiction;intro hh;have:k=K:=by omega
       subst this;exact ht (sq1 q.2 Mn)
      refine Qi ((k+1:Nat):Int) (by show((k:Nat):Int)+1=_;omega) (by omega) ?_;exact⟨k+1,rfl,⟨rfl,Mo⟩,by show K-(k+1)<K-k;omega⟩
    ·have hkQ:k=Q.length:=by simp only at c2;omega
     subst hkQ;have hKe:K=Q.length:=by
      rw[aQY];omega
     refine Q5 rfl ?_;refine Kc rfl ?_;refine call (Gk c hc w6) ?_;rintro _ w7 ⟨A7,n7,c7,dz,r7,rfl,Q2,XX,s7,Kt⟩;refine XI Qa [Z8 (DV.mk A7 n7 c7 dz r7,Pr.mk (oneO c) (Qo (x.cho c)))] rfl rfl rfl rfl rfl ⟨rfl,rfl,⟨⟩⟩ rfl (λcs h=>by simp only[QL] at h;subst h;rfl) rfl (by decide) (by decide) ?_;intro w8 Q0 VJ Xt;have YV:=KS.trans (Q2.trans Q0);have ld:Sl w8 3 (some ⟨w7.heap.size,0,none⟩) 1 1 (Z8 (DV.mk A7 n7 c7 dz r7,Pr.mk (oneO c) (Qo (x.cho c)))):=Sl.own (sz:=3) (n:=1) Xt (QC _) (by decide) (by simp[Z8,Ju]);refine JB (n:=Q.length) Qa rfl rfl rfl rfl rfl (by decide) rfl rfl ⟨_,rfl⟩ rfl rfl (lh.ext YV) ld (F9 _) (by unfold maxLen;omega) (by show(Q.length+1)*48<=_;omega) (by have:=(Qk.trans YV).size;omega) ?_;intro PA2 xB w9 Yy jf IW;have nJ:Mod (Qj PA) w3 w9:=(Mod.of_ext (Qj PA) YV).trans Yy (λi hi=>.inl hi);have r9:∀k,Qj PA2 k->Qj PA k∨w8.heap.size<=k:=IW.rows
     have z38:=YV.size;have Ic:=KS.size;have z78:=Q0.size;refine o0 ((c+1:Nat):Int) (by show((c:Nat):Int)+1=_;omega) (by omega) ?_;rw[show Q.flatMap Z8++Z8 (DV.mk A7 n7 c7 dz r7,Pr.mk (oneO c) (Qo (x.cho c)))=(Q++ [(DV.mk A7 n7 c7 dz r7,Pr.mk (oneO c) (Qo (x.cho c)))]).flatMap Z8 by rw[dJ];simp] at jf;refine⟨(c+1,Q++ [(DV.mk A7 n7 c7 dz r7,Pr.mk (oneO c) (Qo (x.cho c)))],PA2,xB),by simp only[Qu];rfl,⟨nJ.ext Qk (λi hi=>(Vy i hi).1),hc,by simp only;rw[Qu];exact jf,λq hq=>?_,?_,by simp only[Qu,oL];omega⟩,by show 8-(c+1)<8-c;omega⟩
     ·rcases Xw.1 hq with hq | hq
      ·exact(nI q hq).step nJ (λk hk=>by
        rcases r9 k hk with h | h
        ·exact .inl h
        ·exact .inr (by omega))
      ·rw[QL.1 hq];have h0:DgO w8 (Qj PA) 3 ⟨A7,n7,c7,dz,r7⟩ (oneO c):=⟨XX.ext Q0,s7,λad ea h0 h=>by have:=Kt ad.block ⟨ad,ea,rfl⟩;have:=(Vy _ h).2;omega⟩
       exact h0.step Yy (λk hk=>by
        rcases r9 k hk with h | h
        ·exact .inl h
        ·exact .inr h)
     ·simp only;rw[uw,f0];have e:ku false x.cho (YN false x.cho (YP x.fam c)) c=YN false x.cho (YP x.fam c)++ [([c],x.cho c)]:=by
       show kt _ c (x.cho c)=_;rcases AE c (x.cho c) (YN false x.cho (YP x.fam c))with⟨p,h1,_⟩ | ⟨_,h2⟩
       ·have:=(Z0.1 h1).1;omega
       ·exact h2
      rw[e];exact PrM.snoc ⟨rfl,λd hd=>by show oneO c (bits d)=decide (d∈ [c]);rw[Gj hc hd];simp⟩ dx
 ·have hc:c=8:=by simp only at c1;omega
  subst hc;exact⟨PA,pc,Q,rfl,QW,⟨⟨lh.sl,rfl⟩,λq hq=>⟨(nI q hq).sb,(nI q hq).st⟩⟩,dx⟩
abbrev ag:List (List Nat):=VY.take 3
theorem Ti:Ks ag:=(eQ1 3 (by decide)).1
theorem iQW:ZM ag=true:=by decide+kernel
theorem Gm:∀s∈ag,s.length<=1000:=by decide
def RawV.wov (x:RawV):List (List Nat):=XV ag (λc=>Qo (x.cho c)) 3 0 (WC x.fam)
theorem iQX (x:RawV)(c:Nat):Ve (Qo (x.cho c))=true:=by
 unfold Ve;rw[gQL,j9 (pQ x c),dH];exact Y2.2 (λs hs=>XR ((mI _ _ c).1 s hs).1.dr)
theorem Tj {x:RawV}(h:x.fam<=255):(Qo x.wov).length<=1048576:=by
 have QQ:=sU h;obtain⟨h1,h2⟩:=kz (nm:=ag) (f:=λc=>Qo (x.cho c)) (P:=λs=>s.length<=2100) (M:=6) (λv ng=>SD Gm v ng) (by decide) (by decide) 3 0 (WC x.fam) QQ (λc hc=>by
  rw[j9 (pQ x c)];obtain⟨a,b⟩:=mI x.cls (x.txs.map (·.2.2.2)) c;exact⟨λs hs=>by have:=(a s hs).2;omega,b⟩)
 have h3:=td h1;have h4:(WC x.fam).length*(6+3)<=8*9:=Y1 _ (RB _);have h5:(XV ag (λc=>Qo (x.cho c)) 3 0 (WC x.fam)).length*(2100+1)<=72*2101:=Y1 _ (by omega);show(Qo (XV ag (λc=>Qo (x.cho c)) 3 0 (WC x.fam))).length<=_;omega
theorem iQY (x:RawV)(hf:x.fam<=255)(Q:List (DV×Pr))(ps:List Pt)(D:DV)(NA:Option Addr)(nc:Nat)(PA:Option Addr)(pc:Nat)(w:World)(hN:Sl w 1 NA 3 nc (XW ag))(hD:SB w D.A D.n D.c D.nd)(sD:Set1 3 D.nd D.r (fD x.fam))(hQ:PtsIn w PA Q.length pc Q)(hm:PrM 3 (Q.map (·.2)) ps)(hp:PtOk x.cho (WC x.fam) ps):
  Fn Tryz.prog 24 [.slice NA 3 nc,Xm D.A D.n D.c D.r,.slice PA Q.length pc] w (λu w'=>u= .tuple #[.string (Qe (Qo x.wov)),.int .i64 0]/\Ext w w'):=by
 have oC:∀q∈Q,(∀b∈q.2.t,b<256)/\q.2.t.length<=30:=λq hq=>by
  obtain⟨k,hk⟩:=ff.1 hq;have Jl:=(Z0.1 hk).1;have hl:=hm.len;rw[JM] at hl;obtain⟨p,jg⟩:∃p,ps[k]? =some p:=⟨_,Xn (by omega)⟩
  have h1:=(hm.get (q:=q.2) (k:=k) (by rw[VR,hk];rfl) jg).1;obtain⟨d,hd⟩:=lQ _ (hp.ne p (QO jg));rw[h1,<-(hp.tx p (QO jg) d hd).2];exact Gl x d
 refine(AP NA 3 nc ag D PA Q.length pc (Q.map (λq=>(q.1,q.2.t))) (by decide) Ti Gm (λq hq=>by
  obtain⟨q0,h0,rfl⟩:=Z4.1 hq;obtain⟨a,b⟩:=oC q0 h0;exact⟨a,by show q0.2.t.length<=2000;omega⟩) w hN hD ⟨by rw[<-AU];exact hQ.sl.1,by rw[JM]⟩ (λq hq=>by
  obtain⟨q0,h0,rfl⟩:=Z4.1 hq;exact(hQ.sb q0 h0).1)).mono ?_
 rintro u w' ⟨rfl,hE⟩;refine⟨?_,hE⟩;rw[F3 (nm:=ag) iQW (iQ (n:=3) (by decide) sD).1 (λq hq=>by
  obtain⟨q0,h0,rfl⟩:=Z4.1 hq;exact(iQ (n:=3) (by decide) (hQ.sb q0 h0).2).1),pO sD,AR (λq hq=>(hQ.sb q hq).2)]
 have K7:QF ag.length (fD x.fam)=WC x.fam:=Te hf;have eL:=hQ6 (nm:=ag) (o:=fD x.fam) (f:=x.cho) hm (by rw[K7];exact hp) (λc=>iQX x c) (by rw[K7];exact sU hf) (by rw[K7];exact Tj hf);rw[eL,K7]<;>rfl
theorem iQZ (x:RawV)(single:Bool):PtOk x.cho (WC x.fam) (YN single x.cho (WC x.fam)):=FB single x.cho _ (gQW _)
end
section
open Go Go.RowKit Go.ChangeShapes
variable {H:Type} {enc:TypeId×Value->H}
theorem iQ0 {α:Type}{l:List α}(h:l.length=1):∃a,l=[a]:=by
 match l,h with
 | [a],_=>exact⟨a,rfl⟩
theorem iQ1 {W:World}(cs:List Value)(fU:Nat)(D:DataW H×List MemPlace)(hl:cs.length=1)(h:DataW.trod enc Tryz.prog W 0 (λ_=>true) true fU 62 cs=some D):∃y:{t:Option Addr×Nat×Nat×List Nat // Sl W 1 t.1 t.2.1 t.2.2.1 (Jt t.2.2.2)/\∀k∈t.2.2.2,k<=255},ti y.1=cs:=by
 obtain⟨v,rfl⟩:=iQ0 hl;have key:∃a n c,v= .slice a n c:=by
  rcases Go.Deep.open_slice Tryz.underlying62 h with⟨Zc,_⟩ | ⟨x,l,c,m,n,D,Pl,Zc,_⟩
  ·simp at Zc;exact⟨_,_,_,Zc⟩
  ·simp at Zc;exact⟨_,_,_,Zc⟩
 obtain⟨a,n,c,rfl⟩:=key;obtain⟨ws,hS,h8⟩:=Rw ⟨_,h⟩;exact⟨⟨(a,n,c,ws),hS,h8⟩,rfl⟩
theorem iQ2 {W:World}{a:Option Addr}{len cap:Nat}{fU:Nat}{D:DataW H×List MemPlace}(h:DataW.trod enc Tryz.prog W 0 (λ_=>true) true fU 63 [.slice a len cap]=some D):∃l,SlS ti 1 W a len cap l/\∀t∈l,Sl W 1 t.1 t.2.1 t.2.2.1 (Jt t.2.2.2)/\∀k∈t.2.2.2,k<=255:=
 gQO (gQN (cells:=λy:{t:Option Addr×Nat×Nat×List Nat // Sl W 1 t.1 t.2.1 t.2.2.1 (Jt t.2.2.2)/\∀k∈t.2.2.2,k<=255}=>ti y.1) (λ_=>rfl) (by decide) Tryz.underlying63 (by kernel_rfl) ⟨⟨(none,0,0,[]),Sl.nil W 1,λk hk=>by cases hk⟩⟩ iQ1 rfl h)
theorem Tk {W:World}{fU t e:Nat}{v:Value}{D:DataW H×List MemPlace}(hu:Tryz.prog.underlying t=some (.slice e))(h:DataW.trod enc Tryz.prog W 0 (λ_=>true) true fU t [v]=some D):∃a n c,v= .slice a n c:=by
 rcases Go.Deep.open_slice hu h with⟨Zc,_⟩ | ⟨x,l,c,m,n,D,Pl,Zc,_⟩
 ·simp at Zc;exact⟨_,_,_,Zc⟩
 ·simp at Zc;exact⟨_,_,_,Zc⟩
set_option maxRecDepth 100000 in
theorem raw_of {W:World}{base:Nat}{v:Value}{d:DataW H}{p:List MemPlace}(hval:Value.okWide Tryz.prog W .any base 65 v)(h:DataW.Trod enc Tryz.prog W 0 (λ_=>true) true 65 v d p):
  ∃x:RawV,v= .agg x.cells.toArray/\RawIn W x:=by
 obtain⟨fU,hf⟩:=h;obtain⟨cs,rfl,Xu⟩:=Go.WideShapes.okWide_struct Tryz.underlying65 hval;have hc:Tryz.prog.cellsOf 65=3:=by kernel_rfl
 have KM:Tryz.prog.cellsOf 5=1:=by kernel_rfl
 have KK:Tryz.prog.cellsOf 62=1:=by kernel_rfl
 have IJ:Tryz.prog.cellsOf 63=1:=by kernel_rfl
 rw[hc] at Xu;obtain⟨xs,m,_,_,_,nU,Ka⟩:=DataW.trod_struct Tryz.underlying65 hf;obtain⟨v0,v1,v2,hl⟩:=Rx (show cs.toList.length=3 by simpa using Xu);obtain⟨y0,y1,y2,rfl⟩:=Rx (show xs.length=3 from nU);have g0:=Ka 0 _ rfl;have g1:=Ka 1 _ rfl;have g2:=Ka 2 _ rfl;simp[KM,KK,IJ,Value.cells,hl] at g0 g1 g2;obtain⟨n0,e0,_,w0⟩:=DataW.trod_int Tryz.underlying5 g0;simp at e0;obtain⟨f,rfl,q0⟩:=u8_of w0;obtain⟨a1,n1,c1,rfl⟩:=Tk Tryz.underlying62 g1;obtain⟨a2,n2,c2,rfl⟩:=Tk Tryz.underlying63 g2;obtain⟨ws,hS,h8⟩:=Rw ⟨_,g1⟩;obtain⟨l,hT,Wb⟩:=iQ2 g2;subst e0;exact⟨⟨f,ws,l,a1,n1,c1,a2,n2,c2⟩,QN Value.agg (Array.ext' hl),⟨q0,hS,h8,hT,Wb⟩⟩
end
section
variable {nm:List (List Nat)} {n:Nat}
def Wa:List (List Nat)->Nat->Nat->Int->Int×Int
 | [],_,_,o=>(o, -1)
 | s::l,k,d,o=>if Zl.isPrefixOf s=true then Wa l (k+1) (d+1) o else if s=Jd/\d=0 then Wa l (k+1) d k else if s=Xx/\d=0 then(o,k)else if s=Xx then Wa l (k+1) (d-1) o else Wa l (k+1) d o
theorem iQ3 (v:Nat)(ng:Bool):Zl.isPrefixOf (ZA nm v ng)=true:=by unfold ZA;simp[Zl,List.isPrefixOf]
theorem tj:∀(t:Tr),Wt n t->∀(rest:List (List Nat))(k d:Nat)(o:Int),Wa (fl nm t++rest) k d o=Wa rest (k+(fl nm t).length) d o
 | .nil,_,rest,k,d,o=>rfl
 | .ln s r,w,rest,k,d,o=>by
  obtain⟨_,h1,h2,h3⟩:=iL w.1;rw[fl,Jb,Wa,if_neg (by rw[h3];decide),if_neg (λh=>h2 h.1),if_neg (λh=>h1 h.1),if_neg h1,tj r w.2,Xj];congr 1;omega
 | .sc v ng h l r,w,rest,k,d,o=>by
  rw[Yl,Jb,Wa,Qf (iQ3 v ng),Je,Je,tj h w.2.1];have last:∀k',Wa (Xx::fl nm r++rest) k' (d+1) o=Wa rest (k'+1+(fl nm r).length) d o:=λk'=>by
   rw[Jb,Wa,if_neg (by decide),if_neg (λh=>by have:=h.2;omega),if_neg (λh=>by have:=h.2;omega),Qf rfl,Nat.add_sub_cancel,tj r w.2.2.2]
  by_cases hl:l= .nil
  ·subst hl;rw[J0,bP,last];congr 1;simp only[Xj,Qu,J0,Z5];omega
  ·rw[ko hl,Jb,Wa,if_neg (by decide),if_neg (λh=>by have:=h.2;omega),if_neg (λh=>by have:=h.2;omega),if_neg (by decide),tj l w.2.2.1,last];congr 1;simp only[Xj,Qu];omega
theorem tk:∀(t:Tr),Wt n t->WB nm t->∀(i:Nat)(x:List Nat),(fl nm t)[i]? =some x->Zl.isPrefixOf x=true->
  ∃A B v ng h l,fl nm t=A++ZA nm v ng::((fl nm h++J0 nm l)++Xx::B)/\A.length=i/\Wt n h/\Wt n l/\h≠ .nil/\(l≠ .nil->Az (fl nm h) (fl nm l))
 | .nil,_,_,i,x,hx,_=>by simp[fl] at hx
 | .ln s r,w,hs,i,x,hx,hp=>by
  cases i with
  | zero=>
   have:s=x:=by simpa [fl] using hx
   subst this;have:=(iL w.1).2.2.2;rw[hp] at this;cases this
  | succ i=>
   obtain⟨A,B,v,ng,h,l,h1,h2,h3⟩:=tk r w.2 hs i x (by simpa [fl] using hx) hp;exact⟨s::A,B,v,ng,h,l,by rw[fl,h1];rfl,by simp[h2],h3⟩
 | .sc v ng h l r,w,hs,i,x,hx,hp=>by
  cases i with
  | zero=>exact⟨[],fl nm r,v,ng,h,l,by rw[Yl];rfl,rfl,w.2.1,w.2.2.1,hs.1,hs.2.1⟩
  | succ i=>
   rw[Yl,DE] at hx;by_cases c1:i<(fl nm h).length
   ·rw[Wh (by simp;omega),Wh c1] at hx;obtain⟨A,B,v',ng',h',l',h1,h2,h3⟩:=tk h w.2.1 hs.2.2.1 i x hx hp;exact⟨ZA nm v ng::A,B++(J0 nm l++Xx::fl nm r),v',ng',h',l',by rw[Yl,h1];simp,by simp[h2],h3⟩
   ·rw[Je,YI (by omega)] at hx;generalize hj:i-(fl nm h).length=j at hx;by_cases hl:l= .nil
    ·subst hl;rw[J0,bP] at hx;cases j with
     | zero=>cases hx;cases hp
     | succ j=>
      obtain⟨A,B,v',ng',h',l',h1,h2,h3⟩:=tk r w.2.2.2 hs.2.2.2.2 j x (by simpa using hx) hp;exact⟨ZA nm v ng::(fl nm h++Xx::A),B,v',ng',h',l',by rw[Yl,h1];simp[J0],by simp[h2];omega,h3⟩
    ·rw[ko hl] at hx;cases j with
     | zero=>cases hx;cases hp
     | succ j=>
      rw[Jb,DE] at hx;by_cases c2:j<(fl nm l).length
      ·rw[Wh c2] at hx;obtain⟨A,B,v',ng',h',l',h1,h2,h3⟩:=tk l w.2.2.1 hs.2.2.2.1 j x hx hp;exact⟨ZA nm v ng::(fl nm h++Jd::A),B++Xx::fl nm r,v',ng',h',l',by rw[Yl,ko hl,h1];simp,by simp[h2];omega,h3⟩
      ·rw[YI (by omega)] at hx;generalize hq:j-(fl nm l).length=q at hx;cases q with
       | zero=>cases hx;cases hp
       | succ q=>
        obtain⟨A,B,v',ng',h',l',h1,h2,h3⟩:=tk r w.2.2.2 hs.2.2.2.2 q x (by simpa using hx) hp;exact⟨ZA nm v ng::(fl nm h++Jd::(fl nm l++Xx::A)),B,v',ng',h',l',by rw[Yl,ko hl,h1];simp,by simp[h2];omega,h3⟩
theorem Tl {t:Tr}(h:t≠ .nil):1<=(fl nm t).length:=yO.2 (λe=>h (vQ.1 e))
theorem iQ4 {t:Tr}(w:Wt n t)(hs:WB nm t){ls:List (List Nat)}(KC:fl nm t=ls){i:Nat}{x:List Nat}(hx:ls[i]? =some x)(hp:Zl.isPrefixOf x=true):
  ∃(o:Int) (e:Nat),Wa (ls.drop (i+1)) (i+1) 0 (-1)=(o,(e:Int))/\i+1<e/\e<ls.length/\(o= -1∨∃q:Nat,o=q/\i+1<q/\q+1<e/\∀s,ZN s= .txt->¬(ls[i+1]? =some s/\ls[q+1]? =some s)/\¬(ls[q-1]? =some s/\ls[e-1]? =some s)):=by
 subst KC;obtain⟨A,B,v,ng,h,l,h1,rfl,w1,w2,h3,h4⟩:=tk t w hs i x hx hp;have hh:=Tl (nm:=nm) h3;rw[h1];have hd:(A++ZA nm v ng::((fl nm h++J0 nm l)++Xx::B)).drop (A.length+1)=(fl nm h++J0 nm l)++Xx::B:=by
  rw[<-oG,rB]<;>rfl
 rw[hd,Je,tj h w1];by_cases hl:l= .nil
 ·subst hl;refine⟨-1,A.length+1+(fl nm h).length,?_,by omega,by simp[J0];omega,.inl rfl⟩;rw[J0,bP,Wa,if_neg (by decide),if_neg (λh=>by have:=h.1;revert this;decide),Qf ⟨rfl,rfl⟩]
 ·have ly:=Tl (nm:=nm) hl;refine⟨((A.length+1+(fl nm h).length:Nat):Int),A.length+1+(fl nm h).length+1+(fl nm l).length,?_,by omega,by rw[ko hl];simp;omega,.inr ⟨A.length+1+(fl nm h).length,rfl,by omega,by omega,λs aU=>?_⟩⟩
  ·rw[ko hl,Jb,Wa,if_neg (by decide),Qf ⟨rfl,rfl⟩,tj l w2,Wa,if_neg (by decide),if_neg (λh=>by have:=h.1;revert this;decide),Qf ⟨rfl,rfl⟩]
  ·have ha:=h4 hl s aU;have g:∀j,(A++ZA nm v ng::((fl nm h++J0 nm l)++Xx::B))[A.length+1+j]? =((fl nm h++J0 nm l)++Xx::B)[j]? :=λj=>by
    rw[YI (by omega),show A.length+1+j-A.length=j+1 by omega,DE]
   rw[ko hl] at g ⊢;have g1:∀j,j<(fl nm h).length->(A++ZA nm v ng::((fl nm h++Jd::fl nm l)++Xx::B))[A.length+1+j]? =(fl nm h)[j]? :=λj hj=>by
    rw[g,Wh (by simp;omega),Wh hj]
   have g2:∀j,j<(fl nm l).length->(A++ZA nm v ng::((fl nm h++Jd::fl nm l)++Xx::B))[A.length+1+((fl nm h).length+(1+j))]? =(fl nm l)[j]? :=λj hj=>by
    rw[g,Je,YI (by omega),show(fl nm h).length+(1+j)-(fl nm h).length=j+1 by omega,Jb,DE,Wh hj]
   refine⟨λkO=>ha.1 ?_,λkO=>ha.2 ?_⟩
   ·rw[aQ3,aQ3,<-g1 0 (by omega),<-g2 0 (by omega)];rw[Nat.add_zero,show A.length+1+((fl nm h).length+(1+0))=A.length+1+(fl nm h).length+1 by omega,Je (fl nm h)];exact kO
   ·rw[lP,lP,<-g1 _ (show(fl nm h).length-1<_ by omega),<-g2 _ (show(fl nm l).length-1<_ by omega)];rw[show A.length+1+((fl nm h).length-1)=A.length+1+(fl nm h).length-1 by omega,show A.length+1+((fl nm h).length+(1+((fl nm l).length-1)))=A.length+1+(fl nm h).length+1+(fl nm l).length-1 by omega,Je (fl nm h)];exact kO
end
section
theorem iQ5 (v:Nat)(ng:Bool):10∉ZA ag v ng:=by
 unfold ZA;have h:10∉(ag[v]?).getD []:=by
  match v with
  | 0=>decide
  | 1=>decide
  | 2=>decide
  | n+3=>simp[ag,VY]
 have h1:10∉Zl:=by decide
 cases ng<;>simp only[Xw,not_or]<;>exact⟨h1,by decide,h⟩
theorem iQ6 {x:RawV}(hf:x.fam<=255):dU x.wov:=(kz (nm:=ag) (f:=λc=>Qo (x.cho c)) (P:=λs=>10∉s) (M:=6) iQ5 (by decide) (by decide) 3 0 (WC x.fam) (sU hf) (λc hc=>by
  rw[j9 (pQ x c)];exact⟨pQ x c,(mI x.cls (x.txs.map (·.2.2.2)) c).2⟩)).1
theorem iQ7 {x:RawV}(hf:x.fam<=255):∀s∈x.wov,∀b∈s,b<256:=(kz (nm:=ag) (f:=λc=>Qo (x.cho c)) (P:=λs=>∀b∈s,b<256) (M:=6) (λv ng=>(SU Ti Gm v ng).1) (by decide) (by decide) 3 0 (WC x.fam) (sU hf) (λc hc=>by
  rw[j9 (pQ x c)];obtain⟨a,b⟩:=mI x.cls (x.txs.map (·.2.2.2)) c;exact⟨λs hs=>(a s hs).1.b8,b⟩)).1
theorem Gn (s:List Nat)(hs:∀b∈s,b<256)(h4:4<=(s++ [10]).length):((Qe (s++ [10])).extract 0 4=Qe Zl)↔Zl.isPrefixOf s=true:=by
 rw[<-Fg s,o8];have e:(Qe (s++ [10])).extract 0 4=Qe ((s++ [10]).take 4):=by rw[KN,rz]
 rw[e];simp only[Vl];exact⟨λh=>⟨h4,Jc (B8.take (YO hs) _) (by decide) h⟩,λh=>QN Qe (show(s++ [10]).take 4=Zl from h.2)⟩
theorem KX {s t:List Nat}(hs:∀b∈s,b<256)(ht:∀b∈t,b<256):(Qe (s++ [10])=Qe (t++ [10]))↔s=t:=⟨λh=>yR (Jc (YO hs) (YO ht) h),λh=>by rw[h]⟩
theorem iQ8 (cls:List Nat)(texts:List (List Nat))(S:List Nat)(hS:S≠ [])(h8:∀c∈S,c<8)(hl:S.length<=8):
  ∃T,XV (VY.take 3) (λc=>Qo (dY cls texts c)) 3 0 S=fl (VY.take 3) T/\Wt 3 T/\WB (VY.take 3) T/\(fl (VY.take 3) T).length<=72:=by
 obtain⟨T,h1,h2,h3,h4,_⟩:=AA (nm:=VY.take 3) (n:=3) (gQQ (by decide)) (f:=λc=>Qo (dY cls texts c)) (P:=λs=>TxOk s/\s.length<8) (M:=6) 3 0 S (by decide) hS (λc hc c' Z2 hb=>gQR (h8 c hc) (h8 c' Z2) (λi hi=>hb i (by omega) (by omega))) (λc hc=>by
  obtain⟨k1,k2⟩:=mI cls texts c;rw[Rz];refine⟨λs hs=>?_,λs hs=>⟨(k1 s hs).1,by have:=(k1 s hs).2;omega⟩,k2⟩;rw[Rz] at hs;exact(k1 s hs).1.dr)
 exact⟨T,h1,h2,h3,by have:=Y1 (6+3) hl;omega⟩
theorem shares_law (x:RawV)(w:World)(h:RawIn w x):Fn Tryz.prog 8 [.agg x.cells.toArray] w (λv w'=>v= .bool true/\Ext w w'):=by
 have fK:=h.f8;obtain⟨T,e1,wT,sT,e4⟩:=iQ8 x.cls (x.txs.map (·.2.2.2)) (WC x.fam) (sU fK) (λc hc=>gQS hc) (RB _);have hw:fl ag T=x.wov:=e1.symm;have hwl:=Tj fK;have hL:=iQ6 fK;have J4:=iQ7 fK;have hT8:∀b∈Qo x.wov,b<256:=Ru J4
 have mQx:x.wov.length<=72:=by rw[<-hw];exact e4
 refine QD (c:={c8 with cuts:=[]}) Qa Tryz.func8 rfl rfl rfl ?_;refine new (λw1 Qd Q3 Qh=>?_);refine call (iQK w1) ?_;rintro _ w2 ⟨rfl,Qg⟩;have Q7:=Qd.trans Qg;have Qw:=Qh.ext Qg;have aj:=Ext.drew w2;refine XC Qa (Ext w2) 12 [(true,1),(true,2),(true,4),(false,0),(false,3),(false,5),(false,6),(true,7),(true,8),(true,9),(true,10),(true,11)] (by kernel_rfl) aj ?_;refine QH (v:=.int .u8 x.fam) (λw' Qb=>((Qw.ext Qb).cell 0).trans rfl) ?_;refine Xq (vs:=x.cells) rfl (λw' Qb k u hk=>by rw[(Qw.ext Qb).cell];exact hk) ?_;refine call (iQQ w2.drew) ?_;rintro _ w3 ⟨NA,nc,rfl,Qk,dw⟩;have Vt:=aj.trans Qk;refine⟨Vt,?_⟩;refine call (Tf x.fam fK w3) ?_;rintro _ w4 ⟨DA,dn,dc,dnd,dr,rfl,Qq,hD4,sD,_⟩;have Jj:=Vt.trans Qq;refine⟨Jj,?_⟩;refine call (iQV x false w4 (h.ext (Q7.trans Jj))) ?_;rintro _ w5 ⟨PA,pc,Q,rfl,Qv,hQ5,XS⟩;have lg:=Jj.trans Qv;refine⟨lg,?_⟩;refine call (iQY x fK Q _ ⟨DA,dn,dc,dnd,dr⟩ NA nc PA pc w5 ((dw.ext Qq).ext Qv) (hD4.ext Qv) sD hQ5 XS (iQZ x false)) ?_;rintro _ w6 ⟨rfl,Xh⟩;have tW:=lg.trans Xh;refine⟨tW,?_⟩;refine Wo rfl ?_;have hfn:=hQt (Qo x.wov) w6 hT8 (by omega);rw[vK (E2 _),j9 hL] at hfn;refine call hfn ?_;rintro _ w7 ⟨LA,lc,rfl,Q2,tI⟩;have K4:=Q7.trans (tW.trans Q2);have XX:Sl w7 1 LA x.wov.length lc (JG x.wov):=by have:=tI.sl;rw[JM] at this;exact this
 rw[JM];clear tI hfn;refine loop Qa [7] (λi:Nat=>[.int .i64 i]) (λi w'=>Ext w7 w'/\i<=x.wov.length) (λi _=>x.wov.length-i) 0 rfl ⟨Ext.refl _,XJ _⟩ ?_;rintro i w8 ⟨Q0,hi⟩;refine Qy (λc1=>?_) (λc1=>?_)
 ·have Xe:i<x.wov.length:=by omega
  obtain⟨s,hs⟩:∃s,x.wov[i]? =some s:=⟨_,Xn Xe⟩
  have C8:=J4 s (QO hs);have Xu:(Qe (s++ [10])).size=s.length+1:=by rw[XF];simp
  refine X5 (XX.ext (Q0)) (j:=i) (by omega) (λad u hA hu QE=>?_);rw[ZH hs] at hu;cases hu;refine load QE ?_;refine Qy (λq1=>?_) (λq1=>?_)
  ·rw[Xu] at q1;refine Qi ((i+1:Nat):Int) (by show((i:Nat):Int)+1=_;omega) (by omega) ?_;exact⟨i+1,rfl,⟨Q0,by show i+1<=x.wov.length;omega⟩,by show x.wov.length-(i+1)<x.wov.length-i;omega⟩
  rw[Xu] at q1;refine X5 (XX.ext (Q0)) (j:=i) (by omega) (λad u hA hu QE=>?_);rw[ZH hs] at hu;cases hu;refine load QE ?_;refine need ⟨by omega,by omega,by rw[Xu];omega⟩ ?_;have Mp:=Gn s C8 (by simp;omega);cases hp:Zl.isPrefixOf s with
  | false=>
   refine Xa (by rw[X4 (λhh=>by rw[hp] at Mp;exact Q8 (Mp.1 hh) (by simp))];rfl) ?_;refine Qi ((i+1:Nat):Int) (by show((i:Nat):Int)+1=_;omega) (by omega) ?_;exact⟨i+1,rfl,⟨Q0,by show i+1<=x.wov.length;omega⟩,by show x.wov.length-(i+1)<x.wov.length-i;omega⟩
  | true=>
  refine Q5 (by show(!decide ((Qe (s++ [10])).extract 0 4=Qe Zl))=false;rw[XR (Mp.2 hp)];rfl) ?_;obtain⟨oo,ee,lQF,he1,he2,hoo⟩:=iQ4 wT sT hw hs hp;refine Qi ((i+1:Nat):Int) (by show((i:Nat):Int)+1=_;omega) (by omega) ?_;refine loop Qa [8,9,10,11] (λs:Nat×Int×Int×Nat=>[.int .i64 s.1,.int .i64 s.2.1,.int .i64 s.2.2.1,.int .i64 s.2.2.2]) (λs w'=>Ext w7 w'/\i+1<=s.2.2.2/\s.2.2.2<=x.wov.length/\s.1<=s.2.2.2/\((s.2.2.1= -1/\Wa (x.wov.drop s.2.2.2) s.2.2.2 s.1 s.2.1=(oo,(ee:Int)))∨(s.2.2.1=(ee:Int)/\s.2.1=oo))) (λs _=>x.wov.length-s.2.2.2) (0, -1, -1,i+1) rfl ⟨Q0,QC _,by show i+1<=x.wov.length;omega,XJ _,.inl ⟨rfl,lQF⟩⟩ ?_;rintro⟨d,o,e,k⟩ w9 ⟨Zk,k1,k2,k3,hk⟩;simp only at k1 k2 k3 hk;have fin:¬(k<x.wov.length/\e<0)->e=(ee:Int)/\o=oo:=λhn=>by
   rcases hk with⟨a1,a2⟩ | hk
   ·have:k=x.wov.length:=by omega
    subst this;rw[List.drop_length,Wa] at a2;have:=QN Prod.snd a2;simp only at this;omega
   ·exact hk
  refine Qy (λc2=>?_) (λc2=>?_)
  ·refine Qy (λc3=>?_) (λc3=>?_)
   ·have Xl:k<x.wov.length:=by simp only at c2;omega
    simp only at c3;obtain⟨a1,a2⟩:e= -1/\Wa (x.wov.drop k) k d o=(oo,(ee:Int)):=by
     rcases hk with hk | hk
     ·exact hk
     ·omega
    subst a1;obtain⟨z,hz⟩:∃z,x.wov[k]? =some z:=⟨_,Xn Xl⟩
    have Vi:=J4 z (QO hz);have Kq:(Qe (z++ [10])).size=z.length+1:=by rw[XF];simp
    have bO:x.wov.drop k=z::x.wov.drop (k+1):=by rw[bR Xl];congr 1;exact Option.some.inj ((Xn Xl).symm.trans hz)
    rw[bO,Wa] at a2;refine X5 (XX.ext (Zk)) (j:=k) (by omega) (λad u hA hu QE=>?_);rw[ZH hz] at hu;cases hu;refine load QE ?_;have isIf:Zl.isPrefixOf z=true->4<=z.length:=λhh=>by
     rw[o8] at hh;exact(a8 hh).1
    by_cases yD:Zl.isPrefixOf z=true
    ·rw[Qf yD] at a2;have h4:=isIf yD;refine XH (by rw[Kq];omega) ?_;refine X5 (XX.ext (Zk)) (j:=k) (by omega) (λad u hA hu QE=>?_);rw[ZH hz] at hu;cases hu;refine load QE ?_;refine need ⟨by omega,by omega,by rw[Kq];omega⟩ ?_;refine XH ((Gn z Vi (by simp;omega)).2 yD) ?_;refine Qi ((d+1:Nat):Int) (by show((d:Nat):Int)+1=_;omega) (by omega) ?_;refine Qi ((k+1:Nat):Int) (by show((k:Nat):Int)+1=_;omega) (by omega) ?_;exact⟨(d+1,o, -1,k+1),rfl,⟨Zk,by show i+1<=k+1;omega,by show k+1<=x.wov.length;omega,by show d+1<=k+1;omega,.inl ⟨rfl,a2⟩⟩,by show x.wov.length-(k+1)<x.wov.length-k;omega⟩
    ·rw[if_neg yD] at a2;refine Qy (λl4=>?_) (λl4=>?_)
     ·rw[Kq] at l4;refine X5 (XX.ext (Zk)) (j:=k) (by omega) (λad u hA hu QE=>?_);rw[ZH hz] at hu;cases hu;refine load QE ?_;refine need ⟨by omega,by omega,by rw[Kq];omega⟩ ?_;refine Q9 (λhh=>yD ((Gn z Vi (by simp;omega)).1 hh)) ?_;refine X5 (XX.ext (Zk)) (j:=k) (by omega) (λad u hA hu QE=>?_);rw[ZH hz] at hu;cases hu;refine load QE ?_;by_cases aY:z=Jd
      ·refine XH ((KX Vi (by decide)).2 aY) ?_;refine Zh (λeE=>?_) (λeE=>?_)
       ·rw[Qf ⟨aY,by omega⟩] at a2;refine Qi ((k+1:Nat):Int) (by show((k:Nat):Int)+1=_;omega) (by omega) ?_;exact⟨(d,(k:Int), -1,k+1),rfl,⟨Zk,by show i+1<=k+1;omega,by show k+1<=x.wov.length;omega,by show d<=k+1;omega,.inl ⟨rfl,a2⟩⟩,by show x.wov.length-(k+1)<x.wov.length-k;omega⟩
       ·rw[if_neg (λhh=>eE (by have:=hh.2;omega)),if_neg (λhh=>by rw[aY] at hh;exact Q8 hh.1 (by decide)),if_neg (by rw[aY];decide)] at a2;refine X5 (XX.ext (Zk)) (j:=k) (by omega) (λad u hA hu QE=>?_);rw[ZH hz] at hu;cases hu;refine load QE ?_;refine Q9 (λhh=>by have:=(KX Vi (t:=Xx) (by decide)).1 hh;rw[aY] at this;exact Q8 this (by decide)) ?_;refine X5 (XX.ext (Zk)) (j:=k) (by omega) (λad u hA hu QE=>?_);rw[ZH hz] at hu;cases hu;refine load QE ?_;refine Q9 (λhh=>by have:=(KX Vi (t:=Xx) (by decide)).1 hh;rw[aY] at this;exact Q8 this (by decide)) ?_;refine Qi ((k+1:Nat):Int) (by show((k:Nat):Int)+1=_;omega) (by omega) ?_;exact⟨(d,o, -1,k+1),rfl,⟨Zk,by show i+1<=k+1;omega,by show k+1<=x.wov.length;omega,by show d<=k+1;omega,.inl ⟨rfl,a2⟩⟩,by show x.wov.length-(k+1)<x.wov.length-k;omega⟩
      ·refine Q9 (λhh=>aY ((KX Vi (t:=Jd) (by decide)).1 hh)) ?_;rw[if_neg (λhh=>aY hh.1)] at a2;refine X5 (XX.ext (Zk)) (j:=k) (by omega) (λad u hA hu QE=>?_);rw[ZH hz] at hu;cases hu;refine load QE ?_;by_cases Vk:z=Xx
       ·refine XH ((KX Vi (by decide)).2 Vk) ?_;refine Zh (λeE=>?_) (λeE=>?_)
        ·rw[Qf ⟨Vk,by omega⟩] at a2;refine Qi ((k+1:Nat):Int) (by show((k:Nat):Int)+1=_;omega) (by omega) ?_;exact⟨(d,o,(k:Int),k+1),rfl,⟨Zk,by show i+1<=k+1;omega,by show k+1<=x.wov.length;omega,by show d<=k+1;omega,.inr ⟨QN Prod.snd a2,QN Prod.fst a2⟩⟩,by show x.wov.length-(k+1)<x.wov.length-k;omega⟩
        ·rw[if_neg (λhh=>eE (by have:=hh.2;omega)),Qf Vk] at a2;refine X5 (XX.ext (Zk)) (j:=k) (by omega) (λad u hA hu QE=>?_);rw[ZH hz] at hu;cases hu;refine load QE ?_;refine XH ((KX Vi (by decide)).2 Vk) ?_;refine Qi ((d-1:Nat):Int) (by show((d:Nat):Int)-1=_;omega) (by omega) ?_;refine Qi ((k+1:Nat):Int) (by show((k:Nat):Int)+1=_;omega) (by omega) ?_;exact⟨(d-1,o, -1,k+1),rfl,⟨Zk,by show i+1<=k+1;omega,by show k+1<=x.wov.length;omega,by show d-1<=k+1;omega,.inl ⟨rfl,a2⟩⟩,by show x.wov.length-(k+1)<x.wov.length-k;omega⟩
       ·refine Q9 (λhh=>Vk ((KX Vi (t:=Xx) (by decide)).1 hh)) ?_;rw[if_neg (λhh=>Vk hh.1),if_neg Vk] at a2;refine X5 (XX.ext (Zk)) (j:=k) (by omega) (λad u hA hu QE=>?_);rw[ZH hz] at hu;cases hu;refine load QE ?_;refine Q9 (λhh=>Vk ((KX Vi (t:=Xx) (by decide)).1 hh)) ?_;refine Qi ((k+1:Nat):Int) (by show((k:Nat):Int)+1=_;omega) (by omega) ?_;exact⟨(d,o, -1,k+1),rfl,⟨Zk,by show i+1<=k+1;omega,by show k+1<=x.wov.length;omega,by show d<=k+1;omega,.inl ⟨rfl,a2⟩⟩,by show x.wov.length-(k+1)<x.wov.length-k;omega⟩
     ·refine X5 (XX.ext (Zk)) (j:=k) (by omega) (λad u hA hu QE=>?_);rw[ZH hz] at hu;cases hu;refine load QE ?_;by_cases aY:z=Jd
      ·refine XH ((KX Vi (by decide)).2 aY) ?_;refine Zh (λeE=>?_) (λeE=>?_)
       ·rw[Qf ⟨aY,by omega⟩] at a2;refine Qi ((k+1:Nat):Int) (by show((k:Nat):Int)+1=_;omega) (by omega) ?_;exact⟨(d,(k:Int), -1,k+1),rfl,⟨Zk,by show i+1<=k+1;omega,by show k+1<=x.wov.length;omega,by show d<=k+1;omega,.inl ⟨rfl,a2⟩⟩,by show x.wov.length-(k+1)<x.wov.length-k;omega⟩
       ·rw[if_neg (λhh=>eE (by have:=hh.2;omega)),if_neg (λhh=>by rw[aY] at hh;exact Q8 hh.1 (by decide)),if_neg (by rw[aY];decide)] at a2;refine X5 (XX.ext (Zk)) (j:=k) (by omega) (λad u hA hu QE=>?_);rw[ZH hz] at hu;cases hu;refine load QE ?_;refine Q9 (λhh=>by have:=(KX Vi (t:=Xx) (by decide)).1 hh;rw[aY] at this;exact Q8 this (by decide)) ?_;refine X5 (XX.ext (Zk)) (j:=k) (by omega) (λad u hA hu QE=>?_);rw[ZH hz] at hu;cases hu;refine load QE ?_;refine Q9 (λhh=>by have:=(KX Vi (t:=Xx) (by decide)).1 hh;rw[aY] at this;exact Q8 this (by decide)) ?_;refine Qi ((k+1:Nat):Int) (by show((k:Nat):Int)+1=_;omega) (by omega) ?_;exact⟨(d,o, -1,k+1),rfl,⟨Zk,by show i+1<=k+1;omega,by show k+1<=x.wov.length;omega,by show d<=k+1;omega,.inl ⟨rfl,a2⟩⟩,by show x.wov.length-(k+1)<x.wov.length-k;omega⟩
      ·refine Q9 (λhh=>aY ((KX Vi (t:=Jd) (by decide)).1 hh)) ?_;rw[if_neg (λhh=>aY hh.1)] at a2;refine X5 (XX.ext (Zk)) (j:=k) (by omega) (λad u hA hu QE=>?_);rw[ZH hz] at hu;cases hu;refine load QE ?_;by_cases Vk:z=Xx
       ·refine XH ((KX Vi (by decide)).2 Vk) ?_;refine Zh (λeE=>?_) (λeE=>?_)
        ·rw[Qf ⟨Vk,by omega⟩] at a2;refine Qi ((k+1:Nat):Int) (by show((k:Nat):Int)+1=_;omega) (by omega) ?_;exact⟨(d,o,(k:Int),k+1),rfl,⟨Zk,by show i+1<=k+1;omega,by show k+1<=x.wov.length;omega,by show d<=k+1;omega,.inr ⟨QN Prod.snd a2,QN Prod.fst a2⟩⟩,by show x.wov.length-(k+1)<x.wov.length-k;omega⟩
        ·rw[if_neg (λhh=>eE (by have:=hh.2;omega)),Qf Vk] at a2;refine X5 (XX.ext (Zk)) (j:=k) (by omega) (λad u hA hu QE=>?_);rw[ZH hz] at hu;cases hu;refine load QE ?_;refine XH ((KX Vi (by decide)).2 Vk) ?_;refine Qi ((d-1:Nat):Int) (by show((d:Nat):Int)-1=_;omega) (by omega) ?_;refine Qi ((k+1:Nat):Int) (by show((k:Nat):Int)+1=_;omega) (by omega) ?_;exact⟨(d-1,o, -1,k+1),rfl,⟨Zk,by show i+1<=k+1;omega,by show k+1<=x.wov.length;omega,by show d-1<=k+1;omega,.inl ⟨rfl,a2⟩⟩,by show x.wov.length-(k+1)<x.wov.length-k;omega⟩
       ·refine Q9 (λhh=>Vk ((KX Vi (t:=Xx) (by decide)).1 hh)) ?_;rw[if_neg (λhh=>Vk hh.1),if_neg Vk] at a2;refine X5 (XX.ext (Zk)) (j:=k) (by omega) (λad u hA hu QE=>?_);rw[ZH hz] at hu;cases hu;refine load QE ?_;refine Q9 (λhh=>Vk ((KX Vi (t:=Xx) (by decide)).1 hh)) ?_;refine Qi ((k+1:Nat):Int) (by show((k:Nat):Int)+1=_;omega) (by omega) ?_;exact⟨(d,o, -1,k+1),rfl,⟨Zk,by show i+1<=k+1;omega,by show k+1<=x.wov.length;omega,by show d<=k+1;omega,.inl ⟨rfl,a2⟩⟩,by show x.wov.length-(k+1)<x.wov.length-k;omega⟩
   ·first | simp only at c2 | skip
    first | simp only at c3 | skip
    obtain⟨rfl,rfl⟩:=fin (by omega);refine Q9 (by first | omega | (simp only;omega)) ?_;refine Qi ((i+1:Nat):Int) (by show((i:Nat):Int)+1=_;omega) (by omega) ?_;refine XB (by first | omega | (simp only;omega)) ?_;refine Qi ((i+1:Nat):Int) (by show((i:Nat):Int)+1=_;omega) (by omega) ?_;rcases hoo with ho | ⟨q,ho,q1,q2,q3⟩
    ·subst ho;refine XB (by first | omega | (simp only;omega)) ?_;refine Q9 (by first | omega | (simp only;omega)) ?_;first | refine Q5 rfl ?_ | skip
     refine XH (show(-1:Int)<0 by decide) ?_;refine Qi ((i+1:Nat):Int) (by show((i:Nat):Int)+1=_;omega) (by omega) ?_;exact⟨i+1,rfl,⟨Zk,by show i+1<=x.wov.length;omega⟩,by show x.wov.length-(i+1)<x.wov.length-i;omega⟩
    ·subst ho;refine XB (by first | omega | (simp only;omega)) ?_;refine XH (by first | omega | (simp only;omega)) ?_;refine Qi ((q+1:Nat):Int) (by show((q:Nat):Int)+1=_;omega) (by omega) ?_;refine XB (by first | omega | (simp only;omega)) ?_;refine Q9 (by first | omega | (simp only;omega)) ?_;obtain⟨WO,eK⟩:∃z,x.wov[i+1]? =some z:=⟨_,Xn (by omega)⟩
     obtain⟨lj,eD⟩:∃z,x.wov[q+1]? =some z:=⟨_,Xn (by omega)⟩
     obtain⟨Jx,KM⟩:∃z,x.wov[q-1]? =some z:=⟨_,Xn (by omega)⟩
     obtain⟨aR,Yz⟩:∃z,x.wov[ee-1]? =some z:=⟨_,Xn (by omega)⟩
     refine XC Qa (Ext w9) 21 [(true,0),(true,1),(true,2),(true,3),(true,4),(true,5),(true,6),(true,7),(true,8),(true,9),(true,10),(true,11),(true,12),(true,13),(true,14),(true,15),(true,16),(false,17),(true,18),(true,19),(true,20)] (by kernel_rfl) (Ext.drew w9) ?_;refine Qi ((i+1:Nat):Int) (by show((i:Nat):Int)+1=_;omega) (by omega) ?_;refine X5 (XX.ext ((Zk).trans (Ext.drew w9))) (j:=i+1) (by omega) (λad u hA hu QE=>?_);rw[ZH eK] at hu;cases hu;refine QH (v:=.string (Qe (WO++ [10]))) (λw' Qb=>Qb.cell QE) ?_;refine Qi ((q+1:Nat):Int) (by show((q:Nat):Int)+1=_;omega) (by omega) ?_;refine X5 (XX.ext ((Zk).trans (Ext.drew w9))) (j:=q+1) (by omega) (λad u hA hu QE=>?_);rw[ZH eD] at hu;cases hu;refine QH (v:=.string (Qe (lj++ [10]))) (λw' Qb=>Qb.cell QE) ?_;by_cases qI:WO=lj
     ·refine XH ((KX (J4 WO (QO eK)) (J4 lj (QO eD))).2 qI) ?_;refine Qi ((i+1:Nat):Int) (by show((i:Nat):Int)+1=_;omega) (by omega) ?_;refine X5 (XX.ext ((Zk).trans (Ext.drew w9))) (j:=i+1) (by omega) (λad u hA hu QE=>?_);rw[ZH eK] at hu;cases hu;refine QH (v:=.string (Qe (WO++ [10]))) (λw' Qb=>Qb.cell QE) ?_;refine call (sW (WO++ [10]) _ (YO (J4 WO (QO eK)))) ?_;rintro _ _ ⟨rfl,rfl⟩;refine⟨Ext.drew w9,?_⟩;rw[show KW (WO++ [10])=true by rw[iN];exact XR (λhh=>(q3 WO hh).1 ⟨eK,qI▸eD⟩)];refine XC Qa (Ext w9.drew) 21 [(true,0),(true,1),(true,2),(true,3),(true,4),(true,5),(true,6),(true,7),(true,8),(true,9),(true,10),(true,11),(true,12),(true,13),(true,14),(true,15),(true,16),(false,17),(true,18),(true,19),(true,20)] (by kernel_rfl) (Ext.drew w9.drew) ?_;refine Qi ((q-1:Nat):Int) (by show((q:Nat):Int)-1=_;omega) (by omega) ?_;refine X5 (XX.ext (((Zk).trans (Ext.drew w9)).trans (Ext.drew w9.drew))) (j:=q-1) (by omega) (λad u hA hu QE=>?_);rw[ZH KM] at hu;cases hu;refine QH (v:=.string (Qe (Jx++ [10]))) (λw' Qb=>Qb.cell QE) ?_;refine Qi ((ee-1:Nat):Int) (by show((ee:Nat):Int)-1=_;omega) (by omega) ?_;refine X5 (XX.ext (((Zk).trans (Ext.drew w9)).trans (Ext.drew w9.drew))) (j:=ee-1) (by omega) (λad u hA hu QE=>?_);rw[ZH Yz] at hu;cases hu;refine QH (v:=.string (Qe (aR++ [10]))) (λw' Qb=>Qb.cell QE) ?_;by_cases cz:Jx=aR
      ·refine XH ((KX (J4 Jx (QO KM)) (J4 aR (QO Yz))).2 cz) ?_;refine Qi ((q-1:Nat):Int) (by show((q:Nat):Int)-1=_;omega) (by omega) ?_;refine X5 (XX.ext (((Zk).trans (Ext.drew w9)).trans (Ext.drew w9.drew))) (j:=q-1) (by omega) (λad u hA hu QE=>?_);rw[ZH KM] at hu;cases hu;refine QH (v:=.string (Qe (Jx++ [10]))) (λw' Qb=>Qb.cell QE) ?_;refine call (sW (Jx++ [10]) _ (YO (J4 Jx (QO KM)))) ?_;rintro _ _ ⟨rfl,rfl⟩;refine⟨Ext.drew w9.drew,?_⟩;rw[show KW (Jx++ [10])=true by rw[iN];exact XR (λhh=>(q3 Jx hh).2 ⟨KM,cz▸Yz⟩)];first | refine Q5 rfl ?_ | skip
       first | refine Q5 rfl ?_ | skip
       refine Qi ((i+1:Nat):Int) (by show((i:Nat):Int)+1=_;omega) (by omega) ?_;exact⟨i+1,rfl,⟨((Zk).trans (Ext.drew w9)).trans (Ext.drew w9.drew),by show i+1<=x.wov.length;omega⟩,by show x.wov.length-(i+1)<x.wov.length-i;omega⟩
      ·refine Q9 (λhh=>cz ((KX (J4 Jx (QO KM)) (J4 aR (QO Yz))).1 hh)) ?_;first | refine Q5 rfl ?_ | skip
       first | refine Q5 rfl ?_ | skip
       refine Qi ((i+1:Nat):Int) (by show((i:Nat):Int)+1=_;omega) (by omega) ?_;exact⟨i+1,rfl,⟨((Zk).trans (Ext.drew w9)).trans (Ext.drew w9.drew),by show i+1<=x.wov.length;omega⟩,by show x.wov.length-(i+1)<x.wov.length-i;omega⟩
     ·refine Q9 (λhh=>qI ((KX (J4 WO (QO eK)) (J4 lj (QO eD))).1 hh)) ?_;refine XC Qa (Ext w9.drew) 21 [(true,0),(true,1),(true,2),(true,3),(true,4),(true,5),(true,6),(true,7),(true,8),(true,9),(true,10),(true,11),(true,12),(true,13),(true,14),(true,15),(true,16),(false,17),(true,18),(true,19),(true,20)] (by kernel_rfl) (Ext.drew w9.drew) ?_;refine Qi ((q-1:Nat):Int) (by show((q:Nat):Int)-1=_;omega) (by omega) ?_;refine X5 (XX.ext (((Zk).trans (Ext.drew w9)).trans (Ext.drew w9.drew))) (j:=q-1) (by omega) (λad u hA hu QE=>?_);rw[ZH KM] at hu;cases hu;refine QH (v:=.string (Qe (Jx++ [10]))) (λw' Qb=>Qb.cell QE) ?_;refine Qi ((ee-1:Nat):Int) (by show((ee:Nat):Int)-1=_;omega) (by omega) ?_;refine X5 (XX.ext (((Zk).trans (Ext.drew w9)).trans (Ext.drew w9.drew))) (j:=ee-1) (by omega) (λad u hA hu QE=>?_);rw[ZH Yz] at hu;cases hu;refine QH (v:=.string (Qe (aR++ [10]))) (λw' Qb=>Qb.cell QE) ?_;by_cases cz:Jx=aR
      ·refine XH ((KX (J4 Jx (QO KM)) (J4 aR (QO Yz))).2 cz) ?_;refine Qi ((q-1:Nat):Int) (by show((q:Nat):Int)-1=_;omega) (by omega) ?_;refine X5 (XX.ext (((Zk).trans (Ext.drew w9)).trans (Ext.drew w9.drew))) (j:=q-1) (by omega) (λad u hA hu QE=>?_);rw[ZH KM] at hu;cases hu;refine QH (v:=.string (Qe (Jx++ [10]))) (λw' Qb=>Qb.cell QE) ?_;refine call (sW (Jx++ [10]) _ (YO (J4 Jx (QO KM)))) ?_;rintro _ _ ⟨rfl,rfl⟩;refine⟨Ext.drew w9.drew,?_⟩;rw[show KW (Jx++ [10])=true by rw[iN];exact XR (λhh=>(q3 Jx hh).2 ⟨KM,cz▸Yz⟩)];first | refine Q5 rfl ?_ | skip
       first | refine Q5 rfl ?_ | skip
       refine Qi ((i+1:Nat):Int) (by show((i:Nat):Int)+1=_;omega) (by omega) ?_;exact⟨i+1,rfl,⟨((Zk).trans (Ext.drew w9)).trans (Ext.drew w9.drew),by show i+1<=x.wov.length;omega⟩,by show x.wov.length-(i+1)<x.wov.length-i;omega⟩
      ·refine Q9 (λhh=>cz ((KX (J4 Jx (QO KM)) (J4 aR (QO Yz))).1 hh)) ?_;first | refine Q5 rfl ?_ | skip
       first | refine Q5 rfl ?_ | skip
       refine Qi ((i+1:Nat):Int) (by show((i:Nat):Int)+1=_;omega) (by omega) ?_;exact⟨i+1,rfl,⟨((Zk).trans (Ext.drew w9)).trans (Ext.drew w9.drew),by show i+1<=x.wov.length;omega⟩,by show x.wov.length-(i+1)<x.wov.length-i;omega⟩
  ·first | simp only at c2 | skip
   first | simp only at c3 | skip
   obtain⟨rfl,rfl⟩:=fin (by omega);refine Q9 (by first | omega | (simp only;omega)) ?_;refine Qi ((i+1:Nat):Int) (by show((i:Nat):Int)+1=_;omega) (by omega) ?_;refine XB (by first | omega | (simp only;omega)) ?_;refine Qi ((i+1:Nat):Int) (by show((i:Nat):Int)+1=_;omega) (by omega) ?_;rcases hoo with ho | ⟨q,ho,q1,q2,q3⟩
   ·subst ho;refine XB (by first | omega | (simp only;omega)) ?_;refine Q9 (by first | omega | (simp only;omega)) ?_;first | refine Q5 rfl ?_ | skip
    refine XH (show(-1:Int)<0 by decide) ?_;refine Qi ((i+1:Nat):Int) (by show((i:Nat):Int)+1=_;omega) (by omega) ?_;exact⟨i+1,rfl,⟨Zk,by show i+1<=x.wov.length;omega⟩,by show x.wov.length-(i+1)<x.wov.length-i;omega⟩
   ·subst ho;refine XB (by first | omega | (simp only;omega)) ?_;refine XH (by first | omega | (simp only;omega)) ?_;refine Qi ((q+1:Nat):Int) (by show((q:Nat):Int)+1=_;omega) (by omega) ?_;refine XB (by first | omega | (simp only;omega)) ?_;refine Q9 (by first | omega | (simp only;omega)) ?_;obtain⟨WO,eK⟩:∃z,x.wov[i+1]? =some z:=⟨_,Xn (by omega)⟩
    obtain⟨lj,eD⟩:∃z,x.wov[q+1]? =some z:=⟨_,Xn (by omega)⟩
    obtain⟨Jx,KM⟩:∃z,x.wov[q-1]? =some z:=⟨_,Xn (by omega)⟩
    obtain⟨aR,Yz⟩:∃z,x.wov[ee-1]? =some z:=⟨_,Xn (by omega)⟩
    refine XC Qa (Ext w9) 21 [(true,0),(true,1),(true,2),(true,3),(true,4),(true,5),(true,6),(true,7),(true,8),(true,9),(true,10),(true,11),(true,12),(true,13),(true,14),(true,15),(true,16),(false,17),(true,18),(true,19),(true,20)] (by kernel_rfl) (Ext.drew w9) ?_;refine Qi ((i+1:Nat):Int) (by show((i:Nat):Int)+1=_;omega) (by omega) ?_;refine X5 (XX.ext ((Zk).trans (Ext.drew w9))) (j:=i+1) (by omega) (λad u hA hu QE=>?_);rw[ZH eK] at hu;cases hu;refine QH (v:=.string (Qe (WO++ [10]))) (λw' Qb=>Qb.cell QE) ?_;refine Qi ((q+1:Nat):Int) (by show((q:Nat):Int)+1=_;omega) (by omega) ?_;refine X5 (XX.ext ((Zk).trans (Ext.drew w9))) (j:=q+1) (by omega) (λad u hA hu QE=>?_);rw[ZH eD] at hu;cases hu;refine QH (v:=.string (Qe (lj++ [10]))) (λw' Qb=>Qb.cell QE) ?_;by_cases qI:WO=lj
    ·refine XH ((KX (J4 WO (QO eK)) (J4 lj (QO eD))).2 qI) ?_;refine Qi ((i+1:Nat):Int) (by show((i:Nat):Int)+1=_;omega) (by omega) ?_;refine X5 (XX.ext ((Zk).trans (Ext.drew w9))) (j:=i+1) (by omega) (λad u hA hu QE=>?_);rw[ZH eK] at hu;cases hu;refine QH (v:=.string (Qe (WO++ [10]))) (λw' Qb=>Qb.cell QE) ?_;refine call (sW (WO++ [10]) _ (YO (J4 WO (QO eK)))) ?_;rintro _ _ ⟨rfl,rfl⟩;refine⟨Ext.drew w9,?_⟩;rw[show KW (WO++ [10])=true by rw[iN];exact XR (λhh=>(q3 WO hh).1 ⟨eK,qI▸eD⟩)];refine XC Qa (Ext w9.drew) 21 [(true,0),(true,1),(true,2),(true,3),(true,4),(true,5),(true,6),(true,7),(true,8),(true,9),(true,10),(true,11),(true,12),(true,13),(true,14),(true,15),(true,16),(false,17),(true,18),(true,19),(true,20)] (by kernel_rfl) (Ext.drew w9.drew) ?_;refine Qi ((q-1:Nat):Int) (by show((q:Nat):Int)-1=_;omega) (by omega) ?_;refine X5 (XX.ext (((Zk).trans (Ext.drew w9)).trans (Ext.drew w9.drew))) (j:=q-1) (by omega) (λad u hA hu QE=>?_);rw[ZH KM] at hu;cases hu;refine QH (v:=.string (Qe (Jx++ [10]))) (λw' Qb=>Qb.cell QE) ?_;refine Qi ((ee-1:Nat):Int) (by show((ee:Nat):Int)-1=_;omega) (by omega) ?_;refine X5 (XX.ext (((Zk).trans (Ext.drew w9)).trans (Ext.drew w9.drew))) (j:=ee-1) (by omega) (λad u hA hu QE=>?_);rw[ZH Yz] at hu;cases hu;refine QH (v:=.string (Qe (aR++ [10]))) (λw' Qb=>Qb.cell QE) ?_;by_cases cz:Jx=aR
     ·refine XH ((KX (J4 Jx (QO KM)) (J4 aR (QO Yz))).2 cz) ?_;refine Qi ((q-1:Nat):Int) (by show((q:Nat):Int)-1=_;omega) (by omega) ?_;refine X5 (XX.ext (((Zk).trans (Ext.drew w9)).trans (Ext.drew w9.drew))) (j:=q-1) (by omega) (λad u hA hu QE=>?_);rw[ZH KM] at hu;cases hu;refine QH (v:=.string (Qe (Jx++ [10]))) (λw' Qb=>Qb.cell QE) ?_;refine call (sW (Jx++ [10]) _ (YO (J4 Jx (QO KM)))) ?_;rintro _ _ ⟨rfl,rfl⟩;refine⟨Ext.drew w9.drew,?_⟩;rw[show KW (Jx++ [10])=true by rw[iN];exact XR (λhh=>(q3 Jx hh).2 ⟨KM,cz▸Yz⟩)];first | refine Q5 rfl ?_ | skip
      first | refine Q5 rfl ?_ | skip
      refine Qi ((i+1:Nat):Int) (by show((i:Nat):Int)+1=_;omega) (by omega) ?_;exact⟨i+1,rfl,⟨((Zk).trans (Ext.drew w9)).trans (Ext.drew w9.drew),by show i+1<=x.wov.length;omega⟩,by show x.wov.length-(i+1)<x.wov.length-i;omega⟩
     ·refine Q9 (λhh=>cz ((KX (J4 Jx (QO KM)) (J4 aR (QO Yz))).1 hh)) ?_;first | refine Q5 rfl ?_ | skip
      first | refine Q5 rfl ?_ | skip
      refine Qi ((i+1:Nat):Int) (by show((i:Nat):Int)+1=_;omega) (by omega) ?_;exact⟨i+1,rfl,⟨((Zk).trans (Ext.drew w9)).trans (Ext.drew w9.drew),by show i+1<=x.wov.length;omega⟩,by show x.wov.length-(i+1)<x.wov.length-i;omega⟩
    ·refine Q9 (λhh=>qI ((KX (J4 WO (QO eK)) (J4 lj (QO eD))).1 hh)) ?_;refine XC Qa (Ext w9.drew) 21 [(true,0),(true,1),(true,2),(true,3),(true,4),(true,5),(true,6),(true,7),(true,8),(true,9),(true,10),(true,11),(true,12),(true,13),(true,14),(true,15),(true,16),(false,17),(true,18),(true,19),(true,20)] (by kernel_rfl) (Ext.drew w9.drew) ?_;refine Qi ((q-1:Nat):Int) (by show((q:Nat):Int)-1=_;omega) (by omega) ?_;refine X5 (XX.ext (((Zk).trans (Ext.drew w9)).trans (Ext.drew w9.drew))) (j:=q-1) (by omega) (λad u hA hu QE=>?_);rw[ZH KM] at hu;cases hu;refine QH (v:=.string (Qe (Jx++ [10]))) (λw' Qb=>Qb.cell QE) ?_;refine Qi ((ee-1:Nat):Int) (by show((ee:Nat):Int)-1=_;omega) (by omega) ?_;refine X5 (XX.ext (((Zk).trans (Ext.drew w9)).trans (Ext.drew w9.drew))) (j:=ee-1) (by omega) (λad u hA hu QE=>?_);rw[ZH Yz] at hu;cases hu;refine QH (v:=.string (Qe (aR++ [10]))) (λw' Qb=>Qb.cell QE) ?_;by_cases cz:Jx=aR
     ·refine XH ((KX (J4 Jx (QO KM)) (J4 aR (QO Yz))).2 cz) ?_;refine Qi ((q-1:Nat):Int) (by show((q:Nat):Int)-1=_;omega) (by omega) ?_;refine X5 (XX.ext (((Zk).trans (Ext.drew w9)).trans (Ext.drew w9.drew))) (j:=q-1) (by omega) (λad u hA hu QE=>?_);rw[ZH KM] at hu;cases hu;refine QH (v:=.string (Qe (Jx++ [10]))) (λw' Qb=>Qb.cell QE) ?_;refine call (sW (Jx++ [10]) _ (YO (J4 Jx (QO KM)))) ?_;rintro _ _ ⟨rfl,rfl⟩;refine⟨Ext.drew w9.drew,?_⟩;rw[show KW (Jx++ [10])=true by rw[iN];exact XR (λhh=>(q3 Jx hh).2 ⟨KM,cz▸Yz⟩)];first | refine Q5 rfl ?_ | skip
      first | refine Q5 rfl ?_ | skip
      refine Qi ((i+1:Nat):Int) (by show((i:Nat):Int)+1=_;omega) (by omega) ?_;exact⟨i+1,rfl,⟨((Zk).trans (Ext.drew w9)).trans (Ext.drew w9.drew),by show i+1<=x.wov.length;omega⟩,by show x.wov.length-(i+1)<x.wov.length-i;omega⟩
     ·refine Q9 (λhh=>cz ((KX (J4 Jx (QO KM)) (J4 aR (QO Yz))).1 hh)) ?_;first | refine Q5 rfl ?_ | skip
      first | refine Q5 rfl ?_ | skip
      refine Qi ((i+1:Nat):Int) (by show((i:Nat):Int)+1=_;omega) (by omega) ?_;exact⟨i+1,rfl,⟨((Zk).trans (Ext.drew w9)).trans (Ext.drew w9.drew),by show i+1<=x.wov.length;omega⟩,by show x.wov.length-(i+1)<x.wov.length-i;omega⟩
 exact⟨rfl,K4.trans Q0⟩
end
end Go.Proofs.YtjabbbcdgmlojaaGreatDoor
