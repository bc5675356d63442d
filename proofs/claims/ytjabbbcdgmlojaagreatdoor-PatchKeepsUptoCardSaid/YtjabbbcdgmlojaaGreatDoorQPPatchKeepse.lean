/-
  What PPatchKeeps rests on, part 5 (wip/shake.py).
  Conditions: none.
-/
import Derived.Test.YtjabbbcdgmlojaaGreatDoorQPPatchKeepsd
set_option linter.all false
set_option linter.deprecated false
set_option maxHeartbeats 12800000
namespace Go.Proofs.YtjabbbcdgmlojaaGreatDoor
open Go Go.RowKit
section
theorem Ti {nm:List (List Nat)}{s:List Nat}{e:Int}(h:VH nm s= .error e):e≠0:=by
 unfold VH at h;split at h
 ·cases h
 ·cases h;split<;>decide
def tm:Except Int (List Nat)->Value
 | .ok l=>.tuple #[.string (Qd l),.int .i64 0]
 | .error e=>.tuple #[.string (Qd []),.int .i64 e]
theorem iQy (n:Nat)(o o':BF):QL n (λe=>o e && !o' e)=jh n (QL n o) o':=by
 unfold QL jh;rw[List.filter_filter];congr 1;funext c;rw[Bool.and_comm]
theorem GC {M:Nat}:∀{ls:List (List Nat)},(∀s∈ls,s.length<=M)->(Qp ls).length<=ls.length*(M+1)
 | [],_=>by simp[Qp]
 | s::ls,h=>by
  have ih:=GC (ls:=ls) (λt ht=>h t (by simp[ht]));have h1:=h s (by simp);rw[V3,Q6,oW,yY];simp only[Qq,Q6];omega
theorem AY:∀(l:List Nat),(QR l).length<=l.length/\∀s∈QR l,s.length<=l.length
 | []=>⟨by simp[QR],λs hs=>by simp[QR] at hs⟩
 | b::l=>by
  obtain⟨h1,h2⟩:=AY l;unfold QR;split
  ·refine⟨by simp;omega,λs hs=>?_⟩;rcases Q1.1 hs with rfl | hs
   ·simp
   ·have:=h2 s hs;simp;omega
  ·cases hl:QR l with
   | nil=>refine⟨by simp,λs hs=>?_⟩;rw[QN.1 hs];simp
   | cons t ls=>
    rw[hl] at h1 h2;refine⟨by simp at h1 ⊢;omega,λs hs=>?_⟩;rcases Q1.1 hs with rfl | hs
    ·have:=h2 t (by simp);simp;omega
    ·have:=h2 s (by simp[hs]);simp;omega
theorem iQz {nm:List (List Nat)}(h:∀s∈nm,s.length<=1000)(v:Nat)(ng:Bool):(VJ nm v ng).length<=2100:=by
 unfold VJ;have h1:((nm[v]?).getD []).length<=1000:=by
  cases hv:nm[v]? with
  | none=>simp
  | some s=>exact h s (Xm hv)
 have h2:(if ng then [33] else([]:List Nat)).length<=1:=by cases ng<;>simp
 have h3:ZQ.length=4:=rfl;simp only[Qq];omega
theorem iQA {nm:List (List Nat)}{f:Nat->List Nat}(hn:∀s∈nm,s.length<=1000){S:List Nat}(hS:S≠ [])(IW:S.length<=16)(h:∀c∈S,(f c).length<=2000)(k v:Nat):(Qp (Zi nm f k v S)).length<=1000000000:=by
 obtain⟨h1,h2⟩:=tf (nm:=nm) (f:=f) (P:=λs=>s.length<=2100) (M:=2000) (λv ng=>iQz hn v ng) (by decide) (by decide) k v S hS (λc hc=>by
  obtain⟨a,b⟩:=AY (f c);have:=h c hc;exact⟨λs hs=>by have:=b s hs;omega,by omega⟩)
 have h3:=GC h1;have h4:S.length*(2000+3)<=16*2003:=bG _ IW;have h5:(Zi nm f k v S).length*(2100+1)<=32048*2101:=bG _ (by omega);omega
theorem Tj (n:Nat)(o:BF):(QL n o).length<=2^n:=by
 unfold QL;refine Zc (yZ _ _) ?_;rw[List.length_range];exact QB _
theorem GD (NA:Option Addr)(nn nc:Nat)(nm:List (List Nat))(x:DV)(PA:Option Addr)(pn pc:Nat)(ps:List (DV×List Nat))(lv:nm.length<=4)(VR:Ku nm)(Kl:∀s∈nm,s.length<=1000)(ci:∀q∈ps,(∀b∈q.2,b<256)/\q.2.length<=2000)(w:World)
  (hN:Sl w 1 NA nn nc (XB nm)) (hx:SB w x.A x.n x.c x.nd) (hP:SlS JX 3 w PA pn pc ps) (yG:∀q∈ps,SB w q.1.A q.1.n q.1.c q.1.nd):
  Fn Tryz.prog 24 [.slice NA nn nc,Xk x.A x.n x.c x.r,.slice PA pn pc] w (λu w'=>u=tm (kJ nm x ps)/\Ext w w'):=by
 have QY:nm.length=nn:=by have:=hN.len;rw[aU] at this;omega
 have hk:nm.length<=12:=by omega
 have JE:=hP.2;have mQf:=hP.1.cap;have nQH:=hP.1.le;simp only[maxLen] at mQf;refine vq (c:={c24 with cuts:=[]}) Qa Tryz.func24 rfl rfl rfl ?_;refine ZN (ZA Qa ?_);refine new (λw1 Qe Q4 Qh=>?_);refine new (λw2 Qg Zb Qx=>?_);refine new (λw3 Qj JC Qu=>?_);have Yy:=Qg.trans Qj;have QX:=Qe.trans Yy;have QU:w1.heap.size≠w2.heap.size:=by omega
 refine ZN (vp Qa rfl rfl rfl rfl ⟨_,_,_,_,rfl,rfl,?_⟩);refine ZN (ZA Qa ?_);refine Qt (Qh.ext Yy) rfl ?_;refine XO (Tb NA nn nc nm x hk VR w3 (hN.ext QX) (hx.ext QX)) ?_ ?_
 rotate_left
 ·rintro ch w4 ⟨Xi,rfl,Qs⟩;refine ag Qa rfl rfl (args:= #[.pointer (some ⟨w1.heap.size,0,none⟩),.pointer (some ⟨w2.heap.size,0,none⟩)]) (by simp) ((pV _ _ 1 w4 _ _ QU ((Qx.ext Qj).ext Qs) (Qu.ext Qs)).mono ?_);rintro e u' w5 ⟨v,rfl,kY,bq⟩;refine⟨v,rfl,kY,?_⟩;refine QD bq.1 rfl ?_;refine QD bq.2.1 rfl ?_;have hm:kJ nm x ps= .error 1:=by
   unfold kJ;rw[Qf (by
    by_cases h1:ZF nm=true
    ·exact .inr (fI.2 (λh2=>Xi ⟨h1,h2⟩))
    ·exact .inl (by simpa using h1))]
  rw[hm];exact⟨rfl,bq.2.2.ext (QX.trans Qs) (λi hi=>by rcases hi with rfl | rfl<;>omega)⟩
 rintro _ w4 ⟨⟨X0,VE⟩,Qs⟩;have XG:=QX.trans Qs;have sx:=gU VE;have J2:=(Qh.ext Yy).ext Qs;have iN:=(Qx.ext Qj).ext Qs;have fk:=Qu.ext Qs;have hm:kJ nm x ps=if aw nm.length (QL nm.length (oD x)) ps=false then .error 290
   else if ps=[] then .ok []
   else if 1048576<(Qp (Zi nm (fP (Zs ps)) nm.length 0 (QL nm.length (oD x)))).length then .error 2
   else .ok (Qp (Zi nm (fP (Zs ps)) nm.length 0 (QL nm.length (oD x)))):=by
  rw[kJ,if_neg (by rw[X0,VE];simp)]
 generalize kJ nm x ps=M at*;have aQg:∀w',Ext w4 w'->aw nm.length (QL nm.length (oD x)) ps=false->∀w5,AX w1.heap.size w2.heap.size 290 w' w5->Value.tuple #[.string ⟨#[]⟩,.int .i64 290]=tm M/\Ext w w5:=λw' gA hc w5 hR=>by
  refine⟨by rw[hm,Qf hc];rfl,hR.2.2.ext (XG.trans gA) (λi hi=>by rcases hi with rfl | rfl<;>omega)⟩
 refine ZN (ZA Qa ?_);refine Qt J2 rfl ?_;refine new (λw5 Qw KP QG=>?_);refine Qv QG rfl (sc rfl) (λw6 Y4 _ Q9=>?_);have XF:Ext w4 w6:=X9 Qw QG Y4;have KO:=Qs.size;have mQ6:=XF.size;refine ZN (ZA Qa ?_);refine loop Qa [18] (λi:Nat=>[.int .i64 i]) (λi w'=>Mod (·=w4.heap.size) w6 w'/\i<=pn/\∃(R:DV) (oR:BF),Blk w' w4.heap.size 32 R.cells/\SB w' R.A R.n R.c R.nd/\Set1 nm.length R.nd R.r oR/\(∀ad,R.A=some ad->0<R.n->ad.block≠w4.heap.size)/\aw nm.length (QL nm.length (oD x)) ps=aw nm.length (QL nm.length oR) (ps.drop i)) (λi _=>pn-i) 0 rfl ⟨Mod.refl _ _,Xr _,x,oD x,Q9,(hx.ext XG).ext XF,sx,λad ea h0=>by have:=SB.lt (hx.ext XG) ad ea h0;omega,rfl⟩ ?_;rintro i w7 ⟨Xf,hi,R,oR,Q2,Vr,sR,hRn,Jj⟩;have Ye:Ext w4 w7:=Xf.ext XF (λj hj=>by omega);have Vt:=XG.trans Ye;have mQ7:=Ye.size;have nK:=iN.ext Ye;have nL:=fk.ext Ye;refine Qz (λc1=>?_) (λc1=>?_)
 ·have QZ:i<pn:=by omega
  refine Zv Gc (hP.ext Vt) rfl QZ (λad q hq hc=>?_);have iM:=Xm hq;obtain⟨q8,ql⟩:=ci q iM;have fx:ps.drop i=q::ps.drop (i+1):=by
   have Xc:=(ZY.1 hq).1;rw[W9 Xc];congr 1;rw[Xp Xc] at hq;exact Option.some.inj hq
  rw[fx] at Jj;refine Kn (vs:=JX q) rfl hc ?_;refine new (λw8 Xl Yw Xw=>?_);refine Qv Xw rfl (sc rfl) (λw9 eZ _ JD=>?_);have VO:Ext w7 w9:=X9 Xl Xw eZ;have mQ8:=VO.size;have BO:=(yG q iM).ext (Vt.trans VO);refine fR (vs:=[.slice q.1.A q.1.n q.1.c,.int .i64 q.1.r]) JD rfl (λj u hj=>by match j,hj with | 0,hj=>exact hj | 1,hj=>exact hj) ?_;rw[<-QY];refine call (F5 q.1.A q.1.n q.1.c nm.length q.1.nd q.1.r w9 BO) ?_;rintro _ Qy ⟨rfl,XT⟩;have iz:=VO.trans XT;have bad:∀w',Ext w7 w'->aw nm.length (QL nm.length oR) (q::ps.drop (i+1))=false->∀w5,AX w1.heap.size w2.heap.size 290 w' w5->Value.tuple #[.string ⟨#[]⟩,.int .i64 290]=tm M/\Ext w w5:=λw' gA hc w5 hR=>aQg w' (Ye.trans gA) (Jj.trans hc) w5 hR
  cases DG:Ka nm.length q.1.nd q.1.r with
  | false=>
   refine Q8 rfl ?_;refine XO (YM 290 (by decide) Qy) (λ_ _ hf=>hf.elim) ?_;rintro ch _ ⟨rfl,rfl⟩;refine ag Qa rfl rfl (args:= #[.pointer (some ⟨w1.heap.size,0,none⟩),.pointer (some ⟨w2.heap.size,0,none⟩)]) (by simp) ((pV _ _ 290 Qy _ _ QU (nK.ext iz) (nL.ext iz)).mono ?_);rintro e u' QH ⟨v,rfl,kQ6,IX⟩;refine⟨v,rfl,kQ6,?_⟩;refine QD IX.1 rfl ?_;refine QD IX.2.1 rfl ?_;exact bad Qy iz (by
    refine fI.2 (λhh=>?_);rw[(F4.1 hh).1.1] at DG;cases DG) QH IX
  | true=>
  have sq:=gU DG;have jw:=sq.root0;have JM:=JD.ext XT;refine Q3 rfl ?_;refine GA (j:=0) (i:=1) JM rfl ?_;have DH:=F4 (n:=nm.length) (R:=QL nm.length oR) (p:=q) (ps:=ps.drop (i+1));refine X3 (λhz=>?_) (λhz=>?_)
  ·refine XO (YM 290 (by decide) Qy) (λ_ _ hf=>hf.elim) ?_;rintro ch _ ⟨rfl,rfl⟩;refine ag Qa rfl rfl (args:= #[.pointer (some ⟨w1.heap.size,0,none⟩),.pointer (some ⟨w2.heap.size,0,none⟩)]) (by simp) ((pV _ _ 290 Qy _ _ QU (nK.ext iz) (nL.ext iz)).mono ?_);rintro e u' YO ⟨v,rfl,fh,WZ⟩;refine⟨v,rfl,fh,?_⟩;refine QD WZ.1 rfl ?_;refine QD WZ.2.1 rfl ?_;exact bad Qy iz (fI.2 (λhh=>(DH.1 hh).1.2.1 (jw.1 hz))) YO WZ
  ·refine fR (vs:=[.slice q.1.A q.1.n q.1.c,.int .i64 q.1.r]) JM rfl (λj u hj=>by match j,hj with | 0,hj=>exact hj | 1,hj=>exact hj) ?_;refine Qt (Q2.ext iz) rfl ?_;refine call (RI q.1.A q.1.n q.1.c q.1.nd q.1.r R.A R.n R.c R.nd R.r Qy (BO.ext XT) (Vr.ext iz)) ?_;rintro _ QH ⟨rfl,Z9⟩;have io:=iz.trans Z9;have hwi:gS q.1.nd q.1.r R.nd R.r=true↔∀c∈QL nm.length (oD q.1),c∈QL nm.length oR:=by
    rw[Gd hk sq sR,Sc sq.dep sR.dep];exact⟨λh c hc=>Js.2 ⟨(Js.1 hc).1,h c hc⟩,λh c hc=>(Js.1 (h c hc)).2⟩
   cases Ms:gS q.1.nd q.1.r R.nd R.r with
   | false=>
    refine Q8 rfl ?_;refine XO (YM 290 (by decide) QH) (λ_ _ hf=>hf.elim) ?_;rintro ch _ ⟨rfl,rfl⟩;refine ag Qa rfl rfl (args:= #[.pointer (some ⟨w1.heap.size,0,none⟩),.pointer (some ⟨w2.heap.size,0,none⟩)]) (by simp) ((pV _ _ 290 QH _ _ QU (nK.ext io) (nL.ext io)).mono ?_);rintro e u' YO ⟨v,rfl,fh,WZ⟩;refine⟨v,rfl,fh,?_⟩;refine QD WZ.1 rfl ?_;refine QD WZ.2.1 rfl ?_;exact bad QH io (fI.2 (λhh=>by rw[hwi.2 (DH.1 hh).1.2.2.1] at Ms;cases Ms)) YO WZ
   | true=>
    refine Q3 rfl ?_;have Z8:=JM.ext Z9;refine Qo Z8 rfl ?_;refine call (Sj q.2 QH q8 (by omega)) ?_;rintro _ Xa ⟨rfl,Xv⟩;have lw:=io.trans Xv;cases IY:V6 q.2 with
    | false=>
     refine Q8 rfl ?_;refine XO (YM 290 (by decide) Xa) (λ_ _ hf=>hf.elim) ?_;rintro ch _ ⟨rfl,rfl⟩;refine ag Qa rfl rfl (args:= #[.pointer (some ⟨w1.heap.size,0,none⟩),.pointer (some ⟨w2.heap.size,0,none⟩)]) (by simp) ((pV _ _ 290 Xa _ _ QU (nK.ext lw) (nL.ext lw)).mono ?_);rintro e u' YO ⟨v,rfl,fh,WZ⟩;refine⟨v,rfl,fh,?_⟩;refine QD WZ.1 rfl ?_;refine QD WZ.2.1 rfl ?_;exact bad Xa lw (fI.2 (λhh=>by rw[(DH.1 hh).1.2.2.2] at IY;cases IY)) YO WZ
    | true=>
     refine Q3 rfl ?_;refine Qt (Q2.ext lw) rfl ?_;refine fR (vs:=[.slice q.1.A q.1.n q.1.c,.int .i64 q.1.r]) (Z8.ext Xv) rfl (λj u hj=>by match j,hj with | 0,hj=>exact hj | 1,hj=>exact hj) ?_;refine call (eF hk R q.1 Xa (Vr.ext lw) ((yG q iM).ext (Vt.trans lw)) sR sq) ?_;rintro _ X6 ⟨QA,Qn,Qc,Qnd,Qr,rfl,XI,IZ,sQ,DI⟩;refine Qv ((Q2.ext lw).ext XI) rfl (sc rfl) (λZk eQ _ J2=>?_);have KQ:Mod (·=w4.heap.size) X6 Zk:=nQQ eQ rfl;refine Qi ((i+1:Nat):Int) (by show((i:Nat):Int)+1=_;omega) (by omega) ?_;have aG:∀ad,QA=some ad->0<Qn->ad.block≠w4.heap.size:=λad ea h0=>by
      have:=DI ad.block ⟨ad,ea,rfl⟩;have:=lw.size;have:=Q2.lt;omega
     have kQ7:=lw.trans XI;refine⟨i+1,rfl,⟨(Xf.trans (Mod.of_ext (·=w4.heap.size) kQ7) (λj hj=>.inl hj)).trans KQ (λj hj=>.inl hj),QZ,⟨QA,Qn,Qc,Qnd,Qr⟩,_,J2,IZ.modo KQ aG,sQ,aG,?_⟩,by show pn-(i+1)<pn-i;omega⟩;rw[Jj,iQy];have h1:Ka nm.length q.1.nd q.1.r=true/\QL nm.length (oD q.1)≠ []/\(∀c∈QL nm.length (oD q.1),c∈QL nm.length oR)/\V6 q.2=true:=⟨DG,λe=>hz (jw.2 e),hwi.1 Ms,IY⟩
     have h2:aw nm.length (QL nm.length oR) (q::ps.drop (i+1))=true↔aw nm.length (jh nm.length (QL nm.length oR) (oD q.1)) (ps.drop (i+1))=true:=DH.trans ⟨λh=>h.2,λh=>⟨h1,h⟩⟩;exact oT.2 h2
 have QZ:i=pn:=by omega
 have fx:ps.drop i=[]:=o7 (by omega);rw[fx] at Jj;have hR0:=sR.root0;have Jj:aw nm.length (QL nm.length (oD x)) ps=decide (QL nm.length oR=[]):=Jj;refine ZN (ZA Qa ?_);refine Qo Q2 rfl ?_;refine bI (λhz=>?_) (λhz=>?_)
 ·refine XO (YM 290 (by decide) w7) (λ_ _ hf=>hf.elim) ?_;rintro ch _ ⟨rfl,rfl⟩;refine ag Qa rfl rfl (args:= #[.pointer (some ⟨w1.heap.size,0,none⟩),.pointer (some ⟨w2.heap.size,0,none⟩)]) (by simp) ((pV _ _ 290 w7 _ _ QU nK nL).mono ?_);rintro e u' YO ⟨v,rfl,fh,WZ⟩;refine⟨v,rfl,fh,?_⟩;refine QD WZ.1 rfl ?_;refine QD WZ.2.1 rfl ?_;exact aQg w7 Ye (by rw[Jj];exact Zq (λe=>hz (hR0.2 e))) YO WZ
 have uD:aw nm.length (QL nm.length (oD x)) ps=true:=by rw[Jj];exact Zy (hR0.1 hz)
 rw[if_neg (by rw[uD];decide)] at hm;refine ZN (ZA Qa ?_);refine X3 (λh0=>?_) (λh0=>?_)
 ·have CV:ps=[]:=Wg (by omega);rw[Qf CV] at hm;refine KD nK (by simp[JR]) (λw8 ZL Xw=>?_);refine KD (nL.mod ZL QU.symm) (by simp[JR]) (λw9 Zj JD=>?_);refine fU Qa rfl rfl (.inl rfl) (args:= #[.pointer (some ⟨w1.heap.size,0,none⟩),.pointer (some ⟨w2.heap.size,0,none⟩)]) (by simp) ((Td _ _ w9).mono ?_);rintro e u' YO ⟨v,rfl,fh,rfl⟩;refine⟨v,rfl,fh,?_⟩;refine QD (Xw.mod Zj QU) rfl ?_;refine QD JD rfl ?_;exact⟨by rw[hm];rfl,Zj.ext (ZL.ext Vt (λj hj=>by omega)) (λj hj=>by omega)⟩
 ·have CV:ps≠ []:=λe=>h0 (by rw[<-JE,e];rfl)
  rw[if_neg CV] at hm;obtain⟨Jb,CW⟩:=Sh (λc hc=>(Js.1 hc).1) uD;have aQh:QL nm.length (oD x)≠ []:=λe=>by
   obtain⟨q,hq⟩:=y8 _ CV;obtain⟨_,n1,_,n2⟩:=CW q hq;obtain⟨c,hc⟩:=y8 _ n1;have:=n2 c hc;rw[e] at this;cases this
  refine ZA Qa ?_;refine Qt (J2.ext Ye) rfl ?_;refine call (Sr NA nn nc nm x (oD x) PA pn pc ps nm.length lv rfl VR (λs hs=>by have:=Kl s hs;omega) (λq hq=>by
   obtain⟨a,b,c,d⟩:=CW q hq;obtain⟨e1,e2⟩:=ci q hq;exact⟨a,c,e1,by omega⟩) w7 (hN.ext Vt) (hx.ext Vt) sx (hP.ext Vt) (λq hq=>(yG q hq).ext Vt) aQh Jb) ?_
  rintro _ w8 ⟨A8,c8,rfl,Xl,la⟩;have ZT:∀c∈QL nm.length (oD x),(fP (Zs ps) c).length<=2000:=λc hc=>by
   obtain⟨p,hp,Kt⟩:=Jb.cov c hc;rw[Jb.get hc hp Kt];obtain⟨q,hq,rfl⟩:=X7.1 hp;exact(ci q hq).2
  have aF:(QL nm.length (oD x)).length<=16:=Zc (Tj _ _) (Zc (aO (by decide) lv) (by decide));have nQI:=iQA Kl aQh aF ZT nm.length 0;generalize Zi nm (fP (Zs ps)) nm.length 0 (QL nm.length (oD x))=W at*;refine XO (Ta A8 _ c8 W w8 la (by omega)) ?_ ?_
  rotate_left
  ·rintro ch _ ⟨q9,rfl,rfl⟩;rw[Qf q9] at hm;refine ag Qa rfl rfl (args:= #[.pointer (some ⟨w1.heap.size,0,none⟩),.pointer (some ⟨w2.heap.size,0,none⟩)]) (by simp) ((pV _ _ 2 w8 _ _ QU (nK.ext Xl) (nL.ext Xl)).mono ?_);rintro e u' YO ⟨v,rfl,fh,WZ⟩;refine⟨v,rfl,fh,?_⟩;refine QD WZ.1 rfl ?_;refine QD WZ.2.1 rfl ?_;exact⟨by rw[hm];rfl,WZ.2.2.ext (Vt.trans Xl) (λi hi=>by rcases hi with rfl | rfl<;>omega)⟩
  rintro _ w9 ⟨J5,rfl,Xt⟩;rw[if_neg (by omega)] at hm;have VO:=Xl.trans Xt;refine KD (nK.ext VO) (by simp[JR]) (λQy Zo JM=>?_);refine KD ((nL.ext VO).mod Zo QU.symm) (by simp[JR]) (λQH Z2 Z8=>?_);refine fU Qa rfl rfl (.inl rfl) (args:= #[.pointer (some ⟨w1.heap.size,0,none⟩),.pointer (some ⟨w2.heap.size,0,none⟩)]) (by simp) ((Td _ _ QH).mono ?_);rintro e u' YO ⟨v,rfl,fh,rfl⟩;refine⟨v,rfl,fh,?_⟩;refine QD (JM.mod Z2 QU) rfl ?_;refine QD Z8 rfl ?_;exact⟨by rw[hm];rfl,Z2.ext (Zo.ext (Vt.trans VO) (λj hj=>by omega)) (λj hj=>by omega)⟩
theorem GE {ls:List (List Nat)}(hL:kB ls){a:Nat}{s:List Nat}(h:(a,s)∈Z6 0 ls):∃pre Wz,Qp ls=pre++(s++10::Wz)/\pre.length=a/\Wt pre/\10∉s:=by
 obtain⟨i,h1,h2⟩:=SY h;have Xc:=(ZY.1 h1).1;have hs:ls[i]=s:=by rw[Xp Xc] at h1;exact Option.some.inj h1
 refine⟨Qp (ls.take i),Qp (ls.drop (i+1)),?_,by omega,Fo _,hL s (Xm h1)⟩;have hu:∀a b:List (List Nat),Qp (a++b)=Qp a++Qp b:=λa b=>by simp[Qp]
 have e:ls=ls.take i++s::ls.drop (i+1):=by
  have:=(lQ i ls).symm;rw[W9 Xc,hs] at this;exact this
 have e2:=QC Qp e;rw[hu,V3] at e2;exact e2
theorem GF {l:List Nat}(hl:∀x∈l,x<256){j b:Nat}(h:l[j]? =some b):(((Qd l).data[j]!).toNat:Int)=b:=by
 have Xc:=(ZY.1 h).1;have hb:=hl b (Xm h);have e:(Qd l).data[j]! =UInt8.ofNat b:=by
  have:(Qd l).data=(l.map UInt8.ofNat).toArray:=rfl;rw[this,getElem!_def,MY,aL,h]<;>rfl
 rw[e];have:(UInt8.ofNat b).toNat=b:=by simp[jR hb]
 rw[this]
theorem Tk {ls:List (List Nat)}(hL:kB ls)(h8:∀x∈Qp ls,x<256){a x:Nat}{s:List Nat}(h:(a,s)∈Z6 0 ls)(h1:a<=x)(h2:x<=a+s.length):Lib.lastIndexByte (Qd ((Qp ls).take x)) 10=(a:Int)-1:=by
 obtain⟨pre,Wz,e,hp,ht,hs⟩:=GE hL h;have QY:x<=(Qp ls).length:=by rw[e];simp;omega
 have XJ:(Qd ((Qp ls).take x)).size=x:=by rw[Xe,K8];omega
 have I0:∀y∈(Qp ls).take x,y<256:=λy hy=>h8 y (aN hy)
 have Da:∀j,j<x->((Qp ls).take x)[j]? =(Qp ls)[j]? :=λj hj=>oZ hj
 have QZ:∀j,a<=j->j<x->((Qp ls).take x)[j]? ≠some 10:=λj ha hj hh=>by
  rw[Da j hj,e,WC (by omega),hp,fD (by omega)] at hh;exact hs (Xm hh)
 have ne:∀j,j<x->∃b,((Qp ls).take x)[j]? =some b:=λj hj=>⟨_,Xp (by rw[K8];omega)⟩
 have ur:0<a->((Qp ls).take x)[a-1]? =some 10∨x<a:=λh0=>by
  left
  rw[Da (a-1) (by omega),e,fD (by omega)];rcases ht with ht | ht
  ·subst ht;simp at hp;omega
  ·rw[rL,hp] at ht;exact ht
 rcases Lib.lastIndexByte_spec (Qd ((Qp ls).take x)) 10 with⟨k1,k2⟩ | ⟨i,i1,i2,i3,i4⟩
 ·rw[k1];by_cases h0:a=0
  ·subst h0;rfl
  ·exfalso;rcases ur (by omega)with hh | hh
   ·have:=GF I0 hh;exact k2 (a-1) (by rw[XJ];omega) (by rw[this];rfl)
   ·omega
 ·rw[XJ] at i1;obtain⟨b,hb⟩:=ne i i1;have qy:b=10:=by
   have:=GF I0 hb;rw[this] at i3
   exact_mod_cast i3
  subst qy;rw[i2];have hia:i<a:=by
   apply Classical.byContradiction;intro hh;exact QZ i (by omega) i1 hb
  rcases ur (by omega)with hh | hh
  ·have Zz:i=a-1:=by
    apply Classical.byContradiction;intro wM;have:=GF I0 hh;exact i4 (a-1) (by omega) (by rw[XJ];omega) (by rw[this];rfl)
   omega
  ·omega
theorem GG {ls:List (List Nat)}(hL:kB ls){a:Nat}{s:List Nat}(h:(a,s)∈Z6 0 ls):gP 10 ((Qp ls).drop a)=s.length/\((Qp ls).drop a).take (s.length+1)=s++ [10]:=by
 obtain⟨pre,Wz,e,hp,ht,hs⟩:=GE hL h;have e2:(Qp ls).drop a=s++10::Wz:=by rw[e,<-hp,o0]
 rw[e2];constructor
 ·unfold gP;rw[Qf (by simp)];congr 1;clear e e2 h;induction s with
  | nil=>simp
  | cons b s ih=>
   simp only[Q1,not_or] at hs;rw[YF,WD,Qf (by simpa using λe:b=10=>hs.1 e.symm),Q6,ih hs.2,Q6]
 ·rw[show s++10::Wz=(s++ [10])++Wz by simp,List.take_left' (by simp)]
theorem iQB {ls:List (List Nat)}(hL:kB ls){a:Nat}{s:List Nat}(h:(a,s)∈Z6 0 ls):ZG (Qp ls) a (a+s.length+1)=s++ [10]:=by
 unfold ZG;rw[show a+s.length+1-a=s.length+1 by omega];exact(GG hL h).2
theorem Tl {ls:List (List Nat)}{e:Ed}(h:(Z6 0 ls).any (jl e)=true):0<=e.fr/\e.fr<=e.to_/\e.to_<(Qp ls).length:=by
 obtain⟨⟨a,s⟩,hm,hp⟩:=uR.1 h;obtain⟨p1,p2,p3,p4⟩:=aQ hp;have:=mM hm;simp only at p1 p2;omega
def XZ (e:EdV):List Value:=[.int .i64 e.fr,.int .i64 e.to_,.string (Qd e.tx),.slice e.x.A e.x.n e.x.c,.int .i64 e.x.r]
theorem eH (e:EdV):(XZ e).length=5:=rfl
structure EP where
 eb:Nat
 NA:Option Addr
 nn:Nat
 nc:Nat
 nm:List (List Nat)
 x:DV
 f:List Nat
 EA:Option Addr
 en:Nat
 ec:Nat
 es:List EdV
structure EK (w:World) (p:EP):Prop where
 blk:Blk w p.eb 99 [.slice p.NA p.nn p.nc,.slice p.x.A p.x.n p.x.c,.int .i64 p.x.r,.string (Qd p.f),.slice p.EA p.en p.ec]
 nms:Sl w 1 p.NA p.nn p.nc (XB p.nm)
 eds:SlS XZ 5 w p.EA p.en p.ec p.es
 sbs:∀e∈p.es,SB w e.x.A e.x.n e.x.c e.x.nd
theorem EK.ext {w w':World}{p:EP}(h:EK w p)(k:Ext w w'):EK w' p:=⟨h.blk.ext k,h.nms.ext k,h.eds.ext k,λe he=>(h.sbs e he).ext k⟩
structure EB (p:EP):Prop where
 n4:p.nm.length<=4
 nb:Ku p.nm
 nl:∀s∈p.nm,s.length<=1000
 f8:∀b∈p.f,b<256
 fl:p.f.length<=60000
 ok:Wt p.f
 i64:∀e∈p.es, -9223372036854775808<=e.fr/\e.fr<=9223372036854775807/\ -9223372036854775808<=e.to_/\e.to_<=9223372036854775807
 t8:∀e∈p.es,∀b∈e.tx,b<256
 tl:∀e∈p.es,e.tx.length<=1000
 el:p.es.length<=10
abbrev tq (p:EP):Prop:=p.es.all (λe=>Ka p.nm.length e.x.nd e.x.r)=true/\jm p.nm.length p.f 0 (p.es.map EdV.ed)=true
def jo (p:EP)(i:Nat):Int:=if i=0 then 0 else((p.es[i-1]?).map (·.fr)).getD 0
abbrev wo (p:EP)(i:Nat):Prop:=(p.es.drop i).all (λe=>Ka p.nm.length e.x.nd e.x.r)=true/\jm p.nm.length p.f (jo p i) ((p.es.drop i).map EdV.ed)=true
theorem iQC {p:EP}{i:Nat}{e:EdV}(h:p.es[i]? =some e):wo p i↔(Ka p.nm.length e.x.nd e.x.r=true/\QL p.nm.length (oD e.x)≠ []/\(Z6 0 (QR p.f)).any (jl e.ed)=true/\jo p i<=e.fr)/\wo p (i+1):=by
 have Xc:=(ZY.1 h).1;have hd:p.es.drop i=e::p.es.drop (i+1):=by
  rw[W9 Xc];congr 1;rw[Xp Xc] at h;exact Option.some.inj h
 have hp:jo p (i+1)=e.fr:=by unfold jo;rw[if_neg (by omega),show i+1-1=i by omega,h]<;>rfl
 unfold wo;rw[hd,hp];simp only[yS,Vl,jm,Gq,Jl,Vm];constructor
 ·rintro⟨⟨a,b⟩,⟨⟨c,d⟩,e1⟩,f⟩;exact⟨⟨a,c,d,e1⟩,b,f⟩
 ·rintro⟨⟨a,c,d,e1⟩,b,f⟩;exact⟨⟨a,b⟩,⟨⟨c,d⟩,e1⟩,f⟩
theorem Tm (l:List Nat)(w:World)(hl:l.length<=1000000000):
  Fn Tryz.prog 93 [.string (Qd l),.int .u8 10] w (λv w'=>v= .int .i64 (Lib.lastIndexByte (Qd l) 10)/\w=w'):=
 vT (Tryz.strings_LastIndexByte (Qd l) 10 (by rw[Xe];omega) w)
theorem iQD (p:EP)(hB:EB p)(w:World)(K:EK w p):
  FnP Tryz.prog 45 [.pointer (some ⟨p.eb,0,none⟩)] w (λ_ w'=>tq p/\Ext w w') (λch w'=>¬tq p/\ch=jn 291/\Ext w w'):=by
 have yI:=K.eds.2;have Mt:=K.eds.1.cap;have mQg:=K.eds.1.le;simp only[maxLen] at Mt;have QY:p.nm.length=p.nn:=by have:=K.nms.len;rw[aU] at this;omega
 refine aR (c:={c45 with cuts:=[]}) Qa Tryz.func45 rfl rfl rfl ?_;refine Qo K.blk rfl ?_;refine loop Qa [11] (λi:Nat=>[.int .i64 i]) (λi w'=>Ext w w'/\i<=p.en/\(tq p↔wo p i)) (λi _=>p.en-i) 0 rfl ⟨Ext.refl _,Xr _,Iff.rfl⟩ ?_;rintro i w1 ⟨Qe,hi,yJ⟩;refine Qz (λc1=>?_) (λc1=>?_)
 ·have QZ:i<p.en:=by omega
  refine Zv eH (K.eds.ext Qe) rfl QZ (λad e he hc=>?_);have jO:=Xm he;obtain⟨i1,i2,i3,i4⟩:=hB.i64 e jO;rw[iQC he] at yJ;refine Kn (vs:=XZ e) rfl hc ?_;refine new (λw2 Qg Zb Qx=>?_);refine Qv Qx rfl (sc rfl) (λw3 Z7 _ Qu=>?_);have XI:Ext w1 w3:=X9 Qg Qx Z7;have QX:=Qe.trans XI;have K3:=K.ext QX;have hd:=Ext.drew w3;have Di:∀{w':World} (Qb:Ext w3 w') (j:Nat) (u:Value),(XZ e)[3+j]? =some u->w'.cell? (((⟨w1.heap.size,0,none⟩:Addr).add 3).add j)=some u:=λQb j u hj=>by rw[add_add,(Qu.ext Qb).cell];exact hj
  refine XK Qa (Ext w3) 55 [(true,0),(true,1),(true,2),(true,3),(true,4),(true,5),(true,6),(false,7),(true,8),(true,9),(true,10),(true,11),(true,12),(true,13),(true,14),(true,15),(true,16),(true,17),(true,18),(true,19),(true,20),(true,21),(true,22),(true,23),(true,24),(true,25),(true,26),(true,27),(true,28),(true,29),(true,30),(true,31),(true,32),(true,33),(true,34),(true,35),(true,36),(true,37),(true,38),(true,39),(true,40),(true,41),(true,42),(true,43),(true,44),(true,45),(true,46),(true,47),(true,48),(true,49),(true,50),(true,51),(true,52),(true,53),(true,54)] (by kernel_rfl) hd ?_;refine Xs (vs:=[.slice e.x.A e.x.n e.x.c,.int .i64 e.x.r]) rfl (λw' Qb j u hj=>Di Qb j u (by match j,hj with | 0,hj=>exact hj | 1,hj=>exact hj)) ?_;refine QK (v:=.slice p.NA p.nn p.nc) (λw' Qb=>(K3.blk.ext Qb).cell 0) ?_;rw[<-QY];refine call (F5 e.x.A e.x.n e.x.c p.nm.length e.x.nd e.x.r w3.drew ((K3.sbs e jO).ext hd)) ?_;rintro _ w4 ⟨rfl,Qs⟩;have KR:=hd.trans Qs;have XG:=QX.trans KR;refine⟨KR,?_⟩;have no:¬(Ka p.nm.length e.x.nd e.x.r=true/\QL p.nm.length (oD e.x)≠ []/\(Z6 0 (QR p.f)).any (jl e.ed)=true/\jo p i<=e.fr)->¬tq p:=λXi hh=>Xi (yJ.1 hh).1
  have Mu:(Z6 0 (QR p.f)).any (jl e.ed)=true->0<=e.fr/\e.fr<=e.to_/\e.to_<p.f.length:=λh=>by
   have:=Tl h;rw[V4 hB.ok] at this;exact this
  have ct:=Xe p.f;cases VE:Ka p.nm.length e.x.nd e.x.r with
  | false=>
   refine Q8 rfl ?_;refine XO (YM 291 (by decide) w4) (λ_ _ hf=>hf.elim) ?_;rintro ch _ ⟨rfl,rfl⟩;exact⟨no (λhh=>by rw[VE] at hh;cases hh.1),rfl,XG⟩
  | true=>
   refine Q3 rfl ?_;have se:=gU VE;have jw:=se.root0;refine QK (v:=.int .i64 e.x.r) (λw' Qb=>Di Qb 1 _ rfl) ?_;refine X3 (λhz=>?_) (λhz=>?_)
   ·refine XO (YM 291 (by decide) w4) (λ_ _ hf=>hf.elim) ?_;rintro ch _ ⟨rfl,rfl⟩;exact⟨no (λhh=>hh.2.1 (jw.1 hz)),rfl,XG⟩
   refine QK (v:=.int .i64 e.fr) (λw' Qb=>(Qu.ext Qb).cell 0) ?_;refine Qz (λh1=>?_) (λh1=>?_)
   ·refine XO (YM 291 (by decide) w4) (λ_ _ hf=>hf.elim) ?_;rintro ch _ ⟨rfl,rfl⟩;exact⟨no (λhh=>by have:=Mu hh.2.2.1;omega),rfl,XG⟩
   refine QK (v:=.int .i64 e.to_) (λw' Qb=>(Qu.ext Qb).cell 1) ?_;refine QK (v:=.int .i64 e.fr) (λw' Qb=>(Qu.ext Qb).cell 0) ?_;refine Qz (λh2=>?_) (λh2=>?_)
   ·refine XO (YM 291 (by decide) w4) (λ_ _ hf=>hf.elim) ?_;rintro ch _ ⟨rfl,rfl⟩;exact⟨no (λhh=>by have:=Mu hh.2.2.1;omega),rfl,XG⟩
   refine QK (v:=.int .i64 e.to_) (λw' Qb=>(Qu.ext Qb).cell 1) ?_;refine QK (v:=.string (Qd p.f)) (λw' Qb=>(K3.blk.ext Qb).cell 3) ?_;refine Qz (λh3=>?_) (λh3=>?_)
   ·refine XO (YM 291 (by decide) w4) (λ_ _ hf=>hf.elim) ?_;rintro ch _ ⟨rfl,rfl⟩;exact⟨no (λhh=>by have:=Mu hh.2.2.1;omega),rfl,XG⟩
   have qF:(i:Int)<=9223372036854775807:=by omega
   refine Qz (λh4=>?_) (λh4=>?_)
   ·have hi0:0<i:=by omega
    refine QK (v:=.int .i64 e.fr) (λw' Qb=>(Qu.ext Qb).cell 0) ?_;refine QK (v:=.slice p.EA p.en p.ec) (λw' Qb=>(K3.blk.ext Qb).cell 4) ?_;refine Qi ((i-1:Nat):Int) (by omega) (by omega) ?_;refine Zv eH K3.eds rfl (by omega) (λua e2 he2 Yx=>?_);refine QK (v:=.int .i64 e2.fr) (λw' Qb=>(Qb.cell (Yx 0 _ rfl))) ?_;have hpv:jo p i=e2.fr:=by unfold jo;rw[if_neg (by omega),he2]<;>rfl
    refine Qz (λh9=>?_) (λh9=>?_)
    ·refine XO (YM 291 (by decide) w4) (λ_ _ hf=>hf.elim) ?_;rintro ch _ ⟨rfl,rfl⟩;exact⟨no (λhh=>by have:=hh.2.2.2;rw[hpv] at this;omega),rfl,XG⟩
    have Mv:jo p i<=e.fr:=by rw[hpv];omega
    have cV:e.fr=(e.fr.toNat:Int):=by omega
    obtain⟨a,s,hm,a1,a2⟩:=Gr (ls:=QR p.f) (p:=0) (x:=e.fr.toNat) (Xr _) (by rw[V4 hB.ok];omega);have iO:=kC p.f;have JQ:=V4 hB.ok;have yK:=Tk iO (by rw[JQ];exact hB.f8) hm a1 a2;have lM:=GG iO hm;have yL:=mM hm;rw[JQ] at yK lM yL;have rD:=S3 (e:=e.ed) hm (by show(a:Int)<=e.fr;omega) (by show e.fr<=a+s.length;omega) (by show e.fr<=e.to_;omega);have de:=Ext.drew w4;refine XK Qa (Ext w4) 10 [(true,0),(true,1),(true,2),(true,3),(true,4),(true,5),(true,6),(false,7),(true,8),(true,9)] (by kernel_rfl) de ?_;refine QK (v:=.string (Qd p.f)) (λw' Qb=>((K3.blk.ext KR).ext Qb).cell 3) ?_;refine QK (v:=.int .i64 e.fr) (λw' Qb=>((Qu.ext KR).ext Qb).cell 0) ?_;refine XH (v':=.string (Qd (p.f.take e.fr.toNat))) ⟨by omega,by omega,by rw[ct];omega⟩ (by rw[KY];rfl) ?_;refine call (Tm (p.f.take e.fr.toNat) w4.drew (by rw[K8];have:=hB.fl;omega)) ?_;rintro _ _ ⟨rfl,rfl⟩;refine⟨de,?_⟩;rw[yK];refine Qi (a:Int) (by omega) (by have:=hB.fl;omega) ?_;have lN:=KR.trans de;have fy:=QX.trans lN;refine Qo (K3.blk.ext lN) rfl ?_;refine XH (v':=.string (Qd (p.f.drop a))) ⟨by omega,by rw[ct];omega,by rw[ct];omega⟩ (by
     rw[KY,ct];show Value.string (Qd ((p.f.take p.f.length).drop _))=_;rw[Jc (QB _)];rfl) ?_
    refine call (Fw (p.f.drop a) 10 w4.drew (λx hx=>hB.f8 x (aM hx)) (by decide)) ?_;rintro _ _ ⟨rfl,rfl⟩;rw[lM.1];refine Qi ((a+s.length:Nat):Int) (by omega) (by have:=hB.fl;omega) ?_;refine Qo (Qu.ext lN) rfl ?_;refine Qz (λh5=>?_) (λh5=>?_)
    ·refine XO (YM 291 (by decide) w4.drew) (λ_ _ hf=>hf.elim) ?_;rintro ch _ ⟨rfl,rfl⟩;exact⟨no (λhh=>by have h7:=hh.2.2.1;rw[rD,Vm] at h7;have h8:e.to_<=_:=h7.1;omega),rfl,fy⟩
    refine Qo (K3.blk.ext lN) rfl ?_;refine Qi ((a+s.length+1:Nat):Int) (by omega) (by have:=hB.fl;omega) ?_;refine XH (v':=.string (Qd (s++ [10]))) ⟨by omega,by omega,by rw[ct];omega⟩ (by
     rw[KY];show Value.string (Qd ((p.f.take (a+s.length+1)).drop a))=_;rw[fE,show a+s.length+1-a=s.length+1 by omega,lM.2]) ?_
    have xG:∀b∈s++ [10],b<256:=λb hb=>by
     rw[<-lM.2] at hb;exact hB.f8 b (aM (aN hb))
    refine call (AF (s++ [10]) w4.drew xG) ?_;rintro _ w6 ⟨rfl,QO⟩;have XR:=fy.trans QO;rw[Ak];refine Qz (λh6=>?_) (λh6=>?_)
    ·refine XO (YM 291 (by decide) w6) (λ_ _ hf=>hf.elim) ?_;rintro ch _ ⟨rfl,rfl⟩;exact⟨no (λhh=>by have h7:=hh.2.2.1;rw[rD,Vm] at h7;exact h6 h7.2),rfl,XR⟩
    refine Qi ((i+1:Nat):Int) (by show((i:Nat):Int)+1=_;omega) (by omega) ?_;have Mw:(Z6 0 (QR p.f)).any (jl e.ed)=true:=by
     rw[rD,Vm];exact⟨by show e.to_<=_;omega,Decidable.not_not.1 h6⟩
    exact⟨i+1,rfl,⟨XR,QZ,yJ.trans ⟨λh=>h.2,λh=>⟨⟨VE,λe0=>hz (jw.2 e0),Mw,Mv⟩,h⟩⟩⟩,by show p.en-(i+1)<p.en-i;omega⟩
   ·have hi0:i=0:=by omega
    have Mv:jo p i<=e.fr:=by unfold jo;rw[Qf hi0];omega
    have cV:e.fr=(e.fr.toNat:Int):=by omega
    obtain⟨a,s,hm,a1,a2⟩:=Gr (ls:=QR p.f) (p:=0) (x:=e.fr.toNat) (Xr _) (by rw[V4 hB.ok];omega);have iO:=kC p.f;have JQ:=V4 hB.ok;have yK:=Tk iO (by rw[JQ];exact hB.f8) hm a1 a2;have lM:=GG iO hm;have yL:=mM hm;rw[JQ] at yK lM yL;have rD:=S3 (e:=e.ed) hm (by show(a:Int)<=e.fr;omega) (by show e.fr<=a+s.length;omega) (by show e.fr<=e.to_;omega);have de:=Ext.drew w4;refine XK Qa (Ext w4) 10 [(true,0),(true,1),(true,2),(true,3),(true,4),(true,5),(true,6),(false,7),(true,8),(true,9)] (by kernel_rfl) de ?_;refine QK (v:=.string (Qd p.f)) (λw' Qb=>((K3.blk.ext KR).ext Qb).cell 3) ?_;refine QK (v:=.int .i64 e.fr) (λw' Qb=>((Qu.ext KR).ext Qb).cell 0) ?_;refine XH (v':=.string (Qd (p.f.take e.fr.toNat))) ⟨by omega,by omega,by rw[ct];omega⟩ (by rw[KY];rfl) ?_;refine call (Tm (p.f.take e.fr.toNat) w4.drew (by rw[K8];have:=hB.fl;omega)) ?_;rintro _ _ ⟨rfl,rfl⟩;refine⟨de,?_⟩;rw[yK];refine Qi (a:Int) (by omega) (by have:=hB.fl;omega) ?_;have lN:=KR.trans de;have fy:=QX.trans lN;refine Qo (K3.blk.ext lN) rfl ?_;refine XH (v':=.string (Qd (p.f.drop a))) ⟨by omega,by rw[ct];omega,by rw[ct];omega⟩ (by
     rw[KY,ct];show Value.string (Qd ((p.f.take p.f.length).drop _))=_;rw[Jc (QB _)];rfl) ?_
    refine call (Fw (p.f.drop a) 10 w4.drew (λx hx=>hB.f8 x (aM hx)) (by decide)) ?_;rintro _ _ ⟨rfl,rfl⟩;rw[lM.1];refine Qi ((a+s.length:Nat):Int) (by omega) (by have:=hB.fl;omega) ?_;refine Qo (Qu.ext lN) rfl ?_;refine Qz (λh5=>?_) (λh5=>?_)
    ·refine XO (YM 291 (by decide) w4.drew) (λ_ _ hf=>hf.elim) ?_;rintro ch _ ⟨rfl,rfl⟩;exact⟨no (λhh=>by have h7:=hh.2.2.1;rw[rD,Vm] at h7;have h8:e.to_<=_:=h7.1;omega),rfl,fy⟩
    refine Qo (K3.blk.ext lN) rfl ?_;refine Qi ((a+s.length+1:Nat):Int) (by omega) (by have:=hB.fl;omega) ?_;refine XH (v':=.string (Qd (s++ [10]))) ⟨by omega,by omega,by rw[ct];omega⟩ (by
     rw[KY];show Value.string (Qd ((p.f.take (a+s.length+1)).drop a))=_;rw[fE,show a+s.length+1-a=s.length+1 by omega,lM.2]) ?_
    have xG:∀b∈s++ [10],b<256:=λb hb=>by
     rw[<-lM.2] at hb;exact hB.f8 b (aM (aN hb))
    refine call (AF (s++ [10]) w4.drew xG) ?_;rintro _ w6 ⟨rfl,QO⟩;have XR:=fy.trans QO;rw[Ak];refine Qz (λh6=>?_) (λh6=>?_)
    ·refine XO (YM 291 (by decide) w6) (λ_ _ hf=>hf.elim) ?_;rintro ch _ ⟨rfl,rfl⟩;exact⟨no (λhh=>by have h7:=hh.2.2.1;rw[rD,Vm] at h7;exact h6 h7.2),rfl,XR⟩
    refine Qi ((i+1:Nat):Int) (by show((i:Nat):Int)+1=_;omega) (by omega) ?_;have Mw:(Z6 0 (QR p.f)).any (jl e.ed)=true:=by
     rw[rD,Vm];exact⟨by show e.to_<=_;omega,Decidable.not_not.1 h6⟩
    exact⟨i+1,rfl,⟨XR,QZ,yJ.trans ⟨λh=>h.2,λh=>⟨⟨VE,λe0=>hz (jw.2 e0),Mw,Mv⟩,h⟩⟩⟩,by show p.en-(i+1)<p.en-i;omega⟩
 ·have QZ:i=p.en:=by omega
  have cr:p.es.drop i=[]:=o7 (by omega);exact⟨yJ.2 (by unfold wo;rw[cr];exact⟨rfl,rfl⟩),Qe⟩
def cQ (n:Nat)(f:List Nat)(o:BF)(a:Nat)(es:List Ed):List AV:=es.foldl (λvs e=>vs.flatMap (V9 n f e)) [⟨o,[],a⟩]
theorem iQE (n:Nat)(f:List Nat)(o:BF)(a:Nat)(es:List Ed)(e:Ed):cQ n f o a (es++ [e])=(cQ n f o a es).flatMap (V9 n f e):=by unfold cQ;rw[D9]<;>rfl
theorem mN {α:Type}{l:List α}{i:Nat}{x:α}(h:l[i]? =some x):l.take (i+1)=l.take i++ [x]:=by rw[K9,h]<;>rfl
theorem AZ {n:Nat}{f:List Nat}{o:BF}{a:Nat}(QU:QL n o≠ []):∀(es:List Ed),VI n f (QL n o) a es (cQ n f o a es):=by
 have key:∀(es pre:List Ed) (vs:List AV),VI n f (QL n o) a pre vs->VI n f (QL n o) a (pre++es) (es.foldl (λvs e=>vs.flatMap (V9 n f e)) vs):=by
  intro es;induction es with
  | nil=>intro pre vs h;simpa using h
  | cons e es ih=>
   intro pre vs h;have:=ih (pre++ [e]) (vs.flatMap (V9 n f e)) (h.step (λc hc=>(Js.1 hc).1) e);simpa using this
 intro es;have:=key es [] _ (VI.start (f:=f) (a:=a) QU);rw[bF] at this;exact this
theorem iQF (n:Nat)(f:List Nat)(e:Ed)(v:AV):(V9 n f e v).length<=2:=by
 unfold V9;split
 ·split<;>simp
 ·simp only[Q6];split<;>simp
theorem GH (n:Nat)(f:List Nat)(e:Ed):∀vs:List AV,(vs.flatMap (V9 n f e)).length<=2*vs.length
 | []=>by simp
 | v::vs=>by
  rw[Yl,Qq,Q6];have:=iQF n f e v;have:=GH n f e vs;omega
theorem iQG (n:Nat)(f:List Nat)(o:BF)(a:Nat):∀(es:List Ed),(cQ n f o a es).length<=2^es.length:=by
 have key:∀(es:List Ed) (vs:List AV),(es.foldl (λvs e=>vs.flatMap (V9 n f e)) vs).length<=2^es.length*vs.length:=by
  intro es;induction es with
  | nil=>intro vs;simp
  | cons e es ih=>
   intro vs;have h1:=ih (vs.flatMap (V9 n f e));have h2:=GH n f e vs;have h3:=Nat.mul_le_mul_left (2^es.length) h2;rw[oU,Q6,lT,Nat.mul_assoc];omega
 intro es;have:=key es [⟨o,[],a⟩];simpa [cQ] using this
structure VB (B T:Nat) (v:AV):Prop where
 b8:∀b∈v.d,b<256
 ln:v.d.length<=B
 at_:v.a<=T
theorem mO (f:List Nat)(a b:Nat):(ZG f a b).length<=f.length:=by unfold ZG;rw[K8,Wj];omega
theorem pW {f:List Nat}(h:∀b∈f,b<256)(x y:Nat):∀b∈ZG f x y,b<256:=λb hb=>h b (aM (aN hb))
theorem VB.step {B T:Nat}{v:AV}(h:VB B T v){n:Nat}{f:List Nat}{e:Ed}(hf:∀b∈f,b<256)(ZT:f.length<=60000)(ht:∀b∈e.tx,b<256)(Wc:e.tx.length<=1000)(he:e.to_.toNat<=T):∀u∈V9 n f e v,VB (B+70000) T u:=λu hu=>by
 unfold V9 at hu;split at hu
 ·split at hu
  ·cases hu
  ·rw[QN.1 hu];exact⟨h.b8,by have:=h.ln;omega,h.at_⟩
 ·rcases Q1.1 hu with rfl | hu
  ·refine⟨λb hb=>?_,?_,he⟩
   ·simp only[XM] at hb;rcases hb with(hb | hb) | hb
    ·exact h.b8 b hb
    ·exact pW hf _ _ b hb
    ·exact ht b hb
   ·simp only[Qq];have:=h.ln;have:=mO f v.a e.fr.toNat;omega
  ·split at hu
   ·cases hu
   ·rw[QN.1 hu];exact⟨h.b8,by have:=h.ln;simp only;omega,h.at_⟩
theorem iQH {n:Nat}{f:List Nat}{o:BF}{a T:Nat}(hf:∀b∈f,b<256)(ZT:f.length<=60000)(haT:a<=T):∀(es:List Ed),(∀e∈es,(∀b∈e.tx,b<256)/\e.tx.length<=1000/\e.to_.toNat<=T)->∀v∈cQ n f o a es,VB (es.length*70000) T v:=by
 have key:∀(es:List Ed) (vs:List AV) (B:Nat),(∀e∈es,(∀b∈e.tx,b<256)/\e.tx.length<=1000/\e.to_.toNat<=T)->(∀v∈vs,VB B T v)->∀v∈es.foldl (λvs e=>vs.flatMap (V9 n f e)) vs,VB (B+es.length*70000) T v:=by
  intro es;induction es with
  | nil=>intro vs B _ h v hv;simpa using h v hv
  | cons e es ih=>
   intro vs B he h v hv;obtain⟨e1,e2,e3⟩:=he e (by simp);have:=ih (vs.flatMap (V9 n f e)) (B+70000) (λb hb=>he b (by simp[hb])) (λu hu=>by
    obtain⟨v0,eU,hu⟩:=WE.1 hu;exact(h v0 eU).step hf ZT e1 e2 e3 u hu) v hv
   rw[Q6,oW,yY];rw[show B+(es.length*70000+70000)=B+70000+es.length*70000 by omega];exact this
 intro es he v hv;have:=key es [⟨o,[],a⟩] 0 he (λv hv=>by rw[QN.1 hv];exact⟨(λb hb=>by cases hb),Xr _,haT⟩) v hv
 rwa [Wh] at this
theorem iQI {n:Nat}{f:List Nat}{o:BF}{a i:Nat}{es:List Ed}{e:Ed}(QU:QL n o≠ [])(ha:bS (QL n o) es=true)(hi:es[i]? =some e)(h0:(a:Int)<=e.fr)(hp:∀b∈es,0<=b.to_){v:AV}(hv:v∈cQ n f o a (es.take i))(hb:QL n (ZW v.o e.o)≠ []):(v.a:Int)<=e.fr:=by
 obtain⟨c,hc⟩:=y8 _ hb;obtain⟨c1,c2⟩:=Js.1 hc;have c2:(v.o (bits c)&&e.o (bits c))=true:=c2;rw[Jl] at c2;obtain⟨q1,q2⟩:=(AZ (f:=f) (a:=a) QU (es.take i)).st v hv c (Js.2 ⟨c1,c2.1⟩);have:=S5 (f:=f) ha (a:=a) hi q1 c2.2 h0 hp;rw[q2] at this;exact this
theorem iQJ {n:Nat}{f:List Nat}{o:BF}{a stop:Nat}{es:List Ed}(QU:QL n o≠ []):((QL n o).all (λc=>V6 (WR f stop a es c))=true)↔∀v∈cQ n f o a es,V6 (v.d++ZG f v.a stop)=true:=by
 have hI:=AZ (f:=f) (a:=a) QU es;constructor
 ·intro h v hv;obtain⟨c,hc⟩:=y8 _ (hI.ne v hv);obtain⟨q1,q2⟩:=hI.st v hv c hc;have:=Ym.1 h c q1;unfold WR at this;rw[q2] at this;exact this
 ·intro h;refine Ym.2 (λc hc=>?_);obtain⟨v,hv,oM⟩:=hI.cov c hc;obtain⟨_,q2⟩:=hI.st v hv c (Js.2 ⟨(Js.1 hc).1,oM⟩);unfold WR;rw[q2];exact h v hv
def kO (f:List Nat)(stop:Nat)(vs:List AV):List Pr:=vs.foldl (λps v=>cP ps v.o (v.d++ZG f v.a stop)) []
theorem iQK (f:List Nat)(stop:Nat)(vs:List AV)(v:AV):kO f stop (vs++ [v])=cP (kO f stop vs) v.o (v.d++ZG f v.a stop):=by unfold kO;rw[D9]<;>rfl
theorem iQL {n:Nat}{f:List Nat}{o:BF}{a stop:Nat}{es:List Ed}(QU:QL n o≠ []):QI n (QL n o) (WR f stop a es) (cQ n f o a es) (kO f stop (cQ n f o a es)):=by
 have hI:=AZ (f:=f) (a:=a) QU es;generalize cQ n f o a es=V at*;have key:∀(vs pre:List AV) (ps:List Pr),(∀v∈vs,v∈V)->QI n (QL n o) (WR f stop a es) pre ps->QI n (QL n o) (WR f stop a es) (pre++vs) (vs.foldl (λps v=>cP ps v.o (v.d++ZG f v.a stop)) ps):=by
  intro vs;induction vs with
  | nil=>intro pre ps _ h;simpa using h
  | cons v vs ih=>
   intro pre ps hV h;have:=ih (pre++ [v]) _ (λu hu=>hV u (by simp[hu])) (h.ins (v:=v) (t:=v.d++ZG f v.a stop) (λc hc=>by
    obtain⟨q1,q2⟩:=hI.st v (hV v (by simp)) c hc;refine⟨q1,?_⟩;unfold WR;rw[q2]))
   simpa using this
 have:=key V [] [] (λv hv=>hv) QI.nil;rw[bF] at this;exact this
theorem Tn {f:List Nat}{stop:Nat}{P:List Nat->Prop}:∀(vs:List AV),(∀v∈vs,P (v.d++ZG f v.a stop))->∀q∈kO f stop vs,P q.t:=by
 have key:∀(vs:List AV) (ps:List Pr),(∀v∈vs,P (v.d++ZG f v.a stop))->(∀q∈ps,P q.t)->∀q∈vs.foldl (λps v=>cP ps v.o (v.d++ZG f v.a stop)) ps,P q.t:=by
  intro vs;induction vs with
  | nil=>intro ps _ h;exact h
  | cons v vs ih=>
   intro ps hv h;refine ih _ (λu hu=>hv u (by simp[hu])) (λq hq=>?_);have hq:q∈cP ps v.o (v.d++ZG f v.a stop):=hq;unfold cP at hq;split at hq
   ·rename_i p hp;rcases M7 hq with hq | rfl
    ·exact h q hq
    ·exact h p (Xm hp)
   ·rcases XM.1 hq with hq | hq
    ·exact h q hq
    ·rw[QN.1 hq];exact hv v (by simp)
 intro vs hv;exact key vs [] hv (λq hq=>by cases hq)
theorem To {α:Type}{f:α->List Value}{sz:Nat}(hf:∀x,(f x).length=sz):∀(l:Nat)(L:List α),(L.drop l).flatMap f=(L.flatMap f).drop (l*sz)
 | 0,L=>by simp
 | l+1,[]=>by simp
 | l+1,x::L=>by
  rw[M0,To hf l L,Yl,oW,yY,yP,<-lP];congr 1;rw[<-hf x,o0]
theorem SlS.from {α:Type}{f:α->List Value}{sz:Nat}(hf:∀x,(f x).length=sz){w:World}{A:Option Addr}{n c l:Nat}{L:List α}(h:SlS f sz w A n c L)(hl:l<=n):SlS f sz w (if c=l then A else A.map (·.add (l*sz))) (n-l) (c-l) (L.drop l):=by
 have h1:=h.1.len;have h2:=h.1.le;have h3:=h.1.cap;refine⟨?_,by rw[Wj,h.2]⟩;rw[To hf];refine⟨by rw[Wj,h1,<-Nat.sub_mul],by omega,by omega,λh0=>?_⟩;obtain⟨ad,rfl,hc⟩:=h.1.at_ (by omega);refine⟨ad.add (l*sz),by rw[if_neg (by omega)];rfl,λj u hu=>?_⟩;rw[Addr.add_add];exact hc _ _ (by rw[D5] at hu;exact hu)
theorem Tp {n:Nat}(hn:n<=12){x y:DV}{o o':BF}(s:Set1 n x.nd x.r o)(s':Set1 n y.nd y.r o'):pP x.nd x.r y.nd y.r= !(WT (QL n o') o):=by
 cases hm:WT (QL n o') o with
 | true=>
  obtain⟨c,hc,hoc⟩:=uR.1 hm;refine FR (λh=>h.2.2 ⟨bits c,by rw[s.mean];exact hoc,by rw[s'.mean];exact(Js.1 hc).2⟩)
 | false=>
  refine RE ⟨s.chk hn,s'.chk hn,λ⟨e,h1,h2⟩=>?_⟩;rw[s.mean] at h1;rw[s'.mean] at h2;obtain⟨c,hc,hb⟩:=AM n e;have:WT (QL n o') o=true:=uR.2 ⟨c,Js.2 ⟨hc,by rw[s'.dep _ e hb];exact h2⟩,by rw[s.dep _ e hb];exact h1⟩;rw[hm] at this;cases this
theorem iQM {k:Nat}(hk:k<=12)(x y:DV){o o':BF}(w:World)(h:SB w x.A x.n x.c x.nd)(h':SB w y.A y.n y.c y.nd)(s:Set1 k x.nd x.r o)(s':Set1 k y.nd y.r o'):
  Fn Tryz.prog 101 [Xk x.A x.n x.c x.r,Xk y.A y.n y.c y.r] w (vY w k (λe=>o e||o' e)):=by
 refine(PU x.A x.n x.c x.nd x.r y.A y.n y.c y.nd y.r w h h').mono ?_;rw[gM hk s s' 1];have c1:Set1 k _ _ (λe=>o e||o' e):=(eC s s' 1).congr (λe=>by simp[Kv]);generalize VF x.nd x.r y.nd y.r 1=D at*;obtain⟨D1,D2⟩:=D;rintro v w' ⟨PA,q,pc,rfl,hE,hP,hR⟩;exact⟨PA,q,pc,D1,D2,rfl,hE,hP,c1,hR⟩
theorem iQN (q:DV×List Nat)(t:List Nat)(tb:Nat)(w:World)(hq:∀b∈q.2,b<256)(ht:∀b∈t,b<256)(hB:Blk w tb 9 [.string (Qd t)]):
  Fn Tryz.prog 99 [.agg (JX q).toArray,.pointer (some ⟨tb,0,none⟩)] w (λu w'=>u= .bool (decide (q.2=t))/\Ext w w'):=by
 refine QF (c:={c99 with cuts:=[]}) Qa Tryz.func99 rfl rfl rfl ?_;refine new (λw1 Qe Q4 Qh=>?_);refine Qo Qh rfl ?_;refine QD (hB.ext Qe) rfl ?_;refine⟨?_,Qe⟩;refine QC Value.bool ?_;refine uS.2 ⟨λe=>J8 hq ht e,λe=>by rw[e]⟩
theorem iQO (PA:Option Addr)(pn pc:Nat)(ps:List (DV×List Nat))(t:List Nat)(tb:Nat)(w:World)(h:SlS JX 3 w PA pn pc ps)(hp:∀q∈ps,∀b∈q.2,b<256)(ht:∀b∈t,b<256)(hB:Blk w tb 9 [.string (Qd t)]):
  Fn Tryz.prog 98 [.slice PA pn pc,.func (.func 99) #[] #[.pointer (some ⟨tb,0,none⟩)]] w (λu w'=>u= .int .i64 (if Y0 (Zs ps) t<pn then(Y0 (Zs ps) t:Int)else -1)/\Ext w w'):=by
 have hn:=h.2;have Zz:=h.1.le;have bz:=h.1.cap;have JE:(Zs ps).length=ps.length:=by simp[Zs]
 obtain⟨s1,s2⟩:=AW t (Zs ps);refine QF (c:={c98 with cuts:=[]}) Qa Tryz.func98 rfl rfl rfl ?_;refine loop Qa [8] (λi:Nat=>[.int .i64 i]) (λi w'=>Ext w w'/\i<=pn/\∀q∈ps.take i,q.2≠t) (λi _=>pn-i) 0 rfl ⟨Ext.refl _,Xr _,λq hq=>by simp at hq⟩ ?_;rintro i w1 ⟨Qe,hi,Xi⟩;have hge:i<=Y0 (Zs ps) t:=by
  apply Classical.byContradiction;intro hh;have Xc:Y0 (Zs ps) t<ps.length:=by omega
  obtain⟨q,hq⟩:∃q,ps[Y0 (Zs ps) t]? =some q:=⟨_,Xp Xc⟩
  have:=s1 ⟨oD q.1,q.2⟩ (by unfold Zs;rw[aL];show Option.map _ (ps[Y0 (Zs ps) t]?)=_;rw[hq];rfl);exact Xi q (Xm (i:=Y0 (Zs ps) t) (by rw[oZ (by omega)];exact hq)) this
 refine Qz (λc1=>?_) (λc1=>?_)
 ·have QZ:i<pn:=by omega
  refine Zv Gc (h.ext Qe) rfl QZ (λad q hq hc=>?_);have iM:=Xm hq;refine Kn (vs:=JX q) rfl hc ?_;refine call (iQN q t tb w1 (hp q iM) ht (hB.ext Qe)) ?_;rintro _ w2 ⟨rfl,Qg⟩;have iF:(Zs ps)[i]? =some ⟨oD q.1,q.2⟩:=by unfold Zs;rw[aL,hq]<;>rfl
  refine Qz (λd1=>?_) (λd1=>?_)
  ·have Kr:Y0 (Zs ps) t=i:=by
    apply Classical.byContradiction;intro hh;exact s2 i _ iF (by omega) d1
   rw[Kr,Qf QZ];exact⟨rfl,Qe.trans Qg⟩
  ·simp only[maxLen] at bz;refine Qi ((i+1:Nat):Int) (by show((i:Nat):Int)+1=_;omega) (by omega) ?_;refine⟨i+1,rfl,⟨Qe.trans Qg,QZ,λq' hq'=>?_⟩,by show pn-(i+1)<pn-i;omega⟩;rw[K9,hq] at hq';rcases XM.1 hq' with hq' | hq'
   ·exact Xi q' hq'
   ·have:q'=q:=by simpa using hq'
    rw[this];exact d1
 ·have QZ:i=pn:=by omega
  rw[if_neg (by omega)];exact⟨rfl,Qe⟩
theorem iQP {j:Nat}{vs l:List Value}{c:Value}(h:l[j+vs.length]? =some c):KX j vs l=KX j (vs++ [c]) l:=by
 have Xc:=(ZY.1 h).1;rw[i5 j vs l (by omega),i5 j (vs++ [c]) l (by simp;omega)];rw[J7,J7,J7];congr 2;rw[W9 Xc,Qq,o6];have:l[j+vs.length]=c:=by rw[Xp Xc] at h;exact Option.some.inj h
 rw[this]<;>rfl
theorem iQQ (f:List Nat)(stop:Nat):∀vs:List AV,(kO f stop vs).length<=vs.length:=by
 have key:∀(vs:List AV) (ps:List Pr),(vs.foldl (λps v=>cP ps v.o (v.d++ZG f v.a stop)) ps).length<=ps.length+vs.length:=by
  intro vs;induction vs with
  | nil=>intro ps;simp
  | cons v vs ih=>
   intro ps;have h1:=ih (cP ps v.o (v.d++ZG f v.a stop));have h2:(cP ps v.o (v.d++ZG f v.a stop)).length<=ps.length+1:=by
    unfold cP;split
    ·rw[fB];omega
    ·simp
   rw[oU,Q6];omega
 intro vs;have:=key vs [];simpa [kO] using this
theorem GI {n:Nat}{qs:List (DV×Pr)}(h:∀q∈qs,Set1 n q.1.nd q.1.r q.2.o):Zs (qs.map (λq=>(q.1,q.2.t)))=qs.map (·.2):=by
 unfold Zs;rw[oV];refine List.map_congr_left (λq hq=>?_);have:oD q.1=q.2.o:=funext (λe=>(h q hq).mean e);show(⟨oD q.1,q.2.t⟩:Pr)=q.2;rw[this]
theorem eI {ad:Addr}{n j sz:Nat}{K:Addr->Prop}(h:j<n)(k:K (ad.add (j*sz))):Wl (some ad) n (j:Int) sz K:=by
 unfold Wl;exact⟨ad,rfl,by omega,by omega,by simpa using k⟩
def Vq (v:DV×AV):List Value:=[.slice v.1.A v.1.n v.1.c,.int .i64 v.1.r,.string (Qd v.2.d),.int .i64 v.2.a]
theorem Tq (v:DV×AV):(Vq v).length=4:=rfl
def Ya (q:DV×Pr):List Value:=JX (q.1,q.2.t)
theorem A0 (q:DV×Pr):(Ya q).length=3:=rfl
theorem GJ (l:List (DV×Pr)):l.flatMap Ya=(l.map (λq=>(q.1,q.2.t))).flatMap JX:=by rw[List.flatMap_map]<;>rfl
theorem iQR (e:EdV):∀u∈XZ e,JG u=true:=sc rfl
theorem GK (v:DV×AV):∀u∈Vq v,JG u=true:=sc rfl
theorem iQS (v:DV×List Nat):∀u∈JX v,JG u=true:=sc rfl
theorem iQT {p:EP}(hV:tq p):∀e∈p.es,Ka p.nm.length e.x.nd e.x.r=true/\(Z6 0 (QR p.f)).any (jl e.ed)=true:=by
 obtain⟨h1,h2⟩:=hV;have key:∀(es:List Ed) (q:Int),jm p.nm.length p.f q es=true->∀e∈es,(Z6 0 (QR p.f)).any (jl e)=true:=by
  intro es;induction es with
  | nil=>intro q _ e he;cases he
  | cons b es ih=>
   intro q h e he;rw[jm,Jl,Jl,Gq,Jl] at h;rcases Q1.1 he with rfl | he
   ·exact h.1.1.2
   ·exact ih _ h.2 e he
 exactλe he=>⟨Ym.1 h1 e he,key _ 0 h2 e.ed (X7.2 ⟨e,he,rfl⟩)⟩
theorem iQU (es:List EdV)(S:List Nat)(a:Nat)(s:List Nat):bR (es.map EdV.ed) S a s=(es.filter (λe=>pU a s e.ed&&WT S e.ed.o)).map EdV.ed:=by
 unfold bR;rw[List.filter_map]<;>rfl
theorem iQV {α:Type}{l:List α}{i:Nat}{x:α}(h:l[i]? =some x):l.drop i=x::l.drop (i+1):=by
 have Xc:=(ZY.1 h).1;rw[W9 Xc];congr 1;rw[Xp Xc] at h;exact Option.some.inj h
theorem iQW (p:EP)(hB:EB p)(hV:tq p)(a:Nat)(s:List Nat)(hm:(a,s)∈Z6 0 (QR p.f))(d:DV)(o:BF)(w:World)(K:EK w p)(hd:SB w d.A d.n d.c d.nd)(sd:Set1 p.nm.length d.nd d.r o):
  FnP Tryz.prog 48 [.pointer (some ⟨p.eb,0,none⟩),.string (Qd (s++ [10])),.int .i64 a,Xk d.A d.n d.c d.r] w
   (λu w'=>∃L,WU p.nm p.f (p.es.map EdV.ed) (QL p.nm.length o) a s=some L/\sW w u (L.map (·++ [10])) w')
   (λch w'=>WU p.nm p.f (p.es.map EdV.ed) (QL p.nm.length o) a s=none/\ch=jn 291/\Ext w w'):=by
 have iO:=kC p.f;have JQ:=V4 hB.ok;have yL:=mM hm;rw[JQ] at yL;have ZT:=hB.fl;have hk:p.nm.length<=12:=by have:=hB.n4;omega
 have yI:=K.eds.2;have mQ9:=hB.el;have Mt:=K.eds.1.cap;have mQg:=K.eds.1.le;simp only[maxLen] at Mt;have yM:(Qd (s++ [10])).size=s.length+1:=by rw[Xe];simp
 have ct:=Xe p.f;have hval:=iQT hV;generalize uH:QL p.nm.length o=S at*;have Mx:∀e∈p.es,0<=e.fr/\e.fr<=e.to_/\e.to_<p.f.length:=λe he=>by
  have:=Tl (hval e he).2;rw[JQ] at this;exact this
 refine aR (c:={c48 with cuts:=[]}) Qa Tryz.func48 rfl rfl rfl ?_;refine new (λw1 Qe Q4 Qh=>?_);have K1:=K.ext Qe;refine Qo K1.blk rfl ?_;refine loop Qa [33,9] (λt:Nat×List EdV×Option Addr×Nat=>[.int .i64 t.1,.slice t.2.2.1 t.2.1.length t.2.2.2]) (λt w'=>Ext w1 w'/\t.1<=p.en/\t.2.1=(p.es.take t.1).filter (λe=>pU a s e.ed&&WT S e.ed.o)/\Own w' w1.heap.size 58 5 t.2.2.1 t.2.1.length t.2.2.2 (t.2.1.flatMap XZ)) (λt _=>p.en-t.1) (0,[],none,0) rfl ⟨Ext.refl _,Xr _,by simp,Own.nil _ _ _ _⟩ ?_;rintro⟨i,m,MA,mc⟩ w2 ⟨Qg,hi,bE,hO⟩;simp only at hi bE hO;have Q5:=Qe.trans Qg;have Md:m.length<=i:=by rw[bE];exact Zc (yZ _ _) (by rw[K8];omega)
 refine Qz (λc1=>?_) (λc1=>?_)
 ·have QZ:i<p.en:=by simp only at c1;omega
  refine Zv eH (K.ext Q5).eds rfl QZ (λad e he hc=>?_);have jO:=Xm he;obtain⟨e1,e2,e3⟩:=Mx e jO;have se:=gU (hval e jO).1;refine Kn (vs:=XZ e) rfl hc ?_;refine new (λw3 Qj JC Qu=>?_);refine Qv Qu rfl (sc rfl) (λw4 cT _ Q7=>?_);have J1:Ext w2 w4:=X9 Qj Qu cT;refine QD Q7 rfl ?_;refine Qz (λd1=>?_) (λd1=>?_)
  ·refine Qo Q7 rfl ?_;refine Qi ((a+s.length+1:Nat):Int) (by rw[yM];omega) (by omega) ?_;refine Qz (λd2=>?_) (λd2=>?_)
   ·refine fR (vs:=[.slice e.x.A e.x.n e.x.c,.int .i64 e.x.r]) Q7 rfl (λj u hj=>by match j,hj with | 0,hj=>exact hj | 1,hj=>exact hj) ?_;refine Qt (Qh.ext (Qg.trans J1)) rfl ?_;refine call (RF e.x.A e.x.n e.x.c e.x.nd e.x.r d.A d.n d.c d.nd d.r w4 ((K.sbs e jO).ext (Q5.trans J1)) (hd.ext (Q5.trans J1))) ?_;rintro _ w5 ⟨rfl,Qw⟩;have Wa:=J1.trans Qw;rw[Tp hk se sd,uH];have Wf:pU a s e.ed=true:=Zy ⟨by show(a:Int)<=e.fr;omega,by show e.to_<=a+s.length;omega⟩;cases qW:WT S (oD e.x)with
    | false=>
     refine Q3 rfl ?_;refine Qi ((i+1:Nat):Int) (by show((i:Nat):Int)+1=_;omega) (by omega) ?_;refine⟨(i+1,m,MA,mc),rfl,⟨Qg.trans Wa,QZ,?_,hO.ext Wa⟩,by show p.en-(i+1)<p.en-i;omega⟩;simp only;rw[mN he,M8,<-bE,D7,if_neg (by show¬(pU a s e.ed&&WT S (oD e.x))=true;rw[qW,Bool.and_false];decide),List.filter_nil,KW]
    | true=>
     refine Q8 rfl ?_;refine Qt (Q7.ext Qw) rfl ?_;refine Xh Qa [XZ e] rfl rfl rfl rfl rfl ⟨rfl,rfl,⟨⟩⟩ rfl (λcs h=>by simp only[QN] at h;subst h;rfl) rfl (by decide) (by decide) ?_;intro w6 QO dX Q9;have I1:=Wa.trans QO;have Hh:Sl w6 5 (some ⟨w5.heap.size,0,none⟩) 1 1 (XZ e):=Sl.own (sz:=5) (n:=1) Q9 (QB _) (by decide) (by simp[XZ]);refine Z4 (n:=m.length) Qa rfl rfl rfl rfl rfl (by decide) rfl rfl ⟨_,rfl⟩ rfl rfl (hO.ext I1) Hh (iQR e) (by unfold maxLen;omega) (by show(m.length+1)*64<=_;omega) (by have:=Qg.size;have:=I1.size;omega) ?_;intro A' c' w7 Kc tH nQa;refine Qi ((i+1:Nat):Int) (by show((i:Nat):Int)+1=_;omega) (by omega) ?_;refine⟨(i+1,m++ [e],A',c'),by simp only[Qq];rfl,⟨Kc.ext (Qg.trans I1) (λk hk=>(hO.rows k hk).1),QZ,?_,?_⟩,by show p.en-(i+1)<p.en-i;omega⟩
     ·simp only;rw[mN he,M8,<-bE,D7,Qf (by show(pU a s e.ed&&WT S (oD e.x))=true;rw[qW,Wf];rfl),List.filter_nil]
     ·simp only;rw[Qq,WF];simpa using tH
   ·refine Qi ((i+1:Nat):Int) (by show((i:Nat):Int)+1=_;omega) (by omega) ?_;refine⟨(i+1,m,MA,mc),rfl,⟨Qg.trans J1,QZ,?_,hO.ext J1⟩,by show p.en-(i+1)<p.en-i;omega⟩;simp only;rw[mN he,M8,<-bE,D7,if_neg (by intro hh;rw[Jl] at hh;have h3:(a:Int)<=e.fr/\e.to_<=a+s.length:=aQ hh.1;omega),List.filter_nil,KW]
  ·refine Qi ((i+1:Nat):Int) (by show((i:Nat):Int)+1=_;omega) (by omega) ?_;refine⟨(i+1,m,MA,mc),rfl,⟨Qg.trans J1,QZ,?_,hO.ext J1⟩,by show p.en-(i+1)<p.en-i;omega⟩;simp only;rw[mN he,M8,<-bE,D7,if_neg (by intro hh;rw[Jl] at hh;have h3:(a:Int)<=e.fr/\e.to_<=a+s.length:=aQ hh.1;omega),List.filter_nil,KW]
 have QZ:i=p.en:=by simp only at c1;omega
 have bE:m=p.es.filter (λe=>pU a s e.ed&&WT S e.ed.o):=by rw[bE,Jc (by omega)]
 have aQW:=iQU p.es S a s;rw[<-bE] at aQW;have oJ:∀e∈m,e∈p.es/\(a:Int)<=e.fr/\e.to_<=a+s.length/\WT S (oD e.x)=true:=λe he=>by
  rw[bE] at he;obtain⟨h1,h2⟩:=VU.1 he;rw[Jl] at h2;have h3:(a:Int)<=e.fr/\e.to_<=a+s.length:=aQ h2.1;exact⟨h1,h3.1,h3.2,h2.2⟩
 have Ju:m.length<=10:=by omega
 have hM:SlS XZ 5 w2 MA m.length mc m:=⟨hO.sl,rfl⟩
 clear bE hi c1;have rF:WU p.nm p.f (p.es.map EdV.ed) S a s=if m.map EdV.ed=[] then some [s] else if bS S (m.map EdV.ed)=false then none else if S.all (λc=>V6 (WR p.f (a+s.length+1) a (m.map EdV.ed) c))=false then none else some (Zi p.nm (WR p.f (a+s.length+1) a (m.map EdV.ed)) p.nm.length 0 S):=by
  unfold WU;rw[aQW]
 generalize WU p.nm p.f (p.es.map EdV.ed) S a s=RES at*;refine X3 (λh0=>?_) (λh0=>?_)
 ·have hm0:m=[]:=Wg (by simp only at h0;omega);refine Xh Qa [[Value.string (Qd (s++ [10]))]] rfl rfl rfl rfl rfl ⟨rfl,rfl,⟨⟩⟩ rfl (λcs hh=>by simp only[QN] at hh;subst hh;rfl) rfl (by decide) (by decide) ?_;intro w3 Qj JC Qu;refine⟨[s],by rw[rF,hm0];rfl,_,_,rfl,Q5.trans Qj,Sl.own' (n:=1) Qu rfl (by decide),λ_=>⟨_,_,rfl⟩⟩
 have Zt:m≠ []:=λe=>h0 (by rw[e];rfl)
 have tz:m.map EdV.ed≠ []:=λe=>Zt (List.map_eq_nil_iff.1 e)
 rw[if_neg tz] at rF;have mQh:S≠ []:=by
  obtain⟨e,he⟩:=y8 _ Zt;intro e0;have:=(oJ e he).2.2.2;rw[e0] at this;cases this
 refine loop Qa [69] (λi:Nat=>[.int .i64 i]) (λi w'=>Ext w2 w'/\i<=m.length/\bS S (m.map EdV.ed)=bS S ((m.drop i).map EdV.ed)) (λi _=>m.length-i) 0 rfl ⟨Ext.refl _,Xr _,rfl⟩ ?_;rintro i w3 ⟨Qj,hi,dv⟩;have QX:=Q5.trans Qj;refine Qz (λc1=>?_) (λc1=>?_)
 ·have QZ:i<m.length:=by simp only at c1;omega
  refine Zv eH (hM.ext Qj) rfl QZ (λad e he hc=>?_);have jO:=Xm he;obtain⟨e1,e2,e3,e4⟩:=oJ e jO;have se:=gU (hval e e1).1;rw[iQV he,Vl,bS] at dv;refine Kn (vs:=XZ e) rfl hc ?_;refine new (λw4 Qs KO Q7=>?_);refine Qv Q7 rfl (sc rfl) (λw5 JH _ QG=>?_);have Yd:Ext w3 w5:=X9 Qs Q7 JH;have Wa:=Qj.trans Yd;refine Qi ((i+1:Nat):Int) (by show((i:Nat):Int)+1=_;omega) (by omega) ?_;refine Et Qa rfl rfl rfl rfl rfl rfl (by omega) ?_;have hFr:=(hM.ext Wa).from eH (l:=i+1) (by omega)
  have uB:=hM.1.le;refine loop Qa [79] (λj:Nat=>[.int .i64 j]) (λj w'=>Ext w5 w'/\j<=m.length-(i+1)/\((m.drop (i+1)).take j).all (λb=>jj S e.ed b.ed)=true) (λj _=>m.length-(i+1)-j) 0 rfl ⟨Ext.refl _,Xr _,by simp⟩ ?_;rintro j w6 ⟨QO,hj,hall⟩;refine Qz (λc2=>?_) (λc2=>?_)
  ·have Kk:j<m.length-(i+1):=by simp only at c2;omega
   refine Zv eH (hFr.ext QO) rfl Kk (λua b hb Yx=>?_);have uz:b∈m:=aM (Xm hb);obtain⟨b1,b2,b3,b4⟩:=oJ b uz;have sb:=gU (hval b b1).1;refine Kn (vs:=XZ b) rfl Yx ?_;refine new (λw7 Xb Wu Q2=>?_);refine Qv Q2 rfl (sc rfl) (λw8 Y5 _ Xw=>?_);have gj:Ext w6 w8:=X9 Xb Q2 Y5;have gl:=QO.trans gj;have Y6:=QX.trans (Yd.trans gl);have aQi:=QG.ext gl;have nM:=Ext.drew w8;have next:∀w',Ext w8 w'->jj S e.ed b.ed=true->Ext w5 w'/\j+1<=m.length-(i+1)/\((m.drop (i+1)).take (j+1)).all (λb=>jj S e.ed b.ed)=true:=λw' gA h2=>by
    refine⟨gl.trans gA,by omega,?_⟩;rw[mN hb,List.all_append,hall];simp only[yS,List.all_nil,Bool.and_true,cw];exact h2
   refine XK Qa (Ext w8) 15 [(true,0),(true,1),(true,2),(true,3),(true,4),(true,5),(true,6),(true,7),(true,8),(true,9),(true,11),(false,10),(false,12),(true,13),(true,14)] (by kernel_rfl) nM ?_;refine QK (v:=.int .i64 e.to_) (λw' Qb=>(aQi.ext Qb).cell 1) ?_;refine QK (v:=.int .i64 b.fr) (λw' Qb=>(Xw.ext Qb).cell 0) ?_;refine Qz (λd1=>?_) (λd1=>?_)
   ·refine Xs (vs:=[.slice e.x.A e.x.n e.x.c,.int .i64 e.x.r]) rfl (λw' Qb k u hk=>by rw[add_add,(aQi.ext Qb).cell];match k,hk with | 0,hk=>exact hk | 1,hk=>exact hk) ?_;refine Xs (vs:=[.slice b.x.A b.x.n b.x.c,.int .i64 b.x.r]) rfl (λw' Qb k u hk=>by rw[add_add,(Xw.ext Qb).cell];match k,hk with | 0,hk=>exact hk | 1,hk=>exact hk) ?_;refine Xs (vs:=d.cells) rfl (λw' Qb k u hk=>by rw[((Qh.ext (Qg.trans (Qj.trans (Yd.trans gl)))).ext Qb).cell];exact hk) ?_;have fy:=Y6.trans nM;refine call (mK hk e.x b.x w8.drew ((K.sbs e e1).ext fy) ((K.sbs b b1).ext fy) se sb) ?_;rintro _ w9 ⟨QA,Qn,Qc,Qnd,Qr,rfl,Xt,hQ9,sQ,_⟩;refine⟨nM.trans Xt,?_⟩;refine call (RF QA Qn Qc Qnd Qr d.A d.n d.c d.nd d.r w9 hQ9 (hd.ext (fy.trans Xt))) ?_;rintro _ Qy ⟨rfl,XT⟩;have bu:=(nM.trans Xt).trans XT;refine⟨bu,?_⟩;rw[Tp (x:=⟨QA,Qn,Qc,Qnd,Qr⟩) hk sQ sd,uH];cases qW:WT S (λv=>oD e.x v&&oD b.x v)with
    | false=>
     refine Q3 rfl ?_;refine Qi ((j+1:Nat):Int) (by show((j:Nat):Int)+1=_;omega) (by omega) ?_;exact⟨j+1,rfl,next Qy bu (by show(!(decide (b.fr<e.to_)&&WT S (λv=>oD e.x v&&oD b.x v)))=true;rw[qW,Bool.and_false];rfl),by show m.length-(i+1)-(j+1)<m.length-(i+1)-j;omega⟩
    | true=>
     refine Q8 rfl ?_;refine XO (YM 291 (by decide) Qy) (λ_ _ hf=>hf.elim) ?_;rintro ch _ ⟨rfl,rfl⟩;have Xi:jj S e.ed b.ed=false:=by
      show(!(decide (b.fr<e.to_)&&WT S (λv=>oD e.x v&&oD b.x v)))=false;rw[qW,Zy (by omega:b.fr<e.to_)]<;>rfl
     have KV:(m.drop (i+1)).all (λb=>jj S e.ed b.ed)=false:=List.all_eq_false.2 ⟨b,Xm hb,by rw[Xi];decide⟩;refine⟨?_,rfl,Y6.trans bu⟩;have:bS S (m.map EdV.ed)=false:=by
      rw[dv,List.all_map];show((m.drop (i+1)).all (λb=>jj S e.ed b.ed)&&_)=false;rw[KV]<;>rfl
     rw[rF,Qf this]
   ·refine Qi ((j+1:Nat):Int) (by show((j:Nat):Int)+1=_;omega) (by omega) ?_;exact⟨j+1,rfl,next w8.drew nM (by show(!(decide (b.fr<e.to_)&&WT S (λv=>oD e.x v&&oD b.x v)))=true;rw[Zq (by omega:¬b.fr<e.to_)];rfl),by show m.length-(i+1)-(j+1)<m.length-(i+1)-j;omega⟩
  ·have Kk:j=m.length-(i+1):=by simp only at c2;omega
   rw[Jc (by rw[Wj];omega)] at hall;refine Qi ((i+1:Nat):Int) (by show((i:Nat):Int)+1=_;omega) (by omega) ?_;refine⟨i+1,rfl,⟨Wa.trans QO,QZ,?_⟩,by show m.length-(i+1)<m.length-i;omega⟩;rw[dv,List.all_map];show((m.drop (i+1)).all (λb=>jj S e.ed b.ed)&&_)=_;rw[hall,cw]
 have QZ:i=m.length:=by simp only at c1;omega
 have aQX:bS S (m.map EdV.ed)=true:=by rw[dv,QZ,o7 (QB _)]<;>rfl
 clear dv c1 hi;rw[if_neg (by rw[aQX];decide)] at rF;have XI:=Qg.trans Qj;refine Qt (Qh.ext XI) rfl ?_;refine Xh Qa [Vq (d,⟨o,[],a⟩)] rfl rfl rfl rfl rfl ⟨rfl,rfl,⟨⟩⟩ rfl (λcs h=>by simp only[QN] at h;subst h;rfl) rfl (by decide) (by decide) ?_;intro w4 Qs KO Q7;have XG:=QX.trans Qs;have QU:QL p.nm.length o≠ []:=by rw[uH];exact mQh
 have mQi:bS (QL p.nm.length o) (m.map EdV.ed)=true:=by rw[uH];exact aQX
 have hep:∀b∈m.map EdV.ed,0<=b.to_:=λb hb=>by
  obtain⟨e,he,rfl⟩:=X7.1 hb;have:=Mx e (oJ e he).1;show 0<=e.to_;omega
 have hVB:∀i,i<=m.length->∀v∈cQ p.nm.length p.f o a ((m.map EdV.ed).take i),VB (i*70000) (a+s.length) v:=λi hi v hv=>by
  have:=iQH (n:=p.nm.length) (o:=o) (a:=a) (T:=a+s.length) hB.f8 ZT (by omega) ((m.map EdV.ed).take i) (λb hb=>by
   obtain⟨e,he,rfl⟩:=X7.1 (aN hb);obtain⟨h1,h2,h3,h4⟩:=oJ e he;exact⟨hB.t8 e h1,hB.tl e h1,by show e.to_.toNat<=_;omega⟩) v hv
  rw[K8,JF,jQ hi] at this;exact this
 have hVL:∀i,i<=m.length->(cQ p.nm.length p.f o a ((m.map EdV.ed).take i)).length<=1024:=λi hi=>by
  refine Zc (iQG _ _ _ _ _) ?_;rw[K8,JF,jQ hi];exact Zc (aO (by decide) (show i<=10 by omega)) (by decide)
 refine loop Qa [107,16] (λt:Nat×List (DV×AV)×Option Addr×Nat=>[.int .i64 t.1,.slice t.2.2.1 t.2.1.length t.2.2.2]) (λt w'=>Ext w4 w'/\t.1<=m.length/\t.2.1.map (·.2)=cQ p.nm.length p.f o a ((m.map EdV.ed).take t.1)/\SlS Vq 4 w' t.2.2.1 t.2.1.length t.2.2.2 t.2.1/\∀v∈t.2.1,SB w' v.1.A v.1.n v.1.c v.1.nd/\Set1 p.nm.length v.1.nd v.1.r v.2.o) (λt _=>m.length-t.1) (0,[(d,⟨o,[],a⟩)],some ⟨w3.heap.size,0,none⟩,1) rfl ⟨Ext.refl _,Xr _,rfl,⟨Sl.own (sz:=4) (n:=1) Q7 (QB _) (by show 1<=maxLen;decide) (by simp[Vq]),rfl⟩,λv hv=>by
  rw[QN.1 hv];exact⟨hd.ext XG,sd⟩⟩ ?_
 rintro⟨i,vs,VA,vc⟩ w5 ⟨Qw,hi,jL,My,Mz⟩;simp only at hi jL My Mz;have J3:=XG.trans Qw;have hvl:vs.length<=1024:=by have:=hVL i hi;rw[<-jL,JF] at this;exact this
 have gz:∀v∈vs,VB (i*70000) (a+s.length) v.2:=λv hv=>hVB i hi v.2 (by rw[<-jL];exact X7.2 ⟨v,hv,rfl⟩)
 refine Qz (λc1=>?_) (λc1=>?_)
 ·have QZ:i<m.length:=by simp only at c1;omega
  refine Zv eH (hM.ext (Qj.trans (Qs.trans Qw))) rfl QZ (λad e he hc=>?_);have jO:=Xm he;obtain⟨e1,e2,e3,e4⟩:=oJ e jO;obtain⟨e5,e6,e7⟩:=Mx e e1;have se:=gU (hval e e1).1;have heg:(m.map EdV.ed)[i]? =some e.ed:=by rw[aL,he]<;>rfl
  refine Kn (vs:=XZ e) rfl hc ?_;refine new (λw6 QO dX Q9=>?_);refine Qv Q9 rfl (sc rfl) (λw7 ZB _ Q2=>?_);have JI:Ext w5 w7:=X9 QO Q9 ZB;have Vt:=J3.trans JI;refine loop Qa [113,19] (λt:Nat×List (DV×AV)×Option Addr×Nat=>[.int .i64 t.1,.slice t.2.2.1 t.2.1.length t.2.2.2]) (λt w'=>Ext w7 w'/\t.1<=vs.length/\t.2.1.map (·.2)=((vs.map (·.2)).take t.1).flatMap (V9 p.nm.length p.f e.ed)/\Own w' w7.heap.size 166 4 t.2.2.1 t.2.1.length t.2.2.2 (t.2.1.flatMap Vq)/\∀v∈t.2.1,DgO w' (Qk t.2.2.1) p.nm.length v.1 v.2.o) (λt _=>vs.length-t.1) (0,[],none,0) rfl ⟨Ext.refl _,Xr _,rfl,Own.nil _ _ _ _,λv hv=>by cases hv⟩ ?_;rintro⟨j,nx,NX,nxc⟩ w8 ⟨Xl,hj,dh,ub,qG⟩;simp only at hj dh ub qG;have Y6:=Vt.trans Xl;have gl:=JI.trans Xl;have nQJ:nx.length<=2*j:=by
   have h1:=QC List.length dh;have h2:=GH p.nm.length p.f e.ed ((vs.map (·.2)).take j);rw[JF] at h1;rw[K8] at h2;omega
  refine Qz (λc2=>?_) (λc2=>?_)
  ·have Kk:j<vs.length:=by simp only at c2;omega
   refine Zv Tq (My.ext gl) rfl Kk (λua v hv Yx=>?_);have lL:=Xm hv;obtain⟨sbv,stv⟩:=Mz v lL;obtain⟨vb8,vbl,vba⟩:=gz v lL;have MB:(vs.map (·.2))[j]? =some v.2:=by rw[aL,hv]<;>rfl
   refine Kn (vs:=Vq v) rfl Yx ?_;refine new (λw9 Xt eT JD=>?_);refine Qv JD rfl (sc rfl) (λQy ir _ JM=>?_);have bu:Ext w8 Qy:=X9 Xt JD ir;have iz:=Xl.trans bu;have nH:=Y6.trans bu;refine fR (vs:=[.slice v.1.A v.1.n v.1.c,.int .i64 v.1.r]) JM rfl (λk u hk=>by match k,hk with | 0,hk=>exact hk | 1,hk=>exact hk) ?_;refine fR (vs:=[.slice e.x.A e.x.n e.x.c,.int .i64 e.x.r]) (Q2.ext iz) rfl (λk u hk=>by match k,hk with | 0,hk=>exact hk | 1,hk=>exact hk) ?_;refine call (mK hk v.1 e.x Qy (sbv.ext (gl.trans bu)) ((K.sbs e e1).ext nH) stv se) ?_;rintro _ QH ⟨QA,Qn,Qc,Qnd,Qr,rfl,Z9,kQ8,sQ,DI⟩;refine new (λXa Xv kQm Vh=>?_);refine Qv Vh rfl (sc rfl) (λX6 wZ _ K5=>?_);have I4:Ext QH X6:=X9 Xv Vh wZ;have aQj:=Z9.trans I4;have nN:=bu.trans aQj;have I5:=Xl.trans nN;have qk:=Y6.trans nN;have xH:=JM.ext aQj;have IZ:=kQ8.ext I4;have Bo:=Z9.size;have nQb:=I4.size;have nQc:=bu.size;have z8:=Xl.size;have W8:=ub.rows;have hQ0:=sQ.root0;have dt:(vs.map (·.2)).take (j+1)=(vs.map (·.2)).take j++ [v.2]:=mN MB;refine Qo K5 rfl ?_;refine bI (λhz=>?_) (λhz=>?_)
   ·have MC:QL p.nm.length (ZW v.2.o (oD e.x))≠ []:=λe0=>hz (hQ0.2 e0)
    have jN:=iQI (f:=p.f) (a:=a) QU mQi heg (by show(a:Int)<=e.fr;omega) hep (v:=v.2) (by rw[<-jL];exact X7.2 ⟨v,lL,rfl⟩) MC;have jN:(v.2.a:Int)<=e.fr:=jN;have YQ:=Ext.drew X6;have dl:=mO p.f v.2.a e.fr.toNat;have tl:=hB.tl e e1;have hto:((e.to_.toNat:Nat):Int)=e.to_:=by omega
    refine XK Qa (Mod (Qk NX) X6) 23 [(true,0),(true,1),(true,2),(true,3),(true,4),(true,5),(true,6),(true,7),(true,8),(true,9),(true,10),(true,11),(true,12),(true,13),(true,14),(true,15),(true,16),(true,17),(true,18),(true,19),(false,20),(false,21),(true,22)] (by kernel_rfl) (Mod.of_ext _ YQ) ?_;have Bu:¬Qk NX QH.heap.size:=λh=>by have:=W8 _ h;omega
    have I6:¬Qk NX w8.heap.size:=λh=>by have:=W8 _ h;omega
    have I7:¬Qk NX w5.heap.size:=λh=>by have:=W8 _ h;have:=JI.size;have:=Q2.lt;omega
    have neb:¬Qk NX p.eb:=λh=>by have:=W8 _ h;have:=K.blk.lt;have:=Vt.size;omega
    have ds:=Xe v.2.d;have cs:=Xe (ZG p.f v.2.a e.fr.toNat);have dcs:=Xe (v.2.d++ZG p.f v.2.a e.fr.toNat);have txs:=Xe e.tx;rw[Qq] at dcs;refine Xs (vs:=[.slice QA Qn Qc,.int .i64 Qr]) rfl (λw' Qb k u hk=>by rw[(K5.mod Qb Bu).cell];exact hk) ?_;refine QK (v:=.string (Qd v.2.d)) (λw' Qb=>(xH.mod Qb I6).cell 2) ?_;refine QK (v:=.string (Qd p.f)) (λw' Qb=>((K.blk.ext qk).mod Qb neb).cell 3) ?_;refine QK (v:=.int .i64 v.2.a) (λw' Qb=>(xH.mod Qb I6).cell 3) ?_;refine QK (v:=.int .i64 e.fr) (λw' Qb=>((Q2.ext I5).mod Qb I7).cell 0) ?_;refine XH (v':=.string (Qd (ZG p.f v.2.a e.fr.toNat))) ⟨by omega,by omega,by rw[ct];omega⟩ (by
     rw[KY];show Value.string (Qd ((p.f.take e.fr.toNat).drop v.2.a))=_;rw[fE];rfl) ?_
    refine XH (v':=.string (Qd (v.2.d++ZG p.f v.2.a e.fr.toNat))) (by rw[ds,cs];unfold maxLen;omega) (by rw[ZV]) ?_;refine QK (v:=.string (Qd e.tx)) (λw' Qb=>((Q2.ext I5).mod Qb I7).cell 2) ?_;refine XH (v':=.string (Qd (v.2.d++ZG p.f v.2.a e.fr.toNat++e.tx))) (by rw[dcs,txs];unfold maxLen;omega) (by rw[ZV]) ?_;refine QK (v:=.int .i64 ((e.to_.toNat:Nat):Int)) (λw' Qb=>by rw[hto];exact((Q2.ext I5).mod Qb I7).cell 1) ?_;refine Xh Qa [Vq (⟨QA,Qn,Qc,Qnd,Qr⟩,⟨ZW v.2.o (oD e.x),v.2.d++ZG p.f v.2.a e.fr.toNat++e.tx,e.to_.toNat⟩)] rfl rfl rfl rfl rfl ⟨rfl,rfl,⟨⟩⟩ rfl (λcs h=>by simp only[QN] at h;subst h;rfl) rfl (by decide) (by decide) ?_;generalize qC:(((⟨QA,Qn,Qc,Qnd,Qr⟩:DV),(⟨ZW v.2.o (oD e.x),v.2.d++ZG p.f v.2.a e.fr.toNat++e.tx,e.to_.toNat⟩:AV)):DV×AV)=V1;intro Zk JN HG J2;have jA:=YQ.trans JN;have qH:=nN.trans jA;refine⟨Mod.of_ext _ jA,?_⟩;have I8:Sl Zk 4 (some ⟨X6.drew.heap.size,0,none⟩) 1 1 (Vq V1):=Sl.own (sz:=4) (n:=1) J2 (QB _) (by decide) (by simp[Vq]);refine Z4 (n:=nx.length) Qa rfl rfl rfl rfl rfl (by decide) rfl rfl ⟨_,rfl⟩ rfl rfl (ub.ext qH) I8 (GK _) (by unfold maxLen;omega) (by show(nx.length+1)*56<=_;omega) (by have:=(Xl.trans qH).size;omega) ?_;intro NX2 I9 Ky ud iA La;have ue:Mod (Qk NX) X6 Ky:=(Mod.of_ext (Qk NX) jA).trans ud (λi hi=>.inl hi);refine⟨ue,?_⟩;have uf:Mod (Qk NX) w8 Ky:=(Mod.of_ext (Qk NX) nN).trans ue (λi hi=>.inl hi);have xI:Ext w7 Ky:=uf.ext Xl (λk hk=>(W8 k hk).1);have aQk:=Vt.trans xI;have kQ9:=JI.trans xI;have nQd:=ue.size;have xJ:∀k,Qk NX2 k->Qk NX k∨Zk.heap.size<=k:=La.rows
    have z14:=jA.size;have lQa:∀u∈nx,DgO Ky (Qk NX2) p.nm.length u.1 u.2.o:=λu hu=>(qG u hu).step uf (λk hk=>by
     rcases xJ k hk with h | h
     ·exact .inl h
     ·exact .inr (by omega))
    have aQl:DgO Ky (Qk NX2) p.nm.length V1.1 V1.2.o:=by
     rw[<-qC];have h0:DgO X6 (Qk NX) p.nm.length ⟨QA,Qn,Qc,Qnd,Qr⟩ (ZW v.2.o (oD e.x)):=⟨IZ,sQ,λad ea h0 h=>by have:=DI ad.block ⟨ad,ea,rfl⟩;have:=W8 _ h;omega⟩
     exact h0.step ue (λk hk=>by
      rcases xJ k hk with h | h
      ·exact .inl h
      ·exact .inr (by omega))
    have aQm:=iA.rows;rw[show nx.flatMap Vq++Vq V1=(nx++ [V1]).flatMap Vq by rw[WF];simp] at iA;have tS:=xH.mod ue I6;have qx:=K5.mod ue Bu;refine fR (vs:=[.slice v.1.A v.1.n v.1.c,.int .i64 v.1.r]) tS rfl (λk u hk=>by match k,hk with | 0,hk=>exact hk | 1,hk=>exact hk) ?_;refine Qt qx rfl ?_;have lQb:SB Ky QA Qn Qc Qnd:=by have:=aQl.sb;rw[<-qC] at this;exact this
    refine call (eF hk v.1 ⟨QA,Qn,Qc,Qnd,Qr⟩ Ky (sbv.ext kQ9) lQb stv sQ) ?_;rintro _ aD ⟨PA,Pn,Pc,Pnd,Pr',rfl,Yf,lQc,sP,hPR⟩;have hP0:=sP.root0;refine i6 (j:=0) (tS.ext Yf) (by show 0+2<=4;decide) (sc rfl) (λVv Ig lQd nz=>?_);have qu:Mod (·=w8.heap.size) aD Vv:=nQQ Ig rfl;have Ld:Ext w7 Vv:=qu.ext (xI.trans Yf) (λk hk=>by omega);have z16:=Yf.size;have lQe:∀k,Qk NX2 k->¬k=w8.heap.size:=λk hk hh=>by
     rcases xJ k hk with h | h
     ·have:=W8 _ h;omega
     ·omega
    have CX:=(iA.ext Yf).mod qu lQe;have nQe:=JM.lt;have aQn:∀u∈nx++ [V1],DgO Vv (Qk NX2) p.nm.length u.1 u.2.o:=λu hu=>by
     have Le:DgO Ky (Qk NX2) p.nm.length u.1 u.2.o:=by
      rcases XM.1 hu with hu | hu
      ·exact lQa u hu
      ·rw[QN.1 hu];exact aQl
     have lQf:∀ad,u.1.A=some ad->0<u.1.n->¬ad.block=w8.heap.size:=λad ea h0 hh=>by
      rcases XM.1 hu with hu | hu
      ·have:=SB.lt (qG u hu).sb ad ea h0;omega
      ·rw[QN.1 hu,<-qC] at ea h0;have:=DI ad.block ⟨ad,ea,rfl⟩;omega
     exact⟨SB.modo (Le.sb.ext Yf) qu lQf,Le.st,Le.off⟩
    refine GA (j:=0) (i:=1) nz rfl ?_;refine bI (λhy=>?_) (λhy=>?_)
    ·refine Qt nz rfl ?_;refine Xh Qa [Vq (⟨PA,Pn,Pc,Pnd,Pr'⟩,⟨KG v.2.o (ZW v.2.o (oD e.x)),v.2.d,v.2.a⟩)] rfl rfl rfl rfl rfl ⟨rfl,rfl,⟨⟩⟩ rfl (λcs h=>by simp only[QN] at h;subst h;rfl) rfl (by decide) (by decide) ?_;generalize BQ:(((⟨PA,Pn,Pc,Pnd,Pr'⟩:DV),(⟨KG v.2.o (ZW v.2.o (oD e.x)),v.2.d,v.2.a⟩:AV)):DV×AV)=V2;intro Vi nP nQf qq;have lQg:Sl Vi 4 (some ⟨Vv.heap.size,0,none⟩) 1 1 (Vq V2):=Sl.own (sz:=4) (n:=1) qq (QB _) (by decide) (by simp[Vq]);refine Z4 (n:=nx.length+1) Qa rfl rfl rfl rfl rfl (by decide) rfl rfl ⟨_,rfl⟩ rfl rfl (CX.ext nP) lQg (GK _) (by unfold maxLen;omega) (by show(nx.length+1+1)*56<=_;omega) (by have:=(Ld.trans nP).size;omega) ?_;intro NX3 nc3 cg lQh aQo lQi;have Lf:Mod (Qk NX2) Vv cg:=(Mod.of_ext (Qk NX2) nP).trans lQh (λi hi=>.inl hi);have r19:∀k,Qk NX3 k->Qk NX2 k∨Vi.heap.size<=k:=lQi.rows
     have z18:=nP.size;have lQj:Ext w7 cg:=Lf.ext Ld (λk hk=>(aQm k hk).1);have lQk:SB Vv PA Pn Pc Pnd:=SB.modo lQc qu (λad ea h0 hh=>by have:=hPR ad.block ⟨ad,ea,rfl⟩;omega);have lQl:DgO cg (Qk NX3) p.nm.length V2.1 V2.2.o:=by
      rw[<-BQ];have h0:DgO Vv (Qk NX2) p.nm.length ⟨PA,Pn,Pc,Pnd,Pr'⟩ (KG v.2.o (ZW v.2.o (oD e.x))):=⟨lQk,sP,λad ea h0 h=>by have:=hPR ad.block ⟨ad,ea,rfl⟩;have:=(aQm _ h).2;omega⟩
      exact h0.step Lf (λk hk=>by
       rcases r19 k hk with h | h
       ·exact .inl h
       ·exact .inr (by omega))
     refine Qi ((j+1:Nat):Int) (by show((j:Nat):Int)+1=_;omega) (by omega) ?_;rw[show(nx++ [V1]).flatMap Vq++Vq V2=(nx++ [V1]++ [V2]).flatMap Vq by rw[WF];simp] at aQo;refine⟨(j+1,nx++ [V1]++ [V2],NX3,nc3),by simp only[Qq];rfl,⟨lQj,Kk,?_,by simp only;rw[Qq,Qq];exact aQo,λu hu=>?_⟩,by show vs.length-(j+1)<vs.length-j;omega⟩
     ·simp only;rw[dt,WF,<-dh,ep,ep,Yl,rM,KW,J7];congr 1;have h9:QL p.nm.length (KG v.2.o (ZW v.2.o (oD e.x)))≠ []:=λe0=>hy (hP0.2 e0)
      unfold V9;rw[if_neg (by exact MC),if_neg (by exact h9),<-qC,<-BQ]<;>rfl
     ·rcases XM.1 hu with hu | hu
      ·exact(aQn u hu).step Lf (λk hk=>by
        rcases r19 k hk with h | h
        ·exact .inl h
        ·exact .inr (by omega))
      ·rw[QN.1 hu];exact lQl
    ·refine Qi ((j+1:Nat):Int) (by show((j:Nat):Int)+1=_;omega) (by omega) ?_;refine⟨(j+1,nx++ [V1],NX2,I9),by simp only[Qq];rfl,⟨Ld,Kk,?_,by simp only;rw[Qq];exact CX,aQn⟩,by show vs.length-(j+1)<vs.length-j;omega⟩;simp only;rw[dt,WF,<-dh,ep,Yl,rM,KW];congr 1;have h9:QL p.nm.length (KG v.2.o (ZW v.2.o (oD e.x)))=[]:=hP0.1 hy;unfold V9;rw[if_neg (by exact MC),Qf (by exact h9),<-qC]<;>rfl
   ·have fa:QL p.nm.length (ZW v.2.o (oD e.x))=[]:=hQ0.1 hz;have eU:=stv.root0;refine GA (j:=0) (i:=1) xH rfl ?_;refine bI (λhy=>?_) (λhy=>?_)
    ·refine Qt xH rfl ?_;refine Xh Qa [Vq v] rfl rfl rfl rfl rfl ⟨rfl,rfl,⟨⟩⟩ rfl (λcs h=>by simp only[QN] at h;subst h;rfl) rfl (by decide) (by decide) ?_;intro Zk JN HG J2;have qH:=nN.trans JN;have I8:Sl Zk 4 (some ⟨X6.heap.size,0,none⟩) 1 1 (Vq v):=Sl.own (sz:=4) (n:=1) J2 (QB _) (by decide) (by simp[Vq]);refine Z4 (n:=nx.length) Qa rfl rfl rfl rfl rfl (by decide) rfl rfl ⟨_,rfl⟩ rfl rfl (ub.ext qH) I8 (GK _) (by unfold maxLen;omega) (by show(nx.length+1)*56<=_;omega) (by have:=(Xl.trans qH).size;omega) ?_;intro NX2 I9 Ky ud iA La;have uf:Mod (Qk NX) w8 Ky:=(Mod.of_ext (Qk NX) qH).trans ud (λi hi=>.inl hi);have xI:Ext w7 Ky:=uf.ext Xl (λk hk=>(W8 k hk).1);have xJ:∀k,Qk NX2 k->Qk NX k∨Zk.heap.size<=k:=La.rows
     have nQg:=qH.size;have aQp:∀k,Qk NX2 k->Qk NX k∨w8.heap.size<=k:=λk hk=>by
      rcases xJ k hk with h | h
      ·exact .inl h
      ·exact .inr (by omega)
     refine Qi ((j+1:Nat):Int) (by show((j:Nat):Int)+1=_;omega) (by omega) ?_;rw[show nx.flatMap Vq++Vq v=(nx++ [v]).flatMap Vq by rw[WF];simp] at iA;refine⟨(j+1,nx++ [v],NX2,I9),by simp only[Qq];rfl,⟨xI,Kk,?_,by simp only;rw[Qq];exact iA,λu hu=>?_⟩,by show vs.length-(j+1)<vs.length-j;omega⟩
     ·simp only;rw[dt,WF,<-dh,ep,Yl,rM,KW];congr 1;unfold V9;rw[Qf (by exact fa),if_neg (λe0=>hy (eU.2 e0))]<;>rfl
     ·rcases XM.1 hu with hu | hu
      ·exact(qG u hu).step uf aQp
      ·rw[QN.1 hu];have h0:DgO w8 (Qk NX) p.nm.length v.1 v.2.o:=⟨sbv.ext gl,stv,λad ea h0 h=>by have:=SB.lt (sbv.ext JI) ad ea h0;have:=(W8 _ h).1;omega⟩
       exact h0.step uf aQp
    ·refine Qi ((j+1:Nat):Int) (by show((j:Nat):Int)+1=_;omega) (by omega) ?_;refine⟨(j+1,nx,NX,nxc),rfl,⟨Xl.trans nN,Kk,?_,ub.ext nN,λu hu=>(qG u hu).ext nN⟩,by show vs.length-(j+1)<vs.length-j;omega⟩;simp only;rw[dt,WF,<-dh,Yl,rM,KW];unfold V9;rw[Qf (by exact fa),Qf (eU.1 hy),KW]
  ·have Kk:j=vs.length:=by simp only at c2;omega
   rw[Jc (by rw[JF];omega),jL,<-iQE,<-mN heg] at dh;refine Qi ((i+1:Nat):Int) (by show((i:Nat):Int)+1=_;omega) (by omega) ?_;exact⟨(i+1,nx,NX,nxc),rfl,⟨Qw.trans (JI.trans Xl),QZ,dh,⟨ub.sl,rfl⟩,λv hv=>⟨(qG v hv).sb,(qG v hv).st⟩⟩,by show m.length-(i+1)<m.length-i;omega⟩
 have QZ:i=m.length:=by simp only at c1;omega
 rw[Jc (by rw[JF];omega)] at jL;have DJ:=iQJ (f:=p.f) (a:=a) (stop:=a+s.length+1) (es:=m.map EdV.ed) QU;rw[uH] at DJ;have MD:=iQL (f:=p.f) (a:=a) (stop:=a+s.length+1) (es:=m.map EdV.ed) QU;have hvi:=AZ (f:=p.f) (a:=a) QU (m.map EdV.ed);rw[<-jL] at DJ MD hvi;refine loop Qa [165,23] (λt:Nat×List (DV×Pr)×Option Addr×Nat=>[.int .i64 t.1,.slice t.2.2.1 t.2.1.length t.2.2.2]) (λt w'=>Ext w5 w'/\t.1<=vs.length/\t.2.1.map (·.2)=kO p.f (a+s.length+1) ((vs.map (·.2)).take t.1)/\Own w' w5.heap.size 56 3 t.2.2.1 t.2.1.length t.2.2.2 (t.2.1.flatMap Ya)/\(∀q∈t.2.1,DgO w' (Qk t.2.2.1) p.nm.length q.1 q.2.o)/\∀v∈(vs.map (·.2)).take t.1,V6 (v.d++ZG p.f v.a (a+s.length+1))=true) (λt _=>vs.length-t.1) (0,[],none,0) rfl ⟨Ext.refl _,Xr _,rfl,Own.nil _ _ _ _,(λq hq=>by cases hq),λv hv=>by simp at hv⟩ ?_;rintro⟨k,qs,PA,pc⟩ w6 ⟨QO,Ic,iP,gg,nQ,xK⟩;simp only at Ic iP gg nQ xK;have XR:=J3.trans QO;have hql:qs.length<=k:=by
  have h1:=QC List.length iP;have h2:=iQQ p.f (a+s.length+1) ((vs.map (·.2)).take k);rw[JF] at h1;rw[K8] at h2;omega
 have W8:=gg.rows;refine Qz (λc2=>?_) (λc2=>?_)
 ·have Xj:k<vs.length:=by simp only at c2;omega
  refine Zv Tq (My.ext QO) rfl Xj (λua v hv Yx=>?_);have lL:=Xm hv;obtain⟨sbv,stv⟩:=Mz v lL;obtain⟨vb8,vbl,vba⟩:=gz v lL;have MB:(vs.map (·.2))[k]? =some v.2:=by rw[aL,hv]<;>rfl
  have hvV:v.2∈vs.map (·.2):=X7.2 ⟨v,lL,rfl⟩;have dt:(vs.map (·.2)).take (k+1)=(vs.map (·.2)).take k++ [v.2]:=mN MB;refine Kn (vs:=Vq v) rfl Yx ?_;refine new (λw7 Xb Wu Q2=>?_);refine Qv Q2 rfl (sc rfl) (λw8 Y5 _ Xw=>?_);have gj:Ext w6 w8:=X9 Xb Q2 Y5;have Y6:=XR.trans gj;have YQ:=Ext.drew w8;have ds:=Xe v.2.d;have cs:=Xe (ZG p.f v.2.a (a+s.length+1));have dl:=mO p.f v.2.a (a+s.length+1);refine XK Qa (Ext w8) 16 [(true,0),(true,1),(true,2),(true,3),(true,4),(true,5),(true,6),(true,7),(true,8),(true,9),(true,10),(true,11),(true,12),(true,13),(false,14),(false,15)] (by kernel_rfl) YQ ?_;refine QK (v:=.string (Qd v.2.d)) (λw' Qb=>(Xw.ext Qb).cell 2) ?_;refine QK (v:=.string (Qd p.f)) (λw' Qb=>((K.blk.ext Y6).ext Qb).cell 3) ?_;refine QK (v:=.int .i64 v.2.a) (λw' Qb=>(Xw.ext Qb).cell 3) ?_;refine Qi ((a+s.length+1:Nat):Int) (by rw[yM];omega) (by omega) ?_;refine XH (v':=.string (Qd (ZG p.f v.2.a (a+s.length+1)))) ⟨by omega,by omega,by rw[ct];omega⟩ (by
   rw[KY];show Value.string (Qd ((p.f.take (a+s.length+1)).drop v.2.a))=_;rw[fE];rfl) ?_
  refine XH (v':=.string (Qd (v.2.d++ZG p.f v.2.a (a+s.length+1)))) (by rw[ds,cs];unfold maxLen;omega) (by rw[ZV]) ?_;have dV:∀b∈v.2.d++ZG p.f v.2.a (a+s.length+1),b<256:=λb hb=>by
   rcases XM.1 hb with hb | hb
   ·exact vb8 b hb
   ·exact pW hB.f8 _ _ b hb
  have Wc:(v.2.d++ZG p.f v.2.a (a+s.length+1)).length<=1000000:=by rw[Qq];omega
  generalize hT:v.2.d++ZG p.f v.2.a (a+s.length+1)=T at*;refine new (λw9 Xt eT JD=>?_);refine⟨YQ.trans Xt,?_⟩;refine KD JD (by decide) (λQy Zo JM=>?_);have bu:Ext w8 Qy:=Zo.ext (YQ.trans Xt) (λi hi=>by have:=YQ.size;omega);refine⟨bu,?_⟩;have JM:Blk Qy w8.drew.heap.size 9 [.string (Qd T)]:=JM;refine QD JM rfl ?_;refine call (Sj T Qy dV (by omega)) ?_;rintro _ QH ⟨rfl,Z9⟩;have lg:=gj.trans (bu.trans Z9);have Y7:=XR.trans lg;cases JE:V6 T with
  | false=>
   refine Q8 rfl ?_;refine XO (YM 291 (by decide) QH) (λ_ _ hf=>hf.elim) ?_;rintro ch _ ⟨rfl,rfl⟩;refine⟨?_,rfl,Y7⟩;rw[rF,Qf];refine fI.2 (λhh=>?_);have:=DJ.1 hh v.2 hvV;rw[hT,JE] at this;cases this
  | true=>
  refine Q3 rfl ?_;have Z8:=JM.ext Z9;have ug:=gg.ext lg;have hPS:SlS JX 3 QH PA qs.length pc (qs.map (λq=>(q.1,q.2.t))):=⟨by rw[<-GJ];exact ug.sl,by rw[JF]⟩
  have DK:∀q∈qs,(∀b∈q.2.t,b<256)/\q.2.t.length<=1000000:=λq hq=>by
   refine Tn (P:=λt=>(∀b∈t,b<256)/\t.length<=1000000) ((vs.map (·.2)).take k) (λu hu=>?_) q.2 (by rw[<-iP];exact X7.2 ⟨q,hq,rfl⟩);obtain⟨u0,Lg,rfl⟩:=X7.1 (aN hu);obtain⟨a1,a2,a3⟩:=gz u0 Lg;refine⟨λb hb=>?_,?_⟩
   ·rcases XM.1 hb with hb | hb
    ·exact a1 b hb
    ·exact pW hB.f8 _ _ b hb
   ·have:=mO p.f u0.2.a (a+s.length+1);rw[Qq];omega
  have DL:Zs (qs.map (λq=>(q.1,q.2.t)))=qs.map (·.2):=GI (λq hq=>(nQ q hq).st);refine call (iQO PA qs.length pc (qs.map (λq=>(q.1,q.2.t))) T w8.drew.heap.size QH hPS (λq hq=>by
   obtain⟨q0,Yg,rfl⟩:=X7.1 hq;exact(DK q0 Yg).1) dV Z8) ?_
  rintro _ Xa ⟨rfl,Xv⟩;rw[DL];have qI:=lg.trans Xv;have tN:=XR.trans qI;have lQm:=(bu.trans Z9).trans Xv;have qJ:=gg.ext qI;have Vh:=Z8.ext Xv;have wL:=Xw.ext lQm;have nQh:=qI.size;obtain⟨s1,s2⟩:=AW T (qs.map (·.2));have mQj:=iQn (qs.map (·.2)) T;rw[JF] at mQj;have aQY:kO p.f (a+s.length+1) ((vs.map (·.2)).take (k+1))=cP (qs.map (·.2)) v.2.o T:=by rw[dt,iQK,<-iP,hT]
  have aQq:∀u∈(vs.map (·.2)).take (k+1),V6 (u.d++ZG p.f u.a (a+s.length+1))=true:=λu hu=>by
   rw[dt] at hu;rcases XM.1 hu with hu | hu
   ·exact xK u hu
   ·rw[QN.1 hu,hT];exact JE
  generalize Kr:Y0 (qs.map (·.2)) T=ix at*;by_cases Xc:ix<qs.length
  ·rw[Qf Xc];refine XD (by omega) ?_;have W6:0<qs.length:=by omega
   obtain⟨q0,Yg⟩:∃q0,qs[ix]? =some q0:=⟨_,Xp Xc⟩
   have mQk:=Xm Yg;obtain⟨pa,Jb,_⟩:=qJ.sl.at_ W6;subst Jb;have n25:¬Qk (some pa) w6.heap.size:=λh=>by have:=(W8 _ h).2;omega
   have qK:=Ext.drew Xa;have lQn:∀q∈qs,DgO Xa (Qk (some pa)) p.nm.length q.1 q.2.o:=λq hq=>(nQ q hq).ext qI
   refine XK Qa (Mod (Qk (some pa)) Xa) 16 [(true,0),(true,1),(true,2),(true,3),(true,4),(true,5),(true,7),(true,8),(false,6),(false,9),(true,10),(true,11),(false,12),(true,13),(true,14),(false,15)] (by kernel_rfl) (Mod.of_ext _ qK) ?_;refine eI (j:=ix) Xc ?_;refine Xs (vs:=[.slice v.1.A v.1.n v.1.c,.int .i64 v.1.r]) rfl (λw' Qb k u hk=>by rw[add_add,(wL.mod Qb n25).cell];match k,hk with | 0,hk=>exact hk | 1,hk=>exact hk) ?_;have hOd:=qJ.ext qK;refine Kn (vs:=[.slice q0.1.A q0.1.n q0.1.c,.int .i64 q0.1.r]) rfl (λk u hk=>by
    rw[add_add];refine Ar (o:=ix*3) (i:=0+k) hOd W6 ?_;rw[Wh];refine i7 A0 qs ix q0 k u Yg ?_
    match k,hk with
    | 0,hk=>exact hk
    | 1,hk=>exact hk) ?_
   refine⟨Mod.of_ext _ qK,?_⟩;have sq0:=(lQn q0 mQk)
   refine call (iQM hk q0.1 v.1 Xa.drew (sq0.sb.ext qK) ((sbv.ext (QO.trans qI)).ext qK) sq0.st stv) ?_;rintro _ X6 ⟨OA,On,Oc,Ond,Or',rfl,XI,hOs,sO,hOR⟩;have aQr:=qK.trans XI;refine⟨Mod.of_ext _ aQr,?_⟩;refine call (AN ⟨OA,On,Oc,Ond,Or'⟩ X6) ?_;rintro _ Zk ⟨rfl,JN⟩;have qE:=aQr.trans JN;refine⟨Mod.of_ext _ qE,?_⟩;refine eI (j:=ix) Xc ?_;show lU _ _ ((pa.add (ix*3)).add 0) _ _;rw[add_add];have nQi:=dG A0 qs;refine Ro (qJ.ext qE) (by show ix*3+0+2<=qs.length*3;omega) (sc rfl) (λKy ud iA=>?_);have aQs:Mod (Qk (some pa)) Xa Ky:=(Mod.of_ext _ qE).trans ud (λi hi=>.inl hi);refine⟨aQs,?_⟩;have aQt:Mod (Qk (some pa)) w6 Ky:=(Mod.of_ext _ qI).trans aQs (λi hi=>.inl hi);have aQu:(qs.flatMap Ya)[ix*3+0+ [Value.slice OA On Oc,.int .i64 Or'].length]? =some (.string (Qd q0.2.t)):=i7 A0 qs ix q0 2 _ Yg rfl;rw[show(#[Value.slice OA On Oc,Value.int IntKind.i64 Or']:Array Value).toList=[Value.slice OA On Oc,.int .i64 Or'] from rfl,iQP aQu] at iA;have iA:Own Ky w5.heap.size 56 3 (some pa) qs.length pc ((qs.set ix (⟨OA,On,Oc,Ond,Or'⟩,Pr.mk (λe=>q0.2.o e||v.2.o e) q0.2.t)).flatMap Ya):=by
    rw[<-Ft A0 qs _ Xc];exact iA
   refine Qi ((k+1:Nat):Int) (by show((k:Nat):Int)+1=_;omega) (by omega) ?_;have mQl:(qs.map (·.2))[ix]? =some q0.2:=by rw[aL,Yg]<;>rfl
   have nQj:=qE.size;have nQk:=qK.size;refine⟨(k+1,qs.set ix (⟨OA,On,Oc,Ond,Or'⟩,Pr.mk (λe=>q0.2.o e||v.2.o e) q0.2.t),some pa,pc),by simp only[fB];rfl,⟨aQt.ext QO (λi hi=>(W8 i hi).1),Xj,?_,by simp only;rw[fB];exact iA,λq hq=>?_,aQq⟩,by show vs.length-(k+1)<vs.length-k;omega⟩
   ·simp only;rw[aQY];unfold cP;rw[Kr,mQl,List.map_set]
   ·rcases M7 hq with hq | rfl
    ·exact(nQ q hq).step aQt (λi hi=>.inl hi)
    ·have h0:DgO Zk (Qk (some pa)) p.nm.length ⟨OA,On,Oc,Ond,Or'⟩ (λe=>q0.2.o e||v.2.o e):=⟨hOs.ext JN,sO,λad ea h0 h=>by have:=hOR ad.block ⟨ad,ea,rfl⟩;have:=(W8 _ h).2;omega⟩
     exact h0.step ud (λi hi=>.inl hi)
  ·rw[if_neg Xc];refine Zh (by decide) ?_;refine fR (vs:=[.slice v.1.A v.1.n v.1.c,.int .i64 v.1.r]) wL rfl (λk u hk=>by match k,hk with | 0,hk=>exact hk | 1,hk=>exact hk) ?_;refine QD Vh rfl ?_;refine Xh Qa [Ya (v.1,Pr.mk v.2.o T)] rfl rfl rfl rfl rfl ⟨rfl,rfl,⟨⟩⟩ rfl (λcs h=>by simp only[QN] at h;subst h;rfl) rfl (by decide) (by decide) ?_;intro X6 XI H9 K5;have CY:=qI.trans XI;have Ip:Sl X6 3 (some ⟨Xa.heap.size,0,none⟩) 1 1 (Ya (v.1,Pr.mk v.2.o T)):=Sl.own (sz:=3) (n:=1) K5 (QB _) (by decide) (by simp[Ya,JX]);refine Z4 (n:=qs.length) Qa rfl rfl rfl rfl rfl (by decide) rfl rfl ⟨_,rfl⟩ rfl rfl (gg.ext CY) Ip (iQS _) (by unfold maxLen;omega) (by show(qs.length+1)*48<=_;omega) (by have:=(QO.trans CY).size;omega) ?_;intro PA2 pc2 Zk BK aQv lQo;have Lh:Mod (Qk PA) w6 Zk:=(Mod.of_ext (Qk PA) CY).trans BK (λi hi=>.inl hi);have r14:∀k,Qk PA2 k->Qk PA k∨X6.heap.size<=k:=lQo.rows
   have lQp:=CY.size;have aQw:∀k,Qk PA2 k->Qk PA k∨w6.heap.size<=k:=λk hk=>by
    rcases r14 k hk with h | h
    ·exact .inl h
    ·exact .inr (by omega)
   refine Qi ((k+1:Nat):Int) (by show((k:Nat):Int)+1=_;omega) (by omega) ?_;rw[show qs.flatMap Ya++Ya (v.1,Pr.mk v.2.o T)=(qs++ [(v.1,Pr.mk v.2.o T)]).flatMap Ya by rw[WF];simp] at aQv;have LX:(qs.map (·.2))[ix]? =none:=List.getElem?_eq_none_iff.2 (by rw[JF];omega);refine⟨(k+1,qs++ [(v.1,Pr.mk v.2.o T)],PA2,pc2),by simp only[Qq];rfl,⟨Lh.ext QO (λi hi=>(W8 i hi).1),Xj,?_,by simp only;rw[Qq];exact aQv,λq hq=>?_,aQq⟩,by show vs.length-(k+1)<vs.length-k;omega⟩
   ·simp only;rw[aQY];unfold cP;rw[Kr,LX,ep]<;>rfl
   ·rcases XM.1 hq with hq | hq
    ·exact(nQ q hq).step Lh aQw
    ·rw[QN.1 hq];have h0:DgO w6 (Qk PA) p.nm.length v.1 v.2.o:=⟨sbv.ext QO,stv,λad ea h0 h=>by have:=SB.lt sbv ad ea h0;have:=(W8 _ h).1;omega⟩
     exact h0.step Lh aQw
 have Xj:k=vs.length:=by simp only at c2;omega
 rw[Jc (by rw[JF];omega)] at iP xK;rw[<-iP] at MD;obtain⟨Jb,hfP⟩:=MD.pa hvi (λc hc=>(Js.1 hc).1);have DL:Zs (qs.map (λq=>(q.1,q.2.t)))=qs.map (·.2):=GI (λq hq=>(nQ q hq).st);rw[if_neg (by rw[DJ.2 xK];decide)] at rF;have DK:∀q∈qs,V6 q.2.t=true/\(∀b∈q.2.t,b<256)/\q.2.t.length<=1000000:=λq hq=>by
  refine Tn (P:=λt=>V6 t=true/\(∀b∈t,b<256)/\t.length<=1000000) (vs.map (·.2)) (λu hu=>?_) q.2 (by rw[<-iP];exact X7.2 ⟨q,hq,rfl⟩);have hu1:=xK u hu;obtain⟨u0,Lg,rfl⟩:=X7.1 hu;obtain⟨a1,a2,a3⟩:=gz u0 Lg;refine⟨hu1,λb hb=>?_,?_⟩
  ·rcases XM.1 hb with hb | hb
   ·exact a1 b hb
   ·exact pW hB.f8 _ _ b hb
  ·have:=mO p.f u0.2.a (a+s.length+1);rw[Qq];omega
 have YQ:=Ext.drew w6;refine XK Qa (Ext w6) 8 [(true,0),(true,1),(true,2),(true,3),(true,4),(true,5),(false,6),(true,7)] (by kernel_rfl) YQ ?_;refine QK (v:=.slice p.NA p.nn p.nc) (λw' Qb=>((K.blk.ext XR).ext Qb).cell 0) ?_;refine Xs (vs:=d.cells) rfl (λw' Qb k u hk=>by rw[((Qh.ext (XI.trans (Qs.trans (Qw.trans QO)))).ext Qb).cell];exact hk) ?_;have fy:=XR.trans YQ;refine call (Sr p.NA p.nn p.nc p.nm d o PA qs.length pc (qs.map (λq=>(q.1,q.2.t))) p.nm.length hB.n4 rfl hB.nb (λs hs=>by have:=hB.nl s hs;omega) (λq hq=>by
  obtain⟨q0,Yg,rfl⟩:=X7.1 hq;obtain⟨t1,t2,t3⟩:=DK q0 Yg;exact⟨(jg hk (nQ q0 Yg).st).1,t1,t2,t3⟩) w6.drew (K.nms.ext fy) (hd.ext fy) sd ⟨by rw[<-GJ];exact(gg.ext YQ).sl,by rw[JF]⟩ (λq hq=>by
  obtain⟨q0,Yg,rfl⟩:=X7.1 hq;exact(nQ q0 Yg).sb.ext YQ) QU (by rw[DL];exact Jb)) ?_
 rintro _ w7 ⟨A7,c7,rfl,Xb,Vu⟩;refine⟨YQ.trans Xb,?_⟩;rw[DL,AU p.nm.length 0 (QL p.nm.length o) QU hfP,uH] at Vu ⊢;exact⟨_,rF,A7,c7,rfl,fy.trans Xb,Vu⟩
theorem Ts {nm:List (List Nat)}{n d0:Nat}{inc:mE}(hi:∀r ln d k g q,inc r ln d k g= .error q->q.e≠0):∀(ls:List (List Nat))(ln at_:Nat)(k:BF)(op:List Se)(g:Gs)(q:Pl),ZX nm n d0 inc ls ln at_ k op g= .error q->q.e≠0
 | [],ln,at_,k,op,g,q,h=>by
  cases op with
  | nil=>simp[ZX] at h
  | cons x op=>simp only[ZX,Except.error.injEq] at h;rw[<-h];exact(by decide:(72:Int)≠0)
 | s::ls,ln,at_,k,op,g,q,h=>by
  have ih:=λk op g h=>Ts (nm:=nm) (n:=n) (d0:=d0) hi ls (ln+1) (at_+s.length+1) k op g q h
  rw[ZX.eq_def] at h;simp only at h;cases XX:Zn s with
  | txt=>
   rw[XX] at h;simp only at h;cases ha:KZ (s++ [10]) n at_ k g with
   | none=>rw[ha] at h;cases h;exact(by decide:(2:Int)≠0)
   | some g1=>rw[ha] at h;exact ih _ _ _ h
  | ifd r=>
   rw[XX] at h;simp only at h;cases hs:VH nm r with
   | error e=>rw[hs] at h;cases h;exact Ti hs
   | ok d=>
    rw[hs] at h;simp only at h;split at h
    ·cases h;exact(by decide:(2:Int)≠0)
    ·exact ih _ _ _ h
  | inc r=>
   rw[XX] at h;simp only at h;cases hs:inc r (ln+1) (d0+op.length) k g with
   | error e=>rw[hs] at h;cases h;exact hi _ _ _ _ _ _ hs
   | ok g1=>rw[hs] at h;exact ih _ _ _ h
  | elif r=>
   rw[XX] at h;cases op with
   | nil=>cases h;exact(by decide:(72:Int)≠0)
   | cons y op=>
    simp only at h;split at h
    ·cases h;exact(by decide:(71:Int)≠0)
    ·cases hs:VH nm r with
     | error e=>rw[hs] at h;cases h;exact Ti hs
     | ok d=>rw[hs] at h;exact ih _ _ _ h
  | els=>
   rw[XX] at h;cases op with
   | nil=>cases h;exact(by decide:(72:Int)≠0)
   | cons y op=>
    simp only at h;split at h
    ·cases h;exact(by decide:(71:Int)≠0)
    ·exact ih _ _ _ h
  | en=>
   rw[XX] at h;cases op with
   | nil=>cases h;exact(by decide:(72:Int)≠0)
   | cons y op=>exact ih y.ou op {g with fr:=true} h
theorem iQX {ix:List Nat->Option Nat}{rd s:List Nat}{e:Int}(h:cI ix rd s= .error e):e≠0:=by
 rw[fQU] at h;split at h
 ·cases h;decide
 ·split at h
  ·cases h;decide
  ·split at h
   ·cases h;decide
   ·cases h
theorem iQY {nm:List (List Nat)}{t:List Nat}{q:Pl}(h:V5 nm (fF t) [102]= .error q):q.e≠0:=by
 unfold V5 at h;split at h
 ·cases h;decide
 cases KL:YJ (fF t)with
 | some p=>rw[KL] at h;cases h;exact Rw KL
 | none=>
  rw[KL] at h;simp only at h;cases Kr:Jd ((fF t).map (·.1)) [102] with
  | none=>rw[Kr] at h;cases h;decide
  | some n=>
   rw[Kr] at h;simp only at h;have hn:n<(fF t).length:=by have:=kA Kr;simpa using this
   have h0:n=0:=by simpa [fF] using hn
   subst h0;rw[WN] at h;refine Ts (λr ln d k g q hi=>?_) _ _ _ _ _ _ _ h;split at hi
   ·rename_i e he;cases hi;exact iQX he
   ·rename_i m he;exact Xn he (Gp t (by simp) (e:=0) _)
theorem GL:∀(l:List Nat),∀s∈QR l,∀b∈s,b∈l
 | []=>λs hs=>by simp[QR] at hs
 | c::l=>by
  have ih:=GL l;intro s hs b hb;unfold QR at hs;split at hs
  ·rcases Q1.1 hs with rfl | hs
   ·cases hb
   ·exact rN _ (ih s hs b hb)
  ·cases hl:QR l with
   | nil=>rw[hl] at hs;rw[QN.1 hs] at hb;rw[QN.1 hb];simp
   | cons t ls=>
    rw[hl] at hs ih;rcases Q1.1 hs with rfl | hs
    ·rcases Q1.1 hb with rfl | hb
     ·simp
     ·exact rN _ (ih t (by simp) b hb)
    ·exact rN _ (ih s (by simp[hs]) b hb)
theorem Tt {f:List Nat}(hf:∀b∈f,b<256)(ZT:f.length<=60000)(c:Nat):∀(es:List Ed)(st:List Nat×Nat),(∀e∈es,(∀b∈e.tx,b<256)/\e.tx.length<=1000)->(∀b∈st.1,b<256)->
  (∀b∈(es.foldl (VL f c) st).1,b<256)/\(es.foldl (VL f c) st).1.length<=st.1.length+es.length*70000
 | [],st,_,h=>⟨h,by simp⟩
 | e::es,st,he,h=>by
  obtain⟨e1,e2⟩:=he e (by simp);have fq:=mO f st.2 e.fr.toNat;have iC:(∀b∈(VL f c st e).1,b<256)/\(VL f c st e).1.length<=st.1.length+70000:=by
   unfold VL;split
   ·refine⟨λb hb=>?_,by simp only[Qq];omega⟩;simp only[XM] at hb;rcases hb with(hb | hb) | hb
    ·exact h b hb
    ·exact pW hf _ _ b hb
    ·exact e1 b hb
   ·exact⟨h,by omega⟩
  obtain⟨i1,i2⟩:=Tt hf ZT c es (VL f c st e) (λb hb=>he b (by simp[hb])) iC.1;rw[oU,Q6,oW,yY];exact⟨i1,by omega⟩
theorem iQZ {f:List Nat}(hf:∀b∈f,b<256)(ZT:f.length<=60000){stop a:Nat}{es:List Ed}(he:∀e∈es,(∀b∈e.tx,b<256)/\e.tx.length<=1000)(hl:es.length<=10)(c:Nat):(∀b∈WR f stop a es c,b<256)/\(WR f stop a es c).length<=1000000:=by
 obtain⟨h1,h2⟩:=Tt hf ZT c es ([],a) he (λb hb=>by cases hb);unfold WR;refine⟨λb hb=>?_,?_⟩
 ·rcases XM.1 hb with hb | hb
  ·exact h1 b hb
  ·exact pW hf _ _ b hb
 ·have:=mO f (es.foldl (VL f c) ([],a)).2 stop;have:=bG 70000 hl;rw[Qq];simp only[Jn] at h2;omega
def tr (s:List Nat):Prop:=(∀b∈s,b<256)/\s.length<=1000000
theorem iQ0 {nm:List (List Nat)}(hb:Ku nm)(h:∀s∈nm,s.length<=1000)(v:Nat)(ng:Bool):tr (VJ nm v ng):=by
 refine⟨λb hb2=>?_,?_⟩
 ·unfold VJ at hb2;simp only[XM] at hb2;rcases hb2 with hb2 | hb2 | hb2
  ·exact(by decide:∀b∈ZQ,b<256) b hb2
  ·cases ng with
   | true=>
        have:b=33:=by simpa using hb2
        rw[this];decide
   | false=>simp at hb2
  ·cases hv:nm[v]? with
   | none=>rw[hv] at hb2;simp at hb2
   | some s=>rw[hv] at hb2;exact(hb s (Xm hv)).1 b hb2
 ·unfold VJ;have h1:((nm[v]?).getD []).length<=1000:=by
   cases hv:nm[v]? with
   | none=>simp
   | some s=>exact h s (Xm hv)
  have h2:(if ng then [33] else([]:List Nat)).length<=1:=by cases ng<;>simp
  have h3:ZQ.length=4:=rfl;simp only[Qq];omega
theorem iQ1 {nm:List (List Nat)}(VR:Ku nm)(Kl:∀s∈nm,s.length<=1000){f:List Nat}(hf:∀b∈f,b<256)(ZT:f.length<=60000){es:List Ed}(he:∀e∈es,(∀b∈e.tx,b<256)/\e.tx.length<=1000)(hl:es.length<=10){S:List Nat}(hS:S.length<=16){a:Nat}{s:List Nat}(hs:tr s){L:List (List Nat)}(h:WU nm f es S a s=some L):
  L.length<=16000048/\∀u∈L,tr u:=by
 unfold WU at h;split at h
 ·rw[<-Option.some.inj h];exact⟨by show 1<=16000048;decide,λu hu=>by rw[QN.1 hu];exact hs⟩
 ·rename_i h0;split at h
  ·cases h
  ·split at h
   ·cases h
   ·rw[<-Option.some.inj h];have QU:S≠ []:=λe=>by
     apply h0;unfold bR;rw[M5];intro b hb;rw[e];simp[WT]
    have hm:∀e∈bR es S a s,(∀b∈e.tx,b<256)/\e.tx.length<=1000:=λe hm=>he e (VU.1 hm).1
    have Md:(bR es S a s).length<=10:=Zc (yZ _ _) hl;obtain⟨h1,h2⟩:=tf (nm:=nm) (f:=WR f (a+s.length+1) a (bR es S a s)) (P:=tr) (M:=1000000) (λv ng=>iQ0 VR Kl v ng) ⟨by decide,by decide⟩ ⟨by decide,by decide⟩ nm.length 0 S QU (λc hc=>by
     obtain⟨v1,v2⟩:=iQZ hf ZT (stop:=a+s.length+1) (a:=a) hm Md c;obtain⟨l1,l2⟩:=AY (WR f (a+s.length+1) a (bR es S a s) c);exact⟨λu hu=>⟨λb hb=>v1 b (GL _ u hu b hb),by have:=l2 u hu;omega⟩,by omega⟩)
    have:=bG (1000000+3) hS;exact⟨by omega,h1⟩
def ApR (nm:List (List Nat))(d:BF)(g:Gs)(f:List Nat)(es:List Ed)(ls:List (List Nat))(i:Nat)(L:List (List Nat)):Prop:=
 ay nm d g f es ls 0=match ay nm d g f es (ls.drop i) (Qp (ls.take i)).length with
  | none=>none
  | some m=>some (L++m)
theorem ApR.zero {nm:List (List Nat)}{d:BF}{g:Gs}{f:List Nat}{es:List Ed}{ls:List (List Nat)}:ApR nm d g f es ls 0 []:=by
 unfold ApR;show ay nm d g f es ls 0=match ay nm d g f es ls 0 with
  | none=>none
  | some m=>some ([]++m)
 cases ay nm d g f es ls 0<;>rfl
theorem wq {ls:List (List Nat)}{i:Nat}{s:List Nat}(h:ls[i]? =some s):(Qp (ls.take (i+1))).length=(Qp (ls.take i)).length+s.length+1:=by
 rw[K9,h];show(Qp (ls.take i++ [s])).length=_;rw[RR];simp only[Qq,o6];omega
theorem ApR.next {nm:List (List Nat)}{d:BF}{g:Gs}{f:List Nat}{es:List Ed}{ls:List (List Nat)}{i:Nat}{L l:List (List Nat)}{s:List Nat}(h:ApR nm d g f es ls i L)(hs:ls[i]? =some s)
  (hl:(if Zn s= .txt then WU nm f es (QL nm.length (ZW d (jk g (Qp (ls.take i)).length))) (Qp (ls.take i)).length s else some [s])=some l):ApR nm d g f es ls (i+1) (L++l):=by
 have Xc:=(ZY.1 hs).1;have hd:ls.drop i=s::ls.drop (i+1):=by
  rw[W9 Xc];congr 1;rw[Xp Xc] at hs;exact Option.some.inj hs
 unfold ApR at h ⊢;rw[hd,ay,hl] at h;rw[wq hs,h];simp only;cases ay nm d g f es (ls.drop (i+1)) ((Qp (ls.take i)).length+s.length+1)with
 | none=>rfl
 | some m=>simp only[J7]
theorem ApR.none {nm:List (List Nat)}{d:BF}{g:Gs}{f:List Nat}{es:List Ed}{ls:List (List Nat)}{i:Nat}{L:List (List Nat)}{s:List Nat}(h:ApR nm d g f es ls i L)(hs:ls[i]? =some s)
  (hl:(if Zn s= .txt then WU nm f es (QL nm.length (ZW d (jk g (Qp (ls.take i)).length))) (Qp (ls.take i)).length s else some [s])=Option.none):ay nm d g f es ls 0=Option.none:=by
 have Xc:=(ZY.1 hs).1;have hd:ls.drop i=s::ls.drop (i+1):=by
  rw[W9 Xc];congr 1;rw[Xp Xc] at hs;exact Option.some.inj hs
 unfold ApR at h;rw[hd,ay,hl] at h;exact h
theorem ApR.fin {nm:List (List Nat)}{d:BF}{g:Gs}{f:List Nat}{es:List Ed}{ls:List (List Nat)}{i:Nat}{L:List (List Nat)}(h:ApR nm d g f es ls i L)(hi:ls.length<=i):ay nm d g f es ls 0=some L:=by
 unfold ApR at h;rw[o7 hi] at h;rw[h];show some (L++ [])=some L;rw[KW]
theorem Tu:∀{ls:List (List Nat)}{p i:Nat}{s:List Nat},ls[i]? =some s->(p+(Qp (ls.take i)).length,s)∈Z6 p ls
 | [],p,i,s,h=>by simp at h
 | t::ls,p,0,s,h=>by
  have:t=s:=by simpa using h
  subst this;simp[Z6,Qp]
 | t::ls,p,i+1,s,h=>by
  have:=Tu (p:=p+t.length+1) (ls:=ls) (i:=i) (s:=s) (by simpa using h);refine rN _ ?_;rw[uI,V3];simp only[Qq,Q6];rw[show p+(t.length+((Qp (ls.take i)).length+1))=p+t.length+1+(Qp (ls.take i)).length by omega];exact this
theorem Tv {nm:List (List Nat)}{n d0:Nat}{inc:mE}(hi:∀r ln d k g g',inc r ln d k g≠ .ok g'):∀(ls:List (List Nat))(ln at_:Nat)(k:BF)(op:List Se)(g g':Gs),ZX nm n d0 inc ls ln at_ k op g= .ok g'->∀q∈Z6 at_ ls,Zn q.2= .txt->∃k',(q.1,q.2,k')∈gc nm ls at_ k (jf op)
 | [],ln,at_,k,op,g,g',_,q,hq,_=>by cases hq
 | s::ls,ln,at_,k,op,g,g',h,q,hq,lO=>by
  have ih:=λk op g h hq=>Tv (nm:=nm) (n:=n) (d0:=d0) hi ls (ln+1) (at_+s.length+1) k op g g' h q hq lO
  rw[ZX.eq_def] at h;simp only at h;rw[gc.eq_def];simp only;rw[Z6] at hq;cases XX:Zn s with
  | txt=>
   rw[XX] at h;simp only at h ⊢;cases ha:KZ (s++ [10]) n at_ k g with
   | none=>rw[ha] at h;cases h
   | some g1=>
    rw[ha] at h;rcases Q1.1 hq with rfl | hq
    ·exact⟨k,M6⟩
    ·obtain⟨k',YB⟩:=ih _ _ _ h hq;exact⟨k',rN _ YB⟩
  | ifd r=>
   rw[XX] at h;simp only at h ⊢;rcases Q1.1 hq with rfl | hq
   ·rw[XX] at lO;cases lO
   cases hs:VH nm r with
   | error e=>rw[hs] at h;cases h
   | ok d=>
    rw[hs] at h;simp only at h ⊢;split at h
    ·cases h
    ·exact ih _ _ _ h hq
  | inc r=>
   rw[XX] at h;simp only at h;cases hs:inc r (ln+1) (d0+op.length) k g with
   | error e=>rw[hs] at h;cases h
   | ok g1=>exact Xn hs (hi _ _ _ _ _ _)
  | elif r=>
   rw[XX] at h;rcases Q1.1 hq with rfl | hq
   ·rw[XX] at lO;cases lO
   cases op with
   | nil=>cases h
   | cons y op=>
    simp only at h ⊢;split at h
    ·cases h
    ·cases hs:VH nm r with
     | error e=>rw[hs] at h;cases h
     | ok d=>rw[hs] at h;exact ih _ _ _ h hq
  | els=>
   rw[XX] at h;rcases Q1.1 hq with rfl | hq
   ·rw[XX] at lO;cases lO
   cases op with
   | nil=>cases h
   | cons y op=>
    simp only at h ⊢;split at h
    ·cases h
    ·exact ih y.re ({y with ot:=true}::op) {g with fr:=true} h hq
  | en=>
   rw[XX] at h;rcases Q1.1 hq with rfl | hq
   ·rw[XX] at lO;cases lO
   cases op with
   | nil=>cases h
   | cons y op=>exact ih y.ou op {g with fr:=true} h hq
theorem iQ2 {nm:List (List Nat)}{t:List Nat}{g:Gs}(hr:V5 nm (fF t) [102]= .ok g){q:Nat×List Nat}(hq:q∈Z6 0 (QR t))(hd:Zn q.2= .txt):∃k i x,SegAt g q.1 k i x:=by
 obtain⟨ht,h1,h2,h3⟩:=SV hr;have key:∃k',(q.1,q.2,k')∈gc nm (QR t) 0 (λ_=>true) []:=by
  unfold V5 at hr;split at hr
  ·cases hr
  cases KL:YJ (fF t)with
  | some p=>rw[KL] at hr;cases hr
  | none=>
   rw[KL] at hr;simp only at hr;cases Kr:Jd ((fF t).map (·.1)) [102] with
   | none=>rw[Kr] at hr;cases hr
   | some n=>
    rw[Kr] at hr;simp only at hr;have hn:n<(fF t).length:=by have:=kA Kr;simpa using this
    have h0:n=0:=by simpa [fF] using hn
    subst h0;have hx:(fF t)[0]? =some ([102],t):=rfl;rw[WN,hx] at hr;simp only[uK,fG] at hr;exact Tv (λr ln d' k' g1 g2 hi=>by
     split at hi
     ·cases hi
     ·rename_i m he;exact Gp t (by simp) (e:=0) _ he) (QR t) 0 0 (λ_=>true) [] ⟨[],[],true⟩ g hr q hq hd
 obtain⟨k',hk⟩:=key;rw[<-h1] at hk;obtain⟨i,x,hs,_⟩:=iQm h3 h2 hk;exact⟨k',i,x,hs⟩
end
section
section
variable {P:Program} {ops:Array Oper} {md:Region.Mode} {C:World->Prop} {Q:Exit->Act->World->Prop}
def PanE (N:Slots)(T:Env)(Xg:List PanicEntry->World->Prop)(Q:Exit->Act->World->Prop):Exit->Act->World->Prop
 | .panic ch,a,w=>Fits N T a/\Xg ch w
 | e,a,w=>Q e a w
def wr (T:Env)(d:Option Tmp):Bool:=match d with
 | none=>true
 | some d=> !(jW d T)
theorem PanE.put {N:Slots}{T:Env}{Xg:List PanicEntry->World->Prop}{Q:Exit->Act->World->Prop}{ch:List PanicEntry}{a:Act}{d:Option Tmp}{v:Value}{w:World}(hd:wr T d=true)(h:PanE N T Xg Q (.panic ch) (a.put d v) w):PanE N T Xg Q (.panic ch) a w:=by
 obtain⟨h1,h3⟩:=h;cases d with
 | none=>exact⟨h1,h3⟩
 | some d=>
  refine⟨⟨by simpa [Act.put] using h1.size,by simpa [Act.put] using h1.defers,λk x hk=>?_⟩,h3⟩;have h4:=h1.has k x hk;have QU:d≠k:=λe=>by
   subst e;have h5:jW d T=false:=by simpa [wr] using hd
   rw[Nx h5] at hk;cases hk
  simpa [Act.put,QU] using h4
theorem PanE.imp {c:Cx}{T:Env}{Xg:List PanicEntry->World->Prop}{Q:Zg}(hp:∀ch w,Xg ch w->Q (.panic ch) T w):∀(e:Exit)(a:Act)(w:World),PanE c.N T Xg (Up c Q) e a w->Up c Q e a w:=λe a w h=>by
 cases e<;>first | exact h | (obtain⟨h1,h3⟩:=h;exact⟨T,h1,hp _ _ h3⟩)
theorem iQ3 {N:Slots}{T:Env}{Xg:List PanicEntry->World->Prop}{n i:Nat}{oi:Oper}{v:Value}{L:Array Bool->Act->World->Prop}(hi:ops[i]? =some oi)(nY:∀(j:Nat)(o:Oper) cs b,ops[j]? =some o->o.op≠ .select cs b)(hT:wr T oi.dst=true)
  (hs:iY md ops n) (QZ:i<n) (xS:∀listed a w,L listed a w->∀j∈Region.ready md ops listed,n<=j):
  ∀(f:Nat) (listed:Array Bool) (a:Act) (w:World),HeadInv md ops n listed->
   (∀j oj,ops[j]? =some oj->j≠i->listed.getD j true=false->(∀e∈oj.after,Region.binds md e=true->e.on≠i)->oi.apart ops oj=true)->
   i∈Region.ready md ops listed->YieldsIf P ops C oi v a->C w->
   VV P md ops (PanE N T Xg Q) C n L f (listed.setIfInBounds i true) (a.put oi.dst v) w->VV P md ops (PanE N T Xg Q) C n L (f+1) listed a w:=by
 intro f;induction f with
 | zero=>
  intro listed a w inv _ hr hy hC H;have JQ:=(mem_ready.1 hr).1;refine⟨λh=>(by rw[h] at hr;cases hr),λj hj=>?_⟩;have Kk:=r4 hs inv QZ JQ j hj;refine⟨Kk,?_⟩;by_cases KU:j=i
  ·subst KU;exact hy.wpOp hi hC ⟨hC,H⟩
  ·have:=xS _ _ _ H j (ready_mono hj KU);omega
 | succ f ih=>
  intro listed a w inv nZ hr hy hC H;have JQ:=(mem_ready.1 hr).1;refine⟨λh=>(by rw[h] at hr;cases hr),λj hj=>?_⟩;have Kk:=r4 hs inv QZ JQ j hj;refine⟨Kk,?_⟩;by_cases KU:j=i
  ·subst KU;exact hy.wpOp hi hC ⟨hC,H⟩
  ·have h1:=(H.2 j (ready_mono hj KU)).2;obtain⟨od,oj,fi,hall⟩:=mem_ready.1 hj;have lB:∀e∈oj.after,Region.binds md e=true->e.on≠i:=λe he hb heq=>by
    have h1:=hall e he hb;rw[heq,getD_both JQ] at h1;cases h1
   have h2:=wpOp_putIf fi (nZ j oj fi KU od lB) (λcs b=>nY i oi cs b hi) (λcs b=>nY j oj cs b fi) (λ_ _ _ h=>PanE.put hT h) hy h1;have xT:∀k ok,ops[k]? =some ok->k≠i->(listed.setIfInBounds j true).getD k true=false->
     (∀e∈ok.after,Region.binds md e=true->e.on≠i)->oi.apart ops ok=true:=λk ok hk xU JQ Xi=>by
    refine nZ k ok hk xU ?_ Xi;by_cases oe:j=k
    ·subst oe;exact od
    ·rw[getD_set_ne true oe] at JQ;exact JQ
   refine wpOp_mono (λa' w' h3=>⟨h3.2.1,ih (listed.setIfInBounds j true) a' w' (inv.set hj Kk) xT (ready_mono hr (Ne.symm KU)) h3.1 h3.2.1 ?_⟩) h2;rw[aQ5 _ _ KU];exact h3.2.2
end
section
variable {c:Cx} {S:Env} {a:Act}
def kP (c:Cx)(T:Env)(Xg:List PanicEntry->World->Prop)(all:List Oper)(C:World->Prop):List (Bool×Nat)->Env->World->(Env->World->Prop)->Prop
 | [],S,w,K=>K S w
 | (true,k)::l,S,w,K=>match KM all k with
  | some o=>fQ all o S (λS=>pz c o S C (λS=>kP c T Xg all C l S w K)) (λS=>Xd c S o.dst (.v undef) (λS=>kP c T Xg all C l S w K))
  | none=>False
 | (false,k)::l,S,w,K=>match KM all k with
  | some o=>fQ all o S (λS=>dz c o S w (λS w=>C w/\kP c T Xg all C l S w K) (λe S w=>match e with
   | .panic ch=>Has T S/\Xg ch w
   | _=>False)) (λS=>Xd c S o.dst (.v undef) (λS=>kP c T Xg all C l S w K))
  | none=>False
theorem A6 (hg:c.g.Ok){md:Region.Mode}{ops:List Oper}{C:World->Prop}{Q:Exit->Act->World->Prop}{n:Nat}(hs:Region.noSelect ops.toArray=true){T:Env}(hT:ops.all (λo=>wr T o.dst)=true)(hk:iY md ops.toArray n){K:Env->World->Prop}{Xg:List PanicEntry->World->Prop}:
  ∀(l:List (Bool×Nat)) (listed:Array Bool) (S:Env) (a:Act) (w:World),HeadInv md ops.toArray n listed->dF md ops.toArray n l listed=true->kP c T Xg ops C l S w K->Fits c.N S a->C w->
  VV c.g.P md ops.toArray (PanE c.N T Xg Q) C n (λJf a' w'=>Region.seqB md ops.toArray (ops.toArray.size-n) n Jf=true/\∃S',Fits c.N S' a'/\K S' w') l.length listed a w
 | [],listed,S,a,w,inv,hB,h,hf,hC=>⟨hB,S,hf,h⟩
 | (true,k)::l,listed,S,a,w,inv,hB,h,hf,hC=>by
  simp only[dF,Jl] at hB;obtain⟨⟨⟨Xj,hr⟩,gn⟩,KK⟩:=hB;have Xj:k<n:=by rw[gC] at Xj;exact Xj
  have Q0:k∈Region.ready md ops.toArray listed:=by simpa using hr
  obtain⟨_,o,ho,_⟩:=mem_ready.1 Q0;have hn:KM ops k=some o:=by rw[fM];simpa using ho
  simp only[kP,hn] at h;have key:∃v,YieldsIf c.g.P ops.toArray C o v a/\∃S',Fits c.N S' (a.put o.dst v)/\kP c T Xg ops C l S' w K:=by
   rcases iZ h hf with⟨hw,S1,Zf,h1⟩ | ⟨hw,S1,Zf,h1⟩
   ·obtain⟨v,h2,h3⟩:=vh hg h1 Zf;exact⟨v,.inl ⟨hw,h2⟩,h3⟩
   ·exact⟨undef,.inr ⟨hw,rfl⟩,Zu (e:=.v undef) h1 Zf⟩
  obtain⟨v,hy,S',QW,h'⟩:=key;exact iQ3 ho (Region.noSelect_spec hs) (Ym.1 hT o (Xm (by simpa using ho))) hk Xj (λJf a' w' hL=>seqB_ready hL.1) l.length listed a w inv (Region.free_spec ho gn) Q0 hy hC
   (A6 hg hs hT hk l _ S' _ w (inv.set Q0 Xj) KK h' QW hC)
 | (false,k)::l,listed,S,a,w,inv,hB,h,hf,hC=>by
  simp only[dF,Jl,Vm] at hB;obtain⟨⟨Xj,hr⟩,KK⟩:=hB;have Xj:k<n:=by rw[gC] at Xj;exact Xj
  have Q0:k∈Region.ready md ops.toArray listed:=by rw[hr];simp
  obtain⟨_,o,ho,_⟩:=mem_ready.1 Q0;have hn:KM ops k=some o:=by rw[fM];simpa using ho
  simp only[kP,hn] at h;have d9:=inv.set Q0 Xj;refine⟨λh0=>(by rw[hr] at h0;cases h0),λi hi=>?_⟩;rw[hr] at hi;have xV:i=k:=by simpa using hi
  subst xV;refine⟨Xj,?_⟩;unfold wpOp;simp only[ho];rcases iZ h hf with⟨hw,S1,Zf,h1⟩ | ⟨hw,S1,Zf,h1⟩
  ·rw[Qf hw];refine .inl ?_;have h2:=pq hg h1 Zf;have h3:=Oper.wp_mono (K':=λa' w'=>C w'/\VV c.g.P md ops.toArray (PanE c.N T Xg Q) C n (λJf a' w'=>Region.seqB md ops.toArray (ops.toArray.size-n) n Jf=true/\∃S',Fits c.N S' a'/\K S' w') l.length (listed.setIfInBounds i true) a' w')
    (λa' w' ⟨S',QW,Jv,YB⟩=>⟨Jv,A6 hg hs hT hk l _ S' a' w' d9 KK YB QW Jv⟩) h2
   unfold Oper.wp at h3 ⊢;generalize (execOp a.eval o).run c.g.P w=r at*;cases r with
   | ok nx w'=>
    cases nx<;>simp only[Oper.upon] at h3 ⊢ <;> try exact h3
    exact h3.mono λe KT he=>by
     cases e with
     | returned v=>exact he
     | panicked ch=>obtain⟨_,hfz,he⟩:=he;exact⟨he.1.fits hfz,he.2⟩
     | outgrown=>obtain⟨_,_,_,_,he⟩:=he;exact he.elim
   | halt x w'=>cases x<;>simp only[Oper.upon] at h3 ⊢ <;> first | exact h3 | (obtain⟨_,hfz,h3⟩:=h3;exact⟨h3.1.fits hfz,h3.2⟩) | (obtain⟨_,_,h3⟩:=h3;exact h3.elim)
  ·rw[if_neg (by rw[hw];decide)];obtain⟨S',QW,h'⟩:=Zu (e:=.v undef) h1 Zf;exact⟨hC,A6 hg hs hT hk l _ S' _ w d9 KK h' QW hC⟩
theorem iQ4 (hg:c.g.Ok){id:Nat}{ops:List Oper}{w:World}{Q:Zg}(T:Env)(hT:ops.all (λo=>wr T o.dst)=true)(Xg:List PanicEntry->World->Prop)(L6:∀ch w,Xg ch w->Q (.panic ch) T w)(C:World->Prop)(n:Nat)(plan:List (Bool×Nat))
  (hB:(Region.noSelect ops.toArray&&Nat.beq plan.length n&&py .any ops.toArray n&&dF .any ops.toArray n plan (Array.replicate ops.toArray.size false))=true) (hC:C w.drew)
  (h:kP {c with named:=1000000} T Xg ops C plan S w.drew (λS w=>Yn c ops (ops.drop n) S w (λS w=>Q .normal S w) (λe S w=>match e with
   | .panic ch=>Has T S/\Xg ch w
   | _=>False))):Wm c id ops S w Q:=by
 unfold Wm;intro a hf;simp only[Jl] at hB;obtain⟨⟨⟨hs,hl⟩,aH⟩,JE⟩:=hB;have hl:=Vk hl;have hk:=vg aH;have De:n<=ops.length:=by
  rcases hk with hk | hk
  ·rw[hk];simp
  ·have:=hk.1;simp at this;omega
 refine Code.wp_mono (PanE.imp L6) (wp_region_any hg.mixed ?_);have kT:HeadInv .any ops.toArray n (Array.replicate ops.toArray.size false):=
  ⟨by simp,λj oj _ hl=>(by rw[getD_replicate_false] at hl;cases hl),λt _ ht=>getD_in (by simpa using ht) (getD_replicate_false _ _)⟩
 have H:=A6 (c:={c with named:=1000000}) hg (Q:=Up c Q) hs hT hk plan _ S a _ kT JE h hf hC;have Vy:(ops.drop n).length=ops.toArray.size-n:=by simp
 have H2:=rZ (Q:=PanE c.N T Xg (Up c Q)) (g:=ops.toArray.size-n) (λJf a' w' hL=>by
  obtain⟨hq,S',QW,YB⟩:=hL;have h2:=iT (c:=c) hg ops _ _ _ _ YB QW;have:=wpAny_of_seq (P:=c.g.P) (md:=.any) (ops:=ops.toArray) (Q':=PanE c.N T Xg (Up c Q)) (ops.drop n) n Jf a' w' (λj=>by simp) (by rw[Vy];exact hq) (j5 (λe a w hq=>by
   cases e with
   | normal=>exact hq
   | panic ch=>obtain⟨_,hfz,h⟩:=hq;exact⟨h.1.fits hfz,h.2⟩
   | _=>exact Xn hq (by rintro⟨_,_,h⟩;exact h)) h2)
  rwa [Vy] at this) _ _ _ _ H
 rw[hl,show n+(ops.toArray.size-n)=ops.toArray.size by simp;omega] at H2;exact H2
end
end
section
theorem iQ5 {nm:List (List Nat)}{x:DV}{f:List Nat}{es:List EdV}(h:Gv nm x):gV nm x f es=match V5 nm (fF f) [102] with
  | .error p=>.error p.e
  | .ok g=>if¬(es.all (λe=>Ka nm.length e.x.nd e.x.r)=true/\jm nm.length f 0 (es.map EdV.ed)=true)then .error 291
   else match ay nm (oD x) g f (es.map EdV.ed) (QR f) 0 with
    | none=>.error 291
    | some l=>if 1048576<(Qp l).length then .error 2
     else match V5 nm (fF (Qp l)) [102] with
      | .error p=>if p.e=2 then .error 2 else .ok (Qp l)
      | .ok _=>.ok (Qp l):=by
 unfold gV;rw[if_neg (by rw[h.1,h.2];simp)];by_cases VE:es.all (λe=>Ka nm.length e.x.nd e.x.r)=true
 ·rw[Qf VE];unfold wn;cases V5 nm (fF f) [102] with
  | error p=>rfl
  | ok g=>
   simp only;by_cases hv:jm nm.length f 0 (es.map EdV.ed)=true
   ·rw[if_neg (by rw[hv];decide),if_neg (λhh=>hh ⟨VE,hv⟩)];rfl
   ·rw[Qf (by simpa using hv),Qf (λhh=>hv hh.2)]
 ·rw[if_neg VE];cases V5 nm (fF f) [102] with
  | error p=>rfl
  | ok g=>simp only;rw[Qf (λhh=>VE hh.1)]
theorem Tw {w:World}{w':World}{t:List Nat}{g:Nat}(hB:Blk w' g 85 (cL ([102],t))):SlS cL 2 w' (some ⟨g,0,none⟩) 1 1 (fF t):=⟨Sl.own (sz:=2) (n:=1) hB (QB _) (by decide) (by simp[cL]),rfl⟩
theorem Tx {t:List Nat}(h:∀b∈t,b<256)(hl:t.length<=9223372036854775807):∀x∈fF t,FileB x:=λx hx=>by
 rw[QN.1 hx];exact⟨(by decide:∀b∈ [102],b<256),h,by show 1<=_;decide,hl⟩
theorem GN (NA:Option Addr)(nn nc:Nat)(nm:List (List Nat))(x:DV)(f:List Nat)(EA:Option Addr)(en ec:Nat)(es:List EdV)(lv:nm.length<=4)(VR:Ku nm)(Kl:∀s∈nm,s.length<=1000)(nR:∀b∈f,b<256)(ZT:f.length<=60000)
  (lQq:∀e∈es, -9223372036854775808<=e.fr/\e.fr<=9223372036854775807/\ -9223372036854775808<=e.to_/\e.to_<=9223372036854775807) (ht:∀e∈es,(∀b∈e.tx,b<256)/\e.tx.length<=1000) (yI:es.length<=10) (w:World)
  (hN:Sl w 1 NA nn nc (XB nm)) (hx:SB w x.A x.n x.c x.nd) (hEs:SlS XZ 5 w EA en ec es) (Mm:∀e∈es,SB w e.x.A e.x.n e.x.c e.x.nd):
  Fn Tryz.prog 15 [.slice NA nn nc,Xk x.A x.n x.c x.r,.string (Qd f),.slice EA en ec] w (λu w'=>u=tm (gV nm x f es)/\Ext w w'):=by
 have hk:nm.length<=12:=by omega
 have QY:nm.length=nn:=by have:=hN.len;rw[aU] at this;omega
 refine vq (c:={c15 with cuts:=[]}) Qa Tryz.func15 rfl rfl rfl ?_;refine ZN (ZA Qa ?_);refine new (λw0 Bq fd ui=>?_);refine new (λw1' Qe Q4 Qh=>?_);refine new (λw3 Qj JC Qu=>?_);obtain⟨w1,hw1⟩:∃w1,w1=w0:=⟨_,rfl⟩
 obtain⟨w2,hw2⟩:∃w2,w2=w1':=⟨_,rfl⟩
 subst hw1;subst hw2;have Yy:=Qe.trans Qj;have QX:=Bq.trans Yy;have QU:w1.heap.size≠w2.heap.size:=by omega
 refine ZN (vp Qa rfl rfl rfl rfl ⟨_,_,_,_,rfl,rfl,?_⟩);refine ZN (ZA Qa ?_);refine Qt (ui.ext Yy) rfl ?_;generalize YR:gV nm x f es=M;refine XO (Tb NA nn nc nm x hk VR w3 (hN.ext QX) (hx.ext QX)) ?_ ?_
 rotate_left
 ·rintro ch w4 ⟨Xi,rfl,Qs⟩;refine ag Qa (asx:= #[]) (cap:= #[.pointer (some ⟨w1.heap.size,0,none⟩),.pointer (some ⟨w2.heap.size,0,none⟩)]) rfl rfl (args:= #[.pointer (some ⟨w1.heap.size,0,none⟩),.pointer (some ⟨w2.heap.size,0,none⟩)]) (by simp) ((ti _ _ 1 w4 _ _ QU ((Qh.ext Qj).ext Qs) (Qu.ext Qs)).mono ?_);rintro e u' qM ⟨v,rfl,df,Yz⟩;refine⟨v,rfl,df,?_⟩;refine QD Yz.1 rfl ?_;refine QD Yz.2.1 rfl ?_;have aJ:M= .error 1:=by
     rw[<-YR];unfold gV;rw[Qf (by
      by_cases h1:ZF nm=true
      ·exact .inr (fI.2 (λh2=>Xi ⟨h1,h2⟩))
      ·exact .inl (by simpa using h1))]
  rw[aJ];exact⟨rfl,Yz.2.2.ext (QX.trans Qs) (λi hi=>by rcases hi with rfl | rfl<;>omega)⟩
 rintro _ w4 ⟨X0,Qs⟩;have XG:=QX.trans Qs;rw[iQ5 X0] at YR;have sx:=gU X0.2;have ME:=(ui.ext Yy).ext Qs;have iN:=(Qh.ext Qj).ext Qs;have fk:=Qu.ext Qs;refine ZN (ZA Qa ?_);refine Xh Qa [cL ([102],f)] rfl rfl rfl rfl rfl ⟨rfl,rfl,⟨⟩⟩ rfl (λcs h=>by simp only[QN] at h;subst h;rfl) rfl (by decide) (by decide) ?_;intro w5 Qw KP QG;have J3:=XG.trans Qw;refine call (Rx nm NA nn nc (fF f) _ 1 1 [102] w5 (hN.ext J3) VR hk (Tw (w:=w) QG) (Tx nR (by omega)) (by decide) (by decide)) ?_;rintro u6 w6 ⟨QO,hZ⟩;have XR:=J3.trans QO;have XF:=Qw.trans QO;cases WA:V5 nm (fF f) [102] with
 | error q=>
  rw[WA] at hZ YR;have hq:=iQY WA;subst hZ;refine new (λw7 Xb Wu Q2=>?_);refine new (λw8 Xl Yw Xw=>?_);refine Qv (Q2.ext Xl) rfl (sc rfl) (λw9 eZ eT JD=>?_);have Zj:Mod (·=w6.heap.size) w8 w9:=nQQ eZ rfl;have CZ:¬w7.heap.size=w6.heap.size:=by omega
  refine Qv (Xw.mod Zj CZ) rfl (sc rfl) (λQy ir wJ JM=>?_);have Zo:Mod (·=w7.heap.size) w9 Qy:=nQQ ir rfl;have uj:Ext w6 Qy:=Zo.ext (Zj.ext (Xb.trans Xl) (λi hi=>by omega)) (λi hi=>by omega);have qO:=XF.trans uj;refine ZN (ZA Qa ?_);refine QD JM rfl ?_;refine XO (YM q.e hq Qy) (λ_ _ hf=>hf.elim) ?_;rintro ch _ ⟨rfl,rfl⟩;refine ag Qa (asx:= #[]) (cap:= #[.pointer (some ⟨w1.heap.size,0,none⟩),.pointer (some ⟨w2.heap.size,0,none⟩)]) rfl rfl (args:= #[.pointer (some ⟨w1.heap.size,0,none⟩),.pointer (some ⟨w2.heap.size,0,none⟩)]) (by simp) ((ti _ _ q.e Qy _ _ QU (iN.ext qO) (fk.ext qO)).mono ?_);rintro e u' qM ⟨v,rfl,df,Yz⟩;refine⟨v,rfl,df,?_⟩;refine QD Yz.1 rfl ?_;refine QD Yz.2.1 rfl ?_;have aJ:M= .error q.e:=YR.symm;rw[aJ];exact⟨rfl,Yz.2.2.ext (XG.trans qO) (λi hi=>by rcases hi with rfl | rfl<;>omega)⟩
 | ok g=>
  rw[WA] at hZ YR;simp only at YR;obtain⟨aQZ,SA,scp,SL,rfl,Dt⟩:=hZ;obtain⟨MF,nQK,nQL,mQm⟩:=SV WA;obtain⟨MX,MG,aQ0⟩:=gQF Dt;have hMl:=aQ0.len;refine new (λw7 Xb Wu Q2=>?_);refine new (λw8 Xl Yw Xw=>?_);refine Qv (Q2.ext Xl) rfl (sc rfl) (λw9 eZ eT JD=>?_);have Zj:Mod (·=w6.heap.size) w8 w9:=nQQ eZ rfl;have CZ:¬w7.heap.size=w6.heap.size:=by omega
  refine Qv (Xw.mod Zj CZ) rfl (sc rfl) (λQy ir wJ JM=>?_);have Zo:Mod (·=w7.heap.size) w9 Qy:=nQQ ir rfl;have uj:Ext w6 Qy:=Zo.ext (Zj.ext (Xb.trans Xl) (λi hi=>by omega)) (λi hi=>by omega);have Dx:=JD.mod Zo (λh=>CZ h.symm);refine ZN (ZA Qa ?_);refine QD JM rfl ?_;refine call (F6 Qy) ?_;rintro _ _ rfl;have qO:=XF.trans uj;have nH:=XG.trans qO;refine ZN (ZA Qa ?_);refine Qt (ME.ext qO) rfl ?_;refine new (λQH Z9 tL Z8=>?_);have Y7:=nH.trans Z9;have cY:=qO.trans Z9
  let p:EP:=⟨Qy.heap.size,NA,nn,nc,nm,x,f,EA,en,ec,es⟩
  have hB:EB p:=⟨lv,VR,Kl,nR,ZT,MF,lQq,λe he=>(ht e he).1,λe he=>(ht e he).2,yI⟩
  have K:EK QH p:=⟨Z8,hN.ext Y7,hEs.ext Y7,λe he=>(Mm e he).ext Y7⟩
  refine ZN (ZA Qa ?_);refine XO (iQD p hB QH K) ?_ ?_
  rotate_left
  ·rintro ch Xa ⟨Xi,rfl,Xv⟩;refine ag Qa (asx:= #[]) (cap:= #[.pointer (some ⟨w1.heap.size,0,none⟩),.pointer (some ⟨w2.heap.size,0,none⟩)]) rfl rfl (args:= #[.pointer (some ⟨w1.heap.size,0,none⟩),.pointer (some ⟨w2.heap.size,0,none⟩)]) (by simp) ((ti _ _ 291 Xa _ _ QU ((iN.ext cY).ext Xv) ((fk.ext cY).ext Xv)).mono ?_);rintro e u' qM ⟨v,rfl,df,Yz⟩;refine⟨v,rfl,df,?_⟩;refine QD Yz.1 rfl ?_;refine QD Yz.2.1 rfl ?_;have aJ:M= .error 291:=by rw[<-YR,Qf Xi]
   rw[aJ];exact⟨rfl,Yz.2.2.ext (Y7.trans Xv) (λi hi=>by rcases hi with rfl | rfl<;>omega)⟩
  rintro _ Xa ⟨hV,Xv⟩;rw[if_neg (λhh=>hh hV)] at YR;have tN:=Y7.trans Xv;have lQr:=cY.trans Xv;have K12:=K.ext Xv;refine ZN (ZA Qa ?_);refine ZN (ZA Qa ?_);refine ZN (ZA Qa ?_);refine call (Am f Xa nR (by omega)) ?_;rintro _ X6 ⟨PA,pc,rfl,XI,xL⟩;have gw:=vU MF;have co:(ap f).length=(QR f).length:=by rw[gw,JF]
  rw[co] at xL;have xL:Sn X6 PA (QR f).length pc (JL (QR f)):=by rw[gw] at xL;exact xL
  have iO:=kC f;have JQ:=V4 MF;have aQ1:=AY f;have qk:=tN.trans XI;have uk:=lQr.trans XI;have K13:=K12.ext XI;have C0:=Dx.ext (Z9.trans (Xv.trans XI));have lQs:=MG.ext (uj.trans (Z9.trans (Xv.trans XI)));have nQM:(QR f).length<=60000:=by have:=aQ1.1;omega
  have mQn:∀s∈(QR f),tr s:=λs hs=>by
   exact⟨λb hb=>nR b (GL _ s hs b hb),by have:=aQ1.2 s hs;omega⟩
  have mQo:∀e∈es.map EdV.ed,(∀b∈e.tx,b<256)/\e.tx.length<=1000:=λe he=>by
   obtain⟨e0,he0,rfl⟩:=X7.1 he;exact ht e0 he0
  have IW:∀o:BF,(QL nm.length o).length<=16:=λo=>Zc (Tj _ _) (Zc (aO (by decide) lv) (by decide))
  have nQN:g.sg.length<=65536:=aQZ.sl;have mQp:∀i,(Qp ((QR f).take i)).length<=60000:=λi=>by
   have hu:∀a b:List (List Nat),Qp (a++b)=Qp a++Qp b:=λa b=>by simp[Qp]
   have e5:Qp (QR f)=Qp ((QR f).take i)++Qp ((QR f).drop i):=by rw[<-hu,lQ]
   have:=QC List.length e5;rw[JQ,Qq] at this;omega
  refine loop Qa [46,13,14,15] (λt:Nat×List (List Nat)×Option Addr×Nat×Nat=>[.int .i64 t.1,.slice t.2.2.1 t.2.1.length t.2.2.2.1,.int .i64 (Qp ((QR f).take t.1)).length,.int .i64 t.2.2.2.2]) (λt w'=>Lo X6 w' t.2.2.1 t.2.1.length t.2.2.2.1 t.2.1/\t.1<=(QR f).length/\ApR nm (oD x) g f (es.map EdV.ed) (QR f) t.1 t.2.1/\(∀j y,g.sg[j]? =some y->j<t.2.2.2.2->y.at_+(y.t-y.f)<=(Qp ((QR f).take t.1)).length)/\t.2.1.length<=t.1*16000048/\(∀u∈t.2.1,tr u)/\t.2.2.2.2<=g.sg.length) (λt _=>(QR f).length-t.1) (0,[],none,0,0) rfl ⟨⟨Ext.refl _,Own.nil _ _ _ _⟩,Xr _,ApR.zero,(λj y _ hj=>Xn hj (Nat.not_lt_zero _)),Xr _,(λu hu=>by cases hu),Xr _⟩ ?_;rintro⟨i,L,LA,lc,seg⟩ Zk ⟨rG,hi,dv,MH,uA,yN,aQ2⟩;simp only at rG hi dv MH uA yN aQ2;have jA:=rG.e;have Bv:=qk.trans jA;have C1:=uk.trans jA;refine Qz (λc1=>?_) (λc1=>?_)
  ·have QZ:i<(QR f).length:=by simp only at c1;omega
   obtain⟨s,hs⟩:∃s,(QR f)[i]? =some s:=⟨_,Xp QZ⟩
   have gu:=Xm hs;have aH:=mQn s gu;have hut:=wq hs;have nQl:=mQp (i+1);have aG:=Tu (p:=0) hs;rw[Wh] at aG;refine KC (cs:=JL (QR f)) (by rw[co];exact xL.1.ext jA) (by rw[co];exact QZ) (λad u hA hu Xq=>?_);rw[cO hs] at hu;cases hu;refine load Xq ?_;refine call (AF (s++ [10]) Zk (gb aH.1)) ?_;rintro _ Ky ⟨rfl,Jm⟩;have yM:(Qd (s++ [10])).size=s.length+1:=by rw[Xe];simp
   have Dq:(i+1)*16000048=i*16000048+16000048:=by omega
   rw[Ak];refine Qz (λd1=>?_) (λd1=>?_)
   ·refine Xh Qa [[Value.string (Qd (s++ [10]))]] rfl rfl rfl rfl rfl ⟨rfl,rfl,⟨⟩⟩ rfl (λcs hh=>by simp only[QN] at hh;subst hh;rfl) rfl (by decide) (by decide) ?_;intro aD Yf kQA Y9;have tR:=Jm.trans Yf;have Ir:Sl aD 1 (some ⟨Ky.heap.size,0,none⟩) 1 1 (JL [s]):=Sl.own' (n:=1) Y9 rfl (by decide);refine Z4 (n:=L.length) Qa rfl rfl rfl rfl rfl (by decide) rfl rfl ⟨_,rfl⟩ rfl rfl (rG.ext tR).ow Ir (a8 _) (by unfold maxLen;omega) (by show(L.length+1)*16<=_;omega) (rG.ext tR).e.size ?_;intro LA2 Li Vv lQt CX nQm;have lQu:=(rG.ext tR).app lQt CX;refine Qi ((Qp ((QR f).take (i+1))).length:Int) (by show((Qp ((QR f).take i)).length:Int)+((Qd (s++ [10])).size:Int)=_;rw[yM,hut];omega) (by omega) ?_;refine Qi ((i+1:Nat):Int) (by show((i:Nat):Int)+1=_;omega) (by omega) ?_;refine⟨(i+1,L++ [s],LA2,Li,seg),by simp only[Qq];rfl,⟨by simp only[Qq];exact lQu,QZ,dv.next hs (by rw[if_neg d1]),λj y hy hj=>by have:=MH j y hy hj;simp only;omega,by simp only[Qq,o6];omega,λu hu=>?_,aQ2⟩,by show(QR f).length-(i+1)<(QR f).length-i;omega⟩;rcases XM.1 hu with hu | hu
    ·exact yN u hu
    ·rw[QN.1 hu];exact aH
   ·have MI:Zn s= .txt:=Decidable.not_not.1 d1;obtain⟨kk,σ,y,gB⟩:=iQ2 WA aG MI;have gB:SegAt g (Qp ((QR f).take i)).length kk σ y:=gB;have mQq:=gB.cnd;have hσ:σ<g.sg.length:=(ZY.1 gB.get).1;have hsσ:seg<=σ:=by
     apply Classical.byContradiction;intro hh;have:=MH σ y gB.get (by omega);have:=gB.hi;omega
    have aQx:=jA.trans Jm;have Iq:=C0.ext aQx;have lQv:=lQs.ext aQx;have Xq:∀{w':World} (_:Ext Ky w') (sg:Nat) (z:Sx),MX[sg]? =some z->∃q,g.sg[sg]? =some q/\z.f=q.f/\z.t=q.t/\z.at_=q.at_/\Set1 nm.length z.x.nd z.x.r q.o:=λ_ sg z hz=>by
     have Xc:=(ZY.1 hz).1;obtain⟨q,hq⟩:∃q,g.sg[sg]? =some q:=⟨_,Xp (by omega)⟩
     obtain⟨a1,a2,a3,a4,a5⟩:=aQ0.get hq hz;exact⟨q,hq,a1,a2,a4,a5⟩
    refine loop Qa [15] (λsg:Nat=>[.int .i64 sg]) (λsg w'=>Ext Ky w'/\sg<=σ) (λsg _=>σ-sg) seg rfl ⟨Ext.refl _,hsσ⟩ ?_;rintro sg aD ⟨Yf,Dt⟩;have Lj:=Iq.ext Yf;have Lk:=lQv.ext Yf;have Ll:=Ext.drew aD;obtain⟨q0,Yg⟩:∃q0,g.sg[sg]? =some q0:=⟨_,Xp (by omega)⟩
    have MJ:=mQm.ok q0 (Xm Yg);have hqf:=MJ.ft;have DK:=MJ.tl;obtain⟨x0,cV,eN,_⟩:=MJ.src;have nQO:x0.2.length<=60000:=by
     have:q0.fl=0:=by
      have:=(ZY.1 cV).1;simpa [fF] using this
     rw[this] at cV;have:x0=([102],f):=(Option.some.inj cV).symm;rw[this];exact ZT
    have nQP:=aQZ.tl;refine XK Qa (Ext aD) 22 [(true,0),(true,1),(true,2),(true,3),(true,4),(true,5),(true,6),(true,7),(true,8),(true,9),(true,10),(true,11),(true,12),(true,13),(true,14),(true,15),(true,16),(true,17),(true,18),(true,19),(true,20),(true,21)] (by kernel_rfl) Ll ?_;refine QK (v:=.slice SA g.sg.length scp) (λw' Qb=>(Lj.ext Qb).cell 1) ?_;refine Zv AC Lk.sl rfl (by omega) (λpd z hz hc=>?_);obtain⟨q1,nI,z1,z2,z3,z4⟩:=Xq Yf sg z hz;rw[Yg] at nI;cases nI;refine QK (v:=.int .i64 z.at_) (λw' Qb=>Qb.cell (hc 3 _ rfl)) ?_;refine QK (v:=.slice SA g.sg.length scp) (λw' Qb=>(Lj.ext Qb).cell 1) ?_;refine Zv AC Lk.sl rfl (by omega) (λpd2 z' W0 Jv=>?_);rw[hz] at W0;cases W0;refine QK (v:=.int .i64 z.t) (λw' Qb=>Qb.cell (Jv 1 _ rfl)) ?_;refine Qi ((q0.at_+q0.t:Nat):Int) (by omega) (by omega) ?_;refine QK (v:=.slice SA g.sg.length scp) (λw' Qb=>(Lj.ext Qb).cell 1) ?_;refine Zv AC Lk.sl rfl (by omega) (λpd3 z' W0 qD=>?_);rw[hz] at W0;cases W0;refine QK (v:=.int .i64 z.f) (λw' Qb=>Qb.cell (qD 0 _ rfl)) ?_;refine Qi ((q0.at_+(q0.t-q0.f):Nat):Int) (by omega) (by omega) ?_;refine Qz (λc3=>?_) (λc3=>?_)
    ·have Xc:sg<σ:=by
      apply Classical.byContradiction;intro hh;have:sg=σ:=by omega
      subst this;rw[gB.get] at Yg;cases Yg;have:=gB.hi;simp only at c3;omega
     refine Qi ((sg+1:Nat):Int) (by show((sg:Nat):Int)+1=_;omega) (by omega) ?_;exact⟨sg+1,rfl,⟨Yf.trans Ll,by omega⟩,by show σ-(sg+1)<σ-sg;omega⟩
    ·have Xc:sg=σ:=by
      apply Classical.byContradiction;intro hh;have:=gB.first sg q0 Yg (by omega);simp only at c3;omega
     subst Xc;rw[gB.get] at Yg;cases Yg;have fj:QL nm.length (λe=>oD x e&&y.o e)=QL nm.length (ZW (oD x) (jk g (Qp ((QR f).take i)).length)):=by rw[mQq,<-gB.o]
     have nA:Ext Zk aD.drew:=Jm.trans (Yf.trans Ll);have Lm:=Bv.trans nA;have qP:=jA.trans nA;have aQy:=rG.ext nA;have W8:=aQy.ow.rows;generalize aD.drew=Vv at*;have YQ:=Ext.drew Vv;have z13:=uk.size;have lQw:=ME.ext (uk.trans qP);have aQz:Ext w6 Vv:=(uj.trans (Z9.trans (Xv.trans XI))).trans qP;have lQp:=(uj.trans (Z9.trans (Xv.trans XI))).size;have nx:¬Qk LA w.heap.size:=λh=>by have:=(W8 _ h).1;have:=ME.lt;omega
     have nS:¬Qk LA w6.heap.size:=λh=>by have:=(W8 _ h).1;have:=C0.lt;omega
     have lQx:=C0.ext qP;have hcL:LA=LA:=rfl;refine iQ4 Qa [(8,.v (.pointer (some ⟨w1.heap.size,0,none⟩))),(9,.v (.pointer (some ⟨w2.heap.size,0,none⟩)))] rfl (λch w'=>WU nm f (es.map EdV.ed) (QL nm.length (λe=>oD x e&&y.o e)) (Qp ((QR f).take i)).length s=none/\ch=jn 291/\Ext Vv w') (λch cg hp=>by
      obtain⟨Xi,rfl,qQ⟩:=hp;refine ag Qa (asx:= #[]) (cap:= #[.pointer (some ⟨w1.heap.size,0,none⟩),.pointer (some ⟨w2.heap.size,0,none⟩)]) rfl rfl (args:= #[.pointer (some ⟨w1.heap.size,0,none⟩),.pointer (some ⟨w2.heap.size,0,none⟩)]) (by simp) ((ti _ _ 291 cg _ _ QU (iN.ext (uk.trans (qP.trans qQ))) (fk.ext (uk.trans (qP.trans qQ)))).mono ?_);rintro e u' qM ⟨v,rfl,df,Yz⟩;refine⟨v,rfl,df,?_⟩;refine QD Yz.1 rfl ?_;refine QD Yz.2.1 rfl ?_;have aJ:M= .error 291:=by rw[<-YR,dv.none hs (by rw[Qf MI,<-fj];exact Xi)]
      rw[aJ];exact⟨rfl,Yz.2.2.ext (XG.trans (uk.trans (qP.trans qQ))) (λi hi=>by rcases hi with rfl | rfl<;>omega)⟩) (Mod (Qk LA) Vv) 15 [(true,0),(true,1),(true,2),(true,3),(true,4),(true,5),(true,6),(true,7),(true,8),(true,9),(true,10),(false,11),(false,12),(false,13),(true,14)] (by kernel_rfl) (Mod.of_ext _ YQ) ?_
     refine Xs (vs:=x.cells) rfl (λw' Qb k u hk=>by rw[(lQw.mod Qb nx).cell];exact hk) ?_;refine QK (v:=.slice SA g.sg.length scp) (λw' Qb=>(lQx.mod Qb nS).cell 1) ?_;refine Zv AC MG.sl rfl (by omega) (λpd4 z' W0 BR=>?_);rw[hz] at W0;cases W0;have hpb:pd4.block<w6.heap.size:=by
      have:=World.block_lt_of_cell? w6 _ (BR 4 _ rfl)
      rwa [pw] at this
     have npd:¬Qk LA pd4.block:=λh=>by have:=(W8 _ h).1;have:=C0.lt;omega
     refine Xs (vs:=[.slice z.x.A z.x.n z.x.c,.int .i64 z.x.r]) rfl (λw' Qb k u hk=>by
      rw[add_add];refine Qb.cell (aQz.cell (BR (4+k) u (by match k,hk with | 0,hk=>exact hk | 1,hk=>exact hk))) (by rw[pw];exact npd)) ?_
     have KO:Set1 nm.length z.x.nd z.x.r y.o:=z4;have yz:=(MG.dg z (Xm hz)).ext aQz;refine call (mK hk x z.x Vv.drew ((hx.ext Lm).ext YQ) (yz.ext YQ) sx KO) ?_;rintro _ Vi ⟨QA,Qn,Qc,Qnd,Qr,rfl,nP,lQy,sQ,_⟩;have C2:=YQ.trans nP;refine⟨Mod.of_ext _ C2,?_⟩;have nC:=qP.trans C2;refine XO (iQW p hB hV (Qp ((QR f).take i)).length s aG ⟨QA,Qn,Qc,Qnd,Qr⟩ _ Vi (K13.ext nC) lQy sQ) ?_ ?_
     rotate_left
     ·rintro ch cg ⟨Xi,rfl,lr⟩;exact⟨rfl,Xi,rfl,C2.trans lr⟩
     rintro u19 cg ⟨Lx,oL,A19,NQ,rfl,lr,lQz⟩;have qQ:=C2.trans lr;refine⟨Mod.of_ext _ qQ,?_⟩;have oL:WU nm f (es.map EdV.ed) (QL nm.length (λe=>oD x e&&y.o e)) (Qp ((QR f).take i)).length s=some Lx:=oL;rw[fj] at oL;obtain⟨lx1,lx2⟩:=iQ1 VR Kl nR ZT mQo (by rw[JF];exact yI) (IW _) aH oL;have hmx:(Lx.map (·++ [10])).length=Lx.length:=by rw[JF]
     have aQA:i*16000048<=60000*16000048:=bG _ (by omega);have Lp:=aQy.ext qQ;refine Z4 (n:=L.length) Qa rfl rfl rfl rfl rfl (by decide) rfl rfl ⟨_,rfl⟩ rfl rfl Lp.ow lQz.1 (a8 _) (by unfold maxLen;omega) (by show(L.length+(Lx.map (·++ [10])).length)*16<=_;omega) Lp.e.size ?_;intro LA2 Li YO BG lQA BI;have lQB:Mod (Qk LA) Vv YO:=(Mod.of_ext (Qk LA) qQ).trans BG (λi hi=>.inl hi);refine⟨lQB,?_⟩;have aQB:=Lp.app BG lQA;refine Qi ((Qp ((QR f).take (i+1))).length:Int) (by show((Qp ((QR f).take i)).length:Int)+((Qd (s++ [10])).size:Int)=_;rw[yM,hut];omega) (by omega) ?_;refine Qi ((i+1:Nat):Int) (by show((i:Nat):Int)+1=_;omega) (by omega) ?_;refine⟨(i+1,L++Lx,LA2,Li,sg),by simp only[Qq,JF];rfl,⟨by simp only[Qq];rw[hmx] at aQB;exact aQB,QZ,dv.next hs (by rw[Qf MI];exact oL),λj y' lG hj=>by have:=gB.first j y' lG hj;simp only;omega,by simp only[Qq];omega,λu hu=>?_,by simp only;omega⟩,by show(QR f).length-(i+1)<(QR f).length-i;omega⟩;rcases XM.1 hu with hu | hu
     ·exact yN u hu
     ·exact lx2 u hu
  ·have QZ:i=(QR f).length:=by simp only at c1;omega
   have rq:=dv.fin (by omega);rw[rq] at YR;simp only at YR;obtain⟨LA',lc',xv,_,C3⟩:=rG.fin (Ext.refl X6);simp only[Value.slice.injEq,JF] at xv;obtain⟨rfl,_,rfl⟩:=xv;have aQA:L.length<=60000*16000048:=Zc uA (bG _ (by omega));have hub:(Qp L).length<=1000000000000000000:=by
    have h1:=GC (M:=1000000) (λu hu=>(yN u hu).2);have h2:=bG (1000000+1) aQA;omega
   have C3:Sn Zk LA L.length lc (JL L):=by rw[JF] at C3;exact C3
   have hu8:∀b∈Qp L,b<256:=λb hb=>by
    obtain⟨u,hu,hb⟩:=WE.1 hb;exact gb (yN u hu).1 b hb
   refine ZN (ZA Qa ?_);refine XO (Ta LA L.length lc L Zk C3 hub) ?_ ?_
   rotate_left
   ·rintro ch _ ⟨q9,rfl,rfl⟩;refine ag Qa (asx:= #[]) (cap:= #[.pointer (some ⟨w1.heap.size,0,none⟩),.pointer (some ⟨w2.heap.size,0,none⟩)]) rfl rfl (args:= #[.pointer (some ⟨w1.heap.size,0,none⟩),.pointer (some ⟨w2.heap.size,0,none⟩)]) (by simp) ((ti _ _ 2 Zk _ _ QU (iN.ext C1) (fk.ext C1)).mono ?_);rintro e u' qM ⟨v,rfl,df,Yz⟩;refine⟨v,rfl,df,?_⟩;refine QD Yz.1 rfl ?_;refine QD Yz.2.1 rfl ?_;have aJ:M= .error 2:=by rw[<-YR,Qf q9]
    rw[aJ];exact⟨rfl,Yz.2.2.ext (XG.trans C1) (λi hi=>by rcases hi with rfl | rfl<;>omega)⟩
   rintro _ Ky ⟨J5,rfl,Jm⟩;rw[if_neg (by omega)] at YR;have aQC:=C1.trans Jm;have aQk:=Bv.trans Jm;refine KD (iN.ext aQC) (by simp[JR]) (λaD aQD Y9=>?_);have Y9:Blk aD w1.heap.size 9 [.string (Qd (Qp L))]:=Y9;have Lq:Ext w aD:=aQD.ext aQk (λi hi=>by omega);have aQE:=(fk.ext aQC).mod aQD QU.symm;refine ZN (ZA Qa ?_);refine QD Y9 rfl ?_;refine Xh Qa [cL ([102],Qp L)] rfl rfl rfl rfl rfl ⟨rfl,rfl,⟨⟩⟩ rfl (λcs h=>by simp only[QN] at h;subst h;rfl) rfl (by decide) (by decide) ?_;intro Vv tK lQd nz;have Lm:=Lq.trans tK;refine call (Rx nm NA nn nc (fF (Qp L)) _ 1 1 [102] Vv (hN.ext Lm) VR hk (Tw (w:=w) nz) (Tx hu8 (by omega)) (by decide) (by decide)) ?_;rintro u18 Vi ⟨nP,C4⟩;have aQF:=tK.trans nP;have fin:∀(P:Value) (q:Pl) (Vi:World),True:=λ_ _ _=>trivial
   cases Y3:V5 nm (fF (Qp L)) [102] with
   | error q=>
    rw[Y3] at C4 YR;simp only at YR;subst C4;refine new (λcg lr UI xg=>?_);refine new (λYO xM UJ Lt=>?_);refine Qv (xg.ext xM) rfl (sc rfl) (λiq xi lQC tS=>?_);have jx:Mod (·=Vi.heap.size) YO iq:=nQQ xi rfl;have Lu:¬cg.heap.size=Vi.heap.size:=by omega
    refine Qv (Lt.mod jx Lu) rfl (sc rfl) (λbr Lv lQD qx=>?_);have Lw:Mod (·=cg.heap.size) iq br:=nQQ Lv rfl;have Ly:Ext Vi br:=Lw.ext (jx.ext (lr.trans xM) (λi hi=>by omega)) (λi hi=>by omega);have qR:=aQF.trans Ly;have um:=Y9.ext qR;have DM:=aQE.ext qR;have C5:=Lq.trans qR;refine QD qx rfl ?_;refine X3 (λh2=>?_) (λh2=>?_)
    ·have h2:q.e=2:=h2;rw[Qf h2] at YR;refine XO (YM 2 (by decide) br) (λ_ _ hf=>hf.elim) ?_;rintro ch _ ⟨rfl,rfl⟩;refine ag Qa (asx:= #[]) (cap:= #[.pointer (some ⟨w1.heap.size,0,none⟩),.pointer (some ⟨w2.heap.size,0,none⟩)]) rfl rfl (args:= #[.pointer (some ⟨w1.heap.size,0,none⟩),.pointer (some ⟨w2.heap.size,0,none⟩)]) (by simp) ((ti _ _ 2 br _ _ QU um DM).mono ?_);rintro e u' qM ⟨v,rfl,df,Yz⟩;refine⟨v,rfl,df,?_⟩;refine QD Yz.1 rfl ?_;refine QD Yz.2.1 rfl ?_;have aJ:M= .error 2:=YR.symm;rw[aJ];exact⟨rfl,Yz.2.2.ext C5 (λi hi=>by rcases hi with rfl | rfl<;>omega)⟩
    have h2:q.e≠2:=h2;rw[if_neg h2] at YR;refine ZA Qa ?_;refine QD um rfl ?_;refine KD um (by simp) (λLz xN nj=>?_);refine KD (DM.mod xN QU.symm) (by simp[JR]) (λC6 kX lj=>?_);refine fU Qa rfl rfl (.inl rfl) (args:= #[.pointer (some ⟨w1.heap.size,0,none⟩),.pointer (some ⟨w2.heap.size,0,none⟩)]) (by simp) ((Te _ _ C6).mono ?_);rintro e u' qM ⟨v,rfl,df,rfl⟩;refine⟨v,rfl,df,?_⟩;refine QD (nj.mod kX QU) rfl ?_;refine QD lj rfl ?_;exact⟨by rw[<-YR];rfl,kX.ext (xN.ext C5 (λj hj=>by omega)) (λj hj=>by omega)⟩
   | ok g2=>
    rw[Y3] at C4 YR;simp only at YR;obtain⟨_,SA2,sc2,SL2,rfl,_⟩:=C4;refine new (λcg lr UI xg=>?_);refine new (λYO xM UJ Lt=>?_);refine Qv (xg.ext xM) rfl (sc rfl) (λiq xi lQC tS=>?_);have jx:Mod (·=Vi.heap.size) YO iq:=nQQ xi rfl;have Lu:¬cg.heap.size=Vi.heap.size:=by omega
    refine Qv (Lt.mod jx Lu) rfl (sc rfl) (λbr Lv lQD qx=>?_);have Lw:Mod (·=cg.heap.size) iq br:=nQQ Lv rfl;have Ly:Ext Vi br:=Lw.ext (jx.ext (lr.trans xM) (λi hi=>by omega)) (λi hi=>by omega);have qR:=aQF.trans Ly;have um:=Y9.ext qR;have DM:=aQE.ext qR;have C5:=Lq.trans qR;refine QD qx rfl ?_;refine Xy (by decide) ?_;refine ZA Qa ?_;refine QD um rfl ?_;refine KD um (by simp) (λLz xN nj=>?_);refine KD (DM.mod xN QU.symm) (by simp[JR]) (λC6 kX lj=>?_);refine fU Qa rfl rfl (.inl rfl) (args:= #[.pointer (some ⟨w1.heap.size,0,none⟩),.pointer (some ⟨w2.heap.size,0,none⟩)]) (by simp) ((Te _ _ C6).mono ?_);rintro e u' qM ⟨v,rfl,df,rfl⟩;refine⟨v,rfl,df,?_⟩;refine QD (nj.mod kX QU) rfl ?_;refine QD lj rfl ?_;exact⟨by rw[<-YR];rfl,kX.ext (xN.ext C5 (λj hj=>by omega)) (λj hj=>by omega)⟩
theorem mP {k:Nat}{x:DV}{o:BF}(s:Set1 k x.nd x.r o):oD x=o:=funext (λe=>s.mean e)
theorem GO {k v:Nat}(hv:v<k)(hk:k<=12)(w:World):Fn Tryz.prog 34 [.int .i64 v] w (vY w k (λe=>e v)):=by
 refine(Fp (v:Int) w (by omega) (by omega)).mono ?_;rintro u w' ⟨A,n,c,rfl,hE,hb,hr⟩;exact⟨A,n,c,_,_,rfl,hE,hb,FP hv (by omega),hr⟩
theorem GP {k:Nat}(hk:k<=12)(x:DV){o:BF}(w:World)(h:SB w x.A x.n x.c x.nd)(s:Set1 k x.nd x.r o):Fn Tryz.prog 35 [Xk x.A x.n x.c x.r] w (vY w k (λe=> !o e)):=by
 refine(Fs x.A x.n x.c x.nd x.r w h).mono ?_;have s0:Set1 k [] 0 (λ_=>false):=aW k false;rw[gM hk s s0 3];have c1:Set1 k _ _ (λe=> !o e):=(eC s s0 3).congr (λe=>by simp[Kv]);generalize VF x.nd x.r [] 0 3=D at*;obtain⟨D1,D2⟩:=D;rintro u w' ⟨A,n,c,rfl,hE,hb,hr⟩;exact⟨A,n,c,_,_,rfl,hE,hb,c1,hr⟩
theorem Ty {k:Nat}(hk:k<=12)(x y:DV){o o':BF}(w:World)(h:SB w x.A x.n x.c x.nd)(h':SB w y.A y.n y.c y.nd)(s:Set1 k x.nd x.r o)(s':Set1 k y.nd y.r o'):
  Fn Tryz.prog 36 [Xk x.A x.n x.c x.r,Xk y.A y.n y.c y.r] w (vY w k (λe=>o e&&o' e)):=by
 refine(vP x.A x.n x.c x.nd x.r y.A y.n y.c y.nd y.r w h h').mono ?_;rw[gM hk s s' 0];have c1:Set1 k _ _ (λe=>o e&&o' e):=(eC s s' 0).congr (λe=>by simp[Kv]);generalize VF x.nd x.r y.nd y.r 0=D at*;obtain⟨D1,D2⟩:=D;rintro v w' ⟨PA,q,pc,rfl,hE,hP,hR⟩;exact⟨PA,q,pc,D1,D2,rfl,hE,hP,c1,hR⟩
def iQ6 (r:Except Int (List Nat))(t:List Nat):Bool:=match r with
 | .ok l=>decide (l=t)
 | .error _=>false
def KN:List (List Nat):=[[65],[66]]
theorem GQ:Ku KN:=λs hs=>by
 simp only[KN,Q1,Jo,Jw] at hs;rcases hs with rfl | rfl<;>exact⟨by decide,by decide⟩
theorem GR:∀s∈KN,s.length<=1000:=by decide
def Bc (yes no:List Nat):Except Int (List Nat):=gW KN (λ_=>true) [⟨λe=>e 0,yes⟩,⟨λe=> !e 0,no⟩]
theorem GS (yes no want:List Nat)(hy:(∀b∈yes,b<256)/\yes.length<=2000)(hn:(∀b∈no,b<256)/\no.length<=2000)(w:World)(X0:Bc yes no= .ok want):
  Fn Tryz.prog 38 [.string (Qd yes),.string (Qd no),.string (Qd want)] w (λu w'=>u= .bool true/\Ext w w'):=by
 refine QF (c:={c38 with cuts:=[]}) Qa Tryz.func38 rfl rfl rfl ?_;refine call (GO (k:=2) (v:=0) (by decide) (by decide) w) ?_;rintro _ w1 ⟨A1,n1,c1,d1,r1,rfl,Qe,Ib,s1,_⟩;refine new (λw2 Qg Zb Qx=>?_);refine Qv Qx rfl (sc rfl) (λw3 Z7 _ Qu=>?_);have XI:Ext w1 w3:=X9 Qg Qx Z7;refine Qt Qu rfl ?_;refine call (GP (k:=2) (by decide) ⟨A1,n1,c1,d1,r1⟩ w3 (Ib.ext XI) s1) ?_;rintro _ w4 ⟨A2,n2,c2,d2,r2,rfl,Qs,hb2,s2,_⟩;refine new (λw5 Qw KP QG=>?_);refine Qv QG rfl (sc rfl) (λw6 Y4 _ Q9=>?_);have XF:Ext w4 w6:=X9 Qw QG Y4;have bt:=Qs.trans XF;have XR:=Qe.trans (XI.trans bt);have lQE:=Qu.ext bt;have hd:=Ext.drew w6;have fin:∀(NA:Option Addr) (nc:Nat) (PA:Option Addr) (pc:Nat) (w':World),Ext w6 w'->Sl w' 1 NA 2 nc (XB KN)->SlS JX 3 w' PA 2 pc [(⟨A1,n1,c1,d1,r1⟩,yes),(⟨A2,n2,c2,d2,r2⟩,no)]->
   Fn Tryz.prog 24 [.slice NA 2 nc,Xk none 0 0 1,.slice PA 2 pc] w' (λu KT=>u= .tuple #[.string (Qd want),.int .i64 0]/\Ext w' KT):=λNA nc PA pc w' gA ML MM=>by
  refine(GD NA 2 nc KN ⟨none,0,0,[],1⟩ PA 2 pc _ (by decide) GQ GR (λq hq=>by
   simp only[Q1,Jo,Jw] at hq;rcases hq with rfl | rfl
   ·exact hy
   ·exact hn) w' ML (SlS.nil _) MM (λq hq=>by
   simp only[Q1,Jo,Jw] at hq;rcases hq with rfl | rfl
   ·exact Ib.ext (XI.trans (bt.trans gA))
   ·exact hb2.ext (XF.trans gA))).mono ?_
  rintro u KT ⟨rfl,MN⟩;refine⟨?_,MN⟩;have sc:Set1 2 [] 1 (λ_=>true):=aW 2 true;rw[S9 (nm:=KN) (x:=⟨none,0,0,[],1⟩) (by decide) (jg (x:=⟨none,0,0,[],1⟩) (by decide) sc).1 (λq hq=>by
   simp only[Q1,Jo,Jw] at hq;rcases hq with rfl | rfl
   ·exact(jg (by decide) s1).1
   ·exact(jg (by decide) s2).1)]
  have e0:oD ⟨none,0,0,[],1⟩=λ_=>true:=mP (x:=⟨none,0,0,[],1⟩) sc
  have e1:oD ⟨A1,n1,c1,d1,r1⟩=λe=>e 0:=mP (x:=⟨A1,n1,c1,d1,r1⟩) s1
  have e2:oD ⟨A2,n2,c2,d2,r2⟩=λe=> !e 0:=mP (x:=⟨A2,n2,c2,d2,r2⟩) s2
  rw[e0];have e3:Zs [((⟨A1,n1,c1,d1,r1⟩:DV),yes),(⟨A2,n2,c2,d2,r2⟩,no)]=[⟨λe=>e 0,yes⟩,⟨λe=> !e 0,no⟩]:=by
   simp only[Zs,Vl,List.map_nil,e1,e2]
  rw[e3];have:gW KN (λ_=>true) [⟨λe=>e 0,yes⟩,⟨λe=> !e 0,no⟩]= .ok want:=X0;rw[this]<;>rfl
 refine Ga Qa (Ext w6) 15 (.quiet 2 (.quiet 3 (.quiet 4 (.quiet 5 (.quiet 6 (.quiet 7 (.fork 0 (.fork 1 (.fork 8 (.fork 9 (.quiet 10 (.quiet 11 (.quiet 12 (.quiet 13 (.quiet 14 .done))))) .skip) .skip) (.fork 8 (.fork 1 (.fork 9 (.quiet 10 (.quiet 11 (.quiet 12 (.quiet 13 (.quiet 14 .done))))) .skip) .skip) .skip)) (.fork 1 (.fork 0 (.fork 8 (.fork 9 (.quiet 10 (.quiet 11 (.quiet 12 (.quiet 13 (.quiet 14 .done))))) .skip) .skip) (.fork 8 (.fork 0 (.fork 9 (.quiet 10 (.quiet 11 (.quiet 12 (.quiet 13 (.quiet 14 .done))))) .skip) .skip) .skip)) (.fork 8 (.fork 0 (.fork 1 (.fork 9 (.quiet 10 (.quiet 11 (.quiet 12 (.quiet 13 (.quiet 14 .done))))) .skip) .skip) (.fork 1 (.fork 0 (.fork 9 (.quiet 10 (.quiet 11 (.quiet 12 (.quiet 13 (.quiet 14 .done))))) .skip) .skip) .skip)) .skip))))))))) (by kernel_rfl) hd ?_;refine Xs (vs:=[.slice A1 n1 c1,.int .i64 r1]) rfl (λw' Qb k u hk=>by rw[(lQE.ext Qb).cell];exact hk) ?_;refine Xs (vs:=[.slice A2 n2 c2,.int .i64 r2]) rfl (λw' Qb k u hk=>by rw[(Q9.ext Qb).cell];exact hk) ?_;refine⟨?_,?_,?_,trivial⟩
 ·refine Xh Qa [[Value.string (Qd [65])],[Value.string (Qd [66])]] rfl rfl rfl rfl rfl ⟨rfl,rfl,rfl,rfl,⟨⟩⟩ rfl (λcs h=>by simp only[Q1,Jo,Jw] at h;rcases h with rfl | rfl<;>rfl) rfl (by decide) (by decide) ?_;intro v1 g1 _ qS;have f1:=hd.trans g1;refine⟨f1,?_⟩;refine⟨?_,?_,trivial⟩
  ·refine call (cK true _) ?_;rintro _ v2 ⟨rfl,g2⟩;have f2:=f1.trans g2;refine⟨f2,?_⟩;refine⟨?_,trivial⟩
   ·refine Xh Qa [JX (⟨A1,n1,c1,d1,r1⟩,yes),JX (⟨A2,n2,c2,d2,r2⟩,no)] rfl rfl rfl rfl rfl ⟨rfl,rfl,rfl,rfl,⟨⟩⟩ rfl (λcs h=>by simp only[Q1,Jo,Jw] at h;rcases h with rfl | rfl<;>rfl) rfl (by decide) (by decide) ?_;intro v3 g3 _ LB;have f3:=f2.trans g3;refine⟨f3,?_⟩;refine⟨?_,trivial⟩;refine call (fin _ 2 _ 2 v3 f3 (Sl.own' (n:=2) (qS.ext (g2.trans g3)) rfl (by decide)) ⟨Sl.own (sz:=3) (n:=2) LB (QB _) (by decide) (by simp[JX]),rfl⟩) ?_;rintro _ w9 ⟨rfl,Xt⟩;refine⟨f3.trans Xt,?_⟩;refine Q8 rfl ?_;exact⟨QC Value.bool (Zy rfl),XR.trans (f3.trans Xt)⟩
  ·refine Xh Qa [JX (⟨A1,n1,c1,d1,r1⟩,yes),JX (⟨A2,n2,c2,d2,r2⟩,no)] rfl rfl rfl rfl rfl ⟨rfl,rfl,rfl,rfl,⟨⟩⟩ rfl (λcs h=>by simp only[Q1,Jo,Jw] at h;rcases h with rfl | rfl<;>rfl) rfl (by decide) (by decide) ?_;intro v2 g2 _ LC;have f2:=f1.trans g2;refine⟨f2,?_⟩;refine⟨?_,trivial⟩
   ·refine call (cK true _) ?_;rintro _ v3 ⟨rfl,g3⟩;have f3:=f2.trans g3;refine⟨f3,?_⟩;refine⟨?_,trivial⟩;refine call (fin _ 2 _ 2 v3 f3 (Sl.own' (n:=2) (qS.ext (g2.trans g3)) rfl (by decide)) ⟨Sl.own (sz:=3) (n:=2) (LC.ext g3) (QB _) (by decide) (by simp[JX]),rfl⟩) ?_;rintro _ w9 ⟨rfl,Xt⟩;refine⟨f3.trans Xt,?_⟩;refine Q8 rfl ?_;exact⟨QC Value.bool (Zy rfl),XR.trans (f3.trans Xt)⟩
 ·refine call (cK true _) ?_;rintro _ v1 ⟨rfl,g1⟩;have f1:=hd.trans g1;refine⟨f1,?_⟩;refine⟨?_,?_,trivial⟩
  ·refine Xh Qa [[Value.string (Qd [65])],[Value.string (Qd [66])]] rfl rfl rfl rfl rfl ⟨rfl,rfl,rfl,rfl,⟨⟩⟩ rfl (λcs h=>by simp only[Q1,Jo,Jw] at h;rcases h with rfl | rfl<;>rfl) rfl (by decide) (by decide) ?_;intro v2 g2 _ qT;have f2:=f1.trans g2;refine⟨f2,?_⟩;refine⟨?_,trivial⟩
   ·refine Xh Qa [JX (⟨A1,n1,c1,d1,r1⟩,yes),JX (⟨A2,n2,c2,d2,r2⟩,no)] rfl rfl rfl rfl rfl ⟨rfl,rfl,rfl,rfl,⟨⟩⟩ rfl (λcs h=>by simp only[Q1,Jo,Jw] at h;rcases h with rfl | rfl<;>rfl) rfl (by decide) (by decide) ?_;intro v3 g3 _ LB;have f3:=f2.trans g3;refine⟨f3,?_⟩;refine⟨?_,trivial⟩;refine call (fin _ 2 _ 2 v3 f3 (Sl.own' (n:=2) (qT.ext g3) rfl (by decide)) ⟨Sl.own (sz:=3) (n:=2) LB (QB _) (by decide) (by simp[JX]),rfl⟩) ?_;rintro _ w9 ⟨rfl,Xt⟩;refine⟨f3.trans Xt,?_⟩;refine Q8 rfl ?_;exact⟨QC Value.bool (Zy rfl),XR.trans (f3.trans Xt)⟩
  ·refine Xh Qa [JX (⟨A1,n1,c1,d1,r1⟩,yes),JX (⟨A2,n2,c2,d2,r2⟩,no)] rfl rfl rfl rfl rfl ⟨rfl,rfl,rfl,rfl,⟨⟩⟩ rfl (λcs h=>by simp only[Q1,Jo,Jw] at h;rcases h with rfl | rfl<;>rfl) rfl (by decide) (by decide) ?_;intro v2 g2 _ LC;have f2:=f1.trans g2;refine⟨f2,?_⟩;refine⟨?_,trivial⟩
   ·refine Xh Qa [[Value.string (Qd [65])],[Value.string (Qd [66])]] rfl rfl rfl rfl rfl ⟨rfl,rfl,rfl,rfl,⟨⟩⟩ rfl (λcs h=>by simp only[Q1,Jo,Jw] at h;rcases h with rfl | rfl<;>rfl) rfl (by decide) (by decide) ?_;intro v3 g3 _ gk;have f3:=f2.trans g3;refine⟨f3,?_⟩;refine⟨?_,trivial⟩;refine call (fin _ 2 _ 2 v3 f3 (Sl.own' (n:=2) gk rfl (by decide)) ⟨Sl.own (sz:=3) (n:=2) (LC.ext g3) (QB _) (by decide) (by simp[JX]),rfl⟩) ?_;rintro _ w9 ⟨rfl,Xt⟩;refine⟨f3.trans Xt,?_⟩;refine Q8 rfl ?_;exact⟨QC Value.bool (Zy rfl),XR.trans (f3.trans Xt)⟩
 ·refine Xh Qa [JX (⟨A1,n1,c1,d1,r1⟩,yes),JX (⟨A2,n2,c2,d2,r2⟩,no)] rfl rfl rfl rfl rfl ⟨rfl,rfl,rfl,rfl,⟨⟩⟩ rfl (λcs h=>by simp only[Q1,Jo,Jw] at h;rcases h with rfl | rfl<;>rfl) rfl (by decide) (by decide) ?_;intro v1 g1 _ hP1;have f1:=hd.trans g1;refine⟨f1,?_⟩;refine⟨?_,?_,trivial⟩
  ·refine Xh Qa [[Value.string (Qd [65])],[Value.string (Qd [66])]] rfl rfl rfl rfl rfl ⟨rfl,rfl,rfl,rfl,⟨⟩⟩ rfl (λcs h=>by simp only[Q1,Jo,Jw] at h;rcases h with rfl | rfl<;>rfl) rfl (by decide) (by decide) ?_;intro v2 g2 _ qT;have f2:=f1.trans g2;refine⟨f2,?_⟩;refine⟨?_,trivial⟩
   ·refine call (cK true _) ?_;rintro _ v3 ⟨rfl,g3⟩;have f3:=f2.trans g3;refine⟨f3,?_⟩;refine⟨?_,trivial⟩;refine call (fin _ 2 _ 2 v3 f3 (Sl.own' (n:=2) (qT.ext g3) rfl (by decide)) ⟨Sl.own (sz:=3) (n:=2) (hP1.ext (g2.trans g3)) (QB _) (by decide) (by simp[JX]),rfl⟩) ?_;rintro _ w9 ⟨rfl,Xt⟩;refine⟨f3.trans Xt,?_⟩;refine Q8 rfl ?_;exact⟨QC Value.bool (Zy rfl),XR.trans (f3.trans Xt)⟩
  ·refine call (cK true _) ?_;rintro _ v2 ⟨rfl,g2⟩;have f2:=f1.trans g2;refine⟨f2,?_⟩;refine⟨?_,trivial⟩
   ·refine Xh Qa [[Value.string (Qd [65])],[Value.string (Qd [66])]] rfl rfl rfl rfl rfl ⟨rfl,rfl,rfl,rfl,⟨⟩⟩ rfl (λcs h=>by simp only[Q1,Jo,Jw] at h;rcases h with rfl | rfl<;>rfl) rfl (by decide) (by decide) ?_;intro v3 g3 _ gk;have f3:=f2.trans g3;refine⟨f3,?_⟩;refine⟨?_,trivial⟩;refine call (fin _ 2 _ 2 v3 f3 (Sl.own' (n:=2) gk rfl (by decide)) ⟨Sl.own (sz:=3) (n:=2) (hP1.ext (g2.trans g3)) (QB _) (by decide) (by simp[JX]),rfl⟩) ?_;rintro _ w9 ⟨rfl,Xt⟩;refine⟨f3.trans Xt,?_⟩;refine Q8 rfl ?_;exact⟨QC Value.bool (Zy rfl),XR.trans (f3.trans Xt)⟩
def pX (file:List Nat)(e:Ed):Except Int (List Nat):=wn KN (λ_=>true) file [e]
theorem Tz (file:List Nat)(e:EdV){o:BF}(hf:(∀b∈file,b<256)/\file.length<=60000)(eS: -9223372036854775808<=e.fr/\e.fr<=9223372036854775807/\ -9223372036854775808<=e.to_/\e.to_<=9223372036854775807)(ht:(∀b∈e.tx,b<256)/\e.tx.length<=1000)(se:Set1 2 e.x.nd e.x.r o)
  (NA:Option Addr) (nc:Nat) (EA:Option Addr) (ec:Nat) (w:World) (hb:SB w e.x.A e.x.n e.x.c e.x.nd) (hN:Sl w 1 NA 2 nc (XB KN)) (hE:SlS XZ 5 w EA 1 ec [e]):
  Fn Tryz.prog 15 [.slice NA 2 nc,Xk none 0 0 1,.string (Qd file),.slice EA 1 ec] w (λu w'=>u=tm (pX file ⟨e.fr,e.to_,e.tx,o⟩)/\Ext w w'):=by
 refine(GN NA 2 nc KN ⟨none,0,0,[],1⟩ file EA 1 ec [e] (by decide) GQ GR hf.1 hf.2 (λb hb=>by rw[QN.1 hb];exact eS) (λb hb=>by rw[QN.1 hb];exact ht) (by show 1<=10;decide) w hN (SlS.nil _) hE (λb hb2=>by rw[QN.1 hb2];exact hb)).mono ?_;rintro u w' ⟨rfl,gA⟩;refine⟨?_,gA⟩;have sc:Set1 2 [] 1 (λ_=>true):=aW 2 true;have e0:oD ⟨none,0,0,[],1⟩=λ_=>true:=mP (x:=⟨none,0,0,[],1⟩) sc
 have o1:Ka KN.length [] 1=true:=(jg (x:=⟨none,0,0,[],1⟩) (n:=2) (by decide) sc).1;have o2:Ka KN.length e.x.nd e.x.r=true:=(jg (n:=2) (by decide) se).1;have e3: [e].map EdV.ed=[⟨e.fr,e.to_,e.tx,o⟩]:=by
  show [(⟨e.fr,e.to_,e.tx,oD e.x⟩:Ed)]=_;rw[mP se]
 unfold gV pX;rw[if_neg (by rw[show ZF KN=true from by decide];show¬(true=false∨Ka KN.length [] 1=false);rw[o1];decide),Qf (by simp only[yS,List.all_nil,Bool.and_true];exact o2),e0,e3]
theorem GT (file want:List Nat)(e:EdV){o:BF}(hf:(∀b∈file,b<256)/\file.length<=60000)(eS: -9223372036854775808<=e.fr/\e.fr<=9223372036854775807/\ -9223372036854775808<=e.to_/\e.to_<=9223372036854775807)(ht:(∀b∈e.tx,b<256)/\e.tx.length<=1000)(se:Set1 2 e.x.nd e.x.r o)(w:World)(hb:SB w e.x.A e.x.n e.x.c e.x.nd)(X0:pX file ⟨e.fr,e.to_,e.tx,o⟩= .ok want):
  Fn Tryz.prog 39 [.string (Qd file),.agg (XZ e).toArray,.string (Qd want)] w (λu w'=>u= .bool true/\Ext w w'):=by
 refine QF (c:={c39 with cuts:=[]}) Qa Tryz.func39 rfl rfl rfl ?_;refine new (λw6 XR dX Q9=>?_);have hd:=Ext.drew w6;have fin:∀(NA:Option Addr) (nc:Nat) (EA:Option Addr) (ec:Nat) (w':World),Ext w6 w'->Sl w' 1 NA 2 nc (XB KN)->SlS XZ 5 w' EA 1 ec [e]->
   Fn Tryz.prog 15 [.slice NA 2 nc,Xk none 0 0 1,.string (Qd file),.slice EA 1 ec] w' (λu KT=>u= .tuple #[.string (Qd want),.int .i64 0]/\Ext w' KT):=λNA nc EA ec w' gA ML MM=>by
  refine(Tz file e hf eS ht se NA nc EA ec w' (hb.ext (XR.trans gA)) ML MM).mono ?_;rintro u KT ⟨rfl,MN⟩;rw[X0];exact⟨rfl,MN⟩
 refine Ga Qa (Ext w6) 11 (.quiet 2 (.quiet 3 (.fork 0 (.fork 1 (.fork 4 (.fork 5 (.quiet 6 (.quiet 7 (.quiet 8 (.quiet 9 (.quiet 10 .done))))) .skip) .skip) (.fork 4 (.fork 1 (.fork 5 (.quiet 6 (.quiet 7 (.quiet 8 (.quiet 9 (.quiet 10 .done))))) .skip) .skip) .skip)) (.fork 1 (.fork 0 (.fork 4 (.fork 5 (.quiet 6 (.quiet 7 (.quiet 8 (.quiet 9 (.quiet 10 .done))))) .skip) .skip) (.fork 4 (.fork 0 (.fork 5 (.quiet 6 (.quiet 7 (.quiet 8 (.quiet 9 (.quiet 10 .done))))) .skip) .skip) .skip)) (.fork 4 (.fork 0 (.fork 1 (.fork 5 (.quiet 6 (.quiet 7 (.quiet 8 (.quiet 9 (.quiet 10 .done))))) .skip) .skip) (.fork 1 (.fork 0 (.fork 5 (.quiet 6 (.quiet 7 (.quiet 8 (.quiet 9 (.quiet 10 .done))))) .skip) .skip) .skip)) .skip))))) (by kernel_rfl) hd ?_;refine Xs (vs:=XZ e) rfl (λw' Qb k u hk=>by rw[(Q9.ext Qb).cell];exact hk) ?_;refine⟨?_,?_,?_,trivial⟩
 ·refine Xh Qa [[Value.string (Qd [65])],[Value.string (Qd [66])]] rfl rfl rfl rfl rfl ⟨rfl,rfl,rfl,rfl,⟨⟩⟩ rfl (λcs h=>by simp only[Q1,Jo,Jw] at h;rcases h with rfl | rfl<;>rfl) rfl (by decide) (by decide) ?_;intro v1 g1 _ qS;have f1:=hd.trans g1;refine⟨f1,?_⟩;refine⟨?_,?_,trivial⟩
  ·refine call (cK true _) ?_;rintro _ v2 ⟨rfl,g2⟩;have f2:=f1.trans g2;refine⟨f2,?_⟩;refine⟨?_,trivial⟩
   ·refine Xh Qa [XZ e] rfl rfl rfl rfl rfl ⟨rfl,rfl,⟨⟩⟩ rfl (λcs h=>by simp only[QN] at h;subst h;rfl) rfl (by decide) (by decide) ?_;intro v3 g3 _ Qj;have f3:=f2.trans g3;refine⟨f3,?_⟩;refine⟨?_,trivial⟩;refine call (fin _ 2 _ 1 v3 f3 (Sl.own' (n:=2) (qS.ext (g2.trans g3)) rfl (by decide)) ⟨Sl.own (sz:=5) (n:=1) Qj (QB _) (by decide) (by simp[XZ]),rfl⟩) ?_;rintro _ w9 ⟨rfl,Xt⟩;refine⟨f3.trans Xt,?_⟩;refine Q8 rfl ?_;exact⟨QC Value.bool (Zy rfl),XR.trans (f3.trans Xt)⟩
  ·refine Xh Qa [XZ e] rfl rfl rfl rfl rfl ⟨rfl,rfl,⟨⟩⟩ rfl (λcs h=>by simp only[QN] at h;subst h;rfl) rfl (by decide) (by decide) ?_;intro v2 g2 _ Qg;have f2:=f1.trans g2;refine⟨f2,?_⟩;refine⟨?_,trivial⟩
   ·refine call (cK true _) ?_;rintro _ v3 ⟨rfl,g3⟩;have f3:=f2.trans g3;refine⟨f3,?_⟩;refine⟨?_,trivial⟩;refine call (fin _ 2 _ 1 v3 f3 (Sl.own' (n:=2) (qS.ext (g2.trans g3)) rfl (by decide)) ⟨Sl.own (sz:=5) (n:=1) (Qg.ext g3) (QB _) (by decide) (by simp[XZ]),rfl⟩) ?_;rintro _ w9 ⟨rfl,Xt⟩;refine⟨f3.trans Xt,?_⟩;refine Q8 rfl ?_;exact⟨QC Value.bool (Zy rfl),XR.trans (f3.trans Xt)⟩
 ·refine call (cK true _) ?_;rintro _ v1 ⟨rfl,g1⟩;have f1:=hd.trans g1;refine⟨f1,?_⟩;refine⟨?_,?_,trivial⟩
  ·refine Xh Qa [[Value.string (Qd [65])],[Value.string (Qd [66])]] rfl rfl rfl rfl rfl ⟨rfl,rfl,rfl,rfl,⟨⟩⟩ rfl (λcs h=>by simp only[Q1,Jo,Jw] at h;rcases h with rfl | rfl<;>rfl) rfl (by decide) (by decide) ?_;intro v2 g2 _ qT;have f2:=f1.trans g2;refine⟨f2,?_⟩;refine⟨?_,trivial⟩
   ·refine Xh Qa [XZ e] rfl rfl rfl rfl rfl ⟨rfl,rfl,⟨⟩⟩ rfl (λcs h=>by simp only[QN] at h;subst h;rfl) rfl (by decide) (by decide) ?_;intro v3 g3 _ Qj;have f3:=f2.trans g3;refine⟨f3,?_⟩;refine⟨?_,trivial⟩;refine call (fin _ 2 _ 1 v3 f3 (Sl.own' (n:=2) (qT.ext g3) rfl (by decide)) ⟨Sl.own (sz:=5) (n:=1) Qj (QB _) (by decide) (by simp[XZ]),rfl⟩) ?_;rintro _ w9 ⟨rfl,Xt⟩;refine⟨f3.trans Xt,?_⟩;refine Q8 rfl ?_;exact⟨QC Value.bool (Zy rfl),XR.trans (f3.trans Xt)⟩
  ·refine Xh Qa [XZ e] rfl rfl rfl rfl rfl ⟨rfl,rfl,⟨⟩⟩ rfl (λcs h=>by simp only[QN] at h;subst h;rfl) rfl (by decide) (by decide) ?_;intro v2 g2 _ Qg;have f2:=f1.trans g2;refine⟨f2,?_⟩;refine⟨?_,trivial⟩
   ·refine Xh Qa [[Value.string (Qd [65])],[Value.string (Qd [66])]] rfl rfl rfl rfl rfl ⟨rfl,rfl,rfl,rfl,⟨⟩⟩ rfl (λcs h=>by simp only[Q1,Jo,Jw] at h;rcases h with rfl | rfl<;>rfl) rfl (by decide) (by decide) ?_;intro v3 g3 _ gk;have f3:=f2.trans g3;refine⟨f3,?_⟩;refine⟨?_,trivial⟩;refine call (fin _ 2 _ 1 v3 f3 (Sl.own' (n:=2) gk rfl (by decide)) ⟨Sl.own (sz:=5) (n:=1) (Qg.ext g3) (QB _) (by decide) (by simp[XZ]),rfl⟩) ?_;rintro _ w9 ⟨rfl,Xt⟩;refine⟨f3.trans Xt,?_⟩;refine Q8 rfl ?_;exact⟨QC Value.bool (Zy rfl),XR.trans (f3.trans Xt)⟩
 ·refine Xh Qa [XZ e] rfl rfl rfl rfl rfl ⟨rfl,rfl,⟨⟩⟩ rfl (λcs h=>by simp only[QN] at h;subst h;rfl) rfl (by decide) (by decide) ?_;intro v1 g1 _ Qe;have f1:=hd.trans g1;refine⟨f1,?_⟩;refine⟨?_,?_,trivial⟩
  ·refine Xh Qa [[Value.string (Qd [65])],[Value.string (Qd [66])]] rfl rfl rfl rfl rfl ⟨rfl,rfl,rfl,rfl,⟨⟩⟩ rfl (λcs h=>by simp only[Q1,Jo,Jw] at h;rcases h with rfl | rfl<;>rfl) rfl (by decide) (by decide) ?_;intro v2 g2 _ qT;have f2:=f1.trans g2;refine⟨f2,?_⟩;refine⟨?_,trivial⟩
   ·refine call (cK true _) ?_;rintro _ v3 ⟨rfl,g3⟩;have f3:=f2.trans g3;refine⟨f3,?_⟩;refine⟨?_,trivial⟩;refine call (fin _ 2 _ 1 v3 f3 (Sl.own' (n:=2) (qT.ext g3) rfl (by decide)) ⟨Sl.own (sz:=5) (n:=1) (Qe.ext (g2.trans g3)) (QB _) (by decide) (by simp[XZ]),rfl⟩) ?_;rintro _ w9 ⟨rfl,Xt⟩;refine⟨f3.trans Xt,?_⟩;refine Q8 rfl ?_;exact⟨QC Value.bool (Zy rfl),XR.trans (f3.trans Xt)⟩
  ·refine call (cK true _) ?_;rintro _ v2 ⟨rfl,g2⟩;have f2:=f1.trans g2;refine⟨f2,?_⟩;refine⟨?_,trivial⟩
   ·refine Xh Qa [[Value.string (Qd [65])],[Value.string (Qd [66])]] rfl rfl rfl rfl rfl ⟨rfl,rfl,rfl,rfl,⟨⟩⟩ rfl (λcs h=>by simp only[Q1,Jo,Jw] at h;rcases h with rfl | rfl<;>rfl) rfl (by decide) (by decide) ?_;intro v3 g3 _ gk;have f3:=f2.trans g3;refine⟨f3,?_⟩;refine⟨?_,trivial⟩;refine call (fin _ 2 _ 1 v3 f3 (Sl.own' (n:=2) gk rfl (by decide)) ⟨Sl.own (sz:=5) (n:=1) (Qe.ext (g2.trans g3)) (QB _) (by decide) (by simp[XZ]),rfl⟩) ?_;rintro _ w9 ⟨rfl,Xt⟩;refine⟨f3.trans Xt,?_⟩;refine Q8 rfl ?_;exact⟨QC Value.bool (Zy rfl),XR.trans (f3.trans Xt)⟩
def iQ7 (r:Except Int (List Nat))(k:Int):Bool:=match r with
 | .ok _=>false
 | .error e=>decide (e=k)
theorem mQ {r:Except Int (List Nat)}{t:List Nat}(h:iQ6 r t=true):r= .ok t:=by
 cases r with
 | ok l=>rw[aQ h]
 | error e=>cases h
theorem GU {r:Except Int (List Nat)}{k:Int}(h:iQ7 r k=true):r= .error k:=by
 cases r with
 | ok l=>cases h
 | error e=>rw[aQ h]
theorem TB (x:DV){o:BF}(Q:List (DV×Pr))(NA:Option Addr)(nc:Nat)(PA:Option Addr)(pn pc:Nat)(w:World)(hN:Sl w 1 NA 2 nc (XB KN))(hx:SB w x.A x.n x.c x.nd)(sx:Set1 2 x.nd x.r o)(hP:SlS Ya 3 w PA pn pc Q)
  (hQ:∀q∈Q,SB w q.1.A q.1.n q.1.c q.1.nd/\Set1 2 q.1.nd q.1.r q.2.o/\(∀b∈q.2.t,b<256)/\q.2.t.length<=2000):
  Fn Tryz.prog 24 [.slice NA 2 nc,Xk x.A x.n x.c x.r,.slice PA pn pc] w (λu w'=>u=tm (gW KN o (Q.map (·.2)))/\Ext w w'):=by
 refine(GD NA 2 nc KN x PA pn pc (Q.map (λq=>(q.1,q.2.t))) (by decide) GQ GR (λq hq=>by
  obtain⟨q0,h0,rfl⟩:=X7.1 hq;exact(hQ q0 h0).2.2) w hN hx ⟨by rw[<-GJ];exact hP.1,by rw[JF];exact hP.2⟩ (λq hq=>by
  obtain⟨q0,h0,rfl⟩:=X7.1 hq;exact(hQ q0 h0).1)).mono ?_
 rintro u w' ⟨rfl,hE⟩;refine⟨?_,hE⟩;rw[S9 (nm:=KN) (by decide) (jg (n:=2) (by decide) sx).1 (λq hq=>by
  obtain⟨q0,h0,rfl⟩:=X7.1 hq;exact(jg (n:=2) (by decide) (hQ q0 h0).2.1).1),mP sx,GI (λq hq=>(hQ q hq).2.1)]
theorem TC (x:DV){o:BF}(Q:List (DV×Pr))(NA:Option Addr)(nc:Nat)(PA:Option Addr)(pn pc:Nat)(w:World)(hN:Sl w 1 NA 2 nc (XB KN))(hx:SB w x.A x.n x.c x.nd)(sx:Set1 2 x.nd x.r o)(hP:SlS Ya 3 w PA pn pc Q)
  (hQ:∀q∈Q,SB w q.1.A q.1.n q.1.c q.1.nd/\Set1 2 q.1.nd q.1.r q.2.o/\(∀b∈q.2.t,b<256)/\q.2.t.length<=2000) {qs:List Pr} (iP:Q.map (·.2)=qs) {t:List Nat} (hr:gW KN o qs= .ok t):
  Fn Tryz.prog 24 [.slice NA 2 nc,Xk x.A x.n x.c x.r,.slice PA pn pc] w (λu w'=>u= .tuple #[.string (Qd t),.int .i64 0]/\Ext w w'):=by
 refine(TB x Q NA nc PA pn pc w hN hx sx hP hQ).mono ?_;rintro u w' ⟨rfl,hE⟩;exact⟨by rw[iP,hr];rfl,hE⟩
theorem TD (x:DV){o:BF}(Q:List (DV×Pr))(NA:Option Addr)(nc:Nat)(PA:Option Addr)(pn pc:Nat)(w:World)(hN:Sl w 1 NA 2 nc (XB KN))(hx:SB w x.A x.n x.c x.nd)(sx:Set1 2 x.nd x.r o)(hP:SlS Ya 3 w PA pn pc Q)
  (hQ:∀q∈Q,SB w q.1.A q.1.n q.1.c q.1.nd/\Set1 2 q.1.nd q.1.r q.2.o/\(∀b∈q.2.t,b<256)/\q.2.t.length<=2000) {qs:List Pr} (iP:Q.map (·.2)=qs) {k:Int} (hr:gW KN o qs= .error k):
  Fn Tryz.prog 24 [.slice NA 2 nc,Xk x.A x.n x.c x.r,.slice PA pn pc] w (λu w'=>u= .tuple #[.string (Qd []),.int .i64 k]/\Ext w w'):=by
 refine(TB x Q NA nc PA pn pc w hN hx sx hP hQ).mono ?_;rintro u w' ⟨rfl,hE⟩;exact⟨by rw[iP,hr];rfl,hE⟩
theorem iQ8 (NA:Option Addr)(nc:Nat)(w:World)(hN:Sl w 1 NA 2 nc (XB [[65],[65]])):
  Fn Tryz.prog 24 [.slice NA 2 nc,Xk none 0 0 1,.slice none 0 0] w (λu w'=>u= .tuple #[.string (Qd []),.int .i64 1]/\Ext w w'):=by
 refine(GD NA 2 nc [[65],[65]] ⟨none,0,0,[],1⟩ none 0 0 [] (by decide) (λs hs=>by
  simp only[Q1,Jo,Jw] at hs;rcases hs with rfl | rfl<;>exact⟨by decide,by decide⟩) (by decide) (λq hq=>by cases hq) w hN (SlS.nil _) (SlS.nil _) (λq hq=>by cases hq)).mono ?_
 rintro u w' ⟨rfl,hE⟩;exact⟨by unfold kJ;rw[Qf (.inl (by decide+kernel))];rfl,hE⟩
abbrev tA:BF:=λe=>e 0
abbrev tB:BF:=λe=>e 1
abbrev tX:List Nat:=[120,10]
theorem sn1:Bc [120,10,121,10] [120,10,122,10]= .ok [120,10,35,105,102,32,65,10,121,10,35,101,108,115,101,10,122,10,35,101,110,100,10]:=mQ (by decide+kernel)
theorem sn2:Bc [120,10,121,10] [120,10]= .ok [120,10,35,105,102,32,65,10,121,10,35,101,110,100,10]:=mQ (by decide+kernel)
theorem sn3:Bc [120,10] [120,10,121,10]= .ok [120,10,35,105,102,32,33,65,10,121,10,35,101,110,100,10]:=mQ (by decide+kernel)
theorem sn4:gW KN (λ_=>true) [⟨λe=>e 0&&e 1,tX⟩,⟨λe=> !(e 0&&e 1),[]⟩]= .ok [35,105,102,32,65,10,35,105,102,32,66,10,120,10,35,101,110,100,10,35,101,110,100,10]:=mQ (by decide+kernel)
theorem sn5:gW KN tB [⟨λe=>e 0&&e 1,tX⟩,⟨λe=> !e 0&&e 1,[121,10]⟩]= .ok [35,105,102,32,65,10,120,10,35,101,108,115,101,10,121,10,35,101,110,100,10]:=mQ (by decide+kernel)
theorem sn6:gW KN (λ_=>true) [⟨tA,tX⟩]= .error 290:=GU (by decide+kernel)
theorem sn7:gW KN (λ_=>true) [⟨λ_=>true,[35,101,110,100,10]⟩]= .error 290:=GU (by decide+kernel)
def mR:List Nat:=[35,105,102,32,65,10,120,10,35,101,110,100,10]
theorem sn8:pX [120,32,121,10,122,10] ⟨2,3,[119],tA⟩= .ok [35,105,102,32,65,10,120,32,119,10,35,101,108,115,101,10,120,32,121,10,35,101,110,100,10,122,10]:=mQ (by decide+kernel)
theorem sn9:pX mR ⟨6,7,[121],λe=> !e 0⟩= .ok mR:=mQ (by decide+kernel)
theorem iQ9:pX mR ⟨6,7,[121],λ_=>true⟩= .ok [35,105,102,32,65,10,121,10,35,101,110,100,10]:=mQ (by decide+kernel)
theorem jQa:pX mR ⟨0,1,[121],tA⟩= .error 291:=GU (by decide+kernel)
theorem jQb (w0:World):Fn Tryz.prog 11 [] w0 (λu w'=>u= .bool true/\Ext w0 w'):=by
 refine QF (c:={vk with cuts:=[]}) Qa Tryz.func11 rfl rfl rfl ?_;refine call (GO (k:=2) (v:=0) (by decide) (by decide) w0) ?_;rintro _ a1 ⟨Aa,na,ca,da,ra,rfl,e1,ba,sa,_⟩;refine new (λx1 f1 y1 B1=>?_);refine Qv B1 rfl (sc rfl) (λw1 g1 _ Ba=>?_);have h1:Ext w0 w1:=e1.trans (X9 f1 B1 g1);have ba:=ba.ext (X9 f1 B1 g1);refine call (GO (k:=2) (v:=1) (by decide) (by decide) w1) ?_;rintro _ a2 ⟨Ab,nb,cb,db,rb,rfl,e2,bb,sb,_⟩;refine new (λx2 f2 y2 B2=>?_);refine Qv B2 rfl (sc rfl) (λw2 g2 _ Bb=>?_);have h2:Ext w1 w2:=e2.trans (X9 f2 B2 g2);have bb:=bb.ext (X9 f2 B2 g2);refine Qt (Ba.ext h2) rfl ?_;refine call (GP (k:=2) (by decide) (⟨Aa,na,ca,da,ra⟩:DV) w2 (ba.ext h2) sa) ?_;rintro _ a3 ⟨Anot,nnot,cnot,dnot,rnot,rfl,e3,bnot,snot,_⟩;refine new (λx3 f3 y3 B3=>?_);refine Qv B3 rfl (sc rfl) (λw3 g3 _ Bnot=>?_);have h3:Ext w2 w3:=e3.trans (X9 f3 B3 g3);have bnot:=bnot.ext (X9 f3 B3 g3);refine Qt (Ba.ext (h2.trans h3)) rfl ?_;refine Qt (Bb.ext h3) rfl ?_;refine call (Ty (k:=2) (by decide) (⟨Aa,na,ca,da,ra⟩:DV) (⟨Ab,nb,cb,db,rb⟩:DV) w3 (ba.ext (h2.trans h3)) (bb.ext h3) sa sb) ?_;rintro _ a4 ⟨Aboth,nboth,cboth,dboth,rboth,rfl,e4,bboth,sboth,_⟩;refine new (λx4 f4 y4 B4=>?_);refine Qv B4 rfl (sc rfl) (λw4 g4 _ Bboth=>?_);have h4:Ext w3 w4:=e4.trans (X9 f4 B4 g4);have bboth:=bboth.ext (X9 f4 B4 g4);refine Qt Bboth rfl ?_;refine call (GP (k:=2) (by decide) (⟨Aboth,nboth,cboth,dboth,rboth⟩:DV) w4 bboth sboth) ?_;rintro _ a5 ⟨Arest,nrest,crest,drest,rrest,rfl,e5,brest,srest,_⟩;refine new (λx5 f5 y5 B5=>?_);refine Qv B5 rfl (sc rfl) (λw5 g5 _ Brest=>?_);have h5:Ext w4 w5:=e5.trans (X9 f5 B5 g5);have brest:=brest.ext (X9 f5 B5 g5);refine Qt (Bnot.ext (h4.trans h5)) rfl ?_;refine Qt (Bb.ext ((h3.trans h4).trans h5)) rfl ?_;refine call (Ty (k:=2) (by decide) (⟨Anot,nnot,cnot,dnot,rnot⟩:DV) (⟨Ab,nb,cb,db,rb⟩:DV) w5 (bnot.ext (h4.trans h5)) (bb.ext ((h3.trans h4).trans h5)) snot sb) ?_;rintro _ a6 ⟨Aoth,noth,coth,doth,roth,rfl,e6,both,soth,_⟩;refine new (λx6 f6 y6 B6=>?_);refine Qv B6 rfl (sc rfl) (λw6 g6 _ Both=>?_);have h6:Ext w5 w6:=e6.trans (X9 f6 B6 g6);have both:=both.ext (X9 f6 B6 g6);refine call (cK true w6) ?_;rintro _ a7 ⟨rfl,e7⟩;refine new (λx7 f7 y7 B7=>?_);refine Qv B7 rfl (sc rfl) (λw7 g7 _ Ball=>?_);have h7:Ext w6 w7:=e7.trans (X9 f7 B7 g7);have Ball:Blk w7 a7.heap.size 32 (⟨none,0,0,[],1⟩:DV).cells:=Ball;have sall:Set1 2 [] 1 (λ_=>true):=aW 2 true;refine Xh Qa [[Value.string (Qd [65])],[Value.string (Qd [66])]] rfl rfl rfl rfl rfl ⟨rfl,rfl,rfl,rfl,⟨⟩⟩ rfl (λcs h=>by simp only[Q1,Jo,Jw] at h;rcases h with rfl | rfl<;>rfl) rfl (by decide) (by decide) ?_;intro w8 h8 _ BN;have hN:Sl w8 1 (some ⟨w7.heap.size,0,none⟩) 2 2 (XB KN):=Sl.own' (n:=2) BN rfl (by decide);refine call (GS [120,10,121,10] [120,10,122,10] _ (by decide) (by decide) w8 sn1) ?_;rintro _ w9 ⟨rfl,h9⟩;refine Q8 rfl ?_;refine call (GS [120,10,121,10] [120,10] _ (by decide) (by decide) w9 sn2) ?_;rintro _ Qy ⟨rfl,XN⟩;refine Q8 rfl ?_;refine call (GS [120,10] [120,10,121,10] _ (by decide) (by decide) Qy sn3) ?_;rintro _ QH ⟨rfl,ZS⟩;refine Qt (Ball.ext (((h8.trans h9).trans XN).trans ZS)) rfl ?_;refine Qt (Bboth.ext ((((((h5.trans h6).trans h7).trans h8).trans h9).trans XN).trans ZS)) rfl ?_;refine Qt (Brest.ext (((((h6.trans h7).trans h8).trans h9).trans XN).trans ZS)) rfl ?_;refine Xh Qa [Ya ((⟨Aboth,nboth,cboth,dboth,rboth⟩:DV),Pr.mk (λe=>e 0&&e 1) tX),Ya ((⟨Arest,nrest,crest,drest,rrest⟩:DV),Pr.mk (λe=> !(e 0&&e 1)) [])] rfl rfl rfl rfl rfl ⟨rfl,rfl,rfl,rfl,⟨⟩⟩ rfl (λcs h=>by simp only[Q1,Jo,Jw] at h;rcases h with rfl | rfl<;>rfl) rfl (by decide) (by decide) ?_;intro Xa XU _ BP12;refine call (TC ⟨none,0,0,[],1⟩ [((⟨Aboth,nboth,cboth,dboth,rboth⟩:DV),Pr.mk (λe=>e 0&&e 1) tX),((⟨Arest,nrest,crest,drest,rrest⟩:DV),Pr.mk (λe=> !(e 0&&e 1)) [])] _ 2 _ 2 2 Xa (hN.ext (((h9.trans XN).trans ZS).trans XU)) (SlS.nil _) sall ⟨Sl.own (sz:=3) (n:=2) BP12 (QB _) (by decide) (by simp[Ya,JX]),rfl⟩ (λq hq=>by
  simp only[Q1,Jo,Jw] at hq;rcases hq with rfl | rfl
  ·exact⟨(bboth.ext (((((((h5.trans h6).trans h7).trans h8).trans h9).trans XN).trans ZS).trans XU)),sboth,(show(∀b∈(tX:List Nat),b<256)/\(tX:List Nat).length<=2000 by decide)⟩
  ·exact⟨(brest.ext ((((((h6.trans h7).trans h8).trans h9).trans XN).trans ZS).trans XU)),srest,(show(∀b∈([]:List Nat),b<256)/\([]:List Nat).length<=2000 by decide)⟩) rfl sn4) ?_
 rintro _ X6 ⟨rfl,KJ⟩;refine Qt (Bb.ext ((((((((((h3.trans h4).trans h5).trans h6).trans h7).trans h8).trans h9).trans XN).trans ZS).trans XU).trans KJ)) rfl ?_;refine Qt (Bboth.ext ((((((((h5.trans h6).trans h7).trans h8).trans h9).trans XN).trans ZS).trans XU).trans KJ)) rfl ?_;refine Qt (Both.ext ((((((h7.trans h8).trans h9).trans XN).trans ZS).trans XU).trans KJ)) rfl ?_;refine Xh Qa [Ya ((⟨Aboth,nboth,cboth,dboth,rboth⟩:DV),Pr.mk (λe=>e 0&&e 1) tX),Ya ((⟨Aoth,noth,coth,doth,roth⟩:DV),Pr.mk (λe=> !e 0&&e 1) [121,10])] rfl rfl rfl rfl rfl ⟨rfl,rfl,rfl,rfl,⟨⟩⟩ rfl (λcs h=>by simp only[Q1,Jo,Jw] at h;rcases h with rfl | rfl<;>rfl) rfl (by decide) (by decide) ?_;intro Zk Vx _ BP14;refine call (TC (⟨Ab,nb,cb,db,rb⟩:DV) [((⟨Aboth,nboth,cboth,dboth,rboth⟩:DV),Pr.mk (λe=>e 0&&e 1) tX),((⟨Aoth,noth,coth,doth,roth⟩:DV),Pr.mk (λe=> !e 0&&e 1) [121,10])] _ 2 _ 2 2 Zk (hN.ext (((((h9.trans XN).trans ZS).trans XU).trans KJ).trans Vx)) (bb.ext (((((((((((h3.trans h4).trans h5).trans h6).trans h7).trans h8).trans h9).trans XN).trans ZS).trans XU).trans KJ).trans Vx)) sb ⟨Sl.own (sz:=3) (n:=2) BP14 (QB _) (by decide) (by simp[Ya,JX]),rfl⟩ (λq hq=>by
  simp only[Q1,Jo,Jw] at hq;rcases hq with rfl | rfl
  ·exact⟨(bboth.ext (((((((((h5.trans h6).trans h7).trans h8).trans h9).trans XN).trans ZS).trans XU).trans KJ).trans Vx)),sboth,(show(∀b∈(tX:List Nat),b<256)/\(tX:List Nat).length<=2000 by decide)⟩
  ·exact⟨(both.ext (((((((h7.trans h8).trans h9).trans XN).trans ZS).trans XU).trans KJ).trans Vx)),soth,(show(∀b∈([121,10]:List Nat),b<256)/\([121,10]:List Nat).length<=2000 by decide)⟩) rfl sn5) ?_
 rintro _ Ky ⟨rfl,Wx⟩;refine Qt (Ball.ext (((((((h8.trans h9).trans XN).trans ZS).trans XU).trans KJ).trans Vx).trans Wx)) rfl ?_;refine Qt (Ba.ext (((((((((((((h2.trans h3).trans h4).trans h5).trans h6).trans h7).trans h8).trans h9).trans XN).trans ZS).trans XU).trans KJ).trans Vx).trans Wx)) rfl ?_;refine Xh Qa [Ya ((⟨Aa,na,ca,da,ra⟩:DV),Pr.mk (λe=>e 0) tX)] rfl rfl rfl rfl rfl ⟨rfl,rfl,⟨⟩⟩ rfl (λcs h=>by simp only[QN] at h;subst h;rfl) rfl (by decide) (by decide) ?_;intro aD aF _ BP16;refine call (TD ⟨none,0,0,[],1⟩ [((⟨Aa,na,ca,da,ra⟩:DV),Pr.mk (λe=>e 0) tX)] _ 2 _ 1 1 aD (hN.ext (((((((h9.trans XN).trans ZS).trans XU).trans KJ).trans Vx).trans Wx).trans aF)) (SlS.nil _) sall ⟨Sl.own (sz:=3) (n:=1) BP16 (QB _) (by decide) (by simp[Ya,JX]),rfl⟩ (λq hq=>by
  simp only[Q1,Jo,Jw] at hq;rcases hq with rfl
  ·exact⟨(ba.ext ((((((((((((((h2.trans h3).trans h4).trans h5).trans h6).trans h7).trans h8).trans h9).trans XN).trans ZS).trans XU).trans KJ).trans Vx).trans Wx).trans aF)),sa,(show(∀b∈(tX:List Nat),b<256)/\(tX:List Nat).length<=2000 by decide)⟩) rfl sn6) ?_
 rintro _ Vv ⟨rfl,d8⟩;refine Qt (Ball.ext (((((((((h8.trans h9).trans XN).trans ZS).trans XU).trans KJ).trans Vx).trans Wx).trans aF).trans d8)) rfl ?_;refine Qt (Ball.ext (((((((((h8.trans h9).trans XN).trans ZS).trans XU).trans KJ).trans Vx).trans Wx).trans aF).trans d8)) rfl ?_;refine Xh Qa [Ya ((⟨none,0,0,[],1⟩:DV),Pr.mk (λ_=>true) [35,101,110,100,10])] rfl rfl rfl rfl rfl ⟨rfl,rfl,⟨⟩⟩ rfl (λcs h=>by simp only[QN] at h;subst h;rfl) rfl (by decide) (by decide) ?_;intro Vi aE _ BP18;refine call (TD ⟨none,0,0,[],1⟩ [((⟨none,0,0,[],1⟩:DV),Pr.mk (λ_=>true) [35,101,110,100,10])] _ 2 _ 1 1 Vi (hN.ext (((((((((h9.trans XN).trans ZS).trans XU).trans KJ).trans Vx).trans Wx).trans aF).trans d8).trans aE)) (SlS.nil _) sall ⟨Sl.own (sz:=3) (n:=1) BP18 (QB _) (by decide) (by simp[Ya,JX]),rfl⟩ (λq hq=>by
  simp only[Q1,Jo,Jw] at hq;rcases hq with rfl
  ·exact⟨SlS.nil _,sall,(show(∀b∈([35,101,110,100,10]:List Nat),b<256)/\([35,101,110,100,10]:List Nat).length<=2000 by decide)⟩) rfl sn7) ?_
 rintro _ cg ⟨rfl,fg⟩;refine Xh Qa [[Value.string (Qd [65])],[Value.string (Qd [65])]] rfl rfl rfl rfl rfl ⟨rfl,rfl,rfl,rfl,⟨⟩⟩ rfl (λcs h=>by simp only[Q1,Jo,Jw] at h;rcases h with rfl | rfl<;>rfl) rfl (by decide) (by decide) ?_;intro YO d6 _ BA;refine Qt (Ball.ext ((((((((((((h8.trans h9).trans XN).trans ZS).trans XU).trans KJ).trans Vx).trans Wx).trans aF).trans d8).trans aE).trans fg).trans d6)) rfl ?_;refine call (iQ8 _ 2 YO (Sl.own' (n:=2) BA rfl (by decide))) ?_;rintro _ iq ⟨rfl,ff⟩;refine Jp rfl ?_;refine Zh rfl ?_;refine Jp rfl ?_;refine Zh rfl ?_;refine Jp rfl ?_;refine Jp rfl ?_;refine Qt (Ba.ext (((((((((((((((((((h2.trans h3).trans h4).trans h5).trans h6).trans h7).trans h8).trans h9).trans XN).trans ZS).trans XU).trans KJ).trans Vx).trans Wx).trans aF).trans d8).trans aE).trans fg).trans d6).trans ff)) rfl ?_;refine call (GT [120,32,121,10,122,10] _ ⟨2,3,[119],(⟨Aa,na,ca,da,ra⟩:DV)⟩ (by decide) (show(-9223372036854775808:Int)<=2/\(2:Int)<=9223372036854775807/\(-9223372036854775808:Int)<=3/\(3:Int)<=9223372036854775807 by decide) (show(∀b∈([119]:List Nat),b<256)/\([119]:List Nat).length<=1000 by decide) sa iq (ba.ext (((((((((((((((((((h2.trans h3).trans h4).trans h5).trans h6).trans h7).trans h8).trans h9).trans XN).trans ZS).trans XU).trans KJ).trans Vx).trans Wx).trans aF).trans d8).trans aE).trans fg).trans d6).trans ff)) sn8) ?_;rintro _ br ⟨rfl,jy⟩;refine Q8 rfl ?_;refine Qt (Bnot.ext ((((((((((((((((((h4.trans h5).trans h6).trans h7).trans h8).trans h9).trans XN).trans ZS).trans XU).trans KJ).trans Vx).trans Wx).trans aF).trans d8).trans aE).trans fg).trans d6).trans ff).trans jy)) rfl ?_;refine call (GT mR mR ⟨6,7,[121],(⟨Anot,nnot,cnot,dnot,rnot⟩:DV)⟩ (by decide) (show(-9223372036854775808:Int)<=6/\(6:Int)<=9223372036854775807/\(-9223372036854775808:Int)<=7/\(7:Int)<=9223372036854775807 by decide) (show(∀b∈([121]:List Nat),b<256)/\([121]:List Nat).length<=1000 by decide) snot br (bnot.ext ((((((((((((((((((h4.trans h5).trans h6).trans h7).trans h8).trans h9).trans XN).trans ZS).trans XU).trans KJ).trans Vx).trans Wx).trans aF).trans d8).trans aE).trans fg).trans d6).trans ff).trans jy)) sn9) ?_;rintro _ Lz ⟨rfl,nJ⟩;refine Q8 rfl ?_;refine Qt (Ball.ext (((((((((((((((h8.trans h9).trans XN).trans ZS).trans XU).trans KJ).trans Vx).trans Wx).trans aF).trans d8).trans aE).trans fg).trans d6).trans ff).trans jy).trans nJ)) rfl ?_;refine call (GT mR _ ⟨6,7,[121],⟨none,0,0,[],1⟩⟩ (by decide) (show(-9223372036854775808:Int)<=6/\(6:Int)<=9223372036854775807/\(-9223372036854775808:Int)<=7/\(7:Int)<=9223372036854775807 by decide) (show(∀b∈([121]:List Nat),b<256)/\([121]:List Nat).length<=1000 by decide) sall Lz (SlS.nil _) iQ9) ?_;rintro _ C6 ⟨rfl,gY⟩;refine Qt (Ball.ext ((((((((((((((((h8.trans h9).trans XN).trans ZS).trans XU).trans KJ).trans Vx).trans Wx).trans aF).trans d8).trans aE).trans fg).trans d6).trans ff).trans jy).trans nJ).trans gY)) rfl ?_;refine Qt (Ba.ext ((((((((((((((((((((((h2.trans h3).trans h4).trans h5).trans h6).trans h7).trans h8).trans h9).trans XN).trans ZS).trans XU).trans KJ).trans Vx).trans Wx).trans aF).trans d8).trans aE).trans fg).trans d6).trans ff).trans jy).trans nJ).trans gY)) rfl ?_;refine Xh Qa [XZ ⟨0,1,[121],(⟨Aa,na,ca,da,ra⟩:DV)⟩] rfl rfl rfl rfl rfl ⟨rfl,rfl,⟨⟩⟩ rfl (λcs h=>by simp only[QN] at h;subst h;rfl) rfl (by decide) (by decide) ?_;intro w25 LD _ BE;refine call (Tz mR ⟨0,1,[121],(⟨Aa,na,ca,da,ra⟩:DV)⟩ (by decide) (show(-9223372036854775808:Int)<=0/\(0:Int)<=9223372036854775807/\(-9223372036854775808:Int)<=1/\(1:Int)<=9223372036854775807 by decide) (show(∀b∈([121]:List Nat),b<256)/\([121]:List Nat).length<=1000 by decide) sa _ 2 _ 1 w25 (ba.ext (((((((((((((((((((((((h2.trans h3).trans h4).trans h5).trans h6).trans h7).trans h8).trans h9).trans XN).trans ZS).trans XU).trans KJ).trans Vx).trans Wx).trans aF).trans d8).trans aE).trans fg).trans d6).trans ff).trans jy).trans nJ).trans gY).trans LD)) (hN.ext ((((((((((((((((h9.trans XN).trans ZS).trans XU).trans KJ).trans Vx).trans Wx).trans aF).trans d8).trans aE).trans fg).trans d6).trans ff).trans jy).trans nJ).trans gY).trans LD)) ⟨Sl.own (sz:=5) (n:=1) BE (QB _) (by decide) (by simp[XZ]),rfl⟩) ?_;rintro _ w26 ⟨rfl,h26⟩;rw[jQa];refine Q8 rfl ?_;refine Q8 rfl ?_;refine Q8 rfl ?_;exact⟨rfl,(((((((((((((((((((((((((h1.trans h2).trans h3).trans h4).trans h5).trans h6).trans h7).trans h8).trans h9).trans XN).trans ZS).trans XU).trans KJ).trans Vx).trans Wx).trans aF).trans d8).trans aE).trans fg).trans d6).trans ff).trans jy).trans nJ).trans gY).trans LD).trans h26)⟩
theorem jQc:((List.range 256).all λf=>(List.range 8).all λc=>bQ [f] 3 0 0 (FN c)==f.testBit c)=true:=by decide+kernel
theorem TE {f c:Nat}(hf:f<=255)(hc:c<8):bQ [f] 3 0 0 (bits c)=f.testBit c:=by
 have:=Ym.1 jQc f (jS.2 (by omega));have:=Ym.1 this c (jS.2 hc);rw[hQg] at this;simpa using this
theorem jQd {o o':BF}(h:∀c,c<8->o (bits c)=o' (bits c)):QL 3 o=QL 3 o':=by
 unfold QL;refine List.filter_congr (λc hc=>?_);exact h c (jS.1 hc)
def be (b:Nat):BF:=if b=0 then λ_=>true else bQ [b] 3 0 0
theorem jQe {b c:Nat}(hb:b<=255)(hc:c<8):be b (bits c)=wj b c:=by
 unfold be wj;by_cases h:b=0
 ·rw[Qf h,Zy (by omega)]<;>rfl
 ·rw[if_neg h,TE hb hc,Zq (by omega)]<;>rfl
theorem jQf {b:Nat}(hb:b<=255):QL 3 (be b)=F3 b:=by
 unfold QL F3;refine List.filter_congr (λc hc=>?_);exact jQe hb (jS.1 hc)
theorem TF {b:Nat}(hb:b<=255):QL 3 (bQ [b] 3 0 0)=[]↔b=0:=by
 constructor
 ·intro h;apply Classical.byContradiction;intro h0;have h1:=jQf hb;unfold be at h1;rw[if_neg h0,h] at h1;exact hQf hb h1.symm
 ·rintro rfl;rw[jQd (o':=λ_=>false) (λc hc=>by rw[TE (by decide) hc,Nat.zero_testBit])];decide
theorem TG (b:Nat)(hb:b<=255)(w:World):Fn Tryz.prog 14 [.int .u8 b] w (gQ w 3 (be b)):=by
 refine QF (c:={c14 with cuts:=[]}) Qa Tryz.func14 rfl rfl rfl ?_;refine new (λw1 Qe Q4 Qh=>?_);refine Xh Qa [[Value.int .u8 b]] rfl rfl rfl rfl rfl ⟨rfl,rfl,⟨⟩⟩ rfl (λcs h=>by simp only[QN] at h;subst h;rfl) rfl (by decide) (by decide) ?_;intro w2 Qg Zb Qx;refine call (f9 [b] _ 1 1 3 w2 (Sl.own' (n:=1) Qx rfl (by decide)) (λx hx=>by rw[QN.1 hx];exact hb) (by decide)) ?_;rintro _ w3 ⟨A,n,c,nd,r,rfl,Qj,tE,s3,np⟩;have QX:=Qe.trans (Qg.trans Qj);have XI:=Qg.trans Qj;refine new (λw4 Qs KO Q7=>?_);refine Qv Q7 rfl (sc rfl) (λw5 JH _ QG=>?_);have Yd:Ext w3 w5:=X9 Qs Q7 JH;have tQ:=Qh.ext (XI.trans Yd);have J3:=QX.trans Yd;have qf:=XI.size;refine Qo QG rfl ?_;have h0:=s3.root0.trans (TF hb);refine X3 (λhz=>?_) (λhz=>?_)
 ·refine call (vZ true w5) ?_;rintro _ w6 ⟨rfl,QO⟩;refine Qv (tQ.ext QO) rfl (sc rfl) (λw7 ZB _ Q2=>?_);have Xf:Mod (·=w.heap.size) w6 w7:=nQQ ZB rfl;refine Qt Q2 rfl ?_;refine⟨none,0,0,[],1,rfl,Xf.ext (J3.trans QO) (λi hi=>by omega),SlS.nil _,?_,λi hi=>by obtain⟨_,e,_⟩:=hi;cases e⟩;have e:be b=λ_=>true:=by unfold be;rw[Qf (h0.1 hz)]
  rw[e];exact aW 3 true
 ·refine Qt QG rfl ?_;refine Qv tQ rfl (sc rfl) (λw7 ZB _ Q2=>?_);have Xf:Mod (·=w.heap.size) w5 w7:=nQQ ZB rfl;refine Qt Q2 rfl ?_;have kQV:=Qg.size;refine⟨A,n,c,nd,r,rfl,Xf.ext J3 (λi hi=>by omega),SB.mod (tE.ext Yd) Xf (λi hi e=>by have:=np i hi;omega),?_,λi hi=>by have:=np i hi;omega⟩;have e:be b=bQ [b] 3 0 0:=by unfold be;rw[if_neg (λfa=>hz (h0.2 fa))]
  rw[e];exact s3
theorem GV (w:World):Fn Tryz.prog 16 [] w (λu w'=>∃A c,u= .slice A 3 c/\Ext w w'/\Sl w' 1 A 3 c (XB (ZJ.take 3))):=by
 refine QF (c:={c16 with cuts:=[]}) Qa Tryz.func16 rfl rfl rfl ?_;refine call (eQ7 3 w (by decide)) ?_;rintro _ w1 ⟨A,c,rfl,Qe,qS⟩;exact⟨A,c,rfl,Qe,qS⟩
structure RawV where
 fam:Nat
 cls:List Nat
 txs:List (Option Addr×Nat×Nat×List Nat)
 CA:Option Addr
 cn:Nat
 cc:Nat
 TA:Option Addr
 tn:Nat
 tc:Nat
def txC (t:Option Addr×Nat×Nat×List Nat):List Value:=[.slice t.1 t.2.1 t.2.2.1]
structure RawIn (w:World) (x:RawV):Prop where
 f8:x.fam<=255
 cl:Sl w 1 x.CA x.cn x.cc (Vb x.cls)
 c8:∀k∈x.cls,k<=255
 tx:SlS txC 1 w x.TA x.tn x.tc x.txs
 ts:∀t∈x.txs,Sl w 1 t.1 t.2.1 t.2.2.1 (Vb t.2.2.2)/\∀k∈t.2.2.2,k<=255
theorem RawIn.ext {w w':World}{x:RawV}(h:RawIn w x)(k:Ext w w'):RawIn w' x:=⟨h.f8,h.cl.ext k,h.c8,h.tx.ext k,λt ht=>⟨(h.ts t ht).1.ext k,(h.ts t ht).2⟩⟩
abbrev jp:List (List Nat):=ZJ.take 3
theorem TH:Ku jp:=(eQ8 3 (by decide)).1
theorem GW:ZF jp=true:=by decide+kernel
theorem TI:∀s∈jp,s.length<=1000:=by decide
end
section
open Go Go.RowKit Go.ChangeShapes
variable {H:Type} {enc:TypeId×Value->H}
theorem TJ {W:World}{cv t e:Nat}{v:Value}{D:DataW H×List MemPlace}(hu:Tryz.prog.underlying t=some (.slice e))(h:DataW.trod enc Tryz.prog W 0 (λ_=>true) true cv t [v]=some D):∃a n c,v= .slice a n c:=by
 rcases Go.Deep.open_slice hu h with⟨XY,_⟩ | ⟨x,l,c,m,n,D,Pl,XY,_⟩
 ·simp at XY;exact⟨_,_,_,XY⟩
 ·simp at XY;exact⟨_,_,_,XY⟩
end
section
structure Ep where
 l:Nat
 f:Nat
 t:Nat
 x:Nat
 s:Nat
def Ep.cells (e:Ep):List Value:=[.int .u8 (e.l:Nat),.int .u8 (e.f:Nat),.int .u8 (e.t:Nat),.int .u8 (e.x:Nat),.int .u8 (e.s:Nat)]
structure ChV where
 fam:Nat
 ls:List Lx
 es:List Ep
 LA:Option Addr
 ln:Nat
 lc:Nat
 EA:Option Addr
 en:Nat
 ec:Nat
def ChV.cells (x:ChV):List Value:=[.int .u8 (x.fam:Nat),.slice x.LA x.ln x.lc,.slice x.EA x.en x.ec]
structure Ep8 (e:Ep):Prop where
 l8:e.l<=255
 f8:e.f<=255
 t8:e.t<=255
 x8:e.x<=255
 s8:e.s<=255
structure ChIn (w:World) (x:ChV):Prop where
 f8:x.fam<=255
 ls:SlS Lx.cells 3 w x.LA x.ln x.lc x.ls
 lo:∀y∈x.ls,LxOk w y
 es:SlS Ep.cells 5 w x.EA x.en x.ec x.es
 e8:∀e∈x.es,Ep8 e
theorem ChIn.ext {w w':World}{x:ChV}(h:ChIn w x)(k:Ext w w'):ChIn w' x:=⟨h.f8,h.ls.ext k,λy hy=>(h.lo y hy).ext k,h.es.ext k,h.e8⟩
theorem jQg (x:Ep):x.cells.length=5:=rfl
theorem jQh (x:List Nat×List Nat):(cL x).length=2:=rfl
def Yv (x:Lx):Lx:=if x.k % 8=7 then{x with k:=0}else x
theorem jQi {w:World}{x:Lx}(h:LxOk w x):LxOk w (Yv x):=by
 unfold Yv;split
 ·exact⟨by simp,h.i8,h.sl,h.w8⟩
 ·exact h
def Y1 (ls:List Lx):List Nat:=Qp ((FZ 3 (ls.map Yv)).map Jz)
theorem GX {α:Type}{f:α->List Value}{sz:Nat}(hf:∀x,(f x).length=sz):∀(l:List α)(j:Nat)(y y':α)(i:Nat)(v:Value),l[j]? =some y->i<sz->(f y).set i v=f y'->(l.flatMap f).set (j*sz+i) v=(l.set j y').flatMap f
 | [],j,y,y',i,v,h,_,_=>by simp at h
 | z::l,0,y,y',i,v,h,hi,e=>by
  simp at h;subst h;simp only[Yl,DU,Nat.zero_mul,Wh];rw[List.set_append_left _ _ (by rw[hf];exact hi),e]
 | z::l,j+1,y,y',i,v,h,hi,e=>by
  simp only[Yl,List.set_cons_succ];rw[uN _ _ (by rw[hf,fC];omega),hf,show(j+1)*sz+i-sz=j*sz+i by rw[fC];omega,GX hf l j y y' i v (by simpa using h) hi e]
def cR (ls:List Lx)(i:Nat):List Lx:=(ls.take i).map Yv++ls.drop i
theorem TK (ls:List Lx)(i:Nat):(cR ls i).length=ls.length:=by simp[cR];omega
theorem GY {ls:List Lx}{i:Nat}(h:i<ls.length):(cR ls i)[i]? =ls[i]? :=by
 unfold cR;rw[WC (by simp;omega)];simp[jQ (Nat.le_of_lt h)]
theorem TL {ls:List Lx}{i:Nat}{y:Lx}(h:ls[i]? =some y):cR ls (i+1)=(cR ls i).set i (Yv y):=by
 have hi:=(ZY.1 h).1;unfold cR;rw[uN _ _ (by simp;omega)];have hd:ls.drop i=y::ls.drop (i+1):=by rw[W9 hi];congr 1;exact Option.some.inj ((Xp hi).symm.trans h)
 rw[hd,show i-((ls.take i).map Yv).length=0 by simp;omega,DU,K9,h];simp
theorem jQj (ls:List Lx):cR ls ls.length=ls.map Yv:=by simp[cR]
theorem TM (x:ChV)(w:World)(h:ChIn w x)(hn:x.ln<=1048576):
  Fn Tryz.prog 12 [.agg x.cells.toArray] w (λu w'=>u= .string (Qd (Y1 x.ls))/\Ext w w'):=by
 have co:=h.ls.2;have hlc:=h.ls.1.cap;have Zz:=h.ls.1.le;simp only[maxLen] at hlc;refine QF (c:={c12 with cuts:=[]}) Qa Tryz.func12 rfl rfl rfl ?_;refine new (λw1 Qe Q4 Qh=>?_);refine Xh Qa [] rfl rfl rfl rfl rfl ⟨⟩ rfl (λcs h=>by cases h) rfl (by decide) (by decide) ?_;intro w2 Qg Zb Qx;refine load (((Qh.ext Qg).cell 1).trans rfl) ?_;refine Z4 (n:=0) Qa rfl rfl rfl rfl rfl (by decide) rfl rfl ⟨_,rfl⟩ rfl rfl (Own.empty Qx (QB _)) (h.ls.ext (Qe.trans Qg)).1 (λu hu=>by
  obtain⟨y,_,hy⟩:=WE.1 hu;exact sc (vs:=y.cells) rfl u hy) (by unfold maxLen;omega) (by show(0+x.ln)*32<=_;omega) (by omega) ?_
 intro TA tc w3 XC C7 _;rw[bF] at C7;have XI:Ext w1 w3:=XC.ext Qg (λi hi=>by obtain⟨a,e,rfl⟩:=hi;cases e;exact QB _);rw[Wh] at*;refine loop Qa [4] (λi:Nat=>[.int .i64 i]) (λi w'=>Ext w1 w'/\i<=x.ln/\Own w' w1.heap.size 83 3 TA x.ln tc ((cR x.ls i).flatMap Lx.cells)) (λi _=>x.ln-i) 0 rfl ⟨XI,Xr _,by simpa [cR] using C7⟩ ?_;rintro i w4 ⟨Qs,hi,Yh⟩;refine Qz (λc1=>?_) (λc1=>?_)
 ·have QZ:i<x.ln:=by omega
  have MO:SlS Lx.cells 3 w4 TA x.ln tc (cR x.ls i):=⟨Yh.sl,by rw[TK];exact co⟩
  obtain⟨a,rfl,_⟩:=Yh.sl.at_ (show 0<x.ln by omega);refine Zv Gw MO rfl QZ (λad y hy hc=>?_);rw[GY (by omega)] at hy;have hk8:=(h.lo y (Xm hy)).k8;refine load (hc 0 _ rfl) ?_;refine normIf (m:=((y.k % 8:Nat):Int)) (by decide) (dD _ 8) ?_;refine X3 (λq1=>?_) (λq1=>?_)
  ·have hf:Yv y={y with k:=0}:=by unfold Yv;rw[Qf (by omega)]
   refine eI (j:=i) QZ ?_;show dx _ ((a.add (i*3)).add 0) _ _;rw[add_add];refine Aq Yh (by omega) (by omega) (λw5 XS bm=>?_);rw[GX Gw (cR x.ls i) i y (Yv y) 0 _ (by rw[GY (by omega)];exact hy) (by decide) (by rw[hf];rfl),<-TL hy] at bm;refine Qi ((i+1:Nat):Int) (by show((i:Nat):Int)+1=_;omega) (by omega) ?_;exact⟨i+1,rfl,⟨XS.ext Qs (λk hk=>(Yh.rows k hk).1),QZ,bm⟩,by show x.ln-(i+1)<x.ln-i;omega⟩
  ·have hf:Yv y=y:=by unfold Yv;rw[if_neg (by omega)]
   refine Qi ((i+1:Nat):Int) (by show((i:Nat):Int)+1=_;omega) (by omega) ?_;have e:cR x.ls (i+1)=cR x.ls i:=by
    rw[TL hy,hf];exact yR (λk=>by
     rw[List.getElem?_set];split
     ·rename_i hk;subst hk;rw[GY (by omega),hy,Qf (by rw[TK];omega)]
     ·rfl)
   exact⟨i+1,rfl,⟨Qs,QZ,by rw[e];exact Yh⟩,by show x.ln-(i+1)<x.ln-i;omega⟩
 have QZ:i=x.ln:=by omega
 subst QZ;have XG:=Qe.trans Qs;refine call (GV w4) ?_;rintro _ w5 ⟨NA,nc,rfl,Qw,hN5⟩;have MO:SlS Lx.cells 3 w5 TA x.ln tc (x.ls.map Yv):=⟨by have:=(Yh.ext Qw).sl;rw[<-co,jQj] at this;rw[<-co];exact this,by rw[JF];exact co⟩
 refine call (iQx 3 (by decide) NA nc TA none x.ln tc 0 0 (x.ls.map Yv) [] w5 hN5 MO (λy hy=>by
  obtain⟨z,hz,rfl⟩:=X7.1 hy;exact(jQi (h.lo z hz)).ext (XG.trans Qw)) (SlS.nil _) (λy hy=>by cases hy)) ?_
 rintro _ w6 ⟨F,rfl,QO,hF6⟩;refine Zv jQh hF6 (j:=0) rfl (by decide) (λad y hy hc=>?_);cases hy;refine load (hc 1 _ rfl) ?_;exact⟨rfl,XG.trans (Qw.trans QO)⟩
end
section
variable {nm:List (List Nat)}
theorem GZ (f:List Nat){x y z:Nat}(h1:x<=y)(h2:y<=z):ZG f x y++ZG f y z=ZG f x z:=by
 unfold ZG;rw[show z-x=(y-x)+(z-y) by omega,List.take_add,lP,show x+(y-x)=y by omega]
def wt (f:List Nat)(e:Ed):Prop:=0<=e.fr/\e.fr<=e.to_/\e.tx=ZG f e.fr.toNat e.to_.toNat
theorem TN {f:List Nat}{S:List Nat}{es:List Ed}(ha:bS S es=true){a c:Nat}(hc:c∈S)(hk:∀e∈es,wt f e/\(a:Int)<=e.fr):∀i,i<=es.length->∃at_,(es.take i).foldl (VL f c) ([],a)=(ZG f a at_,at_)/\a<=at_
 | 0,_=>⟨a,by simp[ZG],QB _⟩
 | i+1,hi=>by
  obtain⟨at_,h1,h2⟩:=TN ha hc hk i (by omega);obtain⟨e,he⟩:∃e,es[i]? =some e:=⟨_,Xp (by omega)⟩
  obtain⟨⟨k1,k2,k3⟩,k4⟩:=hk e (Xm he);rw[K9,he,DW,D9,h1,oU,List.foldl_nil];by_cases ho:e.o (bits c)=true
  ·have Zz:=S5 (f:=f) ha he hc ho k4 (λb hb=>by obtain⟨⟨b1,b2,_⟩,_⟩:=hk b hb;omega);rw[h1] at Zz;simp only at Zz;refine⟨e.to_.toNat,?_,by omega⟩;unfold VL;rw[Qf ho,k3];simp only;rw[GZ f h2 (by omega),GZ f (by omega) (by omega)]
  ·exact⟨at_,by unfold VL;rw[if_neg ho],h2⟩
theorem jQk {f:List Nat}{S:List Nat}{es:List Ed}(ha:bS S es=true){a stop c:Nat}(hc:c∈S)(hs:a<=stop)(hk:∀e∈es,wt f e/\(a:Int)<=e.fr/\e.to_<=stop):WR f stop a es c=ZG f a stop:=by
 obtain⟨at_,h1,h2⟩:=TN ha hc (λe he=>⟨(hk e he).1,(hk e he).2.1⟩) es.length (QB _);rw[lR] at h1;have bA:at_<=stop:=by
  rcases Gt f c es ([],a)with h | ⟨b,hb,_,h⟩
  ·rw[h1] at h;simp only at h;omega
  ·rw[h1] at h;have:=(hk b hb).2.2;have:=(hk b hb).1.1;simp only at h;omega
 unfold WR;rw[h1];exact GZ f h2 bA
theorem jQl {s:List Nat}(h:10∉s):QR (s++ [10])=[s]:=by
 have e:Qp [s]=s++ [10]:=by simp[Qp]
 rw[<-e,Fl (λt ht=>by rw[QN.1 ht];exact h)]
theorem jQm {f:List Nat}(hf:Wt f){es:List Ed}(hk:∀e∈es,wt f e){S:List Nat}{a:Nat}{s:List Nat}(hq:(a,s)∈Z6 0 (QR f)):WU nm f es S a s=none∨WU nm f es S a s=some [s]:=by
 unfold WU;by_cases h1:bR es S a s=[]
 ·rw[Qf h1];exact .inr rfl
 ·rw[if_neg h1];by_cases h2:bS S (bR es S a s)=false
  ·rw[Qf h2];exact .inl rfl
  ·rw[if_neg h2];by_cases h3:S.all (λc=>V6 (WR f (a+s.length+1) a (bR es S a s) c))=false
   ·rw[Qf h3];exact .inl rfl
   ·rw[if_neg h3];refine .inr ?_;have YC:∀e∈bR es S a s,e∈es/\(a:Int)<=e.fr/\e.to_<=a+s.length/\WT S e.o=true:=λe he=>by
     obtain⟨k1,k2⟩:=VU.1 he;rw[Jl] at k2;have:=aQ k2.1;exact⟨k1,this.1,this.2,k2.2⟩
    obtain⟨e,he⟩:=y8 _ h1;have hS:S≠ []:=λhn=>by
     have:=(YC e he).2.2.2;rw[hn] at this;cases this
    have hL:=kC f;obtain⟨_,_,_,_,_,Kl⟩:=GE hL hq;rw[sZ (t:=s++ [10]) hS (λc hc=>?_),jQl Kl];rw[jQk (by simpa using h2) hc (by omega) (λe he=>by
     obtain⟨k1,k2,k3,_⟩:=YC e he;exact⟨hk e k1,k2,by omega⟩)]
    have:=iQB hL hq;rw[V4 hf] at this;exact this
theorem TO {f:List Nat}(hf:Wt f){es:List Ed}(hk:∀e∈es,wt f e)(d:BF)(g:Gs):∀(ls:List (List Nat))(a:Nat),(∀q∈Z6 a ls,q∈Z6 0 (QR f))->ay nm d g f es ls a=none∨ay nm d g f es ls a=some ls
 | [],a,_=>.inr rfl
 | s::ls,a,h=>by
  have h0:=h (a,s) (by simp[Z6]);have ih:=TO hf hk d g ls (a+s.length+1) (λq hq=>h q (by rw[Z6];exact rN _ hq));rw[ay];have key:(if Zn s= .txt then WU nm f es (QL nm.length (ZW d (jk g a))) a s else some [s])=none∨(if Zn s= .txt then WU nm f es (QL nm.length (ZW d (jk g a))) a s else some [s])=some [s]:=by
   split
   ·exact jQm hf hk h0
   ·exact .inr rfl
  rcases key with h1 | h1
  ·rw[h1];exact .inl rfl
  ·rw[h1];rcases ih with h2 | h2
   ·rw[h2];exact .inl rfl
   ·rw[h2];exact .inr rfl
theorem TP {f:List Nat}(d:BF)(g:Gs):∀(ls:List (List Nat))(a:Nat),ay nm d g f [] ls a=some ls
 | [],a=>rfl
 | s::ls,a=>by
  rw[ay];have h1:(if Zn s= .txt then WU nm f [] (QL nm.length (ZW d (jk g a))) a s else some [s])=some [s]:=by
   split
   ·unfold WU;rw[Qf (show bR [] (QL nm.length (ZW d (jk g a))) a s=[] from rfl)]
   ·rfl
  rw[h1,TP d g ls]<;>rfl
theorem jQn {x:DV}{f:List Nat}{es:List EdV}(hn:ZF nm=true)(hx:Ka nm.length x.nd x.r=true){g:Gs}(hr:V5 nm (fF f) [102]= .ok g)(hf:Wt f)(hl:f.length<=1048576)(hk:∀e∈es,wt f e.ed):gV nm x f es= .error 291∨gV nm x f es= .ok f:=by
 unfold gV;rw[if_neg (by rw[hn,hx];simp)];split
 ·unfold wn;rw[hr];simp only;split
  ·exact .inl rfl
  ·rcases TO (nm:=nm) hf (es:=es.map EdV.ed) (λe he=>by obtain⟨y,hy,rfl⟩:=X7.1 he;exact hk y hy) (oD x) g (QR f) 0 (λq hq=>hq)with h | h
   ·rw[h];exact .inl rfl
   ·rw[h];simp only;rw[V4 hf,if_neg (by omega),hr];exact .inr rfl
 ·rw[hr];exact .inl rfl
theorem jQo {x:DV}{f:List Nat}(hn:ZF nm=true)(hx:Ka nm.length x.nd x.r=true){g:Gs}(hr:V5 nm (fF f) [102]= .ok g)(hf:Wt f)(hl:f.length<=1048576):gV nm x f []= .ok f:=by
 unfold gV;rw[if_neg (by rw[hn,hx];simp),Qf (by rfl)];unfold wn;rw[hr];simp only;rw[if_neg (by simp[jm]),show([]:List EdV).map EdV.ed=[] from rfl,TP];simp only;rw[V4 hf,if_neg (by omega),hr]
end
section
theorem jQp {k0:Nat}{x:Lx}{op:List Bool}(h:x.k % 8≠7):V8 k0 true x op=V8 k0 false x op:=by
 unfold V8;simp[h]
theorem TR {k0:Nat}:∀{l:List Lx}{op:List Bool},(∀x∈l,x.k % 8≠7)->YL k0 true l op=YL k0 false l op
 | [],op,_=>rfl
 | x::l,op,h=>by
  rw[YL,YL,jQp (h x (by simp)),TR (λy hy=>h y (by simp[hy]))]
theorem jQq (x:Lx):(Yv x).k % 8≠7:=by
 unfold Yv;split
 ·simp
 ·assumption
theorem jQr (x:Lx):(Yv x).i=x.i:=by
 unfold Yv;split<;>rfl
def tu (ls:List Lx):List Mn:=YL 3 false ((ls.map Yv).take 12) []
theorem jQs (ls:List Lx):FZ 3 (ls.map Yv)=tu ls:=TR (λx hx=>by
 obtain⟨y,_,rfl⟩:=X7.1 (aN hx);exact jQq y)
theorem Be (ls:List Lx):Y1 ls=Qp ((tu ls).map Jz):=by unfold Y1;rw[jQs]
theorem TT {ls:List Lx}(h:∀x∈ls,x.i<=255):∀x∈(ls.map Yv).take 12,x.i<=255:=λx hx=>by
 obtain⟨y,hy,rfl⟩:=X7.1 (aN hx);rw[jQr];exact h y hy
theorem G0 {ls:List Lx}(h:∀x∈ls,x.i<=255):J9 jp false 3 [] (tu ls):=R6 (by decide) false _ [] (TT h) (by simp)
theorem TU {ls:List Lx}(h:∀x∈ls,x.i<=255):ta 34 (tu ls):=Sb (by decide) false _ [] (TT h)
theorem TV (ls:List Lx):(tu ls).length<=15:=by
 have h1:=Sa 3 false ((ls.map Yv).take 12) [] (by simp);have h2:((ls.map Yv).take 12).length<=12:=List.length_take_le _ _;unfold tu;omega
theorem TW {ls:List Lx}(h:∀x∈ls,x.i<=255):(Y1 ls).length<=510:=by
 rw[Be];have h1:=FW (TU h);have h2:=bG 34 (TV ls);omega
theorem TX (ls:List Lx):Wt (Y1 ls):=Fo _
theorem jQt {ls:List Lx}(h:∀x∈ls,x.i<=255):∃g,V5 jp (fF (Y1 ls)) [102]= .ok g:=by
 rw[Be];obtain⟨g,h1,_⟩:=hQe (nm:=jp) (M:=34) (D:=3) GW (by decide) (G0 h) (TU h) (by have:=bG 34 (TV ls);omega) (f:=[102]) (by decide);exact⟨g,h1⟩
def Yb (k:Nat):List Nat:=match k with
 | 0=>[]
 | 1=>[119]
 | 2=>[32]
 | 3=>[118,10,117]
 | _=>[43,32,120]
def bT (ls:List (List Nat))(e:Ep):Nat:=e.l % ls.length
def mS (ls:List (List Nat))(e:Ep):Nat:=((ls[bT ls e]?).getD []).length+1
def bf (ls:List (List Nat))(e:Ep):Nat:=(Qp (ls.take (bT ls e))).length
def Y2 (ls:List (List Nat))(e:Ep):Nat:=e.f % mS ls e
def cS (ls:List (List Nat))(e:Ep):Nat:=Y2 ls e+e.t % (mS ls e-Y2 ls e)
def pY (ls:List (List Nat))(e:Ep):Ed:=⟨((bf ls e+Y2 ls e:Nat):Int),((bf ls e+cS ls e:Nat):Int),Yb (e.x % 5),be e.s⟩
def mT (l:List Ed)(x:Ed):List Ed:=l.takeWhile (λy=>decide (y.fr<=x.fr))++x::l.dropWhile (λy=>decide (y.fr<=x.fr))
def jq (ls:List (List Nat))(es:List Ep):List Ed:=if ls=[] then [] else(es.take 5).foldl (λl e=>mT l (pY ls e)) []
theorem jQu (l:List Ed)(x:Ed):(mT l x).length=l.length+1:=by
 have:=QC List.length (aQ8 (p:=λy:Ed=>decide (y.fr<=x.fr)) (l:=l));rw[Qq] at this;simp only[mT,Qq,Q6];omega
theorem jQv {l:List Ed}{x y:Ed}(h:y∈mT l x):y∈l∨y=x:=by
 rcases XM.1 h with h | h
 ·exact .inl ((uJ _).subset h)
 ·rcases Q1.1 h with h | h
  ·exact .inr h
  ·exact .inl ((List.dropWhile_sublist _).subset h)
theorem TY {ls:List (List Nat)}:∀{es:List Ep}{l:List Ed}{y:Ed},y∈es.foldl (λl e=>mT l (pY ls e)) l->y∈l∨∃e∈es,y=pY ls e
 | [],l,y,h=>.inl h
 | e::es,l,y,h=>by
  rcases TY (es:=es) h with h | ⟨e',h1,h2⟩
  ·rcases jQv h with h | h
   ·exact .inl h
   ·exact .inr ⟨e,by simp,h⟩
  ·exact .inr ⟨e',by simp[h1],h2⟩
theorem jQw {ls:List (List Nat)}{es:List Ep}{y:Ed}(h:y∈jq ls es):ls≠ []/\∃e∈es,y=pY ls e:=by
 unfold jq at h;split at h
 ·cases h
 ·rename_i hn;rcases TY h with h | ⟨e,h1,h2⟩
  ·cases h
  ·exact⟨hn,e,aN h1,h2⟩
theorem jQx (ls:List (List Nat))(es:List Ep):(jq ls es).length<=5:=by
 unfold jq;split
 ·simp
 ·have key:∀(es:List Ep) (l:List Ed),(es.foldl (λl e=>mT l (pY ls e)) l).length=l.length+es.length:=by
   intro es;induction es with
   | nil=>intro l;rfl
   | cons e es ih=>intro l;rw[oU,ih,jQu,Q6];omega
  rw[key];have:=List.length_take_le 5 es;simp only[Jn];omega
theorem TZ {ls:List (List Nat)}(hn:ls≠ [])(e:Ep):∃s,ls[bT ls e]? =some s/\mS ls e=s.length+1/\Y2 ls e<=s.length/\Y2 ls e<=cS ls e/\cS ls e<=s.length:=by
 have W6:0<ls.length:=uP.2 hn;have hk:bT ls e<ls.length:=aP _ W6;obtain⟨s,hs⟩:∃s,ls[bT ls e]? =some s:=⟨_,Xp hk⟩
 have hz:mS ls e=s.length+1:=by unfold mS;rw[hs]<;>rfl
 have hf:Y2 ls e<mS ls e:=aP _ (by omega);have ht:e.t % (mS ls e-Y2 ls e)<mS ls e-Y2 ls e:=aP _ (by omega);exact⟨s,hs,hz,by omega,by unfold cS;omega,by unfold cS;omega⟩
theorem T0 (ls:List (List Nat))(k:Nat):(Qp (ls.take k)).length<=(Qp ls).length:=by
 have e:Qp ls=Qp (ls.take k)++Qp (ls.drop k):=by
  unfold Qp;rw[<-WF,lQ]
 rw[e,Qq];omega
end
section
theorem T3 {P:Program}{md:Region.Mode}{ops:Array Oper}{Q:Exit->Act->World->Prop}{C C':World->Prop}{n:Nat}{L:Array Bool->Act->World->Prop}(hs:∀v,C' v->C v):∀(f:Nat)(listed:Array Bool)(a:Act)(w:World),VV P md ops Q C' n L f listed a w->VV P md ops Q C n L f listed a w
 | 0,_,_,_,h=>h
 | f+1,listed,a,w,h=>⟨h.1,λi hi=>⟨(h.2 i hi).1,wpOp_mono (λa' w' h'=>⟨hs _ h'.1,T3 hs f _ a' w' h'.2⟩) (h.2 i hi).2⟩⟩
def kQ (c:Cx)(all:List Oper):(World->Prop)->PT->Env->World->(Env->World->Prop)->Prop
 | _,.done,S,w,K=>K S w
 | _,.skip,_,_,_=>True
 | C,.quiet k t,S,w,K=>match KM all k with
  | some o=>fQ all o S (λS=>pz c o S C (λS=>kQ c all C t S w K)) (λS=>Xd c S o.dst (.v undef) (λS=>kQ c all C t S w K))
  | none=>False
 | C,.fork k t o,S,w,K=>(match KM all k with
  | some op=>fQ all op S (λS=>dz c op S w (λS w=>∃C':World->Prop,(∀v,C' v->C v)/\C' w/\kQ c all C' t S w K) (λ_ _ _=>False)) (λS=>Xd c S op.dst (.v undef) (λS=>kQ c all C t S w K))
  | none=>False)/\kQ c all C o S w K
section
variable {c:Cx} {S:Env} {a:Act}
theorem wu (hg:c.g.Ok){md:Region.Mode}{ops:List Oper}{Q:Exit->Act->World->Prop}{n:Nat}(hs:Region.noSelect ops.toArray=true)(hk:iY md ops.toArray n){K:Env->World->Prop}:
  ∀(C:World->Prop) (t:PT) (m:Nat) (listed:Array Bool) (S:Env) (a:Act) (w:World),HeadInv md ops.toArray n listed->kQ c ops C t S w K->Fits c.N S a->C w->
  (JW md ops.toArray n t false m listed=true->VV c.g.P md ops.toArray (NoPan Q) C n (λJf a' w'=>Region.seqB md ops.toArray (ops.toArray.size-n) n Jf=true/\∃S',Fits c.N S' a'/\K S' w') m listed a w)/\
  (∀m',m=m'+1->JW md ops.toArray n t true m listed=true->(∀i∈t.alts,i∈Region.ready md ops.toArray listed)->∀i∈t.alts,i<n/\wpOp c.g.P ops.toArray (NoPan Q) i (λa' w'=>C w'/\VV c.g.P md ops.toArray (NoPan Q) C n (λJf a' w'=>Region.seqB md ops.toArray (ops.toArray.size-n) n Jf=true/\∃S',Fits c.N S' a'/\K S' w') m' (listed.setIfInBounds i true) a' w') a w)
 | C,.done,m,listed,S,a,w,inv,h,hf,hC=>by
  refine⟨λhB=>?_,λm' hm hB=>?_⟩
  ·simp only[JW,Bool.not_false,cw,Jl] at hB;have:=Vk hB.1;subst this;exact⟨hB.2,S,hf,h⟩
  ·simp[JW] at hB
 | C,.skip,m,listed,S,a,w,inv,h,hf,hC=>by
  refine⟨λhB=>?_,λm' hm hB _ i hi=>?_⟩
  ·simp[JW] at hB
  ·simp[PT.alts] at hi
 | C,.quiet k t,0,listed,S,a,w,inv,h,hf,hC=>by
  refine⟨λhB=>?_,λm' hm hB=>?_⟩
  ·simp[JW] at hB
  ·simp[JW] at hB
 | C,.quiet k t,m+1,listed,S,a,w,inv,h,hf,hC=>by
  refine⟨λhB=>?_,λm' hm hB=>?_⟩
  ·simp only[JW,Bool.not_false,cw,Jl] at hB;obtain⟨⟨⟨Xj,hr⟩,gn⟩,KK⟩:=hB;have Xj:k<n:=by rw[gC] at Xj;exact Xj
   have Q0:k∈Region.ready md ops.toArray listed:=by simpa using hr
   obtain⟨_,o,ho,_⟩:=mem_ready.1 Q0;have hn:KM ops k=some o:=by rw[fM];simpa using ho
   simp only[kQ,hn] at h;have key:∃v,YieldsIf c.g.P ops.toArray C o v a/\∃S',Fits c.N S' (a.put o.dst v)/\kQ c ops C t S' w K:=by
    rcases iZ h hf with⟨hw,S1,Zf,h1⟩ | ⟨hw,S1,Zf,h1⟩
    ·obtain⟨v,h2,h3⟩:=vh hg h1 Zf;exact⟨v,.inl ⟨hw,h2⟩,h3⟩
    ·exact⟨undef,.inr ⟨hw,rfl⟩,Zu (e:=.v undef) h1 Zf⟩
   obtain⟨v,hy,S',QW,h'⟩:=key;exact Ev ho (Region.noSelect_spec hs) hk Xj (λJf a' w' hL=>seqB_ready hL.1) m listed a w inv (Region.free_spec ho gn) Q0 hy hC
    ((wu hg hs hk C t m _ S' _ w (inv.set Q0 Xj) h' QW hC).1 KK)
  ·simp[JW] at hB
 | C,.fork k t o,0,listed,S,a,w,inv,h,hf,hC=>by
  refine⟨λhB=>?_,λm' hm hB=>?_⟩
  ·simp[JW] at hB
  ·simp[JW] at hB
 | C,.fork k t o,m+1,listed,S,a,w,inv,h,hf,hC=>by
  have key:(Nat.blt k n&&JW md ops.toArray n t false m (listed.setIfInBounds k true))=true->JW md ops.toArray n o true (m+1) listed=true->(∀i∈(PT.fork k t o).alts,i∈Region.ready md ops.toArray listed)->
    ∀i∈(PT.fork k t o).alts,i<n/\wpOp c.g.P ops.toArray (NoPan Q) i (λa' w'=>C w'/\VV c.g.P md ops.toArray (NoPan Q) C n (λJf a' w'=>Region.seqB md ops.toArray (ops.toArray.size-n) n Jf=true/\∃S',Fits c.N S' a'/\K S' w') m (listed.setIfInBounds i true) a' w') a w:=by
   intro hB iN hall i hi;simp only[Jl] at hB;obtain⟨Xj,KK⟩:=hB;have Xj:k<n:=by rw[gC] at Xj;exact Xj
   simp only[PT.alts,Q1] at hi;have Q0:k∈Region.ready md ops.toArray listed:=hall k (by simp[PT.alts]);obtain⟨h1,h2⟩:=h;rcases hi with rfl | hi
   ·refine⟨Xj,?_⟩;obtain⟨_,op,ho,_⟩:=mem_ready.1 Q0;have hn:KM ops i=some op:=by rw[fM];simpa using ho
    simp only[hn] at h1;have d9:=inv.set Q0 Xj;unfold wpOp;simp only[ho];rcases iZ h1 hf with⟨hw,S1,Zf,h3⟩ | ⟨hw,S1,Zf,h3⟩
    ·rw[Qf hw];refine .inl ?_;have h4:=pq hg h3 Zf;have h5:=Oper.wp_mono (K':=λa' w'=>C w'/\VV c.g.P md ops.toArray (NoPan Q) C n (λJf a' w'=>Region.seqB md ops.toArray (ops.toArray.size-n) n Jf=true/\∃S',Fits c.N S' a'/\K S' w') m (listed.setIfInBounds i true) a' w')
      (λa' w' ⟨S',QW,C',jH,Jv,YB⟩=>⟨jH _ Jv,T3 jH _ _ _ _ ((wu hg hs hk C' t m _ S' a' w' d9 YB QW Jv).1 KK)⟩) h4
     unfold Oper.wp at h5 ⊢;generalize (execOp a.eval op).run c.g.P w=r at*;cases r with
     | ok nx w'=>
      cases nx<;>simp only[Oper.upon] at h5 ⊢ <;> try exact h5
      exact h5.mono λe KT he=>by
       cases e with
       | returned v=>exact he
       | panicked ch=>obtain⟨_,_,he⟩:=he;exact he.elim
       | outgrown=>obtain⟨_,_,_,_,he⟩:=he;exact he.elim
     | halt x w'=>cases x<;>simp only[Oper.upon] at h5 ⊢ <;> first | exact h5 | (obtain⟨_,_,h5⟩:=h5;exact h5.elim)
    ·rw[if_neg (by rw[hw];decide)];obtain⟨S',QW,h'⟩:=Zu (e:=.v undef) h3 Zf;exact⟨hC,(wu hg hs hk C t m _ S' _ w d9 h' QW hC).1 KK⟩
   ·exact(wu hg hs hk C o (m+1) listed S a w inv h2 hf hC).2 m rfl iN (λj hj=>hall j (by simp[PT.alts,hj])) i hi
  refine⟨λhB=>?_,λm' hm hB hall=>?_⟩
  ·simp only[JW,Bool.false_or,Jl,Vm] at hB;obtain⟨⟨hr,Qh⟩,Qx⟩:=hB;have Y3:Region.ready md ops.toArray listed=(PT.fork k t o).alts:=hr;refine⟨λh0=>(by rw[hr] at h0;cases h0),λi hi=>?_⟩;exact key (by simpa using Qh) Qx (λj hj=>by rw[Y3];exact hj) i (by rw[Y3] at hi;exact hi)
  ·simp only[JW,Bool.true_or,cw] at hB;rw[Jl] at hB;have ZI:m'=m:=by omega
   subst ZI;exact key hB.1 hB.2 hall
theorem T4 (hg:c.g.Ok){id:Nat}{ops:List Oper}{w:World}{Q:Zg}(C:World->Prop)(n:Nat)(t:PT)
  (hB:(Region.noSelect ops.toArray&&py .any ops.toArray n&&JW .any ops.toArray n t false n (Array.replicate ops.toArray.size false))=true) (hC:C w.drew)
  (h:kQ {c with named:=1000000} ops C t S w.drew (λS w=>Yn c ops (ops.drop n) S w (λS w=>Q .normal S w) (λ_ _ _=>False))):Wm c id ops S w Q:=by
 unfold Wm;intro a hf;simp only[Jl] at hB;obtain⟨⟨hs,aH⟩,JE⟩:=hB;have hk:=vg aH;have De:n<=ops.length:=by
  rcases hk with hk | hk
  ·rw[hk];simp
  ·have:=hk.1;simp at this;omega
 refine Code.wp_mono NoPan.imp (wp_region_any hg.mixed ?_);have kT:HeadInv .any ops.toArray n (Array.replicate ops.toArray.size false):=
  ⟨by simp,λj oj _ hl=>(by rw[getD_replicate_false] at hl;cases hl),λt _ ht=>getD_in (by simpa using ht) (getD_replicate_false _ _)⟩
 have H:=(wu (c:={c with named:=1000000}) hg (Q:=Up c Q) hs hk C t n _ S a _ kT h hf hC).1 JE;have Vy:(ops.drop n).length=ops.toArray.size-n:=by simp
 have H2:=rZ (Q:=NoPan (Up c Q)) (g:=ops.toArray.size-n) (λJf a' w' hL=>by
  obtain⟨hq,S',QW,YB⟩:=hL;have h2:=iT (c:=c) hg ops _ _ _ _ YB QW;have:=wpAny_of_seq (P:=c.g.P) (md:=.any) (ops:=ops.toArray) (Q':=NoPan (Up c Q)) (ops.drop n) n Jf a' w' (λj=>by simp) (by rw[Vy];exact hq) (j5 (λe a w hq=>by
   cases e with
   | normal=>exact hq
   | _=>exact Xn hq (by rintro⟨_,_,h⟩;exact h)) h2)
  rwa [Vy] at this) _ _ _ _ H
 rw[show n+(ops.toArray.size-n)=ops.toArray.size by simp;omega] at H2;exact H2
end
end
section
abbrev WV:List (List Nat):=[Yb 0,Yb 1,Yb 2,Yb 3,Yb 4]
theorem kR {k:Nat}(h:k<5):(XB WV)[k]? =some (.string (Qd (Yb k))):=by
 match k,h with
 | 0,_=>rfl
 | 1,_=>rfl
 | 2,_=>rfl
 | 3,_=>rfl
 | 4,_=>rfl
theorem T5 {α:Type}{p:α->Bool}:∀{l:List α}{y:α},l[(l.takeWhile p).length]? =some y->p y=false
 | [],y,h=>by simp at h
 | a::l,y,h=>by
  rw[WD] at h;cases ha:p a with
  | true=>
   rw[ha,Qf rfl,Q6,List.getElem?_cons_succ] at h;exact T5 h
  | false=>
   rw[ha] at h;simp at h;rw[<-h,ha]
theorem T6 {α:Type}{p:α->Bool}:∀{l:List α}{k:Nat}{y:α},k<(l.takeWhile p).length->l[k]? =some y->p y=true
 | [],k,y,h,_=>by simp at h
 | a::l,k,y,h,hy=>by
  rw[WD] at h;cases ha:p a with
  | true=>
   rw[ha,Qf rfl,Q6] at h;cases k with
   | zero=>simp at hy;rw[<-hy,ha]
   | succ k=>exact T6 (l:=l) (k:=k) (by omega) (by simpa using hy)
  | false=>rw[ha] at h;simp at h
theorem jQy {α:Type}(p:α->Bool)(l:List α):l.take (l.takeWhile p).length=l.takeWhile p/\l.drop (l.takeWhile p).length=l.dropWhile p:=by
 constructor
 ·have:=List.take_left (l₁:=l.takeWhile p) (l₂:=l.dropWhile p)
  rwa [aQ8] at this
 ·have:=o0 (l₁:=l.takeWhile p) (l₂:=l.dropWhile p)
  rwa [aQ8] at this
theorem jQz (x:ChV)(w:World)(h:ChIn w x)(hn:x.ln<=1048576):
  Fn Tryz.prog 13 [.agg x.cells.toArray] w (λu w'=>∃A c L,u= .slice A (List.length L) c/\Ext w w'/\Own w' w.heap.size 58 5 A L.length c (L.flatMap XZ)/\(∀v∈L,DgO w' (Qk A) 3 v.x v.ed.o)/\L.map EdV.ed=jq (QR (Y1 x.ls)) x.es):=by
 have qF:∀y∈x.ls,y.i<=255:=λy hy=>(h.lo y hy).i8
 have xO:∀b∈Y1 x.ls,b<256:=by rw[Be];exact R8 (AJ (G0 qF))
 have hTl:=TW qF;have rH:=TX x.ls;have yI:=h.es.2;refine QF (c:={c13 with cuts:=[17,20]}) Qa Tryz.func13 rfl rfl rfl ?_;refine new (λw1 Qe Q4 Qh=>?_);refine Qt Qh rfl ?_;refine call (TM x w1 (h.ext Qe) hn) ?_;rintro _ w2 ⟨rfl,Qg⟩;have hfn:=hQL (Y1 x.ls) w2 xO (by omega);rw[vU rH,JF] at hfn;refine call hfn ?_;rintro _ w3 ⟨LA,lc,rfl,Qj,C7⟩;have co:(QR (Y1 x.ls)).length<=510:=by have:=sS (QR (Y1 x.ls));rw[V4 rH] at this;omega
 have MQ:Qp (QR (Y1 x.ls))=Y1 x.ls:=V4 rH;have tE:Sl w3 1 LA (QR (Y1 x.ls)).length lc (JL (QR (Y1 x.ls))):=C7.sl;generalize QR (Y1 x.ls)=ls at*;have rC:∀(k:Nat) (z:List Nat),ls[k]? =some z->(Qp (ls.take k)).length+z.length+1<=510:=λk z hz=>by
  have h1:=wq hz;have h2:=T0 ls (k+1);rw[MQ] at h2;omega
 have XI:=Qg.trans Qj;refine Xh Qa [] rfl rfl rfl rfl rfl ⟨⟩ rfl (λcs h=>by cases h) rfl (by decide) (by decide) ?_;intro w4 Qs KO Q7;have JN:=XI.trans Qs;refine loop Qa [6,5] (λt:Nat×List EdV×Option Addr×Nat=>[.int .i64 t.1,.slice t.2.2.1 t.2.1.length t.2.2.2]) (λt w'=>Ext w4 w'/\t.1<=5/\t.1<=x.en/\Own w' w.heap.size 58 5 t.2.2.1 t.2.1.length t.2.2.2 (t.2.1.flatMap XZ)/\(∀v∈t.2.1,DgO w' (Qk t.2.2.1) 3 v.x v.ed.o)/\t.2.1.map EdV.ed=(x.es.take t.1).foldl (λl e=>mT l (pY ls e)) []/\t.2.1.length=t.1/\(t.1≠0->ls≠ [])) (λt _=>5-t.1) (0,[],some ⟨w3.heap.size,0,none⟩,0) rfl ⟨Ext.refl _,Xr _,Xr _,Own.empty Q7 (by have:=Qe.size;have:=XI.size;omega),(λv hv=>by cases hv),rfl,rfl,λhh=>Xn rfl hh⟩ ?_;rintro⟨i,L,A,c⟩ w5 ⟨Qw,hi5,QZ,bm,nT,nv,uA,QU⟩;simp only at hi5 QZ bm nT nv uA QU;have Jm:=JN.trans Qw;have QG:=Qh.ext Jm;have fin:¬(i<x.en/\i<5/\0<ls.length)->L.map EdV.ed=jq ls x.es:=λhh=>by
  unfold jq;by_cases kV:ls=[]
  ·rw[Qf kV,nv];have:i=0:=by
    apply Classical.byContradiction;intro h0;exact QU h0 kV
   subst this;rfl
  ·rw[if_neg kV,nv];have W6:=uP.2 kV;congr 1;by_cases h5:i=5
   ·rw[h5]
   ·rw[Jc (by omega),Jc (by omega)]
 refine load ((QG.cell 2).trans rfl) ?_;refine Qz (λc1=>?_) (λc1=>?_)
 ·refine Qz (λc2=>?_) (λc2=>?_)
  ·refine Qz (λc3=>?_) (λc3=>?_)
   ·have mQr:i<x.en:=by simp only at c1;omega
    have hi:i<5:=by simp only at c2;omega
    have W6:0<ls.length:=by omega
    have Ks:ls≠ []:=uP.1 W6;refine load ((QG.cell 2).trans rfl) ?_;refine Zv jQg (h.es.ext (Qe.trans Jm)) rfl mQr (λad e he hc=>?_);have he8:=h.e8 e (Xm he);obtain⟨q1,q2,q3,q4,q5⟩:=he8;refine Kn (vs:=e.cells) rfl hc ?_;refine new (λw6 QO dX Q9=>?_);refine Qv Q9 rfl (sc rfl) (λw7 ZB _ Q2=>?_);have JI:Ext w5 w7:=X9 QO Q9 ZB;have Vu:=(tE.ext (Qs.trans Qw)).ext JI;refine load ((Q2.cell 0).trans rfl) ?_;refine Qi ((e.l:Nat):Int) rfl (by omega) ?_;refine NG (d:=ls.length) W6 ?_;obtain⟨s,hs,hz,gn,oI,hto⟩:=TZ Ks e;have Jk:bT ls e<ls.length:=aP _ W6;have gw:bT ls e=e.l % ls.length:=rfl;have gu:=rC _ s hs;refine loop Qa [10,9] (λt:Nat×Nat=>[.int .i64 t.1,.int .i64 t.2]) (λt w'=>w7=w'/\t.1<=bT ls e/\t.2=(Qp (ls.take t.1)).length) (λt _=>bT ls e-t.1) (0,0) rfl ⟨rfl,Xr _,rfl⟩ ?_;rintro⟨k,st⟩ _ ⟨rfl,hk,iC⟩;simp only at hk iC;refine Qz (λd1=>?_) (λd1=>?_)
    ·have Xj:k<bT ls e:=by simp only at d1;omega
     obtain⟨z,MR⟩:∃z,ls[k]? =some z:=⟨_,Xp (by omega)⟩
     have rv:=wq MR;have hzm:=rC k z MR;refine KC Vu (j:=k) (by omega) (λad u hA hu Xq=>?_);rw[cO MR] at hu;cases hu;refine load Xq ?_;have K7:(Qd (z++ [10])).size=z.length+1:=by rw[Xe];simp
     refine Qi ((st+(z.length+1):Nat):Int) (by show((st:Nat):Int)+(((Qd (z++ [10])).size:Nat):Int)=_;omega) (by omega) ?_;refine Qi ((k+1:Nat):Int) (by show((k:Nat):Int)+1=_;omega) (by omega) ?_;exact⟨(k+1,st+(z.length+1)),rfl,⟨rfl,Xj,by show st+(z.length+1)=(Qp (ls.take (k+1))).length;omega⟩,by show bT ls e-(k+1)<bT ls e-k;omega⟩
    have jB:k=bT ls e:=by simp only at d1;omega
    subst jB;have Dd:bf ls e=st:=by rw[iC]<;>rfl
    have LE:=Ext.drew w7;have aQ3:∀(k:Nat) (z:List Nat),ls[k]? =some z->∀ad,LA=some ad->w7.cell? (ad.add k)=some (.string (Qd (z++ [10]))):=λk z hz ad hA=>by
     obtain⟨ad',e',Jv⟩:=Vu.at_ W6;cases hA.symm.trans e';exact Jv k _ (cO hz)
    have iH:(Qd (s++ [10])).size=s.length+1:=by rw[Xe];simp
    refine XK Qa (Ext w7) 10 [(true,0),(true,1),(true,2),(true,3),(true,4),(true,5),(true,6),(true,7),(true,8),(true,9)] (by kernel_rfl) LE ?_;refine QK (v:=.int .u8 e.f) (λw' Qb=>((Q2.ext Qb).cell 1).trans rfl) ?_;refine Qi ((e.f:Nat):Int) rfl (by omega) ?_;refine KC (Vu.ext LE) (j:=bT ls e) Jk (λad u hA hu Xq=>?_);rw[cO hs] at hu;cases hu;refine QK (v:=.string (Qd (s++ [10]))) (λw' Qb=>Qb.cell (show w7.cell? _=_ from aQ3 _ _ hs ad hA)) ?_;refine normIf (m:=((Y2 ls e:Nat):Int)) (by rw[iH];omega) (by rw[iH,dD,<-hz];rfl) ?_;have YQ:Ext w7 w7.drew.drew:=LE.trans (Ext.drew _);refine XK Qa (Ext w7) 14 [(true,0),(true,1),(true,2),(true,3),(true,4),(true,5),(true,6),(true,7),(true,8),(true,9),(true,10),(true,11),(true,12),(true,13)] (by kernel_rfl) YQ ?_;refine QK (v:=.int .u8 e.t) (λw' Qb=>((Q2.ext Qb).cell 2).trans rfl) ?_;refine Qi ((e.t:Nat):Int) rfl (by omega) ?_;refine KC (Vu.ext YQ) (j:=bT ls e) Jk (λua u CU hu aQu=>?_);rw[cO hs] at hu;cases hu;refine QK (v:=.string (Qd (s++ [10]))) (λw' Qb=>Qb.cell (show w7.cell? _=_ from aQ3 _ _ hs ua CU)) ?_;refine Qi ((s.length+1-Y2 ls e:Nat):Int) (by rw[iH];omega) (by omega) ?_;refine normIf (m:=((e.t % (s.length+1-Y2 ls e):Nat):Int)) (by omega) (dD _ _) ?_;have mQs:cS ls e=Y2 ls e+e.t % (s.length+1-Y2 ls e):=by unfold cS;rw[hz]
    refine Qi ((cS ls e:Nat):Int) (by rw[mQs];omega) (by omega) ?_;refine Gb [13] (λt:Nat×DV=>[.pointer (some ⟨t.1,0,none⟩)]) (λt w'=>Ext w7 w'/\Blk w' t.1 58 (XZ ⟨(bf ls e+Y2 ls e:Nat),(bf ls e+cS ls e:Nat),Yb (e.x % 5),t.2⟩)/\SB w' t.2.A t.2.n t.2.c t.2.nd/\Set1 3 t.2.nd t.2.r (bQ [e.s] 3 0 0)/\w7.heap.size<=t.1/\∀i,Qk t.2.A i->w7.heap.size<=i) ?_ ?_
    ·have f0:Ext w7 w7.drew.drew.drew:=YQ.trans (Ext.drew _);refine T4 Qa (Ext w7) 19 (.quiet 0 (.quiet 1 (.quiet 2 (.quiet 3 (.quiet 4 (.quiet 5 (.quiet 7 (.quiet 8 (.quiet 9 (.quiet 12 (.quiet 13 (.fork 6 (.quiet 10 (.quiet 11 (.fork 14 (.fork 15 (.quiet 16 (.fork 17 (.fork 18 .done .skip) .skip)) (.fork 17 (.fork 15 (.quiet 16 (.fork 18 .done .skip)) .skip) .skip)) (.fork 17 (.fork 14 (.fork 15 (.quiet 16 (.fork 18 .done .skip)) .skip) .skip) .skip)))) (.fork 14 (.fork 6 (.quiet 10 (.quiet 11 (.fork 15 (.quiet 16 (.fork 17 (.fork 18 .done .skip) .skip)) (.fork 17 (.fork 15 (.quiet 16 (.fork 18 .done .skip)) .skip) .skip)))) (.fork 15 (.fork 6 (.quiet 10 (.quiet 11 (.quiet 16 (.fork 17 (.fork 18 .done .skip) .skip)))) (.fork 17 (.fork 6 (.quiet 10 (.quiet 11 (.quiet 16 (.fork 18 .done .skip)))) .skip) .skip)) (.fork 17 (.fork 6 (.quiet 10 (.quiet 11 (.fork 15 (.quiet 16 (.fork 18 .done .skip)) .skip))) (.fork 15 (.fork 6 (.quiet 10 (.quiet 11 (.quiet 16 (.fork 18 .done .skip)))) .skip) .skip)) .skip))) (.fork 17 (.fork 6 (.quiet 10 (.quiet 11 (.fork 14 (.fork 15 (.quiet 16 (.fork 18 .done .skip)) .skip) .skip))) (.fork 14 (.fork 6 (.quiet 10 (.quiet 11 (.fork 15 (.quiet 16 (.fork 18 .done .skip)) .skip))) (.fork 15 (.fork 6 (.quiet 10 (.quiet 11 (.quiet 16 (.fork 18 .done .skip)))) .skip) .skip)) .skip)) .skip)))))))))))))) (by kernel_rfl) f0 ?_;refine Qi ((bf ls e+Y2 ls e:Nat):Int) (by rw[Dd];show((st:Nat):Int)+((Y2 ls e:Nat):Int)=_;omega) (by omega) ?_;refine Qi ((bf ls e+cS ls e:Nat):Int) (by rw[Dd];show((st:Nat):Int)+((cS ls e:Nat):Int)=_;omega) (by omega) ?_;refine QK (v:=.int .u8 e.x) (λw' Qb=>((Q2.ext Qb).cell 3).trans rfl) ?_;refine normIf (m:=((e.x % 5:Nat):Int)) (by decide) (dD _ 5) ?_;refine QK (v:=.int .u8 e.s) (λw' Qb=>((Q2.ext Qb).cell 4).trans rfl) ?_;generalize w7.drew.drew.drew=v0 at*;refine⟨?_,?_,?_,trivial⟩
     ·refine Xh Qa (WV.map (λt=>[Value.string (Qd t)])) rfl rfl rfl rfl rfl ⟨rfl,rfl,rfl,rfl,rfl,rfl,rfl,rfl,rfl,rfl,⟨⟩⟩ rfl (λcs h=>by obtain⟨t,_,rfl⟩:=X7.1 h;rfl) rfl (by decide) (by decide) ?_;intro v1 g1 oO hN;have f1:=f0.trans g1;generalize oP:v0.heap.size=gN at*;refine⟨λv=>Ext w7 v/\Blk v gN 9 (XB WV),λv hv=>hv.1,⟨f1,hN⟩,?_⟩;refine eI (j:=e.x % 5) (by omega) ?_;refine QK (v:=.string (Qd (Yb (e.x % 5)))) (λw' Qb=>by show w'.cell? ((⟨gN,0,none⟩:Addr).add (e.x % 5*1))=_;rw[YT,Qb.2.cell];exact kR (by omega)) ?_;refine⟨?_,?_,trivial⟩
      ·refine Xh Qa [[Value.int .u8 e.s]] rfl rfl rfl rfl rfl ⟨rfl,rfl,⟨⟩⟩ rfl (λcs h=>by simp only[QN] at h;subst h;rfl) rfl (by decide) (by decide) ?_;intro v2 g2 oA hS;have f2:=f1.trans g2;refine⟨_,λv hv=>hv,⟨f2,hN.ext g2⟩,?_⟩;refine⟨?_,?_,trivial⟩
       ·refine call (f9 [e.s] _ 1 1 3 v2 (Sl.own' (n:=1) (hS.ext (Ext.refl _)) rfl (by decide)) (λy hy=>by rw[QN.1 hy];exact q5) (by decide)) ?_;rintro _ v3 ⟨dA,dn,dc,dnd,dr,rfl,g3,Km,sTd,Kg⟩;have f3:=f2.trans g3;have YS:=SB.lt Km;have sR:=f2.size;refine⟨_,λv hv=>hv,⟨f3,hN.ext (g2.trans g3)⟩,?_⟩;refine⟨?_,trivial⟩
        ·refine new (λv4 g4 oQ hX=>?_);have f4:=f3.trans g4;have sX:=f3.size;generalize oS:v3.heap.size=gX at*;refine⟨_,λv hv=>hv,⟨f4,hN.ext ((g2.trans g3).trans g4)⟩,?_⟩;refine⟨?_,trivial⟩;have s1:=g1.size;have s2:=g2.size;have s3:=g3.size;have s4:=g4.size;refine Qv (hX.ext (Ext.refl _)) rfl (sc rfl) (λvz YD _ YE=>?_);have ZM:Mod (·=gX) v4 vz:=nQQ YD rfl;have fz:Ext w7 vz:=ZM.ext f4 (λi hi=>by omega);refine⟨_,λv hv=>hv,⟨fz,(hN.ext ((g2.trans g3).trans g4)).mod ZM (by omega)⟩,?_⟩;exact⟨(gX,⟨dA,dn,dc,dnd,dr⟩),rfl,fz,YE,SB.modo (Km.ext g4) ZM (λad ea h0 hh=>by have:=Kg ad.block ⟨ad,ea,rfl⟩;have:=YS ad ea h0;omega),sTd,by omega,λi hi=>by have:=Kg i hi;omega⟩
       ·refine new (λv3 g3 oQ hX=>?_);have f3:=f2.trans g3;have sX:=f2.size;generalize oS:v2.heap.size=gX at*;refine⟨_,λv hv=>hv,⟨f3,hN.ext (g2.trans g3)⟩,?_⟩;refine⟨?_,trivial⟩
        ·refine call (f9 [e.s] _ 1 1 3 v3 (Sl.own' (n:=1) (hS.ext g3) rfl (by decide)) (λy hy=>by rw[QN.1 hy];exact q5) (by decide)) ?_;rintro _ v4 ⟨dA,dn,dc,dnd,dr,rfl,g4,Km,sTd,Kg⟩;have f4:=f3.trans g4;have YS:=SB.lt Km;have sR:=f3.size;refine⟨_,λv hv=>hv,⟨f4,hN.ext ((g2.trans g3).trans g4)⟩,?_⟩;refine⟨?_,trivial⟩;have s1:=g1.size;have s2:=g2.size;have s3:=g3.size;have s4:=g4.size;refine Qv (hX.ext g4) rfl (sc rfl) (λvz YD _ YE=>?_);have ZM:Mod (·=gX) v4 vz:=nQQ YD rfl;have fz:Ext w7 vz:=ZM.ext f4 (λi hi=>by omega);refine⟨_,λv hv=>hv,⟨fz,(hN.ext ((g2.trans g3).trans g4)).mod ZM (by omega)⟩,?_⟩;exact⟨(gX,⟨dA,dn,dc,dnd,dr⟩),rfl,fz,YE,SB.modo (Km.ext (Ext.refl _)) ZM (λad ea h0 hh=>by have:=Kg ad.block ⟨ad,ea,rfl⟩;have:=YS ad ea h0;omega),sTd,by omega,λi hi=>by have:=Kg i hi;omega⟩
      ·refine new (λv2 g2 oQ hX=>?_);have f2:=f1.trans g2;have sX:=f1.size;generalize oS:v1.heap.size=gX at*;refine⟨_,λv hv=>hv,⟨f2,hN.ext g2⟩,?_⟩;refine⟨?_,trivial⟩
       ·refine Xh Qa [[Value.int .u8 e.s]] rfl rfl rfl rfl rfl ⟨rfl,rfl,⟨⟩⟩ rfl (λcs h=>by simp only[QN] at h;subst h;rfl) rfl (by decide) (by decide) ?_;intro v3 g3 oA hS;have f3:=f2.trans g3;refine⟨_,λv hv=>hv,⟨f3,hN.ext (g2.trans g3)⟩,?_⟩;refine⟨?_,trivial⟩
        ·refine call (f9 [e.s] _ 1 1 3 v3 (Sl.own' (n:=1) (hS.ext (Ext.refl _)) rfl (by decide)) (λy hy=>by rw[QN.1 hy];exact q5) (by decide)) ?_;rintro _ v4 ⟨dA,dn,dc,dnd,dr,rfl,g4,Km,sTd,Kg⟩;have f4:=f3.trans g4;have YS:=SB.lt Km;have sR:=f3.size;refine⟨_,λv hv=>hv,⟨f4,hN.ext ((g2.trans g3).trans g4)⟩,?_⟩;refine⟨?_,trivial⟩;have s1:=g1.size;have s2:=g2.size;have s3:=g3.size;have s4:=g4.size;refine Qv (hX.ext (g3.trans g4)) rfl (sc rfl) (λvz YD _ YE=>?_);have ZM:Mod (·=gX) v4 vz:=nQQ YD rfl;have fz:Ext w7 vz:=ZM.ext f4 (λi hi=>by omega);refine⟨_,λv hv=>hv,⟨fz,(hN.ext ((g2.trans g3).trans g4)).mod ZM (by omega)⟩,?_⟩;exact⟨(gX,⟨dA,dn,dc,dnd,dr⟩),rfl,fz,YE,SB.modo (Km.ext (Ext.refl _)) ZM (λad ea h0 hh=>by have:=Kg ad.block ⟨ad,ea,rfl⟩;have:=YS ad ea h0;omega),sTd,by omega,λi hi=>by have:=Kg i hi;omega⟩
     ·refine Xh Qa [[Value.int .u8 e.s]] rfl rfl rfl rfl rfl ⟨rfl,rfl,⟨⟩⟩ rfl (λcs h=>by simp only[QN] at h;subst h;rfl) rfl (by decide) (by decide) ?_;intro v1 g1 oA hS;have f1:=f0.trans g1;refine⟨_,λv hv=>hv,f1,?_⟩;refine⟨?_,?_,?_,trivial⟩
      ·refine Xh Qa (WV.map (λt=>[Value.string (Qd t)])) rfl rfl rfl rfl rfl ⟨rfl,rfl,rfl,rfl,rfl,rfl,rfl,rfl,rfl,rfl,⟨⟩⟩ rfl (λcs h=>by obtain⟨t,_,rfl⟩:=X7.1 h;rfl) rfl (by decide) (by decide) ?_;intro v2 g2 oO hN;have f2:=f1.trans g2;generalize oP:v1.heap.size=gN at*;refine⟨λv=>Ext w7 v/\Blk v gN 9 (XB WV),λv hv=>hv.1,⟨f2,hN⟩,?_⟩;refine eI (j:=e.x % 5) (by omega) ?_;refine QK (v:=.string (Qd (Yb (e.x % 5)))) (λw' Qb=>by show w'.cell? ((⟨gN,0,none⟩:Addr).add (e.x % 5*1))=_;rw[YT,Qb.2.cell];exact kR (by omega)) ?_;refine⟨?_,?_,trivial⟩
       ·refine call (f9 [e.s] _ 1 1 3 v2 (Sl.own' (n:=1) (hS.ext g2) rfl (by decide)) (λy hy=>by rw[QN.1 hy];exact q5) (by decide)) ?_;rintro _ v3 ⟨dA,dn,dc,dnd,dr,rfl,g3,Km,sTd,Kg⟩;have f3:=f2.trans g3;have YS:=SB.lt Km;have sR:=f2.size;refine⟨_,λv hv=>hv,⟨f3,hN.ext g3⟩,?_⟩;refine⟨?_,trivial⟩
        ·refine new (λv4 g4 oQ hX=>?_);have f4:=f3.trans g4;have sX:=f3.size;generalize oS:v3.heap.size=gX at*;refine⟨_,λv hv=>hv,⟨f4,hN.ext (g3.trans g4)⟩,?_⟩;refine⟨?_,trivial⟩;have s1:=g1.size;have s2:=g2.size;have s3:=g3.size;have s4:=g4.size;refine Qv (hX.ext (Ext.refl _)) rfl (sc rfl) (λvz YD _ YE=>?_);have ZM:Mod (·=gX) v4 vz:=nQQ YD rfl;have fz:Ext w7 vz:=ZM.ext f4 (λi hi=>by omega);refine⟨_,λv hv=>hv,⟨fz,(hN.ext (g3.trans g4)).mod ZM (by omega)⟩,?_⟩;exact⟨(gX,⟨dA,dn,dc,dnd,dr⟩),rfl,fz,YE,SB.modo (Km.ext g4) ZM (λad ea h0 hh=>by have:=Kg ad.block ⟨ad,ea,rfl⟩;have:=YS ad ea h0;omega),sTd,by omega,λi hi=>by have:=Kg i hi;omega⟩
       ·refine new (λv3 g3 oQ hX=>?_);have f3:=f2.trans g3;have sX:=f2.size;generalize oS:v2.heap.size=gX at*;refine⟨_,λv hv=>hv,⟨f3,hN.ext g3⟩,?_⟩;refine⟨?_,trivial⟩
        ·refine call (f9 [e.s] _ 1 1 3 v3 (Sl.own' (n:=1) (hS.ext (g2.trans g3)) rfl (by decide)) (λy hy=>by rw[QN.1 hy];exact q5) (by decide)) ?_;rintro _ v4 ⟨dA,dn,dc,dnd,dr,rfl,g4,Km,sTd,Kg⟩;have f4:=f3.trans g4;have YS:=SB.lt Km;have sR:=f3.size;refine⟨_,λv hv=>hv,⟨f4,hN.ext (g3.trans g4)⟩,?_⟩;refine⟨?_,trivial⟩;have s1:=g1.size;have s2:=g2.size;have s3:=g3.size;have s4:=g4.size;refine Qv (hX.ext g4) rfl (sc rfl) (λvz YD _ YE=>?_);have ZM:Mod (·=gX) v4 vz:=nQQ YD rfl;have fz:Ext w7 vz:=ZM.ext f4 (λi hi=>by omega);refine⟨_,λv hv=>hv,⟨fz,(hN.ext (g3.trans g4)).mod ZM (by omega)⟩,?_⟩;exact⟨(gX,⟨dA,dn,dc,dnd,dr⟩),rfl,fz,YE,SB.modo (Km.ext (Ext.refl _)) ZM (λad ea h0 hh=>by have:=Kg ad.block ⟨ad,ea,rfl⟩;have:=YS ad ea h0;omega),sTd,by omega,λi hi=>by have:=Kg i hi;omega⟩
      ·refine call (f9 [e.s] _ 1 1 3 v1 (Sl.own' (n:=1) (hS.ext (Ext.refl _)) rfl (by decide)) (λy hy=>by rw[QN.1 hy];exact q5) (by decide)) ?_;rintro _ v2 ⟨dA,dn,dc,dnd,dr,rfl,g2,Km,sTd,Kg⟩;have f2:=f1.trans g2;have YS:=SB.lt Km;have sR:=f1.size;refine⟨_,λv hv=>hv,f2,?_⟩;refine⟨?_,?_,trivial⟩
       ·refine Xh Qa (WV.map (λt=>[Value.string (Qd t)])) rfl rfl rfl rfl rfl ⟨rfl,rfl,rfl,rfl,rfl,rfl,rfl,rfl,rfl,rfl,⟨⟩⟩ rfl (λcs h=>by obtain⟨t,_,rfl⟩:=X7.1 h;rfl) rfl (by decide) (by decide) ?_;intro v3 g3 oO hN;have f3:=f2.trans g3;generalize oP:v2.heap.size=gN at*;refine⟨λv=>Ext w7 v/\Blk v gN 9 (XB WV),λv hv=>hv.1,⟨f3,hN⟩,?_⟩;refine eI (j:=e.x % 5) (by omega) ?_;refine QK (v:=.string (Qd (Yb (e.x % 5)))) (λw' Qb=>by show w'.cell? ((⟨gN,0,none⟩:Addr).add (e.x % 5*1))=_;rw[YT,Qb.2.cell];exact kR (by omega)) ?_;refine⟨?_,trivial⟩
        ·refine new (λv4 g4 oQ hX=>?_);have f4:=f3.trans g4;have sX:=f3.size;generalize oS:v3.heap.size=gX at*;refine⟨_,λv hv=>hv,⟨f4,hN.ext g4⟩,?_⟩;refine⟨?_,trivial⟩;have s1:=g1.size;have s2:=g2.size;have s3:=g3.size;have s4:=g4.size;refine Qv (hX.ext (Ext.refl _)) rfl (sc rfl) (λvz YD _ YE=>?_);have ZM:Mod (·=gX) v4 vz:=nQQ YD rfl;have fz:Ext w7 vz:=ZM.ext f4 (λi hi=>by omega);refine⟨_,λv hv=>hv,⟨fz,(hN.ext g4).mod ZM (by omega)⟩,?_⟩;exact⟨(gX,⟨dA,dn,dc,dnd,dr⟩),rfl,fz,YE,SB.modo (Km.ext (g3.trans g4)) ZM (λad ea h0 hh=>by have:=Kg ad.block ⟨ad,ea,rfl⟩;have:=YS ad ea h0;omega),sTd,by omega,λi hi=>by have:=Kg i hi;omega⟩
       ·refine new (λv3 g3 oQ hX=>?_);have f3:=f2.trans g3;have sX:=f2.size;generalize oS:v2.heap.size=gX at*;refine⟨_,λv hv=>hv,f3,?_⟩;refine⟨?_,trivial⟩
        ·refine Xh Qa (WV.map (λt=>[Value.string (Qd t)])) rfl rfl rfl rfl rfl ⟨rfl,rfl,rfl,rfl,rfl,rfl,rfl,rfl,rfl,rfl,⟨⟩⟩ rfl (λcs h=>by obtain⟨t,_,rfl⟩:=X7.1 h;rfl) rfl (by decide) (by decide) ?_;intro v4 g4 oO hN;have f4:=f3.trans g4;generalize oP:v3.heap.size=gN at*;refine⟨λv=>Ext w7 v/\Blk v gN 9 (XB WV),λv hv=>hv.1,⟨f4,hN⟩,?_⟩;refine eI (j:=e.x % 5) (by omega) ?_;refine QK (v:=.string (Qd (Yb (e.x % 5)))) (λw' Qb=>by show w'.cell? ((⟨gN,0,none⟩:Addr).add (e.x % 5*1))=_;rw[YT,Qb.2.cell];exact kR (by omega)) ?_;refine⟨?_,trivial⟩;have s1:=g1.size;have s2:=g2.size;have s3:=g3.size;have s4:=g4.size;refine Qv (hX.ext g4) rfl (sc rfl) (λvz YD _ YE=>?_);have ZM:Mod (·=gX) v4 vz:=nQQ YD rfl;have fz:Ext w7 vz:=ZM.ext f4 (λi hi=>by omega);refine⟨_,λv hv=>hv,⟨fz,(hN.ext (Ext.refl _)).mod ZM (by omega)⟩,?_⟩;exact⟨(gX,⟨dA,dn,dc,dnd,dr⟩),rfl,fz,YE,SB.modo (Km.ext (g3.trans g4)) ZM (λad ea h0 hh=>by have:=Kg ad.block ⟨ad,ea,rfl⟩;have:=YS ad ea h0;omega),sTd,by omega,λi hi=>by have:=Kg i hi;omega⟩
      ·refine new (λv2 g2 oQ hX=>?_);have f2:=f1.trans g2;have sX:=f1.size;generalize oS:v1.heap.size=gX at*;refine⟨_,λv hv=>hv,f2,?_⟩;refine⟨?_,?_,trivial⟩
       ·refine Xh Qa (WV.map (λt=>[Value.string (Qd t)])) rfl rfl rfl rfl rfl ⟨rfl,rfl,rfl,rfl,rfl,rfl,rfl,rfl,rfl,rfl,⟨⟩⟩ rfl (λcs h=>by obtain⟨t,_,rfl⟩:=X7.1 h;rfl) rfl (by decide) (by decide) ?_;intro v3 g3 oO hN;have f3:=f2.trans g3;generalize oP:v2.heap.size=gN at*;refine⟨λv=>Ext w7 v/\Blk v gN 9 (XB WV),λv hv=>hv.1,⟨f3,hN⟩,?_⟩;refine eI (j:=e.x % 5) (by omega) ?_;refine QK (v:=.string (Qd (Yb (e.x % 5)))) (λw' Qb=>by show w'.cell? ((⟨gN,0,none⟩:Addr).add (e.x % 5*1))=_;rw[YT,Qb.2.cell];exact kR (by omega)) ?_;refine⟨?_,trivial⟩
        ·refine call (f9 [e.s] _ 1 1 3 v3 (Sl.own' (n:=1) (hS.ext (g2.trans g3)) rfl (by decide)) (λy hy=>by rw[QN.1 hy];exact q5) (by decide)) ?_;rintro _ v4 ⟨dA,dn,dc,dnd,dr,rfl,g4,Km,sTd,Kg⟩;have f4:=f3.trans g4;have YS:=SB.lt Km;have sR:=f3.size;refine⟨_,λv hv=>hv,⟨f4,hN.ext g4⟩,?_⟩;refine⟨?_,trivial⟩;have s1:=g1.size;have s2:=g2.size;have s3:=g3.size;have s4:=g4.size;refine Qv (hX.ext (g3.trans g4)) rfl (sc rfl) (λvz YD _ YE=>?_);have ZM:Mod (·=gX) v4 vz:=nQQ YD rfl;have fz:Ext w7 vz:=ZM.ext f4 (λi hi=>by omega);refine⟨_,λv hv=>hv,⟨fz,(hN.ext g4).mod ZM (by omega)⟩,?_⟩;exact⟨(gX,⟨dA,dn,dc,dnd,dr⟩),rfl,fz,YE,SB.modo (Km.ext (Ext.refl _)) ZM (λad ea h0 hh=>by have:=Kg ad.block ⟨ad,ea,rfl⟩;have:=YS ad ea h0;omega),sTd,by omega,λi hi=>by have:=Kg i hi;omega⟩
       ·refine call (f9 [e.s] _ 1 1 3 v2 (Sl.own' (n:=1) (hS.ext g2) rfl (by decide)) (λy hy=>by rw[QN.1 hy];exact q5) (by decide)) ?_;rintro _ v3 ⟨dA,dn,dc,dnd,dr,rfl,g3,Km,sTd,Kg⟩;have f3:=f2.trans g3;have YS:=SB.lt Km;have sR:=f2.size;refine⟨_,λv hv=>hv,f3,?_⟩;refine⟨?_,trivial⟩
        ·refine Xh Qa (WV.map (λt=>[Value.string (Qd t)])) rfl rfl rfl rfl rfl ⟨rfl,rfl,rfl,rfl,rfl,rfl,rfl,rfl,rfl,rfl,⟨⟩⟩ rfl (λcs h=>by obtain⟨t,_,rfl⟩:=X7.1 h;rfl) rfl (by decide) (by decide) ?_;intro v4 g4 oO hN;have f4:=f3.trans g4;generalize oP:v3.heap.size=gN at*;refine⟨λv=>Ext w7 v/\Blk v gN 9 (XB WV),λv hv=>hv.1,⟨f4,hN⟩,?_⟩;refine eI (j:=e.x % 5) (by omega) ?_;refine QK (v:=.string (Qd (Yb (e.x % 5)))) (λw' Qb=>by show w'.cell? ((⟨gN,0,none⟩:Addr).add (e.x % 5*1))=_;rw[YT,Qb.2.cell];exact kR (by omega)) ?_;refine⟨?_,trivial⟩;have s1:=g1.size;have s2:=g2.size;have s3:=g3.size;have s4:=g4.size;refine Qv (hX.ext (g3.trans g4)) rfl (sc rfl) (λvz YD _ YE=>?_);have ZM:Mod (·=gX) v4 vz:=nQQ YD rfl;have fz:Ext w7 vz:=ZM.ext f4 (λi hi=>by omega);refine⟨_,λv hv=>hv,⟨fz,(hN.ext (Ext.refl _)).mod ZM (by omega)⟩,?_⟩;exact⟨(gX,⟨dA,dn,dc,dnd,dr⟩),rfl,fz,YE,SB.modo (Km.ext g4) ZM (λad ea h0 hh=>by have:=Kg ad.block ⟨ad,ea,rfl⟩;have:=YS ad ea h0;omega),sTd,by omega,λi hi=>by have:=Kg i hi;omega⟩
     ·refine new (λv1 g1 oQ hX=>?_);have f1:=f0.trans g1;have sX:=f0.size;generalize oS:v0.heap.size=gX at*;refine⟨_,λv hv=>hv,f1,?_⟩;refine⟨?_,?_,trivial⟩
      ·refine Xh Qa (WV.map (λt=>[Value.string (Qd t)])) rfl rfl rfl rfl rfl ⟨rfl,rfl,rfl,rfl,rfl,rfl,rfl,rfl,rfl,rfl,⟨⟩⟩ rfl (λcs h=>by obtain⟨t,_,rfl⟩:=X7.1 h;rfl) rfl (by decide) (by decide) ?_;intro v2 g2 oO hN;have f2:=f1.trans g2;generalize oP:v1.heap.size=gN at*;refine⟨λv=>Ext w7 v/\Blk v gN 9 (XB WV),λv hv=>hv.1,⟨f2,hN⟩,?_⟩;refine eI (j:=e.x % 5) (by omega) ?_;refine QK (v:=.string (Qd (Yb (e.x % 5)))) (λw' Qb=>by show w'.cell? ((⟨gN,0,none⟩:Addr).add (e.x % 5*1))=_;rw[YT,Qb.2.cell];exact kR (by omega)) ?_;refine⟨?_,trivial⟩
       ·refine Xh Qa [[Value.int .u8 e.s]] rfl rfl rfl rfl rfl ⟨rfl,rfl,⟨⟩⟩ rfl (λcs h=>by simp only[QN] at h;subst h;rfl) rfl (by decide) (by decide) ?_;intro v3 g3 oA hS;have f3:=f2.trans g3;refine⟨_,λv hv=>hv,⟨f3,hN.ext g3⟩,?_⟩;refine⟨?_,trivial⟩
        ·refine call (f9 [e.s] _ 1 1 3 v3 (Sl.own' (n:=1) (hS.ext (Ext.refl _)) rfl (by decide)) (λy hy=>by rw[QN.1 hy];exact q5) (by decide)) ?_;rintro _ v4 ⟨dA,dn,dc,dnd,dr,rfl,g4,Km,sTd,Kg⟩;have f4:=f3.trans g4;have YS:=SB.lt Km;have sR:=f3.size;refine⟨_,λv hv=>hv,⟨f4,hN.ext (g3.trans g4)⟩,?_⟩;refine⟨?_,trivial⟩;have s1:=g1.size;have s2:=g2.size;have s3:=g3.size;have s4:=g4.size;refine Qv (hX.ext ((g2.trans g3).trans g4)) rfl (sc rfl) (λvz YD _ YE=>?_);have ZM:Mod (·=gX) v4 vz:=nQQ YD rfl;have fz:Ext w7 vz:=ZM.ext f4 (λi hi=>by omega);refine⟨_,λv hv=>hv,⟨fz,(hN.ext (g3.trans g4)).mod ZM (by omega)⟩,?_⟩;exact⟨(gX,⟨dA,dn,dc,dnd,dr⟩),rfl,fz,YE,SB.modo (Km.ext (Ext.refl _)) ZM (λad ea h0 hh=>by have:=Kg ad.block ⟨ad,ea,rfl⟩;have:=YS ad ea h0;omega),sTd,by omega,λi hi=>by have:=Kg i hi;omega⟩
      ·refine Xh Qa [[Value.int .u8 e.s]] rfl rfl rfl rfl rfl ⟨rfl,rfl,⟨⟩⟩ rfl (λcs h=>by simp only[QN] at h;subst h;rfl) rfl (by decide) (by decide) ?_;intro v2 g2 oA hS;have f2:=f1.trans g2;refine⟨_,λv hv=>hv,f2,?_⟩;refine⟨?_,?_,trivial⟩
       ·refine Xh Qa (WV.map (λt=>[Value.string (Qd t)])) rfl rfl rfl rfl rfl ⟨rfl,rfl,rfl,rfl,rfl,rfl,rfl,rfl,rfl,rfl,⟨⟩⟩ rfl (λcs h=>by obtain⟨t,_,rfl⟩:=X7.1 h;rfl) rfl (by decide) (by decide) ?_;intro v3 g3 oO hN;have f3:=f2.trans g3;generalize oP:v2.heap.size=gN at*;refine⟨λv=>Ext w7 v/\Blk v gN 9 (XB WV),λv hv=>hv.1,⟨f3,hN⟩,?_⟩;refine eI (j:=e.x % 5) (by omega) ?_;refine QK (v:=.string (Qd (Yb (e.x % 5)))) (λw' Qb=>by show w'.cell? ((⟨gN,0,none⟩:Addr).add (e.x % 5*1))=_;rw[YT,Qb.2.cell];exact kR (by omega)) ?_;refine⟨?_,trivial⟩
        ·refine call (f9 [e.s] _ 1 1 3 v3 (Sl.own' (n:=1) (hS.ext g3) rfl (by decide)) (λy hy=>by rw[QN.1 hy];exact q5) (by decide)) ?_;rintro _ v4 ⟨dA,dn,dc,dnd,dr,rfl,g4,Km,sTd,Kg⟩;have f4:=f3.trans g4;have YS:=SB.lt Km;have sR:=f3.size;refine⟨_,λv hv=>hv,⟨f4,hN.ext g4⟩,?_⟩;refine⟨?_,trivial⟩;have s1:=g1.size;have s2:=g2.size;have s3:=g3.size;have s4:=g4.size;refine Qv (hX.ext ((g2.trans g3).trans g4)) rfl (sc rfl) (λvz YD _ YE=>?_);have ZM:Mod (·=gX) v4 vz:=nQQ YD rfl;have fz:Ext w7 vz:=ZM.ext f4 (λi hi=>by omega);refine⟨_,λv hv=>hv,⟨fz,(hN.ext g4).mod ZM (by omega)⟩,?_⟩;exact⟨(gX,⟨dA,dn,dc,dnd,dr⟩),rfl,fz,YE,SB.modo (Km.ext (Ext.refl _)) ZM (λad ea h0 hh=>by have:=Kg ad.block ⟨ad,ea,rfl⟩;have:=YS ad ea h0;omega),sTd,by omega,λi hi=>by have:=Kg i hi;omega⟩
       ·refine call (f9 [e.s] _ 1 1 3 v2 (Sl.own' (n:=1) (hS.ext (Ext.refl _)) rfl (by decide)) (λy hy=>by rw[QN.1 hy];exact q5) (by decide)) ?_;rintro _ v3 ⟨dA,dn,dc,dnd,dr,rfl,g3,Km,sTd,Kg⟩;have f3:=f2.trans g3;have YS:=SB.lt Km;have sR:=f2.size;refine⟨_,λv hv=>hv,f3,?_⟩;refine⟨?_,trivial⟩
        ·refine Xh Qa (WV.map (λt=>[Value.string (Qd t)])) rfl rfl rfl rfl rfl ⟨rfl,rfl,rfl,rfl,rfl,rfl,rfl,rfl,rfl,rfl,⟨⟩⟩ rfl (λcs h=>by obtain⟨t,_,rfl⟩:=X7.1 h;rfl) rfl (by decide) (by decide) ?_;intro v4 g4 oO hN;have f4:=f3.trans g4;generalize oP:v3.heap.size=gN at*;refine⟨λv=>Ext w7 v/\Blk v gN 9 (XB WV),λv hv=>hv.1,⟨f4,hN⟩,?_⟩;refine eI (j:=e.x % 5) (by omega) ?_;refine QK (v:=.string (Qd (Yb (e.x % 5)))) (λw' Qb=>by show w'.cell? ((⟨gN,0,none⟩:Addr).add (e.x % 5*1))=_;rw[YT,Qb.2.cell];exact kR (by omega)) ?_;refine⟨?_,trivial⟩;have s1:=g1.size;have s2:=g2.size;have s3:=g3.size;have s4:=g4.size;refine Qv (hX.ext ((g2.trans g3).trans g4)) rfl (sc rfl) (λvz YD _ YE=>?_);have ZM:Mod (·=gX) v4 vz:=nQQ YD rfl;have fz:Ext w7 vz:=ZM.ext f4 (λi hi=>by omega);refine⟨_,λv hv=>hv,⟨fz,(hN.ext (Ext.refl _)).mod ZM (by omega)⟩,?_⟩;exact⟨(gX,⟨dA,dn,dc,dnd,dr⟩),rfl,fz,YE,SB.modo (Km.ext g4) ZM (λad ea h0 hh=>by have:=Kg ad.block ⟨ad,ea,rfl⟩;have:=YS ad ea h0;omega),sTd,by omega,λi hi=>by have:=Kg i hi;omega⟩
    rintro⟨pe,D⟩ w8 ⟨JO,Xw,hSD,sD,hpe,hRD⟩;have h00:=sD.root0.trans (TF q5);refine fO [] Qa [] (λ_:DV=>[]) (λD' w'=>Ext w7 w'/\Blk w' pe 58 (XZ ⟨(bf ls e+Y2 ls e:Nat),(bf ls e+cS ls e:Nat),Yb (e.x % 5),D'⟩)/\SB w' D'.A D'.n D'.c D'.nd/\Set1 3 D'.nd D'.r (be e.s)/\∀i,Qk D'.A i->w7.heap.size<=i) ?_ ?_
    ·refine load ((Xw.cell 4).trans rfl) ?_;refine X3 (λfd=>?_) (λfd=>?_)
     ·refine call (vZ true w8) ?_;rintro _ w9 ⟨rfl,Xt⟩;refine i6 (j:=3) (Xw.ext Xt) (by show 3+2<=5;decide) (sc rfl) (λQy ir _ JM=>?_);have Zo:Mod (·=pe) w9 Qy:=nQQ ir rfl;have ee:be e.s=λ_=>true:=by unfold be;rw[Qf (h00.1 fd)]
      refine⟨⟨none,0,0,[],1⟩,rfl,Zo.ext (JO.trans Xt) (λi hi=>by omega),JM,SlS.nil _,?_,λi hi=>by obtain⟨_,e,_⟩:=hi;cases e⟩;rw[ee];exact aW 3 true
     ·refine⟨D,rfl,JO,Xw,hSD,?_,hRD⟩;have ee:be e.s=bQ [e.s] 3 0 0:=by unfold be;rw[if_neg (λfa=>fd (h00.2 fa))]
      rw[ee];exact sD
    rintro D2 w9 ⟨VO,JD,aQG,LF,nQn⟩;have qU:=JI.trans VO;have hO9:=bm.ext qU;generalize hV:(⟨((bf ls e+Y2 ls e:Nat):Int),((bf ls e+cS ls e:Nat):Int),Yb (e.x % 5),D2⟩:EdV)=V at*;have hVf:V.fr=((bf ls e+Y2 ls e:Nat):Int):=by rw[<-hV]
    have C8:=(uJ (λy:EdV=>decide (y.fr<=V.fr)) (l:=L)).length_le;refine fO [] Qa [14] (λk:Nat=>[.int .i64 k]) (λk w'=>Ext w9 w'/\k=(L.takeWhile (λy=>decide (y.fr<=V.fr))).length) ?_ ?_
    rotate_left
    ·rintro _ Qy ⟨XT,rfl⟩;have im:SlS XZ 5 Qy A L.length c L:=⟨(hO9.ext XT).sl,rfl⟩
     have nD:=Ext.drew Qy;have JM:=JD.ext XT;have nQo:L.length<=5:=by omega
     generalize hT:(L.takeWhile (λy=>decide (y.fr<=V.fr))).length=T at*;refine Gb [15] (λt:Option Addr×Nat=>[.slice t.1 (T+1) t.2]) (λt w'=>Ext Qy w'/\Own w' Qy.heap.size 58 5 t.1 (T+1) t.2 ((L.take T++ [V]).flatMap XZ)) ?_ ?_
     ·have f0:Ext Qy Qy.drew:=nD;have DN:=im.1.take (m:=T) C8;rw[<-NN eH] at DN;refine T4 Qa (Ext Qy) 9 (.quiet 1 (.quiet 2 (.quiet 3 (.quiet 5 (.fork 0 (.fork 4 (.fork 6 (.fork 7 (.quiet 8 .done) .skip) .skip) (.fork 6 (.fork 4 (.fork 7 (.quiet 8 .done) .skip) .skip) .skip)) (.fork 6 (.fork 0 (.fork 4 (.fork 7 (.quiet 8 .done) .skip) .skip) .skip) .skip)))))) (by kernel_rfl) f0 ?_;refine F9 Qa rfl rfl rfl rfl rfl rfl (Zc C8 im.1.le) ?_;refine Xs (vs:=XZ V) rfl (λw' Qb k u hk=>by rw[(JM.ext Qb).cell];exact hk) ?_;generalize Qy.drew=v0 at*;refine⟨?_,?_,trivial⟩
      ·refine Xh Qa [] rfl rfl rfl rfl rfl ⟨⟩ rfl (λcs h=>by cases h) rfl (by decide) (by decide) ?_;intro v1 g1 Q4 ui;have f1:=f0.trans g1;have hA0:Own v1 Qy.heap.size 58 5 (some ⟨v0.heap.size,0,none⟩) 0 0 []:=Own.empty ui f0.size;refine⟨_,λv hv=>hv,f1,?_⟩;refine⟨?_,?_,trivial⟩
       ·refine Z4 (n:=0) Qa rfl rfl rfl rfl rfl (by decide) rfl rfl ⟨_,rfl⟩ rfl rfl (hA0.ext (Ext.refl _)) (DN.ext f1) (λu hu=>by
         obtain⟨y,_,hy⟩:=WE.1 hu;exact sc (vs:=XZ y) rfl u hy) (by unfold maxLen;omega) (by show(0+T)*64<=_;omega) f1.size ?_
        intro A4 c4 v2 m2 Yh _;rw[bF] at Yh;rw[Wh] at Yh ⊢;have f2:Ext Qy v2:=m2.ext f1 (λk hk=>(hA0.rows k hk).1);refine⟨_,λv hv=>hv,f2,?_⟩;refine⟨?_,trivial⟩
        ·refine Xh Qa [XZ V] rfl rfl rfl rfl rfl ⟨rfl,rfl,⟨⟩⟩ rfl (λcs h=>by simp only[QN] at h;subst h;rfl) rfl (by decide) (by decide) ?_;intro v3 g3 JC Q9;have f3:=f2.trans g3;have aC:SlS XZ 5 v3 (some ⟨v2.heap.size,0,none⟩) 1 1 [V]:=⟨Sl.own (sz:=5) (n:=1) Q9 (QB _) (by decide) (by simp[XZ]),rfl⟩
         refine⟨_,λv hv=>hv,f3,?_⟩;refine⟨?_,trivial⟩;refine Z4 (n:=T) Qa rfl rfl rfl rfl rfl (by decide) rfl rfl ⟨_,rfl⟩ rfl rfl (Yh.ext g3) (aC.ext (Ext.refl _)).1 (λu hu=>by
          obtain⟨y,_,hy⟩:=WE.1 hu;exact sc (vs:=XZ y) rfl u hy) (by unfold maxLen;omega) (by show(T+1)*64<=_;omega) f3.size ?_
         intro B2 qV vz mz yO aQ4;have fz:Ext Qy vz:=mz.ext f3 (λk hk=>(Yh.rows k hk).1);refine⟨_,λv hv=>hv,fz,?_⟩;exact⟨(B2,qV),rfl,fz,by rw[WF];exact yO⟩
       ·refine Xh Qa [XZ V] rfl rfl rfl rfl rfl ⟨rfl,rfl,⟨⟩⟩ rfl (λcs h=>by simp only[QN] at h;subst h;rfl) rfl (by decide) (by decide) ?_;intro v2 g2 Zb Q9;have f2:=f1.trans g2;have aC:SlS XZ 5 v2 (some ⟨v1.heap.size,0,none⟩) 1 1 [V]:=⟨Sl.own (sz:=5) (n:=1) Q9 (QB _) (by decide) (by simp[XZ]),rfl⟩
        refine⟨_,λv hv=>hv,f2,?_⟩;refine⟨?_,trivial⟩
        ·refine Z4 (n:=0) Qa rfl rfl rfl rfl rfl (by decide) rfl rfl ⟨_,rfl⟩ rfl rfl (hA0.ext g2) (DN.ext f2) (λu hu=>by
          obtain⟨y,_,hy⟩:=WE.1 hu;exact sc (vs:=XZ y) rfl u hy) (by unfold maxLen;omega) (by show(0+T)*64<=_;omega) f2.size ?_
         intro A4 c4 v3 m3 Yh _;rw[bF] at Yh;rw[Wh] at Yh ⊢;have f3:Ext Qy v3:=m3.ext f2 (λk hk=>(hA0.rows k hk).1);have qj:=(Q9.ext (Ext.refl _)).mod m3 (λhk=>by
          obtain⟨ad,e0,e1⟩:=hk;cases e0;have e1:v0.heap.size=v1.heap.size:=e1;have s1:=g1.size;have s2:=g2.size;omega)
         have aC:SlS XZ 5 v3 (some ⟨v1.heap.size,0,none⟩) 1 1 [V]:=⟨Sl.own (sz:=5) (n:=1) qj (QB _) (by decide) (by simp[XZ]),rfl⟩
         refine⟨_,λv hv=>hv,f3,?_⟩;refine⟨?_,trivial⟩;refine Z4 (n:=T) Qa rfl rfl rfl rfl rfl (by decide) rfl rfl ⟨_,rfl⟩ rfl rfl (Yh.ext (Ext.refl _)) (aC.ext (Ext.refl _)).1 (λu hu=>by
          obtain⟨y,_,hy⟩:=WE.1 hu;exact sc (vs:=XZ y) rfl u hy) (by unfold maxLen;omega) (by show(T+1)*64<=_;omega) f3.size ?_
         intro B2 qV vz mz yO aQ4;have fz:Ext Qy vz:=mz.ext f3 (λk hk=>(Yh.rows k hk).1);refine⟨_,λv hv=>hv,fz,?_⟩;exact⟨(B2,qV),rfl,fz,by rw[WF];exact yO⟩
      ·refine Xh Qa [XZ V] rfl rfl rfl rfl rfl ⟨rfl,rfl,⟨⟩⟩ rfl (λcs h=>by simp only[QN] at h;subst h;rfl) rfl (by decide) (by decide) ?_;intro v1 g1 Q4 Q9;have f1:=f0.trans g1;have aC:SlS XZ 5 v1 (some ⟨v0.heap.size,0,none⟩) 1 1 [V]:=⟨Sl.own (sz:=5) (n:=1) Q9 (QB _) (by decide) (by simp[XZ]),rfl⟩
       refine⟨_,λv hv=>hv,f1,?_⟩;refine⟨?_,trivial⟩
       ·refine Xh Qa [] rfl rfl rfl rfl rfl ⟨⟩ rfl (λcs h=>by cases h) rfl (by decide) (by decide) ?_;intro v2 g2 Zb ui;have f2:=f1.trans g2;have hA0:Own v2 Qy.heap.size 58 5 (some ⟨v1.heap.size,0,none⟩) 0 0 []:=Own.empty ui f1.size;refine⟨_,λv hv=>hv,f2,?_⟩;refine⟨?_,trivial⟩
        ·refine Z4 (n:=0) Qa rfl rfl rfl rfl rfl (by decide) rfl rfl ⟨_,rfl⟩ rfl rfl (hA0.ext (Ext.refl _)) (DN.ext f2) (λu hu=>by
          obtain⟨y,_,hy⟩:=WE.1 hu;exact sc (vs:=XZ y) rfl u hy) (by unfold maxLen;omega) (by show(0+T)*64<=_;omega) f2.size ?_
         intro A4 c4 v3 m3 Yh _;rw[bF] at Yh;rw[Wh] at Yh ⊢;have f3:Ext Qy v3:=m3.ext f2 (λk hk=>(hA0.rows k hk).1);have qj:=(Q9.ext g2).mod m3 (λhk=>by
          obtain⟨ad,e0,e1⟩:=hk;cases e0;have e1:v1.heap.size=v0.heap.size:=e1;have s1:=g1.size;have s2:=g2.size;omega)
         have aC:SlS XZ 5 v3 (some ⟨v0.heap.size,0,none⟩) 1 1 [V]:=⟨Sl.own (sz:=5) (n:=1) qj (QB _) (by decide) (by simp[XZ]),rfl⟩
         refine⟨_,λv hv=>hv,f3,?_⟩;refine⟨?_,trivial⟩;refine Z4 (n:=T) Qa rfl rfl rfl rfl rfl (by decide) rfl rfl ⟨_,rfl⟩ rfl rfl (Yh.ext (Ext.refl _)) (aC.ext (Ext.refl _)).1 (λu hu=>by
          obtain⟨y,_,hy⟩:=WE.1 hu;exact sc (vs:=XZ y) rfl u hy) (by unfold maxLen;omega) (by show(T+1)*64<=_;omega) f3.size ?_
         intro B2 qV vz mz yO aQ4;have fz:Ext Qy vz:=mz.ext f3 (λk hk=>(Yh.rows k hk).1);refine⟨_,λv hv=>hv,fz,?_⟩;exact⟨(B2,qV),rfl,fz,by rw[WF];exact yO⟩
     rintro⟨B,bc⟩ QH ⟨Z9,ug⟩;refine Et (l:=T) Qa rfl rfl rfl rfl rfl rfl C8 ?_;have lQF:=(SlS.from eH im C8).ext Z9;refine Z4 (n:=T+1) Qa rfl rfl rfl rfl rfl (by decide) rfl rfl ⟨_,rfl⟩ rfl rfl ug lQF.1 (λu hu=>by
      obtain⟨y,_,hy⟩:=WE.1 hu;exact sc (vs:=XZ y) rfl u hy) (by show T+1+(L.length-T)<=_;unfold maxLen;omega) (by show(T+1+(L.length-T))*64<=_;omega) Z9.size ?_
     intro B2 qV Xa Vw qJ nQp;refine Qi ((i+1:Nat):Int) (by show((i:Nat):Int)+1=_;omega) (by omega) ?_;have QY:(L.take T++ [V]++L.drop T).length=T+1+(L.length-T):=by simp;omega
     refine⟨(i+1,L.take T++ [V]++L.drop T,B2,qV),by simp only;rw[QY];rfl,⟨?_,by show i+1<=5;omega,by show i+1<=x.en;omega,?_,?_,?_,by show(L.take T++ [V]++L.drop T).length=i+1;rw[QY];omega,λ_=>Ks⟩,by show 5-(i+1)<5-i;omega⟩
     ·have q1:=qU.size;have q2:=XT.size;have q3:=Qw.size;exact Vw.ext (((Qw.trans qU).trans XT).trans Z9) (λk hk=>by have:=(ug.rows k hk).1;omega)
     ·simp only;rw[QY,WF];have q1:=qU.size;have q2:=XT.size;have q3:=Jm.size;exact qJ.up (by omega)
     ·have lQG:Ext w5 Xa:=Vw.ext ((qU.trans XT).trans Z9) (λk hk=>by have:=(ug.rows k hk).1;have:=qU.size;have:=XT.size;omega);have lq:Ext w9 Xa:=Vw.ext (XT.trans Z9) (λk hk=>by have:=(ug.rows k hk).1;have:=XT.size;omega);intro v hv;simp only at hv;have hvv:v∈L∨v=V:=by
       rcases XM.1 hv with hv | hv
       ·rcases XM.1 hv with hv | hv
        ·exact .inl (aN hv)
        ·exact .inr (QN.1 hv)
       ·exact .inl (aM hv)
      rcases hvv with hv | rfl
      ·have hd:=nT v hv;refine⟨hd.sb.ext lQG,hd.st,λad e0 h0 hS=>?_⟩;have z1:=SB.lt hd.sb ad e0 h0;have z2:=(qJ.rows _ hS).1;have z3:=qU.size;have z4:=XT.size;omega
      ·have cq:v.x=D2:=by rw[<-hV]
       have ya:v.ed.o=be e.s:=by show oD v.x=_;rw[cq];exact mP LF
       rw[ya,cq];refine⟨aQG.ext lq,LF,λad e0 h0 hS=>?_⟩;have z1:=SB.lt aQG ad e0 h0;have z2:=(qJ.rows _ hS).1;have z4:=XT.size;omega
     ·simp only;have hVe:V.ed=pY ls e:=by
       rw[<-hV];show(⟨_,_,_,oD D2⟩:Ed)=_;rw[mP LF]<;>rfl
      obtain⟨t1,t2⟩:=jQy (λy:EdV=>decide (y.fr<=V.fr)) L;rw[hT] at t1 t2;rw[K9,he,DW,D9,oU,List.foldl_nil,<-nv,<-hVe,t1,t2];unfold mT;rw[List.takeWhile_map,List.dropWhile_map,ep,ep,J7]<;>rfl
    refine loop Qa [14] (λk:Nat=>[.int .i64 k]) (λk w'=>Ext w9 w'/\k<=(L.takeWhile (λy=>decide (y.fr<=V.fr))).length) (λk _=>L.length-k) 0 rfl ⟨Ext.refl _,Xr _⟩ ?_;rintro k Qy ⟨XT,hk⟩;have htw:=(uJ (λy:EdV=>decide (y.fr<=V.fr)) (l:=L)).length_le;have nD:=Ext.drew Qy;refine XK Qa (Ext Qy) 14 [(true,0),(true,1),(true,2),(true,3),(true,4),(true,5),(true,6),(true,7),(true,8),(true,9),(true,10),(true,11),(true,12),(true,13)] (by kernel_rfl) nD ?_;refine Qz (λk1=>?_) (λk1=>?_)
    ·have Jk:k<L.length:=by simp only at k1;omega
     obtain⟨y,hy⟩:∃y,L[k]? =some y:=⟨_,Xp Jk⟩
     have im:SlS XZ 5 Qy A L.length c L:=⟨(hO9.ext XT).sl,rfl⟩
     refine Zv eH im rfl Jk (λad y' lG Jv=>?_);cases hy.symm.trans lG;refine QK (v:=.int .i64 y.fr) (λw' Qb=>Qb.cell (Jv 0 _ rfl)) ?_;refine QK (v:=.int .i64 V.fr) (λw' Qb=>(((JD.ext XT).ext Qb).cell 0).trans rfl) ?_;refine Qz (λk2=>?_) (λk2=>?_)
     ·have QU:k≠(L.takeWhile (λy=>decide (y.fr<=V.fr))).length:=λhh=>by
       have:=T5 (p:=λy:EdV=>decide (y.fr<=V.fr)) (l:=L) (y:=y) (by rw[<-hh];exact hy);simp only[decide_eq_false_iff_not] at this;exact this k2
      refine Qi ((k+1:Nat):Int) (by show((k:Nat):Int)+1=_;omega) (by omega) ?_;exact⟨k+1,rfl,⟨XT.trans nD,by omega⟩,by show L.length-(k+1)<L.length-k;omega⟩
     ·refine⟨k,rfl,XT.trans nD,?_⟩;apply Classical.byContradiction;intro hh;have:=T6 (p:=λy:EdV=>decide (y.fr<=V.fr)) (l:=L) (k:=k) (y:=y) (by omega) hy;exact k2 (aQ this)
    ·exact⟨k,rfl,XT.trans nD,by simp only at k1;omega⟩
   ·exact⟨A,c,L,rfl,Qe.trans (Jm),bm,nT,fin (by omega)⟩
  ·exact⟨A,c,L,rfl,Qe.trans (Jm),bm,nT,fin (by simp only at c2;omega)⟩
 ·exact⟨A,c,L,rfl,Qe.trans (Jm),bm,nT,fin (by simp only at c1;omega)⟩
theorem jQA (k:Nat):(Yb k).length<=3/\(Yb k).count 10<=1/\∀b∈Yb k,b<256:=by
 unfold Yb;split<;>exact⟨by decide,by decide,by decide⟩
theorem jQB {ls:List (List Nat)}{es:List Ep}{y:Ed}(h:y∈jq ls es):0<=y.fr/\y.fr<=y.to_/\y.to_<=(Qp ls).length/\y.tx.length<=3/\y.tx.count 10<=1/\(∀b∈y.tx,b<256)/\∃s b,y.o=be s/\y.tx=Yb b:=by
 obtain⟨hn,e,_,rfl⟩:=jQw h;obtain⟨s,hs,hz,h1,h2,h3⟩:=TZ hn e;obtain⟨q1,q2,q3⟩:=jQA (e.x % 5);have h4:=wq hs;have h5:=T0 ls (bT ls e+1);refine⟨by show(0:Int)<=((bf ls e+Y2 ls e:Nat):Int);omega,by show((bf ls e+Y2 ls e:Nat):Int)<=((bf ls e+cS ls e:Nat):Int);omega,?_,q1,q2,q3,_,_,rfl,rfl⟩;show((bf ls e+cS ls e:Nat):Int)<=_;unfold bf;omega
def pZ (f:List Nat)(v:EdV):EdV:={v with tx:=ZG f v.fr.toNat v.to_.toNat}
def eJ (f:List Nat)(L:List EdV)(i:Nat):List EdV:=(L.take i).map (pZ f)++L.drop i
theorem jQC (f:List Nat)(L:List EdV)(i:Nat):(eJ f L i).length=L.length:=by simp[eJ];omega
theorem G3 {f:List Nat}{L:List EdV}{i:Nat}(h:i<L.length):(eJ f L i)[i]? =L[i]? :=by
 unfold eJ;rw[WC (by simp;omega)];simp[jQ (Nat.le_of_lt h)]
theorem jQD {f:List Nat}{L:List EdV}{i:Nat}{y:EdV}(h:L[i]? =some y):eJ f L (i+1)=(eJ f L i).set i (pZ f y):=by
 have hi:=(ZY.1 h).1;unfold eJ;rw[uN _ _ (by simp;omega)];have hd:L.drop i=y::L.drop (i+1):=by rw[W9 hi];congr 1;exact Option.some.inj ((Xp hi).symm.trans h)
 rw[hd,show i-((L.take i).map (pZ f)).length=0 by simp;omega,DU,K9,h];simp
theorem jQE (f:List Nat)(L:List EdV):eJ f L L.length=L.map (pZ f):=by simp[eJ]
theorem jQF {ls:List (List Nat)}{es:List Ep}{L:List EdV}(hL:L.map EdV.ed=jq ls es){v:EdV}(hv:v∈L):v.ed∈jq ls es:=by rw[<-hL];exact List.mem_map_of_mem hv
theorem keeps_law (x:ChV)(hn:x.ln<=1048576)(w:World)(h:ChIn w x):Fn Tryz.prog 9 [.agg x.cells.toArray] w (λv w'=>v= .bool true/\Ext w w'):=by
 have nR:=h.f8;have qF:∀y∈x.ls,y.i<=255:=λy hy=>(h.lo y hy).i8
 have xO:∀b∈Y1 x.ls,b<256:=by rw[Be];exact R8 (AJ (G0 qF))
 have hTl:=TW qF;have rH:=TX x.ls;have MQ:=V4 rH;obtain⟨g,hr⟩:=jQt qF;refine QF (c:={c9 with cuts:=[]}) Qa Tryz.func9 rfl rfl rfl ?_;refine new (λw1 Qe Q4 Qh=>?_);refine call (jQb w1) ?_;rintro _ w2 ⟨rfl,Qg⟩;have Q5:=Qe.trans Qg;have Qx:=Qh.ext Qg;refine Qt Qx rfl ?_;refine call (TM x w2 (h.ext Q5) hn) ?_;rintro _ w3 ⟨rfl,Qj⟩;have Qu:=Qx.ext Qj;have QX:=Q5.trans Qj;refine Qt Qu rfl ?_;refine call (jQz x w3 (h.ext QX) hn) ?_;rintro _ w4 ⟨EA,ec,L,rfl,Qs,Yh,hD4,hL4⟩;have uA:L.length<=5:=by have:=jQx (QR (Y1 x.ls)) x.es;rw[<-hL4,JF] at this;exact this
 have jM:∀v∈L,0<=v.fr/\v.fr<=v.to_/\v.to_<=(Y1 x.ls).length:=λv hv=>by
  obtain⟨q1,q2,q3,_⟩:=jQB (jQF hL4 hv);rw[MQ] at q3;exact⟨q1,q2,q3⟩
 have ct:=Xe (Y1 x.ls);have nQq:=Yh.rows;generalize hfT:Y1 x.ls=f at*;refine loop Qa [6] (λi:Nat=>[.int .i64 i]) (λi w'=>Ext w3 w'/\i<=L.length/\Own w' w3.heap.size 58 5 EA L.length ec ((eJ f L i).flatMap XZ)/\∀v∈L,DgO w' (Qk EA) 3 v.x v.ed.o) (λi _=>L.length-i) 0 rfl ⟨Qs,Xr _,by simpa [eJ] using Yh,hD4⟩ ?_;rintro i w5 ⟨Qw,hi,bm,nT⟩;have QG:=Qu.ext Qw;refine Qz (λc1=>?_) (λc1=>?_)
 ·have Wf:i<L.length:=by omega
  obtain⟨v,hv⟩:∃v,L[i]? =some v:=⟨_,Xp Wf⟩
  obtain⟨b1,b2,b3⟩:=jM v (Xm hv);have de:=Ext.drew w5;have dZ:SlS XZ 5 w5 EA L.length ec (eJ f L i):=⟨bm.sl,jQC f L i⟩
  obtain⟨a,rfl,_⟩:=bm.sl.at_ (show 0<L.length by omega);refine XK Qa (Ext w5) 16 [(true,0),(true,1),(true,2),(true,3),(true,4),(true,5),(true,6),(true,7),(true,8),(true,9),(true,10),(true,11),(true,12),(true,13),(true,14),(true,15)] (by kernel_rfl) de ?_;refine Zv eH dZ rfl Wf (λad y hy hc=>?_);rw[G3 Wf,hv] at hy;cases hy;refine QK (v:=.int .i64 v.fr) (λw' Qb=>Qb.cell (hc 0 _ rfl)) ?_;refine Zv eH dZ rfl Wf (λua y hy Yx=>?_);rw[G3 Wf,hv] at hy;cases hy;refine QK (v:=.int .i64 v.to_) (λw' Qb=>Qb.cell (Yx 1 _ rfl)) ?_;refine XH (v':=.string (Qd (ZG f v.fr.toNat v.to_.toNat))) ⟨by omega,by omega,by rw[ct];omega⟩ (by rw[KY,fE];rfl) ?_;refine eI (j:=i) Wf ?_;show dx _ ((a.add (i*5)).add 2) _ _;rw[add_add];refine Aq (bm.ext de) (by omega) (by omega) (λw6 K2 gg=>?_);rw[GX eH (eJ f L i) i v (pZ f v) 2 (.string (Qd (ZG f v.fr.toNat v.to_.toNat))) (by rw[G3 Wf];exact hv) (by decide) rfl,<-jQD hv] at gg;have QO:Ext w3 w6:=K2.ext (Qw.trans de) (λk hk=>(bm.rows k hk).1);refine Qi ((i+1:Nat):Int) (by show((i:Nat):Int)+1=_;omega) (by omega) ?_;exact⟨i+1,rfl,⟨QO,Wf,gg,λu hu=>((nT u hu).ext de).keep K2 (λk hk=>.inl hk)⟩,by show L.length-(i+1)<L.length-i;omega⟩
 have Wf:i=L.length:=by omega
 subst Wf;rw[jQE] at bm;have J3:=QX.trans Qw;have de:=Ext.drew w5;refine XK Qa (Ext w5) 11 [(true,1),(true,2),(true,4),(false,0),(false,3),(false,5),(true,6),(true,7),(true,8),(true,9),(true,10)] (by kernel_rfl) de ?_;refine QK (v:=.int .u8 x.fam) (λw' Qb=>((QG.ext Qb).cell 0).trans rfl) ?_;refine call (GV w5.drew) ?_;rintro _ w6 ⟨NA,nc,rfl,QO,hN6⟩;have Zw:=de.trans QO;refine⟨Zw,?_⟩;refine call (TG x.fam nR w6) ?_;rintro _ w7 ⟨DA,dn,dc,dnd,dr,rfl,Xb,hD7,sD,_⟩;have JI:=Zw.trans Xb;refine⟨JI,?_⟩;have VE:=(jg (n:=3) (by decide) (x:=⟨DA,dn,dc,dnd,dr⟩) sD).1;refine call (GN NA 3 nc jp ⟨DA,dn,dc,dnd,dr⟩ f none 0 0 [] (by decide) TH TI xO (by omega) (λe he=>by cases he) (λe he=>by cases he) (by decide) w7 (hN6.ext Xb) hD7 (SlS.nil _) (λe he=>by cases he)) ?_;rw[jQo (nm:=jp) GW VE hr rH (by omega)];rintro _ w8 ⟨rfl,Xl⟩;have gl:=JI.trans Xl;refine⟨gl,?_⟩;have nM:=Ext.drew w8;refine XK Qa (Ext w8) 12 [(true,1),(true,2),(true,4),(true,5),(false,0),(false,3),(false,6),(true,7),(true,8),(true,9),(true,10),(true,11)] (by kernel_rfl) nM ?_;refine QK (v:=.int .u8 x.fam) (λw' Qb=>(((QG.ext gl).ext Qb).cell 0).trans rfl) ?_;refine call (GV w8.drew) ?_;rintro _ w9 ⟨NB,nd,rfl,Xt,hN9⟩;have aQH:=nM.trans Xt;refine⟨aQH,?_⟩;refine call (TG x.fam nR w9) ?_;rintro _ Qy ⟨FA,fn,fc,fnd,fr,rfl,XT,lQH,lQI,_⟩;have bu:=aQH.trans XT;refine⟨bu,?_⟩;have CW:=(jg (n:=3) (by decide) (x:=⟨FA,fn,fc,fnd,fr⟩) lQI).1;have LG:=gl.trans bu;have QZ:∀v∈L, -9223372036854775808<=v.fr/\v.fr<=9223372036854775807/\ -9223372036854775808<=v.to_/\v.to_<=9223372036854775807:=λv hv=>by
  obtain⟨b1,b2,b3⟩:=jM v hv;exact⟨by omega,by omega,by omega,by omega⟩
 have fq:∀a b:Nat,(ZG f a b).length<=1000:=λa b=>Zc (mO f a b) (by omega)
 refine call (GN NB 3 nd jp ⟨FA,fn,fc,fnd,fr⟩ f EA L.length ec (L.map (pZ f)) (by decide) TH TI xO (by omega) (λe he=>by
  obtain⟨v,hv,rfl⟩:=X7.1 he;exact QZ v hv) (λe he=>by
  obtain⟨v,hv,rfl⟩:=X7.1 he;exact⟨pW xO _ _,fq _ _⟩) (by rw[JF];omega) Qy (hN9.ext XT) lQH ⟨(bm.ext LG).sl,by rw[JF]⟩ (λe he=>by
  obtain⟨v,hv,rfl⟩:=X7.1 he;exact(nT v hv).sb.ext LG)) ?_
 rintro _ QH ⟨rfl,Z9⟩;refine⟨bu.trans Z9,?_⟩;have rq:=J3.trans (LG.trans Z9);have hk:=jQn (x:=⟨FA,fn,fc,fnd,fr⟩) (es:=L.map (pZ f)) (nm:=jp) GW CW hr rH (by omega) (λe he=>by
  obtain⟨v,hv,rfl⟩:=X7.1 he;obtain⟨b1,b2,b3⟩:=jM v hv;exact⟨b1,b2,rfl⟩)
 rcases hk with hk | hk
 ·rw[hk];refine Jp rfl ?_;refine Zh rfl ?_;refine Jp rfl ?_;exact⟨rfl,rq⟩
 ·rw[hk];refine Jp rfl ?_;refine Zh rfl ?_;refine Xy (by decide) ?_;refine Jp rfl ?_;refine Zh rfl ?_;exact⟨rfl,rq⟩
end
section
open Go Go.RowKit Go.ChangeShapes
variable {H:Type} {enc:TypeId×Value->H}
theorem T7 {α:Type}{l:List α}(h:l.length=5):∃a b c d e,l=[a,b,c,d,e]:=by
 match l,h with
 | [a,b,c,d,e],_=>exact⟨a,b,c,d,e,rfl⟩
theorem jQG {W:World}(cs:List Value)(cv:Nat)(D:DataW H×List MemPlace)(hl:cs.length=5)(h:DataW.trod enc Tryz.prog W 0 (λ_=>true) true cv 89 cs=some D):∃y:{e:Ep // Ep8 e},y.1.cells=cs:=by
 have qD:Tryz.prog.cellsOf 5=1:=by kernel_rfl
 obtain⟨xs,k,_,_,_,gr,ZT⟩:=DataW.trod_struct Tryz.underlying89 h;obtain⟨y0,y1,y2,y3,y4,rfl⟩:=T7 (show xs.length=5 from gr);obtain⟨v0,v1,v2,v3,v4,rfl⟩:=T7 hl;have g0:=ZT 0 _ rfl;have g1:=ZT 1 _ rfl;have g2:=ZT 2 _ rfl;have g3:=ZT 3 _ rfl;have g4:=ZT 4 _ rfl;simp[qD] at g0 g1 g2 g3 g4;obtain⟨n0,e0,_,w0⟩:=DataW.trod_int Tryz.underlying5 g0;obtain⟨n1,e1,_,w1⟩:=DataW.trod_int Tryz.underlying5 g1;obtain⟨n2,e2,_,w2⟩:=DataW.trod_int Tryz.underlying5 g2;obtain⟨n3,e3,_,w3⟩:=DataW.trod_int Tryz.underlying5 g3;obtain⟨n4,e4,_,w4⟩:=DataW.trod_int Tryz.underlying5 g4;simp at e0 e1 e2 e3 e4;subst e0 e1 e2 e3 e4;obtain⟨m0,rfl,q0⟩:=u8_of w0;obtain⟨m1,rfl,q1⟩:=u8_of w1;obtain⟨m2,rfl,q2⟩:=u8_of w2;obtain⟨m3,rfl,q3⟩:=u8_of w3;obtain⟨m4,rfl,q4⟩:=u8_of w4;exact⟨⟨⟨m0,m1,m2,m3,m4⟩,⟨q0,q1,q2,q3,q4⟩⟩,rfl⟩
theorem jQH {W:World}{a:Option Addr}{len cap:Nat}{d:DataW H}{p:List MemPlace}(h:DataW.Trod enc Tryz.prog W 0 (λ_=>true) true 23 (.slice a len cap) d p):∃l,SlS Ep.cells 5 W a len cap l/\∀e∈l,Ep8 e:=by
 obtain⟨cv,hf⟩:=h;exact R1 (R0 (cells:=λy:{e:Ep // Ep8 e}=>y.1.cells) (λ_=>rfl) (by decide) Tryz.underlying23 (by kernel_rfl) ⟨⟨⟨0,0,0,0,0⟩,⟨by simp,by simp,by simp,by simp,by simp⟩⟩⟩ jQG rfl hf)
end
section
open Go Go.RowKit Go.ChangeShapes
variable {H:Type} {enc:TypeId×Value->H}
theorem jQI {d:DataW H}{l:List (DataW H)}(h:d∈l):Rows.uptoBulk d<=Rows.uptoBulkAll l:=by
 induction l with
 | nil=>cases h
 | cons x r ih=>
  simp only[Rows.uptoBulkAll];rcases Q1.1 h with e | e
  ·subst e;omega
  ·have:=ih e;omega
theorem upto_of {l:List (DataW H)}(hk:Rows.uptoSmall H l=true){d:DataW H}(h:d∈l):Rows.uptoBulk d<=1048576:=by
 have h1:Rows.uptoBulkAll l<=1048576:=aQ hk;exact Zc (jQI h) h1
theorem jQJ (d:DataW H):1<=Rows.uptoBulk d:=by
 cases d with
 | lit v=>cases v<;>simp[Rows.uptoBulk]
 | _=>simp[Rows.uptoBulk]
theorem T8:∀(l:List (DataW H)),l.length<=Rows.uptoBulkAll l
 | []=>Xr _
 | d::l=>by
  have:=jQJ d;have:=T8 l;simp only[Q6,Rows.uptoBulkAll];omega
theorem jQK {W:World}{cv t e:Nat}{a:Option Addr}{n c:Nat}{D:DataW H×List MemPlace}(hu:Tryz.prog.underlying t=some (.slice e))(h:DataW.trod enc Tryz.prog W 0 (λ_=>true) true cv t [.slice a n c]=some D):n<=Rows.uptoBulk D.1:=by
 rcases Go.Deep.open_slice hu h with⟨XY,_⟩ | ⟨x,l,c',m,k,D',Pl,XY,_,hl,hm,ZI,hde,hx⟩
 ·simp at XY;omega
 ·simp at XY;obtain⟨_,rfl,_⟩:=XY;rw[hde];simp only[Rows.uptoBulk];have:=T8 ((List.range n).map D');simp only[JF,List.length_range] at this;omega
set_option maxRecDepth 100000 in
theorem fileU_of {W:World}{base:Nat}{v:Value}{d:DataW H}{p:List MemPlace}(hval:Value.okWide Tryz.prog W .any base 25 v)(h:DataW.Trod enc Tryz.prog W 0 (λ_=>true) true 25 v d p):
  ∃x:ChV,v= .agg x.cells.toArray/\ChIn W x/\x.ln<=Rows.uptoBulk d:=by
 obtain⟨cv,hf⟩:=h;obtain⟨cs,rfl,XJ⟩:=Go.WideShapes.okWide_struct Tryz.underlying25 hval;have hc:Tryz.prog.cellsOf 25=3:=by kernel_rfl
 have BT:Tryz.prog.cellsOf 5=1:=by kernel_rfl
 have Yx:Tryz.prog.cellsOf 22=1:=by kernel_rfl
 have qD:Tryz.prog.cellsOf 23=1:=by kernel_rfl
 rw[hc] at XJ;obtain⟨xs,m,_,hxe,_,gr,ZT⟩:=DataW.trod_struct Tryz.underlying25 hf;obtain⟨v0,v1,v2,hl⟩:=AI (show cs.toList.length=3 by simpa using XJ);obtain⟨y0,y1,y2,rfl⟩:=AI (show xs.length=3 from gr);have g0:=ZT 0 _ rfl;have g1:=ZT 1 _ rfl;have g2:=ZT 2 _ rfl;simp[BT,Yx,qD,Value.cells,hl] at g0 g1 g2;obtain⟨n0,e0,_,w0⟩:=DataW.trod_int Tryz.underlying5 g0;simp at e0;obtain⟨f,rfl,q0⟩:=u8_of w0;obtain⟨a1,n1,c1,rfl⟩:=TJ Tryz.underlying22 g1;obtain⟨a2,n2,c2,rfl⟩:=TJ Tryz.underlying23 g2;have gt:=jQK Tryz.underlying22 g1;have hd:d= .agg [y0.1,y1.1,y2.1]:=(Prod.mk.injEq _ _ _ _▸hxe).1;have rC:Rows.uptoBulk y1.1<=Rows.uptoBulk d:=by rw[hd];simp only[Rows.uptoBulk,Rows.uptoBulkAll];omega
 obtain⟨l1,hS,h8⟩:=gQ5 ⟨_,g1⟩;obtain⟨l2,hT,Wv⟩:=jQH ⟨_,g2⟩;subst e0;exact⟨⟨f,l1,l2,a1,n1,c1,a2,n2,c2⟩,QC Value.agg (Array.ext' hl),⟨q0,hS,h8,hT,Wv⟩,Zc gt rC⟩
theorem witness_row_shaped {C:Checked}{os:Os}{f:FuncId}{fn:Func}{s:OpenSpec}{conds:List PathCond}{apart:Bool}{laid:List (String×DataW Unit)}(modest:Bool)(w0:World)(args:Array Value)(hos:w0.os=os)
  (dk:(w0.forCall (λ_ _=>0) ⟨#[],args,[]⟩).Shaped C.prog)
  (X0:Input.okWideB C.prog (w0.forCall (λ_ _=>0) ⟨#[],args,[]⟩) f ⟨#[],args,[]⟩=true)
  (jG:s.preRow enc C.prog fn conds apart laid (w0.forCall (λ_ _=>0) ⟨#[],args,[]⟩).memory args):
  ∃(w:World) (tape:Tape) (i:Input),w.os=os/\(w.forCall tape i).Shaped C.prog/\i.vars=[]/\Input.okWide C.prog (w.forCall tape i) .any w.heap.size f i/\
   s.preRow enc C.prog fn conds apart laid (w.forCall tape i).memory i.args/\({modest:=modest}:Assume).holds C.prog (lone (Frame.enter C.prog f i.args .normal) [] (w.forCall tape i)):=
 ⟨w0,λ_ _=>0,⟨#[],args,[]⟩,hos,dk,(Input.okWide_of_okWideB (base:=0) X0).1,(Input.okWide_of_okWideB X0).2,jG,by
  simp only[Assume.holds];exact⟨by simp,by simp,λ_=>Modest.zero,by simp,by simp⟩⟩
end
end Go.Proofs.YtjabbbcdgmlojaaGreatDoor
