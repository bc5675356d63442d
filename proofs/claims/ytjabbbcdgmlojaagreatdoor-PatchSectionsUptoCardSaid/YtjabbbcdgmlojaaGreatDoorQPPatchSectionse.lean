/-
  What PPatchSections rests on, part 5 (wip/shake.py).
  Conditions: none.
-/
import Derived.Test.YtjabbbcdgmlojaaGreatDoorQPPatchSectionsd
set_option linter.all false
set_option linter.deprecated false
set_option maxHeartbeats 12800000
namespace Go.Proofs.YtjabbbcdgmlojaaGreatDoor
open Go Go.RowKit
section
theorem bQg {nm:List (List Nat)}{s:List Nat}{e:Int}(h:VQ nm s= .error e):e≠0:=by
 unfold VQ at h;split at h
 ·cases h
 ·cases h;split<;>decide
def uX:Except Int (List Nat)->Value
 | .ok l=>.tuple #[.string (Qf l),.int .i64 0]
 | .error e=>.tuple #[.string (Qf []),.int .i64 e]
theorem lQs (n:Nat)(o o':BF):QF n (λe=>o e && !o' e)=iO n (QF n o) o':=by
 unfold QF iO;rw[List.filter_filter];congr 1;funext c;rw[Bool.and_comm]
theorem yd {M:Nat}:∀{ls:List (List Nat)},(∀s∈ls,s.length<=M)->(Qk ls).length<=ls.length*(M+1)
 | [],_=>by simp[Qk]
 | s::ls,h=>by
  have ih:=yd (ls:=ls) (λt ht=>h t (by simp[ht]));have h1:=h s (by simp);rw[V6,Q6,nz,Bl];simp only[Qq,Q6];omega
theorem Dh:∀(l:List Nat),(QW l).length<=l.length/\∀s∈QW l,s.length<=l.length
 | []=>⟨by simp[QW],λs hs=>by simp[QW] at hs⟩
 | b::l=>by
  obtain⟨h1,h2⟩:=Dh l;unfold QW;split
  ·refine⟨by simp;omega,λs hs=>?_⟩;rcases Q3.1 hs with rfl | hs
   ·simp
   ·have:=h2 s hs;simp;omega
  ·cases hl:QW l with
   | nil=>refine⟨by simp,λs hs=>?_⟩;rw[QL.1 hs];simp
   | cons t ls=>
    rw[hl] at h1 h2;refine⟨by simp at h1 ⊢;omega,λs hs=>?_⟩;rcases Q3.1 hs with rfl | hs
    ·have:=h2 t (by simp);simp;omega
    ·have:=h2 s (by simp[hs]);simp;omega
theorem bQh {nm:List (List Nat)}(h:∀s∈nm,s.length<=1000)(v:Nat)(ng:Bool):(JV nm v ng).length<=2100:=by
 unfold JV;have h1:((nm[v]?).getD []).length<=1000:=by
  cases hv:nm[v]? with
  | none=>simp
  | some s=>exact h s (Xk hv)
 have h2:(if ng then [33] else([]:List Nat)).length<=1:=by cases ng<;>simp
 have h3:ZC.length=4:=rfl;simp only[Qq];omega
theorem lQt {nm:List (List Nat)}{f:Nat->List Nat}(hn:∀s∈nm,s.length<=1000){S:List Nat}(hS:S≠ [])(Nw:S.length<=16)(h:∀c∈S,(f c).length<=2000)(k v:Nat):(Qk (X0 nm f k v S)).length<=1000000000:=by
 obtain⟨h1,h2⟩:=rq (nm:=nm) (f:=f) (P:=λs=>s.length<=2100) (M:=2000) (λv ng=>bQh hn v ng) (by decide) (by decide) k v S hS (λc hc=>by
  obtain⟨a,b⟩:=Dh (f c);have:=h c hc;exact⟨λs hs=>by have:=b s hs;omega,by omega⟩)
 have h3:=yd h1;have h4:S.length*(2000+3)<=16*2003:=Y8 _ Nw;have h5:(X0 nm f k v S).length*(2100+1)<=32048*2101:=Y8 _ (by omega);omega
theorem bQi (n:Nat)(o:BF):(QF n o).length<=2^n:=by
 unfold QF;refine X4 (qh _ _) ?_;rw[List.length_range];exact QC _
theorem Di (NA:Option Addr)(nn nc:Nat)(nm:List (List Nat))(x:DV)(PA:Option Addr)(pn pc:Nat)(ps:List (DV×List Nat))(mO:nm.length<=4)(Yc:KG nm)(KQ:∀s∈nm,s.length<=1000)(aT:∀q∈ps,(∀b∈q.2,b<256)/\q.2.length<=2000)(w:World)
  (hN:Sl w 1 NA nn nc (X9 nm)) (hx:SB w x.A x.n x.c x.nd) (hP:SlS JK 3 w PA pn pc ps) (AM:∀q∈ps,SB w q.1.A q.1.n q.1.c q.1.nd):
  Fn Tryz.prog 24 [.slice NA nn nc,Xl x.A x.n x.c x.r,.slice PA pn pc] w (λu w'=>u=uX (lS nm x ps)/\Ext w w'):=by
 have Q0:nm.length=nn:=by have:=hN.len;rw[bn] at this;omega
 have hk:nm.length<=12:=by omega
 have Jf:=hP.2;have pQj:=hP.1.cap;have qQK:=hP.1.le;simp only[maxLen] at pQj;refine xe (c:={c24 with cuts:=[]}) Qa Tryz.func24 rfl rfl rfl ?_;refine ZS (ZH Qa ?_);refine new (λw1 Qd Q9 Qh=>?_);refine new (λw2 Qg Zi Qv=>?_);refine new (λw3 Qi JD Qu=>?_);have Ya:=Qg.trans Qi;have QY:=Qd.trans Ya;have QO:w1.heap.size≠w2.heap.size:=by omega
 refine ZS (xd Qa rfl rfl rfl rfl ⟨_,_,_,_,rfl,rfl,?_⟩);refine ZS (ZH Qa ?_);refine Qt (Qh.ext Ya) rfl ?_;refine XP (aQ9 NA nn nc nm x hk Yc w3 (hN.ext QY) (hx.ext QY)) ?_ ?_
 rotate_left
 ·rintro ch w4 ⟨Xq,rfl,Qs⟩;refine aA Qa rfl rfl (args:= #[.pointer (some ⟨w1.heap.size,0,none⟩),.pointer (some ⟨w2.heap.size,0,none⟩)]) (by simp) ((rz _ _ 1 w4 _ _ QO ((Qv.ext Qi).ext Qs) (Qu.ext Qs)).mono ?_);rintro e u' w5 ⟨v,rfl,mv,bE⟩;refine⟨v,rfl,mv,?_⟩;refine Qy bE.1 rfl ?_;refine Qy bE.2.1 rfl ?_;have hm:lS nm x ps= .error 1:=by
   unfold lS;rw[Qe (by
    by_cases h1:ZQ nm=true
    ·exact .inr (eN.2 (λh2=>Xq ⟨h1,h2⟩))
    ·exact .inl (by simpa using h1))]
  rw[hm];exact⟨rfl,bE.2.2.ext (QY.trans Qs) (λi hi=>by rcases hi with rfl | rfl<;>omega)⟩
 rintro _ w4 ⟨⟨XY,YB⟩,Qs⟩;have Xr:=QY.trans Qs;have sx:=iN YB;have Kc:=(Qh.ext Ya).ext Qs;have fX:=(Qv.ext Qi).ext Qs;have fQ:=Qu.ext Qs;have hm:lS nm x ps=if aK nm.length (QF nm.length (oD x)) ps=false then .error 290
   else if ps=[] then .ok []
   else if 1048576<(Qk (X0 nm (fP (Zv ps)) nm.length 0 (QF nm.length (oD x)))).length then .error 2
   else .ok (Qk (X0 nm (fP (Zv ps)) nm.length 0 (QF nm.length (oD x)))):=by
  rw[lS,if_neg (by rw[XY,YB];simp)]
 generalize lS nm x ps=M at*;have cQN:∀w',Ext w4 w'->aK nm.length (QF nm.length (oD x)) ps=false->∀w5,Dg w1.heap.size w2.heap.size 290 w' w5->Value.tuple #[.string ⟨#[]⟩,.int .i64 290]=uX M/\Ext w w5:=λw' ib hc w5 hR=>by
  refine⟨by rw[hm,Qe hc];rfl,hR.2.2.ext (Xr.trans ib) (λi hi=>by rcases hi with rfl | rfl<;>omega)⟩
 refine ZS (ZH Qa ?_);refine Qt Kc rfl ?_;refine new (λw5 Qx KL QB=>?_);refine Qw QB rfl (sc rfl) (λw6 Wm _ Xg=>?_);have XK:Ext w4 w6:=XV Qx QB Wm;have KW:=Qs.size;have qQc:=XK.size;refine ZS (ZH Qa ?_);refine loop Qa [18] (λi:Nat=>[.int .i64 i]) (λi w'=>Mod (·=w4.heap.size) w6 w'/\i<=pn/\∃(R:DV) (oR:BF),Blk w' w4.heap.size 32 R.cells/\SB w' R.A R.n R.c R.nd/\Set1 nm.length R.nd R.r oR/\(∀ad,R.A=some ad->0<R.n->ad.block≠w4.heap.size)/\aK nm.length (QF nm.length (oD x)) ps=aK nm.length (QF nm.length oR) (ps.drop i)) (λi _=>pn-i) 0 rfl ⟨Mod.refl _ _,Xt _,x,oD x,Xg,(hx.ext Xr).ext XK,sx,λad ea h0=>by have:=SB.lt (hx.ext Xr) ad ea h0;omega,rfl⟩ ?_;rintro i w7 ⟨Xb,hi,R,oR,Q8,Vk,sR,hRn,Ju⟩;have Ys:Ext w4 w7:=Xb.ext XK (λj hj=>by omega);have VV:=Xr.trans Ys;have qQd:=Ys.size;have pA:=fX.ext Ys;have pB:=fQ.ext Ys;refine Qz (λc1=>?_) (λc1=>?_)
 ·have Q5:i<pn:=by omega
  refine Zz IE (hP.ext VV) rfl Q5 (λad q hq hc=>?_);have jB:=Xk hq;obtain⟨q8,ql⟩:=aT q jB;have bK:ps.drop i=q::ps.drop (i+1):=by
   have Xe:=(ZM.1 hq).1;rw[av Xe];congr 1;rw[XB Xe] at hq;exact Option.some.inj hq
  rw[bK] at Ju;refine JN (vs:=JK q) rfl hc ?_;refine new (λw8 Xp Yq Xx=>?_);refine Qw Xx rfl (sc rfl) (λw9 bB _ JO=>?_);have VW:Ext w7 w9:=XV Xp Xx bB;have qQe:=VW.size;have D7:=(AM q jB).ext (VV.trans VW);refine gq (vs:=[.slice q.1.A q.1.n q.1.c,.int .i64 q.1.r]) JO rfl (λj u hj=>by match j,hj with | 0,hj=>exact hj | 1,hj=>exact hj) ?_;rw[<-Q0];refine call (Iy q.1.A q.1.n q.1.c nm.length q.1.nd q.1.r w9 D7) ?_;rintro _ QK ⟨rfl,Zx⟩;have ji:=VW.trans Zx;have bad:∀w',Ext w7 w'->aK nm.length (QF nm.length oR) (q::ps.drop (i+1))=false->∀w5,Dg w1.heap.size w2.heap.size 290 w' w5->Value.tuple #[.string ⟨#[]⟩,.int .i64 290]=uX M/\Ext w w5:=λw' ib hc w5 hR=>cQN w' (Ys.trans ib) (Ju.trans hc) w5 hR
  cases FY:Kv nm.length q.1.nd q.1.r with
  | false=>
   refine Xc rfl ?_;refine XP (Y2 290 (by decide) QK) (λ_ _ hf=>hf.elim) ?_;rintro ch _ ⟨rfl,rfl⟩;refine aA Qa rfl rfl (args:= #[.pointer (some ⟨w1.heap.size,0,none⟩),.pointer (some ⟨w2.heap.size,0,none⟩)]) (by simp) ((rz _ _ 290 QK _ _ QO (pA.ext ji) (pB.ext ji)).mono ?_);rintro e u' QJ ⟨v,rfl,nQU,Nx⟩;refine⟨v,rfl,nQU,?_⟩;refine Qy Nx.1 rfl ?_;refine Qy Nx.2.1 rfl ?_;exact bad QK ji (by
    refine eN.2 (λhh=>?_);rw[(Ix.1 hh).1.1] at FY;cases FY) QJ Nx
  | true=>
  have sq:=iN FY;have ku:=sq.root0;have Km:=JO.ext Zx;refine Q7 rfl ?_;refine IZ (j:=0) (i:=1) Km rfl ?_;have wo:=Ix (n:=nm.length) (R:=QF nm.length oR) (p:=q) (ps:=ps.drop (i+1));refine Zd (λhz=>?_) (λhz=>?_)
  ·refine XP (Y2 290 (by decide) QK) (λ_ _ hf=>hf.elim) ?_;rintro ch _ ⟨rfl,rfl⟩;refine aA Qa rfl rfl (args:= #[.pointer (some ⟨w1.heap.size,0,none⟩),.pointer (some ⟨w2.heap.size,0,none⟩)]) (by simp) ((rz _ _ 290 QK _ _ QO (pA.ext ji) (pB.ext ji)).mono ?_);rintro e u' Yt ⟨v,rfl,fK,af⟩;refine⟨v,rfl,fK,?_⟩;refine Qy af.1 rfl ?_;refine Qy af.2.1 rfl ?_;exact bad QK ji (eN.2 (λhh=>(wo.1 hh).1.2.1 (ku.1 hz))) Yt af
  ·refine gq (vs:=[.slice q.1.A q.1.n q.1.c,.int .i64 q.1.r]) Km rfl (λj u hj=>by match j,hj with | 0,hj=>exact hj | 1,hj=>exact hj) ?_;refine Qt (Q8.ext ji) rfl ?_;refine call (UD q.1.A q.1.n q.1.c q.1.nd q.1.r R.A R.n R.c R.nd R.r QK (D7.ext Zx) (Vk.ext ji)) ?_;rintro _ QJ ⟨rfl,Z2⟩;have i7:=ji.trans Z2;have hwi:iK q.1.nd q.1.r R.nd R.r=true↔∀c∈QF nm.length (oD q.1),c∈QF nm.length oR:=by
    rw[IF hk sq sR,aQn sq.dep sR.dep];exact⟨λh c hc=>Z0.2 ⟨(Z0.1 hc).1,h c hc⟩,λh c hc=>(Z0.1 (h c hc)).2⟩
   cases Pq:iK q.1.nd q.1.r R.nd R.r with
   | false=>
    refine Xc rfl ?_;refine XP (Y2 290 (by decide) QJ) (λ_ _ hf=>hf.elim) ?_;rintro ch _ ⟨rfl,rfl⟩;refine aA Qa rfl rfl (args:= #[.pointer (some ⟨w1.heap.size,0,none⟩),.pointer (some ⟨w2.heap.size,0,none⟩)]) (by simp) ((rz _ _ 290 QJ _ _ QO (pA.ext i7) (pB.ext i7)).mono ?_);rintro e u' Yt ⟨v,rfl,fK,af⟩;refine⟨v,rfl,fK,?_⟩;refine Qy af.1 rfl ?_;refine Qy af.2.1 rfl ?_;exact bad QJ i7 (eN.2 (λhh=>by rw[hwi.2 (wo.1 hh).1.2.2.1] at Pq;cases Pq)) Yt af
   | true=>
    refine Q7 rfl ?_;have Z1:=Km.ext Z2;refine Qp Z1 rfl ?_;refine call (aQs q.2 QJ q8 (by omega)) ?_;rintro _ Xa ⟨rfl,Xm⟩;have mP:=i7.trans Xm;cases Ny:Vj q.2 with
    | false=>
     refine Xc rfl ?_;refine XP (Y2 290 (by decide) Xa) (λ_ _ hf=>hf.elim) ?_;rintro ch _ ⟨rfl,rfl⟩;refine aA Qa rfl rfl (args:= #[.pointer (some ⟨w1.heap.size,0,none⟩),.pointer (some ⟨w2.heap.size,0,none⟩)]) (by simp) ((rz _ _ 290 Xa _ _ QO (pA.ext mP) (pB.ext mP)).mono ?_);rintro e u' Yt ⟨v,rfl,fK,af⟩;refine⟨v,rfl,fK,?_⟩;refine Qy af.1 rfl ?_;refine Qy af.2.1 rfl ?_;exact bad Xa mP (eN.2 (λhh=>by rw[(wo.1 hh).1.2.2.2] at Ny;cases Ny)) Yt af
    | true=>
     refine Q7 rfl ?_;refine Qt (Q8.ext mP) rfl ?_;refine gq (vs:=[.slice q.1.A q.1.n q.1.c,.int .i64 q.1.r]) (Z1.ext Xm) rfl (λj u hj=>by match j,hj with | 0,hj=>exact hj | 1,hj=>exact hj) ?_;refine call (fd hk R q.1 Xa (Vk.ext mP) ((AM q jB).ext (VV.trans mP)) sR sq) ?_;rintro _ X1 ⟨QA,Qn,Qc,Qnd,Qr,rfl,XI,Nz,sQ,FZ⟩;refine Qw ((Q8.ext mP).ext XI) rfl (sc rfl) (λZm fw _ Kc=>?_);have K9:Mod (·=w4.heap.size) X1 Zm:=qQT fw rfl;refine Qj ((i+1:Nat):Int) (by show((i:Nat):Int)+1=_;omega) (by omega) ?_;have aS:∀ad,QA=some ad->0<Qn->ad.block≠w4.heap.size:=λad ea h0=>by
      have:=FZ ad.block ⟨ad,ea,rfl⟩;have:=mP.size;have:=Q8.lt;omega
     have nQV:=mP.trans XI;refine⟨i+1,rfl,⟨(Xb.trans (Mod.of_ext (·=w4.heap.size) nQV) (λj hj=>.inl hj)).trans K9 (λj hj=>.inl hj),Q5,⟨QA,Qn,Qc,Qnd,Qr⟩,_,Kc,Nz.modo K9 aS,sQ,aS,?_⟩,by show pn-(i+1)<pn-i;omega⟩;rw[Ju,lQs];have h1:Kv nm.length q.1.nd q.1.r=true/\QF nm.length (oD q.1)≠ []/\(∀c∈QF nm.length (oD q.1),c∈QF nm.length oR)/\Vj q.2=true:=⟨FY,λe=>hz (ku.2 e),hwi.1 Pq,Ny⟩
     have h2:aK nm.length (QF nm.length oR) (q::ps.drop (i+1))=true↔aK nm.length (iO nm.length (QF nm.length oR) (oD q.1)) (ps.drop (i+1))=true:=wo.trans ⟨λh=>h.2,λh=>⟨h1,h⟩⟩;exact p9.2 h2
 have Q5:i=pn:=by omega
 have bK:ps.drop i=[]:=qg (by omega);rw[bK] at Ju;have hR0:=sR.root0;have Ju:aK nm.length (QF nm.length (oD x)) ps=decide (QF nm.length oR=[]):=Ju;refine ZS (ZH Qa ?_);refine Qp Q8 rfl ?_;refine YE (λhz=>?_) (λhz=>?_)
 ·refine XP (Y2 290 (by decide) w7) (λ_ _ hf=>hf.elim) ?_;rintro ch _ ⟨rfl,rfl⟩;refine aA Qa rfl rfl (args:= #[.pointer (some ⟨w1.heap.size,0,none⟩),.pointer (some ⟨w2.heap.size,0,none⟩)]) (by simp) ((rz _ _ 290 w7 _ _ QO pA pB).mono ?_);rintro e u' Yt ⟨v,rfl,fK,af⟩;refine⟨v,rfl,fK,?_⟩;refine Qy af.1 rfl ?_;refine Qy af.2.1 rfl ?_;exact cQN w7 Ys (by rw[Ju];exact Zn (λe=>hz (hR0.2 e))) Yt af
 have ni:aK nm.length (QF nm.length (oD x)) ps=true:=by rw[Ju];exact X2 (hR0.1 hz)
 rw[if_neg (by rw[ni];decide)] at hm;refine ZS (ZH Qa ?_);refine Zd (λh0=>?_) (λh0=>?_)
 ·have E3:ps=[]:=Wx (by omega);rw[Qe E3] at hm;refine KS pA (by simp[J1]) (λw8 ZF Xx=>?_);refine KS (pB.mod ZF QO.symm) (by simp[J1]) (λw9 Zb JO=>?_);refine gu Qa rfl rfl (.inl rfl) (args:= #[.pointer (some ⟨w1.heap.size,0,none⟩),.pointer (some ⟨w2.heap.size,0,none⟩)]) (by simp) ((bQb _ _ w9).mono ?_);rintro e u' Yt ⟨v,rfl,fK,rfl⟩;refine⟨v,rfl,fK,?_⟩;refine Qy (Xx.mod Zb QO) rfl ?_;refine Qy JO rfl ?_;exact⟨by rw[hm];rfl,Zb.ext (ZF.ext VV (λj hj=>by omega)) (λj hj=>by omega)⟩
 ·have E3:ps≠ []:=λe=>h0 (by rw[<-Jf,e];rfl)
  rw[if_neg E3] at hm;obtain⟨Jh,cQO⟩:=aQq (λc hc=>(Z0.1 hc).1) ni;have cQP:QF nm.length (oD x)≠ []:=λe=>by
   obtain⟨q,hq⟩:=tE _ E3;obtain⟨_,n1,_,n2⟩:=cQO q hq;obtain⟨c,hc⟩:=tE _ n1;have:=n2 c hc;rw[e] at this;cases this
  refine ZH Qa ?_;refine Qt (Kc.ext Ys) rfl ?_;refine call (aQA NA nn nc nm x (oD x) PA pn pc ps nm.length mO rfl Yc (λs hs=>by have:=KQ s hs;omega) (λq hq=>by
   obtain⟨a,b,c,d⟩:=cQO q hq;obtain⟨e1,e2⟩:=aT q hq;exact⟨a,c,e1,by omega⟩) w7 (hN.ext VV) (hx.ext VV) sx (hP.ext VV) (λq hq=>(AM q hq).ext VV) cQP Jh) ?_
  rintro _ w8 ⟨A8,c8,rfl,Xp,gK⟩;have Ja:∀c∈QF nm.length (oD x),(fP (Zv ps) c).length<=2000:=λc hc=>by
   obtain⟨p,hp,Yd⟩:=Jh.cov c hc;rw[Jh.get hc hp Yd];obtain⟨q,hq,rfl⟩:=ZG.1 hp;exact(aT q hq).2
  have aR:(QF nm.length (oD x)).length<=16:=X4 (bQi _ _) (X4 (WW (by decide) mO) (by decide));have qQL:=lQt KQ cQP aR Ja nm.length 0;generalize X0 nm (fP (Zv ps)) nm.length 0 (QF nm.length (oD x))=W at*;refine XP (aQ8 A8 _ c8 W w8 gK (by omega)) ?_ ?_
  rotate_left
  ·rintro ch _ ⟨sL,rfl,rfl⟩;rw[Qe sL] at hm;refine aA Qa rfl rfl (args:= #[.pointer (some ⟨w1.heap.size,0,none⟩),.pointer (some ⟨w2.heap.size,0,none⟩)]) (by simp) ((rz _ _ 2 w8 _ _ QO (pA.ext Xp) (pB.ext Xp)).mono ?_);rintro e u' Yt ⟨v,rfl,fK,af⟩;refine⟨v,rfl,fK,?_⟩;refine Qy af.1 rfl ?_;refine Qy af.2.1 rfl ?_;exact⟨by rw[hm];rfl,af.2.2.ext (VV.trans Xp) (λi hi=>by rcases hi with rfl | rfl<;>omega)⟩
  rintro _ w9 ⟨Ke,rfl,XE⟩;rw[if_neg (by omega)] at hm;have VW:=Xp.trans XE;refine KS (pA.ext VW) (by simp[J1]) (λQK ZA Km=>?_);refine KS ((pB.ext VW).mod ZA QO.symm) (by simp[J1]) (λQJ Z8 Z1=>?_);refine gu Qa rfl rfl (.inl rfl) (args:= #[.pointer (some ⟨w1.heap.size,0,none⟩),.pointer (some ⟨w2.heap.size,0,none⟩)]) (by simp) ((bQb _ _ QJ).mono ?_);rintro e u' Yt ⟨v,rfl,fK,rfl⟩;refine⟨v,rfl,fK,?_⟩;refine Qy (Km.mod Z8 QO) rfl ?_;refine Qy Z1 rfl ?_;exact⟨by rw[hm];rfl,Z8.ext (ZA.ext (VV.trans VW) (λj hj=>by omega)) (λj hj=>by omega)⟩
theorem bQj {ls:List (List Nat)}(hL:lJ ls){a:Nat}{s:List Nat}(h:(a,s)∈JL 0 ls):∃pre WR,Qk ls=pre++(s++10::WR)/\pre.length=a/\cN pre/\10∉s:=by
 obtain⟨i,h1,h2⟩:=aQ0 h;have Xe:=(ZM.1 h1).1;have hs:ls[i]=s:=by rw[XB Xe] at h1;exact Option.some.inj h1
 refine⟨Qk (ls.take i),Qk (ls.drop (i+1)),?_,by omega,TF _,hL s (Xk h1)⟩;have hu:∀a b:List (List Nat),Qk (a++b)=Qk a++Qk b:=λa b=>by simp[Qk]
 have e:ls=ls.take i++s::ls.drop (i+1):=by
  have:=(dE i ls).symm;rw[av Xe,hs] at this;exact this
 have e2:=QD Qk e;rw[hu,V6] at e2;exact e2
theorem I0 {l:List Nat}(hl:∀x∈l,x<256){j b:Nat}(h:l[j]? =some b):(((Qf l).data[j]!).toNat:Int)=b:=by
 have Xe:=(ZM.1 h).1;have hb:=hl b (Xk h);have e:(Qf l).data[j]! =UInt8.ofNat b:=by
  have:(Qf l).data=(l.map UInt8.ofNat).toArray:=rfl;rw[this,getElem!_def,Gc,aq,h]<;>rfl
 rw[e];have:(UInt8.ofNat b).toNat=b:=by simp[jE hb]
 rw[this]
theorem bQk {ls:List (List Nat)}(hL:lJ ls)(h8:∀x∈Qk ls,x<256){a x:Nat}{s:List Nat}(h:(a,s)∈JL 0 ls)(h1:a<=x)(h2:x<=a+s.length):Lib.lastIndexByte (Qf ((Qk ls).take x)) 10=(a:Int)-1:=by
 obtain⟨pre,WR,e,hp,ht,hs⟩:=bQj hL h;have Q0:x<=(Qk ls).length:=by rw[e];simp;omega
 have X7:(Qf ((Qk ls).take x)).size=x:=by rw[Xi,K5];omega
 have ND:∀y∈(Qk ls).take x,y<256:=λy hy=>h8 y (bf hy)
 have Fo:∀j,j<x->((Qk ls).take x)[j]? =(Qk ls)[j]? :=λj hj=>qe hj
 have Q5:∀j,a<=j->j<x->((Qk ls).take x)[j]? ≠some 10:=λj ha hj hh=>by
  rw[Fo j hj,e,WV (by omega),hp,eK (by omega)] at hh;exact hs (Xk hh)
 have ne:∀j,j<x->∃b,((Qk ls).take x)[j]? =some b:=λj hj=>⟨_,XB (by rw[K5];omega)⟩
 have vT:0<a->((Qk ls).take x)[a-1]? =some 10∨x<a:=λh0=>by
  left
  rw[Fo (a-1) (by omega),e,eK (by omega)];rcases ht with ht | ht
  ·subst ht;simp at hp;omega
  ·rw[tz,hp] at ht;exact ht
 rcases Lib.lastIndexByte_spec (Qf ((Qk ls).take x)) 10 with⟨k1,k2⟩ | ⟨i,i1,i2,i3,i4⟩
 ·rw[k1];by_cases h0:a=0
  ·subst h0;rfl
  ·exfalso;rcases vT (by omega)with hh | hh
   ·have:=I0 ND hh;exact k2 (a-1) (by rw[X7];omega) (by rw[this];rfl)
   ·omega
 ·rw[X7] at i1;obtain⟨b,hb⟩:=ne i i1;have mL:b=10:=by
   have:=I0 ND hb;rw[this] at i3
   exact_mod_cast i3
  subst mL;rw[i2];have hia:i<a:=by
   apply Classical.byContradiction;intro hh;exact Q5 i (by omega) i1 hb
  rcases vT (by omega)with hh | hh
  ·have ZL:i=a-1:=by
    apply Classical.byContradiction;intro yE;have:=I0 ND hh;exact i4 (a-1) (by omega) (by rw[X7];omega) (by rw[this];rfl)
   omega
  ·omega
theorem bQl {ls:List (List Nat)}(hL:lJ ls){a:Nat}{s:List Nat}(h:(a,s)∈JL 0 ls):iE 10 ((Qk ls).drop a)=s.length/\((Qk ls).drop a).take (s.length+1)=s++ [10]:=by
 obtain⟨pre,WR,e,hp,ht,hs⟩:=bQj hL h;have e2:(Qk ls).drop a=s++10::WR:=by rw[e,<-hp,qi]
 rw[e2];constructor
 ·unfold iE;rw[Qe (by simp)];congr 1;clear e e2 h;induction s with
  | nil=>simp
  | cons b s ih=>
   simp only[Q3,not_or] at hs;rw[Z5,bN,Qe (by simpa using λe:b=10=>hs.1 e.symm),Q6,ih hs.2,Q6]
 ·rw[show s++10::WR=(s++ [10])++WR by simp,List.take_left' (by simp)]
theorem bQm {ls:List (List Nat)}{e:Ed}(h:(JL 0 ls).any (gH e)=true):0<=e.fr/\e.fr<=e.to_/\e.to_<(Qk ls).length:=by
 obtain⟨⟨a,s⟩,hm,hp⟩:=wB.1 h;obtain⟨p1,p2,p3,p4⟩:=YC hp;have:=oL hm;simp only at p1 p2;omega
def Kk (e:EdV):List Value:=[.int .i64 e.fr,.int .i64 e.to_,.string (Qf e.tx),.slice e.x.A e.x.n e.x.c,.int .i64 e.x.r]
theorem rA (e:EdV):(Kk e).length=5:=rfl
structure EP where
 eb:Nat
 NA:Option Addr
 nn:Nat
 nc:Nat
 nm:List (List Nat)
 x:DV
 f:List Nat
 EA:Option Addr
 en:Nat
 ec:Nat
 es:List EdV
structure EK (w:World) (p:EP):Prop where
 blk:Blk w p.eb 99 [.slice p.NA p.nn p.nc,.slice p.x.A p.x.n p.x.c,.int .i64 p.x.r,.string (Qf p.f),.slice p.EA p.en p.ec]
 nms:Sl w 1 p.NA p.nn p.nc (X9 p.nm)
 eds:SlS Kk 5 w p.EA p.en p.ec p.es
 sbs:∀e∈p.es,SB w e.x.A e.x.n e.x.c e.x.nd
theorem EK.ext {w w':World}{p:EP}(h:EK w p)(k:Ext w w'):EK w' p:=⟨h.blk.ext k,h.nms.ext k,h.eds.ext k,λe he=>(h.sbs e he).ext k⟩
structure EB (p:EP):Prop where
 n4:p.nm.length<=4
 nb:KG p.nm
 nl:∀s∈p.nm,s.length<=1000
 f8:∀b∈p.f,b<256
 fl:p.f.length<=60000
 ok:cN p.f
 i64:∀e∈p.es, -9223372036854775808<=e.fr/\e.fr<=9223372036854775807/\ -9223372036854775808<=e.to_/\e.to_<=9223372036854775807
 t8:∀e∈p.es,∀b∈e.tx,b<256
 tl:∀e∈p.es,e.tx.length<=1000
 el:p.es.length<=10
abbrev uY (p:EP):Prop:=p.es.all (λe=>Kv p.nm.length e.x.nd e.x.r)=true/\j9 p.nm.length p.f 0 (p.es.map EdV.ed)=true
def kf (p:EP)(i:Nat):Int:=if i=0 then 0 else((p.es[i-1]?).map (·.fr)).getD 0
abbrev ye (p:EP)(i:Nat):Prop:=(p.es.drop i).all (λe=>Kv p.nm.length e.x.nd e.x.r)=true/\j9 p.nm.length p.f (kf p i) ((p.es.drop i).map EdV.ed)=true
theorem lQu {p:EP}{i:Nat}{e:EdV}(h:p.es[i]? =some e):ye p i↔(Kv p.nm.length e.x.nd e.x.r=true/\QF p.nm.length (oD e.x)≠ []/\(JL 0 (QW p.f)).any (gH e.ed)=true/\kf p i<=e.fr)/\ye p (i+1):=by
 have Xe:=(ZM.1 h).1;have hd:p.es.drop i=e::p.es.drop (i+1):=by
  rw[av Xe];congr 1;rw[XB Xe] at h;exact Option.some.inj h
 have hp:kf p (i+1)=e.fr:=by unfold kf;rw[if_neg (by omega),show i+1-1=i by omega,h]<;>rfl
 unfold ye;rw[hd,hp];simp only[wu,Kr,j9,IS,Z4,VJ];constructor
 ·rintro⟨⟨a,b⟩,⟨⟨c,d⟩,e1⟩,f⟩;exact⟨⟨a,c,d,e1⟩,b,f⟩
 ·rintro⟨⟨a,c,d,e1⟩,b,f⟩;exact⟨⟨a,b⟩,⟨⟨c,d⟩,e1⟩,f⟩
theorem bQn (l:List Nat)(w:World)(hl:l.length<=1000000000):
  Fn Tryz.prog 93 [.string (Qf l),.int .u8 10] w (λv w'=>v= .int .i64 (Lib.lastIndexByte (Qf l) 10)/\w=w'):=
 xJ (Tryz.strings_LastIndexByte (Qf l) 10 (by rw[Xi];omega) w)
theorem lQv (p:EP)(hB:EB p)(w:World)(K:EK w p):
  FnP Tryz.prog 45 [.pointer (some ⟨p.eb,0,none⟩)] w (λ_ w'=>uY p/\Ext w w') (λch w'=>¬uY p/\ch=kc 291/\Ext w w'):=by
 have F0:=K.eds.2;have Pu:=K.eds.1.cap;have pQk:=K.eds.1.le;simp only[maxLen] at Pu;have Q0:p.nm.length=p.nn:=by have:=K.nms.len;rw[bn] at this;omega
 refine bi (c:={c45 with cuts:=[]}) Qa Tryz.func45 rfl rfl rfl ?_;refine Qp K.blk rfl ?_;refine loop Qa [11] (λi:Nat=>[.int .i64 i]) (λi w'=>Ext w w'/\i<=p.en/\(uY p↔ye p i)) (λi _=>p.en-i) 0 rfl ⟨Ext.refl _,Xt _,Iff.rfl⟩ ?_;rintro i w1 ⟨Qd,hi,AP⟩;refine Qz (λc1=>?_) (λc1=>?_)
 ·have Q5:i<p.en:=by omega
  refine Zz rA (K.eds.ext Qd) rfl Q5 (λad e he hc=>?_);have kR:=Xk he;obtain⟨i1,i2,i3,i4⟩:=hB.i64 e kR;rw[lQu he] at AP;refine JN (vs:=Kk e) rfl hc ?_;refine new (λw2 Qg Zi Qv=>?_);refine Qw Qv rfl (sc rfl) (λw3 Je _ Qu=>?_);have XI:Ext w1 w3:=XV Qg Qv Je;have QY:=Qd.trans XI;have K3:=K.ext QY;have hd:=Ext.drew w3;have Fu:∀{w':World} (Qb:Ext w3 w') (j:Nat) (u:Value),(Kk e)[3+j]? =some u->w'.cell? (((⟨w1.heap.size,0,none⟩:Addr).add 3).add j)=some u:=λQb j u hj=>by rw[add_add,(Qu.ext Qb).cell];exact hj
  refine XL Qa (Ext w3) 55 [(true,0),(true,1),(true,2),(true,3),(true,4),(true,5),(true,6),(false,7),(true,8),(true,9),(true,10),(true,11),(true,12),(true,13),(true,14),(true,15),(true,16),(true,17),(true,18),(true,19),(true,20),(true,21),(true,22),(true,23),(true,24),(true,25),(true,26),(true,27),(true,28),(true,29),(true,30),(true,31),(true,32),(true,33),(true,34),(true,35),(true,36),(true,37),(true,38),(true,39),(true,40),(true,41),(true,42),(true,43),(true,44),(true,45),(true,46),(true,47),(true,48),(true,49),(true,50),(true,51),(true,52),(true,53),(true,54)] (by kernel_rfl) hd ?_;refine Xo (vs:=[.slice e.x.A e.x.n e.x.c,.int .i64 e.x.r]) rfl (λw' Qb j u hj=>Fu Qb j u (by match j,hj with | 0,hj=>exact hj | 1,hj=>exact hj)) ?_;refine QQ (v:=.slice p.NA p.nn p.nc) (λw' Qb=>(K3.blk.ext Qb).cell 0) ?_;rw[<-Q0];refine call (Iy e.x.A e.x.n e.x.c p.nm.length e.x.nd e.x.r w3.drew ((K3.sbs e kR).ext hd)) ?_;rintro _ w4 ⟨rfl,Qs⟩;have Va:=hd.trans Qs;have Xr:=QY.trans Va;refine⟨Va,?_⟩;have no:¬(Kv p.nm.length e.x.nd e.x.r=true/\QF p.nm.length (oD e.x)≠ []/\(JL 0 (QW p.f)).any (gH e.ed)=true/\kf p i<=e.fr)->¬uY p:=λXq hh=>Xq (AP.1 hh).1
  have Pv:(JL 0 (QW p.f)).any (gH e.ed)=true->0<=e.fr/\e.fr<=e.to_/\e.to_<p.f.length:=λh=>by
   have:=bQm h;rw[aE hB.ok] at this;exact this
  have eJ:=Xi p.f;cases YB:Kv p.nm.length e.x.nd e.x.r with
  | false=>
   refine Xc rfl ?_;refine XP (Y2 291 (by decide) w4) (λ_ _ hf=>hf.elim) ?_;rintro ch _ ⟨rfl,rfl⟩;exact⟨no (λhh=>by rw[YB] at hh;cases hh.1),rfl,Xr⟩
  | true=>
   refine Q7 rfl ?_;have se:=iN YB;have ku:=se.root0;refine QQ (v:=.int .i64 e.x.r) (λw' Qb=>Fu Qb 1 _ rfl) ?_;refine Zd (λhz=>?_) (λhz=>?_)
   ·refine XP (Y2 291 (by decide) w4) (λ_ _ hf=>hf.elim) ?_;rintro ch _ ⟨rfl,rfl⟩;exact⟨no (λhh=>hh.2.1 (ku.1 hz)),rfl,Xr⟩
   refine QQ (v:=.int .i64 e.fr) (λw' Qb=>(Qu.ext Qb).cell 0) ?_;refine Qz (λh1=>?_) (λh1=>?_)
   ·refine XP (Y2 291 (by decide) w4) (λ_ _ hf=>hf.elim) ?_;rintro ch _ ⟨rfl,rfl⟩;exact⟨no (λhh=>by have:=Pv hh.2.2.1;omega),rfl,Xr⟩
   refine QQ (v:=.int .i64 e.to_) (λw' Qb=>(Qu.ext Qb).cell 1) ?_;refine QQ (v:=.int .i64 e.fr) (λw' Qb=>(Qu.ext Qb).cell 0) ?_;refine Qz (λh2=>?_) (λh2=>?_)
   ·refine XP (Y2 291 (by decide) w4) (λ_ _ hf=>hf.elim) ?_;rintro ch _ ⟨rfl,rfl⟩;exact⟨no (λhh=>by have:=Pv hh.2.2.1;omega),rfl,Xr⟩
   refine QQ (v:=.int .i64 e.to_) (λw' Qb=>(Qu.ext Qb).cell 1) ?_;refine QQ (v:=.string (Qf p.f)) (λw' Qb=>(K3.blk.ext Qb).cell 3) ?_;refine Qz (λh3=>?_) (λh3=>?_)
   ·refine XP (Y2 291 (by decide) w4) (λ_ _ hf=>hf.elim) ?_;rintro ch _ ⟨rfl,rfl⟩;exact⟨no (λhh=>by have:=Pv hh.2.2.1;omega),rfl,Xr⟩
   have zt:(i:Int)<=9223372036854775807:=by omega
   refine Qz (λh4=>?_) (λh4=>?_)
   ·have vE:0<i:=by omega
    refine QQ (v:=.int .i64 e.fr) (λw' Qb=>(Qu.ext Qb).cell 0) ?_;refine QQ (v:=.slice p.EA p.en p.ec) (λw' Qb=>(K3.blk.ext Qb).cell 4) ?_;refine Qj ((i-1:Nat):Int) (by omega) (by omega) ?_;refine Zz rA K3.eds rfl (by omega) (λNE e2 he2 Yr=>?_);refine QQ (v:=.int .i64 e2.fr) (λw' Qb=>(Qb.cell (Yr 0 _ rfl))) ?_;have hpv:kf p i=e2.fr:=by unfold kf;rw[if_neg (by omega),he2]<;>rfl
    refine Qz (λh9=>?_) (λh9=>?_)
    ·refine XP (Y2 291 (by decide) w4) (λ_ _ hf=>hf.elim) ?_;rintro ch _ ⟨rfl,rfl⟩;exact⟨no (λhh=>by have:=hh.2.2.2;rw[hpv] at this;omega),rfl,Xr⟩
    have Pw:kf p i<=e.fr:=by rw[hpv];omega
    have de:e.fr=(e.fr.toNat:Int):=by omega
    obtain⟨a,s,hm,a1,a2⟩:=IT (ls:=QW p.f) (p:=0) (x:=e.fr.toNat) (Xt _) (by rw[aE hB.ok];omega);have jC:=nX p.f;have JY:=aE hB.ok;have AQ:=bQk jC (by rw[JY];exact hB.f8) hm a1 a2;have fY:=bQl jC hm;have AR:=oL hm;rw[JY] at AQ fY AR;have ti:=aQ2 (e:=e.ed) hm (by show(a:Int)<=e.fr;omega) (by show e.fr<=a+s.length;omega) (by show e.fr<=e.to_;omega);have sf:=Ext.drew w4;refine XL Qa (Ext w4) 10 [(true,0),(true,1),(true,2),(true,3),(true,4),(true,5),(true,6),(false,7),(true,8),(true,9)] (by kernel_rfl) sf ?_;refine QQ (v:=.string (Qf p.f)) (λw' Qb=>((K3.blk.ext Va).ext Qb).cell 3) ?_;refine QQ (v:=.int .i64 e.fr) (λw' Qb=>((Qu.ext Va).ext Qb).cell 0) ?_;refine XM (v':=.string (Qf (p.f.take e.fr.toNat))) ⟨by omega,by omega,by rw[eJ];omega⟩ (by rw[VN];rfl) ?_;refine call (bQn (p.f.take e.fr.toNat) w4.drew (by rw[K5];have:=hB.fl;omega)) ?_;rintro _ _ ⟨rfl,rfl⟩;refine⟨sf,?_⟩;rw[AQ];refine Qj (a:Int) (by omega) (by have:=hB.fl;omega) ?_;have nt:=Va.trans sf;have fZ:=QY.trans nt;refine Qp (K3.blk.ext nt) rfl ?_;refine XM (v':=.string (Qf (p.f.drop a))) ⟨by omega,by rw[eJ];omega,by rw[eJ];omega⟩ (by
     rw[VN,eJ];show Value.string (Qf ((p.f.take p.f.length).drop _))=_;rw[Jv (QC _)];rfl) ?_
    refine call (HN (p.f.drop a) 10 w4.drew (λx hx=>hB.f8 x (au hx)) (by decide)) ?_;rintro _ _ ⟨rfl,rfl⟩;rw[fY.1];refine Qj ((a+s.length:Nat):Int) (by omega) (by have:=hB.fl;omega) ?_;refine Qp (Qu.ext nt) rfl ?_;refine Qz (λh5=>?_) (λh5=>?_)
    ·refine XP (Y2 291 (by decide) w4.drew) (λ_ _ hf=>hf.elim) ?_;rintro ch _ ⟨rfl,rfl⟩;exact⟨no (λhh=>by have h7:=hh.2.2.1;rw[ti,VJ] at h7;have h8:e.to_<=_:=h7.1;omega),rfl,fZ⟩
    refine Qp (K3.blk.ext nt) rfl ?_;refine Qj ((a+s.length+1:Nat):Int) (by omega) (by have:=hB.fl;omega) ?_;refine XM (v':=.string (Qf (s++ [10]))) ⟨by omega,by omega,by rw[eJ];omega⟩ (by
     rw[VN];show Value.string (Qf ((p.f.take (a+s.length+1)).drop a))=_;rw[jF,show a+s.length+1-a=s.length+1 by omega,fY.2]) ?_
    have eC:∀b∈s++ [10],b<256:=λb hb=>by
     rw[<-fY.2] at hb;exact hB.f8 b (au (bf hb))
    refine call (CV (s++ [10]) w4.drew eC) ?_;rintro _ w6 ⟨rfl,QN⟩;have XS:=fZ.trans QN;rw[CC];refine Qz (λh6=>?_) (λh6=>?_)
    ·refine XP (Y2 291 (by decide) w6) (λ_ _ hf=>hf.elim) ?_;rintro ch _ ⟨rfl,rfl⟩;exact⟨no (λhh=>by have h7:=hh.2.2.1;rw[ti,VJ] at h7;exact h6 h7.2),rfl,XS⟩
    refine Qj ((i+1:Nat):Int) (by show((i:Nat):Int)+1=_;omega) (by omega) ?_;have Px:(JL 0 (QW p.f)).any (gH e.ed)=true:=by
     rw[ti,VJ];exact⟨by show e.to_<=_;omega,Decidable.not_not.1 h6⟩
    exact⟨i+1,rfl,⟨XS,Q5,AP.trans ⟨λh=>h.2,λh=>⟨⟨YB,λe0=>hz (ku.2 e0),Px,Pw⟩,h⟩⟩⟩,by show p.en-(i+1)<p.en-i;omega⟩
   ·have vE:i=0:=by omega
    have Pw:kf p i<=e.fr:=by unfold kf;rw[Qe vE];omega
    have de:e.fr=(e.fr.toNat:Int):=by omega
    obtain⟨a,s,hm,a1,a2⟩:=IT (ls:=QW p.f) (p:=0) (x:=e.fr.toNat) (Xt _) (by rw[aE hB.ok];omega);have jC:=nX p.f;have JY:=aE hB.ok;have AQ:=bQk jC (by rw[JY];exact hB.f8) hm a1 a2;have fY:=bQl jC hm;have AR:=oL hm;rw[JY] at AQ fY AR;have ti:=aQ2 (e:=e.ed) hm (by show(a:Int)<=e.fr;omega) (by show e.fr<=a+s.length;omega) (by show e.fr<=e.to_;omega);have sf:=Ext.drew w4;refine XL Qa (Ext w4) 10 [(true,0),(true,1),(true,2),(true,3),(true,4),(true,5),(true,6),(false,7),(true,8),(true,9)] (by kernel_rfl) sf ?_;refine QQ (v:=.string (Qf p.f)) (λw' Qb=>((K3.blk.ext Va).ext Qb).cell 3) ?_;refine QQ (v:=.int .i64 e.fr) (λw' Qb=>((Qu.ext Va).ext Qb).cell 0) ?_;refine XM (v':=.string (Qf (p.f.take e.fr.toNat))) ⟨by omega,by omega,by rw[eJ];omega⟩ (by rw[VN];rfl) ?_;refine call (bQn (p.f.take e.fr.toNat) w4.drew (by rw[K5];have:=hB.fl;omega)) ?_;rintro _ _ ⟨rfl,rfl⟩;refine⟨sf,?_⟩;rw[AQ];refine Qj (a:Int) (by omega) (by have:=hB.fl;omega) ?_;have nt:=Va.trans sf;have fZ:=QY.trans nt;refine Qp (K3.blk.ext nt) rfl ?_;refine XM (v':=.string (Qf (p.f.drop a))) ⟨by omega,by rw[eJ];omega,by rw[eJ];omega⟩ (by
     rw[VN,eJ];show Value.string (Qf ((p.f.take p.f.length).drop _))=_;rw[Jv (QC _)];rfl) ?_
    refine call (HN (p.f.drop a) 10 w4.drew (λx hx=>hB.f8 x (au hx)) (by decide)) ?_;rintro _ _ ⟨rfl,rfl⟩;rw[fY.1];refine Qj ((a+s.length:Nat):Int) (by omega) (by have:=hB.fl;omega) ?_;refine Qp (Qu.ext nt) rfl ?_;refine Qz (λh5=>?_) (λh5=>?_)
    ·refine XP (Y2 291 (by decide) w4.drew) (λ_ _ hf=>hf.elim) ?_;rintro ch _ ⟨rfl,rfl⟩;exact⟨no (λhh=>by have h7:=hh.2.2.1;rw[ti,VJ] at h7;have h8:e.to_<=_:=h7.1;omega),rfl,fZ⟩
    refine Qp (K3.blk.ext nt) rfl ?_;refine Qj ((a+s.length+1:Nat):Int) (by omega) (by have:=hB.fl;omega) ?_;refine XM (v':=.string (Qf (s++ [10]))) ⟨by omega,by omega,by rw[eJ];omega⟩ (by
     rw[VN];show Value.string (Qf ((p.f.take (a+s.length+1)).drop a))=_;rw[jF,show a+s.length+1-a=s.length+1 by omega,fY.2]) ?_
    have eC:∀b∈s++ [10],b<256:=λb hb=>by
     rw[<-fY.2] at hb;exact hB.f8 b (au (bf hb))
    refine call (CV (s++ [10]) w4.drew eC) ?_;rintro _ w6 ⟨rfl,QN⟩;have XS:=fZ.trans QN;rw[CC];refine Qz (λh6=>?_) (λh6=>?_)
    ·refine XP (Y2 291 (by decide) w6) (λ_ _ hf=>hf.elim) ?_;rintro ch _ ⟨rfl,rfl⟩;exact⟨no (λhh=>by have h7:=hh.2.2.1;rw[ti,VJ] at h7;exact h6 h7.2),rfl,XS⟩
    refine Qj ((i+1:Nat):Int) (by show((i:Nat):Int)+1=_;omega) (by omega) ?_;have Px:(JL 0 (QW p.f)).any (gH e.ed)=true:=by
     rw[ti,VJ];exact⟨by show e.to_<=_;omega,Decidable.not_not.1 h6⟩
    exact⟨i+1,rfl,⟨XS,Q5,AP.trans ⟨λh=>h.2,λh=>⟨⟨YB,λe0=>hz (ku.2 e0),Px,Pw⟩,h⟩⟩⟩,by show p.en-(i+1)<p.en-i;omega⟩
 ·have Q5:i=p.en:=by omega
  have cz:p.es.drop i=[]:=qg (by omega);exact⟨AP.2 (by unfold ye;rw[cz];exact⟨rfl,rfl⟩),Qd⟩
def cX (n:Nat)(f:List Nat)(o:BF)(a:Nat)(es:List Ed):List AV:=es.foldl (λvs e=>vs.flatMap (Yn n f e)) [⟨o,[],a⟩]
theorem lQw (n:Nat)(f:List Nat)(o:BF)(a:Nat)(es:List Ed)(e:Ed):cX n f o a (es++ [e])=(cX n f o a es).flatMap (Yn n f e):=by unfold cX;rw[P4]<;>rfl
theorem oM {α:Type}{l:List α}{i:Nat}{x:α}(h:l[i]? =some x):l.take (i+1)=l.take i++ [x]:=by rw[V3,h]<;>rfl
theorem Dj {n:Nat}{f:List Nat}{o:BF}{a:Nat}(QO:QF n o≠ []):∀(es:List Ed),VI n f (QF n o) a es (cX n f o a es):=by
 have key:∀(es pre:List Ed) (vs:List AV),VI n f (QF n o) a pre vs->VI n f (QF n o) a (pre++es) (es.foldl (λvs e=>vs.flatMap (Yn n f e)) vs):=by
  intro es;induction es with
  | nil=>intro pre vs h;simpa using h
  | cons e es ih=>
   intro pre vs h;have:=ih (pre++ [e]) (vs.flatMap (Yn n f e)) (h.step (λc hc=>(Z0.1 hc).1) e);simpa using this
 intro es;have:=key es [] _ (VI.start (f:=f) (a:=a) QO);rw[aZ] at this;exact this
theorem lQx (n:Nat)(f:List Nat)(e:Ed)(v:AV):(Yn n f e v).length<=2:=by
 unfold Yn;split
 ·split<;>simp
 ·simp only[Q6];split<;>simp
theorem I1 (n:Nat)(f:List Nat)(e:Ed):∀vs:List AV,(vs.flatMap (Yn n f e)).length<=2*vs.length
 | []=>by simp
 | v::vs=>by
  rw[VH,Qq,Q6];have:=lQx n f e v;have:=I1 n f e vs;omega
theorem lQy (n:Nat)(f:List Nat)(o:BF)(a:Nat):∀(es:List Ed),(cX n f o a es).length<=2^es.length:=by
 have key:∀(es:List Ed) (vs:List AV),(es.foldl (λvs e=>vs.flatMap (Yn n f e)) vs).length<=2^es.length*vs.length:=by
  intro es;induction es with
  | nil=>intro vs;simp
  | cons e es ih=>
   intro vs;have h1:=ih (vs.flatMap (Yn n f e));have h2:=I1 n f e vs;have h3:=Nat.mul_le_mul_left (2^es.length) h2;rw[wt,Q6,nD,Nat.mul_assoc];omega
 intro es;have:=key es [⟨o,[],a⟩];simpa [cX] using this
structure VB (B T:Nat) (v:AV):Prop where
 b8:∀b∈v.d,b<256
 ln:v.d.length<=B
 at_:v.a<=T
theorem rB (f:List Nat)(a b:Nat):(Kj f a b).length<=f.length:=by unfold Kj;rw[K5,YR];omega
theorem uZ {f:List Nat}(h:∀b∈f,b<256)(x y:Nat):∀b∈Kj f x y,b<256:=λb hb=>h b (au (bf hb))
theorem VB.step {B T:Nat}{v:AV}(h:VB B T v){n:Nat}{f:List Nat}{e:Ed}(hf:∀b∈f,b<256)(Ja:f.length<=60000)(ht:∀b∈e.tx,b<256)(Wv:e.tx.length<=1000)(he:e.to_.toNat<=T):∀u∈Yn n f e v,VB (B+70000) T u:=λu hu=>by
 unfold Yn at hu;split at hu
 ·split at hu
  ·cases hu
  ·rw[QL.1 hu];exact⟨h.b8,by have:=h.ln;omega,h.at_⟩
 ·rcases Q3.1 hu with rfl | hu
  ·refine⟨λb hb=>?_,?_,he⟩
   ·simp only[Xv] at hb;rcases hb with(hb | hb) | hb
    ·exact h.b8 b hb
    ·exact uZ hf _ _ b hb
    ·exact ht b hb
   ·simp only[Qq];have:=h.ln;have:=rB f v.a e.fr.toNat;omega
  ·split at hu
   ·cases hu
   ·rw[QL.1 hu];exact⟨h.b8,by have:=h.ln;simp only;omega,h.at_⟩
theorem lQz {n:Nat}{f:List Nat}{o:BF}{a T:Nat}(hf:∀b∈f,b<256)(Ja:f.length<=60000)(haT:a<=T):∀(es:List Ed),(∀e∈es,(∀b∈e.tx,b<256)/\e.tx.length<=1000/\e.to_.toNat<=T)->∀v∈cX n f o a es,VB (es.length*70000) T v:=by
 have key:∀(es:List Ed) (vs:List AV) (B:Nat),(∀e∈es,(∀b∈e.tx,b<256)/\e.tx.length<=1000/\e.to_.toNat<=T)->(∀v∈vs,VB B T v)->∀v∈es.foldl (λvs e=>vs.flatMap (Yn n f e)) vs,VB (B+es.length*70000) T v:=by
  intro es;induction es with
  | nil=>intro vs B _ h v hv;simpa using h v hv
  | cons e es ih=>
   intro vs B he h v hv;obtain⟨e1,e2,e3⟩:=he e (by simp);have:=ih (vs.flatMap (Yn n f e)) (B+70000) (λb hb=>he b (by simp[hb])) (λu hu=>by
    obtain⟨v0,fA,hu⟩:=cB.1 hu;exact(h v0 fA).step hf Ja e1 e2 e3 u hu) v hv
   rw[Q6,nz,Bl];rw[show B+(es.length*70000+70000)=B+70000+es.length*70000 by omega];exact this
 intro es he v hv;have:=key es [⟨o,[],a⟩] 0 he (λv hv=>by rw[QL.1 hv];exact⟨(λb hb=>by cases hb),Xt _,haT⟩) v hv
 rwa [a8] at this
theorem lQA {n:Nat}{f:List Nat}{o:BF}{a i:Nat}{es:List Ed}{e:Ed}(QO:QF n o≠ [])(ha:cV (QF n o) es=true)(hi:es[i]? =some e)(h0:(a:Int)<=e.fr)(hp:∀b∈es,0<=b.to_){v:AV}(hv:v∈cX n f o a (es.take i))(hb:QF n (ZD v.o e.o)≠ []):(v.a:Int)<=e.fr:=by
 obtain⟨c,hc⟩:=tE _ hb;obtain⟨c1,c2⟩:=Z0.1 hc;have c2:(v.o (bits c)&&e.o (bits c))=true:=c2;rw[Z4] at c2;obtain⟨q1,q2⟩:=(Dj (f:=f) (a:=a) QO (es.take i)).st v hv c (Z0.2 ⟨c1,c2.1⟩);have:=lQf (f:=f) ha (a:=a) hi q1 c2.2 h0 hp;rw[q2] at this;exact this
theorem lQB {n:Nat}{f:List Nat}{o:BF}{a stop:Nat}{es:List Ed}(QO:QF n o≠ []):((QF n o).all (λc=>Vj (W6 f stop a es c))=true)↔∀v∈cX n f o a es,Vj (v.d++Kj f v.a stop)=true:=by
 have hI:=Dj (f:=f) (a:=a) QO es;constructor
 ·intro h v hv;obtain⟨c,hc⟩:=tE _ (hI.ne v hv);obtain⟨q1,q2⟩:=hI.st v hv c hc;have:=J0.1 h c q1;unfold W6 at this;rw[q2] at this;exact this
 ·intro h;refine J0.2 (λc hc=>?_);obtain⟨v,hv,pY⟩:=hI.cov c hc;obtain⟨_,q2⟩:=hI.st v hv c (Z0.2 ⟨(Z0.1 hc).1,pY⟩);unfold W6;rw[q2];exact h v hv
def lX (f:List Nat)(stop:Nat)(vs:List AV):List Pr:=vs.foldl (λps v=>cW ps v.o (v.d++Kj f v.a stop)) []
theorem lQC (f:List Nat)(stop:Nat)(vs:List AV)(v:AV):lX f stop (vs++ [v])=cW (lX f stop vs) v.o (v.d++Kj f v.a stop):=by unfold lX;rw[P4]<;>rfl
theorem lQD {n:Nat}{f:List Nat}{o:BF}{a stop:Nat}{es:List Ed}(QO:QF n o≠ []):QI n (QF n o) (W6 f stop a es) (cX n f o a es) (lX f stop (cX n f o a es)):=by
 have hI:=Dj (f:=f) (a:=a) QO es;generalize cX n f o a es=V at*;have key:∀(vs pre:List AV) (ps:List Pr),(∀v∈vs,v∈V)->QI n (QF n o) (W6 f stop a es) pre ps->QI n (QF n o) (W6 f stop a es) (pre++vs) (vs.foldl (λps v=>cW ps v.o (v.d++Kj f v.a stop)) ps):=by
  intro vs;induction vs with
  | nil=>intro pre ps _ h;simpa using h
  | cons v vs ih=>
   intro pre ps hV h;have:=ih (pre++ [v]) _ (λu hu=>hV u (by simp[hu])) (h.ins (v:=v) (t:=v.d++Kj f v.a stop) (λc hc=>by
    obtain⟨q1,q2⟩:=hI.st v (hV v (by simp)) c hc;refine⟨q1,?_⟩;unfold W6;rw[q2]))
   simpa using this
 have:=key V [] [] (λv hv=>hv) QI.nil;rw[aZ] at this;exact this
theorem bQo {f:List Nat}{stop:Nat}{P:List Nat->Prop}:∀(vs:List AV),(∀v∈vs,P (v.d++Kj f v.a stop))->∀q∈lX f stop vs,P q.t:=by
 have key:∀(vs:List AV) (ps:List Pr),(∀v∈vs,P (v.d++Kj f v.a stop))->(∀q∈ps,P q.t)->∀q∈vs.foldl (λps v=>cW ps v.o (v.d++Kj f v.a stop)) ps,P q.t:=by
  intro vs;induction vs with
  | nil=>intro ps _ h;exact h
  | cons v vs ih=>
   intro ps hv h;refine ih _ (λu hu=>hv u (by simp[hu])) (λq hq=>?_);have hq:q∈cW ps v.o (v.d++Kj f v.a stop):=hq;unfold cW at hq;split at hq
   ·rename_i p hp;rcases P6 hq with hq | rfl
    ·exact h q hq
    ·exact h p (Xk hp)
   ·rcases Xv.1 hq with hq | hq
    ·exact h q hq
    ·rw[QL.1 hq];exact hv v (by simp)
 intro vs hv;exact key vs [] hv (λq hq=>by cases hq)
theorem bQp {α:Type}{f:α->List Value}{sz:Nat}(hf:∀x,(f x).length=sz):∀(l:Nat)(L:List α),(L.drop l).flatMap f=(L.flatMap f).drop (l*sz)
 | 0,L=>by simp
 | l+1,[]=>by simp
 | l+1,x::L=>by
  rw[PW,bQp hf l L,VH,nz,Bl,Nat.add_comm,<-tr];congr 1;rw[<-hf x,qi]
theorem SlS.from {α:Type}{f:α->List Value}{sz:Nat}(hf:∀x,(f x).length=sz){w:World}{A:Option Addr}{n c l:Nat}{L:List α}(h:SlS f sz w A n c L)(hl:l<=n):SlS f sz w (if c=l then A else A.map (·.add (l*sz))) (n-l) (c-l) (L.drop l):=by
 have h1:=h.1.len;have h2:=h.1.le;have h3:=h.1.cap;refine⟨?_,by rw[YR,h.2]⟩;rw[bQp hf];refine⟨by rw[YR,h1,<-Nat.sub_mul],by omega,by omega,λh0=>?_⟩;obtain⟨ad,rfl,hc⟩:=h.1.at_ (by omega);refine⟨ad.add (l*sz),by rw[if_neg (by omega)];rfl,λj u hu=>?_⟩;rw[Addr.add_add];exact hc _ _ (by rw[List.getElem?_drop] at hu;exact hu)
theorem bQq {n:Nat}(hn:n<=12){x y:DV}{o o':BF}(s:Set1 n x.nd x.r o)(s':Set1 n y.nd y.r o'):q7 x.nd x.r y.nd y.r= !(Wh (QF n o') o):=by
 cases hm:Wh (QF n o') o with
 | true=>
  obtain⟨c,hc,hoc⟩:=wB.1 hm;refine Ib (λh=>h.2.2 ⟨bits c,by rw[s.mean];exact hoc,by rw[s'.mean];exact(Z0.1 hc).2⟩)
 | false=>
  refine Uz ⟨s.chk hn,s'.chk hn,λ⟨e,h1,h2⟩=>?_⟩;rw[s.mean] at h1;rw[s'.mean] at h2;obtain⟨c,hc,hb⟩:=C7 n e;have:Wh (QF n o') o=true:=wB.2 ⟨c,Z0.2 ⟨hc,by rw[s'.dep _ e hb];exact h2⟩,by rw[s.dep _ e hb];exact h1⟩;rw[hm] at this;cases this
theorem lQE {k:Nat}(hk:k<=12)(x y:DV){o o':BF}(w:World)(h:SB w x.A x.n x.c x.nd)(h':SB w y.A y.n y.c y.nd)(s:Set1 k x.nd x.r o)(s':Set1 k y.nd y.r o'):
  Fn Tryz.prog 101 [Xl x.A x.n x.c x.r,Xl y.A y.n y.c y.r] w (xO w k (λe=>o e||o' e)):=by
 refine(TM x.A x.n x.c x.nd x.r y.A y.n y.c y.nd y.r w h h').mono ?_;rw[iC hk s s' 1];have c1:Set1 k _ _ (λe=>o e||o' e):=(eX s s' 1).congr (λe=>by simp[Kt]);generalize V4 x.nd x.r y.nd y.r 1=D at*;obtain⟨D1,D2⟩:=D;rintro v w' ⟨PA,q,pc,rfl,hE,hP,hR⟩;exact⟨PA,q,pc,D1,D2,rfl,hE,hP,c1,hR⟩
theorem lQF (q:DV×List Nat)(t:List Nat)(tb:Nat)(w:World)(hq:∀b∈q.2,b<256)(ht:∀b∈t,b<256)(hB:Blk w tb 9 [.string (Qf t)]):
  Fn Tryz.prog 99 [.agg (JK q).toArray,.pointer (some ⟨tb,0,none⟩)] w (λu w'=>u= .bool (decide (q.2=t))/\Ext w w'):=by
 refine QH (c:={c99 with cuts:=[]}) Qa Tryz.func99 rfl rfl rfl ?_;refine new (λw1 Qd Q9 Qh=>?_);refine Qp Qh rfl ?_;refine Qy (hB.ext Qd) rfl ?_;refine⟨?_,Qd⟩;refine QD Value.bool ?_;refine wC.2 ⟨λe=>Kg hq ht e,λe=>by rw[e]⟩
theorem lQG (PA:Option Addr)(pn pc:Nat)(ps:List (DV×List Nat))(t:List Nat)(tb:Nat)(w:World)(h:SlS JK 3 w PA pn pc ps)(hp:∀q∈ps,∀b∈q.2,b<256)(ht:∀b∈t,b<256)(hB:Blk w tb 9 [.string (Qf t)]):
  Fn Tryz.prog 98 [.slice PA pn pc,.func (.func 99) #[] #[.pointer (some ⟨tb,0,none⟩)]] w (λu w'=>u= .int .i64 (if Wj (Zv ps) t<pn then(Wj (Zv ps) t:Int)else -1)/\Ext w w'):=by
 have hn:=h.2;have ZL:=h.1.le;have bI:=h.1.cap;have Jf:(Zv ps).length=ps.length:=by simp[Zv]
 obtain⟨s1,s2⟩:=Df t (Zv ps);refine QH (c:={c98 with cuts:=[]}) Qa Tryz.func98 rfl rfl rfl ?_;refine loop Qa [8] (λi:Nat=>[.int .i64 i]) (λi w'=>Ext w w'/\i<=pn/\∀q∈ps.take i,q.2≠t) (λi _=>pn-i) 0 rfl ⟨Ext.refl _,Xt _,λq hq=>by simp at hq⟩ ?_;rintro i w1 ⟨Qd,hi,Xq⟩;have hge:i<=Wj (Zv ps) t:=by
  apply Classical.byContradiction;intro hh;have Xe:Wj (Zv ps) t<ps.length:=by omega
  obtain⟨q,hq⟩:∃q,ps[Wj (Zv ps) t]? =some q:=⟨_,XB Xe⟩
  have:=s1 ⟨oD q.1,q.2⟩ (by unfold Zv;rw[aq];show Option.map _ (ps[Wj (Zv ps) t]?)=_;rw[hq];rfl);exact Xq q (Xk (i:=Wj (Zv ps) t) (by rw[qe (by omega)];exact hq)) this
 refine Qz (λc1=>?_) (λc1=>?_)
 ·have Q5:i<pn:=by omega
  refine Zz IE (h.ext Qd) rfl Q5 (λad q hq hc=>?_);have jB:=Xk hq;refine JN (vs:=JK q) rfl hc ?_;refine call (lQF q t tb w1 (hp q jB) ht (hB.ext Qd)) ?_;rintro _ w2 ⟨rfl,Qg⟩;have jq:(Zv ps)[i]? =some ⟨oD q.1,q.2⟩:=by unfold Zv;rw[aq,hq]<;>rfl
  refine Qz (λd1=>?_) (λd1=>?_)
  ·have KF:Wj (Zv ps) t=i:=by
    apply Classical.byContradiction;intro hh;exact s2 i _ jq (by omega) d1
   rw[KF,Qe Q5];exact⟨rfl,Qd.trans Qg⟩
  ·simp only[maxLen] at bI;refine Qj ((i+1:Nat):Int) (by show((i:Nat):Int)+1=_;omega) (by omega) ?_;refine⟨i+1,rfl,⟨Qd.trans Qg,Q5,λq' hq'=>?_⟩,by show pn-(i+1)<pn-i;omega⟩;rw[V3,hq] at hq';rcases Xv.1 hq' with hq' | hq'
   ·exact Xq q' hq'
   ·have:q'=q:=by simpa using hq'
    rw[this];exact d1
 ·have Q5:i=pn:=by omega
  rw[if_neg (by omega)];exact⟨rfl,Qd⟩
theorem lQH {j:Nat}{vs l:List Value}{c:Value}(h:l[j+vs.length]? =some c):Vh j vs l=Vh j (vs++ [c]) l:=by
 have Xe:=(ZM.1 h).1;rw[jR j vs l (by omega),jR j (vs++ [c]) l (by simp;omega)];rw[ZR,ZR,ZR];congr 2;rw[av Xe,Qq,gi];have:l[j+vs.length]=c:=by rw[XB Xe] at h;exact Option.some.inj h
 rw[this]<;>rfl
theorem lQI (f:List Nat)(stop:Nat):∀vs:List AV,(lX f stop vs).length<=vs.length:=by
 have key:∀(vs:List AV) (ps:List Pr),(vs.foldl (λps v=>cW ps v.o (v.d++Kj f v.a stop)) ps).length<=ps.length+vs.length:=by
  intro vs;induction vs with
  | nil=>intro ps;simp
  | cons v vs ih=>
   intro ps;have h1:=ih (cW ps v.o (v.d++Kj f v.a stop));have h2:(cW ps v.o (v.d++Kj f v.a stop)).length<=ps.length+1:=by
    unfold cW;split
    ·rw[gb];omega
    ·simp
   rw[wt,Q6];omega
 intro vs;have:=key vs [];simpa [lX] using this
theorem Dk {n:Nat}{qs:List (DV×Pr)}(h:∀q∈qs,Set1 n q.1.nd q.1.r q.2.o):Zv (qs.map (λq=>(q.1,q.2.t)))=qs.map (·.2):=by
 unfold Zv;rw[ny];refine List.map_congr_left (λq hq=>?_);have:oD q.1=q.2.o:=funext (λe=>(h q hq).mean e);show(⟨oD q.1,q.2.t⟩:Pr)=q.2;rw[this]
theorem I4 {ad:Addr}{n j sz:Nat}{K:Addr->Prop}(h:j<n)(k:K (ad.add (j*sz))):Wz (some ad) n (j:Int) sz K:=by
 unfold Wz;exact⟨ad,rfl,by omega,by omega,by simpa using k⟩
def VT (v:DV×AV):List Value:=[.slice v.1.A v.1.n v.1.c,.int .i64 v.1.r,.string (Qf v.2.d),.int .i64 v.2.a]
theorem bQr (v:DV×AV):(VT v).length=4:=rfl
def Jm (q:DV×Pr):List Value:=JK (q.1,q.2.t)
theorem Dl (q:DV×Pr):(Jm q).length=3:=rfl
theorem Dm (l:List (DV×Pr)):l.flatMap Jm=(l.map (λq=>(q.1,q.2.t))).flatMap JK:=by rw[List.flatMap_map]<;>rfl
theorem lQJ (e:EdV):∀u∈Kk e,JF u=true:=sc rfl
theorem I5 (v:DV×AV):∀u∈VT v,JF u=true:=sc rfl
theorem bQs (v:DV×List Nat):∀u∈JK v,JF u=true:=sc rfl
theorem lQK {p:EP}(hV:uY p):∀e∈p.es,Kv p.nm.length e.x.nd e.x.r=true/\(JL 0 (QW p.f)).any (gH e.ed)=true:=by
 obtain⟨h1,h2⟩:=hV;have key:∀(es:List Ed) (q:Int),j9 p.nm.length p.f q es=true->∀e∈es,(JL 0 (QW p.f)).any (gH e)=true:=by
  intro es;induction es with
  | nil=>intro q _ e he;cases he
  | cons b es ih=>
   intro q h e he;rw[j9,Z4,Z4,IS,Z4] at h;rcases Q3.1 he with rfl | he
   ·exact h.1.1.2
   ·exact ih _ h.2 e he
 exactλe he=>⟨J0.1 h1 e he,key _ 0 h2 e.ed (ZG.2 ⟨e,he,rfl⟩)⟩
theorem lQL (es:List EdV)(S:List Nat)(a:Nat)(s:List Nat):ff (es.map EdV.ed) S a s=(es.filter (λe=>lW a s e.ed&&Wh S e.ed.o)).map EdV.ed:=by
 unfold ff;rw[List.filter_map]<;>rfl
theorem lQM {α:Type}{l:List α}{i:Nat}{x:α}(h:l[i]? =some x):l.drop i=x::l.drop (i+1):=by
 have Xe:=(ZM.1 h).1;rw[av Xe];congr 1;rw[XB Xe] at h;exact Option.some.inj h
theorem lQN (p:EP)(hB:EB p)(hV:uY p)(a:Nat)(s:List Nat)(hm:(a,s)∈JL 0 (QW p.f))(d:DV)(o:BF)(w:World)(K:EK w p)(hd:SB w d.A d.n d.c d.nd)(sd:Set1 p.nm.length d.nd d.r o):
  FnP Tryz.prog 48 [.pointer (some ⟨p.eb,0,none⟩),.string (Qf (s++ [10])),.int .i64 a,Xl d.A d.n d.c d.r] w
   (λu w'=>∃L,ee p.nm p.f (p.es.map EdV.ed) (QF p.nm.length o) a s=some L/\uF w u (L.map (·++ [10])) w')
   (λch w'=>ee p.nm p.f (p.es.map EdV.ed) (QF p.nm.length o) a s=none/\ch=kc 291/\Ext w w'):=by
 have jC:=nX p.f;have JY:=aE hB.ok;have AR:=oL hm;rw[JY] at AR;have Ja:=hB.fl;have hk:p.nm.length<=12:=by have:=hB.n4;omega
 have F0:=K.eds.2;have qQf:=hB.el;have Pu:=K.eds.1.cap;have pQk:=K.eds.1.le;simp only[maxLen] at Pu;have AT:(Qf (s++ [10])).size=s.length+1:=by rw[Xi];simp
 have eJ:=Xi p.f;have hval:=lQK hV;generalize wq:QF p.nm.length o=S at*;have AU:∀e∈p.es,0<=e.fr/\e.fr<=e.to_/\e.to_<p.f.length:=λe he=>by
  have:=bQm (hval e he).2;rw[JY] at this;exact this
 refine bi (c:={c48 with cuts:=[]}) Qa Tryz.func48 rfl rfl rfl ?_;refine new (λw1 Qd Q9 Qh=>?_);have K1:=K.ext Qd;refine Qp K1.blk rfl ?_;refine loop Qa [33,9] (λt:Nat×List EdV×Option Addr×Nat=>[.int .i64 t.1,.slice t.2.2.1 t.2.1.length t.2.2.2]) (λt w'=>Ext w1 w'/\t.1<=p.en/\t.2.1=(p.es.take t.1).filter (λe=>lW a s e.ed&&Wh S e.ed.o)/\Own w' w1.heap.size 58 5 t.2.2.1 t.2.1.length t.2.2.2 (t.2.1.flatMap Kk)) (λt _=>p.en-t.1) (0,[],none,0) rfl ⟨Ext.refl _,Xt _,by simp,Own.nil _ _ _ _⟩ ?_;rintro⟨i,m,MA,mc⟩ w2 ⟨Qg,hi,bM,hO⟩;simp only at hi bM hO;have QR:=Qd.trans Qg;have FO:m.length<=i:=by rw[bM];exact X4 (qh _ _) (by rw[K5];omega)
 refine Qz (λc1=>?_) (λc1=>?_)
 ·have Q5:i<p.en:=by simp only at c1;omega
  refine Zz rA (K.ext QR).eds rfl Q5 (λad e he hc=>?_);have kR:=Xk he;obtain⟨e1,e2,e3⟩:=AU e kR;have se:=iN (hval e kR).1;refine JN (vs:=Kk e) rfl hc ?_;refine new (λw3 Qi JD Qu=>?_);refine Qw Qu rfl (sc rfl) (λw4 W8 _ QX=>?_);have ZE:Ext w2 w4:=XV Qi Qu W8;refine Qy QX rfl ?_;refine Qz (λd1=>?_) (λd1=>?_)
  ·refine Qp QX rfl ?_;refine Qj ((a+s.length+1:Nat):Int) (by rw[AT];omega) (by omega) ?_;refine Qz (λd2=>?_) (λd2=>?_)
   ·refine gq (vs:=[.slice e.x.A e.x.n e.x.c,.int .i64 e.x.r]) QX rfl (λj u hj=>by match j,hj with | 0,hj=>exact hj | 1,hj=>exact hj) ?_;refine Qt (Qh.ext (Qg.trans ZE)) rfl ?_;refine call (UA e.x.A e.x.n e.x.c e.x.nd e.x.r d.A d.n d.c d.nd d.r w4 ((K.sbs e kR).ext (QR.trans ZE)) (hd.ext (QR.trans ZE))) ?_;rintro _ w5 ⟨rfl,Qx⟩;have Ko:=ZE.trans Qx;rw[bQq hk se sd,wq];have Pp:lW a s e.ed=true:=X2 ⟨by show(a:Int)<=e.fr;omega,by show e.to_<=a+s.length;omega⟩;cases sG:Wh S (oD e.x)with
    | false=>
     refine Q7 rfl ?_;refine Qj ((i+1:Nat):Int) (by show((i:Nat):Int)+1=_;omega) (by omega) ?_;refine⟨(i+1,m,MA,mc),rfl,⟨Qg.trans Ko,Q5,?_,hO.ext Ko⟩,by show p.en-(i+1)<p.en-i;omega⟩;simp only;rw[oM he,tC,<-bM,gh,if_neg (by show¬(lW a s e.ed&&Wh S (oD e.x))=true;rw[sG,Bool.and_false];decide),Gq,JZ]
    | true=>
     refine Xc rfl ?_;refine Qt (QX.ext Qx) rfl ?_;refine Xw Qa [Kk e] rfl rfl rfl rfl rfl ⟨rfl,rfl,⟨⟩⟩ rfl (λcs h=>by simp only[QL] at h;subst h;rfl) rfl (by decide) (by decide) ?_;intro w6 QN cj Xg;have jg:=Ko.trans QN;have yu:Sl w6 5 (some ⟨w5.heap.size,0,none⟩) 1 1 (Kk e):=Sl.own (sz:=5) (n:=1) Xg (QC _) (by decide) (by simp[Kk]);refine JH (n:=m.length) Qa rfl rfl rfl rfl rfl (by decide) rfl rfl ⟨_,rfl⟩ rfl rfl (hO.ext jg) yu (lQJ e) (by unfold maxLen;omega) (by show(m.length+1)*64<=_;omega) (by have:=Qg.size;have:=jg.size;omega) ?_;intro A' c' w7 JW o7 nQI;refine Qj ((i+1:Nat):Int) (by show((i:Nat):Int)+1=_;omega) (by omega) ?_;refine⟨(i+1,m++ [e],A',c'),by simp only[Qq];rfl,⟨JW.ext (Qg.trans jg) (λk hk=>(hO.rows k hk).1),Q5,?_,?_⟩,by show p.en-(i+1)<p.en-i;omega⟩
     ·simp only;rw[oM he,tC,<-bM,gh,Qe (by show(lW a s e.ed&&Wh S (oD e.x))=true;rw[sG,Pp];rfl),Gq]
     ·simp only;rw[Qq,Wy];simpa using o7
   ·refine Qj ((i+1:Nat):Int) (by show((i:Nat):Int)+1=_;omega) (by omega) ?_;refine⟨(i+1,m,MA,mc),rfl,⟨Qg.trans ZE,Q5,?_,hO.ext ZE⟩,by show p.en-(i+1)<p.en-i;omega⟩;simp only;rw[oM he,tC,<-bM,gh,if_neg (by intro hh;rw[Z4] at hh;have h3:(a:Int)<=e.fr/\e.to_<=a+s.length:=YC hh.1;omega),Gq,JZ]
  ·refine Qj ((i+1:Nat):Int) (by show((i:Nat):Int)+1=_;omega) (by omega) ?_;refine⟨(i+1,m,MA,mc),rfl,⟨Qg.trans ZE,Q5,?_,hO.ext ZE⟩,by show p.en-(i+1)<p.en-i;omega⟩;simp only;rw[oM he,tC,<-bM,gh,if_neg (by intro hh;rw[Z4] at hh;have h3:(a:Int)<=e.fr/\e.to_<=a+s.length:=YC hh.1;omega),Gq,JZ]
 have Q5:i=p.en:=by simp only at c1;omega
 have bM:m=p.es.filter (λe=>lW a s e.ed&&Wh S e.ed.o):=by rw[bM,Jv (by omega)]
 have F3:=lQL p.es S a s;rw[<-bM] at F3;have pV:∀e∈m,e∈p.es/\(a:Int)<=e.fr/\e.to_<=a+s.length/\Wh S (oD e.x)=true:=λe he=>by
  rw[bM] at he;obtain⟨h1,h2⟩:=Jc.1 he;rw[Z4] at h2;have h3:(a:Int)<=e.fr/\e.to_<=a+s.length:=YC h2.1;exact⟨h1,h3.1,h3.2,h2.2⟩
 have JE:m.length<=10:=by omega
 have hM:SlS Kk 5 w2 MA m.length mc m:=⟨hO.sl,rfl⟩
 clear bM hi c1;have tj:ee p.nm p.f (p.es.map EdV.ed) S a s=if m.map EdV.ed=[] then some [s] else if cV S (m.map EdV.ed)=false then none else if S.all (λc=>Vj (W6 p.f (a+s.length+1) a (m.map EdV.ed) c))=false then none else some (X0 p.nm (W6 p.f (a+s.length+1) a (m.map EdV.ed)) p.nm.length 0 S):=by
  unfold ee;rw[F3]
 generalize ee p.nm p.f (p.es.map EdV.ed) S a s=RES at*;refine Zd (λh0=>?_) (λh0=>?_)
 ·have hm0:m=[]:=Wx (by simp only at h0;omega);refine Xw Qa [[Value.string (Qf (s++ [10]))]] rfl rfl rfl rfl rfl ⟨rfl,rfl,⟨⟩⟩ rfl (λcs hh=>by simp only[QL] at hh;subst hh;rfl) rfl (by decide) (by decide) ?_;intro w3 Qi JD Qu;refine⟨[s],by rw[tj,hm0];rfl,_,_,rfl,QR.trans Qi,Sl.own' (n:=1) Qu rfl (by decide),λ_=>⟨_,_,rfl⟩⟩
 have Zw:m≠ []:=λe=>h0 (by rw[e];rfl)
 have vh:m.map EdV.ed≠ []:=λe=>Zw (List.map_eq_nil_iff.1 e)
 rw[if_neg vh] at tj;have pQl:S≠ []:=by
  obtain⟨e,he⟩:=tE _ Zw;intro e0;have:=(pV e he).2.2.2;rw[e0] at this;cases this
 refine loop Qa [69] (λi:Nat=>[.int .i64 i]) (λi w'=>Ext w2 w'/\i<=m.length/\cV S (m.map EdV.ed)=cV S ((m.drop i).map EdV.ed)) (λi _=>m.length-i) 0 rfl ⟨Ext.refl _,Xt _,rfl⟩ ?_;rintro i w3 ⟨Qi,hi,ao⟩;have QY:=QR.trans Qi;refine Qz (λc1=>?_) (λc1=>?_)
 ·have Q5:i<m.length:=by simp only at c1;omega
  refine Zz rA (hM.ext Qi) rfl Q5 (λad e he hc=>?_);have kR:=Xk he;obtain⟨e1,e2,e3,e4⟩:=pV e kR;have se:=iN (hval e e1).1;rw[lQM he,Kr,cV] at ao;refine JN (vs:=Kk e) rfl hc ?_;refine new (λw4 Qs KW QX=>?_);refine Qw QX rfl (sc rfl) (λw5 Js _ QB=>?_);have KM:Ext w3 w5:=XV Qs QX Js;have Ko:=Qi.trans KM;refine Qj ((i+1:Nat):Int) (by show((i:Nat):Int)+1=_;omega) (by omega) ?_;refine Rz Qa rfl rfl rfl rfl rfl rfl (by omega) ?_;have hFr:=(hM.ext Ko).from rA (l:=i+1) (by omega)
  have wh:=hM.1.le;refine loop Qa [79] (λj:Nat=>[.int .i64 j]) (λj w'=>Ext w5 w'/\j<=m.length-(i+1)/\((m.drop (i+1)).take j).all (λb=>j8 S e.ed b.ed)=true) (λj _=>m.length-(i+1)-j) 0 rfl ⟨Ext.refl _,Xt _,by simp⟩ ?_;rintro j w6 ⟨QN,hj,hall⟩;refine Qz (λc2=>?_) (λc2=>?_)
  ·have KB:j<m.length-(i+1):=by simp only at c2;omega
   refine Zz rA (hFr.ext QN) rfl KB (λNE b hb Yr=>?_);have wg:b∈m:=au (Xk hb);obtain⟨b1,b2,b3,b4⟩:=pV b wg;have sb:=iN (hval b b1).1;refine JN (vs:=Kk b) rfl Yr ?_;refine new (λw7 Xf WJ Q8=>?_);refine Qw Q8 rfl (sc rfl) (λw8 YO _ Xx=>?_);have gP:Ext w6 w8:=XV Xf Q8 YO;have pC:=QN.trans gP;have Wn:=QY.trans (KM.trans pC);have cQQ:=QB.ext pC;have zu:=Ext.drew w8;have next:∀w',Ext w8 w'->j8 S e.ed b.ed=true->Ext w5 w'/\j+1<=m.length-(i+1)/\((m.drop (i+1)).take (j+1)).all (λb=>j8 S e.ed b.ed)=true:=λw' ib h2=>by
    refine⟨pC.trans ib,by omega,?_⟩;rw[oM hb,List.all_append,hall];simp only[wu,List.all_nil,Bn,bg];exact h2
   refine XL Qa (Ext w8) 15 [(true,0),(true,1),(true,2),(true,3),(true,4),(true,5),(true,6),(true,7),(true,8),(true,9),(true,11),(false,10),(false,12),(true,13),(true,14)] (by kernel_rfl) zu ?_;refine QQ (v:=.int .i64 e.to_) (λw' Qb=>(cQQ.ext Qb).cell 1) ?_;refine QQ (v:=.int .i64 b.fr) (λw' Qb=>(Xx.ext Qb).cell 0) ?_;refine Qz (λd1=>?_) (λd1=>?_)
   ·refine Xo (vs:=[.slice e.x.A e.x.n e.x.c,.int .i64 e.x.r]) rfl (λw' Qb k u hk=>by rw[add_add,(cQQ.ext Qb).cell];match k,hk with | 0,hk=>exact hk | 1,hk=>exact hk) ?_;refine Xo (vs:=[.slice b.x.A b.x.n b.x.c,.int .i64 b.x.r]) rfl (λw' Qb k u hk=>by rw[add_add,(Xx.ext Qb).cell];match k,hk with | 0,hk=>exact hk | 1,hk=>exact hk) ?_;refine Xo (vs:=d.cells) rfl (λw' Qb k u hk=>by rw[((Qh.ext (Qg.trans (Qi.trans (KM.trans pC)))).ext Qb).cell];exact hk) ?_;have fZ:=Wn.trans zu;refine call (oH hk e.x b.x w8.drew ((K.sbs e e1).ext fZ) ((K.sbs b b1).ext fZ) se sb) ?_;rintro _ w9 ⟨QA,Qn,Qc,Qnd,Qr,rfl,XE,hQ9,sQ,_⟩;refine⟨zu.trans XE,?_⟩;refine call (UA QA Qn Qc Qnd Qr d.A d.n d.c d.nd d.r w9 hQ9 (hd.ext (fZ.trans XE))) ?_;rintro _ QK ⟨rfl,Zx⟩;have fL:=(zu.trans XE).trans Zx;refine⟨fL,?_⟩;rw[bQq (x:=⟨QA,Qn,Qc,Qnd,Qr⟩) hk sQ sd,wq];cases sG:Wh S (λv=>oD e.x v&&oD b.x v)with
    | false=>
     refine Q7 rfl ?_;refine Qj ((j+1:Nat):Int) (by show((j:Nat):Int)+1=_;omega) (by omega) ?_;exact⟨j+1,rfl,next QK fL (by show(!(decide (b.fr<e.to_)&&Wh S (λv=>oD e.x v&&oD b.x v)))=true;rw[sG,Bool.and_false];rfl),by show m.length-(i+1)-(j+1)<m.length-(i+1)-j;omega⟩
    | true=>
     refine Xc rfl ?_;refine XP (Y2 291 (by decide) QK) (λ_ _ hf=>hf.elim) ?_;rintro ch _ ⟨rfl,rfl⟩;have Xq:j8 S e.ed b.ed=false:=by
      show(!(decide (b.fr<e.to_)&&Wh S (λv=>oD e.x v&&oD b.x v)))=false;rw[sG,X2 (by omega:b.fr<e.to_)]<;>rfl
     have Vf:(m.drop (i+1)).all (λb=>j8 S e.ed b.ed)=false:=List.all_eq_false.2 ⟨b,Xk hb,by rw[Xq];decide⟩;refine⟨?_,rfl,Wn.trans fL⟩;have:cV S (m.map EdV.ed)=false:=by
      rw[ao,List.all_map];show((m.drop (i+1)).all (λb=>j8 S e.ed b.ed)&&_)=false;rw[Vf]<;>rfl
     rw[tj,Qe this]
   ·refine Qj ((j+1:Nat):Int) (by show((j:Nat):Int)+1=_;omega) (by omega) ?_;exact⟨j+1,rfl,next w8.drew zu (by show(!(decide (b.fr<e.to_)&&Wh S (λv=>oD e.x v&&oD b.x v)))=true;rw[Zn (by omega:¬b.fr<e.to_)];rfl),by show m.length-(i+1)-(j+1)<m.length-(i+1)-j;omega⟩
  ·have KB:j=m.length-(i+1):=by simp only at c2;omega
   rw[Jv (by rw[YR];omega)] at hall;refine Qj ((i+1:Nat):Int) (by show((i:Nat):Int)+1=_;omega) (by omega) ?_;refine⟨i+1,rfl,⟨Ko.trans QN,Q5,?_⟩,by show m.length-(i+1)<m.length-i;omega⟩;rw[ao,List.all_map];show((m.drop (i+1)).all (λb=>j8 S e.ed b.ed)&&_)=_;rw[hall,bg]
 have Q5:i=m.length:=by simp only at c1;omega
 have dQE:cV S (m.map EdV.ed)=true:=by rw[ao,Q5,qg (QC _)]<;>rfl
 clear ao c1 hi;rw[if_neg (by rw[dQE];decide)] at tj;have XI:=Qg.trans Qi;refine Qt (Qh.ext XI) rfl ?_;refine Xw Qa [VT (d,⟨o,[],a⟩)] rfl rfl rfl rfl rfl ⟨rfl,rfl,⟨⟩⟩ rfl (λcs h=>by simp only[QL] at h;subst h;rfl) rfl (by decide) (by decide) ?_;intro w4 Qs KW QX;have Xr:=QY.trans Qs;have QO:QF p.nm.length o≠ []:=by rw[wq];exact pQl
 have pQm:cV (QF p.nm.length o) (m.map EdV.ed)=true:=by rw[wq];exact dQE
 have hep:∀b∈m.map EdV.ed,0<=b.to_:=λb hb=>by
  obtain⟨e,he,rfl⟩:=ZG.1 hb;have:=AU e (pV e he).1;show 0<=e.to_;omega
 have hVB:∀i,i<=m.length->∀v∈cX p.nm.length p.f o a ((m.map EdV.ed).take i),VB (i*70000) (a+s.length) v:=λi hi v hv=>by
  have:=lQz (n:=p.nm.length) (o:=o) (a:=a) (T:=a+s.length) hB.f8 Ja (by omega) ((m.map EdV.ed).take i) (λb hb=>by
   obtain⟨e,he,rfl⟩:=ZG.1 (bf hb);obtain⟨h1,h2,h3,h4⟩:=pV e he;exact⟨hB.t8 e h1,hB.tl e h1,by show e.to_.toNat<=_;omega⟩) v hv
  rw[K5,JR,nv hi] at this;exact this
 have hVL:∀i,i<=m.length->(cX p.nm.length p.f o a ((m.map EdV.ed).take i)).length<=1024:=λi hi=>by
  refine X4 (lQy _ _ _ _ _) ?_;rw[K5,JR,nv hi];exact X4 (WW (by decide) (show i<=10 by omega)) (by decide)
 refine loop Qa [107,16] (λt:Nat×List (DV×AV)×Option Addr×Nat=>[.int .i64 t.1,.slice t.2.2.1 t.2.1.length t.2.2.2]) (λt w'=>Ext w4 w'/\t.1<=m.length/\t.2.1.map (·.2)=cX p.nm.length p.f o a ((m.map EdV.ed).take t.1)/\SlS VT 4 w' t.2.2.1 t.2.1.length t.2.2.2 t.2.1/\∀v∈t.2.1,SB w' v.1.A v.1.n v.1.c v.1.nd/\Set1 p.nm.length v.1.nd v.1.r v.2.o) (λt _=>m.length-t.1) (0,[(d,⟨o,[],a⟩)],some ⟨w3.heap.size,0,none⟩,1) rfl ⟨Ext.refl _,Xt _,rfl,⟨Sl.own (sz:=4) (n:=1) QX (QC _) (by show 1<=maxLen;decide) (by simp[VT]),rfl⟩,λv hv=>by
  rw[QL.1 hv];exact⟨hd.ext Xr,sd⟩⟩ ?_
 rintro⟨i,vs,VA,vc⟩ w5 ⟨Qx,hi,kP,Py,Pz⟩;simp only at hi kP Py Pz;have Z9:=Xr.trans Qx;have hvl:vs.length<=1024:=by have:=hVL i hi;rw[<-kP,JR] at this;exact this
 have ia:∀v∈vs,VB (i*70000) (a+s.length) v.2:=λv hv=>hVB i hi v.2 (by rw[<-kP];exact ZG.2 ⟨v,hv,rfl⟩)
 refine Qz (λc1=>?_) (λc1=>?_)
 ·have Q5:i<m.length:=by simp only at c1;omega
  refine Zz rA (hM.ext (Qi.trans (Qs.trans Qx))) rfl Q5 (λad e he hc=>?_);have kR:=Xk he;obtain⟨e1,e2,e3,e4⟩:=pV e kR;obtain⟨e5,e6,e7⟩:=AU e e1;have se:=iN (hval e e1).1;have heg:(m.map EdV.ed)[i]? =some e.ed:=by rw[aq,he]<;>rfl
  refine JN (vs:=Kk e) rfl hc ?_;refine new (λw6 QN cj Xg=>?_);refine Qw Xg rfl (sc rfl) (λw7 Zs _ Q8=>?_);have JX:Ext w5 w7:=XV QN Xg Zs;have VV:=Z9.trans JX;refine loop Qa [113,19] (λt:Nat×List (DV×AV)×Option Addr×Nat=>[.int .i64 t.1,.slice t.2.2.1 t.2.1.length t.2.2.2]) (λt w'=>Ext w7 w'/\t.1<=vs.length/\t.2.1.map (·.2)=((vs.map (·.2)).take t.1).flatMap (Yn p.nm.length p.f e.ed)/\Own w' w7.heap.size 166 4 t.2.2.1 t.2.1.length t.2.2.2 (t.2.1.flatMap VT)/\∀v∈t.2.1,DgO w' (Ql t.2.2.1) p.nm.length v.1 v.2.o) (λt _=>vs.length-t.1) (0,[],none,0) rfl ⟨Ext.refl _,Xt _,rfl,Own.nil _ _ _ _,λv hv=>by cases hv⟩ ?_;rintro⟨j,nx,NX,nxc⟩ w8 ⟨Xp,hj,du,vG,sh⟩;simp only at hj du vG sh;have Wn:=VV.trans Xp;have pC:=JX.trans Xp;have qQM:nx.length<=2*j:=by
   have h1:=QD List.length du;have h2:=I1 p.nm.length p.f e.ed ((vs.map (·.2)).take j);rw[JR] at h1;rw[K5] at h2;omega
  refine Qz (λc2=>?_) (λc2=>?_)
  ·have KB:j<vs.length:=by simp only at c2;omega
   refine Zz bQr (Py.ext pC) rfl KB (λNE v hv Yr=>?_);have nj:=Xk hv;obtain⟨sbv,stv⟩:=Pz v nj;obtain⟨vb8,vbl,vba⟩:=ia v nj;have PB:(vs.map (·.2))[j]? =some v.2:=by rw[aq,hv]<;>rfl
   refine JN (vs:=VT v) rfl Yr ?_;refine new (λw9 XE fy JO=>?_);refine Qw JO rfl (sc rfl) (λQK mM _ Km=>?_);have fL:Ext w8 QK:=XV XE JO mM;have ji:=Xp.trans fL;have pw:=Wn.trans fL;refine gq (vs:=[.slice v.1.A v.1.n v.1.c,.int .i64 v.1.r]) Km rfl (λk u hk=>by match k,hk with | 0,hk=>exact hk | 1,hk=>exact hk) ?_;refine gq (vs:=[.slice e.x.A e.x.n e.x.c,.int .i64 e.x.r]) (Q8.ext ji) rfl (λk u hk=>by match k,hk with | 0,hk=>exact hk | 1,hk=>exact hk) ?_;refine call (oH hk v.1 e.x QK (sbv.ext (pC.trans fL)) ((K.sbs e e1).ext pw) stv se) ?_;rintro _ QJ ⟨QA,Qn,Qc,Qnd,Qr,rfl,Z2,nQW,sQ,FZ⟩;refine new (λXa Xm cQb K8=>?_);refine Qw K8 rfl (sc rfl) (λX1 yR _ Vm=>?_);have NF:Ext QJ X1:=XV Xm K8 yR;have cQR:=Z2.trans NF;have pD:=fL.trans cQR;have NG:=Xp.trans pD;have rQ:=Wn.trans pD;have zv:=Km.ext cQR;have Nz:=nQW.ext NF;have DJ:=Z2.size;have qQg:=NF.size;have qQh:=fL.size;have z8:=Xp.size;have Y6:=vG.rows;have hQ0:=sQ.root0;have dC:(vs.map (·.2)).take (j+1)=(vs.map (·.2)).take j++ [v.2]:=oM PB;refine Qp Vm rfl ?_;refine YE (λhz=>?_) (λhz=>?_)
   ·have PC:QF p.nm.length (ZD v.2.o (oD e.x))≠ []:=λe0=>hz (hQ0.2 e0)
    have kQ:=lQA (f:=p.f) (a:=a) QO pQm heg (by show(a:Int)<=e.fr;omega) hep (v:=v.2) (by rw[<-kP];exact ZG.2 ⟨v,nj,rfl⟩) PC;have kQ:(v.2.a:Int)<=e.fr:=kQ;have aY:=Ext.drew X1;have dl:=rB p.f v.2.a e.fr.toNat;have tl:=hB.tl e e1;have hto:((e.to_.toNat:Nat):Int)=e.to_:=by omega
    refine XL Qa (Mod (Ql NX) X1) 23 [(true,0),(true,1),(true,2),(true,3),(true,4),(true,5),(true,6),(true,7),(true,8),(true,9),(true,10),(true,11),(true,12),(true,13),(true,14),(true,15),(true,16),(true,17),(true,18),(true,19),(false,20),(false,21),(true,22)] (by kernel_rfl) (Mod.of_ext _ aY) ?_;have DP:¬Ql NX QJ.heap.size:=λh=>by have:=Y6 _ h;omega
    have NH:¬Ql NX w8.heap.size:=λh=>by have:=Y6 _ h;omega
    have NI:¬Ql NX w5.heap.size:=λh=>by have:=Y6 _ h;have:=JX.size;have:=Q8.lt;omega
    have neb:¬Ql NX p.eb:=λh=>by have:=Y6 _ h;have:=K.blk.lt;have:=VV.size;omega
    have ds:=Xi v.2.d;have cs:=Xi (Kj p.f v.2.a e.fr.toNat);have dcs:=Xi (v.2.d++Kj p.f v.2.a e.fr.toNat);have txs:=Xi e.tx;rw[Qq] at dcs;refine Xo (vs:=[.slice QA Qn Qc,.int .i64 Qr]) rfl (λw' Qb k u hk=>by rw[(Vm.mod Qb DP).cell];exact hk) ?_;refine QQ (v:=.string (Qf v.2.d)) (λw' Qb=>(zv.mod Qb NH).cell 2) ?_;refine QQ (v:=.string (Qf p.f)) (λw' Qb=>((K.blk.ext rQ).mod Qb neb).cell 3) ?_;refine QQ (v:=.int .i64 v.2.a) (λw' Qb=>(zv.mod Qb NH).cell 3) ?_;refine QQ (v:=.int .i64 e.fr) (λw' Qb=>((Q8.ext NG).mod Qb NI).cell 0) ?_;refine XM (v':=.string (Qf (Kj p.f v.2.a e.fr.toNat))) ⟨by omega,by omega,by rw[eJ];omega⟩ (by
     rw[VN];show Value.string (Qf ((p.f.take e.fr.toNat).drop v.2.a))=_;rw[jF];rfl) ?_
    refine XM (v':=.string (Qf (v.2.d++Kj p.f v.2.a e.fr.toNat))) (by rw[ds,cs];unfold maxLen;omega) (by rw[ZY]) ?_;refine QQ (v:=.string (Qf e.tx)) (λw' Qb=>((Q8.ext NG).mod Qb NI).cell 2) ?_;refine XM (v':=.string (Qf (v.2.d++Kj p.f v.2.a e.fr.toNat++e.tx))) (by rw[dcs,txs];unfold maxLen;omega) (by rw[ZY]) ?_;refine QQ (v:=.int .i64 ((e.to_.toNat:Nat):Int)) (λw' Qb=>by rw[hto];exact((Q8.ext NG).mod Qb NI).cell 1) ?_;refine Xw Qa [VT (⟨QA,Qn,Qc,Qnd,Qr⟩,⟨ZD v.2.o (oD e.x),v.2.d++Kj p.f v.2.a e.fr.toNat++e.tx,e.to_.toNat⟩)] rfl rfl rfl rfl rfl ⟨rfl,rfl,⟨⟩⟩ rfl (λcs h=>by simp only[QL] at h;subst h;rfl) rfl (by decide) (by decide) ?_;generalize r8:(((⟨QA,Qn,Qc,Qnd,Qr⟩:DV),(⟨ZD v.2.o (oD e.x),v.2.d++Kj p.f v.2.a e.fr.toNat++e.tx,e.to_.toNat⟩:AV)):DV×AV)=V1;intro Zm JP L4 Kc;have kC:=aY.trans JP;have si:=pD.trans kC;refine⟨Mod.of_ext _ kC,?_⟩;have NJ:Sl Zm 4 (some ⟨X1.drew.heap.size,0,none⟩) 1 1 (VT V1):=Sl.own (sz:=4) (n:=1) Kc (QC _) (by decide) (by simp[VT]);refine JH (n:=nx.length) Qa rfl rfl rfl rfl rfl (by decide) rfl rfl ⟨_,rfl⟩ rfl rfl (vG.ext si) NJ (I5 _) (by unfold maxLen;omega) (by show(nx.length+1)*56<=_;omega) (by have:=(Xp.trans si).size;omega) ?_;intro NX2 NK KA vH jj NL;have vI:Mod (Ql NX) X1 KA:=(Mod.of_ext (Ql NX) kC).trans vH (λi hi=>.inl hi);refine⟨vI,?_⟩;have vJ:Mod (Ql NX) w8 KA:=(Mod.of_ext (Ql NX) pD).trans vI (λi hi=>.inl hi);have zw:Ext w7 KA:=vJ.ext Xp (λk hk=>(Y6 k hk).1);have cQS:=VV.trans zw;have nQX:=JX.trans zw;have qQi:=vI.size;have zz:∀k,Ql NX2 k->Ql NX k∨Zm.heap.size<=k:=NL.rows
    have z14:=kC.size;have nQY:∀u∈nx,DgO KA (Ql NX2) p.nm.length u.1 u.2.o:=λu hu=>(sh u hu).step vJ (λk hk=>by
     rcases zz k hk with h | h
     ·exact .inl h
     ·exact .inr (by omega))
    have cQT:DgO KA (Ql NX2) p.nm.length V1.1 V1.2.o:=by
     rw[<-r8];have h0:DgO X1 (Ql NX) p.nm.length ⟨QA,Qn,Qc,Qnd,Qr⟩ (ZD v.2.o (oD e.x)):=⟨Nz,sQ,λad ea h0 h=>by have:=FZ ad.block ⟨ad,ea,rfl⟩;have:=Y6 _ h;omega⟩
     exact h0.step vI (λk hk=>by
      rcases zz k hk with h | h
      ·exact .inl h
      ·exact .inr (by omega))
    have cQU:=jj.rows;rw[show nx.flatMap VT++VT V1=(nx++ [V1]).flatMap VT by rw[Wy];simp] at jj;have mK:=zv.mod vI NH;have ky:=Vm.mod vI DP;refine gq (vs:=[.slice v.1.A v.1.n v.1.c,.int .i64 v.1.r]) mK rfl (λk u hk=>by match k,hk with | 0,hk=>exact hk | 1,hk=>exact hk) ?_;refine Qt ky rfl ?_;have nQZ:SB KA QA Qn Qc Qnd:=by have:=cQT.sb;rw[<-r8] at this;exact this
    refine call (fd hk v.1 ⟨QA,Qn,Qc,Qnd,Qr⟩ KA (sbv.ext nQX) nQZ stv sQ) ?_;rintro _ Y4 ⟨PA,Pn,Pc,Pnd,Pr',rfl,VX,nQ0,sP,hPR⟩;have hP0:=sP.root0;refine lg (j:=0) (mK.ext VX) (by show 0+2<=4;decide) (sc rfl) (λVo MF nQ1 pj=>?_);have rX:Mod (·=w8.heap.size) Y4 Vo:=qQT MF rfl;have NM:Ext w7 Vo:=rX.ext (zw.trans VX) (λk hk=>by omega);have z16:=VX.size;have nQ2:∀k,Ql NX2 k->¬k=w8.heap.size:=λk hk hh=>by
     rcases zz k hk with h | h
     ·have:=Y6 _ h;omega
     ·omega
    have E4:=(jj.ext VX).mod rX nQ2;have qQj:=Km.lt;have cQV:∀u∈nx++ [V1],DgO Vo (Ql NX2) p.nm.length u.1 u.2.o:=λu hu=>by
     have NN:DgO KA (Ql NX2) p.nm.length u.1 u.2.o:=by
      rcases Xv.1 hu with hu | hu
      ·exact nQY u hu
      ·rw[QL.1 hu];exact cQT
     have nQ3:∀ad,u.1.A=some ad->0<u.1.n->¬ad.block=w8.heap.size:=λad ea h0 hh=>by
      rcases Xv.1 hu with hu | hu
      ·have:=SB.lt (sh u hu).sb ad ea h0;omega
      ·rw[QL.1 hu,<-r8] at ea h0;have:=FZ ad.block ⟨ad,ea,rfl⟩;omega
     exact⟨SB.modo (NN.sb.ext VX) rX nQ3,NN.st,NN.off⟩
    refine IZ (j:=0) (i:=1) pj rfl ?_;refine YE (λhy=>?_) (λhy=>?_)
    ·refine Qt pj rfl ?_;refine Xw Qa [VT (⟨PA,Pn,Pc,Pnd,Pr'⟩,⟨JI v.2.o (ZD v.2.o (oD e.x)),v.2.d,v.2.a⟩)] rfl rfl rfl rfl rfl ⟨rfl,rfl,⟨⟩⟩ rfl (λcs h=>by simp only[QL] at h;subst h;rfl) rfl (by decide) (by decide) ?_;generalize D9:(((⟨PA,Pn,Pc,Pnd,Pr'⟩:DV),(⟨JI v.2.o (ZD v.2.o (oD e.x)),v.2.d,v.2.a⟩:AV)):DV×AV)=V2;intro KZ kD qQk gL;have nQ4:Sl KZ 4 (some ⟨Vo.heap.size,0,none⟩) 1 1 (VT V2):=Sl.own (sz:=4) (n:=1) gL (QC _) (by decide) (by simp[VT]);refine JH (n:=nx.length+1) Qa rfl rfl rfl rfl rfl (by decide) rfl rfl ⟨_,rfl⟩ rfl rfl (E4.ext kD) nQ4 (I5 _) (by unfold maxLen;omega) (by show(nx.length+1+1)*56<=_;omega) (by have:=(NM.trans kD).size;omega) ?_;intro NX3 nc3 aQ nQ5 cQW nQ6;have NO:Mod (Ql NX2) Vo aQ:=(Mod.of_ext (Ql NX2) kD).trans nQ5 (λi hi=>.inl hi);have r19:∀k,Ql NX3 k->Ql NX2 k∨KZ.heap.size<=k:=nQ6.rows
     have z18:=kD.size;have nQ7:Ext w7 aQ:=NO.ext NM (λk hk=>(cQU k hk).1);have nQ8:SB Vo PA Pn Pc Pnd:=SB.modo nQ0 rX (λad ea h0 hh=>by have:=hPR ad.block ⟨ad,ea,rfl⟩;omega);have nQ9:DgO aQ (Ql NX3) p.nm.length V2.1 V2.2.o:=by
      rw[<-D9];have h0:DgO Vo (Ql NX2) p.nm.length ⟨PA,Pn,Pc,Pnd,Pr'⟩ (JI v.2.o (ZD v.2.o (oD e.x))):=⟨nQ8,sP,λad ea h0 h=>by have:=hPR ad.block ⟨ad,ea,rfl⟩;have:=(cQU _ h).2;omega⟩
      exact h0.step NO (λk hk=>by
       rcases r19 k hk with h | h
       ·exact .inl h
       ·exact .inr (by omega))
     refine Qj ((j+1:Nat):Int) (by show((j:Nat):Int)+1=_;omega) (by omega) ?_;rw[show(nx++ [V1]).flatMap VT++VT V2=(nx++ [V1]++ [V2]).flatMap VT by rw[Wy];simp] at cQW;refine⟨(j+1,nx++ [V1]++ [V2],NX3,nc3),by simp only[Qq];rfl,⟨nQ7,KB,?_,by simp only;rw[Qq,Qq];exact cQW,λu hu=>?_⟩,by show vs.length-(j+1)<vs.length-j;omega⟩
     ·simp only;rw[dC,Wy,<-du,be,be,VH,tD,JZ,ZR];congr 1;have h9:QF p.nm.length (JI v.2.o (ZD v.2.o (oD e.x)))≠ []:=λe0=>hy (hP0.2 e0)
      unfold Yn;rw[if_neg (by exact PC),if_neg (by exact h9),<-r8,<-D9]<;>rfl
     ·rcases Xv.1 hu with hu | hu
      ·exact(cQV u hu).step NO (λk hk=>by
        rcases r19 k hk with h | h
        ·exact .inl h
        ·exact .inr (by omega))
      ·rw[QL.1 hu];exact nQ9
    ·refine Qj ((j+1:Nat):Int) (by show((j:Nat):Int)+1=_;omega) (by omega) ?_;refine⟨(j+1,nx++ [V1],NX2,NK),by simp only[Qq];rfl,⟨NM,KB,?_,by simp only;rw[Qq];exact E4,cQV⟩,by show vs.length-(j+1)<vs.length-j;omega⟩;simp only;rw[dC,Wy,<-du,be,VH,tD,JZ];congr 1;have h9:QF p.nm.length (JI v.2.o (ZD v.2.o (oD e.x)))=[]:=hP0.1 hy;unfold Yn;rw[if_neg (by exact PC),Qe (by exact h9),<-r8]<;>rfl
   ·have i9:QF p.nm.length (ZD v.2.o (oD e.x))=[]:=hQ0.1 hz;have fA:=stv.root0;refine IZ (j:=0) (i:=1) zv rfl ?_;refine YE (λhy=>?_) (λhy=>?_)
    ·refine Qt zv rfl ?_;refine Xw Qa [VT v] rfl rfl rfl rfl rfl ⟨rfl,rfl,⟨⟩⟩ rfl (λcs h=>by simp only[QL] at h;subst h;rfl) rfl (by decide) (by decide) ?_;intro Zm JP L4 Kc;have si:=pD.trans JP;have NJ:Sl Zm 4 (some ⟨X1.heap.size,0,none⟩) 1 1 (VT v):=Sl.own (sz:=4) (n:=1) Kc (QC _) (by decide) (by simp[VT]);refine JH (n:=nx.length) Qa rfl rfl rfl rfl rfl (by decide) rfl rfl ⟨_,rfl⟩ rfl rfl (vG.ext si) NJ (I5 _) (by unfold maxLen;omega) (by show(nx.length+1)*56<=_;omega) (by have:=(Xp.trans si).size;omega) ?_;intro NX2 NK KA vH jj NL;have vJ:Mod (Ql NX) w8 KA:=(Mod.of_ext (Ql NX) si).trans vH (λi hi=>.inl hi);have zw:Ext w7 KA:=vJ.ext Xp (λk hk=>(Y6 k hk).1);have zz:∀k,Ql NX2 k->Ql NX k∨Zm.heap.size<=k:=NL.rows
     have qQl:=si.size;have cQX:∀k,Ql NX2 k->Ql NX k∨w8.heap.size<=k:=λk hk=>by
      rcases zz k hk with h | h
      ·exact .inl h
      ·exact .inr (by omega)
     refine Qj ((j+1:Nat):Int) (by show((j:Nat):Int)+1=_;omega) (by omega) ?_;rw[show nx.flatMap VT++VT v=(nx++ [v]).flatMap VT by rw[Wy];simp] at jj;refine⟨(j+1,nx++ [v],NX2,NK),by simp only[Qq];rfl,⟨zw,KB,?_,by simp only;rw[Qq];exact jj,λu hu=>?_⟩,by show vs.length-(j+1)<vs.length-j;omega⟩
     ·simp only;rw[dC,Wy,<-du,be,VH,tD,JZ];congr 1;unfold Yn;rw[Qe (by exact i9),if_neg (λe0=>hy (fA.2 e0))]<;>rfl
     ·rcases Xv.1 hu with hu | hu
      ·exact(sh u hu).step vJ cQX
      ·rw[QL.1 hu];have h0:DgO w8 (Ql NX) p.nm.length v.1 v.2.o:=⟨sbv.ext pC,stv,λad ea h0 h=>by have:=SB.lt (sbv.ext JX) ad ea h0;have:=(Y6 _ h).1;omega⟩
       exact h0.step vJ cQX
    ·refine Qj ((j+1:Nat):Int) (by show((j:Nat):Int)+1=_;omega) (by omega) ?_;refine⟨(j+1,nx,NX,nxc),rfl,⟨Xp.trans pD,KB,?_,vG.ext pD,λu hu=>(sh u hu).ext pD⟩,by show vs.length-(j+1)<vs.length-j;omega⟩;simp only;rw[dC,Wy,<-du,VH,tD,JZ];unfold Yn;rw[Qe (by exact i9),Qe (fA.1 hy),JZ]
  ·have KB:j=vs.length:=by simp only at c2;omega
   rw[Jv (by rw[JR];omega),kP,<-lQw,<-oM heg] at du;refine Qj ((i+1:Nat):Int) (by show((i:Nat):Int)+1=_;omega) (by omega) ?_;exact⟨(i+1,nx,NX,nxc),rfl,⟨Qx.trans (JX.trans Xp),Q5,du,⟨vG.sl,rfl⟩,λv hv=>⟨(sh v hv).sb,(sh v hv).st⟩⟩,by show m.length-(i+1)<m.length-i;omega⟩
 have Q5:i=m.length:=by simp only at c1;omega
 rw[Jv (by rw[JR];omega)] at kP;have tk:=lQB (f:=p.f) (a:=a) (stop:=a+s.length+1) (es:=m.map EdV.ed) QO;rw[wq] at tk;have PD:=lQD (f:=p.f) (a:=a) (stop:=a+s.length+1) (es:=m.map EdV.ed) QO;have hvi:=Dj (f:=p.f) (a:=a) QO (m.map EdV.ed);rw[<-kP] at tk PD hvi;refine loop Qa [165,23] (λt:Nat×List (DV×Pr)×Option Addr×Nat=>[.int .i64 t.1,.slice t.2.2.1 t.2.1.length t.2.2.2]) (λt w'=>Ext w5 w'/\t.1<=vs.length/\t.2.1.map (·.2)=lX p.f (a+s.length+1) ((vs.map (·.2)).take t.1)/\Own w' w5.heap.size 56 3 t.2.2.1 t.2.1.length t.2.2.2 (t.2.1.flatMap Jm)/\(∀q∈t.2.1,DgO w' (Ql t.2.2.1) p.nm.length q.1 q.2.o)/\∀v∈(vs.map (·.2)).take t.1,Vj (v.d++Kj p.f v.a (a+s.length+1))=true) (λt _=>vs.length-t.1) (0,[],none,0) rfl ⟨Ext.refl _,Xt _,rfl,Own.nil _ _ _ _,(λq hq=>by cases hq),λv hv=>by simp at hv⟩ ?_;rintro⟨k,qs,PA,pc⟩ w6 ⟨QN,MB,jD,mA,pE,zA⟩;simp only at MB jD mA pE zA;have XS:=Z9.trans QN;have hql:qs.length<=k:=by
  have h1:=QD List.length jD;have h2:=lQI p.f (a+s.length+1) ((vs.map (·.2)).take k);rw[JR] at h1;rw[K5] at h2;omega
 have Y6:=mA.rows;refine Qz (λc2=>?_) (λc2=>?_)
 ·have Xn:k<vs.length:=by simp only at c2;omega
  refine Zz bQr (Py.ext QN) rfl Xn (λNE v hv Yr=>?_);have nj:=Xk hv;obtain⟨sbv,stv⟩:=Pz v nj;obtain⟨vb8,vbl,vba⟩:=ia v nj;have PB:(vs.map (·.2))[k]? =some v.2:=by rw[aq,hv]<;>rfl
  have hvV:v.2∈vs.map (·.2):=ZG.2 ⟨v,nj,rfl⟩;have dC:(vs.map (·.2)).take (k+1)=(vs.map (·.2)).take k++ [v.2]:=oM PB;refine JN (vs:=VT v) rfl Yr ?_;refine new (λw7 Xf WJ Q8=>?_);refine Qw Q8 rfl (sc rfl) (λw8 YO _ Xx=>?_);have gP:Ext w6 w8:=XV Xf Q8 YO;have Wn:=XS.trans gP;have aY:=Ext.drew w8;have ds:=Xi v.2.d;have cs:=Xi (Kj p.f v.2.a (a+s.length+1));have dl:=rB p.f v.2.a (a+s.length+1);refine XL Qa (Ext w8) 16 [(true,0),(true,1),(true,2),(true,3),(true,4),(true,5),(true,6),(true,7),(true,8),(true,9),(true,10),(true,11),(true,12),(true,13),(false,14),(false,15)] (by kernel_rfl) aY ?_;refine QQ (v:=.string (Qf v.2.d)) (λw' Qb=>(Xx.ext Qb).cell 2) ?_;refine QQ (v:=.string (Qf p.f)) (λw' Qb=>((K.blk.ext Wn).ext Qb).cell 3) ?_;refine QQ (v:=.int .i64 v.2.a) (λw' Qb=>(Xx.ext Qb).cell 3) ?_;refine Qj ((a+s.length+1:Nat):Int) (by rw[AT];omega) (by omega) ?_;refine XM (v':=.string (Qf (Kj p.f v.2.a (a+s.length+1)))) ⟨by omega,by omega,by rw[eJ];omega⟩ (by
   rw[VN];show Value.string (Qf ((p.f.take (a+s.length+1)).drop v.2.a))=_;rw[jF];rfl) ?_
  refine XM (v':=.string (Qf (v.2.d++Kj p.f v.2.a (a+s.length+1)))) (by rw[ds,cs];unfold maxLen;omega) (by rw[ZY]) ?_;have ep:∀b∈v.2.d++Kj p.f v.2.a (a+s.length+1),b<256:=λb hb=>by
   rcases Xv.1 hb with hb | hb
   ·exact vb8 b hb
   ·exact uZ hB.f8 _ _ b hb
  have Wv:(v.2.d++Kj p.f v.2.a (a+s.length+1)).length<=1000000:=by rw[Qq];omega
  generalize hT:v.2.d++Kj p.f v.2.a (a+s.length+1)=T at*;refine new (λw9 XE fy JO=>?_);refine⟨aY.trans XE,?_⟩;refine KS JO (by decide) (λQK ZA Km=>?_);have fL:Ext w8 QK:=ZA.ext (aY.trans XE) (λi hi=>by have:=aY.size;omega);refine⟨fL,?_⟩;have Km:Blk QK w8.drew.heap.size 9 [.string (Qf T)]:=Km;refine Qy Km rfl ?_;refine call (aQs T QK ep (by omega)) ?_;rintro _ QJ ⟨rfl,Z2⟩;have mD:=gP.trans (fL.trans Z2);have Wo:=XS.trans mD;cases Jf:Vj T with
  | false=>
   refine Xc rfl ?_;refine XP (Y2 291 (by decide) QJ) (λ_ _ hf=>hf.elim) ?_;rintro ch _ ⟨rfl,rfl⟩;refine⟨?_,rfl,Wo⟩;rw[tj,Qe];refine eN.2 (λhh=>?_);have:=tk.1 hh v.2 hvV;rw[hT,Jf] at this;cases this
  | true=>
  refine Q7 rfl ?_;have Z1:=Km.ext Z2;have vK:=mA.ext mD;have hPS:SlS JK 3 QJ PA qs.length pc (qs.map (λq=>(q.1,q.2.t))):=⟨by rw[<-Dm];exact vK.sl,by rw[JR]⟩
  have wr:∀q∈qs,(∀b∈q.2.t,b<256)/\q.2.t.length<=1000000:=λq hq=>by
   refine bQo (P:=λt=>(∀b∈t,b<256)/\t.length<=1000000) ((vs.map (·.2)).take k) (λu hu=>?_) q.2 (by rw[<-jD];exact ZG.2 ⟨q,hq,rfl⟩);obtain⟨u0,NP,rfl⟩:=ZG.1 (bf hu);obtain⟨a1,a2,a3⟩:=ia u0 NP;refine⟨λb hb=>?_,?_⟩
   ·rcases Xv.1 hb with hb | hb
    ·exact a1 b hb
    ·exact uZ hB.f8 _ _ b hb
   ·have:=rB p.f u0.2.a (a+s.length+1);rw[Qq];omega
  have F4:Zv (qs.map (λq=>(q.1,q.2.t)))=qs.map (·.2):=Dk (λq hq=>(pE q hq).st);refine call (lQG PA qs.length pc (qs.map (λq=>(q.1,q.2.t))) T w8.drew.heap.size QJ hPS (λq hq=>by
   obtain⟨q0,Yv,rfl⟩:=ZG.1 hq;exact(wr q0 Yv).1) ep Z1) ?_
  rintro _ Xa ⟨rfl,Xm⟩;rw[F4];have sj:=mD.trans Xm;have rT:=XS.trans sj;have oQa:=(fL.trans Z2).trans Xm;have pF:=mA.ext sj;have K8:=Z1.ext Xm;have yD:=Xx.ext oQa;have qQm:=sj.size;obtain⟨s1,s2⟩:=Df T (qs.map (·.2));have pQn:=lQg (qs.map (·.2)) T;rw[JR] at pQn;have dQF:lX p.f (a+s.length+1) ((vs.map (·.2)).take (k+1))=cW (qs.map (·.2)) v.2.o T:=by rw[dC,lQC,<-jD,hT]
  have cQY:∀u∈(vs.map (·.2)).take (k+1),Vj (u.d++Kj p.f u.a (a+s.length+1))=true:=λu hu=>by
   rw[dC] at hu;rcases Xv.1 hu with hu | hu
   ·exact zA u hu
   ·rw[QL.1 hu,hT];exact Jf
  generalize KF:Wj (qs.map (·.2)) T=ix at*;by_cases Xe:ix<qs.length
  ·rw[Qe Xe];refine XF (by omega) ?_;have jt:0<qs.length:=by omega
   obtain⟨q0,Yv⟩:∃q0,qs[ix]? =some q0:=⟨_,XB Xe⟩
   have pQo:=Xk Yv;obtain⟨pa,Jh,_⟩:=pF.sl.at_ jt;subst Jh;have n25:¬Ql (some pa) w6.heap.size:=λh=>by have:=(Y6 _ h).2;omega
   have sk:=Ext.drew Xa;have oQb:∀q∈qs,DgO Xa (Ql (some pa)) p.nm.length q.1 q.2.o:=λq hq=>(pE q hq).ext sj
   refine XL Qa (Mod (Ql (some pa)) Xa) 16 [(true,0),(true,1),(true,2),(true,3),(true,4),(true,5),(true,7),(true,8),(false,6),(false,9),(true,10),(true,11),(false,12),(true,13),(true,14),(false,15)] (by kernel_rfl) (Mod.of_ext _ sk) ?_;refine I4 (j:=ix) Xe ?_;refine Xo (vs:=[.slice v.1.A v.1.n v.1.c,.int .i64 v.1.r]) rfl (λw' Qb k u hk=>by rw[add_add,(yD.mod Qb n25).cell];match k,hk with | 0,hk=>exact hk | 1,hk=>exact hk) ?_;have hOd:=pF.ext sk;refine JN (vs:=[.slice q0.1.A q0.1.n q0.1.c,.int .i64 q0.1.r]) rfl (λk u hk=>by
    rw[add_add];refine CG (o:=ix*3) (i:=0+k) hOd jt ?_;rw[a8];refine jS Dl qs ix q0 k u Yv ?_
    match k,hk with
    | 0,hk=>exact hk
    | 1,hk=>exact hk) ?_
   refine⟨Mod.of_ext _ sk,?_⟩;have sq0:=(oQb q0 pQo)
   refine call (lQE hk q0.1 v.1 Xa.drew (sq0.sb.ext sk) ((sbv.ext (QN.trans sj)).ext sk) sq0.st stv) ?_;rintro _ X1 ⟨OA,On,Oc,Ond,Or',rfl,XI,hOs,sO,hOR⟩;have zB:=sk.trans XI;refine⟨Mod.of_ext _ zB,?_⟩;refine call (C8 ⟨OA,On,Oc,Ond,Or'⟩ X1) ?_;rintro _ Zm ⟨rfl,JP⟩;have kB:=zB.trans JP;refine⟨Mod.of_ext _ kB,?_⟩;refine I4 (j:=ix) Xe ?_;show nE _ _ ((pa.add (ix*3)).add 0) _ _;rw[add_add];have qQn:=dN Dl qs;refine Ug (pF.ext kB) (by show ix*3+0+2<=qs.length*3;omega) (sc rfl) (λKA vH jj=>?_);have cQZ:Mod (Ql (some pa)) Xa KA:=(Mod.of_ext _ kB).trans vH (λi hi=>.inl hi);refine⟨cQZ,?_⟩;have cQ0:Mod (Ql (some pa)) w6 KA:=(Mod.of_ext _ sj).trans cQZ (λi hi=>.inl hi);have oQc:(qs.flatMap Jm)[ix*3+0+ [Value.slice OA On Oc,.int .i64 Or'].length]? =some (.string (Qf q0.2.t)):=jS Dl qs ix q0 2 _ Yv rfl;rw[show(#[Value.slice OA On Oc,Value.int IntKind.i64 Or']:Array Value).toList=[Value.slice OA On Oc,.int .i64 Or'] from rfl,lQH oQc] at jj;have jj:Own KA w5.heap.size 56 3 (some pa) qs.length pc ((qs.set ix (⟨OA,On,Oc,Ond,Or'⟩,Pr.mk (λe=>q0.2.o e||v.2.o e) q0.2.t)).flatMap Jm):=by
    rw[<-HK Dl qs _ Xe];exact jj
   refine Qj ((k+1:Nat):Int) (by show((k:Nat):Int)+1=_;omega) (by omega) ?_;have pQp:(qs.map (·.2))[ix]? =some q0.2:=by rw[aq,Yv]<;>rfl
   have qQo:=kB.size;have qQp:=sk.size;refine⟨(k+1,qs.set ix (⟨OA,On,Oc,Ond,Or'⟩,Pr.mk (λe=>q0.2.o e||v.2.o e) q0.2.t),some pa,pc),by simp only[gb];rfl,⟨cQ0.ext QN (λi hi=>(Y6 i hi).1),Xn,?_,by simp only;rw[gb];exact jj,λq hq=>?_,cQY⟩,by show vs.length-(k+1)<vs.length-k;omega⟩
   ·simp only;rw[dQF];unfold cW;rw[KF,pQp,List.map_set]
   ·rcases P6 hq with hq | rfl
    ·exact(pE q hq).step cQ0 (λi hi=>.inl hi)
    ·have h0:DgO Zm (Ql (some pa)) p.nm.length ⟨OA,On,Oc,Ond,Or'⟩ (λe=>q0.2.o e||v.2.o e):=⟨hOs.ext JP,sO,λad ea h0 h=>by have:=hOR ad.block ⟨ad,ea,rfl⟩;have:=(Y6 _ h).2;omega⟩
     exact h0.step vH (λi hi=>.inl hi)
  ·rw[if_neg Xe];refine Zq (by decide) ?_;refine gq (vs:=[.slice v.1.A v.1.n v.1.c,.int .i64 v.1.r]) yD rfl (λk u hk=>by match k,hk with | 0,hk=>exact hk | 1,hk=>exact hk) ?_;refine Qy K8 rfl ?_;refine Xw Qa [Jm (v.1,Pr.mk v.2.o T)] rfl rfl rfl rfl rfl ⟨rfl,rfl,⟨⟩⟩ rfl (λcs h=>by simp only[QL] at h;subst h;rfl) rfl (by decide) (by decide) ?_;intro X1 XI Mw Vm;have E5:=sj.trans XI;have MQ:Sl X1 3 (some ⟨Xa.heap.size,0,none⟩) 1 1 (Jm (v.1,Pr.mk v.2.o T)):=Sl.own (sz:=3) (n:=1) Vm (QC _) (by decide) (by simp[Jm,JK]);refine JH (n:=qs.length) Qa rfl rfl rfl rfl rfl (by decide) rfl rfl ⟨_,rfl⟩ rfl rfl (mA.ext E5) MQ (bQs _) (by unfold maxLen;omega) (by show(qs.length+1)*48<=_;omega) (by have:=(QN.trans E5).size;omega) ?_;intro PA2 zC Zm D4 cQ1 oQd;have NQ:Mod (Ql PA) w6 Zm:=(Mod.of_ext (Ql PA) E5).trans D4 (λi hi=>.inl hi);have r14:∀k,Ql PA2 k->Ql PA k∨X1.heap.size<=k:=oQd.rows
   have oQe:=E5.size;have cQ2:∀k,Ql PA2 k->Ql PA k∨w6.heap.size<=k:=λk hk=>by
    rcases r14 k hk with h | h
    ·exact .inl h
    ·exact .inr (by omega)
   refine Qj ((k+1:Nat):Int) (by show((k:Nat):Int)+1=_;omega) (by omega) ?_;rw[show qs.flatMap Jm++Jm (v.1,Pr.mk v.2.o T)=(qs++ [(v.1,Pr.mk v.2.o T)]).flatMap Jm by rw[Wy];simp] at cQ1;have OQ:(qs.map (·.2))[ix]? =none:=List.getElem?_eq_none_iff.2 (by rw[JR];omega);refine⟨(k+1,qs++ [(v.1,Pr.mk v.2.o T)],PA2,zC),by simp only[Qq];rfl,⟨NQ.ext QN (λi hi=>(Y6 i hi).1),Xn,?_,by simp only;rw[Qq];exact cQ1,λq hq=>?_,cQY⟩,by show vs.length-(k+1)<vs.length-k;omega⟩
   ·simp only;rw[dQF];unfold cW;rw[KF,OQ,be]<;>rfl
   ·rcases Xv.1 hq with hq | hq
    ·exact(pE q hq).step NQ cQ2
    ·rw[QL.1 hq];have h0:DgO w6 (Ql PA) p.nm.length v.1 v.2.o:=⟨sbv.ext QN,stv,λad ea h0 h=>by have:=SB.lt sbv ad ea h0;have:=(Y6 _ h).1;omega⟩
     exact h0.step NQ cQ2
 have Xn:k=vs.length:=by simp only at c2;omega
 rw[Jv (by rw[JR];omega)] at jD zA;rw[<-jD] at PD;obtain⟨Jh,hfP⟩:=PD.pa hvi (λc hc=>(Z0.1 hc).1);have F4:Zv (qs.map (λq=>(q.1,q.2.t)))=qs.map (·.2):=Dk (λq hq=>(pE q hq).st);rw[if_neg (by rw[tk.2 zA];decide)] at tj;have wr:∀q∈qs,Vj q.2.t=true/\(∀b∈q.2.t,b<256)/\q.2.t.length<=1000000:=λq hq=>by
  refine bQo (P:=λt=>Vj t=true/\(∀b∈t,b<256)/\t.length<=1000000) (vs.map (·.2)) (λu hu=>?_) q.2 (by rw[<-jD];exact ZG.2 ⟨q,hq,rfl⟩);have hu1:=zA u hu;obtain⟨u0,NP,rfl⟩:=ZG.1 hu;obtain⟨a1,a2,a3⟩:=ia u0 NP;refine⟨hu1,λb hb=>?_,?_⟩
  ·rcases Xv.1 hb with hb | hb
   ·exact a1 b hb
   ·exact uZ hB.f8 _ _ b hb
  ·have:=rB p.f u0.2.a (a+s.length+1);rw[Qq];omega
 have aY:=Ext.drew w6;refine XL Qa (Ext w6) 8 [(true,0),(true,1),(true,2),(true,3),(true,4),(true,5),(false,6),(true,7)] (by kernel_rfl) aY ?_;refine QQ (v:=.slice p.NA p.nn p.nc) (λw' Qb=>((K.blk.ext XS).ext Qb).cell 0) ?_;refine Xo (vs:=d.cells) rfl (λw' Qb k u hk=>by rw[((Qh.ext (XI.trans (Qs.trans (Qx.trans QN)))).ext Qb).cell];exact hk) ?_;have fZ:=XS.trans aY;refine call (aQA p.NA p.nn p.nc p.nm d o PA qs.length pc (qs.map (λq=>(q.1,q.2.t))) p.nm.length hB.n4 rfl hB.nb (λs hs=>by have:=hB.nl s hs;omega) (λq hq=>by
  obtain⟨q0,Yv,rfl⟩:=ZG.1 hq;obtain⟨t1,t2,t3⟩:=wr q0 Yv;exact⟨(gE hk (pE q0 Yv).st).1,t1,t2,t3⟩) w6.drew (K.nms.ext fZ) (hd.ext fZ) sd ⟨by rw[<-Dm];exact(mA.ext aY).sl,by rw[JR]⟩ (λq hq=>by
  obtain⟨q0,Yv,rfl⟩:=ZG.1 hq;exact(pE q0 Yv).sb.ext aY) QO (by rw[F4];exact Jh)) ?_
 rintro _ w7 ⟨A7,c7,rfl,Xf,YP⟩;refine⟨aY.trans Xf,?_⟩;rw[F4,uT p.nm.length 0 (QF p.nm.length o) QO hfP,wq] at YP ⊢;exact⟨_,tj,A7,c7,rfl,fZ.trans Xf,YP⟩
theorem bQt {nm:List (List Nat)}{n d0:Nat}{inc:oq}(hi:∀r ln d k g q,inc r ln d k g= .error q->q.e≠0):∀(ls:List (List Nat))(ln at_:Nat)(k:BF)(op:List Se)(g:Gs)(q:Pl),ZZ nm n d0 inc ls ln at_ k op g= .error q->q.e≠0
 | [],ln,at_,k,op,g,q,h=>by
  cases op with
  | nil=>simp[ZZ] at h
  | cons x op=>simp only[ZZ,Except.error.injEq] at h;rw[<-h];exact(by decide:(72:Int)≠0)
 | s::ls,ln,at_,k,op,g,q,h=>by
  have ih:=λk op g h=>bQt (nm:=nm) (n:=n) (d0:=d0) hi ls (ln+1) (at_+s.length+1) k op g q h
  rw[ZZ.eq_def] at h;simp only at h;cases XZ:Zk s with
  | txt=>
   rw[XZ] at h;simp only at h;cases ha:Vi (s++ [10]) n at_ k g with
   | none=>rw[ha] at h;cases h;exact(by decide:(2:Int)≠0)
   | some g1=>rw[ha] at h;exact ih _ _ _ h
  | ifd r=>
   rw[XZ] at h;simp only at h;cases hs:VQ nm r with
   | error e=>rw[hs] at h;cases h;exact bQg hs
   | ok d=>
    rw[hs] at h;simp only at h;split at h
    ·cases h;exact(by decide:(2:Int)≠0)
    ·exact ih _ _ _ h
  | inc r=>
   rw[XZ] at h;simp only at h;cases hs:inc r (ln+1) (d0+op.length) k g with
   | error e=>rw[hs] at h;cases h;exact hi _ _ _ _ _ _ hs
   | ok g1=>rw[hs] at h;exact ih _ _ _ h
  | elif r=>
   rw[XZ] at h;cases op with
   | nil=>cases h;exact(by decide:(72:Int)≠0)
   | cons y op=>
    simp only at h;split at h
    ·cases h;exact(by decide:(71:Int)≠0)
    ·cases hs:VQ nm r with
     | error e=>rw[hs] at h;cases h;exact bQg hs
     | ok d=>rw[hs] at h;exact ih _ _ _ h
  | els=>
   rw[XZ] at h;cases op with
   | nil=>cases h;exact(by decide:(72:Int)≠0)
   | cons y op=>
    simp only at h;split at h
    ·cases h;exact(by decide:(71:Int)≠0)
    ·exact ih _ _ _ h
  | en=>
   rw[XZ] at h;cases op with
   | nil=>cases h;exact(by decide:(72:Int)≠0)
   | cons y op=>exact ih y.ou op {g with fr:=true} h
theorem lQO {ix:List Nat->Option Nat}{rd s:List Nat}{e:Int}(h:cO ix rd s= .error e):e≠0:=by
 rw[iQF] at h;split at h
 ·cases h;decide
 ·split at h
  ·cases h;decide
  ·split at h
   ·cases h;decide
   ·cases h
theorem lQP {nm:List (List Nat)}{t:List Nat}{q:Pl}(h:KH nm (fF t) [102]= .error q):q.e≠0:=by
 unfold KH at h;split at h
 ·cases h;decide
 cases K4:YY (fF t)with
 | some p=>rw[K4] at h;cases h;exact Um K4
 | none=>
  rw[K4] at h;simp only at h;cases KF:Jj ((fF t).map (·.1)) [102] with
  | none=>rw[KF] at h;cases h;decide
  | some n=>
   rw[KF] at h;simp only at h;have hn:n<(fF t).length:=by have:=lI KF;simpa using this
   have h0:n=0:=by simpa [fF] using hn
   subst h0;rw[WZ] at h;refine bQt (λr ln d k g q hi=>?_) _ _ _ _ _ _ _ h;split at hi
   ·rename_i e he;cases hi;exact lQO he
   ·rename_i m he;exact Xd he (IQ t (by simp) (e:=0) _)
theorem I6:∀(l:List Nat),∀s∈QW l,∀b∈s,b∈l
 | []=>λs hs=>by simp[QW] at hs
 | c::l=>by
  have ih:=I6 l;intro s hs b hb;unfold QW at hs;split at hs
  ·rcases Q3.1 hs with rfl | hs
   ·cases hb
   ·exact dF _ (ih s hs b hb)
  ·cases hl:QW l with
   | nil=>rw[hl] at hs;rw[QL.1 hs] at hb;rw[QL.1 hb];simp
   | cons t ls=>
    rw[hl] at hs ih;rcases Q3.1 hs with rfl | hs
    ·rcases Q3.1 hb with rfl | hb
     ·simp
     ·exact dF _ (ih t (by simp) b hb)
    ·exact dF _ (ih s (by simp[hs]) b hb)
theorem bQu {f:List Nat}(hf:∀b∈f,b<256)(Ja:f.length<=60000)(c:Nat):∀(es:List Ed)(st:List Nat×Nat),(∀e∈es,(∀b∈e.tx,b<256)/\e.tx.length<=1000)->(∀b∈st.1,b<256)->
  (∀b∈(es.foldl (YM f c) st).1,b<256)/\(es.foldl (YM f c) st).1.length<=st.1.length+es.length*70000
 | [],st,_,h=>⟨h,by simp⟩
 | e::es,st,he,h=>by
  obtain⟨e1,e2⟩:=he e (by simp);have dA:=rB f st.2 e.fr.toNat;have pH:(∀b∈(YM f c st e).1,b<256)/\(YM f c st e).1.length<=st.1.length+70000:=by
   unfold YM;split
   ·refine⟨λb hb=>?_,by simp only[Qq];omega⟩;simp only[Xv] at hb;rcases hb with(hb | hb) | hb
    ·exact h b hb
    ·exact uZ hf _ _ b hb
    ·exact e1 b hb
   ·exact⟨h,by omega⟩
  obtain⟨i1,i2⟩:=bQu hf Ja c es (YM f c st e) (λb hb=>he b (by simp[hb])) pH.1;rw[wt,Q6,nz,Bl];exact⟨i1,by omega⟩
theorem lQQ {f:List Nat}(hf:∀b∈f,b<256)(Ja:f.length<=60000){stop a:Nat}{es:List Ed}(he:∀e∈es,(∀b∈e.tx,b<256)/\e.tx.length<=1000)(hl:es.length<=10)(c:Nat):(∀b∈W6 f stop a es c,b<256)/\(W6 f stop a es c).length<=1000000:=by
 obtain⟨h1,h2⟩:=bQu hf Ja c es ([],a) he (λb hb=>by cases hb);unfold W6;refine⟨λb hb=>?_,?_⟩
 ·rcases Xv.1 hb with hb | hb
  ·exact h1 b hb
  ·exact uZ hf _ _ b hb
 ·have:=rB f (es.foldl (YM f c) ([],a)).2 stop;have:=Y8 70000 hl;rw[Qq];simp only[Ji] at h2;omega
def u7 (s:List Nat):Prop:=(∀b∈s,b<256)/\s.length<=1000000
theorem bQv {nm:List (List Nat)}(hb:KG nm)(h:∀s∈nm,s.length<=1000)(v:Nat)(ng:Bool):u7 (JV nm v ng):=by
 refine⟨λb hb2=>?_,?_⟩
 ·unfold JV at hb2;simp only[Xv] at hb2;rcases hb2 with hb2 | hb2 | hb2
  ·exact(by decide:∀b∈ZC,b<256) b hb2
  ·cases ng with
   | true=>
        have:b=33:=by simpa using hb2
        rw[this];decide
   | false=>simp at hb2
  ·cases hv:nm[v]? with
   | none=>rw[hv] at hb2;simp at hb2
   | some s=>rw[hv] at hb2;exact(hb s (Xk hv)).1 b hb2
 ·unfold JV;have h1:((nm[v]?).getD []).length<=1000:=by
   cases hv:nm[v]? with
   | none=>simp
   | some s=>exact h s (Xk hv)
  have h2:(if ng then [33] else([]:List Nat)).length<=1:=by cases ng<;>simp
  have h3:ZC.length=4:=rfl;simp only[Qq];omega
theorem lQR {nm:List (List Nat)}(Yc:KG nm)(KQ:∀s∈nm,s.length<=1000){f:List Nat}(hf:∀b∈f,b<256)(Ja:f.length<=60000){es:List Ed}(he:∀e∈es,(∀b∈e.tx,b<256)/\e.tx.length<=1000)(hl:es.length<=10){S:List Nat}(hS:S.length<=16){a:Nat}{s:List Nat}(hs:u7 s){L:List (List Nat)}(h:ee nm f es S a s=some L):
  L.length<=16000048/\∀u∈L,u7 u:=by
 unfold ee at h;split at h
 ·rw[<-Option.some.inj h];exact⟨by show 1<=16000048;decide,λu hu=>by rw[QL.1 hu];exact hs⟩
 ·rename_i h0;split at h
  ·cases h
  ·split at h
   ·cases h
   ·rw[<-Option.some.inj h];have QO:S≠ []:=λe=>by
     apply h0;unfold ff;rw[wz];intro b hb;rw[e];simp[Wh]
    have hm:∀e∈ff es S a s,(∀b∈e.tx,b<256)/\e.tx.length<=1000:=λe hm=>he e (Jc.1 hm).1
    have FO:(ff es S a s).length<=10:=X4 (qh _ _) hl;obtain⟨h1,h2⟩:=rq (nm:=nm) (f:=W6 f (a+s.length+1) a (ff es S a s)) (P:=u7) (M:=1000000) (λv ng=>bQv Yc KQ v ng) ⟨by decide,by decide⟩ ⟨by decide,by decide⟩ nm.length 0 S QO (λc hc=>by
     obtain⟨v1,v2⟩:=lQQ hf Ja (stop:=a+s.length+1) (a:=a) hm FO c;obtain⟨l1,l2⟩:=Dh (W6 f (a+s.length+1) a (ff es S a s) c);exact⟨λu hu=>⟨λb hb=>v1 b (I6 _ u hu b hb),by have:=l2 u hu;omega⟩,by omega⟩)
    have:=Y8 (1000000+3) hS;exact⟨by omega,h1⟩
def ApR (nm:List (List Nat))(d:BF)(g:Gs)(f:List Nat)(es:List Ed)(ls:List (List Nat))(i:Nat)(L:List (List Nat)):Prop:=
 bZ nm d g f es ls 0=match bZ nm d g f es (ls.drop i) (Qk (ls.take i)).length with
  | none=>none
  | some m=>some (L++m)
theorem ApR.zero {nm:List (List Nat)}{d:BF}{g:Gs}{f:List Nat}{es:List Ed}{ls:List (List Nat)}:ApR nm d g f es ls 0 []:=by
 unfold ApR;show bZ nm d g f es ls 0=match bZ nm d g f es ls 0 with
  | none=>none
  | some m=>some ([]++m)
 cases bZ nm d g f es ls 0<;>rfl
theorem bQw {ls:List (List Nat)}{i:Nat}{s:List Nat}(h:ls[i]? =some s):(Qk (ls.take (i+1))).length=(Qk (ls.take i)).length+s.length+1:=by
 rw[V3,h];show(Qk (ls.take i++ [s])).length=_;rw[UX];simp only[Qq,gi];omega
theorem ApR.next {nm:List (List Nat)}{d:BF}{g:Gs}{f:List Nat}{es:List Ed}{ls:List (List Nat)}{i:Nat}{L l:List (List Nat)}{s:List Nat}(h:ApR nm d g f es ls i L)(hs:ls[i]? =some s)
  (hl:(if Zk s= .txt then ee nm f es (QF nm.length (ZD d (oJ g (Qk (ls.take i)).length))) (Qk (ls.take i)).length s else some [s])=some l):ApR nm d g f es ls (i+1) (L++l):=by
 have Xe:=(ZM.1 hs).1;have hd:ls.drop i=s::ls.drop (i+1):=by
  rw[av Xe];congr 1;rw[XB Xe] at hs;exact Option.some.inj hs
 unfold ApR at h ⊢;rw[hd,bZ,hl] at h;rw[bQw hs,h];simp only;cases bZ nm d g f es (ls.drop (i+1)) ((Qk (ls.take i)).length+s.length+1)with
 | none=>rfl
 | some m=>simp only[ZR]
theorem ApR.none {nm:List (List Nat)}{d:BF}{g:Gs}{f:List Nat}{es:List Ed}{ls:List (List Nat)}{i:Nat}{L:List (List Nat)}{s:List Nat}(h:ApR nm d g f es ls i L)(hs:ls[i]? =some s)
  (hl:(if Zk s= .txt then ee nm f es (QF nm.length (ZD d (oJ g (Qk (ls.take i)).length))) (Qk (ls.take i)).length s else some [s])=Option.none):bZ nm d g f es ls 0=Option.none:=by
 have Xe:=(ZM.1 hs).1;have hd:ls.drop i=s::ls.drop (i+1):=by
  rw[av Xe];congr 1;rw[XB Xe] at hs;exact Option.some.inj hs
 unfold ApR at h;rw[hd,bZ,hl] at h;exact h
theorem ApR.fin {nm:List (List Nat)}{d:BF}{g:Gs}{f:List Nat}{es:List Ed}{ls:List (List Nat)}{i:Nat}{L:List (List Nat)}(h:ApR nm d g f es ls i L)(hi:ls.length<=i):bZ nm d g f es ls 0=some L:=by
 unfold ApR at h;rw[qg hi] at h;rw[h];show some (L++ [])=some L;rw[JZ]
theorem bQx:∀{ls:List (List Nat)}{p i:Nat}{s:List Nat},ls[i]? =some s->(p+(Qk (ls.take i)).length,s)∈JL p ls
 | [],p,i,s,h=>by simp at h
 | t::ls,p,0,s,h=>by
  have:t=s:=by simpa using h
  subst this;simp[JL,Qk]
 | t::ls,p,i+1,s,h=>by
  have:=bQx (p:=p+t.length+1) (ls:=ls) (i:=i) (s:=s) (by simpa using h);refine dF _ ?_;rw[nC,V6];simp only[Qq,Q6];rw[show p+(t.length+((Qk (ls.take i)).length+1))=p+t.length+1+(Qk (ls.take i)).length by omega];exact this
theorem bQy {nm:List (List Nat)}{n d0:Nat}{inc:oq}(hi:∀r ln d k g g',inc r ln d k g≠ .ok g'):∀(ls:List (List Nat))(ln at_:Nat)(k:BF)(op:List Se)(g g':Gs),ZZ nm n d0 inc ls ln at_ k op g= .ok g'->∀q∈JL at_ ls,Zk q.2= .txt->∃k',(q.1,q.2,k')∈gG nm ls at_ k (j5 op)
 | [],ln,at_,k,op,g,g',_,q,hq,_=>by cases hq
 | s::ls,ln,at_,k,op,g,g',h,q,hq,nu=>by
  have ih:=λk op g h hq=>bQy (nm:=nm) (n:=n) (d0:=d0) hi ls (ln+1) (at_+s.length+1) k op g g' h q hq nu
  rw[ZZ.eq_def] at h;simp only at h;rw[gG.eq_def];simp only;rw[JL] at hq;cases XZ:Zk s with
  | txt=>
   rw[XZ] at h;simp only at h ⊢;cases ha:Vi (s++ [10]) n at_ k g with
   | none=>rw[ha] at h;cases h
   | some g1=>
    rw[ha] at h;rcases Q3.1 hq with rfl | hq
    ·exact⟨k,P5⟩
    ·obtain⟨k',VZ⟩:=ih _ _ _ h hq;exact⟨k',dF _ VZ⟩
  | ifd r=>
   rw[XZ] at h;simp only at h ⊢;rcases Q3.1 hq with rfl | hq
   ·rw[XZ] at nu;cases nu
   cases hs:VQ nm r with
   | error e=>rw[hs] at h;cases h
   | ok d=>
    rw[hs] at h;simp only at h ⊢;split at h
    ·cases h
    ·exact ih _ _ _ h hq
  | inc r=>
   rw[XZ] at h;simp only at h;cases hs:inc r (ln+1) (d0+op.length) k g with
   | error e=>rw[hs] at h;cases h
   | ok g1=>exact Xd hs (hi _ _ _ _ _ _)
  | elif r=>
   rw[XZ] at h;rcases Q3.1 hq with rfl | hq
   ·rw[XZ] at nu;cases nu
   cases op with
   | nil=>cases h
   | cons y op=>
    simp only at h ⊢;split at h
    ·cases h
    ·cases hs:VQ nm r with
     | error e=>rw[hs] at h;cases h
     | ok d=>rw[hs] at h;exact ih _ _ _ h hq
  | els=>
   rw[XZ] at h;rcases Q3.1 hq with rfl | hq
   ·rw[XZ] at nu;cases nu
   cases op with
   | nil=>cases h
   | cons y op=>
    simp only at h ⊢;split at h
    ·cases h
    ·exact ih y.re ({y with ot:=true}::op) {g with fr:=true} h hq
  | en=>
   rw[XZ] at h;rcases Q3.1 hq with rfl | hq
   ·rw[XZ] at nu;cases nu
   cases op with
   | nil=>cases h
   | cons y op=>exact ih y.ou op {g with fr:=true} h hq
theorem lQS {nm:List (List Nat)}{t:List Nat}{g:Gs}(hr:KH nm (fF t) [102]= .ok g){q:Nat×List Nat}(hq:q∈JL 0 (QW t))(hd:Zk q.2= .txt):∃k i x,SegAt g q.1 k i x:=by
 obtain⟨ht,h1,h2,h3⟩:=IR hr;have key:∃k',(q.1,q.2,k')∈gG nm (QW t) 0 (λ_=>true) []:=by
  unfold KH at hr;split at hr
  ·cases hr
  cases K4:YY (fF t)with
  | some p=>rw[K4] at hr;cases hr
  | none=>
   rw[K4] at hr;simp only at hr;cases KF:Jj ((fF t).map (·.1)) [102] with
   | none=>rw[KF] at hr;cases hr
   | some n=>
    rw[KF] at hr;simp only at hr;have hn:n<(fF t).length:=by have:=lI KF;simpa using this
    have h0:n=0:=by simpa [fF] using hn
    subst h0;have hx:(fF t)[0]? =some ([102],t):=rfl;rw[WZ,hx] at hr;simp only[ww,gc] at hr;exact bQy (λr ln d' k' g1 g2 hi=>by
     split at hi
     ·cases hi
     ·rename_i m he;exact IQ t (by simp) (e:=0) _ he) (QW t) 0 0 (λ_=>true) [] ⟨[],[],true⟩ g hr q hq hd
 obtain⟨k',hk⟩:=key;rw[<-h1] at hk;obtain⟨i,x,hs,_⟩:=aQY h3 h2 hk;exact⟨k',i,x,hs⟩
end
section
section
variable {P:Program} {ops:Array Oper} {md:Region.Mode} {C:World->Prop} {Q:Exit->Act->World->Prop}
def PanE (N:Slots)(T:Env)(Xj:List PanicEntry->World->Prop)(Q:Exit->Act->World->Prop):Exit->Act->World->Prop
 | .panic ch,a,w=>Fits N T a/\Xj ch w
 | e,a,w=>Q e a w
def yf (T:Env)(d:Option Tmp):Bool:=match d with
 | none=>true
 | some d=> !(kW d T)
theorem PanE.put {N:Slots}{T:Env}{Xj:List PanicEntry->World->Prop}{Q:Exit->Act->World->Prop}{ch:List PanicEntry}{a:Act}{d:Option Tmp}{v:Value}{w:World}(hd:yf T d=true)(h:PanE N T Xj Q (.panic ch) (a.put d v) w):PanE N T Xj Q (.panic ch) a w:=by
 obtain⟨h1,h3⟩:=h;cases d with
 | none=>exact⟨h1,h3⟩
 | some d=>
  refine⟨⟨by simpa [Act.put] using h1.size,by simpa [Act.put] using h1.defers,λk x hk=>?_⟩,h3⟩;have h4:=h1.has k x hk;have QO:d≠k:=λe=>by
   subst e;have h5:kW d T=false:=by simpa [yf] using hd
   rw[Rs h5] at hk;cases hk
  simpa [Act.put,QO] using h4
theorem PanE.imp {c:Cx}{T:Env}{Xj:List PanicEntry->World->Prop}{Q:Zj}(hp:∀ch w,Xj ch w->Q (.panic ch) T w):∀(e:Exit)(a:Act)(w:World),PanE c.N T Xj (Up c Q) e a w->Up c Q e a w:=λe a w h=>by
 cases e<;>first | exact h | (obtain⟨h1,h3⟩:=h;exact⟨T,h1,hp _ _ h3⟩)
theorem lQT {N:Slots}{T:Env}{Xj:List PanicEntry->World->Prop}{n i:Nat}{oi:Oper}{v:Value}{L:Array Bool->Act->World->Prop}(hi:ops[i]? =some oi)(jn:∀(j:Nat)(o:Oper) cs b,ops[j]? =some o->o.op≠ .select cs b)(hT:yf T oi.dst=true)
  (hs:jP md ops n) (Q5:i<n) (zW:∀listed a w,L listed a w->∀j∈Region.ready md ops listed,n<=j):
  ∀(f:Nat) (listed:Array Bool) (a:Act) (w:World),HeadInv md ops n listed->
   (∀j oj,ops[j]? =some oj->j≠i->listed.getD j true=false->(∀e∈oj.after,Region.binds md e=true->e.on≠i)->oi.apart ops oj=true)->
   i∈Region.ready md ops listed->YieldsIf P ops C oi v a->C w->
   Yf P md ops (PanE N T Xj Q) C n L f (listed.setIfInBounds i true) (a.put oi.dst v) w->Yf P md ops (PanE N T Xj Q) C n L (f+1) listed a w:=by
 intro f;induction f with
 | zero=>
  intro listed a w inv _ hr hy hC H;have JY:=(mem_ready.1 hr).1;refine⟨λh=>(by rw[h] at hr;cases hr),λj hj=>?_⟩;have KB:=tR hs inv Q5 JY j hj;refine⟨KB,?_⟩;by_cases Ve:j=i
  ·subst Ve;exact hy.wpOp hi hC ⟨hC,H⟩
  ·have:=zW _ _ _ H j (ready_mono hj Ve);omega
 | succ f ih=>
  intro listed a w inv pL hr hy hC H;have JY:=(mem_ready.1 hr).1;refine⟨λh=>(by rw[h] at hr;cases hr),λj hj=>?_⟩;have KB:=tR hs inv Q5 JY j hj;refine⟨KB,?_⟩;by_cases Ve:j=i
  ·subst Ve;exact hy.wpOp hi hC ⟨hC,H⟩
  ·have h1:=(H.2 j (ready_mono hj Ve)).2;obtain⟨pM,oj,fN,hall⟩:=mem_ready.1 hj;have mU:∀e∈oj.after,Region.binds md e=true->e.on≠i:=λe he hb heq=>by
    have h1:=hall e he hb;rw[heq,getD_both JY] at h1;cases h1
   have h2:=wpOp_putIf fN (pL j oj fN Ve pM mU) (λcs b=>jn i oi cs b hi) (λcs b=>jn j oj cs b fN) (λ_ _ _ h=>PanE.put hT h) hy h1;have zX:∀k ok,ops[k]? =some ok->k≠i->(listed.setIfInBounds j true).getD k true=false->
     (∀e∈ok.after,Region.binds md e=true->e.on≠i)->oi.apart ops ok=true:=λk ok hk zY JY Xq=>by
    refine pL k ok hk zY ?_ Xq;by_cases pN:j=k
    ·subst pN;exact pM
    ·rw[getD_set_ne true pN] at JY;exact JY
   refine wpOp_mono (λa' w' h3=>⟨h3.2.1,ih (listed.setIfInBounds j true) a' w' (inv.set hj KB) zX (ready_mono hr (Ne.symm Ve)) h3.1 h3.2.1 ?_⟩) h2;rw[dQK _ _ Ve];exact h3.2.2
end
section
variable {c:Cx} {S:Env} {a:Act}
def lY (c:Cx)(T:Env)(Xj:List PanicEntry->World->Prop)(all:List Oper)(C:World->Prop):List (Bool×Nat)->Env->World->(Env->World->Prop)->Prop
 | [],S,w,K=>K S w
 | (true,k)::l,S,w,K=>match K6 all k with
  | some o=>gp all o S (λS=>qD c o S C (λS=>lY c T Xj all C l S w K)) (λS=>Xh c S o.dst (.v undef) (λS=>lY c T Xj all C l S w K))
  | none=>False
 | (false,k)::l,S,w,K=>match K6 all k with
  | some o=>gp all o S (λS=>dI c o S w (λS w=>C w/\lY c T Xj all C l S w K) (λe S w=>match e with
   | .panic ch=>Has T S/\Xj ch w
   | _=>False)) (λS=>Xh c S o.dst (.v undef) (λS=>lY c T Xj all C l S w K))
  | none=>False
theorem Dn (hg:c.g.Ok){md:Region.Mode}{ops:List Oper}{C:World->Prop}{Q:Exit->Act->World->Prop}{n:Nat}(hs:Region.noSelect ops.toArray=true){T:Env}(hT:ops.all (λo=>yf T o.dst)=true)(hk:jP md ops.toArray n){K:Env->World->Prop}{Xj:List PanicEntry->World->Prop}:
  ∀(l:List (Bool×Nat)) (listed:Array Bool) (S:Env) (a:Act) (w:World),HeadInv md ops.toArray n listed->dM md ops.toArray n l listed=true->lY c T Xj ops C l S w K->Fits c.N S a->C w->
  Yf c.g.P md ops.toArray (PanE c.N T Xj Q) C n (λJo a' w'=>Region.seqB md ops.toArray (ops.toArray.size-n) n Jo=true/\∃S',Fits c.N S' a'/\K S' w') l.length listed a w
 | [],listed,S,a,w,inv,hB,h,hf,hC=>⟨hB,S,hf,h⟩
 | (true,k)::l,listed,S,a,w,inv,hB,h,hf,hC=>by
  simp only[dM,Z4] at hB;obtain⟨⟨⟨Xn,hr⟩,jl⟩,K2⟩:=hB;have Xn:k<n:=by rw[ii] at Xn;exact Xn
  have Q4:k∈Region.ready md ops.toArray listed:=by simpa using hr
  obtain⟨_,o,ho,_⟩:=mem_ready.1 Q4;have hn:K6 ops k=some o:=by rw[gm];simpa using ho
  simp only[lY,hn] at h;have key:∃v,YieldsIf c.g.P ops.toArray C o v a/\∃S',Fits c.N S' (a.put o.dst v)/\lY c T Xj ops C l S' w K:=by
   rcases jQ h hf with⟨hw,S1,Zh,h1⟩ | ⟨hw,S1,Zh,h1⟩
   ·obtain⟨v,h2,h3⟩:=wU hg h1 Zh;exact⟨v,.inl ⟨hw,h2⟩,h3⟩
   ·exact⟨undef,.inr ⟨hw,rfl⟩,Zy (e:=.v undef) h1 Zh⟩
  obtain⟨v,hy,S',QZ,h'⟩:=key;exact lQT ho (Region.noSelect_spec hs) (J0.1 hT o (Xk (by simpa using ho))) hk Xn (λJo a' w' hL=>seqB_ready hL.1) l.length listed a w inv (Region.free_spec ho jl) Q4 hy hC
   (Dn hg hs hT hk l _ S' _ w (inv.set Q4 Xn) K2 h' QZ hC)
 | (false,k)::l,listed,S,a,w,inv,hB,h,hf,hC=>by
  simp only[dM,Z4,VJ] at hB;obtain⟨⟨Xn,hr⟩,K2⟩:=hB;have Xn:k<n:=by rw[ii] at Xn;exact Xn
  have Q4:k∈Region.ready md ops.toArray listed:=by rw[hr];simp
  obtain⟨_,o,ho,_⟩:=mem_ready.1 Q4;have hn:K6 ops k=some o:=by rw[gm];simpa using ho
  simp only[lY,hn] at h;have eE:=inv.set Q4 Xn;refine⟨λh0=>(by rw[hr] at h0;cases h0),λi hi=>?_⟩;rw[hr] at hi;have zZ:i=k:=by simpa using hi
  subst zZ;refine⟨Xn,?_⟩;unfold wpOp;simp only[ho];rcases jQ h hf with⟨hw,S1,Zh,h1⟩ | ⟨hw,S1,Zh,h1⟩
  ·rw[Qe hw];refine .inl ?_;have h2:=qw hg h1 Zh;have h3:=Oper.wp_mono (K':=λa' w'=>C w'/\Yf c.g.P md ops.toArray (PanE c.N T Xj Q) C n (λJo a' w'=>Region.seqB md ops.toArray (ops.toArray.size-n) n Jo=true/\∃S',Fits c.N S' a'/\K S' w') l.length (listed.setIfInBounds i true) a' w')
    (λa' w' ⟨S',QZ,Z3,VZ⟩=>⟨Z3,Dn hg hs hT hk l _ S' a' w' eE K2 VZ QZ Z3⟩) h2
   unfold Oper.wp at h3 ⊢;generalize (execOp a.eval o).run c.g.P w=r at*;cases r with
   | ok nx w'=>
    cases nx<;>simp only[Oper.upon] at h3 ⊢ <;> try exact h3
    exact h3.mono λe Vc he=>by
     cases e with
     | returned v=>exact he
     | panicked ch=>obtain⟨_,hfz,he⟩:=he;exact⟨he.1.fits hfz,he.2⟩
     | outgrown=>obtain⟨_,_,_,_,he⟩:=he;exact he.elim
   | halt x w'=>cases x<;>simp only[Oper.upon] at h3 ⊢ <;> first | exact h3 | (obtain⟨_,hfz,h3⟩:=h3;exact⟨h3.1.fits hfz,h3.2⟩) | (obtain⟨_,_,h3⟩:=h3;exact h3.elim)
  ·rw[if_neg (by rw[hw];decide)];obtain⟨S',QZ,h'⟩:=Zy (e:=.v undef) h1 Zh;exact⟨hC,Dn hg hs hT hk l _ S' _ w eE K2 h' QZ hC⟩
theorem lQU (hg:c.g.Ok){id:Nat}{ops:List Oper}{w:World}{Q:Zj}(T:Env)(hT:ops.all (λo=>yf T o.dst)=true)(Xj:List PanicEntry->World->Prop)(OZ:∀ch w,Xj ch w->Q (.panic ch) T w)(C:World->Prop)(n:Nat)(plan:List (Bool×Nat))
  (hB:(Region.noSelect ops.toArray&&Nat.beq plan.length n&&qC .any ops.toArray n&&dM .any ops.toArray n plan (Array.replicate ops.toArray.size false))=true) (hC:C w.drew)
  (h:lY {c with named:=1000000} T Xj ops C plan S w.drew (λS w=>YD c ops (ops.drop n) S w (λS w=>Q .normal S w) (λe S w=>match e with
   | .panic ch=>Has T S/\Xj ch w
   | _=>False))):WA c id ops S w Q:=by
 unfold WA;intro a hf;simp only[Z4] at hB;obtain⟨⟨⟨hs,hl⟩,aU⟩,Jf⟩:=hB;have hl:=VG hl;have hk:=wT aU;have Fq:n<=ops.length:=by
  rcases hk with hk | hk
  ·rw[hk];simp
  ·have:=hk.1;simp at this;omega
 refine Code.wp_mono (PanE.imp OZ) (wp_region_any hg.mixed ?_);have mj:HeadInv .any ops.toArray n (Array.replicate ops.toArray.size false):=
  ⟨by simp,λj oj _ hl=>(by rw[getD_replicate_false] at hl;cases hl),λt _ ht=>getD_in (by simpa using ht) (getD_replicate_false _ _)⟩
 have H:=Dn (c:={c with named:=1000000}) hg (Q:=Up c Q) hs hT hk plan _ S a _ mj Jf h hf hC;have Yw:(ops.drop n).length=ops.toArray.size-n:=by simp
 have H2:=tQ (Q:=PanE c.N T Xj (Up c Q)) (g:=ops.toArray.size-n) (λJo a' w' hL=>by
  obtain⟨hq,S',QZ,VZ⟩:=hL;have h2:=jK (c:=c) hg ops _ _ _ _ VZ QZ;have:=wpAny_of_seq (P:=c.g.P) (md:=.any) (ops:=ops.toArray) (Q':=PanE c.N T Xj (Up c Q)) (ops.drop n) n Jo a' w' (λj=>by simp) (by rw[Yw];exact hq) (ld (λe a w hq=>by
   cases e with
   | normal=>exact hq
   | panic ch=>obtain⟨_,hfz,h⟩:=hq;exact⟨h.1.fits hfz,h.2⟩
   | _=>exact Xd hq (by rintro⟨_,_,h⟩;exact h)) h2)
  rwa [Yw] at this) _ _ _ _ H
 rw[hl,show n+(ops.toArray.size-n)=ops.toArray.size by simp;omega] at H2;exact H2
end
end
section
theorem lQV {nm:List (List Nat)}{x:DV}{f:List Nat}{es:List EdV}(h:IV nm x):oK nm x f es=match KH nm (fF f) [102] with
  | .error p=>.error p.e
  | .ok g=>if¬(es.all (λe=>Kv nm.length e.x.nd e.x.r)=true/\j9 nm.length f 0 (es.map EdV.ed)=true)then .error 291
   else match bZ nm (oD x) g f (es.map EdV.ed) (QW f) 0 with
    | none=>.error 291
    | some l=>if 1048576<(Qk l).length then .error 2
     else match KH nm (fF (Qk l)) [102] with
      | .error p=>if p.e=2 then .error 2 else .ok (Qk l)
      | .ok _=>.ok (Qk l):=by
 unfold oK;rw[if_neg (by rw[h.1,h.2];simp)];by_cases YB:es.all (λe=>Kv nm.length e.x.nd e.x.r)=true
 ·rw[Qe YB];unfold De;cases KH nm (fF f) [102] with
  | error p=>rfl
  | ok g=>
   simp only;by_cases hv:j9 nm.length f 0 (es.map EdV.ed)=true
   ·rw[if_neg (by rw[hv];decide),if_neg (λhh=>hh ⟨YB,hv⟩)];rfl
   ·rw[Qe (by simpa using hv),Qe (λhh=>hv hh.2)]
 ·rw[if_neg YB];cases KH nm (fF f) [102] with
  | error p=>rfl
  | ok g=>simp only;rw[Qe (λhh=>YB hh.1)]
theorem bQz {w:World}{w':World}{t:List Nat}{g:Nat}(hB:Blk w' g 85 (aG ([102],t))):SlS aG 2 w' (some ⟨g,0,none⟩) 1 1 (fF t):=⟨Sl.own (sz:=2) (n:=1) hB (QC _) (by decide) (by simp[aG]),rfl⟩
theorem bQA {t:List Nat}(h:∀b∈t,b<256)(hl:t.length<=9223372036854775807):∀x∈fF t,FileB x:=λx hx=>by
 rw[QL.1 hx];exact⟨(by decide:∀b∈ [102],b<256),h,by show 1<=_;decide,hl⟩
theorem bQB (NA:Option Addr)(nn nc:Nat)(nm:List (List Nat))(x:DV)(f:List Nat)(EA:Option Addr)(en ec:Nat)(es:List EdV)(mO:nm.length<=4)(Yc:KG nm)(KQ:∀s∈nm,s.length<=1000)(bG:∀b∈f,b<256)(Ja:f.length<=60000)
  (oQf:∀e∈es, -9223372036854775808<=e.fr/\e.fr<=9223372036854775807/\ -9223372036854775808<=e.to_/\e.to_<=9223372036854775807) (ht:∀e∈es,(∀b∈e.tx,b<256)/\e.tx.length<=1000) (F0:es.length<=10) (w:World)
  (hN:Sl w 1 NA nn nc (X9 nm)) (hx:SB w x.A x.n x.c x.nd) (hEs:SlS Kk 5 w EA en ec es) (hEb:∀e∈es,SB w e.x.A e.x.n e.x.c e.x.nd):
  Fn Tryz.prog 15 [.slice NA nn nc,Xl x.A x.n x.c x.r,.string (Qf f),.slice EA en ec] w (λu w'=>u=uX (oK nm x f es)/\Ext w w'):=by
 have hk:nm.length<=12:=by omega
 have Q0:nm.length=nn:=by have:=hN.len;rw[bn] at this;omega
 refine xe (c:={c15 with cuts:=[]}) Qa Tryz.func15 rfl rfl rfl ?_;refine ZS (ZH Qa ?_);refine new (λw0 DM mI hB0=>?_);refine new (λw1' Qd Q9 Qh=>?_);refine new (λw3 Qi JD Qu=>?_);obtain⟨w1,hw1⟩:∃w1,w1=w0:=⟨_,rfl⟩
 obtain⟨w2,hw2⟩:∃w2,w2=w1':=⟨_,rfl⟩
 subst hw1;subst hw2;have Ya:=Qd.trans Qi;have QY:=DM.trans Ya;have QO:w1.heap.size≠w2.heap.size:=by omega
 refine ZS (xd Qa rfl rfl rfl rfl ⟨_,_,_,_,rfl,rfl,?_⟩);refine ZS (ZH Qa ?_);refine Qt (hB0.ext Ya) rfl ?_;generalize Y7:oK nm x f es=M;refine XP (aQ9 NA nn nc nm x hk Yc w3 (hN.ext QY) (hx.ext QY)) ?_ ?_
 rotate_left
 ·rintro ch w4 ⟨Xq,rfl,Qs⟩;refine aA Qa (asx:= #[]) (cap:= #[.pointer (some ⟨w1.heap.size,0,none⟩),.pointer (some ⟨w2.heap.size,0,none⟩)]) rfl rfl (args:= #[.pointer (some ⟨w1.heap.size,0,none⟩),.pointer (some ⟨w2.heap.size,0,none⟩)]) (by simp) ((uU _ _ 1 w4 _ _ QO ((Qh.ext Qi).ext Qs) (Qu.ext Qs)).mono ?_);rintro e u' sn ⟨v,rfl,dm,YQ⟩;refine⟨v,rfl,dm,?_⟩;refine Qy YQ.1 rfl ?_;refine Qy YQ.2.1 rfl ?_;have aW:M= .error 1:=by
     rw[<-Y7];unfold oK;rw[Qe (by
      by_cases h1:ZQ nm=true
      ·exact .inr (eN.2 (λh2=>Xq ⟨h1,h2⟩))
      ·exact .inl (by simpa using h1))]
  rw[aW];exact⟨rfl,YQ.2.2.ext (QY.trans Qs) (λi hi=>by rcases hi with rfl | rfl<;>omega)⟩
 rintro _ w4 ⟨XY,Qs⟩;have Xr:=QY.trans Qs;rw[lQV XY] at Y7;have sx:=iN XY.2;have PE:=(hB0.ext Ya).ext Qs;have fX:=(Qh.ext Qi).ext Qs;have fQ:=Qu.ext Qs;refine ZS (ZH Qa ?_);refine Xw Qa [aG ([102],f)] rfl rfl rfl rfl rfl ⟨rfl,rfl,⟨⟩⟩ rfl (λcs h=>by simp only[QL] at h;subst h;rfl) rfl (by decide) (by decide) ?_;intro w5 Qx KL QB;have Z9:=Xr.trans Qx;refine call (H5 nm NA nn nc (fF f) _ 1 1 [102] w5 (hN.ext Z9) Yc hk (bQz (w:=w) QB) (bQA bG (by omega)) (by decide) (by decide)) ?_;rintro u6 w6 ⟨QN,iT⟩;have XS:=Z9.trans QN;have XK:=Qx.trans QN;cases WT:KH nm (fF f) [102] with
 | error q=>
  rw[WT] at iT Y7;have hq:=lQP WT;subst iT;refine new (λw7 Xf WJ Q8=>?_);refine new (λw8 Xp Yq Xx=>?_);refine Qw (Q8.ext Xp) rfl (sc rfl) (λw9 bB fy JO=>?_);have Zb:Mod (·=w6.heap.size) w8 w9:=qQT bB rfl;have E6:¬w7.heap.size=w6.heap.size:=by omega
  refine Qw (Xx.mod Zb E6) rfl (sc rfl) (λQK mM vm Km=>?_);have ZA:Mod (·=w7.heap.size) w9 QK:=qQT mM rfl;have vL:Ext w6 QK:=ZA.ext (Zb.ext (Xf.trans Xp) (λi hi=>by omega)) (λi hi=>by omega);have ss:=XK.trans vL;refine ZS (ZH Qa ?_);refine Qy Km rfl ?_;refine XP (Y2 q.e hq QK) (λ_ _ hf=>hf.elim) ?_;rintro ch _ ⟨rfl,rfl⟩;refine aA Qa (asx:= #[]) (cap:= #[.pointer (some ⟨w1.heap.size,0,none⟩),.pointer (some ⟨w2.heap.size,0,none⟩)]) rfl rfl (args:= #[.pointer (some ⟨w1.heap.size,0,none⟩),.pointer (some ⟨w2.heap.size,0,none⟩)]) (by simp) ((uU _ _ q.e QK _ _ QO (fX.ext ss) (fQ.ext ss)).mono ?_);rintro e u' sn ⟨v,rfl,dm,YQ⟩;refine⟨v,rfl,dm,?_⟩;refine Qy YQ.1 rfl ?_;refine Qy YQ.2.1 rfl ?_;have aW:M= .error q.e:=Y7.symm;rw[aW];exact⟨rfl,YQ.2.2.ext (Xr.trans ss) (λi hi=>by rcases hi with rfl | rfl<;>omega)⟩
 | ok g=>
  rw[WT] at iT Y7;simp only at Y7;obtain⟨dQG,SA,scp,SL,rfl,FH⟩:=iT;obtain⟨PF,qQN,qQO,pQq⟩:=IR WT;obtain⟨MX,PG,dQH⟩:=UO FH;have hMl:=dQH.len;refine new (λw7 Xf WJ Q8=>?_);refine new (λw8 Xp Yq Xx=>?_);refine Qw (Q8.ext Xp) rfl (sc rfl) (λw9 bB fy JO=>?_);have Zb:Mod (·=w6.heap.size) w8 w9:=qQT bB rfl;have E6:¬w7.heap.size=w6.heap.size:=by omega
  refine Qw (Xx.mod Zb E6) rfl (sc rfl) (λQK mM vm Km=>?_);have ZA:Mod (·=w7.heap.size) w9 QK:=qQT mM rfl;have vL:Ext w6 QK:=ZA.ext (Zb.ext (Xf.trans Xp) (λi hi=>by omega)) (λi hi=>by omega);have FL:=JO.mod ZA (λh=>E6 h.symm);refine ZS (ZH Qa ?_);refine Qy Km rfl ?_;refine call (Iz QK) ?_;rintro _ _ rfl;have ss:=XK.trans vL;have pw:=Xr.trans ss;refine ZS (ZH Qa ?_);refine Qt (PE.ext ss) rfl ?_;refine new (λQJ Z2 rP Z1=>?_);have Wo:=pw.trans Z2;have di:=ss.trans Z2
  let p:EP:=⟨QK.heap.size,NA,nn,nc,nm,x,f,EA,en,ec,es⟩
  have hB:EB p:=⟨mO,Yc,KQ,bG,Ja,PF,oQf,λe he=>(ht e he).1,λe he=>(ht e he).2,F0⟩
  have K:EK QJ p:=⟨Z1,hN.ext Wo,hEs.ext Wo,λe he=>(hEb e he).ext Wo⟩
  refine ZS (ZH Qa ?_);refine XP (lQv p hB QJ K) ?_ ?_
  rotate_left
  ·rintro ch Xa ⟨Xq,rfl,Xm⟩;refine aA Qa (asx:= #[]) (cap:= #[.pointer (some ⟨w1.heap.size,0,none⟩),.pointer (some ⟨w2.heap.size,0,none⟩)]) rfl rfl (args:= #[.pointer (some ⟨w1.heap.size,0,none⟩),.pointer (some ⟨w2.heap.size,0,none⟩)]) (by simp) ((uU _ _ 291 Xa _ _ QO ((fX.ext di).ext Xm) ((fQ.ext di).ext Xm)).mono ?_);rintro e u' sn ⟨v,rfl,dm,YQ⟩;refine⟨v,rfl,dm,?_⟩;refine Qy YQ.1 rfl ?_;refine Qy YQ.2.1 rfl ?_;have aW:M= .error 291:=by rw[<-Y7,Qe Xq]
   rw[aW];exact⟨rfl,YQ.2.2.ext (Wo.trans Xm) (λi hi=>by rcases hi with rfl | rfl<;>omega)⟩
  rintro _ Xa ⟨hV,Xm⟩;rw[if_neg (λhh=>hh hV)] at Y7;have rT:=Wo.trans Xm;have oQg:=di.trans Xm;have K12:=K.ext Xm;refine ZS (ZH Qa ?_);refine ZS (ZH Qa ?_);refine ZS (ZH Qa ?_);refine call (CD f Xa bG (by omega)) ?_;rintro _ X1 ⟨PA,pc,rfl,XI,zD⟩;have jv:=Cz PF;have dy:(iH f).length=(QW f).length:=by rw[jv,JR]
  rw[dy] at zD;have zD:Sn X1 PA (QW f).length pc (J7 (QW f)):=by rw[jv] at zD;exact zD
  have jC:=nX f;have JY:=aE PF;have dQI:=Dh f;have rQ:=rT.trans XI;have vM:=oQg.trans XI;have K13:=K12.ext XI;have E7:=FL.ext (Z2.trans (Xm.trans XI));have oQh:=PG.ext (vL.trans (Z2.trans (Xm.trans XI)));have qQP:(QW f).length<=60000:=by have:=dQI.1;omega
  have pQr:∀s∈(QW f),u7 s:=λs hs=>by
   exact⟨λb hb=>bG b (I6 _ s hs b hb),by have:=dQI.2 s hs;omega⟩
  have pQs:∀e∈es.map EdV.ed,(∀b∈e.tx,b<256)/\e.tx.length<=1000:=λe he=>by
   obtain⟨e0,he0,rfl⟩:=ZG.1 he;exact ht e0 he0
  have Nw:∀o:BF,(QF nm.length o).length<=16:=λo=>X4 (bQi _ _) (X4 (WW (by decide) mO) (by decide))
  have qQQ:g.sg.length<=65536:=dQG.sl;have pQt:∀i,(Qk ((QW f).take i)).length<=60000:=λi=>by
   have hu:∀a b:List (List Nat),Qk (a++b)=Qk a++Qk b:=λa b=>by simp[Qk]
   have e5:Qk (QW f)=Qk ((QW f).take i)++Qk ((QW f).drop i):=by rw[<-hu,dE]
   have:=QD List.length e5;rw[JY,Qq] at this;omega
  refine loop Qa [46,13,14,15] (λt:Nat×List (List Nat)×Option Addr×Nat×Nat=>[.int .i64 t.1,.slice t.2.2.1 t.2.1.length t.2.2.2.1,.int .i64 (Qk ((QW f).take t.1)).length,.int .i64 t.2.2.2.2]) (λt w'=>Lo X1 w' t.2.2.1 t.2.1.length t.2.2.2.1 t.2.1/\t.1<=(QW f).length/\ApR nm (oD x) g f (es.map EdV.ed) (QW f) t.1 t.2.1/\(∀j y,g.sg[j]? =some y->j<t.2.2.2.2->y.at_+(y.t-y.f)<=(Qk ((QW f).take t.1)).length)/\t.2.1.length<=t.1*16000048/\(∀u∈t.2.1,u7 u)/\t.2.2.2.2<=g.sg.length) (λt _=>(QW f).length-t.1) (0,[],none,0,0) rfl ⟨⟨Ext.refl _,Own.nil _ _ _ _⟩,Xt _,ApR.zero,(λj y _ hj=>Xd hj (Nat.not_lt_zero _)),Xt _,(λu hu=>by cases hu),Xt _⟩ ?_;rintro⟨i,L,LA,lc,seg⟩ Zm ⟨tm,hi,ao,PH,O9,AW,dQJ⟩;simp only at tm hi ao PH O9 AW dQJ;have kC:=tm.e;have DQ:=rQ.trans kC;have E8:=vM.trans kC;refine Qz (λc1=>?_) (λc1=>?_)
  ·have Q5:i<(QW f).length:=by simp only at c1;omega
   obtain⟨s,hs⟩:∃s,(QW f)[i]? =some s:=⟨_,XB Q5⟩
   have gY:=Xk hs;have aU:=pQr s gY;have hut:=bQw hs;have qQq:=pQt (i+1);have aS:=bQx (p:=0) hs;rw[a8] at aS;refine Vr (cs:=J7 (QW f)) (by rw[dy];exact zD.1.ext kC) (by rw[dy];exact Q5) (λad u hA hu Xy=>?_);rw[iP hs] at hu;cases hu;refine load Xy ?_;refine call (CV (s++ [10]) Zm (gF aU.1)) ?_;rintro _ KA ⟨rfl,JQ⟩;have AT:(Qf (s++ [10])).size=s.length+1:=by rw[Xi];simp
   have An:(i+1)*16000048=i*16000048+16000048:=by omega
   rw[CC];refine Qz (λd1=>?_) (λd1=>?_)
   ·refine Xw Qa [[Value.string (Qf (s++ [10]))]] rfl rfl rfl rfl rfl ⟨rfl,rfl,⟨⟩⟩ rfl (λcs hh=>by simp only[QL] at hh;subst hh;rfl) rfl (by decide) (by decide) ?_;intro Y4 VX nQm Wq;have vt:=JQ.trans VX;have MS:Sl Y4 1 (some ⟨KA.heap.size,0,none⟩) 1 1 (J7 [s]):=Sl.own' (n:=1) Wq rfl (by decide);refine JH (n:=L.length) Qa rfl rfl rfl rfl rfl (by decide) rfl rfl ⟨_,rfl⟩ rfl rfl (tm.ext vt).ow MS (cU _) (by unfold maxLen;omega) (by show(L.length+1)*16<=_;omega) (tm.ext vt).e.size ?_;intro LA2 NR Vo oQi E4 qQr;have oQj:=(tm.ext vt).app oQi E4;refine Qj ((Qk ((QW f).take (i+1))).length:Int) (by show((Qk ((QW f).take i)).length:Int)+((Qf (s++ [10])).size:Int)=_;rw[AT,hut];omega) (by omega) ?_;refine Qj ((i+1:Nat):Int) (by show((i:Nat):Int)+1=_;omega) (by omega) ?_;refine⟨(i+1,L++ [s],LA2,NR,seg),by simp only[Qq];rfl,⟨by simp only[Qq];exact oQj,Q5,ao.next hs (by rw[if_neg d1]),λj y hy hj=>by have:=PH j y hy hj;simp only;omega,by simp only[Qq,gi];omega,λu hu=>?_,dQJ⟩,by show(QW f).length-(i+1)<(QW f).length-i;omega⟩;rcases Xv.1 hu with hu | hu
    ·exact AW u hu
    ·rw[QL.1 hu];exact aU
   ·have PI:Zk s= .txt:=Decidable.not_not.1 d1;obtain⟨kk,σ,y,ig⟩:=lQS WT aS PI;have ig:SegAt g (Qk ((QW f).take i)).length kk σ y:=ig;have pQu:=ig.cnd;have hσ:σ<g.sg.length:=(ZM.1 ig.get).1;have hsσ:seg<=σ:=by
     apply Classical.byContradiction;intro hh;have:=PH σ y ig.get (by omega);have:=ig.hi;omega
    have cQ3:=kC.trans JQ;have MR:=E7.ext cQ3;have oQk:=oQh.ext cQ3;have Xy:∀{w':World} (_:Ext KA w') (sg:Nat) (z:Sx),MX[sg]? =some z->∃q,g.sg[sg]? =some q/\z.f=q.f/\z.t=q.t/\z.at_=q.at_/\Set1 nm.length z.x.nd z.x.r q.o:=λ_ sg z hz=>by
     have Xe:=(ZM.1 hz).1;obtain⟨q,hq⟩:∃q,g.sg[sg]? =some q:=⟨_,XB (by omega)⟩
     obtain⟨a1,a2,a3,a4,a5⟩:=dQH.get hq hz;exact⟨q,hq,a1,a2,a4,a5⟩
    refine loop Qa [15] (λsg:Nat=>[.int .i64 sg]) (λsg w'=>Ext KA w'/\sg<=σ) (λsg _=>σ-sg) seg rfl ⟨Ext.refl _,hsσ⟩ ?_;rintro sg Y4 ⟨VX,FH⟩;have NS:=MR.ext VX;have NT:=oQk.ext VX;have vN:=Ext.drew Y4;obtain⟨q0,Yv⟩:∃q0,g.sg[sg]? =some q0:=⟨_,XB (by omega)⟩
    have PJ:=pQq.ok q0 (Xk Yv);have hqf:=PJ.ft;have wr:=PJ.tl;obtain⟨x0,de,fp,_⟩:=PJ.src;have qQR:x0.2.length<=60000:=by
     have:q0.fl=0:=by
      have:=(ZM.1 de).1;simpa [fF] using this
     rw[this] at de;have:x0=([102],f):=(Option.some.inj de).symm;rw[this];exact Ja
    have qQS:=dQG.tl;refine XL Qa (Ext Y4) 22 [(true,0),(true,1),(true,2),(true,3),(true,4),(true,5),(true,6),(true,7),(true,8),(true,9),(true,10),(true,11),(true,12),(true,13),(true,14),(true,15),(true,16),(true,17),(true,18),(true,19),(true,20),(true,21)] (by kernel_rfl) vN ?_;refine QQ (v:=.slice SA g.sg.length scp) (λw' Qb=>(NS.ext Qb).cell 1) ?_;refine Zz qZ NT.sl rfl (by omega) (λpd z hz hc=>?_);obtain⟨q1,kA,z1,z2,z3,z4⟩:=Xy VX sg z hz;rw[Yv] at kA;cases kA;refine QQ (v:=.int .i64 z.at_) (λw' Qb=>Qb.cell (hc 3 _ rfl)) ?_;refine QQ (v:=.slice SA g.sg.length scp) (λw' Qb=>(NS.ext Qb).cell 1) ?_;refine Zz qZ NT.sl rfl (by omega) (λpd2 z' ag Z3=>?_);rw[hz] at ag;cases ag;refine QQ (v:=.int .i64 z.t) (λw' Qb=>Qb.cell (Z3 1 _ rfl)) ?_;refine Qj ((q0.at_+q0.t:Nat):Int) (by omega) (by omega) ?_;refine QQ (v:=.slice SA g.sg.length scp) (λw' Qb=>(NS.ext Qb).cell 1) ?_;refine Zz qZ NT.sl rfl (by omega) (λpd3 z' ag r9=>?_);rw[hz] at ag;cases ag;refine QQ (v:=.int .i64 z.f) (λw' Qb=>Qb.cell (r9 0 _ rfl)) ?_;refine Qj ((q0.at_+(q0.t-q0.f):Nat):Int) (by omega) (by omega) ?_;refine Qz (λc3=>?_) (λc3=>?_)
    ·have Xe:sg<σ:=by
      apply Classical.byContradiction;intro hh;have:sg=σ:=by omega
      subst this;rw[ig.get] at Yv;cases Yv;have:=ig.hi;simp only at c3;omega
     refine Qj ((sg+1:Nat):Int) (by show((sg:Nat):Int)+1=_;omega) (by omega) ?_;exact⟨sg+1,rfl,⟨VX.trans vN,by omega⟩,by show σ-(sg+1)<σ-sg;omega⟩
    ·have Xe:sg=σ:=by
      apply Classical.byContradiction;intro hh;have:=ig.first sg q0 Yv (by omega);simp only at c3;omega
     subst Xe;rw[ig.get] at Yv;cases Yv;have fO:QF nm.length (λe=>oD x e&&y.o e)=QF nm.length (ZD (oD x) (oJ g (Qk ((QW f).take i)).length)):=by rw[pQu,<-ig.o]
     have pm:Ext Zm Y4.drew:=JQ.trans (VX.trans vN);have NU:=DQ.trans pm;have su:=kC.trans pm;have cQ4:=tm.ext pm;have Y6:=cQ4.ow.rows;generalize Y4.drew=Vo at*;have aY:=Ext.drew Vo;have z13:=vM.size;have oQl:=PE.ext (vM.trans su);have cQ5:Ext w6 Vo:=(vL.trans (Z2.trans (Xm.trans XI))).trans su;have oQe:=(vL.trans (Z2.trans (Xm.trans XI))).size;have nx:¬Ql LA w.heap.size:=λh=>by have:=(Y6 _ h).1;have:=PE.lt;omega
     have nS:¬Ql LA w6.heap.size:=λh=>by have:=(Y6 _ h).1;have:=E7.lt;omega
     have oQm:=E7.ext su;have hcL:LA=LA:=rfl;refine lQU Qa [(8,.v (.pointer (some ⟨w1.heap.size,0,none⟩))),(9,.v (.pointer (some ⟨w2.heap.size,0,none⟩)))] rfl (λch w'=>ee nm f (es.map EdV.ed) (QF nm.length (λe=>oD x e&&y.o e)) (Qk ((QW f).take i)).length s=none/\ch=kc 291/\Ext Vo w') (λch aQ hp=>by
      obtain⟨Xq,rfl,sw⟩:=hp;refine aA Qa (asx:= #[]) (cap:= #[.pointer (some ⟨w1.heap.size,0,none⟩),.pointer (some ⟨w2.heap.size,0,none⟩)]) rfl rfl (args:= #[.pointer (some ⟨w1.heap.size,0,none⟩),.pointer (some ⟨w2.heap.size,0,none⟩)]) (by simp) ((uU _ _ 291 aQ _ _ QO (fX.ext (vM.trans (su.trans sw))) (fQ.ext (vM.trans (su.trans sw)))).mono ?_);rintro e u' sn ⟨v,rfl,dm,YQ⟩;refine⟨v,rfl,dm,?_⟩;refine Qy YQ.1 rfl ?_;refine Qy YQ.2.1 rfl ?_;have aW:M= .error 291:=by rw[<-Y7,ao.none hs (by rw[Qe PI,<-fO];exact Xq)]
      rw[aW];exact⟨rfl,YQ.2.2.ext (Xr.trans (vM.trans (su.trans sw))) (λi hi=>by rcases hi with rfl | rfl<;>omega)⟩) (Mod (Ql LA) Vo) 15 [(true,0),(true,1),(true,2),(true,3),(true,4),(true,5),(true,6),(true,7),(true,8),(true,9),(true,10),(false,11),(false,12),(false,13),(true,14)] (by kernel_rfl) (Mod.of_ext _ aY) ?_
     refine Xo (vs:=x.cells) rfl (λw' Qb k u hk=>by rw[(oQl.mod Qb nx).cell];exact hk) ?_;refine QQ (v:=.slice SA g.sg.length scp) (λw' Qb=>(oQm.mod Qb nS).cell 1) ?_;refine Zz qZ PG.sl rfl (by omega) (λpd4 z' ag Ea=>?_);rw[hz] at ag;cases ag;have hpb:pd4.block<w6.heap.size:=by
      have:=World.block_lt_of_cell? w6 _ (Ea 4 _ rfl)
      rwa [nL] at this
     have npd:¬Ql LA pd4.block:=λh=>by have:=(Y6 _ h).1;have:=E7.lt;omega
     refine Xo (vs:=[.slice z.x.A z.x.n z.x.c,.int .i64 z.x.r]) rfl (λw' Qb k u hk=>by
      rw[add_add];refine Qb.cell (cQ5.cell (Ea (4+k) u (by match k,hk with | 0,hk=>exact hk | 1,hk=>exact hk))) (by rw[nL];exact npd)) ?_
     have KW:Set1 nm.length z.x.nd z.x.r y.o:=z4;have AF:=(PG.dg z (Xk hz)).ext cQ5;refine call (oH hk x z.x Vo.drew ((hx.ext NU).ext aY) (AF.ext aY) sx KW) ?_;rintro _ KZ ⟨QA,Qn,Qc,Qnd,Qr,rfl,kD,oQn,sQ,_⟩;have E9:=aY.trans kD;refine⟨Mod.of_ext _ E9,?_⟩;have pq:=su.trans E9;refine XP (lQN p hB hV (Qk ((QW f).take i)).length s aS ⟨QA,Qn,Qc,Qnd,Qr⟩ _ KZ (K13.ext pq) oQn sQ) ?_ ?_
     rotate_left
     ·rintro ch aQ ⟨Xq,rfl,jb⟩;exact⟨rfl,Xq,rfl,E9.trans jb⟩
     rintro u19 aQ ⟨Lx,pX,A19,c19,rfl,jb,oQo⟩;have sw:=E9.trans jb;refine⟨Mod.of_ext _ sw,?_⟩;have pX:ee nm f (es.map EdV.ed) (QF nm.length (λe=>oD x e&&y.o e)) (Qk ((QW f).take i)).length s=some Lx:=pX;rw[fO] at pX;obtain⟨lx1,lx2⟩:=lQR Yc KQ bG Ja pQs (by rw[JR];exact F0) (Nw _) aU pX;have hmx:(Lx.map (·++ [10])).length=Lx.length:=by rw[JR]
     have cQ6:i*16000048<=60000*16000048:=Y8 _ (by omega);have NV:=cQ4.ext sw;refine JH (n:=L.length) Qa rfl rfl rfl rfl rfl (by decide) rfl rfl ⟨_,rfl⟩ rfl rfl NV.ow oQo.1 (cU _) (by unfold maxLen;omega) (by show(L.length+(Lx.map (·++ [10])).length)*16<=_;omega) NV.e.size ?_;intro LA2 NR Yt DY oQp D0;have oQq:Mod (Ql LA) Vo Yt:=(Mod.of_ext (Ql LA) sw).trans DY (λi hi=>.inl hi);refine⟨oQq,?_⟩;have cQ7:=NV.app DY oQp;refine Qj ((Qk ((QW f).take (i+1))).length:Int) (by show((Qk ((QW f).take i)).length:Int)+((Qf (s++ [10])).size:Int)=_;rw[AT,hut];omega) (by omega) ?_;refine Qj ((i+1:Nat):Int) (by show((i:Nat):Int)+1=_;omega) (by omega) ?_;refine⟨(i+1,L++Lx,LA2,NR,sg),by simp only[Qq,JR];rfl,⟨by simp only[Qq];rw[hmx] at cQ7;exact cQ7,Q5,ao.next hs (by rw[Qe PI];exact pX),λj y' sY hj=>by have:=ig.first j y' sY hj;simp only;omega,by simp only[Qq];omega,λu hu=>?_,by simp only;omega⟩,by show(QW f).length-(i+1)<(QW f).length-i;omega⟩;rcases Xv.1 hu with hu | hu
     ·exact AW u hu
     ·exact lx2 u hu
  ·have Q5:i=(QW f).length:=by simp only at c1;omega
   have FG:=ao.fin (by omega);rw[FG] at Y7;simp only at Y7;obtain⟨LA',lc',zg,_,Fa⟩:=tm.fin (Ext.refl X1);simp only[Value.slice.injEq,JR] at zg;obtain⟨rfl,_,rfl⟩:=zg;have cQ6:L.length<=60000*16000048:=X4 O9 (Y8 _ (by omega));have hub:(Qk L).length<=1000000000000000000:=by
    have h1:=yd (M:=1000000) (λu hu=>(AW u hu).2);have h2:=Y8 (1000000+1) cQ6;omega
   have Fa:Sn Zm LA L.length lc (J7 L):=by rw[JR] at Fa;exact Fa
   have hu8:∀b∈Qk L,b<256:=λb hb=>by
    obtain⟨u,hu,hb⟩:=cB.1 hb;exact gF (AW u hu).1 b hb
   refine ZS (ZH Qa ?_);refine XP (aQ8 LA L.length lc L Zm Fa hub) ?_ ?_
   rotate_left
   ·rintro ch _ ⟨sL,rfl,rfl⟩;refine aA Qa (asx:= #[]) (cap:= #[.pointer (some ⟨w1.heap.size,0,none⟩),.pointer (some ⟨w2.heap.size,0,none⟩)]) rfl rfl (args:= #[.pointer (some ⟨w1.heap.size,0,none⟩),.pointer (some ⟨w2.heap.size,0,none⟩)]) (by simp) ((uU _ _ 2 Zm _ _ QO (fX.ext E8) (fQ.ext E8)).mono ?_);rintro e u' sn ⟨v,rfl,dm,YQ⟩;refine⟨v,rfl,dm,?_⟩;refine Qy YQ.1 rfl ?_;refine Qy YQ.2.1 rfl ?_;have aW:M= .error 2:=by rw[<-Y7,Qe sL]
    rw[aW];exact⟨rfl,YQ.2.2.ext (Xr.trans E8) (λi hi=>by rcases hi with rfl | rfl<;>omega)⟩
   rintro _ KA ⟨Ke,rfl,JQ⟩;rw[if_neg (by omega)] at Y7;have cQ8:=E8.trans JQ;have cQS:=DQ.trans JQ;refine KS (fX.ext cQ8) (by simp[J1]) (λY4 cQ9 Wq=>?_);have Wq:Blk Y4 w1.heap.size 9 [.string (Qf (Qk L))]:=Wq;have NW:Ext w Y4:=cQ9.ext cQS (λi hi=>by omega);have dQa:=(fQ.ext cQ8).mod cQ9 QO.symm;refine ZS (ZH Qa ?_);refine Qy Wq rfl ?_;refine Xw Qa [aG ([102],Qk L)] rfl rfl rfl rfl rfl ⟨rfl,rfl,⟨⟩⟩ rfl (λcs h=>by simp only[QL] at h;subst h;rfl) rfl (by decide) (by decide) ?_;intro Vo pe nQ1 pj;have NU:=NW.trans pe;refine call (H5 nm NA nn nc (fF (Qk L)) _ 1 1 [102] Vo (hN.ext NU) Yc hk (bQz (w:=w) pj) (bQA hu8 (by omega)) (by decide) (by decide)) ?_;rintro u18 KZ ⟨kD,Fb⟩;have zE:=pe.trans kD;have fin:∀(P:Value) (q:Pl) (KZ:World),True:=λ_ _ _=>trivial
   cases Wl:KH nm (fF (Qk L)) [102] with
   | error q=>
    rw[Wl] at Fb Y7;simp only at Y7;subst Fb;refine new (λaQ jb cQp yX=>?_);refine new (λYt sA cQq NY=>?_);refine Qw (yX.ext sA) rfl (sc rfl) (λgN yY dQb mK=>?_);have kx:Mod (·=KZ.heap.size) Yt gN:=qQT yY rfl;have NZ:¬aQ.heap.size=KZ.heap.size:=by omega
    refine Qw (NY.mod kx NZ) rfl (sc rfl) (λWs zF oQr ky=>?_);have N0:Mod (·=aQ.heap.size) gN Ws:=qQT zF rfl;have zG:Ext KZ Ws:=N0.ext (kx.ext (jb.trans sA) (λi hi=>by omega)) (λi hi=>by omega);have sB:=zE.trans zG;have vP:=Wq.ext sB;have F5:=dQa.ext sB;have Fc:=NW.trans sB;refine Qy ky rfl ?_;refine Zd (λh2=>?_) (λh2=>?_)
    ·have h2:q.e=2:=h2;rw[Qe h2] at Y7;refine XP (Y2 2 (by decide) Ws) (λ_ _ hf=>hf.elim) ?_;rintro ch _ ⟨rfl,rfl⟩;refine aA Qa (asx:= #[]) (cap:= #[.pointer (some ⟨w1.heap.size,0,none⟩),.pointer (some ⟨w2.heap.size,0,none⟩)]) rfl rfl (args:= #[.pointer (some ⟨w1.heap.size,0,none⟩),.pointer (some ⟨w2.heap.size,0,none⟩)]) (by simp) ((uU _ _ 2 Ws _ _ QO vP F5).mono ?_);rintro e u' sn ⟨v,rfl,dm,YQ⟩;refine⟨v,rfl,dm,?_⟩;refine Qy YQ.1 rfl ?_;refine Qy YQ.2.1 rfl ?_;have aW:M= .error 2:=Y7.symm;rw[aW];exact⟨rfl,YQ.2.2.ext Fc (λi hi=>by rcases hi with rfl | rfl<;>omega)⟩
    have h2:q.e≠2:=h2;rw[if_neg h2] at Y7;refine ZH Qa ?_;refine Qy vP rfl ?_;refine KS vP (by simp) (λFd zH ko=>?_);refine KS (F5.mod zH QO.symm) (by simp[J1]) (λjk mt mF=>?_);refine gu Qa rfl rfl (.inl rfl) (args:= #[.pointer (some ⟨w1.heap.size,0,none⟩),.pointer (some ⟨w2.heap.size,0,none⟩)]) (by simp) ((bQc _ _ jk).mono ?_);rintro e u' sn ⟨v,rfl,dm,rfl⟩;refine⟨v,rfl,dm,?_⟩;refine Qy (ko.mod mt QO) rfl ?_;refine Qy mF rfl ?_;exact⟨by rw[<-Y7];rfl,mt.ext (zH.ext Fc (λj hj=>by omega)) (λj hj=>by omega)⟩
   | ok g2=>
    rw[Wl] at Fb Y7;simp only at Y7;obtain⟨_,SA2,sc2,SL2,rfl,_⟩:=Fb;refine new (λaQ jb cQp yX=>?_);refine new (λYt sA cQq NY=>?_);refine Qw (yX.ext sA) rfl (sc rfl) (λgN yY dQb mK=>?_);have kx:Mod (·=KZ.heap.size) Yt gN:=qQT yY rfl;have NZ:¬aQ.heap.size=KZ.heap.size:=by omega
    refine Qw (NY.mod kx NZ) rfl (sc rfl) (λWs zF oQr ky=>?_);have N0:Mod (·=aQ.heap.size) gN Ws:=qQT zF rfl;have zG:Ext KZ Ws:=N0.ext (kx.ext (jb.trans sA) (λi hi=>by omega)) (λi hi=>by omega);have sB:=zE.trans zG;have vP:=Wq.ext sB;have F5:=dQa.ext sB;have Fc:=NW.trans sB;refine Qy ky rfl ?_;refine XG (by decide) ?_;refine ZH Qa ?_;refine Qy vP rfl ?_;refine KS vP (by simp) (λFd zH ko=>?_);refine KS (F5.mod zH QO.symm) (by simp[J1]) (λjk mt mF=>?_);refine gu Qa rfl rfl (.inl rfl) (args:= #[.pointer (some ⟨w1.heap.size,0,none⟩),.pointer (some ⟨w2.heap.size,0,none⟩)]) (by simp) ((bQc _ _ jk).mono ?_);rintro e u' sn ⟨v,rfl,dm,rfl⟩;refine⟨v,rfl,dm,?_⟩;refine Qy (ko.mod mt QO) rfl ?_;refine Qy mF rfl ?_;exact⟨by rw[<-Y7];rfl,mt.ext (zH.ext Fc (λj hj=>by omega)) (λj hj=>by omega)⟩
theorem lZ {k:Nat}{x:DV}{o:BF}(s:Set1 k x.nd x.r o):oD x=o:=funext (λe=>s.mean e)
theorem I7 {k v:Nat}(hv:v<k)(hk:k<=12)(w:World):Fn Tryz.prog 34 [.int .i64 v] w (xO w k (λe=>e v)):=by
 refine(HG (v:Int) w (by omega) (by omega)).mono ?_;rintro u w' ⟨A,n,c,rfl,hE,hb,hr⟩;exact⟨A,n,c,_,_,rfl,hE,hb,H8 hv (by omega),hr⟩
theorem I8 {k:Nat}(hk:k<=12)(x:DV){o:BF}(w:World)(h:SB w x.A x.n x.c x.nd)(s:Set1 k x.nd x.r o):Fn Tryz.prog 35 [Xl x.A x.n x.c x.r] w (xO w k (λe=> !o e)):=by
 refine(HJ x.A x.n x.c x.nd x.r w h).mono ?_;have s0:Set1 k [] 0 (λ_=>false):=bT k false;rw[iC hk s s0 3];have c1:Set1 k _ _ (λe=> !o e):=(eX s s0 3).congr (λe=>by simp[Kt]);generalize V4 x.nd x.r [] 0 3=D at*;obtain⟨D1,D2⟩:=D;rintro u w' ⟨A,n,c,rfl,hE,hb,hr⟩;exact⟨A,n,c,_,_,rfl,hE,hb,c1,hr⟩
theorem bQC {k:Nat}(hk:k<=12)(x y:DV){o o':BF}(w:World)(h:SB w x.A x.n x.c x.nd)(h':SB w y.A y.n y.c y.nd)(s:Set1 k x.nd x.r o)(s':Set1 k y.nd y.r o'):
  Fn Tryz.prog 36 [Xl x.A x.n x.c x.r,Xl y.A y.n y.c y.r] w (xO w k (λe=>o e&&o' e)):=by
 refine(xF x.A x.n x.c x.nd x.r y.A y.n y.c y.nd y.r w h h').mono ?_;rw[iC hk s s' 0];have c1:Set1 k _ _ (λe=>o e&&o' e):=(eX s s' 0).congr (λe=>by simp[Kt]);generalize V4 x.nd x.r y.nd y.r 0=D at*;obtain⟨D1,D2⟩:=D;rintro v w' ⟨PA,q,pc,rfl,hE,hP,hR⟩;exact⟨PA,q,pc,D1,D2,rfl,hE,hP,c1,hR⟩
def lQW (r:Except Int (List Nat))(t:List Nat):Bool:=match r with
 | .ok l=>decide (l=t)
 | .error _=>false
def K7:List (List Nat):=[[65],[66]]
theorem I9:KG K7:=λs hs=>by
 simp only[K7,Q3,Jx,or_false] at hs;rcases hs with rfl | rfl<;>exact⟨by decide,by decide⟩
theorem La:∀s∈K7,s.length<=1000:=by decide
def Do (yes no:List Nat):Except Int (List Nat):=fg K7 (λ_=>true) [⟨λe=>e 0,yes⟩,⟨λe=> !e 0,no⟩]
theorem Ld (yes no want:List Nat)(hy:(∀b∈yes,b<256)/\yes.length<=2000)(hn:(∀b∈no,b<256)/\no.length<=2000)(w:World)(XY:Do yes no= .ok want):
  Fn Tryz.prog 38 [.string (Qf yes),.string (Qf no),.string (Qf want)] w (λu w'=>u= .bool true/\Ext w w'):=by
 refine QH (c:={c38 with cuts:=[]}) Qa Tryz.func38 rfl rfl rfl ?_;refine call (I7 (k:=2) (v:=0) (by decide) (by decide) w) ?_;rintro _ w1 ⟨A1,n1,c1,d1,r1,rfl,Qd,Mz,s1,_⟩;refine new (λw2 Qg Zi Qv=>?_);refine Qw Qv rfl (sc rfl) (λw3 Je _ Qu=>?_);have XI:Ext w1 w3:=XV Qg Qv Je;refine Qt Qu rfl ?_;refine call (I8 (k:=2) (by decide) ⟨A1,n1,c1,d1,r1⟩ w3 (Mz.ext XI) s1) ?_;rintro _ w4 ⟨A2,n2,c2,d2,r2,rfl,Qs,hb2,s2,_⟩;refine new (λw5 Qx KL QB=>?_);refine Qw QB rfl (sc rfl) (λw6 Wm _ Xg=>?_);have XK:Ext w4 w6:=XV Qx QB Wm;have bF:=Qs.trans XK;have XS:=Qd.trans (XI.trans bF);have oQs:=Qu.ext bF;have hd:=Ext.drew w6;have fin:∀(NA:Option Addr) (nc:Nat) (PA:Option Addr) (pc:Nat) (w':World),Ext w6 w'->Sl w' 1 NA 2 nc (X9 K7)->SlS JK 3 w' PA 2 pc [(⟨A1,n1,c1,d1,r1⟩,yes),(⟨A2,n2,c2,d2,r2⟩,no)]->
   Fn Tryz.prog 24 [.slice NA 2 nc,Xl none 0 0 1,.slice PA 2 pc] w' (λu Vc=>u= .tuple #[.string (Qf want),.int .i64 0]/\Ext w' Vc):=λNA nc PA pc w' ib PK PL=>by
  refine(Di NA 2 nc K7 ⟨none,0,0,[],1⟩ PA 2 pc _ (by decide) I9 La (λq hq=>by
   simp only[Q3,Jx,or_false] at hq;rcases hq with rfl | rfl
   ·exact hy
   ·exact hn) w' PK (SlS.nil _) PL (λq hq=>by
   simp only[Q3,Jx,or_false] at hq;rcases hq with rfl | rfl
   ·exact Mz.ext (XI.trans (bF.trans ib))
   ·exact hb2.ext (XK.trans ib))).mono ?_
  rintro u Vc ⟨rfl,PM⟩;refine⟨?_,PM⟩;have sc:Set1 2 [] 1 (λ_=>true):=bT 2 true;rw[IU (nm:=K7) (x:=⟨none,0,0,[],1⟩) (by decide) (gE (x:=⟨none,0,0,[],1⟩) (by decide) sc).1 (λq hq=>by
   simp only[Q3,Jx,or_false] at hq;rcases hq with rfl | rfl
   ·exact(gE (by decide) s1).1
   ·exact(gE (by decide) s2).1)]
  have e0:oD ⟨none,0,0,[],1⟩=λ_=>true:=lZ (x:=⟨none,0,0,[],1⟩) sc
  have e1:oD ⟨A1,n1,c1,d1,r1⟩=λe=>e 0:=lZ (x:=⟨A1,n1,c1,d1,r1⟩) s1
  have e2:oD ⟨A2,n2,c2,d2,r2⟩=λe=> !e 0:=lZ (x:=⟨A2,n2,c2,d2,r2⟩) s2
  rw[e0];have e3:Zv [((⟨A1,n1,c1,d1,r1⟩:DV),yes),(⟨A2,n2,c2,d2,r2⟩,no)]=[⟨λe=>e 0,yes⟩,⟨λe=> !e 0,no⟩]:=by
   simp only[Zv,Kr,wv,e1,e2]
  rw[e3];have:fg K7 (λ_=>true) [⟨λe=>e 0,yes⟩,⟨λe=> !e 0,no⟩]= .ok want:=XY;rw[this]<;>rfl
 refine ID Qa (Ext w6) 15 (.quiet 2 (.quiet 3 (.quiet 4 (.quiet 5 (.quiet 6 (.quiet 7 (.fork 0 (.fork 1 (.fork 8 (.fork 9 (.quiet 10 (.quiet 11 (.quiet 12 (.quiet 13 (.quiet 14 .done))))) .skip) .skip) (.fork 8 (.fork 1 (.fork 9 (.quiet 10 (.quiet 11 (.quiet 12 (.quiet 13 (.quiet 14 .done))))) .skip) .skip) .skip)) (.fork 1 (.fork 0 (.fork 8 (.fork 9 (.quiet 10 (.quiet 11 (.quiet 12 (.quiet 13 (.quiet 14 .done))))) .skip) .skip) (.fork 8 (.fork 0 (.fork 9 (.quiet 10 (.quiet 11 (.quiet 12 (.quiet 13 (.quiet 14 .done))))) .skip) .skip) .skip)) (.fork 8 (.fork 0 (.fork 1 (.fork 9 (.quiet 10 (.quiet 11 (.quiet 12 (.quiet 13 (.quiet 14 .done))))) .skip) .skip) (.fork 1 (.fork 0 (.fork 9 (.quiet 10 (.quiet 11 (.quiet 12 (.quiet 13 (.quiet 14 .done))))) .skip) .skip) .skip)) .skip))))))))) (by kernel_rfl) hd ?_;refine Xo (vs:=[.slice A1 n1 c1,.int .i64 r1]) rfl (λw' Qb k u hk=>by rw[(oQs.ext Qb).cell];exact hk) ?_;refine Xo (vs:=[.slice A2 n2 c2,.int .i64 r2]) rfl (λw' Qb k u hk=>by rw[(Xg.ext Qb).cell];exact hk) ?_;refine⟨?_,?_,?_,trivial⟩
 ·refine Xw Qa [[Value.string (Qf [65])],[Value.string (Qf [66])]] rfl rfl rfl rfl rfl ⟨rfl,rfl,rfl,rfl,⟨⟩⟩ rfl (λcs h=>by simp only[Q3,Jx,or_false] at h;rcases h with rfl | rfl<;>rfl) rfl (by decide) (by decide) ?_;intro v1 g1 _ sC;have f1:=hd.trans g1;refine⟨f1,?_⟩;refine⟨?_,?_,trivial⟩
  ·refine call (cQ true _) ?_;rintro _ v2 ⟨rfl,g2⟩;have f2:=f1.trans g2;refine⟨f2,?_⟩;refine⟨?_,trivial⟩
   ·refine Xw Qa [JK (⟨A1,n1,c1,d1,r1⟩,yes),JK (⟨A2,n2,c2,d2,r2⟩,no)] rfl rfl rfl rfl rfl ⟨rfl,rfl,rfl,rfl,⟨⟩⟩ rfl (λcs h=>by simp only[Q3,Jx,or_false] at h;rcases h with rfl | rfl<;>rfl) rfl (by decide) (by decide) ?_;intro v3 g3 _ N4;have f3:=f2.trans g3;refine⟨f3,?_⟩;refine⟨?_,trivial⟩;refine call (fin _ 2 _ 2 v3 f3 (Sl.own' (n:=2) (sC.ext (g2.trans g3)) rfl (by decide)) ⟨Sl.own (sz:=3) (n:=2) N4 (QC _) (by decide) (by simp[JK]),rfl⟩) ?_;rintro _ w9 ⟨rfl,XE⟩;refine⟨f3.trans XE,?_⟩;refine Xc rfl ?_;exact⟨QD Value.bool (X2 rfl),XS.trans (f3.trans XE)⟩
  ·refine Xw Qa [JK (⟨A1,n1,c1,d1,r1⟩,yes),JK (⟨A2,n2,c2,d2,r2⟩,no)] rfl rfl rfl rfl rfl ⟨rfl,rfl,rfl,rfl,⟨⟩⟩ rfl (λcs h=>by simp only[Q3,Jx,or_false] at h;rcases h with rfl | rfl<;>rfl) rfl (by decide) (by decide) ?_;intro v2 g2 _ N5;have f2:=f1.trans g2;refine⟨f2,?_⟩;refine⟨?_,trivial⟩
   ·refine call (cQ true _) ?_;rintro _ v3 ⟨rfl,g3⟩;have f3:=f2.trans g3;refine⟨f3,?_⟩;refine⟨?_,trivial⟩;refine call (fin _ 2 _ 2 v3 f3 (Sl.own' (n:=2) (sC.ext (g2.trans g3)) rfl (by decide)) ⟨Sl.own (sz:=3) (n:=2) (N5.ext g3) (QC _) (by decide) (by simp[JK]),rfl⟩) ?_;rintro _ w9 ⟨rfl,XE⟩;refine⟨f3.trans XE,?_⟩;refine Xc rfl ?_;exact⟨QD Value.bool (X2 rfl),XS.trans (f3.trans XE)⟩
 ·refine call (cQ true _) ?_;rintro _ v1 ⟨rfl,g1⟩;have f1:=hd.trans g1;refine⟨f1,?_⟩;refine⟨?_,?_,trivial⟩
  ·refine Xw Qa [[Value.string (Qf [65])],[Value.string (Qf [66])]] rfl rfl rfl rfl rfl ⟨rfl,rfl,rfl,rfl,⟨⟩⟩ rfl (λcs h=>by simp only[Q3,Jx,or_false] at h;rcases h with rfl | rfl<;>rfl) rfl (by decide) (by decide) ?_;intro v2 g2 _ mQ;have f2:=f1.trans g2;refine⟨f2,?_⟩;refine⟨?_,trivial⟩
   ·refine Xw Qa [JK (⟨A1,n1,c1,d1,r1⟩,yes),JK (⟨A2,n2,c2,d2,r2⟩,no)] rfl rfl rfl rfl rfl ⟨rfl,rfl,rfl,rfl,⟨⟩⟩ rfl (λcs h=>by simp only[Q3,Jx,or_false] at h;rcases h with rfl | rfl<;>rfl) rfl (by decide) (by decide) ?_;intro v3 g3 _ N4;have f3:=f2.trans g3;refine⟨f3,?_⟩;refine⟨?_,trivial⟩;refine call (fin _ 2 _ 2 v3 f3 (Sl.own' (n:=2) (mQ.ext g3) rfl (by decide)) ⟨Sl.own (sz:=3) (n:=2) N4 (QC _) (by decide) (by simp[JK]),rfl⟩) ?_;rintro _ w9 ⟨rfl,XE⟩;refine⟨f3.trans XE,?_⟩;refine Xc rfl ?_;exact⟨QD Value.bool (X2 rfl),XS.trans (f3.trans XE)⟩
  ·refine Xw Qa [JK (⟨A1,n1,c1,d1,r1⟩,yes),JK (⟨A2,n2,c2,d2,r2⟩,no)] rfl rfl rfl rfl rfl ⟨rfl,rfl,rfl,rfl,⟨⟩⟩ rfl (λcs h=>by simp only[Q3,Jx,or_false] at h;rcases h with rfl | rfl<;>rfl) rfl (by decide) (by decide) ?_;intro v2 g2 _ N5;have f2:=f1.trans g2;refine⟨f2,?_⟩;refine⟨?_,trivial⟩
   ·refine Xw Qa [[Value.string (Qf [65])],[Value.string (Qf [66])]] rfl rfl rfl rfl rfl ⟨rfl,rfl,rfl,rfl,⟨⟩⟩ rfl (λcs h=>by simp only[Q3,Jx,or_false] at h;rcases h with rfl | rfl<;>rfl) rfl (by decide) (by decide) ?_;intro v3 g3 _ gQ;have f3:=f2.trans g3;refine⟨f3,?_⟩;refine⟨?_,trivial⟩;refine call (fin _ 2 _ 2 v3 f3 (Sl.own' (n:=2) gQ rfl (by decide)) ⟨Sl.own (sz:=3) (n:=2) (N5.ext g3) (QC _) (by decide) (by simp[JK]),rfl⟩) ?_;rintro _ w9 ⟨rfl,XE⟩;refine⟨f3.trans XE,?_⟩;refine Xc rfl ?_;exact⟨QD Value.bool (X2 rfl),XS.trans (f3.trans XE)⟩
 ·refine Xw Qa [JK (⟨A1,n1,c1,d1,r1⟩,yes),JK (⟨A2,n2,c2,d2,r2⟩,no)] rfl rfl rfl rfl rfl ⟨rfl,rfl,rfl,rfl,⟨⟩⟩ rfl (λcs h=>by simp only[Q3,Jx,or_false] at h;rcases h with rfl | rfl<;>rfl) rfl (by decide) (by decide) ?_;intro v1 g1 _ vQ;have f1:=hd.trans g1;refine⟨f1,?_⟩;refine⟨?_,?_,trivial⟩
  ·refine Xw Qa [[Value.string (Qf [65])],[Value.string (Qf [66])]] rfl rfl rfl rfl rfl ⟨rfl,rfl,rfl,rfl,⟨⟩⟩ rfl (λcs h=>by simp only[Q3,Jx,or_false] at h;rcases h with rfl | rfl<;>rfl) rfl (by decide) (by decide) ?_;intro v2 g2 _ mQ;have f2:=f1.trans g2;refine⟨f2,?_⟩;refine⟨?_,trivial⟩
   ·refine call (cQ true _) ?_;rintro _ v3 ⟨rfl,g3⟩;have f3:=f2.trans g3;refine⟨f3,?_⟩;refine⟨?_,trivial⟩;refine call (fin _ 2 _ 2 v3 f3 (Sl.own' (n:=2) (mQ.ext g3) rfl (by decide)) ⟨Sl.own (sz:=3) (n:=2) (vQ.ext (g2.trans g3)) (QC _) (by decide) (by simp[JK]),rfl⟩) ?_;rintro _ w9 ⟨rfl,XE⟩;refine⟨f3.trans XE,?_⟩;refine Xc rfl ?_;exact⟨QD Value.bool (X2 rfl),XS.trans (f3.trans XE)⟩
  ·refine call (cQ true _) ?_;rintro _ v2 ⟨rfl,g2⟩;have f2:=f1.trans g2;refine⟨f2,?_⟩;refine⟨?_,trivial⟩
   ·refine Xw Qa [[Value.string (Qf [65])],[Value.string (Qf [66])]] rfl rfl rfl rfl rfl ⟨rfl,rfl,rfl,rfl,⟨⟩⟩ rfl (λcs h=>by simp only[Q3,Jx,or_false] at h;rcases h with rfl | rfl<;>rfl) rfl (by decide) (by decide) ?_;intro v3 g3 _ gQ;have f3:=f2.trans g3;refine⟨f3,?_⟩;refine⟨?_,trivial⟩;refine call (fin _ 2 _ 2 v3 f3 (Sl.own' (n:=2) gQ rfl (by decide)) ⟨Sl.own (sz:=3) (n:=2) (vQ.ext (g2.trans g3)) (QC _) (by decide) (by simp[JK]),rfl⟩) ?_;rintro _ w9 ⟨rfl,XE⟩;refine⟨f3.trans XE,?_⟩;refine Xc rfl ?_;exact⟨QD Value.bool (X2 rfl),XS.trans (f3.trans XE)⟩
def rC (file:List Nat)(e:Ed):Except Int (List Nat):=De K7 (λ_=>true) file [e]
theorem bQD (file:List Nat)(e:EdV){o:BF}(hf:(∀b∈file,b<256)/\file.length<=60000)(fx: -9223372036854775808<=e.fr/\e.fr<=9223372036854775807/\ -9223372036854775808<=e.to_/\e.to_<=9223372036854775807)(ht:(∀b∈e.tx,b<256)/\e.tx.length<=1000)(se:Set1 2 e.x.nd e.x.r o)
  (NA:Option Addr) (nc:Nat) (EA:Option Addr) (ec:Nat) (w:World) (hb:SB w e.x.A e.x.n e.x.c e.x.nd) (hN:Sl w 1 NA 2 nc (X9 K7)) (hE:SlS Kk 5 w EA 1 ec [e]):
  Fn Tryz.prog 15 [.slice NA 2 nc,Xl none 0 0 1,.string (Qf file),.slice EA 1 ec] w (λu w'=>u=uX (rC file ⟨e.fr,e.to_,e.tx,o⟩)/\Ext w w'):=by
 refine(bQB NA 2 nc K7 ⟨none,0,0,[],1⟩ file EA 1 ec [e] (by decide) I9 La hf.1 hf.2 (λb hb=>by rw[QL.1 hb];exact fx) (λb hb=>by rw[QL.1 hb];exact ht) (by show 1<=10;decide) w hN (SlS.nil _) hE (λb hb2=>by rw[QL.1 hb2];exact hb)).mono ?_;rintro u w' ⟨rfl,ib⟩;refine⟨?_,ib⟩;have sc:Set1 2 [] 1 (λ_=>true):=bT 2 true;have e0:oD ⟨none,0,0,[],1⟩=λ_=>true:=lZ (x:=⟨none,0,0,[],1⟩) sc
 have o1:Kv K7.length [] 1=true:=(gE (x:=⟨none,0,0,[],1⟩) (n:=2) (by decide) sc).1;have o2:Kv K7.length e.x.nd e.x.r=true:=(gE (n:=2) (by decide) se).1;have e3: [e].map EdV.ed=[⟨e.fr,e.to_,e.tx,o⟩]:=by
  show [(⟨e.fr,e.to_,e.tx,oD e.x⟩:Ed)]=_;rw[lZ se]
 unfold oK rC;rw[if_neg (by rw[show ZQ K7=true from by decide];show¬(true=false∨Kv K7.length [] 1=false);rw[o1];decide),Qe (by simp only[wu,List.all_nil,Bn];exact o2),e0,e3]
theorem Le (file want:List Nat)(e:EdV){o:BF}(hf:(∀b∈file,b<256)/\file.length<=60000)(fx: -9223372036854775808<=e.fr/\e.fr<=9223372036854775807/\ -9223372036854775808<=e.to_/\e.to_<=9223372036854775807)(ht:(∀b∈e.tx,b<256)/\e.tx.length<=1000)(se:Set1 2 e.x.nd e.x.r o)(w:World)(hb:SB w e.x.A e.x.n e.x.c e.x.nd)(XY:rC file ⟨e.fr,e.to_,e.tx,o⟩= .ok want):
  Fn Tryz.prog 39 [.string (Qf file),.agg (Kk e).toArray,.string (Qf want)] w (λu w'=>u= .bool true/\Ext w w'):=by
 refine QH (c:={c39 with cuts:=[]}) Qa Tryz.func39 rfl rfl rfl ?_;refine new (λw6 XS cj Xg=>?_);have hd:=Ext.drew w6;have fin:∀(NA:Option Addr) (nc:Nat) (EA:Option Addr) (ec:Nat) (w':World),Ext w6 w'->Sl w' 1 NA 2 nc (X9 K7)->SlS Kk 5 w' EA 1 ec [e]->
   Fn Tryz.prog 15 [.slice NA 2 nc,Xl none 0 0 1,.string (Qf file),.slice EA 1 ec] w' (λu Vc=>u= .tuple #[.string (Qf want),.int .i64 0]/\Ext w' Vc):=λNA nc EA ec w' ib PK PL=>by
  refine(bQD file e hf fx ht se NA nc EA ec w' (hb.ext (XS.trans ib)) PK PL).mono ?_;rintro u Vc ⟨rfl,PM⟩;rw[XY];exact⟨rfl,PM⟩
 refine ID Qa (Ext w6) 11 (.quiet 2 (.quiet 3 (.fork 0 (.fork 1 (.fork 4 (.fork 5 (.quiet 6 (.quiet 7 (.quiet 8 (.quiet 9 (.quiet 10 .done))))) .skip) .skip) (.fork 4 (.fork 1 (.fork 5 (.quiet 6 (.quiet 7 (.quiet 8 (.quiet 9 (.quiet 10 .done))))) .skip) .skip) .skip)) (.fork 1 (.fork 0 (.fork 4 (.fork 5 (.quiet 6 (.quiet 7 (.quiet 8 (.quiet 9 (.quiet 10 .done))))) .skip) .skip) (.fork 4 (.fork 0 (.fork 5 (.quiet 6 (.quiet 7 (.quiet 8 (.quiet 9 (.quiet 10 .done))))) .skip) .skip) .skip)) (.fork 4 (.fork 0 (.fork 1 (.fork 5 (.quiet 6 (.quiet 7 (.quiet 8 (.quiet 9 (.quiet 10 .done))))) .skip) .skip) (.fork 1 (.fork 0 (.fork 5 (.quiet 6 (.quiet 7 (.quiet 8 (.quiet 9 (.quiet 10 .done))))) .skip) .skip) .skip)) .skip))))) (by kernel_rfl) hd ?_;refine Xo (vs:=Kk e) rfl (λw' Qb k u hk=>by rw[(Xg.ext Qb).cell];exact hk) ?_;refine⟨?_,?_,?_,trivial⟩
 ·refine Xw Qa [[Value.string (Qf [65])],[Value.string (Qf [66])]] rfl rfl rfl rfl rfl ⟨rfl,rfl,rfl,rfl,⟨⟩⟩ rfl (λcs h=>by simp only[Q3,Jx,or_false] at h;rcases h with rfl | rfl<;>rfl) rfl (by decide) (by decide) ?_;intro v1 g1 _ sC;have f1:=hd.trans g1;refine⟨f1,?_⟩;refine⟨?_,?_,trivial⟩
  ·refine call (cQ true _) ?_;rintro _ v2 ⟨rfl,g2⟩;have f2:=f1.trans g2;refine⟨f2,?_⟩;refine⟨?_,trivial⟩
   ·refine Xw Qa [Kk e] rfl rfl rfl rfl rfl ⟨rfl,rfl,⟨⟩⟩ rfl (λcs h=>by simp only[QL] at h;subst h;rfl) rfl (by decide) (by decide) ?_;intro v3 g3 _ Qi;have f3:=f2.trans g3;refine⟨f3,?_⟩;refine⟨?_,trivial⟩;refine call (fin _ 2 _ 1 v3 f3 (Sl.own' (n:=2) (sC.ext (g2.trans g3)) rfl (by decide)) ⟨Sl.own (sz:=5) (n:=1) Qi (QC _) (by decide) (by simp[Kk]),rfl⟩) ?_;rintro _ w9 ⟨rfl,XE⟩;refine⟨f3.trans XE,?_⟩;refine Xc rfl ?_;exact⟨QD Value.bool (X2 rfl),XS.trans (f3.trans XE)⟩
  ·refine Xw Qa [Kk e] rfl rfl rfl rfl rfl ⟨rfl,rfl,⟨⟩⟩ rfl (λcs h=>by simp only[QL] at h;subst h;rfl) rfl (by decide) (by decide) ?_;intro v2 g2 _ Qg;have f2:=f1.trans g2;refine⟨f2,?_⟩;refine⟨?_,trivial⟩
   ·refine call (cQ true _) ?_;rintro _ v3 ⟨rfl,g3⟩;have f3:=f2.trans g3;refine⟨f3,?_⟩;refine⟨?_,trivial⟩;refine call (fin _ 2 _ 1 v3 f3 (Sl.own' (n:=2) (sC.ext (g2.trans g3)) rfl (by decide)) ⟨Sl.own (sz:=5) (n:=1) (Qg.ext g3) (QC _) (by decide) (by simp[Kk]),rfl⟩) ?_;rintro _ w9 ⟨rfl,XE⟩;refine⟨f3.trans XE,?_⟩;refine Xc rfl ?_;exact⟨QD Value.bool (X2 rfl),XS.trans (f3.trans XE)⟩
 ·refine call (cQ true _) ?_;rintro _ v1 ⟨rfl,g1⟩;have f1:=hd.trans g1;refine⟨f1,?_⟩;refine⟨?_,?_,trivial⟩
  ·refine Xw Qa [[Value.string (Qf [65])],[Value.string (Qf [66])]] rfl rfl rfl rfl rfl ⟨rfl,rfl,rfl,rfl,⟨⟩⟩ rfl (λcs h=>by simp only[Q3,Jx,or_false] at h;rcases h with rfl | rfl<;>rfl) rfl (by decide) (by decide) ?_;intro v2 g2 _ mQ;have f2:=f1.trans g2;refine⟨f2,?_⟩;refine⟨?_,trivial⟩
   ·refine Xw Qa [Kk e] rfl rfl rfl rfl rfl ⟨rfl,rfl,⟨⟩⟩ rfl (λcs h=>by simp only[QL] at h;subst h;rfl) rfl (by decide) (by decide) ?_;intro v3 g3 _ Qi;have f3:=f2.trans g3;refine⟨f3,?_⟩;refine⟨?_,trivial⟩;refine call (fin _ 2 _ 1 v3 f3 (Sl.own' (n:=2) (mQ.ext g3) rfl (by decide)) ⟨Sl.own (sz:=5) (n:=1) Qi (QC _) (by decide) (by simp[Kk]),rfl⟩) ?_;rintro _ w9 ⟨rfl,XE⟩;refine⟨f3.trans XE,?_⟩;refine Xc rfl ?_;exact⟨QD Value.bool (X2 rfl),XS.trans (f3.trans XE)⟩
  ·refine Xw Qa [Kk e] rfl rfl rfl rfl rfl ⟨rfl,rfl,⟨⟩⟩ rfl (λcs h=>by simp only[QL] at h;subst h;rfl) rfl (by decide) (by decide) ?_;intro v2 g2 _ Qg;have f2:=f1.trans g2;refine⟨f2,?_⟩;refine⟨?_,trivial⟩
   ·refine Xw Qa [[Value.string (Qf [65])],[Value.string (Qf [66])]] rfl rfl rfl rfl rfl ⟨rfl,rfl,rfl,rfl,⟨⟩⟩ rfl (λcs h=>by simp only[Q3,Jx,or_false] at h;rcases h with rfl | rfl<;>rfl) rfl (by decide) (by decide) ?_;intro v3 g3 _ gQ;have f3:=f2.trans g3;refine⟨f3,?_⟩;refine⟨?_,trivial⟩;refine call (fin _ 2 _ 1 v3 f3 (Sl.own' (n:=2) gQ rfl (by decide)) ⟨Sl.own (sz:=5) (n:=1) (Qg.ext g3) (QC _) (by decide) (by simp[Kk]),rfl⟩) ?_;rintro _ w9 ⟨rfl,XE⟩;refine⟨f3.trans XE,?_⟩;refine Xc rfl ?_;exact⟨QD Value.bool (X2 rfl),XS.trans (f3.trans XE)⟩
 ·refine Xw Qa [Kk e] rfl rfl rfl rfl rfl ⟨rfl,rfl,⟨⟩⟩ rfl (λcs h=>by simp only[QL] at h;subst h;rfl) rfl (by decide) (by decide) ?_;intro v1 g1 _ Qd;have f1:=hd.trans g1;refine⟨f1,?_⟩;refine⟨?_,?_,trivial⟩
  ·refine Xw Qa [[Value.string (Qf [65])],[Value.string (Qf [66])]] rfl rfl rfl rfl rfl ⟨rfl,rfl,rfl,rfl,⟨⟩⟩ rfl (λcs h=>by simp only[Q3,Jx,or_false] at h;rcases h with rfl | rfl<;>rfl) rfl (by decide) (by decide) ?_;intro v2 g2 _ mQ;have f2:=f1.trans g2;refine⟨f2,?_⟩;refine⟨?_,trivial⟩
   ·refine call (cQ true _) ?_;rintro _ v3 ⟨rfl,g3⟩;have f3:=f2.trans g3;refine⟨f3,?_⟩;refine⟨?_,trivial⟩;refine call (fin _ 2 _ 1 v3 f3 (Sl.own' (n:=2) (mQ.ext g3) rfl (by decide)) ⟨Sl.own (sz:=5) (n:=1) (Qd.ext (g2.trans g3)) (QC _) (by decide) (by simp[Kk]),rfl⟩) ?_;rintro _ w9 ⟨rfl,XE⟩;refine⟨f3.trans XE,?_⟩;refine Xc rfl ?_;exact⟨QD Value.bool (X2 rfl),XS.trans (f3.trans XE)⟩
  ·refine call (cQ true _) ?_;rintro _ v2 ⟨rfl,g2⟩;have f2:=f1.trans g2;refine⟨f2,?_⟩;refine⟨?_,trivial⟩
   ·refine Xw Qa [[Value.string (Qf [65])],[Value.string (Qf [66])]] rfl rfl rfl rfl rfl ⟨rfl,rfl,rfl,rfl,⟨⟩⟩ rfl (λcs h=>by simp only[Q3,Jx,or_false] at h;rcases h with rfl | rfl<;>rfl) rfl (by decide) (by decide) ?_;intro v3 g3 _ gQ;have f3:=f2.trans g3;refine⟨f3,?_⟩;refine⟨?_,trivial⟩;refine call (fin _ 2 _ 1 v3 f3 (Sl.own' (n:=2) gQ rfl (by decide)) ⟨Sl.own (sz:=5) (n:=1) (Qd.ext (g2.trans g3)) (QC _) (by decide) (by simp[Kk]),rfl⟩) ?_;rintro _ w9 ⟨rfl,XE⟩;refine⟨f3.trans XE,?_⟩;refine Xc rfl ?_;exact⟨QD Value.bool (X2 rfl),XS.trans (f3.trans XE)⟩
def lQX (r:Except Int (List Nat))(k:Int):Bool:=match r with
 | .ok _=>false
 | .error e=>decide (e=k)
theorem oN {r:Except Int (List Nat)}{t:List Nat}(h:lQW r t=true):r= .ok t:=by
 cases r with
 | ok l=>rw[YC h]
 | error e=>cases h
theorem Lf {r:Except Int (List Nat)}{k:Int}(h:lQX r k=true):r= .error k:=by
 cases r with
 | ok l=>cases h
 | error e=>rw[YC h]
theorem bQE (x:DV){o:BF}(Q:List (DV×Pr))(NA:Option Addr)(nc:Nat)(PA:Option Addr)(pn pc:Nat)(w:World)(hN:Sl w 1 NA 2 nc (X9 K7))(hx:SB w x.A x.n x.c x.nd)(sx:Set1 2 x.nd x.r o)(hP:SlS Jm 3 w PA pn pc Q)
  (hQ:∀q∈Q,SB w q.1.A q.1.n q.1.c q.1.nd/\Set1 2 q.1.nd q.1.r q.2.o/\(∀b∈q.2.t,b<256)/\q.2.t.length<=2000):
  Fn Tryz.prog 24 [.slice NA 2 nc,Xl x.A x.n x.c x.r,.slice PA pn pc] w (λu w'=>u=uX (fg K7 o (Q.map (·.2)))/\Ext w w'):=by
 refine(Di NA 2 nc K7 x PA pn pc (Q.map (λq=>(q.1,q.2.t))) (by decide) I9 La (λq hq=>by
  obtain⟨q0,h0,rfl⟩:=ZG.1 hq;exact(hQ q0 h0).2.2) w hN hx ⟨by rw[<-Dm];exact hP.1,by rw[JR];exact hP.2⟩ (λq hq=>by
  obtain⟨q0,h0,rfl⟩:=ZG.1 hq;exact(hQ q0 h0).1)).mono ?_
 rintro u w' ⟨rfl,hE⟩;refine⟨?_,hE⟩;rw[IU (nm:=K7) (by decide) (gE (n:=2) (by decide) sx).1 (λq hq=>by
  obtain⟨q0,h0,rfl⟩:=ZG.1 hq;exact(gE (n:=2) (by decide) (hQ q0 h0).2.1).1),lZ sx,Dk (λq hq=>(hQ q hq).2.1)]
theorem bQF (x:DV){o:BF}(Q:List (DV×Pr))(NA:Option Addr)(nc:Nat)(PA:Option Addr)(pn pc:Nat)(w:World)(hN:Sl w 1 NA 2 nc (X9 K7))(hx:SB w x.A x.n x.c x.nd)(sx:Set1 2 x.nd x.r o)(hP:SlS Jm 3 w PA pn pc Q)
  (hQ:∀q∈Q,SB w q.1.A q.1.n q.1.c q.1.nd/\Set1 2 q.1.nd q.1.r q.2.o/\(∀b∈q.2.t,b<256)/\q.2.t.length<=2000) {qs:List Pr} (jD:Q.map (·.2)=qs) {t:List Nat} (hr:fg K7 o qs= .ok t):
  Fn Tryz.prog 24 [.slice NA 2 nc,Xl x.A x.n x.c x.r,.slice PA pn pc] w (λu w'=>u= .tuple #[.string (Qf t),.int .i64 0]/\Ext w w'):=by
 refine(bQE x Q NA nc PA pn pc w hN hx sx hP hQ).mono ?_;rintro u w' ⟨rfl,hE⟩;exact⟨by rw[jD,hr];rfl,hE⟩
theorem bQG (x:DV){o:BF}(Q:List (DV×Pr))(NA:Option Addr)(nc:Nat)(PA:Option Addr)(pn pc:Nat)(w:World)(hN:Sl w 1 NA 2 nc (X9 K7))(hx:SB w x.A x.n x.c x.nd)(sx:Set1 2 x.nd x.r o)(hP:SlS Jm 3 w PA pn pc Q)
  (hQ:∀q∈Q,SB w q.1.A q.1.n q.1.c q.1.nd/\Set1 2 q.1.nd q.1.r q.2.o/\(∀b∈q.2.t,b<256)/\q.2.t.length<=2000) {qs:List Pr} (jD:Q.map (·.2)=qs) {k:Int} (hr:fg K7 o qs= .error k):
  Fn Tryz.prog 24 [.slice NA 2 nc,Xl x.A x.n x.c x.r,.slice PA pn pc] w (λu w'=>u= .tuple #[.string (Qf []),.int .i64 k]/\Ext w w'):=by
 refine(bQE x Q NA nc PA pn pc w hN hx sx hP hQ).mono ?_;rintro u w' ⟨rfl,hE⟩;exact⟨by rw[jD,hr];rfl,hE⟩
theorem lQY (NA:Option Addr)(nc:Nat)(w:World)(hN:Sl w 1 NA 2 nc (X9 [[65],[65]])):
  Fn Tryz.prog 24 [.slice NA 2 nc,Xl none 0 0 1,.slice none 0 0] w (λu w'=>u= .tuple #[.string (Qf []),.int .i64 1]/\Ext w w'):=by
 refine(Di NA 2 nc [[65],[65]] ⟨none,0,0,[],1⟩ none 0 0 [] (by decide) (λs hs=>by
  simp only[Q3,Jx,or_false] at hs;rcases hs with rfl | rfl<;>exact⟨by decide,by decide⟩) (by decide) (λq hq=>by cases hq) w hN (SlS.nil _) (SlS.nil _) (λq hq=>by cases hq)).mono ?_
 rintro u w' ⟨rfl,hE⟩;exact⟨by unfold lS;rw[Qe (.inl (by decide+kernel))];rfl,hE⟩
abbrev tA:BF:=λe=>e 0
abbrev tB:BF:=λe=>e 1
abbrev tX:List Nat:=[120,10]
theorem sn1:Do [120,10,121,10] [120,10,122,10]= .ok [120,10,35,105,102,32,65,10,121,10,35,101,108,115,101,10,122,10,35,101,110,100,10]:=oN (by decide+kernel)
theorem sn2:Do [120,10,121,10] [120,10]= .ok [120,10,35,105,102,32,65,10,121,10,35,101,110,100,10]:=oN (by decide+kernel)
theorem sn3:Do [120,10] [120,10,121,10]= .ok [120,10,35,105,102,32,33,65,10,121,10,35,101,110,100,10]:=oN (by decide+kernel)
theorem sn4:fg K7 (λ_=>true) [⟨λe=>e 0&&e 1,tX⟩,⟨λe=> !(e 0&&e 1),[]⟩]= .ok [35,105,102,32,65,10,35,105,102,32,66,10,120,10,35,101,110,100,10,35,101,110,100,10]:=oN (by decide+kernel)
theorem sn5:fg K7 tB [⟨λe=>e 0&&e 1,tX⟩,⟨λe=> !e 0&&e 1,[121,10]⟩]= .ok [35,105,102,32,65,10,120,10,35,101,108,115,101,10,121,10,35,101,110,100,10]:=oN (by decide+kernel)
theorem sn6:fg K7 (λ_=>true) [⟨tA,tX⟩]= .error 290:=Lf (by decide+kernel)
theorem sn7:fg K7 (λ_=>true) [⟨λ_=>true,[35,101,110,100,10]⟩]= .error 290:=Lf (by decide+kernel)
def oO:List Nat:=[35,105,102,32,65,10,120,10,35,101,110,100,10]
theorem sn8:rC [120,32,121,10,122,10] ⟨2,3,[119],tA⟩= .ok [35,105,102,32,65,10,120,32,119,10,35,101,108,115,101,10,120,32,121,10,35,101,110,100,10,122,10]:=oN (by decide+kernel)
theorem sn9:rC oO ⟨6,7,[121],λe=> !e 0⟩= .ok oO:=oN (by decide+kernel)
theorem lQZ:rC oO ⟨6,7,[121],λ_=>true⟩= .ok [35,105,102,32,65,10,121,10,35,101,110,100,10]:=oN (by decide+kernel)
theorem lQ0:rC oO ⟨0,1,[121],tA⟩= .error 291:=Lf (by decide+kernel)
theorem lQ1 (w0:World):Fn Tryz.prog 11 [] w0 (λu w'=>u= .bool true/\Ext w0 w'):=by
 refine QH (c:={wX with cuts:=[]}) Qa Tryz.func11 rfl rfl rfl ?_;refine call (I7 (k:=2) (v:=0) (by decide) (by decide) w0) ?_;rintro _ a1 ⟨Aa,na,ca,da,ra,rfl,e1,ba,sa,_⟩;refine new (λx1 f1 y1 B1=>?_);refine Qw B1 rfl (sc rfl) (λw1 g1 _ Ba=>?_);have h1:Ext w0 w1:=e1.trans (XV f1 B1 g1);have ba:=ba.ext (XV f1 B1 g1);refine call (I7 (k:=2) (v:=1) (by decide) (by decide) w1) ?_;rintro _ a2 ⟨Ab,nb,cb,db,rb,rfl,e2,bb,sb,_⟩;refine new (λx2 f2 y2 B2=>?_);refine Qw B2 rfl (sc rfl) (λw2 g2 _ Bb=>?_);have h2:Ext w1 w2:=e2.trans (XV f2 B2 g2);have bb:=bb.ext (XV f2 B2 g2);refine Qt (Ba.ext h2) rfl ?_;refine call (I8 (k:=2) (by decide) (⟨Aa,na,ca,da,ra⟩:DV) w2 (ba.ext h2) sa) ?_;rintro _ a3 ⟨Anot,nnot,cnot,dnot,rnot,rfl,e3,bnot,snot,_⟩;refine new (λx3 f3 y3 B3=>?_);refine Qw B3 rfl (sc rfl) (λw3 g3 _ Bnot=>?_);have h3:Ext w2 w3:=e3.trans (XV f3 B3 g3);have bnot:=bnot.ext (XV f3 B3 g3);refine Qt (Ba.ext (h2.trans h3)) rfl ?_;refine Qt (Bb.ext h3) rfl ?_;refine call (bQC (k:=2) (by decide) (⟨Aa,na,ca,da,ra⟩:DV) (⟨Ab,nb,cb,db,rb⟩:DV) w3 (ba.ext (h2.trans h3)) (bb.ext h3) sa sb) ?_;rintro _ a4 ⟨Aboth,nboth,cboth,dboth,rboth,rfl,e4,bboth,sboth,_⟩;refine new (λx4 f4 y4 B4=>?_);refine Qw B4 rfl (sc rfl) (λw4 g4 _ Bboth=>?_);have h4:Ext w3 w4:=e4.trans (XV f4 B4 g4);have bboth:=bboth.ext (XV f4 B4 g4);refine Qt Bboth rfl ?_;refine call (I8 (k:=2) (by decide) (⟨Aboth,nboth,cboth,dboth,rboth⟩:DV) w4 bboth sboth) ?_;rintro _ a5 ⟨Arest,nrest,crest,drest,rrest,rfl,e5,brest,srest,_⟩;refine new (λx5 f5 y5 B5=>?_);refine Qw B5 rfl (sc rfl) (λw5 g5 _ Brest=>?_);have h5:Ext w4 w5:=e5.trans (XV f5 B5 g5);have brest:=brest.ext (XV f5 B5 g5);refine Qt (Bnot.ext (h4.trans h5)) rfl ?_;refine Qt (Bb.ext ((h3.trans h4).trans h5)) rfl ?_;refine call (bQC (k:=2) (by decide) (⟨Anot,nnot,cnot,dnot,rnot⟩:DV) (⟨Ab,nb,cb,db,rb⟩:DV) w5 (bnot.ext (h4.trans h5)) (bb.ext ((h3.trans h4).trans h5)) snot sb) ?_;rintro _ a6 ⟨Aoth,noth,coth,doth,roth,rfl,e6,both,soth,_⟩;refine new (λx6 f6 y6 B6=>?_);refine Qw B6 rfl (sc rfl) (λw6 g6 _ Both=>?_);have h6:Ext w5 w6:=e6.trans (XV f6 B6 g6);have both:=both.ext (XV f6 B6 g6);refine call (cQ true w6) ?_;rintro _ a7 ⟨rfl,e7⟩;refine new (λx7 f7 y7 B7=>?_);refine Qw B7 rfl (sc rfl) (λw7 g7 _ Ball=>?_);have h7:Ext w6 w7:=e7.trans (XV f7 B7 g7);have Ball:Blk w7 a7.heap.size 32 (⟨none,0,0,[],1⟩:DV).cells:=Ball;have sall:Set1 2 [] 1 (λ_=>true):=bT 2 true;refine Xw Qa [[Value.string (Qf [65])],[Value.string (Qf [66])]] rfl rfl rfl rfl rfl ⟨rfl,rfl,rfl,rfl,⟨⟩⟩ rfl (λcs h=>by simp only[Q3,Jx,or_false] at h;rcases h with rfl | rfl<;>rfl) rfl (by decide) (by decide) ?_;intro w8 h8 _ BN;have hN:Sl w8 1 (some ⟨w7.heap.size,0,none⟩) 2 2 (X9 K7):=Sl.own' (n:=2) BN rfl (by decide);refine call (Ld [120,10,121,10] [120,10,122,10] _ (by decide) (by decide) w8 sn1) ?_;rintro _ w9 ⟨rfl,h9⟩;refine Xc rfl ?_;refine call (Ld [120,10,121,10] [120,10] _ (by decide) (by decide) w9 sn2) ?_;rintro _ QK ⟨rfl,XN⟩;refine Xc rfl ?_;refine call (Ld [120,10] [120,10,121,10] _ (by decide) (by decide) QK sn3) ?_;rintro _ QJ ⟨rfl,ZW⟩;refine Qt (Ball.ext (((h8.trans h9).trans XN).trans ZW)) rfl ?_;refine Qt (Bboth.ext ((((((h5.trans h6).trans h7).trans h8).trans h9).trans XN).trans ZW)) rfl ?_;refine Qt (Brest.ext (((((h6.trans h7).trans h8).trans h9).trans XN).trans ZW)) rfl ?_;refine Xw Qa [Jm ((⟨Aboth,nboth,cboth,dboth,rboth⟩:DV),Pr.mk (λe=>e 0&&e 1) tX),Jm ((⟨Arest,nrest,crest,drest,rrest⟩:DV),Pr.mk (λe=> !(e 0&&e 1)) [])] rfl rfl rfl rfl rfl ⟨rfl,rfl,rfl,rfl,⟨⟩⟩ rfl (λcs h=>by simp only[Q3,Jx,or_false] at h;rcases h with rfl | rfl<;>rfl) rfl (by decide) (by decide) ?_;intro Xa XU _ BP12;refine call (bQF ⟨none,0,0,[],1⟩ [((⟨Aboth,nboth,cboth,dboth,rboth⟩:DV),Pr.mk (λe=>e 0&&e 1) tX),((⟨Arest,nrest,crest,drest,rrest⟩:DV),Pr.mk (λe=> !(e 0&&e 1)) [])] _ 2 _ 2 2 Xa (hN.ext (((h9.trans XN).trans ZW).trans XU)) (SlS.nil _) sall ⟨Sl.own (sz:=3) (n:=2) BP12 (QC _) (by decide) (by simp[Jm,JK]),rfl⟩ (λq hq=>by
  simp only[Q3,Jx,or_false] at hq;rcases hq with rfl | rfl
  ·exact⟨(bboth.ext (((((((h5.trans h6).trans h7).trans h8).trans h9).trans XN).trans ZW).trans XU)),sboth,(show(∀b∈(tX:List Nat),b<256)/\(tX:List Nat).length<=2000 by decide)⟩
  ·exact⟨(brest.ext ((((((h6.trans h7).trans h8).trans h9).trans XN).trans ZW).trans XU)),srest,(show(∀b∈([]:List Nat),b<256)/\([]:List Nat).length<=2000 by decide)⟩) rfl sn4) ?_
 rintro _ X1 ⟨rfl,KY⟩;refine Qt (Bb.ext ((((((((((h3.trans h4).trans h5).trans h6).trans h7).trans h8).trans h9).trans XN).trans ZW).trans XU).trans KY)) rfl ?_;refine Qt (Bboth.ext ((((((((h5.trans h6).trans h7).trans h8).trans h9).trans XN).trans ZW).trans XU).trans KY)) rfl ?_;refine Qt (Both.ext ((((((h7.trans h8).trans h9).trans XN).trans ZW).trans XU).trans KY)) rfl ?_;refine Xw Qa [Jm ((⟨Aboth,nboth,cboth,dboth,rboth⟩:DV),Pr.mk (λe=>e 0&&e 1) tX),Jm ((⟨Aoth,noth,coth,doth,roth⟩:DV),Pr.mk (λe=> !e 0&&e 1) [121,10])] rfl rfl rfl rfl rfl ⟨rfl,rfl,rfl,rfl,⟨⟩⟩ rfl (λcs h=>by simp only[Q3,Jx,or_false] at h;rcases h with rfl | rfl<;>rfl) rfl (by decide) (by decide) ?_;intro Zm VY _ BP14;refine call (bQF (⟨Ab,nb,cb,db,rb⟩:DV) [((⟨Aboth,nboth,cboth,dboth,rboth⟩:DV),Pr.mk (λe=>e 0&&e 1) tX),((⟨Aoth,noth,coth,doth,roth⟩:DV),Pr.mk (λe=> !e 0&&e 1) [121,10])] _ 2 _ 2 2 Zm (hN.ext (((((h9.trans XN).trans ZW).trans XU).trans KY).trans VY)) (bb.ext (((((((((((h3.trans h4).trans h5).trans h6).trans h7).trans h8).trans h9).trans XN).trans ZW).trans XU).trans KY).trans VY)) sb ⟨Sl.own (sz:=3) (n:=2) BP14 (QC _) (by decide) (by simp[Jm,JK]),rfl⟩ (λq hq=>by
  simp only[Q3,Jx,or_false] at hq;rcases hq with rfl | rfl
  ·exact⟨(bboth.ext (((((((((h5.trans h6).trans h7).trans h8).trans h9).trans XN).trans ZW).trans XU).trans KY).trans VY)),sboth,(show(∀b∈(tX:List Nat),b<256)/\(tX:List Nat).length<=2000 by decide)⟩
  ·exact⟨(both.ext (((((((h7.trans h8).trans h9).trans XN).trans ZW).trans XU).trans KY).trans VY)),soth,(show(∀b∈([121,10]:List Nat),b<256)/\([121,10]:List Nat).length<=2000 by decide)⟩) rfl sn5) ?_
 rintro _ KA ⟨rfl,WO⟩;refine Qt (Ball.ext (((((((h8.trans h9).trans XN).trans ZW).trans XU).trans KY).trans VY).trans WO)) rfl ?_;refine Qt (Ba.ext (((((((((((((h2.trans h3).trans h4).trans h5).trans h6).trans h7).trans h8).trans h9).trans XN).trans ZW).trans XU).trans KY).trans VY).trans WO)) rfl ?_;refine Xw Qa [Jm ((⟨Aa,na,ca,da,ra⟩:DV),Pr.mk (λe=>e 0) tX)] rfl rfl rfl rfl rfl ⟨rfl,rfl,⟨⟩⟩ rfl (λcs h=>by simp only[QL] at h;subst h;rfl) rfl (by decide) (by decide) ?_;intro Y4 aR _ BP16;refine call (bQG ⟨none,0,0,[],1⟩ [((⟨Aa,na,ca,da,ra⟩:DV),Pr.mk (λe=>e 0) tX)] _ 2 _ 1 1 Y4 (hN.ext (((((((h9.trans XN).trans ZW).trans XU).trans KY).trans VY).trans WO).trans aR)) (SlS.nil _) sall ⟨Sl.own (sz:=3) (n:=1) BP16 (QC _) (by decide) (by simp[Jm,JK]),rfl⟩ (λq hq=>by
  simp only[Q3,Jx,or_false] at hq;rcases hq with rfl
  ·exact⟨(ba.ext ((((((((((((((h2.trans h3).trans h4).trans h5).trans h6).trans h7).trans h8).trans h9).trans XN).trans ZW).trans XU).trans KY).trans VY).trans WO).trans aR)),sa,(show(∀b∈(tX:List Nat),b<256)/\(tX:List Nat).length<=2000 by decide)⟩) rfl sn6) ?_
 rintro _ Vo ⟨rfl,eD⟩;refine Qt (Ball.ext (((((((((h8.trans h9).trans XN).trans ZW).trans XU).trans KY).trans VY).trans WO).trans aR).trans eD)) rfl ?_;refine Qt (Ball.ext (((((((((h8.trans h9).trans XN).trans ZW).trans XU).trans KY).trans VY).trans WO).trans aR).trans eD)) rfl ?_;refine Xw Qa [Jm ((⟨none,0,0,[],1⟩:DV),Pr.mk (λ_=>true) [35,101,110,100,10])] rfl rfl rfl rfl rfl ⟨rfl,rfl,⟨⟩⟩ rfl (λcs h=>by simp only[QL] at h;subst h;rfl) rfl (by decide) (by decide) ?_;intro KZ aP _ BP18;refine call (bQG ⟨none,0,0,[],1⟩ [((⟨none,0,0,[],1⟩:DV),Pr.mk (λ_=>true) [35,101,110,100,10])] _ 2 _ 1 1 KZ (hN.ext (((((((((h9.trans XN).trans ZW).trans XU).trans KY).trans VY).trans WO).trans aR).trans eD).trans aP)) (SlS.nil _) sall ⟨Sl.own (sz:=3) (n:=1) BP18 (QC _) (by decide) (by simp[Jm,JK]),rfl⟩ (λq hq=>by
  simp only[Q3,Jx,or_false] at hq;rcases hq with rfl
  ·exact⟨SlS.nil _,sall,(show(∀b∈([35,101,110,100,10]:List Nat),b<256)/\([35,101,110,100,10]:List Nat).length<=2000 by decide)⟩) rfl sn7) ?_
 rintro _ aQ ⟨rfl,fJ⟩;refine Xw Qa [[Value.string (Qf [65])],[Value.string (Qf [65])]] rfl rfl rfl rfl rfl ⟨rfl,rfl,rfl,rfl,⟨⟩⟩ rfl (λcs h=>by simp only[Q3,Jx,or_false] at h;rcases h with rfl | rfl<;>rfl) rfl (by decide) (by decide) ?_;intro Yt ez _ BA;refine Qt (Ball.ext ((((((((((((h8.trans h9).trans XN).trans ZW).trans XU).trans KY).trans VY).trans WO).trans aR).trans eD).trans aP).trans fJ).trans ez)) rfl ?_;refine call (lQY _ 2 Yt (Sl.own' (n:=2) BA rfl (by decide))) ?_;rintro _ gN ⟨rfl,fI⟩;refine J2 rfl ?_;refine Zq rfl ?_;refine J2 rfl ?_;refine Zq rfl ?_;refine J2 rfl ?_;refine J2 rfl ?_;refine Qt (Ba.ext (((((((((((((((((((h2.trans h3).trans h4).trans h5).trans h6).trans h7).trans h8).trans h9).trans XN).trans ZW).trans XU).trans KY).trans VY).trans WO).trans aR).trans eD).trans aP).trans fJ).trans ez).trans fI)) rfl ?_;refine call (Le [120,32,121,10,122,10] _ ⟨2,3,[119],(⟨Aa,na,ca,da,ra⟩:DV)⟩ (by decide) (show(-9223372036854775808:Int)<=2/\(2:Int)<=9223372036854775807/\(-9223372036854775808:Int)<=3/\(3:Int)<=9223372036854775807 by decide) (show(∀b∈([119]:List Nat),b<256)/\([119]:List Nat).length<=1000 by decide) sa gN (ba.ext (((((((((((((((((((h2.trans h3).trans h4).trans h5).trans h6).trans h7).trans h8).trans h9).trans XN).trans ZW).trans XU).trans KY).trans VY).trans WO).trans aR).trans eD).trans aP).trans fJ).trans ez).trans fI)) sn8) ?_;rintro _ Ws ⟨rfl,kz⟩;refine Xc rfl ?_;refine Qt (Bnot.ext ((((((((((((((((((h4.trans h5).trans h6).trans h7).trans h8).trans h9).trans XN).trans ZW).trans XU).trans KY).trans VY).trans WO).trans aR).trans eD).trans aP).trans fJ).trans ez).trans fI).trans kz)) rfl ?_;refine call (Le oO oO ⟨6,7,[121],(⟨Anot,nnot,cnot,dnot,rnot⟩:DV)⟩ (by decide) (show(-9223372036854775808:Int)<=6/\(6:Int)<=9223372036854775807/\(-9223372036854775808:Int)<=7/\(7:Int)<=9223372036854775807 by decide) (show(∀b∈([121]:List Nat),b<256)/\([121]:List Nat).length<=1000 by decide) snot Ws (bnot.ext ((((((((((((((((((h4.trans h5).trans h6).trans h7).trans h8).trans h9).trans XN).trans ZW).trans XU).trans KY).trans VY).trans WO).trans aR).trans eD).trans aP).trans fJ).trans ez).trans fI).trans kz)) sn9) ?_;rintro _ Fd ⟨rfl,pz⟩;refine Xc rfl ?_;refine Qt (Ball.ext (((((((((((((((h8.trans h9).trans XN).trans ZW).trans XU).trans KY).trans VY).trans WO).trans aR).trans eD).trans aP).trans fJ).trans ez).trans fI).trans kz).trans pz)) rfl ?_;refine call (Le oO _ ⟨6,7,[121],⟨none,0,0,[],1⟩⟩ (by decide) (show(-9223372036854775808:Int)<=6/\(6:Int)<=9223372036854775807/\(-9223372036854775808:Int)<=7/\(7:Int)<=9223372036854775807 by decide) (show(∀b∈([121]:List Nat),b<256)/\([121]:List Nat).length<=1000 by decide) sall Fd (SlS.nil _) lQZ) ?_;rintro _ jk ⟨rfl,iQ⟩;refine Qt (Ball.ext ((((((((((((((((h8.trans h9).trans XN).trans ZW).trans XU).trans KY).trans VY).trans WO).trans aR).trans eD).trans aP).trans fJ).trans ez).trans fI).trans kz).trans pz).trans iQ)) rfl ?_;refine Qt (Ba.ext ((((((((((((((((((((((h2.trans h3).trans h4).trans h5).trans h6).trans h7).trans h8).trans h9).trans XN).trans ZW).trans XU).trans KY).trans VY).trans WO).trans aR).trans eD).trans aP).trans fJ).trans ez).trans fI).trans kz).trans pz).trans iQ)) rfl ?_;refine Xw Qa [Kk ⟨0,1,[121],(⟨Aa,na,ca,da,ra⟩:DV)⟩] rfl rfl rfl rfl rfl ⟨rfl,rfl,⟨⟩⟩ rfl (λcs h=>by simp only[QL] at h;subst h;rfl) rfl (by decide) (by decide) ?_;intro sE N6 _ BE;refine call (bQD oO ⟨0,1,[121],(⟨Aa,na,ca,da,ra⟩:DV)⟩ (by decide) (show(-9223372036854775808:Int)<=0/\(0:Int)<=9223372036854775807/\(-9223372036854775808:Int)<=1/\(1:Int)<=9223372036854775807 by decide) (show(∀b∈([121]:List Nat),b<256)/\([121]:List Nat).length<=1000 by decide) sa _ 2 _ 1 sE (ba.ext (((((((((((((((((((((((h2.trans h3).trans h4).trans h5).trans h6).trans h7).trans h8).trans h9).trans XN).trans ZW).trans XU).trans KY).trans VY).trans WO).trans aR).trans eD).trans aP).trans fJ).trans ez).trans fI).trans kz).trans pz).trans iQ).trans N6)) (hN.ext ((((((((((((((((h9.trans XN).trans ZW).trans XU).trans KY).trans VY).trans WO).trans aR).trans eD).trans aP).trans fJ).trans ez).trans fI).trans kz).trans pz).trans iQ).trans N6)) ⟨Sl.own (sz:=5) (n:=1) BE (QC _) (by decide) (by simp[Kk]),rfl⟩) ?_;rintro _ N7 ⟨rfl,h26⟩;rw[lQ0];refine Xc rfl ?_;refine Xc rfl ?_;refine Xc rfl ?_;exact⟨rfl,(((((((((((((((((((((((((h1.trans h2).trans h3).trans h4).trans h5).trans h6).trans h7).trans h8).trans h9).trans XN).trans ZW).trans XU).trans KY).trans VY).trans WO).trans aR).trans eD).trans aP).trans fJ).trans ez).trans fI).trans kz).trans pz).trans iQ).trans N6).trans h26)⟩
theorem lQ2:((List.range 256).all λf=>(List.range 8).all λc=>cS [f] 3 0 0 (We c)==f.testBit c)=true:=by decide+kernel
theorem bQH {f c:Nat}(hf:f<=255)(hc:c<8):cS [f] 3 0 0 (bits c)=f.testBit c:=by
 have:=J0.1 lQ2 f (YS.2 (by omega));have:=J0.1 this c (YS.2 hc);rw[Iw] at this;simpa using this
theorem bQI {o o':BF}(h:∀c,c<8->o (bits c)=o' (bits c)):QF 3 o=QF 3 o':=by
 unfold QF;refine List.filter_congr (λc hc=>?_);exact h c (YS.1 hc)
def W7 (b:Nat):BF:=if b=0 then λ_=>true else cS [b] 3 0 0
theorem oP {b c:Nat}(hb:b<=255)(hc:c<8):W7 b (bits c)=Ki b c:=by
 unfold W7 Ki;by_cases h:b=0
 ·rw[Qe h,X2 (by omega)]<;>rfl
 ·rw[if_neg h,bQH hb hc,Zn (by omega)]<;>rfl
theorem yg {b:Nat}(hb:b<=255):QF 3 (W7 b)=J6 b:=by
 unfold QF J6;refine List.filter_congr (λc hc=>?_);exact oP hb (YS.1 hc)
theorem lQ3 {b:Nat}(hb:b<=255):QF 3 (cS [b] 3 0 0)=[]↔b=0:=by
 constructor
 ·intro h;apply Classical.byContradiction;intro h0;have h1:=yg hb;unfold W7 at h1;rw[if_neg h0,h] at h1;exact C5 hb h1.symm
 ·rintro rfl;rw[bQI (o':=λ_=>false) (λc hc=>by rw[bQH (by decide) hc,Nat.zero_testBit])];decide
theorem Dp (b:Nat)(hb:b<=255)(w:World):Fn Tryz.prog 14 [.int .u8 b] w (gA w 3 (W7 b)):=by
 refine QH (c:={c14 with cuts:=[]}) Qa Tryz.func14 rfl rfl rfl ?_;refine new (λw1 Qd Q9 Qh=>?_);refine Xw Qa [[Value.int .u8 b]] rfl rfl rfl rfl rfl ⟨rfl,rfl,⟨⟩⟩ rfl (λcs h=>by simp only[QL] at h;subst h;rfl) rfl (by decide) (by decide) ?_;intro w2 Qg Zi Qv;refine call (UV [b] _ 1 1 3 w2 (Sl.own' (n:=1) Qv rfl (by decide)) (λx hx=>by rw[QL.1 hx];exact hb) (by decide)) ?_;rintro _ w3 ⟨A,n,c,nd,r,rfl,Qi,vk,s3,iZ⟩;have QY:=Qd.trans (Qg.trans Qi);have XI:=Qg.trans Qi;refine new (λw4 Qs KW QX=>?_);refine Qw QX rfl (sc rfl) (λw5 Js _ QB=>?_);have KM:Ext w3 w5:=XV Qs QX Js;have pk:=Qh.ext (XI.trans KM);have Z9:=QY.trans KM;have rN:=XI.size;refine Qp QB rfl ?_;have h0:=s3.root0.trans (lQ3 hb);refine Zd (λhz=>?_) (λhz=>?_)
 ·refine call (CR true w5) ?_;rintro _ w6 ⟨rfl,QN⟩;refine Qw (pk.ext QN) rfl (sc rfl) (λw7 Zs _ Q8=>?_);have Xb:Mod (·=w.heap.size) w6 w7:=qQT Zs rfl;refine Qt Q8 rfl ?_;refine⟨none,0,0,[],1,rfl,Xb.ext (Z9.trans QN) (λi hi=>by omega),SlS.nil _,?_,λi hi=>by obtain⟨_,e,_⟩:=hi;cases e⟩;have e:W7 b=λ_=>true:=by unfold W7;rw[Qe (h0.1 hz)]
  rw[e];exact bT 3 true
 ·refine Qt QB rfl ?_;refine Qw pk rfl (sc rfl) (λw7 Zs _ Q8=>?_);have Xb:Mod (·=w.heap.size) w5 w7:=qQT Zs rfl;refine Qt Q8 rfl ?_;have cQD:=Qg.size;refine⟨A,n,c,nd,r,rfl,Xb.ext Z9 (λi hi=>by omega),SB.mod (vk.ext KM) Xb (λi hi e=>by have:=iZ i hi;omega),?_,λi hi=>by have:=iZ i hi;omega⟩;have e:W7 b=cS [b] 3 0 0:=by unfold W7;rw[if_neg (λi9=>hz (h0.2 i9))]
  rw[e];exact s3
def kg (c:Nat):BF:=cS [2^c] 3 0 0
theorem lQ4:((List.range 8).all λc=>(List.range 8).all λd=>kg c (We d)==decide (d=c))=true:=by decide+kernel
theorem lQ5 {c d:Nat}(hc:c<8)(hd:d<8):kg c (bits d)=decide (d=c):=by
 have:=J0.1 lQ4 c (YS.2 hc);have:=J0.1 this d (YS.2 hd);rw[Iw] at this;simpa using this
theorem lQ6 (c:Nat)(hc:c<8)(w:World):Fn Tryz.prog 25 [.int .u64 c] w (gA w 3 (kg c)):=by
 have hp:2^c<=128:=WW (n:=2) (by decide) (show c<=7 by omega);refine QH (c:={c25 with cuts:=[]}) Qa Tryz.func25 rfl rfl rfl ?_;refine new (λw1 Qd Q9 Qh=>?_);refine normIf (m:=((2^c:Nat):Int)) (by omega) ?_ ?_
 ·rw[show min ((c:Int)).toNat IntKind.u8.bits=c by show min c 8=c;omega];have e:(1:Int)*2^c=((2^c:Nat):Int):=by rw[Int.one_mul];norm_cast
  rw[e];generalize 2^c=q at hp ⊢;exact IntWalk.u8_in _ (by omega)
 refine Xw Qa [[Value.int .u8 ((2^c:Nat):Int)]] rfl rfl rfl rfl rfl ⟨rfl,rfl,⟨⟩⟩ rfl (λcs h=>by simp only[QL] at h;subst h;rfl) rfl (by decide) (by decide) ?_;intro w2 Qg Zi Qv;refine call (UV [2^c] _ 1 1 3 w2 (Sl.own' (n:=1) Qv rfl (by decide)) (λx hx=>by rw[QL.1 hx];omega) (by decide)) ?_;rintro _ w3 ⟨A,n,cc,nd,r,rfl,Qi,vk,s3,iZ⟩;have XI:=Qg.trans Qi;refine Qw (Qh.ext XI) rfl (sc rfl) (λw7 Zs _ Q8=>?_);have Xb:Mod (·=w.heap.size) w3 w7:=qQT Zs rfl;refine Qt Q8 rfl ?_;have cQD:=Qg.size;exact⟨A,n,cc,nd,r,rfl,Xb.ext (Qd.trans XI) (λi hi=>by omega),SB.mod vk Xb (λi hi e=>by have:=iZ i hi;omega),s3,λi hi=>by have:=iZ i hi;omega⟩
theorem yh (w:World):Fn Tryz.prog 16 [] w (λu w'=>∃A c,u= .slice A 3 c/\Ext w w'/\Sl w' 1 A 3 c (X9 (X5.take 3))):=by
 refine QH (c:={c16 with cuts:=[]}) Qa Tryz.func16 rfl rfl rfl ?_;refine call (hQN 3 w (by decide)) ?_;rintro _ w1 ⟨A,c,rfl,Qd,sC⟩;exact⟨A,c,rfl,Qd,sC⟩
structure RawV where
 fam:Nat
 cls:List Nat
 txs:List (Option Addr×Nat×Nat×List Nat)
 CA:Option Addr
 cn:Nat
 cc:Nat
 TA:Option Addr
 tn:Nat
 tc:Nat
def txC (t:Option Addr×Nat×Nat×List Nat):List Value:=[.slice t.1 t.2.1 t.2.2.1]
structure RawIn (w:World) (x:RawV):Prop where
 f8:x.fam<=255
 cl:Sl w 1 x.CA x.cn x.cc (Vs x.cls)
 c8:∀k∈x.cls,k<=255
 tx:SlS txC 1 w x.TA x.tn x.tc x.txs
 ts:∀t∈x.txs,Sl w 1 t.1 t.2.1 t.2.2.1 (Vs t.2.2.2)/\∀k∈t.2.2.2,k<=255
theorem RawIn.ext {w w':World}{x:RawV}(h:RawIn w x)(k:Ext w w'):RawIn w' x:=⟨h.f8,h.cl.ext k,h.c8,h.tx.ext k,λt ht=>⟨(h.ts t ht).1.ext k,(h.ts t ht).2⟩⟩
theorem PrM.len {n:Nat}:∀{qs:List Pr}{ps:List Pt},PrM n qs ps->qs.length=ps.length
 | [],[],_=>rfl
 | _::_,_::_,h=>by simp[PrM.len h.2]
theorem PrM.snoc {n:Nat}{q:Pr}{p:Pt}(hq:q.t=Qk p.2/\∀c,c<2^n->q.o (bits c)=decide (c∈p.1)):∀{qs:List Pr}{ps:List Pt},PrM n qs ps->PrM n (qs++ [q]) (ps++ [p])
 | [],[],_=>⟨hq,trivial⟩
 | _::_,_::_,h=>⟨h.1,PrM.snoc hq h.2⟩
theorem PrM.get {n:Nat}:∀{qs:List Pr}{ps:List Pt}{k:Nat}{q:Pr}{p:Pt},PrM n qs ps->qs[k]? =some q->ps[k]? =some p->q.t=Qk p.2/\∀c,c<2^n->q.o (bits c)=decide (c∈p.1)
 | _::_,_::_,0,_,_,h,h1,h2=>by cases h1;cases h2;exact h.1
 | _::_,_::_,k+1,_,_,h,h1,h2=>PrM.get (k:=k) h.2 (by simpa using h1) (by simpa using h2)
def l6 (b c:Nat):List Nat:=(List.range c).filter (Ki b)
theorem bQJ (b c:Nat):l6 b (c+1)=l6 b c++(if Ki b c=true then [c] else []):=by
 unfold l6;rw[List.range_succ,tC,gh];split<;>simp
theorem lQ7 {b c d:Nat}(h:d∈l6 b c):d<c:=YS.1 (Jc.1 h).1
structure PtsIn (w:World) (PA:Option Addr) (pn pc:Nat) (Q:List (DV×Pr)):Prop where
 sl:SlS Jm 3 w PA pn pc Q
 sb:∀q∈Q,SB w q.1.A q.1.n q.1.c q.1.nd/\Set1 3 q.1.nd q.1.r q.2.o
theorem PtsIn.ext {w w':World}{PA:Option Addr}{pn pc:Nat}{Q:List (DV×Pr)}(h:PtsIn w PA pn pc Q)(k:Ext w w'):PtsIn w' PA pn pc Q:=⟨h.sl.ext k,λq hq=>⟨(h.sb q hq).1.ext k,(h.sb q hq).2⟩⟩
abbrev Kw:List (List Nat):=X5.take 3
theorem Dq:KG Kw:=(hQO 3 (by decide)).1
theorem Dr:ZQ Kw=true:=by decide+kernel
theorem Ds:∀s∈Kw,s.length<=1000:=by decide
end
section
open Go Go.RowKit Go.ChangeShapes
variable {H:Type} {enc:TypeId×Value->H}
theorem bQK {W:World}{cA t e:Nat}{v:Value}{D:DataW H×List MemPlace}(hu:Tryz.prog.underlying t=some (.slice e))(h:DataW.trod enc Tryz.prog W 0 (λ_=>true) true cA t [v]=some D):∃a n c,v= .slice a n c:=by
 rcases Go.Deep.open_slice hu h with⟨XO,_⟩ | ⟨x,l,c,m,n,D,Pl,XO,_⟩
 ·simp at XO;exact⟨_,_,_,XO⟩
 ·simp at XO;exact⟨_,_,_,XO⟩
end
section
theorem Dt (c:Nat):We c=λi=>c.testBit i:=by
 funext i;rw[We,Nat.testBit_eq_decide_div_mod_eq]
theorem Sl.sepI {w:World}{sz n c g t:Nat}{A:Option Addr}{cs l:List Value}{x:Int}(h:Sl w sz A n c cs)(h0:cs[0]? =some (.int .i64 x))(hB:Blk w g t l)(hl:∀v∈l,∀k z,v≠ .int k z):0<n->∀i,Ql A i->¬i=g:=λhn i hi e=>by
 obtain⟨ad,rfl,hc⟩:=h.at_ hn;obtain⟨ad',e',rfl⟩:=hi;cases e';have h1:=hc 0 _ h0;unfold World.cell? at h1;rw[nL,e,show w.heap[g]? =_ from hB] at h1;simp only at h1;split at h1
 ·cases h1
 ·rw[Gc] at h1;exact hl _ (Xk h1) _ _ rfl
theorem SB.modI {w w':World}{A:Option Addr}{n c g t:Nat}{nd:List Br}{l:List Value}(h:SB w A n c nd)(hB:Blk w g t l)(hl:∀v∈l,∀k z,v≠ .int k z)(hm:Mod (·=g) w w'):SB w' A n c nd:=by
 refine⟨h.1.modS hm (λhn i hi=>?_),h.2⟩;cases nd with
 | nil=>have:=h.2;simp at this;omega
 | cons b nd=>exact h.1.sepI (x:=b.v) (by simp[Br.cells]) hB hl hn i hi
theorem SX.modI {w w':World}{A:Option Addr}{n c g t:Nat}{L:List Sx}{l:List Value}(h:SX w A n c L)(hB:Blk w g t l)(hl:∀v∈l,∀k z,v≠ .int k z)(hm:Mod (·=g) w w'):SX w' A n c L:=by
 refine⟨⟨h.sl.1.modS hm (λhn i hi=>?_),h.sl.2⟩,λy hy=>(h.dg y hy).modI hB hl hm⟩;cases L with
 | nil=>have:=h.sl.2;simp at this;omega
 | cons y L=>exact h.sl.1.sepI (x:=y.f) (by simp[Sx.cells]) hB hl hn i hi
theorem SrcIn.modI {w w':World}{k:Nat}{A:Option Addr}{c gg t:Nat}{g:Gs}{l:List Value}(h:SrcIn w k A c g)(hB:Blk w gg t l)(hl:∀v∈l,∀k z,v≠ .int k z)(hm:Mod (·=gg) w w'):SrcIn w' k A c g:=
 ⟨h.ok,h.kl,let ⟨M,h1,h2,h3⟩:=h.ex;⟨M,h1.modI hB hl hm,h2,h3⟩⟩
theorem bQL (T:List Nat)(g:Gs)(w:World)(hT:∀b∈T,b<256)(hl:T.length<=1048576)(hr:KH Kw [([102],T)] [102]= .ok g):
  Fn Tryz.prog 17 [.string (Qf T)] w (λu w'=>∃A c,u= .tuple #[qY g.tx A g.sg.length c,.bool true]/\Ext w w'/\SrcIn w' 3 A c g):=by
 refine QH (c:={c17 with cuts:=[]}) Qa Tryz.func17 rfl rfl rfl ?_;refine new (λw1 Qd Q9 Qh=>?_);refine call (yh w1) ?_;rintro _ w2 ⟨NA,nc,rfl,Qg,mQ⟩;have QR:=Qd.trans Qg;refine Xw Qa [aG ([102],T)] rfl rfl rfl rfl rfl ⟨rfl,rfl,⟨⟩⟩ rfl (λcs h=>by simp only[QL] at h;subst h;rfl) rfl (by decide) (by decide) ?_;intro w3 Qi JD Qu;have QY:=QR.trans Qi;have hF3:SlS aG 2 w3 (some ⟨w2.heap.size,0,none⟩) 1 1 [([102],T)]:=⟨Sl.own (sz:=2) (n:=1) Qu (QC _) (by decide) (by simp[aG]),rfl⟩
 refine call (H5 Kw NA 3 nc [([102],T)] _ 1 1 [102] w3 (mQ.ext Qi) Dq (by decide) hF3 (λx hx=>by
  simp only[QL] at hx;subst hx;exact⟨(show∀b∈ [102],b<256 by decide),hT,(show [102].length<=_ by decide),by simp only;omega⟩) (by decide) (by decide)) ?_
 rw[hr];rintro _ w4 ⟨Qs,hg,RA,rc,RL,rfl,W9⟩;have hI4:SrcIn w4 3 RA rc g:=jQB (nm:=Kw) (by decide) hr hg W9;have Xr:=QY.trans Qs;refine new (λw5 Qx KL QB=>?_);refine new (λw6 QN cj Xg=>?_);refine Qw (QB.ext QN) rfl (sc rfl) (λw7 Zs _ Q8=>?_);have Xb:Mod (·=w4.heap.size) w6 w7:=qQT Zs rfl;refine Qw (Xg.mod Xb (by omega)) rfl (sc rfl) (λw8 YO _ Xx=>?_);have ZF:Mod (·=w5.heap.size) w7 w8:=qQT YO rfl;have My:=Q8.mod ZF (by omega);have eB:Ext w4 w8:=ZF.ext (Xb.ext (Qx.trans QN) (λi hi=>by omega)) (λi hi=>by omega);have gL:=Qh.ext (Qg.trans (Qi.trans (Qs.trans eB)));have z1:=Qg.size;have z2:=Qi.size;have z3:=Qs.size;refine XL Qa (λw'=>Mod (·=w.heap.size) w8 w') 6 [(true,0),(true,1),(true,2),(true,3),(false,4),(true,5)] (by kernel_rfl) (Mod.of_ext _ (Ext.drew w8)) ?_;refine Xo (vs:=[.string (Qf g.tx),.slice RA g.sg.length rc]) rfl (λw' Qb k u hk=>by rw[(My.mod Qb (by omega)).cell];exact hk) ?_;refine QQ (v:=.int .i64 0) (λw' Qb=>((Xx.mod Qb (by omega)).cell 0).trans rfl) ?_;refine Qw (gL.ext (Ext.drew w8)) rfl (sc rfl) (λw9 bB _ JO=>?_);have Zb:Mod (·=w.heap.size) w8 w9:=(Mod.of_ext _ (Ext.drew w8)).trans (qQT bB rfl:Mod (·=w.heap.size) w8.drew w9) (λi hi=>.inl hi);refine⟨Zb,?_⟩;have XE:Ext w w9:=Zb.ext (Qd.trans (Qg.trans (Qi.trans (Qs.trans eB)))) (λi hi=>by omega);refine Qt JO rfl ?_;have oQt:Blk w8 w.heap.size 41 [.string ByteArray.empty,.slice none 0 0]:=gL;exact⟨RA,rc,rfl,XE,(hI4.ext eB).modI oQt (λv hv k z e=>by subst e;simp at hv) Zb⟩
structure Ep where
 l:Nat
 f:Nat
 t:Nat
 x:Nat
 s:Nat
def Ep.cells (e:Ep):List Value:=[.int .u8 (e.l:Nat),.int .u8 (e.f:Nat),.int .u8 (e.t:Nat),.int .u8 (e.x:Nat),.int .u8 (e.s:Nat)]
structure ChV where
 fam:Nat
 ls:List Lx
 es:List Ep
 LA:Option Addr
 ln:Nat
 lc:Nat
 EA:Option Addr
 en:Nat
 ec:Nat
def ChV.cells (x:ChV):List Value:=[.int .u8 (x.fam:Nat),.slice x.LA x.ln x.lc,.slice x.EA x.en x.ec]
structure Ep8 (e:Ep):Prop where
 l8:e.l<=255
 f8:e.f<=255
 t8:e.t<=255
 x8:e.x<=255
 s8:e.s<=255
structure ChIn (w:World) (x:ChV):Prop where
 f8:x.fam<=255
 ls:SlS Lx.cells 3 w x.LA x.ln x.lc x.ls
 lo:∀y∈x.ls,LxOk w y
 es:SlS Ep.cells 5 w x.EA x.en x.ec x.es
 e8:∀e∈x.es,Ep8 e
theorem ChIn.ext {w w':World}{x:ChV}(h:ChIn w x)(k:Ext w w'):ChIn w' x:=⟨h.f8,h.ls.ext k,λy hy=>(h.lo y hy).ext k,h.es.ext k,h.e8⟩
theorem lQ8 (x:List Nat×List Nat):(aG x).length=2:=rfl
def YN (x:Lx):Lx:=if x.k % 8=7 then{x with k:=0}else x
theorem lQ9 {w:World}{x:Lx}(h:LxOk w x):LxOk w (YN x):=by
 unfold YN;split
 ·exact⟨by simp,h.i8,h.sl,h.w8⟩
 ·exact h
def rD (ls:List Lx):List Nat:=Qk ((Iq 3 (ls.map YN)).map Jl)
theorem bQM {α:Type}{f:α->List Value}{sz:Nat}(hf:∀x,(f x).length=sz):∀(l:List α)(j:Nat)(y y':α)(i:Nat)(v:Value),l[j]? =some y->i<sz->(f y).set i v=f y'->(l.flatMap f).set (j*sz+i) v=(l.set j y').flatMap f
 | [],j,y,y',i,v,h,_,_=>by simp at h
 | z::l,0,y,y',i,v,h,hi,e=>by
  simp at h;subst h;simp only[VH,PV,Nat.zero_mul,a8];rw[List.set_append_left _ _ (by rw[hf];exact hi),e]
 | z::l,j+1,y,y',i,v,h,hi,e=>by
  simp only[VH,List.set_cons_succ];rw[Bk _ _ (by rw[hf,ik];omega),hf,show(j+1)*sz+i-sz=j*sz+i by rw[ik];omega,bQM hf l j y y' i v (by simpa using h) hi e]
def cY (ls:List Lx)(i:Nat):List Lx:=(ls.take i).map YN++ls.drop i
theorem bQN (ls:List Lx)(i:Nat):(cY ls i).length=ls.length:=by simp[cY];omega
theorem Lg {ls:List Lx}{i:Nat}(h:i<ls.length):(cY ls i)[i]? =ls[i]? :=by
 unfold cY;rw[WV (by simp;omega)];simp[nv (Nat.le_of_lt h)]
theorem bQO {ls:List Lx}{i:Nat}{y:Lx}(h:ls[i]? =some y):cY ls (i+1)=(cY ls i).set i (YN y):=by
 have hi:=(ZM.1 h).1;unfold cY;rw[Bk _ _ (by simp;omega)];have hd:ls.drop i=y::ls.drop (i+1):=by rw[av hi];congr 1;exact Option.some.inj ((XB hi).symm.trans h)
 rw[hd,show i-((ls.take i).map YN).length=0 by simp;omega,PV,V3,h];simp
theorem mQa (ls:List Lx):cY ls ls.length=ls.map YN:=by simp[cY]
theorem mQb (x:ChV)(w:World)(h:ChIn w x)(hn:x.ln<=1048576):
  Fn Tryz.prog 12 [.agg x.cells.toArray] w (λu w'=>u= .string (Qf (rD x.ls))/\Ext w w'):=by
 have dy:=h.ls.2;have hlc:=h.ls.1.cap;have ZL:=h.ls.1.le;simp only[maxLen] at hlc;refine QH (c:={c12 with cuts:=[]}) Qa Tryz.func12 rfl rfl rfl ?_;refine new (λw1 Qd Q9 Qh=>?_);refine Xw Qa [] rfl rfl rfl rfl rfl ⟨⟩ rfl (λcs h=>by cases h) rfl (by decide) (by decide) ?_;intro w2 Qg Zi Qv;refine load (((Qh.ext Qg).cell 1).trans rfl) ?_;refine JH (n:=0) Qa rfl rfl rfl rfl rfl (by decide) rfl rfl ⟨_,rfl⟩ rfl rfl (Own.empty Qv (QC _)) (h.ls.ext (Qd.trans Qg)).1 (λu hu=>by
  obtain⟨y,_,hy⟩:=cB.1 hu;exact sc (vs:=y.cells) rfl u hy) (by unfold maxLen;omega) (by show(0+x.ln)*32<=_;omega) (by omega) ?_
 intro TA tc w3 XD hO3 _;rw[aZ] at hO3;have XI:Ext w1 w3:=XD.ext Qg (λi hi=>by obtain⟨a,e,rfl⟩:=hi;cases e;exact QC _);rw[a8] at*;refine loop Qa [4] (λi:Nat=>[.int .i64 i]) (λi w'=>Ext w1 w'/\i<=x.ln/\Own w' w1.heap.size 83 3 TA x.ln tc ((cY x.ls i).flatMap Lx.cells)) (λi _=>x.ln-i) 0 rfl ⟨XI,Xt _,by simpa [cY] using hO3⟩ ?_;rintro i w4 ⟨Qs,hi,r6⟩;refine Qz (λc1=>?_) (λc1=>?_)
 ·have Q5:i<x.ln:=by omega
  have PN:SlS Lx.cells 3 w4 TA x.ln tc (cY x.ls i):=⟨r6.sl,by rw[bQN];exact dy⟩
  obtain⟨a,rfl,_⟩:=r6.sl.at_ (show 0<x.ln by omega);refine Zz IW PN rfl Q5 (λad y hy hc=>?_);rw[Lg (by omega)] at hy;have hk8:=(h.lo y (Xk hy)).k8;refine load (hc 0 _ rfl) ?_;refine normIf (m:=((y.k % 8:Nat):Int)) (by decide) (iv _ 8) ?_;refine Zd (λq1=>?_) (λq1=>?_)
  ·have hf:YN y={y with k:=0}:=by unfold YN;rw[Qe (by omega)]
   refine I4 (j:=i) Q5 ?_;show eP _ ((a.add (i*3)).add 0) _ _;rw[add_add];refine HZ r6 (by omega) (by omega) (λw5 XT DL=>?_);rw[bQM IW (cY x.ls i) i y (YN y) 0 _ (by rw[Lg (by omega)];exact hy) (by decide) (by rw[hf];rfl),<-bQO hy] at DL;refine Qj ((i+1:Nat):Int) (by show((i:Nat):Int)+1=_;omega) (by omega) ?_;exact⟨i+1,rfl,⟨XT.ext Qs (λk hk=>(r6.rows k hk).1),Q5,DL⟩,by show x.ln-(i+1)<x.ln-i;omega⟩
  ·have hf:YN y=y:=by unfold YN;rw[if_neg (by omega)]
   refine Qj ((i+1:Nat):Int) (by show((i:Nat):Int)+1=_;omega) (by omega) ?_;have e:cY x.ls (i+1)=cY x.ls i:=by
    rw[bQO hy,hf];exact Bc (λk=>by
     rw[Ga];split
     ·rename_i hk;subst hk;rw[Lg (by omega),hy,Qe (by rw[bQN];omega)]
     ·rfl)
   exact⟨i+1,rfl,⟨Qs,Q5,by rw[e];exact r6⟩,by show x.ln-(i+1)<x.ln-i;omega⟩
 have Q5:i=x.ln:=by omega
 subst Q5;have Xr:=Qd.trans Qs;refine call (yh w4) ?_;rintro _ w5 ⟨NA,nc,rfl,Qx,hN5⟩;have PN:SlS Lx.cells 3 w5 TA x.ln tc (x.ls.map YN):=⟨by have:=(r6.ext Qx).sl;rw[<-dy,mQa] at this;rw[<-dy];exact this,by rw[JR];exact dy⟩
 refine call (lQr 3 (by decide) NA nc TA none x.ln tc 0 0 (x.ls.map YN) [] w5 hN5 PN (λy hy=>by
  obtain⟨z,hz,rfl⟩:=ZG.1 hy;exact(lQ9 (h.lo z hz)).ext (Xr.trans Qx)) (SlS.nil _) (λy hy=>by cases hy)) ?_
 rintro _ w6 ⟨F,rfl,QN,hF6⟩;refine Zz lQ8 hF6 (j:=0) rfl (by decide) (λad y hy hc=>?_);cases hy;refine load (hc 1 _ rfl) ?_;exact⟨rfl,Xr.trans (Qx.trans QN)⟩
theorem mQc {k0:Nat}{x:Lx}{op:List Bool}(h:x.k % 8≠7):Ym k0 true x op=Ym k0 false x op:=by
 unfold Ym;simp[h]
theorem bQP {k0:Nat}:∀{l:List Lx}{op:List Bool},(∀x∈l,x.k % 8≠7)->Y1 k0 true l op=Y1 k0 false l op
 | [],op,_=>rfl
 | x::l,op,h=>by
  rw[Y1,Y1,mQc (h x (by simp)),bQP (λy hy=>h y (by simp[hy]))]
theorem mQd (x:Lx):(YN x).k % 8≠7:=by
 unfold YN;split
 ·simp
 ·assumption
theorem mQe (x:Lx):(YN x).i=x.i:=by
 unfold YN;split<;>rfl
def oQ (ls:List Lx):List Mn:=Y1 3 false ((ls.map YN).take 12) []
theorem mQf (ls:List Lx):Iq 3 (ls.map YN)=oQ ls:=bQP (λx hx=>by
 obtain⟨y,_,rfl⟩:=ZG.1 (bf hx);exact mQd y)
theorem Lh (ls:List Lx):rD ls=Qk ((oQ ls).map Jl):=by unfold rD;rw[mQf]
theorem bQQ {ls:List Lx}(h:∀x∈ls,x.i<=255):∀x∈(ls.map YN).take 12,x.i<=255:=λx hx=>by
 obtain⟨y,hy,rfl⟩:=ZG.1 (bf hx);rw[mQe];exact h y hy
theorem Li {ls:List Lx}(h:∀x∈ls,x.i<=255):JB Kw false 3 [] (oQ ls):=aQf (by decide) false _ [] (bQQ h) (by simp)
theorem Lj {ls:List Lx}(h:∀x∈ls,x.i<=255):oE 34 (oQ ls):=aQj (by decide) false _ [] (bQQ h)
theorem Lk (ls:List Lx):(oQ ls).length<=15:=by
 have h1:=aQi 3 false ((ls.map YN).take 12) [] (by simp);have h2:((ls.map YN).take 12).length<=12:=List.length_take_le _ _;unfold oQ;omega
theorem mQg {ls:List Lx}(h:∀x∈ls,x.i<=255):(rD ls).length<=510:=by
 rw[Lh];have h1:=In (Lj h);have h2:=Y8 34 (Lk ls);omega
def Kx (e:Nat->Bool):List Mn->BF->List (BF×BF)->List (List Nat)
 | [],_,_=>[]
 | .tx s::l,k,op=>(if k e=true then [s] else [])++Kx e l k op
 | .ifd _ o::l,k,op=>Kx e l (ZD k o) ((k,JI k o)::op)
 | .elif _ o::l,_,op=>match op with
  | []=>[]
  | x::op=>Kx e l (ZD x.2 o) ((x.1,JI x.2 o)::op)
 | .els::l,_,op=>match op with
  | []=>[]
  | x::op=>Kx e l x.2 (x::op)
 | .en::l,_,op=>match op with
  | []=>[]
  | x::op=>Kx e l x.1 op
 | .inc::l,k,op=>Kx e l k op
theorem mQh (a b:List (List Nat)):Qk (a++b)=Qk a++Qk b:=by unfold Qk;rw[Wy]
theorem rF (e:Nat->Bool):∀(l:List Mn)(k:BF)(op:List (BF×BF)),YL e (Zr iM l k op)=Qk (Kx e l k op)
 | [],_,_=>by simp[Zr,Kx,YL,Qk]
 | .tx s::l,k,op=>by
  rw[Zr,Kx,Is,mQh,rF e l k op];congr 1;by_cases h:k e=true
  ·rw[Qe h,aQk h];simp[Qk]
  ·rw[if_neg h,aQl (by simpa using h)];simp[Qk]
 | .ifd F o::l,k,op=>by rw[Zr,Kx];exact rF e l _ _
 | .elif F o::l,k,[]=>by simp[Zr,Kx,YL,Qk]
 | .elif F o::l,k,(x,y)::op=>by rw[Zr,Kx];exact rF e l _ _
 | .els::l,k,[]=>by simp[Zr,Kx,YL,Qk]
 | .els::l,k,(x,y)::op=>by rw[Zr,Kx];exact rF e l _ _
 | .en::l,k,[]=>by simp[Zr,Kx,YL,Qk]
 | .en::l,k,(x,y)::op=>by rw[Zr,Kx];exact rF e l _ _
 | .inc::l,k,op=>by rw[Zr,Kx,Is,rF e l k op];simp[iM,YL]
theorem rG (e:Nat->Bool):∀(l:List Mn)(k:BF)(op:List (BF×BF)),(∀s∈Kx e l k op,Mn.tx s∈l)/\(Kx e l k op).length<=l.length
 | [],_,_=>⟨λs h=>by simp[Kx] at h,QC _⟩
 | .tx s::l,k,op=>by
  obtain⟨a,b⟩:=rG e l k op;rw[Kx];refine⟨λt ht=>?_,?_⟩
  ·rcases Xv.1 ht with h | h
   ·split at h
    ·rw[QL.1 h];simp
    ·cases h
   ·exact dF _ (a t h)
  ·rw[Qq,Q6];split
   ·simp only[gi];omega
   ·simp only[Ji];omega
 | .ifd F o::l,k,op=>by
  obtain⟨a,b⟩:=rG e l (ZD k o) ((k,JI k o)::op);rw[Kx];exact⟨λt ht=>dF _ (a t ht),by rw[Q6];omega⟩
 | .elif F o::l,k,[]=>⟨λs h=>by simp[Kx] at h,by simp[Kx]⟩
 | .elif F o::l,k,x::op=>by
  obtain⟨a,b⟩:=rG e l (ZD x.2 o) ((x.1,JI x.2 o)::op);rw[Kx];exact⟨λt ht=>dF _ (a t ht),by rw[Q6];omega⟩
 | .els::l,k,[]=>⟨λs h=>by simp[Kx] at h,by simp[Kx]⟩
 | .els::l,k,x::op=>by
  obtain⟨a,b⟩:=rG e l x.2 (x::op);rw[Kx];exact⟨λt ht=>dF _ (a t ht),by rw[Q6];omega⟩
 | .en::l,k,[]=>⟨λs h=>by simp[Kx] at h,by simp[Kx]⟩
 | .en::l,k,x::op=>by
  obtain⟨a,b⟩:=rG e l x.1 op;rw[Kx];exact⟨λt ht=>dF _ (a t ht),by rw[Q6];omega⟩
 | .inc::l,k,op=>by
  obtain⟨a,b⟩:=rG e l k op;rw[Kx];exact⟨λt ht=>dF _ (a t ht),by rw[Q6];omega⟩
def FamT (f:Nat->List (List Nat)):Prop:=∀c,(∀s∈f c,TxOk s/\s.length<34)/\(f c).length<=15
abbrev ei (f:Nat->List (List Nat))(S:List Nat):List (List Nat):=X0 Kw (λc=>Qk (f c)) 3 0 S
theorem FamT.lns {f:Nat->List (List Nat)}(h:FamT f)(c:Nat):lJ (f c):=λs hs=>((h c).1 s hs).1.nl
theorem FamT.plain {f:Nat->List (List Nat)}(h:FamT f)(c:Nat):Vj (Qk (f c))=true:=by
 unfold Vj;rw[UW,qU (h.lns c),bg];exact J0.2 (λs hs=>X2 ((h c).1 s hs).1.dr)
theorem FamT.b8 {f:Nat->List (List Nat)}(h:FamT f)(c:Nat):(∀b∈Qk (f c),b<256)/\(Qk (f c)).length<=600:=by
 refine⟨Ij (λs hs=>((h c).1 s hs).1.b8),?_⟩;have h1:(Qk (f c)).length<=(f c).length*(33+1):=yd (λs hs=>by have:=((h c).1 s hs).2;omega);have h2:=Y8 34 (h c).2;omega
theorem FamT.wl {f:Nat->List (List Nat)}(h:FamT f){S:List Nat}(hS:S≠ [])(h8:S.length<=8):(∀b∈Qk (ei f S),b<256)/\(Qk (ei f S)).length<=1048576:=by
 obtain⟨h1,h2⟩:=rq (nm:=Kw) (f:=λc=>Qk (f c)) (P:=λs=>(∀b∈s,b<256)/\s.length<=2100) (M:=15) (λv ng=>⟨(bQv Dq Ds v ng).1,bQh Ds v ng⟩) (by decide) (by decide) 3 0 S hS (λc hc=>by
  rw[qU (h.lns c)];exact⟨λs hs=>⟨((h c).1 s hs).1.b8,by have:=((h c).1 s hs).2;omega⟩,(h c).2⟩)
 refine⟨Ij (λs hs=>(h1 s hs).1),?_⟩;have h3:(Qk (ei f S)).length<=(ei f S).length*(2100+1):=yd (λs hs=>(h1 s hs).2);have h4:=Y8 (15+3) h8;have h5:(ei f S).length*(2100+1)<=144*2101:=Y8 _ (by show(X0 Kw (λc=>Qk (f c)) 3 0 S).length<=144;omega);omega
theorem FamT.read {f:Nat->List (List Nat)}(h:FamT f){S:List Nat}(hS:S≠ [])(h8:∀c∈S,c<8)(hl:S.length<=8):
  ∃g,KH Kw [([102],Qk (ei f S))] [102]= .ok g/\∀c∈S,j0 g.tx g.sg (λi=>c.testBit i)=Qk (f c):=by
 obtain⟨T,h1,h2,h3,h4,h5,h6,h7⟩:=CX (nm:=X5.take 3) (n:=3) (kQa (by decide)) (f:=λc=>Qk (f c)) (P:=λs=>TxOk s/\s.length<34) (M:=15) 3 0 S (by decide) hS (λc hc c' Z3 hb=>kQc (h8 c hc) (h8 c' Z3) (λi hi=>hb i (by omega) (by omega))) (λc hc=>by
  rw[qU (h.lns c)];refine⟨λs hs=>?_,λs hs=>(h c).1 s hs,(h c).2⟩;rw[qU (h.lns c)] at hs;exact((h c).1 s hs).1.dr)
 have h5':=xY (λs h=>h.1) h5;have Q0:(fl (X5.take 3) T).length<=144:=by have:=Y8 (15+3) hl;omega
 obtain⟨g,r1,r2⟩:=jQ6 (nm:=X5.take 3) (n:=3) (by decide) (jQ8 (by decide)) (M:=34) (D:=3) (by decide) h2 h5' h4 (xX (by decide) (by decide) h2 h5) (by omega) (f:=[102]) (by decide);refine⟨g,?_,λc hc=>by rw[r2,h7 c hc,qU (h.lns c)]⟩;rw[<-r1];show KH Kw [([102],Qk (X0 Kw _ 3 0 S))] [102]=_;rw[h1]
theorem bQR {f:Nat->List (List Nat)}(hf:FamT f){o:BF}{S:List Nat}(hmS:QF 3 o=S)(hS:S≠ [])(h8:S.length<=8)(Q:List (DV×Pr))(ps:List Pt)(D:DV)(NA:Option Addr)(nc:Nat)(PA:Option Addr)(pc:Nat)(w:World)(hN:Sl w 1 NA 3 nc (X9 Kw))(hD:SB w D.A D.n D.c D.nd)(sD:Set1 3 D.nd D.r o)(hQ:PtsIn w PA Q.length pc Q)(hm:PrM 3 (Q.map (·.2)) ps)(hp:PtOk f S ps):
  Fn Tryz.prog 24 [.slice NA 3 nc,Xl D.A D.n D.c D.r,.slice PA Q.length pc] w (λu w'=>u= .tuple #[.string (Qf (Qk (ei f S))),.int .i64 0]/\Ext w w'):=by
 have wr:∀q∈Q,(∀b∈q.2.t,b<256)/\q.2.t.length<=600:=λq hq=>by
  obtain⟨k,hk⟩:=ip.1 hq;have JM:=(ZM.1 hk).1;have hl:=hm.len;rw[JR] at hl;obtain⟨p,kE⟩:∃p,ps[k]? =some p:=⟨_,XB (by omega)⟩
  have h1:=(hm.get (q:=q.2) (k:=k) (by rw[aq,hk];rfl) kE).1;obtain⟨d,hd⟩:=tE _ (hp.ne p (Xk kE));rw[h1,<-(hp.tx p (Xk kE) d hd).2];exact hf.b8 d
 refine(Di NA 3 nc Kw D PA Q.length pc (Q.map (λq=>(q.1,q.2.t))) (by decide) Dq Ds (λq hq=>by
  obtain⟨q0,h0,rfl⟩:=ZG.1 hq;obtain⟨a,b⟩:=wr q0 h0;exact⟨a,by show q0.2.t.length<=2000;omega⟩) w hN hD ⟨by rw[<-Dm];exact hQ.sl.1,by rw[JR]⟩ (λq hq=>by
  obtain⟨q0,h0,rfl⟩:=ZG.1 hq;exact(hQ.sb q0 h0).1)).mono ?_
 rintro u w' ⟨rfl,hE⟩;refine⟨?_,hE⟩;rw[IU (nm:=Kw) Dr (gE (n:=3) (by decide) sD).1 (λq hq=>by
  obtain⟨q0,h0,rfl⟩:=ZG.1 hq;exact(gE (n:=3) (by decide) (hQ.sb q0 h0).2).1),lZ sD,Dk (λq hq=>(hQ.sb q hq).2)]
 have Vp:QF Kw.length o=S:=hmS;have fM:=lQh (nm:=Kw) (o:=o) (f:=f) hm (by rw[Vp];exact hp) (λc=>hf.plain c) (by rw[Vp];exact hS) (by rw[Vp];exact(hf.wl hS h8).2);rw[fM,Vp]<;>rfl
def cd (ls:List Lx)(c:Nat):List (List Nat):=Kx (bits c) (oQ ls) (λ_=>true) []
theorem mQi {ls:List Lx}(h:∀x∈ls,x.i<=255):FamT (cd ls):=λc=>by
 obtain⟨a,b⟩:=rG (bits c) (oQ ls) (λ_=>true) [];refine⟨λs hs=>?_,X4 b (Lk ls)⟩;have hm:=a s hs;exact⟨C1 (Li h) _ hm,Lj h _ hm⟩
theorem mQj {ls:List Lx}(h:∀x∈ls,x.i<=255):∃g,KH Kw (fF (rD ls)) [102]= .ok g/\∀c,j0 g.tx g.sg (λi=>c.testBit i)=Qk (cd ls c):=by
 rw[Lh];obtain⟨g,h1,h2⟩:=It (nm:=Kw) (M:=34) (D:=3) Dr (by decide) (Li h) (Lj h) (by have:=Y8 34 (Lk ls);omega) (f:=[102]) (by decide);refine⟨g,h1,λc=>?_⟩;rw[U6];show YL (bits c) (Wg g)=_;rw[h2,rF]<;>rfl
abbrev gI:List Nat:=[120,32,119]
abbrev Yo:List Nat:=[120,32,121]
def fh (set c:Nat):List (List Nat):=if Ki set c=true then [gI] else [Yo]
theorem mQk:TxOk gI:=⟨by decide,by rfl,by decide⟩
theorem Du:TxOk Yo:=⟨by decide,by rfl,by decide⟩
theorem Dv (set:Nat):FamT (fh set):=λc=>by
 unfold fh;split
 ·exact⟨λs hs=>by rw[QL.1 hs];exact⟨mQk,by decide⟩,by decide⟩
 ·exact⟨λs hs=>by rw[QL.1 hs];exact⟨Du,by decide⟩,by decide⟩
def Vx (set fam:Nat):List Nat:=(J6 fam).filter (Ki set)
def em (set fam:Nat):List Nat:=(J6 fam).filter (λc=> !Ki set c)
def l9 (set fam:Nat):List Pt:=(if Vx set fam=[] then [] else [(Vx set fam,[gI])])++(if em set fam=[] then [] else [(em set fam,[Yo])])
theorem Dw {set fam:Nat}{p:Pt}:p∈l9 set fam↔(Vx set fam≠ []/\p=(Vx set fam,[gI]))∨(em set fam≠ []/\p=(em set fam,[Yo])):=by
 unfold l9;by_cases h1:Vx set fam=[]<;>by_cases h2:em set fam=[]<;>simp[h1,h2]
theorem me {set fam c:Nat}:c∈Vx set fam↔c∈J6 fam/\Ki set c=true:=Jc
theorem u9 {set fam c:Nat}:c∈em set fam↔c∈J6 fam/\Ki set c=false:=by
 unfold em;rw[Jc];simp
theorem mQl (set fam:Nat):PtOk (fh set) (J6 fam) (l9 set fam):=by
 refine⟨λc hc=>?_,λp hp c hc=>?_,λp hp=>?_,λi j p q c hi hj hp hq=>?_⟩
 ·cases h:Ki set c with
  | true=>
   have hm:=me.2 ⟨hc,h⟩;exact⟨_,Dw.2 (.inl ⟨(λe=>by rw[e] at hm;cases hm),rfl⟩),hm⟩
  | false=>
   have hm:=u9.2 ⟨hc,h⟩;exact⟨_,Dw.2 (.inr ⟨(λe=>by rw[e] at hm;cases hm),rfl⟩),hm⟩
 ·rcases Dw.1 hp with⟨_,rfl⟩ | ⟨_,rfl⟩
  ·obtain⟨a,b⟩:=me.1 hc;exact⟨a,by unfold fh;rw[Qe b]⟩
  ·obtain⟨a,b⟩:=u9.1 hc;exact⟨a,by unfold fh;rw[if_neg (by rw[b];decide)]⟩
 ·rcases Dw.1 hp with⟨a,rfl⟩ | ⟨a,rfl⟩
  ·exact a
  ·exact a
 ·have key:∀(i:Nat) (p:Pt),(l9 set fam)[i]? =some p->c∈p.1->(Ki set c=true/\i=0/\Vx set fam≠ [])∨(Ki set c=false/\i=if Vx set fam=[] then 0 else 1):=λi p hi hp=>by
   unfold l9 at hi;by_cases h1:Vx set fam=[]<;>by_cases h2:em set fam=[]
   ·simp[h1,h2] at hi
   ·rw[Qe h1,if_neg h2,aZ] at hi;have hz:=(ZM.1 hi).1;simp only[gi] at hz;have vE:i=0:=by omega
    subst vE;simp only[Be,Option.some.injEq] at hi;rw[<-hi] at hp;exact .inr ⟨(u9.1 hp).2,by rw[Qe h1]⟩
   ·rw[if_neg h1,Qe h2,JZ] at hi;have hz:=(ZM.1 hi).1;simp only[gi] at hz;have vE:i=0:=by omega
    subst vE;simp only[Be,Option.some.injEq] at hi;rw[<-hi] at hp;exact .inl ⟨(me.1 hp).2,rfl,h1⟩
   ·rw[if_neg h1,if_neg h2] at hi;have hz:=(ZM.1 hi).1;simp only[Qq,gi] at hz
    match i,hz with
    | 0,_=>
     simp only[Z5,aZ,Be,Option.some.injEq] at hi;rw[<-hi] at hp;exact .inl ⟨(me.1 hp).2,rfl,h1⟩
    | 1,_=>
     simp only[Z5,aZ,List.getElem?_cons_succ,Be,Option.some.injEq] at hi;rw[<-hi] at hp;exact .inr ⟨(u9.1 hp).2,by rw[if_neg h1]⟩
  rcases key i p hi hp with⟨a,b,_⟩ | ⟨a,b⟩<;>rcases key j q hj hq with⟨a',b',_⟩ | ⟨a',b'⟩
  ·omega
  ·rw[a] at a';cases a'
  ·rw[a] at a';cases a'
  ·rw[b,b']
abbrev cZ:List Nat:=[120,32,121,10]
theorem mQm:JB Kw false 3 [] [Mn.tx Yo]:=⟨Du,trivial⟩
theorem mQn:∃g,KH Kw (fF cZ) [102]= .ok g:=by
 obtain⟨g,h1,_⟩:=It (nm:=Kw) (M:=34) (D:=3) Dr (by decide) mQm (λm hm=>by rw[QL.1 hm];decide) (by decide) (f:=[102]) (by decide);exact⟨g,h1⟩
theorem bQS:QW cZ=[Yo]:=by rfl
theorem mQo {g:Gs}(h:KH Kw (fF cZ) [102]= .ok g):oJ g 0=λ_=>true:=by
 obtain⟨_,h1,h2,h3⟩:=IR h;have hm:(0,Yo,(λ_=>true:BF))∈j7 g:=by rw[h1];exact QL.2 rfl
 obtain⟨i,x,hs,_⟩:=aQY h3 h2 hm;exact hs.cnd
abbrev ce (X:DV):EdV:=⟨2,3,[119],X⟩
theorem mQp {D X:DV}{fam set:Nat}(hf:fam<=255)(hs:set<=255)(sD:Set1 3 D.nd D.r (W7 fam))(sX:Set1 3 X.nd X.r (W7 set)):
  oK Kw D cZ [ce X]= .ok (if Vx set fam=[] then cZ else Qk (ei (fh set) (J6 fam))):=by
 obtain⟨g,hr⟩:=mQn;have QO:=C5 hf;have oX:oD X=W7 set:=lZ sX;have oDD:oD D=W7 fam:=lZ sD;have h3:Kw.length=3:=rfl;have hS:QF 3 (ZD (oD D) (oJ g 0))=J6 fam:=by
  rw[mQo hr,oDD,<-yg hf];refine bQI (λc _=>?_);show(W7 fam (bits c)&&true)=W7 fam (bits c);rw[Bn]
 have pQv:Wh (J6 fam) (oD X)=(J6 fam).any (Ki set):=by
  unfold Wh;rw[oX];have key:∀l:List Nat,(∀c∈l,c<8)->l.any (λc=>W7 set (bits c))=l.any (Ki set):=by
   intro l;induction l with
   | nil=>intro _;rfl
   | cons c l ih=>
    intro h;rw[List.any_cons,List.any_cons,ih (λd hd=>h d (by simp[hd])),oP hs (h c (by simp))]
  exact key _ (λc hc=>uO hc)
 have hI:Vx set fam=[]↔(J6 fam).any (Ki set)=false:=by
  rw[List.any_eq_false];constructor
  ·intro e c hc wo;have:=me.2 ⟨hc,wo⟩;rw[e] at this;cases this
  ·intro h;apply Bm.2;intro c hc;obtain⟨a,b⟩:=me.1 hc;exact h c a b
 have F3:ff [(ce X).ed] (J6 fam) 0 Yo=if Vx set fam=[] then [] else [(ce X).ed]:=by
  unfold ff;have h1:lW 0 Yo (ce X).ed=true:=by unfold lW;exact X2 ⟨by show(0:Int)<=2;decide,by show(3:Int)<=_;decide⟩
  rw[gh,Gq,h1,bg];show(if Wh (J6 fam) (oD X)=true then _ else _)=_;rw[pQv];by_cases e:Vx set fam=[]
  ·rw[Qe e,if_neg (by rw[hI.1 e];decide)]
  ·rw[if_neg e,Qe (by cases h:(J6 fam).any (Ki set)with | true=>rfl | false=>exact Xd (hI.2 h) e)]
 have tk:∀c∈J6 fam,W6 cZ (0+Yo.length+1) 0 [(ce X).ed] c=Qk (fh set c):=λc hc=>by
  have hb:(oD X) (bits c)=Ki set c:=by rw[oX];exact oP hs (uO hc)
  have h1:(ce X).ed.o (bits c)=Ki set c:=hb;unfold W6 fh;simp only[wt,List.foldl_nil];unfold YM;rw[h1];cases Ki set c<;>rfl
 have AU:ee Kw cZ [(ce X).ed] (J6 fam) 0 Yo=some (if Vx set fam=[] then [Yo] else ei (fh set) (J6 fam)):=by
  unfold ee;rw[F3];by_cases e:Vx set fam=[]
  ·rw[Qe e,Qe e,Qe rfl]
  ·rw[if_neg e,if_neg e,if_neg (by intro h;cases h),if_neg (show¬cV (J6 fam) [(ce X).ed]=false by simp[cV])];have hall:(J6 fam).all (λc=>Vj (W6 cZ (0+Yo.length+1) 0 [(ce X).ed] c))=true:=J0.2 (λc hc=>by rw[tk c hc];exact(Dv set).plain c);rw[if_neg (by rw[hall];decide)];exact QD some (uT (nm:=Kw) Kw.length 0 (J6 fam) QO tk)
 have ao:bZ Kw (oD D) g cZ [(ce X).ed] (QW cZ) 0=some (if Vx set fam=[] then [Yo] else ei (fh set) (J6 fam)):=by
  rw[bQS,bZ,Qe Du.dr,h3,hS,AU];simp only[bZ,JZ]
 have pQw:j9 3 cZ 0 [(ce X).ed]=true:=by
  have h1:QF 3 (ce X).ed.o≠ []:=by show QF 3 (oD X)≠ [];rw[oX,yg hs];exact C5 hs
  have h2:(JL 0 (QW cZ)).any (gH (ce X).ed)=true:=by
   rw[bQS];show(gH (ce X).ed (0,Yo)||false)=true;rw[Bool.or_false];exact X2 ⟨by show(0:Int)<=2;decide,by show(3:Int)<=_;decide,by show(2:Int)<=3;decide,Du.dr⟩
  show((decide _&&_)&&decide _&&true)=true;rw[X2 h1,h2]<;>rfl
 unfold oK;have ov1:Kv Kw.length D.nd D.r=true:=(gE (n:=3) (by decide) sD).1;rw[if_neg (by rw[Dr,ov1];simp),Qe (by rw[wu,List.all_nil,Bn];exact(gE (n:=3) (by decide) sX).1)];unfold De;rw[hr];simp only[Kr,wv];rw[if_neg (by rw[h3,pQw];decide),ao];simp only;by_cases e:Vx set fam=[]
 ·rw[Qe e,Qe e];have e1:Qk [Yo]=cZ:=by rfl
  rw[e1,if_neg (by decide),hr]
 ·rw[if_neg e,if_neg e];obtain⟨g',r1,_⟩:=(Dv set).read QO (λc hc=>uO hc) (uP fam);rw[if_neg (by have:=((Dv set).wl QO (uP fam)).2;omega)];have r2:KH Kw (fF (Qk (ei (fh set) (J6 fam)))) [102]= .ok g':=r1;rw[r2]
end
section
theorem bQT {P:Program}{md:Region.Mode}{ops:Array Oper}{Q:Exit->Act->World->Prop}{C C':World->Prop}{n:Nat}{L:Array Bool->Act->World->Prop}(hs:∀v,C' v->C v):∀(f:Nat)(listed:Array Bool)(a:Act)(w:World),Yf P md ops Q C' n L f listed a w->Yf P md ops Q C n L f listed a w
 | 0,_,_,_,h=>h
 | f+1,listed,a,w,h=>⟨h.1,λi hi=>⟨(h.2 i hi).1,wpOp_mono (λa' w' h'=>⟨hs _ h'.1,bQT hs f _ a' w' h'.2⟩) (h.2 i hi).2⟩⟩
def mf (c:Cx)(all:List Oper):(World->Prop)->PT->Env->World->(Env->World->Prop)->Prop
 | _,.done,S,w,K=>K S w
 | _,.skip,_,_,_=>True
 | C,.quiet k t,S,w,K=>match K6 all k with
  | some o=>gp all o S (λS=>qD c o S C (λS=>mf c all C t S w K)) (λS=>Xh c S o.dst (.v undef) (λS=>mf c all C t S w K))
  | none=>False
 | C,.fork k t o,S,w,K=>(match K6 all k with
  | some op=>gp all op S (λS=>dI c op S w (λS w=>∃C':World->Prop,(∀v,C' v->C v)/\C' w/\mf c all C' t S w K) (λ_ _ _=>False)) (λS=>Xh c S op.dst (.v undef) (λS=>mf c all C t S w K))
  | none=>False)/\mf c all C o S w K
section
variable {c:Cx} {S:Env} {a:Act}
theorem yi (hg:c.g.Ok){md:Region.Mode}{ops:List Oper}{Q:Exit->Act->World->Prop}{n:Nat}(hs:Region.noSelect ops.toArray=true)(hk:jP md ops.toArray n){K:Env->World->Prop}:
  ∀(C:World->Prop) (t:PT) (m:Nat) (listed:Array Bool) (S:Env) (a:Act) (w:World),HeadInv md ops.toArray n listed->mf c ops C t S w K->Fits c.N S a->C w->
  (J8 md ops.toArray n t false m listed=true->Yf c.g.P md ops.toArray (NoPan Q) C n (λJo a' w'=>Region.seqB md ops.toArray (ops.toArray.size-n) n Jo=true/\∃S',Fits c.N S' a'/\K S' w') m listed a w)/\
  (∀m',m=m'+1->J8 md ops.toArray n t true m listed=true->(∀i∈t.alts,i∈Region.ready md ops.toArray listed)->∀i∈t.alts,i<n/\wpOp c.g.P ops.toArray (NoPan Q) i (λa' w'=>C w'/\Yf c.g.P md ops.toArray (NoPan Q) C n (λJo a' w'=>Region.seqB md ops.toArray (ops.toArray.size-n) n Jo=true/\∃S',Fits c.N S' a'/\K S' w') m' (listed.setIfInBounds i true) a' w') a w)
 | C,.done,m,listed,S,a,w,inv,h,hf,hC=>by
  refine⟨λhB=>?_,λm' hm hB=>?_⟩
  ·simp only[J8,Bool.not_false,bg,Z4] at hB;have:=VG hB.1;subst this;exact⟨hB.2,S,hf,h⟩
  ·simp[J8] at hB
 | C,.skip,m,listed,S,a,w,inv,h,hf,hC=>by
  refine⟨λhB=>?_,λm' hm hB _ i hi=>?_⟩
  ·simp[J8] at hB
  ·simp[PT.alts] at hi
 | C,.quiet k t,0,listed,S,a,w,inv,h,hf,hC=>by
  refine⟨λhB=>?_,λm' hm hB=>?_⟩
  ·simp[J8] at hB
  ·simp[J8] at hB
 | C,.quiet k t,m+1,listed,S,a,w,inv,h,hf,hC=>by
  refine⟨λhB=>?_,λm' hm hB=>?_⟩
  ·simp only[J8,Bool.not_false,bg,Z4] at hB;obtain⟨⟨⟨Xn,hr⟩,jl⟩,K2⟩:=hB;have Xn:k<n:=by rw[ii] at Xn;exact Xn
   have Q4:k∈Region.ready md ops.toArray listed:=by simpa using hr
   obtain⟨_,o,ho,_⟩:=mem_ready.1 Q4;have hn:K6 ops k=some o:=by rw[gm];simpa using ho
   simp only[mf,hn] at h;have key:∃v,YieldsIf c.g.P ops.toArray C o v a/\∃S',Fits c.N S' (a.put o.dst v)/\mf c ops C t S' w K:=by
    rcases jQ h hf with⟨hw,S1,Zh,h1⟩ | ⟨hw,S1,Zh,h1⟩
    ·obtain⟨v,h2,h3⟩:=wU hg h1 Zh;exact⟨v,.inl ⟨hw,h2⟩,h3⟩
    ·exact⟨undef,.inr ⟨hw,rfl⟩,Zy (e:=.v undef) h1 Zh⟩
   obtain⟨v,hy,S',QZ,h'⟩:=key;exact GL ho (Region.noSelect_spec hs) hk Xn (λJo a' w' hL=>seqB_ready hL.1) m listed a w inv (Region.free_spec ho jl) Q4 hy hC
    ((yi hg hs hk C t m _ S' _ w (inv.set Q4 Xn) h' QZ hC).1 K2)
  ·simp[J8] at hB
 | C,.fork k t o,0,listed,S,a,w,inv,h,hf,hC=>by
  refine⟨λhB=>?_,λm' hm hB=>?_⟩
  ·simp[J8] at hB
  ·simp[J8] at hB
 | C,.fork k t o,m+1,listed,S,a,w,inv,h,hf,hC=>by
  have key:(Nat.blt k n&&J8 md ops.toArray n t false m (listed.setIfInBounds k true))=true->J8 md ops.toArray n o true (m+1) listed=true->(∀i∈(PT.fork k t o).alts,i∈Region.ready md ops.toArray listed)->
    ∀i∈(PT.fork k t o).alts,i<n/\wpOp c.g.P ops.toArray (NoPan Q) i (λa' w'=>C w'/\Yf c.g.P md ops.toArray (NoPan Q) C n (λJo a' w'=>Region.seqB md ops.toArray (ops.toArray.size-n) n Jo=true/\∃S',Fits c.N S' a'/\K S' w') m (listed.setIfInBounds i true) a' w') a w:=by
   intro hB fX hall i hi;simp only[Z4] at hB;obtain⟨Xn,K2⟩:=hB;have Xn:k<n:=by rw[ii] at Xn;exact Xn
   simp only[PT.alts,Q3] at hi;have Q4:k∈Region.ready md ops.toArray listed:=hall k (by simp[PT.alts]);obtain⟨h1,h2⟩:=h;rcases hi with rfl | hi
   ·refine⟨Xn,?_⟩;obtain⟨_,op,ho,_⟩:=mem_ready.1 Q4;have hn:K6 ops i=some op:=by rw[gm];simpa using ho
    simp only[hn] at h1;have eE:=inv.set Q4 Xn;unfold wpOp;simp only[ho];rcases jQ h1 hf with⟨hw,S1,Zh,h3⟩ | ⟨hw,S1,Zh,h3⟩
    ·rw[Qe hw];refine .inl ?_;have h4:=qw hg h3 Zh;have h5:=Oper.wp_mono (K':=λa' w'=>C w'/\Yf c.g.P md ops.toArray (NoPan Q) C n (λJo a' w'=>Region.seqB md ops.toArray (ops.toArray.size-n) n Jo=true/\∃S',Fits c.N S' a'/\K S' w') m (listed.setIfInBounds i true) a' w')
      (λa' w' ⟨S',QZ,C',kI,Z3,VZ⟩=>⟨kI _ Z3,bQT kI _ _ _ _ ((yi hg hs hk C' t m _ S' a' w' eE VZ QZ Z3).1 K2)⟩) h4
     unfold Oper.wp at h5 ⊢;generalize (execOp a.eval op).run c.g.P w=r at*;cases r with
     | ok nx w'=>
      cases nx<;>simp only[Oper.upon] at h5 ⊢ <;> try exact h5
      exact h5.mono λe Vc he=>by
       cases e with
       | returned v=>exact he
       | panicked ch=>obtain⟨_,_,he⟩:=he;exact he.elim
       | outgrown=>obtain⟨_,_,_,_,he⟩:=he;exact he.elim
     | halt x w'=>cases x<;>simp only[Oper.upon] at h5 ⊢ <;> first | exact h5 | (obtain⟨_,_,h5⟩:=h5;exact h5.elim)
    ·rw[if_neg (by rw[hw];decide)];obtain⟨S',QZ,h'⟩:=Zy (e:=.v undef) h3 Zh;exact⟨hC,(yi hg hs hk C t m _ S' _ w eE h' QZ hC).1 K2⟩
   ·exact(yi hg hs hk C o (m+1) listed S a w inv h2 hf hC).2 m rfl fX (λj hj=>hall j (by simp[PT.alts,hj])) i hi
  refine⟨λhB=>?_,λm' hm hB hall=>?_⟩
  ·simp only[J8,Bool.false_or,Z4,VJ] at hB;obtain⟨⟨hr,Qh⟩,Qv⟩:=hB;have Wl:Region.ready md ops.toArray listed=(PT.fork k t o).alts:=hr;refine⟨λh0=>(by rw[hr] at h0;cases h0),λi hi=>?_⟩;exact key (by simpa using Qh) Qv (λj hj=>by rw[Wl];exact hj) i (by rw[Wl] at hi;exact hi)
  ·simp only[J8,Bool.true_or,bg] at hB;rw[Z4] at hB;have ZP:m'=m:=by omega
   subst ZP;exact key hB.1 hB.2 hall
theorem mQq (hg:c.g.Ok){id:Nat}{ops:List Oper}{w:World}{Q:Zj}(C:World->Prop)(n:Nat)(t:PT)
  (hB:(Region.noSelect ops.toArray&&qC .any ops.toArray n&&J8 .any ops.toArray n t false n (Array.replicate ops.toArray.size false))=true) (hC:C w.drew)
  (h:mf {c with named:=1000000} ops C t S w.drew (λS w=>YD c ops (ops.drop n) S w (λS w=>Q .normal S w) (λ_ _ _=>False))):WA c id ops S w Q:=by
 unfold WA;intro a hf;simp only[Z4] at hB;obtain⟨⟨hs,aU⟩,Jf⟩:=hB;have hk:=wT aU;have Fq:n<=ops.length:=by
  rcases hk with hk | hk
  ·rw[hk];simp
  ·have:=hk.1;simp at this;omega
 refine Code.wp_mono NoPan.imp (wp_region_any hg.mixed ?_);have mj:HeadInv .any ops.toArray n (Array.replicate ops.toArray.size false):=
  ⟨by simp,λj oj _ hl=>(by rw[getD_replicate_false] at hl;cases hl),λt _ ht=>getD_in (by simpa using ht) (getD_replicate_false _ _)⟩
 have H:=(yi (c:={c with named:=1000000}) hg (Q:=Up c Q) hs hk C t n _ S a _ mj h hf hC).1 Jf;have Yw:(ops.drop n).length=ops.toArray.size-n:=by simp
 have H2:=tQ (Q:=NoPan (Up c Q)) (g:=ops.toArray.size-n) (λJo a' w' hL=>by
  obtain⟨hq,S',QZ,VZ⟩:=hL;have h2:=jK (c:=c) hg ops _ _ _ _ VZ QZ;have:=wpAny_of_seq (P:=c.g.P) (md:=.any) (ops:=ops.toArray) (Q':=NoPan (Up c Q)) (ops.drop n) n Jo a' w' (λj=>by simp) (by rw[Yw];exact hq) (ld (λe a w hq=>by
   cases e with
   | normal=>exact hq
   | _=>exact Xd hq (by rintro⟨_,_,h⟩;exact h)) h2)
  rwa [Yw] at this) _ _ _ _ H
 rw[show n+(ops.toArray.size-n)=ops.toArray.size by simp;omega] at H2;exact H2
end
end
section
def fi (set fam:Nat):BF:=λe=>Kt 0 (W7 set e) (W7 fam e)
def fj (set fam:Nat):BF:=λe=>W7 fam e && !fi set fam e
theorem Dx {set fam c:Nat}(hs:set<=255)(hf:fam<=255)(hc:c<8):fi set fam (bits c)=decide (c∈Vx set fam):=by
 unfold fi;rw[oP hs hc,oP hf hc];have h1:c∈Vx set fam↔Ki fam c=true/\Ki set c=true:=by
  rw[me];unfold J6;rw[Jc,YS];exact⟨λh=>⟨h.1.2,h.2⟩,λh=>⟨⟨hc,h.1⟩,h.2⟩⟩
 cases h2:Ki fam c<;>cases h3:Ki set c<;>simp[Kt,h1,h2,h3]
theorem Ll {set fam c:Nat}(hs:set<=255)(hf:fam<=255)(hc:c<8):fj set fam (bits c)=decide (c∈em set fam):=by
 unfold fj;rw[Dx hs hf hc,oP hf hc];have h1:c∈Vx set fam↔Ki fam c=true/\Ki set c=true:=by
  rw[me];unfold J6;rw[Jc,YS];exact⟨λh=>⟨h.1.2,h.2⟩,λh=>⟨⟨hc,h.1⟩,h.2⟩⟩
 have h4:c∈em set fam↔Ki fam c=true/\Ki set c=false:=by
  rw[u9];unfold J6;rw[Jc,YS];exact⟨λh=>⟨h.1.2,h.2⟩,λh=>⟨⟨hc,h.1⟩,h.2⟩⟩
 cases h2:Ki fam c<;>cases h3:Ki set c<;>simp[h1,h4,h2,h3]
theorem mQr {set fam:Nat}(hs:set<=255)(hf:fam<=255):QF 3 (fi set fam)=[]↔Vx set fam=[]:=by
 constructor
 ·intro h;apply Bm.2;intro c hc;have h8:=uO (me.1 hc).1;have:c∈QF 3 (fi set fam):=Z0.2 ⟨h8,by show fi set fam (bits c)=true;rw[Dx hs hf h8,X2 hc]⟩;rw[h] at this;cases this
 ·intro h;apply Bm.2;intro c hc;obtain⟨h8,h1⟩:=Z0.1 hc;have h1:fi set fam (bits c)=true:=h1;rw[Dx hs hf h8,h] at h1;simp at h1
theorem mQs {set fam:Nat}(hs:set<=255)(hf:fam<=255):QF 3 (fj set fam)=[]↔em set fam=[]:=by
 constructor
 ·intro h;apply Bm.2;intro c hc;have h8:=uO (u9.1 hc).1;have:c∈QF 3 (fj set fam):=Z0.2 ⟨h8,by show fj set fam (bits c)=true;rw[Ll hs hf h8,X2 hc]⟩;rw[h] at this;cases this
 ·intro h;apply Bm.2;intro c hc;obtain⟨h8,h1⟩:=Z0.1 hc;have h1:fj set fam (bits c)=true:=h1;rw[Ll hs hf h8,h] at h1;simp at h1
theorem sections29_law (x:ChV)(set:Nat)(eC:set<=255)(hn:x.ln<=1048576)(w:World)(h:ChIn w x):Fn Tryz.prog 4 [.agg x.cells.toArray,.int .u8 set] w (λv w'=>v= .bool true/\Ext w w'):=by
 have bG:=h.f8;have zt:∀y∈x.ls,y.i<=255:=λy hy=>(h.lo y hy).i8
 have hT8:∀b∈rD x.ls,b<256:=by rw[Lh];exact jQ3 (C1 (Li zt))
 have hTl:=mQg zt;have QO:=C5 bG;obtain⟨g,hr,jn⟩:=mQj zt;have hF:=mQi zt;obtain⟨g',Q4,pQx⟩:=hF.read QO (λc hc=>uO hc) (uP x.fam);obtain⟨hW8,hWl⟩:=hF.wl QO (uP x.fam);refine QH (c:={c4 with cuts:=[6,8,12]}) Qa Tryz.func4 rfl rfl rfl ?_;refine new (λw1 Qd Q9 Qh=>?_);refine call (lQ1 w1) ?_;rintro _ w2 ⟨rfl,Qg⟩;have QR:=Qd.trans Qg;have Qv:=Qh.ext Qg;refine load ((Qv.cell 0).trans rfl) ?_;refine call (Dp x.fam bG w2) ?_;rintro _ w3 ⟨DA,dn,dc,dnd,dr,rfl,Qi,hD3,sD,_⟩;refine new (λw4 Qs KW QX=>?_);refine Qw QX rfl (sc rfl) (λw5 Js _ QB=>?_);have KM:=XV Qs QX Js;have Z9:=QR.trans (Qi.trans KM);have zI:=hD3.ext KM;generalize w3.heap.size=pd at*;refine aQz [7] (λt:Nat×DV=>[.pointer (some ⟨t.1,0,none⟩)]) (λt w'=>Ext w5 w'/\Blk w' t.1 32 [.slice t.2.A t.2.n t.2.c,.int .i64 t.2.r]/\SB w' t.2.A t.2.n t.2.c t.2.nd/\Set1 3 t.2.nd t.2.r (fi set x.fam)) ?_ ?_
 ·refine mQq Qa (Ext w5) 6 (.quiet 0 (.quiet 2 (.fork 1 (.fork 3 (.fork 4 (.fork 5 .done .skip) .skip) (.fork 4 (.fork 3 (.fork 5 .done .skip) .skip) .skip)) (.fork 4 (.fork 1 (.fork 3 (.fork 5 .done .skip) .skip) .skip) .skip)))) (by kernel_rfl) (Ext.drew w5) ?_;refine Xo (vs:=[.slice DA dn dc,.int .i64 dr]) rfl (λw' Qb k u hk=>by rw[(QB.ext Qb).cell];exact hk) ?_;have f0:=Ext.drew w5;generalize w5.drew=v0 at*;refine⟨?_,?_,trivial⟩
  ·refine call (Dp set eC v0) ?_;rintro _ v1 ⟨SA,sm,sc',snd,sr,rfl,g1,F6,sS,hSR⟩;have f1:=f0.trans g1;refine⟨_,λv hv=>hv,f1,?_⟩;refine⟨?_,?_,trivial⟩
   ·refine call (xP (by decide) SA sm sc' DA dn dc v1 (F6.ext (Ext.refl _)) (zI.ext f1) sS sD) ?_;rintro _ v2 ⟨IA,im,ic,ind,ir,rfl,g2,p7,sI,AX⟩;have AY:=SB.lt p7;have f2:=f1.trans g2;refine⟨_,λv hv=>hv,f2,?_⟩;refine⟨?_,trivial⟩
    ·refine new (λv3 g3 hzX hX=>?_);have f3:=f2.trans g3;refine⟨_,λv hv=>hv,f3,?_⟩;refine⟨?_,trivial⟩;have s1:=g1.size;have s2:=g2.size;have s3:=g3.size;refine Qw (hX.ext (Ext.refl _)) rfl (sc rfl) (λvz AZ _ A0=>?_);have p8:Mod (·=v2.heap.size) v3 vz:=qQT AZ rfl;have fz:Ext w5 vz:=p8.ext f3 (λi hi=>by have:=f2.size;omega);refine⟨_,λv hv=>hv,fz,?_⟩;exact⟨(v2.heap.size,⟨IA,im,ic,ind,ir⟩),rfl,fz,A0,SB.modo (p7.ext g3) p8 (λad ea h0 hh=>by have:=AX ad.block ⟨ad,ea,rfl⟩;have:=AY ad ea h0;omega),sI⟩
   ·refine new (λv2 g2 hzX hX=>?_);have f2:=f1.trans g2;refine⟨_,λv hv=>hv,f2,?_⟩;refine⟨?_,trivial⟩
    ·refine call (xP (by decide) SA sm sc' DA dn dc v2 (F6.ext g2) (zI.ext f2) sS sD) ?_;rintro _ v3 ⟨IA,im,ic,ind,ir,rfl,g3,p7,sI,AX⟩;have AY:=SB.lt p7;have f3:=f2.trans g3;refine⟨_,λv hv=>hv,f3,?_⟩;refine⟨?_,trivial⟩;have s1:=g1.size;have s2:=g2.size;have s3:=g3.size;refine Qw (hX.ext g3) rfl (sc rfl) (λvz AZ _ A0=>?_);have p8:Mod (·=v1.heap.size) v3 vz:=qQT AZ rfl;have fz:Ext w5 vz:=p8.ext f3 (λi hi=>by have:=f1.size;omega);refine⟨_,λv hv=>hv,fz,?_⟩;exact⟨(v1.heap.size,⟨IA,im,ic,ind,ir⟩),rfl,fz,A0,SB.modo (p7.ext (Ext.refl _)) p8 (λad ea h0 hh=>by have:=AX ad.block ⟨ad,ea,rfl⟩;have:=AY ad ea h0;omega),sI⟩
  ·refine new (λv1 g1 hzX hX=>?_);have f1:=f0.trans g1;refine⟨_,λv hv=>hv,f1,?_⟩;refine⟨?_,trivial⟩
   ·refine call (Dp set eC v1) ?_;rintro _ v2 ⟨SA,sm,sc',snd,sr,rfl,g2,F6,sS,hSR⟩;have f2:=f1.trans g2;refine⟨_,λv hv=>hv,f2,?_⟩;refine⟨?_,trivial⟩
    ·refine call (xP (by decide) SA sm sc' DA dn dc v2 (F6.ext (Ext.refl _)) (zI.ext f2) sS sD) ?_;rintro _ v3 ⟨IA,im,ic,ind,ir,rfl,g3,p7,sI,AX⟩;have AY:=SB.lt p7;have f3:=f2.trans g3;refine⟨_,λv hv=>hv,f3,?_⟩;refine⟨?_,trivial⟩;have s1:=g1.size;have s2:=g2.size;have s3:=g3.size;refine Qw (hX.ext (g2.trans g3)) rfl (sc rfl) (λvz AZ _ A0=>?_);have p8:Mod (·=v0.heap.size) v3 vz:=qQT AZ rfl;have fz:Ext w5 vz:=p8.ext f3 (λi hi=>by have:=f0.size;omega);refine⟨_,λv hv=>hv,fz,?_⟩;exact⟨(v0.heap.size,⟨IA,im,ic,ind,ir⟩),rfl,fz,A0,SB.modo (p7.ext (Ext.refl _)) p8 (λad ea h0 hh=>by have:=AX ad.block ⟨ad,ea,rfl⟩;have:=AY ad ea h0;omega),sI⟩
 rintro⟨pi,I⟩ w6 ⟨QN,N8,Jw,sI⟩;simp only at N8 Jw sI;refine Qt (QB.ext QN) rfl ?_;refine Qt N8 rfl ?_;refine call (Un (by decide) DA dn dc I.A I.n I.c w6 (zI.ext QN) Jw sD sI) ?_;rintro _ w7 ⟨OA,om,oc,ond,or,rfl,Xf,yO,sO,_⟩;have sO:Set1 3 ond or (fj set x.fam):=sO;refine new (λw8 Xp Yq Xx=>?_);refine Qw Xx rfl (sc rfl) (λw9 bB _ dQc=>?_);have VW:=XV Xp Xx bB;have gO:=Xf.trans VW;have zJ:=QN.trans gO;have zK:=QB.ext zJ;have N9:=N8.ext gO;have zL:=zI.ext zJ;have hI9:=Jw.ext gO;have hO9:=yO.ext VW;generalize w7.heap.size=po at*;refine Xw Qa [] rfl rfl rfl rfl rfl ⟨⟩ rfl (λcs h=>by cases h) rfl (by decide) (by decide) ?_;intro QK Zx vm Km;have Og:Own QK w9.heap.size 56 3 (some ⟨w9.heap.size,0,none⟩) 0 0 []:=Own.empty Km (QC _);have Oh:I.r=0↔Vx set x.fam=[]:=sI.root0.trans (mQr eC bG);have dQd:or=0↔em set x.fam=[]:=sO.root0.trans (mQs eC bG);have hqI:(⟨fi set x.fam,gI++ [10]⟩:Pr).t=Qk (Vx set x.fam,[gI]).2/\∀c,c<2^3->(⟨fi set x.fam,gI++ [10]⟩:Pr).o (bits c)=decide (c∈(Vx set x.fam,[gI]).1):=⟨rfl,λc hc=>Dx eC bG hc⟩
 have hqO:(⟨fj set x.fam,Yo++ [10]⟩:Pr).t=Qk (em set x.fam,[Yo]).2/\∀c,c<2^3->(⟨fj set x.fam,Yo++ [10]⟩:Pr).o (bits c)=decide (c∈(em set x.fam,[Yo]).1):=⟨rfl,λc hc=>Ll eC bG hc⟩
 refine eT [] Qa [9] (λt:List (DV×Pr)×Option Addr×Nat=>[.slice t.2.1 t.1.length t.2.2]) (λt w'=>Ext w9 w'/\t.1.length<=1/\Own w' w9.heap.size 56 3 t.2.1 t.1.length t.2.2 (t.1.flatMap Jm)/\(∀q∈t.1,SB w9 q.1.A q.1.n q.1.c q.1.nd/\Set1 3 q.1.nd q.1.r q.2.o)/\PrM 3 (t.1.map (·.2)) (if Vx set x.fam=[] then [] else [(Vx set x.fam,[gI])])) ?_ ?_
 ·refine load (((N9.ext Zx).cell 1).trans rfl) ?_;refine YE (λc1=>?_) (λc1=>?_)
  ·refine Qt (N9.ext Zx) rfl ?_;refine Xw Qa [Jm (I,⟨fi set x.fam,gI++ [10]⟩)] rfl rfl rfl rfl rfl ⟨rfl,rfl,⟨⟩⟩ rfl (λcs h=>by simp only[QL] at h;subst h;rfl) rfl (by decide) (by decide) ?_;intro QJ Z2 rP Z1;have mz:SlS Jm 3 QJ (some ⟨QK.heap.size,0,none⟩) 1 1 [(I,⟨fi set x.fam,gI++ [10]⟩)]:=⟨Sl.own (sz:=3) (n:=1) Z1 (QC _) (by decide) (by simp[Jm,JK]),rfl⟩
   refine JH (n:=0) Qa rfl rfl rfl rfl rfl (by decide) rfl rfl ⟨_,rfl⟩ rfl rfl (Og.ext Z2) mz.1 (λu hu=>by
    obtain⟨y,_,hy⟩:=cB.1 hu;exact sc (vs:=Jm y) rfl u hy) (by unfold maxLen;omega) (by decide) (by have:=Zx.size;have:=Z2.size;omega) ?_
   intro PA pc Xa Yu pF _;refine⟨([(I,⟨fi set x.fam,gI++ [10]⟩)],PA,pc),rfl,Yu.ext (Zx.trans Z2) (λk hk=>(Og.rows k hk).1),QC _,pF,λq hq=>by rw[QL.1 hq];exact⟨hI9,sI⟩,?_⟩;rw[if_neg (λe=>c1 (Oh.2 e))];exact⟨hqI,trivial⟩
  ·refine⟨([],some ⟨w9.heap.size,0,none⟩,0),rfl,Zx,Xt _,Og,(λq hq=>by cases hq),?_⟩;rw[Qe (Oh.1 c1)];exact trivial
 rintro⟨Q1,PA1,pc1⟩ QJ ⟨Z2,kA,vK,Oi,vQ⟩;simp only at kA vK Oi vQ;have fG:=Z2;refine eT [] Qa [9] (λt:List (DV×Pr)×Option Addr×Nat=>[.slice t.2.1 t.1.length t.2.2]) (λt w'=>Ext w9 w'/\Own w' w9.heap.size 56 3 t.2.1 t.1.length t.2.2 (t.1.flatMap Jm)/\(∀q∈t.1,SB w9 q.1.A q.1.n q.1.c q.1.nd/\Set1 3 q.1.nd q.1.r q.2.o)/\PrM 3 (t.1.map (·.2)) (l9 set x.fam)) ?_ ?_
 ·refine load (((dQc.ext Z2).cell 1).trans rfl) ?_;refine YE (λc1=>?_) (λc1=>?_)
  ·refine Qt (dQc.ext Z2) rfl ?_;refine Xw Qa [Jm (⟨OA,om,oc,ond,or⟩,⟨fj set x.fam,Yo++ [10]⟩)] rfl rfl rfl rfl rfl ⟨rfl,rfl,⟨⟩⟩ rfl (λcs h=>by simp only[QL] at h;subst h;rfl) rfl (by decide) (by decide) ?_;intro Xa Xm cQb K8;have ac:SlS Jm 3 Xa (some ⟨QJ.heap.size,0,none⟩) 1 1 [((⟨OA,om,oc,ond,or⟩:DV),(⟨fj set x.fam,Yo++ [10]⟩:Pr))]:=⟨Sl.own (sz:=3) (n:=1) K8 (QC _) (by decide) (by simp[Jm,JK]),rfl⟩
   refine JH (n:=Q1.length) Qa rfl rfl rfl rfl rfl (by decide) rfl rfl ⟨_,rfl⟩ rfl rfl (vK.ext Xm) ac.1 (λu hu=>by
    obtain⟨y,_,hy⟩:=cB.1 hu;exact sc (vs:=Jm y) rfl u hy) (by unfold maxLen;omega) (by show(Q1.length+1)*48<=_;omega) (by have:=Z2.size;have:=Xm.size;omega) ?_
   intro PA pc X1 aO ph _;rw[<-Wy] at ph;refine⟨(Q1++ [((⟨OA,om,oc,ond,or⟩:DV),(⟨fj set x.fam,Yo++ [10]⟩:Pr))],PA,pc),(by rw[show(Q1++ [((⟨OA,om,oc,ond,or⟩:DV),(⟨fj set x.fam,Yo++ [10]⟩:Pr))]).length=Q1.length+1 by simp];rfl),aO.ext (Z2.trans Xm) (λk hk=>(vK.rows k hk).1),by simpa using ph,λq hq=>?_,?_⟩
   ·rcases Xv.1 hq with hq | hq
    ·exact Oi q hq
    ·rw[QL.1 hq];exact⟨hO9,sO⟩
   ·unfold l9;rw[if_neg (λe=>c1 (dQd.2 e)),be];exact vQ.snoc hqO
  ·refine⟨(Q1,PA1,pc1),rfl,Z2,vK,Oi,?_⟩;unfold l9;rw[Qe (dQd.1 c1),JZ];exact vQ
 rintro⟨Q,PA,pc⟩ Xa ⟨Xm,pF,hQ,hP⟩;simp only at pF hQ hP;have rT:=Z9.trans (zJ.trans Xm);have mH:=Ext.drew Xa;have pQy:∀{w'},Ext Xa w'->PtsIn w' PA Q.length pc Q:=λk=>⟨⟨(pF.ext k).sl,rfl⟩,λq hq=>⟨(hQ q hq).1.ext (Xm.trans k),(hQ q hq).2⟩⟩
 refine XL Qa (Ext Xa) 12 [(true,1),(true,2),(false,0),(false,3),(true,4),(false,5),(false,6),(true,7),(true,8),(true,9),(true,10),(true,11)] (by kernel_rfl) mH ?_;refine Xo (vs:=[.slice DA dn dc,.int .i64 dr]) rfl (λw' Qb k u hk=>by rw[((zK.ext Xm).ext Qb).cell];exact hk) ?_;refine call (yh Xa.drew) ?_;rintro _ X1 ⟨NA,nc,rfl,XI,oQu⟩;have zB:=mH.trans XI;refine⟨zB,?_⟩;refine call (Dp set eC X1) ?_;rintro _ Zm ⟨FA,fn,fc,fnd,fr,rfl,JP,oQv,sF,_⟩;have kB:=zB.trans JP;refine⟨kB,?_⟩;refine Xw Qa [Kk (ce ⟨FA,fn,fc,fnd,fr⟩)] rfl rfl rfl rfl rfl ⟨rfl,rfl,⟨⟩⟩ rfl (λcs h=>by simp only[QL] at h;subst h;rfl) rfl (by decide) (by decide) ?_;intro KA JQ nQl pk;have Oj:=kB.trans JQ;refine⟨Oj,?_⟩;refine call (bQB NA 3 nc Kw ⟨DA,dn,dc,dnd,dr⟩ cZ _ 1 1 [ce ⟨FA,fn,fc,fnd,fr⟩] (by decide) Dq Ds (by decide) (by decide) (λe he=>by
  rw[QL.1 he];exact⟨by show(-9223372036854775808:Int)<=2;decide,by show(2:Int)<=_;decide,by show(-9223372036854775808:Int)<=3;decide,by show(3:Int)<=_;decide⟩) (λe he=>by
  rw[QL.1 he];exact⟨by show∀b∈ [119],b<256;decide,by show [119].length<=1000;decide⟩) (show 1<=10 by decide) KA ((oQu.ext JP).ext JQ) (zL.ext (Xm.trans Oj)) ⟨Sl.own (sz:=5) (n:=1) pk (QC _) (by decide) (by simp[Kk]),rfl⟩ (λe he=>by
  rw[QL.1 he];exact oQv.ext JQ)) ?_
 rw[mQp (D:=⟨DA,dn,dc,dnd,dr⟩) (X:=⟨FA,fn,fc,fnd,fr⟩) bG eC sD sF];rintro _ Y4 ⟨rfl,VX⟩;have zM:=Oj.trans VX;refine⟨zM,?_⟩;have vN:=Ext.drew Y4;refine XL Qa (Ext Y4) 9 [(true,1),(true,2),(false,0),(false,3),(true,4),(true,5),(true,6),(true,7),(true,8)] (by kernel_rfl) vN ?_;refine Xo (vs:=[.slice DA dn dc,.int .i64 dr]) rfl (λw' Qb k u hk=>by rw[((zK.ext (Xm.trans zM)).ext Qb).cell];exact hk) ?_;refine call (yh Y4.drew) ?_;rintro _ Vo ⟨NB,nd,rfl,pe,oQw⟩;have Fe:=vN.trans pe;refine⟨Fe,?_⟩;refine call (bQR (Dv set) (yg bG) QO (uP x.fam) Q (l9 set x.fam) ⟨DA,dn,dc,dnd,dr⟩ NB nd PA pc Vo oQw (zL.ext (Xm.trans (zM.trans Fe))) sD (pQy (zM.trans Fe)) hP (mQl set x.fam)) ?_;rintro _ KZ ⟨rfl,kD⟩;have zE:=Fe.trans kD;refine⟨zE,?_⟩;have Ol:=Xm.trans (zM.trans zE);refine eT [] Qa [] (λ_:Unit=>[]) (λ_ w'=>KZ=w') ?_ ?_
 ·refine YU rfl ?_;refine YU rfl ?_;refine load (((N9.ext Ol).cell 1).trans rfl) ?_;refine YE (λc1=>?_) (λc1=>?_)
  ·have e1:(if Vx set x.fam=[] then cZ else Qk (ei (fh set) (J6 x.fam)))=Qk (ei (fh set) (J6 x.fam)):=if_neg (λe=>c1 (Oh.2 e));refine Q7 (by rw[e1];simp) ?_;exact⟨(),rfl,rfl⟩
  ·exact⟨(),rfl,rfl⟩
 rintro⟨⟩ _ rfl;have dQe:=zJ.trans Ol;have oQx:=Z9.trans dQe;have gL:=Qh.ext (Qg.trans (Qi.trans (KM.trans dQe)));refine Qt gL rfl ?_;refine call (mQb x KZ (h.ext oQx) hn) ?_;rintro _ aQ ⟨rfl,jb⟩;refine call (bQL (rD x.ls) g aQ hT8 (by omega) hr) ?_;rintro _ Yt ⟨RA,rc,rfl,sA,oQy⟩;refine new (λgN oQz dQb mK=>?_);refine Qw mK rfl (sc rfl) (λWs zF _ ky=>?_);have dQf:=XV oQz mK zF;have zG:=jb.trans (sA.trans dQf);have Om:=oQy.ext dQf;generalize Yt.heap.size=px at*;refine Xw Qa [] rfl rfl rfl rfl rfl ⟨⟩ rfl (λcs h=>by cases h) rfl (by decide) (by decide) ?_;intro Fd Ya qQs ko;refine loop Qa [17,16] (λt:Nat×List (DV×Pr)×Option Addr×Nat=>[.int .u64 t.1,.slice t.2.2.1 t.2.1.length t.2.2.2]) (λt w'=>Ext Ws w'/\t.1<=8/\Own w' Ws.heap.size 56 3 t.2.2.1 t.2.1.length t.2.2.2 (t.2.1.flatMap Jm)/\(∀q∈t.2.1,DgO w' (Ql t.2.2.1) 3 q.1 q.2.o)/\PrM 3 (t.2.1.map (·.2)) (rp true (cd x.ls) (l6 x.fam t.1))/\t.2.1.length<=t.1) (λt _=>8-t.1) (0,[],some ⟨Ws.heap.size,0,none⟩,0) rfl ⟨Ya,Xt _,Own.empty ko (QC _),(λq hq=>by cases hq),trivial,Xt _⟩ ?_;rintro⟨c,Q2,PA2,zC⟩ jk ⟨ZE,pv,zN,zO,zP,hQl⟩;simp only at pv zN zO zP hQl;have zQ:=Ol.trans (zG.trans ZE);have Y6:=zN.rows;have hgl:g.tx.length<=1048576:=Om.ok.tl;refine Qz (λc1=>?_) (λc1=>?_)
 ·have hc:c<8:=by simp only at c1;omega
  refine Qt (zK.ext zQ) rfl ?_;refine call (H6 DA dn dc dnd dr c (by omega) jk (zL.ext zQ) (sD.chk (by decide))) ?_;rintro _ sE ⟨rfl,Ko⟩;have dQg:=ZE.trans Ko;have Q5:ev dnd dr (We c)=Ki x.fam c:=by rw[sD.mean,Iw];exact oP bG hc
  rw[Q5];refine YT (λfY=>?_) (λfY=>?_)
  ·have mV:c∉l6 x.fam c:=λhm=>by have:=lQ7 hm;omega
   have jZk:rp true (cd x.ls) (l6 x.fam (c+1))=rp true (cd x.ls) (l6 x.fam c)++ [([c],cd x.ls c)]:=by
    rw[bQJ,fY,Qe rfl,kQe]<;>rfl
   have Oo:=Ext.drew sE;refine XL Qa (Ext sE) 8 [(true,0),(true,1),(true,3),(true,4),(false,2),(false,5),(true,6),(false,7)] (by kernel_rfl) Oo ?_;refine Xo (vs:=[.string (Qf g.tx),.slice RA g.sg.length rc]) rfl (λw' Qb k u hk=>by rw[((ky.ext dQg).ext Qb).cell];exact hk) ?_;refine call (lQ6 c hc sE.drew) ?_;rintro _ N7 ⟨A7,n7,c7,vR,r7,rfl,jg,YP,s7,Vk⟩;have Ff:=Oo.trans jg;refine⟨Ff,?_⟩;refine call (Ii (Om.ext (dQg.trans Ff)) c (by omega)) ?_;rintro _ Oq ⟨rfl,zR⟩;have dQh:=Ff.trans zR;refine⟨dQh,?_⟩;have jx:j0 g.tx g.sg (We c)=Qk (cd x.ls c):=by rw[Dt];exact jn c
   rw[jx];refine Xw Qa [Jm (DV.mk A7 n7 c7 vR r7,Pr.mk (kg c) (Qk (cd x.ls c)))] rfl rfl rfl rfl rfl ⟨rfl,rfl,⟨⟩⟩ rfl (λcs h=>by simp only[QL] at h;subst h;rfl) rfl (by decide) (by decide) ?_;intro Fg zS oQA Fh;have dQi:=dQh.trans zS;refine⟨dQi,?_⟩;have Fi:=Ko.trans dQi;have oQB:Sl Fg 3 (some ⟨Oq.heap.size,0,none⟩) 1 1 (Jm (DV.mk A7 n7 c7 vR r7,Pr.mk (kg c) (Qk (cd x.ls c)))):=Sl.own (sz:=3) (n:=1) Fh (QC _) (by decide) (by simp[Jm,JK]);refine JH (n:=Q2.length) Qa rfl rfl rfl rfl rfl (by decide) rfl rfl ⟨_,rfl⟩ rfl rfl (zN.ext Fi) oQB (bQs _) (by unfold maxLen;omega) (by show(Q2.length+1)*48<=_;omega) (by have:=(ZE.trans Fi).size;omega) ?_;intro PA3 pc3 Ot dQj dQk oQC;have dQl:Mod (Ql PA2) jk Ot:=(Mod.of_ext (Ql PA2) Fi).trans dQj (λi hi=>.inl hi);have r29:∀k,Ql PA3 k->Ql PA2 k∨Fg.heap.size<=k:=oQC.rows
   have z1:=Fi.size;have z2:=Ko.size;have z3:=Ff.size;have z5:=Oo.size;have z4:=(zR.trans zS).size;refine BK ((c+1:Nat):Int) (by show((c:Nat):Int)+1=_;omega) (by omega) ?_;rw[show Q2.flatMap Jm++Jm (DV.mk A7 n7 c7 vR r7,Pr.mk (kg c) (Qk (cd x.ls c)))=(Q2++ [(DV.mk A7 n7 c7 vR r7,Pr.mk (kg c) (Qk (cd x.ls c)))]).flatMap Jm by rw[Wy];simp] at dQk;refine⟨(c+1,Q2++ [(DV.mk A7 n7 c7 vR r7,Pr.mk (kg c) (Qk (cd x.ls c)))],PA3,pc3),by simp only[Qq];rfl,⟨dQl.ext ZE (λi hi=>(Y6 i hi).1),hc,by simp only;rw[Qq];exact dQk,λq hq=>?_,?_,by simp only[Qq,gi];omega⟩,by show 8-(c+1)<8-c;omega⟩
   ·rcases Xv.1 hq with hq | hq
    ·exact(zO q hq).step dQl (λk hk=>by
      rcases r29 k hk with h | h
      ·exact .inl h
      ·exact .inr (by omega))
    ·rw[QL.1 hq];have h0:DgO Fg (Ql PA2) 3 ⟨A7,n7,c7,vR,r7⟩ (kg c):=⟨YP.ext (zR.trans zS),s7,λad ea h0 h=>by have:=Vk ad.block ⟨ad,ea,rfl⟩;have:=(Y6 _ h).2;omega⟩
     exact h0.step dQj (λk hk=>by
      rcases r29 k hk with h | h
      ·exact .inl h
      ·exact .inr h)
   ·simp only;rw[jZk,be];exact PrM.snoc ⟨rfl,λd hd=>by show kg c (bits d)=decide (d∈ [c]);rw[lQ5 hc hd];simp⟩ zP
  ·refine BK ((c+1:Nat):Int) (by show((c:Nat):Int)+1=_;omega) (by omega) ?_;refine⟨(c+1,Q2,PA2,zC),rfl,⟨ZE.trans Ko,hc,zN.ext Ko,λq hq=>(zO q hq).ext Ko,?_,by simp only;omega⟩,by show 8-(c+1)<8-c;omega⟩;simp only;rw[bQJ,fY];simpa using zP
 have hc:c=8:=by
  have c1:¬((c:Nat):Int)<8:=c1;omega
 subst hc;have oQD:l6 x.fam 8=J6 x.fam:=rfl;rw[oQD] at zP;have dQm:=Ext.drew jk;have oQE:∀{w'},Ext jk w'->PtsIn w' PA2 Q2.length zC Q2:=λk=>⟨⟨(zN.ext k).sl,rfl⟩,λq hq=>⟨(zO q hq).sb.ext k,(zO q hq).st⟩⟩
 refine XL Qa (Ext jk) 9 [(true,1),(true,2),(false,0),(false,3),(true,4),(true,5),(true,6),(true,7),(true,8)] (by kernel_rfl) dQm ?_;refine Xo (vs:=[.slice DA dn dc,.int .i64 dr]) rfl (λw' Qb k u hk=>by rw[((zK.ext zQ).ext Qb).cell];exact hk) ?_;refine call (yh jk.drew) ?_;rintro _ sE ⟨NC,ne,rfl,Ko,oQF⟩;have Fj:=dQm.trans Ko;refine⟨Fj,?_⟩;refine call (bQR hF (yg bG) QO (uP x.fam) Q2 _ ⟨DA,dn,dc,dnd,dr⟩ NC ne PA2 zC sE oQF (zL.ext (zQ.trans Fj)) sD (oQE Fj) zP (kQf true (cd x.ls) _ (kQg x.fam))) ?_;rintro _ N7 ⟨rfl,jg⟩;have dQn:=Fj.trans jg;refine⟨dQn,?_⟩;refine call (bQL (Qk (ei (cd x.ls) (J6 x.fam))) g' N7 hW8 hWl Q4) ?_;rintro _ Oq ⟨SA,sc',rfl,zR,oQG⟩;refine new (λFg zS oQA Fh=>?_);refine Qw Fh rfl (sc rfl) (λOt oQH _ oQI=>?_);have dQo:=XV zS Fh oQH;have Ou:=dQn.trans (zR.trans dQo);have hIn:=oQG.ext dQo;have hIo:=Om.ext (ZE.trans Ou);have fX:=ky.ext (ZE.trans Ou);generalize Oq.heap.size=py at*;have Ov:=zQ.trans Ou;have oQJ:=Z9.trans (zJ.trans Ov);refine Q7 rfl ?_;refine Q7 rfl ?_;refine YU rfl ?_;refine loop Qa [22] (λc:Nat=>[.int .u64 c]) (λc w'=>Ext Ot w'/\c<=8) (λc _=>8-c) 0 rfl ⟨Ext.refl _,Xt _⟩ ?_;rintro c Ow ⟨mR,hc⟩;refine Qz (λc1=>?_) (λc1=>?_)
 ·have c8:c<8:=by omega
  have Ox:=Ext.drew Ow;refine XL Qa (Ext Ow) 12 [(true,0),(true,1),(false,2),(true,3),(true,4),(true,5),(true,7),(true,8),(false,6),(false,9),(true,10),(true,11)] (by kernel_rfl) Ox ?_;refine Xo (vs:=[.slice DA dn dc,.int .i64 dr]) rfl (λw' Qb k u hk=>by rw[((zK.ext (Ov.trans mR)).ext Qb).cell];exact hk) ?_;refine call (H6 DA dn dc dnd dr c (by omega) Ow.drew (zL.ext (Ov.trans (mR.trans Ox))) (sD.chk (by decide))) ?_;rintro _ w31 ⟨rfl,oQK⟩;have Fk:=Ox.trans oQK;refine⟨Fk,?_⟩;have jm:ev dnd dr (We c)=Ki x.fam c:=by
   rw[sD.mean,Dt];exact oP bG c8
  rw[jm];refine YT (λQ5=>?_) (λQ5=>?_)
  ·have XO:c∈J6 x.fam:=Jc.2 ⟨YS.2 c8,Q5⟩;refine Xo (vs:=[.string (Qf g'.tx),.slice SA g'.sg.length sc']) rfl (λw' Qb k u hk=>by rw[((oQI.ext mR).ext Qb).cell];exact hk) ?_;refine Xo (vs:=[.string (Qf g.tx),.slice RA g.sg.length rc]) rfl (λw' Qb k u hk=>by rw[((fX.ext mR).ext Qb).cell];exact hk) ?_;refine call (Ii (hIn.ext (mR.trans Fk)) c (by omega)) ?_;rintro _ w32 ⟨rfl,oQL⟩;have Oy:=Fk.trans oQL;refine⟨Oy,?_⟩;refine call (Ii (hIo.ext (mR.trans Oy)) c (by omega)) ?_;rintro _ w33 ⟨rfl,oQM⟩;have dQp:=Oy.trans oQM;refine⟨dQp,?_⟩;have h1:j0 g'.tx g'.sg (We c)=Qk (cd x.ls c):=by rw[Dt];exact pQx c XO
   have h2:j0 g.tx g.sg (We c)=Qk (cd x.ls c):=by rw[Dt];exact jn c
   rw[h1,h2];refine Q7 (by simp) ?_;refine norm (m:=((c+1:Nat):Int)) (IntWalk.u64_in _ (by omega)) ?_;exact⟨c+1,rfl,⟨mR.trans dQp,by show c+1<=8;omega⟩,by show 8-(c+1)<8-c;omega⟩
  ·refine norm (m:=((c+1:Nat):Int)) (IntWalk.u64_in _ (by omega)) ?_;exact⟨c+1,rfl,⟨mR.trans Fk,by show c+1<=8;omega⟩,by show 8-(c+1)<8-c;omega⟩
 exact⟨rfl,oQJ.trans mR⟩
end
section
open Go Go.RowKit Go.ChangeShapes
variable {H:Type} {enc:TypeId×Value->H}
theorem bQU {α:Type}{l:List α}(h:l.length=5):∃a b c d e,l=[a,b,c,d,e]:=by
 match l,h with
 | [a,b,c,d,e],_=>exact⟨a,b,c,d,e,rfl⟩
theorem mQt {W:World}(cs:List Value)(cA:Nat)(D:DataW H×List MemPlace)(hl:cs.length=5)(h:DataW.trod enc Tryz.prog W 0 (λ_=>true) true cA 89 cs=some D):∃y:{e:Ep // Ep8 e},y.1.cells=cs:=by
 have r9:Tryz.prog.cellsOf 5=1:=by kernel_rfl
 obtain⟨xs,k,_,_,_,gU,Ja⟩:=DataW.trod_struct Tryz.underlying89 h;obtain⟨y0,y1,y2,y3,y4,rfl⟩:=bQU (show xs.length=5 from gU);obtain⟨v0,v1,v2,v3,v4,rfl⟩:=bQU hl;have g0:=Ja 0 _ rfl;have g1:=Ja 1 _ rfl;have g2:=Ja 2 _ rfl;have g3:=Ja 3 _ rfl;have g4:=Ja 4 _ rfl;simp[r9] at g0 g1 g2 g3 g4;obtain⟨n0,e0,_,w0⟩:=DataW.trod_int Tryz.underlying5 g0;obtain⟨n1,e1,_,w1⟩:=DataW.trod_int Tryz.underlying5 g1;obtain⟨n2,e2,_,w2⟩:=DataW.trod_int Tryz.underlying5 g2;obtain⟨n3,e3,_,w3⟩:=DataW.trod_int Tryz.underlying5 g3;obtain⟨n4,e4,_,w4⟩:=DataW.trod_int Tryz.underlying5 g4;simp at e0 e1 e2 e3 e4;subst e0 e1 e2 e3 e4;obtain⟨m0,rfl,q0⟩:=u8_of w0;obtain⟨m1,rfl,q1⟩:=u8_of w1;obtain⟨m2,rfl,q2⟩:=u8_of w2;obtain⟨m3,rfl,q3⟩:=u8_of w3;obtain⟨m4,rfl,q4⟩:=u8_of w4;exact⟨⟨⟨m0,m1,m2,m3,m4⟩,⟨q0,q1,q2,q3,q4⟩⟩,rfl⟩
theorem mQu {W:World}{a:Option Addr}{len cap:Nat}{d:DataW H}{p:List MemPlace}(h:DataW.Trod enc Tryz.prog W 0 (λ_=>true) true 23 (.slice a len cap) d p):∃l,SlS Ep.cells 5 W a len cap l/\∀e∈l,Ep8 e:=by
 obtain⟨cA,hf⟩:=h;exact U9 (U8 (cells:=λy:{e:Ep // Ep8 e}=>y.1.cells) (λ_=>rfl) (by decide) Tryz.underlying23 (by kernel_rfl) ⟨⟨⟨0,0,0,0,0⟩,⟨by simp,by simp,by simp,by simp,by simp⟩⟩⟩ mQt rfl hf)
end
section
open Go Go.RowKit Go.ChangeShapes
variable {H:Type} {enc:TypeId×Value->H}
theorem mQv {d:DataW H}{l:List (DataW H)}(h:d∈l):Rows.uptoBulk d<=Rows.uptoBulkAll l:=by
 induction l with
 | nil=>cases h
 | cons x r ih=>
  simp only[Rows.uptoBulkAll];rcases Q3.1 h with e | e
  ·subst e;omega
  ·have:=ih e;omega
theorem upto_of {l:List (DataW H)}(hk:Rows.uptoSmall H l=true){d:DataW H}(h:d∈l):Rows.uptoBulk d<=1048576:=by
 have h1:Rows.uptoBulkAll l<=1048576:=YC hk;exact X4 (mQv h) h1
theorem mQw (d:DataW H):1<=Rows.uptoBulk d:=by
 cases d with
 | lit v=>cases v<;>simp[Rows.uptoBulk]
 | _=>simp[Rows.uptoBulk]
theorem bQV:∀(l:List (DataW H)),l.length<=Rows.uptoBulkAll l
 | []=>Xt _
 | d::l=>by
  have:=mQw d;have:=bQV l;simp only[Q6,Rows.uptoBulkAll];omega
theorem mQx {W:World}{cA t e:Nat}{a:Option Addr}{n c:Nat}{D:DataW H×List MemPlace}(hu:Tryz.prog.underlying t=some (.slice e))(h:DataW.trod enc Tryz.prog W 0 (λ_=>true) true cA t [.slice a n c]=some D):n<=Rows.uptoBulk D.1:=by
 rcases Go.Deep.open_slice hu h with⟨XO,_⟩ | ⟨x,l,c',m,k,D',Pl,XO,_,hl,hm,ZP,hde,hx⟩
 ·simp at XO;omega
 ·simp at XO;obtain⟨_,rfl,_⟩:=XO;rw[hde];simp only[Rows.uptoBulk];have:=bQV ((List.range n).map D');simp only[JR,List.length_range] at this;omega
set_option maxRecDepth 100000 in
theorem fileU_of {W:World}{base:Nat}{v:Value}{d:DataW H}{p:List MemPlace}(hval:Value.okWide Tryz.prog W .any base 25 v)(h:DataW.Trod enc Tryz.prog W 0 (λ_=>true) true 25 v d p):
  ∃x:ChV,v= .agg x.cells.toArray/\ChIn W x/\x.ln<=Rows.uptoBulk d:=by
 obtain⟨cA,hf⟩:=h;obtain⟨cs,rfl,X7⟩:=Go.WideShapes.okWide_struct Tryz.underlying25 hval;have hc:Tryz.prog.cellsOf 25=3:=by kernel_rfl
 have Ec:Tryz.prog.cellsOf 5=1:=by kernel_rfl
 have Yr:Tryz.prog.cellsOf 22=1:=by kernel_rfl
 have r9:Tryz.prog.cellsOf 23=1:=by kernel_rfl
 rw[hc] at X7;obtain⟨xs,m,_,hxe,_,gU,Ja⟩:=DataW.trod_struct Tryz.underlying25 hf;obtain⟨v0,v1,v2,hl⟩:=C0 (show cs.toList.length=3 by simpa using X7);obtain⟨y0,y1,y2,rfl⟩:=C0 (show xs.length=3 from gU);have g0:=Ja 0 _ rfl;have g1:=Ja 1 _ rfl;have g2:=Ja 2 _ rfl;simp[Ec,Yr,r9,Value.cells,hl] at g0 g1 g2;obtain⟨n0,e0,_,w0⟩:=DataW.trod_int Tryz.underlying5 g0;simp at e0;obtain⟨f,rfl,q0⟩:=u8_of w0;obtain⟨a1,n1,c1,rfl⟩:=bQK Tryz.underlying22 g1;obtain⟨a2,n2,c2,rfl⟩:=bQK Tryz.underlying23 g2;have gW:=mQx Tryz.underlying22 g1;have hd:d= .agg [y0.1,y1.1,y2.1]:=(Prod.mk.injEq _ _ _ _▸hxe).1;have FU:Rows.uptoBulk y1.1<=Rows.uptoBulk d:=by rw[hd];simp only[Rows.uptoBulk,Rows.uptoBulkAll];omega
 obtain⟨l1,hS,h8⟩:=jQZ ⟨_,g1⟩;obtain⟨l2,hT,WM⟩:=mQu ⟨_,g2⟩;subst e0;exact⟨⟨f,l1,l2,a1,n1,c1,a2,n2,c2⟩,QD Value.agg (Array.ext' hl),⟨q0,hS,h8,hT,WM⟩,X4 gW FU⟩
theorem witness_row_shaped {C:Checked}{os:Os}{f:FuncId}{fn:Func}{s:OpenSpec}{conds:List PathCond}{apart:Bool}{laid:List (String×DataW Unit)}(modest:Bool)(w0:World)(args:Array Value)(hos:w0.os=os)
  (dw:(w0.forCall (λ_ _=>0) ⟨#[],args,[]⟩).Shaped C.prog)
  (XY:Input.okWideB C.prog (w0.forCall (λ_ _=>0) ⟨#[],args,[]⟩) f ⟨#[],args,[]⟩=true)
  (kH:s.preRow enc C.prog fn conds apart laid (w0.forCall (λ_ _=>0) ⟨#[],args,[]⟩).memory args):
  ∃(w:World) (tape:Tape) (i:Input),w.os=os/\(w.forCall tape i).Shaped C.prog/\i.vars=[]/\Input.okWide C.prog (w.forCall tape i) .any w.heap.size f i/\
   s.preRow enc C.prog fn conds apart laid (w.forCall tape i).memory i.args/\({modest:=modest}:Assume).holds C.prog (lone (Frame.enter C.prog f i.args .normal) [] (w.forCall tape i)):=
 ⟨w0,λ_ _=>0,⟨#[],args,[]⟩,hos,dw,(Input.okWide_of_okWideB (base:=0) XY).1,(Input.okWide_of_okWideB XY).2,kH,by
  simp only[Assume.holds];exact⟨by simp,by simp,λ_=>Modest.zero,by simp,by simp⟩⟩
end
end Go.Proofs.YtjabbbcdgmlojaaGreatDoor
