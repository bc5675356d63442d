/-
  What PPatchWeavesLikeReference rests on, part 6 (wip/shake.py).
  Conditions: none.
-/
import Derived.Test.YtjabbbcdgmlojaaGreatDoorQPPatchWeavesLikeReferencee
set_option linter.all false
set_option linter.deprecated false
set_option maxHeartbeats 12800000
namespace Go.Proofs.YtjabbbcdgmlojaaGreatDoor
open Go Go.RowKit
section
theorem jQd {nm:List (List Nat)}{x:DV}{f:List Nat}{es:List EdV}(h:He nm x):tR nm x f es=match W5 nm (fF f) [102] with
  | .error p=>.error p.e
  | .ok g=>if¬(es.all (λe=>JT nm.length e.x.nd e.x.r)=true/\ld nm.length f 0 (es.map EdV.ed)=true)then .error 291
   else match eV nm (oD x) g f (es.map EdV.ed) (QZ f) 0 with
    | none=>.error 291
    | some l=>if 1048576<(Qo l).length then .error 2
     else match W5 nm (fF (Qo l)) [102] with
      | .error p=>if p.e=2 then .error 2 else .ok (Qo l)
      | .ok _=>.ok (Qo l):=by
 unfold tR;rw[if_neg (by rw[h.1,h.2];simp)];by_cases Vs:es.all (λe=>JT nm.length e.x.nd e.x.r)=true
 ·rw[Qf Vs];unfold G9;cases W5 nm (fF f) [102] with
  | error p=>rfl
  | ok g=>
   simp only;by_cases hv:ld nm.length f 0 (es.map EdV.ed)=true
   ·rw[if_neg (by rw[hv];decide),if_neg (λhh=>hh ⟨Vs,hv⟩)];rfl
   ·rw[Qf (by simpa using hv),Qf (λhh=>hv hh.2)]
 ·rw[if_neg Vs];cases W5 nm (fF f) [102] with
  | error p=>rfl
  | ok g=>simp only;rw[Qf (λhh=>Vs hh.1)]
theorem Uv {w:World}{w':World}{t:List Nat}{g:Nat}(hB:Blk w' g 85 (gX ([102],t))):SlS gX 2 w' (some ⟨g,0,none⟩) 1 1 (fF t):=⟨Sl.own (sz:=2) (n:=1) hB (QD _) (by decide) (by simp[gX]),rfl⟩
theorem Uw {t:List Nat}(h:∀b∈t,b<256)(hl:t.length<=9223372036854775807):∀x∈fF t,FileB x:=λx hx=>by
 rw[QF.1 hx];exact⟨(by decide:∀b∈ [102],b<256),h,by show 1<=_;decide,hl⟩
theorem jQe (NA:Option Addr)(nn nc:Nat)(nm:List (List Nat))(x:DV)(f:List Nat)(EA:Option Addr)(en ec:Nat)(es:List EdV)(fx:nm.length<=4)(JX:Jy nm)(Je:∀s∈nm,s.length<=1000)(lK:∀b∈f,b<256)(Kk:f.length<=60000)
  (lQE:∀e∈es, -9223372036854775808<=e.fr/\e.fr<=9223372036854775807/\ -9223372036854775808<=e.to_/\e.to_<=9223372036854775807) (ht:∀e∈es,(∀b∈e.tx,b<256)/\e.tx.length<=1000) (ED:es.length<=10) (w:World)
  (hN:Sl w 1 NA nn nc (Q9 nm)) (hx:SB w x.A x.n x.c x.nd) (hEs:SlS Kv 5 w EA en ec es) (Na:∀e∈es,SB w e.x.A e.x.n e.x.c e.x.nd):
  Fn Tryz.prog 15 [.slice NA nn nc,Xg x.A x.n x.c x.r,.string (Qe f),.slice EA en ec] w (λu w'=>u=jt (tR nm x f es)/\Ext w w'):=by
 have hk:nm.length<=12:=by omega
 have Xf:nm.length=nn:=by have:=hN.len;rw[YO] at this;omega
 refine vX (c:={c15 with cuts:=[]}) Qa Tryz.func15 rfl rfl rfl ?_;refine ZQ (ZB Qa ?_);refine new (λw0 CI lG hB0=>?_);refine new (λw1' Qd Q3 Qh=>?_);refine new (λw3 Qi JF Qw=>?_);obtain⟨w1,hw1⟩:∃w1,w1=w0:=⟨_,rfl⟩
 obtain⟨w2,hw2⟩:∃w2,w2=w1':=⟨_,rfl⟩
 subst hw1;subst hw2;have KU:=Qd.trans Qi;have QQ:=CI.trans KU;have QK:w1.heap.size≠w2.heap.size:=by omega
 refine ZQ (vW Qa rfl rfl rfl rfl ⟨_,_,_,_,rfl,rfl,?_⟩);refine ZQ (ZB Qa ?_);refine Qs (hB0.ext KU) rfl ?_;generalize Y3:tR nm x f es=M;refine XP (Ua NA nn nc nm x hk JX w3 (hN.ext QQ) (hx.ext QQ)) ?_ ?_
 rotate_left
 ·rintro ch w4 ⟨Xa,rfl,Qq⟩;refine aD Qa (asx:= #[]) (cap:= #[.pointer (some ⟨w1.heap.size,0,none⟩),.pointer (some ⟨w2.heap.size,0,none⟩)]) rfl rfl (args:= #[.pointer (some ⟨w1.heap.size,0,none⟩),.pointer (some ⟨w2.heap.size,0,none⟩)]) (by simp) ((tS _ _ 1 w4 _ _ QK ((Qh.ext Qi).ext Qq) (Qw.ext Qq)).mono ?_);rintro e u' rj ⟨v,rfl,df,YH⟩;refine⟨v,rfl,df,?_⟩;refine QC YH.1 rfl ?_;refine QC YH.2.1 rfl ?_;have aS:M= .error 1:=by
     rw[<-Y3];unfold tR;rw[Qf (by
      by_cases h1:Zx nm=true
      ·exact .inr (YM.2 (λh2=>Xa ⟨h1,h2⟩))
      ·exact .inl (by simpa using h1))]
  rw[aS];exact⟨rfl,YH.2.2.ext (QQ.trans Qq) (λi hi=>by rcases hi with rfl | rfl<;>omega)⟩
 rintro _ w4 ⟨Zm,Qq⟩;have XI:=QQ.trans Qq;rw[jQd Zm] at Y3;have sx:=eS Zm.2;have Nv:=(hB0.ext KU).ext Qq;have lX:=(Qh.ext Qi).ext Qq;have fG:=Qw.ext Qq;refine ZQ (ZB Qa ?_);refine Xm Qa [gX ([102],f)] rfl rfl rfl rfl rfl ⟨rfl,rfl,⟨⟩⟩ rfl (λcs h=>by simp only[QF] at h;subst h;rfl) rfl (by decide) (by decide) ?_;intro w5 Qz Kw QL;have J6:=XI.trans Qz;refine call (SO nm NA nn nc (fF f) _ 1 1 [102] w5 (hN.ext J6) JX hk (Uv (w:=w) QL) (Uw lK (by omega)) (by decide) (by decide)) ?_;rintro u6 w6 ⟨Xh,ie⟩;have XD:=J6.trans Xh;have XF:=Qz.trans Xh;cases WU:W5 nm (fF f) [102] with
 | error q=>
  rw[WU] at ie Y3;have hq:=iQ7 WU;subst ie;refine new (λw7 QY WF Q4=>?_);refine new (λw8 Q7 Ve XB=>?_);refine QB (Q4.ext Q7) rfl (sc rfl) (λw9 bt ff Z8=>?_);have X4:Mod (·=w6.heap.size) w8 w9:=oQh bt rfl;have DX:¬w7.heap.size=w6.heap.size:=by omega
  refine QB (XB.mod X4 DX) rfl (sc rfl) (λQE lI nI Jb=>?_);have Zu:Mod (·=w7.heap.size) w9 QE:=oQh lI rfl;have gw:Ext w6 QE:=Zu.ext (X4.ext (QY.trans Q7) (λi hi=>by omega)) (λi hi=>by omega);have rm:=XF.trans gw;refine ZQ (ZB Qa ?_);refine QC Jb rfl ?_;refine XP (YV q.e hq QE) (λ_ _ hf=>hf.elim) ?_;rintro ch _ ⟨rfl,rfl⟩;refine aD Qa (asx:= #[]) (cap:= #[.pointer (some ⟨w1.heap.size,0,none⟩),.pointer (some ⟨w2.heap.size,0,none⟩)]) rfl rfl (args:= #[.pointer (some ⟨w1.heap.size,0,none⟩),.pointer (some ⟨w2.heap.size,0,none⟩)]) (by simp) ((tS _ _ q.e QE _ _ QK (lX.ext rm) (fG.ext rm)).mono ?_);rintro e u' rj ⟨v,rfl,df,YH⟩;refine⟨v,rfl,df,?_⟩;refine QC YH.1 rfl ?_;refine QC YH.2.1 rfl ?_;have aS:M= .error q.e:=Y3.symm;rw[aS];exact⟨rfl,YH.2.2.ext (XI.trans rm) (λi hi=>by rcases hi with rfl | rfl<;>omega)⟩
 | ok g=>
  rw[WU] at ie Y3;simp only at Y3;obtain⟨bQE,SA,scp,SL,rfl,Es⟩:=ie;obtain⟨dv,oQa,oQb,mQK⟩:=TX WU;obtain⟨MX,Nw,bQF⟩:=hQo Es;have hMl:=bQF.len;refine new (λw7 QY WF Q4=>?_);refine new (λw8 Q7 Ve XB=>?_);refine QB (Q4.ext Q7) rfl (sc rfl) (λw9 bt ff Z8=>?_);have X4:Mod (·=w6.heap.size) w8 w9:=oQh bt rfl;have DX:¬w7.heap.size=w6.heap.size:=by omega
  refine QB (XB.mod X4 DX) rfl (sc rfl) (λQE lI nI Jb=>?_);have Zu:Mod (·=w7.heap.size) w9 QE:=oQh lI rfl;have gw:Ext w6 QE:=Zu.ext (X4.ext (QY.trans Q7) (λi hi=>by omega)) (λi hi=>by omega);have Ew:=Z8.mod Zu (λh=>DX h.symm);refine ZQ (ZB Qa ?_);refine QC Jb rfl ?_;refine call (GR QE) ?_;rintro _ _ rfl;have rm:=XF.trans gw;have cY:=XI.trans rm;refine ZQ (ZB Qa ?_);refine Qs (Nv.ext rm) rfl ?_;refine new (λQH Z4 qC ZJ=>?_);have Wm:=cY.trans Z4;have cX:=rm.trans Z4
  let p:EP:=⟨QE.heap.size,NA,nn,nc,nm,x,f,EA,en,ec,es⟩
  have hB:EB p:=⟨fx,JX,Je,lK,Kk,dv,lQE,λe he=>(ht e he).1,λe he=>(ht e he).2,ED⟩
  have K:EK QH p:=⟨ZJ,hN.ext Wm,hEs.ext Wm,λe he=>(Na e he).ext Wm⟩
  refine ZQ (ZB Qa ?_);refine XP (iQO p hB QH K) ?_ ?_
  rotate_left
  ·rintro ch QW ⟨Xa,rfl,Xu⟩;refine aD Qa (asx:= #[]) (cap:= #[.pointer (some ⟨w1.heap.size,0,none⟩),.pointer (some ⟨w2.heap.size,0,none⟩)]) rfl rfl (args:= #[.pointer (some ⟨w1.heap.size,0,none⟩),.pointer (some ⟨w2.heap.size,0,none⟩)]) (by simp) ((tS _ _ 291 QW _ _ QK ((lX.ext cX).ext Xu) ((fG.ext cX).ext Xu)).mono ?_);rintro e u' rj ⟨v,rfl,df,YH⟩;refine⟨v,rfl,df,?_⟩;refine QC YH.1 rfl ?_;refine QC YH.2.1 rfl ?_;have aS:M= .error 291:=by rw[<-Y3,Qf Xa]
   rw[aS];exact⟨rfl,YH.2.2.ext (Wm.trans Xu) (λi hi=>by rcases hi with rfl | rfl<;>omega)⟩
  rintro _ QW ⟨hV,Xu⟩;rw[if_neg (λhh=>hh hV)] at Y3;have lF:=Wm.trans Xu;have lQF:=cX.trans Xu;have K12:=K.ext Xu;refine ZQ (ZB Qa ?_);refine ZQ (ZB Qa ?_);refine ZQ (ZB Qa ?_);refine call (Bw f QW lK (by omega)) ?_;rintro _ XM ⟨PA,pc,rfl,Xq,yz⟩;have jR:=pX dv;have jN:(KP f).length=(QZ f).length:=by rw[jR,ZW]
  rw[jN] at yz;have yz:Sn XM PA (QZ f).length pc (Zs (QZ f)):=by rw[jR] at yz;exact yz
  have iU:=mT f;have JV:=aG dv;have bQG:=np f;have qD:=lF.trans Xq;have uH:=lQF.trans Xq;have K13:=K12.ext Xq;have DY:=Ew.ext (Z4.trans (Xu.trans Xq));have lQG:=Nw.ext (gw.trans (Z4.trans (Xu.trans Xq)));have oQc:(QZ f).length<=60000:=by have:=bQG.1;omega
  have mQL:∀s∈(QZ f),tW s:=λs hs=>by
   exact⟨λb hb=>lK b (Cg _ s hs b hb),by have:=bQG.2 s hs;omega⟩
  have mQM:∀e∈es.map EdV.ed,(∀b∈e.tx,b<256)/\e.tx.length<=1000:=λe he=>by
   obtain⟨e0,he0,rfl⟩:=ZM.1 he;exact ht e0 he0
  have Lu:∀o:BF,(Qu nm.length o).length<=16:=λo=>X2 (Uf _ _) (X2 (Y6 (by decide) fx) (by decide))
  have oQd:g.sg.length<=65536:=bQE.sl;have mQN:∀i,(Qo ((QZ f).take i)).length<=60000:=λi=>by
   have hu:∀a b:List (List Nat),Qo (a++b)=Qo a++Qo b:=λa b=>by simp[Qo]
   have e5:Qo (QZ f)=Qo ((QZ f).take i)++Qo ((QZ f).drop i):=by rw[<-hu,mj]
   have:=QO List.length e5;rw[JV,Qy] at this;omega
  refine loop Qa [46,13,14,15] (λt:Nat×List (List Nat)×Option Addr×Nat×Nat=>[.int .i64 t.1,.slice t.2.2.1 t.2.1.length t.2.2.2.1,.int .i64 (Qo ((QZ f).take t.1)).length,.int .i64 t.2.2.2.2]) (λt w'=>Lo XM w' t.2.2.1 t.2.1.length t.2.2.2.1 t.2.1/\t.1<=(QZ f).length/\ApR nm (oD x) g f (es.map EdV.ed) (QZ f) t.1 t.2.1/\(∀j y,g.sg[j]? =some y->j<t.2.2.2.2->y.at_+(y.t-y.f)<=(Qo ((QZ f).take t.1)).length)/\t.2.1.length<=t.1*16000048/\(∀u∈t.2.1,tW u)/\t.2.2.2.2<=g.sg.length) (λt _=>(QZ f).length-t.1) (0,[],none,0,0) rfl ⟨⟨Ext.refl _,Own.nil _ _ _ _⟩,Xt _,ApR.zero,(λj y _ hj=>Xd hj (Nat.not_lt_zero _)),Xt _,(λu hu=>by cases hu),Xt _⟩ ?_;rintro⟨i,L,LA,lc,seg⟩ X1 ⟨sh,hi,du,Nx,lW,zC,bQH⟩;simp only at sh hi du Nx lW zC bQH;have jI:=sh.e;have qG:=qD.trans jI;have DZ:=uH.trans jI;refine Qt (λc1=>?_) (λc1=>?_)
  ·have QN:i<(QZ f).length:=by simp only at c1;omega
   obtain⟨s,hs⟩:∃s,(QZ f)[i]? =some s:=⟨_,Xb QN⟩
   have dm:=Q2 hs;have ce:=mQL s dm;have hut:=Hm hs;have nQG:=mQN (i+1);have aQ:=Ut (p:=0) hs;rw[aq] at aQ;refine ZF (cs:=Zs (QZ f)) (by rw[jN];exact yz.1.ext jI) (by rw[jN];exact QN) (λad u hA hu QR=>?_);rw[Wd hs] at hu;cases hu;refine load QR ?_;refine call (BK (s++ [10]) X1 (cO ce.1)) ?_;rintro _ JM ⟨rfl,VF⟩;have zB:(Qe (s++ [10])).size=s.length+1:=by rw[XC];simp
   have Ep:(i+1)*16000048=i*16000048+16000048:=by omega
   rw[wL];refine Qt (λd1=>?_) (λd1=>?_)
   ·refine Xm Qa [[Value.string (Qe (s++ [10]))]] rfl rfl rfl rfl rfl ⟨rfl,rfl,⟨⟩⟩ rfl (λcs hh=>by simp only[QF] at hh;subst hh;rfl) rfl (by decide) (by decide) ?_;intro ag Yk kQT Wo;have ur:=VF.trans Yk;have IT:Sl ag 1 (some ⟨JM.heap.size,0,none⟩) 1 1 (Zs [s]):=Sl.own' (n:=1) Wo rfl (by decide);refine Zk (n:=L.length) Qa rfl rfl rfl rfl rfl (by decide) rfl rfl ⟨_,rfl⟩ rfl rfl (sh.ext ur).ow IT (Ku _) (by unfold maxLen;omega) (by show(L.length+1)*16<=_;omega) (sh.ext ur).e.size ?_;intro LA2 LP VH lQH DU nQH;have lQI:=(sh.ext ur).app lQH DU;refine Qj ((Qo ((QZ f).take (i+1))).length:Int) (by show((Qo ((QZ f).take i)).length:Int)+((Qe (s++ [10])).size:Int)=_;rw[zB,hut];omega) (by omega) ?_;refine Qj ((i+1:Nat):Int) (by show((i:Nat):Int)+1=_;omega) (by omega) ?_;refine⟨(i+1,L++ [s],LA2,LP,seg),by simp only[Qy];rfl,⟨by simp only[Qy];exact lQI,QN,du.next hs (by rw[if_neg d1]),λj y hy hj=>by have:=Nx j y hy hj;simp only;omega,by simp only[Qy,mA];omega,λu hu=>?_,bQH⟩,by show(QZ f).length-(i+1)<(QZ f).length-i;omega⟩;rcases XH.1 hu with hu | hu
    ·exact zC u hu
    ·rw[QF.1 hu];exact ce
   ·have Ny:JC s= .txt:=Decidable.not_not.1 d1;obtain⟨kk,σ,y,gJ⟩:=jQa WU aQ Ny;have gJ:SegAt g (Qo ((QZ f).take i)).length kk σ y:=gJ;have mQO:=gJ.cnd;have hσ:σ<g.sg.length:=(Zw.1 gJ.get).1;have hsσ:seg<=σ:=by
     apply Classical.byContradiction;intro hh;have:=Nx σ y gJ.get (by omega);have:=gJ.hi;omega
    have yA:=jI.trans VF;have IS:=DY.ext yA;have lQJ:=lQG.ext yA;have QR:∀{w':World} (_:Ext JM w') (sg:Nat) (z:Sx),MX[sg]? =some z->∃q,g.sg[sg]? =some q/\z.f=q.f/\z.t=q.t/\z.at_=q.at_/\Set1 nm.length z.x.nd z.x.r q.o:=λ_ sg z hz=>by
     have Q5:=(Zw.1 hz).1;obtain⟨q,hq⟩:∃q,g.sg[sg]? =some q:=⟨_,Xb (by omega)⟩
     obtain⟨a1,a2,a3,a4,a5⟩:=bQF.get hq hz;exact⟨q,hq,a1,a2,a4,a5⟩
    refine loop Qa [15] (λsg:Nat=>[.int .i64 sg]) (λsg w'=>Ext JM w'/\sg<=σ) (λsg _=>σ-sg) seg rfl ⟨Ext.refl _,hsσ⟩ ?_;rintro sg ag ⟨Yk,Es⟩;have LT:=IS.ext Yk;have LU:=lQJ.ext Yk;have LV:=Ext.drew ag;obtain⟨q0,Ym⟩:∃q0,g.sg[sg]? =some q0:=⟨_,Xb (by omega)⟩
    have Nz:=mQK.ok q0 (Q2 Ym);have hqf:=Nz.ft;have ve:=Nz.tl;obtain⟨x0,gq,eZ,_⟩:=Nz.src;have oQe:x0.2.length<=60000:=by
     have:q0.fl=0:=by
      have:=(Zw.1 gq).1;simpa [fF] using this
     rw[this] at gq;have:x0=([102],f):=(Option.some.inj gq).symm;rw[this];exact Kk
    have oQf:=bQE.tl;refine Xy Qa (Ext ag) 22 [(true,0),(true,1),(true,2),(true,3),(true,4),(true,5),(true,6),(true,7),(true,8),(true,9),(true,10),(true,11),(true,12),(true,13),(true,14),(true,15),(true,16),(true,17),(true,18),(true,19),(true,20),(true,21)] (by kernel_rfl) LV ?_;refine QJ (v:=.slice SA g.sg.length scp) (λw' Qb=>(LT.ext Qb).cell 1) ?_;refine Zh BI LU.sl rfl (by omega) (λpd z hz hc=>?_);obtain⟨q1,nY,z1,z2,z3,z4⟩:=QR Yk sg z hz;rw[Ym] at nY;cases nY;refine QJ (v:=.int .i64 z.at_) (λw' Qb=>Qb.cell (hc 3 _ rfl)) ?_;refine QJ (v:=.slice SA g.sg.length scp) (λw' Qb=>(LT.ext Qb).cell 1) ?_;refine Zh BI LU.sl rfl (by omega) (λpd2 z' YZ Kl=>?_);rw[hz] at YZ;cases YZ;refine QJ (v:=.int .i64 z.t) (λw' Qb=>Qb.cell (Kl 1 _ rfl)) ?_;refine Qj ((q0.at_+q0.t:Nat):Int) (by omega) (by omega) ?_;refine QJ (v:=.slice SA g.sg.length scp) (λw' Qb=>(LT.ext Qb).cell 1) ?_;refine Zh BI LU.sl rfl (by omega) (λpd3 z' YZ yB=>?_);rw[hz] at YZ;cases YZ;refine QJ (v:=.int .i64 z.f) (λw' Qb=>Qb.cell (yB 0 _ rfl)) ?_;refine Qj ((q0.at_+(q0.t-q0.f):Nat):Int) (by omega) (by omega) ?_;refine Qt (λc3=>?_) (λc3=>?_)
    ·have Q5:sg<σ:=by
      apply Classical.byContradiction;intro hh;have:sg=σ:=by omega
      subst this;rw[gJ.get] at Ym;cases Ym;have:=gJ.hi;simp only at c3;omega
     refine Qj ((sg+1:Nat):Int) (by show((sg:Nat):Int)+1=_;omega) (by omega) ?_;exact⟨sg+1,rfl,⟨Yk.trans LV,by omega⟩,by show σ-(sg+1)<σ-sg;omega⟩
    ·have Q5:sg=σ:=by
      apply Classical.byContradiction;intro hh;have:=gJ.first sg q0 Ym (by omega);simp only at c3;omega
     subst Q5;rw[gJ.get] at Ym;cases Ym;have fD:Qu nm.length (λe=>oD x e&&y.o e)=Qu nm.length (JQ (oD x) (tQ g (Qo ((QZ f).take i)).length)):=by rw[mQO,<-gJ.o]
     have nR:Ext X1 ag.drew:=VF.trans (Yk.trans LV);have LW:=qG.trans nR;have ro:=jI.trans nR;have aQZ:=sh.ext nR;have VQ:=aQZ.ow.rows;generalize ag.drew=VH at*;have Wz:=Ext.drew VH;have z13:=uH.size;have lQK:=Nv.ext (uH.trans ro);have aQ0:Ext w6 VH:=(gw.trans (Z4.trans (Xu.trans Xq))).trans ro;have lQD:=(gw.trans (Z4.trans (Xu.trans Xq))).size;have nx:¬Qk LA w.heap.size:=λh=>by have:=(VQ _ h).1;have:=Nv.lt;omega
     have nS:¬Qk LA w6.heap.size:=λh=>by have:=(VQ _ h).1;have:=DY.lt;omega
     have lQL:=DY.ext ro;have hcL:LA=LA:=rfl;refine jQc Qa [(8,.v (.pointer (some ⟨w1.heap.size,0,none⟩))),(9,.v (.pointer (some ⟨w2.heap.size,0,none⟩)))] rfl (λch w'=>gm nm f (es.map EdV.ed) (Qu nm.length (λe=>oD x e&&y.o e)) (Qo ((QZ f).take i)).length s=none/\ch=js 291/\Ext VH w') (λch bZ hp=>by
      obtain⟨Xa,rfl,rp⟩:=hp;refine aD Qa (asx:= #[]) (cap:= #[.pointer (some ⟨w1.heap.size,0,none⟩),.pointer (some ⟨w2.heap.size,0,none⟩)]) rfl rfl (args:= #[.pointer (some ⟨w1.heap.size,0,none⟩),.pointer (some ⟨w2.heap.size,0,none⟩)]) (by simp) ((tS _ _ 291 bZ _ _ QK (lX.ext (uH.trans (ro.trans rp))) (fG.ext (uH.trans (ro.trans rp)))).mono ?_);rintro e u' rj ⟨v,rfl,df,YH⟩;refine⟨v,rfl,df,?_⟩;refine QC YH.1 rfl ?_;refine QC YH.2.1 rfl ?_;have aS:M= .error 291:=by rw[<-Y3,du.none hs (by rw[Qf Ny,<-fD];exact Xa)]
      rw[aS];exact⟨rfl,YH.2.2.ext (XI.trans (uH.trans (ro.trans rp))) (λi hi=>by rcases hi with rfl | rfl<;>omega)⟩) (Mod (Qk LA) VH) 15 [(true,0),(true,1),(true,2),(true,3),(true,4),(true,5),(true,6),(true,7),(true,8),(true,9),(true,10),(false,11),(false,12),(false,13),(true,14)] (by kernel_rfl) (Mod.of_ext _ Wz) ?_
     refine Xr (vs:=x.cells) rfl (λw' Qb k u hk=>by rw[(lQK.mod Qb nx).cell];exact hk) ?_;refine QJ (v:=.slice SA g.sg.length scp) (λw' Qb=>(lQL.mod Qb nS).cell 1) ?_;refine Zh BI Nw.sl rfl (by omega) (λpd4 z' YZ hc4=>?_);rw[hz] at YZ;cases YZ;have zD:pd4.block<w6.heap.size:=by
      have:=World.block_lt_of_cell? w6 _ (hc4 4 _ rfl)
      rwa [pH] at this
     have npd:¬Qk LA pd4.block:=λh=>by have:=(VQ _ h).1;have:=DY.lt;omega
     refine Xr (vs:=[.slice z.x.A z.x.n z.x.c,.int .i64 z.x.r]) rfl (λw' Qb k u hk=>by
      rw[add_add];refine Qb.cell (aQ0.cell (hc4 (4+k) u (by match k,hk with | 0,hk=>exact hk | 1,hk=>exact hk))) (by rw[pH];exact npd)) ?_
     have K5:Set1 nm.length z.x.nd z.x.r y.o:=z4;have zo:=(Nw.dg z (Q2 hz)).ext aQ0;refine call (nh hk x z.x VH.drew ((hx.ext LW).ext Wz) (zo.ext Wz) sx K5) ?_;rintro _ Vp ⟨QA,Qn,Qc,Qnd,Qr,rfl,oA,lQM,sQ,_⟩;have D0:=Wz.trans oA;refine⟨Mod.of_ext _ D0,?_⟩;have nT:=ro.trans D0;refine XP (iQ5 p hB hV (Qo ((QZ f).take i)).length s aQ ⟨QA,Qn,Qc,Qnd,Qr⟩ _ Vp (K13.ext nT) lQM sQ) ?_ ?_
     rotate_left
     ·rintro ch bZ ⟨Xa,rfl,lH⟩;exact⟨rfl,Xa,rfl,D0.trans lH⟩
     rintro u19 bZ ⟨Lx,o9,A19,OT,rfl,lH,lQN⟩;have rp:=D0.trans lH;refine⟨Mod.of_ext _ rp,?_⟩;have o9:gm nm f (es.map EdV.ed) (Qu nm.length (λe=>oD x e&&y.o e)) (Qo ((QZ f).take i)).length s=some Lx:=o9;rw[fD] at o9;obtain⟨lx1,lx2⟩:=iQ9 JX Je lK Kk mQM (by rw[ZW];exact ED) (Lu _) ce o9;have hmx:(Lx.map (·++ [10])).length=Lx.length:=by rw[ZW]
     have aQ1:i*16000048<=60000*16000048:=Y4 _ (by omega);have LX:=aQZ.ext rp;refine Zk (n:=L.length) Qa rfl rfl rfl rfl rfl (by decide) rfl rfl ⟨_,rfl⟩ rfl rfl LX.ow lQN.1 (Ku _) (by unfold maxLen;omega) (by show(L.length+(Lx.map (·++ [10])).length)*16<=_;omega) LX.e.size ?_;intro LA2 LP VJ CW lQO CY;have lQP:Mod (Qk LA) VH VJ:=(Mod.of_ext (Qk LA) rp).trans CW (λi hi=>.inl hi);refine⟨lQP,?_⟩;have aQ2:=LX.app CW lQO;refine Qj ((Qo ((QZ f).take (i+1))).length:Int) (by show((Qo ((QZ f).take i)).length:Int)+((Qe (s++ [10])).size:Int)=_;rw[zB,hut];omega) (by omega) ?_;refine Qj ((i+1:Nat):Int) (by show((i:Nat):Int)+1=_;omega) (by omega) ?_;refine⟨(i+1,L++Lx,LA2,LP,sg),by simp only[Qy,ZW];rfl,⟨by simp only[Qy];rw[hmx] at aQ2;exact aQ2,QN,du.next hs (by rw[Qf Ny];exact o9),λj y' rI hj=>by have:=gJ.first j y' rI hj;simp only;omega,by simp only[Qy];omega,λu hu=>?_,by simp only;omega⟩,by show(QZ f).length-(i+1)<(QZ f).length-i;omega⟩;rcases XH.1 hu with hu | hu
     ·exact zC u hu
     ·exact lx2 u hu
  ·have QN:i=(QZ f).length:=by simp only at c1;omega
   have rL:=du.fin (by omega);rw[rL] at Y3;simp only at Y3;obtain⟨LA',lc',ya,_,D3⟩:=sh.fin (Ext.refl XM);simp only[Value.slice.injEq,ZW] at ya;obtain⟨rfl,_,rfl⟩:=ya;have aQ1:L.length<=60000*16000048:=X2 lW (Y4 _ (by omega));have hub:(Qo L).length<=1000000000000000000:=by
    have h1:=qg (M:=1000000) (λu hu=>(zC u hu).2);have h2:=Y4 (1000000+1) aQ1;omega
   have D3:Sn X1 LA L.length lc (Zs L):=by rw[ZW] at D3;exact D3
   have hu8:∀b∈Qo L,b<256:=λb hb=>by
    obtain⟨u,hu,hb⟩:=eA.1 hb;exact cO (zC u hu).1 b hb
   refine ZQ (ZB Qa ?_);refine XP (T9 LA L.length lc L X1 D3 hub) ?_ ?_
   rotate_left
   ·rintro ch _ ⟨rC,rfl,rfl⟩;refine aD Qa (asx:= #[]) (cap:= #[.pointer (some ⟨w1.heap.size,0,none⟩),.pointer (some ⟨w2.heap.size,0,none⟩)]) rfl rfl (args:= #[.pointer (some ⟨w1.heap.size,0,none⟩),.pointer (some ⟨w2.heap.size,0,none⟩)]) (by simp) ((tS _ _ 2 X1 _ _ QK (lX.ext DZ) (fG.ext DZ)).mono ?_);rintro e u' rj ⟨v,rfl,df,YH⟩;refine⟨v,rfl,df,?_⟩;refine QC YH.1 rfl ?_;refine QC YH.2.1 rfl ?_;have aS:M= .error 2:=by rw[<-Y3,Qf rC]
    rw[aS];exact⟨rfl,YH.2.2.ext (XI.trans DZ) (λi hi=>by rcases hi with rfl | rfl<;>omega)⟩
   rintro _ JM ⟨J9,rfl,VF⟩;rw[if_neg (by omega)] at Y3;have aQ3:=DZ.trans VF;have DT:=qG.trans VF;refine KM (lX.ext aQ3) (by simp[JY]) (λag aQ4 Wo=>?_);have Wo:Blk ag w1.heap.size 9 [.string (Qe (Qo L))]:=Wo;have LY:Ext w ag:=aQ4.ext DT (λi hi=>by omega);have aQ5:=(fG.ext aQ3).mod aQ4 QK.symm;refine ZQ (ZB Qa ?_);refine QC Wo rfl ?_;refine Xm Qa [gX ([102],Qo L)] rfl rfl rfl rfl rfl ⟨rfl,rfl,⟨⟩⟩ rfl (λcs h=>by simp only[QF] at h;subst h;rfl) rfl (by decide) (by decide) ?_;intro VH um lQs nQ;have LW:=LY.trans um;refine call (SO nm NA nn nc (fF (Qo L)) _ 1 1 [102] VH (hN.ext LW) JX hk (Uv (w:=w) nQ) (Uw hu8 (by omega)) (by decide) (by decide)) ?_;rintro u18 Vp ⟨oA,D4⟩;have aQ6:=um.trans oA;have fin:∀(P:Value) (q:Pl) (Vp:World),True:=λ_ _ _=>trivial
   cases aM:W5 nm (fF (Qo L)) [102] with
   | error q=>
    rw[aM] at D4 Y3;simp only at Y3;subst D4;refine new (λbZ lH aQv xO=>?_);refine new (λVJ rq aQw LZ=>?_);refine QB (xO.ext rq) rfl (sc rfl) (λfq xP lQQ ut=>?_);have jF:Mod (·=Vp.heap.size) VJ fq:=oQh xP rfl;have L0:¬bZ.heap.size=Vp.heap.size:=by omega
    refine QB (LZ.mod jF L0) rfl (sc rfl) (λWp L1 lQR qR=>?_);have L3:Mod (·=bZ.heap.size) fq Wp:=oQh L1 rfl;have L4:Ext Vp Wp:=L3.ext (jF.ext (lH.trans rq) (λi hi=>by omega)) (λi hi=>by omega);have ru:=aQ6.trans L4;have uI:=Wo.ext ru;have EG:=aQ5.ext ru;have D5:=LY.trans ru;refine QC qR rfl ?_;refine XU (λh2=>?_) (λh2=>?_)
    ·have h2:q.e=2:=h2;rw[Qf h2] at Y3;refine XP (YV 2 (by decide) Wp) (λ_ _ hf=>hf.elim) ?_;rintro ch _ ⟨rfl,rfl⟩;refine aD Qa (asx:= #[]) (cap:= #[.pointer (some ⟨w1.heap.size,0,none⟩),.pointer (some ⟨w2.heap.size,0,none⟩)]) rfl rfl (args:= #[.pointer (some ⟨w1.heap.size,0,none⟩),.pointer (some ⟨w2.heap.size,0,none⟩)]) (by simp) ((tS _ _ 2 Wp _ _ QK uI EG).mono ?_);rintro e u' rj ⟨v,rfl,df,YH⟩;refine⟨v,rfl,df,?_⟩;refine QC YH.1 rfl ?_;refine QC YH.2.1 rfl ?_;have aS:M= .error 2:=Y3.symm;rw[aS];exact⟨rfl,YH.2.2.ext D5 (λi hi=>by rcases hi with rfl | rfl<;>omega)⟩
    have h2:q.e≠2:=h2;rw[if_neg h2] at Y3;refine ZB Qa ?_;refine QC uI rfl ?_;refine KM uI (by simp) (λyC yD nL=>?_);refine KM (EG.mod yD QK.symm) (by simp[JY]) (λyE lr lA=>?_);refine ga Qa rfl rfl (.inl rfl) (args:= #[.pointer (some ⟨w1.heap.size,0,none⟩),.pointer (some ⟨w2.heap.size,0,none⟩)]) (by simp) ((Ud _ _ yE).mono ?_);rintro e u' rj ⟨v,rfl,df,rfl⟩;refine⟨v,rfl,df,?_⟩;refine QC (nL.mod lr QK) rfl ?_;refine QC lA rfl ?_;exact⟨by rw[<-Y3];rfl,lr.ext (yD.ext D5 (λj hj=>by omega)) (λj hj=>by omega)⟩
   | ok g2=>
    rw[aM] at D4 Y3;simp only at Y3;obtain⟨_,SA2,sc2,SL2,rfl,_⟩:=D4;refine new (λbZ lH aQv xO=>?_);refine new (λVJ rq aQw LZ=>?_);refine QB (xO.ext rq) rfl (sc rfl) (λfq xP lQQ ut=>?_);have jF:Mod (·=Vp.heap.size) VJ fq:=oQh xP rfl;have L0:¬bZ.heap.size=Vp.heap.size:=by omega
    refine QB (LZ.mod jF L0) rfl (sc rfl) (λWp L1 lQR qR=>?_);have L3:Mod (·=bZ.heap.size) fq Wp:=oQh L1 rfl;have L4:Ext Vp Wp:=L3.ext (jF.ext (lH.trans rq) (λi hi=>by omega)) (λi hi=>by omega);have ru:=aQ6.trans L4;have uI:=Wo.ext ru;have EG:=aQ5.ext ru;have D5:=LY.trans ru;refine QC qR rfl ?_;refine XW (by decide) ?_;refine ZB Qa ?_;refine QC uI rfl ?_;refine KM uI (by simp) (λyC yD nL=>?_);refine KM (EG.mod yD QK.symm) (by simp[JY]) (λyE lr lA=>?_);refine ga Qa rfl rfl (.inl rfl) (args:= #[.pointer (some ⟨w1.heap.size,0,none⟩),.pointer (some ⟨w2.heap.size,0,none⟩)]) (by simp) ((Ud _ _ yE).mono ?_);rintro e u' rj ⟨v,rfl,df,rfl⟩;refine⟨v,rfl,df,?_⟩;refine QC (nL.mod lr QK) rfl ?_;refine QC lA rfl ?_;exact⟨by rw[<-Y3];rfl,lr.ext (yD.ext D5 (λj hj=>by omega)) (λj hj=>by omega)⟩
theorem qj {k:Nat}{x:DV}{o:BF}(s:Set1 k x.nd x.r o):oD x=o:=funext (λe=>s.mean e)
theorem Ho {k v:Nat}(hv:v<k)(hk:k<=12)(w:World):Fn Tryz.prog 34 [.int .i64 v] w (wO w k (λe=>e v)):=by
 refine(Gd (v:Int) w (by omega) (by omega)).mono ?_;rintro u w' ⟨A,n,c,rfl,hE,hb,hr⟩;exact⟨A,n,c,_,_,rfl,hE,hb,GG hv (by omega),hr⟩
theorem Hp {k:Nat}(hk:k<=12)(x:DV){o:BF}(w:World)(h:SB w x.A x.n x.c x.nd)(s:Set1 k x.nd x.r o):Fn Tryz.prog 35 [Xg x.A x.n x.c x.r] w (wO w k (λe=> !o e)):=by
 refine(Gg x.A x.n x.c x.nd x.r w h).mono ?_;have s0:Set1 k [] 0 (λ_=>false):=bO k false;rw[gV hk s s0 3];have c1:Set1 k _ _ (λe=> !o e):=(eL s s0 3).congr (λe=>by simp[Kr]);generalize VV x.nd x.r [] 0 3=D at*;obtain⟨D1,D2⟩:=D;rintro u w' ⟨A,n,c,rfl,hE,hb,hr⟩;exact⟨A,n,c,_,_,rfl,hE,hb,c1,hr⟩
theorem Ux {k:Nat}(hk:k<=12)(x y:DV){o o':BF}(w:World)(h:SB w x.A x.n x.c x.nd)(h':SB w y.A y.n y.c y.nd)(s:Set1 k x.nd x.r o)(s':Set1 k y.nd y.r o'):
  Fn Tryz.prog 36 [Xg x.A x.n x.c x.r,Xg y.A y.n y.c y.r] w (wO w k (λe=>o e&&o' e)):=by
 refine(wC x.A x.n x.c x.nd x.r y.A y.n y.c y.nd y.r w h h').mono ?_;rw[gV hk s s' 0];have c1:Set1 k _ _ (λe=>o e&&o' e):=(eL s s' 0).congr (λe=>by simp[Kr]);generalize VV x.nd x.r y.nd y.r 0=D at*;obtain⟨D1,D2⟩:=D;rintro v w' ⟨PA,q,pc,rfl,hE,hP,hR⟩;exact⟨PA,q,pc,D1,D2,rfl,hE,hP,c1,hR⟩
def jQf (r:Except Int (List Nat))(t:List Nat):Bool:=match r with
 | .ok l=>decide (l=t)
 | .error _=>false
def K4:List (List Nat):=[[65],[66]]
theorem Hq:Jy K4:=λs hs=>by
 simp only[K4,Q0,Jk,Jm] at hs;rcases hs with rfl | rfl<;>exact⟨by decide,by decide⟩
theorem Ht:∀s∈K4,s.length<=1000:=by decide
def Ci (yes no:List Nat):Except Int (List Nat):=eW K4 (λ_=>true) [⟨λe=>e 0,yes⟩,⟨λe=> !e 0,no⟩]
theorem Hu (yes no want:List Nat)(hy:(∀b∈yes,b<256)/\yes.length<=2000)(hn:(∀b∈no,b<256)/\no.length<=2000)(w:World)(Zm:Ci yes no= .ok want):
  Fn Tryz.prog 38 [.string (Qe yes),.string (Qe no),.string (Qe want)] w (λu w'=>u= .bool true/\Ext w w'):=by
 refine Qx (c:={c38 with cuts:=[]}) Qa Tryz.func38 rfl rfl rfl ?_;refine call (Ho (k:=2) (v:=0) (by decide) (by decide) w) ?_;rintro _ w1 ⟨A1,n1,c1,d1,r1,rfl,Qd,uq,s1,_⟩;refine new (λw2 Qg X0 Qv=>?_);refine QB Qv rfl (sc rfl) (λw3 ZZ _ Qw=>?_);have Xq:Ext w1 w3:=XY Qg Qv ZZ;refine Qs Qw rfl ?_;refine call (Hp (k:=2) (by decide) ⟨A1,n1,c1,d1,r1⟩ w3 (uq.ext Xq) s1) ?_;rintro _ w4 ⟨A2,n2,c2,d2,r2,rfl,Qq,hb2,s2,_⟩;refine new (λw5 Qz Kw QL=>?_);refine QB QL rfl (sc rfl) (λw6 Wg _ Xj=>?_);have XF:Ext w4 w6:=XY Qz QL Wg;have Ky:=Qq.trans XF;have XD:=Qd.trans (Xq.trans Ky);have lQS:=Qw.ext Ky;have hd:=Ext.drew w6;have fin:∀(NA:Option Addr) (nc:Nat) (PA:Option Addr) (pc:Nat) (w':World),Ext w6 w'->Sl w' 1 NA 2 nc (Q9 K4)->SlS Zt 3 w' PA 2 pc [(⟨A1,n1,c1,d1,r1⟩,yes),(⟨A2,n2,c2,d2,r2⟩,no)]->
   Fn Tryz.prog 24 [.slice NA 2 nc,Xg none 0 0 1,.slice PA 2 pc] w' (λu KI=>u= .tuple #[.string (Qe want),.int .i64 0]/\Ext w' KI):=λNA nc PA pc w' eu NC ND=>by
  refine(tT NA 2 nc K4 ⟨none,0,0,[],1⟩ PA 2 pc _ (by decide) Hq Ht (λq hq=>by
   simp only[Q0,Jk,Jm] at hq;rcases hq with rfl | rfl
   ·exact hy
   ·exact hn) w' NC (SlS.nil _) ND (λq hq=>by
   simp only[Q0,Jk,Jm] at hq;rcases hq with rfl | rfl
   ·exact uq.ext (Xq.trans (Ky.trans eu))
   ·exact hb2.ext (XF.trans eu))).mono ?_
  rintro u KI ⟨rfl,NE⟩;refine⟨?_,NE⟩;have sc:Set1 2 [] 1 (λ_=>true):=bO 2 true;rw[Hd (nm:=K4) (x:=⟨none,0,0,[],1⟩) (by decide) (jp (x:=⟨none,0,0,[],1⟩) (by decide) sc).1 (λq hq=>by
   simp only[Q0,Jk,Jm] at hq;rcases hq with rfl | rfl
   ·exact(jp (by decide) s1).1
   ·exact(jp (by decide) s2).1)]
  have e0:oD ⟨none,0,0,[],1⟩=λ_=>true:=qj (x:=⟨none,0,0,[],1⟩) sc
  have e1:oD ⟨A1,n1,c1,d1,r1⟩=λe=>e 0:=qj (x:=⟨A1,n1,c1,d1,r1⟩) s1
  have e2:oD ⟨A2,n2,c2,d2,r2⟩=λe=> !e 0:=qj (x:=⟨A2,n2,c2,d2,r2⟩) s2
  rw[e0];have e3:XN [((⟨A1,n1,c1,d1,r1⟩:DV),yes),(⟨A2,n2,c2,d2,r2⟩,no)]=[⟨λe=>e 0,yes⟩,⟨λe=> !e 0,no⟩]:=by
   simp only[XN,WA,List.map_nil,e1,e2]
  rw[e3];have:eW K4 (λ_=>true) [⟨λe=>e 0,yes⟩,⟨λe=> !e 0,no⟩]= .ok want:=Zm;rw[this]<;>rfl
 refine GT Qa (Ext w6) 15 (.quiet 2 (.quiet 3 (.quiet 4 (.quiet 5 (.quiet 6 (.quiet 7 (.fork 0 (.fork 1 (.fork 8 (.fork 9 (.quiet 10 (.quiet 11 (.quiet 12 (.quiet 13 (.quiet 14 .done))))) .skip) .skip) (.fork 8 (.fork 1 (.fork 9 (.quiet 10 (.quiet 11 (.quiet 12 (.quiet 13 (.quiet 14 .done))))) .skip) .skip) .skip)) (.fork 1 (.fork 0 (.fork 8 (.fork 9 (.quiet 10 (.quiet 11 (.quiet 12 (.quiet 13 (.quiet 14 .done))))) .skip) .skip) (.fork 8 (.fork 0 (.fork 9 (.quiet 10 (.quiet 11 (.quiet 12 (.quiet 13 (.quiet 14 .done))))) .skip) .skip) .skip)) (.fork 8 (.fork 0 (.fork 1 (.fork 9 (.quiet 10 (.quiet 11 (.quiet 12 (.quiet 13 (.quiet 14 .done))))) .skip) .skip) (.fork 1 (.fork 0 (.fork 9 (.quiet 10 (.quiet 11 (.quiet 12 (.quiet 13 (.quiet 14 .done))))) .skip) .skip) .skip)) .skip))))))))) (by kernel_rfl) hd ?_;refine Xr (vs:=[.slice A1 n1 c1,.int .i64 r1]) rfl (λw' Qb k u hk=>by rw[(lQS.ext Qb).cell];exact hk) ?_;refine Xr (vs:=[.slice A2 n2 c2,.int .i64 r2]) rfl (λw' Qb k u hk=>by rw[(Xj.ext Qb).cell];exact hk) ?_;refine⟨?_,?_,?_,trivial⟩
 ·refine Xm Qa [[Value.string (Qe [65])],[Value.string (Qe [66])]] rfl rfl rfl rfl rfl ⟨rfl,rfl,rfl,rfl,⟨⟩⟩ rfl (λcs h=>by simp only[Q0,Jk,Jm] at h;rcases h with rfl | rfl<;>rfl) rfl (by decide) (by decide) ?_;intro v1 g1 _ rv;have f1:=hd.trans g1;refine⟨f1,?_⟩;refine⟨?_,?_,trivial⟩
  ·refine call (cH true _) ?_;rintro _ v2 ⟨rfl,g2⟩;have f2:=f1.trans g2;refine⟨f2,?_⟩;refine⟨?_,trivial⟩
   ·refine Xm Qa [Zt (⟨A1,n1,c1,d1,r1⟩,yes),Zt (⟨A2,n2,c2,d2,r2⟩,no)] rfl rfl rfl rfl rfl ⟨rfl,rfl,rfl,rfl,⟨⟩⟩ rfl (λcs h=>by simp only[Q0,Jk,Jm] at h;rcases h with rfl | rfl<;>rfl) rfl (by decide) (by decide) ?_;intro v3 g3 _ d4;have f3:=f2.trans g3;refine⟨f3,?_⟩;refine⟨?_,trivial⟩;refine call (fin _ 2 _ 2 v3 f3 (Sl.own' (n:=2) (rv.ext (g2.trans g3)) rfl (by decide)) ⟨Sl.own (sz:=3) (n:=2) d4 (QD _) (by decide) (by simp[Zt]),rfl⟩) ?_;rintro _ w9 ⟨rfl,Xo⟩;refine⟨f3.trans Xo,?_⟩;refine Xe rfl ?_;exact⟨QO Value.bool (XT rfl),XD.trans (f3.trans Xo)⟩
  ·refine Xm Qa [Zt (⟨A1,n1,c1,d1,r1⟩,yes),Zt (⟨A2,n2,c2,d2,r2⟩,no)] rfl rfl rfl rfl rfl ⟨rfl,rfl,rfl,rfl,⟨⟩⟩ rfl (λcs h=>by simp only[Q0,Jk,Jm] at h;rcases h with rfl | rfl<;>rfl) rfl (by decide) (by decide) ?_;intro v2 g2 _ L5;have f2:=f1.trans g2;refine⟨f2,?_⟩;refine⟨?_,trivial⟩
   ·refine call (cH true _) ?_;rintro _ v3 ⟨rfl,g3⟩;have f3:=f2.trans g3;refine⟨f3,?_⟩;refine⟨?_,trivial⟩;refine call (fin _ 2 _ 2 v3 f3 (Sl.own' (n:=2) (rv.ext (g2.trans g3)) rfl (by decide)) ⟨Sl.own (sz:=3) (n:=2) (L5.ext g3) (QD _) (by decide) (by simp[Zt]),rfl⟩) ?_;rintro _ w9 ⟨rfl,Xo⟩;refine⟨f3.trans Xo,?_⟩;refine Xe rfl ?_;exact⟨QO Value.bool (XT rfl),XD.trans (f3.trans Xo)⟩
 ·refine call (cH true _) ?_;rintro _ v1 ⟨rfl,g1⟩;have f1:=hd.trans g1;refine⟨f1,?_⟩;refine⟨?_,?_,trivial⟩
  ·refine Xm Qa [[Value.string (Qe [65])],[Value.string (Qe [66])]] rfl rfl rfl rfl rfl ⟨rfl,rfl,rfl,rfl,⟨⟩⟩ rfl (λcs h=>by simp only[Q0,Jk,Jm] at h;rcases h with rfl | rfl<;>rfl) rfl (by decide) (by decide) ?_;intro v2 g2 _ rx;have f2:=f1.trans g2;refine⟨f2,?_⟩;refine⟨?_,trivial⟩
   ·refine Xm Qa [Zt (⟨A1,n1,c1,d1,r1⟩,yes),Zt (⟨A2,n2,c2,d2,r2⟩,no)] rfl rfl rfl rfl rfl ⟨rfl,rfl,rfl,rfl,⟨⟩⟩ rfl (λcs h=>by simp only[Q0,Jk,Jm] at h;rcases h with rfl | rfl<;>rfl) rfl (by decide) (by decide) ?_;intro v3 g3 _ d4;have f3:=f2.trans g3;refine⟨f3,?_⟩;refine⟨?_,trivial⟩;refine call (fin _ 2 _ 2 v3 f3 (Sl.own' (n:=2) (rx.ext g3) rfl (by decide)) ⟨Sl.own (sz:=3) (n:=2) d4 (QD _) (by decide) (by simp[Zt]),rfl⟩) ?_;rintro _ w9 ⟨rfl,Xo⟩;refine⟨f3.trans Xo,?_⟩;refine Xe rfl ?_;exact⟨QO Value.bool (XT rfl),XD.trans (f3.trans Xo)⟩
  ·refine Xm Qa [Zt (⟨A1,n1,c1,d1,r1⟩,yes),Zt (⟨A2,n2,c2,d2,r2⟩,no)] rfl rfl rfl rfl rfl ⟨rfl,rfl,rfl,rfl,⟨⟩⟩ rfl (λcs h=>by simp only[Q0,Jk,Jm] at h;rcases h with rfl | rfl<;>rfl) rfl (by decide) (by decide) ?_;intro v2 g2 _ L5;have f2:=f1.trans g2;refine⟨f2,?_⟩;refine⟨?_,trivial⟩
   ·refine Xm Qa [[Value.string (Qe [65])],[Value.string (Qe [66])]] rfl rfl rfl rfl rfl ⟨rfl,rfl,rfl,rfl,⟨⟩⟩ rfl (λcs h=>by simp only[Q0,Jk,Jm] at h;rcases h with rfl | rfl<;>rfl) rfl (by decide) (by decide) ?_;intro v3 g3 _ gv;have f3:=f2.trans g3;refine⟨f3,?_⟩;refine⟨?_,trivial⟩;refine call (fin _ 2 _ 2 v3 f3 (Sl.own' (n:=2) gv rfl (by decide)) ⟨Sl.own (sz:=3) (n:=2) (L5.ext g3) (QD _) (by decide) (by simp[Zt]),rfl⟩) ?_;rintro _ w9 ⟨rfl,Xo⟩;refine⟨f3.trans Xo,?_⟩;refine Xe rfl ?_;exact⟨QO Value.bool (XT rfl),XD.trans (f3.trans Xo)⟩
 ·refine Xm Qa [Zt (⟨A1,n1,c1,d1,r1⟩,yes),Zt (⟨A2,n2,c2,d2,r2⟩,no)] rfl rfl rfl rfl rfl ⟨rfl,rfl,rfl,rfl,⟨⟩⟩ rfl (λcs h=>by simp only[Q0,Jk,Jm] at h;rcases h with rfl | rfl<;>rfl) rfl (by decide) (by decide) ?_;intro v1 g1 _ hP1;have f1:=hd.trans g1;refine⟨f1,?_⟩;refine⟨?_,?_,trivial⟩
  ·refine Xm Qa [[Value.string (Qe [65])],[Value.string (Qe [66])]] rfl rfl rfl rfl rfl ⟨rfl,rfl,rfl,rfl,⟨⟩⟩ rfl (λcs h=>by simp only[Q0,Jk,Jm] at h;rcases h with rfl | rfl<;>rfl) rfl (by decide) (by decide) ?_;intro v2 g2 _ rx;have f2:=f1.trans g2;refine⟨f2,?_⟩;refine⟨?_,trivial⟩
   ·refine call (cH true _) ?_;rintro _ v3 ⟨rfl,g3⟩;have f3:=f2.trans g3;refine⟨f3,?_⟩;refine⟨?_,trivial⟩;refine call (fin _ 2 _ 2 v3 f3 (Sl.own' (n:=2) (rx.ext g3) rfl (by decide)) ⟨Sl.own (sz:=3) (n:=2) (hP1.ext (g2.trans g3)) (QD _) (by decide) (by simp[Zt]),rfl⟩) ?_;rintro _ w9 ⟨rfl,Xo⟩;refine⟨f3.trans Xo,?_⟩;refine Xe rfl ?_;exact⟨QO Value.bool (XT rfl),XD.trans (f3.trans Xo)⟩
  ·refine call (cH true _) ?_;rintro _ v2 ⟨rfl,g2⟩;have f2:=f1.trans g2;refine⟨f2,?_⟩;refine⟨?_,trivial⟩
   ·refine Xm Qa [[Value.string (Qe [65])],[Value.string (Qe [66])]] rfl rfl rfl rfl rfl ⟨rfl,rfl,rfl,rfl,⟨⟩⟩ rfl (λcs h=>by simp only[Q0,Jk,Jm] at h;rcases h with rfl | rfl<;>rfl) rfl (by decide) (by decide) ?_;intro v3 g3 _ gv;have f3:=f2.trans g3;refine⟨f3,?_⟩;refine⟨?_,trivial⟩;refine call (fin _ 2 _ 2 v3 f3 (Sl.own' (n:=2) gv rfl (by decide)) ⟨Sl.own (sz:=3) (n:=2) (hP1.ext (g2.trans g3)) (QD _) (by decide) (by simp[Zt]),rfl⟩) ?_;rintro _ w9 ⟨rfl,Xo⟩;refine⟨f3.trans Xo,?_⟩;refine Xe rfl ?_;exact⟨QO Value.bool (XT rfl),XD.trans (f3.trans Xo)⟩
def qk (file:List Nat)(e:Ed):Except Int (List Nat):=G9 K4 (λ_=>true) file [e]
theorem Uy (file:List Nat)(e:EdV){o:BF}(hf:(∀b∈file,b<256)/\file.length<=60000)(dS: -9223372036854775808<=e.fr/\e.fr<=9223372036854775807/\ -9223372036854775808<=e.to_/\e.to_<=9223372036854775807)(ht:(∀b∈e.tx,b<256)/\e.tx.length<=1000)(se:Set1 2 e.x.nd e.x.r o)
  (NA:Option Addr) (nc:Nat) (EA:Option Addr) (ec:Nat) (w:World) (hb:SB w e.x.A e.x.n e.x.c e.x.nd) (hN:Sl w 1 NA 2 nc (Q9 K4)) (hE:SlS Kv 5 w EA 1 ec [e]):
  Fn Tryz.prog 15 [.slice NA 2 nc,Xg none 0 0 1,.string (Qe file),.slice EA 1 ec] w (λu w'=>u=jt (qk file ⟨e.fr,e.to_,e.tx,o⟩)/\Ext w w'):=by
 refine(jQe NA 2 nc K4 ⟨none,0,0,[],1⟩ file EA 1 ec [e] (by decide) Hq Ht hf.1 hf.2 (λb hb=>by rw[QF.1 hb];exact dS) (λb hb=>by rw[QF.1 hb];exact ht) (by show 1<=10;decide) w hN (SlS.nil _) hE (λb hb2=>by rw[QF.1 hb2];exact hb)).mono ?_;rintro u w' ⟨rfl,eu⟩;refine⟨?_,eu⟩;have sc:Set1 2 [] 1 (λ_=>true):=bO 2 true;have e0:oD ⟨none,0,0,[],1⟩=λ_=>true:=qj (x:=⟨none,0,0,[],1⟩) sc
 have o1:JT K4.length [] 1=true:=(jp (x:=⟨none,0,0,[],1⟩) (n:=2) (by decide) sc).1;have o2:JT K4.length e.x.nd e.x.r=true:=(jp (n:=2) (by decide) se).1;have e3: [e].map EdV.ed=[⟨e.fr,e.to_,e.tx,o⟩]:=by
  show [(⟨e.fr,e.to_,e.tx,oD e.x⟩:Ed)]=_;rw[qj se]
 unfold tR qk;rw[if_neg (by rw[show Zx K4=true from by decide];show¬(true=false∨JT K4.length [] 1=false);rw[o1];decide),Qf (by simp only[vl,List.all_nil,E0];exact o2),e0,e3]
theorem Hv (file want:List Nat)(e:EdV){o:BF}(hf:(∀b∈file,b<256)/\file.length<=60000)(dS: -9223372036854775808<=e.fr/\e.fr<=9223372036854775807/\ -9223372036854775808<=e.to_/\e.to_<=9223372036854775807)(ht:(∀b∈e.tx,b<256)/\e.tx.length<=1000)(se:Set1 2 e.x.nd e.x.r o)(w:World)(hb:SB w e.x.A e.x.n e.x.c e.x.nd)(Zm:qk file ⟨e.fr,e.to_,e.tx,o⟩= .ok want):
  Fn Tryz.prog 39 [.string (Qe file),.agg (Kv e).toArray,.string (Qe want)] w (λu w'=>u= .bool true/\Ext w w'):=by
 refine Qx (c:={c39 with cuts:=[]}) Qa Tryz.func39 rfl rfl rfl ?_;refine new (λw6 XD fa Xj=>?_);have hd:=Ext.drew w6;have fin:∀(NA:Option Addr) (nc:Nat) (EA:Option Addr) (ec:Nat) (w':World),Ext w6 w'->Sl w' 1 NA 2 nc (Q9 K4)->SlS Kv 5 w' EA 1 ec [e]->
   Fn Tryz.prog 15 [.slice NA 2 nc,Xg none 0 0 1,.string (Qe file),.slice EA 1 ec] w' (λu KI=>u= .tuple #[.string (Qe want),.int .i64 0]/\Ext w' KI):=λNA nc EA ec w' eu NC ND=>by
  refine(Uy file e hf dS ht se NA nc EA ec w' (hb.ext (XD.trans eu)) NC ND).mono ?_;rintro u KI ⟨rfl,NE⟩;rw[Zm];exact⟨rfl,NE⟩
 refine GT Qa (Ext w6) 11 (.quiet 2 (.quiet 3 (.fork 0 (.fork 1 (.fork 4 (.fork 5 (.quiet 6 (.quiet 7 (.quiet 8 (.quiet 9 (.quiet 10 .done))))) .skip) .skip) (.fork 4 (.fork 1 (.fork 5 (.quiet 6 (.quiet 7 (.quiet 8 (.quiet 9 (.quiet 10 .done))))) .skip) .skip) .skip)) (.fork 1 (.fork 0 (.fork 4 (.fork 5 (.quiet 6 (.quiet 7 (.quiet 8 (.quiet 9 (.quiet 10 .done))))) .skip) .skip) (.fork 4 (.fork 0 (.fork 5 (.quiet 6 (.quiet 7 (.quiet 8 (.quiet 9 (.quiet 10 .done))))) .skip) .skip) .skip)) (.fork 4 (.fork 0 (.fork 1 (.fork 5 (.quiet 6 (.quiet 7 (.quiet 8 (.quiet 9 (.quiet 10 .done))))) .skip) .skip) (.fork 1 (.fork 0 (.fork 5 (.quiet 6 (.quiet 7 (.quiet 8 (.quiet 9 (.quiet 10 .done))))) .skip) .skip) .skip)) .skip))))) (by kernel_rfl) hd ?_;refine Xr (vs:=Kv e) rfl (λw' Qb k u hk=>by rw[(Xj.ext Qb).cell];exact hk) ?_;refine⟨?_,?_,?_,trivial⟩
 ·refine Xm Qa [[Value.string (Qe [65])],[Value.string (Qe [66])]] rfl rfl rfl rfl rfl ⟨rfl,rfl,rfl,rfl,⟨⟩⟩ rfl (λcs h=>by simp only[Q0,Jk,Jm] at h;rcases h with rfl | rfl<;>rfl) rfl (by decide) (by decide) ?_;intro v1 g1 _ rv;have f1:=hd.trans g1;refine⟨f1,?_⟩;refine⟨?_,?_,trivial⟩
  ·refine call (cH true _) ?_;rintro _ v2 ⟨rfl,g2⟩;have f2:=f1.trans g2;refine⟨f2,?_⟩;refine⟨?_,trivial⟩
   ·refine Xm Qa [Kv e] rfl rfl rfl rfl rfl ⟨rfl,rfl,⟨⟩⟩ rfl (λcs h=>by simp only[QF] at h;subst h;rfl) rfl (by decide) (by decide) ?_;intro v3 g3 _ Qi;have f3:=f2.trans g3;refine⟨f3,?_⟩;refine⟨?_,trivial⟩;refine call (fin _ 2 _ 1 v3 f3 (Sl.own' (n:=2) (rv.ext (g2.trans g3)) rfl (by decide)) ⟨Sl.own (sz:=5) (n:=1) Qi (QD _) (by decide) (by simp[Kv]),rfl⟩) ?_;rintro _ w9 ⟨rfl,Xo⟩;refine⟨f3.trans Xo,?_⟩;refine Xe rfl ?_;exact⟨QO Value.bool (XT rfl),XD.trans (f3.trans Xo)⟩
  ·refine Xm Qa [Kv e] rfl rfl rfl rfl rfl ⟨rfl,rfl,⟨⟩⟩ rfl (λcs h=>by simp only[QF] at h;subst h;rfl) rfl (by decide) (by decide) ?_;intro v2 g2 _ Qg;have f2:=f1.trans g2;refine⟨f2,?_⟩;refine⟨?_,trivial⟩
   ·refine call (cH true _) ?_;rintro _ v3 ⟨rfl,g3⟩;have f3:=f2.trans g3;refine⟨f3,?_⟩;refine⟨?_,trivial⟩;refine call (fin _ 2 _ 1 v3 f3 (Sl.own' (n:=2) (rv.ext (g2.trans g3)) rfl (by decide)) ⟨Sl.own (sz:=5) (n:=1) (Qg.ext g3) (QD _) (by decide) (by simp[Kv]),rfl⟩) ?_;rintro _ w9 ⟨rfl,Xo⟩;refine⟨f3.trans Xo,?_⟩;refine Xe rfl ?_;exact⟨QO Value.bool (XT rfl),XD.trans (f3.trans Xo)⟩
 ·refine call (cH true _) ?_;rintro _ v1 ⟨rfl,g1⟩;have f1:=hd.trans g1;refine⟨f1,?_⟩;refine⟨?_,?_,trivial⟩
  ·refine Xm Qa [[Value.string (Qe [65])],[Value.string (Qe [66])]] rfl rfl rfl rfl rfl ⟨rfl,rfl,rfl,rfl,⟨⟩⟩ rfl (λcs h=>by simp only[Q0,Jk,Jm] at h;rcases h with rfl | rfl<;>rfl) rfl (by decide) (by decide) ?_;intro v2 g2 _ rx;have f2:=f1.trans g2;refine⟨f2,?_⟩;refine⟨?_,trivial⟩
   ·refine Xm Qa [Kv e] rfl rfl rfl rfl rfl ⟨rfl,rfl,⟨⟩⟩ rfl (λcs h=>by simp only[QF] at h;subst h;rfl) rfl (by decide) (by decide) ?_;intro v3 g3 _ Qi;have f3:=f2.trans g3;refine⟨f3,?_⟩;refine⟨?_,trivial⟩;refine call (fin _ 2 _ 1 v3 f3 (Sl.own' (n:=2) (rx.ext g3) rfl (by decide)) ⟨Sl.own (sz:=5) (n:=1) Qi (QD _) (by decide) (by simp[Kv]),rfl⟩) ?_;rintro _ w9 ⟨rfl,Xo⟩;refine⟨f3.trans Xo,?_⟩;refine Xe rfl ?_;exact⟨QO Value.bool (XT rfl),XD.trans (f3.trans Xo)⟩
  ·refine Xm Qa [Kv e] rfl rfl rfl rfl rfl ⟨rfl,rfl,⟨⟩⟩ rfl (λcs h=>by simp only[QF] at h;subst h;rfl) rfl (by decide) (by decide) ?_;intro v2 g2 _ Qg;have f2:=f1.trans g2;refine⟨f2,?_⟩;refine⟨?_,trivial⟩
   ·refine Xm Qa [[Value.string (Qe [65])],[Value.string (Qe [66])]] rfl rfl rfl rfl rfl ⟨rfl,rfl,rfl,rfl,⟨⟩⟩ rfl (λcs h=>by simp only[Q0,Jk,Jm] at h;rcases h with rfl | rfl<;>rfl) rfl (by decide) (by decide) ?_;intro v3 g3 _ gv;have f3:=f2.trans g3;refine⟨f3,?_⟩;refine⟨?_,trivial⟩;refine call (fin _ 2 _ 1 v3 f3 (Sl.own' (n:=2) gv rfl (by decide)) ⟨Sl.own (sz:=5) (n:=1) (Qg.ext g3) (QD _) (by decide) (by simp[Kv]),rfl⟩) ?_;rintro _ w9 ⟨rfl,Xo⟩;refine⟨f3.trans Xo,?_⟩;refine Xe rfl ?_;exact⟨QO Value.bool (XT rfl),XD.trans (f3.trans Xo)⟩
 ·refine Xm Qa [Kv e] rfl rfl rfl rfl rfl ⟨rfl,rfl,⟨⟩⟩ rfl (λcs h=>by simp only[QF] at h;subst h;rfl) rfl (by decide) (by decide) ?_;intro v1 g1 _ Qd;have f1:=hd.trans g1;refine⟨f1,?_⟩;refine⟨?_,?_,trivial⟩
  ·refine Xm Qa [[Value.string (Qe [65])],[Value.string (Qe [66])]] rfl rfl rfl rfl rfl ⟨rfl,rfl,rfl,rfl,⟨⟩⟩ rfl (λcs h=>by simp only[Q0,Jk,Jm] at h;rcases h with rfl | rfl<;>rfl) rfl (by decide) (by decide) ?_;intro v2 g2 _ rx;have f2:=f1.trans g2;refine⟨f2,?_⟩;refine⟨?_,trivial⟩
   ·refine call (cH true _) ?_;rintro _ v3 ⟨rfl,g3⟩;have f3:=f2.trans g3;refine⟨f3,?_⟩;refine⟨?_,trivial⟩;refine call (fin _ 2 _ 1 v3 f3 (Sl.own' (n:=2) (rx.ext g3) rfl (by decide)) ⟨Sl.own (sz:=5) (n:=1) (Qd.ext (g2.trans g3)) (QD _) (by decide) (by simp[Kv]),rfl⟩) ?_;rintro _ w9 ⟨rfl,Xo⟩;refine⟨f3.trans Xo,?_⟩;refine Xe rfl ?_;exact⟨QO Value.bool (XT rfl),XD.trans (f3.trans Xo)⟩
  ·refine call (cH true _) ?_;rintro _ v2 ⟨rfl,g2⟩;have f2:=f1.trans g2;refine⟨f2,?_⟩;refine⟨?_,trivial⟩
   ·refine Xm Qa [[Value.string (Qe [65])],[Value.string (Qe [66])]] rfl rfl rfl rfl rfl ⟨rfl,rfl,rfl,rfl,⟨⟩⟩ rfl (λcs h=>by simp only[Q0,Jk,Jm] at h;rcases h with rfl | rfl<;>rfl) rfl (by decide) (by decide) ?_;intro v3 g3 _ gv;have f3:=f2.trans g3;refine⟨f3,?_⟩;refine⟨?_,trivial⟩;refine call (fin _ 2 _ 1 v3 f3 (Sl.own' (n:=2) gv rfl (by decide)) ⟨Sl.own (sz:=5) (n:=1) (Qd.ext (g2.trans g3)) (QD _) (by decide) (by simp[Kv]),rfl⟩) ?_;rintro _ w9 ⟨rfl,Xo⟩;refine⟨f3.trans Xo,?_⟩;refine Xe rfl ?_;exact⟨QO Value.bool (XT rfl),XD.trans (f3.trans Xo)⟩
def jQg (r:Except Int (List Nat))(k:Int):Bool:=match r with
 | .ok _=>false
 | .error e=>decide (e=k)
theorem nu {r:Except Int (List Nat)}{t:List Nat}(h:jQf r t=true):r= .ok t:=by
 cases r with
 | ok l=>rw[eB h]
 | error e=>cases h
theorem Hw {r:Except Int (List Nat)}{k:Int}(h:jQg r k=true):r= .error k:=by
 cases r with
 | ok l=>cases h
 | error e=>rw[eB h]
theorem Uz (x:DV){o:BF}(Q:List (DV×Pr))(NA:Option Addr)(nc:Nat)(PA:Option Addr)(pn pc:Nat)(w:World)(hN:Sl w 1 NA 2 nc (Q9 K4))(hx:SB w x.A x.n x.c x.nd)(sx:Set1 2 x.nd x.r o)(hP:SlS Jh 3 w PA pn pc Q)
  (hQ:∀q∈Q,SB w q.1.A q.1.n q.1.c q.1.nd/\Set1 2 q.1.nd q.1.r q.2.o/\(∀b∈q.2.t,b<256)/\q.2.t.length<=2000):
  Fn Tryz.prog 24 [.slice NA 2 nc,Xg x.A x.n x.c x.r,.slice PA pn pc] w (λu w'=>u=jt (eW K4 o (Q.map (·.2)))/\Ext w w'):=by
 refine(tT NA 2 nc K4 x PA pn pc (Q.map (λq=>(q.1,q.2.t))) (by decide) Hq Ht (λq hq=>by
  obtain⟨q0,h0,rfl⟩:=ZM.1 hq;exact(hQ q0 h0).2.2) w hN hx ⟨by rw[<-Cf];exact hP.1,by rw[ZW];exact hP.2⟩ (λq hq=>by
  obtain⟨q0,h0,rfl⟩:=ZM.1 hq;exact(hQ q0 h0).1)).mono ?_
 rintro u w' ⟨rfl,hE⟩;refine⟨?_,hE⟩;rw[Hd (nm:=K4) (by decide) (jp (n:=2) (by decide) sx).1 (λq hq=>by
  obtain⟨q0,h0,rfl⟩:=ZM.1 hq;exact(jp (n:=2) (by decide) (hQ q0 h0).2.1).1),qj sx,Ce (λq hq=>(hQ q hq).2.1)]
theorem UB (x:DV){o:BF}(Q:List (DV×Pr))(NA:Option Addr)(nc:Nat)(PA:Option Addr)(pn pc:Nat)(w:World)(hN:Sl w 1 NA 2 nc (Q9 K4))(hx:SB w x.A x.n x.c x.nd)(sx:Set1 2 x.nd x.r o)(hP:SlS Jh 3 w PA pn pc Q)
  (hQ:∀q∈Q,SB w q.1.A q.1.n q.1.c q.1.nd/\Set1 2 q.1.nd q.1.r q.2.o/\(∀b∈q.2.t,b<256)/\q.2.t.length<=2000) {qs:List Pr} (iV:Q.map (·.2)=qs) {t:List Nat} (hr:eW K4 o qs= .ok t):
  Fn Tryz.prog 24 [.slice NA 2 nc,Xg x.A x.n x.c x.r,.slice PA pn pc] w (λu w'=>u= .tuple #[.string (Qe t),.int .i64 0]/\Ext w w'):=by
 refine(Uz x Q NA nc PA pn pc w hN hx sx hP hQ).mono ?_;rintro u w' ⟨rfl,hE⟩;exact⟨by rw[iV,hr];rfl,hE⟩
theorem UC (x:DV){o:BF}(Q:List (DV×Pr))(NA:Option Addr)(nc:Nat)(PA:Option Addr)(pn pc:Nat)(w:World)(hN:Sl w 1 NA 2 nc (Q9 K4))(hx:SB w x.A x.n x.c x.nd)(sx:Set1 2 x.nd x.r o)(hP:SlS Jh 3 w PA pn pc Q)
  (hQ:∀q∈Q,SB w q.1.A q.1.n q.1.c q.1.nd/\Set1 2 q.1.nd q.1.r q.2.o/\(∀b∈q.2.t,b<256)/\q.2.t.length<=2000) {qs:List Pr} (iV:Q.map (·.2)=qs) {k:Int} (hr:eW K4 o qs= .error k):
  Fn Tryz.prog 24 [.slice NA 2 nc,Xg x.A x.n x.c x.r,.slice PA pn pc] w (λu w'=>u= .tuple #[.string (Qe []),.int .i64 k]/\Ext w w'):=by
 refine(Uz x Q NA nc PA pn pc w hN hx sx hP hQ).mono ?_;rintro u w' ⟨rfl,hE⟩;exact⟨by rw[iV,hr];rfl,hE⟩
theorem jQh (NA:Option Addr)(nc:Nat)(w:World)(hN:Sl w 1 NA 2 nc (Q9 [[65],[65]])):
  Fn Tryz.prog 24 [.slice NA 2 nc,Xg none 0 0 1,.slice none 0 0] w (λu w'=>u= .tuple #[.string (Qe []),.int .i64 1]/\Ext w w'):=by
 refine(tT NA 2 nc [[65],[65]] ⟨none,0,0,[],1⟩ none 0 0 [] (by decide) (λs hs=>by
  simp only[Q0,Jk,Jm] at hs;rcases hs with rfl | rfl<;>exact⟨by decide,by decide⟩) (by decide) (λq hq=>by cases hq) w hN (SlS.nil _) (SlS.nil _) (λq hq=>by cases hq)).mono ?_
 rintro u w' ⟨rfl,hE⟩;exact⟨by unfold bR;rw[Qf (.inl (by decide+kernel))];rfl,hE⟩
abbrev tA:BF:=λe=>e 0
abbrev tB:BF:=λe=>e 1
abbrev tX:List Nat:=[120,10]
theorem sn1:Ci [120,10,121,10] [120,10,122,10]= .ok [120,10,35,105,102,32,65,10,121,10,35,101,108,115,101,10,122,10,35,101,110,100,10]:=nu (by decide+kernel)
theorem sn2:Ci [120,10,121,10] [120,10]= .ok [120,10,35,105,102,32,65,10,121,10,35,101,110,100,10]:=nu (by decide+kernel)
theorem sn3:Ci [120,10] [120,10,121,10]= .ok [120,10,35,105,102,32,33,65,10,121,10,35,101,110,100,10]:=nu (by decide+kernel)
theorem sn4:eW K4 (λ_=>true) [⟨λe=>e 0&&e 1,tX⟩,⟨λe=> !(e 0&&e 1),[]⟩]= .ok [35,105,102,32,65,10,35,105,102,32,66,10,120,10,35,101,110,100,10,35,101,110,100,10]:=nu (by decide+kernel)
theorem sn5:eW K4 tB [⟨λe=>e 0&&e 1,tX⟩,⟨λe=> !e 0&&e 1,[121,10]⟩]= .ok [35,105,102,32,65,10,120,10,35,101,108,115,101,10,121,10,35,101,110,100,10]:=nu (by decide+kernel)
theorem sn6:eW K4 (λ_=>true) [⟨tA,tX⟩]= .error 290:=Hw (by decide+kernel)
theorem sn7:eW K4 (λ_=>true) [⟨λ_=>true,[35,101,110,100,10]⟩]= .error 290:=Hw (by decide+kernel)
def nv:List Nat:=[35,105,102,32,65,10,120,10,35,101,110,100,10]
theorem sn8:qk [120,32,121,10,122,10] ⟨2,3,[119],tA⟩= .ok [35,105,102,32,65,10,120,32,119,10,35,101,108,115,101,10,120,32,121,10,35,101,110,100,10,122,10]:=nu (by decide+kernel)
theorem sn9:qk nv ⟨6,7,[121],λe=> !e 0⟩= .ok nv:=nu (by decide+kernel)
theorem jQi:qk nv ⟨6,7,[121],λ_=>true⟩= .ok [35,105,102,32,65,10,121,10,35,101,110,100,10]:=nu (by decide+kernel)
theorem jQj:qk nv ⟨0,1,[121],tA⟩= .error 291:=Hw (by decide+kernel)
theorem jQk (w0:World):Fn Tryz.prog 11 [] w0 (λu w'=>u= .bool true/\Ext w0 w'):=by
 refine Qx (c:={vQ with cuts:=[]}) Qa Tryz.func11 rfl rfl rfl ?_;refine call (Ho (k:=2) (v:=0) (by decide) (by decide) w0) ?_;rintro _ a1 ⟨Aa,na,ca,da,ra,rfl,e1,ba,sa,_⟩;refine new (λx1 f1 y1 B1=>?_);refine QB B1 rfl (sc rfl) (λw1 g1 _ Ba=>?_);have h1:Ext w0 w1:=e1.trans (XY f1 B1 g1);have ba:=ba.ext (XY f1 B1 g1);refine call (Ho (k:=2) (v:=1) (by decide) (by decide) w1) ?_;rintro _ a2 ⟨Ab,nb,cb,db,rb,rfl,e2,bb,sb,_⟩;refine new (λx2 f2 y2 B2=>?_);refine QB B2 rfl (sc rfl) (λw2 g2 _ Bb=>?_);have h2:Ext w1 w2:=e2.trans (XY f2 B2 g2);have bb:=bb.ext (XY f2 B2 g2);refine Qs (Ba.ext h2) rfl ?_;refine call (Hp (k:=2) (by decide) (⟨Aa,na,ca,da,ra⟩:DV) w2 (ba.ext h2) sa) ?_;rintro _ a3 ⟨Anot,nnot,cnot,dnot,rnot,rfl,e3,bnot,snot,_⟩;refine new (λx3 f3 y3 B3=>?_);refine QB B3 rfl (sc rfl) (λw3 g3 _ Bnot=>?_);have h3:Ext w2 w3:=e3.trans (XY f3 B3 g3);have bnot:=bnot.ext (XY f3 B3 g3);refine Qs (Ba.ext (h2.trans h3)) rfl ?_;refine Qs (Bb.ext h3) rfl ?_;refine call (Ux (k:=2) (by decide) (⟨Aa,na,ca,da,ra⟩:DV) (⟨Ab,nb,cb,db,rb⟩:DV) w3 (ba.ext (h2.trans h3)) (bb.ext h3) sa sb) ?_;rintro _ a4 ⟨Aboth,nboth,cboth,dboth,rboth,rfl,e4,bboth,sboth,_⟩;refine new (λx4 f4 y4 B4=>?_);refine QB B4 rfl (sc rfl) (λw4 g4 _ Bboth=>?_);have h4:Ext w3 w4:=e4.trans (XY f4 B4 g4);have bboth:=bboth.ext (XY f4 B4 g4);refine Qs Bboth rfl ?_;refine call (Hp (k:=2) (by decide) (⟨Aboth,nboth,cboth,dboth,rboth⟩:DV) w4 bboth sboth) ?_;rintro _ a5 ⟨Arest,nrest,crest,drest,rrest,rfl,e5,brest,srest,_⟩;refine new (λx5 f5 y5 B5=>?_);refine QB B5 rfl (sc rfl) (λw5 g5 _ Brest=>?_);have h5:Ext w4 w5:=e5.trans (XY f5 B5 g5);have brest:=brest.ext (XY f5 B5 g5);refine Qs (Bnot.ext (h4.trans h5)) rfl ?_;refine Qs (Bb.ext ((h3.trans h4).trans h5)) rfl ?_;refine call (Ux (k:=2) (by decide) (⟨Anot,nnot,cnot,dnot,rnot⟩:DV) (⟨Ab,nb,cb,db,rb⟩:DV) w5 (bnot.ext (h4.trans h5)) (bb.ext ((h3.trans h4).trans h5)) snot sb) ?_;rintro _ a6 ⟨Aoth,noth,coth,doth,roth,rfl,e6,both,soth,_⟩;refine new (λx6 f6 y6 B6=>?_);refine QB B6 rfl (sc rfl) (λw6 g6 _ Both=>?_);have h6:Ext w5 w6:=e6.trans (XY f6 B6 g6);have both:=both.ext (XY f6 B6 g6);refine call (cH true w6) ?_;rintro _ a7 ⟨rfl,e7⟩;refine new (λx7 f7 y7 B7=>?_);refine QB B7 rfl (sc rfl) (λw7 g7 _ Ball=>?_);have h7:Ext w6 w7:=e7.trans (XY f7 B7 g7);have Ball:Blk w7 a7.heap.size 32 (⟨none,0,0,[],1⟩:DV).cells:=Ball;have sall:Set1 2 [] 1 (λ_=>true):=bO 2 true;refine Xm Qa [[Value.string (Qe [65])],[Value.string (Qe [66])]] rfl rfl rfl rfl rfl ⟨rfl,rfl,rfl,rfl,⟨⟩⟩ rfl (λcs h=>by simp only[Q0,Jk,Jm] at h;rcases h with rfl | rfl<;>rfl) rfl (by decide) (by decide) ?_;intro w8 h8 _ BN;have hN:Sl w8 1 (some ⟨w7.heap.size,0,none⟩) 2 2 (Q9 K4):=Sl.own' (n:=2) BN rfl (by decide);refine call (Hu [120,10,121,10] [120,10,122,10] _ (by decide) (by decide) w8 sn1) ?_;rintro _ w9 ⟨rfl,h9⟩;refine Xe rfl ?_;refine call (Hu [120,10,121,10] [120,10] _ (by decide) (by decide) w9 sn2) ?_;rintro _ QE ⟨rfl,XO⟩;refine Xe rfl ?_;refine call (Hu [120,10] [120,10,121,10] _ (by decide) (by decide) QE sn3) ?_;rintro _ QH ⟨rfl,ZU⟩;refine Qs (Ball.ext (((h8.trans h9).trans XO).trans ZU)) rfl ?_;refine Qs (Bboth.ext ((((((h5.trans h6).trans h7).trans h8).trans h9).trans XO).trans ZU)) rfl ?_;refine Qs (Brest.ext (((((h6.trans h7).trans h8).trans h9).trans XO).trans ZU)) rfl ?_;refine Xm Qa [Jh ((⟨Aboth,nboth,cboth,dboth,rboth⟩:DV),Pr.mk (λe=>e 0&&e 1) tX),Jh ((⟨Arest,nrest,crest,drest,rrest⟩:DV),Pr.mk (λe=> !(e 0&&e 1)) [])] rfl rfl rfl rfl rfl ⟨rfl,rfl,rfl,rfl,⟨⟩⟩ rfl (λcs h=>by simp only[Q0,Jk,Jm] at h;rcases h with rfl | rfl<;>rfl) rfl (by decide) (by decide) ?_;intro QW X5 _ BP12;refine call (UB ⟨none,0,0,[],1⟩ [((⟨Aboth,nboth,cboth,dboth,rboth⟩:DV),Pr.mk (λe=>e 0&&e 1) tX),((⟨Arest,nrest,crest,drest,rrest⟩:DV),Pr.mk (λe=> !(e 0&&e 1)) [])] _ 2 _ 2 2 QW (hN.ext (((h9.trans XO).trans ZU).trans X5)) (SlS.nil _) sall ⟨Sl.own (sz:=3) (n:=2) BP12 (QD _) (by decide) (by simp[Jh,Zt]),rfl⟩ (λq hq=>by
  simp only[Q0,Jk,Jm] at hq;rcases hq with rfl | rfl
  ·exact⟨(bboth.ext (((((((h5.trans h6).trans h7).trans h8).trans h9).trans XO).trans ZU).trans X5)),sboth,(show(∀b∈(tX:List Nat),b<256)/\(tX:List Nat).length<=2000 by decide)⟩
  ·exact⟨(brest.ext ((((((h6.trans h7).trans h8).trans h9).trans XO).trans ZU).trans X5)),srest,(show(∀b∈([]:List Nat),b<256)/\([]:List Nat).length<=2000 by decide)⟩) rfl sn4) ?_
 rintro _ XM ⟨rfl,KW⟩;refine Qs (Bb.ext ((((((((((h3.trans h4).trans h5).trans h6).trans h7).trans h8).trans h9).trans XO).trans ZU).trans X5).trans KW)) rfl ?_;refine Qs (Bboth.ext ((((((((h5.trans h6).trans h7).trans h8).trans h9).trans XO).trans ZU).trans X5).trans KW)) rfl ?_;refine Qs (Both.ext ((((((h7.trans h8).trans h9).trans XO).trans ZU).trans X5).trans KW)) rfl ?_;refine Xm Qa [Jh ((⟨Aboth,nboth,cboth,dboth,rboth⟩:DV),Pr.mk (λe=>e 0&&e 1) tX),Jh ((⟨Aoth,noth,coth,doth,roth⟩:DV),Pr.mk (λe=> !e 0&&e 1) [121,10])] rfl rfl rfl rfl rfl ⟨rfl,rfl,rfl,rfl,⟨⟩⟩ rfl (λcs h=>by simp only[Q0,Jk,Jm] at h;rcases h with rfl | rfl<;>rfl) rfl (by decide) (by decide) ?_;intro X1 VL _ BP14;refine call (UB (⟨Ab,nb,cb,db,rb⟩:DV) [((⟨Aboth,nboth,cboth,dboth,rboth⟩:DV),Pr.mk (λe=>e 0&&e 1) tX),((⟨Aoth,noth,coth,doth,roth⟩:DV),Pr.mk (λe=> !e 0&&e 1) [121,10])] _ 2 _ 2 2 X1 (hN.ext (((((h9.trans XO).trans ZU).trans X5).trans KW).trans VL)) (bb.ext (((((((((((h3.trans h4).trans h5).trans h6).trans h7).trans h8).trans h9).trans XO).trans ZU).trans X5).trans KW).trans VL)) sb ⟨Sl.own (sz:=3) (n:=2) BP14 (QD _) (by decide) (by simp[Jh,Zt]),rfl⟩ (λq hq=>by
  simp only[Q0,Jk,Jm] at hq;rcases hq with rfl | rfl
  ·exact⟨(bboth.ext (((((((((h5.trans h6).trans h7).trans h8).trans h9).trans XO).trans ZU).trans X5).trans KW).trans VL)),sboth,(show(∀b∈(tX:List Nat),b<256)/\(tX:List Nat).length<=2000 by decide)⟩
  ·exact⟨(both.ext (((((((h7.trans h8).trans h9).trans XO).trans ZU).trans X5).trans KW).trans VL)),soth,(show(∀b∈([121,10]:List Nat),b<256)/\([121,10]:List Nat).length<=2000 by decide)⟩) rfl sn5) ?_
 rintro _ JM ⟨rfl,WJ⟩;refine Qs (Ball.ext (((((((h8.trans h9).trans XO).trans ZU).trans X5).trans KW).trans VL).trans WJ)) rfl ?_;refine Qs (Ba.ext (((((((((((((h2.trans h3).trans h4).trans h5).trans h6).trans h7).trans h8).trans h9).trans XO).trans ZU).trans X5).trans KW).trans VL).trans WJ)) rfl ?_;refine Xm Qa [Jh ((⟨Aa,na,ca,da,ra⟩:DV),Pr.mk (λe=>e 0) tX)] rfl rfl rfl rfl rfl ⟨rfl,rfl,⟨⟩⟩ rfl (λcs h=>by simp only[QF] at h;subst h;rfl) rfl (by decide) (by decide) ?_;intro ag Wt _ BP16;refine call (UC ⟨none,0,0,[],1⟩ [((⟨Aa,na,ca,da,ra⟩:DV),Pr.mk (λe=>e 0) tX)] _ 2 _ 1 1 ag (hN.ext (((((((h9.trans XO).trans ZU).trans X5).trans KW).trans VL).trans WJ).trans Wt)) (SlS.nil _) sall ⟨Sl.own (sz:=3) (n:=1) BP16 (QD _) (by decide) (by simp[Jh,Zt]),rfl⟩ (λq hq=>by
  simp only[Q0,Jk,Jm] at hq;rcases hq with rfl
  ·exact⟨(ba.ext ((((((((((((((h2.trans h3).trans h4).trans h5).trans h6).trans h7).trans h8).trans h9).trans XO).trans ZU).trans X5).trans KW).trans VL).trans WJ).trans Wt)),sa,(show(∀b∈(tX:List Nat),b<256)/\(tX:List Nat).length<=2000 by decide)⟩) rfl sn6) ?_
 rintro _ VH ⟨rfl,d5⟩;refine Qs (Ball.ext (((((((((h8.trans h9).trans XO).trans ZU).trans X5).trans KW).trans VL).trans WJ).trans Wt).trans d5)) rfl ?_;refine Qs (Ball.ext (((((((((h8.trans h9).trans XO).trans ZU).trans X5).trans KW).trans VL).trans WJ).trans Wt).trans d5)) rfl ?_;refine Xm Qa [Jh ((⟨none,0,0,[],1⟩:DV),Pr.mk (λ_=>true) [35,101,110,100,10])] rfl rfl rfl rfl rfl ⟨rfl,rfl,⟨⟩⟩ rfl (λcs h=>by simp only[QF] at h;subst h;rfl) rfl (by decide) (by decide) ?_;intro Vp aP _ BP18;refine call (UC ⟨none,0,0,[],1⟩ [((⟨none,0,0,[],1⟩:DV),Pr.mk (λ_=>true) [35,101,110,100,10])] _ 2 _ 1 1 Vp (hN.ext (((((((((h9.trans XO).trans ZU).trans X5).trans KW).trans VL).trans WJ).trans Wt).trans d5).trans aP)) (SlS.nil _) sall ⟨Sl.own (sz:=3) (n:=1) BP18 (QD _) (by decide) (by simp[Jh,Zt]),rfl⟩ (λq hq=>by
  simp only[Q0,Jk,Jm] at hq;rcases hq with rfl
  ·exact⟨SlS.nil _,sall,(show(∀b∈([35,101,110,100,10]:List Nat),b<256)/\([35,101,110,100,10]:List Nat).length<=2000 by decide)⟩) rfl sn7) ?_
 rintro _ bZ ⟨rfl,fy⟩;refine Xm Qa [[Value.string (Qe [65])],[Value.string (Qe [65])]] rfl rfl rfl rfl rfl ⟨rfl,rfl,rfl,rfl,⟨⟩⟩ rfl (λcs h=>by simp only[Q0,Jk,Jm] at h;rcases h with rfl | rfl<;>rfl) rfl (by decide) (by decide) ?_;intro VJ dY _ BA;refine Qs (Ball.ext ((((((((((((h8.trans h9).trans XO).trans ZU).trans X5).trans KW).trans VL).trans WJ).trans Wt).trans d5).trans aP).trans fy).trans dY)) rfl ?_;refine call (jQh _ 2 VJ (Sl.own' (n:=2) BA rfl (by decide))) ?_;rintro _ fq ⟨rfl,fu⟩;refine JN rfl ?_;refine Zd rfl ?_;refine JN rfl ?_;refine Zd rfl ?_;refine JN rfl ?_;refine JN rfl ?_;refine Qs (Ba.ext (((((((((((((((((((h2.trans h3).trans h4).trans h5).trans h6).trans h7).trans h8).trans h9).trans XO).trans ZU).trans X5).trans KW).trans VL).trans WJ).trans Wt).trans d5).trans aP).trans fy).trans dY).trans fu)) rfl ?_;refine call (Hv [120,32,121,10,122,10] _ ⟨2,3,[119],(⟨Aa,na,ca,da,ra⟩:DV)⟩ (by decide) (show(-9223372036854775808:Int)<=2/\(2:Int)<=9223372036854775807/\(-9223372036854775808:Int)<=3/\(3:Int)<=9223372036854775807 by decide) (show(∀b∈([119]:List Nat),b<256)/\([119]:List Nat).length<=1000 by decide) sa fq (ba.ext (((((((((((((((((((h2.trans h3).trans h4).trans h5).trans h6).trans h7).trans h8).trans h9).trans XO).trans ZU).trans X5).trans KW).trans VL).trans WJ).trans Wt).trans d5).trans aP).trans fy).trans dY).trans fu)) sn8) ?_;rintro _ Wp ⟨rfl,jG⟩;refine Xe rfl ?_;refine Qs (Bnot.ext ((((((((((((((((((h4.trans h5).trans h6).trans h7).trans h8).trans h9).trans XO).trans ZU).trans X5).trans KW).trans VL).trans WJ).trans Wt).trans d5).trans aP).trans fy).trans dY).trans fu).trans jG)) rfl ?_;refine call (Hv nv nv ⟨6,7,[121],(⟨Anot,nnot,cnot,dnot,rnot⟩:DV)⟩ (by decide) (show(-9223372036854775808:Int)<=6/\(6:Int)<=9223372036854775807/\(-9223372036854775808:Int)<=7/\(7:Int)<=9223372036854775807 by decide) (show(∀b∈([121]:List Nat),b<256)/\([121]:List Nat).length<=1000 by decide) snot Wp (bnot.ext ((((((((((((((((((h4.trans h5).trans h6).trans h7).trans h8).trans h9).trans XO).trans ZU).trans X5).trans KW).trans VL).trans WJ).trans Wt).trans d5).trans aP).trans fy).trans dY).trans fu).trans jG)) sn9) ?_;rintro _ yC ⟨rfl,nZ⟩;refine Xe rfl ?_;refine Qs (Ball.ext (((((((((((((((h8.trans h9).trans XO).trans ZU).trans X5).trans KW).trans VL).trans WJ).trans Wt).trans d5).trans aP).trans fy).trans dY).trans fu).trans jG).trans nZ)) rfl ?_;refine call (Hv nv _ ⟨6,7,[121],⟨none,0,0,[],1⟩⟩ (by decide) (show(-9223372036854775808:Int)<=6/\(6:Int)<=9223372036854775807/\(-9223372036854775808:Int)<=7/\(7:Int)<=9223372036854775807 by decide) (show(∀b∈([121]:List Nat),b<256)/\([121]:List Nat).length<=1000 by decide) sall yC (SlS.nil _) jQi) ?_;rintro _ yE ⟨rfl,ib⟩;refine Qs (Ball.ext ((((((((((((((((h8.trans h9).trans XO).trans ZU).trans X5).trans KW).trans VL).trans WJ).trans Wt).trans d5).trans aP).trans fy).trans dY).trans fu).trans jG).trans nZ).trans ib)) rfl ?_;refine Qs (Ba.ext ((((((((((((((((((((((h2.trans h3).trans h4).trans h5).trans h6).trans h7).trans h8).trans h9).trans XO).trans ZU).trans X5).trans KW).trans VL).trans WJ).trans Wt).trans d5).trans aP).trans fy).trans dY).trans fu).trans jG).trans nZ).trans ib)) rfl ?_;refine Xm Qa [Kv ⟨0,1,[121],(⟨Aa,na,ca,da,ra⟩:DV)⟩] rfl rfl rfl rfl rfl ⟨rfl,rfl,⟨⟩⟩ rfl (λcs h=>by simp only[QF] at h;subst h;rfl) rfl (by decide) (by decide) ?_;intro D6 L6 _ BE;refine call (Uy nv ⟨0,1,[121],(⟨Aa,na,ca,da,ra⟩:DV)⟩ (by decide) (show(-9223372036854775808:Int)<=0/\(0:Int)<=9223372036854775807/\(-9223372036854775808:Int)<=1/\(1:Int)<=9223372036854775807 by decide) (show(∀b∈([121]:List Nat),b<256)/\([121]:List Nat).length<=1000 by decide) sa _ 2 _ 1 D6 (ba.ext (((((((((((((((((((((((h2.trans h3).trans h4).trans h5).trans h6).trans h7).trans h8).trans h9).trans XO).trans ZU).trans X5).trans KW).trans VL).trans WJ).trans Wt).trans d5).trans aP).trans fy).trans dY).trans fu).trans jG).trans nZ).trans ib).trans L6)) (hN.ext ((((((((((((((((h9.trans XO).trans ZU).trans X5).trans KW).trans VL).trans WJ).trans Wt).trans d5).trans aP).trans fy).trans dY).trans fu).trans jG).trans nZ).trans ib).trans L6)) ⟨Sl.own (sz:=5) (n:=1) BE (QD _) (by decide) (by simp[Kv]),rfl⟩) ?_;rintro _ w26 ⟨rfl,h26⟩;rw[jQj];refine Xe rfl ?_;refine Xe rfl ?_;refine Xe rfl ?_;exact⟨rfl,(((((((((((((((((((((((((h1.trans h2).trans h3).trans h4).trans h5).trans h6).trans h7).trans h8).trans h9).trans XO).trans ZU).trans X5).trans KW).trans VL).trans WJ).trans Wt).trans d5).trans aP).trans fy).trans dY).trans fu).trans jG).trans nZ).trans ib).trans L6).trans h26)⟩
def Cj:List (List Nat):=[[120],[121],[122],[120,32,121],[],[35],[35,105,102,102],[101,110,100]]
theorem Hx (k:Nat)(hk:k<=255)(w:World):Fn Tryz.prog 81 [.int .u8 k] w (λu w'=>u= .string (Qe (cM k++ [10]))/\Ext w w'):=by
 refine Qx (c:={c81 with cuts:=[]}) Qa Tryz.func81 rfl rfl rfl ?_;refine Xm Qa (Cj.map (λs=>[Value.string (Qe s)])) rfl rfl rfl rfl rfl ⟨rfl,rfl,rfl,rfl,rfl,rfl,rfl,rfl,rfl,rfl,rfl,rfl,rfl,rfl,rfl,rfl,⟨⟩⟩ rfl (λcs h=>by
  obtain⟨s,_,rfl⟩:=ZM.1 h;rfl) rfl (by decide) (by decide) ?_
 intro w1 Qd Q3 Qh;refine AA (d:=8) (by decide) ?_;have hS:Sl w1 1 (some ⟨w.heap.size,0,none⟩) 8 8 (Q9 Cj):=Sl.own' (n:=8) Qh rfl (by decide);have hk8:k % 8<8:=j5 _ (by decide);refine ZF hS hk8 (λad u hA hu QR=>?_);obtain⟨s,hs⟩:∃s,Cj[k % 8]? =some s:=⟨_,Xb hk8⟩
 rw[cz hs] at hu;cases hu;refine load QR ?_;have e:cM k=s:=by unfold cM;show(Cj[k % 8]?).getD []=s;rw[hs]<;>rfl
 rw[e];have h1:=XC s;have lQ:s.length<=4:=by rw[<-e];exact(BO k).2
 refine Jz (v':=.string (Qe (s++ [10]))) (by rw[h1];show s.length+1<=_;unfold maxLen;omega) (by rw[<-dB];rfl) ?_;exact⟨rfl,Qd⟩
theorem jQl {l:List Nat}{i k:Nat}(hi:l[i]? =some k)(h6:i<6):bQ (l.take (i+1))=bQ (l.take i)++ [cM k]:=by
 unfold bQ;rw[sm,sm,Nat.min_eq_right (by omega),Nat.min_eq_right (by omega),KC,hi,dx]<;>rfl
theorem UD (A:Option Addr)(n c:Nat)(l:List Nat)(hl:∀k∈l,k<=255)(w:World)(h:Sl w 1 A n c (Jx l)):
  Fn Tryz.prog 80 [.slice A n c] w (λu w'=>u= .string (Qe (Qo (bQ l)))/\Ext w w'):=by
 have Xf:l.length=n:=by have:=h.len;simp only[Jx,ZW] at this;omega
 refine Qx (c:={c80 with cuts:=[]}) Qa Tryz.func80 rfl rfl rfl ?_;have ZO:=h.le;have WQ:=h.cap;simp only[maxLen] at WQ;refine loop Qa [4,3] (λi:Nat=>[.int .i64 i,.string (Qe (Qo (bQ (l.take i))))]) (λi w'=>Ext w w'/\i<=6/\i<=n) (λi _=>6-i) 0 rfl ⟨Ext.refl _,Xt _,Xt _⟩ ?_;rintro i w1 ⟨Qd,h6,QN⟩;have fin:(i=6∨i=n)->bQ (l.take i)=bQ l:=λhh=>by
  unfold bQ;rcases hh with rfl | rfl
  ·rw[sm]<;>rfl
  ·rw[Zz (l:=l) (by omega)]
 refine Qt (λc1=>?_) (λc1=>?_)
 ·refine Qt (λc2=>?_) (λc2=>?_)
  ·obtain⟨k,hk⟩:∃k,l[i]? =some k:=⟨_,Xb (by omega)⟩
   refine ZF (h.ext Qd) (by omega) (λad u hA hu QR=>?_);have e1:(Jx l)[i]? =some (.int .u8 k):=by unfold Jx;rw[Vi,hk]<;>rfl
   rw[e1] at hu;cases hu;refine load QR ?_;have oW:=Q2 hk;refine call (Hx k (hl k oW) w1) ?_;rintro _ w2 ⟨rfl,Qg⟩;have s1:=XC (Qo (bQ (l.take i)));have s2:=XC (cM k++ [10]);have b1:(Qo (bQ (l.take i))).length<=100:=by
    obtain⟨t1,t2⟩:=Tf (l.take i);have:=qg (M:=4) (λs hs=>(t1 s hs).2);have:=Y4 (4+1) t2;omega
   have b2:=(BO k).2;rw[Qy,mA] at s2;refine Jz (v':=.string (Qe (Qo (bQ (l.take (i+1)))))) (by rw[s1,s2];unfold maxLen;omega) (by rw[jQl hk (by omega),GK,dB]) ?_;refine Qj ((i+1:Nat):Int) (by show((i:Nat):Int)+1=_;omega) (by omega) ?_;exact⟨i+1,rfl,⟨Qd.trans Qg,by omega,by omega⟩,by show 6-(i+1)<6-i;omega⟩
  ·refine⟨?_,Qd⟩;rw[fin (.inl (by omega))]
 ·refine⟨?_,Qd⟩;rw[fin (.inr (by omega))]
theorem jQm:((List.range 256).all λf=>(List.range 8).all λc=>cL [f] 3 0 0 (cK c)==f.testBit c)=true:=by decide+kernel
theorem UE {f c:Nat}(hf:f<=255)(hc:c<8):cL [f] 3 0 0 (bits c)=f.testBit c:=by
 have:=VT.1 jQm f (mz.2 (by omega));have:=VT.1 this c (mz.2 hc);rw[GN] at this;simpa using this
theorem jQn {o o':BF}(h:∀c,c<8->o (bits c)=o' (bits c)):Qu 3 o=Qu 3 o':=by
 unfold Qu;refine N0 (λc hc=>?_);exact h c (mz.1 hc)
def gn (b:Nat):BF:=if b=0 then λ_=>true else cL [b] 3 0 0
theorem UF {b c:Nat}(hb:b<=255)(hc:c<8):gn b (bits c)=kV b c:=by
 unfold gn kV;by_cases h:b=0
 ·rw[Qf h,XT (by omega)]<;>rfl
 ·rw[if_neg h,UE hb hc,XS (by omega)]<;>rfl
theorem UG {b:Nat}(hb:b<=255):Qu 3 (gn b)=bf b:=by
 unfold Qu bf;refine N0 (λc hc=>?_);exact UF hb (mz.1 hc)
theorem jQo {b:Nat}(hb:b<=255):Qu 3 (cL [b] 3 0 0)=[]↔b=0:=by
 constructor
 ·intro h;apply Classical.byContradiction;intro h0;have h1:=UG hb;unfold gn at h1;rw[if_neg h0,h] at h1;exact BQ hb h1.symm
 ·rintro rfl;rw[jQn (o':=λ_=>false) (λc hc=>by rw[UE (by decide) hc,Nat.zero_testBit])];decide
theorem UH (b:Nat)(hb:b<=255)(w:World):Fn Tryz.prog 14 [.int .u8 b] w (gi w 3 (gn b)):=by
 refine Qx (c:={c14 with cuts:=[]}) Qa Tryz.func14 rfl rfl rfl ?_;refine new (λw1 Qd Q3 Qh=>?_);refine Xm Qa [[Value.int .u8 b]] rfl rfl rfl rfl rfl ⟨rfl,rfl,⟨⟩⟩ rfl (λcs h=>by simp only[QF] at h;subst h;rfl) rfl (by decide) (by decide) ?_;intro w2 Qg X0 Qv;refine call (BM [b] _ 1 1 3 w2 (Sl.own' (n:=1) Qv rfl (by decide)) (λx hx=>by rw[QF.1 hx];exact hb) (by decide)) ?_;rintro _ w3 ⟨A,n,c,nd,r,rfl,Qi,nH,s3,im⟩;have QQ:=Qd.trans (Qg.trans Qi);have Xq:=Qg.trans Qi;refine new (λw4 Qq K5 Q6=>?_);refine QB Q6 rfl (sc rfl) (λw5 Jr _ QL=>?_);have JL:Ext w3 w5:=XY Qq Q6 Jr;have jE:=Qh.ext (Xq.trans JL);have J6:=QQ.trans JL;have qy:=Xq.size;refine Qp QL rfl ?_;have h0:=s3.root0.trans (jQo hb);refine XU (λhz=>?_) (λhz=>?_)
 ·refine call (pZ true w5) ?_;rintro _ w6 ⟨rfl,Xh⟩;refine QB (jE.ext Xh) rfl (sc rfl) (λw7 ZC _ Q4=>?_);have Xi:Mod (·=w.heap.size) w6 w7:=oQh ZC rfl;refine Qs Q4 rfl ?_;refine⟨none,0,0,[],1,rfl,Xi.ext (J6.trans Xh) (λi hi=>by omega),SlS.nil _,?_,λi hi=>by obtain⟨_,e,_⟩:=hi;cases e⟩;have e:gn b=λ_=>true:=by unfold gn;rw[Qf (h0.1 hz)]
  rw[e];exact bO 3 true
 ·refine Qs QL rfl ?_;refine QB jE rfl (sc rfl) (λw7 ZC _ Q4=>?_);have Xi:Mod (·=w.heap.size) w5 w7:=oQh ZC rfl;refine Qs Q4 rfl ?_;have aQI:=Qg.size;refine⟨A,n,c,nd,r,rfl,Xi.ext J6 (λi hi=>by omega),SB.mod (nH.ext JL) Xi (λi hi e=>by have:=im i hi;omega),?_,λi hi=>by have:=im i hi;omega⟩;have e:gn b=cL [b] 3 0 0:=by unfold gn;rw[if_neg (λir=>hz (h0.2 ir))]
  rw[e];exact s3
def oneO (c:Nat):BF:=cL [2^c] 3 0 0
theorem jQp:((List.range 8).all λc=>(List.range 8).all λd=>oneO c (cK d)==decide (d=c))=true:=by decide+kernel
theorem Hy {c d:Nat}(hc:c<8)(hd:d<8):oneO c (bits d)=decide (d=c):=by
 have:=VT.1 jQp c (mz.2 hc);have:=VT.1 this d (mz.2 hd);rw[GN] at this;simpa using this
theorem Hz (c:Nat)(hc:c<8)(w:World):Fn Tryz.prog 25 [.int .u64 c] w (gi w 3 (oneO c)):=by
 have hp:2^c<=128:=Y6 (n:=2) (by decide) (show c<=7 by omega);refine Qx (c:={c25 with cuts:=[]}) Qa Tryz.func25 rfl rfl rfl ?_;refine new (λw1 Qd Q3 Qh=>?_);refine normIf (m:=((2^c:Nat):Int)) (by omega) ?_ ?_
 ·rw[show min ((c:Int)).toNat IntKind.u8.bits=c by show min c 8=c;omega];have e:(1:Int)*2^c=((2^c:Nat):Int):=by rw[Int.one_mul];norm_cast
  rw[e];generalize 2^c=q at hp ⊢;exact IntWalk.u8_in _ (by omega)
 refine Xm Qa [[Value.int .u8 ((2^c:Nat):Int)]] rfl rfl rfl rfl rfl ⟨rfl,rfl,⟨⟩⟩ rfl (λcs h=>by simp only[QF] at h;subst h;rfl) rfl (by decide) (by decide) ?_;intro w2 Qg X0 Qv;refine call (BM [2^c] _ 1 1 3 w2 (Sl.own' (n:=1) Qv rfl (by decide)) (λx hx=>by rw[QF.1 hx];omega) (by decide)) ?_;rintro _ w3 ⟨A,n,cc,nd,r,rfl,Qi,nH,s3,im⟩;have Xq:=Qg.trans Qi;refine QB (Qh.ext Xq) rfl (sc rfl) (λw7 ZC _ Q4=>?_);have Xi:Mod (·=w.heap.size) w3 w7:=oQh ZC rfl;refine Qs Q4 rfl ?_;have aQI:=Qg.size;exact⟨A,n,cc,nd,r,rfl,Xi.ext (Qd.trans Xq) (λi hi=>by omega),SB.mod nH Xi (λi hi e=>by have:=im i hi;omega),s3,λi hi=>by have:=im i hi;omega⟩
theorem Ck (w:World):Fn Tryz.prog 16 [] w (λu w'=>∃A c,u= .slice A 3 c/\Ext w w'/\Sl w' 1 A 3 c (Q9 (cE.take 3))):=by
 refine Qx (c:={c16 with cuts:=[]}) Qa Tryz.func16 rfl rfl rfl ?_;refine call (fQW 3 w (by decide)) ?_;rintro _ w1 ⟨A,c,rfl,Qd,rv⟩;exact⟨A,c,rfl,Qd,rv⟩
structure RawV where
 fam:Nat
 cls:List Nat
 txs:List (Option Addr×Nat×Nat×List Nat)
 CA:Option Addr
 cn:Nat
 cc:Nat
 TA:Option Addr
 tn:Nat
 tc:Nat
def tY (t:Option Addr×Nat×Nat×List Nat):List Value:=[.slice t.1 t.2.1 t.2.2.1]
def RawV.cells (x:RawV):List Value:=[.int .u8 x.fam,.slice x.CA x.cn x.cc,.slice x.TA x.tn x.tc]
structure RawIn (w:World) (x:RawV):Prop where
 f8:x.fam<=255
 cl:Sl w 1 x.CA x.cn x.cc (Jx x.cls)
 c8:∀k∈x.cls,k<=255
 tx:SlS tY 1 w x.TA x.tn x.tc x.txs
 ts:∀t∈x.txs,Sl w 1 t.1 t.2.1 t.2.2.1 (Jx t.2.2.2)/\∀k∈t.2.2.2,k<=255
theorem RawIn.ext {w w':World}{x:RawV}(h:RawIn w x)(k:Ext w w'):RawIn w' x:=⟨h.f8,h.cl.ext k,h.c8,h.tx.ext k,λt ht=>⟨(h.ts t ht).1.ext k,(h.ts t ht).2⟩⟩
abbrev RawV.cho (x:RawV)(c:Nat):List (List Nat):=kU x.cls (x.txs.map (·.2.2.2)) c
theorem jQq (x:RawV)(c:Nat)(hc:c<8)(w:World)(h:RawIn w x):Fn Tryz.prog 33 [.agg x.cells.toArray,.int .u64 c] w (λu w'=>u= .string (Qe (Qo (x.cho c)))/\Ext w w'):=by
 have jO:x.cls.length=x.cn:=by have:=h.cl.len;simp only[Jx,ZW] at this;omega
 have V5:=h.tx.2;have t1:=h.tx.1.le;have t2:=h.tx.1.cap;simp only[maxLen] at t2;refine Qx (c:={c33 with cuts:=[]}) Qa Tryz.func33 rfl rfl rfl ?_;refine new (λw1 Qd Q3 Qh=>?_);have h1:=h.ext Qd;have fin:∀(k:Nat),k<4->(x.cls[c]?).elim 0 (· % 4)=k->∀t,(x.txs.map (·.2.2.2))[k]? =some t->x.cho c=bQ t:=λk hk he t ht=>by
  show kU x.cls (x.txs.map (·.2.2.2)) c=_;unfold kU;rw[he,ht]
 have aQ7:∀(k:Nat),k<4->(x.cls[c]?).elim 0 (· % 4)=k->(x.txs.map (·.2.2.2))[k]? =none->x.cho c=[cM k]:=λk hk he ht=>by
  show kU x.cls (x.txs.map (·.2.2.2)) c=_;unfold kU;rw[he,ht]
 refine Qj (c:Int) rfl (by omega) ?_;refine Qp Qh rfl ?_;refine Qt (λc1=>?_) (λc1=>?_)
 ·obtain⟨k0,ry⟩:∃k0,x.cls[c]? =some k0:=⟨_,Xb (by omega)⟩
  have nQI:=h.c8 k0 (Q2 ry);refine Qp Qh rfl ?_;refine ZF h1.cl (by omega) (λad u hA hu QR=>?_);have e1:(Jx x.cls)[c]? =some (.int .u8 k0):=by unfold Jx;rw[Vi,ry]<;>rfl
  rw[e1] at hu;cases hu;refine load QR ?_;refine AA (d:=4) (by decide) ?_;obtain⟨k,iC⟩:∃k,k=k0 % 4:=⟨_,rfl⟩
  rw[<-iC];have lw:k<4:=by omega
  have zE:(x.cls[c]?).elim 0 (· % 4)=k:=by rw[ry,iC]<;>rfl
  refine Qj ((k:Nat):Int) rfl (by omega) ?_;refine Qp Qh rfl ?_;refine Qt (λc2=>?_) (λc2=>?_)
  ·have Xp:k<x.tn:=by omega
   refine Qp Qh rfl ?_;refine Zh (f:=tY) (λ_=>rfl) h1.tx rfl Xp (λad t ht KV=>?_);obtain⟨L7,io⟩:=h1.ts t (Q2 ht);refine load (KV 0 _ rfl) ?_;refine call (UD t.1 t.2.1 t.2.2.1 t.2.2.2 io w1 L7) ?_;rintro _ w2 ⟨rfl,Qg⟩;refine⟨?_,Qd.trans Qg⟩;rw[fin k lw zE t.2.2.2 (by rw[Vi,ht];rfl)]
  ·have Xa:(x.txs.map (·.2.2.2))[k]? =none:=E1.2 (by rw[ZW];omega);refine OE ((k:Nat):Int) rfl (by omega) ?_;refine call (Hx k (by omega) w1) ?_;rintro _ w2 ⟨rfl,Qg⟩;refine⟨?_,Qd.trans Qg⟩;rw[aQ7 k lw zE Xa];show Value.string (Qe (cM k++ [10]))= .string (Qe (Qo [cM k]));simp[Qo]
 ·have ry:x.cls[c]? =none:=E1.2 (by omega);have lw:(0:Nat)<4:=by decide
  have zE:(x.cls[c]?).elim 0 (· % 4)=0:=by rw[ry]<;>rfl
  refine Qp Qh rfl ?_;refine Qt (λc2=>?_) (λc2=>?_)
  ·have Xp:0<x.tn:=by omega
   refine Qp Qh rfl ?_;refine Zh (f:=tY) (λ_=>rfl) h1.tx rfl Xp (λad t ht KV=>?_);obtain⟨L7,io⟩:=h1.ts t (Q2 ht);refine load (KV 0 _ rfl) ?_;refine call (UD t.1 t.2.1 t.2.2.1 t.2.2.2 io w1 L7) ?_;rintro _ w2 ⟨rfl,Qg⟩;refine⟨?_,Qd.trans Qg⟩;rw[fin 0 lw zE t.2.2.2 (by rw[Vi,ht];rfl)]
  ·have Xa:(x.txs.map (·.2.2.2))[0]? =none:=E1.2 (by rw[ZW];omega);refine OE ((0:Nat):Int) rfl (by omega) ?_;refine call (Hx 0 (by omega) w1) ?_;rintro _ w2 ⟨rfl,Qg⟩;refine⟨?_,Qd.trans Qg⟩;rw[aQ7 0 lw zE Xa];show Value.string (Qe (cM 0++ [10]))= .string (Qe (Qo [cM 0]));simp[Qo]
theorem PrM.len {n:Nat}:∀{qs:List Pr}{ps:List Pt},PrM n qs ps->qs.length=ps.length
 | [],[],_=>rfl
 | _::_,_::_,h=>by simp[PrM.len h.2]
theorem PrM.snoc {n:Nat}{q:Pr}{p:Pt}(hq:q.t=Qo p.2/\∀c,c<2^n->q.o (bits c)=decide (c∈p.1)):∀{qs:List Pr}{ps:List Pt},PrM n qs ps->PrM n (qs++ [q]) (ps++ [p])
 | [],[],_=>⟨hq,trivial⟩
 | _::_,_::_,h=>⟨h.1,PrM.snoc hq h.2⟩
theorem PrM.set {n:Nat}{q:Pr}{p:Pt}(hq:q.t=Qo p.2/\∀c,c<2^n->q.o (bits c)=decide (c∈p.1)):∀{qs:List Pr}{ps:List Pt}{k:Nat},PrM n qs ps->PrM n (qs.set k q) (ps.set k p)
 | [],[],_,_=>trivial
 | _::_,_::_,0,h=>⟨hq,h.2⟩
 | _::_,_::_,k+1,h=>⟨h.1,PrM.set (k:=k) hq h.2⟩
theorem PrM.get {n:Nat}:∀{qs:List Pr}{ps:List Pt}{k:Nat}{q:Pr}{p:Pt},PrM n qs ps->qs[k]? =some q->ps[k]? =some p->q.t=Qo p.2/\∀c,c<2^n->q.o (bits c)=decide (c∈p.1)
 | _::_,_::_,0,_,_,h,h1,h2=>by cases h1;cases h2;exact h.1
 | _::_,_::_,k+1,_,_,h,h1,h2=>PrM.get (k:=k) h.2 (by simpa using h1) (by simpa using h2)
theorem UI {n:Nat}{s:List (List Nat)}(hs:gg s):∀{qs:List Pr}{ps:List Pt},PrM n qs ps->(∀p∈ps,gg p.2)->Vy qs (Qo s)=g9 ps s
 | [],[],_,_=>rfl
 | q::qs,p::ps,h,hl=>by
  have ih:=UI hs h.2 (λu hu=>hl u (by simp[hu]));have hp:=hl p (by simp);have jP:(decide (q.t≠Qo s))=decide (p.2≠s):=by
   rw[h.1.1];refine mB.2 (not_congr ⟨λe=>?_,λe=>by rw[e]⟩);have:=QO QZ e
   rwa [wy hp,wy hs] at this
  unfold Vy g9 at ih ⊢;rw[WW,WW,jP];split
  ·simp only[Xs];rw[ih]
  ·rfl
def Wf (b c:Nat):List Nat:=(List.range c).filter (kV b)
theorem UJ (b c:Nat):Wf b (c+1)=Wf b c++(if kV b c=true then [c] else []):=by
 unfold Wf;rw[List.range_succ,pr,po];split<;>simp
theorem jQr {b c d:Nat}(h:d∈Wf b c):d<c:=mz.1 (Va.1 h).1
theorem jQs (b c:Nat):(Wf b c).Nodup:=(List.nodup_range).sublist (List.filter_sublist)
theorem jQt {single:Bool}{f:Nat->List (List Nat)}{S:List Nat}(hn:S.Nodup)(hf:∀c,gg (f c)):∀p∈Yd single f S,gg p.2:=λp hp=>by
 have h:=GL single f S hn;obtain⟨c,hc⟩:=i5 _ (h.ne p hp);rw[<-(h.tx p hp c hc).2];exact hf c
theorem Cl (x:RawV)(c:Nat):gg (x.cho c):=λs hs=>((BP _ _ c).1 s hs).1.nl
theorem HB (x:RawV)(c:Nat):(∀b∈Qo (x.cho c),b<256)/\(Qo (x.cho c)).length<=30:=by
 obtain⟨h1,h2⟩:=BP x.cls (x.txs.map (·.2.2.2)) c;refine⟨hQt (λs hs=>(h1 s hs).1.b8),?_⟩;have:=qg (M:=4) (λs hs=>(h1 s hs).2);have:=Y4 (4+1) h2;show(Qo (kU x.cls (x.txs.map (·.2.2.2)) c)).length<=30;omega
structure PtsIn (w:World) (PA:Option Addr) (pn pc:Nat) (Q:List (DV×Pr)):Prop where
 sl:SlS Jh 3 w PA pn pc Q
 sb:∀q∈Q,SB w q.1.A q.1.n q.1.c q.1.nd/\Set1 3 q.1.nd q.1.r q.2.o
theorem PtsIn.ext {w w':World}{PA:Option Addr}{pn pc:Nat}{Q:List (DV×Pr)}(h:PtsIn w PA pn pc Q)(k:Ext w w'):PtsIn w' PA pn pc Q:=⟨h.sl.ext k,λq hq=>⟨(h.sb q hq).1.ext k,(h.sb q hq).2⟩⟩
theorem jQu (x:RawV)(single:Bool)(w:World)(h:RawIn w x):
  Fn Tryz.prog 26 [.agg x.cells.toArray,.bool single] w (λu w'=>∃PA pc Q,u= .slice PA (Q.length) pc/\Ext w w'/\PtsIn w' PA Q.length pc Q/\PrM 3 (Q.map (·.2)) (Yd single x.cho (bf x.fam))):=by
 refine Qx (c:={c26 with cuts:=[]}) Qa Tryz.func26 rfl rfl rfl ?_;refine new (λw1 Qd Q3 Qh=>?_);refine Xm Qa [] rfl rfl rfl rfl rfl ⟨⟩ rfl (λcs h=>by cases h) rfl (by decide) (by decide) ?_;intro w2 Qg X0 Qv;have QT:=Qd.trans Qg;refine loop Qa [6,5] (λt:Nat×List (DV×Pr)×Option Addr×Nat=>[.int .u64 t.1,.slice t.2.2.1 t.2.1.length t.2.2.2]) (λt w'=>Ext w1 w'/\t.1<=8/\Own w' w1.heap.size 56 3 t.2.2.1 t.2.1.length t.2.2.2 (t.2.1.flatMap Jh)/\(∀q∈t.2.1,DgO w' (Qk t.2.2.1) 3 q.1 q.2.o)/\PrM 3 (t.2.1.map (·.2)) (Yd single x.cho (Wf x.fam t.1))/\t.2.1.length<=t.1) (λt _=>8-t.1) (0,[],some ⟨w1.heap.size,0,none⟩,0) rfl ⟨Qg,Xt _,Own.empty Qv (QD _),(λq hq=>by cases hq),trivial,Xt _⟩ ?_;rintro⟨c,Q,PA,pc⟩ w3 ⟨Qi,nW,Wl,oC,d4,hQl⟩;simp only at nW Wl oC d4 hQl;have QQ:=Qd.trans Qi;have VQ:=Wl.rows;refine Qt (λc1=>?_) (λc1=>?_)
 ·have hc:c<8:=by simp only at c1;omega
  have Qw:=Qh.ext Qi;refine QC Qw rfl ?_;refine call (UH x.fam h.f8 w3) ?_;rintro _ w4 ⟨A4,n4,c4,nd4,r4,rfl,Qq,Wh,s4,_⟩;refine call (GJ A4 n4 c4 nd4 r4 c (by omega) w4 Wh (s4.chk (by decide))) ?_;rintro _ w5 ⟨rfl,Qz⟩;have JL:=Qq.trans Qz;have J6:=QQ.trans JL;have QN:ev nd4 r4 (cK c)=kV x.fam c:=by rw[s4.mean,GN];exact UF h.f8 hc
  rw[QN];cases gI:kV x.fam c with
  | false=>
   refine Xe rfl ?_;refine gP ((c+1:Nat):Int) (by show((c:Nat):Int)+1=_;omega) (by omega) ?_;refine⟨(c+1,Q,PA,pc),rfl,⟨Qi.trans JL,hc,Wl.ext JL,λq hq=>(oC q hq).ext JL,?_,by simp only;omega⟩,by show 8-(c+1)<8-c;omega⟩;simp only;rw[UJ,gI];simpa using d4
  | true=>
   refine Xv rfl ?_;have iE:c∉Wf x.fam c:=λhm=>by have:=jQr hm;omega
   have hnd:=jQs x.fam c;have uX:Yd single x.cho (Wf x.fam (c+1))=eP single x.cho (Yd single x.cho (Wf x.fam c)) c:=by
    rw[UJ,gI,Qf rfl,hQz]
   refine Qs (Qw.ext JL) rfl ?_;refine call (jQq x c hc w5 (h.ext J6)) ?_;rintro _ w6 ⟨rfl,Xh⟩;have Ky:=JL.trans Xh;have XD:=QQ.trans Ky;obtain⟨cb1,cb2⟩:=HB x c;have bQI:=d4.len;rw[ZW] at bQI;have ve:∀q∈Q,(∀b∈q.2.t,b<256):=λq hq=>by
    obtain⟨k,hk⟩:=cm.1 hq;have ZL:=(Zw.1 hk).1;obtain⟨p,hp⟩:∃p,(Yd single x.cho (Wf x.fam c))[k]? =some p:=⟨_,Xb (by omega)⟩
    have h1:=(d4.get (q:=q.2) (k:=k) (by rw[Vi,hk];rfl) hp).1;have h2:=GL single x.cho (Wf x.fam c) hnd;obtain⟨d,hd⟩:=i5 _ (h2.ne p (Q2 hp));rw[h1,<-(h2.tx p (Q2 hp) d hd).2];exact(HB x d).1
   cases single with
   | true=>
    refine loop Qa [8] (λk:Nat=>[.int .i64 k]) (λk w'=>w6=w'/\k=0) (λ_ _=>0) 0 rfl ⟨rfl,rfl⟩ ?_;rintro _ _ ⟨rfl,rfl⟩;refine Xv rfl ?_;refine Xe rfl ?_;refine call (Hz c hc w6) ?_;rintro _ w7 ⟨A7,n7,c7,d6,r7,rfl,QY,KF,s7,Kf⟩;refine Xm Qa [Jh (DV.mk A7 n7 c7 d6 r7,Pr.mk (oneO c) (Qo (x.cho c)))] rfl rfl rfl rfl rfl ⟨rfl,rfl,⟨⟩⟩ rfl (λcs h=>by simp only[QF] at h;subst h;rfl) rfl (by decide) (by decide) ?_;intro w8 Q7 Ve XB;have Ws:=Ky.trans (QY.trans Q7);have lJ:Sl w8 3 (some ⟨w7.heap.size,0,none⟩) 1 1 (Jh (DV.mk A7 n7 c7 d6 r7,Pr.mk (oneO c) (Qo (x.cho c)))):=Sl.own (sz:=3) (n:=1) XB (QD _) (by decide) (by simp[Jh,Zt]);refine Zk (n:=Q.length) Qa rfl rfl rfl rfl rfl (by decide) rfl rfl ⟨_,rfl⟩ rfl rfl (Wl.ext Ws) lJ (Hl _) (by unfold maxLen;omega) (by show(Q.length+1)*48<=_;omega) (by have:=(Qi.trans Ws).size;omega) ?_;intro PA2 yx w9 YY d7 L8;have oE:Mod (Qk PA) w3 w9:=(Mod.of_ext (Qk PA) Ws).trans YY (λi hi=>.inl hi);have r9:∀k,Qk PA2 k->Qk PA k∨w8.heap.size<=k:=L8.rows
    have z38:=Ws.size;have Lh:=Ky.size;have z78:=Q7.size;refine gP ((c+1:Nat):Int) (by show((c:Nat):Int)+1=_;omega) (by omega) ?_;rw[show Q.flatMap Jh++Jh (DV.mk A7 n7 c7 d6 r7,Pr.mk (oneO c) (Qo (x.cho c)))=(Q++ [(DV.mk A7 n7 c7 d6 r7,Pr.mk (oneO c) (Qo (x.cho c)))]).flatMap Jh by rw[bH];simp] at d7;refine⟨(c+1,Q++ [(DV.mk A7 n7 c7 d6 r7,Pr.mk (oneO c) (Qo (x.cho c)))],PA2,yx),by simp only[Qy];rfl,⟨oE.ext Qi (λi hi=>(VQ i hi).1),hc,by simp only;rw[Qy];exact d7,λq hq=>?_,?_,by simp only[Qy,mA];omega⟩,by show 8-(c+1)<8-c;omega⟩
    ·rcases XH.1 hq with hq | hq
     ·exact(oC q hq).step oE (λk hk=>by
       rcases r9 k hk with h | h
       ·exact .inl h
       ·exact .inr (by omega))
     ·rw[QF.1 hq];have h0:DgO w8 (Qk PA) 3 ⟨A7,n7,c7,d6,r7⟩ (oneO c):=⟨KF.ext Q7,s7,λad ea h0 h=>by have:=Kf ad.block ⟨ad,ea,rfl⟩;have:=(VQ _ h).2;omega⟩
      exact h0.step YY (λk hk=>by
       rcases r9 k hk with h | h
       ·exact .inl h
       ·exact .inr h)
    ·simp only;rw[uX,dx];have e:eP true x.cho (Yd true x.cho (Wf x.fam c)) c=Yd true x.cho (Wf x.fam c)++ [([c],x.cho c)]:=rfl;rw[e];exact PrM.snoc ⟨rfl,λd hd=>by show oneO c (bits d)=decide (d∈ [c]);rw[Hy hc hd];simp⟩ d4
   | false=>
    have Km:=UI (Cl x c) d4 (jQt hnd (λd=>Cl x d));have bQC:=hQx (Yd false x.cho (Wf x.fam c)) (x.cho c);obtain⟨sq1,sq2⟩:=wW (Qo (x.cho c)) (Q.map (·.2));refine loop Qa [8] (λk:Nat=>[.int .i64 k]) (λk w'=>w6=w'/\k<=Vy (Q.map (·.2)) (Qo (x.cho c))) (λk _=>Vy (Q.map (·.2)) (Qo (x.cho c))-k) 0 rfl ⟨rfl,Xt _⟩ ?_;rintro k _ ⟨rfl,hk⟩;generalize hK:Vy (Q.map (·.2)) (Qo (x.cho c))=K at*;have ph:SlS Jh 3 w6 PA Q.length pc Q:=⟨(Wl.ext Ky).sl,rfl⟩
    refine Xe rfl ?_;refine Qt (λc2=>?_) (λc2=>?_)
    ·have Xp:k<Q.length:=by simp only at c2;omega
     refine Zh nt ph rfl Xp (λad q hq KV=>?_);have KY:=Q2 hq;refine load (KV 2 _ rfl) ?_;have NF:(Q.map (·.2))[k]? =some q.2:=by rw[Vi,hq]<;>rfl
     by_cases ht:q.2.t=Qo (x.cho c)
     ·refine Xv (by rw[ht];simp) ?_;have NG:k=K:=by
       apply Classical.byContradiction;intro hh;exact sq2 k q.2 NF (by omega) ht
      subst NG;have QK:¬(k:Int)=(Q.length:Int):=by omega
      refine Xv rfl ?_;refine XW QK ?_;obtain⟨pa,ZE,_⟩:=(Wl.ext Ky).sl.at_ (show 0<Q.length by omega);subst ZE;have cT:=Wl.ext Ky;have Wz:=Ext.drew w6;have de:∀q∈Q,DgO w6 (Qk (some pa)) 3 q.1 q.2.o:=λq hq=>(oC q hq).ext Ky
      have Y1:0<Q.length:=by omega
      refine Xy Qa (Ext w6) 12 [(true,0),(true,1),(true,2),(true,3),(true,4),(true,5),(true,6),(true,7),(false,8),(false,9),(true,10),(true,11)] (by kernel_rfl) Wz ?_;refine W9 (j:=k) Xp ?_;refine Xr (vs:=[.slice q.1.A q.1.n q.1.c,.int .i64 q.1.r]) rfl (λw' Qb i u hi=>by
       rw[add_add];refine wM (o:=k*3) (i:=0+i) (cT.ext Qb) Y1 ?_;rw[aq];refine eH nt Q k q i u hq ?_
       match i,hi with
       | 0,hi=>exact hi
       | 1,hi=>exact hi) ?_
      refine call (Hz c hc w6.drew) ?_;rintro _ w7 ⟨A7,n7,c7,d6,r7,rfl,QY,KF,s7,Kf⟩;have jJ:=Wz.trans QY;refine⟨jJ,?_⟩;refine call (SQ (k:=3) (by decide) q.1.A q.1.n q.1.c A7 n7 c7 w7 ((de q KY).sb.ext jJ) KF (de q KY).st s7) ?_;rintro _ w8 ⟨A8,n8,uJ,D7,r8,rfl,Q7,bq,s8,nP⟩;have Wq:=jJ.trans Q7;refine⟨Wq,?_⟩;refine W9 (j:=k) Xp ?_;show fX _ _ ((pa.add (k*3)).add 0) _ _;rw[add_add];refine tK (cT.ext Wq) (by show k*3+0+2<=Q.length*3;omega) (sc rfl) (λw9 YY d7=>?_);have Ws:=Ky.trans Wq;have oE:Mod (Qk (some pa)) w3 w9:=(Mod.of_ext _ Ws).trans YY (λi hi=>.inl hi);have LN:(Q.flatMap Jh)[k*3+0+ [Value.slice A8 n8 uJ,.int .i64 r8].length]? =some (.string (Qe q.2.t)):=eH nt Q k q 2 _ hq rfl;rw[show(#[Value.slice A8 n8 uJ,Value.int IntKind.i64 r8]:Array Value).toList=[Value.slice A8 n8 uJ,.int .i64 r8] from rfl,Hj LN] at d7;have s8':Set1 3 D7 r8 (λe=>q.2.o e||oneO c e):=s8.congr (λe=>by simp[Kr]);have d7:Own w9 w1.heap.size 56 3 (some pa) Q.length pc ((Q.set k (DV.mk A8 n8 uJ D7 r8,Pr.mk (λe=>q.2.o e||oneO c e) q.2.t)).flatMap Jh):=by
       rw[<-wD nt Q _ Xp];exact d7
      refine gP ((c+1:Nat):Int) (by show((c:Nat):Int)+1=_;omega) (by omega) ?_;have z68:=Wq.size;have z67:=jJ.size;have Lh:=Ky.size;refine⟨(c+1,Q.set k (DV.mk A8 n8 uJ D7 r8,Pr.mk (λe=>q.2.o e||oneO c e) q.2.t),some pa,pc),by simp only[cj];rfl,⟨oE.ext Qi (λi hi=>(VQ i hi).1),hc,by simp only;rw[cj];exact d7,λq' hq'=>?_,?_,by simp only[cj];omega⟩,by show 8-(c+1)<8-c;omega⟩
      ·rcases vx hq' with hq' | rfl
       ·exact(oC q' hq').step oE (λi hi=>.inl hi)
       ·have h0:DgO w8 (Qk (some pa)) 3 (DV.mk A8 n8 uJ D7 r8) (λe=>q.2.o e||oneO c e):=⟨bq,s8',λad ea h0 h=>by have:=nP ad.block ⟨ad,ea,rfl⟩;have:=(VQ _ h).2;omega⟩
        exact h0.step YY (λi hi=>.inl hi)
      ·simp only;rw[uX,List.map_set];obtain⟨p0,gu⟩:∃p,(Yd false x.cho (Wf x.fam c))[k]? =some p:=⟨_,Xb (by omega)⟩
       have e:eP false x.cho (Yd false x.cho (Wf x.fam c)) c=(Yd false x.cho (Wf x.fam c)).set k (p0.1++ [c],p0.2):=by
        show jo _ c (x.cho c)=_;rcases wP c (x.cho c) (Yd false x.cho (Wf x.fam c))with⟨p,h1,h2,h3⟩ | ⟨h1,_⟩
        ·rw[<-Km] at h1 h3;rw[gu] at h1;cases h1;exact h3
        ·omega
       rw[e];obtain⟨g1,g2⟩:=d4.get NF gu;refine PrM.set (q:=Pr.mk (λe=>q.2.o e||oneO c e) q.2.t) (p:=(p0.1++ [c],p0.2)) ⟨g1,λd hd=>?_⟩ d4;show(q.2.o (bits d)||oneO c (bits d))=decide (d∈p0.1++ [c]);rw[g2 d hd,Hy hc hd];simp
     ·refine Xe (by rw[Bool.not_eq_true',decide_eq_false_iff_not];exactλe=>ht (Z6 (ve q KY) cb1 e)) ?_;have NG:k<K:=by
       apply Classical.byContradiction;intro hh;have:k=K:=by omega
       subst this;exact ht (sq1 q.2 NF)
      refine Qj ((k+1:Nat):Int) (by show((k:Nat):Int)+1=_;omega) (by omega) ?_;exact⟨k+1,rfl,⟨rfl,NG⟩,by show K-(k+1)<K-k;omega⟩
    ·have hkQ:k=Q.length:=by simp only at c2;omega
     subst hkQ;have hKe:K=Q.length:=by
      rw[bQI];omega
     refine Xv rfl ?_;refine JN rfl ?_;refine call (Hz c hc w6) ?_;rintro _ w7 ⟨A7,n7,c7,d6,r7,rfl,QY,KF,s7,Kf⟩;refine Xm Qa [Jh (DV.mk A7 n7 c7 d6 r7,Pr.mk (oneO c) (Qo (x.cho c)))] rfl rfl rfl rfl rfl ⟨rfl,rfl,⟨⟩⟩ rfl (λcs h=>by simp only[QF] at h;subst h;rfl) rfl (by decide) (by decide) ?_;intro w8 Q7 Ve XB;have Ws:=Ky.trans (QY.trans Q7);have lJ:Sl w8 3 (some ⟨w7.heap.size,0,none⟩) 1 1 (Jh (DV.mk A7 n7 c7 d6 r7,Pr.mk (oneO c) (Qo (x.cho c)))):=Sl.own (sz:=3) (n:=1) XB (QD _) (by decide) (by simp[Jh,Zt]);refine Zk (n:=Q.length) Qa rfl rfl rfl rfl rfl (by decide) rfl rfl ⟨_,rfl⟩ rfl rfl (Wl.ext Ws) lJ (Hl _) (by unfold maxLen;omega) (by show(Q.length+1)*48<=_;omega) (by have:=(Qi.trans Ws).size;omega) ?_;intro PA2 yx w9 YY d7 L8;have oE:Mod (Qk PA) w3 w9:=(Mod.of_ext (Qk PA) Ws).trans YY (λi hi=>.inl hi);have r9:∀k,Qk PA2 k->Qk PA k∨w8.heap.size<=k:=L8.rows
     have z38:=Ws.size;have Lh:=Ky.size;have z78:=Q7.size;refine gP ((c+1:Nat):Int) (by show((c:Nat):Int)+1=_;omega) (by omega) ?_;rw[show Q.flatMap Jh++Jh (DV.mk A7 n7 c7 d6 r7,Pr.mk (oneO c) (Qo (x.cho c)))=(Q++ [(DV.mk A7 n7 c7 d6 r7,Pr.mk (oneO c) (Qo (x.cho c)))]).flatMap Jh by rw[bH];simp] at d7;refine⟨(c+1,Q++ [(DV.mk A7 n7 c7 d6 r7,Pr.mk (oneO c) (Qo (x.cho c)))],PA2,yx),by simp only[Qy];rfl,⟨oE.ext Qi (λi hi=>(VQ i hi).1),hc,by simp only;rw[Qy];exact d7,λq hq=>?_,?_,by simp only[Qy,mA];omega⟩,by show 8-(c+1)<8-c;omega⟩
     ·rcases XH.1 hq with hq | hq
      ·exact(oC q hq).step oE (λk hk=>by
        rcases r9 k hk with h | h
        ·exact .inl h
        ·exact .inr (by omega))
      ·rw[QF.1 hq];have h0:DgO w8 (Qk PA) 3 ⟨A7,n7,c7,d6,r7⟩ (oneO c):=⟨KF.ext Q7,s7,λad ea h0 h=>by have:=Kf ad.block ⟨ad,ea,rfl⟩;have:=(VQ _ h).2;omega⟩
       exact h0.step YY (λk hk=>by
        rcases r9 k hk with h | h
        ·exact .inl h
        ·exact .inr h)
     ·simp only;rw[uX,dx];have e:eP false x.cho (Yd false x.cho (Wf x.fam c)) c=Yd false x.cho (Wf x.fam c)++ [([c],x.cho c)]:=by
       show jo _ c (x.cho c)=_;rcases wP c (x.cho c) (Yd false x.cho (Wf x.fam c))with⟨p,h1,_⟩ | ⟨_,h2⟩
       ·have:=(Zw.1 h1).1;omega
       ·exact h2
      rw[e];exact PrM.snoc ⟨rfl,λd hd=>by show oneO c (bits d)=decide (d∈ [c]);rw[Hy hc hd];simp⟩ d4
 ·have hc:c=8:=by simp only at c1;omega
  subst hc;exact⟨PA,pc,Q,rfl,QQ,⟨⟨Wl.sl,rfl⟩,λq hq=>⟨(oC q hq).sb,(oC q hq).st⟩⟩,d4⟩
abbrev cR:List (List Nat):=cE.take 3
theorem Cm:Jy cR:=(fQX 3 (by decide)).1
theorem jQv:Zx cR=true:=by decide+kernel
theorem wZ:∀s∈cR,s.length<=1000:=by decide
def RawV.wov (x:RawV):List (List Nat):=Xw cR (λc=>Qo (x.cho c)) 3 0 (bf x.fam)
theorem jQw (x:RawV)(c:Nat):JD (Qo (x.cho c))=true:=by
 unfold JD;rw[hQs,wy (Cl x c),aV];exact VT.2 (λs hs=>XT ((BP _ _ c).1 s hs).1.dr)
theorem jQx {x:RawV}(h:x.fam<=255):(Qo x.wov).length<=1048576:=by
 have QK:=BQ h;obtain⟨h1,h2⟩:=kW (nm:=cR) (f:=λc=>Qo (x.cho c)) (P:=λs=>s.length<=2100) (M:=6) (λv ng=>Cc wZ v ng) (by decide) (by decide) 3 0 (bf x.fam) QK (λc hc=>by
  rw[wy (Cl x c)];obtain⟨a,b⟩:=BP x.cls (x.txs.map (·.2.2.2)) c;exact⟨λs hs=>by have:=(a s hs).2;omega,b⟩)
 have h3:=qg h1;have h4:(bf x.fam).length*(6+3)<=8*9:=Y4 _ (Tg _);have h5:(Xw cR (λc=>Qo (x.cho c)) 3 0 (bf x.fam)).length*(2100+1)<=72*2101:=Y4 _ (by omega);show(Qo (Xw cR (λc=>Qo (x.cho c)) 3 0 (bf x.fam))).length<=_;omega
theorem jQy (x:RawV)(single:Bool):PtOk x.cho (bf x.fam) (Yd single x.cho (bf x.fam)):=GL single x.cho _ (hQA _)
end
section
open Go Go.RowKit Go.ChangeShapes
variable {H:Type} {enc:TypeId×Value->H}
theorem jQz {α:Type}{l:List α}(h:l.length=1):∃a,l=[a]:=by
 match l,h with
 | [a],_=>exact⟨a,rfl⟩
theorem jQA {W:World}(cs:List Value)(gF:Nat)(D:DataW H×List MemPlace)(hl:cs.length=1)(h:DataW.trod enc Tryz.prog W 0 (λ_=>true) true gF 62 cs=some D):∃y:{t:Option Addr×Nat×Nat×List Nat // Sl W 1 t.1 t.2.1 t.2.2.1 (Jx t.2.2.2)/\∀k∈t.2.2.2,k<=255},tY y.1=cs:=by
 obtain⟨v,rfl⟩:=jQz hl;have key:∃a n c,v= .slice a n c:=by
  rcases Go.Deep.open_slice Tryz.underlying62 h with⟨Zf,_⟩ | ⟨x,l,c,m,n,D,Pl,Zf,_⟩
  ·simp at Zf;exact⟨_,_,_,Zf⟩
  ·simp at Zf;exact⟨_,_,_,Zf⟩
 obtain⟨a,n,c,rfl⟩:=key;obtain⟨ws,hS,h8⟩:=Td ⟨_,h⟩;exact⟨⟨(a,n,c,ws),hS,h8⟩,rfl⟩
theorem jQB {W:World}{a:Option Addr}{len cap:Nat}{gF:Nat}{D:DataW H×List MemPlace}(h:DataW.trod enc Tryz.prog W 0 (λ_=>true) true gF 63 [.slice a len cap]=some D):∃l,SlS tY 1 W a len cap l/\∀t∈l,Sl W 1 t.1 t.2.1 t.2.2.1 (Jx t.2.2.2)/\∀k∈t.2.2.2,k<=255:=
 hQw (hQv (cells:=λy:{t:Option Addr×Nat×Nat×List Nat // Sl W 1 t.1 t.2.1 t.2.2.1 (Jx t.2.2.2)/\∀k∈t.2.2.2,k<=255}=>tY y.1) (λ_=>rfl) (by decide) Tryz.underlying63 (by kernel_rfl) ⟨⟨(none,0,0,[]),Sl.nil W 1,λk hk=>by cases hk⟩⟩ jQA rfl h)
theorem UK {W:World}{gF t e:Nat}{v:Value}{D:DataW H×List MemPlace}(hu:Tryz.prog.underlying t=some (.slice e))(h:DataW.trod enc Tryz.prog W 0 (λ_=>true) true gF t [v]=some D):∃a n c,v= .slice a n c:=by
 rcases Go.Deep.open_slice hu h with⟨Zf,_⟩ | ⟨x,l,c,m,n,D,Pl,Zf,_⟩
 ·simp at Zf;exact⟨_,_,_,Zf⟩
 ·simp at Zf;exact⟨_,_,_,Zf⟩
set_option maxRecDepth 100000 in
theorem raw_of {W:World}{base:Nat}{v:Value}{d:DataW H}{p:List MemPlace}(hval:Value.okWide Tryz.prog W .any base 65 v)(h:DataW.Trod enc Tryz.prog W 0 (λ_=>true) true 65 v d p):
  ∃x:RawV,v= .agg x.cells.toArray/\RawIn W x:=by
 obtain⟨gF,hf⟩:=h;obtain⟨cs,rfl,XG⟩:=Go.WideShapes.okWide_struct Tryz.underlying65 hval;have hc:Tryz.prog.cellsOf 65=3:=by kernel_rfl
 have C5:Tryz.prog.cellsOf 5=1:=by kernel_rfl
 have KV:Tryz.prog.cellsOf 62=1:=by kernel_rfl
 have yB:Tryz.prog.cellsOf 63=1:=by kernel_rfl
 rw[hc] at XG;obtain⟨xs,m,_,_,_,oP,Kk⟩:=DataW.trod_struct Tryz.underlying65 hf;obtain⟨v0,v1,v2,hl⟩:=Te (show cs.toList.length=3 by simpa using XG);obtain⟨y0,y1,y2,rfl⟩:=Te (show xs.length=3 from oP);have g0:=Kk 0 _ rfl;have g1:=Kk 1 _ rfl;have g2:=Kk 2 _ rfl;simp[C5,KV,yB,Value.cells,hl] at g0 g1 g2;obtain⟨n0,e0,_,w0⟩:=DataW.trod_int Tryz.underlying5 g0;simp at e0;obtain⟨f,rfl,q0⟩:=u8_of w0;obtain⟨a1,n1,c1,rfl⟩:=UK Tryz.underlying62 g1;obtain⟨a2,n2,c2,rfl⟩:=UK Tryz.underlying63 g2;obtain⟨ws,hS,h8⟩:=Td ⟨_,g1⟩;obtain⟨l,hT,WG⟩:=jQB g2;subst e0;exact⟨⟨f,ws,l,a1,n1,c1,a2,n2,c2⟩,QO Value.agg (Array.ext' hl),⟨q0,hS,h8,hT,WG⟩⟩
end
section
theorem UL (c:Nat):cK c=λi=>c.testBit i:=by
 funext i;rw[cK,bQQ]
theorem HC {α:Type}{f:α->List Value}{sz:Nat}(hf:∀x,(f x).length=sz):∀(l:List α)(j:Nat)(y y':α)(i:Nat)(v:Value),l[j]? =some y->i<sz->(f y).set i v=f y'->(l.flatMap f).set (j*sz+i) v=(l.set j y').flatMap f
 | [],j,y,y',i,v,h,_,_=>by simp at h
 | z::l,0,y,y',i,v,h,hi,e=>by
  simp at h;subst h;simp only[au,List.set_cons_zero,Nat.zero_mul,aq];rw[List.set_append_left _ _ (by rw[hf];exact hi),e]
 | z::l,j+1,y,y',i,v,h,hi,e=>by
  simp only[au,List.set_cons_succ];rw[NV _ _ (by rw[hf,fS];omega),hf,show(j+1)*sz+i-sz=j*sz+i by rw[fS];omega,HC hf l j y y' i v (by simpa using h) hi e]
theorem jQC (ls:List (List Nat))(k:Nat):(Qo (ls.take k)).length<=(Qo ls).length:=by
 have e:Qo ls=Qo (ls.take k)++Qo (ls.drop k):=by
  unfold Qo;rw[<-bH,mj]
 rw[e,Qy];omega
theorem HD:∀l:List Nat,∃z,(Zi l).getLast? =some z/\10∉z/\(z=[]↔YC l)
 | []=>⟨[],rfl,by simp,by simp[YC]⟩
 | b::l=>
       by
  obtain⟨z,h1,h2,h3⟩:=HD l;unfold Zi;by_cases hb:b=10
  ·subst hb;rw[Qf rfl];refine⟨z,?_,h2,?_⟩
   ·cases hp:Zi l with
    | nil=>exact Xd hp (tI l)
    | cons s ls=>rw[pq,<-hp,h1]
   ·rw[h3];unfold YC;cases l with
    | nil=>simp
    | cons c l=>simp
  ·rw[if_neg hb];cases hp:Zi l with
   | nil=>exact Xd hp (tI l)
   | cons s ls=>
    simp only;cases ls with
    | nil=>
     have hs:s=z:=by rw[hp] at h1;simpa using h1
     subst hs;refine⟨b::s,rfl,by simp only[Q0,not_or];exact⟨λe=>hb e.symm,h2⟩,⟨λh=>by simp at h,λh=>?_⟩⟩;have hl:l=s:=by
      have e1:10∉l:=λhm=>by
       have h4:=tJ l;rw[hp] at h4;have h5:=List.count_pos_iff.2 hm;simp only[mA] at h4;omega
      have:=wJ e1;rw[hp] at this;simpa using this.symm
     subst hl;rcases h with h | h
     ·cases h
     ·cases l with
      | nil=>simp at h;exact Xd h hb
      | cons c l=>
       rw[pq] at h;exact Xd (List.mem_of_getLast? h) h2
    | cons t ls=>
     refine⟨z,by rw[pq];rw[hp,pq] at h1;exact h1,h2,?_⟩;rw[h3];unfold YC;cases l with
     | nil=>simp[Zi] at hp
     | cons c l=>simp
theorem jQD {l:List Nat}(h:¬YC l):∃z∈KP l,z.getLast? ≠some 10/\z≠ []:=by
 obtain⟨z,h1,h2,h3⟩:=HD l;have hz:z≠ []:=λe=>h (h3.1 e)
 refine⟨z,?_,λe=>h2 (List.mem_of_getLast? e),hz⟩;unfold KP;rw[if_neg (by rw[h1];exactλe=>hz (Option.some.inj e))];exact List.mem_of_getLast? h1
def lh (s:List Nat):Bool:=(s.getLast? ==some 10) && !YF s
theorem jQE {l:List Nat}(h:YC l):W3 l=true:=by
 unfold W3;rcases h with h | h
 ·rw[h]<;>rfl
 ·rw[h];simp
theorem jQF (l:List Nat):JD l=(KP l).all lh:=by
 by_cases ht:YC l
 ·unfold JD;rw[jQE ht,aV,pX ht,List.all_map];congr 1;funext s;simp only[Function.comp,lh];rw[wL];simp
 ·have h1:JD l=false:=by
   unfold JD;rw[Bool.and_eq_false_iff];left
   exact YM.2 (λh=>ht (jn h))
  rw[h1];obtain⟨z,hz,h2,_⟩:=jQD ht
  symm;refine YM.2 (λha=>?_);have:=VT.1 ha z hz;unfold lh at this;rw[Jv] at this;exact h2 (by simpa using this.1)
theorem jQG {l:List Nat}{z:List Nat}(h:z∈KP l):z≠ []:=by
 by_cases ht:YC l
 ·rw[pX ht] at h;obtain⟨s,_,rfl⟩:=ZM.1 h;simp
 ·obtain⟨u,h1,h2,h3⟩:=HD l;have hu:u≠ []:=λe=>ht (h3.1 e)
  have e:KP l=Zi l:=by unfold KP;rw[if_neg (by rw[h1];exactλe=>hu (Option.some.inj e))]
  rw[e] at h;intro hz;subst hz;have key:∀l:List Nat,∀z,(Zi l).getLast? =some z->z≠ []-> []∉Zi l:=by
   intro l;induction l with
   | nil=>intro z hz QK;simp[Zi] at hz;exact Xd hz (λe=>QK e)
   | cons b l ih=>
    intro z hz QK;unfold Zi at hz ⊢;split at hz
    ·rename_i hb;rw[Qf hb];cases hp:Zi l with
     | nil=>exact Xd hp (tI l)
     | cons s ls=>
      rw[hp,pq,<-hp] at hz;have:=ih z hz QK;rw[hp] at this;simp only[Q0,not_or] at this ⊢;exact⟨by simp,this⟩
    ·rename_i hb;rw[if_neg hb];cases hp:Zi l with
     | nil=>simp
     | cons s ls=>
      rw[hp] at hz;simp only at hz ⊢;simp only[Q0,not_or];refine⟨by simp,?_⟩;cases ls with
      | nil=>simp
      | cons t ls=>
       rw[pq] at hz;have:=ih z (by rw[hp,pq];exact hz) QK;rw[hp] at this;simp only[Q0,not_or] at this ⊢;exact⟨this.2.1,this.2.2⟩
  exact key l u h1 hu h
structure CmI (a b:List (List Nat)) (k best:Nat):Prop where
 ka:k<=a.length
 kb:k<=b.length
 eq:a.take k=b.take k
 le:best<=k
 z:dp (a.take best)=0
 mx:∀q,q<=k->dp (a.take q)=0->q<=best
theorem CmI.start (a b:List (List Nat)):CmI a b 0 0:=⟨Xt _,Xt _,by simp,QD _,rfl,λq h _=>h⟩
theorem CmI.step {a b:List (List Nat)}{k best:Nat}(h:CmI a b k best){x:List Nat}(ha:a[k]? =some x)(hb:b[k]? =some x):CmI a b (k+1) (if dp (a.take (k+1))=0 then k+1 else best):=by
 have la:=(Zw.1 ha).1;have lb:=(Zw.1 hb).1;refine⟨la,lb,by rw[KC,KC,ha,hb,h.eq],?_,?_,λq hq hz=>?_⟩
 ·split
  ·exact QD _
  ·have:=h.le;omega
 ·split
  ·assumption
  ·exact h.z
 ·split
  ·exact hq
  ·rename_i hn;refine h.mx q ?_ hz;have:q≠k+1:=λe=>by subst e;exact hn hz
   omega
theorem CmI.fin {a b:List (List Nat)}{k best:Nat}(h:CmI a b k best)(hf:a.length<=k∨b.length<=k∨a[k]? ≠b[k]?):best=Vn a b:=by
 obtain⟨h1,h2,h3,h4,h5⟩:=wI a b;refine Nat.le_antisymm (h5 best (by have:=h.le;have:=h.ka;omega) (by have:=h.le;have:=h.kb;omega) ?_ h.z) (h.mx _ ?_ h4)
 ·have:=QO (List.take best) h.eq;rw[sm,sm,mi h.le] at this;exact this
 ·apply Classical.byContradiction;intro hh;rcases hf with hf | hf | hf
  ·omega
  ·omega
  ·have:=QO (λl:List (List Nat)=>l[k]?) h3;rw[mt (by omega),mt (by omega)] at this;exact hf this
theorem tZ {x y:List Nat}(hx:∀b∈x,b<256)(hy:∀b∈y,b<256):(Qe (x++ [10])=Qe (y++ [10]))↔x=y:=⟨λhh=>zY (Z6 (cO hx) (cO hy) hh),λhh=>by rw[hh]⟩
theorem jQH {ls:List (List Nat)}{i:Nat}{s:List Nat}(h:ls[i]? =some s):dp (ls.take (i+1))=dp (ls.take i)+Kt s:=by
 rw[KC,h,zR,Sp,Bu];show _+(Kt s+0)=_;omega
theorem UM (ls:List (List Nat))(A:Option Addr)(n c:Nat)(w:World)(h:Sl w 1 A n c (Zs ls))(hb:We ls)(hn:n<=1000000000):
  Fn Tryz.prog 237 [.slice A n c] w (λu w'=>u= .bool (decide (dp ls=0))/\w=w'):=by
 have hl:=YG h;refine Qx (c:={eQb with cuts:=[]}) Qa Tryz.func237 rfl rfl rfl ?_;refine loop Qa [4,3] (λi:Nat=>[.int .i64 i,.int .i64 (dp (ls.take i))]) (λi w'=>w=w'/\i<=n/\ -(i:Int)<=dp (ls.take i)/\dp (ls.take i)<=i) (λi _=>n-i) 0 rfl ⟨rfl,Xt _,by simp[dp],by simp[dp]⟩ ?_;rintro i _ ⟨rfl,hi,af,YW⟩;refine Qt (λc1=>?_) (λc1=>?_)
 ·have QN:i<n:=by omega
  obtain⟨s,hs⟩:∃s,ls[i]? =some s:=⟨_,Xb (by omega)⟩
  have rF:=hb s (Q2 hs);have KK:=jQH hs;have hda:=hQN s;refine ZF h QN (λad u hA hu QR=>?_);rw[Wd hs] at hu;cases hu;refine load QR ?_;refine call (BX (s++ [10]) ZH w (cO rF.1) (by decide)) ?_;rintro _ _ ⟨rfl,rfl⟩;rw[Gr];have last:∀x:Int,x=dp (ls.take (i+1))->aW (IntKind.i64.wrap (((i:Nat):Int)+1)) (λm=>m=((i+1:Nat):Int)):=λx _=>Qj ((i+1:Nat):Int) (by omega) (by omega) rfl
  refine Kq (λhp=>?_) (λhp=>?_)
  ·have hd:Kt s=1:=by unfold Kt;rw[Qf hp]
   have QK:¬s=Zq:=λe=>by rw[e] at hp;revert hp;decide
   refine Qj (dp (ls.take (i+1))) (by rw[KK,hd]) (by omega) ?_;refine ZF h QN (λad u hA hu QR=>?_);rw[Wd hs] at hu;cases hu;refine load QR ?_;refine Xx (λhh=>QK ((tZ (y:=Zq) rF.1 (by decide)).1 hh)) ?_;refine Qj ((i+1:Nat):Int) (by show((i:Nat):Int)+1=_;omega) (by omega) ?_;exact⟨i+1,rfl,⟨rfl,QN,by omega,by omega⟩,by show n-(i+1)<n-i;omega⟩
  ·refine ZF h QN (λad u hA hu QR=>?_);rw[Wd hs] at hu;cases hu;refine load QR ?_;by_cases he:s=Zq
   ·have hd:Kt s= -1:=by unfold Kt;rw[if_neg (by rw[hp];decide),Qf he]
    refine Zd ((tZ (y:=Zq) rF.1 (by decide)).2 he) ?_;refine Qj (dp (ls.take (i+1))) (by rw[KK,hd];omega) (by omega) ?_;refine Qj ((i+1:Nat):Int) (by show((i:Nat):Int)+1=_;omega) (by omega) ?_;exact⟨i+1,rfl,⟨rfl,QN,by omega,by omega⟩,by show n-(i+1)<n-i;omega⟩
   ·have hd:Kt s=0:=by unfold Kt;rw[if_neg (by rw[hp];decide),if_neg he]
    refine Xx (λhh=>he ((tZ (y:=Zq) rF.1 (by decide)).1 hh)) ?_;refine Qj ((i+1:Nat):Int) (by show((i:Nat):Int)+1=_;omega) (by omega) ?_;have e:dp (ls.take i)=dp (ls.take (i+1)):=by rw[KK,hd];omega
    exact⟨i+1,(by simp only;rw[<-e];rfl),⟨rfl,QN,by omega,by omega⟩,by show n-(i+1)<n-i;omega⟩
 have QN:i=n:=by omega
 subst QN;rw[Zz (by omega)];exact⟨QO Value.bool (by by_cases h0:dp ls=0<;>simp[h0]),rfl⟩
theorem jQI (a b:List (List Nat))(A B:Option Addr)(n c m d:Nat)(w:World)(h:Sl w 1 A n c (Zs a))(h':Sl w 1 B m d (Zs b))(ha:We a)(hb:We b)(hn:n<=1000000000):
  Fn Tryz.prog 214 [.slice A n c,.slice B m d] w (λu w'=>u= .int .i64 (Vn a b)/\Ext w w'):=by
 have Ka:=YG h;have aR:=YG h';have iE:=h.le;refine Qx (c:={dQZ with cuts:=[]}) Qa Tryz.func214 rfl rfl rfl ?_;refine loop Qa [6,5] (λt:Nat×Nat=>[.int .i64 ((t.1+1:Nat):Int),.int .i64 t.2]) (λt w'=>Ext w w'/\CmI a b t.1 t.2) (λt _=>n-t.1) (0,0) rfl ⟨Ext.refl _,CmI.start a b⟩ ?_;rintro⟨k,best⟩ w1 ⟨Qd,hC⟩;simp only at hC;have af:=Ext.drew w1;have hka:=hC.ka;have hkb:=hC.kb;have K7:=Qd.trans af;have out:(a.length<=k∨b.length<=k∨a[k]? ≠b[k]?)->best=Vn a b:=λhf=>hC.fin hf
 refine Xy Qa (Ext w1) 23 [(true,0),(true,1),(true,2),(true,3),(true,4),(true,5),(true,6),(true,7),(true,8),(true,9),(true,10),(true,11),(true,12),(true,13),(true,14),(true,15),(true,16),(true,17),(true,18),(true,19),(true,20),(true,21),(true,22)] (by kernel_rfl) af ?_;refine Qt (λc1=>?_) (λc1=>?_)
 ·refine Qt (λc2=>?_) (λc2=>?_)
  ·have Xp:k<n:=by simp only at c1;omega
   have oW:k<m:=by simp only at c2;omega
   obtain⟨x,hx⟩:∃x,a[k]? =some x:=⟨_,Xb (by omega)⟩
   obtain⟨y,hy⟩:∃y,b[k]? =some y:=⟨_,Xb (by omega)⟩
   have ZP:=ha x (Q2 hx);have ci:=hb y (Q2 hy);refine Qj ((k:Nat):Int) (by show((k+1:Nat):Int)-1=_;omega) (by omega) ?_;refine ZF (h.ext Qd) Xp (λad u hA hu QR=>?_);rw[Wd hx] at hu;cases hu;refine QJ (v:=.string (Qe (x++ [10]))) (λw' Qb=>Qb.cell QR) ?_;refine Qj ((k:Nat):Int) (by show((k+1:Nat):Int)-1=_;omega) (by omega) ?_;refine ZF (h'.ext Qd) oW (λad u hA hu QR=>?_);rw[Wd hy] at hu;cases hu;refine QJ (v:=.string (Qe (y++ [10]))) (λw' Qb=>Qb.cell QR) ?_;refine Qt (λc3=>?_) (λc3=>?_)
   ·have Xl:x=y:=(tZ ZP.1 ci.1).1 c3;subst Xl;have am:=hC.step hx hy;refine ct Qa rfl rfl rfl rfl rfl rfl (by omega) ?_;have ht:=(h.ext K7).take (m:=k+1) Xp;rw[WV,p8] at ht;refine call (UM (a.take (k+1)) A (k+1) c _ ht (λs hs=>ha s (bF hs)) (by omega)) ?_;rintro _ _ ⟨rfl,rfl⟩;refine Qt (λc4=>?_) (λc4=>?_)
    ·rw[Qf c4] at am;refine Qj ((k+1+1:Nat):Int) (by show((k+1:Nat):Int)+1=_;omega) (by omega) ?_;exact⟨(k+1,k+1),rfl,⟨K7,am⟩,by show n-(k+1)<n-k;omega⟩
    ·rw[if_neg c4] at am;refine Qj ((k+1+1:Nat):Int) (by show((k+1:Nat):Int)+1=_;omega) (by omega) ?_;exact⟨(k+1,best),rfl,⟨K7,am⟩,by show n-(k+1)<n-k;omega⟩
   ·exact⟨by rw[<-out (.inr (.inr (λe=>c3 (by rw[hx,hy] at e;cases e;rfl))))],K7⟩
  ·exact⟨by rw[<-out (.inr (.inl (by simp only at c2;omega)))],K7⟩
 ·exact⟨by rw[<-out (.inl (by simp only at c1;omega))],K7⟩
theorem jQJ (a b:List (List Nat))(A B:Option Addr)(n c m d:Nat)(w:World)(h:Sl w 1 A n c (Zs a))(h':Sl w 1 B m d (Zs b))(ha:We a)(hb:We b)(hn:n<=1000000000)(hm:m<=1000000000):
  Fn Tryz.prog 215 [.slice A n c,.slice B m d] w (λu w'=>u= .int .i64 (cI a b)/\Ext w w'):=by
 have Ka:=YG h;have aR:=YG h';have iE:=h.le;refine Qx (c:={dQ0 with cuts:=[]}) Qa Tryz.func215 rfl rfl rfl ?_;refine loop Qa [6,5] (λt:Nat×Nat=>[.int .i64 ((t.1+1:Nat):Int),.int .i64 t.2]) (λt w'=>Ext w w'/\CmI a.reverse b.reverse t.1 t.2) (λt _=>n-t.1) (0,0) rfl ⟨Ext.refl _,CmI.start _ _⟩ ?_;rintro⟨k,best⟩ w1 ⟨Qd,hC⟩;simp only at hC;have af:=Ext.drew w1;have hka:=hC.ka;have hkb:=hC.kb;rw[NU] at hka hkb;have K7:=Qd.trans af;have out:(a.reverse.length<=k∨b.reverse.length<=k∨a.reverse[k]? ≠b.reverse[k]?)->best=cI a b:=λhf=>hC.fin hf
 rw[NU,NU] at out;refine Xy Qa (Ext w1) 27 [(true,0),(true,1),(true,2),(true,3),(true,4),(true,5),(true,6),(true,7),(true,8),(true,9),(true,10),(true,11),(true,12),(true,13),(true,14),(true,15),(true,16),(true,17),(true,18),(true,19),(true,20),(true,21),(true,22),(true,23),(true,24),(true,25),(true,26)] (by kernel_rfl) af ?_;refine Qt (λc1=>?_) (λc1=>?_)
 ·refine Qt (λc2=>?_) (λc2=>?_)
  ·have Xp:k<n:=by simp only at c1;omega
   have oW:k<m:=by simp only at c2;omega
   have e1:a.reverse[k]? =a[n-(k+1)]? :=by rw[List.getElem?_reverse (by omega),Ka,show n-1-k=n-(k+1) by omega]
   have e2:b.reverse[k]? =b[m-(k+1)]? :=by rw[List.getElem?_reverse (by omega),aR,show m-1-k=m-(k+1) by omega]
   obtain⟨x,hx⟩:∃x,a[n-(k+1)]? =some x:=⟨_,Xb (by omega)⟩
   obtain⟨y,hy⟩:∃y,b[m-(k+1)]? =some y:=⟨_,Xb (by omega)⟩
   have ZP:=ha x (Q2 hx);have ci:=hb y (Q2 hy);refine Qj ((n-(k+1):Nat):Int) (by show((n:Nat):Int)-((k+1:Nat):Int)=_;omega) (by omega) ?_;refine ZF (h.ext Qd) (by omega) (λad u hA hu QR=>?_);rw[Wd hx] at hu;cases hu;refine QJ (v:=.string (Qe (x++ [10]))) (λw' Qb=>Qb.cell QR) ?_;refine Qj ((m-(k+1):Nat):Int) (by show((m:Nat):Int)-((k+1:Nat):Int)=_;omega) (by omega) ?_;refine ZF (h'.ext Qd) (by omega) (λad u hA hu QR=>?_);rw[Wd hy] at hu;cases hu;refine QJ (v:=.string (Qe (y++ [10]))) (λw' Qb=>Qb.cell QR) ?_;refine Qt (λc3=>?_) (λc3=>?_)
   ·have Xl:x=y:=(tZ ZP.1 ci.1).1 c3;subst Xl;have am:=hC.step (e1.trans hx) (e2.trans hy);have hdp:dp (a.reverse.take (k+1))=dp (a.drop (n-(k+1))):=by rw[pW a (k+1) (by omega),Gm,Ka]
    rw[hdp] at am;refine Qj ((n-(k+1):Nat):Int) (by show((n:Nat):Int)-((k+1:Nat):Int)=_;omega) (by omega) ?_;refine sF Qa rfl rfl rfl rfl rfl rfl (by omega) ?_;have ht:=(h.ext K7).from (l:=n-(k+1)) (by omega)
    rw[wQ] at ht;refine call (UM (a.drop (n-(k+1))) _ _ _ _ ht (λs hs=>ha s (av hs)) (by omega)) ?_;rintro _ _ ⟨rfl,rfl⟩;refine Qt (λc4=>?_) (λc4=>?_)
    ·rw[Qf c4] at am;refine Qj ((k+1+1:Nat):Int) (by show((k+1:Nat):Int)+1=_;omega) (by omega) ?_;exact⟨(k+1,k+1),rfl,⟨K7,am⟩,by show n-(k+1)<n-k;omega⟩
    ·rw[if_neg c4] at am;refine Qj ((k+1+1:Nat):Int) (by show((k+1:Nat):Int)+1=_;omega) (by omega) ?_;exact⟨(k+1,best),rfl,⟨K7,am⟩,by show n-(k+1)<n-k;omega⟩
   ·exact⟨by rw[<-out (.inr (.inr (λe=>c3 (by rw[e1,e2,hx,hy] at e;cases e;rfl))))],K7⟩
  ·exact⟨by rw[<-out (.inr (.inl (by simp only at c2;omega)))],K7⟩
 ·exact⟨by rw[<-out (.inl (by simp only at c1;omega))],K7⟩
theorem jQK (H L:List (List Nat))(A B:Option Addr)(n c m d:Nat)(w:World)(h:Sl w 1 A n c (Zs H))(h':Sl w 1 B m d (Zs L))(hH:We H)(hL:We L)(hn:n<=1000000000):
  Fn Tryz.prog 176 [.slice A n c,.slice B m d] w (λu w'=>u= .bool (decide (H=L))/\Ext w w'):=by
 have Ka:=YG h;have aR:=YG h';refine Qx (c:={dQD with cuts:=[]}) Qa Tryz.func176 rfl rfl rfl ?_;refine Yt (λc0=>?_) (λc0=>?_)
 ·refine⟨QO Value.bool (XS (λe=>c0 ?_)).symm,Ext.refl _⟩;rw[<-Ka,<-aR,e]
 have iB:n=m:=by omega
 refine loop Qa [5] (λi:Nat=>[.int .i64 i]) (λi w'=>Ext w w'/\i<=n/\H.take i=L.take i) (λi _=>n-i) 0 rfl ⟨Ext.refl _,Xt _,by simp⟩ ?_;rintro i w1 ⟨Qd,hi,ht⟩;have af:=Ext.drew w1;refine Qt (λc1=>?_) (λc1=>?_)
 ·have QN:i<n:=by omega
  obtain⟨x,hx⟩:∃x,H[i]? =some x:=⟨_,Xb (by omega)⟩
  obtain⟨y,hy⟩:∃y,L[i]? =some y:=⟨_,Xb (by omega)⟩
  have ZP:=hH x (Q2 hx);have ci:=hL y (Q2 hy);refine Xy Qa (Ext w1) 9 [(true,0),(true,1),(true,2),(true,3),(true,4),(true,5),(true,6),(true,7),(true,8)] (by kernel_rfl) af ?_;refine ZF (h.ext Qd) QN (λad u hA hu QR=>?_);rw[Wd hx] at hu;cases hu;refine QJ (v:=.string (Qe (x++ [10]))) (λw' Qb=>Qb.cell QR) ?_;refine ZF (h'.ext Qd) (by omega) (λad u hA hu QR=>?_);rw[Wd hy] at hu;cases hu;refine QJ (v:=.string (Qe (y++ [10]))) (λw' Qb=>Qb.cell QR) ?_;by_cases Xl:x=y
  ·refine Xv (by rw[Xl];simp) ?_;refine Qj ((i+1:Nat):Int) (by show((i:Nat):Int)+1=_;omega) (by omega) ?_;exact⟨i+1,rfl,⟨Qd.trans af,QN,by rw[KC,KC,ht,hx,hy,Xl]⟩,by show n-(i+1)<n-i;omega⟩
  ·refine Xe (by rw[XS (λhh=>Xl ((tZ ZP.1 ci.1).1 hh))];rfl) ?_;refine⟨QO Value.bool (XS (λe=>Xl ?_)).symm,Qd.trans af⟩;rw[e,hy] at hx;exact(Option.some.inj hx).symm
 ·have QN:i=n:=by omega
  subst QN;rw[Zz (by omega),Zz (by omega)] at ht;exact⟨QO Value.bool (XT ht).symm,Qd⟩
theorem jQL (ls:List (List Nat))(A:Option Addr)(n c:Nat)(w:World)(h:Sl w 1 A n c (Zs ls))(dW:(Qo ls).length<=1000000000):
  Fn Tryz.prog 122 [.slice A n c] w (λu w'=>u= .string (Qe (Qo ls))/\w=w'):=by
 have hl:=YG h;have jN:=tF ls;refine Qx (c:={cQY with cuts:=[]}) Qa Tryz.func122 rfl rfl rfl ?_;refine loop Qa [4,3] (λi:Nat=>[.int .i64 i,.string (Qe (Qo (ls.take i)))]) (λi w'=>w=w'/\i<=n) (λi _=>n-i) 0 rfl ⟨rfl,Xt _⟩ ?_;rintro i _ ⟨rfl,hi⟩;refine Qt (λc1=>?_) (λc1=>?_)
 ·have QN:i<n:=by omega
  obtain⟨s,hs⟩:∃s,ls[i]? =some s:=⟨_,Xb (by omega)⟩
  refine ZF h QN (λad u hA hu QR=>?_);rw[Wd hs] at hu;cases hu;refine load QR ?_;have hz:=Hm hs;have hp:=jQC ls (i+1);have z1:=XC (Qo (ls.take i));have z2:(Qe (s++ [10])).size=s.length+1:=by rw[XC];simp
  have e:Qo (ls.take (i+1))=Qo (ls.take i)++(s++ [10]):=by rw[KC,hs,zR];unfold Qo;rw[bH];simp
  refine Jz (v':=.string (Qe (Qo (ls.take (i+1))))) (by unfold maxLen;omega) (by rw[e];exact QO Value.string (dB _ _)) ?_;refine Qj ((i+1:Nat):Int) (by show((i:Nat):Int)+1=_;omega) (by omega) ?_;exact⟨i+1,rfl,⟨rfl,QN⟩,by show n-(i+1)<n-i;omega⟩
 ·have QN:i=n:=by omega
  subst QN;rw[Zz (by omega)];exact⟨rfl,rfl⟩
theorem jQM (l:List Nat)(w:World)(hl:∀x∈l,x<256)(Xf:l.length<=1000000000):
  Fn Tryz.prog 70 [.string (Qe l)] w (λu w'=>u= .bool (JD l)/\Ext w w'):=by
 have h8:∀s∈KP l,((∀b∈s,b<256)/\s.length<=l.length)/\s≠ []:=λs hs=>by
  refine⟨?_,jQG hs⟩;unfold KP at hs;split at hs
  ·exact Bv hl s (List.dropLast_subset _ hs)
  ·exact Bv hl s hs
 have oQg:(KP l).length<=1000000001:=by
  have h1:=tJ l;have h2:l.count 10<=l.length:=NQ;unfold KP;split
  ·rw[List.length_dropLast];omega
  ·omega
 rw[jQF];refine Qx (c:={c70 with cuts:=[]}) Qa Tryz.func70 rfl rfl rfl ?_;refine call (Ty l w hl Xf) ?_;rintro _ w1 ⟨A,c,rfl,Qd,C4⟩;have J7:=C4.sl;generalize KP l=ls at*;refine loop Qa [4] (λi:Nat=>[.int .i64 i]) (λi w'=>Ext w1 w'/\i<=ls.length/\(ls.take i).all lh=true) (λi _=>ls.length-i) 0 rfl ⟨Ext.refl _,Xt _,by simp⟩ ?_;rintro i w2 ⟨Qg,hi,hall⟩;have YW:=Ext.drew w2;refine Qt (λc1=>?_) (λc1=>?_)
 ·have QN:i<ls.length:=by omega
  obtain⟨s,hs⟩:∃s,ls[i]? =some s:=⟨_,Xb QN⟩
  obtain⟨⟨hb,lQ⟩,QK⟩:=h8 s (Q2 hs);have XG:=XC s;have Y1:0<s.length:=zV.2 QK;have no:lh s=false->false=ls.all lh:=λhh=>by
   symm;rw[List.all_eq_false];exact⟨s,Q2 hs,by rw[hh];decide⟩
  refine Xy Qa (Ext w2) 19 [(true,0),(true,1),(true,2),(true,3),(true,4),(true,5),(true,6),(true,7),(true,8),(true,9),(true,10),(true,11),(true,12),(true,13),(true,14),(true,15),(true,16),(false,17),(true,18)] (by kernel_rfl) YW ?_;refine ZF (J7.ext Qg) QN (λad u hA hu QR=>?_);rw[cz hs] at hu;cases hu;refine QJ (v:=.string (Qe s)) (λw' Qb=>Qb.cell QR) ?_;refine ZF (J7.ext Qg) QN (λad u hA hu QR=>?_);rw[cz hs] at hu;cases hu;refine QJ (v:=.string (Qe s)) (λw' Qb=>Qb.cell QR) ?_;refine Qj ((s.length-1:Nat):Int) (by rw[XG];omega) (by omega) ?_;obtain⟨z,hz⟩:∃z,s[s.length-1]? =some z:=⟨_,Xb (by omega)⟩
  have iL:s.getLast? =some z:=by rw[pm];exact hz
  refine az (by rw[XG];omega) (λz' YZ _=>?_);rw[Wa hb,hz] at YZ;cases YZ;refine Yt (λc2=>?_) (λc2=>?_)
  ·refine⟨QO Value.bool (no ?_),(Qd.trans Qg).trans YW⟩;unfold lh;rw[iL];have:¬z=10:=λe=>c2 (by rw[e];rfl)
   simp[this]
  ·have nI:z=10:=by omega
   refine ZF (J7.ext Qg) QN (λad u hA hu QR=>?_);rw[cz hs] at hu;cases hu;refine QJ (v:=.string (Qe s)) (λw' Qb=>Qb.cell QR) ?_;refine call (hQ7 s w2.drew hb) ?_;rintro _ _ ⟨rfl,rfl⟩;refine⟨YW,?_⟩;refine Kq (λc3=>?_) (λc3=>?_)
   ·refine⟨QO Value.bool (no ?_),(Qd.trans Qg).trans YW⟩;unfold lh;rw[c3];simp
   ·refine Qj ((i+1:Nat):Int) (by show((i:Nat):Int)+1=_;omega) (by omega) ?_;refine⟨i+1,rfl,⟨Qg.trans YW,QN,?_⟩,by show ls.length-(i+1)<ls.length-i;omega⟩;rw[dO hs,List.all_append,hall,aV,vl,List.all_nil,E0];unfold lh;rw[iL,nI,c3]<;>rfl
 ·refine⟨?_,Qd.trans Qg⟩;rw[Zz (by omega)] at hall;rw[hall]
theorem UN (A:Option Addr)(m c n:Nat)(nd:List Br)(r:Int)(w:World)(h:SB w A m c nd):
  Fn Tryz.prog 68 [Xg A m c r,.int .i64 n] w (λu w'=>u= .bool (JT n nd r)/\Ext w w'):=by
 have hn:=h.2;have ZO:=h.1.le;have WQ:=h.1.cap;simp only[maxLen] at WQ;refine Qx (c:={c68 with cuts:=[]}) Qa Tryz.func68 rfl rfl rfl ?_;refine new (λw1 Qd Q3 Qh=>?_);refine Qs Qh rfl ?_;refine call (PX A m c nd r w1 (h.ext Qd)) ?_;rintro _ w2 ⟨rfl,Qg⟩;have QT:=Qd.trans Qg;refine Yt (λc1=>?_) (λc1=>?_)
 ·refine⟨QO Value.bool ?_,QT⟩
  symm;refine YM.2 (λho=>c1 (hZ.1 ho).1)
 ·refine loop Qa [5] (λi:Nat=>[.int .i64 i]) (λi w'=>Ext w2 w'/\i<=m/\∀b∈nd.take i,b.v<n) (λi _=>m-i) 0 rfl ⟨Ext.refl _,Xt _,λb hb=>by simp at hb⟩ ?_;rintro i w3 ⟨Qi,hi,hall⟩;have QQ:=QT.trans Qi;refine load (((Qh.ext (Qg.trans Qi)).cell 0).trans rfl) ?_;refine Qt (λc2=>?_) (λc2=>?_)
  ·have QN:i<m:=by omega
   refine load (((Qh.ext (Qg.trans Qi)).cell 0).trans rfl) ?_;refine Zh YR (h.ext QQ) rfl QN (λad b hb hc=>?_);refine load (hc 0 _ rfl) ?_;refine Qt (λc3=>?_) (λc3=>?_)
   ·refine⟨QO Value.bool ?_,QQ⟩
    symm;refine YM.2 (λho=>?_);have:=(hZ.1 ho).2 b (Q2 hb);omega
   ·refine Qj ((i+1:Nat):Int) (by show((i:Nat):Int)+1=_;omega) (by omega) ?_;refine⟨i+1,rfl,⟨Qi,QN,λy hy=>?_⟩,by show m-(i+1)<m-i;omega⟩;rw[dO hb] at hy;rcases XH.1 hy with hy | hy
    ·exact hall y hy
    ·rw[QF.1 hy];omega
  ·refine⟨QO Value.bool ?_,QQ⟩
   symm;refine hZ.2 ⟨by simpa using c1,λb hb=>?_⟩;have:=hall b (by rw[Zz (by omega)];exact hb);exact this
theorem jQN {k:Nat}(hk:k<=12)(x y:DV){o o':BF}(w:World)(h:SB w x.A x.n x.c x.nd)(h':SB w y.A y.n y.c y.nd)(s:Set1 k x.nd x.r o)(s':Set1 k y.nd y.r o'):
  Fn Tryz.prog 69 [Xg x.A x.n x.c x.r,Xg y.A y.n y.c y.r] w (λu w'=>u= .bool ((Qu k o).all (λc=>o' (bits c)))/\Ext w w'):=by
 refine Qx (c:={c69 with cuts:=[]}) Qa Tryz.func69 rfl rfl rfl ?_;refine new (λw1 Qd Q3 Qh=>?_);refine new (λw2 Qg X0 Qv=>?_);have ua:=Qh.ext Qg;refine Qs ua rfl ?_;refine Qs Qv rfl ?_;refine Xm Qa [DV.cells x,DV.cells y] rfl rfl rfl rfl rfl ⟨rfl,rfl,rfl,rfl,⟨⟩⟩ rfl (λcs h=>by simp only[Q0,Jk,Jm] at h;rcases h with rfl | rfl<;>rfl) rfl (by decide) (by decide) ?_;intro w3 Qi JF Qw;have QQ:=Qd.trans (Qg.trans Qi);have nH:SlS DV.cells 2 w3 (some ⟨w2.heap.size,0,none⟩) 2 2 [x,y]:=⟨Sl.own (sz:=2) (n:=2) Qw (QD _) (by decide) (by simp[DV.cells]),rfl⟩
 refine call (fQl _ 2 2 [x,y] w3 nH (λz hz=>by
  rcases Q0.1 hz with rfl | hz
  ·exact h.ext QQ
  ·rw[QF.1 hz];exact h'.ext QQ)) ?_
 have hf:a8 [x,y]=0:=FP (λj z hj hz=>by
  match j,hz with
  | 0,hz=>cases hz;exact s.chk hk
  | 1,hz=>cases hz;exact s'.chk hk
  | j+2,hz=>(have h9:j+2<2:=hj;omega))
 rw[hf];rintro _ w4 ⟨rfl,Qq⟩;have XI:=QQ.trans Qq;refine JN rfl ?_;refine Qs (ua.ext (Qi.trans Qq)) rfl ?_;refine Qs (Qv.ext (Qi.trans Qq)) rfl ?_;refine call (GF hk x.A x.n x.c y.A y.n y.c w4 (h.ext XI) (h'.ext XI) s s') ?_;rintro _ w5 ⟨MA,mm,mc,mnd,mr,rfl,Qz,Z9,sM,_⟩;refine⟨QO Value.bool ?_,XI.trans Qz⟩;have h0:=sM.root0;have h1:Qu k (λe=>o e && !o' e)=[]↔(Qu k o).all (λc=>o' (bits c))=true:=by
  rw[Hg,VT];unfold gj;rw[vt];exact⟨λhh c hc=>by have:=hh c hc;simpa using this,λhh c hc=>by have:=hh c hc;simpa using this⟩
 cases hall:(Qu k o).all (λc=>o' (bits c))with
 | true=>exact beq_iff_eq.2 (h0.2 (h1.2 hall))
 | false=>
  refine YM.2 (λhh=>?_);have:=h1.1 (h0.1 (beq_iff_eq.1 hh));rw[hall] at this;cases this
theorem jQO (nm:List (List Nat))(v:Nat)(H L:List (List Nat))(A B:Option Addr)(n c m d:Nat)(w:World)(h:Sl w 1 A n c (Zs H))(h':Sl w 1 B m d (Zs L))(hH:We H)(hL:We L)(hv:(Vx nm v).length<=1000000000)(hn:n<=100000000)(hm:m<=100000000):
  Fn Tryz.prog 177 [.string (Qe (Vx nm v)),.slice A n c,.slice B m d] w (λu w'=>jm w u ((YE nm v H L).map (·++ [10])) w'):=by
 have hHl:=YG h;have lW:=YG h';refine Qx (c:={dQE with cuts:=[]}) Qa Tryz.func177 rfl rfl rfl ?_;refine call (jQI H L A B n c m d w h h' hH hL (by omega)) ?_;rintro _ w1 ⟨rfl,Qd⟩;obtain⟨p1,p2,_,_,_⟩:=wI H L;generalize hp:Vn H L=p at*;have ZO:=h.le;have mQy:=h'.le;refine Xm Qa [] rfl rfl rfl rfl rfl ⟨⟩ rfl (λcs h=>by cases h) rfl (by decide) (by decide) ?_;intro w2 Qg X0 Qv;refine ct Qa rfl rfl rfl rfl rfl rfl (by omega) ?_;have ht:=((h.ext Qd).ext Qg).take (m:=p) (by omega);rw[WV,p8] at ht;have qY:Own w2 w1.heap.size 9 1 (some ⟨w1.heap.size,0,none⟩) 0 0 []:=Own.empty Qv (QD _);refine Zk (n:=0) Qa rfl rfl rfl rfl rfl (by decide) rfl rfl ⟨_,rfl⟩ rfl rfl qY ht (Ku _) (by unfold maxLen;omega) (by show(0+p)*16<=_;omega) Qg.size ?_;intro O oc w3 XE Wl _;rw[dw] at Wl;rw[aq] at Wl ⊢;have lo:Lo w1 w3 O p oc (H.take p):=⟨XE.ext Qg (λk hk=>(qY.rows k hk).1),Wl⟩
 have q1:=(h.ext Qd).from (l:=p) (by omega)
 have q2:=(h'.ext Qd).from (l:=p) (by omega)
 rw[wQ] at q1 q2;refine sF Qa rfl rfl rfl rfl rfl rfl (by omega) ?_;refine sF Qa rfl rfl rfl rfl rfl rfl (by omega) ?_;have M0:(H.drop p).length=n-p:=by rw[Y5];omega
 have M1:(L.drop p).length=m-p:=by rw[Y5];omega
 have bD:∀{X:List (List Nat)} {k:Nat},We X->We (X.drop k):=λhX s hs=>hX s (av hs)
 refine call (jQJ (H.drop p) (L.drop p) _ _ _ _ _ _ w3 (q1.ext lo.e) (q2.ext lo.e) (bD hH) (bD hL) (by omega) (by omega)) ?_;rintro _ w4 ⟨rfl,Qq⟩;have x8:=lo.ext Qq;obtain⟨s1,s2,_⟩:=Gp (H.drop p) (L.drop p);generalize hs:cI (H.drop p) (L.drop p)=s at*;refine Qj ((n-p-s:Nat):Int) (by omega) (by omega) ?_;refine sF Qa rfl rfl rfl rfl rfl rfl (by omega) ?_;refine Qj ((n-p-s:Nat):Int) (by omega) (by omega) ?_;refine ct Qa rfl rfl rfl rfl rfl rfl (by omega) ?_;refine Qj ((m-p-s:Nat):Int) (by omega) (by omega) ?_;refine ct Qa rfl rfl rfl rfl rfl rfl (by omega) ?_;have r1:=q1.take (m:=n-p-s) (by omega);have r2:=q2.take (m:=m-p-s) (by omega);have rE:=q1.from (l:=n-p-s) (by omega)
 rw[WV (n-p-s),p8] at r1;rw[WV (m-p-s),p8] at r2;rw[wQ] at rE;have hj:YE nm v H L=H.take p++((if(H.drop p).take (n-p-s)=[] then JS nm v true::(L.drop p).take (m-p-s)else JS nm v false::((H.drop p).take (n-p-s)++if(L.drop p).take (m-p-s)=[] then [] else Vl::(L.drop p).take (m-p-s)))++Zq::(H.drop p).drop (n-p-s)):=by
  unfold YE;simp only[hp,hs,M0,M1]
 have IZ:=YG r1;have I0:=YG r2;have lE:=YG rE;generalize (H.drop p).take (n-p-s)=H2 at*;generalize (L.drop p).take (m-p-s)=L2 at*;generalize (H.drop p).drop (n-p-s)=E at*;have fQ:=XC (Vx nm v);have h1s:(Qe [10]).size=1:=rfl;refine XU (λc7=>?_) (λc7=>?_)
 ·have e2:H2=[]:=Ys (by omega);rw[Qf e2] at hj;have fe:=XC (ZH++(33::Vx nm v));refine Jz (v':=.string (Qe (ZH++(33::Vx nm v)))) (by show(Qe [35,105,102,32,33]).size+_<=_;rw[XC,fQ];show 5+_<=_;unfold maxLen;omega) (by show Value.string (Qe (ZH++ [33])++Qe (Vx nm v))=_;rw[dB];rfl) ?_;refine Jz (v':=.string (Qe (JS nm v true++ [10]))) (by rw[fe];show _+1<=_;simp[ZH];unfold maxLen;omega) (by show Value.string (Qe (ZH++(33::Vx nm v))++Qe [10])=_;rw[dB];rfl) ?_;refine Xm Qa [[Value.string (Qe (JS nm v true++ [10]))]] rfl rfl rfl rfl rfl ⟨rfl,rfl,⟨⟩⟩ rfl (λcs h=>by simp only[QF] at h;subst h;rfl) rfl (by decide) (by decide) ?_;intro wxa rT M2 rU;have sxa:Sl wxa 1 _ 1 1 (Zs [JS nm v true]):=Sl.own' (n:=1) rU rfl (by decide);have lya:=x8.ext rT;have lza:=lya.len;refine Zk Qa rfl rfl rfl rfl rfl (by decide) rfl rfl ⟨_,rfl⟩ rfl rfl lya.ow sxa (Ku _) (by unfold maxLen;omega) (by show(_+1)*16<=_;omega) lya.e.size ?_;intro Oa oca wa rV rW _;have loa:=lya.app rV rW;refine Zk Qa rfl rfl rfl rfl rfl (by decide) rfl rfl ⟨_,rfl⟩ rfl rfl loa.ow (r2.ext loa.e) (Ku _) (by unfold maxLen;omega) (by show(_+_)*16<=_;omega) loa.e.size ?_;intro Ob ocb wb rX rY _;have lob:=loa.app rX rY;refine Xm Qa [[Value.string (Qe (Zq++ [10]))]] rfl rfl rfl rfl rfl ⟨rfl,rfl,⟨⟩⟩ rfl (λcs h=>by simp only[QF] at h;subst h;rfl) rfl (by decide) (by decide) ?_;intro wxc iQ zt iR;have sxc:Sl wxc 1 _ 1 1 (Zs [Zq]):=Sl.own' (n:=1) iR rfl (by decide);have lyc:=lob.ext iQ;have lzc:=lyc.len;refine Zk Qa rfl rfl rfl rfl rfl (by decide) rfl rfl ⟨_,rfl⟩ rfl rfl lyc.ow sxc (Ku _) (by unfold maxLen;omega) (by show(_+1)*16<=_;omega) lyc.e.size ?_;intro Oc occ wc gG iS _;have loc:=lyc.app gG iS;refine Zk Qa rfl rfl rfl rfl rfl (by decide) rfl rfl ⟨_,rfl⟩ rfl rfl loc.ow (rE.ext loc.e) (Ku _) (by unfold maxLen;omega) (by show(_+_)*16<=_;omega) loc.e.size ?_;intro Od ocd wd YJ iT _;have lod:=loc.app YJ iT;have fin:=lod.fin Qd;have e9:((((H.take p++ [JS nm v true])++L2)++ [Zq])++E)=YE nm v H L:=by rw[hj];simp
  rw[e9] at fin;exact fin
 ·have e2:H2≠ []:=λe=>c7 (by subst e;simp at IZ;omega)
  rw[if_neg e2] at hj;have fe:=XC (ZH++Vx nm v);refine Jz (v':=.string (Qe (ZH++Vx nm v))) (by show(Qe [35,105,102,32]).size+_<=_;rw[XC,fQ];show 4+_<=_;unfold maxLen;omega) (by show Value.string (Qe ZH++Qe (Vx nm v))=_;rw[dB]) ?_;refine Jz (v':=.string (Qe (JS nm v false++ [10]))) (by rw[fe];show _+1<=_;simp[ZH];unfold maxLen;omega) (by show Value.string (Qe (ZH++Vx nm v)++Qe [10])=_;rw[dB];rfl) ?_;refine Xm Qa [[Value.string (Qe (JS nm v false++ [10]))]] rfl rfl rfl rfl rfl ⟨rfl,rfl,⟨⟩⟩ rfl (λcs h=>by simp only[QF] at h;subst h;rfl) rfl (by decide) (by decide) ?_;intro wxa rT M2 rU;have sxa:Sl wxa 1 _ 1 1 (Zs [JS nm v false]):=Sl.own' (n:=1) rU rfl (by decide);have lya:=x8.ext rT;have lza:=lya.len;refine Zk Qa rfl rfl rfl rfl rfl (by decide) rfl rfl ⟨_,rfl⟩ rfl rfl lya.ow sxa (Ku _) (by unfold maxLen;omega) (by show(_+1)*16<=_;omega) lya.e.size ?_;intro Oa oca wa rV rW _;have loa:=lya.app rV rW;refine Zk Qa rfl rfl rfl rfl rfl (by decide) rfl rfl ⟨_,rfl⟩ rfl rfl loa.ow (r1.ext loa.e) (Ku _) (by unfold maxLen;omega) (by show(_+_)*16<=_;omega) loa.e.size ?_;intro Ob ocb wb rX rY _;have lob:=loa.app rX rY;refine Qt (λc8=>?_) (λc8=>?_)
  ·have e3:L2≠ []:=λe=>by subst e;simp at I0;omega
   rw[if_neg e3] at hj;refine Xm Qa [[Value.string (Qe (Vl++ [10]))]] rfl rfl rfl rfl rfl ⟨rfl,rfl,⟨⟩⟩ rfl (λcs h=>by simp only[QF] at h;subst h;rfl) rfl (by decide) (by decide) ?_;intro wxc iQ zt iR;have sxc:Sl wxc 1 _ 1 1 (Zs [Vl]):=Sl.own' (n:=1) iR rfl (by decide);have lyc:=lob.ext iQ;have lzc:=lyc.len;refine Zk Qa rfl rfl rfl rfl rfl (by decide) rfl rfl ⟨_,rfl⟩ rfl rfl lyc.ow sxc (Ku _) (by unfold maxLen;omega) (by show(_+1)*16<=_;omega) lyc.e.size ?_;intro Oc occ wc gG iS _;have loc:=lyc.app gG iS;refine Zk Qa rfl rfl rfl rfl rfl (by decide) rfl rfl ⟨_,rfl⟩ rfl rfl loc.ow (r2.ext loc.e) (Ku _) (by unfold maxLen;omega) (by show(_+_)*16<=_;omega) loc.e.size ?_;intro Od ocd wd YJ iT _;have lod:=loc.app YJ iT;refine Xm Qa [[Value.string (Qe (Zq++ [10]))]] rfl rfl rfl rfl rfl ⟨rfl,rfl,⟨⟩⟩ rfl (λcs h=>by simp only[QF] at h;subst h;rfl) rfl (by decide) (by decide) ?_;intro wxe M3 mQz M4;have sxe:Sl wxe 1 _ 1 1 (Zs [Zq]):=Sl.own' (n:=1) M4 rfl (by decide);have lye:=lod.ext M3;have lze:=lye.len;refine Zk Qa rfl rfl rfl rfl rfl (by decide) rfl rfl ⟨_,rfl⟩ rfl rfl lye.ow sxe (Ku _) (by unfold maxLen;omega) (by show(_+1)*16<=_;omega) lye.e.size ?_;intro Oe oce we jV M5 _;have loe:=lye.app jV M5;refine Zk Qa rfl rfl rfl rfl rfl (by decide) rfl rfl ⟨_,rfl⟩ rfl rfl loe.ow (rE.ext loe.e) (Ku _) (by unfold maxLen;omega) (by show(_+_)*16<=_;omega) loe.e.size ?_;intro Of ocf wf M6 M7 _;have lof:=loe.app M6 M7;have fin:=lof.fin Qd;have e9:((((((H.take p++ [JS nm v false])++H2)++ [Vl])++L2)++ [Zq])++E)=YE nm v H L:=by rw[hj];simp
   rw[e9] at fin;exact fin
  ·have e3:L2=[]:=Ys (by omega);rw[Qf e3] at hj;refine Xm Qa [[Value.string (Qe (Zq++ [10]))]] rfl rfl rfl rfl rfl ⟨rfl,rfl,⟨⟩⟩ rfl (λcs h=>by simp only[QF] at h;subst h;rfl) rfl (by decide) (by decide) ?_;intro wxc iQ zt iR;have sxc:Sl wxc 1 _ 1 1 (Zs [Zq]):=Sl.own' (n:=1) iR rfl (by decide);have lyc:=lob.ext iQ;have lzc:=lyc.len;refine Zk Qa rfl rfl rfl rfl rfl (by decide) rfl rfl ⟨_,rfl⟩ rfl rfl lyc.ow sxc (Ku _) (by unfold maxLen;omega) (by show(_+1)*16<=_;omega) lyc.e.size ?_;intro Oc occ wc gG iS _;have loc:=lyc.app gG iS;refine Zk Qa rfl rfl rfl rfl rfl (by decide) rfl rfl ⟨_,rfl⟩ rfl rfl loc.ow (rE.ext loc.e) (Ku _) (by unfold maxLen;omega) (by show(_+_)*16<=_;omega) loc.e.size ?_;intro Od ocd wd YJ iT _;have lod:=loc.app YJ iT;have fin:=lod.fin Qd;have e9:((((H.take p++ [JS nm v false])++H2)++ [Zq])++E)=YE nm v H L:=by rw[hj];simp
   rw[e9] at fin;exact fin
abbrev KQ (l:List Nat):List Value:=l.map (λc=>Value.int .u64 (c:Nat))
theorem Co (l:List Nat):(KQ l).length=l.length:=by simp[KQ]
theorem HE {l:List Nat}{j c:Nat}(h:l[j]? =some c):(KQ l)[j]? =some (.int .u64 (c:Nat)):=by simp[KQ,h]
theorem UO (a b:List Nat):KQ (a++b)=KQ a++KQ b:=by simp[KQ]
theorem UP (l:List Nat):∀u∈KQ l,Jw u=true:=λu hu=>by
 obtain⟨c,_,rfl⟩:=ZM.1 hu;rfl
theorem jQP (v:Nat)(hv:v<=6):IntKind.u64.wrap (1*2^(min ((v:Nat):Int).toNat IntKind.u64.bits))=((2^v:Nat):Int):=by
 match v,hv with
 | 0,_=>rfl
 | 1,_=>rfl
 | 2,_=>rfl
 | 3,_=>rfl
 | 4,_=>rfl
 | 5,_=>rfl
 | 6,_=>rfl
theorem jQQ (x:DV)(n:Nat)(hn:n<=6)(w:World)(h:SB w x.A x.n x.c x.nd)(hc:XK x.nd x.r=0):
  Fn Tryz.prog 78 [Xg x.A x.n x.c x.r,.int .i64 n] w (λu w'=>∃A c,u= .slice A (Qu n (oD x)).length c/\Ext w w'/\Sl w' 1 A (Qu n (oD x)).length c (KQ (Qu n (oD x)))):=by
 have dS:2^n<=64:=Y6 (n:=2) (by decide) hn;refine Qx (c:={c78 with cuts:=[]}) Qa Tryz.func78 rfl rfl rfl ?_;refine new (λw1 Qd Q3 Qh=>?_);refine Xm Qa [] rfl rfl rfl rfl rfl ⟨⟩ rfl (λcs h=>by cases h) rfl (by decide) (by decide) ?_;intro w2 Qg X0 Qv;refine loop Qa [6,5] (λt:Nat×List Nat×Option Addr×Nat=>[.int .u64 t.1,.slice t.2.2.1 t.2.1.length t.2.2.2]) (λt w'=>Ext w1 w'/\t.1<=2^n/\t.2.1=(List.range t.1).filter (λc=>oD x (bits c))/\Own w' w1.heap.size 45 1 t.2.2.1 t.2.1.length t.2.2.2 (KQ t.2.1)) (λt _=>2^n-t.1) (0,[],some ⟨w1.heap.size,0,none⟩,0) rfl ⟨Qg,Xt _,rfl,Own.empty Qv (QD _)⟩ ?_;rintro⟨c,L,O,oc⟩ w3 ⟨Qi,yB,D8,Wl⟩;simp only at yB D8 Wl;have jN:L.length<=c:=by rw[D8];exact X2 (j6 _ _) (by rw[List.length_range];exact QD _)
 refine gP ((n:Nat):Int) rfl (by omega) ?_;refine normIf (m:=((2^n:Nat):Int)) (by omega) (jQP n hn) ?_;generalize hq:2^n=q at*;have KK:(List.range (c+1)).filter (λc=>oD x (bits c))=L++(if oD x (bits c)=true then [c] else []):=by
  rw[List.range_succ,pr,<-D8,po,vy]
 refine Qt (λc1=>?_) (λc1=>?_)
 ·have EH:c<q:=by simp only at c1;omega
  refine Qs (Qh.ext Qi) rfl ?_;refine call (GJ x.A x.n x.c x.nd x.r c (by omega) w3 (h.ext (Qd.trans Qi)) hc) ?_;rintro _ w4 ⟨rfl,Qq⟩;have fB:ev x.nd x.r (cK c)=oD x (bits c):=by rw[UL]<;>rfl
  rw[fB];refine Kq (λc2=>?_) (λc2=>?_)
  ·refine Xm Qa [[Value.int .u64 (c:Nat)]] rfl rfl rfl rfl rfl ⟨rfl,rfl,⟨⟩⟩ rfl (λcs h=>by simp only[QF] at h;subst h;rfl) rfl (by decide) (by decide) ?_;intro w5 Qz Kw QL;have fd:Sl w5 1 _ 1 1 (KQ [c]):=Sl.own' (n:=1) QL rfl (by decide);refine Zk (n:=L.length) Qa rfl rfl rfl rfl rfl (by decide) rfl rfl ⟨_,rfl⟩ rfl rfl (Wl.ext (Qq.trans Qz)) fd (UP _) (by unfold maxLen;omega) (by show(L.length+1)*8<=_;omega) (Qi.trans (Qq.trans Qz)).size ?_;intro O2 oc2 w6 VY cT _;rw[<-UO] at cT;refine gP ((c+1:Nat):Int) (by show((c:Nat):Int)+1=_;omega) (by omega) ?_;refine⟨(c+1,L++ [c],O2,oc2),by simp only[Qy];rfl,⟨VY.ext (Qi.trans (Qq.trans Qz)) (λk hk=>(Wl.rows k hk).1),EH,by simp only;rw[KK,Qf c2],by simp only;rw[Qy];exact cT⟩,by show q-(c+1)<q-c;omega⟩
  ·refine gP ((c+1:Nat):Int) (by show((c:Nat):Int)+1=_;omega) (by omega) ?_;exact⟨(c+1,L,O,oc),rfl,⟨Qi.trans Qq,EH,by simp only;rw[KK,if_neg (by rw[c2];decide),Yr],Wl.ext Qq⟩,by show q-(c+1)<q-c;omega⟩
 ·have EH:c=q:=by
   have c1:¬((c:Nat):Int)<((q:Nat):Int):=c1;omega
  have e:Qu n (oD x)=L:=by rw[D8,EH,<-hq]<;>rfl
  rw[e];exact⟨O,oc,rfl,Qd.trans Qi,Wl.sl⟩
def bi {α:Type}(D:Bool->α)(b:Bool)(x:α):Bool->α:=λb'=>if b'=b then x else D b'
theorem Cp {α:Type}(D:Bool->α)(b:Bool)(x:α):bi D b x b=x:=by unfold bi;rw[Qf rfl]
theorem xa {α:Type}(D:Bool->α){b b':Bool}(x:α)(h:b'≠b):bi D b x b'=D b':=by unfold bi;rw[if_neg h]
def bN (b:Bool):Nat:=if b then 1 else 0
theorem UQ (b:Bool):bN b<2:=by cases b<;>decide
def Zl (v:Nat)(l:List Nat)(b:Bool):List Nat:=l.filter (λc=>c.testBit v==b)
theorem UR (v:Nat){l:List Nat}{i c:Nat}(h:l[i]? =some c)(b:Bool):Zl v (l.take (i+1)) b=Zl v (l.take i) b++(if b=c.testBit v then [c] else []):=by
 unfold Zl;rw[dO h,pr,po,vy];congr 1;cases b<;>cases c.testBit v<;>rfl
theorem xb (v:Nat)(l:List Nat)(b:Bool):(Zl v l b).length<=l.length:=j6 _ _
theorem HF (v:Nat)(l:List Nat):Zl v l true=cN l v:=N0 (λc _=>by cases c.testBit v<;>rfl)
theorem HG (v:Nat)(l:List Nat):Zl v l false=eQ l v:=N0 (λc _=>by cases c.testBit v<;>rfl)
structure Fam (w:World) (base e:Nat) (L:Bool->List Value) (D:Bool->Option Addr×Nat):Prop where
 od:∀b,Own w base e 1 (D b).1 (L b).length (D b).2 (L b)
 dd:∀b b' k,b≠b'->Qk (D b).1 k->¬Qk (D b').1 k
abbrev bj (L:Bool->List Value)(D:Bool->Option Addr×Nat)(b:Bool):Value:=.slice (D b).1 (L b).length (D b).2
theorem Fam.keep {S:Nat->Prop}{w w':World}{base e:Nat}{L:Bool->List Value}{D:Bool->Option Addr×Nat}(h:Fam w base e L D)(k:Mod S w w')(hs:∀b i,Qk (D b).1 i->¬S i):Fam w' base e L D:=⟨λb=>(h.od b).mod k (hs b),h.dd⟩
theorem Fam.step {w w7 w8:World}{base e:Nat}{L:Bool->List Value}{D:Bool->Option Addr×Nat}{b:Bool}{A:Option Addr}{c:Nat}{y:Value}(h:Fam w base e L D)(hE:Ext w w7)(hm:Mod (Qk (D b).1) w7 w8)(hO:Own w8 base e 1 A ((L b).length+1) c (L b++ [y]))(hmv:Moved w7 (D b).1 A):Fam w8 base e (bi L b (L b++ [y])) (bi D b (A,c)):=by
 have XG:=hE.size;refine⟨λb'=>?_,λb1 b2 k QK h1 h2=>?_⟩
 ·by_cases hb:b'=b
  ·subst hb;rw[Cp,Cp,Qy];exact hO
  ·rw[xa _ _ hb,xa _ _ hb];exact((h.od b').ext hE).mod hm (λk hk=>h.dd b' b k hb hk)
 ·by_cases uq:b1=b
  ·subst uq;rw[Cp] at h1;rw[xa _ _ (λe=>QK e.symm)] at h2;rcases hmv.rows k h1 with h3 | h3
   ·exact h.dd _ _ k QK h3 h2
   ·have:=((h.od b2).rows k h2).2;omega
  ·rw[xa _ _ uq] at h1;by_cases hb2:b2=b
   ·subst hb2;rw[Cp] at h2;rcases hmv.rows k h2 with h3 | h3
    ·exact h.dd _ _ k QK h1 h3
    ·have:=((h.od b1).rows k h1).2;omega
   ·rw[xa _ _ hb2] at h2;exact h.dd b1 b2 k QK h1 h2
theorem US {w:World}{b1 b2 e1 e2 n1 n2 c1 c2:Nat}{A B:Option Addr}{x y:List Value}(h:Own w b1 e1 1 A n1 c1 x)(h':Own w b2 e2 1 B n2 c2 y)(he:e1≠e2):∀k,Qk A k->¬Qk B k:=λk hk Yn=>by
 obtain⟨u,hu⟩:=h.kind hk;obtain⟨u',fM⟩:=h'.kind Yn;rw[hu] at fM;simp only[Option.some.injEq,Obj.cells.injEq] at fM;exact he fM.2.1
theorem UT {α:Type}(b:Bool)(g:Bool->α): [g false,g true][bN b]? =some (g b):=by cases b<;>rfl
theorem jQR (c v:Nat):c/2^v % 2=bN (c.testBit v):=by
 unfold bN;rw[bQQ];by_cases h:c/2^v % 2=1
 ·rw[XT h,Qf rfl,h]
 ·rw[XS h,if_neg (by decide)];have:=j5 (c/2^v) (show 0<2 by decide);omega
theorem UU (L:Bool->List Value)(D:Bool->Option Addr×Nat)(b:Bool)(A:Option Addr)(c:Nat)(y:Value): [bj L D false,bj L D true].set (bN b) (.slice A ((L b).length+1) c)=[bj (bi L b (L b++ [y])) (bi D b (A,c)) false,bj (bi L b (L b++ [y])) (bi D b (A,c)) true]:=by
 cases b<;>simp[bj,bi,bN]
theorem jQS (v:Nat){l:List Nat}{i c:Nat}(h:l[i]? =some c):(λb=>KQ (Zl v (l.take (i+1)) b))=bi (λb=>KQ (Zl v (l.take i) b)) (c.testBit v) (KQ (Zl v (l.take i) (c.testBit v))++ [.int .u64 (c:Nat)]):=by
 funext b;rw[UR v h,UO];unfold bi;by_cases hb:b=c.testBit v
 ·rw[Qf hb,Qf hb,hb]<;>rfl
 ·rw[if_neg hb,if_neg hb];exact Yr _
theorem jQT (f:Nat->List Nat)(v:Nat){l:List Nat}{i c:Nat}(h:l[i]? =some c):(λb=>Q9 ((Zl v (l.take (i+1)) b).map f))=bi (λb=>Q9 ((Zl v (l.take i) b).map f)) (c.testBit v) (Q9 ((Zl v (l.take i) (c.testBit v)).map f)++ [.string (Qe (f c))]):=by
 funext b;rw[UR v h,dx];unfold bi;by_cases hb:b=c.testBit v
 ·rw[Qf hb,Qf hb,hb];simp[Q9]
 ·rw[if_neg hb,if_neg hb];simp[Q9]
theorem jQU (nm:List (List Nat))(iB:nm.length<=4)(Je:∀s∈nm,s.length<=1000)(JX:Jy nm)(f:Nat->List Nat):
  ∀(k v:Nat) (l:List Nat) (NA:Option Addr) (nc:Nat) (CA:Option Addr) (cc:Nat) (TA:Option Addr) (tc:Nat) (w:World),v+k=nm.length->l≠ []->l.length<=16->(∀c∈l,c<16)->(∀c∈l,JD (f c)=true/\(∀b∈f c,b<256)/\(f c).length<=2000)->
  Sl w 1 NA nm.length nc (Q9 nm)->Sl w 1 CA l.length cc (KQ l)->Sl w 1 TA l.length tc (Q9 (l.map f))->
  Fn Tryz.prog 123 [.slice NA nm.length nc,.slice CA l.length cc,.slice TA l.length tc,.int .i64 v] w (λu w'=>jm w u ((Xw nm f k v l).map (·++ [10])) w'):=by
 intro k;induction k using Nat.strongRecOn with
 | ind k ih=>
 intro v l NA nc CA cc TA tc w yX QK oF rz hf hN hC hT;obtain⟨c0,l0,lm⟩:∃c0 l0,l=c0::l0:=by
  cases l with
  | nil=>exact Xd rfl QK
  | cons c0 l0=>exact⟨c0,l0,rfl⟩
 have Y1:0<l.length:=zV.2 QK;have qt:c0∈l:=by rw[lm];simp
 obtain⟨f0p,f0b,f0l⟩:=hf c0 qt;have L9:(Q9 (l.map f))[0]? =some (.string (Qe (f c0))):=by rw[lm]<;>rfl
 have hTg:∀{i c:Nat},l[i]? =some c->(Q9 (l.map f))[i]? =some (Value.string (Qe (f c))):=λh=>cz (by rw[Vi,h];rfl)
 have mQP:KP (f c0)=(QZ (f c0)).map (·++ [10]):=pX (by unfold JD at f0p;rw[Jv] at f0p;exact jn f0p.1);have bQJ:∀{w1:World},Ext w w1->Xw nm f k v l=QZ (f c0)->Fn Tryz.prog 19 [.string (Qe (f c0))] w1 (λu w'=>jm w u ((Xw nm f k v l).map (·++ [10])) w'):=λhE e=>by
  refine(Ty (f c0) _ f0b (by omega)).mono ?_;rintro u w' ⟨A,c,rfl,Qg,qY⟩;rw[e,<-mQP];exact⟨A,c,rfl,hE.trans Qg,qY.sl,λh0=>by obtain⟨g,sp,hA,_⟩:=qY.blk h0;exact⟨g,0,hA⟩⟩
 refine Qx (c:={cQZ with cuts:=[]}) Qa Tryz.func123 rfl rfl rfl ?_;refine loop Qa [10,9] (λt:Nat×Bool=>[.int .i64 t.1,.bool t.2]) (λt w'=>Ext w w'/\1<=t.1/\t.1<=l.length/\t.2=(l.take t.1).all (λc=>decide (f c=f c0))) (λt _=>l.length-t.1) (1,true) rfl ⟨Ext.refl _,QD _,Y1,by rw[lm];simp⟩ ?_;rintro⟨i,b⟩ w1 ⟨Qd,hi1,hi,hb⟩;simp only at hi1 hi hb;refine Qt (λc1=>?_) (λc1=>?_)
 ·have QN:i<l.length:=by
   have c1:((i:Nat):Int)<((l.length:Nat):Int):=c1;omega
  obtain⟨c,hc⟩:∃c,l[i]? =some c:=⟨_,Xb QN⟩
  have Mm:=hf c (Q2 hc);have af:=Ext.drew w1;have KK:(l.take (i+1)).all (λc=>decide (f c=f c0))=(b&&decide (f c=f c0)):=by rw[dO hc,List.all_append,<-hb];simp
  refine Xy Qa (Ext w1) 12 [(true,0),(true,1),(true,2),(true,3),(true,4),(true,5),(true,6),(true,7),(true,8),(true,9),(true,10),(true,11)] (by kernel_rfl) af ?_;refine Kq (λWw=>?_) (λWw=>?_)
  ·refine ZF (hT.ext Qd) (j:=i) QN (λad u hA hu QR=>?_);rw[hTg hc] at hu;cases hu;refine QJ (v:=.string (Qe (f c))) (λw' Qb=>Qb.cell QR) ?_;refine ZF (hT.ext Qd) (j:=0) Y1 (λad u hA hu QR=>?_);rw[L9] at hu;cases hu;refine QJ (v:=.string (Qe (f c0))) (λw' Qb=>Qb.cell QR) ?_;refine Qj ((i+1:Nat):Int) (by show((i:Nat):Int)+1=_;omega) (by omega) ?_;refine⟨(i+1,decide (Qe (f c)=Qe (f c0))),rfl,⟨Qd.trans af,by show 1<=i+1;omega,QN,?_⟩,by show l.length-(i+1)<l.length-i;omega⟩;simp only;have Ww:b=true:=Ww;rw[KK,Ww,aV];exact mB.2 ⟨λhh=>Z6 Mm.2.1 f0b hh,λhh=>by rw[hh]⟩
  ·refine Qj ((i+1:Nat):Int) (by show((i:Nat):Int)+1=_;omega) (by omega) ?_;refine⟨(i+1,false),rfl,⟨Qd.trans af,by show 1<=i+1;omega,QN,?_⟩,by show l.length-(i+1)<l.length-i;omega⟩;simp only;have Ww:b=false:=Ww;rw[KK,Ww,Bool.false_and]
 have QN:i=l.length:=by
  have c1:¬((i:Nat):Int)<((l.length:Nat):Int):=c1;omega
 rw[Zz (by omega)] at hb;refine Kq (λWw=>?_) (λWw=>?_)
 ·have Ww:b=true:=Ww;have hall:∀c∈l,f c=f c0:=λc hc=>by
   rw[Ww] at hb;exact eB (VT.1 hb.symm c hc)
  refine ZF (hT.ext Qd) (j:=0) Y1 (λad u hA hu QR=>?_);rw[L9] at hu;cases hu;refine load QR ?_;refine call (bQJ Qd (tM QK hall k v)) ?_;exactλu w' h=>h
 refine XU (λc2=>?_) (λc2=>?_)
 ·have ry:k=0:=by omega
  have e0:Xw nm f k v l=QZ (f c0):=by subst ry;rw[lm]<;>rfl
  refine ZF (hT.ext Qd) (j:=0) Y1 (λad u hA hu QR=>?_);rw[L9] at hu;cases hu;refine load QR ?_;refine call (bQJ Qd e0) ?_;exactλu w' h=>h
 obtain⟨k,rfl⟩:∃k',k=k'+1:=⟨k-1,by omega⟩
 refine new (λw2 Qg X0 Qv=>?_);refine QB Qv rfl (sc rfl) (λw3 ZZ _ Qw=>?_);have Xq:=XY Qg Qv ZZ;refine new (λw4 Qq K5 Q6=>?_);refine QB Q6 rfl (sc rfl) (λw5 Jr _ QL=>?_);have JL:=XY Qq Q6 Jr;have VF:=Xq.trans JL;have lQT:=Qw.ext JL;have hp1:w1.heap.size<w3.heap.size:=Qw.lt;have Ic:w3.heap.size<w5.heap.size:=QL.lt;generalize hpd:w1.heap.size=pd at*;generalize bA:w3.heap.size=pt at*;generalize oO:w5.heap.size=base at*;refine loop Qa [13] (λt:Nat×(Bool->Option Addr×Nat)×(Bool->Option Addr×Nat)=>[.int .i64 t.1]) (λt w'=>t.1<=l.length/\Ext w1 w'/\base<=w'.heap.size/\Fam w' base 45 (λb=>KQ (Zl v (l.take t.1) b)) t.2.1/\Fam w' base 9 (λb=>Q9 ((Zl v (l.take t.1) b).map f)) t.2.2/\Blk w' pd 259 [bj (λb=>KQ (Zl v (l.take t.1) b)) t.2.1 false,bj (λb=>KQ (Zl v (l.take t.1) b)) t.2.1 true]/\Blk w' pt 260 [bj (λb=>Q9 ((Zl v (l.take t.1) b).map f)) t.2.2 false,bj (λb=>Q9 ((Zl v (l.take t.1) b).map f)) t.2.2 true]) (λt _=>l.length-t.1) (0,(λ_=>(none,0)),(λ_=>(none,0))) rfl ⟨Xt _,VF,by omega,⟨λb=>Own.nil _ _ _ _,λb b' k _ h=>by obtain⟨_,e,_⟩:=h;cases e⟩,⟨λb=>Own.nil _ _ _ _,λb b' k _ h=>by obtain⟨_,e,_⟩:=h;cases e⟩,lQT,QL⟩ ?_;rintro⟨i,D,T⟩ w6 ⟨hi,Xh,Cz,si,vf,mf,vg⟩;simp only at hi si vf mf vg;refine Qt (λc3=>?_) (λc3=>?_)
 ·have QN:i<l.length:=by
   have c3:((i:Nat):Int)<((l.length:Nat):Int):=c3;omega
  obtain⟨c,hc⟩:∃c,l[i]? =some c:=⟨_,Xb QN⟩
  have WO:=Q2 hc;have Wt:=rz c WO;refine ZF (hC.ext (Qd.trans Xh)) (j:=i) QN (λad u hA hu QR=>?_);rw[HE hc] at hu;cases hu;refine load QR ?_;refine gP ((v:Nat):Int) rfl (by omega) ?_;refine vJ v (2^v) (by omega) (by show min _ 64=_;omega) rfl ?_;have Q5:c/2^v<18446744073709551616:=Nat.lt_of_le_of_lt (Nat.div_le_self _ _) (by omega);have nQJ:=UQ (c.testBit v);refine norm (m:=((bN (c.testBit v):Nat):Int)) (by rw[<-jQR];exact SP _ Q5) ?_;refine Qj ((bN (c.testBit v):Nat):Int) rfl (by omega) ?_;have hLD:=jQS v hc;have hLT:=jQT f v hc;generalize c.testBit v=b at*;have hb2:=UQ b;have qH:=Ext.drew w6;have zF:∀k,Qk (D b).1 k->base<=k/\k<w6.heap.size:=(si.od b).rows
  refine Xy Qa (λw'=>Mod (Qk (D b).1) w6 w') 10 [(true,0),(true,1),(true,2),(true,3),(true,4),(true,5),(true,6),(true,7),(false,8),(false,9)] (by kernel_rfl) (Mod.of_ext _ qH) ?_;refine W9 (j:=bN b) hb2 ?_;refine QJ (v:=bj (λb=>KQ (Zl v (l.take i) b)) D b) (λw' Qb=>by rw[WV,(mf.mod Qb (λhh=>by have:=(zF _ hh).1;omega)).cell];exact UT b (bj (λb=>KQ (Zl v (l.take i) b)) D)) ?_;refine ZF (hC.ext Qd) (j:=i) QN (λad u hA hu QR=>?_);rw[HE hc] at hu;cases hu;refine QJ (v:=Value.int .u64 (c:Nat)) (λw' Qb=>(Qb.ext Xh (λk hk=>by have:=(zF k hk).1;omega)).cell QR) ?_;refine Xm Qa [[Value.int .u64 (c:Nat)]] rfl rfl rfl rfl rfl ⟨rfl,rfl,⟨⟩⟩ rfl (λcs h=>by simp only[QF] at h;subst h;rfl) rfl (by decide) (by decide) ?_;intro w7 hY7 WF Q4;have yF:=qH.trans hY7;refine⟨Mod.of_ext _ yF,?_⟩;have KF:Sl w7 1 _ 1 1 (KQ [c]):=Sl.own' (n:=1) Q4 rfl (by decide);have hnD:(KQ (Zl v (l.take i) b)).length<=16:=by simp only[Co,YO,ZW];exact X2 (xb v _ b) (by rw[KZ];omega)
  have nQK:=yF.size;refine Zk (n:=(KQ (Zl v (l.take i) b)).length) Qa rfl rfl rfl rfl rfl (by decide) rfl rfl ⟨_,rfl⟩ rfl rfl ((si.od b).ext yF) KF (UP _) (by unfold maxLen;omega) (by show((KQ (Zl v (l.take i) b)).length+1)*8<=_;omega) (by omega) ?_;intro D2 Dc w8 Jq oy lQU;have J5:Mod (Qk (D b).1) w6 w8:=(Mod.of_ext _ yF).trans Jq (λk hk=>.inl hk);refine⟨J5,?_⟩;refine W9 (j:=bN b) hb2 ?_;rw[WV];refine sE (mf.mod J5 (λhh=>by have:=(zF _ hh).1;omega)) hb2 (λw9 bt Z8=>?_);have Z8:=(UU (λb=>KQ (Zl v (l.take i) b)) D b D2 Dc (Value.int .u64 (c:Nat)))▸Z8;have Zo:Mod (·=pd) w8 w9:=oQh bt rfl;have aQ8:=si.step yF Jq oy lQU;have D9:=aQ8.keep Zo (λb' k hk hh=>by have:=((aQ8.od b').rows k hk).1;omega);have Ea:=(vf.keep J5 (λb' k hk=>US (vf.od b') (si.od b) (by decide) k hk)).keep Zo (λb' k hk hh=>by have:=((vf.od b').rows k hk).1;omega);have aQ9:=(vg.mod J5 (λhh=>by have:=(zF _ hh).1;omega)).mod Zo (by omega);have Xo:Ext w1 w9:=Zo.ext (J5.ext Xh (λk hk=>by have:=(zF k hk).1;omega)) (λk hk=>by omega);have CC:base<=w9.heap.size:=by have:=J5.size;have:=Zo.size;omega
  rw[<-hLD] at D9 Z8;have JG:=Ext.drew w9;have zG:∀k,Qk (T b).1 k->base<=k/\k<w9.heap.size:=(Ea.od b).rows
  refine Xy Qa (λw'=>Mod (Qk (T b).1) w9 w') 10 [(true,0),(true,1),(true,2),(true,3),(true,4),(true,5),(true,6),(true,7),(false,8),(false,9)] (by kernel_rfl) (Mod.of_ext _ JG) ?_;refine W9 (j:=bN b) hb2 ?_;refine QJ (v:=bj (λb=>Q9 ((Zl v (l.take i) b).map f)) T b) (λw' Qb=>by rw[WV,(aQ9.mod Qb (λhh=>by have:=(zG _ hh).1;omega)).cell];exact UT b (bj (λb=>Q9 ((Zl v (l.take i) b).map f)) T)) ?_;refine ZF (hT.ext Qd) (j:=i) QN (λad u hA hu QR=>?_);rw[hTg hc] at hu;cases hu;refine QJ (v:=Value.string (Qe (f c))) (λw' Qb=>(Qb.ext Xo (λk hk=>by have:=(zG k hk).1;omega)).cell QR) ?_;refine Xm Qa [[Value.string (Qe (f c))]] rfl rfl rfl rfl rfl ⟨rfl,rfl,⟨⟩⟩ rfl (λcs h=>by simp only[QF] at h;subst h;rfl) rfl (by decide) (by decide) ?_;intro QE lQV nI Jb;have yG:=JG.trans lQV;refine⟨Mod.of_ext _ yG,?_⟩;have qF:Sl QE 1 _ 1 1 (Q9 [f c]):=Sl.own' (n:=1) Jb rfl (by decide);have hnT:(Q9 ((Zl v (l.take i) b).map f)).length<=16:=by simp only[Co,YO,ZW];exact X2 (xb v _ b) (by rw[KZ];omega)
  have nQL:=yG.size;refine Zk (n:=(Q9 ((Zl v (l.take i) b).map f)).length) Qa rfl rfl rfl rfl rfl (by decide) rfl rfl ⟨_,rfl⟩ rfl rfl ((Ea.od b).ext yG) qF (Ku _) (by unfold maxLen;omega) (by show((Q9 ((Zl v (l.take i) b).map f)).length+1)*16<=_;omega) (by omega) ?_;intro T2 Tc QH gt uG lQW;have X4:Mod (Qk (T b).1) w9 QH:=(Mod.of_ext _ yG).trans gt (λk hk=>.inl hk);refine⟨X4,?_⟩;refine W9 (j:=bN b) hb2 ?_;rw[WV];refine sE (aQ9.mod X4 (λhh=>by have:=(zG _ hh).1;omega)) hb2 (λQW lD Ji=>?_);have Ji:=(UU (λb=>Q9 ((Zl v (l.take i) b).map f)) T b T2 Tc (Value.string (Qe (f c))))▸Ji;have Zy:Mod (·=pt) QH QW:=oQh lD rfl;have bQa:=Ea.step yG gt uG lQW;have bQb:=bQa.keep Zy (λb' k hk hh=>by have:=((bQa.od b').rows k hk).1;omega);have lQX:=(D9.keep X4 (λb' k hk=>US (D9.od b') (Ea.od b) (by decide) k hk)).keep Zy (λb' k hk hh=>by have:=((D9.od b').rows k hk).1;omega);have lQY:=(Z8.mod X4 (λhh=>by have:=(zG _ hh).1;omega)).mod Zy (by omega);have Xu:Ext w1 QW:=Zy.ext (X4.ext Xo (λk hk=>by have:=(zG k hk).1;omega)) (λk hk=>by omega);have xW:base<=QW.heap.size:=by have:=X4.size;have:=Zy.size;omega
  rw[<-hLT] at bQb Ji;refine Qj ((i+1:Nat):Int) (by show((i:Nat):Int)+1=_;omega) (by omega) ?_;exact⟨(i+1,bi D b (D2,Dc),bi T b (T2,Tc)),rfl,⟨QN,Xu,xW,lQX,bQb,lQY,Ji⟩,by show l.length-(i+1)<l.length-i;omega⟩
 have QN:i=l.length:=by
  have c3:¬((i:Nat):Int)<((l.length:Nat):Int):=c3;omega
 rw[Zz (by omega)] at si vf mf vg;have XD:=Qd.trans Xh;have hdv:∀b,bj (λb=>KQ (Zl v l b)) D b= .slice (D b).1 (Zl v l b).length (D b).2:=λb=>by unfold bj;rw[Co]
 have htv:∀b,bj (λb=>Q9 ((Zl v l b).map f)) T b= .slice (T b).1 (Zl v l b).length (T b).2:=λb=>by unfold bj;rw[YO,ZW]
 rw[hdv,hdv] at mf;rw[htv,htv] at vg;have fH:∀b,∀c∈Zl v l b,c∈l:=λb c hc=>(Va.1 hc).1
 have hDs:∀b,Sl w6 1 (D b).1 (Zl v l b).length (D b).2 (KQ (Zl v l b)):=λb=>by have:=(si.od b).sl;rw[Co] at this;exact this
 have zH:∀b,Sl w6 1 (T b).1 (Zl v l b).length (T b).2 (Q9 ((Zl v l b).map f)):=λb=>by have:=(vf.od b).sl;rw[YO,ZW] at this;exact this
 have same:∀{w'},Ext w6 w'->Xw nm f (k+1) v l=Xw nm f k (v+1) l->Fn Tryz.prog 123 [.slice NA nm.length nc,.slice CA l.length cc,.slice TA l.length tc,.int .i64 ((v+1:Nat):Int)] w' (λu KI=>jm w u ((Xw nm f (k+1) v l).map (·++ [10])) KI):=λhE e=>by
  refine(ih k (by omega) (v+1) l NA nc CA cc TA tc _ (by omega) QK oF rz hf (hN.ext (XD.trans hE)) (hC.ext (XD.trans hE)) (hT.ext (XD.trans hE))).mono ?_;rintro u KI ⟨A,c,h1,h2,h3⟩;rw[e];exact⟨A,c,h1,(XD.trans hE).trans h2,h3⟩
 refine W9 (j:=0) (by decide) ?_;refine load ((mf.cell 0).trans rfl) ?_;refine XU (λd1=>?_) (λd1=>?_)
 ·have e0:Zl v l false=[]:=Ys (by omega);rw[HG] at e0;refine Qj ((v+1:Nat):Int) (by show((v:Nat):Int)+1=_;omega) (by omega) ?_;refine call (same (Ext.refl _) (by rw[Tk QK e0,GO e0])) ?_;exactλu w' h=>h
 refine W9 (j:=1) (by decide) ?_;refine load ((mf.cell 1).trans rfl) ?_;refine XU (λd2=>?_) (λd2=>?_)
 ·have e0:Zl v l true=[]:=Ys (by omega);rw[HF] at e0;refine Qj ((v+1:Nat):Int) (by show((v:Nat):Int)+1=_;omega) (by omega) ?_;refine call (same (Ext.refl _) (by rw[Tl QK e0,Tj e0])) ?_;exactλu w' h=>h
 have nlo:Zl v l false≠ []:=λe=>d1 (by rw[e];rfl)
 have nhi:Zl v l true≠ []:=λe=>d2 (by rw[e];rfl)
 have bQK:Xw nm f (k+1) v l=if Xw nm f k (v+1) (Zl v l true)=Xw nm f k (v+1) (Zl v l false)then Xw nm f k (v+1) (Zl v l true)else YE nm v (Xw nm f k (v+1) (Zl v l true)) (Xw nm f k (v+1) (Zl v l false)):=by
  rw[HF,HG];exact Tm QK (by rw[<-HG];exact nlo) (by rw[<-HF];exact nhi)
 have bnd:∀b,Zl v l b≠ []->We (Xw nm f k (v+1) (Zl v l b))/\(Xw nm f k (v+1) (Zl v l b)).length<=100000000:=λb hb=>by
  obtain⟨h1,h2⟩:=kW (nm:=nm) (f:=f) (P:=λs=>(∀x∈s,x<256)/\s.length<=1000000000) (M:=2000) (λv ng=>⟨(Us JX Je v ng).1,by have:=Cc Je v ng;omega⟩) (by decide) (by decide) k (v+1) (Zl v l b) hb (λc hc=>by
   obtain⟨q1,q2,q3⟩:=hf c (fH b c hc);refine⟨λs hs=>⟨λx hx=>q2 x (Cg _ s hs x hx),?_⟩,X2 (np _).1 q3⟩;have:=(np _).2 s hs;omega)
  refine⟨h1,?_⟩;have h3:=xb v l b;have h4:(Zl v l b).length*(2000+3)<=16*2003:=Y4 _ (by omega);omega
 refine W9 (j:=0) (by decide) ?_;refine load ((mf.cell 0).trans rfl) ?_;refine W9 (j:=0) (by decide) ?_;refine load ((vg.cell 0).trans rfl) ?_;refine Qj ((v+1:Nat):Int) (by show((v:Nat):Int)+1=_;omega) (by omega) ?_;refine call (ih k (by omega) (v+1) (Zl v l false) NA nc (D false).1 (D false).2 (T false).1 (T false).2 w6 (by omega) nlo (X2 (xb v l false) oF) (λc hc=>rz c (fH _ c hc)) (λc hc=>hf c (fH _ c hc)) (hN.ext XD) (hDs false) (zH false)) ?_;rintro _ w7 ⟨A0,c0',rfl,QY,KF,_⟩;refine W9 (j:=1) (by decide) ?_;refine load (((mf.ext QY).cell 1).trans rfl) ?_;refine W9 (j:=1) (by decide) ?_;refine load (((vg.ext QY).cell 1).trans rfl) ?_;refine Qj ((v+1:Nat):Int) (by show((v:Nat):Int)+1=_;omega) (by omega) ?_;refine call (ih k (by omega) (v+1) (Zl v l true) NA nc (D true).1 (D true).2 (T true).1 (T true).2 w7 (by omega) nhi (X2 (xb v l true) oF) (λc hc=>rz c (fH _ c hc)) (λc hc=>hf c (fH _ c hc)) (hN.ext (XD.trans QY)) ((hDs true).ext QY) ((zH true).ext QY)) ?_;rintro _ w8 ⟨A1,Ma,rfl,Q7,bq,Yh⟩;have V0:=XD.trans (QY.trans Q7);obtain⟨yp,bl2⟩:=bnd false nlo;obtain⟨yo,bh2⟩:=bnd true nhi;have Mb:=KF.ext Q7;rw[ZW] at Mb bq Yh ⊢;rw[ZW];refine call (jQK _ _ A1 A0 _ Ma _ c0' w8 bq Mb yo yp (by omega)) ?_;rintro _ w9 ⟨rfl,Xo⟩;refine Qt (λd3=>?_) (λd3=>?_)
 ·rw[bQK,Qf d3];exact⟨A1,Ma,by rw[ZW],V0.trans Xo,by rw[ZW];exact⟨bq.ext Xo,Yh⟩⟩
 ·rw[bQK,if_neg d3];obtain⟨s,hs⟩:∃s,nm[v]? =some s:=⟨_,Xb (by omega)⟩
  have hsv:Vx nm v=s:=by unfold Vx;rw[hs]<;>rfl
  have lQ:=Je s (Q2 hs);refine ZF (hN.ext (V0.trans Xo)) (j:=v) (by omega) (λad u hA hu QR=>?_);rw[cz hs] at hu;cases hu;refine load QR ?_;have JW:=jQO nm v _ _ A1 A0 _ Ma _ c0' w9 (bq.ext Xo) (Mb.ext Xo) yo yp (by rw[hsv];omega) (by omega) (by omega);rw[hsv] at JW;refine call JW ?_;rintro u QE ⟨A,c,h1,h2,h3⟩;exact⟨A,c,h1,(V0.trans Xo).trans h2,h3⟩
def qm (nm:List (List Nat))(f:Nat->List Nat)(l:List Nat):List Nat:=if l=[] then [] else Qo (Xw nm f nm.length 0 l)
theorem jQV {nm:List (List Nat)}(JX:Jy nm)(Je:∀s∈nm,s.length<=1000){f:Nat->List Nat}{l:List Nat}(QK:l≠ [])(oF:l.length<=16)(hf:∀c∈l,JD (f c)=true/\(∀b∈f c,b<256)/\(f c).length<=2000)(k v:Nat):(Qo (Xw nm f k v l)).length<=100000000:=by
 obtain⟨h1,h2⟩:=kW (nm:=nm) (f:=f) (P:=λs=>s.length<=2100) (M:=2000) (λv ng=>Cc Je v ng) (by decide) (by decide) k v l QK (λc hc=>by
  obtain⟨q1,q2,q3⟩:=hf c hc;refine⟨λs hs=>?_,X2 (np _).1 q3⟩;have:=(np _).2 s hs;omega)
 have h3:=qg h1;have h4:l.length*(2000+3)<=16*2003:=Y4 _ oF;have h5:(Xw nm f k v l).length*(2100+1)<=32048*2101:=Y4 _ (by omega);omega
theorem jQW (nm:List (List Nat))(iB:nm.length<=4)(Je:∀s∈nm,s.length<=1000)(JX:Jy nm)(f:Nat->List Nat)(l:List Nat)(NA:Option Addr)(nc:Nat)(CA:Option Addr)(cc:Nat)(TA:Option Addr)(tc:Nat)(w:World)(oF:l.length<=16)(rz:∀c∈l,c<16)(hf:∀c∈l,JD (f c)=true/\(∀b∈f c,b<256)/\(f c).length<=2000)
  (hN:Sl w 1 NA nm.length nc (Q9 nm)) (hC:Sl w 1 CA l.length cc (KQ l)) (hT:Sl w 1 TA l.length tc (Q9 (l.map f))):
  Fn Tryz.prog 71 [.slice NA nm.length nc,.slice CA l.length cc,.slice TA l.length tc] w (λu w'=>u= .string (Qe (qm nm f l))/\Ext w w'):=by
 refine Qx (c:={c71 with cuts:=[]}) Qa Tryz.func71 rfl rfl rfl ?_;refine XU (λc1=>?_) (λc1=>?_)
 ·have e:l=[]:=Ys (by omega);exact⟨by unfold qm;rw[Qf e];rfl,Ext.refl _⟩
 ·have QK:l≠ []:=λe=>c1 (by rw[e];rfl)
  refine call (jQU nm iB Je JX f nm.length 0 l NA nc CA cc TA tc w (by omega) QK oF rz hf hN hC hT) ?_;rintro _ w1 ⟨A,c,rfl,Qd,J7,_⟩;refine call (jQL _ A _ c w1 J7 (by have:=jQV JX Je QK oF hf nm.length 0;omega)) ?_;rintro _ _ ⟨rfl,rfl⟩;exact⟨by unfold qm;rw[if_neg QK],Qd⟩
theorem UV (n:Nat)(o:BF):(Qu n o).length<=2^n:=X2 (j6 _ _) (by rw[List.length_range];exact QD _)
theorem jQX (nm:List (List Nat))(x:DV)(NA:Option Addr)(nc:Nat)(iB:nm.length<=4)(JX:Jy nm)(w:World)(hN:Sl w 1 NA nm.length nc (Q9 nm))(hx:SB w x.A x.n x.c x.nd):
  Fn Tryz.prog 67 [.slice NA nm.length nc,Xg x.A x.n x.c x.r] w (λu w'=>Ext w w'/\((¬(Zx nm=true/\JT nm.length x.nd x.r=true)/\u= .tuple #[.slice none 0 0,.int .i64 1])∨((Zx nm=true/\JT nm.length x.nd x.r=true)/\∃A c,u= .tuple #[.slice A (Qu nm.length (oD x)).length c,.int .i64 0]/\Sl w' 1 A (Qu nm.length (oD x)).length c (KQ (Qu nm.length (oD x)))))):=by
 refine Qx (c:={c67 with cuts:=[]}) Qa Tryz.func67 rfl rfl rfl ?_;refine new (λw1 Qd Q3 Qh=>?_);refine call (fQV nm NA nm.length nc w1 (hN.ext Qd) JX) ?_;rintro _ w2 ⟨rfl,Qg⟩;have QT:=Qd.trans Qg;refine cr (Kq (λh1=>?_) (λh1=>?_))
 ·refine Qs (Qh.ext Qg) rfl ?_;refine call (UN x.A x.n x.c nm.length x.nd x.r w2 (hx.ext QT)) ?_;rintro _ w3 ⟨rfl,Qi⟩;have QQ:=QT.trans Qi;refine cr (Kq (λh2=>?_) (λh2=>?_))
  ·refine Qs ((Qh.ext Qg).ext Qi) rfl ?_;refine call (jQQ x nm.length (by omega) w3 (hx.ext QQ) (hZ.1 h2).1) ?_;rintro _ w4 ⟨A,c,rfl,Qq,Wh⟩;have zr:=UV nm.length (oD x);have Wt:2^nm.length<=16:=Y6 (n:=2) (by decide) iB;refine Xx (by omega) ?_;exact⟨QQ.trans Qq,.inr ⟨⟨h1,h2⟩,A,c,rfl,Wh⟩⟩
  ·exact⟨QQ,.inl ⟨(λhh=>by rw[hh.2] at h2;cases h2),rfl⟩⟩
 ·exact⟨QT,.inl ⟨(λhh=>by rw[hh.1] at h1;cases h1),rfl⟩⟩
def jv (ps:List (DV×List Nat))(c:Nat):List (List Nat):=(ps.filter (λp=>oD p.1 (bits c))).map (·.2)
theorem jQY {n:Nat}{S:List Nat}{ps:List (DV×List Nat)}(h:PaOk S (XN ps)){c:Nat}(hc:c∈S):jv ps c=[fP (XN ps) c]:=by
 obtain⟨q,hq,iP⟩:=h.cov c hc;obtain⟨p,hp,rfl⟩:=ZM.1 hq;have iP:oD p.1 (bits c)=true:=iP;rw[h.get hc hq iP];obtain⟨i,hi⟩:=cm.1 hp;have Q5:=(Zw.1 hi).1;have bQL:∀j r,ps[j]? =some r->oD r.1 (bits c)=true->j=i:=λj r hj hr=>h.dj c hc j i _ _ (show(XN ps)[j]? =some ⟨oD r.1,r.2⟩ by unfold XN;rw[Vi,hj];rfl) (show(XN ps)[i]? =some ⟨oD p.1,p.2⟩ by unfold XN;rw[Vi,hi];rfl) hr iP
 have hl:ps=ps.take i++p::ps.drop (i+1):=by
  conv=>lhs;rw[<-mj i ps]
  rw[bG Q5];congr 2;exact Option.some.inj ((Xb Q5).symm.trans hi)
 have h1:(ps.take i).filter (λp=>oD p.1 (bits c))=[]:=by
  rw[vt];intro r hr uR;obtain⟨j,hj⟩:=cm.1 hr;have Kp:j<i:=by have:=(Zw.1 hj).1;rw[KZ] at this;omega
  rw[mt Kp] at hj;have:=bQL j r hj uR;omega
 have h2:(ps.drop (i+1)).filter (λp=>oD p.1 (bits c))=[]:=by
  rw[vt];intro r hr uR;obtain⟨j,hj⟩:=cm.1 hr;rw[zX] at hj;have:=bQL _ r hj uR;omega
 unfold jv;rw[hl,pr,List.filter_cons_of_pos (by exact iP),h1,h2]<;>rfl
theorem HH (NA:Option Addr)(nc:Nat)(nm:List (List Nat))(x:DV)(PA:Option Addr)(pn pc:Nat)(ps:List (DV×List Nat))(fx:nm.length<=4)(JX:Jy nm)(Je:∀s∈nm,s.length<=1000)(WN:∀q∈ps,(∀b∈q.2,b<256)/\q.2.length<=2000)(nQM:pn<=32)(w:World)
  (hN:Sl w 1 NA nm.length nc (Q9 nm)) (hx:SB w x.A x.n x.c x.nd) (hP:SlS Zt 3 w PA pn pc ps) (o7:∀q∈ps,SB w q.1.A q.1.n q.1.c q.1.nd):
  Fn Tryz.prog 27 [.slice NA nm.length nc,Xg x.A x.n x.c x.r,.slice PA pn pc] w (λu w'=>u=jt (bR nm x ps)/\Ext w w'):=by
 have hk:nm.length<=12:=by omega
 have Jt:=hP.2;have Wt:2^nm.length<=16:=Y6 (n:=2) (by decide) fx;refine Qx (c:={c27 with cuts:=[]}) Qa Tryz.func27 rfl rfl rfl ?_;refine new (λw1 Qd Q3 Qh=>?_);refine Qs Qh rfl ?_;refine call (jQX nm x NA nc fx JX w1 (hN.ext Qd) (hx.ext Qd)) ?_;rintro _ w2 ⟨Qg,hr⟩;have QT:=Qd.trans Qg;rcases hr with⟨Xa,rfl⟩ | ⟨⟨Zm,Vs⟩,CA,cc,rfl,hC2⟩
 ·have hm:bR nm x ps= .error 1:=by
   unfold bR;rw[Qf (by
    by_cases h1:Zx nm=true
    ·exact .inr (YM.2 (λh2=>Xa ⟨h1,h2⟩))
    ·exact .inl (by simpa using h1))]
  rw[hm];refine pG (by decide) ?_;exact⟨rfl,QT⟩
 have sx:=eS Vs;have hm:bR nm x ps=if Vo nm.length (Qu nm.length (oD x)) ps=false then .error 290
   else if ps=[] then .ok []
   else if 1048576<(Qo (Xw nm (fP (XN ps)) nm.length 0 (Qu nm.length (oD x)))).length then .error 2
   else .ok (Qo (Xw nm (fP (XN ps)) nm.length 0 (Qu nm.length (oD x)))):=by
  rw[bR,if_neg (by rw[Zm,Vs];simp)]
 generalize bR nm x ps=M at*;refine Y9 rfl ?_;refine Qs (Qh.ext Qg) rfl ?_;refine new (λw3 Qi JF Qw=>?_);refine QB Qw rfl (sc rfl) (λw4 bn _ Q6=>?_);have Ja:=XY Qi Qw bn;have XI:=QT.trans Ja;have yq:∀w',Ext w w'->Vo nm.length (Qu nm.length (oD x)) ps=false->Value.tuple #[.string ⟨#[]⟩,.int .i64 290]=jt M/\Ext w w':=λw' hE hc=>⟨by rw[hm,Qf hc];rfl,hE⟩
 have Ic:w2.heap.size<w4.heap.size:=Q6.lt;have hw2:=QT.size;have nQN:=Ja.size;generalize hpg:w2.heap.size=pg at*;refine loop Qa [11] (λi:Nat=>[.int .i64 i]) (λi w'=>Ext w2 w'/\i<=pn/\∃(R:DV) (oR:BF),Blk w' pg 32 R.cells/\SB w' R.A R.n R.c R.nd/\Set1 nm.length R.nd R.r oR/\(∀ad,R.A=some ad->0<R.n->ad.block≠pg)/\Vo nm.length (Qu nm.length (oD x)) ps=Vo nm.length (Qu nm.length oR) (ps.drop i)) (λi _=>pn-i) 0 rfl ⟨Ja,Xt _,x,oD x,Q6,hx.ext XI,sx,λad ea h0=>by have:=SB.lt (hx.ext QT) ad ea h0;omega,rfl⟩ ?_;rintro i w7 ⟨QY,hi,R,oR,Q4,Kf,sR,hRn,ZV⟩;have Ki:=QT.trans QY;have jx:=QY.size;refine Qt (λc1=>?_) (λc1=>?_)
 ·have QN:i<pn:=by omega
  refine Zh gk (hP.ext Ki) rfl QN (λad q hq hc=>?_);have KY:=Q2 hq;obtain⟨q8,ql⟩:=WN q KY;have fO:ps.drop i=q::ps.drop (i+1):=by
   have Q5:=(Zw.1 hq).1;rw[bG Q5];congr 1;rw[Xb Q5] at hq;exact Option.some.inj hq
  rw[fO] at ZV;refine Kb (vs:=Zt q) rfl hc ?_;refine new (λw8 Q7 Ve XB=>?_);refine QB XB rfl (sc rfl) (λw9 bt _ Z8=>?_);have VG:Ext w7 w9:=XY Q7 XB bt;have nX:=(o7 q KY).ext (Ki.trans VG);refine cw (vs:=[.slice q.1.A q.1.n q.1.c,.int .i64 q.1.r]) (j:=0) Z8 rfl (λj u hj=>by match j,hj with | 0,hj=>exact hj | 1,hj=>exact hj) ?_;refine call (UN q.1.A q.1.n q.1.c nm.length q.1.nd q.1.r w9 nX) ?_;rintro _ QE ⟨rfl,X7⟩;have bz:=VG.trans X7;have l6:=BU (n:=nm.length) (R:=Qu nm.length oR) (p:=q) (ps:=ps.drop (i+1));have bad:∀w',Ext w7 w'->Vo nm.length (Qu nm.length oR) (q::ps.drop (i+1))=false->Value.tuple #[.string ⟨#[]⟩,.int .i64 290]=jt M/\Ext w w':=λw' eu hc=>yq w' (Ki.trans eu) (ZV.trans hc)
  refine cr (Kq (λjX=>?_) (λjX=>?_))
  ·have sq:=eS jX;have cV:=sq.root0;have Jb:=Z8.ext X7;refine load (v:=.int .i64 q.1.r) ((Jb.cell 1).trans rfl) ?_;refine XU (λhz=>?_) (λhz=>?_)
   ·exact bad QE bz (YM.2 (λhh=>(l6.1 hh).1.2.1 (cV.1 hz)))
   ·refine cw (vs:=[.slice q.1.A q.1.n q.1.c,.int .i64 q.1.r]) (j:=0) Jb rfl (λj u hj=>by match j,hj with | 0,hj=>exact hj | 1,hj=>exact hj) ?_;refine Qs (Q4.ext bz) rfl ?_;refine call (jQN hk q.1 R QE (nX.ext X7) (Kf.ext bz) sq sR) ?_;rintro _ QH ⟨rfl,Z4⟩;have dV:=bz.trans Z4;have zw:(Qu nm.length (oD q.1)).all (λc=>oR (bits c))=true↔∀c∈Qu nm.length (oD q.1),c∈Qu nm.length oR:=by
     rw[VT];exact⟨λh c hc=>ZY.2 ⟨(ZY.1 hc).1,h c hc⟩,λh c hc=>(ZY.1 (h c hc)).2⟩
    refine cr (Kq (λpf=>?_) (λpf=>?_))
    ·have ZJ:=Jb.ext Z4;refine load ((ZJ.cell 2).trans rfl) ?_;refine call (jQM q.2 QH q8 (by omega)) ?_;rintro _ QW ⟨rfl,Xu⟩;have cZ:=dV.trans Xu;refine cr (Kq (λzD=>?_) (λzD=>?_))
     ·refine Qs (Q4.ext cZ) rfl ?_;refine cw (vs:=[.slice q.1.A q.1.n q.1.c,.int .i64 q.1.r]) (j:=0) (ZJ.ext Xu) rfl (λj u hj=>by match j,hj with | 0,hj=>exact hj | 1,hj=>exact hj) ?_;refine call (GF hk R.A R.n R.c q.1.A q.1.n q.1.c QW (Kf.ext cZ) (nX.ext (X7.trans (Z4.trans Xu))) sR sq) ?_;rintro _ XM ⟨MA,mm,mc,mnd,mr,rfl,Xq,J3,sM,hMr⟩;have uD:=cZ.trans Xq;refine QB (Q4.ext uD) rfl (sc rfl) (λX1 cS _ Jc=>?_);have Kx:Mod (·=pg) XM X1:=oQh cS rfl;have nQO:=Q4.lt;have nQP:=cZ.size;refine Qj ((i+1:Nat):Int) (by show((i:Nat):Int)+1=_;omega) (by omega) ?_;refine⟨i+1,rfl,⟨Kx.ext (QY.trans uD) (λk hk=>by omega),QN,⟨MA,mm,mc,mnd,mr⟩,_,Jc,SB.modo J3 Kx (λad ea h0 hh=>by have:=hMr ad.block ⟨ad,ea,rfl⟩;omega),sM,λad ea h0=>by have:=hMr ad.block ⟨ad,ea,rfl⟩;omega,?_⟩,by show pn-(i+1)<pn-i;omega⟩;rw[ZV,Hg];have e1:(JT nm.length q.1.nd q.1.r&&decide (Qu nm.length (oD q.1)≠ [])&&(Qu nm.length (oD q.1)).all (λc=>decide (c∈Qu nm.length oR))&&JD q.2)=true:=by
       rw[jX,XT (show Qu nm.length (oD q.1)≠ [] fromλe=>hz (cV.2 e)),VT.2 (λc hc=>XT (zw.1 pf c hc)),zD]<;>rfl
      rw[Vo,e1,aV]
     ·exact bad QW cZ (YM.2 (λhh=>by rw[(l6.1 hh).1.2.2.2] at zD;cases zD))
    ·exact bad QH dV (YM.2 (λhh=>by rw[zw.2 (l6.1 hh).1.2.2.1] at pf;cases pf))
  ·exact bad QE bz (YM.2 (λhh=>by rw[(l6.1 hh).1.1] at jX;cases jX))
 have MV:ps.drop i=[]:=pj (by omega);rw[MV] at ZV;have ZV:Vo nm.length (Qu nm.length (oD x)) ps=decide (Qu nm.length oR=[]):=ZV;refine load ((Q4.cell 1).trans rfl) ?_;refine Yt (λhz=>?_) (λhz=>?_)
 ·exact yq w7 Ki (ZV.trans (XS (λe=>hz (sR.root0.2 e))))
 have et:Vo nm.length (Qu nm.length (oD x)) ps=true:=ZV.trans (XT (sR.root0.1 hz));have rZ:∀c∈Qu nm.length (oD x),c<2^nm.length:=λc hc=>(ZY.1 hc).1
 obtain⟨ZE,NH⟩:=GP rZ et;have zr:=UV nm.length (oD x);have mQQ:∀c∈Qu nm.length (oD x),jv ps c=[fP (XN ps) c]:=λc hc=>jQY (n:=0) ZE hc
 have rN:∀c∈Qu nm.length (oD x),JD (fP (XN ps) c)=true/\(∀b∈fP (XN ps) c,b<256)/\(fP (XN ps) c).length<=2000:=λc hc=>by
  obtain⟨q,hq,iP⟩:=ZE.cov c hc;rw[ZE.get hc hq iP];obtain⟨p,hp,rfl⟩:=ZM.1 hq;exact⟨(NH p hp).2.2.1,(WN p hp).1,(WN p hp).2⟩
 have rL:M=if 1048576<(qm nm (fP (XN ps)) (Qu nm.length (oD x))).length then .error 2 else .ok (qm nm (fP (XN ps)) (Qu nm.length (oD x))):=by
  rw[hm,if_neg (by rw[et];decide)];unfold qm;by_cases gu:ps=[]
  ·rw[Qf gu];have Mc:Qu nm.length (oD x)=[]:=by
    rw[gu,Vo] at et;exact eB et
   rw[Qf Mc]<;>rfl
  ·rw[if_neg gu];have Mc:Qu nm.length (oD x)≠ []:=λe=>by
    cases ps with
    | nil=>exact gu rfl
    | cons p ps=>
     obtain⟨_,h2,_,h4⟩:=NH p (by simp);obtain⟨c,hc⟩:=i5 _ h2;have:=h4 c hc;rw[e] at this;cases this
   rw[if_neg Mc]
 generalize hS:Qu nm.length (oD x)=S at*;refine Xm Qa [] rfl rfl rfl rfl rfl ⟨⟩ rfl (λcs h=>by cases h) rfl (by decide) (by decide) ?_;intro w8 Q7 Ve XB;have nQQ:=Q7.size;refine loop Qa [14,13] (λt:Nat×List (List Nat)×Option Addr×Nat=>[.int .i64 t.1,.slice t.2.2.1 t.2.1.length t.2.2.2]) (λt w'=>Ext w7 w'/\t.1<=S.length/\Own w' w7.heap.size 9 1 t.2.2.1 t.2.1.length t.2.2.2 (Q9 t.2.1)/\t.2.1=(S.take t.1).map (fP (XN ps))) (λt _=>S.length-t.1) (0,[],some ⟨w7.heap.size,0,none⟩,0) rfl ⟨Q7,Xt _,Own.empty XB (QD _),rfl⟩ ?_;rintro⟨j,T,TA,tc⟩ w9 ⟨Xo,hj,d7,yH⟩;simp only at hj d7 yH;have hC7:Ext w2 w9:=QY.trans Xo;refine Qt (λc3=>?_) (λc3=>?_)
 ·have d9:j<S.length:=by
   have c3:((j:Nat):Int)<((S.length:Nat):Int):=c3;omega
  obtain⟨c,hc⟩:∃c,S[j]? =some c:=⟨_,Xb d9⟩
  have WO:=Q2 hc;have rz:=rZ c WO;refine loop Qa [15,13] (λt:Nat×List (List Nat)×Option Addr×Nat=>[.int .i64 t.1,.slice t.2.2.1 t.2.1.length t.2.2.2]) (λt w'=>Ext w7 w'/\t.1<=pn/\Own w' w7.heap.size 9 1 t.2.2.1 t.2.1.length t.2.2.2 (Q9 t.2.1)/\t.2.1=T++jv (ps.take t.1) c) (λt _=>pn-t.1) (0,T,TA,tc) rfl ⟨Xo,Xt _,d7,by simp[jv]⟩ ?_;rintro⟨k,U,UA,uc⟩ QE ⟨X7,lQZ,yI,nK⟩;simp only at lQZ yI nK;refine Qt (λc4=>?_) (λc4=>?_)
  ·have zI:k<pn:=by
    have c4:((k:Nat):Int)<((pn:Nat):Int):=c4;omega
   have xR:=Ext.drew QE;have cY:=Ki.trans X7;obtain⟨q,hq⟩:∃q,ps[k]? =some q:=⟨_,Xb (by omega)⟩
   have KY:=Q2 hq;have KK:jv (ps.take (k+1)) c=jv (ps.take k) c++(if oD q.1 (bits c)=true then [q.2] else []):=by
    unfold jv;rw[dO hq,pr,dx,po,vy];split<;>rfl
   have MG:U.length<=16+32:=by
    have z1:T.length<=16:=by rw[yH,ZW,KZ];omega
    have z2:(jv (ps.take k) c).length<=k:=by unfold jv;rw[ZW];exact X2 (j6 _ _) (by rw[KZ];omega)
    rw[nK,Qy];omega
   refine Xy Qa (Ext QE) 10 [(true,0),(true,1),(true,2),(true,3),(true,4),(true,5),(true,6),(true,7),(true,8),(false,9)] (by kernel_rfl) xR ?_;refine Zh gk (hP.ext cY) rfl zI (λad q' hq' QR=>?_);cases hq.symm.trans hq';refine Xr (vs:=[.slice q.1.A q.1.n q.1.c,.int .i64 q.1.r]) rfl (λw' Qb i u hi=>by
    refine Qb.cell ?_;rw[add_add];refine QR (0+i) u ?_
    match i,hi with
    | 0,hi=>exact hi
    | 1,hi=>exact hi) ?_
   refine ZF ((hC2.ext QY).ext X7) (j:=j) d9 (λad u hA hu QR=>?_);rw[HE hc] at hu;cases hu;refine QJ (v:=.int .u64 (c:Nat)) (λw' Qb=>Qb.cell QR) ?_;refine call (GJ q.1.A q.1.n q.1.c q.1.nd q.1.r c (by omega) QE.drew ((o7 q KY).ext (cY.trans xR)) ((hZ.1 (NH q KY).1).1)) ?_;rintro _ QH ⟨rfl,Z4⟩;have yJ:=xR.trans Z4;refine⟨yJ,?_⟩;have fB:ev q.1.nd q.1.r (cK c)=oD q.1 (bits c):=by rw[UL]<;>rfl
   rw[fB];refine Kq (λc5=>?_) (λc5=>?_)
   ·refine Zh gk (hP.ext (cY.trans yJ)) rfl zI (λad q' hq' QR=>?_);cases hq.symm.trans hq';refine load (QR 2 _ rfl) ?_;refine Xm Qa [[Value.string (Qe q.2)]] rfl rfl rfl rfl rfl ⟨rfl,rfl,⟨⟩⟩ rfl (λcs h=>by simp only[QF] at h;subst h;rfl) rfl (by decide) (by decide) ?_;intro QW Xu aQi Ji;have Wj:Sl QW 1 _ 1 1 (Q9 [q.2]):=Sl.own' (n:=1) Ji rfl (by decide);have hX:=yJ.trans Xu;refine Zk (n:=U.length) Qa rfl rfl rfl rfl rfl (by decide) rfl rfl ⟨_,rfl⟩ rfl rfl (yI.ext hX) Wj (Ku _) (by unfold maxLen;omega) (by show(U.length+1)*16<=_;omega) (X7.trans hX).size ?_;intro U2 uc2 XM Yj dU _;rw[show Q9 U++Q9 [q.2]=Q9 (U++ [q.2]) by simp[Q9]] at dU;refine Qj ((k+1:Nat):Int) (by show((k:Nat):Int)+1=_;omega) (by omega) ?_;refine⟨(k+1,U++ [q.2],U2,uc2),by simp only[Qy];rfl,⟨Yj.ext (X7.trans hX) (λi hi=>(yI.rows i hi).1),zI,by simp only;rw[Qy];exact dU,by simp only;rw[nK,KK,Qf c5,K9]⟩,by show pn-(k+1)<pn-k;omega⟩
   ·refine Qj ((k+1:Nat):Int) (by show((k:Nat):Int)+1=_;omega) (by omega) ?_;exact⟨(k+1,U,UA,uc),rfl,⟨X7.trans yJ,zI,yI.ext yJ,by simp only;rw[nK,KK,if_neg (by rw[c5];decide),Yr]⟩,by show pn-(k+1)<pn-k;omega⟩
  ·have zI:k=pn:=by
    have c4:¬((k:Nat):Int)<((pn:Nat):Int):=c4;omega
   refine Qj ((j+1:Nat):Int) (by show((j:Nat):Int)+1=_;omega) (by omega) ?_;refine⟨(j+1,U,UA,uc),rfl,⟨X7,d9,yI,?_⟩,by show S.length-(j+1)<S.length-j;omega⟩;simp only;rw[nK,Zz (by omega),mQQ c WO,dO hc,dx,yH]<;>rfl
 have d9:j=S.length:=by
  have c3:¬((j:Nat):Int)<((S.length:Nat):Int):=c3;omega
 rw[Zz (by omega)] at yH;subst yH;have zH:=d7.sl;rw[ZW] at zH ⊢;refine call (jQW nm fx Je JX (fP (XN ps)) S NA nc CA cc TA tc w9 (by omega) (λc hc=>by have:=rZ c hc;omega) rN ((hN.ext Ki).ext Xo) (hC2.ext hC7) zH) ?_;rintro _ X1 ⟨rfl,Jd⟩;have qG:=(Ki.trans Xo).trans Jd;have htz:=XC (qm nm (fP (XN ps)) S);refine Qt (λc5=>?_) (λc5=>?_)
 ·refine⟨?_,qG⟩;rw[rL,Qf (by omega)]<;>rfl
 ·refine⟨?_,qG⟩;rw[rL,if_neg (by omega)]<;>rfl
theorem jQZ {x:RawV}(hf:x.fam<=255){Q:List (DV×Pr)}{ps:List Pt}{D:DV}{w:World}{PA:Option Addr}{pc:Nat}(sD:Set1 3 D.nd D.r (gn x.fam))(hQ:PtsIn w PA Q.length pc Q)(hm:PrM 3 (Q.map (·.2)) ps)(hp:PtOk x.cho (bf x.fam) ps):
  bR cR D (Q.map (λq=>(q.1,q.2.t)))= .ok (Qo x.wov)/\∀q∈Q.map (λq=>(q.1,q.2.t)),(∀b∈q.2,b<256)/\q.2.length<=2000:=by
 refine⟨?_,λq hq=>?_⟩
 ·rw[Hd (nm:=cR) jQv (jp (n:=3) (by decide) sD).1 (λq hq=>by
   obtain⟨q0,h0,rfl⟩:=ZM.1 hq;exact(jp (n:=3) (by decide) (hQ.sb q0 h0).2).1),qj sD,Ce (λq hq=>(hQ.sb q hq).2)]
  have Vg:Qu cR.length (gn x.fam)=bf x.fam:=UG hf;have bA:=iQJ (nm:=cR) (o:=gn x.fam) (f:=x.cho) hm (by rw[Vg];exact hp) (λc=>jQw x c) (by rw[Vg];exact BQ hf) (by rw[Vg];exact jQx hf);rw[bA,Vg]<;>rfl
 ·obtain⟨q0,h0,rfl⟩:=ZM.1 hq;obtain⟨k,hk⟩:=cm.1 h0;have ZL:=(Zw.1 hk).1;have hl:=hm.len;rw[ZW] at hl;obtain⟨p,jK⟩:∃p,ps[k]? =some p:=⟨_,Xb (by omega)⟩
  have h1:=(hm.get (q:=q0.2) (k:=k) (by rw[Vi,hk];rfl) jK).1;obtain⟨d,hd⟩:=i5 _ (hp.ne p (Q2 jK));have h2:=HB x d;simp only;rw[h1,<-(hp.tx p (Q2 jK) d hd).2];exact⟨h2.1,by omega⟩
theorem HI {L:List (DV×List Nat)}{k:Nat}{q:DV×List Nat}(h:L[k]? =some q)(V:DV):K2 (k*3+0) [Value.slice V.A V.n V.c,.int .i64 V.r] (L.flatMap Zt)=(L.set k (V,q.2)).flatMap Zt:=by
 have Q5:=(Zw.1 h).1;rw[Hj (eH gk L k q 2 (.string (Qe q.2)) h rfl),<-wD gk L _ Q5]<;>rfl
theorem jQ0 (c:Nat)(s:List (List Nat))(ps:List Pt):(jo ps c s).length<=ps.length+1:=by
 rcases wP c s ps with⟨p,h1,h2,h3⟩ | ⟨h1,h2⟩
 ·rw[h3,cj];omega
 ·rw[h2];simp
theorem jQ1 (single:Bool)(f:Nat->List (List Nat))(S:List Nat):(Yd single f S).length<=S.length:=by
 have key:∀(l:List Nat) (ps:List Pt),(l.foldl (eP single f) ps).length<=ps.length+l.length:=by
  intro l;induction l with
  | nil=>intro ps;simp
  | cons c l ih=>
   intro ps;rw[vh,Xs];have h1:=ih (eP single f ps c);have h2:(eP single f ps c).length<=ps.length+1:=by
    unfold eP;cases single with
    | true=>simp
    | false=>exact jQ0 c (f c) ps
   omega
 have:=key S [];simpa [Yd] using this
def jQ2:Except Int (List Nat)->List Nat
 | .ok l=>l
 | .error _=>[]
def resE:Except Int (List Nat)->Int
 | .ok _=>0
 | .error e=>e
theorem Cq (M:Except Int (List Nat)):jt M= .tuple #[.string (Qe (jQ2 M)),.int .i64 (resE M)]:=by cases M<;>rfl
theorem jQ3 {P:DV->Prop}{L:List (DV×List Nat)}{k:Nat}{q:DV×List Nat}(h:∀p∈L,P p.1)(hq:P q.1):∀p∈L.set k q,P p.1:=λp hp=>by
 rcases vx hp with hp | rfl
 ·exact h p hp
 ·exact hq
theorem jQ4 {L:List (DV×List Nat)}{k:Nat}{q:DV×List Nat}(h:∀p∈L,(∀b∈p.2,b<256)/\p.2.length<=2000)(hq:(∀b∈q.2,b<256)/\q.2.length<=2000):∀p∈L.set k q,(∀b∈p.2,b<256)/\p.2.length<=2000:=λp hp=>by
 rcases vx hp with hp | rfl
 ·exact h p hp
 ·exact hq
structure PartIn (w:World) (A:Option Addr) (n c:Nat) (L:List (DV×List Nat)):Prop where
 sl:SlS Zt 3 w A n c L
 sb:∀q∈L,SB w q.1.A q.1.n q.1.c q.1.nd
 tx:∀q∈L,(∀b∈q.2,b<256)/\q.2.length<=2000
 len:n<=32
theorem wlike_law (x:RawV)(Jl:Nat)(hh:Jl<=255)(by_:ByteArray)(Wu:by_.size<=maxLen)(w:World)(h:RawIn w x):Fn Tryz.prog 5 [.agg x.cells.toArray,.int .u8 Jl,.string by_] w (λv w'=>v= .bool true/\Ext w w'):=by
 have lK:=h.f8;obtain⟨t,Yf,V5,rfl⟩:∃t:List Nat,(∀b∈t,b<256)/\t.length=by_.size/\by_=Qe t:=⟨Yu by_,OJ _,sH _,(OL _).symm⟩
 refine Qx (c:={c5 with cuts:=[12]}) Qa Tryz.func5 rfl rfl rfl ?_;refine new (λw1 Qd Q3 Qh=>?_);refine call (jQk w1) ?_;rintro _ w2 ⟨rfl,Qg⟩;have QT:=Qd.trans Qg;have Qv:=Qh.ext Qg;refine Qt (λc0=>?_) (λc0=>?_)
 ·exact⟨rfl,QT⟩
 have nQR:t.length<=40:=by omega
 refine Qs Qv rfl ?_;refine normIf (m:=((Jl % 2:Nat):Int)) (by decide) (Fi _ 2) ?_;refine call (jQu x (decide (((Jl % 2:Nat):Int)=0)) w2 (h.ext QT)) ?_;rintro _ w3 ⟨PA,pc,Q,rfl,Qi,hQ3,XE⟩;have mQE:=jQ1 (decide (((Jl % 2:Nat):Int)=0)) x.cho (bf x.fam);have bA:=jQy x (decide (((Jl % 2:Nat):Int)=0));generalize Yd (decide (((Jl % 2:Nat):Int)=0)) x.cho (bf x.fam)=ps at*;refine load (((Qv.ext Qi).cell 0).trans rfl) ?_;refine call (UH x.fam lK w3) ?_;rintro _ w4 ⟨DA,dn,dc,dnd,dr,rfl,Qq,hD4,sD,_⟩;refine new (λw5 Qz Kw QL=>?_);refine QB QL rfl (sc rfl) (λw6 Wg _ Xj=>?_);have XF:=XY Qz QL Wg;have Ky:=Qq.trans XF;have XD:=QT.trans (Qi.trans Ky);have de:=hD4.ext XF;have Md:=hQ3.ext Ky;have hpd:w.heap.size<=w4.heap.size:=(QT.trans (Qi.trans Qq)).size;have nQS:=Xj.lt;have mQR:∀q∈Q.map (λq=>(q.1,q.2.t)),∀ad,q.1.A=some ad->0<q.1.n->ad.block<w4.heap.size:=λq hq ad ea h0=>by
  obtain⟨q0,h1,rfl⟩:=ZM.1 hq;have:=SB.lt (hQ3.sb q0 h1).1 ad ea h0;have:=Qq.size;omega
 generalize w4.heap.size=pd at*;obtain⟨hM,dv⟩:=jQZ (D:=⟨DA,dn,dc,dnd,dr⟩) lK sD Md XE bA;have Xf:Q.length=ps.length:=by have:=XE.len;rw[ZW] at this;exact this
 have ph:SlS Zt 3 w6 PA Q.length pc (Q.map (λq=>(q.1,q.2.t))):=⟨by rw[<-Cf];exact Md.sl.1,by rw[ZW]⟩
 have NI:∀q∈Q.map (λq=>(q.1,q.2.t)),SB w6 q.1.A q.1.n q.1.c q.1.nd:=λq hq=>by
  obtain⟨q0,h0,rfl⟩:=ZM.1 hq;exact(Md.sb q0 h0).1
 have bq:=Tg x.fam;have dW:Q.length<=8:=by omega
 have Y1:0<Q.length:=by
  obtain⟨c,hc⟩:=i5 _ (BQ lK);obtain⟨p,hp,_⟩:=bA.cov c hc;have:=List.length_pos_of_mem hp;omega
 have qH:=Ext.drew w6;refine Xy Qa (Ext w6) 9 [(true,1),(true,2),(false,0),(false,3),(true,4),(true,5),(true,6),(true,7),(true,8)] (by kernel_rfl) qH ?_;refine Xr (vs:=[.slice DA dn dc,.int .i64 dr]) rfl (λw' Qb k u hk=>by rw[(Xj.ext Qb).cell];exact hk) ?_;refine call (Ck w6.drew) ?_;rintro _ w7 ⟨NA,nc,rfl,QY,H3⟩;have jJ:=qH.trans QY;refine⟨jJ,?_⟩;refine call (tT NA 3 nc cR ⟨DA,dn,dc,dnd,dr⟩ PA Q.length pc _ (by decide) Cm wZ dv w7 H3 (de.ext jJ) (ph.ext jJ) (λq hq=>(NI q hq).ext jJ)) ?_;rw[hM];rintro _ w8 ⟨rfl,Q7⟩;have Wq:=jJ.trans Q7;refine⟨Wq,?_⟩;have ov:=Ext.drew w8;refine Xy Qa (Ext w8) 9 [(true,1),(true,2),(false,0),(false,3),(true,4),(true,5),(true,6),(true,7),(true,8)] (by kernel_rfl) ov ?_;refine Xr (vs:=[.slice DA dn dc,.int .i64 dr]) rfl (λw' Qb k u hk=>by rw[((Xj.ext Wq).ext Qb).cell];exact hk) ?_;refine call (Ck w8.drew) ?_;rintro _ w9 ⟨NB,nd,rfl,Xo,hN9⟩;have Me:=ov.trans Xo;have fw:=Wq.trans Me;refine⟨Me,?_⟩;refine call (HH NB nd cR ⟨DA,dn,dc,dnd,dr⟩ PA Q.length pc _ (by decide) Cm wZ dv (by omega) w9 hN9 (de.ext fw) (ph.ext fw) (λq hq=>(NI q hq).ext fw)) ?_;rw[hM];rintro _ QE ⟨rfl,X7⟩;refine⟨Me.trans X7,?_⟩;have gw:=fw.trans X7;have lQ0:=ph.ext gw;have bQc:∀q∈Q.map (λq=>(q.1,q.2.t)),SB QE q.1.A q.1.n q.1.c q.1.nd:=λq hq=>(NI q hq).ext gw
 have Jb:=Xj.ext gw;have bQd:=de.ext gw;have cY:=XD.trans gw;generalize Q.map (λq=>(q.1,q.2.t))=LQ at*;refine Xv (by simp) ?_;refine Y9 rfl ?_;refine Y9 rfl ?_;refine Xm Qa [] rfl rfl rfl rfl rfl ⟨⟩ rfl (λcs h=>by cases h) rfl (by decide) (by decide) ?_;intro QH Z4 qC ZJ;have uG:Own QH QE.heap.size 56 3 (some ⟨QE.heap.size,0,none⟩) 0 0 []:=Own.empty ZJ (QD _);refine Zk (n:=0) Qa rfl rfl rfl rfl rfl (by decide) rfl rfl ⟨_,rfl⟩ rfl rfl uG (lQ0.ext Z4).1 (λu hu=>by
  obtain⟨y,_,hy⟩:=eA.1 hu;exact sc (vs:=Zt y) rfl u hy) (by unfold maxLen;omega) (by show(0+Q.length)*48<=_;omega) Z4.size ?_
 intro BA bc QW Yl WM _;rw[dw] at WM;rw[aq] at WM ⊢;have fp:Ext QE QW:=Yl.ext Z4 (λk hk=>(uG.rows k hk).1);have lF:=cY.trans fp;have zJ:∀i,Qk BA i->QE.heap.size<=i:=λi hi=>(WM.rows i hi).1
 have bQe:∀q∈LQ,SB QW q.1.A q.1.n q.1.c q.1.nd:=λq hq=>(bQc q hq).ext fp
 have lW:LQ.length=Q.length:=ph.2;have Ji:=Jb.ext fp;have LM:=bQd.ext fp;have fJ:∀{w'},Mod (Qk BA) QW w'->(∀q∈LQ,SB w' q.1.A q.1.n q.1.c q.1.nd)/\Blk w' pd 32 [.slice DA dn dc,.int .i64 dr]/\SB w' DA dn dc dnd/\Ext w w':=λhm=>⟨λq hq=>SB.modo (bQe q hq) hm (λad ea h0 hk=>by have:=SB.lt (bQc q hq) ad ea h0;have:=zJ _ hk;omega),Ji.mod hm (λhk=>by have:=zJ _ hk;have:=Jb.lt;omega),SB.modo LM hm (λad ea h0 hk=>by have:=SB.lt bQd ad ea h0;have:=zJ _ hk;omega),hm.ext lF (λi hi=>by have:=zJ i hi;have:=cY.size;omega)⟩
 refine normIf (m:=((Jl/16:Nat):Int)) (by decide) (by rw[show(16:Int)=((16:Nat):Int) from rfl,Ay];exact IntWalk.u8_in _ (by omega)) ?_;refine Qj ((Jl/16:Nat):Int) rfl (by omega) ?_;refine AA (d:=Q.length) Y1 ?_;have ZL:Jl/16 % Q.length<Q.length:=j5 _ Y1;generalize Jl/16 % Q.length=k at*;obtain⟨q,hq⟩:∃q,LQ[k]? =some q:=⟨_,Xb (by omega)⟩
 have KY:=Q2 hq;obtain⟨a,rfl,_⟩:=WM.sl.at_ Y1;have cV:Mod (Qk (some a)) QW QW:=Mod.refl _ _;have base:∀{w'} (hm:Mod (Qk (some a)) QW w') (q':DV×List Nat),Own w' QE.heap.size 56 3 (some a) Q.length bc ((LQ.set k q').flatMap Zt)->SB w' q'.1.A q'.1.n q'.1.c q'.1.nd->((∀b∈q'.2,b<256)/\q'.2.length<=2000)->Ext w w'/\∃(L:List (DV×List Nat)) (D:DV),PartIn w' (some a) Q.length bc L/\Blk w' pd 32 [.slice D.A D.n D.c,.int .i64 D.r]/\SB w' D.A D.n D.c D.nd:=λhm q' hO hs ht=>by
  obtain⟨k1,k2,k3,k4⟩:=fJ hm;exact⟨k4,LQ.set k q',⟨DA,dn,dc,dnd,dr⟩,⟨⟨hO.sl,by rw[cj];exact lW⟩,jQ3 (P:=λV=>SB _ V.A V.n V.c V.nd) k1 hs,jQ4 dv ht,by omega⟩,k2,k3⟩
 refine gO [] Qa [14] (λt:Option Addr×Nat×Nat=>[.slice t.1 t.2.1 t.2.2]) (λt w'=>Ext w w'/\∃(L:List (DV×List Nat)) (D:DV),PartIn w' t.1 t.2.1 t.2.2 L/\Blk w' pd 32 [.slice D.A D.n D.c,.int .i64 D.r]/\SB w' D.A D.n D.c D.nd) ?_ ?_
 ·refine normIf (m:=((Jl/2:Nat):Int)) (by decide) (by rw[show(2:Int)=((2:Nat):Int) from rfl,Ay];exact IntWalk.u8_in _ (by omega)) ?_;refine normIf (m:=((Jl/2 % 8:Nat):Int)) (by decide) (Fi _ 8) ?_;refine XU (λc1=>?_) (λc1=>?_)
  ·refine W9 (j:=k) ZL ?_;show eD _ ((a.add (k*3)).add 2) _ _;rw[add_add];refine Bz WM Y1 (by show k*3+2<Q.length*3;omega) (λXM Yj dU=>?_);rw[HC gk LQ k q (q.1,t) 2 (.string (Qe t)) hq (by decide) rfl] at dU;exact⟨(some a,Q.length,bc),rfl,base Yj (q.1,t) dU ((fJ Yj).1 q KY) ⟨Yf,by show t.length<=2000;omega⟩⟩
  refine XU (λc2=>?_) (λc2=>?_)
  ·refine Xm Qa [[Value.int .u8 Jl]] rfl rfl rfl rfl rfl ⟨rfl,rfl,⟨⟩⟩ rfl (λcs h=>by simp only[QF] at h;subst h;rfl) rfl (by decide) (by decide) ?_;intro XM Xq up Kh;refine call (BM [Jl] _ 1 1 3 XM (Sl.own' (n:=1) Kh rfl (by decide)) (λy hy=>by rw[QF.1 hy];exact hh) (by decide)) ?_;rintro _ X1 ⟨VA,vn,vc,vnd,vr,rfl,Jd,Mf,sV,zK⟩;have hX:=Xq.trans Jd;refine W9 (j:=k) ZL ?_;show fX _ _ ((a.add (k*3)).add 0) _ _;rw[add_add];refine tK (WM.ext hX) (by show k*3+0+2<=Q.length*3;omega) (sc rfl) (λJM iA aj=>?_);have aj:=(HI hq ⟨VA,vn,vc,vnd,vr⟩)▸aj;have hz:=Xq.size;exact⟨(some a,Q.length,bc),rfl,base ((Mod.of_ext _ hX).trans iA (λi hi=>.inl hi)) _ aj (SB.modo Mf iA (λad ea h0 hk=>by have:=zK ad.block ⟨ad,ea,rfl⟩;have:=(WM.rows _ hk).2;omega)) (dv q KY)⟩
  refine XU (λc3=>?_) (λc3=>?_)
  ·refine ct Qa rfl rfl rfl rfl rfl rfl (X2 (Nat.le_of_lt ZL) WM.sl.le) ?_;obtain⟨k1,k2,k3,k4⟩:=fJ cV;have ht:=WM.sl.take (m:=k) (Nat.le_of_lt ZL);rw[<-OQ gk] at ht;exact⟨(some a,k,bc),rfl,k4,LQ.take k,⟨DA,dn,dc,dnd,dr⟩,⟨⟨ht,(by show(LQ.take k).length=k;rw[KZ];omega)⟩,λp hp=>k1 p (bF hp),λp hp=>dv p (bF hp),by show k<=32;omega⟩,k2,k3⟩
  refine XU (λc4=>?_) (λc4=>?_)
  ·have Wj:SlS Zt 3 QW (some a) Q.length bc LQ:=⟨WM.sl,lW⟩
   refine Zh gk Wj rfl ZL (λad q' hq' QR=>?_);cases hq.symm.trans hq';refine Kb (vs:=Zt q) rfl QR ?_;refine Xm Qa [Zt q] rfl rfl rfl rfl rfl ⟨rfl,rfl,⟨⟩⟩ rfl (λcs h=>by simp only[QF] at h;subst h;rfl) rfl (by decide) (by decide) ?_;intro XM Xq up Kh;have lQ1:SlS Zt 3 XM (some ⟨QW.heap.size,0,none⟩) 1 1 [q]:=⟨Sl.own (sz:=3) (n:=1) Kh (QD _) (by decide) (by simp[Zt]),rfl⟩
   refine Zk (n:=Q.length) Qa rfl rfl rfl rfl rfl (by decide) rfl rfl ⟨_,rfl⟩ rfl rfl (WM.ext Xq) lQ1.1 (λu hu=>by
    obtain⟨y,_,hy⟩:=eA.1 hu;exact sc (vs:=Zt y) rfl u hy) (by unfold maxLen;omega) (by show(Q.length+1)*48<=_;omega) (by have:=fp.size;have:=Xq.size;omega) ?_
   intro CA cc X1 uu yy _;rw[<-bH] at yy;have hm:Mod (Qk (some a)) QW X1:=(Mod.of_ext _ Xq).trans uu (λi hi=>.inl hi);obtain⟨k1,k2,k3,k4⟩:=fJ hm;exact⟨(CA,Q.length+1,cc),rfl,k4,LQ++ [q],⟨DA,dn,dc,dnd,dr⟩,⟨⟨yy.sl,by simp[lW]⟩,λp hp=>by
    rcases XH.1 hp with hp | hp
    ·exact k1 p hp
    ·rw[QF.1 hp];exact k1 q KY,λp hp=>by
    rcases XH.1 hp with hp | hp
    ·exact dv p hp
    ·rw[QF.1 hp];exact dv q KY,by show Q.length+1<=32;omega⟩,k2,k3⟩
  refine XU (λc5=>?_) (λc5=>?_)
  ·refine Xm Qa [[Value.int .u8 Jl]] rfl rfl rfl rfl rfl ⟨rfl,rfl,⟨⟩⟩ rfl (λcs h=>by simp only[QF] at h;subst h;rfl) rfl (by decide) (by decide) ?_;intro XM Xq up Kh;refine call (BM [Jl] _ 1 1 3 XM (Sl.own' (n:=1) Kh rfl (by decide)) (λy hy=>by rw[QF.1 hy];exact hh) (by decide)) ?_;rintro _ X1 ⟨VA,vn,vc,vnd,vr,rfl,Jd,Mf,sV,zK⟩;have hX:=Xq.trans Jd;have Jc:=Ji.ext hX;refine QB Jc rfl (sc rfl) (λJM xX _ jE=>?_);have qV:Mod (·=pd) X1 JM:=oQh xX rfl;have hz:=Xq.size;have X0:=fp.size;have Q5:=Jb.lt;have DT:Ext w JM:=qV.ext (lF.trans hX) (λi hi=>by omega);refine⟨(some a,Q.length,bc),rfl,DT,LQ,⟨VA,vn,vc,vnd,vr⟩,⟨⟨((WM.ext hX).mod qV (λi hi hh=>by have:=zJ i hi;omega)).sl,lW⟩,λp hp=>SB.modo ((bQe p hp).ext hX) qV (λad ea h0 hh=>?_),dv,by show Q.length<=32;omega⟩,jE,SB.modo Mf qV (λad ea h0 hh=>by have:=zK ad.block ⟨ad,ea,rfl⟩;omega)⟩;have:=mQR p hp ad ea h0;omega
  refine XU (λc6=>?_) (λc6=>?_)
  ·refine call (pZ true QW) ?_;rintro _ XM ⟨rfl,Xq⟩;refine W9 (j:=k) ZL ?_;show fX _ _ ((a.add (k*3)).add 0) _ _;rw[add_add];refine tK (WM.ext Xq) (by show k*3+0+2<=Q.length*3;omega) (sc rfl) (λJM iA aj=>?_);have aj:=(HI hq ⟨none,0,0,[],1⟩)▸aj;exact⟨(some a,Q.length,bc),rfl,base ((Mod.of_ext _ Xq).trans iA (λi hi=>.inl hi)) _ aj (SlS.nil _) (dv q KY)⟩
  refine XU (λc7=>?_) (λc7=>?_)
  ·refine normIf (m:=((Jl/16:Nat):Int)) (by decide) (by rw[show(16:Int)=((16:Nat):Int) from rfl,Ay];exact IntWalk.u8_in _ (by omega)) ?_;refine Qj ((Jl/16:Nat):Int) rfl (by omega) ?_;refine Qj ((3+Jl/16:Nat):Int) (by omega) (by omega) ?_;refine call (P6 ((3+Jl/16:Nat):Int) QW (by omega) (by omega)) ?_;rintro _ XM ⟨VA,vn,vc,rfl,Xq,xC,zK⟩;refine new (λX1 Jd CM Jc=>?_);refine QB Jc rfl (sc rfl) (λJM xX _ jE=>?_);have yA:=XY Jd Jc xX;have hX:=Xq.trans yA;refine Qs jE rfl ?_;refine W9 (j:=k) ZL ?_;show fX _ _ ((a.add (k*3)).add 0) _ _;rw[add_add];refine tK (WM.ext hX) (by show k*3+0+2<=Q.length*3;omega) (sc rfl) (λag bQf Mg=>?_);have Mg:=(HI hq ⟨VA,vn,vc,[⟨((3+Jl/16:Nat):Int),0,1⟩],2⟩)▸Mg;exact⟨(some a,Q.length,bc),rfl,base ((Mod.of_ext _ hX).trans bQf (λi hi=>.inl hi)) _ Mg (SB.modo (xC.ext yA) bQf (λad ea h0 hk=>by have:=zK ad.block ⟨ad,ea,rfl⟩;have:=(WM.rows _ hk).2;omega)) (dv q KY)⟩
  ·refine Qj ((Jl:Nat):Int) rfl (by omega) ?_;refine W9 (j:=k) ZL ?_;show eD _ (((a.add (k*3)).add 0).add 1) _ _;rw[add_add,add_add];refine Bz WM Y1 (by show k*3+(0+1)<Q.length*3;omega) (λXM Yj dU=>?_);rw[show k*3+(0+1)=k*3+1 from rfl,HC gk LQ k q (⟨q.1.A,q.1.n,q.1.c,q.1.nd,((Jl:Nat):Int)⟩,q.2) 1 (.int .i64 ((Jl:Nat):Int)) hq (by decide) rfl] at dU;exact⟨(some a,Q.length,bc),rfl,base Yj _ dU ((fJ Yj).1 q KY) (dv q KY)⟩
 rintro⟨CA,cn,cc⟩ VJ ⟨rq,L,D,oG,bQg,bQh⟩;simp only at oG;have bQi:=Ext.drew VJ;refine Xy Qa (Ext VJ) 9 [(true,1),(true,2),(false,0),(false,3),(true,4),(true,5),(true,6),(true,7),(true,8)] (by kernel_rfl) bQi ?_;refine Xr (vs:=[.slice D.A D.n D.c,.int .i64 D.r]) rfl (λw' Qb k u hk=>by rw[(bQg.ext Qb).cell];exact hk) ?_;refine call (Ck VJ.drew) ?_;rintro _ fq ⟨N1,n1,rfl,lQ2,lQ3⟩;have yK:=bQi.trans lQ2;refine⟨yK,?_⟩;refine call (tT N1 3 n1 cR D CA cn cc L (by decide) Cm wZ oG.tx fq lQ3 (bQh.ext yK) (oG.sl.ext yK) (λq hq=>(oG.sb q hq).ext yK)) ?_;rintro u Wp ⟨hu,lQ4⟩;rw[Cq] at hu;subst hu;have Mh:=yK.trans lQ4;refine⟨Mh,?_⟩;have bQj:=Ext.drew Wp;refine Xy Qa (Ext Wp) 9 [(true,1),(true,2),(false,0),(false,3),(true,4),(true,5),(true,6),(true,7),(true,8)] (by kernel_rfl) bQj ?_;refine Xr (vs:=[.slice D.A D.n D.c,.int .i64 D.r]) rfl (λw' Qb k u hk=>by rw[((bQg.ext Mh).ext Qb).cell];exact hk) ?_;refine call (Ck Wp.drew) ?_;rintro _ yC ⟨N2,n2,rfl,KU,lQ5⟩;have Mi:=bQj.trans KU;refine⟨Mi,?_⟩;have Eb:=Mh.trans Mi;refine call (HH N2 n2 cR D CA cn cc L (by decide) Cm wZ oG.tx oG.len yC lQ5 (bQh.ext Eb) (oG.sl.ext Eb) (λq hq=>(oG.sb q hq).ext Eb)) ?_;rintro u yE ⟨hu,Ja⟩;rw[Cq] at hu;subst hu;refine⟨Mi.trans Ja,?_⟩;have lQ6:=rq.trans (Eb.trans Ja);have bQk:Jy [t]:=λs hs=>by rw[QF.1 hs];exact⟨Yf,by omega⟩
 have bQl:∀s∈ [t],s.length<=1000:=λs hs=>by rw[QF.1 hs];omega
 refine Xm Qa [[Value.string (Qe t)]] rfl rfl rfl rfl rfl ⟨rfl,rfl,⟨⟩⟩ rfl (λcs h=>by simp only[QF] at h;subst h;rfl) rfl (by decide) (by decide) ?_;intro D6 om nQT lQ7;have lQ8:Sl D6 1 _ 1 1 (Q9 [t]):=Sl.own' (n:=1) lQ7 rfl (by decide);refine call (pZ true D6) ?_;rintro _ w26 ⟨rfl,uC⟩;refine call (tT _ 1 1 [t] ⟨none,0,0,[],1⟩ none 0 0 [] (show 1<=4 by decide) bQk bQl (λq hq=>by cases hq) w26 (lQ8.ext uC) (SlS.nil _) (SlS.nil _) (λq hq=>by cases hq)) ?_;rintro u w27 ⟨hu,lQ9⟩;rw[Cq] at hu;subst hu;refine Xm Qa [[Value.string (Qe t)]] rfl rfl rfl rfl rfl ⟨rfl,rfl,⟨⟩⟩ rfl (λcs h=>by simp only[QF] at h;subst h;rfl) rfl (by decide) (by decide) ?_;intro w28 mQa nQU mQb;have mQc:Sl w28 1 _ 1 1 (Q9 [t]):=Sl.own' (n:=1) mQb rfl (by decide);refine call (pZ true w28) ?_;rintro _ w29 ⟨rfl,bQm⟩;refine call (HH _ 1 [t] ⟨none,0,0,[],1⟩ none 0 0 [] (show 1<=4 by decide) bQk bQl (λq hq=>by cases hq) (by decide) w29 (mQc.ext bQm) (SlS.nil _) (SlS.nil _) (λq hq=>by cases hq)) ?_;rintro u w30 ⟨hu,mQd⟩;rw[Cq] at hu;subst hu;refine Zd rfl ?_;refine JN rfl ?_;refine JN rfl ?_;exact⟨rfl,lQ6.trans (om.trans (uC.trans (lQ9.trans (mQa.trans (bQm.trans mQd)))))⟩
end
end Go.Proofs.YtjabbbcdgmlojaaGreatDoor
