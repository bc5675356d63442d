/-
  What PPatchEdits rests on, part 6 (wip/shake.py).
  Conditions: none.
-/
import Derived.Test.YtjabbbcdgmlojaaGreatDoorQPPatchEditse
set_option linter.all false
set_option linter.deprecated false
set_option maxHeartbeats 12800000
namespace Go.Proofs.YtjabbbcdgmlojaaGreatDoor
open Go Go.RowKit
section
theorem lQM {nm:List (List Nat)}{x:DV}{f:List Nat}{es:List EdV}(h:IS nm x):mC nm x f es=match Vh nm (fF f) [102] with
  | .error p=>.error p.e
  | .ok g=>if¬(es.all (λe=>Kp nm.length e.x.nd e.x.r)=true/\kG nm.length f 0 (es.map EdV.ed)=true)then .error 291
   else match Yi nm (oD x) g f (es.map EdV.ed) (QF f) 0 with
    | none=>.error 291
    | some l=>if 1048576<(Qp l).length then .error 2
     else match Vh nm (fF (Qp l)) [102] with
      | .error p=>if p.e=2 then .error 2 else .ok (Qp l)
      | .ok _=>.ok (Qp l):=by
 unfold mC;rw[if_neg (by rw[h.1,h.2];simp)];by_cases YI:es.all (λe=>Kp nm.length e.x.nd e.x.r)=true
 ·rw[Qf YI];unfold Dk;cases Vh nm (fF f) [102] with
  | error p=>rfl
  | ok g=>
   simp only;by_cases hv:kG nm.length f 0 (es.map EdV.ed)=true
   ·rw[if_neg (by rw[hv];decide),if_neg (λhh=>hh ⟨YI,hv⟩)];rfl
   ·rw[Qf (by simpa using hv),Qf (λhh=>hv hh.2)]
 ·rw[if_neg YI];cases Vh nm (fF f) [102] with
  | error p=>rfl
  | ok g=>simp only;rw[Qf (λhh=>YI hh.1)]
theorem bQm {w:World}{w':World}{t:List Nat}{g:Nat}(hB:Blk w' g 85 (bg ([102],t))):SlS bg 2 w' (some ⟨g,0,none⟩) 1 1 (fF t):=⟨Sl.own (sz:=2) (n:=1) hB (QB _) (by decide) (by simp[bg]),rfl⟩
theorem bQn {t:List Nat}(h:∀b∈t,b<256)(hl:t.length<=9223372036854775807):∀x∈fF t,FileB x:=λx hx=>by
 rw[QO.1 hx];exact⟨(by decide:∀b∈ [102],b<256),h,by show 1<=_;decide,hl⟩
theorem bQo (NA:Option Addr)(nn nc:Nat)(nm:List (List Nat))(x:DV)(f:List Nat)(EA:Option Addr)(en ec:Nat)(es:List EdV)(ni:nm.length<=4)(Yp:KO nm)(KC:∀s∈nm,s.length<=1000)(jH:∀b∈f,b<256)(Zq:f.length<=60000)
  (oQc:∀e∈es, -9223372036854775808<=e.fr/\e.fr<=9223372036854775807/\ -9223372036854775808<=e.to_/\e.to_<=9223372036854775807) (ht:∀e∈es,(∀b∈e.tx,b<256)/\e.tx.length<=1000) (wX:es.length<=10) (w:World)
  (hN:Sl w 1 NA nn nc (XH nm)) (hx:SB w x.A x.n x.c x.nd) (hEs:SlS X6 5 w EA en ec es) (tK:∀e∈es,SB w e.x.A e.x.n e.x.c e.x.nd):
  Fn Tryz.prog 15 [.slice NA nn nc,Xm x.A x.n x.c x.r,.string (Qd f),.slice EA en ec] w (λu w'=>u=vx (mC nm x f es)/\Ext w w'):=by
 have hk:nm.length<=12:=by omega
 have QZ:nm.length=nn:=by have:=hN.len;rw[bT] at this;omega
 refine xK (c:={c15 with cuts:=[]}) Qa Tryz.func15 rfl rfl rfl ?_;refine Z2 (ZN Qa ?_);refine new (λw0 DL gl wt=>?_);refine new (λw1' Qe Q6 Qh=>?_);refine new (λw3 Qi Jr Qu=>?_);obtain⟨w1,hw1⟩:∃w1,w1=w0:=⟨_,rfl⟩
 obtain⟨w2,hw2⟩:∃w2,w2=w1':=⟨_,rfl⟩
 subst hw1;subst hw2;have VT:=Qe.trans Qi;have QU:=DL.trans VT;have QX:w1.heap.size≠w2.heap.size:=by omega
 refine Z2 (xJ Qa rfl rfl rfl rfl ⟨_,_,_,_,rfl,rfl,?_⟩);refine Z2 (ZN Qa ?_);refine Qt (wt.ext VT) rfl ?_;generalize Wj:mC nm x f es=M;refine XU (aQ0 NA nn nc nm x hk Yp w3 (hN.ext QU) (hx.ext QU)) ?_ ?_
 rotate_left
 ·rintro ch w4 ⟨Xi,rfl,Qs⟩;refine aX Qa (asx:= #[]) (cap:= #[.pointer (some ⟨w1.heap.size,0,none⟩),.pointer (some ⟨w2.heap.size,0,none⟩)]) rfl rfl (args:= #[.pointer (some ⟨w1.heap.size,0,none⟩),.pointer (some ⟨w2.heap.size,0,none⟩)]) (by simp) ((vu _ _ 1 w4 _ _ QX ((Qh.ext Qi).ext Qs) (Qu.ext Qs)).mono ?_);rintro e u' sV ⟨v,rfl,em,YW⟩;refine⟨v,rfl,em,?_⟩;refine Qz YW.1 rfl ?_;refine Qz YW.2.1 rfl ?_;have bL:M= .error 1:=by
     rw[<-Wj];unfold mC;rw[Qf (by
      by_cases h1:Z1 nm=true
      ·exact .inr (fC.2 (λh2=>Xi ⟨h1,h2⟩))
      ·exact .inl (by simpa using h1))]
  rw[bL];exact⟨rfl,YW.2.2.ext (QU.trans Qs) (λi hi=>by rcases hi with rfl | rfl<;>omega)⟩
 rintro _ w4 ⟨X5,Qs⟩;have Xp:=QU.trans Qs;rw[lQM X5] at Wj;have sx:=jg X5.2;have Pm:=(wt.ext VT).ext Qs;have eC:=(Qh.ext Qi).ext Qs;have gy:=Qu.ext Qs;refine Z2 (ZN Qa ?_);refine Xg Qa [bg ([102],f)] rfl rfl rfl rfl rfl ⟨rfl,rfl,⟨⟩⟩ rfl (λcs h=>by simp only[QO] at h;subst h;rfl) rfl (by decide) (by decide) ?_;intro w5 Qx KI QD;have JK:=Xp.trans Qx;refine call (H5 nm NA nn nc (fF f) _ 1 1 [102] w5 (hN.ext JK) Yp hk (bQm (w:=w) QD) (bQn jH (by omega)) (by decide) (by decide)) ?_;rintro u6 w6 ⟨QQ,jo⟩;have XX:=JK.trans QQ;have XM:=Qx.trans QQ;cases ah:Vh nm (fF f) [102] with
 | error q=>
  rw[ah] at jo Wj;have hq:=lQG ah;subst jo;refine new (λw7 Xh W8 Q3=>?_);refine new (λw8 Xn YU Xz=>?_);refine Qv (Q3.ext Xn) rfl (sc rfl) (λw9 dZ gc JI=>?_);have Zg:Mod (·=w6.heap.size) w8 w9:=qQL dZ rfl;have E8:¬w7.heap.size=w6.heap.size:=by omega
  refine Qv (Xz.mod Zg E8) rfl (sc rfl) (λQE jA y9 J6=>?_);have ZA:Mod (·=w7.heap.size) w9 QE:=qQL jA rfl;have wu:Ext w6 QE:=ZA.ext (Zg.ext (Xh.trans Xn) (λi hi=>by omega)) (λi hi=>by omega);have sW:=XM.trans wu;refine Z2 (ZN Qa ?_);refine Qz J6 rfl ?_;refine XU (Wb q.e hq QE) (λ_ _ hf=>hf.elim) ?_;rintro ch _ ⟨rfl,rfl⟩;refine aX Qa (asx:= #[]) (cap:= #[.pointer (some ⟨w1.heap.size,0,none⟩),.pointer (some ⟨w2.heap.size,0,none⟩)]) rfl rfl (args:= #[.pointer (some ⟨w1.heap.size,0,none⟩),.pointer (some ⟨w2.heap.size,0,none⟩)]) (by simp) ((vu _ _ q.e QE _ _ QX (eC.ext sW) (gy.ext sW)).mono ?_);rintro e u' sV ⟨v,rfl,em,YW⟩;refine⟨v,rfl,em,?_⟩;refine Qz YW.1 rfl ?_;refine Qz YW.2.1 rfl ?_;have bL:M= .error q.e:=Wj.symm;rw[bL];exact⟨rfl,YW.2.2.ext (Xp.trans sW) (λi hi=>by rcases hi with rfl | rfl<;>omega)⟩
 | ok g=>
  rw[ah] at jo Wj;simp only at Wj;obtain⟨dQz,SA,scp,SL,rfl,qk⟩:=jo;obtain⟨Po,qQE,qQF,pQe⟩:=yG ah;obtain⟨MX,Pp,dQA⟩:=UI qk;have hMl:=dQA.len;refine new (λw7 Xh W8 Q3=>?_);refine new (λw8 Xn YU Xz=>?_);refine Qv (Q3.ext Xn) rfl (sc rfl) (λw9 dZ gc JI=>?_);have Zg:Mod (·=w6.heap.size) w8 w9:=qQL dZ rfl;have E8:¬w7.heap.size=w6.heap.size:=by omega
  refine Qv (Xz.mod Zg E8) rfl (sc rfl) (λQE jA y9 J6=>?_);have ZA:Mod (·=w7.heap.size) w9 QE:=qQL jA rfl;have wu:Ext w6 QE:=ZA.ext (Zg.ext (Xh.trans Xn) (λi hi=>by omega)) (λi hi=>by omega);have FI:=JI.mod ZA (λh=>E8 h.symm);refine Z2 (ZN Qa ?_);refine Qz J6 rfl ?_;refine call (Iu QE) ?_;rintro _ _ rfl;have sW:=XM.trans wu;have pM:=Xp.trans sW;refine Z2 (ZN Qa ?_);refine Qt (Pm.ext sW) rfl ?_;refine new (λQL Jv sn Z6=>?_);have WE:=pM.trans Jv;have dY:=sW.trans Jv
  let p:EP:=⟨QE.heap.size,NA,nn,nc,nm,x,f,EA,en,ec,es⟩
  have hB:EB p:=⟨ni,Yp,KC,jH,Zq,Po,oQc,λe he=>(ht e he).1,λe he=>(ht e he).2,wX⟩
  have K:EK QL p:=⟨Z6,hN.ext WE,hEs.ext WE,λe he=>(tK e he).ext WE⟩
  refine Z2 (ZN Qa ?_);refine XU (lQl p hB QL K) ?_ ?_
  rotate_left
  ·rintro ch Xb ⟨Xi,rfl,XB⟩;refine aX Qa (asx:= #[]) (cap:= #[.pointer (some ⟨w1.heap.size,0,none⟩),.pointer (some ⟨w2.heap.size,0,none⟩)]) rfl rfl (args:= #[.pointer (some ⟨w1.heap.size,0,none⟩),.pointer (some ⟨w2.heap.size,0,none⟩)]) (by simp) ((vu _ _ 291 Xb _ _ QX ((eC.ext dY).ext XB) ((gy.ext dY).ext XB)).mono ?_);rintro e u' sV ⟨v,rfl,em,YW⟩;refine⟨v,rfl,em,?_⟩;refine Qz YW.1 rfl ?_;refine Qz YW.2.1 rfl ?_;have bL:M= .error 291:=by rw[<-Wj,Qf Xi]
   rw[bL];exact⟨rfl,YW.2.2.ext (WE.trans XB) (λi hi=>by rcases hi with rfl | rfl<;>omega)⟩
  rintro _ Xb ⟨hV,XB⟩;rw[if_neg (λhh=>hh hV)] at Wj;have vT:=WE.trans XB;have oQd:=dY.trans XB;have K12:=K.ext XB;refine Z2 (ZN Qa ?_);refine Z2 (ZN Qa ?_);refine Z2 (ZN Qa ?_);refine call (CI f Xb jH (by omega)) ?_;rintro _ X9 ⟨PA,pc,rfl,XF,Ac⟩;have iF:=u9 Po;have cy:(bf f).length=(QF f).length:=by rw[iF,JL]
  rw[cy] at Ac;have Ac:Sn X9 PA (QF f).length pc (JY (QF f)):=by rw[iF] at Ac;exact Ac
  have gD:=iX f;have J9:=Yg Po;have dQB:=yH f;have sr:=vT.trans XF;have wv:=oQd.trans XF;have K13:=K12.ext XF;have E9:=FI.ext (Jv.trans (XB.trans XF));have oQe:=Pp.ext (wu.trans (Jv.trans (XB.trans XF)));have qQG:(QF f).length<=60000:=by have:=dQB.1;omega
  have pQf:∀s∈(QF f),vD s:=λs hs=>by
   exact⟨λb hb=>jH b (Dq _ s hs b hb),by have:=dQB.2 s hs;omega⟩
  have pQg:∀e∈es.map EdV.ed,(∀b∈e.tx,b<256)/\e.tx.length<=1000:=λe he=>by
   obtain⟨e0,he0,rfl⟩:=Zk.1 he;exact ht e0 he0
  have Nz:∀o:BF,(QG nm.length o).length<=16:=λo=>X3 (aQ8 _ _) (X3 (aT (by decide) ni) (by decide))
  have qQH:g.sg.length<=65536:=dQz.sl;have pQh:∀i,(Qp ((QF f).take i)).length<=60000:=λi=>by
   have hu:∀a b:List (List Nat),Qp (a++b)=Qp a++Qp b:=λa b=>by simp[Qp]
   have e5:Qp (QF f)=Qp ((QF f).take i)++Qp ((QF f).drop i):=by rw[<-hu,aQ]
   have:=QC List.length e5;rw[J9,Qq] at this;omega
  refine loop Qa [46,13,14,15] (λt:Nat×List (List Nat)×Option Addr×Nat×Nat=>[.int .i64 t.1,.slice t.2.2.1 t.2.1.length t.2.2.2.1,.int .i64 (Qp ((QF f).take t.1)).length,.int .i64 t.2.2.2.2]) (λt w'=>Lo X9 w' t.2.2.1 t.2.1.length t.2.2.2.1 t.2.1/\t.1<=(QF f).length/\ApR nm (oD x) g f (es.map EdV.ed) (QF f) t.1 t.2.1/\(∀j y,g.sg[j]? =some y->j<t.2.2.2.2->y.at_+(y.t-y.f)<=(Qp ((QF f).take t.1)).length)/\t.2.1.length<=t.1*16000048/\(∀u∈t.2.1,vD u)/\t.2.2.2.2<=g.sg.length) (λt _=>(QF f).length-t.1) (0,[],none,0,0) rfl ⟨⟨Ext.refl _,Own.nil _ _ _ _⟩,Xo _,ApR.zero,(λj y _ hj=>Xc hj (Nat.not_lt_zero _)),Xo _,(λu hu=>by cases hu),Xo _⟩ ?_;rintro⟨i,L,LA,lc,seg⟩ Zu ⟨tR,hi,Wg,Pq,wM,Bg,dQC⟩;simp only at tR hi Wg Pq wM Bg dQC;have kW:=tR.e;have DQ:=sr.trans kW;have Fa:=wv.trans kW;refine Qw (λc1=>?_) (λc1=>?_)
  ·have Q4:i<(QF f).length:=by simp only at c1;omega
   obtain⟨s,hs⟩:∃s,(QF f)[i]? =some s:=⟨_,Xu Q4⟩
   have Wf:=Xl hs;have bJ:=pQf s Wf;have Pt:=vE hs;have qQf:=pQh (i+1);have bF:=bQk (p:=0) hs;rw[WQ] at bF;refine KF (cs:=JY (QF f)) (by rw[cy];exact Ac.1.ext kW) (by rw[cy];exact Q4) (λad u hA hu Xq=>?_);rw[bZ hs] at hu;cases hu;refine load Xq ?_;refine call (CZ (s++ [10]) Zu (ig bJ.1)) ?_;rintro _ J8 ⟨rfl,JJ⟩;have Bf:(Qd (s++ [10])).size=s.length+1:=by rw[Q8];simp
   have qg:(i+1)*16000048=i*16000048+16000048:=by omega
   rw[CH];refine Qw (λd1=>?_) (λd1=>?_)
   ·refine Xg Qa [[Value.string (Qd (s++ [10]))]] rfl rfl rfl rfl rfl ⟨rfl,rfl,⟨⟩⟩ rfl (λcs hh=>by simp only[QO] at hh;subst hh;rfl) rfl (by decide) (by decide) ?_;intro ac Vo nQl WG;have vW:=JJ.trans Vo;have MV:Sl ac 1 (some ⟨J8.heap.size,0,none⟩) 1 1 (JY [s]):=Sl.own' (n:=1) WG rfl (by decide);refine Je (n:=L.length) Qa rfl rfl rfl rfl rfl (by decide) rfl rfl ⟨_,rfl⟩ rfl rfl (tR.ext vW).ow MV (ce _) (by unfold maxLen;omega) (by show(L.length+1)*16<=_;omega) (tR.ext vW).e.size ?_;intro LA2 NS VU oQf E5 qQg;have oQg:=(tR.ext vW).app oQf E5;refine Qj ((Qp ((QF f).take (i+1))).length:Int) (by show((Qp ((QF f).take i)).length:Int)+((Qd (s++ [10])).size:Int)=_;rw[Bf,Pt];omega) (by omega) ?_;refine Qj ((i+1:Nat):Int) (by show((i:Nat):Int)+1=_;omega) (by omega) ?_;refine⟨(i+1,L++ [s],LA2,NS,seg),by simp only[Qq];rfl,⟨by simp only[Qq];exact oQg,Q4,Wg.next hs (by rw[if_neg d1]),λj y hy hj=>by have:=Pq j y hy hj;simp only;omega,by simp only[Qq,nU];omega,λu hu=>?_,dQC⟩,by show(QF f).length-(i+1)<(QF f).length-i;omega⟩;rcases XP.1 hu with hu | hu
    ·exact Bg u hu
    ·rw[QO.1 hu];exact bJ
   ·have Pu:XS s= .txt:=Decidable.not_not.1 d1;obtain⟨kk,σ,y,iL⟩:=lQJ ah bF Pu;have iL:SegAt g (Qp ((QF f).take i)).length kk σ y:=iL;have pQi:=iL.cnd;have hσ:σ<g.sg.length:=(Jd.1 iL.get).1;have hsσ:seg<=σ:=by
     apply Classical.byContradiction;intro hh;have:=Pq σ y iL.get (by omega);have:=iL.hi;omega
    have Ad:=kW.trans JJ;have MU:=E9.ext Ad;have oQh:=oQe.ext Ad;have Xq:∀{w':World} (_:Ext J8 w') (sg:Nat) (z:Sx),MX[sg]? =some z->∃q,g.sg[sg]? =some q/\z.f=q.f/\z.t=q.t/\z.at_=q.at_/\Set1 nm.length z.x.nd z.x.r q.o:=λ_ sg z hz=>by
     have Xa:=(Jd.1 hz).1;obtain⟨q,hq⟩:∃q,g.sg[sg]? =some q:=⟨_,Xu (by omega)⟩
     obtain⟨a1,a2,a3,a4,a5⟩:=dQA.get hq hz;exact⟨q,hq,a1,a2,a4,a5⟩
    refine loop Qa [15] (λsg:Nat=>[.int .i64 sg]) (λsg w'=>Ext J8 w'/\sg<=σ) (λsg _=>σ-sg) seg rfl ⟨Ext.refl _,hsσ⟩ ?_;rintro sg ac ⟨Vo,qk⟩;have NT:=MU.ext Vo;have NU:=oQh.ext Vo;have NV:=Ext.drew ac;obtain⟨q0,YF⟩:∃q0,g.sg[sg]? =some q0:=⟨_,Xu (by omega)⟩
    have Pv:=pQe.ok q0 (Xl YF);have hqf:=Pv.ft;have FW:=Pv.tl;obtain⟨x0,dV,fY,_⟩:=Pv.src;have qQI:x0.2.length<=60000:=by
     have:q0.fl=0:=by
      have:=(Jd.1 dV).1;simpa [fF] using this
     rw[this] at dV;have:x0=([102],f):=(Option.some.inj dV).symm;rw[this];exact Zq
    have qQJ:=dQz.tl;refine XR Qa (Ext ac) 22 [(true,0),(true,1),(true,2),(true,3),(true,4),(true,5),(true,6),(true,7),(true,8),(true,9),(true,10),(true,11),(true,12),(true,13),(true,14),(true,15),(true,16),(true,17),(true,18),(true,19),(true,20),(true,21)] (by kernel_rfl) NV ?_;refine QN (v:=.slice SA g.sg.length scp) (λw' Qb=>(NT.ext Qb).cell 1) ?_;refine Zt oP NU.sl rfl (by omega) (λpd z hz hc=>?_);obtain⟨q1,pN,z1,z2,z3,z4⟩:=Xq Vo sg z hz;rw[YF] at pN;cases pN;refine QN (v:=.int .i64 z.at_) (λw' Qb=>Qb.cell (hc 3 _ rfl)) ?_;refine QN (v:=.slice SA g.sg.length scp) (λw' Qb=>(NT.ext Qb).cell 1) ?_;refine Zt oP NU.sl rfl (by omega) (λpd2 z' aH ZZ=>?_);rw[hz] at aH;cases aH;refine QN (v:=.int .i64 z.t) (λw' Qb=>Qb.cell (ZZ 1 _ rfl)) ?_;refine Qj ((q0.at_+q0.t:Nat):Int) (by omega) (by omega) ?_;refine QN (v:=.slice SA g.sg.length scp) (λw' Qb=>(NT.ext Qb).cell 1) ?_;refine Zt oP NU.sl rfl (by omega) (λpd3 z' aH sJ=>?_);rw[hz] at aH;cases aH;refine QN (v:=.int .i64 z.f) (λw' Qb=>Qb.cell (sJ 0 _ rfl)) ?_;refine Qj ((q0.at_+(q0.t-q0.f):Nat):Int) (by omega) (by omega) ?_;refine Qw (λc3=>?_) (λc3=>?_)
    ·have Xa:sg<σ:=by
      apply Classical.byContradiction;intro hh;have:sg=σ:=by omega
      subst this;rw[iL.get] at YF;cases YF;have:=iL.hi;simp only at c3;omega
     refine Qj ((sg+1:Nat):Int) (by show((sg:Nat):Int)+1=_;omega) (by omega) ?_;exact⟨sg+1,rfl,⟨Vo.trans NV,by omega⟩,by show σ-(sg+1)<σ-sg;omega⟩
    ·have Xa:sg=σ:=by
      apply Classical.byContradiction;intro hh;have:=iL.first sg q0 YF (by omega);simp only at c3;omega
     subst Xa;rw[iL.get] at YF;cases YF;have gw:QG nm.length (λe=>oD x e&&y.o e)=QG nm.length (XY (oD x) (ij g (Qp ((QF f).take i)).length)):=by rw[pQi,<-iL.o]
     have pF:Ext Zu ac.drew:=JJ.trans (Vo.trans NV);have NW:=DQ.trans pF;have sZ:=kW.trans pF;have cQ1:=tR.ext pF;have aP:=cQ1.ow.rows;generalize ac.drew=VU at*;have Wh:=Ext.drew VU;have z13:=wv.size;have oQi:=Pm.ext (wv.trans sZ);have cQ2:Ext w6 VU:=(wu.trans (Jv.trans (XB.trans XF))).trans sZ;have oQb:=(wu.trans (Jv.trans (XB.trans XF))).size;have nx:¬Qk LA w.heap.size:=λh=>by have:=(aP _ h).1;have:=Pm.lt;omega
     have nS:¬Qk LA w6.heap.size:=λh=>by have:=(aP _ h).1;have:=E9.lt;omega
     have oQj:=E9.ext sZ;have hcL:LA=LA:=rfl;refine lQL Qa [(8,.v (.pointer (some ⟨w1.heap.size,0,none⟩))),(9,.v (.pointer (some ⟨w2.heap.size,0,none⟩)))] rfl (λch w'=>aA nm f (es.map EdV.ed) (QG nm.length (λe=>oD x e&&y.o e)) (Qp ((QF f).take i)).length s=none/\ch=kH 291/\Ext VU w') (λch bC hp=>by
      obtain⟨Xi,rfl,s6⟩:=hp;refine aX Qa (asx:= #[]) (cap:= #[.pointer (some ⟨w1.heap.size,0,none⟩),.pointer (some ⟨w2.heap.size,0,none⟩)]) rfl rfl (args:= #[.pointer (some ⟨w1.heap.size,0,none⟩),.pointer (some ⟨w2.heap.size,0,none⟩)]) (by simp) ((vu _ _ 291 bC _ _ QX (eC.ext (wv.trans (sZ.trans s6))) (gy.ext (wv.trans (sZ.trans s6)))).mono ?_);rintro e u' sV ⟨v,rfl,em,YW⟩;refine⟨v,rfl,em,?_⟩;refine Qz YW.1 rfl ?_;refine Qz YW.2.1 rfl ?_;have bL:M= .error 291:=by rw[<-Wj,Wg.none hs (by rw[Qf Pu,<-gw];exact Xi)]
      rw[bL];exact⟨rfl,YW.2.2.ext (Xp.trans (wv.trans (sZ.trans s6))) (λi hi=>by rcases hi with rfl | rfl<;>omega)⟩) (Mod (Qk LA) VU) 15 [(true,0),(true,1),(true,2),(true,3),(true,4),(true,5),(true,6),(true,7),(true,8),(true,9),(true,10),(false,11),(false,12),(false,13),(true,14)] (by kernel_rfl) (Mod.of_ext _ Wh) ?_
     refine Xv (vs:=x.cells) rfl (λw' Qb k u hk=>by rw[(oQi.mod Qb nx).cell];exact hk) ?_;refine QN (v:=.slice SA g.sg.length scp) (λw' Qb=>(oQj.mod Qb nS).cell 1) ?_;refine Zt oP Pp.sl rfl (by omega) (λpd4 z' aH Eb=>?_);rw[hz] at aH;cases aH;have hpb:pd4.block<w6.heap.size:=by
      have:=World.block_lt_of_cell? w6 _ (Eb 4 _ rfl)
      rwa [og] at this
     have npd:¬Qk LA pd4.block:=λh=>by have:=(aP _ h).1;have:=E9.lt;omega
     refine Xv (vs:=[.slice z.x.A z.x.n z.x.c,.int .i64 z.x.r]) rfl (λw' Qb k u hk=>by
      rw[add_add];refine Qb.cell (cQ2.cell (Eb (4+k) u (by match k,hk with | 0,hk=>exact hk | 1,hk=>exact hk))) (by rw[og];exact npd)) ?_
     have KR:Set1 nm.length z.x.nd z.x.r y.o:=z4;have AP:=(Pp.dg z (Xl hz)).ext cQ2;refine call (oV hk x z.x VU.drew ((hx.ext NW).ext Wh) (AP.ext Wh) sx KR) ?_;rintro _ Vp ⟨QA,Qn,Qc,Qnd,Qr,rfl,dq,oQk,sQ,_⟩;have Fb:=Wh.trans dq;refine⟨Mod.of_ext _ Fb,?_⟩;have pG:=sZ.trans Fb;refine XU (lQE p hB hV (Qp ((QF f).take i)).length s bF ⟨QA,Qn,Qc,Qnd,Qr⟩ _ Vp (K13.ext pG) oQk sQ) ?_ ?_
     rotate_left
     ·rintro ch bC ⟨Xi,rfl,gn⟩;exact⟨rfl,Xi,rfl,Fb.trans gn⟩
     rintro u19 bC ⟨Lx,qu,A19,RD,rfl,gn,oQl⟩;have s6:=Fb.trans gn;refine⟨Mod.of_ext _ s6,?_⟩;have qu:aA nm f (es.map EdV.ed) (QG nm.length (λe=>oD x e&&y.o e)) (Qp ((QF f).take i)).length s=some Lx:=qu;rw[gw] at qu;obtain⟨lx1,lx2⟩:=lQI Yp KC jH Zq pQg (by rw[JL];exact wX) (Nz _) bJ qu;have hmx:(Lx.map (·++ [10])).length=Lx.length:=by rw[JL]
     have cQ3:i*16000048<=60000*16000048:=WN _ (by omega);have NY:=cQ1.ext s6;refine Je (n:=L.length) Qa rfl rfl rfl rfl rfl (by decide) rfl rfl ⟨_,rfl⟩ rfl rfl NY.ow oQl.1 (ce _) (by unfold maxLen;omega) (by show(L.length+(Lx.map (·++ [10])).length)*16<=_;omega) NY.e.size ?_;intro LA2 NS YE DZ oQm D3;have oQn:Mod (Qk LA) VU YE:=(Mod.of_ext (Qk LA) s6).trans DZ (λi hi=>.inl hi);refine⟨oQn,?_⟩;have cQ4:=NY.app DZ oQm;refine Qj ((Qp ((QF f).take (i+1))).length:Int) (by show((Qp ((QF f).take i)).length:Int)+((Qd (s++ [10])).size:Int)=_;rw[Bf,Pt];omega) (by omega) ?_;refine Qj ((i+1:Nat):Int) (by show((i:Nat):Int)+1=_;omega) (by omega) ?_;refine⟨(i+1,L++Lx,LA2,NS,sg),by simp only[Qq,JL];rfl,⟨by simp only[Qq];rw[hmx] at cQ4;exact cQ4,Q4,Wg.next hs (by rw[Qf Pu];exact qu),λj y' nD hj=>by have:=iL.first j y' nD hj;simp only;omega,by simp only[Qq];omega,λu hu=>?_,by simp only;omega⟩,by show(QF f).length-(i+1)<(QF f).length-i;omega⟩;rcases XP.1 hu with hu | hu
     ·exact Bg u hu
     ·exact lx2 u hu
  ·have Q4:i=(QF f).length:=by simp only at c1;omega
   have FE:=Wg.fin (by omega);rw[FE] at Wj;simp only at Wj;obtain⟨LA',lc',zJ,_,Fc⟩:=tR.fin (Ext.refl X9);simp only[Value.slice.injEq,JL] at zJ;obtain⟨rfl,_,rfl⟩:=zJ;have cQ3:L.length<=60000*16000048:=X3 wM (WN _ (by omega));have hub:(Qp L).length<=1000000000000000000:=by
    have h1:=IX (M:=1000000) (λu hu=>(Bg u hu).2);have h2:=WN (1000000+1) cQ3;omega
   have Fc:Sn Zu LA L.length lc (JY L):=by rw[JL] at Fc;exact Fc
   have hu8:∀b∈Qp L,b<256:=λb hb=>by
    obtain⟨u,hu,hb⟩:=Wo.1 hb;exact ig (Bg u hu).1 b hb
   refine Z2 (ZN Qa ?_);refine XU (aQZ LA L.length lc L Zu Fc hub) ?_ ?_
   rotate_left
   ·rintro ch _ ⟨tm,rfl,rfl⟩;refine aX Qa (asx:= #[]) (cap:= #[.pointer (some ⟨w1.heap.size,0,none⟩),.pointer (some ⟨w2.heap.size,0,none⟩)]) rfl rfl (args:= #[.pointer (some ⟨w1.heap.size,0,none⟩),.pointer (some ⟨w2.heap.size,0,none⟩)]) (by simp) ((vu _ _ 2 Zu _ _ QX (eC.ext Fa) (gy.ext Fa)).mono ?_);rintro e u' sV ⟨v,rfl,em,YW⟩;refine⟨v,rfl,em,?_⟩;refine Qz YW.1 rfl ?_;refine Qz YW.2.1 rfl ?_;have bL:M= .error 2:=by rw[<-Wj,Qf tm]
    rw[bL];exact⟨rfl,YW.2.2.ext (Xp.trans Fa) (λi hi=>by rcases hi with rfl | rfl<;>omega)⟩
   rintro _ J8 ⟨Kl,rfl,JJ⟩;rw[if_neg (by omega)] at Wj;have cQ5:=Fa.trans JJ;have E4:=DQ.trans JJ;refine KZ (eC.ext cQ5) (by simp[Kb]) (λac cQ6 WG=>?_);have WG:Blk ac w1.heap.size 9 [.string (Qd (Qp L))]:=WG;have NZ:Ext w ac:=cQ6.ext E4 (λi hi=>by omega);have cQ7:=(gy.ext cQ5).mod cQ6 QX.symm;refine Z2 (ZN Qa ?_);refine Qz WG rfl ?_;refine Xg Qa [bg ([102],Qp L)] rfl rfl rfl rfl rfl ⟨rfl,rfl,⟨⟩⟩ rfl (λcs h=>by simp only[QO] at h;subst h;rfl) rfl (by decide) (by decide) ?_;intro VU pA nQZ pD;have NW:=NZ.trans pA;refine call (H5 nm NA nn nc (fF (Qp L)) _ 1 1 [102] VU (hN.ext NW) Yp hk (bQm (w:=w) pD) (bQn hu8 (by omega)) (by decide) (by decide)) ?_;rintro u18 Vp ⟨dq,Fd⟩;have cQ8:=pA.trans dq;have fin:∀(P:Value) (q:Pl) (Vp:World),True:=λ_ _ _=>trivial
   cases WA:Vh nm (fF (Qp L)) [102] with
   | error q=>
    rw[WA] at Fd Wj;simp only at Wj;subst Fd;refine new (λbC gn MH pH=>?_);refine new (λYE s7 cQq ww=>?_);refine Qv (pH.ext s7) rfl (sc rfl) (λgp zz oQo kT=>?_);have kU:Mod (·=Vp.heap.size) YE gp:=qQL zz rfl;have N0:¬bC.heap.size=Vp.heap.size:=by omega
    refine Qv (ww.mod kU N0) rfl (sc rfl) (λae N4 oQp sE=>?_);have N5:Mod (·=bC.heap.size) gp ae:=qQL N4 rfl;have N6:Ext Vp ae:=N5.ext (kU.ext (gn.trans s7) (λi hi=>by omega)) (λi hi=>by omega);have s9:=cQ8.trans N6;have wx:=WG.ext s9;have FY:=cQ7.ext s9;have Fe:=NZ.trans s9;refine Qz sE rfl ?_;refine X8 (λh2=>?_) (λh2=>?_)
    ·have h2:q.e=2:=h2;rw[Qf h2] at Wj;refine XU (Wb 2 (by decide) ae) (λ_ _ hf=>hf.elim) ?_;rintro ch _ ⟨rfl,rfl⟩;refine aX Qa (asx:= #[]) (cap:= #[.pointer (some ⟨w1.heap.size,0,none⟩),.pointer (some ⟨w2.heap.size,0,none⟩)]) rfl rfl (args:= #[.pointer (some ⟨w1.heap.size,0,none⟩),.pointer (some ⟨w2.heap.size,0,none⟩)]) (by simp) ((vu _ _ 2 ae _ _ QX wx FY).mono ?_);rintro e u' sV ⟨v,rfl,em,YW⟩;refine⟨v,rfl,em,?_⟩;refine Qz YW.1 rfl ?_;refine Qz YW.2.1 rfl ?_;have bL:M= .error 2:=Wj.symm;rw[bL];exact⟨rfl,YW.2.2.ext Fe (λi hi=>by rcases hi with rfl | rfl<;>omega)⟩
    have h2:q.e≠2:=h2;rw[if_neg h2] at Wj;refine ZN Qa ?_;refine Qz wx rfl ?_;refine KZ wx (by simp) (λAe Af pu=>?_);refine KZ (FY.mod Af QX.symm) (by simp[Kb]) (λAg mN mV=>?_);refine gV Qa rfl rfl (.inl rfl) (args:= #[.pointer (some ⟨w1.heap.size,0,none⟩),.pointer (some ⟨w2.heap.size,0,none⟩)]) (by simp) ((aQ3 _ _ Ag).mono ?_);rintro e u' sV ⟨v,rfl,em,rfl⟩;refine⟨v,rfl,em,?_⟩;refine Qz (pu.mod mN QX) rfl ?_;refine Qz mV rfl ?_;exact⟨by rw[<-Wj];rfl,mN.ext (Af.ext Fe (λj hj=>by omega)) (λj hj=>by omega)⟩
   | ok g2=>
    rw[WA] at Fd Wj;simp only at Wj;obtain⟨_,SA2,sc2,SL2,rfl,_⟩:=Fd;refine new (λbC gn MH pH=>?_);refine new (λYE s7 cQq ww=>?_);refine Qv (pH.ext s7) rfl (sc rfl) (λgp zz oQo kT=>?_);have kU:Mod (·=Vp.heap.size) YE gp:=qQL zz rfl;have N0:¬bC.heap.size=Vp.heap.size:=by omega
    refine Qv (ww.mod kU N0) rfl (sc rfl) (λae N4 oQp sE=>?_);have N5:Mod (·=bC.heap.size) gp ae:=qQL N4 rfl;have N6:Ext Vp ae:=N5.ext (kU.ext (gn.trans s7) (λi hi=>by omega)) (λi hi=>by omega);have s9:=cQ8.trans N6;have wx:=WG.ext s9;have FY:=cQ7.ext s9;have Fe:=NZ.trans s9;refine Qz sE rfl ?_;refine XK (by decide) ?_;refine ZN Qa ?_;refine Qz wx rfl ?_;refine KZ wx (by simp) (λAe Af pu=>?_);refine KZ (FY.mod Af QX.symm) (by simp[Kb]) (λAg mN mV=>?_);refine gV Qa rfl rfl (.inl rfl) (args:= #[.pointer (some ⟨w1.heap.size,0,none⟩),.pointer (some ⟨w2.heap.size,0,none⟩)]) (by simp) ((aQ3 _ _ Ag).mono ?_);rintro e u' sV ⟨v,rfl,em,rfl⟩;refine⟨v,rfl,em,?_⟩;refine Qz (pu.mod mN QX) rfl ?_;refine Qz mV rfl ?_;exact⟨by rw[<-Wj];rfl,mN.ext (Af.ext Fe (λj hj=>by omega)) (λj hj=>by omega)⟩
theorem kJ {k:Nat}{x:DV}{o:BF}(s:Set1 k x.nd x.r o):oD x=o:=funext (λe=>s.mean e)
theorem I7 {k v:Nat}(hv:v<k)(hk:k<=12)(w:World):Fn Tryz.prog 34 [.int .i64 v] w (yq w k (λe=>e v)):=by
 refine(HG (v:Int) w (by omega) (by omega)).mono ?_;rintro u w' ⟨A,n,c,rfl,hE,hb,hr⟩;exact⟨A,n,c,_,_,rfl,hE,hb,H8 hv (by omega),hr⟩
theorem I8 {k:Nat}(hk:k<=12)(x:DV){o:BF}(w:World)(h:SB w x.A x.n x.c x.nd)(s:Set1 k x.nd x.r o):Fn Tryz.prog 35 [Xm x.A x.n x.c x.r] w (yq w k (λe=> !o e)):=by
 refine(HJ x.A x.n x.c x.nd x.r w h).mono ?_;have s0:Set1 k [] 0 (λ_=>false):=bV k false;rw[iW hk s s0 3];have c1:Set1 k _ _ (λe=> !o e):=(fN s s0 3).congr (λe=>by simp[KP]);generalize Ye x.nd x.r [] 0 3=D at*;obtain⟨D1,D2⟩:=D;rintro u w' ⟨A,n,c,rfl,hE,hb,hr⟩;exact⟨A,n,c,_,_,rfl,hE,hb,c1,hr⟩
theorem bQp {k:Nat}(hk:k<=12)(x y:DV){o o':BF}(w:World)(h:SB w x.A x.n x.c x.nd)(h':SB w y.A y.n y.c y.nd)(s:Set1 k x.nd x.r o)(s':Set1 k y.nd y.r o'):
  Fn Tryz.prog 36 [Xm x.A x.n x.c x.r,Xm y.A y.n y.c y.r] w (yq w k (λe=>o e&&o' e)):=by
 refine(yf x.A x.n x.c x.nd x.r y.A y.n y.c y.nd y.r w h h').mono ?_;rw[iW hk s s' 0];have c1:Set1 k _ _ (λe=>o e&&o' e):=(fN s s' 0).congr (λe=>by simp[KP]);generalize Ye x.nd x.r y.nd y.r 0=D at*;obtain⟨D1,D2⟩:=D;rintro v w' ⟨PA,q,pc,rfl,hE,hP,hR⟩;exact⟨PA,q,pc,D1,D2,rfl,hE,hP,c1,hR⟩
def lQN (r:Except Int (List Nat))(t:List Nat):Bool:=match r with
 | .ok l=>decide (l=t)
 | .error _=>false
def Vi:List (List Nat):=[[65],[66]]
theorem I9:KO Vi:=λs hs=>by
 simp only[Vi,QY,JM,JR] at hs;rcases hs with rfl | rfl<;>exact⟨by decide,by decide⟩
theorem La:∀s∈Vi,s.length<=1000:=by decide
def Ds (yes no:List Nat):Except Int (List Nat):=jh Vi (λ_=>true) [⟨λe=>e 0,yes⟩,⟨λe=> !e 0,no⟩]
theorem Ld (yes no want:List Nat)(hy:(∀b∈yes,b<256)/\yes.length<=2000)(hn:(∀b∈no,b<256)/\no.length<=2000)(w:World)(X5:Ds yes no= .ok want):
  Fn Tryz.prog 38 [.string (Qd yes),.string (Qd no),.string (Qd want)] w (λu w'=>u= .bool true/\Ext w w'):=by
 refine QJ (c:={c38 with cuts:=[]}) Qa Tryz.func38 rfl rfl rfl ?_;refine call (I7 (k:=2) (v:=0) (by decide) (by decide) w) ?_;rintro _ w1 ⟨A1,n1,c1,d1,r1,rfl,Qe,vV,s1,_⟩;refine new (λw2 Qg Ze Qy=>?_);refine Qv Qy rfl (sc rfl) (λw3 Jc _ Qu=>?_);have XF:Ext w1 w3:=XT Qg Qy Jc;refine Qt Qu rfl ?_;refine call (I8 (k:=2) (by decide) ⟨A1,n1,c1,d1,r1⟩ w3 (vV.ext XF) s1) ?_;rintro _ w4 ⟨A2,n2,c2,d2,r2,rfl,Qs,hb2,s2,_⟩;refine new (λw5 Qx KI QD=>?_);refine Qv QD rfl (sc rfl) (λw6 WB _ Q7=>?_);have XM:Ext w4 w6:=XT Qx QD WB;have ct:=Qs.trans XM;have XX:=Qe.trans (XF.trans ct);have oQq:=Qu.ext ct;have hd:=Ext.drew w6;have fin:∀(NA:Option Addr) (nc:Nat) (PA:Option Addr) (pc:Nat) (w':World),Ext w6 w'->Sl w' 1 NA 2 nc (XH Vi)->SlS Kg 3 w' PA 2 pc [(⟨A1,n1,c1,d1,r1⟩,yes),(⟨A2,n2,c2,d2,r2⟩,no)]->
   Fn Tryz.prog 24 [.slice NA 2 nc,Xm none 0 0 1,.slice PA 2 pc] w' (λu Vq=>u= .tuple #[.string (Qd want),.int .i64 0]/\Ext w' Vq):=λNA nc PA pc w' iK Pw Px=>by
  refine(IY NA 2 nc Vi ⟨none,0,0,[],1⟩ PA 2 pc _ (by decide) I9 La (λq hq=>by
   simp only[QY,JM,JR] at hq;rcases hq with rfl | rfl
   ·exact hy
   ·exact hn) w' Pw (SlS.nil _) Px (λq hq=>by
   simp only[QY,JM,JR] at hq;rcases hq with rfl | rfl
   ·exact vV.ext (XF.trans (ct.trans iK))
   ·exact hb2.ext (XM.trans iK))).mono ?_
  rintro u Vq ⟨rfl,Py⟩;refine⟨?_,Py⟩;have sc:Set1 2 [] 1 (λ_=>true):=bV 2 true;rw[aQY (nm:=Vi) (x:=⟨none,0,0,[],1⟩) (by decide) (kC (x:=⟨none,0,0,[],1⟩) (by decide) sc).1 (λq hq=>by
   simp only[QY,JM,JR] at hq;rcases hq with rfl | rfl
   ·exact(kC (by decide) s1).1
   ·exact(kC (by decide) s2).1)]
  have e0:oD ⟨none,0,0,[],1⟩=λ_=>true:=kJ (x:=⟨none,0,0,[],1⟩) sc
  have e1:oD ⟨A1,n1,c1,d1,r1⟩=λe=>e 0:=kJ (x:=⟨A1,n1,c1,d1,r1⟩) s1
  have e2:oD ⟨A2,n2,c2,d2,r2⟩=λe=> !e 0:=kJ (x:=⟨A2,n2,c2,d2,r2⟩) s2
  rw[e0];have e3:ZD [((⟨A1,n1,c1,d1,r1⟩:DV),yes),(⟨A2,n2,c2,d2,r2⟩,no)]=[⟨λe=>e 0,yes⟩,⟨λe=> !e 0,no⟩]:=by
   simp only[ZD,Kw,Bn,e1,e2]
  rw[e3];have:jh Vi (λ_=>true) [⟨λe=>e 0,yes⟩,⟨λe=> !e 0,no⟩]= .ok want:=X5;rw[this]<;>rfl
 refine Iy Qa (Ext w6) 15 (.quiet 2 (.quiet 3 (.quiet 4 (.quiet 5 (.quiet 6 (.quiet 7 (.fork 0 (.fork 1 (.fork 8 (.fork 9 (.quiet 10 (.quiet 11 (.quiet 12 (.quiet 13 (.quiet 14 .done))))) .skip) .skip) (.fork 8 (.fork 1 (.fork 9 (.quiet 10 (.quiet 11 (.quiet 12 (.quiet 13 (.quiet 14 .done))))) .skip) .skip) .skip)) (.fork 1 (.fork 0 (.fork 8 (.fork 9 (.quiet 10 (.quiet 11 (.quiet 12 (.quiet 13 (.quiet 14 .done))))) .skip) .skip) (.fork 8 (.fork 0 (.fork 9 (.quiet 10 (.quiet 11 (.quiet 12 (.quiet 13 (.quiet 14 .done))))) .skip) .skip) .skip)) (.fork 8 (.fork 0 (.fork 1 (.fork 9 (.quiet 10 (.quiet 11 (.quiet 12 (.quiet 13 (.quiet 14 .done))))) .skip) .skip) (.fork 1 (.fork 0 (.fork 9 (.quiet 10 (.quiet 11 (.quiet 12 (.quiet 13 (.quiet 14 .done))))) .skip) .skip) .skip)) .skip))))))))) (by kernel_rfl) hd ?_;refine Xv (vs:=[.slice A1 n1 c1,.int .i64 r1]) rfl (λw' Qb k u hk=>by rw[(oQq.ext Qb).cell];exact hk) ?_;refine Xv (vs:=[.slice A2 n2 c2,.int .i64 r2]) rfl (λw' Qb k u hk=>by rw[(Q7.ext Qb).cell];exact hk) ?_;refine⟨?_,?_,?_,trivial⟩
 ·refine Xg Qa [[Value.string (Qd [65])],[Value.string (Qd [66])]] rfl rfl rfl rfl rfl ⟨rfl,rfl,rfl,rfl,⟨⟩⟩ rfl (λcs h=>by simp only[QY,JM,JR] at h;rcases h with rfl | rfl<;>rfl) rfl (by decide) (by decide) ?_;intro v1 g1 _ ta;have f1:=hd.trans g1;refine⟨f1,?_⟩;refine⟨?_,?_,trivial⟩
  ·refine call (dM true _) ?_;rintro _ v2 ⟨rfl,g2⟩;have f2:=f1.trans g2;refine⟨f2,?_⟩;refine⟨?_,trivial⟩
   ·refine Xg Qa [Kg (⟨A1,n1,c1,d1,r1⟩,yes),Kg (⟨A2,n2,c2,d2,r2⟩,no)] rfl rfl rfl rfl rfl ⟨rfl,rfl,rfl,rfl,⟨⟩⟩ rfl (λcs h=>by simp only[QY,JM,JR] at h;rcases h with rfl | rfl<;>rfl) rfl (by decide) (by decide) ?_;intro v3 g3 _ N7;have f3:=f2.trans g3;refine⟨f3,?_⟩;refine⟨?_,trivial⟩;refine call (fin _ 2 _ 2 v3 f3 (Sl.own' (n:=2) (ta.ext (g2.trans g3)) rfl (by decide)) ⟨Sl.own (sz:=3) (n:=2) N7 (QB _) (by decide) (by simp[Kg]),rfl⟩) ?_;rintro _ w9 ⟨rfl,Xx⟩;refine⟨f3.trans Xx,?_⟩;refine Xd rfl ?_;exact⟨QC Value.bool (Zx rfl),XX.trans (f3.trans Xx)⟩
  ·refine Xg Qa [Kg (⟨A1,n1,c1,d1,r1⟩,yes),Kg (⟨A2,n2,c2,d2,r2⟩,no)] rfl rfl rfl rfl rfl ⟨rfl,rfl,rfl,rfl,⟨⟩⟩ rfl (λcs h=>by simp only[QY,JM,JR] at h;rcases h with rfl | rfl<;>rfl) rfl (by decide) (by decide) ?_;intro v2 g2 _ N8;have f2:=f1.trans g2;refine⟨f2,?_⟩;refine⟨?_,trivial⟩
   ·refine call (dM true _) ?_;rintro _ v3 ⟨rfl,g3⟩;have f3:=f2.trans g3;refine⟨f3,?_⟩;refine⟨?_,trivial⟩;refine call (fin _ 2 _ 2 v3 f3 (Sl.own' (n:=2) (ta.ext (g2.trans g3)) rfl (by decide)) ⟨Sl.own (sz:=3) (n:=2) (N8.ext g3) (QB _) (by decide) (by simp[Kg]),rfl⟩) ?_;rintro _ w9 ⟨rfl,Xx⟩;refine⟨f3.trans Xx,?_⟩;refine Xd rfl ?_;exact⟨QC Value.bool (Zx rfl),XX.trans (f3.trans Xx)⟩
 ·refine call (dM true _) ?_;rintro _ v1 ⟨rfl,g1⟩;have f1:=hd.trans g1;refine⟨f1,?_⟩;refine⟨?_,?_,trivial⟩
  ·refine Xg Qa [[Value.string (Qd [65])],[Value.string (Qd [66])]] rfl rfl rfl rfl rfl ⟨rfl,rfl,rfl,rfl,⟨⟩⟩ rfl (λcs h=>by simp only[QY,JM,JR] at h;rcases h with rfl | rfl<;>rfl) rfl (by decide) (by decide) ?_;intro v2 g2 _ np;have f2:=f1.trans g2;refine⟨f2,?_⟩;refine⟨?_,trivial⟩
   ·refine Xg Qa [Kg (⟨A1,n1,c1,d1,r1⟩,yes),Kg (⟨A2,n2,c2,d2,r2⟩,no)] rfl rfl rfl rfl rfl ⟨rfl,rfl,rfl,rfl,⟨⟩⟩ rfl (λcs h=>by simp only[QY,JM,JR] at h;rcases h with rfl | rfl<;>rfl) rfl (by decide) (by decide) ?_;intro v3 g3 _ N7;have f3:=f2.trans g3;refine⟨f3,?_⟩;refine⟨?_,trivial⟩;refine call (fin _ 2 _ 2 v3 f3 (Sl.own' (n:=2) (np.ext g3) rfl (by decide)) ⟨Sl.own (sz:=3) (n:=2) N7 (QB _) (by decide) (by simp[Kg]),rfl⟩) ?_;rintro _ w9 ⟨rfl,Xx⟩;refine⟨f3.trans Xx,?_⟩;refine Xd rfl ?_;exact⟨QC Value.bool (Zx rfl),XX.trans (f3.trans Xx)⟩
  ·refine Xg Qa [Kg (⟨A1,n1,c1,d1,r1⟩,yes),Kg (⟨A2,n2,c2,d2,r2⟩,no)] rfl rfl rfl rfl rfl ⟨rfl,rfl,rfl,rfl,⟨⟩⟩ rfl (λcs h=>by simp only[QY,JM,JR] at h;rcases h with rfl | rfl<;>rfl) rfl (by decide) (by decide) ?_;intro v2 g2 _ N8;have f2:=f1.trans g2;refine⟨f2,?_⟩;refine⟨?_,trivial⟩
   ·refine Xg Qa [[Value.string (Qd [65])],[Value.string (Qd [66])]] rfl rfl rfl rfl rfl ⟨rfl,rfl,rfl,rfl,⟨⟩⟩ rfl (λcs h=>by simp only[QY,JM,JR] at h;rcases h with rfl | rfl<;>rfl) rfl (by decide) (by decide) ?_;intro v3 g3 _ iu;have f3:=f2.trans g3;refine⟨f3,?_⟩;refine⟨?_,trivial⟩;refine call (fin _ 2 _ 2 v3 f3 (Sl.own' (n:=2) iu rfl (by decide)) ⟨Sl.own (sz:=3) (n:=2) (N8.ext g3) (QB _) (by decide) (by simp[Kg]),rfl⟩) ?_;rintro _ w9 ⟨rfl,Xx⟩;refine⟨f3.trans Xx,?_⟩;refine Xd rfl ?_;exact⟨QC Value.bool (Zx rfl),XX.trans (f3.trans Xx)⟩
 ·refine Xg Qa [Kg (⟨A1,n1,c1,d1,r1⟩,yes),Kg (⟨A2,n2,c2,d2,r2⟩,no)] rfl rfl rfl rfl rfl ⟨rfl,rfl,rfl,rfl,⟨⟩⟩ rfl (λcs h=>by simp only[QY,JM,JR] at h;rcases h with rfl | rfl<;>rfl) rfl (by decide) (by decide) ?_;intro v1 g1 _ hP1;have f1:=hd.trans g1;refine⟨f1,?_⟩;refine⟨?_,?_,trivial⟩
  ·refine Xg Qa [[Value.string (Qd [65])],[Value.string (Qd [66])]] rfl rfl rfl rfl rfl ⟨rfl,rfl,rfl,rfl,⟨⟩⟩ rfl (λcs h=>by simp only[QY,JM,JR] at h;rcases h with rfl | rfl<;>rfl) rfl (by decide) (by decide) ?_;intro v2 g2 _ np;have f2:=f1.trans g2;refine⟨f2,?_⟩;refine⟨?_,trivial⟩
   ·refine call (dM true _) ?_;rintro _ v3 ⟨rfl,g3⟩;have f3:=f2.trans g3;refine⟨f3,?_⟩;refine⟨?_,trivial⟩;refine call (fin _ 2 _ 2 v3 f3 (Sl.own' (n:=2) (np.ext g3) rfl (by decide)) ⟨Sl.own (sz:=3) (n:=2) (hP1.ext (g2.trans g3)) (QB _) (by decide) (by simp[Kg]),rfl⟩) ?_;rintro _ w9 ⟨rfl,Xx⟩;refine⟨f3.trans Xx,?_⟩;refine Xd rfl ?_;exact⟨QC Value.bool (Zx rfl),XX.trans (f3.trans Xx)⟩
  ·refine call (dM true _) ?_;rintro _ v2 ⟨rfl,g2⟩;have f2:=f1.trans g2;refine⟨f2,?_⟩;refine⟨?_,trivial⟩
   ·refine Xg Qa [[Value.string (Qd [65])],[Value.string (Qd [66])]] rfl rfl rfl rfl rfl ⟨rfl,rfl,rfl,rfl,⟨⟩⟩ rfl (λcs h=>by simp only[QY,JM,JR] at h;rcases h with rfl | rfl<;>rfl) rfl (by decide) (by decide) ?_;intro v3 g3 _ iu;have f3:=f2.trans g3;refine⟨f3,?_⟩;refine⟨?_,trivial⟩;refine call (fin _ 2 _ 2 v3 f3 (Sl.own' (n:=2) iu rfl (by decide)) ⟨Sl.own (sz:=3) (n:=2) (hP1.ext (g2.trans g3)) (QB _) (by decide) (by simp[Kg]),rfl⟩) ?_;rintro _ w9 ⟨rfl,Xx⟩;refine⟨f3.trans Xx,?_⟩;refine Xd rfl ?_;exact⟨QC Value.bool (Zx rfl),XX.trans (f3.trans Xx)⟩
def rZ (file:List Nat)(e:Ed):Except Int (List Nat):=Dk Vi (λ_=>true) file [e]
theorem bQq (file:List Nat)(e:EdV){o:BF}(hf:(∀b∈file,b<256)/\file.length<=60000)(gb: -9223372036854775808<=e.fr/\e.fr<=9223372036854775807/\ -9223372036854775808<=e.to_/\e.to_<=9223372036854775807)(ht:(∀b∈e.tx,b<256)/\e.tx.length<=1000)(se:Set1 2 e.x.nd e.x.r o)
  (NA:Option Addr) (nc:Nat) (EA:Option Addr) (ec:Nat) (w:World) (hb:SB w e.x.A e.x.n e.x.c e.x.nd) (hN:Sl w 1 NA 2 nc (XH Vi)) (hE:SlS X6 5 w EA 1 ec [e]):
  Fn Tryz.prog 15 [.slice NA 2 nc,Xm none 0 0 1,.string (Qd file),.slice EA 1 ec] w (λu w'=>u=vx (rZ file ⟨e.fr,e.to_,e.tx,o⟩)/\Ext w w'):=by
 refine(bQo NA 2 nc Vi ⟨none,0,0,[],1⟩ file EA 1 ec [e] (by decide) I9 La hf.1 hf.2 (λb hb=>by rw[QO.1 hb];exact gb) (λb hb=>by rw[QO.1 hb];exact ht) (by show 1<=10;decide) w hN (SlS.nil _) hE (λb hb2=>by rw[QO.1 hb2];exact hb)).mono ?_;rintro u w' ⟨rfl,iK⟩;refine⟨?_,iK⟩;have sc:Set1 2 [] 1 (λ_=>true):=bV 2 true;have e0:oD ⟨none,0,0,[],1⟩=λ_=>true:=kJ (x:=⟨none,0,0,[],1⟩) sc
 have o1:Kp Vi.length [] 1=true:=(kC (x:=⟨none,0,0,[],1⟩) (n:=2) (by decide) sc).1;have o2:Kp Vi.length e.x.nd e.x.r=true:=(kC (n:=2) (by decide) se).1;have e3: [e].map EdV.ed=[⟨e.fr,e.to_,e.tx,o⟩]:=by
  show [(⟨e.fr,e.to_,e.tx,oD e.x⟩:Ed)]=_;rw[kJ se]
 unfold mC rZ;rw[if_neg (by rw[show Z1 Vi=true from by decide];show¬(true=false∨Kp Vi.length [] 1=false);rw[o1];decide),Qf (by simp only[Bm,List.all_nil,Gj];exact o2),e0,e3]
theorem Le (file want:List Nat)(e:EdV){o:BF}(hf:(∀b∈file,b<256)/\file.length<=60000)(gb: -9223372036854775808<=e.fr/\e.fr<=9223372036854775807/\ -9223372036854775808<=e.to_/\e.to_<=9223372036854775807)(ht:(∀b∈e.tx,b<256)/\e.tx.length<=1000)(se:Set1 2 e.x.nd e.x.r o)(w:World)(hb:SB w e.x.A e.x.n e.x.c e.x.nd)(X5:rZ file ⟨e.fr,e.to_,e.tx,o⟩= .ok want):
  Fn Tryz.prog 39 [.string (Qd file),.agg (X6 e).toArray,.string (Qd want)] w (λu w'=>u= .bool true/\Ext w w'):=by
 refine QJ (c:={c39 with cuts:=[]}) Qa Tryz.func39 rfl rfl rfl ?_;refine new (λw6 XX bu Q7=>?_);have hd:=Ext.drew w6;have fin:∀(NA:Option Addr) (nc:Nat) (EA:Option Addr) (ec:Nat) (w':World),Ext w6 w'->Sl w' 1 NA 2 nc (XH Vi)->SlS X6 5 w' EA 1 ec [e]->
   Fn Tryz.prog 15 [.slice NA 2 nc,Xm none 0 0 1,.string (Qd file),.slice EA 1 ec] w' (λu Vq=>u= .tuple #[.string (Qd want),.int .i64 0]/\Ext w' Vq):=λNA nc EA ec w' iK Pw Px=>by
  refine(bQq file e hf gb ht se NA nc EA ec w' (hb.ext (XX.trans iK)) Pw Px).mono ?_;rintro u Vq ⟨rfl,Py⟩;rw[X5];exact⟨rfl,Py⟩
 refine Iy Qa (Ext w6) 11 (.quiet 2 (.quiet 3 (.fork 0 (.fork 1 (.fork 4 (.fork 5 (.quiet 6 (.quiet 7 (.quiet 8 (.quiet 9 (.quiet 10 .done))))) .skip) .skip) (.fork 4 (.fork 1 (.fork 5 (.quiet 6 (.quiet 7 (.quiet 8 (.quiet 9 (.quiet 10 .done))))) .skip) .skip) .skip)) (.fork 1 (.fork 0 (.fork 4 (.fork 5 (.quiet 6 (.quiet 7 (.quiet 8 (.quiet 9 (.quiet 10 .done))))) .skip) .skip) (.fork 4 (.fork 0 (.fork 5 (.quiet 6 (.quiet 7 (.quiet 8 (.quiet 9 (.quiet 10 .done))))) .skip) .skip) .skip)) (.fork 4 (.fork 0 (.fork 1 (.fork 5 (.quiet 6 (.quiet 7 (.quiet 8 (.quiet 9 (.quiet 10 .done))))) .skip) .skip) (.fork 1 (.fork 0 (.fork 5 (.quiet 6 (.quiet 7 (.quiet 8 (.quiet 9 (.quiet 10 .done))))) .skip) .skip) .skip)) .skip))))) (by kernel_rfl) hd ?_;refine Xv (vs:=X6 e) rfl (λw' Qb k u hk=>by rw[(Q7.ext Qb).cell];exact hk) ?_;refine⟨?_,?_,?_,trivial⟩
 ·refine Xg Qa [[Value.string (Qd [65])],[Value.string (Qd [66])]] rfl rfl rfl rfl rfl ⟨rfl,rfl,rfl,rfl,⟨⟩⟩ rfl (λcs h=>by simp only[QY,JM,JR] at h;rcases h with rfl | rfl<;>rfl) rfl (by decide) (by decide) ?_;intro v1 g1 _ ta;have f1:=hd.trans g1;refine⟨f1,?_⟩;refine⟨?_,?_,trivial⟩
  ·refine call (dM true _) ?_;rintro _ v2 ⟨rfl,g2⟩;have f2:=f1.trans g2;refine⟨f2,?_⟩;refine⟨?_,trivial⟩
   ·refine Xg Qa [X6 e] rfl rfl rfl rfl rfl ⟨rfl,rfl,⟨⟩⟩ rfl (λcs h=>by simp only[QO] at h;subst h;rfl) rfl (by decide) (by decide) ?_;intro v3 g3 _ Qi;have f3:=f2.trans g3;refine⟨f3,?_⟩;refine⟨?_,trivial⟩;refine call (fin _ 2 _ 1 v3 f3 (Sl.own' (n:=2) (ta.ext (g2.trans g3)) rfl (by decide)) ⟨Sl.own (sz:=5) (n:=1) Qi (QB _) (by decide) (by simp[X6]),rfl⟩) ?_;rintro _ w9 ⟨rfl,Xx⟩;refine⟨f3.trans Xx,?_⟩;refine Xd rfl ?_;exact⟨QC Value.bool (Zx rfl),XX.trans (f3.trans Xx)⟩
  ·refine Xg Qa [X6 e] rfl rfl rfl rfl rfl ⟨rfl,rfl,⟨⟩⟩ rfl (λcs h=>by simp only[QO] at h;subst h;rfl) rfl (by decide) (by decide) ?_;intro v2 g2 _ Qg;have f2:=f1.trans g2;refine⟨f2,?_⟩;refine⟨?_,trivial⟩
   ·refine call (dM true _) ?_;rintro _ v3 ⟨rfl,g3⟩;have f3:=f2.trans g3;refine⟨f3,?_⟩;refine⟨?_,trivial⟩;refine call (fin _ 2 _ 1 v3 f3 (Sl.own' (n:=2) (ta.ext (g2.trans g3)) rfl (by decide)) ⟨Sl.own (sz:=5) (n:=1) (Qg.ext g3) (QB _) (by decide) (by simp[X6]),rfl⟩) ?_;rintro _ w9 ⟨rfl,Xx⟩;refine⟨f3.trans Xx,?_⟩;refine Xd rfl ?_;exact⟨QC Value.bool (Zx rfl),XX.trans (f3.trans Xx)⟩
 ·refine call (dM true _) ?_;rintro _ v1 ⟨rfl,g1⟩;have f1:=hd.trans g1;refine⟨f1,?_⟩;refine⟨?_,?_,trivial⟩
  ·refine Xg Qa [[Value.string (Qd [65])],[Value.string (Qd [66])]] rfl rfl rfl rfl rfl ⟨rfl,rfl,rfl,rfl,⟨⟩⟩ rfl (λcs h=>by simp only[QY,JM,JR] at h;rcases h with rfl | rfl<;>rfl) rfl (by decide) (by decide) ?_;intro v2 g2 _ np;have f2:=f1.trans g2;refine⟨f2,?_⟩;refine⟨?_,trivial⟩
   ·refine Xg Qa [X6 e] rfl rfl rfl rfl rfl ⟨rfl,rfl,⟨⟩⟩ rfl (λcs h=>by simp only[QO] at h;subst h;rfl) rfl (by decide) (by decide) ?_;intro v3 g3 _ Qi;have f3:=f2.trans g3;refine⟨f3,?_⟩;refine⟨?_,trivial⟩;refine call (fin _ 2 _ 1 v3 f3 (Sl.own' (n:=2) (np.ext g3) rfl (by decide)) ⟨Sl.own (sz:=5) (n:=1) Qi (QB _) (by decide) (by simp[X6]),rfl⟩) ?_;rintro _ w9 ⟨rfl,Xx⟩;refine⟨f3.trans Xx,?_⟩;refine Xd rfl ?_;exact⟨QC Value.bool (Zx rfl),XX.trans (f3.trans Xx)⟩
  ·refine Xg Qa [X6 e] rfl rfl rfl rfl rfl ⟨rfl,rfl,⟨⟩⟩ rfl (λcs h=>by simp only[QO] at h;subst h;rfl) rfl (by decide) (by decide) ?_;intro v2 g2 _ Qg;have f2:=f1.trans g2;refine⟨f2,?_⟩;refine⟨?_,trivial⟩
   ·refine Xg Qa [[Value.string (Qd [65])],[Value.string (Qd [66])]] rfl rfl rfl rfl rfl ⟨rfl,rfl,rfl,rfl,⟨⟩⟩ rfl (λcs h=>by simp only[QY,JM,JR] at h;rcases h with rfl | rfl<;>rfl) rfl (by decide) (by decide) ?_;intro v3 g3 _ iu;have f3:=f2.trans g3;refine⟨f3,?_⟩;refine⟨?_,trivial⟩;refine call (fin _ 2 _ 1 v3 f3 (Sl.own' (n:=2) iu rfl (by decide)) ⟨Sl.own (sz:=5) (n:=1) (Qg.ext g3) (QB _) (by decide) (by simp[X6]),rfl⟩) ?_;rintro _ w9 ⟨rfl,Xx⟩;refine⟨f3.trans Xx,?_⟩;refine Xd rfl ?_;exact⟨QC Value.bool (Zx rfl),XX.trans (f3.trans Xx)⟩
 ·refine Xg Qa [X6 e] rfl rfl rfl rfl rfl ⟨rfl,rfl,⟨⟩⟩ rfl (λcs h=>by simp only[QO] at h;subst h;rfl) rfl (by decide) (by decide) ?_;intro v1 g1 _ Qe;have f1:=hd.trans g1;refine⟨f1,?_⟩;refine⟨?_,?_,trivial⟩
  ·refine Xg Qa [[Value.string (Qd [65])],[Value.string (Qd [66])]] rfl rfl rfl rfl rfl ⟨rfl,rfl,rfl,rfl,⟨⟩⟩ rfl (λcs h=>by simp only[QY,JM,JR] at h;rcases h with rfl | rfl<;>rfl) rfl (by decide) (by decide) ?_;intro v2 g2 _ np;have f2:=f1.trans g2;refine⟨f2,?_⟩;refine⟨?_,trivial⟩
   ·refine call (dM true _) ?_;rintro _ v3 ⟨rfl,g3⟩;have f3:=f2.trans g3;refine⟨f3,?_⟩;refine⟨?_,trivial⟩;refine call (fin _ 2 _ 1 v3 f3 (Sl.own' (n:=2) (np.ext g3) rfl (by decide)) ⟨Sl.own (sz:=5) (n:=1) (Qe.ext (g2.trans g3)) (QB _) (by decide) (by simp[X6]),rfl⟩) ?_;rintro _ w9 ⟨rfl,Xx⟩;refine⟨f3.trans Xx,?_⟩;refine Xd rfl ?_;exact⟨QC Value.bool (Zx rfl),XX.trans (f3.trans Xx)⟩
  ·refine call (dM true _) ?_;rintro _ v2 ⟨rfl,g2⟩;have f2:=f1.trans g2;refine⟨f2,?_⟩;refine⟨?_,trivial⟩
   ·refine Xg Qa [[Value.string (Qd [65])],[Value.string (Qd [66])]] rfl rfl rfl rfl rfl ⟨rfl,rfl,rfl,rfl,⟨⟩⟩ rfl (λcs h=>by simp only[QY,JM,JR] at h;rcases h with rfl | rfl<;>rfl) rfl (by decide) (by decide) ?_;intro v3 g3 _ iu;have f3:=f2.trans g3;refine⟨f3,?_⟩;refine⟨?_,trivial⟩;refine call (fin _ 2 _ 1 v3 f3 (Sl.own' (n:=2) iu rfl (by decide)) ⟨Sl.own (sz:=5) (n:=1) (Qe.ext (g2.trans g3)) (QB _) (by decide) (by simp[X6]),rfl⟩) ?_;rintro _ w9 ⟨rfl,Xx⟩;refine⟨f3.trans Xx,?_⟩;refine Xd rfl ?_;exact⟨QC Value.bool (Zx rfl),XX.trans (f3.trans Xx)⟩
def lQO (r:Except Int (List Nat))(k:Int):Bool:=match r with
 | .ok _=>false
 | .error e=>decide (e=k)
theorem oY {r:Except Int (List Nat)}{t:List Nat}(h:lQN r t=true):r= .ok t:=by
 cases r with
 | ok l=>rw[Y2 h]
 | error e=>cases h
theorem Lf {r:Except Int (List Nat)}{k:Int}(h:lQO r k=true):r= .error k:=by
 cases r with
 | ok l=>cases h
 | error e=>rw[Y2 h]
theorem bQr (x:DV){o:BF}(Q:List (DV×Pr))(NA:Option Addr)(nc:Nat)(PA:Option Addr)(pn pc:Nat)(w:World)(hN:Sl w 1 NA 2 nc (XH Vi))(hx:SB w x.A x.n x.c x.nd)(sx:Set1 2 x.nd x.r o)(hP:SlS YB 3 w PA pn pc Q)
  (hQ:∀q∈Q,SB w q.1.A q.1.n q.1.c q.1.nd/\Set1 2 q.1.nd q.1.r q.2.o/\(∀b∈q.2.t,b<256)/\q.2.t.length<=2000):
  Fn Tryz.prog 24 [.slice NA 2 nc,Xm x.A x.n x.c x.r,.slice PA pn pc] w (λu w'=>u=vx (jh Vi o (Q.map (·.2)))/\Ext w w'):=by
 refine(IY NA 2 nc Vi x PA pn pc (Q.map (λq=>(q.1,q.2.t))) (by decide) I9 La (λq hq=>by
  obtain⟨q0,h0,rfl⟩:=Zk.1 hq;exact(hQ q0 h0).2.2) w hN hx ⟨by rw[<-I5];exact hP.1,by rw[JL];exact hP.2⟩ (λq hq=>by
  obtain⟨q0,h0,rfl⟩:=Zk.1 hq;exact(hQ q0 h0).1)).mono ?_
 rintro u w' ⟨rfl,hE⟩;refine⟨?_,hE⟩;rw[aQY (nm:=Vi) (by decide) (kC (n:=2) (by decide) sx).1 (λq hq=>by
  obtain⟨q0,h0,rfl⟩:=Zk.1 hq;exact(kC (n:=2) (by decide) (hQ q0 h0).2.1).1),kJ sx,I4 (λq hq=>(hQ q hq).2.1)]
theorem bQs (x:DV){o:BF}(Q:List (DV×Pr))(NA:Option Addr)(nc:Nat)(PA:Option Addr)(pn pc:Nat)(w:World)(hN:Sl w 1 NA 2 nc (XH Vi))(hx:SB w x.A x.n x.c x.nd)(sx:Set1 2 x.nd x.r o)(hP:SlS YB 3 w PA pn pc Q)
  (hQ:∀q∈Q,SB w q.1.A q.1.n q.1.c q.1.nd/\Set1 2 q.1.nd q.1.r q.2.o/\(∀b∈q.2.t,b<256)/\q.2.t.length<=2000) {qs:List Pr} (jX:Q.map (·.2)=qs) {t:List Nat} (hr:jh Vi o qs= .ok t):
  Fn Tryz.prog 24 [.slice NA 2 nc,Xm x.A x.n x.c x.r,.slice PA pn pc] w (λu w'=>u= .tuple #[.string (Qd t),.int .i64 0]/\Ext w w'):=by
 refine(bQr x Q NA nc PA pn pc w hN hx sx hP hQ).mono ?_;rintro u w' ⟨rfl,hE⟩;exact⟨by rw[jX,hr];rfl,hE⟩
theorem bQt (x:DV){o:BF}(Q:List (DV×Pr))(NA:Option Addr)(nc:Nat)(PA:Option Addr)(pn pc:Nat)(w:World)(hN:Sl w 1 NA 2 nc (XH Vi))(hx:SB w x.A x.n x.c x.nd)(sx:Set1 2 x.nd x.r o)(hP:SlS YB 3 w PA pn pc Q)
  (hQ:∀q∈Q,SB w q.1.A q.1.n q.1.c q.1.nd/\Set1 2 q.1.nd q.1.r q.2.o/\(∀b∈q.2.t,b<256)/\q.2.t.length<=2000) {qs:List Pr} (jX:Q.map (·.2)=qs) {k:Int} (hr:jh Vi o qs= .error k):
  Fn Tryz.prog 24 [.slice NA 2 nc,Xm x.A x.n x.c x.r,.slice PA pn pc] w (λu w'=>u= .tuple #[.string (Qd []),.int .i64 k]/\Ext w w'):=by
 refine(bQr x Q NA nc PA pn pc w hN hx sx hP hQ).mono ?_;rintro u w' ⟨rfl,hE⟩;exact⟨by rw[jX,hr];rfl,hE⟩
theorem lQP (NA:Option Addr)(nc:Nat)(w:World)(hN:Sl w 1 NA 2 nc (XH [[65],[65]])):
  Fn Tryz.prog 24 [.slice NA 2 nc,Xm none 0 0 1,.slice none 0 0] w (λu w'=>u= .tuple #[.string (Qd []),.int .i64 1]/\Ext w w'):=by
 refine(IY NA 2 nc [[65],[65]] ⟨none,0,0,[],1⟩ none 0 0 [] (by decide) (λs hs=>by
  simp only[QY,JM,JR] at hs;rcases hs with rfl | rfl<;>exact⟨by decide,by decide⟩) (by decide) (λq hq=>by cases hq) w hN (SlS.nil _) (SlS.nil _) (λq hq=>by cases hq)).mono ?_
 rintro u w' ⟨rfl,hE⟩;exact⟨by unfold mv;rw[Qf (.inl (by decide+kernel))];rfl,hE⟩
abbrev tA:BF:=λe=>e 0
abbrev tB:BF:=λe=>e 1
abbrev tX:List Nat:=[120,10]
theorem sn1:Ds [120,10,121,10] [120,10,122,10]= .ok [120,10,35,105,102,32,65,10,121,10,35,101,108,115,101,10,122,10,35,101,110,100,10]:=oY (by decide+kernel)
theorem sn2:Ds [120,10,121,10] [120,10]= .ok [120,10,35,105,102,32,65,10,121,10,35,101,110,100,10]:=oY (by decide+kernel)
theorem sn3:Ds [120,10] [120,10,121,10]= .ok [120,10,35,105,102,32,33,65,10,121,10,35,101,110,100,10]:=oY (by decide+kernel)
theorem sn4:jh Vi (λ_=>true) [⟨λe=>e 0&&e 1,tX⟩,⟨λe=> !(e 0&&e 1),[]⟩]= .ok [35,105,102,32,65,10,35,105,102,32,66,10,120,10,35,101,110,100,10,35,101,110,100,10]:=oY (by decide+kernel)
theorem sn5:jh Vi tB [⟨λe=>e 0&&e 1,tX⟩,⟨λe=> !e 0&&e 1,[121,10]⟩]= .ok [35,105,102,32,65,10,120,10,35,101,108,115,101,10,121,10,35,101,110,100,10]:=oY (by decide+kernel)
theorem sn6:jh Vi (λ_=>true) [⟨tA,tX⟩]= .error 290:=Lf (by decide+kernel)
theorem sn7:jh Vi (λ_=>true) [⟨λ_=>true,[35,101,110,100,10]⟩]= .error 290:=Lf (by decide+kernel)
def oZ:List Nat:=[35,105,102,32,65,10,120,10,35,101,110,100,10]
theorem sn8:rZ [120,32,121,10,122,10] ⟨2,3,[119],tA⟩= .ok [35,105,102,32,65,10,120,32,119,10,35,101,108,115,101,10,120,32,121,10,35,101,110,100,10,122,10]:=oY (by decide+kernel)
theorem sn9:rZ oZ ⟨6,7,[121],λe=> !e 0⟩= .ok oZ:=oY (by decide+kernel)
theorem lQQ:rZ oZ ⟨6,7,[121],λ_=>true⟩= .ok [35,105,102,32,65,10,121,10,35,101,110,100,10]:=oY (by decide+kernel)
theorem lQR:rZ oZ ⟨0,1,[121],tA⟩= .error 291:=Lf (by decide+kernel)
theorem lQS (w0:World):Fn Tryz.prog 11 [] w0 (λu w'=>u= .bool true/\Ext w0 w'):=by
 refine QJ (c:={xE with cuts:=[]}) Qa Tryz.func11 rfl rfl rfl ?_;refine call (I7 (k:=2) (v:=0) (by decide) (by decide) w0) ?_;rintro _ a1 ⟨Aa,na,ca,da,ra,rfl,e1,ba,sa,_⟩;refine new (λx1 f1 y1 B1=>?_);refine Qv B1 rfl (sc rfl) (λw1 g1 _ Ba=>?_);have h1:Ext w0 w1:=e1.trans (XT f1 B1 g1);have ba:=ba.ext (XT f1 B1 g1);refine call (I7 (k:=2) (v:=1) (by decide) (by decide) w1) ?_;rintro _ a2 ⟨Ab,nb,cb,db,rb,rfl,e2,bb,sb,_⟩;refine new (λx2 f2 y2 B2=>?_);refine Qv B2 rfl (sc rfl) (λw2 g2 _ Bb=>?_);have h2:Ext w1 w2:=e2.trans (XT f2 B2 g2);have bb:=bb.ext (XT f2 B2 g2);refine Qt (Ba.ext h2) rfl ?_;refine call (I8 (k:=2) (by decide) (⟨Aa,na,ca,da,ra⟩:DV) w2 (ba.ext h2) sa) ?_;rintro _ a3 ⟨Anot,nnot,cnot,dnot,rnot,rfl,e3,bnot,snot,_⟩;refine new (λx3 f3 y3 B3=>?_);refine Qv B3 rfl (sc rfl) (λw3 g3 _ Bnot=>?_);have h3:Ext w2 w3:=e3.trans (XT f3 B3 g3);have bnot:=bnot.ext (XT f3 B3 g3);refine Qt (Ba.ext (h2.trans h3)) rfl ?_;refine Qt (Bb.ext h3) rfl ?_;refine call (bQp (k:=2) (by decide) (⟨Aa,na,ca,da,ra⟩:DV) (⟨Ab,nb,cb,db,rb⟩:DV) w3 (ba.ext (h2.trans h3)) (bb.ext h3) sa sb) ?_;rintro _ a4 ⟨Aboth,nboth,cboth,dboth,rboth,rfl,e4,bboth,sboth,_⟩;refine new (λx4 f4 y4 B4=>?_);refine Qv B4 rfl (sc rfl) (λw4 g4 _ Bboth=>?_);have h4:Ext w3 w4:=e4.trans (XT f4 B4 g4);have bboth:=bboth.ext (XT f4 B4 g4);refine Qt Bboth rfl ?_;refine call (I8 (k:=2) (by decide) (⟨Aboth,nboth,cboth,dboth,rboth⟩:DV) w4 bboth sboth) ?_;rintro _ a5 ⟨Arest,nrest,crest,drest,rrest,rfl,e5,brest,srest,_⟩;refine new (λx5 f5 y5 B5=>?_);refine Qv B5 rfl (sc rfl) (λw5 g5 _ Brest=>?_);have h5:Ext w4 w5:=e5.trans (XT f5 B5 g5);have brest:=brest.ext (XT f5 B5 g5);refine Qt (Bnot.ext (h4.trans h5)) rfl ?_;refine Qt (Bb.ext ((h3.trans h4).trans h5)) rfl ?_;refine call (bQp (k:=2) (by decide) (⟨Anot,nnot,cnot,dnot,rnot⟩:DV) (⟨Ab,nb,cb,db,rb⟩:DV) w5 (bnot.ext (h4.trans h5)) (bb.ext ((h3.trans h4).trans h5)) snot sb) ?_;rintro _ a6 ⟨Aoth,noth,coth,doth,roth,rfl,e6,both,soth,_⟩;refine new (λx6 f6 y6 B6=>?_);refine Qv B6 rfl (sc rfl) (λw6 g6 _ Both=>?_);have h6:Ext w5 w6:=e6.trans (XT f6 B6 g6);have both:=both.ext (XT f6 B6 g6);refine call (dM true w6) ?_;rintro _ a7 ⟨rfl,e7⟩;refine new (λx7 f7 y7 B7=>?_);refine Qv B7 rfl (sc rfl) (λw7 g7 _ Ball=>?_);have h7:Ext w6 w7:=e7.trans (XT f7 B7 g7);have Ball:Blk w7 a7.heap.size 32 (⟨none,0,0,[],1⟩:DV).cells:=Ball;have sall:Set1 2 [] 1 (λ_=>true):=bV 2 true;refine Xg Qa [[Value.string (Qd [65])],[Value.string (Qd [66])]] rfl rfl rfl rfl rfl ⟨rfl,rfl,rfl,rfl,⟨⟩⟩ rfl (λcs h=>by simp only[QY,JM,JR] at h;rcases h with rfl | rfl<;>rfl) rfl (by decide) (by decide) ?_;intro w8 h8 _ BN;have hN:Sl w8 1 (some ⟨w7.heap.size,0,none⟩) 2 2 (XH Vi):=Sl.own' (n:=2) BN rfl (by decide);refine call (Ld [120,10,121,10] [120,10,122,10] _ (by decide) (by decide) w8 sn1) ?_;rintro _ w9 ⟨rfl,h9⟩;refine Xd rfl ?_;refine call (Ld [120,10,121,10] [120,10] _ (by decide) (by decide) w9 sn2) ?_;rintro _ QE ⟨rfl,XO⟩;refine Xd rfl ?_;refine call (Ld [120,10] [120,10,121,10] _ (by decide) (by decide) QE sn3) ?_;rintro _ QL ⟨rfl,Z7⟩;refine Qt (Ball.ext (((h8.trans h9).trans XO).trans Z7)) rfl ?_;refine Qt (Bboth.ext ((((((h5.trans h6).trans h7).trans h8).trans h9).trans XO).trans Z7)) rfl ?_;refine Qt (Brest.ext (((((h6.trans h7).trans h8).trans h9).trans XO).trans Z7)) rfl ?_;refine Xg Qa [YB ((⟨Aboth,nboth,cboth,dboth,rboth⟩:DV),Pr.mk (λe=>e 0&&e 1) tX),YB ((⟨Arest,nrest,crest,drest,rrest⟩:DV),Pr.mk (λe=> !(e 0&&e 1)) [])] rfl rfl rfl rfl rfl ⟨rfl,rfl,rfl,rfl,⟨⟩⟩ rfl (λcs h=>by simp only[QY,JM,JR] at h;rcases h with rfl | rfl<;>rfl) rfl (by decide) (by decide) ?_;intro Xb X0 _ BP12;refine call (bQs ⟨none,0,0,[],1⟩ [((⟨Aboth,nboth,cboth,dboth,rboth⟩:DV),Pr.mk (λe=>e 0&&e 1) tX),((⟨Arest,nrest,crest,drest,rrest⟩:DV),Pr.mk (λe=> !(e 0&&e 1)) [])] _ 2 _ 2 2 Xb (hN.ext (((h9.trans XO).trans Z7).trans X0)) (SlS.nil _) sall ⟨Sl.own (sz:=3) (n:=2) BP12 (QB _) (by decide) (by simp[YB,Kg]),rfl⟩ (λq hq=>by
  simp only[QY,JM,JR] at hq;rcases hq with rfl | rfl
  ·exact⟨(bboth.ext (((((((h5.trans h6).trans h7).trans h8).trans h9).trans XO).trans Z7).trans X0)),sboth,(show(∀b∈(tX:List Nat),b<256)/\(tX:List Nat).length<=2000 by decide)⟩
  ·exact⟨(brest.ext ((((((h6.trans h7).trans h8).trans h9).trans XO).trans Z7).trans X0)),srest,(show(∀b∈([]:List Nat),b<256)/\([]:List Nat).length<=2000 by decide)⟩) rfl sn4) ?_
 rintro _ X9 ⟨rfl,Va⟩;refine Qt (Bb.ext ((((((((((h3.trans h4).trans h5).trans h6).trans h7).trans h8).trans h9).trans XO).trans Z7).trans X0).trans Va)) rfl ?_;refine Qt (Bboth.ext ((((((((h5.trans h6).trans h7).trans h8).trans h9).trans XO).trans Z7).trans X0).trans Va)) rfl ?_;refine Qt (Both.ext ((((((h7.trans h8).trans h9).trans XO).trans Z7).trans X0).trans Va)) rfl ?_;refine Xg Qa [YB ((⟨Aboth,nboth,cboth,dboth,rboth⟩:DV),Pr.mk (λe=>e 0&&e 1) tX),YB ((⟨Aoth,noth,coth,doth,roth⟩:DV),Pr.mk (λe=> !e 0&&e 1) [121,10])] rfl rfl rfl rfl rfl ⟨rfl,rfl,rfl,rfl,⟨⟩⟩ rfl (λcs h=>by simp only[QY,JM,JR] at h;rcases h with rfl | rfl<;>rfl) rfl (by decide) (by decide) ?_;intro Zu Ya _ BP14;refine call (bQs (⟨Ab,nb,cb,db,rb⟩:DV) [((⟨Aboth,nboth,cboth,dboth,rboth⟩:DV),Pr.mk (λe=>e 0&&e 1) tX),((⟨Aoth,noth,coth,doth,roth⟩:DV),Pr.mk (λe=> !e 0&&e 1) [121,10])] _ 2 _ 2 2 Zu (hN.ext (((((h9.trans XO).trans Z7).trans X0).trans Va).trans Ya)) (bb.ext (((((((((((h3.trans h4).trans h5).trans h6).trans h7).trans h8).trans h9).trans XO).trans Z7).trans X0).trans Va).trans Ya)) sb ⟨Sl.own (sz:=3) (n:=2) BP14 (QB _) (by decide) (by simp[YB,Kg]),rfl⟩ (λq hq=>by
  simp only[QY,JM,JR] at hq;rcases hq with rfl | rfl
  ·exact⟨(bboth.ext (((((((((h5.trans h6).trans h7).trans h8).trans h9).trans XO).trans Z7).trans X0).trans Va).trans Ya)),sboth,(show(∀b∈(tX:List Nat),b<256)/\(tX:List Nat).length<=2000 by decide)⟩
  ·exact⟨(both.ext (((((((h7.trans h8).trans h9).trans XO).trans Z7).trans X0).trans Va).trans Ya)),soth,(show(∀b∈([121,10]:List Nat),b<256)/\([121,10]:List Nat).length<=2000 by decide)⟩) rfl sn5) ?_
 rintro _ J8 ⟨rfl,af⟩;refine Qt (Ball.ext (((((((h8.trans h9).trans XO).trans Z7).trans X0).trans Va).trans Ya).trans af)) rfl ?_;refine Qt (Ba.ext (((((((((((((h2.trans h3).trans h4).trans h5).trans h6).trans h7).trans h8).trans h9).trans XO).trans Z7).trans X0).trans Va).trans Ya).trans af)) rfl ?_;refine Xg Qa [YB ((⟨Aa,na,ca,da,ra⟩:DV),Pr.mk (λe=>e 0) tX)] rfl rfl rfl rfl rfl ⟨rfl,rfl,⟨⟩⟩ rfl (λcs h=>by simp only[QO] at h;subst h;rfl) rfl (by decide) (by decide) ?_;intro ac bE _ BP16;refine call (bQt ⟨none,0,0,[],1⟩ [((⟨Aa,na,ca,da,ra⟩:DV),Pr.mk (λe=>e 0) tX)] _ 2 _ 1 1 ac (hN.ext (((((((h9.trans XO).trans Z7).trans X0).trans Va).trans Ya).trans af).trans bE)) (SlS.nil _) sall ⟨Sl.own (sz:=3) (n:=1) BP16 (QB _) (by decide) (by simp[YB,Kg]),rfl⟩ (λq hq=>by
  simp only[QY,JM,JR] at hq;rcases hq with rfl
  ·exact⟨(ba.ext ((((((((((((((h2.trans h3).trans h4).trans h5).trans h6).trans h7).trans h8).trans h9).trans XO).trans Z7).trans X0).trans Va).trans Ya).trans af).trans bE)),sa,(show(∀b∈(tX:List Nat),b<256)/\(tX:List Nat).length<=2000 by decide)⟩) rfl sn6) ?_
 rintro _ VU ⟨rfl,fp⟩;refine Qt (Ball.ext (((((((((h8.trans h9).trans XO).trans Z7).trans X0).trans Va).trans Ya).trans af).trans bE).trans fp)) rfl ?_;refine Qt (Ball.ext (((((((((h8.trans h9).trans XO).trans Z7).trans X0).trans Va).trans Ya).trans af).trans bE).trans fp)) rfl ?_;refine Xg Qa [YB ((⟨none,0,0,[],1⟩:DV),Pr.mk (λ_=>true) [35,101,110,100,10])] rfl rfl rfl rfl rfl ⟨rfl,rfl,⟨⟩⟩ rfl (λcs h=>by simp only[QO] at h;subst h;rfl) rfl (by decide) (by decide) ?_;intro Vp bB _ BP18;refine call (bQt ⟨none,0,0,[],1⟩ [((⟨none,0,0,[],1⟩:DV),Pr.mk (λ_=>true) [35,101,110,100,10])] _ 2 _ 1 1 Vp (hN.ext (((((((((h9.trans XO).trans Z7).trans X0).trans Va).trans Ya).trans af).trans bE).trans fp).trans bB)) (SlS.nil _) sall ⟨Sl.own (sz:=3) (n:=1) BP18 (QB _) (by decide) (by simp[YB,Kg]),rfl⟩ (λq hq=>by
  simp only[QY,JM,JR] at hq;rcases hq with rfl
  ·exact⟨SlS.nil _,sall,(show(∀b∈([35,101,110,100,10]:List Nat),b<256)/\([35,101,110,100,10]:List Nat).length<=2000 by decide)⟩) rfl sn7) ?_
 rintro _ bC ⟨rfl,gr⟩;refine Xg Qa [[Value.string (Qd [65])],[Value.string (Qd [65])]] rfl rfl rfl rfl rfl ⟨rfl,rfl,rfl,rfl,⟨⟩⟩ rfl (λcs h=>by simp only[QY,JM,JR] at h;rcases h with rfl | rfl<;>rfl) rfl (by decide) (by decide) ?_;intro YE fk _ BA;refine Qt (Ball.ext ((((((((((((h8.trans h9).trans XO).trans Z7).trans X0).trans Va).trans Ya).trans af).trans bE).trans fp).trans bB).trans gr).trans fk)) rfl ?_;refine call (lQP _ 2 YE (Sl.own' (n:=2) BA rfl (by decide))) ?_;rintro _ gp ⟨rfl,gq⟩;refine J0 rfl ?_;refine Zy rfl ?_;refine J0 rfl ?_;refine Zy rfl ?_;refine J0 rfl ?_;refine J0 rfl ?_;refine Qt (Ba.ext (((((((((((((((((((h2.trans h3).trans h4).trans h5).trans h6).trans h7).trans h8).trans h9).trans XO).trans Z7).trans X0).trans Va).trans Ya).trans af).trans bE).trans fp).trans bB).trans gr).trans fk).trans gq)) rfl ?_;refine call (Le [120,32,121,10,122,10] _ ⟨2,3,[119],(⟨Aa,na,ca,da,ra⟩:DV)⟩ (by decide) (show(-9223372036854775808:Int)<=2/\(2:Int)<=9223372036854775807/\(-9223372036854775808:Int)<=3/\(3:Int)<=9223372036854775807 by decide) (show(∀b∈([119]:List Nat),b<256)/\([119]:List Nat).length<=1000 by decide) sa gp (ba.ext (((((((((((((((((((h2.trans h3).trans h4).trans h5).trans h6).trans h7).trans h8).trans h9).trans XO).trans Z7).trans X0).trans Va).trans Ya).trans af).trans bE).trans fp).trans bB).trans gr).trans fk).trans gq)) sn8) ?_;rintro _ ae ⟨rfl,kV⟩;refine Xd rfl ?_;refine Qt (Bnot.ext ((((((((((((((((((h4.trans h5).trans h6).trans h7).trans h8).trans h9).trans XO).trans Z7).trans X0).trans Va).trans Ya).trans af).trans bE).trans fp).trans bB).trans gr).trans fk).trans gq).trans kV)) rfl ?_;refine call (Le oZ oZ ⟨6,7,[121],(⟨Anot,nnot,cnot,dnot,rnot⟩:DV)⟩ (by decide) (show(-9223372036854775808:Int)<=6/\(6:Int)<=9223372036854775807/\(-9223372036854775808:Int)<=7/\(7:Int)<=9223372036854775807 by decide) (show(∀b∈([121]:List Nat),b<256)/\([121]:List Nat).length<=1000 by decide) snot ae (bnot.ext ((((((((((((((((((h4.trans h5).trans h6).trans h7).trans h8).trans h9).trans XO).trans Z7).trans X0).trans Va).trans Ya).trans af).trans bE).trans fp).trans bB).trans gr).trans fk).trans gq).trans kV)) sn9) ?_;rintro _ Ae ⟨rfl,pO⟩;refine Xd rfl ?_;refine Qt (Ball.ext (((((((((((((((h8.trans h9).trans XO).trans Z7).trans X0).trans Va).trans Ya).trans af).trans bE).trans fp).trans bB).trans gr).trans fk).trans gq).trans kV).trans pO)) rfl ?_;refine call (Le oZ _ ⟨6,7,[121],⟨none,0,0,[],1⟩⟩ (by decide) (show(-9223372036854775808:Int)<=6/\(6:Int)<=9223372036854775807/\(-9223372036854775808:Int)<=7/\(7:Int)<=9223372036854775807 by decide) (show(∀b∈([121]:List Nat),b<256)/\([121]:List Nat).length<=1000 by decide) sall Ae (SlS.nil _) lQQ) ?_;rintro _ Ag ⟨rfl,jl⟩;refine Qt (Ball.ext ((((((((((((((((h8.trans h9).trans XO).trans Z7).trans X0).trans Va).trans Ya).trans af).trans bE).trans fp).trans bB).trans gr).trans fk).trans gq).trans kV).trans pO).trans jl)) rfl ?_;refine Qt (Ba.ext ((((((((((((((((((((((h2.trans h3).trans h4).trans h5).trans h6).trans h7).trans h8).trans h9).trans XO).trans Z7).trans X0).trans Va).trans Ya).trans af).trans bE).trans fp).trans bB).trans gr).trans fk).trans gq).trans kV).trans pO).trans jl)) rfl ?_;refine Xg Qa [X6 ⟨0,1,[121],(⟨Aa,na,ca,da,ra⟩:DV)⟩] rfl rfl rfl rfl rfl ⟨rfl,rfl,⟨⟩⟩ rfl (λcs h=>by simp only[QO] at h;subst h;rfl) rfl (by decide) (by decide) ?_;intro w25 N9 _ BE;refine call (bQq oZ ⟨0,1,[121],(⟨Aa,na,ca,da,ra⟩:DV)⟩ (by decide) (show(-9223372036854775808:Int)<=0/\(0:Int)<=9223372036854775807/\(-9223372036854775808:Int)<=1/\(1:Int)<=9223372036854775807 by decide) (show(∀b∈([121]:List Nat),b<256)/\([121]:List Nat).length<=1000 by decide) sa _ 2 _ 1 w25 (ba.ext (((((((((((((((((((((((h2.trans h3).trans h4).trans h5).trans h6).trans h7).trans h8).trans h9).trans XO).trans Z7).trans X0).trans Va).trans Ya).trans af).trans bE).trans fp).trans bB).trans gr).trans fk).trans gq).trans kV).trans pO).trans jl).trans N9)) (hN.ext ((((((((((((((((h9.trans XO).trans Z7).trans X0).trans Va).trans Ya).trans af).trans bE).trans fp).trans bB).trans gr).trans fk).trans gq).trans kV).trans pO).trans jl).trans N9)) ⟨Sl.own (sz:=5) (n:=1) BE (QB _) (by decide) (by simp[X6]),rfl⟩) ?_;rintro _ w26 ⟨rfl,h26⟩;rw[lQR];refine Xd rfl ?_;refine Xd rfl ?_;refine Xd rfl ?_;exact⟨rfl,(((((((((((((((((((((((((h1.trans h2).trans h3).trans h4).trans h5).trans h6).trans h7).trans h8).trans h9).trans XO).trans Z7).trans X0).trans Va).trans Ya).trans af).trans bE).trans fp).trans bB).trans gr).trans fk).trans gq).trans kV).trans pO).trans jl).trans N9).trans h26)⟩
theorem lQT:((List.range 256).all λf=>(List.range 8).all λc=>cT [f] 3 0 0 (Yh c)==f.testBit c)=true:=by decide+kernel
theorem bQu {f c:Nat}(hf:f<=255)(hc:c<8):cT [f] 3 0 0 (bits c)=f.testBit c:=by
 have:=Ka.1 lQT f (cI.2 (by omega));have:=Ka.1 this c (cI.2 hc);rw[jQ5] at this;simpa using this
theorem lQU {o o':BF}(h:∀c,c<8->o (bits c)=o' (bits c)):QG 3 o=QG 3 o':=by
 unfold QG;refine List.filter_congr (λc hc=>?_);exact h c (cI.1 hc)
def bq (b:Nat):BF:=if b=0 then λ_=>true else cT [b] 3 0 0
theorem Dt {b c:Nat}(hb:b<=255)(hc:c<8):bq b (bits c)=vo b c:=by
 unfold bq vo;by_cases h:b=0
 ·rw[Qf h,Zx (by omega)]<;>rfl
 ·rw[if_neg h,bQu hb hc,Zr (by omega)]<;>rfl
theorem lQV {b:Nat}(hb:b<=255):QG 3 (bq b)=oU b:=by
 unfold QG oU;refine List.filter_congr (λc hc=>?_);exact Dt hb (cI.1 hc)
theorem bQv {b:Nat}(hb:b<=255):QG 3 (cT [b] 3 0 0)=[]↔b=0:=by
 constructor
 ·intro h;apply Classical.byContradiction;intro h0;have h1:=lQV hb;unfold bq at h1;rw[if_neg h0,h] at h1;exact jQ4 hb h1.symm
 ·rintro rfl;rw[lQU (o':=λ_=>false) (λc hc=>by rw[bQu (by decide) hc,Nat.zero_testBit])];decide
theorem lQW (b:Nat)(hb:b<=255)(w:World):Fn Tryz.prog 14 [.int .u8 b] w (i9 w 3 (bq b)):=by
 refine QJ (c:={c14 with cuts:=[]}) Qa Tryz.func14 rfl rfl rfl ?_;refine new (λw1 Qe Q6 Qh=>?_);refine Xg Qa [[Value.int .u8 b]] rfl rfl rfl rfl rfl ⟨rfl,rfl,⟨⟩⟩ rfl (λcs h=>by simp only[QO] at h;subst h;rfl) rfl (by decide) (by decide) ?_;intro w2 Qg Ze Qy;refine call (ia [b] _ 1 1 3 w2 (Sl.own' (n:=1) Qy rfl (by decide)) (λx hx=>by rw[QO.1 hx];exact hb) (by decide)) ?_;rintro _ w3 ⟨A,n,c,nd,r,rfl,Qi,vN,s3,pv⟩;have QU:=Qe.trans (Qg.trans Qi);have XF:=Qg.trans Qi;refine new (λw4 Qs KR QR=>?_);refine Qv QR rfl (sc rfl) (λw5 JE _ QD=>?_);have K8:Ext w3 w5:=XT Qs QR JE;have pE:=Qh.ext (XF.trans K8);have JK:=QU.trans K8;have sh:=XF.size;refine Qo QD rfl ?_;have h0:=s3.root0.trans (bQv hb);refine X8 (λhz=>?_) (λhz=>?_)
 ·refine call (yr true w5) ?_;rintro _ w6 ⟨rfl,QQ⟩;refine Qv (pE.ext QQ) rfl (sc rfl) (λw7 Zv _ Q3=>?_);have Xe:Mod (·=w.heap.size) w6 w7:=qQL Zv rfl;refine Qt Q3 rfl ?_;refine⟨none,0,0,[],1,rfl,Xe.ext (JK.trans QQ) (λi hi=>by omega),SlS.nil _,?_,λi hi=>by obtain⟨_,e,_⟩:=hi;cases e⟩;have e:bq b=λ_=>true:=by unfold bq;rw[Qf (h0.1 hz)]
  rw[e];exact bV 3 true
 ·refine Qt QD rfl ?_;refine Qv pE rfl (sc rfl) (λw7 Zv _ Q3=>?_);have Xe:Mod (·=w.heap.size) w5 w7:=qQL Zv rfl;refine Qt Q3 rfl ?_;have nQF:=Qg.size;refine⟨A,n,c,nd,r,rfl,Xe.ext JK (λi hi=>by omega),SB.mod (vN.ext K8) Xe (λi hi e=>by have:=pv i hi;omega),?_,λi hi=>by have:=pv i hi;omega⟩;have e:bq b=cT [b] 3 0 0:=by unfold bq;rw[if_neg (λd9=>hz (h0.2 d9))]
  rw[e];exact s3
theorem Lg (w:World):Fn Tryz.prog 16 [] w (λu w'=>∃A c,u= .slice A 3 c/\Ext w w'/\Sl w' 1 A 3 c (XH (Zm.take 3))):=by
 refine QJ (c:={c16 with cuts:=[]}) Qa Tryz.func16 rfl rfl rfl ?_;refine call (hQH 3 w (by decide)) ?_;rintro _ w1 ⟨A,c,rfl,Qe,ta⟩;exact⟨A,c,rfl,Qe,ta⟩
structure RawV where
 fam:Nat
 cls:List Nat
 txs:List (Option Addr×Nat×Nat×List Nat)
 CA:Option Addr
 cn:Nat
 cc:Nat
 TA:Option Addr
 tn:Nat
 tc:Nat
def txC (t:Option Addr×Nat×Nat×List Nat):List Value:=[.slice t.1 t.2.1 t.2.2.1]
structure RawIn (w:World) (x:RawV):Prop where
 f8:x.fam<=255
 cl:Sl w 1 x.CA x.cn x.cc (VH x.cls)
 c8:∀k∈x.cls,k<=255
 tx:SlS txC 1 w x.TA x.tn x.tc x.txs
 ts:∀t∈x.txs,Sl w 1 t.1 t.2.1 t.2.2.1 (VH t.2.2.2)/\∀k∈t.2.2.2,k<=255
theorem RawIn.ext {w w':World}{x:RawV}(h:RawIn w x)(k:Ext w w'):RawIn w' x:=⟨h.f8,h.cl.ext k,h.c8,h.tx.ext k,λt ht=>⟨(h.ts t ht).1.ext k,(h.ts t ht).2⟩⟩
abbrev YS:List (List Nat):=Zm.take 3
theorem bQw:KO YS:=(hQI 3 (by decide)).1
theorem Lh:Z1 YS=true:=by decide+kernel
theorem lQX:∀s∈YS,s.length<=1000:=by decide
end
section
open Go Go.RowKit Go.ChangeShapes
variable {H:Type} {enc:TypeId×Value->H}
theorem bQx {W:World}{dz t e:Nat}{v:Value}{D:DataW H×List MemPlace}(hu:Tryz.prog.underlying t=some (.slice e))(h:DataW.trod enc Tryz.prog W 0 (λ_=>true) true dz t [v]=some D):∃a n c,v= .slice a n c:=by
 rcases Go.Deep.open_slice hu h with⟨XN,_⟩ | ⟨x,l,c,m,n,D,Pl,XN,_⟩
 ·simp at XN;exact⟨_,_,_,XN⟩
 ·simp at XN;exact⟨_,_,_,XN⟩
end
section
theorem Du (c:Nat):Yh c=λi=>c.testBit i:=by
 funext i;rw[Yh,Nat.testBit_eq_decide_div_mod_eq]
theorem Sl.sepI {w:World}{sz n c g t:Nat}{A:Option Addr}{cs l:List Value}{x:Int}(h:Sl w sz A n c cs)(h0:cs[0]? =some (.int .i64 x))(hB:Blk w g t l)(hl:∀v∈l,∀k z,v≠ .int k z):0<n->∀i,Qk A i->¬i=g:=λhn i hi e=>by
 obtain⟨ad,rfl,hc⟩:=h.at_ hn;obtain⟨ad',e',rfl⟩:=hi;cases e';have h1:=hc 0 _ h0;unfold World.cell? at h1;rw[og,e,show w.heap[g]? =_ from hB] at h1;simp only at h1;split at h1
 ·cases h1
 ·rw[F8] at h1;exact hl _ (Xl h1) _ _ rfl
theorem SB.modI {w w':World}{A:Option Addr}{n c g t:Nat}{nd:List Br}{l:List Value}(h:SB w A n c nd)(hB:Blk w g t l)(hl:∀v∈l,∀k z,v≠ .int k z)(hm:Mod (·=g) w w'):SB w' A n c nd:=by
 refine⟨h.1.modS hm (λhn i hi=>?_),h.2⟩;cases nd with
 | nil=>have:=h.2;simp at this;omega
 | cons b nd=>exact h.1.sepI (x:=b.v) (by simp[Br.cells]) hB hl hn i hi
theorem SX.modI {w w':World}{A:Option Addr}{n c g t:Nat}{L:List Sx}{l:List Value}(h:SX w A n c L)(hB:Blk w g t l)(hl:∀v∈l,∀k z,v≠ .int k z)(hm:Mod (·=g) w w'):SX w' A n c L:=by
 refine⟨⟨h.sl.1.modS hm (λhn i hi=>?_),h.sl.2⟩,λy hy=>(h.dg y hy).modI hB hl hm⟩;cases L with
 | nil=>have:=h.sl.2;simp at this;omega
 | cons y L=>exact h.sl.1.sepI (x:=y.f) (by simp[Sx.cells]) hB hl hn i hi
theorem SrcIn.modI {w w':World}{k:Nat}{A:Option Addr}{c gg t:Nat}{g:Gs}{l:List Value}(h:SrcIn w k A c g)(hB:Blk w gg t l)(hl:∀v∈l,∀k z,v≠ .int k z)(hm:Mod (·=gg) w w'):SrcIn w' k A c g:=
 ⟨h.ok,h.kl,let ⟨M,h1,h2,h3⟩:=h.ex;⟨M,h1.modI hB hl hm,h2,h3⟩⟩
theorem bQy (T:List Nat)(g:Gs)(w:World)(hT:∀b∈T,b<256)(hl:T.length<=1048576)(hr:Vh YS [([102],T)] [102]= .ok g):
  Fn Tryz.prog 17 [.string (Qd T)] w (λu w'=>∃A c,u= .tuple #[rL g.tx A g.sg.length c,.bool true]/\Ext w w'/\SrcIn w' 3 A c g):=by
 refine QJ (c:={c17 with cuts:=[]}) Qa Tryz.func17 rfl rfl rfl ?_;refine new (λw1 Qe Q6 Qh=>?_);refine call (Lg w1) ?_;rintro _ w2 ⟨NA,nc,rfl,Qg,np⟩;have QT:=Qe.trans Qg;refine Xg Qa [bg ([102],T)] rfl rfl rfl rfl rfl ⟨rfl,rfl,⟨⟩⟩ rfl (λcs h=>by simp only[QO] at h;subst h;rfl) rfl (by decide) (by decide) ?_;intro w3 Qi Jr Qu;have QU:=QT.trans Qi;have hF3:SlS bg 2 w3 (some ⟨w2.heap.size,0,none⟩) 1 1 [([102],T)]:=⟨Sl.own (sz:=2) (n:=1) Qu (QB _) (by decide) (by simp[bg]),rfl⟩
 refine call (H5 YS NA 3 nc [([102],T)] _ 1 1 [102] w3 (np.ext Qi) bQw (by decide) hF3 (λx hx=>by
  simp only[QO] at hx;subst hx;exact⟨(show∀b∈ [102],b<256 by decide),hT,(show [102].length<=_ by decide),by simp only;omega⟩) (by decide) (by decide)) ?_
 rw[hr];rintro _ w4 ⟨Qs,hg,RA,rc,RL,rfl,aD⟩;have hI4:SrcIn w4 3 RA rc g:=jQs (nm:=YS) (by decide) hr hg aD;have Xp:=QU.trans Qs;refine new (λw5 Qx KI QD=>?_);refine new (λw6 QQ bu Q7=>?_);refine Qv (QD.ext QQ) rfl (sc rfl) (λw7 Zv _ Q3=>?_);have Xe:Mod (·=w4.heap.size) w6 w7:=qQL Zv rfl;refine Qv (Q7.mod Xe (by omega)) rfl (sc rfl) (λw8 YV _ Xz=>?_);have ZL:Mod (·=w5.heap.size) w7 w8:=qQL YV rfl;have MB:=Q3.mod ZL (by omega);have fo:Ext w4 w8:=ZL.ext (Xe.ext (Qx.trans QQ) (λi hi=>by omega)) (λi hi=>by omega);have kS:=Qh.ext (Qg.trans (Qi.trans (Qs.trans fo)));have z1:=Qg.size;have z2:=Qi.size;have z3:=Qs.size;refine XR Qa (λw'=>Mod (·=w.heap.size) w8 w') 6 [(true,0),(true,1),(true,2),(true,3),(false,4),(true,5)] (by kernel_rfl) (Mod.of_ext _ (Ext.drew w8)) ?_;refine Xv (vs:=[.string (Qd g.tx),.slice RA g.sg.length rc]) rfl (λw' Qb k u hk=>by rw[(MB.mod Qb (by omega)).cell];exact hk) ?_;refine QN (v:=.int .i64 0) (λw' Qb=>((Xz.mod Qb (by omega)).cell 0).trans rfl) ?_;refine Qv (kS.ext (Ext.drew w8)) rfl (sc rfl) (λw9 dZ _ JI=>?_);have Zg:Mod (·=w.heap.size) w8 w9:=(Mod.of_ext _ (Ext.drew w8)).trans (qQL dZ rfl:Mod (·=w.heap.size) w8.drew w9) (λi hi=>.inl hi);refine⟨Zg,?_⟩;have Xx:Ext w w9:=Zg.ext (Qe.trans (Qg.trans (Qi.trans (Qs.trans fo)))) (λi hi=>by omega);refine Qt JI rfl ?_;have oQr:Blk w8 w.heap.size 41 [.string ByteArray.empty,.slice none 0 0]:=kS;exact⟨RA,rc,rfl,Xx,(hI4.ext fo).modI oQr (λv hv k z e=>by subst e;simp at hv) Zg⟩
structure Ep where
 l:Nat
 f:Nat
 t:Nat
 x:Nat
 s:Nat
def Ep.cells (e:Ep):List Value:=[.int .u8 (e.l:Nat),.int .u8 (e.f:Nat),.int .u8 (e.t:Nat),.int .u8 (e.x:Nat),.int .u8 (e.s:Nat)]
structure ChV where
 fam:Nat
 ls:List Lx
 es:List Ep
 LA:Option Addr
 ln:Nat
 lc:Nat
 EA:Option Addr
 en:Nat
 ec:Nat
def ChV.cells (x:ChV):List Value:=[.int .u8 (x.fam:Nat),.slice x.LA x.ln x.lc,.slice x.EA x.en x.ec]
structure Ep8 (e:Ep):Prop where
 l8:e.l<=255
 f8:e.f<=255
 t8:e.t<=255
 x8:e.x<=255
 s8:e.s<=255
structure ChIn (w:World) (x:ChV):Prop where
 f8:x.fam<=255
 ls:SlS Lx.cells 3 w x.LA x.ln x.lc x.ls
 lo:∀y∈x.ls,LxOk w y
 es:SlS Ep.cells 5 w x.EA x.en x.ec x.es
 e8:∀e∈x.es,Ep8 e
theorem ChIn.ext {w w':World}{x:ChV}(h:ChIn w x)(k:Ext w w'):ChIn w' x:=⟨h.f8,h.ls.ext k,λy hy=>(h.lo y hy).ext k,h.es.ext k,h.e8⟩
theorem lQY (x:Ep):x.cells.length=5:=rfl
theorem lQZ (x:List Nat×List Nat):(bg x).length=2:=rfl
def YT (x:Lx):Lx:=if x.k % 8=7 then{x with k:=0}else x
theorem lQ0 {w:World}{x:Lx}(h:LxOk w x):LxOk w (YT x):=by
 unfold YT;split
 ·exact⟨by simp,h.i8,h.sl,h.w8⟩
 ·exact h
def ZU (ls:List Lx):List Nat:=Qp ((Io 3 (ls.map YT)).map XD)
theorem bQz {α:Type}{f:α->List Value}{sz:Nat}(hf:∀x,(f x).length=sz):∀(l:List α)(j:Nat)(y y':α)(i:Nat)(v:Value),l[j]? =some y->i<sz->(f y).set i v=f y'->(l.flatMap f).set (j*sz+i) v=(l.set j y').flatMap f
 | [],j,y,y',i,v,h,_,_=>by simp at h
 | z::l,0,y,y',i,v,h,hi,e=>by
  simp at h;subst h;simp only[Vf,PK,Nat.zero_mul,WQ];rw[List.set_append_left _ _ (by rw[hf];exact hi),e]
 | z::l,j+1,y,y',i,v,h,hi,e=>by
  simp only[Vf,List.set_cons_succ];rw[Bu _ _ (by rw[hf,gH];omega),hf,show(j+1)*sz+i-sz=j*sz+i by rw[gH];omega,bQz hf l j y y' i v (by simpa using h) hi e]
def dR (ls:List Lx)(i:Nat):List Lx:=(ls.take i).map YT++ls.drop i
theorem bQA (ls:List Lx)(i:Nat):(dR ls i).length=ls.length:=by simp[dR];omega
theorem Li {ls:List Lx}{i:Nat}(h:i<ls.length):(dR ls i)[i]? =ls[i]? :=by
 unfold dR;rw[aS (by simp;omega)];simp[nN (Nat.le_of_lt h)]
theorem bQB {ls:List Lx}{i:Nat}{y:Lx}(h:ls[i]? =some y):dR ls (i+1)=(dR ls i).set i (YT y):=by
 have hi:=(Jd.1 h).1;unfold dR;rw[Bu _ _ (by simp;omega)];have hd:ls.drop i=y::ls.drop (i+1):=by rw[am hi];congr 1;exact Option.some.inj ((Xu hi).symm.trans h)
 rw[hd,show i-((ls.take i).map YT).length=0 by simp;omega,PK,VF,h];simp
theorem lQ1 (ls:List Lx):dR ls ls.length=ls.map YT:=by simp[dR]
theorem bQC (x:ChV)(w:World)(h:ChIn w x)(hn:x.ln<=1048576):
  Fn Tryz.prog 12 [.agg x.cells.toArray] w (λu w'=>u= .string (Qd (ZU x.ls))/\Ext w w'):=by
 have cy:=h.ls.2;have hlc:=h.ls.1.cap;have ZF:=h.ls.1.le;simp only[maxLen] at hlc;refine QJ (c:={c12 with cuts:=[]}) Qa Tryz.func12 rfl rfl rfl ?_;refine new (λw1 Qe Q6 Qh=>?_);refine Xg Qa [] rfl rfl rfl rfl rfl ⟨⟩ rfl (λcs h=>by cases h) rfl (by decide) (by decide) ?_;intro w2 Qg Ze Qy;refine load (((Qh.ext Qg).cell 1).trans rfl) ?_;refine Je (n:=0) Qa rfl rfl rfl rfl rfl (by decide) rfl rfl ⟨_,rfl⟩ rfl rfl (Own.empty Qy (QB _)) (h.ls.ext (Qe.trans Qg)).1 (λu hu=>by
  obtain⟨y,_,hy⟩:=Wo.1 hu;exact sc (vs:=y.cells) rfl u hy) (by unfold maxLen;omega) (by show(0+x.ln)*32<=_;omega) (by omega) ?_
 intro TA tc w3 XI Ff _;rw[bO] at Ff;have XF:Ext w1 w3:=XI.ext Qg (λi hi=>by obtain⟨a,e,rfl⟩:=hi;cases e;exact QB _);rw[WQ] at*;refine loop Qa [4] (λi:Nat=>[.int .i64 i]) (λi w'=>Ext w1 w'/\i<=x.ln/\Own w' w1.heap.size 83 3 TA x.ln tc ((dR x.ls i).flatMap Lx.cells)) (λi _=>x.ln-i) 0 rfl ⟨XF,Xo _,by simpa [dR] using Ff⟩ ?_;rintro i w4 ⟨Qs,hi,Yn⟩;refine Qw (λc1=>?_) (λc1=>?_)
 ·have Q4:i<x.ln:=by omega
  have Pz:SlS Lx.cells 3 w4 TA x.ln tc (dR x.ls i):=⟨Yn.sl,by rw[bQA];exact cy⟩
  obtain⟨a,rfl,_⟩:=Yn.sl.at_ (show 0<x.ln by omega);refine Zt IT Pz rfl Q4 (λad y hy hc=>?_);rw[Li (by omega)] at hy;have hk8:=(h.lo y (Xl hy)).k8;refine load (hc 0 _ rfl) ?_;refine normIf (m:=((y.k % 8:Nat):Int)) (by decide) (eK _ 8) ?_;refine X8 (λq1=>?_) (λq1=>?_)
  ·have hf:YT y={y with k:=0}:=by unfold YT;rw[Qf (by omega)]
   refine ik (j:=i) Q4 ?_;show fG _ ((a.add (i*3)).add 0) _ _;rw[add_add];refine HZ Yn (by omega) (by omega) (λw5 XZ kO=>?_);rw[bQz IT (dR x.ls i) i y (YT y) 0 _ (by rw[Li (by omega)];exact hy) (by decide) (by rw[hf];rfl),<-bQB hy] at kO;refine Qj ((i+1:Nat):Int) (by show((i:Nat):Int)+1=_;omega) (by omega) ?_;exact⟨i+1,rfl,⟨XZ.ext Qs (λk hk=>(Yn.rows k hk).1),Q4,kO⟩,by show x.ln-(i+1)<x.ln-i;omega⟩
  ·have hf:YT y=y:=by unfold YT;rw[if_neg (by omega)]
   refine Qj ((i+1:Nat):Int) (by show((i:Nat):Int)+1=_;omega) (by omega) ?_;have e:dR x.ls (i+1)=dR x.ls i:=by
    rw[bQB hy,hf];exact Bl (λk=>by
     rw[List.getElem?_set];split
     ·rename_i hk;subst hk;rw[Li (by omega),hy,Qf (by rw[bQA];omega)]
     ·rfl)
   exact⟨i+1,rfl,⟨Qs,Q4,by rw[e];exact Yn⟩,by show x.ln-(i+1)<x.ln-i;omega⟩
 have Q4:i=x.ln:=by omega
 subst Q4;have Xp:=Qe.trans Qs;refine call (Lg w4) ?_;rintro _ w5 ⟨NA,nc,rfl,Qx,hN5⟩;have Pz:SlS Lx.cells 3 w5 TA x.ln tc (x.ls.map YT):=⟨by have:=(Yn.ext Qx).sl;rw[<-cy,lQ1] at this;rw[<-cy];exact this,by rw[JL];exact cy⟩
 refine call (lQf 3 (by decide) NA nc TA none x.ln tc 0 0 (x.ls.map YT) [] w5 hN5 Pz (λy hy=>by
  obtain⟨z,hz,rfl⟩:=Zk.1 hy;exact(lQ0 (h.lo z hz)).ext (Xp.trans Qx)) (SlS.nil _) (λy hy=>by cases hy)) ?_
 rintro _ w6 ⟨F,rfl,QQ,hF6⟩;refine Zt lQZ hF6 (j:=0) rfl (by decide) (λad y hy hc=>?_);cases hy;refine load (hc 1 _ rfl) ?_;exact⟨rfl,Xp.trans (Qx.trans QQ)⟩
end
section
theorem lQ2 {nm:List (List Nat)}{D:Nat}{op:List Bool}{l:List Mn}:¬ZK nm false D op (.inc::l):=λh=>by
 cases op with
 | nil=>exact Xc h.1 (by decide)
 | cons b op=>cases b<;>exact Xc h.1 (by decide)
theorem bQD {l:List Nat}(h:K5 l=true):Qp (QF l)=l/\∀s∈QF l,XS s= .txt:=by
 unfold K5 at h;rw[Z9] at h;exact⟨Yg (mr h.1),λs hs=>by simpa using Ka.1 h.2 s hs⟩
theorem lQ3 (f:List Nat)(c:Nat){es:List Ed}{p q:Ed->Bool}(h:∀e∈es,p e=true->q e=false->e.o (bits c)=false):∀st,(es.filter (λe=>p e&&q e)).foldl (ZO f c) st=(es.filter p).foldl (ZO f c) st:=by
 induction es with
 | nil=>intro st;rfl
 | cons e es ih=>
  intro st;have ih:=ih (λb hb=>h b (by simp[hb]));rw[fD,fD];cases hp:p e with
  | false=>simp only[Bool.false_and];rw[if_neg (by decide),if_neg (by decide)];exact ih st
  | true=>
   cases hq:q e with
   | true=>simp only[Bool.and_self];rw[Qf trivial,Qf trivial,eE,eE];exact ih _
   | false=>
    simp only[Bool.and_false];rw[if_neg (by decide),Qf trivial,eE,ih];congr 1;unfold ZO;rw[if_neg (by rw[h e (by simp) hp hq];decide)]
theorem bQE {f:List Nat}{stop a:Nat}{es:List Ed}{S:List Nat}{s:List Nat}{c:Nat}(hc:c∈S):ZY f stop a (Vu es S a s) c=ZY f stop a (es.filter (KQ a s)) c:=by
 unfold ZY Vu;rw[lQ3 f c (p:=KQ a s) (q:=λe=>YR S e.o) (λe _ _ hq=>by
  cases h:e.o (bits c)with
  | false=>rfl
  | true=>
   have:YR S e.o=true:=nV.2 ⟨c,hc,h⟩;rw[this] at hq;cases hq)]
def ci (f:List Nat)(es:List Ed)(c:Nat)(T:List (Nat×List Nat×BF)):List Nat:=
 T.flatMap (λq=>if q.2.2 (bits c)=true then ZY f (q.1+q.2.1.length+1) q.1 (es.filter (KQ q.1 q.2.1)) c else [])
variable {nm:List (List Nat)} {n:Nat}
theorem bQF {d:BF}{g:Gs}{f:List Nat}{es:List Ed}{s:List Nat}{ls:List (List Nat)}{a:Nat}{R:List (List Nat)}(hd:XS s= .txt)(h:Yi nm d g f es (s::ls) a=some R):∃R1 R',aA nm f es (QG nm.length (XY d (ij g a))) a s=some R1/\Yi nm d g f es ls (a+s.length+1)=some R'/\R=R1++R':=by
 rw[Yi,Qf hd] at h;cases h1:aA nm f es (QG nm.length (XY d (ij g a))) a s with
 | none=>rw[h1] at h;cases h
 | some R1=>
  rw[h1] at h;simp only at h;cases h2:Yi nm d g f es ls (a+s.length+1)with
  | none=>rw[h2] at h;cases h
  | some R'=>rw[h2] at h;exact⟨R1,R',rfl,rfl,(Option.some.inj h).symm⟩
theorem yK {d:BF}{g:Gs}{f:List Nat}{es:List Ed}{s:List Nat}{ls:List (List Nat)}{a:Nat}{R:List (List Nat)}(hd:XS s≠ .txt)(h:Yi nm d g f es (s::ls) a=some R):∃R',Yi nm d g f es ls (a+s.length+1)=some R'/\R=s::R':=by
 rw[Yi,if_neg hd] at h;simp only at h;cases h2:Yi nm d g f es ls (a+s.length+1)with
 | none=>rw[h2] at h;cases h
 | some R'=>rw[h2] at h;exact⟨R',rfl,(Option.some.inj h).symm⟩
theorem lQ4 (hI:rN nm n)(jI:nm.length=n)(Fg:n<=3){M L:Nat}(hL:1<=L){d k:BF}{f:List Nat}{es:List Ed}{a:Nat}{s:List Nat}{R:List (List Nat)}(hs:TxOk s/\s.length<M)
  (qx:XE f a (a+s.length+1)=s++ [10])
  (hv:∀c,(K5 (ZY f (a+s.length+1) a (Vu es (QG n (XY d k)) a s) c)=true->∀u∈QF (ZY f (a+s.length+1) a (Vu es (QG n (XY d k)) a s) c),TxOk u/\u.length<M)/\(QF (ZY f (a+s.length+1) a (Vu es (QG n (XY d k)) a s) c)).length<=L)
  (he:aA nm f es (QG n (XY d k)) a s=some R):
  ∃t,R=fl nm t/\Wt n t/\dT t<=3/\Y8 (λs=>TxOk s/\s.length<M) t/\(fl nm t).length<=8*(L+3)/\∀c,c<2^n->d (bits c)=true->k (bits c)=true->Qp (Ko (bits c) t)=ZY f (a+s.length+1) a (es.filter (KQ a s)) c:=by
 have YY:∀c,c<2^n->d (bits c)=true->k (bits c)=true->c∈QG n (XY d k):=λc hc h1 h2=>JC.2 ⟨hc,by show(d (bits c)&&k (bits c))=true;rw[h1,h2];rfl⟩
 unfold aA at he;split at he
 ·rename_i h0;refine⟨je [s],by rw[yw];exact(Option.some.inj he).symm,Ih (λu hu=>by rw[QO.1 hu];exact hs.1.dr),by rw[Ig];omega,Ii (λu hu=>by rw[QO.1 hu];exact hs),by rw[yw];show 1<=_;omega,λc hc h1 h2=>?_⟩;rw[If,<-bQE (YY c hc h1 h2),h0];show Qp [s]=[]++XE f a (a+s.length+1);rw[bO,qx];simp[Qp]
 ·rename_i h0;split at he
  ·cases he
  ·split at he
   ·cases he
   ·rename_i h1 h2;have hR:=(Option.some.inj he).symm;have hall:∀c∈QG n (XY d k),K5 (ZY f (a+s.length+1) a (Vu es (QG n (XY d k)) a s) c)=true:=λc hc=>by
     have h2:((QG n (XY d k)).all λc=>K5 (ZY f (a+s.length+1) a (Vu es (QG n (XY d k)) a s) c))=true:=by simpa using h2
     exact Ka.1 h2 c hc
    have QX:QG n (XY d k)≠ []:=λe=>by
     apply h0;unfold Vu;rw[tZ];intro b hb;rw[e];simp[YR]
    obtain⟨t,t1,t2,_,t4,t5,t6,t7⟩:=C1 (nm:=nm) (n:=n) hI (f:=ZY f (a+s.length+1) a (Vu es (QG n (XY d k)) a s)) (P:=λs=>TxOk s/\s.length<M) (M:=L) n 0 (QG n (XY d k)) (by omega) QX aQj (λc hc=>⟨λu hu=>((hv c).1 (hall c hc) u hu).1.dr,(hv c).1 (hall c hc),(hv c).2⟩);rw[jI] at hR;have h8:(QG n (XY d k)).length<=8:=by
     have h1:(QG n (XY d k)).length<=2^n:=by
      unfold QG;refine X3 (lu _ _) ?_;rw[List.length_range];exact QB _
     have h2:2^n<=2^3:=aT (by decide) Fg;omega
    refine⟨t,by rw[hR,t1],t2,by omega,t5,?_,λc hc h1 h2=>?_⟩
    ·have:=WN (L+3) h8;omega
    ·have hm:=YY c hc h1 h2;rw[show Ko (bits c) t=_ from t7 c hm,(bQD (hall c hm)).1,bQE hm]
theorem bQG (hI:rN nm n)(hV:Iq nm n)(jI:nm.length=n)(Fg:n<=3){M L D:Nat}(wN:∀{t:Tr},Wt n t->Y8 (λs=>TxOk s/\s.length<M) t->fS M (VO nm t))(hL:1<=L)(d:BF)(g:Gs)(f:List Nat)(es:List Ed):
  ∀(ml:List Mn) (a:Nat) (k:BF) (op:List (BF×BF)) (fg:List Bool) (R:List (List Nat)),ZK nm false D fg ml->fg.length<=D->fS M ml->
   (∀q∈Kq nm (ml.map XD) a k op,ij g q.1=q.2.2/\XE f q.1 (q.1+q.2.1.length+1)=q.2.1++ [10]/\∀c,(K5 (ZY f (q.1+q.2.1.length+1) q.1 (Vu es (QG n (XY d q.2.2)) q.1 q.2.1) c)=true->∀s∈QF (ZY f (q.1+q.2.1.length+1) q.1 (Vu es (QG n (XY d q.2.2)) q.1 q.2.1) c),TxOk s/\s.length<M)/\(QF (ZY f (q.1+q.2.1.length+1) q.1 (Vu es (QG n (XY d q.2.2)) q.1 q.2.1) c)).length<=L)->
   fg.length=op.length->Yi nm d g f es (ml.map XD) a=some R->
   ∃JZ,R=JZ.map XD/\ZK nm false (D+3) fg JZ/\fS M JZ/\JZ.length<=ml.length*(8*(L+3))/\∀c,c<2^n->d (bits c)=true->bY (bits c) (ZX eY JZ k op)=ci f es c (Kq nm (ml.map XD) a k op)
 | [],a,k,op,fg,R,hw,_,_,_,_,hr=>by
  have hR:R=[]:=by simpa [Yi] using hr.symm
  subst hR;cases fg with
  | nil=>exact⟨[],rfl,trivial,(λm hm=>by cases hm),by simp,λc _ _=>rfl⟩
  | cons b fg=>exact hw.elim
 | m::l,a,k,op,fg,R,hw,Zq,hb,hq,X7,hr=>by
  have ew:fS M l:=λx hx=>hb x (by simp[hx])
  have nH:(XD m).length<M:=hb m (by simp);have ih:=λa k op fg R (h1:ZK nm false D fg l) h2 h4 h5 h6=>bQG (M:=M) (L:=L) (D:=D) hI hV jI Fg wN hL d g f es l a k op fg R h1 h2 ew h4 h5 h6
  rw[Kw] at hr hq ⊢;have qg:(m::l).length*(8*(L+3))=l.length*(8*(L+3))+8*(L+3):=by rw[Q2,lr,xg]
  have lift:∀{k':BF} {Xs:List (BF×BF)} {fg':List Bool} {R':List (List Nat)} {T:List (Nat×List Nat×BF)},R=XD m::R'->(∃JZ,R'=JZ.map XD/\ZK nm false (D+3) fg' JZ/\fS M JZ/\JZ.length<=l.length*(8*(L+3))/\∀c,c<2^n->d (bits c)=true->bY (bits c) (ZX eY JZ k' Xs)=ci f es c T)->
    (∀JZ,ZK nm false (D+3) fg' JZ->ZK nm false (D+3) fg (m::JZ))->(∀JZ,ZX eY (m::JZ) k op=ZX eY JZ k' Xs)->
    ∃JZ,R=JZ.map XD/\ZK nm false (D+3) fg JZ/\fS M JZ/\JZ.length<=(m::l).length*(8*(L+3))/\∀c,c<2^n->d (bits c)=true->bY (bits c) (ZX eY JZ k op)=ci f es c T:=by
   rintro k' Xs fg' R' T hR ⟨JZ,h1,h2,h3,h4,h5⟩ VC eD;refine⟨m::JZ,by rw[hR,h1];rfl,VC JZ h2,λx hx=>?_,by rw[qg,Q2];omega,λc hc wZ=>by rw[eD,h5 c hc wZ]⟩;rcases QY.1 hx with rfl | hx
   ·exact nH
   ·exact h3 x hx
  cases m with
  | inc=>exact Xc hw lQ2
  | tx s=>
   obtain⟨w1,w2⟩:TxOk s/\ZK nm false D fg l:=by
    cases fg with
    | nil=>exact hw
    | cons b fg=>cases b<;>exact hw
   have Xt:XS s= .txt:=w1.dr;have et:Kq nm (XD (.tx s)::l.map XD) a k op=(a,s,k)::Kq nm (l.map XD) (a+s.length+1) k op:=by
    show Kq nm (s::l.map XD) a k op=_;rw[Kq.eq_def];simp only;rw[Xt]
   rw[et] at hq ⊢;obtain⟨q1,q2,q3⟩:=hq (a,s,k) (by simp);simp only at q1 q2 q3;obtain⟨R1,R',h1,h2,hR⟩:=bQF Xt hr;obtain⟨JZ,i1,i2,i3,i4,i5⟩:=ih (a+s.length+1) k op fg R' w2 Zq (λq eB=>hq q (by simp[eB])) X7 h2;rw[q1,jI] at h1;obtain⟨t,t1,t2,t3,t4,t5,t6⟩:=lQ4 hI jI Fg hL (k:=k) ⟨w1,nH⟩ q2 q3 h1;refine⟨VO nm t++JZ,by rw[WR,oT,<-t1,<-i1,hR],vm hV t fg JZ t2 (yC (λs h=>h.1) t4) (by omega) i2,λx hx=>?_,?_,λc hc wZ=>?_⟩
   ·rcases XP.1 hx with hx | hx
    ·exact wN t2 t4 x hx
    ·exact i3 x hx
   ·have:(VO nm t).length=(fl nm t).length:=by rw[<-oT t,JL]
    rw[qg,Qq,this];omega
   ·rw[vn,i5 c hc wZ];show _=(if k (bits c)=true then _ else _)++ci f es c _;congr 1;by_cases hk:k (bits c)=true
    ·rw[Qf hk,Qf hk,t6 c hc wZ hk]
    ·rw[if_neg hk,if_neg hk]
  | ifd F o=>
   have Xt:XS (XD (.ifd F o))= .ifd F:=UR F;obtain⟨w1,w2,w3⟩:FOk nm F o/\fg.length<D/\ZK nm false D (false::fg) l:=by
    cases fg with
    | nil=>exact hw
    | cons b fg=>cases b<;>exact hw
   obtain⟨R',h2,hR⟩:=yK (by rw[Xt];intro e;cases e) hr;have et:Kq nm (XD (.ifd F o)::l.map XD) a k op=Kq nm (l.map XD) (a+(XD (.ifd F o)).length+1) (XY k o) ((k,J2 k o)::op):=by
    rw[Kq.eq_def];simp only;rw[Xt];simp only;rw[w1.st]
   rw[et] at hq ⊢;exact lift hR (ih _ _ _ (false::fg) R' w3 (by simp;omega) hq (by simp[X7]) h2) (λJZ hm=>C5 w1 (by omega) hm) (λJZ=>rfl)
  | elif F o=>
   have Xt:XS (XD (.elif F o))= .elif F:=US F;cases fg with
   | nil=>exact hw.elim
   | cons b fg=>
    cases b with
    | true=>exact hw.elim
    | false=>
     cases op with
     | nil=>simp at X7
     | cons y op=>
      obtain⟨w1,w3⟩:FOk nm F o/\ZK nm false D (false::fg) l:=hw;obtain⟨R',h2,hR⟩:=yK (by rw[Xt];intro e;cases e) hr;have et:Kq nm (XD (.elif F o)::l.map XD) a k (y::op)=Kq nm (l.map XD) (a+(XD (.elif F o)).length+1) (XY y.2 o) ((y.1,J2 y.2 o)::op):=by
       rw[Kq.eq_def];simp only;rw[Xt];simp only;rw[w1.st]
      rw[et] at hq ⊢;exact lift hR (ih _ _ _ (false::fg) R' w3 Zq hq X7 h2) (λJZ hm=>⟨w1,hm⟩) (λJZ=>rfl)
  | els=>
   have Xt:XS (XD .els)= .els:=TW;cases fg with
   | nil=>exact hw.elim
   | cons b fg=>
    cases b with
    | true=>exact hw.elim
    | false=>
     cases op with
     | nil=>simp at X7
     | cons y op=>
      have w3:ZK nm false D (true::fg) l:=hw;obtain⟨R',h2,hR⟩:=yK (by rw[Xt];intro e;cases e) hr;have et:Kq nm (XD .els::l.map XD) a k (y::op)=Kq nm (l.map XD) (a+(XD .els).length+1) y.2 (y::op):=by
       rw[Kq.eq_def];simp only;rw[Xt]
      rw[et] at hq ⊢;exact lift hR (ih _ _ _ (true::fg) R' w3 Zq hq X7 h2) (λJZ hm=>hm) (λJZ=>rfl)
  | en=>
   have Xt:XS (XD .en)= .en:=TX;cases fg with
   | nil=>exact hw.elim
   | cons b fg=>
    cases op with
    | nil=>simp at X7
    | cons y op=>
     have w3:ZK nm false D fg l:=by cases b<;>exact hw
     obtain⟨R',h2,hR⟩:=yK (by rw[Xt];intro e;cases e) hr;have et:Kq nm (XD .en::l.map XD) a k (y::op)=Kq nm (l.map XD) (a+(XD .en).length+1) y.1 op:=by
      rw[Kq.eq_def];simp only;rw[Xt]
     rw[et] at hq ⊢;exact lift hR (ih _ _ _ fg R' w3 (by simp at Zq;omega) hq (by simpa using X7) h2) (λJZ hm=>C6 hm) (λJZ=>rfl)
end
section
variable {nm:List (List Nat)}
theorem Dv (f:List Nat){x y z:Nat}(h1:x<=y)(h2:y<=z):XE f x y++XE f y z=XE f x z:=by
 unfold XE;rw[show z-x=(y-x)+(z-y) by omega,List.take_add,nM,show x+(y-x)=y by omega]
end
section
theorem lQ5 {k0:Nat}{x:Lx}{op:List Bool}(h:x.k % 8≠7):Yy k0 true x op=Yy k0 false x op:=by
 unfold Yy;simp[h]
theorem bQH {k0:Nat}:∀{l:List Lx}{op:List Bool},(∀x∈l,x.k % 8≠7)->Wa k0 true l op=Wa k0 false l op
 | [],op,_=>rfl
 | x::l,op,h=>by
  rw[Wa,Wa,lQ5 (h x (by simp)),bQH (λy hy=>h y (by simp[hy]))]
theorem lQ6 (x:Lx):(YT x).k % 8≠7:=by
 unfold YT;split
 ·simp
 ·assumption
theorem lQ7 (x:Lx):(YT x).i=x.i:=by
 unfold YT;split<;>rfl
def o0 (ls:List Lx):List Mn:=Wa 3 false ((ls.map YT).take 12) []
theorem lQ8 (ls:List Lx):Io 3 (ls.map YT)=o0 ls:=bQH (λx hx=>by
 obtain⟨y,_,rfl⟩:=Zk.1 (Wn hx);exact lQ6 y)
theorem vG (ls:List Lx):ZU ls=Qp ((o0 ls).map XD):=by unfold ZU;rw[lQ8]
theorem bQI {ls:List Lx}(h:∀x∈ls,x.i<=255):∀x∈(ls.map YT).take 12,x.i<=255:=λx hx=>by
 obtain⟨y,hy,rfl⟩:=Zk.1 (Wn hx);rw[lQ7];exact h y hy
theorem Dw {ls:List Lx}(h:∀x∈ls,x.i<=255):ZK YS false 3 [] (o0 ls):=aQa (by decide) false _ [] (bQI h) (by simp)
theorem Dx {ls:List Lx}(h:∀x∈ls,x.i<=255):fS 34 (o0 ls):=aQf (by decide) false _ [] (bQI h)
theorem Lj (ls:List Lx):(o0 ls).length<=15:=by
 have h1:=aQe 3 false ((ls.map YT).take 12) [] (by simp);have h2:((ls.map YT).take 12).length<=12:=List.length_take_le _ _;unfold o0;omega
theorem Lk {ls:List Lx}(h:∀x∈ls,x.i<=255):(ZU ls).length<=510:=by
 rw[vG];have h1:=C8 (Dx h);have h2:=WN 34 (Lj ls);omega
theorem Ll (ls:List Lx):cP (ZU ls):=HF _
theorem lQ9 {ls:List Lx}(h:∀x∈ls,x.i<=255):∃g,Vh YS (fF (ZU ls)) [102]= .ok g:=by
 rw[vG];obtain⟨g,h1,_⟩:=aQg (nm:=YS) (M:=34) (D:=3) Lh (by decide) (Dw h) (Dx h) (by have:=WN 34 (Lj ls);omega) (f:=[102]) (by decide);exact⟨g,h1⟩
def YC (k:Nat):List Nat:=match k with
 | 0=>[]
 | 1=>[119]
 | 2=>[32]
 | 3=>[118,10,117]
 | _=>[43,32,120]
def cX (ls:List (List Nat))(e:Ep):Nat:=e.l % ls.length
def o6 (ls:List (List Nat))(e:Ep):Nat:=((ls[cX ls e]?).getD []).length+1
def cj (ls:List (List Nat))(e:Ep):Nat:=(Qp (ls.take (cX ls e))).length
def Wz (ls:List (List Nat))(e:Ep):Nat:=e.f % o6 ls e
def dS (ls:List (List Nat))(e:Ep):Nat:=Wz ls e+e.t % (o6 ls e-Wz ls e)
def o7 (ls:List (List Nat))(e:Ep):Ed:=⟨((cj ls e+Wz ls e:Nat):Int),((cj ls e+dS ls e:Nat):Int),YC (e.x % 5),bq e.s⟩
def jk (l:List Ed)(x:Ed):List Ed:=l.takeWhile (λy=>decide (y.fr<=x.fr))++x::l.dropWhile (λy=>decide (y.fr<=x.fr))
def dU (ls:List (List Nat))(es:List Ep):List Ed:=if ls=[] then [] else(es.take 5).foldl (λl e=>jk l (o7 ls e)) []
theorem mQa (l:List Ed)(x:Ed):(jk l x).length=l.length+1:=by
 have:=QC List.length (PW (p:=λy:Ed=>decide (y.fr<=x.fr)) (l:=l));rw[Qq] at this;simp only[jk,Qq,Q2];omega
theorem mQb {l:List Ed}{x y:Ed}(h:y∈jk l x):y∈l∨y=x:=by
 rcases XP.1 h with h | h
 ·exact .inl ((xa _).subset h)
 ·rcases QY.1 h with h | h
  ·exact .inr h
  ·exact .inl ((List.dropWhile_sublist _).subset h)
theorem bQJ {ls:List (List Nat)}:∀{es:List Ep}{l:List Ed}{y:Ed},y∈es.foldl (λl e=>jk l (o7 ls e)) l->y∈l∨∃e∈es,y=o7 ls e
 | [],l,y,h=>.inl h
 | e::es,l,y,h=>by
  rcases bQJ (es:=es) h with h | ⟨e',h1,h2⟩
  ·rcases mQb h with h | h
   ·exact .inl h
   ·exact .inr ⟨e,by simp,h⟩
  ·exact .inr ⟨e',by simp[h1],h2⟩
theorem mQc {ls:List (List Nat)}{es:List Ep}{y:Ed}(h:y∈dU ls es):ls≠ []/\∃e∈es,y=o7 ls e:=by
 unfold dU at h;split at h
 ·cases h
 ·rename_i hn;rcases bQJ h with h | ⟨e,h1,h2⟩
  ·cases h
  ·exact⟨hn,e,Wn h1,h2⟩
theorem bQK (ls:List (List Nat))(es:List Ep):(dU ls es).length<=5:=by
 unfold dU;split
 ·simp
 ·have key:∀(es:List Ep) (l:List Ed),(es.foldl (λl e=>jk l (o7 ls e)) l).length=l.length+es.length:=by
   intro es;induction es with
   | nil=>intro l;rfl
   | cons e es ih=>intro l;rw[eE,ih,mQa,Q2];omega
  rw[key];have:=List.length_take_le 5 es;simp only[Jp];omega
theorem bQL {ls:List (List Nat)}(hn:ls≠ [])(e:Ep):∃s,ls[cX ls e]? =some s/\o6 ls e=s.length+1/\Wz ls e<=s.length/\Wz ls e<=dS ls e/\dS ls e<=s.length:=by
 have aL:0<ls.length:=tY.2 hn;have hk:cX ls e<ls.length:=bP _ aL;obtain⟨s,hs⟩:∃s,ls[cX ls e]? =some s:=⟨_,Xu hk⟩
 have hz:o6 ls e=s.length+1:=by unfold o6;rw[hs]<;>rfl
 have hf:Wz ls e<o6 ls e:=bP _ (by omega);have ht:e.t % (o6 ls e-Wz ls e)<o6 ls e-Wz ls e:=bP _ (by omega);exact⟨s,hs,hz,by omega,by unfold dS;omega,by unfold dS;omega⟩
theorem Lm (ls:List (List Nat))(k:Nat):(Qp (ls.take k)).length<=(Qp ls).length:=by
 have e:Qp ls=Qp (ls.take k)++Qp (ls.drop k):=by
  unfold Qp;rw[<-Yd,aQ]
 rw[e,Qq];omega
theorem Lp {f:List Nat}{c a z:Nat}:∀(es:List Ed)(st:List Nat×Nat)(F k:Nat),(∀e∈es,(F:Int)<=e.fr/\e.fr<=e.to_/\e.to_<=z/\e.tx.length<=3)->es.Pairwise (λe b=>e.fr<=b.fr)->F<=st.2->F<=z->st.1.length+a<=F+k->
  ∃F',F'<=(es.foldl (ZO f c) st).2/\F'<=z/\(es.foldl (ZO f c) st).1.length+a<=F'+(k+3*es.length)
 | [],st,F,k,_,_,h1,h2,h3=>⟨F,h1,h2,h3⟩
 | e::es,st,F,k,h,hp,h1,h2,h3=>by
  rw[PX] at hp;obtain⟨q1,q2,q3,q4⟩:=h e (by simp);rw[eE,Q2];by_cases ho:e.o (bits c)=true
  ·have hc:(XE f st.2 e.fr.toNat).length<=e.fr.toNat-st.2:=by unfold XE;rw[Kx];omega
   obtain⟨F',r1,r2,r3⟩:=Lp (f:=f) (c:=c) (a:=a) (z:=z) es (ZO f c st e) e.fr.toNat (k+3) (λb hb=>by
    obtain⟨w1,w2,w3,w4⟩:=h b (by simp[hb]);have:=hp.1 b hb;exact⟨by omega,w2,w3,w4⟩) hp.2 (by unfold ZO;rw[Qf ho];show e.fr.toNat<=e.to_.toNat;omega) (by omega) (by
    unfold ZO;rw[Qf ho];simp only[Qq];omega)
   exact⟨F',r1,r2,by omega⟩
  ·have e1:ZO f c st e=st:=by unfold ZO;rw[if_neg ho]
   rw[e1];obtain⟨F',r1,r2,r3⟩:=Lp (f:=f) (c:=c) (a:=a) (z:=z) es st F k (λb hb=>h b (by simp[hb])) hp.2 h1 h2 h3;exact⟨F',r1,r2,by omega⟩
theorem mQd {f:List Nat}{a x y z:Nat}(h:a<=x)(h2:y<=z):∀b∈XE f x y,b∈XE f a z:=λb hb=>by
 by_cases Xr:x<=y
 ·rw[<-Dv f h (show x<=z by omega),<-Dv f Xr h2];simp[hb]
 ·unfold XE at hb;rw[show y-x=0 by omega] at hb;simp at hb
theorem bQM {f:List Nat}{c a z:Nat}(hs:10∉XE f a z):∀(es:List Ed)(st:List Nat×Nat),(∀e∈es,(a:Int)<=e.fr/\e.fr<=e.to_/\e.to_<=z/\e.tx.count 10<=1)->a<=st.2->
  (es.foldl (ZO f c) st).1.count 10<=st.1.count 10+es.length/\a<=(es.foldl (ZO f c) st).2
 | [],st,_,h=>⟨QB _,h⟩
 | e::es,st,h,h1=>by
  obtain⟨q1,q2,q3,q4⟩:=h e (by simp);rw[eE,Q2];have ih:=bQM (f:=f) (c:=c) hs es (ZO f c st e) (λb hb=>h b (by simp[hb]));by_cases ho:e.o (bits c)=true
  ·have e1:ZO f c st e=(st.1++XE f st.2 e.fr.toNat++e.tx,e.to_.toNat):=by unfold ZO;rw[Qf ho]
   rw[e1] at ih ⊢;obtain⟨i1,i2⟩:=ih (by show a<=e.to_.toNat;omega);have h0:(XE f st.2 e.fr.toNat).count 10=0:=PJ.2 (λhm=>hs (mQd h1 (by omega) 10 hm));simp only[qK] at i1;exact⟨by omega,i2⟩
  ·have e1:ZO f c st e=st:=by unfold ZO;rw[if_neg ho]
   rw[e1] at ih ⊢;obtain⟨i1,i2⟩:=ih h1;exact⟨by omega,i2⟩
theorem bQN:∀l:List Nat,(QF l).length<=l.count 10+1
 | []=>by simp[QF]
 | b::l=>by
  have ih:=bQN l;rw[QF];by_cases h:b=10
  ·rw[Qf h,Q2,h,List.count_cons_self];omega
  ·rw[if_neg h,PL h];split
   ·simp
   ·rename_i s ls e;rw[e] at ih;simpa using ih
structure EsOk (a z:Nat) (es:List Ed):Prop where
 all:∀e∈es,(a:Int)<=e.fr/\e.fr<=e.to_/\e.to_<=z/\e.tx.length<=3/\e.tx.count 10<=1/\∀b∈e.tx,b<256
 srt:es.Pairwise (λe b=>e.fr<=b.fr)
theorem mQe {f:List Nat}(jH:∀b∈f,b<256)(Zq:f.length<=60000){a:Nat}{s:List Nat}(qx:XE f a (a+s.length+1)=s++ [10])(XO:10∉s){es:List Ed}(h:EsOk a (a+s.length) es)(hl:es.length<=5)(hs:s.length<=33)(c:Nat):
  (K5 (ZY f (a+s.length+1) a es c)=true->∀u∈QF (ZY f (a+s.length+1) a es c),TxOk u/\u.length<50)/\(QF (ZY f (a+s.length+1) a es c)).length<=7:=by
 have QZ:(ZY f (a+s.length+1) a es c).length<=49:=by
  obtain⟨F,r1,r2,r3⟩:=Lp (f:=f) (c:=c) (a:=a) (z:=a+s.length) es ([],a) a 0 (λe he=>by obtain⟨q1,q2,q3,q4,_⟩:=h.all e he;exact⟨q1,q2,by omega,q4⟩) h.srt (QB _) (by omega) (by simp);unfold ZY;have hc:(XE f (es.foldl (ZO f c) ([],a)).2 (a+s.length+1)).length<=a+s.length+1-(es.foldl (ZO f c) ([],a)).2:=by unfold XE;rw[Kx];omega
  rw[Qq];omega
 have hb:∀b∈ZY f (a+s.length+1) a es c,b<256:=(bQj jH Zq (λe he=>by obtain⟨_,_,_,q4,_,q6⟩:=h.all e he;exact⟨q6,by omega⟩) (by omega) c).1
 have XN:XE f a (a+s.length)=s:=by
  have e1:=Dv f (show a<=a+s.length by omega) (show a+s.length<=a+s.length+1 by omega);rw[qx] at e1;have l1:(XE f a (a+s.length)).length<=s.length:=by unfold XE;rw[Kx];omega
  have l2:(XE f (a+s.length) (a+s.length+1)).length<=1:=by unfold XE;rw[Kx];omega
  have l3:=QC List.length e1;simp only[Qq,nU] at l3;exact(List.append_inj e1 (by omega)).1
 have qQK:(ZY f (a+s.length+1) a es c).count 10<=6:=by
  obtain⟨r1,r2⟩:=bQM (f:=f) (c:=c) (a:=a) (z:=a+s.length) (by rw[XN];exact XO) es ([],a) (λe he=>by obtain⟨q1,q2,q3,_,q5,_⟩:=h.all e he;exact⟨q1,q2,by omega,q5⟩) (QB _);unfold ZY;rw[qK];have hc:(XE f (es.foldl (ZO f c) ([],a)).2 (a+s.length+1)).count 10<=1:=by
   by_cases ZF:(es.foldl (ZO f c) ([],a)).2<=a+s.length+1
   ·have e1:=Dv f r2 ZF;rw[qx] at e1;have e2:=QC (List.count 10) e1;rw[qK,qK,PJ.2 XO] at e2;simp at e2;omega
   ·unfold XE;rw[show a+s.length+1-(es.foldl (ZO f c) ([],a)).2=0 by omega];simp
  simp only[List.count_nil] at r1;omega
 have h7:=bQN (ZY f (a+s.length+1) a es c);refine⟨λhp u hu=>?_,by omega⟩;have Xt:=(bQD hp).2 u hu;refine⟨⟨iX _ u hu,Xt,λb hb'=>hb b (Dq _ u hu b hb')⟩,?_⟩;have:=(yH _).2 u hu;omega
theorem mQf {l:List Ed}(h:l.Pairwise (λe b=>e.fr<=b.fr))(x:Ed):(jk l x).Pairwise (λe b=>e.fr<=b.fr):=by
 have h1:=PW (p:=λy:Ed=>decide (y.fr<=x.fr)) (l:=l);have h2:∀y∈l.takeWhile (λy=>decide (y.fr<=x.fr)),y.fr<=x.fr:=λy hy=>by
  have:=Ka.1 (List.all_takeWhile (p:=λy:Ed=>decide (y.fr<=x.fr)) (l:=l)) y hy;simpa using this
 have h3:∀y∈l.dropWhile (λy=>decide (y.fr<=x.fr)),x.fr<=y.fr:=by
  have hd:=List.head?_dropWhile_not (λy:Ed=>decide (y.fr<=x.fr)) l;have hs:(l.dropWhile (λy=>decide (y.fr<=x.fr))).Pairwise (λe b=>e.fr<=b.fr):=h.sublist (List.dropWhile_sublist _);generalize l.dropWhile (λy=>decide (y.fr<=x.fr))=m at hd hs;cases m with
  | nil=>intro y hy;cases hy
  | cons z m=>
   simp at hd;rw[PX] at hs;intro y hy;rcases QY.1 hy with rfl | hy
   ·omega
   ·have:=hs.1 y hy;omega
 unfold jk;rw[<-h1] at h;rw[List.pairwise_append] at h;rw[List.pairwise_append,PX];refine⟨h.1,⟨h3,h.2.1⟩,λy hy z hz=>?_⟩;rcases QY.1 hz with rfl | hz
 ·exact h2 y hy
 ·exact h.2.2 y hy z hz
theorem mQg (ls:List (List Nat))(es:List Ep):(dU ls es).Pairwise (λe b=>e.fr<=b.fr):=by
 unfold dU;split
 ·exact List.Pairwise.nil
 ·have key:∀(es:List Ep) (l:List Ed),l.Pairwise (λe b=>e.fr<=b.fr)->(es.foldl (λl e=>jk l (o7 ls e)) l).Pairwise (λe b=>e.fr<=b.fr):=by
   intro es;induction es with
   | nil=>intro l h;exact h
   | cons e es ih=>intro l h;rw[eE];exact ih _ (mQf h _)
  exact key _ _ List.Pairwise.nil
theorem mQh (k:Nat):(YC k).length<=3/\(YC k).count 10<=1/\∀b∈YC k,b<256:=by
 unfold YC;split<;>exact⟨by decide,by decide,by decide⟩
theorem bQO {ls:List (List Nat)}{es:List Ep}{y:Ed}(h:y∈dU ls es):0<=y.fr/\y.fr<=y.to_/\y.to_<=(Qp ls).length/\y.tx.length<=3/\y.tx.count 10<=1/\(∀b∈y.tx,b<256)/\∃s b,y.o=bq s/\y.tx=YC b:=by
 obtain⟨hn,e,_,rfl⟩:=mQc h;obtain⟨s,hs,hz,h1,h2,h3⟩:=bQL hn e;obtain⟨q1,q2,q3⟩:=mQh (e.x % 5);have h4:=vE hs;have h5:=Lm ls (cX ls e+1);refine⟨by show(0:Int)<=((cj ls e+Wz ls e:Nat):Int);omega,by show((cj ls e+Wz ls e:Nat):Int)<=((cj ls e+dS ls e:Nat):Int);omega,?_,q1,q2,q3,_,_,rfl,rfl⟩;show((cj ls e+dS ls e:Nat):Int)<=_;unfold cj;omega
theorem bQP {ls:List (List Nat)}{es:List Ep}{S:List Nat}{a:Nat}{s:List Nat}:EsOk a (a+s.length) (Vu (dU ls es) S a s)/\(Vu (dU ls es) S a s).length<=5:=by
 refine⟨⟨λe he=>?_,(mQg ls es).sublist (List.filter_sublist)⟩,X3 (lu _ _) (bQK ls es)⟩;obtain⟨h1,h2⟩:=Jy.1 he;rw[Z9] at h2;have h3:=Y2 h2.1;obtain⟨_,q2,_,q4,q5,q6,_⟩:=bQO h1;exact⟨h3.1,q2,by have:=h3.2;omega,q4,q5,q6⟩
theorem bQQ {nm:List (List Nat)}:∀(ls:List (List Nat))(a:Nat)(k:BF)(op:List (BF×BF))(q:Nat×List Nat×BF),q∈Kq nm ls a k op->(q.1,q.2.1)∈Zj a ls/\XS q.2.1= .txt
 | [],a,k,op,q,h=>by rw[Kq] at h;cases h
 | s::ls,a,k,op,q,h=>by
  have up:∀{k' Xs},q∈Kq nm ls (a+s.length+1) k' Xs->(q.1,q.2.1)∈Zj a (s::ls)/\XS q.2.1= .txt:=λh=>by
   obtain⟨a1,a2⟩:=bQQ ls (a+s.length+1) _ _ q h;exact⟨by rw[Zj];exact j5 _ a1,a2⟩
  rw[Kq.eq_def] at h;simp only at h;cases hd:XS s with
  | txt=>
   rw[hd] at h;rcases QY.1 h with rfl | h
   ·exact⟨by rw[Zj];exact Gf,hd⟩
   ·exact up h
  | ifd r=>
   rw[hd] at h;simp only at h;split at h
   ·exact up h
   ·cases h
  | elif r=>
   rw[hd] at h;simp only at h;split at h
   ·cases h
   ·split at h
    ·exact up h
    ·cases h
  | els=>
   rw[hd] at h;simp only at h;split at h
   ·cases h
   ·exact up h
  | en=>
   rw[hd] at h;simp only at h;split at h
   ·cases h
   ·exact up h
  | inc r=>
   rw[hd] at h;cases h
theorem Lq {nm:List (List Nat)}{d:BF}{g:Gs}{f:List Nat}{es:List Ed}:∀(ls:List (List Nat))(a:Nat)(R:List (List Nat)),Yi nm d g f es ls a=some R->∀q∈Zj a ls,XS q.2= .txt->aA nm f es (QG nm.length (XY d (ij g q.1))) q.1 q.2≠none
 | [],a,R,_,q,h,_=>by cases h
 | s::ls,a,R,hr,q,h,hd=>by
  rw[Zj] at h;by_cases hs:XS s= .txt
  ·obtain⟨R1,R',h1,h2,_⟩:=bQF hs hr;rcases QY.1 h with rfl | h
   ·rw[h1];simp
   ·exact Lq ls _ R' h2 q h hd
  ·obtain⟨R',h2,_⟩:=yK hs hr;rcases QY.1 h with rfl | h
   ·exact Xc hd hs
   ·exact Lq ls _ R' h2 q h hd
theorem bQR {S:List Nat}:∀{es:List Ed},cW S es=true->es.Pairwise (λe b=>ii S e b=true)
 | [],_=>List.Pairwise.nil
 | e::es,h=>by
  rw[cW,Z9,Ka] at h;exact PX.2 ⟨h.1,bQR h.2⟩
theorem mQi {nm:List (List Nat)}{f:List Nat}{es:List Ed}{S:List Nat}{a c:Nat}{s:List Nat}(h:aA nm f es S a s≠none)(hc:c∈S):(es.filter (λe=>KQ a s e&&e.o (bits c))).Pairwise (λe b=>e.to_<=b.fr):=by
 have iD:es.filter (λe=>KQ a s e&&e.o (bits c))=(Vu es S a s).filter (λe=>e.o (bits c)):=by
  unfold Vu;rw[List.filter_filter];refine List.filter_congr (λe _=>?_);cases ho:e.o (bits c)with
  | false=>simp
  | true=>
   have:YR S e.o=true:=nV.2 ⟨c,hc,ho⟩;rw[this];simp
 rw[iD];have Wg:cW S (Vu es S a s)=true:=by
  unfold aA at h;split at h
  ·rename_i h0;rw[h0]<;>rfl
  ·split at h
   ·exact Xc rfl h
   ·rename_i h1;simpa using h1
 have hp:=(bQR Wg).sublist (List.filter_sublist (p:=λe=>e.o (bits c)));refine List.Pairwise.imp_of_mem ?_ hp;intro e b he hb Vz;have h1:=(Jy.1 he).2;have h2:=(Jy.1 hb).2;have hm:YR S (λv=>e.o v&&b.o v)=true:=nV.2 ⟨c,hc,by show(e.o (bits c)&&b.o (bits c))=true;rw[h1,h2];rfl⟩;unfold ii at Vz;rw[hm,Gj] at Vz;simp only[Bool.not_eq_true',decide_eq_false_iff_not] at Vz;omega
theorem mQj {D:DV}{fam:Nat}(hf:fam<=255)(sD:Set1 3 D.nd D.r (bq fam)){ls:List Lx}(hi:∀x∈ls,x.i<=255){es:List Ep}{L:List EdV}(hL:L.map EdV.ed=dU (QF (ZU ls)) es)(gD:∀e∈L,Set1 3 e.x.nd e.x.r e.ed.o){g:Gs}(hr:Vh YS (fF (ZU ls)) [102]= .ok g):
  mC YS D (ZU ls) L= .error 291∨∃R g',mC YS D (ZU ls) L= .ok (Qp R)/\(∀b∈Qp R,b<256)/\(Qp R).length<=60000/\Vh YS [([102],Qp R)] [102]= .ok g'/\
   (∀c∈oU fam,vj g'.tx g'.sg (λi=>c.testBit i)=ci (ZU ls) (L.map EdV.ed) c (W7 g))/\
   ∀q∈W7 g,∀c∈oU fam,q.2.2 (bits c)=true->((L.map EdV.ed).filter (λe=>KQ q.1 q.2.1 e&&e.o (bits c))).Pairwise (λe b=>e.to_<=b.fr):=by
 obtain⟨_,x1,x2,x3⟩:=yG hr;have VC:=Dw hi;have hLn:=aQc (rU VC);have FZ:QF (ZU ls)=(o0 ls).map XD:=by rw[vG];exact HE hLn
 have wy:∀b∈ZU ls,b<256:=by rw[vG];exact C7 (rU VC)
 have O9:=Lk hi;have tS:=Ll ls;have Bh:=Yg tS;have h3:YS.length=3:=rfl;unfold mC;have ov1:Kp YS.length D.nd D.r=true:=(kC (n:=3) (by decide) sD).1;rw[if_neg (by rw[Lh,ov1];simp),Qf (show(L.all λe=>Kp YS.length e.x.nd e.x.r)=true from Ka.2 (λe he=>(kC (n:=3) (by decide) (gD e he)).1))];unfold Dk;rw[hr];simp only;by_cases h1:kG YS.length (ZU ls) 0 (L.map EdV.ed)=false
 ·rw[Qf h1];exact .inl rfl
 rw[if_neg h1];cases Wg:Yi YS (oD D) g (ZU ls) (L.map EdV.ed) (QF (ZU ls)) 0 with
 | none=>exact .inl rfl
 | some R=>
  simp only;refine .inr ?_;have dQD:∀q∈W7 g,ij g q.1=q.2.2/\(q.1,q.2.1)∈Zj 0 (QF (ZU ls))/\XS q.2.1= .txt:=λq hq=>by
   obtain⟨i,x,hs,_⟩:=aQR x3 x2 (show(q.1,q.2.1,q.2.2)∈W7 g from hq);rw[x1] at hq;obtain⟨a1,a2⟩:=bQQ _ _ _ _ q hq;exact⟨hs.cnd,a1,a2⟩
  have cQ9:=Wg;rw[FZ] at cQ9;obtain⟨ml,m1,m2,m3,m4,m5⟩:=bQG (nm:=YS) (n:=3) (jQ2 (by decide)) (jQ0 (by decide)) rfl (by decide) (M:=50) (L:=7) (D:=3) (yB (by decide) (by decide)) (by decide) (oD D) g (ZU ls) (L.map EdV.ed) (o0 ls) 0 (λ_=>true) [] [] R VC (by decide) (λm hm=>by have:=Dx hi m hm;omega) (λq hq=>by
   rw[<-FZ,<-x1] at hq;obtain⟨c1,c2,c3⟩:=dQD q hq;have qx:=lQj (iX (ZU ls)) c2;rw[Bh] at qx;refine⟨c1,qx,λc=>?_⟩;have Wf:q.2.1∈QF (ZU ls):=by
    have key:∀(ls:List (List Nat)) (p:Nat),(q.1,q.2.1)∈Zj p ls->q.2.1∈ls:=by
     intro ls;induction ls with
     | nil=>intro p h;cases h
     | cons s ls ih=>
      intro p h;rw[Zj] at h;rcases QY.1 h with h | h
      ·cases h;simp
      ·exact j5 _ (ih _ h)
    exact key _ _ c2
   have jO:q.2.1.length<=33:=by
    rw[FZ] at Wf;obtain⟨m,hm,e⟩:=Zk.1 Wf;have:=Dx hi m hm;rw[e] at this;omega
   rw[hL];exact mQe wy (by omega) qx (iX _ _ Wf) bQP.1 bQP.2 jO c) rfl cQ9
  have wK:ml.length*50<=60000:=by
   have q1:=Lj ls;have q2:=WN (8*(7+3)) q1;omega
  obtain⟨g',r1,r2⟩:=aQg (nm:=YS) (M:=50) (D:=6) Lh (by decide) m2 m3 wK (f:=[102]) (by decide);have hRl:=C8 m3;rw[<-m1] at r1 hRl;refine⟨R,g',?_,by rw[m1];exact C7 (rU m2),by omega,r1,λc hc=>?_,λq hq c hc hk=>?_⟩
  ·rw[if_neg (by omega)];have r3:Vh YS (fF (Qp R)) [102]= .ok g':=r1;rw[r3]
  ·have wZ:(oD D) (bits c)=true:=by
    rw[kJ sD,Dt hf (Dc hc)];exact(Jy.1 hc).2
   have h5:=m5 c (by have:=Dc hc;show c<2^3;omega) wZ;rw[UY];show bY (bits c) (Wx g')=_;rw[r2,h5,x1,FZ]
  ·obtain⟨c1,c2,c3⟩:=dQD q hq;refine mQi (Lq _ _ _ Wg (q.1,q.2.1) c2 c3) (JC.2 ⟨by have:=Dc hc;show c<2^3;omega,?_⟩);show(oD D (bits c)&&ij g q.1 (bits c))=true;rw[c1,hk,Gj,kJ sD,Dt hf (Dc hc)];exact(Jy.1 hc).2
theorem mQk {α:Type}{R:α->α->Prop}{p:α->Bool}{l:List α}(h:(l.filter p).Pairwise R){i:Nat}{e:α}(hi:l[i]? =some e)(he:p e=true):∀b∈(l.take i).filter p,R b e:=λb hb=>by
 have Xa:=(Jd.1 hi).1;have hl:l=l.take i++e::l.drop (i+1):=by
  conv=>lhs;rw[<-aQ i l]
  rw[am Xa];congr 2;exact Option.some.inj ((Xu Xa).symm.trans hi)
 rw[hl,qO,List.filter_cons_of_pos he,List.pairwise_append] at h;exact h.2.2 b hb e (by simp)
theorem bQS {α:Type}{p:α->Bool}{l:List α}{i:Nat}{e:α}(hi:l[i]? =some e):(l.take (i+1)).filter p=(l.take i).filter p++(if p e=true then [e] else []):=by
 rw[jj hi,qO,fD,Gl]
theorem mQl (f:List Nat)(a:Nat)(s:List Nat)(EA:Option Addr)(en ec:Nat)(es:List EdV)(c:Nat)(hc:c<=18446744073709551615)(Zq:f.length<=60000)(has:a+s.length+1<=f.length)(wX:es.length<=10)
  (hes:∀e∈es,XC e.x.nd e.x.r=0/\e.tx.length<=1000/\0<=e.fr/\e.fr<=e.to_/\ -9223372036854775808<=e.fr/\e.fr<=9223372036854775807/\ -9223372036854775808<=e.to_/\e.to_<=9223372036854775807)
  (FO:((es.map EdV.ed).filter (λe=>KQ a s e&&e.o (bits c))).Pairwise (λe b=>e.to_<=b.fr)) (w:World) (hE:SlS X6 5 w EA en ec es) (tK:∀e∈es,SB w e.x.A e.x.n e.x.c e.x.nd):
  Fn Tryz.prog 20 [.string (Qd f),.int .i64 a,.int .i64 ((a+s.length:Nat):Int),.slice EA en ec,.int .u64 c] w (λu w'=>u= .string (Qd (ZY f (a+s.length+1) a ((es.map EdV.ed).filter (KQ a s)) c))/\Ext w w'):=by
 have QZ:=hE.2;have cC:=Q8 f;refine QJ (c:={c20 with cuts:=[]}) Qa Tryz.func20 rfl rfl rfl ?_;refine loop Qa [13,11,12] (λt:Nat×List Nat×Nat=>[.int .i64 t.1,.string (Qd t.2.1),.int .i64 t.2.2]) (λt w'=>Ext w w'/\t.1<=en/\(((es.map EdV.ed).take t.1).filter (KQ a s)).foldl (ZO f c) ([],a)=(t.2.1,t.2.2)/\t.2.1.length<=t.1*70000/\a<=t.2.2/\t.2.2<=a+s.length) (λt _=>en-t.1) (0,[],a) rfl ⟨Ext.refl _,Xo _,rfl,Xo _,QB _,Nat.le_add_right _ _⟩ ?_;rintro⟨i,out,at_⟩ w1 ⟨Qe,hi,bH,tN,ha1,ha2⟩;simp only at hi bH tN ha1 ha2;refine Qw (λc1=>?_) (λc1=>?_)
 ·have bN:i<en:=by first | omega | (simp only at c1;omega)
  refine Zt ji (hE.ext Qe) rfl bN (λad e he Xq=>?_);have eD:=Xl he;obtain⟨q1,q2,q3,q4,q5,q6,q7,q8⟩:=hes e eD;have tP:(es.map EdV.ed)[i]? =some e.ed:=by rw[aR,he]<;>rfl
  refine Jz (vs:=X6 e) rfl Xq ?_;refine new (λw2 Qg Ze Qy=>?_);refine Qv Qy rfl (sc rfl) (λw3 Jc _ Qu=>?_);have XF:=XT Qg Qy Jc;have Qi:=Qe.trans XF;have skip:KQ a s e.ed=false∨e.ed.o (bits c)=false->(((es.map EdV.ed).take (i+1)).filter (KQ a s)).foldl (ZO f c) ([],a)=(out,at_):=λhh=>by
   rw[bQS tP,Bv,bH];rcases hh with hh | hh
   ·rw[hh]<;>rfl
   ·split
    ·rw[eE,List.foldl_nil];unfold ZO;rw[if_neg (by rw[hh];decide)]
    ·rfl
  have no:∀w4,Ext w3 w4->(KQ a s e.ed=false∨e.ed.o (bits c)=false)->Ext w w4/\i+1<=en/\(((es.map EdV.ed).take (i+1)).filter (KQ a s)).foldl (ZO f c) ([],a)=(out,at_)/\out.length<=(i+1)*70000/\a<=at_/\at_<=a+s.length:=λw4 k hh=>⟨Qi.trans k,bN,skip hh,X3 tN (WN _ (xf _)),ha1,ha2⟩
  refine load ((Qu.cell 0).trans rfl) ?_;refine Qw (λc2=>?_) (λc2=>?_)
  ·refine load ((Qu.cell 1).trans rfl) ?_;refine Qw (λc3=>?_) (λc3=>?_)
   ·have c2:(a:Int)<=e.fr:=c2;have c3:e.to_<=((a+s.length:Nat):Int):=c3;refine eM (vs:=[.slice e.x.A e.x.n e.x.c,.int .i64 e.x.r]) (j:=3) Qu rfl (λk v hk=>by
     match k,hk with
     | 0,hk=>exact hk
     | 1,hk=>exact hk
     | k+2,hk=>simp at hk) ?_
    refine call (jQu e.x.A e.x.n e.x.c e.x.nd e.x.r c hc w3 ((tK e eD).ext Qi) q1) ?_;rintro _ w4 ⟨rfl,Qs⟩;have bI:ev e.x.nd e.x.r (Yh c)=e.ed.o (bits c):=by rw[Du]<;>rfl
    rw[bI];have Q4:KQ a s e.ed=true:=Zx ⟨c2,by show e.to_<=_;omega⟩;have QR:=Qu.ext Qs;refine YK (λc4=>?_) (λc4=>?_)
    ·have ZF:(at_:Int)<=e.fr:=by
      have h1:=IQ f c (((es.map EdV.ed).take i).filter (KQ a s)) ([],a);rw[bH] at h1;rcases h1 with h1 | ⟨b,hb,hbo,h1⟩
      ·simp only at h1;omega
      ·simp only at h1;obtain⟨vV,hb2⟩:=Jy.1 hb;have:=mQk FO tP (by rw[Q4,c4];rfl) b (Jy.2 ⟨vV,by rw[hb2,hbo];rfl⟩);have d9:b∈es.map EdV.ed:=Wn vV;obtain⟨b',hb',rfl⟩:=Zk.1 d9;obtain⟨_,_,r3,r4,_⟩:=hes b' hb';have this:b'.to_<=e.fr:=this;have h1:at_=b'.to_.toNat:=h1;omega
     have Og:=Ext.drew w4;have cA:(XE f at_ e.fr.toNat).length<=60000:=X3 (mD f _ _) Zq;refine XR Qa (Ext w4) 10 [(true,0),(true,1),(true,2),(true,3),(true,4),(true,5),(true,6),(true,7),(true,8),(true,9)] (by kernel_rfl) Og ?_;refine QN (v:=.int .i64 e.fr) (λw' Qb=>((QR.ext Qb).cell 0).trans rfl) ?_;refine Xy (v':=.string (Qd (XE f at_ e.fr.toNat))) ⟨by omega,by omega,by rw[cC];omega⟩ (by rw[KN,fA];rfl) ?_;refine Xy (v':=.string (Qd (out++XE f at_ e.fr.toNat))) (by have h1:=Q8 out;have h2:=Q8 (XE f at_ e.fr.toNat);show(Qd out).size+(Qd (XE f at_ e.fr.toNat)).size<=maxLen;unfold maxLen;omega) (QC Value.string (ZM _ _)) ?_;refine QN (v:=.string (Qd e.tx)) (λw' Qb=>((QR.ext Qb).cell 2).trans rfl) ?_;refine Xy (v':=.string (Qd (out++XE f at_ e.fr.toNat++e.tx))) (by have h1:=Q8 (out++XE f at_ e.fr.toNat);have h2:=Q8 e.tx;rw[Qq] at h1;show(Qd (out++XE f at_ e.fr.toNat)).size+(Qd e.tx).size<=maxLen;unfold maxLen;omega) (QC Value.string (ZM _ _)) ?_;have tF:((e.to_.toNat:Nat):Int)=e.to_:=Bo (by omega);refine load (v:=.int .i64 ((e.to_.toNat:Nat):Int)) (((QR.ext Og).cell 1).trans (by rw[tF];rfl)) ?_;refine Qj ((i+1:Nat):Int) (by show((i:Nat):Int)+1=_;omega) (by omega) ?_;refine⟨(i+1,out++XE f at_ e.fr.toNat++e.tx,e.to_.toNat),rfl,⟨Qi.trans (Qs.trans Og),bN,?_,?_,?_,?_⟩,by show en-(i+1)<en-i;omega⟩
     ·simp only;rw[bQS tP,Bv,bH,Qf Q4,eE,List.foldl_nil];unfold ZO;rw[Qf c4]<;>rfl
     ·simp only[Qq];omega
     ·simp only;omega
     ·simp only;omega
    ·refine Qj ((i+1:Nat):Int) (by show((i:Nat):Int)+1=_;omega) (by omega) ?_;exact⟨(i+1,out,at_),rfl,no w4 Qs (.inr c4),by show en-(i+1)<en-i;omega⟩
   ·refine Qj ((i+1:Nat):Int) (by show((i:Nat):Int)+1=_;omega) (by omega) ?_;exact⟨(i+1,out,at_),rfl,no w3 (Ext.refl _) (.inl (Zr (λhh=>c3 (by have:=hh.2;have:e.to_<=(a:Int)+(s.length:Int):=this;show e.to_<=((a+s.length:Nat):Int);omega)))),by show en-(i+1)<en-i;omega⟩
  ·refine Qj ((i+1:Nat):Int) (by show((i:Nat):Int)+1=_;omega) (by omega) ?_;exact⟨(i+1,out,at_),rfl,no w3 (Ext.refl _) (.inl (Zr (λhh=>c2 (show(a:Int)<=e.fr from hh.1)))),by show en-(i+1)<en-i;omega⟩
 have wJ:en=i:=by
  have c1:¬((i:Nat):Int)<((en:Nat):Int):=c1;omega
 subst wJ;have hall:((es.map EdV.ed).take en).filter (KQ a s)=(es.map EdV.ed).filter (KQ a s):=by rw[ZS (by rw[JL];omega)]
 rw[hall] at bH;have cA:(XE f at_ (a+s.length+1)).length<=60000:=X3 (mD f _ _) Zq;refine Qj ((a+s.length+1:Nat):Int) (by omega) (by omega) ?_;refine Xy (v':=.string (Qd (XE f at_ (a+s.length+1)))) ⟨by show(0:Int)<=((at_:Nat):Int);omega,by show((at_:Nat):Int)<=_;omega,by rw[cC];omega⟩ (by rw[KN,fA];rfl) ?_;refine Xy (v':=.string (Qd (out++XE f at_ (a+s.length+1)))) (by have h1:=Q8 out;have h2:=Q8 (XE f at_ (a+s.length+1));show(Qd out).size+(Qd (XE f at_ (a+s.length+1))).size<=maxLen;unfold maxLen;omega) (QC Value.string (ZM _ _)) ?_;exact⟨by unfold ZY;rw[bH],Qe⟩
end
section
theorem bQT {P:Program}{md:Region.Mode}{ops:Array Oper}{Q:Exit->Act->World->Prop}{C C':World->Prop}{n:Nat}{L:Array Bool->Act->World->Prop}(hs:∀v,C' v->C v):∀(f:Nat)(listed:Array Bool)(a:Act)(w:World),Yr P md ops Q C' n L f listed a w->Yr P md ops Q C n L f listed a w
 | 0,_,_,_,h=>h
 | f+1,listed,a,w,h=>⟨h.1,λi hi=>⟨(h.2 i hi).1,wpOp_mono (λa' w' h'=>⟨hs _ h'.1,bQT hs f _ a' w' h'.2⟩) (h.2 i hi).2⟩⟩
def mG (c:Cx)(all:List Oper):(World->Prop)->PT->Env->World->(Env->World->Prop)->Prop
 | _,.done,S,w,K=>K S w
 | _,.skip,_,_,_=>True
 | C,.quiet k t,S,w,K=>match Vg all k with
  | some o=>gS all o S (λS=>ro c o S C (λS=>mG c all C t S w K)) (λS=>Xf c S o.dst (.v undef) (λS=>mG c all C t S w K))
  | none=>False
 | C,.fork k t o,S,w,K=>(match Vg all k with
  | some op=>gS all op S (λS=>eH c op S w (λS w=>∃C':World->Prop,(∀v,C' v->C v)/\C' w/\mG c all C' t S w K) (λ_ _ _=>False)) (λS=>Xf c S op.dst (.v undef) (λS=>mG c all C t S w K))
  | none=>False)/\mG c all C o S w K
section
variable {c:Cx} {S:Env} {a:Act}
theorem yL (hg:c.g.Ok){md:Region.Mode}{ops:List Oper}{Q:Exit->Act->World->Prop}{n:Nat}(hs:Region.noSelect ops.toArray=true)(hk:ki md ops.toArray n){K:Env->World->Prop}:
  ∀(C:World->Prop) (t:PT) (m:Nat) (listed:Array Bool) (S:Env) (a:Act) (w:World),HeadInv md ops.toArray n listed->mG c ops C t S w K->Fits c.N S a->C w->
  (Kf md ops.toArray n t false m listed=true->Yr c.g.P md ops.toArray (NoPan Q) C n (λJw a' w'=>Region.seqB md ops.toArray (ops.toArray.size-n) n Jw=true/\∃S',Fits c.N S' a'/\K S' w') m listed a w)/\
  (∀m',m=m'+1->Kf md ops.toArray n t true m listed=true->(∀i∈t.alts,i∈Region.ready md ops.toArray listed)->∀i∈t.alts,i<n/\wpOp c.g.P ops.toArray (NoPan Q) i (λa' w'=>C w'/\Yr c.g.P md ops.toArray (NoPan Q) C n (λJw a' w'=>Region.seqB md ops.toArray (ops.toArray.size-n) n Jw=true/\∃S',Fits c.N S' a'/\K S' w') m' (listed.setIfInBounds i true) a' w') a w)
 | C,.done,m,listed,S,a,w,inv,h,hf,hC=>by
  refine⟨λhB=>?_,λm' hm hB=>?_⟩
  ·simp only[Kf,Bool.not_false,dB,Z9] at hB;have:=VW hB.1;subst this;exact⟨hB.2,S,hf,h⟩
  ·simp[Kf] at hB
 | C,.skip,m,listed,S,a,w,inv,h,hf,hC=>by
  refine⟨λhB=>?_,λm' hm hB _ i hi=>?_⟩
  ·simp[Kf] at hB
  ·simp[PT.alts] at hi
 | C,.quiet k t,0,listed,S,a,w,inv,h,hf,hC=>by
  refine⟨λhB=>?_,λm' hm hB=>?_⟩
  ·simp[Kf] at hB
  ·simp[Kf] at hB
 | C,.quiet k t,m+1,listed,S,a,w,inv,h,hf,hC=>by
  refine⟨λhB=>?_,λm' hm hB=>?_⟩
  ·simp only[Kf,Bool.not_false,dB,Z9] at hB;obtain⟨⟨⟨Xk,hr⟩,iw⟩,Vb⟩:=hB;have Xk:k<n:=by rw[iM] at Xk;exact Xk
   have Q5:k∈Region.ready md ops.toArray listed:=by simpa using hr
   obtain⟨_,o,ho,_⟩:=mem_ready.1 Q5;have hn:Vg ops k=some o:=by rw[gP];simpa using ho
   simp only[mG,hn] at h;have key:∃v,YieldsIf c.g.P ops.toArray C o v a/\∃S',Fits c.N S' (a.put o.dst v)/\mG c ops C t S' w K:=by
    rcases kj h hf with⟨hw,S1,Zp,h1⟩ | ⟨hw,S1,Zp,h1⟩
    ·obtain⟨v,h2,h3⟩:=xB hg h1 Zp;exact⟨v,.inl ⟨hw,h2⟩,h3⟩
    ·exact⟨undef,.inr ⟨hw,rfl⟩,ZH (e:=.v undef) h1 Zp⟩
   obtain⟨v,hy,S',Q1,h'⟩:=key;exact GJ ho (Region.noSelect_spec hs) hk Xk (λJw a' w' hL=>seqB_ready hL.1) m listed a w inv (Region.free_spec ho iw) Q5 hy hC
    ((yL hg hs hk C t m _ S' _ w (inv.set Q5 Xk) h' Q1 hC).1 Vb)
  ·simp[Kf] at hB
 | C,.fork k t o,0,listed,S,a,w,inv,h,hf,hC=>by
  refine⟨λhB=>?_,λm' hm hB=>?_⟩
  ·simp[Kf] at hB
  ·simp[Kf] at hB
 | C,.fork k t o,m+1,listed,S,a,w,inv,h,hf,hC=>by
  have key:(Nat.blt k n&&Kf md ops.toArray n t false m (listed.setIfInBounds k true))=true->Kf md ops.toArray n o true (m+1) listed=true->(∀i∈(PT.fork k t o).alts,i∈Region.ready md ops.toArray listed)->
    ∀i∈(PT.fork k t o).alts,i<n/\wpOp c.g.P ops.toArray (NoPan Q) i (λa' w'=>C w'/\Yr c.g.P md ops.toArray (NoPan Q) C n (λJw a' w'=>Region.seqB md ops.toArray (ops.toArray.size-n) n Jw=true/\∃S',Fits c.N S' a'/\K S' w') m (listed.setIfInBounds i true) a' w') a w:=by
   intro hB eC hall i hi;simp only[Z9] at hB;obtain⟨Xk,Vb⟩:=hB;have Xk:k<n:=by rw[iM] at Xk;exact Xk
   simp only[PT.alts,QY] at hi;have Q5:k∈Region.ready md ops.toArray listed:=hall k (by simp[PT.alts]);obtain⟨h1,h2⟩:=h;rcases hi with rfl | hi
   ·refine⟨Xk,?_⟩;obtain⟨_,op,ho,_⟩:=mem_ready.1 Q5;have hn:Vg ops i=some op:=by rw[gP];simpa using ho
    simp only[hn] at h1;have fq:=inv.set Q5 Xk;unfold wpOp;simp only[ho];rcases kj h1 hf with⟨hw,S1,Zp,h3⟩ | ⟨hw,S1,Zp,h3⟩
    ·rw[Qf hw];refine .inl ?_;have h4:=qZ hg h3 Zp;have h5:=Oper.wp_mono (K':=λa' w'=>C w'/\Yr c.g.P md ops.toArray (NoPan Q) C n (λJw a' w'=>Region.seqB md ops.toArray (ops.toArray.size-n) n Jw=true/\∃S',Fits c.N S' a'/\K S' w') m (listed.setIfInBounds i true) a' w')
      (λa' w' ⟨S',Q1,C',iD,ZZ,YX⟩=>⟨iD _ ZZ,bQT iD _ _ _ _ ((yL hg hs hk C' t m _ S' a' w' fq YX Q1 ZZ).1 Vb)⟩) h4
     unfold Oper.wp at h5 ⊢;generalize (execOp a.eval op).run c.g.P w=r at*;cases r with
     | ok nx w'=>
      cases nx<;>simp only[Oper.upon] at h5 ⊢ <;> try exact h5
      exact h5.mono λe Vq he=>by
       cases e with
       | returned v=>exact he
       | panicked ch=>obtain⟨_,_,he⟩:=he;exact he.elim
       | outgrown=>obtain⟨_,_,_,_,he⟩:=he;exact he.elim
     | halt x w'=>cases x<;>simp only[Oper.upon] at h5 ⊢ <;> first | exact h5 | (obtain⟨_,_,h5⟩:=h5;exact h5.elim)
    ·rw[if_neg (by rw[hw];decide)];obtain⟨S',Q1,h'⟩:=ZH (e:=.v undef) h3 Zp;exact⟨hC,(yL hg hs hk C t m _ S' _ w fq h' Q1 hC).1 Vb⟩
   ·exact(yL hg hs hk C o (m+1) listed S a w inv h2 hf hC).2 m rfl eC (λj hj=>hall j (by simp[PT.alts,hj])) i hi
  refine⟨λhB=>?_,λm' hm hB hall=>?_⟩
  ·simp only[Kf,Bool.false_or,Z9,VX] at hB;obtain⟨⟨hr,Qh⟩,Qy⟩:=hB;have WA:Region.ready md ops.toArray listed=(PT.fork k t o).alts:=hr;refine⟨λh0=>(by rw[hr] at h0;cases h0),λi hi=>?_⟩;exact key (by simpa using Qh) Qy (λj hj=>by rw[WA];exact hj) i (by rw[WA] at hi;exact hi)
  ·simp only[Kf,Bool.true_or,dB] at hB;rw[Z9] at hB;have ZW:m'=m:=by omega
   subst ZW;exact key hB.1 hB.2 hall
theorem bQU (hg:c.g.Ok){id:Nat}{ops:List Oper}{w:World}{Q:Zs}(C:World->Prop)(n:Nat)(t:PT)
  (hB:(Region.noSelect ops.toArray&&rm .any ops.toArray n&&Kf .any ops.toArray n t false n (Array.replicate ops.toArray.size false))=true) (hC:C w.drew)
  (h:mG {c with named:=1000000} ops C t S w.drew (λS w=>YJ c ops (ops.drop n) S w (λS w=>Q .normal S w) (λ_ _ _=>False))):WV c id ops S w Q:=by
 unfold WV;intro a hf;simp only[Z9] at hB;obtain⟨⟨hs,bJ⟩,JF⟩:=hB;have hk:=xA bJ;have Fo:n<=ops.length:=by
  rcases hk with hk | hk
  ·rw[hk];simp
  ·have:=hk.1;simp at this;omega
 refine Code.wp_mono NoPan.imp (wp_region_any hg.mixed ?_);have mJ:HeadInv .any ops.toArray n (Array.replicate ops.toArray.size false):=
  ⟨by simp,λj oj _ hl=>(by rw[getD_replicate_false] at hl;cases hl),λt _ ht=>getD_in (by simpa using ht) (getD_replicate_false _ _)⟩
 have H:=(yL (c:={c with named:=1000000}) hg (Q:=Up c Q) hs hk C t n _ S a _ mJ h hf hC).1 JF;have Yb:(ops.drop n).length=ops.toArray.size-n:=by simp
 have H2:=uq (Q:=NoPan (Up c Q)) (g:=ops.toArray.size-n) (λJw a' w' hL=>by
  obtain⟨hq,S',Q1,YX⟩:=hL;have h2:=j8 (c:=c) hg ops _ _ _ _ YX Q1;have:=wpAny_of_seq (P:=c.g.P) (md:=.any) (ops:=ops.toArray) (Q':=NoPan (Up c Q)) (ops.drop n) n Jw a' w' (λj=>by simp) (by rw[Yb];exact hq) (lG (λe a w hq=>by
   cases e with
   | normal=>exact hq
   | _=>exact Xc hq (by rintro⟨_,_,h⟩;exact h)) h2)
  rwa [Yb] at this) _ _ _ _ H
 rw[show n+(ops.toArray.size-n)=ops.toArray.size by simp;omega] at H2;exact H2
end
end
section
abbrev aB:List (List Nat):=[YC 0,YC 1,YC 2,YC 3,YC 4]
theorem mH {k:Nat}(h:k<5):(XH aB)[k]? =some (.string (Qd (YC k))):=by
 match k,h with
 | 0,_=>rfl
 | 1,_=>rfl
 | 2,_=>rfl
 | 3,_=>rfl
 | 4,_=>rfl
theorem bQV {α:Type}{p:α->Bool}:∀{l:List α}{y:α},l[(l.takeWhile p).length]? =some y->p y=false
 | [],y,h=>by simp at h
 | a::l,y,h=>by
  rw[an] at h;cases ha:p a with
  | true=>
   rw[ha,Qf rfl,Q2,dQI] at h;exact bQV h
  | false=>
   rw[ha] at h;simp at h;rw[<-h,ha]
theorem bQW {α:Type}{p:α->Bool}:∀{l:List α}{k:Nat}{y:α},k<(l.takeWhile p).length->l[k]? =some y->p y=true
 | [],k,y,h,_=>by simp at h
 | a::l,k,y,h,hy=>by
  rw[an] at h;cases ha:p a with
  | true=>
   rw[ha,Qf rfl,Q2] at h;cases k with
   | zero=>simp at hy;rw[<-hy,ha]
   | succ k=>exact bQW (l:=l) (k:=k) (by omega) (by simpa using hy)
  | false=>rw[ha] at h;simp at h
theorem mQm {α:Type}(p:α->Bool)(l:List α):l.take (l.takeWhile p).length=l.takeWhile p/\l.drop (l.takeWhile p).length=l.dropWhile p:=by
 constructor
 ·have:=List.take_left (l₁:=l.takeWhile p) (l₂:=l.dropWhile p)
  rwa [PW] at this
 ·have:=nT (l₁:=l.takeWhile p) (l₂:=l.dropWhile p)
  rwa [PW] at this
theorem mQn (x:ChV)(w:World)(h:ChIn w x)(hn:x.ln<=1048576):
  Fn Tryz.prog 13 [.agg x.cells.toArray] w (λu w'=>∃A c L,u= .slice A (List.length L) c/\Ext w w'/\Own w' w.heap.size 58 5 A L.length c (L.flatMap X6)/\(∀v∈L,DgO w' (Qk A) 3 v.x v.ed.o)/\L.map EdV.ed=dU (QF (ZU x.ls)) x.es):=by
 have pR:∀y∈x.ls,y.i<=255:=λy hy=>(h.lo y hy).i8
 have wy:∀b∈ZU x.ls,b<256:=by rw[vG];exact C7 (rU (Dw pR))
 have O9:=Lk pR;have tS:=Ll x.ls;have wX:=h.es.2;refine QJ (c:={c13 with cuts:=[17,20]}) Qa Tryz.func13 rfl rfl rfl ?_;refine new (λw1 Qe Q6 Qh=>?_);refine Qt Qh rfl ?_;refine call (bQC x w1 (h.ext Qe) hn) ?_;rintro _ w2 ⟨rfl,Qg⟩;have hfn:=aQw (ZU x.ls) w2 wy (by omega);rw[u9 tS,JL] at hfn;refine call hfn ?_;rintro _ w3 ⟨LA,lc,rfl,Qi,Ff⟩;have cy:(QF (ZU x.ls)).length<=510:=by have:=rI (QF (ZU x.ls));rw[Yg tS] at this;omega
 have Bh:Qp (QF (ZU x.ls))=ZU x.ls:=Yg tS;have vN:Sl w3 1 LA (QF (ZU x.ls)).length lc (JY (QF (ZU x.ls))):=Ff.sl;generalize QF (ZU x.ls)=ls at*;have tM:∀(k:Nat) (z:List Nat),ls[k]? =some z->(Qp (ls.take k)).length+z.length+1<=510:=λk z hz=>by
  have h1:=vE hz;have h2:=Lm ls (k+1);rw[Bh] at h2;omega
 have XF:=Qg.trans Qi;refine Xg Qa [] rfl rfl rfl rfl rfl ⟨⟩ rfl (λcs h=>by cases h) rfl (by decide) (by decide) ?_;intro w4 Qs KR QR;have JW:=XF.trans Qs;refine loop Qa [6,5] (λt:Nat×List EdV×Option Addr×Nat=>[.int .i64 t.1,.slice t.2.2.1 t.2.1.length t.2.2.2]) (λt w'=>Ext w4 w'/\t.1<=5/\t.1<=x.en/\Own w' w.heap.size 58 5 t.2.2.1 t.2.1.length t.2.2.2 (t.2.1.flatMap X6)/\(∀v∈t.2.1,DgO w' (Qk t.2.2.1) 3 v.x v.ed.o)/\t.2.1.map EdV.ed=(x.es.take t.1).foldl (λl e=>jk l (o7 ls e)) []/\t.2.1.length=t.1/\(t.1≠0->ls≠ [])) (λt _=>5-t.1) (0,[],some ⟨w3.heap.size,0,none⟩,0) rfl ⟨Ext.refl _,Xo _,Xo _,Own.empty QR (by have:=Qe.size;have:=XF.size;omega),(λv hv=>by cases hv),rfl,rfl,λhh=>Xc rfl hh⟩ ?_;rintro⟨i,L,A,c⟩ w5 ⟨Qx,hi5,Q4,kO,td,pz,wM,QX⟩;simp only at hi5 Q4 kO td pz wM QX;have JJ:=JW.trans Qx;have QD:=Qh.ext JJ;have fin:¬(i<x.en/\i<5/\0<ls.length)->L.map EdV.ed=dU ls x.es:=λhh=>by
  unfold dU;by_cases mL:ls=[]
  ·rw[Qf mL,pz];have:i=0:=by
    apply Classical.byContradiction;intro h0;exact QX h0 mL
   subst this;rfl
  ·rw[if_neg mL,pz];have aL:=tY.2 mL;congr 1;by_cases h5:i=5
   ·rw[h5]
   ·rw[ZS (by omega),ZS (by omega)]
 refine load ((QD.cell 2).trans rfl) ?_;refine Qw (λc1=>?_) (λc1=>?_)
 ·refine Qw (λc2=>?_) (λc2=>?_)
  ·refine Qw (λc3=>?_) (λc3=>?_)
   ·have pQj:i<x.en:=by simp only at c1;omega
    have hi:i<5:=by simp only at c2;omega
    have aL:0<ls.length:=by omega
    have KL:ls≠ []:=tY.1 aL;refine load ((QD.cell 2).trans rfl) ?_;refine Zt lQY (h.es.ext (Qe.trans JJ)) rfl pQj (λad e he hc=>?_);have he8:=h.e8 e (Xl he);obtain⟨q1,q2,q3,q4,q5⟩:=he8;refine Jz (vs:=e.cells) rfl hc ?_;refine new (λw6 QQ bu Q7=>?_);refine Qv Q7 rfl (sc rfl) (λw7 Zv _ Q3=>?_);have Js:Ext w5 w7:=XT QQ Q7 Zv;have V8:=(vN.ext (Qs.trans Qx)).ext Js;refine load ((Q3.cell 0).trans rfl) ?_;refine Qj ((e.l:Nat):Int) rfl (by omega) ?_;refine Rs (d:=ls.length) aL ?_;obtain⟨s,hs,hz,iw,iI,hto⟩:=bQL KL e;have Z8:cX ls e<ls.length:=bP _ aL;have iF:cX ls e=e.l % ls.length:=rfl;have Wf:=tM _ s hs;refine loop Qa [10,9] (λt:Nat×Nat=>[.int .i64 t.1,.int .i64 t.2]) (λt w'=>w7=w'/\t.1<=cX ls e/\t.2=(Qp (ls.take t.1)).length) (λt _=>cX ls e-t.1) (0,0) rfl ⟨rfl,Xo _,rfl⟩ ?_;rintro⟨k,st⟩ _ ⟨rfl,hk,bH⟩;simp only at hk bH;refine Qw (λd1=>?_) (λd1=>?_)
    ·have Xk:k<cX ls e:=by simp only at d1;omega
     obtain⟨z,PB⟩:∃z,ls[k]? =some z:=⟨_,Xu (by omega)⟩
     have tE:=vE PB;have hzm:=tM k z PB;refine KF V8 (j:=k) (by omega) (λad u hA hu Xq=>?_);rw[bZ PB] at hu;cases hu;refine load Xq ?_;have VE:(Qd (z++ [10])).size=z.length+1:=by rw[Q8];simp
     refine Qj ((st+(z.length+1):Nat):Int) (by show((st:Nat):Int)+(((Qd (z++ [10])).size:Nat):Int)=_;omega) (by omega) ?_;refine Qj ((k+1:Nat):Int) (by show((k:Nat):Int)+1=_;omega) (by omega) ?_;exact⟨(k+1,st+(z.length+1)),rfl,⟨rfl,Xk,by show st+(z.length+1)=(Qp (ls.take (k+1))).length;omega⟩,by show cX ls e-(k+1)<cX ls e-k;omega⟩
    have iv:k=cX ls e:=by simp only at d1;omega
    subst iv;have Fl:cj ls e=st:=by rw[bH]<;>rfl
    have wz:=Ext.drew w7;have dQE:∀(k:Nat) (z:List Nat),ls[k]? =some z->∀ad,LA=some ad->w7.cell? (ad.add k)=some (.string (Qd (z++ [10]))):=λk z hz ad hA=>by
     obtain⟨ad',e',ZZ⟩:=V8.at_ aL;cases hA.symm.trans e';exact ZZ k _ (bZ hz)
    have jR:(Qd (s++ [10])).size=s.length+1:=by rw[Q8];simp
    refine XR Qa (Ext w7) 10 [(true,0),(true,1),(true,2),(true,3),(true,4),(true,5),(true,6),(true,7),(true,8),(true,9)] (by kernel_rfl) wz ?_;refine QN (v:=.int .u8 e.f) (λw' Qb=>((Q3.ext Qb).cell 1).trans rfl) ?_;refine Qj ((e.f:Nat):Int) rfl (by omega) ?_;refine KF (V8.ext wz) (j:=cX ls e) Z8 (λad u hA hu Xq=>?_);rw[bZ hs] at hu;cases hu;refine QN (v:=.string (Qd (s++ [10]))) (λw' Qb=>Qb.cell (show w7.cell? _=_ from dQE _ _ hs ad hA)) ?_;refine normIf (m:=((Wz ls e:Nat):Int)) (by rw[jR];omega) (by rw[jR,eK,<-hz];rfl) ?_;have Wh:Ext w7 w7.drew.drew:=wz.trans (Ext.drew _);refine XR Qa (Ext w7) 14 [(true,0),(true,1),(true,2),(true,3),(true,4),(true,5),(true,6),(true,7),(true,8),(true,9),(true,10),(true,11),(true,12),(true,13)] (by kernel_rfl) Wh ?_;refine QN (v:=.int .u8 e.t) (λw' Qb=>((Q3.ext Qb).cell 2).trans rfl) ?_;refine Qj ((e.t:Nat):Int) rfl (by omega) ?_;refine KF (V8.ext Wh) (j:=cX ls e) Z8 (λwl u zV hu E6=>?_);rw[bZ hs] at hu;cases hu;refine QN (v:=.string (Qd (s++ [10]))) (λw' Qb=>Qb.cell (show w7.cell? _=_ from dQE _ _ hs wl zV)) ?_;refine Qj ((s.length+1-Wz ls e:Nat):Int) (by rw[jR];omega) (by omega) ?_;refine normIf (m:=((e.t % (s.length+1-Wz ls e):Nat):Int)) (by omega) (eK _ _) ?_;have pQk:dS ls e=Wz ls e+e.t % (s.length+1-Wz ls e):=by unfold dS;rw[hz]
    refine Qj ((dS ls e:Nat):Int) (by rw[pQk];omega) (by omega) ?_;refine Iz [13] (λt:Nat×DV=>[.pointer (some ⟨t.1,0,none⟩)]) (λt w'=>Ext w7 w'/\Blk w' t.1 58 (X6 ⟨(cj ls e+Wz ls e:Nat),(cj ls e+dS ls e:Nat),YC (e.x % 5),t.2⟩)/\SB w' t.2.A t.2.n t.2.c t.2.nd/\Set1 3 t.2.nd t.2.r (cT [e.s] 3 0 0)/\w7.heap.size<=t.1/\∀i,Qk t.2.A i->w7.heap.size<=i) ?_ ?_
    ·have f0:Ext w7 w7.drew.drew.drew:=Wh.trans (Ext.drew _);refine bQU Qa (Ext w7) 19 (.quiet 0 (.quiet 1 (.quiet 2 (.quiet 3 (.quiet 4 (.quiet 5 (.quiet 7 (.quiet 8 (.quiet 9 (.quiet 12 (.quiet 13 (.fork 6 (.quiet 10 (.quiet 11 (.fork 14 (.fork 15 (.quiet 16 (.fork 17 (.fork 18 .done .skip) .skip)) (.fork 17 (.fork 15 (.quiet 16 (.fork 18 .done .skip)) .skip) .skip)) (.fork 17 (.fork 14 (.fork 15 (.quiet 16 (.fork 18 .done .skip)) .skip) .skip) .skip)))) (.fork 14 (.fork 6 (.quiet 10 (.quiet 11 (.fork 15 (.quiet 16 (.fork 17 (.fork 18 .done .skip) .skip)) (.fork 17 (.fork 15 (.quiet 16 (.fork 18 .done .skip)) .skip) .skip)))) (.fork 15 (.fork 6 (.quiet 10 (.quiet 11 (.quiet 16 (.fork 17 (.fork 18 .done .skip) .skip)))) (.fork 17 (.fork 6 (.quiet 10 (.quiet 11 (.quiet 16 (.fork 18 .done .skip)))) .skip) .skip)) (.fork 17 (.fork 6 (.quiet 10 (.quiet 11 (.fork 15 (.quiet 16 (.fork 18 .done .skip)) .skip))) (.fork 15 (.fork 6 (.quiet 10 (.quiet 11 (.quiet 16 (.fork 18 .done .skip)))) .skip) .skip)) .skip))) (.fork 17 (.fork 6 (.quiet 10 (.quiet 11 (.fork 14 (.fork 15 (.quiet 16 (.fork 18 .done .skip)) .skip) .skip))) (.fork 14 (.fork 6 (.quiet 10 (.quiet 11 (.fork 15 (.quiet 16 (.fork 18 .done .skip)) .skip))) (.fork 15 (.fork 6 (.quiet 10 (.quiet 11 (.quiet 16 (.fork 18 .done .skip)))) .skip) .skip)) .skip)) .skip)))))))))))))) (by kernel_rfl) f0 ?_;refine Qj ((cj ls e+Wz ls e:Nat):Int) (by rw[Fl];show((st:Nat):Int)+((Wz ls e:Nat):Int)=_;omega) (by omega) ?_;refine Qj ((cj ls e+dS ls e:Nat):Int) (by rw[Fl];show((st:Nat):Int)+((dS ls e:Nat):Int)=_;omega) (by omega) ?_;refine QN (v:=.int .u8 e.x) (λw' Qb=>((Q3.ext Qb).cell 3).trans rfl) ?_;refine normIf (m:=((e.x % 5:Nat):Int)) (by decide) (eK _ 5) ?_;refine QN (v:=.int .u8 e.s) (λw' Qb=>((Q3.ext Qb).cell 4).trans rfl) ?_;generalize w7.drew.drew.drew=v0 at*;refine⟨?_,?_,?_,trivial⟩
     ·refine Xg Qa (aB.map (λt=>[Value.string (Qd t)])) rfl rfl rfl rfl rfl ⟨rfl,rfl,rfl,rfl,rfl,rfl,rfl,rfl,rfl,rfl,⟨⟩⟩ rfl (λcs h=>by obtain⟨t,_,rfl⟩:=Zk.1 h;rfl) rfl (by decide) (by decide) ?_;intro v1 g1 qy hN;have f1:=f0.trans g1;generalize qz:v0.heap.size=gN at*;refine⟨λv=>Ext w7 v/\Blk v gN 9 (XH aB),λv hv=>hv.1,⟨f1,hN⟩,?_⟩;refine ik (j:=e.x % 5) (by omega) ?_;refine QN (v:=.string (Qd (YC (e.x % 5)))) (λw' Qb=>by show w'.cell? ((⟨gN,0,none⟩:Addr).add (e.x % 5*1))=_;rw[Wm,Qb.2.cell];exact mH (by omega)) ?_;refine⟨?_,?_,trivial⟩
      ·refine Xg Qa [[Value.int .u8 e.s]] rfl rfl rfl rfl rfl ⟨rfl,rfl,⟨⟩⟩ rfl (λcs h=>by simp only[QO] at h;subst h;rfl) rfl (by decide) (by decide) ?_;intro v2 g2 qi hS;have f2:=f1.trans g2;refine⟨_,λv hv=>hv,⟨f2,hN.ext g2⟩,?_⟩;refine⟨?_,?_,trivial⟩
       ·refine call (ia [e.s] _ 1 1 3 v2 (Sl.own' (n:=1) (hS.ext (Ext.refl _)) rfl (by decide)) (λy hy=>by rw[QO.1 hy];exact q5) (by decide)) ?_;rintro _ v3 ⟨dA,dn,dc,dnd,dr,rfl,g3,KD,sTd,Kv⟩;have f3:=f2.trans g3;have Wl:=SB.lt KD;have sR:=f2.size;refine⟨_,λv hv=>hv,⟨f3,hN.ext (g2.trans g3)⟩,?_⟩;refine⟨?_,trivial⟩
        ·refine new (λv4 g4 qA hX=>?_);have f4:=f3.trans g4;have sX:=f3.size;generalize qC:v3.heap.size=gX at*;refine⟨_,λv hv=>hv,⟨f4,hN.ext ((g2.trans g3).trans g4)⟩,?_⟩;refine⟨?_,trivial⟩;have s1:=g1.size;have s2:=g2.size;have s3:=g3.size;have s4:=g4.size;refine Qv (hX.ext (Ext.refl _)) rfl (sc rfl) (λvz YZ _ Y0=>?_);have Z0:Mod (·=gX) v4 vz:=qQL YZ rfl;have fz:Ext w7 vz:=Z0.ext f4 (λi hi=>by omega);refine⟨_,λv hv=>hv,⟨fz,(hN.ext ((g2.trans g3).trans g4)).mod Z0 (by omega)⟩,?_⟩;exact⟨(gX,⟨dA,dn,dc,dnd,dr⟩),rfl,fz,Y0,SB.modo (KD.ext g4) Z0 (λad ea h0 hh=>by have:=Kv ad.block ⟨ad,ea,rfl⟩;have:=Wl ad ea h0;omega),sTd,by omega,λi hi=>by have:=Kv i hi;omega⟩
       ·refine new (λv3 g3 qA hX=>?_);have f3:=f2.trans g3;have sX:=f2.size;generalize qC:v2.heap.size=gX at*;refine⟨_,λv hv=>hv,⟨f3,hN.ext (g2.trans g3)⟩,?_⟩;refine⟨?_,trivial⟩
        ·refine call (ia [e.s] _ 1 1 3 v3 (Sl.own' (n:=1) (hS.ext g3) rfl (by decide)) (λy hy=>by rw[QO.1 hy];exact q5) (by decide)) ?_;rintro _ v4 ⟨dA,dn,dc,dnd,dr,rfl,g4,KD,sTd,Kv⟩;have f4:=f3.trans g4;have Wl:=SB.lt KD;have sR:=f3.size;refine⟨_,λv hv=>hv,⟨f4,hN.ext ((g2.trans g3).trans g4)⟩,?_⟩;refine⟨?_,trivial⟩;have s1:=g1.size;have s2:=g2.size;have s3:=g3.size;have s4:=g4.size;refine Qv (hX.ext g4) rfl (sc rfl) (λvz YZ _ Y0=>?_);have Z0:Mod (·=gX) v4 vz:=qQL YZ rfl;have fz:Ext w7 vz:=Z0.ext f4 (λi hi=>by omega);refine⟨_,λv hv=>hv,⟨fz,(hN.ext ((g2.trans g3).trans g4)).mod Z0 (by omega)⟩,?_⟩;exact⟨(gX,⟨dA,dn,dc,dnd,dr⟩),rfl,fz,Y0,SB.modo (KD.ext (Ext.refl _)) Z0 (λad ea h0 hh=>by have:=Kv ad.block ⟨ad,ea,rfl⟩;have:=Wl ad ea h0;omega),sTd,by omega,λi hi=>by have:=Kv i hi;omega⟩
      ·refine new (λv2 g2 qA hX=>?_);have f2:=f1.trans g2;have sX:=f1.size;generalize qC:v1.heap.size=gX at*;refine⟨_,λv hv=>hv,⟨f2,hN.ext g2⟩,?_⟩;refine⟨?_,trivial⟩
       ·refine Xg Qa [[Value.int .u8 e.s]] rfl rfl rfl rfl rfl ⟨rfl,rfl,⟨⟩⟩ rfl (λcs h=>by simp only[QO] at h;subst h;rfl) rfl (by decide) (by decide) ?_;intro v3 g3 qi hS;have f3:=f2.trans g3;refine⟨_,λv hv=>hv,⟨f3,hN.ext (g2.trans g3)⟩,?_⟩;refine⟨?_,trivial⟩
        ·refine call (ia [e.s] _ 1 1 3 v3 (Sl.own' (n:=1) (hS.ext (Ext.refl _)) rfl (by decide)) (λy hy=>by rw[QO.1 hy];exact q5) (by decide)) ?_;rintro _ v4 ⟨dA,dn,dc,dnd,dr,rfl,g4,KD,sTd,Kv⟩;have f4:=f3.trans g4;have Wl:=SB.lt KD;have sR:=f3.size;refine⟨_,λv hv=>hv,⟨f4,hN.ext ((g2.trans g3).trans g4)⟩,?_⟩;refine⟨?_,trivial⟩;have s1:=g1.size;have s2:=g2.size;have s3:=g3.size;have s4:=g4.size;refine Qv (hX.ext (g3.trans g4)) rfl (sc rfl) (λvz YZ _ Y0=>?_);have Z0:Mod (·=gX) v4 vz:=qQL YZ rfl;have fz:Ext w7 vz:=Z0.ext f4 (λi hi=>by omega);refine⟨_,λv hv=>hv,⟨fz,(hN.ext ((g2.trans g3).trans g4)).mod Z0 (by omega)⟩,?_⟩;exact⟨(gX,⟨dA,dn,dc,dnd,dr⟩),rfl,fz,Y0,SB.modo (KD.ext (Ext.refl _)) Z0 (λad ea h0 hh=>by have:=Kv ad.block ⟨ad,ea,rfl⟩;have:=Wl ad ea h0;omega),sTd,by omega,λi hi=>by have:=Kv i hi;omega⟩
     ·refine Xg Qa [[Value.int .u8 e.s]] rfl rfl rfl rfl rfl ⟨rfl,rfl,⟨⟩⟩ rfl (λcs h=>by simp only[QO] at h;subst h;rfl) rfl (by decide) (by decide) ?_;intro v1 g1 qi hS;have f1:=f0.trans g1;refine⟨_,λv hv=>hv,f1,?_⟩;refine⟨?_,?_,?_,trivial⟩
      ·refine Xg Qa (aB.map (λt=>[Value.string (Qd t)])) rfl rfl rfl rfl rfl ⟨rfl,rfl,rfl,rfl,rfl,rfl,rfl,rfl,rfl,rfl,⟨⟩⟩ rfl (λcs h=>by obtain⟨t,_,rfl⟩:=Zk.1 h;rfl) rfl (by decide) (by decide) ?_;intro v2 g2 qy hN;have f2:=f1.trans g2;generalize qz:v1.heap.size=gN at*;refine⟨λv=>Ext w7 v/\Blk v gN 9 (XH aB),λv hv=>hv.1,⟨f2,hN⟩,?_⟩;refine ik (j:=e.x % 5) (by omega) ?_;refine QN (v:=.string (Qd (YC (e.x % 5)))) (λw' Qb=>by show w'.cell? ((⟨gN,0,none⟩:Addr).add (e.x % 5*1))=_;rw[Wm,Qb.2.cell];exact mH (by omega)) ?_;refine⟨?_,?_,trivial⟩
       ·refine call (ia [e.s] _ 1 1 3 v2 (Sl.own' (n:=1) (hS.ext g2) rfl (by decide)) (λy hy=>by rw[QO.1 hy];exact q5) (by decide)) ?_;rintro _ v3 ⟨dA,dn,dc,dnd,dr,rfl,g3,KD,sTd,Kv⟩;have f3:=f2.trans g3;have Wl:=SB.lt KD;have sR:=f2.size;refine⟨_,λv hv=>hv,⟨f3,hN.ext g3⟩,?_⟩;refine⟨?_,trivial⟩
        ·refine new (λv4 g4 qA hX=>?_);have f4:=f3.trans g4;have sX:=f3.size;generalize qC:v3.heap.size=gX at*;refine⟨_,λv hv=>hv,⟨f4,hN.ext (g3.trans g4)⟩,?_⟩;refine⟨?_,trivial⟩;have s1:=g1.size;have s2:=g2.size;have s3:=g3.size;have s4:=g4.size;refine Qv (hX.ext (Ext.refl _)) rfl (sc rfl) (λvz YZ _ Y0=>?_);have Z0:Mod (·=gX) v4 vz:=qQL YZ rfl;have fz:Ext w7 vz:=Z0.ext f4 (λi hi=>by omega);refine⟨_,λv hv=>hv,⟨fz,(hN.ext (g3.trans g4)).mod Z0 (by omega)⟩,?_⟩;exact⟨(gX,⟨dA,dn,dc,dnd,dr⟩),rfl,fz,Y0,SB.modo (KD.ext g4) Z0 (λad ea h0 hh=>by have:=Kv ad.block ⟨ad,ea,rfl⟩;have:=Wl ad ea h0;omega),sTd,by omega,λi hi=>by have:=Kv i hi;omega⟩
       ·refine new (λv3 g3 qA hX=>?_);have f3:=f2.trans g3;have sX:=f2.size;generalize qC:v2.heap.size=gX at*;refine⟨_,λv hv=>hv,⟨f3,hN.ext g3⟩,?_⟩;refine⟨?_,trivial⟩
        ·refine call (ia [e.s] _ 1 1 3 v3 (Sl.own' (n:=1) (hS.ext (g2.trans g3)) rfl (by decide)) (λy hy=>by rw[QO.1 hy];exact q5) (by decide)) ?_;rintro _ v4 ⟨dA,dn,dc,dnd,dr,rfl,g4,KD,sTd,Kv⟩;have f4:=f3.trans g4;have Wl:=SB.lt KD;have sR:=f3.size;refine⟨_,λv hv=>hv,⟨f4,hN.ext (g3.trans g4)⟩,?_⟩;refine⟨?_,trivial⟩;have s1:=g1.size;have s2:=g2.size;have s3:=g3.size;have s4:=g4.size;refine Qv (hX.ext g4) rfl (sc rfl) (λvz YZ _ Y0=>?_);have Z0:Mod (·=gX) v4 vz:=qQL YZ rfl;have fz:Ext w7 vz:=Z0.ext f4 (λi hi=>by omega);refine⟨_,λv hv=>hv,⟨fz,(hN.ext (g3.trans g4)).mod Z0 (by omega)⟩,?_⟩;exact⟨(gX,⟨dA,dn,dc,dnd,dr⟩),rfl,fz,Y0,SB.modo (KD.ext (Ext.refl _)) Z0 (λad ea h0 hh=>by have:=Kv ad.block ⟨ad,ea,rfl⟩;have:=Wl ad ea h0;omega),sTd,by omega,λi hi=>by have:=Kv i hi;omega⟩
      ·refine call (ia [e.s] _ 1 1 3 v1 (Sl.own' (n:=1) (hS.ext (Ext.refl _)) rfl (by decide)) (λy hy=>by rw[QO.1 hy];exact q5) (by decide)) ?_;rintro _ v2 ⟨dA,dn,dc,dnd,dr,rfl,g2,KD,sTd,Kv⟩;have f2:=f1.trans g2;have Wl:=SB.lt KD;have sR:=f1.size;refine⟨_,λv hv=>hv,f2,?_⟩;refine⟨?_,?_,trivial⟩
       ·refine Xg Qa (aB.map (λt=>[Value.string (Qd t)])) rfl rfl rfl rfl rfl ⟨rfl,rfl,rfl,rfl,rfl,rfl,rfl,rfl,rfl,rfl,⟨⟩⟩ rfl (λcs h=>by obtain⟨t,_,rfl⟩:=Zk.1 h;rfl) rfl (by decide) (by decide) ?_;intro v3 g3 qy hN;have f3:=f2.trans g3;generalize qz:v2.heap.size=gN at*;refine⟨λv=>Ext w7 v/\Blk v gN 9 (XH aB),λv hv=>hv.1,⟨f3,hN⟩,?_⟩;refine ik (j:=e.x % 5) (by omega) ?_;refine QN (v:=.string (Qd (YC (e.x % 5)))) (λw' Qb=>by show w'.cell? ((⟨gN,0,none⟩:Addr).add (e.x % 5*1))=_;rw[Wm,Qb.2.cell];exact mH (by omega)) ?_;refine⟨?_,trivial⟩
        ·refine new (λv4 g4 qA hX=>?_);have f4:=f3.trans g4;have sX:=f3.size;generalize qC:v3.heap.size=gX at*;refine⟨_,λv hv=>hv,⟨f4,hN.ext g4⟩,?_⟩;refine⟨?_,trivial⟩;have s1:=g1.size;have s2:=g2.size;have s3:=g3.size;have s4:=g4.size;refine Qv (hX.ext (Ext.refl _)) rfl (sc rfl) (λvz YZ _ Y0=>?_);have Z0:Mod (·=gX) v4 vz:=qQL YZ rfl;have fz:Ext w7 vz:=Z0.ext f4 (λi hi=>by omega);refine⟨_,λv hv=>hv,⟨fz,(hN.ext g4).mod Z0 (by omega)⟩,?_⟩;exact⟨(gX,⟨dA,dn,dc,dnd,dr⟩),rfl,fz,Y0,SB.modo (KD.ext (g3.trans g4)) Z0 (λad ea h0 hh=>by have:=Kv ad.block ⟨ad,ea,rfl⟩;have:=Wl ad ea h0;omega),sTd,by omega,λi hi=>by have:=Kv i hi;omega⟩
       ·refine new (λv3 g3 qA hX=>?_);have f3:=f2.trans g3;have sX:=f2.size;generalize qC:v2.heap.size=gX at*;refine⟨_,λv hv=>hv,f3,?_⟩;refine⟨?_,trivial⟩
        ·refine Xg Qa (aB.map (λt=>[Value.string (Qd t)])) rfl rfl rfl rfl rfl ⟨rfl,rfl,rfl,rfl,rfl,rfl,rfl,rfl,rfl,rfl,⟨⟩⟩ rfl (λcs h=>by obtain⟨t,_,rfl⟩:=Zk.1 h;rfl) rfl (by decide) (by decide) ?_;intro v4 g4 qy hN;have f4:=f3.trans g4;generalize qz:v3.heap.size=gN at*;refine⟨λv=>Ext w7 v/\Blk v gN 9 (XH aB),λv hv=>hv.1,⟨f4,hN⟩,?_⟩;refine ik (j:=e.x % 5) (by omega) ?_;refine QN (v:=.string (Qd (YC (e.x % 5)))) (λw' Qb=>by show w'.cell? ((⟨gN,0,none⟩:Addr).add (e.x % 5*1))=_;rw[Wm,Qb.2.cell];exact mH (by omega)) ?_;refine⟨?_,trivial⟩;have s1:=g1.size;have s2:=g2.size;have s3:=g3.size;have s4:=g4.size;refine Qv (hX.ext g4) rfl (sc rfl) (λvz YZ _ Y0=>?_);have Z0:Mod (·=gX) v4 vz:=qQL YZ rfl;have fz:Ext w7 vz:=Z0.ext f4 (λi hi=>by omega);refine⟨_,λv hv=>hv,⟨fz,(hN.ext (Ext.refl _)).mod Z0 (by omega)⟩,?_⟩;exact⟨(gX,⟨dA,dn,dc,dnd,dr⟩),rfl,fz,Y0,SB.modo (KD.ext (g3.trans g4)) Z0 (λad ea h0 hh=>by have:=Kv ad.block ⟨ad,ea,rfl⟩;have:=Wl ad ea h0;omega),sTd,by omega,λi hi=>by have:=Kv i hi;omega⟩
      ·refine new (λv2 g2 qA hX=>?_);have f2:=f1.trans g2;have sX:=f1.size;generalize qC:v1.heap.size=gX at*;refine⟨_,λv hv=>hv,f2,?_⟩;refine⟨?_,?_,trivial⟩
       ·refine Xg Qa (aB.map (λt=>[Value.string (Qd t)])) rfl rfl rfl rfl rfl ⟨rfl,rfl,rfl,rfl,rfl,rfl,rfl,rfl,rfl,rfl,⟨⟩⟩ rfl (λcs h=>by obtain⟨t,_,rfl⟩:=Zk.1 h;rfl) rfl (by decide) (by decide) ?_;intro v3 g3 qy hN;have f3:=f2.trans g3;generalize qz:v2.heap.size=gN at*;refine⟨λv=>Ext w7 v/\Blk v gN 9 (XH aB),λv hv=>hv.1,⟨f3,hN⟩,?_⟩;refine ik (j:=e.x % 5) (by omega) ?_;refine QN (v:=.string (Qd (YC (e.x % 5)))) (λw' Qb=>by show w'.cell? ((⟨gN,0,none⟩:Addr).add (e.x % 5*1))=_;rw[Wm,Qb.2.cell];exact mH (by omega)) ?_;refine⟨?_,trivial⟩
        ·refine call (ia [e.s] _ 1 1 3 v3 (Sl.own' (n:=1) (hS.ext (g2.trans g3)) rfl (by decide)) (λy hy=>by rw[QO.1 hy];exact q5) (by decide)) ?_;rintro _ v4 ⟨dA,dn,dc,dnd,dr,rfl,g4,KD,sTd,Kv⟩;have f4:=f3.trans g4;have Wl:=SB.lt KD;have sR:=f3.size;refine⟨_,λv hv=>hv,⟨f4,hN.ext g4⟩,?_⟩;refine⟨?_,trivial⟩;have s1:=g1.size;have s2:=g2.size;have s3:=g3.size;have s4:=g4.size;refine Qv (hX.ext (g3.trans g4)) rfl (sc rfl) (λvz YZ _ Y0=>?_);have Z0:Mod (·=gX) v4 vz:=qQL YZ rfl;have fz:Ext w7 vz:=Z0.ext f4 (λi hi=>by omega);refine⟨_,λv hv=>hv,⟨fz,(hN.ext g4).mod Z0 (by omega)⟩,?_⟩;exact⟨(gX,⟨dA,dn,dc,dnd,dr⟩),rfl,fz,Y0,SB.modo (KD.ext (Ext.refl _)) Z0 (λad ea h0 hh=>by have:=Kv ad.block ⟨ad,ea,rfl⟩;have:=Wl ad ea h0;omega),sTd,by omega,λi hi=>by have:=Kv i hi;omega⟩
       ·refine call (ia [e.s] _ 1 1 3 v2 (Sl.own' (n:=1) (hS.ext g2) rfl (by decide)) (λy hy=>by rw[QO.1 hy];exact q5) (by decide)) ?_;rintro _ v3 ⟨dA,dn,dc,dnd,dr,rfl,g3,KD,sTd,Kv⟩;have f3:=f2.trans g3;have Wl:=SB.lt KD;have sR:=f2.size;refine⟨_,λv hv=>hv,f3,?_⟩;refine⟨?_,trivial⟩
        ·refine Xg Qa (aB.map (λt=>[Value.string (Qd t)])) rfl rfl rfl rfl rfl ⟨rfl,rfl,rfl,rfl,rfl,rfl,rfl,rfl,rfl,rfl,⟨⟩⟩ rfl (λcs h=>by obtain⟨t,_,rfl⟩:=Zk.1 h;rfl) rfl (by decide) (by decide) ?_;intro v4 g4 qy hN;have f4:=f3.trans g4;generalize qz:v3.heap.size=gN at*;refine⟨λv=>Ext w7 v/\Blk v gN 9 (XH aB),λv hv=>hv.1,⟨f4,hN⟩,?_⟩;refine ik (j:=e.x % 5) (by omega) ?_;refine QN (v:=.string (Qd (YC (e.x % 5)))) (λw' Qb=>by show w'.cell? ((⟨gN,0,none⟩:Addr).add (e.x % 5*1))=_;rw[Wm,Qb.2.cell];exact mH (by omega)) ?_;refine⟨?_,trivial⟩;have s1:=g1.size;have s2:=g2.size;have s3:=g3.size;have s4:=g4.size;refine Qv (hX.ext (g3.trans g4)) rfl (sc rfl) (λvz YZ _ Y0=>?_);have Z0:Mod (·=gX) v4 vz:=qQL YZ rfl;have fz:Ext w7 vz:=Z0.ext f4 (λi hi=>by omega);refine⟨_,λv hv=>hv,⟨fz,(hN.ext (Ext.refl _)).mod Z0 (by omega)⟩,?_⟩;exact⟨(gX,⟨dA,dn,dc,dnd,dr⟩),rfl,fz,Y0,SB.modo (KD.ext g4) Z0 (λad ea h0 hh=>by have:=Kv ad.block ⟨ad,ea,rfl⟩;have:=Wl ad ea h0;omega),sTd,by omega,λi hi=>by have:=Kv i hi;omega⟩
     ·refine new (λv1 g1 qA hX=>?_);have f1:=f0.trans g1;have sX:=f0.size;generalize qC:v0.heap.size=gX at*;refine⟨_,λv hv=>hv,f1,?_⟩;refine⟨?_,?_,trivial⟩
      ·refine Xg Qa (aB.map (λt=>[Value.string (Qd t)])) rfl rfl rfl rfl rfl ⟨rfl,rfl,rfl,rfl,rfl,rfl,rfl,rfl,rfl,rfl,⟨⟩⟩ rfl (λcs h=>by obtain⟨t,_,rfl⟩:=Zk.1 h;rfl) rfl (by decide) (by decide) ?_;intro v2 g2 qy hN;have f2:=f1.trans g2;generalize qz:v1.heap.size=gN at*;refine⟨λv=>Ext w7 v/\Blk v gN 9 (XH aB),λv hv=>hv.1,⟨f2,hN⟩,?_⟩;refine ik (j:=e.x % 5) (by omega) ?_;refine QN (v:=.string (Qd (YC (e.x % 5)))) (λw' Qb=>by show w'.cell? ((⟨gN,0,none⟩:Addr).add (e.x % 5*1))=_;rw[Wm,Qb.2.cell];exact mH (by omega)) ?_;refine⟨?_,trivial⟩
       ·refine Xg Qa [[Value.int .u8 e.s]] rfl rfl rfl rfl rfl ⟨rfl,rfl,⟨⟩⟩ rfl (λcs h=>by simp only[QO] at h;subst h;rfl) rfl (by decide) (by decide) ?_;intro v3 g3 qi hS;have f3:=f2.trans g3;refine⟨_,λv hv=>hv,⟨f3,hN.ext g3⟩,?_⟩;refine⟨?_,trivial⟩
        ·refine call (ia [e.s] _ 1 1 3 v3 (Sl.own' (n:=1) (hS.ext (Ext.refl _)) rfl (by decide)) (λy hy=>by rw[QO.1 hy];exact q5) (by decide)) ?_;rintro _ v4 ⟨dA,dn,dc,dnd,dr,rfl,g4,KD,sTd,Kv⟩;have f4:=f3.trans g4;have Wl:=SB.lt KD;have sR:=f3.size;refine⟨_,λv hv=>hv,⟨f4,hN.ext (g3.trans g4)⟩,?_⟩;refine⟨?_,trivial⟩;have s1:=g1.size;have s2:=g2.size;have s3:=g3.size;have s4:=g4.size;refine Qv (hX.ext ((g2.trans g3).trans g4)) rfl (sc rfl) (λvz YZ _ Y0=>?_);have Z0:Mod (·=gX) v4 vz:=qQL YZ rfl;have fz:Ext w7 vz:=Z0.ext f4 (λi hi=>by omega);refine⟨_,λv hv=>hv,⟨fz,(hN.ext (g3.trans g4)).mod Z0 (by omega)⟩,?_⟩;exact⟨(gX,⟨dA,dn,dc,dnd,dr⟩),rfl,fz,Y0,SB.modo (KD.ext (Ext.refl _)) Z0 (λad ea h0 hh=>by have:=Kv ad.block ⟨ad,ea,rfl⟩;have:=Wl ad ea h0;omega),sTd,by omega,λi hi=>by have:=Kv i hi;omega⟩
      ·refine Xg Qa [[Value.int .u8 e.s]] rfl rfl rfl rfl rfl ⟨rfl,rfl,⟨⟩⟩ rfl (λcs h=>by simp only[QO] at h;subst h;rfl) rfl (by decide) (by decide) ?_;intro v2 g2 qi hS;have f2:=f1.trans g2;refine⟨_,λv hv=>hv,f2,?_⟩;refine⟨?_,?_,trivial⟩
       ·refine Xg Qa (aB.map (λt=>[Value.string (Qd t)])) rfl rfl rfl rfl rfl ⟨rfl,rfl,rfl,rfl,rfl,rfl,rfl,rfl,rfl,rfl,⟨⟩⟩ rfl (λcs h=>by obtain⟨t,_,rfl⟩:=Zk.1 h;rfl) rfl (by decide) (by decide) ?_;intro v3 g3 qy hN;have f3:=f2.trans g3;generalize qz:v2.heap.size=gN at*;refine⟨λv=>Ext w7 v/\Blk v gN 9 (XH aB),λv hv=>hv.1,⟨f3,hN⟩,?_⟩;refine ik (j:=e.x % 5) (by omega) ?_;refine QN (v:=.string (Qd (YC (e.x % 5)))) (λw' Qb=>by show w'.cell? ((⟨gN,0,none⟩:Addr).add (e.x % 5*1))=_;rw[Wm,Qb.2.cell];exact mH (by omega)) ?_;refine⟨?_,trivial⟩
        ·refine call (ia [e.s] _ 1 1 3 v3 (Sl.own' (n:=1) (hS.ext g3) rfl (by decide)) (λy hy=>by rw[QO.1 hy];exact q5) (by decide)) ?_;rintro _ v4 ⟨dA,dn,dc,dnd,dr,rfl,g4,KD,sTd,Kv⟩;have f4:=f3.trans g4;have Wl:=SB.lt KD;have sR:=f3.size;refine⟨_,λv hv=>hv,⟨f4,hN.ext g4⟩,?_⟩;refine⟨?_,trivial⟩;have s1:=g1.size;have s2:=g2.size;have s3:=g3.size;have s4:=g4.size;refine Qv (hX.ext ((g2.trans g3).trans g4)) rfl (sc rfl) (λvz YZ _ Y0=>?_);have Z0:Mod (·=gX) v4 vz:=qQL YZ rfl;have fz:Ext w7 vz:=Z0.ext f4 (λi hi=>by omega);refine⟨_,λv hv=>hv,⟨fz,(hN.ext g4).mod Z0 (by omega)⟩,?_⟩;exact⟨(gX,⟨dA,dn,dc,dnd,dr⟩),rfl,fz,Y0,SB.modo (KD.ext (Ext.refl _)) Z0 (λad ea h0 hh=>by have:=Kv ad.block ⟨ad,ea,rfl⟩;have:=Wl ad ea h0;omega),sTd,by omega,λi hi=>by have:=Kv i hi;omega⟩
       ·refine call (ia [e.s] _ 1 1 3 v2 (Sl.own' (n:=1) (hS.ext (Ext.refl _)) rfl (by decide)) (λy hy=>by rw[QO.1 hy];exact q5) (by decide)) ?_;rintro _ v3 ⟨dA,dn,dc,dnd,dr,rfl,g3,KD,sTd,Kv⟩;have f3:=f2.trans g3;have Wl:=SB.lt KD;have sR:=f2.size;refine⟨_,λv hv=>hv,f3,?_⟩;refine⟨?_,trivial⟩
        ·refine Xg Qa (aB.map (λt=>[Value.string (Qd t)])) rfl rfl rfl rfl rfl ⟨rfl,rfl,rfl,rfl,rfl,rfl,rfl,rfl,rfl,rfl,⟨⟩⟩ rfl (λcs h=>by obtain⟨t,_,rfl⟩:=Zk.1 h;rfl) rfl (by decide) (by decide) ?_;intro v4 g4 qy hN;have f4:=f3.trans g4;generalize qz:v3.heap.size=gN at*;refine⟨λv=>Ext w7 v/\Blk v gN 9 (XH aB),λv hv=>hv.1,⟨f4,hN⟩,?_⟩;refine ik (j:=e.x % 5) (by omega) ?_;refine QN (v:=.string (Qd (YC (e.x % 5)))) (λw' Qb=>by show w'.cell? ((⟨gN,0,none⟩:Addr).add (e.x % 5*1))=_;rw[Wm,Qb.2.cell];exact mH (by omega)) ?_;refine⟨?_,trivial⟩;have s1:=g1.size;have s2:=g2.size;have s3:=g3.size;have s4:=g4.size;refine Qv (hX.ext ((g2.trans g3).trans g4)) rfl (sc rfl) (λvz YZ _ Y0=>?_);have Z0:Mod (·=gX) v4 vz:=qQL YZ rfl;have fz:Ext w7 vz:=Z0.ext f4 (λi hi=>by omega);refine⟨_,λv hv=>hv,⟨fz,(hN.ext (Ext.refl _)).mod Z0 (by omega)⟩,?_⟩;exact⟨(gX,⟨dA,dn,dc,dnd,dr⟩),rfl,fz,Y0,SB.modo (KD.ext g4) Z0 (λad ea h0 hh=>by have:=Kv ad.block ⟨ad,ea,rfl⟩;have:=Wl ad ea h0;omega),sTd,by omega,λi hi=>by have:=Kv i hi;omega⟩
    rintro⟨pe,D⟩ w8 ⟨Ju,Xz,hSD,sD,OW,hRD⟩;have h00:=sD.root0.trans (bQv q5);refine gR [] Qa [] (λ_:DV=>[]) (λD' w'=>Ext w7 w'/\Blk w' pe 58 (X6 ⟨(cj ls e+Wz ls e:Nat),(cj ls e+dS ls e:Nat),YC (e.x % 5),D'⟩)/\SB w' D'.A D'.n D'.c D'.nd/\Set1 3 D'.nd D'.r (bq e.s)/\∀i,Qk D'.A i->w7.heap.size<=i) ?_ ?_
    ·refine load ((Xz.cell 4).trans rfl) ?_;refine X8 (λgl=>?_) (λgl=>?_)
     ·refine call (yr true w8) ?_;rintro _ w9 ⟨rfl,Xx⟩;refine ko (j:=3) (Xz.ext Xx) (by show 3+2<=5;decide) (sc rfl) (λQE jA _ J6=>?_);have ZA:Mod (·=pe) w9 QE:=qQL jA rfl;have ee:bq e.s=λ_=>true:=by unfold bq;rw[Qf (h00.1 gl)]
      refine⟨⟨none,0,0,[],1⟩,rfl,ZA.ext (Ju.trans Xx) (λi hi=>by omega),J6,SlS.nil _,?_,λi hi=>by obtain⟨_,e,_⟩:=hi;cases e⟩;rw[ee];exact bV 3 true
     ·refine⟨D,rfl,Ju,Xz,hSD,?_,hRD⟩;have ee:bq e.s=cT [e.s] 3 0 0:=by unfold bq;rw[if_neg (λd9=>gl (h00.2 d9))]
      rw[ee];exact sD
    rintro D2 w9 ⟨Vn,JI,dQa,Oh,qQh⟩;have tf:=Js.trans Vn;have hO9:=kO.ext tf;generalize hV:(⟨((cj ls e+Wz ls e:Nat):Int),((cj ls e+dS ls e:Nat):Int),YC (e.x % 5),D2⟩:EdV)=V at*;have hVf:V.fr=((cj ls e+Wz ls e:Nat):Int):=by rw[<-hV]
    have Fh:=(xa (λy:EdV=>decide (y.fr<=V.fr)) (l:=L)).length_le;refine gR [] Qa [14] (λk:Nat=>[.int .i64 k]) (λk w'=>Ext w9 w'/\k=(L.takeWhile (λy=>decide (y.fr<=V.fr))).length) ?_ ?_
    rotate_left
    ·rintro _ QE ⟨X1,rfl⟩;have jw:SlS X6 5 QE A L.length c L:=⟨(hO9.ext X1).sl,rfl⟩
     have pI:=Ext.drew QE;have J6:=JI.ext X1;have qQi:L.length<=5:=by omega
     generalize hT:(L.takeWhile (λy=>decide (y.fr<=V.fr))).length=T at*;refine Iz [15] (λt:Option Addr×Nat=>[.slice t.1 (T+1) t.2]) (λt w'=>Ext QE w'/\Own w' QE.heap.size 58 5 t.1 (T+1) t.2 ((L.take T++ [V]).flatMap X6)) ?_ ?_
     ·have f0:Ext QE QE.drew:=pI;have F0:=jw.1.take (m:=T) Fh;rw[<-Rz ji] at F0;refine bQU Qa (Ext QE) 9 (.quiet 1 (.quiet 2 (.quiet 3 (.quiet 5 (.fork 0 (.fork 4 (.fork 6 (.fork 7 (.quiet 8 .done) .skip) .skip) (.fork 6 (.fork 4 (.fork 7 (.quiet 8 .done) .skip) .skip) .skip)) (.fork 6 (.fork 0 (.fork 4 (.fork 7 (.quiet 8 .done) .skip) .skip) .skip) .skip)))))) (by kernel_rfl) f0 ?_;refine Ix Qa rfl rfl rfl rfl rfl rfl (X3 Fh jw.1.le) ?_;refine Xv (vs:=X6 V) rfl (λw' Qb k u hk=>by rw[(J6.ext Qb).cell];exact hk) ?_;generalize QE.drew=v0 at*;refine⟨?_,?_,trivial⟩
      ·refine Xg Qa [] rfl rfl rfl rfl rfl ⟨⟩ rfl (λcs h=>by cases h) rfl (by decide) (by decide) ?_;intro v1 g1 Q6 wt;have f1:=f0.trans g1;have hA0:Own v1 QE.heap.size 58 5 (some ⟨v0.heap.size,0,none⟩) 0 0 []:=Own.empty wt f0.size;refine⟨_,λv hv=>hv,f1,?_⟩;refine⟨?_,?_,trivial⟩
       ·refine Je (n:=0) Qa rfl rfl rfl rfl rfl (by decide) rfl rfl ⟨_,rfl⟩ rfl rfl (hA0.ext (Ext.refl _)) (F0.ext f1) (λu hu=>by
         obtain⟨y,_,hy⟩:=Wo.1 hu;exact sc (vs:=X6 y) rfl u hy) (by unfold maxLen;omega) (by show(0+T)*64<=_;omega) f1.size ?_
        intro A4 c4 v2 m2 Yn _;rw[bO] at Yn;rw[WQ] at Yn ⊢;have f2:Ext QE v2:=m2.ext f1 (λk hk=>(hA0.rows k hk).1);refine⟨_,λv hv=>hv,f2,?_⟩;refine⟨?_,trivial⟩
        ·refine Xg Qa [X6 V] rfl rfl rfl rfl rfl ⟨rfl,rfl,⟨⟩⟩ rfl (λcs h=>by simp only[QO] at h;subst h;rfl) rfl (by decide) (by decide) ?_;intro v3 g3 Jr Q7;have f3:=f2.trans g3;have bA:SlS X6 5 v3 (some ⟨v2.heap.size,0,none⟩) 1 1 [V]:=⟨Sl.own (sz:=5) (n:=1) Q7 (QB _) (by decide) (by simp[X6]),rfl⟩
         refine⟨_,λv hv=>hv,f3,?_⟩;refine⟨?_,trivial⟩;refine Je (n:=T) Qa rfl rfl rfl rfl rfl (by decide) rfl rfl ⟨_,rfl⟩ rfl rfl (Yn.ext g3) (bA.ext (Ext.refl _)).1 (λu hu=>by
          obtain⟨y,_,hy⟩:=Wo.1 hu;exact sc (vs:=X6 y) rfl u hy) (by unfold maxLen;omega) (by show(T+1)*64<=_;omega) f3.size ?_
         intro B2 tg vz mz Bi dQF;have fz:Ext QE vz:=mz.ext f3 (λk hk=>(Yn.rows k hk).1);refine⟨_,λv hv=>hv,fz,?_⟩;exact⟨(B2,tg),rfl,fz,by rw[Yd];exact Bi⟩
       ·refine Xg Qa [X6 V] rfl rfl rfl rfl rfl ⟨rfl,rfl,⟨⟩⟩ rfl (λcs h=>by simp only[QO] at h;subst h;rfl) rfl (by decide) (by decide) ?_;intro v2 g2 Ze Q7;have f2:=f1.trans g2;have bA:SlS X6 5 v2 (some ⟨v1.heap.size,0,none⟩) 1 1 [V]:=⟨Sl.own (sz:=5) (n:=1) Q7 (QB _) (by decide) (by simp[X6]),rfl⟩
        refine⟨_,λv hv=>hv,f2,?_⟩;refine⟨?_,trivial⟩
        ·refine Je (n:=0) Qa rfl rfl rfl rfl rfl (by decide) rfl rfl ⟨_,rfl⟩ rfl rfl (hA0.ext g2) (F0.ext f2) (λu hu=>by
          obtain⟨y,_,hy⟩:=Wo.1 hu;exact sc (vs:=X6 y) rfl u hy) (by unfold maxLen;omega) (by show(0+T)*64<=_;omega) f2.size ?_
         intro A4 c4 v3 m3 Yn _;rw[bO] at Yn;rw[WQ] at Yn ⊢;have f3:Ext QE v3:=m3.ext f2 (λk hk=>(hA0.rows k hk).1);have sm:=(Q7.ext (Ext.refl _)).mod m3 (λhk=>by
          obtain⟨ad,e0,e1⟩:=hk;cases e0;have e1:v0.heap.size=v1.heap.size:=e1;have s1:=g1.size;have s2:=g2.size;omega)
         have bA:SlS X6 5 v3 (some ⟨v1.heap.size,0,none⟩) 1 1 [V]:=⟨Sl.own (sz:=5) (n:=1) sm (QB _) (by decide) (by simp[X6]),rfl⟩
         refine⟨_,λv hv=>hv,f3,?_⟩;refine⟨?_,trivial⟩;refine Je (n:=T) Qa rfl rfl rfl rfl rfl (by decide) rfl rfl ⟨_,rfl⟩ rfl rfl (Yn.ext (Ext.refl _)) (bA.ext (Ext.refl _)).1 (λu hu=>by
          obtain⟨y,_,hy⟩:=Wo.1 hu;exact sc (vs:=X6 y) rfl u hy) (by unfold maxLen;omega) (by show(T+1)*64<=_;omega) f3.size ?_
         intro B2 tg vz mz Bi dQF;have fz:Ext QE vz:=mz.ext f3 (λk hk=>(Yn.rows k hk).1);refine⟨_,λv hv=>hv,fz,?_⟩;exact⟨(B2,tg),rfl,fz,by rw[Yd];exact Bi⟩
      ·refine Xg Qa [X6 V] rfl rfl rfl rfl rfl ⟨rfl,rfl,⟨⟩⟩ rfl (λcs h=>by simp only[QO] at h;subst h;rfl) rfl (by decide) (by decide) ?_;intro v1 g1 Q6 Q7;have f1:=f0.trans g1;have bA:SlS X6 5 v1 (some ⟨v0.heap.size,0,none⟩) 1 1 [V]:=⟨Sl.own (sz:=5) (n:=1) Q7 (QB _) (by decide) (by simp[X6]),rfl⟩
       refine⟨_,λv hv=>hv,f1,?_⟩;refine⟨?_,trivial⟩
       ·refine Xg Qa [] rfl rfl rfl rfl rfl ⟨⟩ rfl (λcs h=>by cases h) rfl (by decide) (by decide) ?_;intro v2 g2 Ze wt;have f2:=f1.trans g2;have hA0:Own v2 QE.heap.size 58 5 (some ⟨v1.heap.size,0,none⟩) 0 0 []:=Own.empty wt f1.size;refine⟨_,λv hv=>hv,f2,?_⟩;refine⟨?_,trivial⟩
        ·refine Je (n:=0) Qa rfl rfl rfl rfl rfl (by decide) rfl rfl ⟨_,rfl⟩ rfl rfl (hA0.ext (Ext.refl _)) (F0.ext f2) (λu hu=>by
          obtain⟨y,_,hy⟩:=Wo.1 hu;exact sc (vs:=X6 y) rfl u hy) (by unfold maxLen;omega) (by show(0+T)*64<=_;omega) f2.size ?_
         intro A4 c4 v3 m3 Yn _;rw[bO] at Yn;rw[WQ] at Yn ⊢;have f3:Ext QE v3:=m3.ext f2 (λk hk=>(hA0.rows k hk).1);have sm:=(Q7.ext g2).mod m3 (λhk=>by
          obtain⟨ad,e0,e1⟩:=hk;cases e0;have e1:v1.heap.size=v0.heap.size:=e1;have s1:=g1.size;have s2:=g2.size;omega)
         have bA:SlS X6 5 v3 (some ⟨v0.heap.size,0,none⟩) 1 1 [V]:=⟨Sl.own (sz:=5) (n:=1) sm (QB _) (by decide) (by simp[X6]),rfl⟩
         refine⟨_,λv hv=>hv,f3,?_⟩;refine⟨?_,trivial⟩;refine Je (n:=T) Qa rfl rfl rfl rfl rfl (by decide) rfl rfl ⟨_,rfl⟩ rfl rfl (Yn.ext (Ext.refl _)) (bA.ext (Ext.refl _)).1 (λu hu=>by
          obtain⟨y,_,hy⟩:=Wo.1 hu;exact sc (vs:=X6 y) rfl u hy) (by unfold maxLen;omega) (by show(T+1)*64<=_;omega) f3.size ?_
         intro B2 tg vz mz Bi dQF;have fz:Ext QE vz:=mz.ext f3 (λk hk=>(Yn.rows k hk).1);refine⟨_,λv hv=>hv,fz,?_⟩;exact⟨(B2,tg),rfl,fz,by rw[Yd];exact Bi⟩
     rintro⟨B,bc⟩ QL ⟨Jv,wr⟩;refine GH (l:=T) Qa rfl rfl rfl rfl rfl rfl Fh ?_;have oQs:=(SlS.from ji jw Fh).ext Jv;refine Je (n:=T+1) Qa rfl rfl rfl rfl rfl (by decide) rfl rfl ⟨_,rfl⟩ rfl rfl wr oQs.1 (λu hu=>by
      obtain⟨y,_,hy⟩:=Wo.1 hu;exact sc (vs:=X6 y) rfl u hy) (by show T+1+(L.length-T)<=_;unfold maxLen;omega) (by show(T+1+(L.length-T))*64<=_;omega) Jv.size ?_
     intro B2 tg Xb V9 sT qQj;refine Qj ((i+1:Nat):Int) (by show((i:Nat):Int)+1=_;omega) (by omega) ?_;have QZ:(L.take T++ [V]++L.drop T).length=T+1+(L.length-T):=by simp;omega
     refine⟨(i+1,L.take T++ [V]++L.drop T,B2,tg),by simp only;rw[QZ];rfl,⟨?_,by show i+1<=5;omega,by show i+1<=x.en;omega,?_,?_,?_,by show(L.take T++ [V]++L.drop T).length=i+1;rw[QZ];omega,λ_=>KL⟩,by show 5-(i+1)<5-i;omega⟩
     ·have q1:=tf.size;have q2:=X1.size;have q3:=Qx.size;exact V9.ext (((Qx.trans tf).trans X1).trans Jv) (λk hk=>by have:=(wr.rows k hk).1;omega)
     ·simp only;rw[QZ,Yd];have q1:=tf.size;have q2:=X1.size;have q3:=JJ.size;exact sT.up (by omega)
     ·have oQt:Ext w5 Xb:=V9.ext ((tf.trans X1).trans Jv) (λk hk=>by have:=(wr.rows k hk).1;have:=tf.size;have:=X1.size;omega);have jy:Ext w9 Xb:=V9.ext (X1.trans Jv) (λk hk=>by have:=(wr.rows k hk).1;have:=X1.size;omega);intro v hv;simp only at hv;have hvv:v∈L∨v=V:=by
       rcases XP.1 hv with hv | hv
       ·rcases XP.1 hv with hv | hv
        ·exact .inl (Wn hv)
        ·exact .inr (QO.1 hv)
       ·exact .inl (WT hv)
      rcases hvv with hv | rfl
      ·have hd:=td v hv;refine⟨hd.sb.ext oQt,hd.st,λad e0 h0 hS=>?_⟩;have z1:=SB.lt hd.sb ad e0 h0;have z2:=(sT.rows _ hS).1;have z3:=tf.size;have z4:=X1.size;omega
      ·have dx:v.x=D2:=by rw[<-hV]
       have Av:v.ed.o=bq e.s:=by show oD v.x=_;rw[dx];exact kJ Oh
       rw[Av,dx];refine⟨dQa.ext jy,Oh,λad e0 h0 hS=>?_⟩;have z1:=SB.lt dQa ad e0 h0;have z2:=(sT.rows _ hS).1;have z4:=X1.size;omega
     ·simp only;have hVe:V.ed=o7 ls e:=by
       rw[<-hV];show(⟨_,_,_,oD D2⟩:Ed)=_;rw[kJ Oh]<;>rfl
      obtain⟨t1,t2⟩:=mQm (λy:EdV=>decide (y.fr<=V.fr)) L;rw[hT] at t1 t2;rw[VF,he,PM,Bv,eE,List.foldl_nil,<-pz,<-hVe,t1,t2];unfold jk;rw[List.takeWhile_map,List.dropWhile_map,WR,WR,ZG]<;>rfl
    refine loop Qa [14] (λk:Nat=>[.int .i64 k]) (λk w'=>Ext w9 w'/\k<=(L.takeWhile (λy=>decide (y.fr<=V.fr))).length) (λk _=>L.length-k) 0 rfl ⟨Ext.refl _,Xo _⟩ ?_;rintro k QE ⟨X1,hk⟩;have htw:=(xa (λy:EdV=>decide (y.fr<=V.fr)) (l:=L)).length_le;have pI:=Ext.drew QE;refine XR Qa (Ext QE) 14 [(true,0),(true,1),(true,2),(true,3),(true,4),(true,5),(true,6),(true,7),(true,8),(true,9),(true,10),(true,11),(true,12),(true,13)] (by kernel_rfl) pI ?_;refine Qw (λk1=>?_) (λk1=>?_)
    ·have Z8:k<L.length:=by simp only at k1;omega
     obtain⟨y,hy⟩:∃y,L[k]? =some y:=⟨_,Xu Z8⟩
     have jw:SlS X6 5 QE A L.length c L:=⟨(hO9.ext X1).sl,rfl⟩
     refine Zt ji jw rfl Z8 (λad y' nD ZZ=>?_);cases hy.symm.trans nD;refine QN (v:=.int .i64 y.fr) (λw' Qb=>Qb.cell (ZZ 0 _ rfl)) ?_;refine QN (v:=.int .i64 V.fr) (λw' Qb=>(((JI.ext X1).ext Qb).cell 0).trans rfl) ?_;refine Qw (λk2=>?_) (λk2=>?_)
     ·have QX:k≠(L.takeWhile (λy=>decide (y.fr<=V.fr))).length:=λhh=>by
       have:=bQV (p:=λy:EdV=>decide (y.fr<=V.fr)) (l:=L) (y:=y) (by rw[<-hh];exact hy);simp only[decide_eq_false_iff_not] at this;exact this k2
      refine Qj ((k+1:Nat):Int) (by show((k:Nat):Int)+1=_;omega) (by omega) ?_;exact⟨k+1,rfl,⟨X1.trans pI,by omega⟩,by show L.length-(k+1)<L.length-k;omega⟩
     ·refine⟨k,rfl,X1.trans pI,?_⟩;apply Classical.byContradiction;intro hh;have:=bQW (p:=λy:EdV=>decide (y.fr<=V.fr)) (l:=L) (k:=k) (y:=y) (by omega) hy;exact k2 (Y2 this)
    ·exact⟨k,rfl,X1.trans pI,by simp only at k1;omega⟩
   ·exact⟨A,c,L,rfl,Qe.trans (JJ),kO,td,fin (by omega)⟩
  ·exact⟨A,c,L,rfl,Qe.trans (JJ),kO,td,fin (by simp only at c2;omega)⟩
 ·exact⟨A,c,L,rfl,Qe.trans (JJ),kO,td,fin (by simp only at c1;omega)⟩
theorem mQo {ls:List (List Nat)}{es:List Ep}{L:List EdV}(hL:L.map EdV.ed=dU ls es){v:EdV}(hv:v∈L):v.ed∈dU ls es:=by rw[<-hL];exact List.mem_map_of_mem hv
theorem Lt (f:List Nat)(es:List Ed)(c:Nat)(A B:List (Nat×List Nat×BF)):ci f es c (A++B)=ci f es c A++ci f es c B:=by unfold ci;rw[Yd]
theorem mQp (f:List Nat)(es:List Ed)(c:Nat)(s:Sg)(hs:s.o (bits c)=false)(l:List (Nat×List Nat)):ci f es c (l.map (λq=>(q.1,q.2,s.o)))=[]:=by
 unfold ci;rw[List.flatMap_map];induction l with
 | nil=>rfl
 | cons q l ih=>rw[Vf,ih,KE];simp only;rw[if_neg (by rw[hs];decide)]
abbrev kK (tx:List Nat)(s:Sg)(k:Nat):List (Nat×List Nat×BF):=(Zj s.at_ ((QF (Zz tx s)).take k)).map (λq=>(q.1,q.2,s.o))
theorem Dy:∀(ls:List (List Nat))(a k:Nat),Zj a (ls.take k)=(Zj a ls).take k
 | [],a,k=>by simp[Zj]
 | s::ls,a,0=>by simp[Zj]
 | s::ls,a,k+1=>by rw[fy,Zj,Zj,fy,Dy ls]
theorem Lu:∀{ls:List (List Nat)}{a k:Nat}{s:List Nat},ls[k]? =some s->(Zj a ls)[k]? =some (a+(Qp (ls.take k)).length,s)
 | [],a,k,s,h=>by simp at h
 | t::ls,a,0,s,h=>by
  have:t=s:=by simpa using h
  subst this;simp[Zj,Qp]
 | t::ls,a,k+1,s,h=>by
  rw[Zj,dQI,Lu (ls:=ls) (a:=a+t.length+1) (by simpa using h),fy,V4];simp only[Qq,Q2];congr 2;omega
theorem mQq {tx:List Nat}{s:Sg}{k:Nat}{l:List Nat}(h:(QF (Zz tx s))[k]? =some l):kK tx s (k+1)=kK tx s k++ [(s.at_+(Qp ((QF (Zz tx s)).take k)).length,l,s.o)]:=by
 unfold kK;rw[Dy,Dy,jj (Lu h),WR]<;>rfl
theorem mQr {tx:List Nat}{s:Sg}{k:Nat}(h:(QF (Zz tx s)).length<=k):kK tx s k=cg tx s:=by
 unfold kK;rw[ZS h]
theorem edits29_law (x:ChV)(hn:x.ln<=1048576)(w:World)(h:ChIn w x):Fn Tryz.prog 3 [.agg x.cells.toArray] w (λv w'=>v= .bool true/\Ext w w'):=by
 have jH:=h.f8;have pR:∀y∈x.ls,y.i<=255:=λy hy=>(h.lo y hy).i8
 have wy:∀b∈ZU x.ls,b<256:=by rw[vG];exact C7 (rU (Dw pR))
 have O9:=Lk pR;have tS:=Ll x.ls;have Bh:=Yg tS;obtain⟨g,hr⟩:=lQ9 pR;obtain⟨_,hX,hC,hG⟩:=yG hr;refine QJ (c:={c3 with cuts:=[]}) Qa Tryz.func3 rfl rfl rfl ?_;refine new (λw1 Qe Q6 Qh=>?_);refine call (lQS w1) ?_;rintro _ w2 ⟨rfl,Qg⟩;have QT:=Qe.trans Qg;have Qy:=Qh.ext Qg;refine Qt Qy rfl ?_;refine call (bQC x w2 (h.ext QT) hn) ?_;rintro _ w3 ⟨rfl,Qi⟩;have Qu:=Qy.ext Qi;have QU:=QT.trans Qi;refine Qt Qu rfl ?_;refine call (mQn x w3 (h.ext QU) hn) ?_;rintro _ w4 ⟨EA,ec,L,rfl,Qs,Yn,Oi,Oj⟩;have Xp:=QU.trans Qs;have wM:L.length<=5:=by have:=bQK (QF (ZU x.ls)) x.es;rw[<-Oj,JL] at this;exact this
 have PC:∀v∈L,0<=v.fr/\v.fr<=v.to_/\v.to_<=(ZU x.ls).length/\v.tx.length<=3/\∀b∈v.tx,b<256:=λv hv=>by
  obtain⟨q1,q2,q3,q4,_,q6,_⟩:=bQO (mQo Oj hv);rw[Bh] at q3;exact⟨q1,q2,q3,q4,q6⟩
 have hSt:∀v∈L,Set1 3 v.x.nd v.x.r v.ed.o:=λv hv=>(Oi v hv).st
 refine load (((Qu.ext Qs).cell 0).trans rfl) ?_;refine call (lQW x.fam jH w4) ?_;rintro _ w5 ⟨DA,dn,dc,dnd,dr,rfl,Qx,td,sD,_⟩;refine new (λw6 QQ bu Q7=>?_);refine Qv Q7 rfl (sc rfl) (λw7 Zv _ Q3=>?_);have Js:=XT QQ Q7 Zv;have K9:=Qx.trans Js;have Vx:=Xp.trans K9;have hD7:=td.ext Js;generalize w5.heap.size=pd at*;have wz:=Ext.drew w7;refine XR Qa (Ext w7) 10 [(true,1),(true,2),(true,3),(false,0),(false,4),(true,5),(true,6),(true,7),(true,8),(true,9)] (by kernel_rfl) wz ?_;refine Xv (vs:=[.slice DA dn dc,.int .i64 dr]) rfl (λw' Qb k u hk=>by rw[(Q3.ext Qb).cell];exact hk) ?_;refine call (Lg w7.drew) ?_;rintro _ w8 ⟨NA,nc,rfl,Xn,hN8⟩;have Ju:=wz.trans Xn;refine⟨Ju,?_⟩;refine call (bQo NA 3 nc YS ⟨DA,dn,dc,dnd,dr⟩ (ZU x.ls) EA L.length ec L (by decide) bQw lQX wy (by omega) (λv hv=>by
  obtain⟨b1,b2,b3,_⟩:=PC v hv;exact⟨by omega,by omega,by omega,by omega⟩) (λv hv=>by
  obtain⟨_,_,_,b4,b5⟩:=PC v hv;exact⟨b5,by omega⟩) (by omega) w8 hN8 (hD7.ext Ju) ⟨(Yn.ext (K9.trans Ju)).sl,rfl⟩ (λv hv=>(Oi v hv).sb.ext (K9.trans Ju))) ?_
 rintro u w9 ⟨hu,Xx⟩;have Vn:=Ju.trans Xx;have zF:=Vx.trans Vn;refine⟨Vn,?_⟩;rcases mQj (D:=⟨DA,dn,dc,dnd,dr⟩) jH sD pR Oj hSt hr with hk | ⟨R,g',hk,pC,hRl,Q5,jK,FO⟩
 ·rw[hk] at hu;subst hu;refine ri (by decide) ?_;refine J0 rfl ?_;exact⟨rfl,zF⟩
 rw[hk] at hu;subst hu;refine WX rfl ?_;refine call (bQy (ZU x.ls) g w9 wy (by omega) hr) ?_;rintro _ QE ⟨RA,rc,rfl,X1,oQu⟩;refine new (λQL Jv sn Z6=>?_);refine Qv Z6 rfl (sc rfl) (λXb mX _ Vj=>?_);have mZ:=XT Jv Z6 mX;have jy:=X1.trans mZ;have oQv:=oQu.ext mZ;generalize QE.heap.size=po at*;refine call (bQy (Qp R) g' Xb pC (by omega) Q5) ?_;rintro _ X9 ⟨SA,sc',rfl,XF,oQw⟩;refine new (λZu JW DO JV=>?_);refine Qv JV rfl (sc rfl) (λJ8 MT _ pE=>?_);have Ad:=XT JW JV MT;have Ol:=XF.trans Ad;have dQb:=jy.trans Ol;have kX:=Vn.trans dQb;have E4:=zF.trans dQb;have F3:=oQv.ext Ol;have hIn:=oQw.ext Ad;have eC:=Vj.ext Ol;generalize X9.heap.size=pn at*;refine Q9 rfl ?_;refine Q9 rfl ?_;have hBd:=Q3.ext kX;have NM:=hD7.ext kX;have cz:SlS X6 5 J8 EA L.length ec L:=⟨(Yn.ext (K9.trans kX)).sl,rfl⟩
 have tK:∀v∈L,SB J8 v.x.A v.x.n v.x.c v.x.nd:=λv hv=>(Oi v hv).sb.ext (K9.trans kX)
 have hgl:g.tx.length<=1048576:=F3.ok.tl;have qa:g.sg.length<=65536:=F3.ok.sl;have dw:∀c∈oU x.fam,∀T1 T2,W7 g=T1++T2->(ci (ZU x.ls) (L.map EdV.ed) c T1).length<=1048576:=λc hc T1 T2 e=>by
  obtain⟨_,_,_,hG'⟩:=yG (show Vh YS (fF (Qp R)) [102]= .ok g' from Q5);have h1:=jK c hc;rw[e,Lt] at h1;have h2:=QC List.length h1;rw[UY,JL,Qq] at h2;have h3:=lu (λp:Nat×BF=>p.2 (λi=>c.testBit i)) (Wx g');have h4:=UW hG';have h5:=hIn.ok.tl;omega
 refine loop Qa [13] (λc:Nat=>[.int .u64 c]) (λc w'=>Ext J8 w'/\c<=8) (λc _=>8-c) 0 rfl ⟨Ext.refl _,Xo _⟩ ?_;rintro c ac ⟨Vo,hc⟩;refine Qw (λc1=>?_) (λc1=>?_)
 ·have c8:c<8:=by omega
  refine Qt (hBd.ext Vo) rfl ?_;refine call (H6 DA dn dc dnd dr c (by omega) ac (NM.ext Vo) (sD.chk (by decide))) ?_;rintro _ VU ⟨rfl,pA⟩;have dQc:=Vo.trans pA;have bI:ev dnd dr (Yh c)=vo x.fam c:=by
   rw[sD.mean,Du];exact Dt jH c8
  rw[bI];refine kg (YK (λQ4=>?_) (λQ4=>?_))
  ·have XN:c∈oU x.fam:=Jy.2 ⟨cI.2 c8,Q4⟩;refine loop Qa [15,14] (λt:Nat×List Nat=>[.int .i64 t.1,.string (Qd t.2)]) (λt w'=>Ext J8 w'/\t.1<=g.sg.length/\t.2=ci (ZU x.ls) (L.map EdV.ed) c ((g.sg.take t.1).flatMap (cg g.tx))) (λt _=>g.sg.length-t.1) (0,[]) rfl ⟨dQc,Xo _,rfl⟩ ?_;rintro⟨i,want⟩ Vp ⟨dq,hi,F4⟩;simp only at hi F4;obtain⟨M,dQd,hAM,_⟩:=(F3.ext dq).ex;have hMl:M.length=g.sg.length:=hAM.len.symm;refine load (((eC.ext dq).cell 1).trans rfl) ?_;refine Qw (λd1=>?_) (λd1=>?_)
   ·have bN:i<g.sg.length:=by simp only at d1;omega
    obtain⟨s,hs⟩:∃s,g.sg[i]? =some s:=⟨_,Xu bN⟩
    have Wf:=Xl hs;refine load (((eC.ext dq).cell 1).trans rfl) ?_;refine Zt oP dQd.sl rfl (by omega) (λad y hy Xq=>?_);obtain⟨y1,y2,y3,y4,sY⟩:=hAM.get hs hy;refine Jz (vs:=y.cells) rfl Xq ?_;refine new (λbC gn MH pH=>?_);refine Qv pH rfl (sc rfl) (λYE oQx _ ww=>?_);have dQe:=XT gn pH oQx;have s7:=dq.trans dQe;generalize Vp.heap.size=py at*;have hYb:=(dQd.dg y (Xl hy)).ext dQe;refine eM (vs:=[.slice y.x.A y.x.n y.x.c,.int .i64 y.x.r]) (j:=4) ww rfl (λk v hk=>by
     match k,hk with
     | 0,hk=>exact hk
     | 1,hk=>exact hk
     | k+2,hk=>simp at hk) ?_
    refine call (H6 y.x.A y.x.n y.x.c y.x.nd y.x.r c (by omega) YE hYb (sY.chk (by decide))) ?_;rintro _ gp ⟨rfl,dQf⟩;have Om:=s7.trans dQf;have pQl:ev y.x.nd y.x.r (Yh c)=s.o (bits c):=by rw[sY.mean,Du]
    rw[pQl];have KX:(g.sg.take (i+1)).flatMap (cg g.tx)=(g.sg.take i).flatMap (cg g.tx)++cg g.tx s:=by rw[jj hs,Yd,List.flatMap_singleton]
    have aO:W7 g=(g.sg.take i).flatMap (cg g.tx)++(cg g.tx s++(g.sg.drop (i+1)).flatMap (cg g.tx)):=by
     have hl:g.sg=g.sg.take (i+1)++g.sg.drop (i+1):=(aQ _ _).symm;unfold W7
     conv=>lhs;rw[hl]
     rw[Yd,KX,ZG]
    refine kg (YK (λqD=>?_) (λqD=>?_))
    ·have qD:s.o (bits c)=true:=qD;have kT:=ww.ext dQf;have qk:=hG.ok s Wf;have hp:=IL qk;have iI:=qk.ft;have Wd:=qk.tl;refine load (v:=.int .i64 ((s.at_:Nat):Int)) ((kT.cell 3).trans (by show some (Value.int .i64 y.at_)=_;rw[y4])) ?_;refine load (((eC.ext Om).cell 0).trans rfl) ?_;refine load ((kT.cell 0).trans rfl) ?_;refine load ((kT.cell 1).trans rfl) ?_;have pQm:=Q8 g.tx;refine Xy (v':=.string (Qd (Zz g.tx s))) ⟨by omega,by omega,by rw[pQm];omega⟩ (by rw[KN,y1,y2];rfl) ?_;have hpb:∀b∈Zz g.tx s,b<256:=λb hb=>F3.ok.b8 b (Wn (WT hb))
     have hfn:=aQw (Zz g.tx s) gp hpb (by omega);rw[u9 hp.1,JL] at hfn;refine call hfn ?_;rintro _ ae ⟨LA,lc,rfl,oQy,oQz⟩;have oQA:=Om.trans oQy;have dQg:Sl ae 1 LA (QF (Zz g.tx s)).length lc (JY (QF (Zz g.tx s))):=oQz.sl;have cy:(QF (Zz g.tx s)).length<=1048576:=by have:=rI (QF (Zz g.tx s));rw[Yg hp.1] at this;omega
     have Vc:s.at_<=1048576/\s.at_+(s.t-s.f)<=(ZU x.ls).length:=by
      have h1:=hC;have key:∀(l:List Sg) (p:Nat),ChA l p->∀z∈l,z.at_+(z.t-z.f)<=p:=by
       intro l;induction l with
       | nil=>intro p _ z hz;cases hz
       | cons z0 l ih=>
        intro p hh z hz;rcases QY.1 hz with rfl | hz
        ·exact hh.2.1
        ·exact ih p hh.2.2 z hz
      have:=key _ _ h1 s Wf;omega
     refine loop Qa [19,14,17] (λt:Nat×List Nat×Nat=>[.int .i64 t.1,.string (Qd t.2.1),.int .i64 t.2.2]) (λt w'=>Ext ae w'/\t.1<=(QF (Zz g.tx s)).length/\t.2.1=ci (ZU x.ls) (L.map EdV.ed) c ((g.sg.take i).flatMap (cg g.tx)++kK g.tx s t.1)/\t.2.2=s.at_+(Qp ((QF (Zz g.tx s)).take t.1)).length) (λt _=>(QF (Zz g.tx s)).length-t.1) (0,want,s.at_) rfl ⟨Ext.refl _,Xo _,by rw[F4];simp[kK,Zj],by simp[Qp]⟩ ?_;rintro⟨k,wa,at_⟩ Ae ⟨VT,hk,PD,aN⟩;simp only at hk PD aN;have Oo:=oQA.trans VT;refine Qw (λe1=>?_) (λe1=>?_)
     ·have Z8:k<(QF (Zz g.tx s)).length:=by simp only at e1;omega
      obtain⟨l,hl⟩:∃l,(QF (Zz g.tx s))[k]? =some l:=⟨_,Xu Z8⟩
      have FN:=mQq hl;have Pt:=vE hl;have hup:=Lm (QF (Zz g.tx s)) (k+1);rw[Yg hp.1,hp.2] at hup;have oQB:=dQg.ext VT;have hlz:(Qd (l++ [10])).size=l.length+1:=by rw[Q8];simp
      refine KF oQB (j:=k) Z8 (λad u hA hu Xq=>?_);rw[bZ hl] at hu;cases hu;refine load Xq ?_;refine Qj ((at_+(l.length+1):Nat):Int) (by show((at_:Nat):Int)+(((Qd (l++ [10])).size:Nat):Int)=_;omega) (by omega) ?_;refine Qj ((at_+l.length:Nat):Int) (by omega) (by omega) ?_;have eB:(at_,l,s.o)∈W7 g:=by
       unfold W7;refine Wo.2 ⟨s,Wf,Zk.2 ⟨(at_,l),?_,rfl⟩⟩;rw[aN];exact Xl (Lu hl)
      refine call (mQl (ZU x.ls) at_ l EA L.length ec L c (by omega) (by omega) (by omega) (by omega) (λv hv=>by
       obtain⟨b1,b2,b3,b4,_⟩:=PC v hv;exact⟨(hSt v hv).chk (by decide),by omega,b1,b2,by omega,by omega,by omega,by omega⟩) (FO _ eB c XN qD) Ae (cz.ext Oo) (λv hv=>(tK v hv).ext Oo)) ?_
      rintro _ Ag ⟨rfl,Jh⟩;have dQh:=VT.trans Jh;have nA:ci (ZU x.ls) (L.map EdV.ed) c ((g.sg.take i).flatMap (cg g.tx)++kK g.tx s (k+1))=wa++ZY (ZU x.ls) (at_+l.length+1) at_ ((L.map EdV.ed).filter (KQ at_ l)) c:=by
       rw[FN,<-ZG,Lt,<-PD,<-aN];congr 1;unfold ci;rw[List.flatMap_singleton];simp only;rw[Qf qD]
      have KC:(wa++ZY (ZU x.ls) (at_+l.length+1) at_ ((L.map EdV.ed).filter (KQ at_ l)) c).length<=1048576:=by
       rw[<-nA];refine dw c XN _ ((Zj s.at_ (QF (Zz g.tx s))).drop (k+1) |>.map (λq=>(q.1,q.2,s.o)) |>.append ((g.sg.drop (i+1)).flatMap (cg g.tx))) ?_;rw[aO,ZG];congr 1;show cg g.tx s++_=kK g.tx s (k+1)++(_++_);rw[<-ZG];congr 1;unfold kK cg;rw[Dy,<-WR,aQ]
      refine Xy (v':=.string (Qd (wa++ZY (ZU x.ls) (at_+l.length+1) at_ ((L.map EdV.ed).filter (KQ at_ l)) c))) (by have z1:=Q8 wa;have z2:=Q8 (ZY (ZU x.ls) (at_+l.length+1) at_ ((L.map EdV.ed).filter (KQ at_ l)) c);rw[Qq] at KC;show(Qd wa).size+(Qd (ZY (ZU x.ls) (at_+l.length+1) at_ ((L.map EdV.ed).filter (KQ at_ l)) c)).size<=maxLen;unfold maxLen;omega) (QC Value.string (ZM _ _)) ?_;refine KF (dQg.ext dQh) (j:=k) Z8 (λwl u zV hu E6=>?_);rw[bZ hl] at hu;cases hu;refine load E6 ?_;refine Qj ((at_+(l.length+1):Nat):Int) (by show((at_:Nat):Int)+(((Qd (l++ [10])).size:Nat):Int)=_;omega) (by omega) ?_;refine Qj ((k+1:Nat):Int) (by show((k:Nat):Int)+1=_;omega) (by omega) ?_;exact⟨(k+1,wa++ZY (ZU x.ls) (at_+l.length+1) at_ ((L.map EdV.ed).filter (KQ at_ l)) c,at_+(l.length+1)),rfl,⟨dQh,Z8,nA.symm,(by show at_+(l.length+1)=s.at_+(Qp ((QF (Zz g.tx s)).take (k+1))).length;omega)⟩,by show(QF (Zz g.tx s)).length-(k+1)<(QF (Zz g.tx s)).length-k;omega⟩
     have iv:(QF (Zz g.tx s)).length<=k:=by simp only at e1;omega
     refine Qj ((i+1:Nat):Int) (by show((i:Nat):Int)+1=_;omega) (by omega) ?_;refine⟨(i+1,wa),rfl,⟨Oo,bN,?_⟩,by show g.sg.length-(i+1)<g.sg.length-i;omega⟩;simp only;rw[KX,PD,mQr iv]
    ·have qD:s.o (bits c)=false:=qD;refine Qj ((i+1:Nat):Int) (by show((i:Nat):Int)+1=_;omega) (by omega) ?_;refine⟨(i+1,want),rfl,⟨Om,bN,?_⟩,by show g.sg.length-(i+1)<g.sg.length-i;omega⟩;simp only;rw[KX,Lt,<-F4,mQp _ _ _ _ qD,KE]
   have hig:i=g.sg.length:=by simp only at d1;omega
   have VC:want=ci (ZU x.ls) (L.map EdV.ed) c (W7 g):=by
    rw[F4];congr 1;unfold W7;rw[ZS (by omega)]
   refine Qt (pE.ext dq) rfl ?_;refine call (jQt (hIn.ext dq) c (by omega)) ?_;rintro _ bC ⟨rfl,gn⟩;have jT:vj g'.tx g'.sg (Yh c)=want:=by rw[Du,VC];exact jK c XN
   rw[jT];refine Q9 (by simp) ?_;refine norm (m:=((c+1:Nat):Int)) (IntWalk.u64_in _ (by omega)) ?_;exact⟨c+1,rfl,⟨dq.trans gn,by show c+1<=8;omega⟩,by show 8-(c+1)<8-c;omega⟩
  ·refine norm (m:=((c+1:Nat):Int)) (IntWalk.u64_in _ (by omega)) ?_;exact⟨c+1,rfl,⟨dQc,by show c+1<=8;omega⟩,by show 8-(c+1)<8-c;omega⟩
 exact⟨rfl,E4.trans Vo⟩
end
section
open Go Go.RowKit Go.ChangeShapes
variable {H:Type} {enc:TypeId×Value->H}
theorem bQX {α:Type}{l:List α}(h:l.length=5):∃a b c d e,l=[a,b,c,d,e]:=by
 match l,h with
 | [a,b,c,d,e],_=>exact⟨a,b,c,d,e,rfl⟩
theorem mQs {W:World}(cs:List Value)(dz:Nat)(D:DataW H×List MemPlace)(hl:cs.length=5)(h:DataW.trod enc Tryz.prog W 0 (λ_=>true) true dz 89 cs=some D):∃y:{e:Ep // Ep8 e},y.1.cells=cs:=by
 have sJ:Tryz.prog.cellsOf 5=1:=by kernel_rfl
 obtain⟨xs,k,_,_,_,iA,Zq⟩:=DataW.trod_struct Tryz.underlying89 h;obtain⟨y0,y1,y2,y3,y4,rfl⟩:=bQX (show xs.length=5 from iA);obtain⟨v0,v1,v2,v3,v4,rfl⟩:=bQX hl;have g0:=Zq 0 _ rfl;have g1:=Zq 1 _ rfl;have g2:=Zq 2 _ rfl;have g3:=Zq 3 _ rfl;have g4:=Zq 4 _ rfl;simp[sJ] at g0 g1 g2 g3 g4;obtain⟨n0,e0,_,w0⟩:=DataW.trod_int Tryz.underlying5 g0;obtain⟨n1,e1,_,w1⟩:=DataW.trod_int Tryz.underlying5 g1;obtain⟨n2,e2,_,w2⟩:=DataW.trod_int Tryz.underlying5 g2;obtain⟨n3,e3,_,w3⟩:=DataW.trod_int Tryz.underlying5 g3;obtain⟨n4,e4,_,w4⟩:=DataW.trod_int Tryz.underlying5 g4;simp at e0 e1 e2 e3 e4;subst e0 e1 e2 e3 e4;obtain⟨m0,rfl,q0⟩:=u8_of w0;obtain⟨m1,rfl,q1⟩:=u8_of w1;obtain⟨m2,rfl,q2⟩:=u8_of w2;obtain⟨m3,rfl,q3⟩:=u8_of w3;obtain⟨m4,rfl,q4⟩:=u8_of w4;exact⟨⟨⟨m0,m1,m2,m3,m4⟩,⟨q0,q1,q2,q3,q4⟩⟩,rfl⟩
theorem mQt {W:World}{a:Option Addr}{len cap:Nat}{d:DataW H}{p:List MemPlace}(h:DataW.Trod enc Tryz.prog W 0 (λ_=>true) true 23 (.slice a len cap) d p):∃l,SlS Ep.cells 5 W a len cap l/\∀e∈l,Ep8 e:=by
 obtain⟨dz,hf⟩:=h;exact U4 (U0 (cells:=λy:{e:Ep // Ep8 e}=>y.1.cells) (λ_=>rfl) (by decide) Tryz.underlying23 (by kernel_rfl) ⟨⟨⟨0,0,0,0,0⟩,⟨by simp,by simp,by simp,by simp,by simp⟩⟩⟩ mQs rfl hf)
end
section
open Go Go.RowKit Go.ChangeShapes
variable {H:Type} {enc:TypeId×Value->H}
theorem mQu {d:DataW H}{l:List (DataW H)}(h:d∈l):Rows.uptoBulk d<=Rows.uptoBulkAll l:=by
 induction l with
 | nil=>cases h
 | cons x r ih=>
  simp only[Rows.uptoBulkAll];rcases QY.1 h with e | e
  ·subst e;omega
  ·have:=ih e;omega
theorem upto_of {l:List (DataW H)}(hk:Rows.uptoSmall H l=true){d:DataW H}(h:d∈l):Rows.uptoBulk d<=1048576:=by
 have h1:Rows.uptoBulkAll l<=1048576:=Y2 hk;exact X3 (mQu h) h1
theorem mQv (d:DataW H):1<=Rows.uptoBulk d:=by
 cases d with
 | lit v=>cases v<;>simp[Rows.uptoBulk]
 | _=>simp[Rows.uptoBulk]
theorem bQY:∀(l:List (DataW H)),l.length<=Rows.uptoBulkAll l
 | []=>Xo _
 | d::l=>by
  have:=mQv d;have:=bQY l;simp only[Q2,Rows.uptoBulkAll];omega
theorem mQw {W:World}{dz t e:Nat}{a:Option Addr}{n c:Nat}{D:DataW H×List MemPlace}(hu:Tryz.prog.underlying t=some (.slice e))(h:DataW.trod enc Tryz.prog W 0 (λ_=>true) true dz t [.slice a n c]=some D):n<=Rows.uptoBulk D.1:=by
 rcases Go.Deep.open_slice hu h with⟨XN,_⟩ | ⟨x,l,c',m,k,D',Pl,XN,_,hl,hm,ZW,hde,hx⟩
 ·simp at XN;omega
 ·simp at XN;obtain⟨_,rfl,_⟩:=XN;rw[hde];simp only[Rows.uptoBulk];have:=bQY ((List.range n).map D');simp only[JL,List.length_range] at this;omega
set_option maxRecDepth 100000 in
theorem fileU_of {W:World}{base:Nat}{v:Value}{d:DataW H}{p:List MemPlace}(hval:Value.okWide Tryz.prog W .any base 25 v)(h:DataW.Trod enc Tryz.prog W 0 (λ_=>true) true 25 v d p):
  ∃x:ChV,v= .agg x.cells.toArray/\ChIn W x/\x.ln<=Rows.uptoBulk d:=by
 obtain⟨dz,hf⟩:=h;obtain⟨cs,rfl,XQ⟩:=Go.WideShapes.okWide_struct Tryz.underlying25 hval;have hc:Tryz.prog.cellsOf 25=3:=by kernel_rfl
 have Ec:Tryz.prog.cellsOf 5=1:=by kernel_rfl
 have WD:Tryz.prog.cellsOf 22=1:=by kernel_rfl
 have sJ:Tryz.prog.cellsOf 23=1:=by kernel_rfl
 rw[hc] at XQ;obtain⟨xs,m,_,hxe,_,iA,Zq⟩:=DataW.trod_struct Tryz.underlying25 hf;obtain⟨v0,v1,v2,hl⟩:=C4 (show cs.toList.length=3 by simpa using XQ);obtain⟨y0,y1,y2,rfl⟩:=C4 (show xs.length=3 from iA);have g0:=Zq 0 _ rfl;have g1:=Zq 1 _ rfl;have g2:=Zq 2 _ rfl;simp[Ec,WD,sJ,Value.cells,hl] at g0 g1 g2;obtain⟨n0,e0,_,w0⟩:=DataW.trod_int Tryz.underlying5 g0;simp at e0;obtain⟨f,rfl,q0⟩:=u8_of w0;obtain⟨a1,n1,c1,rfl⟩:=bQx Tryz.underlying22 g1;obtain⟨a2,n2,c2,rfl⟩:=bQx Tryz.underlying23 g2;have iC:=mQw Tryz.underlying22 g1;have hd:d= .agg [y0.1,y1.1,y2.1]:=(Prod.mk.injEq _ _ _ _▸hxe).1;have tM:Rows.uptoBulk y1.1<=Rows.uptoBulk d:=by rw[hd];simp only[Rows.uptoBulk,Rows.uptoBulkAll];omega
 obtain⟨l1,hS,h8⟩:=jQR ⟨_,g1⟩;obtain⟨l2,hT,W9⟩:=mQt ⟨_,g2⟩;subst e0;exact⟨⟨f,l1,l2,a1,n1,c1,a2,n2,c2⟩,QC Value.agg (Array.ext' hl),⟨q0,hS,h8,hT,W9⟩,X3 iC tM⟩
theorem witness_row_shaped {C:Checked}{os:Os}{f:FuncId}{fn:Func}{s:OpenSpec}{conds:List PathCond}{apart:Bool}{laid:List (String×DataW Unit)}(modest:Bool)(w0:World)(args:Array Value)(hos:w0.os=os)
  (er:(w0.forCall (λ_ _=>0) ⟨#[],args,[]⟩).Shaped C.prog)
  (X5:Input.okWideB C.prog (w0.forCall (λ_ _=>0) ⟨#[],args,[]⟩) f ⟨#[],args,[]⟩=true)
  (ld:s.preRow enc C.prog fn conds apart laid (w0.forCall (λ_ _=>0) ⟨#[],args,[]⟩).memory args):
  ∃(w:World) (tape:Tape) (i:Input),w.os=os/\(w.forCall tape i).Shaped C.prog/\i.vars=[]/\Input.okWide C.prog (w.forCall tape i) .any w.heap.size f i/\
   s.preRow enc C.prog fn conds apart laid (w.forCall tape i).memory i.args/\({modest:=modest}:Assume).holds C.prog (lone (Frame.enter C.prog f i.args .normal) [] (w.forCall tape i)):=
 ⟨w0,λ_ _=>0,⟨#[],args,[]⟩,hos,er,(Input.okWide_of_okWideB (base:=0) X5).1,(Input.okWide_of_okWideB X5).2,ld,by
  simp only[Assume.holds];exact⟨by simp,by simp,λ_=>Modest.zero,by simp,by simp⟩⟩
end
end Go.Proofs.YtjabbbcdgmlojaaGreatDoor
