/-
  What PPatchOrder rests on, part 5 (wip/shake.py).
  Conditions: none.
-/
import Derived.Test.YtjabbbcdgmlojaaGreatDoorQPPatchOrderd
set_option linter.all false
set_option linter.deprecated false
set_option maxHeartbeats 12800000
namespace Go.Proofs.YtjabbbcdgmlojaaGreatDoor
open Go Go.RowKit
section
theorem hQ1 {nm:List (List Nat)}{x:DV}{f:List Nat}{es:List EdV}(h:E3 nm x):rM nm x f es=match Y9 nm (fF f) [102] with
  | .error p=>.error p.e
  | .ok g=>if¬(es.all (λe=>J7 nm.length e.x.nd e.x.r)=true/\jT nm.length f 0 (es.map EdV.ed)=true)then .error 291
   else match dF nm (oD x) g f (es.map EdV.ed) (QU f) 0 with
    | none=>.error 291
    | some l=>if 1048576<(Qo l).length then .error 2
     else match Y9 nm (fF (Qo l)) [102] with
      | .error p=>if p.e=2 then .error 2 else .ok (Qo l)
      | .ok _=>.ok (Qo l):=by
 unfold rM;rw[if_neg (by rw[h.1,h.2];simp)];by_cases VW:es.all (λe=>J7 nm.length e.x.nd e.x.r)=true
 ·rw[Qe VW];unfold E0;cases Y9 nm (fF f) [102] with
  | error p=>rfl
  | ok g=>
   simp only;by_cases hv:jT nm.length f 0 (es.map EdV.ed)=true
   ·rw[if_neg (by rw[hv];decide),if_neg (λhh=>hh ⟨VW,hv⟩)];rfl
   ·rw[Qe (by simpa using hv),Qe (λhh=>hv hh.2)]
 ·rw[if_neg VW];cases Y9 nm (fF f) [102] with
  | error p=>rfl
  | ok g=>simp only;rw[Qe (λhh=>VW hh.1)]
theorem RI {w:World}{w':World}{t:List Nat}{g:Nat}(hB:Blk w' g 85 (fQ ([102],t))):SlS fQ 2 w' (some ⟨g,0,none⟩) 1 1 (fF t):=⟨Sl.own (sz:=2) (n:=1) hB (QE _) (by decide) (by simp[fQ]),rfl⟩
theorem RJ {t:List Nat}(h:∀b∈t,b<256)(hl:t.length<=9223372036854775807):∀x∈fF t,FileB x:=λx hx=>by
 rw[QJ.1 hx];exact⟨(by decide:∀b∈ [102],b<256),h,by show 1<=_;decide,hl⟩
theorem hQ2 (NA:Option Addr)(nn nc:Nat)(nm:List (List Nat))(x:DV)(f:List Nat)(EA:Option Addr)(en ec:Nat)(es:List EdV)(kx:nm.length<=4)(Vw:Ke nm)(Kn:∀s∈nm,s.length<=1000)(wt:∀b∈f,b<256)(Kk:f.length<=60000)
  (jQ8:∀e∈es, -9223372036854775808<=e.fr/\e.fr<=9223372036854775807/\ -9223372036854775808<=e.to_/\e.to_<=9223372036854775807) (ht:∀e∈es,(∀b∈e.tx,b<256)/\e.tx.length<=1000) (Cy:es.length<=10) (w:World)
  (hN:Sl w 1 NA nn nc (X4 nm)) (hx:SB w x.A x.n x.c x.nd) (hEs:SlS J8 5 w EA en ec es) (hEb:∀e∈es,SB w e.x.A e.x.n e.x.c e.x.nd):
  Fn Tryz.prog 15 [.slice NA nn nc,Xg x.A x.n x.c x.r,.string (Qf f),.slice EA en ec] w (λu w'=>u=rO (rM nm x f es)/\Ext w w'):=by
 have hk:nm.length<=12:=by omega
 have Xb:nm.length=nn:=by have:=hN.len;rw[aF] at this;omega
 refine ud (c:={c15 with cuts:=[]}) Qa Tryz.func15 rfl rfl rfl ?_;refine ZC (Zq Qa ?_);refine new (λw0 zY kn UZ=>?_);refine new (λw1' Qd Q2 Qh=>?_);refine new (λw3 Qj JV Qu=>?_);obtain⟨w1,hw1⟩:∃w1,w1=w0:=⟨_,rfl⟩
 obtain⟨w2,hw2⟩:∃w2,w2=w1':=⟨_,rfl⟩
 subst hw1;subst hw2;have Yb:=Qd.trans Qj;have QQ:=zY.trans Yb;have QK:w1.heap.size≠w2.heap.size:=by omega
 refine ZC (ub Qa rfl rfl rfl rfl ⟨_,_,_,_,rfl,rfl,?_⟩);refine ZC (Zq Qa ?_);refine Qs (UZ.ext Yb) rfl ?_;generalize Yt:rM nm x f es=M;refine XI (Rk NA nn nc nm x hk Vw w3 (hN.ext QQ) (hx.ext QQ)) ?_ ?_
 rotate_left
 ·rintro ch w4 ⟨Xi,rfl,Qq⟩;refine WC Qa (asx:= #[]) (cap:= #[.pointer (some ⟨w1.heap.size,0,none⟩),.pointer (some ⟨w2.heap.size,0,none⟩)]) rfl rfl (args:= #[.pointer (some ⟨w1.heap.size,0,none⟩),.pointer (some ⟨w2.heap.size,0,none⟩)]) (by simp) ((rN _ _ 1 w4 _ _ QK ((Qh.ext Qj).ext Qq) (Qu.ext Qq)).mono ?_);rintro e u' pD ⟨v,rfl,bN,Yc⟩;refine⟨v,rfl,bN,?_⟩;refine Qv Yc.1 rfl ?_;refine Qv Yc.2.1 rfl ?_;have W3:M= .error 1:=by
     rw[<-Yt];unfold rM;rw[Qe (by
      by_cases h1:ZJ nm=true
      ·exact .inr (ez.2 (λh2=>Xi ⟨h1,h2⟩))
      ·exact .inl (by simpa using h1))]
  rw[W3];exact⟨rfl,Yc.2.2.ext (QQ.trans Qq) (λi hi=>by rcases hi with rfl | rfl<;>omega)⟩
 rintro _ w4 ⟨Zl,Qq⟩;have XF:=QQ.trans Qq;rw[hQ1 Zl] at Yt;have sx:=fV Zl.2;have I6:=(UZ.ext Yb).ext Qq;have kQ:=(Qh.ext Qj).ext Qq;have d6:=Qu.ext Qq;refine ZC (Zq Qa ?_);refine XE Qa [fQ ([102],f)] rfl rfl rfl rfl rfl ⟨rfl,rfl,⟨⟩⟩ rfl (λcs h=>by simp only[QJ] at h;subst h;rfl) rfl (by decide) (by decide) ?_;intro w5 Qt Kv QH;have Jm:=XF.trans Qt;refine call (OZ nm NA nn nc (fF f) _ 1 1 [102] w5 (hN.ext Jm) Vw hk (RI (w:=w) QH) (RJ wt (by omega)) (by decide) (by decide)) ?_;rintro u6 w6 ⟨Q6,f9⟩;have XG:=Jm.trans Q6;have Xx:=Qt.trans Q6;cases YZ:Y9 nm (fF f) [102] with
 | error q=>
  rw[YZ] at f9 Yt;have hq:=hQT YZ;subst f9;refine new (λw7 Q1 YS QY=>?_);refine new (λw8 Q9 Vs Xp=>?_);refine Qx (QY.ext Q9) rfl (sc rfl) (λw9 dT dN JM=>?_);have Zc:Mod (·=w6.heap.size) w8 w9:=mQj dT rfl;have BD:¬w7.heap.size=w6.heap.size:=by omega
  refine Qx (Xp.mod Zc BD) rfl (sc rfl) (λQG ku vl J9=>?_);have Zk:Mod (·=w7.heap.size) w9 QG:=mQj ku rfl;have sN:Ext w6 QG:=Zk.ext (Zc.ext (Q1.trans Q9) (λi hi=>by omega)) (λi hi=>by omega);have pE:=Xx.trans sN;refine ZC (Zq Qa ?_);refine Qv J9 rfl ?_;refine XI (Yl q.e hq QG) (λ_ _ hf=>hf.elim) ?_;rintro ch _ ⟨rfl,rfl⟩;refine WC Qa (asx:= #[]) (cap:= #[.pointer (some ⟨w1.heap.size,0,none⟩),.pointer (some ⟨w2.heap.size,0,none⟩)]) rfl rfl (args:= #[.pointer (some ⟨w1.heap.size,0,none⟩),.pointer (some ⟨w2.heap.size,0,none⟩)]) (by simp) ((rN _ _ q.e QG _ _ QK (kQ.ext pE) (d6.ext pE)).mono ?_);rintro e u' pD ⟨v,rfl,bN,Yc⟩;refine⟨v,rfl,bN,?_⟩;refine Qv Yc.1 rfl ?_;refine Qv Yc.2.1 rfl ?_;have W3:M= .error q.e:=Yt.symm;rw[W3];exact⟨rfl,Yc.2.2.ext (XF.trans pE) (λi hi=>by rcases hi with rfl | rfl<;>omega)⟩
 | ok g=>
  rw[YZ] at f9 Yt;simp only at Yt;obtain⟨aQx,SA,scp,SL,rfl,Ck⟩:=f9;obtain⟨I7,mQd,mQe,kQZ⟩:=P8 YZ;obtain⟨MX,I8,aQy⟩:=gQb Ck;have hMl:=aQy.len;refine new (λw7 Q1 YS QY=>?_);refine new (λw8 Q9 Vs Xp=>?_);refine Qx (QY.ext Q9) rfl (sc rfl) (λw9 dT dN JM=>?_);have Zc:Mod (·=w6.heap.size) w8 w9:=mQj dT rfl;have BD:¬w7.heap.size=w6.heap.size:=by omega
  refine Qx (Xp.mod Zc BD) rfl (sc rfl) (λQG ku vl J9=>?_);have Zk:Mod (·=w7.heap.size) w9 QG:=mQj ku rfl;have sN:Ext w6 QG:=Zk.ext (Zc.ext (Q1.trans Q9) (λi hi=>by omega)) (λi hi=>by omega);have Cp:=JM.mod Zk (λh=>BD h.symm);refine ZC (Zq Qa ?_);refine Qv J9 rfl ?_;refine call (EG QG) ?_;rintro _ _ rfl;have pE:=Xx.trans sN;have mE:=XF.trans pE;refine ZC (Zq Qa ?_);refine Qs (I6.ext pE) rfl ?_;refine new (λQD Jx sm ZU=>?_);have YB:=mE.trans Jx;have bK:=pE.trans Jx
  let p:EP:=⟨QG.heap.size,NA,nn,nc,nm,x,f,EA,en,ec,es⟩
  have hB:EB p:=⟨kx,Vw,Kn,wt,Kk,I7,jQ8,λe he=>(ht e he).1,λe he=>(ht e he).2,Cy⟩
  have K:EK QD p:=⟨ZU,hN.ext YB,hEs.ext YB,λe he=>(hEb e he).ext YB⟩
  refine ZC (Zq Qa ?_);refine XI (hQz p hB QD K) ?_ ?_
  rotate_left
  ·rintro ch Q5 ⟨Xi,rfl,Xq⟩;refine WC Qa (asx:= #[]) (cap:= #[.pointer (some ⟨w1.heap.size,0,none⟩),.pointer (some ⟨w2.heap.size,0,none⟩)]) rfl rfl (args:= #[.pointer (some ⟨w1.heap.size,0,none⟩),.pointer (some ⟨w2.heap.size,0,none⟩)]) (by simp) ((rN _ _ 291 Q5 _ _ QK ((kQ.ext bK).ext Xq) ((d6.ext bK).ext Xq)).mono ?_);rintro e u' pD ⟨v,rfl,bN,Yc⟩;refine⟨v,rfl,bN,?_⟩;refine Qv Yc.1 rfl ?_;refine Qv Yc.2.1 rfl ?_;have W3:M= .error 291:=by rw[<-Yt,Qe Xi]
   rw[W3];exact⟨rfl,Yc.2.2.ext (YB.trans Xq) (λi hi=>by rcases hi with rfl | rfl<;>omega)⟩
  rintro _ Q5 ⟨hV,Xq⟩;rw[if_neg (λhh=>hh hV)] at Yt;have bL:=YB.trans Xq;have jQ9:=bK.trans Xq;have K12:=K.ext Xq;refine ZC (Zq Qa ?_);refine ZC (Zq Qa ?_);refine ZC (Zq Qa ?_);refine call (yZ f Q5 wt (by omega)) ?_;rintro _ XR ⟨PA,pc,rfl,XD,wu⟩;have iS:=yX I7;have mZ:(fO f).length=(QU f).length:=by rw[iS,Jg]
  rw[mZ] at wu;have wu:Sn XR PA (QU f).length pc (JI (QU f)):=by rw[iS] at wu;exact wu
  have gP:=lD f;have Jy:=WG I7;have aQz:=zC f;have o8:=bL.trans XD;have sS:=jQ9.trans XD;have K13:=K12.ext XD;have BG:=Cp.ext (Jx.trans (Xq.trans XD));have kQa:=I8.ext (sN.trans (Jx.trans (Xq.trans XD)));have mQf:(QU f).length<=60000:=by have:=aQz.1;omega
  have kQ0:∀s∈(QU f),rS s:=λs hs=>by
   exact⟨λb hb=>wt b (E8 _ s hs b hb),by have:=aQz.2 s hs;omega⟩
  have kQ1:∀e∈es.map EdV.ed,(∀b∈e.tx,b<256)/\e.tx.length<=1000:=λe he=>by
   obtain⟨e0,he0,rfl⟩:=ZY.1 he;exact ht e0 he0
  have Hi:∀o:BF,(QC nm.length o).length<=16:=λo=>Ze (Rq _ _) (Ze (Wu (by decide) kx) (by decide))
  have mQg:g.sg.length<=65536:=aQx.sl;have kQ2:∀i,(Qo ((QU f).take i)).length<=60000:=λi=>by
   have hu:∀a b:List (List Nat),Qo (a++b)=Qo a++Qo b:=λa b=>by simp[Qo]
   have e5:Qo (QU f)=Qo ((QU f).take i)++Qo ((QU f).drop i):=by rw[<-hu,qj]
   have:=QN List.length e5;rw[Jy,Qy] at this;omega
  refine loop Qa [46,13,14,15] (λt:Nat×List (List Nat)×Option Addr×Nat×Nat=>[.int .i64 t.1,.slice t.2.2.1 t.2.1.length t.2.2.2.1,.int .i64 (Qo ((QU f).take t.1)).length,.int .i64 t.2.2.2.2]) (λt w'=>Lo XR w' t.2.2.1 t.2.1.length t.2.2.2.1 t.2.1/\t.1<=(QU f).length/\ApR nm (oD x) g f (es.map EdV.ed) (QU f) t.1 t.2.1/\(∀j y,g.sg[j]? =some y->j<t.2.2.2.2->y.at_+(y.t-y.f)<=(Qo ((QU f).take t.1)).length)/\t.2.1.length<=t.1*16000048/\(∀u∈t.2.1,rS u)/\t.2.2.2.2<=g.sg.length) (λt _=>(QU f).length-t.1) (0,[],none,0,0) rfl ⟨⟨Ext.refl _,Own.nil _ _ _ _⟩,XM _,ApR.zero,(λj y _ hj=>Xm hj (Nat.not_lt_zero _)),XM _,(λu hu=>by cases hu),XM _⟩ ?_;rintro⟨i,L,LA,lc,seg⟩ Za ⟨qi,hi,bW,I9,IE,xv,aQA⟩;simp only at qi hi bW I9 IE xv aQA;have iJ:=qi.e;have Ae:=o8.trans iJ;have BH:=sS.trans iJ;refine QB (λc1=>?_) (λc1=>?_)
  ·have Q7:i<(QU f).length:=by simp only at c1;omega
   obtain⟨s,hs⟩:∃s,(QU f)[i]? =some s:=⟨_,Xs Q7⟩
   have fk:=Xe hs;have aY:=kQ0 s fk;have hut:=RF hs;have lQS:=kQ2 (i+1);have WZ:=RG (p:=0) hs;rw[a8] at WZ;refine Vz (cs:=JI (QU f)) (by rw[mZ];exact wu.1.ext iJ) (by rw[mZ];exact Q7) (λad u hA hu Xz=>?_);rw[fX hs] at hu;cases hu;refine load Xz ?_;refine call (zl (s++ [10]) Za (eQ aY.1)) ?_;rintro _ Ka ⟨rfl,Ve⟩;have xu:(Qf (s++ [10])).size=s.length+1:=by rw[XU];simp
   have Cg:(i+1)*16000048=i*16000048+16000048:=by omega
   rw[yY];refine QB (λd1=>?_) (λd1=>?_)
   ·refine XE Qa [[Value.string (Qf (s++ [10]))]] rfl rfl rfl rfl rfl ⟨rfl,rfl,⟨⟩⟩ rfl (λcs hh=>by simp only[QJ] at hh;subst hh;rfl) rfl (by decide) (by decide) ?_;intro WV VQ jQl YD;have sr:=Ve.trans VQ;have GN:Sl WV 1 (some ⟨Ka.heap.size,0,none⟩) 1 1 (JI [s]):=Sl.own' (n:=1) YD rfl (by decide);refine JE (n:=L.length) Qa rfl rfl rfl rfl rfl (by decide) rfl rfl ⟨_,rfl⟩ rfl rfl (qi.ext sr).ow GN (bC _) (by unfold maxLen;omega) (by show(L.length+1)*16<=_;omega) (qi.ext sr).e.size ?_;intro LA2 HH Vf kQb BB lQT;have kQc:=(qi.ext sr).app kQb BB;refine Qm ((Qo ((QU f).take (i+1))).length:Int) (by show((Qo ((QU f).take i)).length:Int)+((Qf (s++ [10])).size:Int)=_;rw[xu,hut];omega) (by omega) ?_;refine Qm ((i+1:Nat):Int) (by show((i:Nat):Int)+1=_;omega) (by omega) ?_;refine⟨(i+1,L++ [s],LA2,HH,seg),by simp only[Qy];rfl,⟨by simp only[Qy];exact kQc,Q7,bW.next hs (by rw[if_neg d1]),λj y hy hj=>by have:=I9 j y hy hj;simp only;omega,by simp only[Qy,nF];omega,λu hu=>?_,aQA⟩,by show(QU f).length-(i+1)<(QU f).length-i;omega⟩;rcases XB.1 hu with hu | hu
    ·exact xv u hu
    ·rw[QJ.1 hu];exact aY
   ·have La:Jb s= .txt:=Decidable.not_not.1 d1;obtain⟨kk,σ,y,fw⟩:=hQX YZ WZ La;have fw:SegAt g (Qo ((QU f).take i)).length kk σ y:=fw;have kQ3:=fw.cnd;have hσ:σ<g.sg.length:=(Zt.1 fw.get).1;have hsσ:seg<=σ:=by
     apply Classical.byContradiction;intro hh;have:=I9 σ y fw.get (by omega);have:=fw.hi;omega
    have U0:=iJ.trans Ve;have GL:=BG.ext U0;have kQd:=kQa.ext U0;have Xz:∀{w':World} (_:Ext Ka w') (sg:Nat) (z:Sx),MX[sg]? =some z->∃q,g.sg[sg]? =some q/\z.f=q.f/\z.t=q.t/\z.at_=q.at_/\Set1 nm.length z.x.nd z.x.r q.o:=λ_ sg z hz=>by
     have Xa:=(Zt.1 hz).1;obtain⟨q,hq⟩:∃q,g.sg[sg]? =some q:=⟨_,Xs (by omega)⟩
     obtain⟨a1,a2,a3,a4,a5⟩:=aQy.get hq hz;exact⟨q,hq,a1,a2,a4,a5⟩
    refine loop Qa [15] (λsg:Nat=>[.int .i64 sg]) (λsg w'=>Ext Ka w'/\sg<=σ) (λsg _=>σ-sg) seg rfl ⟨Ext.refl _,hsσ⟩ ?_;rintro sg WV ⟨VQ,Ck⟩;have HI:=GL.ext VQ;have HJ:=kQd.ext VQ;have HK:=Ext.drew WV;obtain⟨q0,VR⟩:∃q0,g.sg[sg]? =some q0:=⟨_,Xs (by omega)⟩
    have Ld:=kQZ.ok q0 (Xe VR);have hqf:=Ld.ft;have nz:=Ld.tl;obtain⟨x0,eY,dJ,_⟩:=Ld.src;have mQh:x0.2.length<=60000:=by
     have:q0.fl=0:=by
      have:=(Zt.1 eY).1;simpa [fF] using this
     rw[this] at eY;have:x0=([102],f):=(Option.some.inj eY).symm;rw[this];exact Kk
    have mQi:=aQx.tl;refine XJ Qa (Ext WV) 22 [(true,0),(true,1),(true,2),(true,3),(true,4),(true,5),(true,6),(true,7),(true,8),(true,9),(true,10),(true,11),(true,12),(true,13),(true,14),(true,15),(true,16),(true,17),(true,18),(true,19),(true,20),(true,21)] (by kernel_rfl) HK ?_;refine QL (v:=.slice SA g.sg.length scp) (λw' Qb=>(HI.ext Qb).cell 1) ?_;refine Zo zj HJ.sl rfl (by omega) (λpd z hz hc=>?_);obtain⟨q1,gw,z1,z2,z3,z4⟩:=Xz VQ sg z hz;rw[VR] at gw;cases gw;refine QL (v:=.int .i64 z.at_) (λw' Qb=>Qb.cell (hc 3 _ rfl)) ?_;refine QL (v:=.slice SA g.sg.length scp) (λw' Qb=>(HI.ext Qb).cell 1) ?_;refine Zo zj HJ.sl rfl (by omega) (λpd2 z' Wl Kc=>?_);rw[hz] at Wl;cases Wl;refine QL (v:=.int .i64 z.t) (λw' Qb=>Qb.cell (Kc 1 _ rfl)) ?_;refine Qm ((q0.at_+q0.t:Nat):Int) (by omega) (by omega) ?_;refine QL (v:=.slice SA g.sg.length scp) (λw' Qb=>(HI.ext Qb).cell 1) ?_;refine Zo zj HJ.sl rfl (by omega) (λpd3 z' Wl HL=>?_);rw[hz] at Wl;cases Wl;refine QL (v:=.int .i64 z.f) (λw' Qb=>Qb.cell (HL 0 _ rfl)) ?_;refine Qm ((q0.at_+(q0.t-q0.f):Nat):Int) (by omega) (by omega) ?_;refine QB (λc3=>?_) (λc3=>?_)
    ·have Xa:sg<σ:=by
      apply Classical.byContradiction;intro hh;have:sg=σ:=by omega
      subst this;rw[fw.get] at VR;cases VR;have:=fw.hi;simp only at c3;omega
     refine Qm ((sg+1:Nat):Int) (by show((sg:Nat):Int)+1=_;omega) (by omega) ?_;exact⟨sg+1,rfl,⟨VQ.trans HK,by omega⟩,by show σ-(sg+1)<σ-sg;omega⟩
    ·have Xa:sg=σ:=by
      apply Classical.byContradiction;intro hh;have:=fw.first sg q0 VR (by omega);simp only at c3;omega
     subst Xa;rw[fw.get] at VR;cases VR;have d4:QC nm.length (λe=>oD x e&&y.o e)=QC nm.length (Js (oD x) (rL g (Qo ((QU f).take i)).length)):=by rw[kQ3,<-fw.o]
     have my:Ext Za WV.drew:=Ve.trans (VQ.trans HK);have HM:=Ae.trans my;have pF:=iJ.trans my;have U4:=qi.ext my;have KN:=U4.ow.rows;generalize WV.drew=Vf at*;have YJ:=Ext.drew Vf;have z13:=sS.size;have kQe:=I6.ext (sS.trans pF);have U5:Ext w6 Vf:=(sN.trans (Jx.trans (Xq.trans XD))).trans pF;have jQ7:=(sN.trans (Jx.trans (Xq.trans XD))).size;have nx:¬Qi LA w.heap.size:=λh=>by have:=(KN _ h).1;have:=I6.lt;omega
     have nS:¬Qi LA w6.heap.size:=λh=>by have:=(KN _ h).1;have:=BG.lt;omega
     have kQf:=BG.ext pF;have hcL:LA=LA:=rfl;refine hQZ Qa [(8,.v (.pointer (some ⟨w1.heap.size,0,none⟩))),(9,.v (.pointer (some ⟨w2.heap.size,0,none⟩)))] rfl (λch w'=>eT nm f (es.map EdV.ed) (QC nm.length (λe=>oD x e&&y.o e)) (Qo ((QU f).take i)).length s=none/\ch=iu 291/\Ext Vf w') (λch aU hp=>by
      obtain⟨Xi,rfl,pG⟩:=hp;refine WC Qa (asx:= #[]) (cap:= #[.pointer (some ⟨w1.heap.size,0,none⟩),.pointer (some ⟨w2.heap.size,0,none⟩)]) rfl rfl (args:= #[.pointer (some ⟨w1.heap.size,0,none⟩),.pointer (some ⟨w2.heap.size,0,none⟩)]) (by simp) ((rN _ _ 291 aU _ _ QK (kQ.ext (sS.trans (pF.trans pG))) (d6.ext (sS.trans (pF.trans pG)))).mono ?_);rintro e u' pD ⟨v,rfl,bN,Yc⟩;refine⟨v,rfl,bN,?_⟩;refine Qv Yc.1 rfl ?_;refine Qv Yc.2.1 rfl ?_;have W3:M= .error 291:=by rw[<-Yt,bW.none hs (by rw[Qe La,<-d4];exact Xi)]
      rw[W3];exact⟨rfl,Yc.2.2.ext (XF.trans (sS.trans (pF.trans pG))) (λi hi=>by rcases hi with rfl | rfl<;>omega)⟩) (Mod (Qi LA) Vf) 15 [(true,0),(true,1),(true,2),(true,3),(true,4),(true,5),(true,6),(true,7),(true,8),(true,9),(true,10),(false,11),(false,12),(false,13),(true,14)] (by kernel_rfl) (Mod.of_ext _ YJ) ?_
     refine Xl (vs:=x.cells) rfl (λw' Qb k u hk=>by rw[(kQe.mod Qb nx).cell];exact hk) ?_;refine QL (v:=.slice SA g.sg.length scp) (λw' Qb=>(kQf.mod Qb nS).cell 1) ?_;refine Zo zj I8.sl rfl (by omega) (λU6 z' Wl U7=>?_);rw[hz] at Wl;cases Wl;have hpb:U6.block<w6.heap.size:=by
      have:=World.block_lt_of_cell? w6 _ (U7 4 _ rfl)
      rwa [nV] at this
     have npd:¬Qi LA U6.block:=λh=>by have:=(KN _ h).1;have:=BG.lt;omega
     refine Xl (vs:=[.slice z.x.A z.x.n z.x.c,.int .i64 z.x.r]) rfl (λw' Qb k u hk=>by
      rw[add_add];refine Qb.cell (U5.cell (U7 (4+k) u (by match k,hk with | 0,hk=>exact hk | 1,hk=>exact hk))) (by rw[nV];exact npd)) ?_
     have Kz:Set1 nm.length z.x.nd z.x.r y.o:=z4;have xe:=(I8.dg z (Xe hz)).ext U5;refine call (lP hk x z.x Vf.drew ((hx.ext HM).ext YJ) (xe.ext YJ) sx Kz) ?_;rintro _ KX ⟨QA,Qn,Qc,Qnd,Qr,rfl,mK,kQg,sQ,_⟩;have BI:=YJ.trans mK;refine⟨Mod.of_ext _ BI,?_⟩;have mz:=pF.trans BI;refine XI (hQQ p hB hV (Qo ((QU f).take i)).length s WZ ⟨QA,Qn,Qc,Qnd,Qr⟩ _ KX (K13.ext mz) kQg sQ) ?_ ?_
     rotate_left
     ·rintro ch aU ⟨Xi,rfl,kt⟩;exact⟨rfl,Xi,rfl,BI.trans kt⟩
     rintro u19 aU ⟨Lx,nv,A19,c19,rfl,kt,kQh⟩;have pG:=BI.trans kt;refine⟨Mod.of_ext _ pG,?_⟩;have nv:eT nm f (es.map EdV.ed) (QC nm.length (λe=>oD x e&&y.o e)) (Qo ((QU f).take i)).length s=some Lx:=nv;rw[d4] at nv;obtain⟨lx1,lx2⟩:=hQW Vw Kn wt Kk kQ1 (by rw[Jg];exact Cy) (Hi _) aY nv;have hmx:(Lx.map (·++ [10])).length=Lx.length:=by rw[Jg]
     have U8:i*16000048<=60000*16000048:=Wq _ (by omega);have HN:=U4.ext pG;refine JE (n:=L.length) Qa rfl rfl rfl rfl rfl (by decide) rfl rfl ⟨_,rfl⟩ rfl rfl HN.ow kQh.1 (bC _) (by unfold maxLen;omega) (by show(L.length+(Lx.map (·++ [10])).length)*16<=_;omega) HN.e.size ?_;intro LA2 HH Yo An kQi Aq;have kQj:Mod (Qi LA) Vf Yo:=(Mod.of_ext (Qi LA) pG).trans An (λi hi=>.inl hi);refine⟨kQj,?_⟩;have U9:=HN.app An kQi;refine Qm ((Qo ((QU f).take (i+1))).length:Int) (by show((Qo ((QU f).take i)).length:Int)+((Qf (s++ [10])).size:Int)=_;rw[xu,hut];omega) (by omega) ?_;refine Qm ((i+1:Nat):Int) (by show((i:Nat):Int)+1=_;omega) (by omega) ?_;refine⟨(i+1,L++Lx,LA2,HH,sg),by simp only[Qy,Jg];rfl,⟨by simp only[Qy];rw[hmx] at U9;exact U9,Q7,bW.next hs (by rw[Qe La];exact nv),λj y' pV hj=>by have:=fw.first j y' pV hj;simp only;omega,by simp only[Qy];omega,λu hu=>?_,by simp only;omega⟩,by show(QU f).length-(i+1)<(QU f).length-i;omega⟩;rcases XB.1 hu with hu | hu
     ·exact xv u hu
     ·exact lx2 u hu
  ·have Q7:i=(QU f).length:=by simp only at c1;omega
   have Cj:=bW.fin (by omega);rw[Cj] at Yt;simp only at Yt;obtain⟨LA',lc',vU,_,BJ⟩:=qi.fin (Ext.refl XR);simp only[Value.slice.injEq,Jg] at vU;obtain⟨rfl,_,rfl⟩:=vU;have U8:L.length<=60000*16000048:=Ze IE (Wq _ (by omega));have hub:(Qo L).length<=1000000000000000000:=by
    have h1:=rP (M:=1000000) (λu hu=>(xv u hu).2);have h2:=Wq (1000000+1) U8;omega
   have BJ:Sn Za LA L.length lc (JI L):=by rw[Jg] at BJ;exact BJ
   have hu8:∀b∈Qo L,b<256:=λb hb=>by
    obtain⟨u,hu,hb⟩:=fz.1 hb;exact eQ (xv u hu).1 b hb
   refine ZC (Zq Qa ?_);refine XI (Rj LA L.length lc L Za BJ hub) ?_ ?_
   rotate_left
   ·rintro ch _ ⟨pO,rfl,rfl⟩;refine WC Qa (asx:= #[]) (cap:= #[.pointer (some ⟨w1.heap.size,0,none⟩),.pointer (some ⟨w2.heap.size,0,none⟩)]) rfl rfl (args:= #[.pointer (some ⟨w1.heap.size,0,none⟩),.pointer (some ⟨w2.heap.size,0,none⟩)]) (by simp) ((rN _ _ 2 Za _ _ QK (kQ.ext BH) (d6.ext BH)).mono ?_);rintro e u' pD ⟨v,rfl,bN,Yc⟩;refine⟨v,rfl,bN,?_⟩;refine Qv Yc.1 rfl ?_;refine Qv Yc.2.1 rfl ?_;have W3:M= .error 2:=by rw[<-Yt,Qe pO]
    rw[W3];exact⟨rfl,Yc.2.2.ext (XF.trans BH) (λi hi=>by rcases hi with rfl | rfl<;>omega)⟩
   rintro _ Ka ⟨JQ,rfl,Ve⟩;rw[if_neg (by omega)] at Yt;have aQa:=BH.trans Ve;have UL:=Ae.trans Ve;refine Kq (kQ.ext aQa) (by simp[JB]) (λWV aQb YD=>?_);have YD:Blk WV w1.heap.size 9 [.string (Qf (Qo L))]:=YD;have HO:Ext w WV:=aQb.ext UL (λi hi=>by omega);have aQc:=(d6.ext aQa).mod aQb QK.symm;refine ZC (Zq Qa ?_);refine Qv YD rfl ?_;refine XE Qa [fQ ([102],Qo L)] rfl rfl rfl rfl rfl ⟨rfl,rfl,⟨⟩⟩ rfl (λcs h=>by simp only[QJ] at h;subst h;rfl) rfl (by decide) (by decide) ?_;intro Vf sk jQV mv;have HM:=HO.trans sk;refine call (OZ nm NA nn nc (fF (Qo L)) _ 1 1 [102] Vf (hN.ext HM) Vw hk (RI (w:=w) mv) (RJ hu8 (by omega)) (by decide) (by decide)) ?_;rintro u18 KX ⟨mK,BK⟩;have aQd:=sk.trans mK;have fin:∀(P:Value) (q:Pl) (KX:World),True:=λ_ _ _=>trivial
   cases WR:Y9 nm (fF (Qo L)) [102] with
   | error q=>
    rw[WR] at BK Yt;simp only at Yt;subst BK;refine new (λaU kt SR vK=>?_);refine new (λYo wv SS HP=>?_);refine Qx (vK.ext wv) rfl (sc rfl) (λgr vL kQk ss=>?_);have iG:Mod (·=KX.heap.size) Yo gr:=mQj vL rfl;have HQ:¬aU.heap.size=KX.heap.size:=by omega
    refine Qx (HP.mod iG HQ) rfl (sc rfl) (λao HS kQl pq=>?_);have HT:Mod (·=aU.heap.size) gr ao:=mQj HS rfl;have HU:Ext KX ao:=HT.ext (iG.ext (kt.trans wv) (λi hi=>by omega)) (λi hi=>by omega);have pH:=aQd.trans HU;have sT:=YD.ext pH;have CC:=aQc.ext pH;have BL:=HO.trans pH;refine Qv pq rfl ?_;refine Zn (λh2=>?_) (λh2=>?_)
    ·have h2:q.e=2:=h2;rw[Qe h2] at Yt;refine XI (Yl 2 (by decide) ao) (λ_ _ hf=>hf.elim) ?_;rintro ch _ ⟨rfl,rfl⟩;refine WC Qa (asx:= #[]) (cap:= #[.pointer (some ⟨w1.heap.size,0,none⟩),.pointer (some ⟨w2.heap.size,0,none⟩)]) rfl rfl (args:= #[.pointer (some ⟨w1.heap.size,0,none⟩),.pointer (some ⟨w2.heap.size,0,none⟩)]) (by simp) ((rN _ _ 2 ao _ _ QK sT CC).mono ?_);rintro e u' pD ⟨v,rfl,bN,Yc⟩;refine⟨v,rfl,bN,?_⟩;refine Qv Yc.1 rfl ?_;refine Qv Yc.2.1 rfl ?_;have W3:M= .error 2:=Yt.symm;rw[W3];exact⟨rfl,Yc.2.2.ext BL (λi hi=>by rcases hi with rfl | rfl<;>omega)⟩
    have h2:q.e≠2:=h2;rw[if_neg h2] at Yt;refine Zq Qa ?_;refine Qv sT rfl ?_;refine Kq sT (by simp) (λHV ww mi=>?_);refine Kq (CC.mod ww QK.symm) (by simp[JB]) (λBM j5 kh=>?_);refine eI Qa rfl rfl (.inl rfl) (args:= #[.pointer (some ⟨w1.heap.size,0,none⟩),.pointer (some ⟨w2.heap.size,0,none⟩)]) (by simp) ((Rn _ _ BM).mono ?_);rintro e u' pD ⟨v,rfl,bN,rfl⟩;refine⟨v,rfl,bN,?_⟩;refine Qv (mi.mod j5 QK) rfl ?_;refine Qv kh rfl ?_;exact⟨by rw[<-Yt];rfl,j5.ext (ww.ext BL (λj hj=>by omega)) (λj hj=>by omega)⟩
   | ok g2=>
    rw[WR] at BK Yt;simp only at Yt;obtain⟨_,SA2,sc2,SL2,rfl,_⟩:=BK;refine new (λaU kt SR vK=>?_);refine new (λYo wv SS HP=>?_);refine Qx (vK.ext wv) rfl (sc rfl) (λgr vL kQk ss=>?_);have iG:Mod (·=KX.heap.size) Yo gr:=mQj vL rfl;have HQ:¬aU.heap.size=KX.heap.size:=by omega
    refine Qx (HP.mod iG HQ) rfl (sc rfl) (λao HS kQl pq=>?_);have HT:Mod (·=aU.heap.size) gr ao:=mQj HS rfl;have HU:Ext KX ao:=HT.ext (iG.ext (kt.trans wv) (λi hi=>by omega)) (λi hi=>by omega);have pH:=aQd.trans HU;have sT:=YD.ext pH;have CC:=aQc.ext pH;have BL:=HO.trans pH;refine Qv pq rfl ?_;refine XP (by decide) ?_;refine Zq Qa ?_;refine Qv sT rfl ?_;refine Kq sT (by simp) (λHV ww mi=>?_);refine Kq (CC.mod ww QK.symm) (by simp[JB]) (λBM j5 kh=>?_);refine eI Qa rfl rfl (.inl rfl) (args:= #[.pointer (some ⟨w1.heap.size,0,none⟩),.pointer (some ⟨w2.heap.size,0,none⟩)]) (by simp) ((Rn _ _ BM).mono ?_);rintro e u' pD ⟨v,rfl,bN,rfl⟩;refine⟨v,rfl,bN,?_⟩;refine Qv (mi.mod j5 QK) rfl ?_;refine Qv kh rfl ?_;exact⟨by rw[<-Yt];rfl,j5.ext (ww.ext BL (λj hj=>by omega)) (λj hj=>by omega)⟩
theorem oS {k:Nat}{x:DV}{o:BF}(s:Set1 k x.nd x.r o):oD x=o:=funext (λe=>s.mean e)
theorem E9 {k v:Nat}(hv:v<k)(hk:k<=12)(w:World):Fn Tryz.prog 34 [.int .i64 v] w (uK w k (λe=>e v)):=by
 refine(D7 (v:Int) w (by omega) (by omega)).mono ?_;rintro u w' ⟨A,n,c,rfl,hE,hb,hr⟩;exact⟨A,n,c,_,_,rfl,hE,hb,Ew hv (by omega),hr⟩
theorem Fa {k:Nat}(hk:k<=12)(x:DV){o:BF}(w:World)(h:SB w x.A x.n x.c x.nd)(s:Set1 k x.nd x.r o):Fn Tryz.prog 35 [Xg x.A x.n x.c x.r] w (uK w k (λe=> !o e)):=by
 refine(Ea x.A x.n x.c x.nd x.r w h).mono ?_;have s0:Set1 k [] 0 (λ_=>false):=aH k false;rw[fM hk s s0 3];have c1:Set1 k _ _ (λe=> !o e):=(dx s s0 3).congr (λe=>by simp[J5]);generalize Vo x.nd x.r [] 0 3=D at*;obtain⟨D1,D2⟩:=D;rintro u w' ⟨A,n,c,rfl,hE,hb,hr⟩;exact⟨A,n,c,_,_,rfl,hE,hb,c1,hr⟩
theorem RK {k:Nat}(hk:k<=12)(x y:DV){o o':BF}(w:World)(h:SB w x.A x.n x.c x.nd)(h':SB w y.A y.n y.c y.nd)(s:Set1 k x.nd x.r o)(s':Set1 k y.nd y.r o'):
  Fn Tryz.prog 36 [Xg x.A x.n x.c x.r,Xg y.A y.n y.c y.r] w (uK w k (λe=>o e&&o' e)):=by
 refine(uC x.A x.n x.c x.nd x.r y.A y.n y.c y.nd y.r w h h').mono ?_;rw[fM hk s s' 0];have c1:Set1 k _ _ (λe=>o e&&o' e):=(dx s s' 0).congr (λe=>by simp[J5]);generalize Vo x.nd x.r y.nd y.r 0=D at*;obtain⟨D1,D2⟩:=D;rintro v w' ⟨PA,q,pc,rfl,hE,hP,hR⟩;exact⟨PA,q,pc,D1,D2,rfl,hE,hP,c1,hR⟩
def hQ5 (r:Except Int (List Nat))(t:List Nat):Bool:=match r with
 | .ok l=>decide (l=t)
 | .error _=>false
def Ky:List (List Nat):=[[65],[66]]
theorem Fb:Ke Ky:=λs hs=>by
 simp only[Ky,QX,Z3,Z9] at hs;rcases hs with rfl | rfl<;>exact⟨by decide,by decide⟩
theorem Fc:∀s∈Ky,s.length<=1000:=by decide
def zK (yes no:List Nat):Except Int (List Nat):=dG Ky (λ_=>true) [⟨λe=>e 0,yes⟩,⟨λe=> !e 0,no⟩]
theorem Fd (yes no want:List Nat)(hy:(∀b∈yes,b<256)/\yes.length<=2000)(hn:(∀b∈no,b<256)/\no.length<=2000)(w:World)(Zl:zK yes no= .ok want):
  Fn Tryz.prog 38 [.string (Qf yes),.string (Qf no),.string (Qf want)] w (λu w'=>u= .bool true/\Ext w w'):=by
 refine QF (c:={c38 with cuts:=[]}) Qa Tryz.func38 rfl rfl rfl ?_;refine call (E9 (k:=2) (v:=0) (by decide) (by decide) w) ?_;rintro _ w1 ⟨A1,n1,c1,d1,r1,rfl,Qd,Gv,s1,_⟩;refine new (λw2 Qg X9 Qw=>?_);refine Qx Qw rfl (sc rfl) (λw3 ZT _ Qu=>?_);have XD:Ext w1 w3:=X0 Qg Qw ZT;refine Qs Qu rfl ?_;refine call (Fa (k:=2) (by decide) ⟨A1,n1,c1,d1,r1⟩ w3 (Gv.ext XD) s1) ?_;rintro _ w4 ⟨A2,n2,c2,d2,r2,rfl,Qq,hb2,s2,_⟩;refine new (λw5 Qt Kv QH=>?_);refine Qx QH rfl (sc rfl) (λw6 Wd _ Xh=>?_);have Xx:Ext w4 w6:=X0 Qt QH Wd;have KD:=Qq.trans Xx;have XG:=Qd.trans (XD.trans KD);have kQm:=Qu.ext KD;have hd:=Ext.drew w6;have fin:∀(NA:Option Addr) (nc:Nat) (PA:Option Addr) (pc:Nat) (w':World),Ext w6 w'->Sl w' 1 NA 2 nc (X4 Ky)->SlS Jd 3 w' PA 2 pc [(⟨A1,n1,c1,d1,r1⟩,yes),(⟨A2,n2,c2,d2,r2⟩,no)]->
   Fn Tryz.prog 24 [.slice NA 2 nc,Xg none 0 0 1,.slice PA 2 pc] w' (λu KL=>u= .tuple #[.string (Qf want),.int .i64 0]/\Ext w' KL):=λNA nc PA pc w' fq Le Lf=>by
  refine(zD NA 2 nc Ky ⟨none,0,0,[],1⟩ PA 2 pc _ (by decide) Fb Fc (λq hq=>by
   simp only[QX,Z3,Z9] at hq;rcases hq with rfl | rfl
   ·exact hy
   ·exact hn) w' Le (SlS.nil _) Lf (λq hq=>by
   simp only[QX,Z3,Z9] at hq;rcases hq with rfl | rfl
   ·exact Gv.ext (XD.trans (KD.trans fq))
   ·exact hb2.ext (Xx.trans fq))).mono ?_
  rintro u KL ⟨rfl,Lg⟩;refine⟨?_,Lg⟩;have sc:Set1 2 [] 1 (λ_=>true):=aH 2 true;rw[E2 (nm:=Ky) (x:=⟨none,0,0,[],1⟩) (by decide) (io (x:=⟨none,0,0,[],1⟩) (by decide) sc).1 (λq hq=>by
   simp only[QX,Z3,Z9] at hq;rcases hq with rfl | rfl
   ·exact(io (by decide) s1).1
   ·exact(io (by decide) s2).1)]
  have e0:oD ⟨none,0,0,[],1⟩=λ_=>true:=oS (x:=⟨none,0,0,[],1⟩) sc
  have e1:oD ⟨A1,n1,c1,d1,r1⟩=λe=>e 0:=oS (x:=⟨A1,n1,c1,d1,r1⟩) s1
  have e2:oD ⟨A2,n2,c2,d2,r2⟩=λe=> !e 0:=oS (x:=⟨A2,n2,c2,d2,r2⟩) s2
  rw[e0];have e3:Zi [((⟨A1,n1,c1,d1,r1⟩:DV),yes),(⟨A2,n2,c2,d2,r2⟩,no)]=[⟨λe=>e 0,yes⟩,⟨λe=> !e 0,no⟩]:=by
   simp only[Zi,YK,List.map_nil,e1,e2]
  rw[e3];have:dG Ky (λ_=>true) [⟨λe=>e 0,yes⟩,⟨λe=> !e 0,no⟩]= .ok want:=Zl;rw[this]<;>rfl
 refine EJ Qa (Ext w6) 15 (.quiet 2 (.quiet 3 (.quiet 4 (.quiet 5 (.quiet 6 (.quiet 7 (.fork 0 (.fork 1 (.fork 8 (.fork 9 (.quiet 10 (.quiet 11 (.quiet 12 (.quiet 13 (.quiet 14 .done))))) .skip) .skip) (.fork 8 (.fork 1 (.fork 9 (.quiet 10 (.quiet 11 (.quiet 12 (.quiet 13 (.quiet 14 .done))))) .skip) .skip) .skip)) (.fork 1 (.fork 0 (.fork 8 (.fork 9 (.quiet 10 (.quiet 11 (.quiet 12 (.quiet 13 (.quiet 14 .done))))) .skip) .skip) (.fork 8 (.fork 0 (.fork 9 (.quiet 10 (.quiet 11 (.quiet 12 (.quiet 13 (.quiet 14 .done))))) .skip) .skip) .skip)) (.fork 8 (.fork 0 (.fork 1 (.fork 9 (.quiet 10 (.quiet 11 (.quiet 12 (.quiet 13 (.quiet 14 .done))))) .skip) .skip) (.fork 1 (.fork 0 (.fork 9 (.quiet 10 (.quiet 11 (.quiet 12 (.quiet 13 (.quiet 14 .done))))) .skip) .skip) .skip)) .skip))))))))) (by kernel_rfl) hd ?_;refine Xl (vs:=[.slice A1 n1 c1,.int .i64 r1]) rfl (λw' Qb k u hk=>by rw[(kQm.ext Qb).cell];exact hk) ?_;refine Xl (vs:=[.slice A2 n2 c2,.int .i64 r2]) rfl (λw' Qb k u hk=>by rw[(Xh.ext Qb).cell];exact hk) ?_;refine⟨?_,?_,?_,trivial⟩
 ·refine XE Qa [[Value.string (Qf [65])],[Value.string (Qf [66])]] rfl rfl rfl rfl rfl ⟨rfl,rfl,rfl,rfl,⟨⟩⟩ rfl (λcs h=>by simp only[QX,Z3,Z9] at h;rcases h with rfl | rfl<;>rfl) rfl (by decide) (by decide) ?_;intro v1 g1 _ pI;have f1:=hd.trans g1;refine⟨f1,?_⟩;refine⟨?_,?_,trivial⟩
  ·refine call (bw true _) ?_;rintro _ v2 ⟨rfl,g2⟩;have f2:=f1.trans g2;refine⟨f2,?_⟩;refine⟨?_,trivial⟩
   ·refine XE Qa [Jd (⟨A1,n1,c1,d1,r1⟩,yes),Jd (⟨A2,n2,c2,d2,r2⟩,no)] rfl rfl rfl rfl rfl ⟨rfl,rfl,rfl,rfl,⟨⟩⟩ rfl (λcs h=>by simp only[QX,Z3,Z9] at h;rcases h with rfl | rfl<;>rfl) rfl (by decide) (by decide) ?_;intro v3 g3 _ cR;have f3:=f2.trans g3;refine⟨f3,?_⟩;refine⟨?_,trivial⟩;refine call (fin _ 2 _ 2 v3 f3 (Sl.own' (n:=2) (pI.ext (g2.trans g3)) rfl (by decide)) ⟨Sl.own (sz:=3) (n:=2) cR (QE _) (by decide) (by simp[Jd]),rfl⟩) ?_;rintro _ w9 ⟨rfl,Xw⟩;refine⟨f3.trans Xw,?_⟩;refine Xc rfl ?_;exact⟨QN Value.bool (XX rfl),XG.trans (f3.trans Xw)⟩
  ·refine XE Qa [Jd (⟨A1,n1,c1,d1,r1⟩,yes),Jd (⟨A2,n2,c2,d2,r2⟩,no)] rfl rfl rfl rfl rfl ⟨rfl,rfl,rfl,rfl,⟨⟩⟩ rfl (λcs h=>by simp only[QX,Z3,Z9] at h;rcases h with rfl | rfl<;>rfl) rfl (by decide) (by decide) ?_;intro v2 g2 _ HW;have f2:=f1.trans g2;refine⟨f2,?_⟩;refine⟨?_,trivial⟩
   ·refine call (bw true _) ?_;rintro _ v3 ⟨rfl,g3⟩;have f3:=f2.trans g3;refine⟨f3,?_⟩;refine⟨?_,trivial⟩;refine call (fin _ 2 _ 2 v3 f3 (Sl.own' (n:=2) (pI.ext (g2.trans g3)) rfl (by decide)) ⟨Sl.own (sz:=3) (n:=2) (HW.ext g3) (QE _) (by decide) (by simp[Jd]),rfl⟩) ?_;rintro _ w9 ⟨rfl,Xw⟩;refine⟨f3.trans Xw,?_⟩;refine Xc rfl ?_;exact⟨QN Value.bool (XX rfl),XG.trans (f3.trans Xw)⟩
 ·refine call (bw true _) ?_;rintro _ v1 ⟨rfl,g1⟩;have f1:=hd.trans g1;refine⟨f1,?_⟩;refine⟨?_,?_,trivial⟩
  ·refine XE Qa [[Value.string (Qf [65])],[Value.string (Qf [66])]] rfl rfl rfl rfl rfl ⟨rfl,rfl,rfl,rfl,⟨⟩⟩ rfl (λcs h=>by simp only[QX,Z3,Z9] at h;rcases h with rfl | rfl<;>rfl) rfl (by decide) (by decide) ?_;intro v2 g2 _ pJ;have f2:=f1.trans g2;refine⟨f2,?_⟩;refine⟨?_,trivial⟩
   ·refine XE Qa [Jd (⟨A1,n1,c1,d1,r1⟩,yes),Jd (⟨A2,n2,c2,d2,r2⟩,no)] rfl rfl rfl rfl rfl ⟨rfl,rfl,rfl,rfl,⟨⟩⟩ rfl (λcs h=>by simp only[QX,Z3,Z9] at h;rcases h with rfl | rfl<;>rfl) rfl (by decide) (by decide) ?_;intro v3 g3 _ cR;have f3:=f2.trans g3;refine⟨f3,?_⟩;refine⟨?_,trivial⟩;refine call (fin _ 2 _ 2 v3 f3 (Sl.own' (n:=2) (pJ.ext g3) rfl (by decide)) ⟨Sl.own (sz:=3) (n:=2) cR (QE _) (by decide) (by simp[Jd]),rfl⟩) ?_;rintro _ w9 ⟨rfl,Xw⟩;refine⟨f3.trans Xw,?_⟩;refine Xc rfl ?_;exact⟨QN Value.bool (XX rfl),XG.trans (f3.trans Xw)⟩
  ·refine XE Qa [Jd (⟨A1,n1,c1,d1,r1⟩,yes),Jd (⟨A2,n2,c2,d2,r2⟩,no)] rfl rfl rfl rfl rfl ⟨rfl,rfl,rfl,rfl,⟨⟩⟩ rfl (λcs h=>by simp only[QX,Z3,Z9] at h;rcases h with rfl | rfl<;>rfl) rfl (by decide) (by decide) ?_;intro v2 g2 _ HW;have f2:=f1.trans g2;refine⟨f2,?_⟩;refine⟨?_,trivial⟩
   ·refine XE Qa [[Value.string (Qf [65])],[Value.string (Qf [66])]] rfl rfl rfl rfl rfl ⟨rfl,rfl,rfl,rfl,⟨⟩⟩ rfl (λcs h=>by simp only[QX,Z3,Z9] at h;rcases h with rfl | rfl<;>rfl) rfl (by decide) (by decide) ?_;intro v3 g3 _ fc;have f3:=f2.trans g3;refine⟨f3,?_⟩;refine⟨?_,trivial⟩;refine call (fin _ 2 _ 2 v3 f3 (Sl.own' (n:=2) fc rfl (by decide)) ⟨Sl.own (sz:=3) (n:=2) (HW.ext g3) (QE _) (by decide) (by simp[Jd]),rfl⟩) ?_;rintro _ w9 ⟨rfl,Xw⟩;refine⟨f3.trans Xw,?_⟩;refine Xc rfl ?_;exact⟨QN Value.bool (XX rfl),XG.trans (f3.trans Xw)⟩
 ·refine XE Qa [Jd (⟨A1,n1,c1,d1,r1⟩,yes),Jd (⟨A2,n2,c2,d2,r2⟩,no)] rfl rfl rfl rfl rfl ⟨rfl,rfl,rfl,rfl,⟨⟩⟩ rfl (λcs h=>by simp only[QX,Z3,Z9] at h;rcases h with rfl | rfl<;>rfl) rfl (by decide) (by decide) ?_;intro v1 g1 _ hP1;have f1:=hd.trans g1;refine⟨f1,?_⟩;refine⟨?_,?_,trivial⟩
  ·refine XE Qa [[Value.string (Qf [65])],[Value.string (Qf [66])]] rfl rfl rfl rfl rfl ⟨rfl,rfl,rfl,rfl,⟨⟩⟩ rfl (λcs h=>by simp only[QX,Z3,Z9] at h;rcases h with rfl | rfl<;>rfl) rfl (by decide) (by decide) ?_;intro v2 g2 _ pJ;have f2:=f1.trans g2;refine⟨f2,?_⟩;refine⟨?_,trivial⟩
   ·refine call (bw true _) ?_;rintro _ v3 ⟨rfl,g3⟩;have f3:=f2.trans g3;refine⟨f3,?_⟩;refine⟨?_,trivial⟩;refine call (fin _ 2 _ 2 v3 f3 (Sl.own' (n:=2) (pJ.ext g3) rfl (by decide)) ⟨Sl.own (sz:=3) (n:=2) (hP1.ext (g2.trans g3)) (QE _) (by decide) (by simp[Jd]),rfl⟩) ?_;rintro _ w9 ⟨rfl,Xw⟩;refine⟨f3.trans Xw,?_⟩;refine Xc rfl ?_;exact⟨QN Value.bool (XX rfl),XG.trans (f3.trans Xw)⟩
  ·refine call (bw true _) ?_;rintro _ v2 ⟨rfl,g2⟩;have f2:=f1.trans g2;refine⟨f2,?_⟩;refine⟨?_,trivial⟩
   ·refine XE Qa [[Value.string (Qf [65])],[Value.string (Qf [66])]] rfl rfl rfl rfl rfl ⟨rfl,rfl,rfl,rfl,⟨⟩⟩ rfl (λcs h=>by simp only[QX,Z3,Z9] at h;rcases h with rfl | rfl<;>rfl) rfl (by decide) (by decide) ?_;intro v3 g3 _ fc;have f3:=f2.trans g3;refine⟨f3,?_⟩;refine⟨?_,trivial⟩;refine call (fin _ 2 _ 2 v3 f3 (Sl.own' (n:=2) fc rfl (by decide)) ⟨Sl.own (sz:=3) (n:=2) (hP1.ext (g2.trans g3)) (QE _) (by decide) (by simp[Jd]),rfl⟩) ?_;rintro _ w9 ⟨rfl,Xw⟩;refine⟨f3.trans Xw,?_⟩;refine Xc rfl ?_;exact⟨QN Value.bool (XX rfl),XG.trans (f3.trans Xw)⟩
def oT (file:List Nat)(e:Ed):Except Int (List Nat):=E0 Ky (λ_=>true) file [e]
theorem RL (file:List Nat)(e:EdV){o:BF}(hf:(∀b∈file,b<256)/\file.length<=60000)(dM: -9223372036854775808<=e.fr/\e.fr<=9223372036854775807/\ -9223372036854775808<=e.to_/\e.to_<=9223372036854775807)(ht:(∀b∈e.tx,b<256)/\e.tx.length<=1000)(se:Set1 2 e.x.nd e.x.r o)
  (NA:Option Addr) (nc:Nat) (EA:Option Addr) (ec:Nat) (w:World) (hb:SB w e.x.A e.x.n e.x.c e.x.nd) (hN:Sl w 1 NA 2 nc (X4 Ky)) (hE:SlS J8 5 w EA 1 ec [e]):
  Fn Tryz.prog 15 [.slice NA 2 nc,Xg none 0 0 1,.string (Qf file),.slice EA 1 ec] w (λu w'=>u=rO (oT file ⟨e.fr,e.to_,e.tx,o⟩)/\Ext w w'):=by
 refine(hQ2 NA 2 nc Ky ⟨none,0,0,[],1⟩ file EA 1 ec [e] (by decide) Fb Fc hf.1 hf.2 (λb hb=>by rw[QJ.1 hb];exact dM) (λb hb=>by rw[QJ.1 hb];exact ht) (by show 1<=10;decide) w hN (SlS.nil _) hE (λb hb2=>by rw[QJ.1 hb2];exact hb)).mono ?_;rintro u w' ⟨rfl,fq⟩;refine⟨?_,fq⟩;have sc:Set1 2 [] 1 (λ_=>true):=aH 2 true;have e0:oD ⟨none,0,0,[],1⟩=λ_=>true:=oS (x:=⟨none,0,0,[],1⟩) sc
 have o1:J7 Ky.length [] 1=true:=(io (x:=⟨none,0,0,[],1⟩) (n:=2) (by decide) sc).1;have o2:J7 Ky.length e.x.nd e.x.r=true:=(io (n:=2) (by decide) se).1;have e3: [e].map EdV.ed=[⟨e.fr,e.to_,e.tx,o⟩]:=by
  show [(⟨e.fr,e.to_,e.tx,oD e.x⟩:Ed)]=_;rw[oS se]
 unfold rM oT;rw[if_neg (by rw[show ZJ Ky=true from by decide];show¬(true=false∨J7 Ky.length [] 1=false);rw[o1];decide),Qe (by simp only[xA,List.all_nil,Bool.and_true];exact o2),e0,e3]
theorem Fe (file want:List Nat)(e:EdV){o:BF}(hf:(∀b∈file,b<256)/\file.length<=60000)(dM: -9223372036854775808<=e.fr/\e.fr<=9223372036854775807/\ -9223372036854775808<=e.to_/\e.to_<=9223372036854775807)(ht:(∀b∈e.tx,b<256)/\e.tx.length<=1000)(se:Set1 2 e.x.nd e.x.r o)(w:World)(hb:SB w e.x.A e.x.n e.x.c e.x.nd)(Zl:oT file ⟨e.fr,e.to_,e.tx,o⟩= .ok want):
  Fn Tryz.prog 39 [.string (Qf file),.agg (J8 e).toArray,.string (Qf want)] w (λu w'=>u= .bool true/\Ext w w'):=by
 refine QF (c:={c39 with cuts:=[]}) Qa Tryz.func39 rfl rfl rfl ?_;refine new (λw6 XG cL Xh=>?_);have hd:=Ext.drew w6;have fin:∀(NA:Option Addr) (nc:Nat) (EA:Option Addr) (ec:Nat) (w':World),Ext w6 w'->Sl w' 1 NA 2 nc (X4 Ky)->SlS J8 5 w' EA 1 ec [e]->
   Fn Tryz.prog 15 [.slice NA 2 nc,Xg none 0 0 1,.string (Qf file),.slice EA 1 ec] w' (λu KL=>u= .tuple #[.string (Qf want),.int .i64 0]/\Ext w' KL):=λNA nc EA ec w' fq Le Lf=>by
  refine(RL file e hf dM ht se NA nc EA ec w' (hb.ext (XG.trans fq)) Le Lf).mono ?_;rintro u KL ⟨rfl,Lg⟩;rw[Zl];exact⟨rfl,Lg⟩
 refine EJ Qa (Ext w6) 11 (.quiet 2 (.quiet 3 (.fork 0 (.fork 1 (.fork 4 (.fork 5 (.quiet 6 (.quiet 7 (.quiet 8 (.quiet 9 (.quiet 10 .done))))) .skip) .skip) (.fork 4 (.fork 1 (.fork 5 (.quiet 6 (.quiet 7 (.quiet 8 (.quiet 9 (.quiet 10 .done))))) .skip) .skip) .skip)) (.fork 1 (.fork 0 (.fork 4 (.fork 5 (.quiet 6 (.quiet 7 (.quiet 8 (.quiet 9 (.quiet 10 .done))))) .skip) .skip) (.fork 4 (.fork 0 (.fork 5 (.quiet 6 (.quiet 7 (.quiet 8 (.quiet 9 (.quiet 10 .done))))) .skip) .skip) .skip)) (.fork 4 (.fork 0 (.fork 1 (.fork 5 (.quiet 6 (.quiet 7 (.quiet 8 (.quiet 9 (.quiet 10 .done))))) .skip) .skip) (.fork 1 (.fork 0 (.fork 5 (.quiet 6 (.quiet 7 (.quiet 8 (.quiet 9 (.quiet 10 .done))))) .skip) .skip) .skip)) .skip))))) (by kernel_rfl) hd ?_;refine Xl (vs:=J8 e) rfl (λw' Qb k u hk=>by rw[(Xh.ext Qb).cell];exact hk) ?_;refine⟨?_,?_,?_,trivial⟩
 ·refine XE Qa [[Value.string (Qf [65])],[Value.string (Qf [66])]] rfl rfl rfl rfl rfl ⟨rfl,rfl,rfl,rfl,⟨⟩⟩ rfl (λcs h=>by simp only[QX,Z3,Z9] at h;rcases h with rfl | rfl<;>rfl) rfl (by decide) (by decide) ?_;intro v1 g1 _ pI;have f1:=hd.trans g1;refine⟨f1,?_⟩;refine⟨?_,?_,trivial⟩
  ·refine call (bw true _) ?_;rintro _ v2 ⟨rfl,g2⟩;have f2:=f1.trans g2;refine⟨f2,?_⟩;refine⟨?_,trivial⟩
   ·refine XE Qa [J8 e] rfl rfl rfl rfl rfl ⟨rfl,rfl,⟨⟩⟩ rfl (λcs h=>by simp only[QJ] at h;subst h;rfl) rfl (by decide) (by decide) ?_;intro v3 g3 _ Qj;have f3:=f2.trans g3;refine⟨f3,?_⟩;refine⟨?_,trivial⟩;refine call (fin _ 2 _ 1 v3 f3 (Sl.own' (n:=2) (pI.ext (g2.trans g3)) rfl (by decide)) ⟨Sl.own (sz:=5) (n:=1) Qj (QE _) (by decide) (by simp[J8]),rfl⟩) ?_;rintro _ w9 ⟨rfl,Xw⟩;refine⟨f3.trans Xw,?_⟩;refine Xc rfl ?_;exact⟨QN Value.bool (XX rfl),XG.trans (f3.trans Xw)⟩
  ·refine XE Qa [J8 e] rfl rfl rfl rfl rfl ⟨rfl,rfl,⟨⟩⟩ rfl (λcs h=>by simp only[QJ] at h;subst h;rfl) rfl (by decide) (by decide) ?_;intro v2 g2 _ Qg;have f2:=f1.trans g2;refine⟨f2,?_⟩;refine⟨?_,trivial⟩
   ·refine call (bw true _) ?_;rintro _ v3 ⟨rfl,g3⟩;have f3:=f2.trans g3;refine⟨f3,?_⟩;refine⟨?_,trivial⟩;refine call (fin _ 2 _ 1 v3 f3 (Sl.own' (n:=2) (pI.ext (g2.trans g3)) rfl (by decide)) ⟨Sl.own (sz:=5) (n:=1) (Qg.ext g3) (QE _) (by decide) (by simp[J8]),rfl⟩) ?_;rintro _ w9 ⟨rfl,Xw⟩;refine⟨f3.trans Xw,?_⟩;refine Xc rfl ?_;exact⟨QN Value.bool (XX rfl),XG.trans (f3.trans Xw)⟩
 ·refine call (bw true _) ?_;rintro _ v1 ⟨rfl,g1⟩;have f1:=hd.trans g1;refine⟨f1,?_⟩;refine⟨?_,?_,trivial⟩
  ·refine XE Qa [[Value.string (Qf [65])],[Value.string (Qf [66])]] rfl rfl rfl rfl rfl ⟨rfl,rfl,rfl,rfl,⟨⟩⟩ rfl (λcs h=>by simp only[QX,Z3,Z9] at h;rcases h with rfl | rfl<;>rfl) rfl (by decide) (by decide) ?_;intro v2 g2 _ pJ;have f2:=f1.trans g2;refine⟨f2,?_⟩;refine⟨?_,trivial⟩
   ·refine XE Qa [J8 e] rfl rfl rfl rfl rfl ⟨rfl,rfl,⟨⟩⟩ rfl (λcs h=>by simp only[QJ] at h;subst h;rfl) rfl (by decide) (by decide) ?_;intro v3 g3 _ Qj;have f3:=f2.trans g3;refine⟨f3,?_⟩;refine⟨?_,trivial⟩;refine call (fin _ 2 _ 1 v3 f3 (Sl.own' (n:=2) (pJ.ext g3) rfl (by decide)) ⟨Sl.own (sz:=5) (n:=1) Qj (QE _) (by decide) (by simp[J8]),rfl⟩) ?_;rintro _ w9 ⟨rfl,Xw⟩;refine⟨f3.trans Xw,?_⟩;refine Xc rfl ?_;exact⟨QN Value.bool (XX rfl),XG.trans (f3.trans Xw)⟩
  ·refine XE Qa [J8 e] rfl rfl rfl rfl rfl ⟨rfl,rfl,⟨⟩⟩ rfl (λcs h=>by simp only[QJ] at h;subst h;rfl) rfl (by decide) (by decide) ?_;intro v2 g2 _ Qg;have f2:=f1.trans g2;refine⟨f2,?_⟩;refine⟨?_,trivial⟩
   ·refine XE Qa [[Value.string (Qf [65])],[Value.string (Qf [66])]] rfl rfl rfl rfl rfl ⟨rfl,rfl,rfl,rfl,⟨⟩⟩ rfl (λcs h=>by simp only[QX,Z3,Z9] at h;rcases h with rfl | rfl<;>rfl) rfl (by decide) (by decide) ?_;intro v3 g3 _ fc;have f3:=f2.trans g3;refine⟨f3,?_⟩;refine⟨?_,trivial⟩;refine call (fin _ 2 _ 1 v3 f3 (Sl.own' (n:=2) fc rfl (by decide)) ⟨Sl.own (sz:=5) (n:=1) (Qg.ext g3) (QE _) (by decide) (by simp[J8]),rfl⟩) ?_;rintro _ w9 ⟨rfl,Xw⟩;refine⟨f3.trans Xw,?_⟩;refine Xc rfl ?_;exact⟨QN Value.bool (XX rfl),XG.trans (f3.trans Xw)⟩
 ·refine XE Qa [J8 e] rfl rfl rfl rfl rfl ⟨rfl,rfl,⟨⟩⟩ rfl (λcs h=>by simp only[QJ] at h;subst h;rfl) rfl (by decide) (by decide) ?_;intro v1 g1 _ Qd;have f1:=hd.trans g1;refine⟨f1,?_⟩;refine⟨?_,?_,trivial⟩
  ·refine XE Qa [[Value.string (Qf [65])],[Value.string (Qf [66])]] rfl rfl rfl rfl rfl ⟨rfl,rfl,rfl,rfl,⟨⟩⟩ rfl (λcs h=>by simp only[QX,Z3,Z9] at h;rcases h with rfl | rfl<;>rfl) rfl (by decide) (by decide) ?_;intro v2 g2 _ pJ;have f2:=f1.trans g2;refine⟨f2,?_⟩;refine⟨?_,trivial⟩
   ·refine call (bw true _) ?_;rintro _ v3 ⟨rfl,g3⟩;have f3:=f2.trans g3;refine⟨f3,?_⟩;refine⟨?_,trivial⟩;refine call (fin _ 2 _ 1 v3 f3 (Sl.own' (n:=2) (pJ.ext g3) rfl (by decide)) ⟨Sl.own (sz:=5) (n:=1) (Qd.ext (g2.trans g3)) (QE _) (by decide) (by simp[J8]),rfl⟩) ?_;rintro _ w9 ⟨rfl,Xw⟩;refine⟨f3.trans Xw,?_⟩;refine Xc rfl ?_;exact⟨QN Value.bool (XX rfl),XG.trans (f3.trans Xw)⟩
  ·refine call (bw true _) ?_;rintro _ v2 ⟨rfl,g2⟩;have f2:=f1.trans g2;refine⟨f2,?_⟩;refine⟨?_,trivial⟩
   ·refine XE Qa [[Value.string (Qf [65])],[Value.string (Qf [66])]] rfl rfl rfl rfl rfl ⟨rfl,rfl,rfl,rfl,⟨⟩⟩ rfl (λcs h=>by simp only[QX,Z3,Z9] at h;rcases h with rfl | rfl<;>rfl) rfl (by decide) (by decide) ?_;intro v3 g3 _ fc;have f3:=f2.trans g3;refine⟨f3,?_⟩;refine⟨?_,trivial⟩;refine call (fin _ 2 _ 1 v3 f3 (Sl.own' (n:=2) fc rfl (by decide)) ⟨Sl.own (sz:=5) (n:=1) (Qd.ext (g2.trans g3)) (QE _) (by decide) (by simp[J8]),rfl⟩) ?_;rintro _ w9 ⟨rfl,Xw⟩;refine⟨f3.trans Xw,?_⟩;refine Xc rfl ?_;exact⟨QN Value.bool (XX rfl),XG.trans (f3.trans Xw)⟩
def hQ6 (r:Except Int (List Nat))(k:Int):Bool:=match r with
 | .ok _=>false
 | .error e=>decide (e=k)
theorem lT {r:Except Int (List Nat)}{t:List Nat}(h:hQ5 r t=true):r= .ok t:=by
 cases r with
 | ok l=>rw[fB h]
 | error e=>cases h
theorem Ff {r:Except Int (List Nat)}{k:Int}(h:hQ6 r k=true):r= .error k:=by
 cases r with
 | ok l=>cases h
 | error e=>rw[fB h]
theorem RN (x:DV){o:BF}(Q:List (DV×Pr))(NA:Option Addr)(nc:Nat)(PA:Option Addr)(pn pc:Nat)(w:World)(hN:Sl w 1 NA 2 nc (X4 Ky))(hx:SB w x.A x.n x.c x.nd)(sx:Set1 2 x.nd x.r o)(hP:SlS ZF 3 w PA pn pc Q)
  (hQ:∀q∈Q,SB w q.1.A q.1.n q.1.c q.1.nd/\Set1 2 q.1.nd q.1.r q.2.o/\(∀b∈q.2.t,b<256)/\q.2.t.length<=2000):
  Fn Tryz.prog 24 [.slice NA 2 nc,Xg x.A x.n x.c x.r,.slice PA pn pc] w (λu w'=>u=rO (dG Ky o (Q.map (·.2)))/\Ext w w'):=by
 refine(zD NA 2 nc Ky x PA pn pc (Q.map (λq=>(q.1,q.2.t))) (by decide) Fb Fc (λq hq=>by
  obtain⟨q0,h0,rfl⟩:=ZY.1 hq;exact(hQ q0 h0).2.2) w hN hx ⟨by rw[<-zH];exact hP.1,by rw[Jg];exact hP.2⟩ (λq hq=>by
  obtain⟨q0,h0,rfl⟩:=ZY.1 hq;exact(hQ q0 h0).1)).mono ?_
 rintro u w' ⟨rfl,hE⟩;refine⟨?_,hE⟩;rw[E2 (nm:=Ky) (by decide) (io (n:=2) (by decide) sx).1 (λq hq=>by
  obtain⟨q0,h0,rfl⟩:=ZY.1 hq;exact(io (n:=2) (by decide) (hQ q0 h0).2.1).1),oS sx,zF (λq hq=>(hQ q hq).2.1)]
theorem RO (x:DV){o:BF}(Q:List (DV×Pr))(NA:Option Addr)(nc:Nat)(PA:Option Addr)(pn pc:Nat)(w:World)(hN:Sl w 1 NA 2 nc (X4 Ky))(hx:SB w x.A x.n x.c x.nd)(sx:Set1 2 x.nd x.r o)(hP:SlS ZF 3 w PA pn pc Q)
  (hQ:∀q∈Q,SB w q.1.A q.1.n q.1.c q.1.nd/\Set1 2 q.1.nd q.1.r q.2.o/\(∀b∈q.2.t,b<256)/\q.2.t.length<=2000) {qs:List Pr} (gQ:Q.map (·.2)=qs) {t:List Nat} (hr:dG Ky o qs= .ok t):
  Fn Tryz.prog 24 [.slice NA 2 nc,Xg x.A x.n x.c x.r,.slice PA pn pc] w (λu w'=>u= .tuple #[.string (Qf t),.int .i64 0]/\Ext w w'):=by
 refine(RN x Q NA nc PA pn pc w hN hx sx hP hQ).mono ?_;rintro u w' ⟨rfl,hE⟩;exact⟨by rw[gQ,hr];rfl,hE⟩
theorem RQ (x:DV){o:BF}(Q:List (DV×Pr))(NA:Option Addr)(nc:Nat)(PA:Option Addr)(pn pc:Nat)(w:World)(hN:Sl w 1 NA 2 nc (X4 Ky))(hx:SB w x.A x.n x.c x.nd)(sx:Set1 2 x.nd x.r o)(hP:SlS ZF 3 w PA pn pc Q)
  (hQ:∀q∈Q,SB w q.1.A q.1.n q.1.c q.1.nd/\Set1 2 q.1.nd q.1.r q.2.o/\(∀b∈q.2.t,b<256)/\q.2.t.length<=2000) {qs:List Pr} (gQ:Q.map (·.2)=qs) {k:Int} (hr:dG Ky o qs= .error k):
  Fn Tryz.prog 24 [.slice NA 2 nc,Xg x.A x.n x.c x.r,.slice PA pn pc] w (λu w'=>u= .tuple #[.string (Qf []),.int .i64 k]/\Ext w w'):=by
 refine(RN x Q NA nc PA pn pc w hN hx sx hP hQ).mono ?_;rintro u w' ⟨rfl,hE⟩;exact⟨by rw[gQ,hr];rfl,hE⟩
theorem hQ7 (NA:Option Addr)(nc:Nat)(w:World)(hN:Sl w 1 NA 2 nc (X4 [[65],[65]])):
  Fn Tryz.prog 24 [.slice NA 2 nc,Xg none 0 0 1,.slice none 0 0] w (λu w'=>u= .tuple #[.string (Qf []),.int .i64 1]/\Ext w w'):=by
 refine(zD NA 2 nc [[65],[65]] ⟨none,0,0,[],1⟩ none 0 0 [] (by decide) (λs hs=>by
  simp only[QX,Z3,Z9] at hs;rcases hs with rfl | rfl<;>exact⟨by decide,by decide⟩) (by decide) (λq hq=>by cases hq) w hN (SlS.nil _) (SlS.nil _) (λq hq=>by cases hq)).mono ?_
 rintro u w' ⟨rfl,hE⟩;exact⟨by unfold jO;rw[Qe (.inl (by decide+kernel))];rfl,hE⟩
abbrev tA:BF:=λe=>e 0
abbrev tB:BF:=λe=>e 1
abbrev tX:List Nat:=[120,10]
theorem sn1:zK [120,10,121,10] [120,10,122,10]= .ok [120,10,35,105,102,32,65,10,121,10,35,101,108,115,101,10,122,10,35,101,110,100,10]:=lT (by decide+kernel)
theorem sn2:zK [120,10,121,10] [120,10]= .ok [120,10,35,105,102,32,65,10,121,10,35,101,110,100,10]:=lT (by decide+kernel)
theorem sn3:zK [120,10] [120,10,121,10]= .ok [120,10,35,105,102,32,33,65,10,121,10,35,101,110,100,10]:=lT (by decide+kernel)
theorem sn4:dG Ky (λ_=>true) [⟨λe=>e 0&&e 1,tX⟩,⟨λe=> !(e 0&&e 1),[]⟩]= .ok [35,105,102,32,65,10,35,105,102,32,66,10,120,10,35,101,110,100,10,35,101,110,100,10]:=lT (by decide+kernel)
theorem sn5:dG Ky tB [⟨λe=>e 0&&e 1,tX⟩,⟨λe=> !e 0&&e 1,[121,10]⟩]= .ok [35,105,102,32,65,10,120,10,35,101,108,115,101,10,121,10,35,101,110,100,10]:=lT (by decide+kernel)
theorem sn6:dG Ky (λ_=>true) [⟨tA,tX⟩]= .error 290:=Ff (by decide+kernel)
theorem sn7:dG Ky (λ_=>true) [⟨λ_=>true,[35,101,110,100,10]⟩]= .error 290:=Ff (by decide+kernel)
def lU:List Nat:=[35,105,102,32,65,10,120,10,35,101,110,100,10]
theorem sn8:oT [120,32,121,10,122,10] ⟨2,3,[119],tA⟩= .ok [35,105,102,32,65,10,120,32,119,10,35,101,108,115,101,10,120,32,121,10,35,101,110,100,10,122,10]:=lT (by decide+kernel)
theorem sn9:oT lU ⟨6,7,[121],λe=> !e 0⟩= .ok lU:=lT (by decide+kernel)
theorem iQa:oT lU ⟨6,7,[121],λ_=>true⟩= .ok [35,105,102,32,65,10,121,10,35,101,110,100,10]:=lT (by decide+kernel)
theorem iQb:oT lU ⟨0,1,[121],tA⟩= .error 291:=Ff (by decide+kernel)
theorem iQc (w0:World):Fn Tryz.prog 11 [] w0 (λu w'=>u= .bool true/\Ext w0 w'):=by
 refine QF (c:={tY with cuts:=[]}) Qa Tryz.func11 rfl rfl rfl ?_;refine call (E9 (k:=2) (v:=0) (by decide) (by decide) w0) ?_;rintro _ a1 ⟨Aa,na,ca,da,ra,rfl,e1,ba,sa,_⟩;refine new (λx1 f1 y1 B1=>?_);refine Qx B1 rfl (sc rfl) (λw1 g1 _ Ba=>?_);have h1:Ext w0 w1:=e1.trans (X0 f1 B1 g1);have ba:=ba.ext (X0 f1 B1 g1);refine call (E9 (k:=2) (v:=1) (by decide) (by decide) w1) ?_;rintro _ a2 ⟨Ab,nb,cb,db,rb,rfl,e2,bb,sb,_⟩;refine new (λx2 f2 y2 B2=>?_);refine Qx B2 rfl (sc rfl) (λw2 g2 _ Bb=>?_);have h2:Ext w1 w2:=e2.trans (X0 f2 B2 g2);have bb:=bb.ext (X0 f2 B2 g2);refine Qs (Ba.ext h2) rfl ?_;refine call (Fa (k:=2) (by decide) (⟨Aa,na,ca,da,ra⟩:DV) w2 (ba.ext h2) sa) ?_;rintro _ a3 ⟨Anot,nnot,cnot,dnot,rnot,rfl,e3,bnot,snot,_⟩;refine new (λx3 f3 y3 B3=>?_);refine Qx B3 rfl (sc rfl) (λw3 g3 _ Bnot=>?_);have h3:Ext w2 w3:=e3.trans (X0 f3 B3 g3);have bnot:=bnot.ext (X0 f3 B3 g3);refine Qs (Ba.ext (h2.trans h3)) rfl ?_;refine Qs (Bb.ext h3) rfl ?_;refine call (RK (k:=2) (by decide) (⟨Aa,na,ca,da,ra⟩:DV) (⟨Ab,nb,cb,db,rb⟩:DV) w3 (ba.ext (h2.trans h3)) (bb.ext h3) sa sb) ?_;rintro _ a4 ⟨Aboth,nboth,cboth,dboth,rboth,rfl,e4,bboth,sboth,_⟩;refine new (λx4 f4 y4 B4=>?_);refine Qx B4 rfl (sc rfl) (λw4 g4 _ Bboth=>?_);have h4:Ext w3 w4:=e4.trans (X0 f4 B4 g4);have bboth:=bboth.ext (X0 f4 B4 g4);refine Qs Bboth rfl ?_;refine call (Fa (k:=2) (by decide) (⟨Aboth,nboth,cboth,dboth,rboth⟩:DV) w4 bboth sboth) ?_;rintro _ a5 ⟨Arest,nrest,crest,drest,rrest,rfl,e5,brest,srest,_⟩;refine new (λx5 f5 y5 B5=>?_);refine Qx B5 rfl (sc rfl) (λw5 g5 _ Brest=>?_);have h5:Ext w4 w5:=e5.trans (X0 f5 B5 g5);have brest:=brest.ext (X0 f5 B5 g5);refine Qs (Bnot.ext (h4.trans h5)) rfl ?_;refine Qs (Bb.ext ((h3.trans h4).trans h5)) rfl ?_;refine call (RK (k:=2) (by decide) (⟨Anot,nnot,cnot,dnot,rnot⟩:DV) (⟨Ab,nb,cb,db,rb⟩:DV) w5 (bnot.ext (h4.trans h5)) (bb.ext ((h3.trans h4).trans h5)) snot sb) ?_;rintro _ a6 ⟨Aoth,noth,coth,doth,roth,rfl,e6,both,soth,_⟩;refine new (λx6 f6 y6 B6=>?_);refine Qx B6 rfl (sc rfl) (λw6 g6 _ Both=>?_);have h6:Ext w5 w6:=e6.trans (X0 f6 B6 g6);have both:=both.ext (X0 f6 B6 g6);refine call (bw true w6) ?_;rintro _ a7 ⟨rfl,e7⟩;refine new (λx7 f7 y7 B7=>?_);refine Qx B7 rfl (sc rfl) (λw7 g7 _ Ball=>?_);have h7:Ext w6 w7:=e7.trans (X0 f7 B7 g7);have Ball:Blk w7 a7.heap.size 32 (⟨none,0,0,[],1⟩:DV).cells:=Ball;have sall:Set1 2 [] 1 (λ_=>true):=aH 2 true;refine XE Qa [[Value.string (Qf [65])],[Value.string (Qf [66])]] rfl rfl rfl rfl rfl ⟨rfl,rfl,rfl,rfl,⟨⟩⟩ rfl (λcs h=>by simp only[QX,Z3,Z9] at h;rcases h with rfl | rfl<;>rfl) rfl (by decide) (by decide) ?_;intro w8 h8 _ BN;have hN:Sl w8 1 (some ⟨w7.heap.size,0,none⟩) 2 2 (X4 Ky):=Sl.own' (n:=2) BN rfl (by decide);refine call (Fd [120,10,121,10] [120,10,122,10] _ (by decide) (by decide) w8 sn1) ?_;rintro _ w9 ⟨rfl,h9⟩;refine Xc rfl ?_;refine call (Fd [120,10,121,10] [120,10] _ (by decide) (by decide) w9 sn2) ?_;rintro _ QG ⟨rfl,XH⟩;refine Xc rfl ?_;refine call (Fd [120,10] [120,10,121,10] _ (by decide) (by decide) QG sn3) ?_;rintro _ QD ⟨rfl,ZH⟩;refine Qs (Ball.ext (((h8.trans h9).trans XH).trans ZH)) rfl ?_;refine Qs (Bboth.ext ((((((h5.trans h6).trans h7).trans h8).trans h9).trans XH).trans ZH)) rfl ?_;refine Qs (Brest.ext (((((h6.trans h7).trans h8).trans h9).trans XH).trans ZH)) rfl ?_;refine XE Qa [ZF ((⟨Aboth,nboth,cboth,dboth,rboth⟩:DV),Pr.mk (λe=>e 0&&e 1) tX),ZF ((⟨Arest,nrest,crest,drest,rrest⟩:DV),Pr.mk (λe=> !(e 0&&e 1)) [])] rfl rfl rfl rfl rfl ⟨rfl,rfl,rfl,rfl,⟨⟩⟩ rfl (λcs h=>by simp only[QX,Z3,Z9] at h;rcases h with rfl | rfl<;>rfl) rfl (by decide) (by decide) ?_;intro Q5 XS _ BP12;refine call (RO ⟨none,0,0,[],1⟩ [((⟨Aboth,nboth,cboth,dboth,rboth⟩:DV),Pr.mk (λe=>e 0&&e 1) tX),((⟨Arest,nrest,crest,drest,rrest⟩:DV),Pr.mk (λe=> !(e 0&&e 1)) [])] _ 2 _ 2 2 Q5 (hN.ext (((h9.trans XH).trans ZH).trans XS)) (SlS.nil _) sall ⟨Sl.own (sz:=3) (n:=2) BP12 (QE _) (by decide) (by simp[ZF,Jd]),rfl⟩ (λq hq=>by
  simp only[QX,Z3,Z9] at hq;rcases hq with rfl | rfl
  ·exact⟨(bboth.ext (((((((h5.trans h6).trans h7).trans h8).trans h9).trans XH).trans ZH).trans XS)),sboth,(show(∀b∈(tX:List Nat),b<256)/\(tX:List Nat).length<=2000 by decide)⟩
  ·exact⟨(brest.ext ((((((h6.trans h7).trans h8).trans h9).trans XH).trans ZH).trans XS)),srest,(show(∀b∈([]:List Nat),b<256)/\([]:List Nat).length<=2000 by decide)⟩) rfl sn4) ?_
 rintro _ XR ⟨rfl,Kx⟩;refine Qs (Bb.ext ((((((((((h3.trans h4).trans h5).trans h6).trans h7).trans h8).trans h9).trans XH).trans ZH).trans XS).trans Kx)) rfl ?_;refine Qs (Bboth.ext ((((((((h5.trans h6).trans h7).trans h8).trans h9).trans XH).trans ZH).trans XS).trans Kx)) rfl ?_;refine Qs (Both.ext ((((((h7.trans h8).trans h9).trans XH).trans ZH).trans XS).trans Kx)) rfl ?_;refine XE Qa [ZF ((⟨Aboth,nboth,cboth,dboth,rboth⟩:DV),Pr.mk (λe=>e 0&&e 1) tX),ZF ((⟨Aoth,noth,coth,doth,roth⟩:DV),Pr.mk (λe=> !e 0&&e 1) [121,10])] rfl rfl rfl rfl rfl ⟨rfl,rfl,rfl,rfl,⟨⟩⟩ rfl (λcs h=>by simp only[QX,Z3,Z9] at h;rcases h with rfl | rfl<;>rfl) rfl (by decide) (by decide) ?_;intro Za Vg _ BP14;refine call (RO (⟨Ab,nb,cb,db,rb⟩:DV) [((⟨Aboth,nboth,cboth,dboth,rboth⟩:DV),Pr.mk (λe=>e 0&&e 1) tX),((⟨Aoth,noth,coth,doth,roth⟩:DV),Pr.mk (λe=> !e 0&&e 1) [121,10])] _ 2 _ 2 2 Za (hN.ext (((((h9.trans XH).trans ZH).trans XS).trans Kx).trans Vg)) (bb.ext (((((((((((h3.trans h4).trans h5).trans h6).trans h7).trans h8).trans h9).trans XH).trans ZH).trans XS).trans Kx).trans Vg)) sb ⟨Sl.own (sz:=3) (n:=2) BP14 (QE _) (by decide) (by simp[ZF,Jd]),rfl⟩ (λq hq=>by
  simp only[QX,Z3,Z9] at hq;rcases hq with rfl | rfl
  ·exact⟨(bboth.ext (((((((((h5.trans h6).trans h7).trans h8).trans h9).trans XH).trans ZH).trans XS).trans Kx).trans Vg)),sboth,(show(∀b∈(tX:List Nat),b<256)/\(tX:List Nat).length<=2000 by decide)⟩
  ·exact⟨(both.ext (((((((h7.trans h8).trans h9).trans XH).trans ZH).trans XS).trans Kx).trans Vg)),soth,(show(∀b∈([121,10]:List Nat),b<256)/\([121,10]:List Nat).length<=2000 by decide)⟩) rfl sn5) ?_
 rintro _ Ka ⟨rfl,YW⟩;refine Qs (Ball.ext (((((((h8.trans h9).trans XH).trans ZH).trans XS).trans Kx).trans Vg).trans YW)) rfl ?_;refine Qs (Ba.ext (((((((((((((h2.trans h3).trans h4).trans h5).trans h6).trans h7).trans h8).trans h9).trans XH).trans ZH).trans XS).trans Kx).trans Vg).trans YW)) rfl ?_;refine XE Qa [ZF ((⟨Aa,na,ca,da,ra⟩:DV),Pr.mk (λe=>e 0) tX)] rfl rfl rfl rfl rfl ⟨rfl,rfl,⟨⟩⟩ rfl (λcs h=>by simp only[QJ] at h;subst h;rfl) rfl (by decide) (by decide) ?_;intro WV WX _ BP16;refine call (RQ ⟨none,0,0,[],1⟩ [((⟨Aa,na,ca,da,ra⟩:DV),Pr.mk (λe=>e 0) tX)] _ 2 _ 1 1 WV (hN.ext (((((((h9.trans XH).trans ZH).trans XS).trans Kx).trans Vg).trans YW).trans WX)) (SlS.nil _) sall ⟨Sl.own (sz:=3) (n:=1) BP16 (QE _) (by decide) (by simp[ZF,Jd]),rfl⟩ (λq hq=>by
  simp only[QX,Z3,Z9] at hq;rcases hq with rfl
  ·exact⟨(ba.ext ((((((((((((((h2.trans h3).trans h4).trans h5).trans h6).trans h7).trans h8).trans h9).trans XH).trans ZH).trans XS).trans Kx).trans Vg).trans YW).trans WX)),sa,(show(∀b∈(tX:List Nat),b<256)/\(tX:List Nat).length<=2000 by decide)⟩) rfl sn6) ?_
 rintro _ Vf ⟨rfl,cS⟩;refine Qs (Ball.ext (((((((((h8.trans h9).trans XH).trans ZH).trans XS).trans Kx).trans Vg).trans YW).trans WX).trans cS)) rfl ?_;refine Qs (Ball.ext (((((((((h8.trans h9).trans XH).trans ZH).trans XS).trans Kx).trans Vg).trans YW).trans WX).trans cS)) rfl ?_;refine XE Qa [ZF ((⟨none,0,0,[],1⟩:DV),Pr.mk (λ_=>true) [35,101,110,100,10])] rfl rfl rfl rfl rfl ⟨rfl,rfl,⟨⟩⟩ rfl (λcs h=>by simp only[QJ] at h;subst h;rfl) rfl (by decide) (by decide) ?_;intro KX WW _ BP18;refine call (RQ ⟨none,0,0,[],1⟩ [((⟨none,0,0,[],1⟩:DV),Pr.mk (λ_=>true) [35,101,110,100,10])] _ 2 _ 1 1 KX (hN.ext (((((((((h9.trans XH).trans ZH).trans XS).trans Kx).trans Vg).trans YW).trans WX).trans cS).trans WW)) (SlS.nil _) sall ⟨Sl.own (sz:=3) (n:=1) BP18 (QE _) (by decide) (by simp[ZF,Jd]),rfl⟩ (λq hq=>by
  simp only[QX,Z3,Z9] at hq;rcases hq with rfl
  ·exact⟨SlS.nil _,sall,(show(∀b∈([35,101,110,100,10]:List Nat),b<256)/\([35,101,110,100,10]:List Nat).length<=2000 by decide)⟩) rfl sn7) ?_
 rintro _ aU ⟨rfl,dW⟩;refine XE Qa [[Value.string (Qf [65])],[Value.string (Qf [65])]] rfl rfl rfl rfl rfl ⟨rfl,rfl,rfl,rfl,⟨⟩⟩ rfl (λcs h=>by simp only[QX,Z3,Z9] at h;rcases h with rfl | rfl<;>rfl) rfl (by decide) (by decide) ?_;intro Yo cO _ BA;refine Qs (Ball.ext ((((((((((((h8.trans h9).trans XH).trans ZH).trans XS).trans Kx).trans Vg).trans YW).trans WX).trans cS).trans WW).trans dW).trans cO)) rfl ?_;refine call (hQ7 _ 2 Yo (Sl.own' (n:=2) BA rfl (by decide))) ?_;rintro _ gr ⟨rfl,dV⟩;refine Jp rfl ?_;refine X7 rfl ?_;refine Jp rfl ?_;refine X7 rfl ?_;refine Jp rfl ?_;refine Jp rfl ?_;refine Qs (Ba.ext (((((((((((((((((((h2.trans h3).trans h4).trans h5).trans h6).trans h7).trans h8).trans h9).trans XH).trans ZH).trans XS).trans Kx).trans Vg).trans YW).trans WX).trans cS).trans WW).trans dW).trans cO).trans dV)) rfl ?_;refine call (Fe [120,32,121,10,122,10] _ ⟨2,3,[119],(⟨Aa,na,ca,da,ra⟩:DV)⟩ (by decide) (show(-9223372036854775808:Int)<=2/\(2:Int)<=9223372036854775807/\(-9223372036854775808:Int)<=3/\(3:Int)<=9223372036854775807 by decide) (show(∀b∈([119]:List Nat),b<256)/\([119]:List Nat).length<=1000 by decide) sa gr (ba.ext (((((((((((((((((((h2.trans h3).trans h4).trans h5).trans h6).trans h7).trans h8).trans h9).trans XH).trans ZH).trans XS).trans Kx).trans Vg).trans YW).trans WX).trans cS).trans WW).trans dW).trans cO).trans dV)) sn8) ?_;rintro _ ao ⟨rfl,iH⟩;refine Xc rfl ?_;refine Qs (Bnot.ext ((((((((((((((((((h4.trans h5).trans h6).trans h7).trans h8).trans h9).trans XH).trans ZH).trans XS).trans Kx).trans Vg).trans YW).trans WX).trans cS).trans WW).trans dW).trans cO).trans dV).trans iH)) rfl ?_;refine call (Fe lU lU ⟨6,7,[121],(⟨Anot,nnot,cnot,dnot,rnot⟩:DV)⟩ (by decide) (show(-9223372036854775808:Int)<=6/\(6:Int)<=9223372036854775807/\(-9223372036854775808:Int)<=7/\(7:Int)<=9223372036854775807 by decide) (show(∀b∈([121]:List Nat),b<256)/\([121]:List Nat).length<=1000 by decide) snot ao (bnot.ext ((((((((((((((((((h4.trans h5).trans h6).trans h7).trans h8).trans h9).trans XH).trans ZH).trans XS).trans Kx).trans Vg).trans YW).trans WX).trans cS).trans WW).trans dW).trans cO).trans dV).trans iH)) sn9) ?_;rintro _ HV ⟨rfl,mF⟩;refine Xc rfl ?_;refine Qs (Ball.ext (((((((((((((((h8.trans h9).trans XH).trans ZH).trans XS).trans Kx).trans Vg).trans YW).trans WX).trans cS).trans WW).trans dW).trans cO).trans dV).trans iH).trans mF)) rfl ?_;refine call (Fe lU _ ⟨6,7,[121],⟨none,0,0,[],1⟩⟩ (by decide) (show(-9223372036854775808:Int)<=6/\(6:Int)<=9223372036854775807/\(-9223372036854775808:Int)<=7/\(7:Int)<=9223372036854775807 by decide) (show(∀b∈([121]:List Nat),b<256)/\([121]:List Nat).length<=1000 by decide) sall HV (SlS.nil _) iQa) ?_;rintro _ BM ⟨rfl,fZ⟩;refine Qs (Ball.ext ((((((((((((((((h8.trans h9).trans XH).trans ZH).trans XS).trans Kx).trans Vg).trans YW).trans WX).trans cS).trans WW).trans dW).trans cO).trans dV).trans iH).trans mF).trans fZ)) rfl ?_;refine Qs (Ba.ext ((((((((((((((((((((((h2.trans h3).trans h4).trans h5).trans h6).trans h7).trans h8).trans h9).trans XH).trans ZH).trans XS).trans Kx).trans Vg).trans YW).trans WX).trans cS).trans WW).trans dW).trans cO).trans dV).trans iH).trans mF).trans fZ)) rfl ?_;refine XE Qa [J8 ⟨0,1,[121],(⟨Aa,na,ca,da,ra⟩:DV)⟩] rfl rfl rfl rfl rfl ⟨rfl,rfl,⟨⟩⟩ rfl (λcs h=>by simp only[QJ] at h;subst h;rfl) rfl (by decide) (by decide) ?_;intro w25 HX _ BE;refine call (RL lU ⟨0,1,[121],(⟨Aa,na,ca,da,ra⟩:DV)⟩ (by decide) (show(-9223372036854775808:Int)<=0/\(0:Int)<=9223372036854775807/\(-9223372036854775808:Int)<=1/\(1:Int)<=9223372036854775807 by decide) (show(∀b∈([121]:List Nat),b<256)/\([121]:List Nat).length<=1000 by decide) sa _ 2 _ 1 w25 (ba.ext (((((((((((((((((((((((h2.trans h3).trans h4).trans h5).trans h6).trans h7).trans h8).trans h9).trans XH).trans ZH).trans XS).trans Kx).trans Vg).trans YW).trans WX).trans cS).trans WW).trans dW).trans cO).trans dV).trans iH).trans mF).trans fZ).trans HX)) (hN.ext ((((((((((((((((h9.trans XH).trans ZH).trans XS).trans Kx).trans Vg).trans YW).trans WX).trans cS).trans WW).trans dW).trans cO).trans dV).trans iH).trans mF).trans fZ).trans HX)) ⟨Sl.own (sz:=5) (n:=1) BE (QE _) (by decide) (by simp[J8]),rfl⟩) ?_;rintro _ w26 ⟨rfl,h26⟩;rw[iQb];refine Xc rfl ?_;refine Xc rfl ?_;refine Xc rfl ?_;exact⟨rfl,(((((((((((((((((((((((((h1.trans h2).trans h3).trans h4).trans h5).trans h6).trans h7).trans h8).trans h9).trans XH).trans ZH).trans XS).trans Kx).trans Vg).trans YW).trans WX).trans cS).trans WW).trans dW).trans cO).trans dV).trans iH).trans mF).trans fZ).trans HX).trans h26)⟩
def zL:List (List Nat):=[[120],[121],[122],[120,32,121],[],[35],[35,105,102,102],[101,110,100]]
theorem Fg (k:Nat)(hk:k<=255)(w:World):Fn Tryz.prog 81 [.int .u8 k] w (λu w'=>u= .string (Qf (bB k++ [10]))/\Ext w w'):=by
 refine QF (c:={c81 with cuts:=[]}) Qa Tryz.func81 rfl rfl rfl ?_;refine XE Qa (zL.map (λs=>[Value.string (Qf s)])) rfl rfl rfl rfl rfl ⟨rfl,rfl,rfl,rfl,rfl,rfl,rfl,rfl,rfl,rfl,rfl,rfl,rfl,rfl,rfl,rfl,⟨⟩⟩ rfl (λcs h=>by
  obtain⟨s,_,rfl⟩:=ZY.1 h;rfl) rfl (by decide) (by decide) ?_
 intro w1 Qd Q2 Qh;refine yf (d:=8) (by decide) ?_;have hS:Sl w1 1 (some ⟨w.heap.size,0,none⟩) 8 8 (X4 zL):=Sl.own' (n:=8) Qh rfl (by decide);have hk8:k % 8<8:=fA _ (by decide);refine Vz hS hk8 (λad u hA hu Xz=>?_);obtain⟨s,hs⟩:∃s,zL[k % 8]? =some s:=⟨_,Xs hk8⟩
 rw[lm hs] at hu;cases hu;refine load Xz ?_;have e:bB k=s:=by unfold bB;show(zL[k % 8]?).getD []=s;rw[hs]<;>rfl
 rw[e];have h1:=XU s;have BZ:s.length<=4:=by rw[<-e];exact(zo k).2
 refine Kf (v':=.string (Qf (s++ [10]))) (by rw[h1];show s.length+1<=_;unfold maxLen;omega) (by rw[<-jj];rfl) ?_;exact⟨rfl,Qd⟩
theorem iQd {l:List Nat}{i k:Nat}(hi:l[i]? =some k)(h6:i<6):aL (l.take (i+1))=aL (l.take i)++ [bB k]:=by
 unfold aL;rw[xH,xH,Nat.min_eq_right (by omega),Nat.min_eq_right (by omega),VX,hi,et]<;>rfl
theorem RR (A:Option Addr)(n c:Nat)(l:List Nat)(hl:∀k∈l,k<=255)(w:World)(h:Sl w 1 A n c (Ji l)):
  Fn Tryz.prog 80 [.slice A n c] w (λu w'=>u= .string (Qf (Qo (aL l)))/\Ext w w'):=by
 have Xb:l.length=n:=by have:=h.len;simp only[Ji,Jg] at this;omega
 refine QF (c:={c80 with cuts:=[]}) Qa Tryz.func80 rfl rfl rfl ?_;have ZK:=h.le;have aZ:=h.cap;simp only[maxLen] at aZ;refine loop Qa [4,3] (λi:Nat=>[.int .i64 i,.string (Qf (Qo (aL (l.take i))))]) (λi w'=>Ext w w'/\i<=6/\i<=n) (λi _=>6-i) 0 rfl ⟨Ext.refl _,XM _,XM _⟩ ?_;rintro i w1 ⟨Qd,h6,Q7⟩;have fin:(i=6∨i=n)->aL (l.take i)=aL l:=λhh=>by
  unfold aL;rcases hh with rfl | rfl
  ·rw[xH]<;>rfl
  ·rw[Jz (l:=l) (by omega)]
 refine QB (λc1=>?_) (λc1=>?_)
 ·refine QB (λc2=>?_) (λc2=>?_)
  ·obtain⟨k,hk⟩:∃k,l[i]? =some k:=⟨_,Xs (by omega)⟩
   refine Vz (h.ext Qd) (by omega) (λad u hA hu Xz=>?_);have e1:(Ji l)[i]? =some (.int .u8 k):=by unfold Ji;rw[K2,hk]<;>rfl
   rw[e1] at hu;cases hu;refine load Xz ?_;have wN:=Xe hk;refine call (Fg k (hl k wN) w1) ?_;rintro _ w2 ⟨rfl,Qg⟩;have s1:=XU (Qo (aL (l.take i)));have s2:=XU (bB k++ [10]);have b1:(Qo (aL (l.take i))).length<=100:=by
    obtain⟨t1,t2⟩:=Pm (l.take i);have:=rP (M:=4) (λs hs=>(t1 s hs).2);have:=Wq (4+1) t2;omega
   have b2:=(zo k).2;rw[Qy,nF] at s2;refine Kf (v':=.string (Qf (Qo (aL (l.take (i+1)))))) (by rw[s1,s2];unfold maxLen;omega) (by rw[iQd hk (by omega),Ez,jj]) ?_;refine Qm ((i+1:Nat):Int) (by show((i:Nat):Int)+1=_;omega) (by omega) ?_;exact⟨i+1,rfl,⟨Qd.trans Qg,by omega,by omega⟩,by show 6-(i+1)<6-i;omega⟩
  ·refine⟨?_,Qd⟩;rw[fin (.inl (by omega))]
 ·refine⟨?_,Qd⟩;rw[fin (.inr (by omega))]
theorem iQe:((List.range 256).all λf=>(List.range 8).all λc=>bA [f] 3 0 0 (fR c)==f.testBit c)=true:=by decide+kernel
theorem RT {f c:Nat}(hf:f<=255)(hc:c<8):bA [f] 3 0 0 (bits c)=f.testBit c:=by
 have:=W5.1 iQe f (kZ.2 (by omega));have:=W5.1 this c (kZ.2 hc);rw[ED] at this;simpa using this
theorem iQf {o o':BF}(h:∀c,c<8->o (bits c)=o' (bits c)):QC 3 o=QC 3 o':=by
 unfold QC;refine List.filter_congr (λc hc=>?_);exact h c (kZ.1 hc)
def eU (b:Nat):BF:=if b=0 then λ_=>true else bA [b] 3 0 0
theorem RU {b c:Nat}(hb:b<=255)(hc:c<8):eU b (bits c)=jN b c:=by
 unfold eU jN;by_cases h:b=0
 ·rw[Qe h,XX (by omega)]<;>rfl
 ·rw[if_neg h,RT hb hc,Zf (by omega)]<;>rfl
theorem RW {b:Nat}(hb:b<=255):QC 3 (eU b)=VL b:=by
 unfold QC VL;refine List.filter_congr (λc hc=>?_);exact RU hb (kZ.1 hc)
theorem iQg {b:Nat}(hb:b<=255):QC 3 (bA [b] 3 0 0)=[]↔b=0:=by
 constructor
 ·intro h;apply Classical.byContradiction;intro h0;have h1:=RW hb;unfold eU at h1;rw[if_neg h0,h] at h1;exact rH hb h1.symm
 ·rintro rfl;rw[iQf (o':=λ_=>false) (λc hc=>by rw[RT (by decide) hc,Nat.zero_testBit])];decide
theorem RX (b:Nat)(hb:b<=255)(w:World):Fn Tryz.prog 14 [.int .u8 b] w (eO w 3 (eU b)):=by
 refine QF (c:={c14 with cuts:=[]}) Qa Tryz.func14 rfl rfl rfl ?_;refine new (λw1 Qd Q2 Qh=>?_);refine XE Qa [[Value.int .u8 b]] rfl rfl rfl rfl rfl ⟨rfl,rfl,⟨⟩⟩ rfl (λcs h=>by simp only[QJ] at h;subst h;rfl) rfl (by decide) (by decide) ?_;intro w2 Qg X9 Qw;refine call (Ph [b] _ 1 1 3 w2 (Sl.own' (n:=1) Qw rfl (by decide)) (λx hx=>by rw[QJ.1 hx];exact hb) (by decide)) ?_;rintro _ w3 ⟨A,n,c,nd,r,rfl,Qj,rZ,s3,gj⟩;have QQ:=Qd.trans (Qg.trans Qj);have XD:=Qg.trans Qj;refine new (λw4 Qq Kz QZ=>?_);refine Qx QZ rfl (sc rfl) (λw5 Jk _ QH=>?_);have JW:Ext w3 w5:=X0 Qq QZ Jk;have sn:=Qh.ext (XD.trans JW);have Jm:=QQ.trans JW;have o6:=XD.size;refine Qp QH rfl ?_;have h0:=s3.root0.trans (iQg hb);refine Zn (λhz=>?_) (λhz=>?_)
 ·refine call (zi true w5) ?_;rintro _ w6 ⟨rfl,Q6⟩;refine Qx (sn.ext Q6) rfl (sc rfl) (λw7 Zr _ QY=>?_);have Q8:Mod (·=w.heap.size) w6 w7:=mQj Zr rfl;refine Qs QY rfl ?_;refine⟨none,0,0,[],1,rfl,Q8.ext (Jm.trans Q6) (λi hi=>by omega),SlS.nil _,?_,λi hi=>by obtain⟨_,e,_⟩:=hi;cases e⟩;have e:eU b=λ_=>true:=by unfold eU;rw[Qe (h0.1 hz)]
  rw[e];exact aH 3 true
 ·refine Qs QH rfl ?_;refine Qx sn rfl (sc rfl) (λw7 Zr _ QY=>?_);have Q8:Mod (·=w.heap.size) w5 w7:=mQj Zr rfl;refine Qs QY rfl ?_;have Td:=Qg.size;refine⟨A,n,c,nd,r,rfl,Q8.ext Jm (λi hi=>by omega),SB.mod (rZ.ext JW) Q8 (λi hi e=>by have:=gj i hi;omega),?_,λi hi=>by have:=gj i hi;omega⟩;have e:eU b=bA [b] 3 0 0:=by unfold eU;rw[if_neg (λgp=>hz (h0.2 gp))]
  rw[e];exact s3
def oneO (c:Nat):BF:=bA [2^c] 3 0 0
theorem iQh:((List.range 8).all λc=>(List.range 8).all λd=>oneO c (fR d)==decide (d=c))=true:=by decide+kernel
theorem Fh {c d:Nat}(hc:c<8)(hd:d<8):oneO c (bits d)=decide (d=c):=by
 have:=W5.1 iQh c (kZ.2 hc);have:=W5.1 this d (kZ.2 hd);rw[ED] at this;simpa using this
theorem Fi (c:Nat)(hc:c<8)(w:World):Fn Tryz.prog 25 [.int .u64 c] w (eO w 3 (oneO c)):=by
 have hp:2^c<=128:=Wu (n:=2) (by decide) (show c<=7 by omega);refine QF (c:={c25 with cuts:=[]}) Qa Tryz.func25 rfl rfl rfl ?_;refine new (λw1 Qd Q2 Qh=>?_);refine normIf (m:=((2^c:Nat):Int)) (by omega) ?_ ?_
 ·rw[show min ((c:Int)).toNat IntKind.u8.bits=c by show min c 8=c;omega];have e:(1:Int)*2^c=((2^c:Nat):Int):=by rw[Int.one_mul];norm_cast
  rw[e];generalize 2^c=q at hp ⊢;exact IntWalk.u8_in _ (by omega)
 refine XE Qa [[Value.int .u8 ((2^c:Nat):Int)]] rfl rfl rfl rfl rfl ⟨rfl,rfl,⟨⟩⟩ rfl (λcs h=>by simp only[QJ] at h;subst h;rfl) rfl (by decide) (by decide) ?_;intro w2 Qg X9 Qw;refine call (Ph [2^c] _ 1 1 3 w2 (Sl.own' (n:=1) Qw rfl (by decide)) (λx hx=>by rw[QJ.1 hx];omega) (by decide)) ?_;rintro _ w3 ⟨A,n,cc,nd,r,rfl,Qj,rZ,s3,gj⟩;have XD:=Qg.trans Qj;refine Qx (Qh.ext XD) rfl (sc rfl) (λw7 Zr _ QY=>?_);have Q8:Mod (·=w.heap.size) w3 w7:=mQj Zr rfl;refine Qs QY rfl ?_;have Td:=Qg.size;exact⟨A,n,cc,nd,r,rfl,Q8.ext (Qd.trans XD) (λi hi=>by omega),SB.mod rZ Q8 (λi hi e=>by have:=gj i hi;omega),s3,λi hi=>by have:=gj i hi;omega⟩
theorem Fj (w:World):Fn Tryz.prog 16 [] w (λu w'=>∃A c,u= .slice A 3 c/\Ext w w'/\Sl w' 1 A 3 c (X4 (bt.take 3))):=by
 refine QF (c:={c16 with cuts:=[]}) Qa Tryz.func16 rfl rfl rfl ?_;refine call (eQE 3 w (by decide)) ?_;rintro _ w1 ⟨A,c,rfl,Qd,pI⟩;exact⟨A,c,rfl,Qd,pI⟩
structure RawV where
 fam:Nat
 cls:List Nat
 txs:List (Option Addr×Nat×Nat×List Nat)
 CA:Option Addr
 cn:Nat
 cc:Nat
 TA:Option Addr
 tn:Nat
 tc:Nat
def rT (t:Option Addr×Nat×Nat×List Nat):List Value:=[.slice t.1 t.2.1 t.2.2.1]
def RawV.cells (x:RawV):List Value:=[.int .u8 x.fam,.slice x.CA x.cn x.cc,.slice x.TA x.tn x.tc]
structure RawIn (w:World) (x:RawV):Prop where
 f8:x.fam<=255
 cl:Sl w 1 x.CA x.cn x.cc (Ji x.cls)
 c8:∀k∈x.cls,k<=255
 tx:SlS rT 1 w x.TA x.tn x.tc x.txs
 ts:∀t∈x.txs,Sl w 1 t.1 t.2.1 t.2.2.1 (Ji t.2.2.2)/\∀k∈t.2.2.2,k<=255
theorem RawIn.ext {w w':World}{x:RawV}(h:RawIn w x)(k:Ext w w'):RawIn w' x:=⟨h.f8,h.cl.ext k,h.c8,h.tx.ext k,λt ht=>⟨(h.ts t ht).1.ext k,(h.ts t ht).2⟩⟩
abbrev RawV.cho (x:RawV)(c:Nat):List (List Nat):=jM x.cls (x.txs.map (·.2.2.2)) c
theorem iQi (x:RawV)(c:Nat)(hc:c<8)(w:World)(h:RawIn w x):Fn Tryz.prog 33 [.agg x.cells.toArray,.int .u64 c] w (λu w'=>u= .string (Qf (Qo (x.cho c)))/\Ext w w'):=by
 have iQ:x.cls.length=x.cn:=by have:=h.cl.len;simp only[Ji,Jg] at this;omega
 have Yr:=h.tx.2;have t1:=h.tx.1.le;have t2:=h.tx.1.cap;simp only[maxLen] at t2;refine QF (c:={c33 with cuts:=[]}) Qa Tryz.func33 rfl rfl rfl ?_;refine new (λw1 Qd Q2 Qh=>?_);have h1:=h.ext Qd;have fin:∀(k:Nat),k<4->(x.cls[c]?).elim 0 (· % 4)=k->∀t,(x.txs.map (·.2.2.2))[k]? =some t->x.cho c=aL t:=λk hk he t ht=>by
  show jM x.cls (x.txs.map (·.2.2.2)) c=_;unfold jM;rw[he,ht]
 have aQe:∀(k:Nat),k<4->(x.cls[c]?).elim 0 (· % 4)=k->(x.txs.map (·.2.2.2))[k]? =none->x.cho c=[bB k]:=λk hk he ht=>by
  show jM x.cls (x.txs.map (·.2.2.2)) c=_;unfold jM;rw[he,ht]
 refine Qm (c:Int) rfl (by omega) ?_;refine Qp Qh rfl ?_;refine QB (λc1=>?_) (λc1=>?_)
 ·obtain⟨k0,wx⟩:∃k0,x.cls[c]? =some k0:=⟨_,Xs (by omega)⟩
  have lQU:=h.c8 k0 (Xe wx);refine Qp Qh rfl ?_;refine Vz h1.cl (by omega) (λad u hA hu Xz=>?_);have e1:(Ji x.cls)[c]? =some (.int .u8 k0):=by unfold Ji;rw[K2,wx]<;>rfl
  rw[e1] at hu;cases hu;refine load Xz ?_;refine yf (d:=4) (by decide) ?_;obtain⟨k,gD⟩:∃k,k=k0 % 4:=⟨_,rfl⟩
  rw[<-gD];have kc:k<4:=by omega
  have xw:(x.cls[c]?).elim 0 (· % 4)=k:=by rw[wx,gD]<;>rfl
  refine Qm ((k:Nat):Int) rfl (by omega) ?_;refine Qp Qh rfl ?_;refine QB (λc2=>?_) (λc2=>?_)
  ·have Xj:k<x.tn:=by omega
   refine Qp Qh rfl ?_;refine Zo (f:=rT) (λ_=>rfl) h1.tx rfl Xj (λad t ht Kw=>?_);obtain⟨HY,gk⟩:=h1.ts t (Xe ht);refine load (Kw 0 _ rfl) ?_;refine call (RR t.1 t.2.1 t.2.2.1 t.2.2.2 gk w1 HY) ?_;rintro _ w2 ⟨rfl,Qg⟩;refine⟨?_,Qd.trans Qg⟩;rw[fin k kc xw t.2.2.2 (by rw[K2,ht];rfl)]
  ·have Xi:(x.txs.map (·.2.2.2))[k]? =none:=CZ.2 (by rw[Jg];omega);refine L5 ((k:Nat):Int) rfl (by omega) ?_;refine call (Fg k (by omega) w1) ?_;rintro _ w2 ⟨rfl,Qg⟩;refine⟨?_,Qd.trans Qg⟩;rw[aQe k kc xw Xi];show Value.string (Qf (bB k++ [10]))= .string (Qf (Qo [bB k]));simp[Qo]
 ·have wx:x.cls[c]? =none:=CZ.2 (by omega);have kc:(0:Nat)<4:=by decide
  have xw:(x.cls[c]?).elim 0 (· % 4)=0:=by rw[wx]<;>rfl
  refine Qp Qh rfl ?_;refine QB (λc2=>?_) (λc2=>?_)
  ·have Xj:0<x.tn:=by omega
   refine Qp Qh rfl ?_;refine Zo (f:=rT) (λ_=>rfl) h1.tx rfl Xj (λad t ht Kw=>?_);obtain⟨HY,gk⟩:=h1.ts t (Xe ht);refine load (Kw 0 _ rfl) ?_;refine call (RR t.1 t.2.1 t.2.2.1 t.2.2.2 gk w1 HY) ?_;rintro _ w2 ⟨rfl,Qg⟩;refine⟨?_,Qd.trans Qg⟩;rw[fin 0 kc xw t.2.2.2 (by rw[K2,ht];rfl)]
  ·have Xi:(x.txs.map (·.2.2.2))[0]? =none:=CZ.2 (by rw[Jg];omega);refine L5 ((0:Nat):Int) rfl (by omega) ?_;refine call (Fg 0 (by omega) w1) ?_;rintro _ w2 ⟨rfl,Qg⟩;refine⟨?_,Qd.trans Qg⟩;rw[aQe 0 kc xw Xi];show Value.string (Qf (bB 0++ [10]))= .string (Qf (Qo [bB 0]));simp[Qo]
theorem PrM.len {n:Nat}:∀{qs:List Pr}{ps:List Pt},PrM n qs ps->qs.length=ps.length
 | [],[],_=>rfl
 | _::_,_::_,h=>by simp[PrM.len h.2]
theorem PrM.snoc {n:Nat}{q:Pr}{p:Pt}(hq:q.t=Qo p.2/\∀c,c<2^n->q.o (bits c)=decide (c∈p.1)):∀{qs:List Pr}{ps:List Pt},PrM n qs ps->PrM n (qs++ [q]) (ps++ [p])
 | [],[],_=>⟨hq,trivial⟩
 | _::_,_::_,h=>⟨h.1,PrM.snoc hq h.2⟩
theorem PrM.set {n:Nat}{q:Pr}{p:Pt}(hq:q.t=Qo p.2/\∀c,c<2^n->q.o (bits c)=decide (c∈p.1)):∀{qs:List Pr}{ps:List Pt}{k:Nat},PrM n qs ps->PrM n (qs.set k q) (ps.set k p)
 | [],[],_,_=>trivial
 | _::_,_::_,0,h=>⟨hq,h.2⟩
 | _::_,_::_,k+1,h=>⟨h.1,PrM.set (k:=k) hq h.2⟩
theorem PrM.get {n:Nat}:∀{qs:List Pr}{ps:List Pt}{k:Nat}{q:Pr}{p:Pt},PrM n qs ps->qs[k]? =some q->ps[k]? =some p->q.t=Qo p.2/\∀c,c<2^n->q.o (bits c)=decide (c∈p.1)
 | _::_,_::_,0,_,_,h,h1,h2=>by cases h1;cases h2;exact h.1
 | _::_,_::_,k+1,_,_,h,h1,h2=>PrM.get (k:=k) h.2 (by simpa using h1) (by simpa using h2)
theorem RY {n:Nat}{s:List (List Nat)}(hs:eL s):∀{qs:List Pr}{ps:List Pt},PrM n qs ps->(∀p∈ps,eL p.2)->K8 qs (Qo s)=fU ps s
 | [],[],_,_=>rfl
 | q::qs,p::ps,h,hl=>by
  have ih:=RY hs h.2 (λu hu=>hl u (by simp[hu]));have hp:=hl p (by simp);have qf:(decide (q.t≠Qo s))=decide (p.2≠s):=by
   rw[h.1.1];refine qq.2 (not_congr ⟨λe=>?_,λe=>by rw[e]⟩);have:=QN QU e
   rwa [ry hp,ry hs] at this
  unfold K8 fU at ih ⊢;rw[Wt,Wt,qf];split
  ·simp only[Xk];rw[ih]
  ·rfl
def Yz (b c:Nat):List Nat:=(List.range c).filter (jN b)
theorem RZ (b c:Nat):Yz b (c+1)=Yz b c++(if jN b c=true then [c] else []):=by
 unfold Yz;rw[List.range_succ,C0,xK];split<;>simp
theorem iQj {b c d:Nat}(h:d∈Yz b c):d<c:=kZ.1 (KP.1 h).1
theorem iQk (b c:Nat):(Yz b c).Nodup:=(List.nodup_range).sublist (List.filter_sublist)
theorem iQl {single:Bool}{f:Nat->List (List Nat)}{S:List Nat}(hn:S.Nodup)(hf:∀c,eL (f c)):∀p∈K7 single f S,eL p.2:=λp hp=>by
 have h:=EC single f S hn;obtain⟨c,hc⟩:=gV _ (h.ne p hp);rw[<-(h.tx p hp c hc).2];exact hf c
theorem uT (x:RawV)(c:Nat):eL (x.cho c):=λs hs=>((zp _ _ c).1 s hs).1.nl
theorem Fk (x:RawV)(c:Nat):(∀b∈Qo (x.cho c),b<256)/\(Qo (x.cho c)).length<=30:=by
 obtain⟨h1,h2⟩:=zp x.cls (x.txs.map (·.2.2.2)) c;refine⟨gQh (λs hs=>(h1 s hs).1.b8),?_⟩;have:=rP (M:=4) (λs hs=>(h1 s hs).2);have:=Wq (4+1) h2;show(Qo (jM x.cls (x.txs.map (·.2.2.2)) c)).length<=30;omega
structure PtsIn (w:World) (PA:Option Addr) (pn pc:Nat) (Q:List (DV×Pr)):Prop where
 sl:SlS ZF 3 w PA pn pc Q
 sb:∀q∈Q,SB w q.1.A q.1.n q.1.c q.1.nd/\Set1 3 q.1.nd q.1.r q.2.o
theorem PtsIn.ext {w w':World}{PA:Option Addr}{pn pc:Nat}{Q:List (DV×Pr)}(h:PtsIn w PA pn pc Q)(k:Ext w w'):PtsIn w' PA pn pc Q:=⟨h.sl.ext k,λq hq=>⟨(h.sb q hq).1.ext k,(h.sb q hq).2⟩⟩
theorem R0 (x:RawV)(single:Bool)(w:World)(h:RawIn w x):
  Fn Tryz.prog 26 [.agg x.cells.toArray,.bool single] w (λu w'=>∃PA pc Q,u= .slice PA (Q.length) pc/\Ext w w'/\PtsIn w' PA Q.length pc Q/\PrM 3 (Q.map (·.2)) (K7 single x.cho (VL x.fam))):=by
 refine QF (c:={c26 with cuts:=[]}) Qa Tryz.func26 rfl rfl rfl ?_;refine new (λw1 Qd Q2 Qh=>?_);refine XE Qa [] rfl rfl rfl rfl rfl ⟨⟩ rfl (λcs h=>by cases h) rfl (by decide) (by decide) ?_;intro w2 Qg X9 Qw;have Q4:=Qd.trans Qg;refine loop Qa [6,5] (λt:Nat×List (DV×Pr)×Option Addr×Nat=>[.int .u64 t.1,.slice t.2.2.1 t.2.1.length t.2.2.2]) (λt w'=>Ext w1 w'/\t.1<=8/\Own w' w1.heap.size 56 3 t.2.2.1 t.2.1.length t.2.2.2 (t.2.1.flatMap ZF)/\(∀q∈t.2.1,DgO w' (Qi t.2.2.1) 3 q.1 q.2.o)/\PrM 3 (t.2.1.map (·.2)) (K7 single x.cho (Yz x.fam t.1))/\t.2.1.length<=t.1) (λt _=>8-t.1) (0,[],some ⟨w1.heap.size,0,none⟩,0) rfl ⟨Qg,XM _,Own.empty Qw (QE _),(λq hq=>by cases hq),trivial,XM _⟩ ?_;rintro⟨c,Q,PA,pc⟩ w3 ⟨Qj,mC,kA,mL,cR,hQl⟩;simp only at mC kA mL cR hQl;have QQ:=Qd.trans Qj;have KN:=kA.rows;refine QB (λc1=>?_) (λc1=>?_)
 ·have hc:c<8:=by simp only at c1;omega
  have Qu:=Qh.ext Qj;refine Qv Qu rfl ?_;refine call (RX x.fam h.f8 w3) ?_;rintro _ w4 ⟨A4,n4,c4,nd4,r4,rfl,Qq,Wf,s4,_⟩;refine call (gQc A4 n4 c4 nd4 r4 c (by omega) w4 Wf (s4.chk (by decide))) ?_;rintro _ w5 ⟨rfl,Qt⟩;have JW:=Qq.trans Qt;have Jm:=QQ.trans JW;have Q7:ev nd4 r4 (fR c)=jN x.fam c:=by rw[s4.mean,ED];exact RU h.f8 hc
  rw[Q7];cases fu:jN x.fam c with
  | false=>
   refine Xc rfl ?_;refine nU ((c+1:Nat):Int) (by show((c:Nat):Int)+1=_;omega) (by omega) ?_;refine⟨(c+1,Q,PA,pc),rfl,⟨Qj.trans JW,hc,kA.ext JW,λq hq=>(mL q hq).ext JW,?_,by simp only;omega⟩,by show 8-(c+1)<8-c;omega⟩;simp only;rw[RZ,fu];simpa using cR
  | true=>
   refine Xt rfl ?_;have kH:c∉Yz x.fam c:=λhm=>by have:=iQj hm;omega
   have hnd:=iQk x.fam c;have tk:K7 single x.cho (Yz x.fam (c+1))=dB single x.cho (K7 single x.cho (Yz x.fam c)) c:=by
    rw[RZ,fu,Qe rfl,gQn]
   refine Qs (Qu.ext JW) rfl ?_;refine call (iQi x c hc w5 (h.ext Jm)) ?_;rintro _ w6 ⟨rfl,Q6⟩;have KD:=JW.trans Q6;have XG:=QQ.trans KD;obtain⟨cb1,cb2⟩:=Fk x c;have aQB:=cR.len;rw[Jg] at aQB;have nz:∀q∈Q,(∀b∈q.2.t,b<256):=λq hq=>by
    obtain⟨k,hk⟩:=be.1 hq;have Zy:=(Zt.1 hk).1;obtain⟨p,hp⟩:∃p,(K7 single x.cho (Yz x.fam c))[k]? =some p:=⟨_,Xs (by omega)⟩
    have h1:=(cR.get (q:=q.2) (k:=k) (by rw[K2,hk];rfl) hp).1;have h2:=EC single x.cho (Yz x.fam c) hnd;obtain⟨d,hd⟩:=gV _ (h2.ne p (Xe hp));rw[h1,<-(h2.tx p (Xe hp) d hd).2];exact(Fk x d).1
   cases single with
   | true=>
    refine loop Qa [8] (λk:Nat=>[.int .i64 k]) (λk w'=>w6=w'/\k=0) (λ_ _=>0) 0 rfl ⟨rfl,rfl⟩ ?_;rintro _ _ ⟨rfl,rfl⟩;refine Xt rfl ?_;refine Xc rfl ?_;refine call (Fi c hc w6) ?_;rintro _ w7 ⟨A7,n7,c7,cT,r7,rfl,Q1,KW,s7,Kg⟩;refine XE Qa [ZF (DV.mk A7 n7 c7 cT r7,Pr.mk (oneO c) (Qo (x.cho c)))] rfl rfl rfl rfl rfl ⟨rfl,rfl,⟨⟩⟩ rfl (λcs h=>by simp only[QJ] at h;subst h;rfl) rfl (by decide) (by decide) ?_;intro w8 Q9 Vs Xp;have YE:=KD.trans (Q1.trans Q9);have ky:Sl w8 3 (some ⟨w7.heap.size,0,none⟩) 1 1 (ZF (DV.mk A7 n7 c7 cT r7,Pr.mk (oneO c) (Qo (x.cho c)))):=Sl.own (sz:=3) (n:=1) Xp (QE _) (by decide) (by simp[ZF,Jd]);refine JE (n:=Q.length) Qa rfl rfl rfl rfl rfl (by decide) rfl rfl ⟨_,rfl⟩ rfl rfl (kA.ext YE) ky (zI _) (by unfold maxLen;omega) (by show(Q.length+1)*48<=_;omega) (by have:=(Qj.trans YE).size;omega) ?_;intro PA2 wr w9 Yn iK HZ;have mM:Mod (Qi PA) w3 w9:=(Mod.of_ext (Qi PA) YE).trans Yn (λi hi=>.inl hi);have r9:∀k,Qi PA2 k->Qi PA k∨w8.heap.size<=k:=HZ.rows
    have z38:=YE.size;have G7:=KD.size;have z78:=Q9.size;refine nU ((c+1:Nat):Int) (by show((c:Nat):Int)+1=_;omega) (by omega) ?_;rw[show Q.flatMap ZF++ZF (DV.mk A7 n7 c7 cT r7,Pr.mk (oneO c) (Qo (x.cho c)))=(Q++ [(DV.mk A7 n7 c7 cT r7,Pr.mk (oneO c) (Qo (x.cho c)))]).flatMap ZF by rw[ce];simp] at iK;refine⟨(c+1,Q++ [(DV.mk A7 n7 c7 cT r7,Pr.mk (oneO c) (Qo (x.cho c)))],PA2,wr),by simp only[Qy];rfl,⟨mM.ext Qj (λi hi=>(KN i hi).1),hc,by simp only;rw[Qy];exact iK,λq hq=>?_,?_,by simp only[Qy,nF];omega⟩,by show 8-(c+1)<8-c;omega⟩
    ·rcases XB.1 hq with hq | hq
     ·exact(mL q hq).step mM (λk hk=>by
       rcases r9 k hk with h | h
       ·exact .inl h
       ·exact .inr (by omega))
     ·rw[QJ.1 hq];have h0:DgO w8 (Qi PA) 3 ⟨A7,n7,c7,cT,r7⟩ (oneO c):=⟨KW.ext Q9,s7,λad ea h0 h=>by have:=Kg ad.block ⟨ad,ea,rfl⟩;have:=(KN _ h).2;omega⟩
      exact h0.step Yn (λk hk=>by
       rcases r9 k hk with h | h
       ·exact .inl h
       ·exact .inr h)
    ·simp only;rw[tk,et];have e:dB true x.cho (K7 true x.cho (Yz x.fam c)) c=K7 true x.cho (Yz x.fam c)++ [([c],x.cho c)]:=rfl;rw[e];exact PrM.snoc ⟨rfl,λd hd=>by show oneO c (bits d)=decide (d∈ [c]);rw[Fh hc hd];simp⟩ cR
   | false=>
    have JY:=RY (uT x c) cR (iQl hnd (λd=>uT x d));have aQv:=gQl (K7 false x.cho (Yz x.fam c)) (x.cho c);obtain⟨sq1,sq2⟩:=uQ (Qo (x.cho c)) (Q.map (·.2));refine loop Qa [8] (λk:Nat=>[.int .i64 k]) (λk w'=>w6=w'/\k<=K8 (Q.map (·.2)) (Qo (x.cho c))) (λk _=>K8 (Q.map (·.2)) (Qo (x.cho c))-k) 0 rfl ⟨rfl,XM _⟩ ?_;rintro k _ ⟨rfl,hk⟩;generalize hK:K8 (Q.map (·.2)) (Qo (x.cho c))=K at*;have I5:SlS ZF 3 w6 PA Q.length pc Q:=⟨(kA.ext KD).sl,rfl⟩
    refine Xc rfl ?_;refine QB (λc2=>?_) (λc2=>?_)
    ·have Xj:k<Q.length:=by simp only at c2;omega
     refine Zo iw I5 rfl Xj (λad q hq Kw=>?_);have bV:=Xe hq;refine load (Kw 2 _ rfl) ?_;have Lh:(Q.map (·.2))[k]? =some q.2:=by rw[K2,hq]<;>rfl
     by_cases ht:q.2.t=Qo (x.cho c)
     ·refine Xt (by rw[ht];simp) ?_;have Li:k=K:=by
       apply Classical.byContradiction;intro hh;exact sq2 k q.2 Lh (by omega) ht
      subst Li;have QK:¬(k:Int)=(Q.length:Int):=by omega
      refine Xt rfl ?_;refine XP QK ?_;obtain⟨pa,ZL,_⟩:=(kA.ext KD).sl.at_ (show 0<Q.length by omega);subst ZL;have eX:=kA.ext KD;have YJ:=Ext.drew w6;have dY:∀q∈Q,DgO w6 (Qi (some pa)) 3 q.1 q.2.o:=λq hq=>(mL q hq).ext KD
      have fj:0<Q.length:=by omega
      refine XJ Qa (Ext w6) 12 [(true,0),(true,1),(true,2),(true,3),(true,4),(true,5),(true,6),(true,7),(false,8),(false,9),(true,10),(true,11)] (by kernel_rfl) YJ ?_;refine zG (j:=k) Xj ?_;refine Xl (vs:=[.slice q.1.A q.1.n q.1.c,.int .i64 q.1.r]) rfl (λw' Qb i u hi=>by
       rw[add_add];refine uI (o:=k*3) (i:=0+i) (eX.ext Qb) fj ?_;rw[a8];refine eF iw Q k q i u hq ?_
       match i,hi with
       | 0,hi=>exact hi
       | 1,hi=>exact hi) ?_
      refine call (Fi c hc w6.drew) ?_;rintro _ w7 ⟨A7,n7,c7,cT,r7,rfl,Q1,KW,s7,Kg⟩;have BO:=YJ.trans Q1;refine⟨BO,?_⟩;refine call (O0 (k:=3) (by decide) q.1.A q.1.n q.1.c A7 n7 c7 w7 ((dY q bV).sb.ext BO) KW (dY q bV).st s7) ?_;rintro _ w8 ⟨A8,n8,sU,BP,r8,rfl,Q9,gi,s8,mt⟩;have YV:=BO.trans Q9;refine⟨YV,?_⟩;refine zG (j:=k) Xj ?_;show i7 _ _ ((pa.add (k*3)).add 0) _ _;rw[add_add];refine Eq (eX.ext YV) (by show k*3+0+2<=Q.length*3;omega) (sc rfl) (λw9 Yn iK=>?_);have YE:=KD.trans YV;have mM:Mod (Qi (some pa)) w3 w9:=(Mod.of_ext _ YE).trans Yn (λi hi=>.inl hi);have HF:(Q.flatMap ZF)[k*3+0+ [Value.slice A8 n8 sU,.int .i64 r8].length]? =some (.string (Qf q.2.t)):=eF iw Q k q 2 _ hq rfl;rw[show(#[Value.slice A8 n8 sU,Value.int IntKind.i64 r8]:Array Value).toList=[Value.slice A8 n8 sU,.int .i64 r8] from rfl,RB HF] at iK;have s8':Set1 3 BP r8 (λe=>q.2.o e||oneO c e):=s8.congr (λe=>by simp[J5]);have iK:Own w9 w1.heap.size 56 3 (some pa) Q.length pc ((Q.set k (DV.mk A8 n8 sU BP r8,Pr.mk (λe=>q.2.o e||oneO c e) q.2.t)).flatMap ZF):=by
       rw[<-yT iw Q _ Xj];exact iK
      refine nU ((c+1:Nat):Int) (by show((c:Nat):Int)+1=_;omega) (by omega) ?_;have z68:=YV.size;have St:=BO.size;have G7:=KD.size;refine⟨(c+1,Q.set k (DV.mk A8 n8 sU BP r8,Pr.mk (λe=>q.2.o e||oneO c e) q.2.t),some pa,pc),by simp only[bZ];rfl,⟨mM.ext Qj (λi hi=>(KN i hi).1),hc,by simp only;rw[bZ];exact iK,λq' hq'=>?_,?_,by simp only[bZ];omega⟩,by show 8-(c+1)<8-c;omega⟩
      ·rcases CX hq' with hq' | rfl
       ·exact(mL q' hq').step mM (λi hi=>.inl hi)
       ·have h0:DgO w8 (Qi (some pa)) 3 (DV.mk A8 n8 sU BP r8) (λe=>q.2.o e||oneO c e):=⟨gi,s8',λad ea h0 h=>by have:=mt ad.block ⟨ad,ea,rfl⟩;have:=(KN _ h).2;omega⟩
        exact h0.step Yn (λi hi=>.inl hi)
      ·simp only;rw[tk,List.map_set];obtain⟨p0,px⟩:∃p,(K7 false x.cho (Yz x.fam c))[k]? =some p:=⟨_,Xs (by omega)⟩
       have e:dB false x.cho (K7 false x.cho (Yz x.fam c)) c=(K7 false x.cho (Yz x.fam c)).set k (p0.1++ [c],p0.2):=by
        show im _ c (x.cho c)=_;rcases uL c (x.cho c) (K7 false x.cho (Yz x.fam c))with⟨p,h1,h2,h3⟩ | ⟨h1,_⟩
        ·rw[<-JY] at h1 h3;rw[px] at h1;cases h1;exact h3
        ·omega
       rw[e];obtain⟨g1,g2⟩:=cR.get Lh px;refine PrM.set (q:=Pr.mk (λe=>q.2.o e||oneO c e) q.2.t) (p:=(p0.1++ [c],p0.2)) ⟨g1,λd hd=>?_⟩ cR;show(q.2.o (bits d)||oneO c (bits d))=decide (d∈p0.1++ [c]);rw[g2 d hd,Fh hc hd];simp
     ·refine Xc (by rw[Bool.not_eq_true',decide_eq_false_iff_not];exactλe=>ht (JD (nz q bV) cb1 e)) ?_;have Li:k<K:=by
       apply Classical.byContradiction;intro hh;have:k=K:=by omega
       subst this;exact ht (sq1 q.2 Lh)
      refine Qm ((k+1:Nat):Int) (by show((k:Nat):Int)+1=_;omega) (by omega) ?_;exact⟨k+1,rfl,⟨rfl,Li⟩,by show K-(k+1)<K-k;omega⟩
    ·have hkQ:k=Q.length:=by simp only at c2;omega
     subst hkQ;have hKe:K=Q.length:=by
      rw[aQB];omega
     refine Xt rfl ?_;refine Jp rfl ?_;refine call (Fi c hc w6) ?_;rintro _ w7 ⟨A7,n7,c7,cT,r7,rfl,Q1,KW,s7,Kg⟩;refine XE Qa [ZF (DV.mk A7 n7 c7 cT r7,Pr.mk (oneO c) (Qo (x.cho c)))] rfl rfl rfl rfl rfl ⟨rfl,rfl,⟨⟩⟩ rfl (λcs h=>by simp only[QJ] at h;subst h;rfl) rfl (by decide) (by decide) ?_;intro w8 Q9 Vs Xp;have YE:=KD.trans (Q1.trans Q9);have ky:Sl w8 3 (some ⟨w7.heap.size,0,none⟩) 1 1 (ZF (DV.mk A7 n7 c7 cT r7,Pr.mk (oneO c) (Qo (x.cho c)))):=Sl.own (sz:=3) (n:=1) Xp (QE _) (by decide) (by simp[ZF,Jd]);refine JE (n:=Q.length) Qa rfl rfl rfl rfl rfl (by decide) rfl rfl ⟨_,rfl⟩ rfl rfl (kA.ext YE) ky (zI _) (by unfold maxLen;omega) (by show(Q.length+1)*48<=_;omega) (by have:=(Qj.trans YE).size;omega) ?_;intro PA2 wr w9 Yn iK HZ;have mM:Mod (Qi PA) w3 w9:=(Mod.of_ext (Qi PA) YE).trans Yn (λi hi=>.inl hi);have r9:∀k,Qi PA2 k->Qi PA k∨w8.heap.size<=k:=HZ.rows
     have z38:=YE.size;have G7:=KD.size;have z78:=Q9.size;refine nU ((c+1:Nat):Int) (by show((c:Nat):Int)+1=_;omega) (by omega) ?_;rw[show Q.flatMap ZF++ZF (DV.mk A7 n7 c7 cT r7,Pr.mk (oneO c) (Qo (x.cho c)))=(Q++ [(DV.mk A7 n7 c7 cT r7,Pr.mk (oneO c) (Qo (x.cho c)))]).flatMap ZF by rw[ce];simp] at iK;refine⟨(c+1,Q++ [(DV.mk A7 n7 c7 cT r7,Pr.mk (oneO c) (Qo (x.cho c)))],PA2,wr),by simp only[Qy];rfl,⟨mM.ext Qj (λi hi=>(KN i hi).1),hc,by simp only;rw[Qy];exact iK,λq hq=>?_,?_,by simp only[Qy,nF];omega⟩,by show 8-(c+1)<8-c;omega⟩
     ·rcases XB.1 hq with hq | hq
      ·exact(mL q hq).step mM (λk hk=>by
        rcases r9 k hk with h | h
        ·exact .inl h
        ·exact .inr (by omega))
      ·rw[QJ.1 hq];have h0:DgO w8 (Qi PA) 3 ⟨A7,n7,c7,cT,r7⟩ (oneO c):=⟨KW.ext Q9,s7,λad ea h0 h=>by have:=Kg ad.block ⟨ad,ea,rfl⟩;have:=(KN _ h).2;omega⟩
       exact h0.step Yn (λk hk=>by
        rcases r9 k hk with h | h
        ·exact .inl h
        ·exact .inr h)
     ·simp only;rw[tk,et];have e:dB false x.cho (K7 false x.cho (Yz x.fam c)) c=K7 false x.cho (Yz x.fam c)++ [([c],x.cho c)]:=by
       show im _ c (x.cho c)=_;rcases uL c (x.cho c) (K7 false x.cho (Yz x.fam c))with⟨p,h1,_⟩ | ⟨_,h2⟩
       ·have:=(Zt.1 h1).1;omega
       ·exact h2
      rw[e];exact PrM.snoc ⟨rfl,λd hd=>by show oneO c (bits d)=decide (d∈ [c]);rw[Fh hc hd];simp⟩ cR
 ·have hc:c=8:=by simp only at c1;omega
  subst hc;exact⟨PA,pc,Q,rfl,QQ,⟨⟨kA.sl,rfl⟩,λq hq=>⟨(mL q hq).sb,(mL q hq).st⟩⟩,cR⟩
abbrev eV:List (List Nat):=bt.take 3
theorem iQm:Ke eV:=(eQF 3 (by decide)).1
theorem iQn:ZJ eV=true:=by decide+kernel
theorem R1:∀s∈eV,s.length<=1000:=by decide
def RawV.wov (x:RawV):List (List Nat):=XV eV (λc=>Qo (x.cho c)) 3 0 (VL x.fam)
theorem iQo (x:RawV)(c:Nat):KT (Qo (x.cho c))=true:=by
 unfold KT;rw[gQg,ry (uT x c),df];exact W5.2 (λs hs=>XX ((zp _ _ c).1 s hs).1.dr)
theorem iQp {x:RawV}(h:x.fam<=255):(Qo x.wov).length<=1048576:=by
 have QK:=rH h;obtain⟨h1,h2⟩:=oI (nm:=eV) (f:=λc=>Qo (x.cho c)) (P:=λs=>s.length<=2100) (M:=6) (λv ng=>Rp R1 v ng) (by decide) (by decide) 3 0 (VL x.fam) QK (λc hc=>by
  rw[ry (uT x c)];obtain⟨a,b⟩:=zp x.cls (x.txs.map (·.2.2.2)) c;exact⟨λs hs=>by have:=(a s hs).2;omega,b⟩)
 have h3:=rP h1;have h4:(VL x.fam).length*(6+3)<=8*9:=Wq _ (Po _);have h5:(XV eV (λc=>Qo (x.cho c)) 3 0 (VL x.fam)).length*(2100+1)<=72*2101:=Wq _ (by omega);show(Qo (XV eV (λc=>Qo (x.cho c)) 3 0 (VL x.fam))).length<=_;omega
theorem Fl (x:RawV)(hf:x.fam<=255)(Q:List (DV×Pr))(ps:List Pt)(D:DV)(NA:Option Addr)(nc:Nat)(PA:Option Addr)(pc:Nat)(w:World)(hN:Sl w 1 NA 3 nc (X4 eV))(hD:SB w D.A D.n D.c D.nd)(sD:Set1 3 D.nd D.r (eU x.fam))(hQ:PtsIn w PA Q.length pc Q)(hm:PrM 3 (Q.map (·.2)) ps)(hp:PtOk x.cho (VL x.fam) ps):
  Fn Tryz.prog 24 [.slice NA 3 nc,Xg D.A D.n D.c D.r,.slice PA Q.length pc] w (λu w'=>u= .tuple #[.string (Qf (Qo x.wov)),.int .i64 0]/\Ext w w'):=by
 have nz:∀q∈Q,(∀b∈q.2.t,b<256)/\q.2.t.length<=30:=λq hq=>by
  obtain⟨k,hk⟩:=be.1 hq;have Zy:=(Zt.1 hk).1;have hl:=hm.len;rw[Jg] at hl;obtain⟨p,iL⟩:∃p,ps[k]? =some p:=⟨_,Xs (by omega)⟩
  have h1:=(hm.get (q:=q.2) (k:=k) (by rw[K2,hk];rfl) iL).1;obtain⟨d,hd⟩:=gV _ (hp.ne p (Xe iL));rw[h1,<-(hp.tx p (Xe iL) d hd).2];exact Fk x d
 refine(zD NA 3 nc eV D PA Q.length pc (Q.map (λq=>(q.1,q.2.t))) (by decide) iQm R1 (λq hq=>by
  obtain⟨q0,h0,rfl⟩:=ZY.1 hq;obtain⟨a,b⟩:=nz q0 h0;exact⟨a,by show q0.2.t.length<=2000;omega⟩) w hN hD ⟨by rw[<-zH];exact hQ.sl.1,by rw[Jg]⟩ (λq hq=>by
  obtain⟨q0,h0,rfl⟩:=ZY.1 hq;exact(hQ.sb q0 h0).1)).mono ?_
 rintro u w' ⟨rfl,hE⟩;refine⟨?_,hE⟩;rw[E2 (nm:=eV) iQn (io (n:=3) (by decide) sD).1 (λq hq=>by
  obtain⟨q0,h0,rfl⟩:=ZY.1 hq;exact(io (n:=3) (by decide) (hQ.sb q0 h0).2).1),oS sD,zF (λq hq=>(hQ.sb q hq).2)]
 have Ko:QC eV.length (eU x.fam)=VL x.fam:=RW hf;have Wm:=hQt (nm:=eV) (o:=eU x.fam) (f:=x.cho) hm (by rw[Ko];exact hp) (λc=>iQo x c) (by rw[Ko];exact rH hf) (by rw[Ko];exact iQp hf);rw[Wm,Ko]<;>rfl
theorem R2 (x:RawV)(single:Bool):PtOk x.cho (VL x.fam) (K7 single x.cho (VL x.fam)):=EC single x.cho _ (gQo _)
def Wc {α:Type}(l:List α)(t:Nat):Nat->List α
 | 0=>[]
 | n+1=>Wc l t n++(l[(n+t) % l.length]?).toList
theorem uU {α:Type}{l:List α}(hl:l≠ [])(t:Nat):∀n,(Wc l t n).length=n/\∀i,i<n->(Wc l t n)[i]? =l[(i+t) % l.length]?
 | 0=>⟨rfl,λi hi=>by omega⟩
 | n+1=>by
  obtain⟨h1,h2⟩:=uU hl t n;have Xb:0<l.length:=xG.2 hl;obtain⟨y,hy⟩:∃y,l[(n+t) % l.length]? =some y:=⟨_,Xs (fA _ Xb)⟩
  rw[Wc,hy];refine⟨by simp[h1],λi hi=>?_⟩;by_cases h:i<n
  ·rw[bY (by omega)];exact h2 i h
  ·have:i=n:=by omega
   subst this;rw[Ws (by omega),h1,hy];simp
theorem mQq {n:Nat}:∀{qs:List Pr}{ps:List Pt},qs.length=ps.length->(∀(k:Nat)(q:Pr)(p:Pt),qs[k]? =some q->ps[k]? =some p->q.t=Qo p.2/\∀c,c<2^n->q.o (bits c)=decide (c∈p.1))->PrM n qs ps
 | [],[],_,_=>trivial
 | q::qs,p::ps,hl,h=>⟨h 0 q p rfl rfl,mQq (by simpa using hl) (λk q' p' h1 h2=>h (k+1) q' p' (by simpa using h1) (by simpa using h2))⟩
theorem R3 {α β:Type}(f:α->β)(l:List α)(t:Nat):∀n,(Wc l t n).map f=Wc (l.map f) t n
 | 0=>rfl
 | n+1=>by
  rw[Wc,Wc,et,R3 f l t n,Jg,K2];cases l[(n+t) % l.length]?<;>rfl
theorem iQq {n:Nat}{qs:List Pr}{ps:List Pt}(h:PrM n qs ps)(QK:ps≠ [])(t:Nat):PrM n (Wc qs t qs.length) (Wc ps t ps.length):=by
 have hl:=h.len;have hq:qs≠ []:=λe=>QK (Y0 (by rw[<-hl,e];rfl))
 obtain⟨a1,a2⟩:=uU hq t qs.length;obtain⟨b1,b2⟩:=uU QK t ps.length;refine mQq (by rw[a1,b1,hl]) (λk q p h1 h2=>?_);have hk:=(Zt.1 h1).1;rw[a1] at hk;rw[a2 k hk] at h1;rw[b2 k (by omega),<-hl] at h2;exact h.get h1 h2
theorem iQr {i j t n:Nat}(hi:i<n)(hj:j<n)(h:(i+t) % n=(j+t) % n):i=j:=by
 have h1:(i+t) % n=(i+t % n) % n:=by rw[Nat.add_mod_mod]
 have h2:(j+t) % n=(j+t % n) % n:=by rw[Nat.add_mod_mod]
 rw[h1,h2] at h;have ht:t % n<n:=fA _ (by omega);generalize t % n=r at*;have e1:(i+r) % n=if i+r<n then i+r else i+r-n:=by
  split
  ·exact aw (by assumption)
  ·rw[Nat.mod_eq_sub_mod (by omega),aw (by omega)]
 have e2:(j+r) % n=if j+r<n then j+r else j+r-n:=by
  split
  ·exact aw (by assumption)
  ·rw[Nat.mod_eq_sub_mod (by omega),aw (by omega)]
 rw[e1,e2] at h;split at h<;>split at h<;>omega
theorem iQs {f:Nat->List (List Nat)}{S:List Nat}{ps:List Pt}(h:PtOk f S ps)(QK:ps≠ [])(t:Nat):PtOk f S (Wc ps t ps.length):=by
 obtain⟨b1,b2⟩:=uU QK t ps.length;have Ko:∀p∈Wc ps t ps.length,p∈ps:=λp hp=>by
  obtain⟨k,hk⟩:=be.1 hp;have Zy:=(Zt.1 hk).1;rw[b1] at Zy;rw[b2 k Zy] at hk;exact Xe hk
 refine⟨λc hc=>?_,λp hp=>h.tx p (Ko p hp),λp hp=>h.ne p (Ko p hp),λi j p q c hi hj hp hq=>?_⟩
 ·obtain⟨p,hp,qe⟩:=h.cov c hc;obtain⟨k,hk⟩:=be.1 hp;have Zy:=(Zt.1 hk).1;have fj:0<ps.length:=by omega
  have:∃i,i<ps.length/\(i+t) % ps.length=k:=by
   have ht:t % ps.length<ps.length:=fA _ fj;by_cases h0:t % ps.length<=k
   ·refine⟨k-t % ps.length,by omega,?_⟩;rw[<-Nat.add_mod_mod,show k-t % ps.length+t % ps.length=k by omega,aw Zy]
   ·refine⟨k+ps.length-t % ps.length,by omega,?_⟩;rw[<-Nat.add_mod_mod,show k+ps.length-t % ps.length+t % ps.length=k+ps.length by omega,Nat.add_mod_right,aw Zy]
  obtain⟨i,hi,pL⟩:=this;exact⟨p,Xe (i:=i) (by rw[b2 i hi,pL];exact hk),qe⟩
 ·have il:=(Zt.1 hi).1;have jl:=(Zt.1 hj).1;rw[b1] at il jl;rw[b2 i il] at hi;rw[b2 j jl] at hj;exact iQr il jl (h.dj _ _ p q c hi hj hp hq)
theorem iQt {x:RawV}{p:Pt}(hf:x.fam<=255)(h:PtOk x.cho (VL x.fam) [p]):Qo x.wov=Qo p.2:=by
 have hall:∀c∈VL x.fam,Qo (x.cho c)=Qo p.2:=λc hc=>by
  obtain⟨q,hq,hcq⟩:=h.cov c hc;rw[QJ.1 hq] at hcq;rw[(h.tx p (QJ.2 rfl) c hcq).2]
 unfold RawV.wov;rw[rF (rH hf) hall];obtain⟨c,hc⟩:=gV _ (rH hf);rw[<-hall c hc,ry (uT x c)]
end
section
open Go Go.RowKit Go.ChangeShapes
variable {H:Type} {enc:TypeId×Value->H}
theorem R4 {α:Type}{l:List α}(h:l.length=1):∃a,l=[a]:=by
 match l,h with
 | [a],_=>exact⟨a,rfl⟩
theorem iQu {W:World}(cs:List Value)(fo:Nat)(D:DataW H×List MemPlace)(hl:cs.length=1)(h:DataW.trod enc Tryz.prog W 0 (λ_=>true) true fo 62 cs=some D):∃y:{t:Option Addr×Nat×Nat×List Nat // Sl W 1 t.1 t.2.1 t.2.2.1 (Ji t.2.2.2)/\∀k∈t.2.2.2,k<=255},rT y.1=cs:=by
 obtain⟨v,rfl⟩:=R4 hl;have key:∃a n c,v= .slice a n c:=by
  rcases Go.Deep.open_slice Tryz.underlying62 h with⟨X6,_⟩ | ⟨x,l,c,m,n,D,Pl,X6,_⟩
  ·simp at X6;exact⟨_,_,_,X6⟩
  ·simp at X6;exact⟨_,_,_,X6⟩
 obtain⟨a,n,c,rfl⟩:=key;obtain⟨ws,hS,h8⟩:=Pj ⟨_,h⟩;exact⟨⟨(a,n,c,ws),hS,h8⟩,rfl⟩
theorem iQv {W:World}{a:Option Addr}{len cap:Nat}{fo:Nat}{D:DataW H×List MemPlace}(h:DataW.trod enc Tryz.prog W 0 (λ_=>true) true fo 63 [.slice a len cap]=some D):∃l,SlS rT 1 W a len cap l/\∀t∈l,Sl W 1 t.1 t.2.1 t.2.2.1 (Ji t.2.2.2)/\∀k∈t.2.2.2,k<=255:=
 gQk (gQj (cells:=λy:{t:Option Addr×Nat×Nat×List Nat // Sl W 1 t.1 t.2.1 t.2.2.1 (Ji t.2.2.2)/\∀k∈t.2.2.2,k<=255}=>rT y.1) (λ_=>rfl) (by decide) Tryz.underlying63 (by kernel_rfl) ⟨⟨(none,0,0,[]),Sl.nil W 1,λk hk=>by cases hk⟩⟩ iQu rfl h)
theorem R5 {W:World}{fo t e:Nat}{v:Value}{D:DataW H×List MemPlace}(hu:Tryz.prog.underlying t=some (.slice e))(h:DataW.trod enc Tryz.prog W 0 (λ_=>true) true fo t [v]=some D):∃a n c,v= .slice a n c:=by
 rcases Go.Deep.open_slice hu h with⟨X6,_⟩ | ⟨x,l,c,m,n,D,Pl,X6,_⟩
 ·simp at X6;exact⟨_,_,_,X6⟩
 ·simp at X6;exact⟨_,_,_,X6⟩
set_option maxRecDepth 100000 in
theorem raw_of {W:World}{base:Nat}{v:Value}{d:DataW H}{p:List MemPlace}(hval:Value.okWide Tryz.prog W .any base 65 v)(h:DataW.Trod enc Tryz.prog W 0 (λ_=>true) true 65 v d p):
  ∃x:RawV,v= .agg x.cells.toArray/\RawIn W x:=by
 obtain⟨fo,hf⟩:=h;obtain⟨cs,rfl,XW⟩:=Go.WideShapes.okWide_struct Tryz.underlying65 hval;have hc:Tryz.prog.cellsOf 65=3:=by kernel_rfl
 have Az:Tryz.prog.cellsOf 5=1:=by kernel_rfl
 have Kw:Tryz.prog.cellsOf 62=1:=by kernel_rfl
 have HL:Tryz.prog.cellsOf 63=1:=by kernel_rfl
 rw[hc] at XW;obtain⟨xs,m,_,_,_,mV,Kk⟩:=DataW.trod_struct Tryz.underlying65 hf;obtain⟨v0,v1,v2,hl⟩:=Pk (show cs.toList.length=3 by simpa using XW);obtain⟨y0,y1,y2,rfl⟩:=Pk (show xs.length=3 from mV);have g0:=Kk 0 _ rfl;have g1:=Kk 1 _ rfl;have g2:=Kk 2 _ rfl;simp[Az,Kw,HL,Value.cells,hl] at g0 g1 g2;obtain⟨n0,e0,_,w0⟩:=DataW.trod_int Tryz.underlying5 g0;simp at e0;obtain⟨f,rfl,q0⟩:=u8_of w0;obtain⟨a1,n1,c1,rfl⟩:=R5 Tryz.underlying62 g1;obtain⟨a2,n2,c2,rfl⟩:=R5 Tryz.underlying63 g2;obtain⟨ws,hS,h8⟩:=Pj ⟨_,g1⟩;obtain⟨l,hT,YT⟩:=iQv g2;subst e0;exact⟨⟨f,ws,l,a1,n1,c1,a2,n2,c2⟩,QN Value.agg (Array.ext' hl),⟨q0,hS,h8,hT,YT⟩⟩
end
section
theorem order_law (x:RawV)(t:Nat)(w:World)(h:RawIn w x)(ht:t<=255):Fn Tryz.prog 7 [.agg x.cells.toArray,.int .u8 t] w (λv w'=>v= .bool true/\Ext w w'):=by
 refine QF (c:={c7 with cuts:=[]}) Qa Tryz.func7 rfl rfl rfl ?_;refine new (λw1 Qd Q2 Qh=>?_);refine call (iQc w1) ?_;rintro _ w2 ⟨rfl,Qg⟩;have Q4:=Qd.trans Qg;refine Qs (Qh.ext Qg) rfl ?_;refine call (R0 x false w2 (h.ext Q4)) ?_;rintro _ w3 ⟨PA,pc,Q,rfl,Qj,sV,Xo⟩;have QQ:=Q4.trans Qj;have Wm:=R2 x false;have QK:K7 false x.cho (VL x.fam)≠ []:=λe=>by
  obtain⟨c,hc⟩:=gV _ (rH h.f8);obtain⟨p,hp,_⟩:=Wm.cov c hc;rw[e] at hp;cases hp
 have H0:=Xo.len;rw[Jg] at H0;have aQC:Q≠ []:=λe=>QK (Y0 (by rw[<-H0,e];rfl))
 have aQD:0<Q.length:=xG.2 aQC;obtain⟨rl,rg⟩:=uU aQC t Q.length;have hQl:=sV.sl.1.le;have hQc:=sV.sl.1.cap;have Sv:Q.length<=8:=by
  have hS:=Po x.fam;have key:∀(S:List Nat) (ps:List Pt),(S.foldl (dB false x.cho) ps).length<=ps.length+S.length:=by
   intro S;induction S with
   | nil=>intro ps;simp
   | cons c S ih=>
    intro ps;have h1:=ih (dB false x.cho ps c);have h2:(dB false x.cho ps c).length<=ps.length+1:=by
     show(im ps c (x.cho c)).length<=_;rcases uL c (x.cho c) ps with⟨p,_,_,h3⟩ | ⟨_,h3⟩
     ·rw[h3,bZ];omega
     ·rw[h3];simp
    rw[tv,Xk];omega
  have:=key (VL x.fam) [];rw[H0];show((VL x.fam).foldl (dB false x.cho) []).length<=8;simp only[Z8] at this;omega
 refine XE Qa [] rfl rfl rfl rfl rfl ⟨⟩ rfl (λcs h=>by cases h) rfl (by decide) (by decide) ?_;intro w4 Qq Kz QZ;refine loop Qa [8,7] (λs:Nat×Option Addr×Nat=>[.int .i64 s.1,.slice s.2.1 s.1 s.2.2]) (λs w'=>Ext w3 w'/\s.1<=Q.length/\Own w' w3.heap.size 56 3 s.2.1 s.1 s.2.2 ((Wc Q t s.1).flatMap ZF)) (λs _=>Q.length-s.1) (0,some ⟨w3.heap.size,0,none⟩,0) rfl ⟨Qq,XM _,Own.empty QZ (QE _)⟩ ?_;rintro⟨i,TA,tc⟩ w5 ⟨Qt,hi,sf⟩;simp only at hi sf;have KN:=sf.rows;refine QB (λc1=>?_) (λc1=>?_)
 ·have Q7:i<Q.length:=by simp only at c1;omega
  refine Qm ((t:Nat):Int) rfl (by omega) ?_;refine Qm ((i+t:Nat):Int) (by show((i:Nat):Int)+(t:Nat)=_;omega) (by omega) ?_;refine yf (d:=Q.length) aQD ?_;have kQ4:(i+t) % Q.length<Q.length:=fA _ aQD;refine Zo iw (sV.ext Qt).sl rfl kQ4 (λad q hq hc=>?_);refine J4 (vs:=ZF q) rfl hc ?_;refine XE Qa [ZF q] rfl rfl rfl rfl rfl ⟨rfl,rfl,⟨⟩⟩ rfl (λcs h=>by simp only[QJ] at h;subst h;rfl) rfl (by decide) (by decide) ?_;intro w6 Q6 cL Xh;have ve:Sl w6 3 (some ⟨w5.heap.size,0,none⟩) 1 1 (ZF q):=Sl.own (sz:=3) (n:=1) Xh (QE _) (by decide) (by simp[ZF,Jd]);refine JE (n:=i) Qa rfl rfl rfl rfl rfl (by decide) rfl rfl ⟨_,rfl⟩ rfl rfl (sf.ext Q6) ve (zI _) (by unfold maxLen;omega) (by show(i+1)*48<=_;omega) (by have:=(Qt.trans Q6).size;omega) ?_;intro TA2 tc2 w7 Jv vz jQP;refine Qm ((i+1:Nat):Int) (by show((i:Nat):Int)+1=_;omega) (by omega) ?_;refine⟨(i+1,TA2,tc2),rfl,⟨Jv.ext (Qt.trans Q6) (λk hk=>(KN k hk).1),Q7,?_⟩,by show Q.length-(i+1)<Q.length-i;omega⟩;simp only;rw[Wc,hq,Option.toList_some,ce];simpa using vz
 have Q7:i=Q.length:=by simp only at c1;omega
 subst Q7;have Jm:=QQ.trans Qt;have hR:PtsIn w5 TA (Wc Q t Q.length).length tc (Wc Q t Q.length):=by
  rw[rl];refine⟨⟨sf.sl,rl⟩,λq hq=>?_⟩;obtain⟨k,hk⟩:=be.1 hq;have Zy:=(Zt.1 hk).1;rw[rl] at Zy;rw[rg k Zy] at hk;obtain⟨a,b⟩:=sV.sb q (Xe hk);exact⟨a.ext Qt,b⟩
 have hRm:PrM 3 ((Wc Q t Q.length).map (·.2)) (Wc (K7 false x.cho (VL x.fam)) t (K7 false x.cho (VL x.fam)).length):=by
  rw[R3];have:=iQq Xo QK t;rw[Jg] at this;exact this
 have hRp:=iQs Wm QK t;refine Qv (Qh.ext (Qg.trans (Qj.trans Qt))) rfl ?_;refine call (RX x.fam h.f8 w5) ?_;rintro _ w6 ⟨DA,dn,dc,dnd,dr,rfl,Q6,dY,sD,_⟩;refine new (λw7 Q1 YS QY=>?_);refine Qx QY rfl (sc rfl) (λw8 V8 _ Xp=>?_);have YV:Ext w6 w8:=X0 Q1 QY V8;have cQ:=Q6.trans YV;have V9:=Jm.trans cQ;have gB:=dY.ext YV;have mI:=Ext.drew w8;refine XJ Qa (Ext w8) 9 [(true,1),(true,2),(false,0),(false,3),(true,4),(true,5),(true,6),(true,7),(true,8)] (by kernel_rfl) mI ?_;refine Xl (vs:=[.slice DA dn dc,.int .i64 dr]) rfl (λw' Qb k u hk=>by rw[(Xp.ext Qb).cell];exact hk) ?_;refine call (Fj w8.drew) ?_;rintro _ w9 ⟨NA,nc,rfl,Xw,hN9⟩;have BQ:=mI.trans Xw;refine⟨BQ,?_⟩;refine call (Fl x h.f8 Q _ ⟨DA,dn,dc,dnd,dr⟩ NA nc PA pc w9 hN9 (gB.ext BQ) sD (sV.ext (Qt.trans (cQ.trans BQ))) Xo Wm) ?_;rintro _ QG ⟨rfl,Zw⟩;have WY:=BQ.trans Zw;refine⟨WY,?_⟩;have As:=Ext.drew QG;refine XJ Qa (Ext QG) 9 [(true,1),(true,2),(false,0),(false,3),(true,4),(true,5),(true,6),(true,7),(true,8)] (by kernel_rfl) As ?_;refine Xl (vs:=[.slice DA dn dc,.int .i64 dr]) rfl (λw' Qb k u hk=>by rw[((Xp.ext WY).ext Qb).cell];exact hk) ?_;refine call (Fj QG.drew) ?_;rintro _ QD ⟨NA2,wm,rfl,Jx,kQn⟩;have H1:=As.trans Jx;refine⟨H1,?_⟩;have aQf:=WY.trans H1;have Cr:=Fl x h.f8 (Wc Q t Q.length) _ ⟨DA,dn,dc,dnd,dr⟩ NA2 wm TA tc QD kQn (gB.ext aQf) sD (hR.ext (cQ.trans aQf)) hRm hRp;rw[rl] at Cr;refine call Cr ?_;rintro _ Q5 ⟨rfl,Xq⟩;have kr:=H1.trans Xq;refine⟨kr,?_⟩;have pB:=WY.trans kr;have kj:=Ext.drew Q5;have kQo:=Qh.ext (Qg.trans (Qj.trans (Qt.trans (cQ.trans pB))));have bL:=V9.trans pB;refine XJ Qa (Ext Q5) 10 [(true,1),(true,2),(false,0),(false,3),(false,4),(true,5),(true,6),(true,7),(true,8),(true,9)] (by kernel_rfl) kj ?_;refine Xl (vs:=[.slice DA dn dc,.int .i64 dr]) rfl (λw' Qb k u hk=>by rw[((Xp.ext pB).ext Qb).cell];exact hk) ?_;refine Xl (vs:=x.cells) rfl (λw' Qb k u hk=>by rw[(kQo.ext Qb).cell];exact hk) ?_;refine call (Fj Q5.drew) ?_;rintro _ XR ⟨NA3,HB,rfl,XD,kQp⟩;have sM:=kj.trans XD;refine⟨sM,?_⟩;refine call (R0 x true XR (h.ext (bL.trans sM))) ?_;rintro _ Za ⟨PA3,pc3,Q3,rfl,Jl,kQq,su⟩;have gz:=sM.trans Jl;refine⟨gz,?_⟩;refine call (Fl x h.f8 Q3 _ ⟨DA,dn,dc,dnd,dr⟩ NA3 HB PA3 pc3 Za (kQp.ext Jl) (gB.ext (pB.trans gz)) sD kQq su (R2 x true)) ?_;rintro _ Ka ⟨rfl,Ve⟩;have kB:=gz.trans Ve;refine⟨kB,?_⟩;refine Jp rfl ?_;refine Jp rfl ?_;refine Jp rfl ?_;refine X7 rfl ?_;refine X7 rfl ?_;refine QB (λd1=>?_) (λd1=>?_)
 ·first | exact⟨rfl,bL.trans kB⟩ | exact⟨QN Value.bool (XX d1),bL.trans kB⟩ | (refine X7 d1 ?_;first | exact⟨rfl,bL.trans kB⟩ | exact⟨QN Value.bool (XX d1),bL.trans kB⟩ | done) | (refine X7 d1 ?_;refine X7 d1 ?_;exact⟨rfl,bL.trans kB⟩)
 ·have Xu:Q.length=1:=by omega
  refine Zo iw (sV.ext (Qt.trans (cQ.trans (pB.trans kB)))).sl (j:=0) rfl (by omega) (λad q hq hc=>?_);refine load (hc 2 _ rfl) ?_;have gw:Qo x.wov=q.2.t:=by
   obtain⟨p,hp⟩:∃p,K7 false x.cho (VL x.fam)=[p]:=by
    have hl:(K7 false x.cho (VL x.fam)).length=1:=by rw[<-Xo.len,Jg];exact Xu
    exact R4 hl
   rw[hp] at Wm Xo;rw[iQt h.f8 Wm,(Xo.get (q:=q.2) (k:=0) (p:=p) (by rw[K2,hq];rfl) rfl).1]
  refine X7 (by rw[gw]) ?_;first | exact⟨rfl,bL.trans kB⟩ | exact⟨QN Value.bool (XX (by rw[gw])),bL.trans kB⟩
end
end Go.Proofs.YtjabbbcdgmlojaaGreatDoor
