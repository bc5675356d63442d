/-
  What PPatchShares rests on, part 3 (wip/shake.py).
  Conditions: none.
-/
import Derived.Test.YtjabbbcdgmlojaaGreatDoorQPPatchSharesb
set_option linter.all false
set_option linter.deprecated false
set_option maxHeartbeats 12800000
namespace Go.Proofs.YtjabbbcdgmlojaaGreatDoor
open Go Go.RowKit
section
structure DgI (w0:World) (g:Nat) (f:List Fz) (k n s:Nat) (L:List DV) (w:World):Prop where
 m:Mod (·=g) w0 w
 blk:Blk w g 32 (L.flatMap DV.cells)
 len:L.length=n
 got:∀j,j<s->∃x t,L[j]? =some x/\RepF f t j/\SB w x.A x.n x.c x.nd/\Set1 k x.nd x.r (evF t)/\∀i,Qj x.A i->g<i
theorem SB.mod {S:Nat->Prop}{w w':World}{A:Option Addr}{n c:Nat}{nd:List Br}(h:SB w A n c nd)(hm:Mod S w w')(hr:∀i,Qj A i->¬S i):SB w' A n c nd:=⟨h.1.modS hm (λ_ i hi=>hr i hi),h.2⟩
theorem DgI.mod {w0 w w':World}{g:Nat}{f:List Fz}{k n s:Nat}{L:List DV}(h:DgI w0 g f k n s L w)(k1:Ext w w'):DgI w0 g f k n s L w':=
 ⟨h.m.trans (Mod.of_ext (·=g) k1) (λ_ hi=>.inl hi),h.blk.ext k1,h.len,λj hj=>by
  obtain⟨x,t,h1,h2,h3,h4,h5⟩:=h.got j hj;exact⟨x,t,h1,h2,h3.ext k1,h4,h5⟩⟩
theorem DgI.put {w0 w w':World}{g:Nat}{f:List Fz}{k n s:Nat}{L:List DV}(h:DgI w0 g f k n s L w)(hs:s<n){x:DV}{t:Fm}(ht:RepF f t s)(hx:SB w x.A x.n x.c x.nd)(hS:Set1 k x.nd x.r (evF t))(hr:∀i,Qj x.A i->g<i)(hm:Mod (·=g) w w')
  (hb:Blk w' g 32 (KV (s*2) x.cells (L.flatMap DV.cells))):DgI w0 g f k n (s+1) (L.set s x) w':=by
 have hl:=h.len;refine⟨h.m.trans hm (λ_ hi=>.inl hi),by rw[<-zZ cU L x (by omega)];exact hb,by rw[dG];exact hl,λj hj=>?_⟩;by_cases YF:j=s
 ·subst YF;exact⟨x,t,by rw[iv (by omega)],ht,hx.mod hm (λi hi e=>by have:=hr i hi;omega),hS,hr⟩
 ·obtain⟨y,u,h1,h2,h3,h4,h5⟩:=h.got j (by omega);exact⟨y,u,by rw[fd (λe=>YF e.symm)];exact h1,h2,h3.mod hm (λi hi e=>by have:=h5 i hi;omega),h4,h5⟩
def DgC (g s:Nat)(L:List DV)(w w':World):Prop:=Mod (·=g) w w'/\∀(j:Nat)(x:DV),j≠s->L[j]? =some x->∀(i:Nat)(v:Value),x.cells[i]? =some v->w'.cell? ((⟨g,0,none⟩:Addr).add (j*2+i))=some v
theorem DgC.of_ext {g s:Nat}{L:List DV}{w w':World}(hb:Blk w g 32 (L.flatMap DV.cells))(h:Ext w w'):DgC g s L w w':=
 ⟨Mod.of_ext _ h,λj x _ hx i v hi=>by rw[(hb.ext h).cell];exact fm cU _ _ _ _ _ hx hi⟩
theorem DgC.put {g s:Nat}{L:List DV}{w w1 w':World}{x:DV}(hs:s<L.length)(h:Ext w w1)(hm:Mod (·=g) w1 w')(hb:Blk w' g 32 (KV (s*2) x.cells (L.flatMap DV.cells))):DgC g s L w w':=
 ⟨(
  Mod.of_ext (·=g) h).trans hm (λ_ hi=>.inl hi),λj y hj hy i v hi=>by
  rw[hb.cell,zZ cU L x hs];exact fm cU _ _ _ _ _ (by rw[fd (λe=>hj e.symm)];exact hy) hi⟩
theorem FV.rep {f:List Fz}(h:FV f){i:Nat}(hi:i<f.length):∃t,RepF f t i:=Og h.2.2.1 i hi
theorem fQk (F:Option Addr)(n cF:Nat)(f:List Fz)(k:Nat)(hk:k<=12)(w:World)(h:SF w F n cF f)(hv:FV f)(Db:mf k f):
  Fn Tryz.prog 203 [.slice F n cF] w (λv w'=>∃A m c nd r,v= .tuple #[Xm A m c r,.int .i64 0]/\Ext w w'/\SB w' A m c nd/\Set1 k nd r (evF (fu f))/\∀i,Qj A i->w.heap.size<i):=by
 have hn:=h.2;have hvl:=hv.1;have eu:=hv.2.1;refine QD (c:={cQZ with cuts:=[]}) Qa Tryz.func203 rfl rfl rfl ?_;refine new (λw1 Qd Q3 Qh=>?_);refine call (N9 F n cF f w1 (h.ext Qd)) ?_;rintro _ w2 ⟨rfl,Qg⟩;refine Wo (zB hv) ?_;have Q7:=Qd.trans Qg;refine fQj cU (by decide) (⟨none,0,0,[],0⟩:DV) Qa rfl rfl rfl rfl rfl rfl rfl rfl (by show 32*n<=_;omega) (by unfold maxLen;omega) (λw3 Qk JI Qt=>?_);have QW:=Q7.trans Qk;have jQB:=Q7.size;have Zb:w1.heap.size<=w2.heap.size:=Qg.size;refine loop Qa [17] (λs:Nat×List DV=>[.int .i64 s.1]) (λs w'=>DgI w3 w2.heap.size f k n s.1 s.2 w'/\s.1<=n) (λs _=>n-s.1) (0,List.replicate n ⟨none,0,0,[],0⟩) rfl ⟨⟨Mod.refl _ _,Qt,by simp,λj hj=>Q8 hj (by simp)⟩,XJ _⟩ ?_;rintro⟨s,L⟩ w4 ⟨hI,hs⟩;simp only at hI hs;have Qq:Ext w w4:=hI.m.ext QW (λi hi=>by omega);have hL:=hI.len;refine Qy (λh1=>?_) (λh1=>?_)
 ·have aw:s<n:=by simp only at h1;omega
  refine Zw zz (h.ext Qq) rfl aw (λp x hx hc=>?_);refine Kr (vs:=x.cells) rfl hc ?_;refine new (λw5 Qv KJ QK=>?_);refine Qz QK rfl (sc rfl) (λw6 WE em Xo=>?_);have Xz:Ext w4 w6:=X9 Qv QK WE;have JJ:=hI.mod Xz;obtain⟨t,ht⟩:=hv.rep (i:=s) (by omega);have KY:=hI.m.size;have TI:=Xz.size;have c0:Set1 k [] 0 (λ_=>false):=br k false;have hrc:∀i,Qj (none:Option Addr) i->w2.heap.size<i:=λi hi=>by obtain⟨_,e,_⟩:=hi;cases e
  cases t with
  | c b=>
   cases b with
   | false=>
    have Yc:x=⟨0,0,0,0⟩:=Option.some.inj (hx.symm.trans ht);subst Yc;refine Qx Xo rfl ?_;refine Kc rfl ?_;refine Qx Xo rfl ?_;refine call (ce false w6) ?_;rintro _ w7 ⟨rfl,Q2⟩;have aN:=JJ.mod Q2;refine JO (j:=s) aw ?_;refine jM (j:=s*2) (vs:=(⟨none,0,0,[],0⟩:DV).cells) aN.blk (by rw[cQ cU,hL];show s*2+2<=n*2;omega) (sc rfl) (λw8 YQ VJ Xt=>?_);have ZC:Mod (·=w2.heap.size) w7 w8:=mQW YQ rfl;have gO:=aN.put aw (x:=⟨none,0,0,[],0⟩) ht (SlS.nil _) (br k false) hrc ZC Xt;refine Wo rfl ?_;refine Qi ((s+1:Nat):Int) (by show((s:Nat):Int)+1=_;omega) (by omega) ?_;exact⟨(s+1,L.set s ⟨none,0,0,[],0⟩),rfl,⟨gO,by show s+1<=n;omega⟩,by show n-(s+1)<n-s;omega⟩
   | true=>
    have Yc:x=⟨1,0,0,0⟩:=Option.some.inj (hx.symm.trans ht);subst Yc;refine Qx Xo rfl ?_;refine XB (show¬(1:Int)=0 by decide) ?_;refine Kc rfl ?_;refine Qx Xo rfl ?_;refine call (ce true w6) ?_;rintro _ w7 ⟨rfl,Q2⟩;have aN:=JJ.mod Q2;refine JO (j:=s) aw ?_;refine jM (j:=s*2) (vs:=(⟨none,0,0,[],1⟩:DV).cells) aN.blk (by rw[cQ cU,hL];show s*2+2<=n*2;omega) (sc rfl) (λw8 YQ VJ Xt=>?_);have ZC:Mod (·=w2.heap.size) w7 w8:=mQW YQ rfl;have gO:=aN.put aw (x:=⟨none,0,0,[],1⟩) ht (SlS.nil _) (br k true) hrc ZC Xt;refine Wo rfl ?_;refine Qi ((s+1:Nat):Int) (by show((s:Nat):Int)+1=_;omega) (by omega) ?_;exact⟨(s+1,L.set s ⟨none,0,0,[],1⟩),rfl,⟨gO,by show s+1<=n;omega⟩,by show n-(s+1)<n-s;omega⟩
  | v q=>
   have Yc:x=⟨2,(q:Nat),0,0⟩:=Option.some.inj (hx.symm.trans ht);subst Yc;have hq:(q:Int)<k:=Db _ (QO hx) rfl;refine Qx Xo rfl ?_;refine XB (show¬(2:Int)=0 by decide) ?_;refine XB (show¬(2:Int)=1 by decide) ?_;refine Kc rfl ?_;refine Qp Xo rfl ?_;refine call (E3 (q:Nat) w6 (by omega) (by omega)) ?_;rintro _ w7 ⟨PA,pn,pc,rfl,Q2,kV,Kt⟩;have aN:=JJ.mod Q2;have qY:Set1 k [⟨(q:Nat),0,1⟩] 2 (evF (.v q)):=⟨zT (by omega) (by omega),λb hb=>by simp only[QL] at hb;subst hb;exact hq,λe=>by
    rw[bZ (zT (k:=((q:Nat):Int)) (by omega) (by omega)).wf (by decide) (b:=⟨(q:Nat),0,1⟩) rfl,JD (by simp),JD (by simp)];cases h:e q<;>simp[evF,h]⟩
   refine JO (j:=s) aw ?_;refine jM (j:=s*2) (vs:=(⟨PA,pn,pc,[⟨(q:Nat),0,1⟩],2⟩:DV).cells) aN.blk (by rw[cQ cU,hL];show s*2+2<=n*2;omega) (sc rfl) (λw8 YQ VJ Xt=>?_);have ZC:Mod (·=w2.heap.size) w7 w8:=mQW YQ rfl;have gO:=aN.put aw (x:=⟨PA,pn,pc,[⟨(q:Nat),0,1⟩],2⟩) ht kV qY (λi hi=>by have:=Kt i hi;omega) ZC Xt;refine Wo rfl ?_;refine Qi ((s+1:Nat):Int) (by show((s:Nat):Int)+1=_;omega) (by omega) ?_;exact⟨(s+1,L.set s ⟨PA,pn,pc,[⟨(q:Nat),0,1⟩],2⟩),rfl,⟨gO,by show s+1<=n;omega⟩,by show n-(s+1)<n-s;omega⟩
  | not a=>
   obtain⟨j,hj,nZ,YY⟩:=ht;have Yc:x=⟨3,0,(j:Nat),0⟩:=Option.some.inj (hx.symm.trans nZ);subst Yc;obtain⟨y,u,hy,hu,qZ,jn,xX⟩:=JJ.got j hj;obtain rfl:u=a:=mQY hu YY;have fM:=gm hk jn c0 3;have Zc:=dS jn c0 3;have Kh:j<n:=by omega
   refine Qx Xo rfl ?_;refine XB (show¬(3:Int)=0 by decide) ?_;refine XB (show¬(3:Int)=1 by decide) ?_;refine XB (show¬(3:Int)=2 by decide) ?_;refine Kc rfl ?_;refine Qp Xo rfl ?_;refine JO (j:=j) Kh ?_;refine fk (j:=j*2) (vs:=y.cells) JJ.blk rfl (λi v hi=>fm cU _ _ _ _ _ hy hi) ?_;refine call (E6 y.A y.n y.c y.nd y.r w6 qZ) ?_;rw[fM];rintro _ w7 ⟨PA,pn,pc,rfl,Q2,kV,Kt⟩;have aN:=JJ.mod Q2;have ht:RepF f (.not u) s:=⟨j,hj,nZ,YY⟩
   generalize VE y.nd y.r [] 0 3=D at*;obtain⟨D1,D2⟩:=D;have qY:Set1 k D1 D2 (evF (.not u)):=Zc.congr (λe=>by simp[Ki,evF]);refine JO (j:=s) aw ?_;refine jM (j:=s*2) (vs:=(⟨PA,pn,pc,D1,D2⟩:DV).cells) aN.blk (by rw[cQ cU,hL];show s*2+2<=n*2;omega) (sc rfl) (λw8 YQ VJ Xt=>?_);have ZC:Mod (·=w2.heap.size) w7 w8:=mQW YQ rfl;have gO:=aN.put aw (x:=⟨PA,pn,pc,D1,D2⟩) ht kV qY (λi hi=>by have:=Kt i hi;omega) ZC Xt;refine Wo rfl ?_;refine Qi ((s+1:Nat):Int) (by show((s:Nat):Int)+1=_;omega) (by omega) ?_;exact⟨(s+1,L.set s ⟨PA,pn,pc,D1,D2⟩),rfl,⟨gO,by show s+1<=n;omega⟩,by show n-(s+1)<n-s;omega⟩
  | and a b=>
   obtain⟨j,l,hj,hl,nZ,YY,eT⟩:=ht;have Yc:x=⟨4,0,(j:Nat),(l:Nat)⟩:=Option.some.inj (hx.symm.trans nZ);subst Yc;obtain⟨y,u,hy,hu,qZ,jn,xX⟩:=JJ.got j hj;obtain rfl:u=a:=mQY hu YY;obtain⟨z,u',hz,lA,Lw,xY,hzr⟩:=JJ.got l hl;obtain rfl:u'=b:=mQY lA eT;have fM:=gm hk jn xY 0;have Zc:=dS jn xY 0;have Kh:j<n:=by omega
   have jo:l<n:=by omega
   refine Qx Xo rfl ?_;refine XB (show¬(4:Int)=0 by decide) ?_;refine XB (show¬(4:Int)=1 by decide) ?_;refine XB (show¬(4:Int)=2 by decide) ?_;refine XB (show¬(4:Int)=3 by decide) ?_;refine Kc rfl ?_;refine XC Qa (DgC w2.heap.size s L w6) 19 [(true,0),(true,1),(true,2),(true,3),(true,4),(true,5),(true,6),(true,7),(true,8),(true,9),(true,10),(true,11),(false,12),(true,13),(true,14),(true,15),(true,16),(false,17),(true,18)] (by kernel_rfl) (DgC.of_ext JJ.blk (Ext.drew w6)) ?_;have xZ:¬w4.heap.size=w2.heap.size:=by omega
   refine QH (v:=.int .i64 (j:Nat)) (λw' Qb=>by rw[(Xo.mod Qb.1 xZ).cell];rfl) ?_;refine JO (j:=j) Kh ?_;refine Xq (vs:=y.cells) rfl (λw' Qb i v hi=>by rw[add_add];exact Qb.2 j y (by omega) hy i v hi) ?_;refine QH (v:=.int .i64 (l:Nat)) (λw' Qb=>by rw[(Xo.mod Qb.1 xZ).cell];rfl) ?_;refine JO (j:=l) jo ?_;refine Xq (vs:=z.cells) rfl (λw' Qb i v hi=>by rw[add_add];exact Qb.2 l z (by omega) hz i v hi) ?_;refine call (vE y.A y.n y.c y.nd y.r z.A z.n z.c z.nd z.r _ (qZ.ext (Ext.drew w6)) (Lw.ext (Ext.drew w6))) ?_;rw[fM];rintro _ w7 ⟨PA,pn,pc,rfl,Hu,kV,Kt⟩;have Q2:=(Ext.drew w6).trans Hu;have lQb:=(Ext.drew w6).size;refine⟨DgC.of_ext JJ.blk Q2,?_⟩;have aN:=JJ.mod Q2;have ht:RepF f (.and u u') s:=⟨j,l,hj,hl,nZ,YY,eT⟩
   generalize VE y.nd y.r z.nd z.r 0=D at*;obtain⟨D1,D2⟩:=D;have qY:Set1 k D1 D2 (evF (.and u u')):=Zc.congr (λe=>by simp[Ki,evF]);refine JO (j:=s) aw ?_;refine jM (j:=s*2) (vs:=(⟨PA,pn,pc,D1,D2⟩:DV).cells) aN.blk (by rw[cQ cU,hL];show s*2+2<=n*2;omega) (sc rfl) (λw8 YQ VJ Xt=>?_);have ZC:Mod (·=w2.heap.size) w7 w8:=mQW YQ rfl;have gO:=aN.put aw (x:=⟨PA,pn,pc,D1,D2⟩) ht kV qY (λi hi=>by have:=Kt i hi;omega) ZC Xt;refine⟨DgC.put (by omega) Q2 ZC Xt,?_⟩;refine Wo rfl ?_;refine Qi ((s+1:Nat):Int) (by show((s:Nat):Int)+1=_;omega) (by omega) ?_;exact⟨(s+1,L.set s ⟨PA,pn,pc,D1,D2⟩),rfl,⟨gO,by show s+1<=n;omega⟩,by show n-(s+1)<n-s;omega⟩
  | or a b=>
   obtain⟨j,l,hj,hl,nZ,YY,eT⟩:=ht;have Yc:x=⟨5,0,(j:Nat),(l:Nat)⟩:=Option.some.inj (hx.symm.trans nZ);subst Yc;obtain⟨y,u,hy,hu,qZ,jn,xX⟩:=JJ.got j hj;obtain rfl:u=a:=mQY hu YY;obtain⟨z,u',hz,lA,Lw,xY,hzr⟩:=JJ.got l hl;obtain rfl:u'=b:=mQY lA eT;have fM:=gm hk jn xY 1;have Zc:=dS jn xY 1;have Kh:j<n:=by omega
   have jo:l<n:=by omega
   refine Qx Xo rfl ?_;refine XB (show¬(5:Int)=0 by decide) ?_;refine XB (show¬(5:Int)=1 by decide) ?_;refine XB (show¬(5:Int)=2 by decide) ?_;refine XB (show¬(5:Int)=3 by decide) ?_;refine XB (show¬(5:Int)=4 by decide) ?_;refine Kc rfl ?_;refine XC Qa (DgC w2.heap.size s L w6) 19 [(true,0),(true,1),(true,2),(true,3),(true,4),(true,5),(true,6),(true,7),(true,8),(true,9),(true,10),(true,11),(false,12),(true,13),(true,14),(true,15),(true,16),(false,17),(true,18)] (by kernel_rfl) (DgC.of_ext JJ.blk (Ext.drew w6)) ?_;have xZ:¬w4.heap.size=w2.heap.size:=by omega
   refine QH (v:=.int .i64 (j:Nat)) (λw' Qb=>by rw[(Xo.mod Qb.1 xZ).cell];rfl) ?_;refine JO (j:=j) Kh ?_;refine Xq (vs:=y.cells) rfl (λw' Qb i v hi=>by rw[add_add];exact Qb.2 j y (by omega) hy i v hi) ?_;refine QH (v:=.int .i64 (l:Nat)) (λw' Qb=>by rw[(Xo.mod Qb.1 xZ).cell];rfl) ?_;refine JO (j:=l) jo ?_;refine Xq (vs:=z.cells) rfl (λw' Qb i v hi=>by rw[add_add];exact Qb.2 l z (by omega) hz i v hi) ?_;refine call (Po y.A y.n y.c y.nd y.r z.A z.n z.c z.nd z.r _ (qZ.ext (Ext.drew w6)) (Lw.ext (Ext.drew w6))) ?_;rw[fM];rintro _ w7 ⟨PA,pn,pc,rfl,Hu,kV,Kt⟩;have Q2:=(Ext.drew w6).trans Hu;have lQb:=(Ext.drew w6).size;refine⟨DgC.of_ext JJ.blk Q2,?_⟩;have aN:=JJ.mod Q2;have ht:RepF f (.or u u') s:=⟨j,l,hj,hl,nZ,YY,eT⟩
   generalize VE y.nd y.r z.nd z.r 1=D at*;obtain⟨D1,D2⟩:=D;have qY:Set1 k D1 D2 (evF (.or u u')):=Zc.congr (λe=>by simp[Ki,evF]);refine JO (j:=s) aw ?_;refine jM (j:=s*2) (vs:=(⟨PA,pn,pc,D1,D2⟩:DV).cells) aN.blk (by rw[cQ cU,hL];show s*2+2<=n*2;omega) (sc rfl) (λw8 YQ VJ Xt=>?_);have ZC:Mod (·=w2.heap.size) w7 w8:=mQW YQ rfl;have gO:=aN.put aw (x:=⟨PA,pn,pc,D1,D2⟩) ht kV qY (λi hi=>by have:=Kt i hi;omega) ZC Xt;refine⟨DgC.put (by omega) Q2 ZC Xt,?_⟩;refine Wo rfl ?_;refine Qi ((s+1:Nat):Int) (by show((s:Nat):Int)+1=_;omega) (by omega) ?_;exact⟨(s+1,L.set s ⟨PA,pn,pc,D1,D2⟩),rfl,⟨gO,by show s+1<=n;omega⟩,by show n-(s+1)<n-s;omega⟩
 ·have aw:s=n:=by simp only at h1;omega
  subst aw;obtain⟨y,u,hy,hu,qZ,jn,xX⟩:=hI.got (s-1) (by omega);have Dg:=Ey (f:=f) (t:=u) (by rw[hn];exact hu);refine Qi ((s-1:Nat):Int) (by omega) (by omega) ?_;refine JO (j:=s-1) (by omega) ?_;refine fk (j:=(s-1)*2) (vs:=y.cells) hI.blk rfl (λi v hi=>fm cU _ _ _ _ _ hy hi) ?_;have Q4:=((Qh.ext Qg).ext Qk).mod hI.m (by show¬w.heap.size=w2.heap.size;omega);refine Qz Q4 rfl (sc rfl) (λw5 Jw KJ QK=>?_);have Z1:Mod (·=w.heap.size) w4 w5:=mQW Jw rfl;refine Qs QK rfl ?_;exact⟨y.A,y.n,y.c,y.nd,y.r,rfl,Z1.ext Qq (λi hi=>by omega),qZ.mod Z1 (λi hi e=>by have:=xX i hi;omega),by rw[Dg];exact jn,λi hi=>by have:=xX i hi;omega⟩
end
section
section
abbrev JQ (g o:Nat):Addr:=(⟨g,0,none⟩:Addr).add o
def vF (t m o:Nat):Prop:=liesAt Tryz.prog Tryz.prog.depth t (m/Tryz.prog.cellsOf t) o 109 1=true
theorem E7 (g o:Nat):(JQ g o).off=o/\(JQ g o).block=g:=by unfold JQ;rw[oZ];exact⟨rfl,rfl⟩
theorem E8 {w:World}{g t o j:Nat}{cs:List Value}(h:Blk w g t cs):w.cell? ((JQ g o).add j)=cs[o+j]? :=by unfold JQ;rw[add_add,h.cell]
theorem vG {w:World}{g t o j:Nat}{cs:List Value}{v:Value}{K:Value->Prop}(h:Blk w g t cs)(hv:cs[o+j]? =some v)(k:K v):gb w ((JQ g o).add j) K:=load (by rw[E8 h];exact hv) k
theorem Pu {w:World}{g t o j:Nat}{cs:List Value}{v:Value}{K:World->Prop}(h:Blk w g t cs)(hj:o+j<cs.length)(k:∀w1,Mod (·=g) w w1->Blk w1 g t (cs.set (o+j) v)->K w1):gc w ((JQ g o).add j) v K:=by
 unfold JQ;rw[add_add];exact XP h hj k
theorem fQl (g t o:Nat)(pa:Value)(cs:List Value)(w:World)(hl:vF t cs.length o)(ho:o<cs.length)(hp:pa= .pointer none∨pa= .pointer (some (JQ g o)))(hB:Blk w g t cs)(hc:cs[o]? =some pa):
  Fn Tryz.prog 106 [.pointer (some (JQ g o))] w (λ_ w'=>Mod (·=g) w w'/\Blk w' g t (cs.set o (.pointer (some (JQ g o))))):=by
 obtain⟨j,hj,mR⟩:=NE;refine QD (c:=Ns) Qa Tryz.func106 rfl rfl rfl ?_;have eO:w.shape? (JQ g o).block=some (t,cs.length):=by rw[(E7 g o).2];exact hB.shape
 have ucs:=Tryz.underlying107;have uus:=Tryz.underlying240;rcases hp with rfl | rfl
 ·refine vG hB (by simpa using hc) ?_;refine Xa rfl ?_;refine Js (w':=w) (v:=.pointer (some (JQ g o))) (λa hf=>?_) ?_
  ·have e1:=hf.ev (show Env.ev _ (.tmp 8)=some (.pointer (some (JQ g o))) from rfl);have:=Lib.run_to_unsafe (P:=Tryz.prog) (src:=107) (dst:=240) w (JQ g o) ucs uus hj mR eO (by rw[(E7 g o).1];exact ho);simp only[execOp,e1];simp[bm,this]
  refine Js (w':=w) (v:=.pointer (some (JQ g o))) (λa hf=>?_) ?_
  ·have e1:=hf.ev (show Env.ev _ (.tmp 9)=some (.pointer (some (JQ g o))) from rfl);have:=run_callFunc_extern (P:=Tryz.prog) (e:=Extern.AbiNoEscape.same) Tryz.func159 (by kernel_rfl) (by kernel_rfl) (by kernel_rfl) (by kernel_rfl) #[.pointer (some (JQ g o))] w;rw[Lib.run_noEscape] at this;simp only[execOp,resolve,invoke];simp[Deferred.ofValue,Act.eval] at e1 ⊢;simp[e1,bm,this]
  refine Js (w':=w) (v:=.pointer (some (JQ g o))) (λa hf=>?_) ?_
  ·have e1:=hf.ev (show Env.ev _ (.tmp 10)=some (.pointer (some (JQ g o))) from rfl);have:=Lib.run_from_unsafe (P:=Tryz.prog) (src:=240) (dst:=107) (u:=109) w (JQ g o) uus ucs hj eO (by rw[(E7 g o).1];exact hl);simp only[execOp,e1];simp[bm,this]
  refine Pu hB (by simpa using ho) (λw1 hm Qh=>?_);exact⟨hm,by simpa using Qh⟩
 ·refine vG hB (by simpa using hc) ?_;refine Q5 rfl ?_;refine vG hB (by simpa using hc) ?_;refine Js (w':=w) (v:=.bool false) (λa hf=>?_) ?_
  ·have e1:=hf.ev (show Env.ev _ (.tmp 17)=some (.pointer (some (JQ g o))) from rfl);have e2:=hf.ev (show Env.ev _ (.tmp 18)=some (.pointer (some (JQ g o))) from rfl);have:=Lib.run_neq_ptr_same (P:=Tryz.prog) (tp:=107) w (JQ g o) ucs hj;simp only[execOp,e1,e2,eqGuard];simp[bm,this]
  refine Q5 rfl ?_;refine⟨Mod.refl _ _,?_⟩;have e:cs.set o (.pointer (some (JQ g o)))=cs:=by
   apply DB;intro i;by_cases hi:i=o
   ·subst hi;rw[iv ho,hc]
   ·rw[fd (λe=>hi e.symm)]
  rw[e];exact hB
theorem fQm (base g t o:Nat)(pa:Value)(cs:List Value)(A:Option Addr)(c:Nat)(out:List Nat)(s:ByteArray)(w:World)(hl:vF t cs.length o)(ho:o+1<cs.length)(hp:pa= .pointer none∨pa= .pointer (some (JQ g o)))(hB:Blk w g t cs)
  (hc:cs[o]? =some pa) (KK:cs[o+1]? =some (.slice A out.length c)) (dA:Own w base 5 1 A out.length c (Jt out)) (kH:g<base) (top:base<=w.heap.size) (hs:out.length+s.size<=140737488355328):
  Fn Tryz.prog 56 [.pointer (some (JQ g o)),.string s] w (λ_ w'=>∃A' c',Blk w' g t ((cs.set o (.pointer (some (JQ g o)))).set (o+1) (.slice A' (out.length+s.size) c'))/\Own w' base 5 1 A' (out.length+s.size) c' (Jt (out++YK s))/\Mod (BldS g A) w w'/\Moved w A A'):=by
 refine QD (c:=Np) Qa Tryz.func56 rfl rfl rfl ?_;refine call (fQl g t o pa cs w hl (by omega) hp hB hc) ?_;rintro v w1 ⟨Zo,Qh⟩;have VN:=dA.rows;have hn:¬Qj A g:=λh=>by have:=(VN g h).1;omega
 have pS:=dA.mod Zo (λk hk e=>hn (e▸hk));refine vG Qh (v:=.slice A out.length c) (show(cs.set o (.pointer (some (JQ g o))))[o+1]? =_ by rw[fd (by omega)];exact KK) ?_;refine NC Qa rfl rfl rfl rfl rfl rfl rfl rfl rfl rfl rfl pS hs (by have:=Zo.size;omega) ?_;intro A' c' w2 XQ di mS;refine Pu (Qh.mod XQ hn) (by simpa using ho) (λw3 XD Qt=>?_);have pT:=di.rows;refine⟨A',c',Qt,?_,?_,mS.back Zo.size⟩
 ·rw[zq,<-ND];exact di.mod XD (λk hk e=>by have:=(pT k hk).1;omega)
 ·exact((Zo.mono (S':=BldS g A) (λi hi=>.inl (.inl hi))).trans XQ (λi hi=>.inl (.inr hi))).trans XD (λi hi=>.inl (.inl hi))
theorem fQn (g t o:Nat)(cs:List Value)(A:Option Addr)(c n:Nat)(w:World)(hB:Blk w g t cs)(KK:cs[o+1]? =some (.slice A n c)):
  Fn Tryz.prog 205 [.pointer (some (JQ g o))] w (λv w'=>v= .int .i64 n/\w=w'):=by
 refine QD (c:=cQ0) Qa Tryz.func205 rfl rfl rfl ?_;refine vG hB KK ?_;exact⟨rfl,rfl⟩
theorem fQo (base g t o:Nat)(cs:List Value)(A:Option Addr)(c:Nat)(out:List Nat)(w:World)(hB:Blk w g t cs)(KK:cs[o+1]? =some (.slice A out.length c))(dA:Own w base 5 1 A out.length c (Jt out))(h8:∀x∈out,x<256)(hs:out.length<=140737488355328):
  Fn Tryz.prog 57 [.pointer (some (JQ g o))] w (λv w'=>v= .string (Qe out)/\Mod (Qj A) w w'):=by
 refine QD (c:=Nq) Qa Tryz.func57 rfl rfl rfl ?_;have Xd:(Jt out).length=out.length:=uT out;refine XC Qa (Ext w) 10 [(true,0),(true,1),(true,2),(true,3),(true,5),(true,6),(true,7),(true,8),(true,9),(false,4)] (by kernel_rfl) (Ext.drew w) ?_;refine QH (v:=.slice A out.length c) (λw' Qb=>by rw[E8 (hB.ext Qb)];exact KK) ?_;refine QH (v:=.slice A out.length c) (λw' Qb=>by rw[E8 (hB.ext Qb)];exact KK) ?_;have Gq:out.length=0->Value.string ByteArray.empty=Value.string (Qe out):=λh0=>by
  have:out=[]:=aA h0;subst this;rfl
 by_cases h0:out.length=0
 ·have key:∃p w1,(Builtin.unsafeSliceData_ #[62] 179 #[.slice A out.length c]).run Tryz.prog w.drew= .ok (.pointer p) w1/\Ext w w1:=by
   rcases dA.row.2 with⟨hv,_⟩ | ⟨g',cap,ZD,hv,hb',Vw,_⟩
   ·simp only[Value.slice.injEq] at hv;obtain⟨rfl,_,rfl⟩:=hv;exact⟨none,w.drew,Lib.run_unsafeSliceData_nil _ _ _ _ _,Ext.drew w⟩
   ·simp only[Value.slice.injEq] at hv;obtain⟨rfl,_,rfl⟩:=hv;by_cases wj:c=0
    ·subst wj;have eO:w.drew.shape? g'=some (5,ZD.size):=by
      unfold World.shape?;rw[show w.drew.heap[g']? =_ from Vw]
     exact⟨_,_,Lib.run_unsafeSliceData_zero (P:=Tryz.prog) w.drew _ _ 5 Tryz.underlying179 ⟨g',0,none⟩ _ _ eO,(Ext.drew w).trans (Ext.alloc _ _)⟩
    ·exact⟨_,w.drew,Lib.run_unsafeSliceData_row (P:=Tryz.prog) w.drew _ _ ⟨g',0,none⟩ _ _ wj,Ext.drew w⟩
  obtain⟨p,w1,Z9,Qd⟩:=key;refine Js (w':=w1) (v:=.pointer p) (λa hf=>?_) ⟨Qd,?_⟩
  ·have e1:=hf.ev (show Env.ev _ (.tmp 6)=some (.slice A out.length c) from rfl);simp only[execOp,resolve,invoke,builtin];simp[bm,e1,Z9]
  refine Js (w':=w1) (v:=.string ByteArray.empty) (λa hf=>?_) ?_
  ·have e1:=hf.ev (show Env.ev _ (.tmp 7)=some (.pointer p) from rfl);have e2:=hf.ev (show Env.ev _ (.tmp 12)=some (.int .i64 out.length) from rfl);have:=Lib.run_unsafeString_none (P:=Tryz.prog) w1 179 3 9 p;rw[h0] at e2;simp only[execOp,resolve,invoke,builtin];simp[bm,e1,e2];rw[this]<;>rfl
  exact⟨Gq h0,Mod.of_ext _ Qd⟩
 ·obtain⟨g',sp,rfl,hb',VM,cE⟩:=dA.blk (by omega);have ZO:=dA.sl.le;refine Js (w':=w.drew) (v:=.pointer (some ⟨g',0,none⟩)) (λa hf=>?_) ⟨Ext.drew w,?_⟩
  ·have e1:=hf.ev (show Env.ev _ (.tmp 6)=some (.slice (some ⟨g',0,none⟩) out.length c) from rfl);have:=Lib.run_unsafeSliceData_row (P:=Tryz.prog) w.drew #[62] 179 ⟨g',0,none⟩ out.length c (by omega);simp only[execOp,resolve,invoke,builtin];simp[bm,e1,this]
  refine Js (w':=w.drew.freeze ⟨g',0,none⟩ out.length) (v:=.string (Qe out)) (λa hf=>?_) ?_
  ·have e1:=hf.ev (show Env.ev _ (.tmp 7)=some (.pointer (some ⟨g',0,none⟩)) from rfl);have e2:=hf.ev (show Env.ev _ (.tmp 12)=some (.int .i64 out.length) from rfl);have eO:w.drew.shape? g'=some (5,(Jt out++sp).length):=(VM.ext (Ext.drew w)).shape;have J3:(out.map UInt8.ofNat).length=out.length:=by simp
   have:=Lib.run_unsafeString_row (P:=Tryz.prog) w.drew 179 3 9 5 Tryz.underlying179 (by kernel_rfl) g' _ eO (out.map UInt8.ofNat) (by intro e;apply h0;rw[<-J3,e];rfl) (by simp[uT]) (by rw[J3];omega) (λj x hj=>by
    rw[(VM.ext (Ext.drew w)).cell];simp only[VR,Dz] at hj;obtain⟨y,hy,rfl⟩:=hj;have lw:j<out.length:=(Z0.1 hy).1;rw[Wh (by rw[Xd];exact lw),Ec hy];have:=h8 y (QO hy);simp[iq this])
   rw[J3] at this;simp only[execOp,resolve,invoke,builtin];simp[bm,e1,e2];rw[this]<;>rfl
  exact⟨rfl,(Mod.of_ext (Qj _) (Ext.drew w)).trans (NF w.drew g' out.length (S:=Qj (some ⟨g',0,none⟩)) ⟨_,rfl,rfl⟩) (λi hi=>.inl hi)⟩
end
section
def W7 {α:Type} [DecidableEq α](a:α):List (α×Value)->List (α×Value)
 | []=>[]
 | (b,v)::l=>if a=b then l else(b,v)::W7 a l
theorem Pv {α:Type} [DecidableEq α](a:α):∀l:List (α×Value),(W7 a l).Sublist l
 | []=>List.Sublist.refl _
 | (b,v)::l=>by
  unfold W7;split
  ·exact List.sublist_cons_self _ _
  ·exact(Pv a l).cons_cons _
theorem Pw {α:Type} [DecidableEq α]{a:α}:∀{l:List (α×Value)},a∉l.map (·.1)->Xv a l=none
 | [],_=>rfl
 | (b,v)::l,h=>by
  simp only[Y0,QZ,not_or] at h;unfold Xv;rw[if_neg h.1];exact Pw h.2
theorem Px {α:Type} [DecidableEq α](a b:α):∀l:List (α×Value),(l.map (·.1)).Nodup->Xv b (W7 a l)=if b=a then none else Xv b l
 | [],_=>by simp[W7,Xv]
 | (d,u)::l,hn=>by
  simp only[Y0,yN] at hn;unfold W7;split
  ·rename_i h;subst h;by_cases hb:b=a
   ·subst hb;rw[Qf rfl];exact Pw hn.1
   ·rw[if_neg hb];show _=if b=a then _ else Xv b l;rw[if_neg hb]
  ·rename_i h;have ih:=Px a b l hn.2;simp only[Xv];by_cases hb:b=d
   ·rw[Qf hb,Qf hb,if_neg (λe=>h (by rw[<-e];exact hb))]
   ·rw[if_neg hb,if_neg hb,ih]
theorem Py {α:Type} [DecidableEq α](a:α)(v:Value):∀l:List (α×Value),(l.map (·.1)).Nodup->((Zd a v l).map (·.1)).Nodup/\∀x,x∈(Zd a v l).map (·.1)->x=a∨x∈l.map (·.1)
 | [],_=>by simp[Zd]
 | (b,u)::l,h=>by
  simp only[Y0,yN] at h;unfold Zd;split
  ·rename_i Ya;exact⟨by simpa using h,λx hx=>.inr (by simpa using hx)⟩
  ·rename_i Ya;obtain⟨h1,h2⟩:=Py a v l h.2;refine⟨?_,λx hx=>?_⟩
   ·rw[Y0,yN];exact⟨λhm=>by rcases h2 b hm with e | e;exact Ya e.symm;exact h.1 e,h1⟩
   ·rw[Y0,QZ] at hx;rcases hx with rfl | hx
    ·exact .inr (by simp)
    ·rcases h2 x hx with e | e
     ·exact .inl e
     ·exact .inr (by rw[Y0,QZ];exact .inr e)
theorem Pz {α:Type} [DecidableEq α]{d:TypeDesc}{kv:α->Value}(hk:KeyV d kv)(a:α):∀(m:List (α×Value))(bs:List Nat)(i:Nat),bs.length=m.length->
  ∃r,Instr.findNow d (kv a) (XT kv m bs) i=some r/\(∀j v,r=some (j,v)->i<=j/\j-i<m.length/\(XT kv m bs).eraseIdx (j-i)=XT kv (W7 a m) (bs.eraseIdx (j-i))/\(W7 a m).length+1=m.length)/\(r=none->W7 a m=m)
 | [],bs,i,h=>⟨none,rfl,(λj v h=>nomatch h),λ_=>rfl⟩
 | (b,u)::m,[],i,h=>by simp at h
 | (b,u)::m,s::bs,i,h=>by
  have e:XT kv ((b,u)::m) (s::bs)={key:=kv b,val:=u,born:=s}::XT kv m bs:=rfl;rw[e];unfold Instr.findNow;simp only[hk.same];by_cases Ya:a=b
  ·subst Ya;simp only[decide_true];refine⟨some (i,u),rfl,λj v hj=>?_,λh=>by cases h⟩;cases hj;refine⟨QC _,by simp,?_,?_⟩
   ·rw[yG];simp[W7]
   ·simp[W7]
  ·simp only[Ya,decide_false];obtain⟨r,h1,h3,h4⟩:=Pz hk a m bs (i+1) (by simpa using h);refine⟨r,h1,λj v hj=>?_,λhn=>by simp[W7,Ya,h4 hn]⟩;obtain⟨h5,h6,h7,h8⟩:=h3 j v hj;refine⟨by omega,by simp;omega,?_,by simp[W7,Ya];omega⟩;rw[show j-i=(j-(i+1))+1 by omega];simp only[List.eraseIdx_cons_succ,h7,W7,Ya,if_false];rfl
theorem fQp {α:Type} [DecidableEq α]{kv:α->Value}{c:Cx}{o:Oper}{S:Env}{w:World}{K:Env->World->Prop}{Q:Zg}{t t2 ke e:Nat}{r rk:TyRow}{x y:Operand}{q:Nat}{m:List (α×Value)}{a:α}(hg:c.g.Ok)
  (ho:o.op= .call ⟨.builtin .delete, #[x,y], #[t,t2]⟩) (ia:o.dst=none) (hr:QU c.g.tys t=some r) (hd:r.d= .map ke e) (aS:QU c.g.tys ke=some rk) (hk:KeyV rk.d kv)
  (hx:S.ev x=some (.map (some q))) (hy:S.ev y=some (kv a)) (hm:MapAt kv w q m)
  (k:∀w1,Mod (·=q) w w1->w1.heap.size=w.heap.size->MapAt kv w1 q (W7 a m)->K S w1):X8 c o S w K Q:=by
 have Q1:=(hg.row hr).1;rw[hd] at Q1;have fQ:=(hg.row aS).1;obtain⟨bs,ck,hl,hb⟩:=hm.ex;have Xc:q<w.heap.size:=(eY.1 hb).1;obtain⟨res,h1,h3,h4⟩:=Pz hk a m bs 0 hl;have dB:(getObj q).run c.g.P w= .ok (.map (XT kv m bs).toArray ck) w:=by simp[getObj,Sem.run,hb]
 have eN:∀ob,(setObj q ob).run c.g.P w= .ok () {w with heap:=w.heap.setIfInBounds q ob}:=λob=>by simp[setObj,Sem.run,hb]
 have main:∃WR,WR.length=(W7 a m).length/\(Builtin.delete_ #[t,t2] o.type #[.map (some q),kv a]).run c.g.P w= .ok (.tuple #[]) {w with heap:=w.heap.setIfInBounds q (.map (XT kv (W7 a m) WR).toArray ck)}:=by
  cases res with
  | none=>
   refine⟨bs,by rw[h4 rfl];exact hl,?_⟩;rw[h4 rfl];simp only[Builtin.delete_];simp[ZL Q1,dB,uX fQ hk.plain,Instr.findKey,ZL fQ,h1,eN]
  | some p=>
   obtain⟨j,u⟩:=p;obtain⟨_,h6,h7,h8⟩:=h3 j u rfl;simp only[Nat.sub_zero] at h6 h7;refine⟨bs.eraseIdx j,by rw[List.length_eraseIdx_of_lt (by omega)];omega,?_⟩;simp only[Builtin.delete_];simp[ZL Q1,dB,uX fQ hk.plain,Instr.findKey,ZL fQ,h1,eN];rw[h7]
 obtain⟨WR,cE,Z9⟩:=main;unfold X8;intro b hf;have e1:=hf.ev hx;have e2:=hf.ev hy;refine bf (v:=.tuple #[]) (w':={w with heap:=w.heap.setIfInBounds q (.map (XT kv (W7 a m) WR).toArray ck)}) ?_ ⟨S,by rw[ia];simpa [Act.put] using hf,k _ ⟨rfl,rfl,rfl,by simp,λi _ hi=>?_⟩ (by simp) ⟨WR,ck,cE,by simp[Xc]⟩⟩
 ·simp only[execOp,ho,resolve,invoke,builtin];simp[e1,e2,Z9]
 ·simp only[Dy];rw[if_neg (λe=>hi e.symm)]
theorem Own.kind {w:World}{base e sz n c i:Nat}{A:Option Addr}{cs:List Value}(h:Own w base e sz A n c cs)(hi:Qj A i):∃ZD,w.heap[i]? =some (.cells ZD e (0,0)):=by
 obtain⟨ad,rfl,rfl⟩:=hi;rcases h.row.2 with⟨hv,_⟩ | ⟨g,cap,ZD,hv,_,hg,_⟩
 ·cases hv
 ·cases hv;exact⟨ZD,hg⟩
theorem Own.apart {w:World}{b b' e e' sz sz' n n' c c' i:Nat}{A B:Option Addr}{cs cs':List Value}(h:Own w b e sz A n c cs)(h':Own w b' e' sz' B n' c' cs')(QQ:e≠e')(hi:Qj A i):¬Qj B i:=λhj=>by
 obtain⟨c1,h1⟩:=h.kind hi;obtain⟨c2,h2⟩:=h'.kind hj;rw[h1] at h2;simp only[Option.some.injEq,Obj.cells.injEq] at h2;exact QQ h2.2.1
theorem Blk.apart {w:World}{b e sz n c g t:Nat}{A:Option Addr}{cs cs':List Value}(h:Blk w g t cs)(h':Own w b e sz A n c cs')(QQ:t≠e):¬Qj A g:=λhj=>by
 obtain⟨c2,h2⟩:=h'.kind hj;rw[show w.heap[g]? =_ from h] at h2;simp only[Option.some.injEq,Obj.cells.injEq] at h2;exact QQ h2.2.1
theorem MapAt.apart {α:Type}{kv:α->Value}{w:World}{b e sz n c q:Nat}{A:Option Addr}{cs':List Value}{m:List (α×Value)}(h:MapAt kv w q m)(h':Own w b e sz A n c cs'):¬Qj A q:=λhj=>by
 obtain⟨c2,h2⟩:=h'.kind hj;obtain⟨bs,ck,_,h1⟩:=h.ex;rw[h1] at h2;cases h2
structure DgO (w:World) (S:Nat->Prop) (k:Nat) (x:DV) (o:BF):Prop where
 sb:SB w x.A x.n x.c x.nd
 st:Set1 k x.nd x.r o
 off:∀ad,x.A=some ad->0<x.n->¬S ad.block
theorem SB.modo {S:Nat->Prop}{w w':World}{A:Option Addr}{n c:Nat}{nd:List Br}(h:SB w A n c nd)(hm:Mod S w w')(hr:∀ad,A=some ad->0<n->¬S ad.block):SB w' A n c nd:=
 ⟨h.1.modS hm (λh0 i hi=>by obtain⟨ad,e,rfl⟩:=hi;exact hr ad e h0),h.2⟩
theorem DgO.step {w w':World}{S S':Nat->Prop}{k:Nat}{x:DV}{o:BF}(h:DgO w S k x o)(hm:Mod S w w')(hs:∀i,S' i->S i∨w.heap.size<=i):DgO w' S' k x o:=
 ⟨h.sb.modo hm h.off,h.st,λad e h0 hS=>by
  rcases hs _ hS with h1 | h1
  ·exact h.off ad e h0 h1
  ·have:=SB.lt h.sb ad e h0;omega⟩
theorem DgO.keep {w w':World}{S T:Nat->Prop}{k:Nat}{x:DV}{o:BF}(h:DgO w S k x o)(hm:Mod T w w')(ht:∀i,T i->S i∨w.heap.size<=i):DgO w' S k x o:=
 ⟨h.sb.modo (hm.mono ht) h.off,h.st,h.off⟩
theorem DgO.ext {w w':World}{S:Nat->Prop}{k:Nat}{x:DV}{o:BF}(h:DgO w S k x o)(hE:Ext w w'):DgO w' S k x o:=⟨h.sb.ext hE,h.st,h.off⟩
theorem DgO.new {w w':World}{S:Nat->Prop}{k:Nat}{A:Option Addr}{n c:Nat}{nd:List Br}{r:Int}{o:BF}(hb:SB w' A n c nd)(hs:Set1 k nd r o)(hr:∀i,Qj A i->w.heap.size<=i)(hS:∀i,S i->i<w.heap.size):DgO w' S k ⟨A,n,c,nd,r⟩ o:=
 ⟨hb,hs,λad e _ h=>by have:=hr ad.block ⟨ad,e,rfl⟩;have:=hS _ h;omega⟩
end
section
def gn (c:Nat)(l:List Nat):Int:=if c∈l then((l.takeWhile (λb=>b !=c)).length:Nat)else -1
theorem PB {b c:Nat}(hb:b<256)(hc:c<256):(UInt8.ofNat b==UInt8.ofNat c)=(b==c):=by
 rw[oE];simp only[beq_iff_eq];constructor
 ·intro h;have:=QN UInt8.toNat h;simpa [iq hb,iq hc] using this
 ·intro h;rw[h]
theorem Ac {c:Nat}(hc:c<256):∀{l:List Nat},(∀x∈l,x<256)->Lib.indexByte (l.map UInt8.ofNat) (UInt8.ofNat c)=gn c l
 | [],_=>rfl
 | b::l,h=>by
  have ih:=Ac hc (l:=l) (λx hx=>h x (by simp[hx]));have hb:b<256:=h b (by simp);rw[Y0,Lib.indexByte,PB hb hc,ih];unfold gn;by_cases x8:b=c
  ·subst x8;simp
  ·have h1:(b==c)=false:=by simpa using x8
   rw[h1];by_cases hm:c∈l
   ·have h3:¬c=b:=λe=>x8 e.symm
    simp[hm,x8,h3]
   ·have h3:¬c=b:=λe=>x8 e.symm
    simp[hm,h3]
theorem vH (l:List Nat):(Qe l).data.toList=l.map UInt8.ofNat:=by simp[Qe]
theorem vI {P:Program}{f:FuncId}{l:List Value}{w:World}{v:Value}(h:Calls P f l.toArray w λe w'=>e= .returned v/\w'=w):Fn P f l w (λu w'=>u=v/\w=w'):=by
 unfold Fn;exact h.mono λe w' he=>by obtain⟨rfl,rfl⟩:=he;exact⟨rfl,rfl⟩
theorem E9 (l:List Nat)(c:Nat)(w:World)(hl:∀x∈l,x<256)(hc:c<256):
  Fn Tryz.prog 94 [.string (Qe l),.int .u8 c] w (λv w'=>v= .int .i64 (gn c l)/\w=w'):=by
 have h:=Tryz.strings_IndexByte (Qe l) (c:Int) w;have e:((c:Int).toNat.toUInt8)=UInt8.ofNat c:=rfl;rw[vH,e,Ac hc hl] at h;exact vI h
theorem PC (l:List Nat)(c:Nat)(w:World)(hl:∀x∈l,x<256)(hc:c<256):
  Fn Tryz.prog 204 [.string (Qe l),.string (Qe [c])] w (λv w'=>v= .int .i64 (l.count c)/\w=w'):=by
 have h:=Tryz.strings_Count_one (Qe l) (UInt8.ofNat c) w;have e:Lib.countByte (Qe l).data.toList (UInt8.ofNat c)=l.count c:=by
  rw[vH];unfold Lib.countByte;clear h;induction l with
  | nil=>rfl
  | cons b l ih=>
   rw[Y0,yK,yK,ih (λx hx=>hl x (by simp[hx])),PB (hl b (by simp)) hc]
 rw[e] at h;exact vI h
def JF (l:List Nat):List Nat:=l.takeWhile (λb=>b !=32)
def Vb (l:List Nat):List Nat:=l.drop ((JF l).length+1)
theorem fQq (l:List Nat):l.take (JF l).length=JF l:=(List.prefix_iff_eq_take.1 (List.takeWhile_prefix _)).symm
theorem PD {l:List Nat}:(JF l).length<l.length↔32∈l:=by
 unfold JF;induction l with
 | nil=>simp
 | cons b l ih=>
  by_cases hb:b=32
  ·subst hb;simp
  ·have:(b !=32)=true:=by simpa using hb
   rw[Wj,Qf this];simp only[Xj,Nat.add_lt_add_iff_right,ih,QZ];constructor
   ·exactλh=>.inr h
   ·rintro(h | h)
    ·exact Q8 h.symm hb
    ·exact h
theorem fQr {l:List Nat}(h:32∈l):l=JF l++32::Vb l:=by
 unfold Vb JF;induction l with
 | nil=>simp at h
 | cons b l ih=>
  by_cases hb:b=32
  ·subst hb;simp
  ·have h1:(b !=32)=true:=by simpa using hb
   rw[Wj,Qf h1];simp only[Xj,Mx,Jb];congr 1;refine ih ?_;simp only[QZ] at h;rcases h with h | h
   ·exact Q8 h.symm hb
   ·exact h
theorem Fa {l:List Nat}(h:32∉l):JF l=l:=by
 unfold JF;induction l with
 | nil=>rfl
 | cons b l ih=>
  simp only[QZ,not_or] at h;have h1:(b !=32)=true:=by simpa using λe=>h.1 e.symm
  rw[Wj,Qf h1,ih h.2]
theorem fQs {l:List Nat}(h:32∈l):((l.takeWhile (λb=>b !=32)).length:Nat)<l.length:=PD.2 h
theorem fQt (l:List Nat)(w:World)(hl:∀x∈l,x<256)(Xd:l.length<=1000000000000):
  Fn Tryz.prog 201 [.string (Qe l),.string (Qe [32])] w (λv w'=>(v=if 32∈l then .tuple #[.string (Qe (JF l)),.string (Qe (Vb l)),.bool true] else .tuple #[.string (Qe l),.string (Qe []),.bool false])/\Ext w w'):=by
 refine QD (c:=cQX) Qa Tryz.func201 rfl rfl rfl ?_;have h:=Tryz.stringslite_Index_one (Qe l) (UInt8.ofNat 32) w;rw[vH,Ac (by decide) hl] at h;refine call (vI h) ?_;rintro _ _ ⟨rfl,rfl⟩;unfold gn;by_cases hm:32∈l
 ·rw[Qf hm,Qf hm];have Xc:=fQs hm;refine XH (by show(0:Int)<=_;omega) ?_;refine uS Qa (by kernel_rfl) ?_;refine Ke (v':=.string (Qe (JF l))) ⟨lN _,by omega,by rw[XF];omega⟩ ?_ ?_
  ·rw[KN];exact QN (λx=>Value.string (Qe x)) (fQq l)
  refine Qi (((JF l).length+1:Nat):Int) (by rw[XF];show((_:Nat):Int)+1=_;unfold JF;omega) (by unfold JF;omega) ?_;refine Ke (v':=.string (Qe (Vb l))) ⟨by omega,by rw[XF];unfold JF;omega,by rw[XF];omega⟩ ?_ ?_
  ·rw[KN];unfold Vb;rw[XF];show Value.string (Qe ((l.take l.length).drop _))=_;rw[Jm (QC _)]<;>rfl
  exactλw' hE=>⟨rfl,hE⟩
 ·rw[if_neg hm,if_neg hm];refine Q9 (by decide) ?_;exact⟨rfl,Ext.refl _⟩
theorem fQu (l:List Nat)(w:World)(hl:∀x∈l,x<256)(Xd:l.length<=1000000000000):
  Fn Tryz.prog 143 [.string (Qe l),.string (Qe [32])] w (λv w'=>(v=if 32∈l then .tuple #[.string (Qe (JF l)),.string (Qe (Vb l)),.bool true] else .tuple #[.string (Qe l),.string (Qe []),.bool false])/\Ext w w'):=by
 refine QD (c:=cQn) Qa Tryz.func143 rfl rfl rfl ?_;refine call (fQt l w hl Xd) ?_;rintro v w1 ⟨rfl,Qd⟩;by_cases hm:32∈l
 ·rw[Qf hm];exact⟨rfl,Qd⟩
 ·rw[if_neg hm];exact⟨rfl,Qd⟩
theorem kf {kw s:List Nat}(hk:32∉kw):(kw++ [32]).isPrefixOf s=true↔JF s=kw/\32∈s:=by
 rw[aQ0];constructor
 ·rintro⟨r,rfl⟩;refine⟨?_,by simp⟩;unfold JF;rw[Je,List.takeWhile_append_of_pos (λx hx=>by simpa using λe=>hk (by rw[<-e];exact hx))];simp
 ·rintro⟨h1,h2⟩;have:=fQr h2;rw[h1] at this;exact⟨Vb s,by rw[Je];exact this.symm⟩
theorem Fb {kw s:List Nat}(h:JF s=kw):s.drop (kw.length+1)=Vb s:=by unfold Vb;rw[h]
def mz:List Nat:=[35,105,102]
def sI:List Nat:=[35,101,108,105,102]
def px:List Nat:=[35,105,110,99,108,117,100,101]
theorem fQv {s:List Nat}(h:JF s=mz)(hm:32∈s):ZN s= .ifd (Vb s):=by
 unfold ZN;rw[Qf (show Zl.isPrefixOf s=true from (kf (kw:=mz) (by decide)).2 ⟨h,hm⟩),<-Fb h]<;>rfl
theorem fQw {s:List Nat}(h:JF s=px)(hm:32∈s):ZN s= .inc (Vb s):=by
 unfold ZN;rw[if_neg (λhp=>by have:=((kf (kw:=mz) (by decide)).1 hp).1;rw[h] at this;cases this),Qf (show pInc.isPrefixOf s=true from (kf (kw:=px) (by decide)).2 ⟨h,hm⟩),<-Fb h];rfl
theorem fQx {s:List Nat}(h:JF s=sI)(hm:32∈s):ZN s= .elif (Vb s):=by
 unfold ZN;rw[if_neg (λhp=>by have:=((kf (kw:=mz) (by decide)).1 hp).1;rw[h] at this;cases this),if_neg (λhp=>by have:=((kf (kw:=px) (by decide)).1 hp).1;rw[h] at this;cases this),
  Qf (show pElif.isPrefixOf s=true from (kf (kw:=sI) (by decide)).2 ⟨h,hm⟩),<-Fb h];rfl
theorem fQy {s:List Nat}(h1:¬(JF s=mz/\32∈s))(h2:¬(JF s=px/\32∈s))(h3:¬(JF s=sI/\32∈s)):ZN s=if s=Jd then .els else if s=Xx then .en else .txt:=by
 unfold ZN;rw[if_neg (λ(hp:Zl.isPrefixOf s=true)=>h1 ((kf (kw:=mz) (by decide)).1 hp)),if_neg (λ(hp:pInc.isPrefixOf s=true)=>h2 ((kf (kw:=px) (by decide)).1 hp)),if_neg (λ(hp:pElif.isPrefixOf s=true)=>h3 ((kf (kw:=sI) (by decide)).1 hp))]
end
section
section
variable {P:Program} {ops:Array Oper} {md:Region.Mode} {C:World->Prop} {Q:Exit->Act->World->Prop}
def PanW (N:Slots)(Xi:List PanicEntry->World->Prop)(Q:Exit->Act->World->Prop):Exit->Act->World->Prop
 | .panic ch,a,w=>a.tmps.size=N.n/\a.defers=N.ds/\Xi ch w
 | e,a,w=>Q e a w
theorem PanW.put {N:Slots}{Xi:List PanicEntry->World->Prop}{Q:Exit->Act->World->Prop}{ch:List PanicEntry}{a:Act}{d:Option Tmp}{v:Value}{w:World}(h:PanW N Xi Q (.panic ch) (a.put d v) w):PanW N Xi Q (.panic ch) a w:=by
 obtain⟨h1,h2,h3⟩:=h;cases d with
 | none=>exact⟨h1,h2,h3⟩
 | some d=>exact⟨by simpa [Act.put] using h1,by simpa [Act.put] using h2,h3⟩
theorem PanW.imp {c:Cx}{Xi:List PanicEntry->World->Prop}{Q:Zg}(hp:∀ch S w,Xi ch w->Q (.panic ch) S w):∀(e:Exit)(a:Act)(w:World),PanW c.N Xi (Up c Q) e a w->Up c Q e a w:=λe a w h=>by
 cases e<;>first | exact h | (obtain⟨h1,h2,h3⟩:=h;exact⟨[],⟨h1,h2,λk x hk=>by simp[Env.ent] at hk⟩,hp _ _ _ h3⟩)
theorem fQz {N:Slots}{Xi:List PanicEntry->World->Prop}{n i:Nat}{oi:Oper}{v:Value}{L:Array Bool->Act->World->Prop}(hi:ops[i]? =some oi)(nP:∀(j:Nat)(o:Oper) cs b,ops[j]? =some o->o.op≠ .select cs b)
  (hs:jK md ops n) (Xe:i<n) (xI:∀listed a w,L listed a w->∀j∈Region.ready md ops listed,n<=j):
  ∀(f:Nat) (listed:Array Bool) (a:Act) (w:World),HeadInv md ops n listed->
   (∀j oj,ops[j]? =some oj->j≠i->listed.getD j true=false->(∀e∈oj.after,Region.binds md e=true->e.on≠i)->oi.apart ops oj=true)->
   i∈Region.ready md ops listed->YieldsIf P ops C oi v a->C w->
   WX P md ops (PanW N Xi Q) C n L f (listed.setIfInBounds i true) (a.put oi.dst v) w->WX P md ops (PanW N Xi Q) C n L (f+1) listed a w:=by
 intro f;induction f with
 | zero=>
  intro listed a w inv _ hr hy hC H;have JK:=(mem_ready.1 hr).1;refine⟨λh=>(by rw[h] at hr;cases hr),λj hj=>?_⟩;have Kh:=rN hs inv Xe JK j hj;refine⟨Kh,?_⟩;by_cases KT:j=i
  ·subst KT;exact hy.wpOp hi hC ⟨hC,H⟩
  ·have:=xI _ _ _ H j (ready_mono hj KT);omega
 | succ f ih=>
  intro listed a w inv nQ hr hy hC H;have JK:=(mem_ready.1 hr).1;refine⟨λh=>(by rw[h] at hr;cases hr),λj hj=>?_⟩;have Kh:=rN hs inv Xe JK j hj;refine⟨Kh,?_⟩;by_cases KT:j=i
  ·subst KT;exact hy.wpOp hi hC ⟨hC,H⟩
  ·have h1:=(H.2 j (ready_mono hj KT)).2;obtain⟨nR,oj,eM,hall⟩:=mem_ready.1 hj;have lr:∀e∈oj.after,Region.binds md e=true->e.on≠i:=λe he hb heq=>by
    have h1:=hall e he hb;rw[heq,getD_both JK] at h1;cases h1
   have h2:=wpOp_putIf eM (nQ j oj eM KT nR lr) (λcs b=>nP i oi cs b hi) (λcs b=>nP j oj cs b eM) (λ_ _ _ h=>PanW.put h) hy h1;have xJ:∀k ok,ops[k]? =some ok->k≠i->(listed.setIfInBounds j true).getD k true=false->
     (∀e∈ok.after,Region.binds md e=true->e.on≠i)->oi.apart ops ok=true:=λk ok hk xK JK Xf=>by
    refine nQ k ok hk xK ?_ Xf;by_cases nT:j=k
    ·subst nT;exact nR
    ·rw[getD_set_ne true nT] at JK;exact JK
   refine wpOp_mono (λa' w' h3=>⟨h3.2.1,ih (listed.setIfInBounds j true) a' w' (inv.set hj Kh) xJ (ready_mono hr (Ne.symm KT)) h3.1 h3.2.1 ?_⟩) h2;rw[aQZ _ _ KT];exact h3.2.2
end
section
variable {c:Cx} {S:Env} {a:Act}
def kg (c:Cx)(Xi:List PanicEntry->World->Prop)(all:List Oper)(C:World->Prop):List (Bool×Nat)->Env->World->(Env->World->Prop)->Prop
 | [],S,w,K=>K S w
 | (true,k)::l,S,w,K=>match VC all k with
  | some o=>iE all o S (λS=>rP c o S C (λS=>kg c Xi all C l S w K)) (λS=>Xk c S o.dst (.v undef) (λS=>kg c Xi all C l S w K))
  | none=>False
 | (false,k)::l,S,w,K=>match VC all k with
  | some o=>iE all o S (λS=>dN c o S w (λS w=>C w/\kg c Xi all C l S w K) (λe _ w=>match e with
   | .panic ch=>Xi ch w
   | _=>False)) (λS=>Xk c S o.dst (.v undef) (λS=>kg c Xi all C l S w K))
  | none=>False
theorem Ad (hg:c.g.Ok){md:Region.Mode}{ops:List Oper}{C:World->Prop}{Q:Exit->Act->World->Prop}{n:Nat}(hs:Region.noSelect ops.toArray=true)(hk:jK md ops.toArray n){K:Env->World->Prop}{Xi:List PanicEntry->World->Prop}:
  ∀(l:List (Bool×Nat)) (listed:Array Bool) (S:Env) (a:Act) (w:World),HeadInv md ops.toArray n listed->cP md ops.toArray n l listed=true->kg c Xi ops C l S w K->Fits c.N S a->C w->
  WX c.g.P md ops.toArray (PanW c.N Xi Q) C n (λKz a' w'=>Region.seqB md ops.toArray (ops.toArray.size-n) n Kz=true/\∃S',Fits c.N S' a'/\K S' w') l.length listed a w
 | [],listed,S,a,w,inv,hB,h,hf,hC=>⟨hB,S,hf,h⟩
 | (true,k)::l,listed,S,a,w,inv,hB,h,hf,hC=>by
  simp only[cP,JL] at hB;obtain⟨⟨⟨Xl,hr⟩,ll⟩,VM⟩:=hB;have Xl:k<n:=by rw[jv] at Xl;exact Xl
  have Q1:k∈Region.ready md ops.toArray listed:=by simpa using hr
  obtain⟨_,o,ho,_⟩:=mem_ready.1 Q1;have hn:VC ops k=some o:=by rw[iz];simpa using ho
  simp only[kg,hn] at h;have key:∃v,YieldsIf c.g.P ops.toArray C o v a/\∃S',Fits c.N S' (a.put o.dst v)/\kg c Xi ops C l S' w K:=by
   rcases lY h hf with⟨hw,S1,ZB,h1⟩ | ⟨hw,S1,ZB,h1⟩
   ·obtain⟨v,h2,h3⟩:=zt hg h1 ZB;exact⟨v,.inl ⟨hw,h2⟩,h3⟩
   ·exact⟨undef,.inr ⟨hw,rfl⟩,Zs (e:=.v undef) h1 ZB⟩
  obtain⟨v,hy,S',QY,h'⟩:=key;exact fQz ho (Region.noSelect_spec hs) hk Xl (λKz a' w' hL=>seqB_ready hL.1) l.length listed a w inv (Region.free_spec ho ll) Q1 hy hC
   (Ad hg hs hk l _ S' _ w (inv.set Q1 Xl) VM h' QY hC)
 | (false,k)::l,listed,S,a,w,inv,hB,h,hf,hC=>by
  simp only[cP,JL,Vl] at hB;obtain⟨⟨Xl,hr⟩,VM⟩:=hB;have Xl:k<n:=by rw[jv] at Xl;exact Xl
  have Q1:k∈Region.ready md ops.toArray listed:=by rw[hr];simp
  obtain⟨_,o,ho,_⟩:=mem_ready.1 Q1;have hn:VC ops k=some o:=by rw[iz];simpa using ho
  simp only[kg,hn] at h;have hZ:=inv.set Q1 Xl;refine⟨λh0=>(by rw[hr] at h0;cases h0),λi hi=>?_⟩;rw[hr] at hi;have xL:i=k:=by simpa using hi
  subst xL;refine⟨Xl,?_⟩;unfold wpOp;simp only[ho];rcases lY h hf with⟨hw,S1,ZB,h1⟩ | ⟨hw,S1,ZB,h1⟩
  ·rw[Qf hw];refine .inl ?_;have h2:=rH hg h1 ZB;have h3:=Oper.wp_mono (K':=λa' w'=>C w'/\WX c.g.P md ops.toArray (PanW c.N Xi Q) C n (λKz a' w'=>Region.seqB md ops.toArray (ops.toArray.size-n) n Kz=true/\∃S',Fits c.N S' a'/\K S' w') l.length (listed.setIfInBounds i true) a' w')
    (λa' w' ⟨S',QY,Z2,YD⟩=>⟨Z2,Ad hg hs hk l _ S' a' w' hZ VM YD QY Z2⟩) h2
   unfold Oper.wp at h3 ⊢;generalize (execOp a.eval o).run c.g.P w=r at*;cases r with
   | ok nx w'=>
    cases nx<;>simp only[Oper.upon] at h3 ⊢ <;> try exact h3
    exact h3.mono λe K6 he=>by
     cases e with
     | returned v=>exact he
     | panicked ch=>obtain⟨_,hfz,he⟩:=he;exact⟨hfz.size,hfz.defers,he⟩
     | outgrown=>obtain⟨_,_,_,_,he⟩:=he;exact he.elim
   | halt x w'=>cases x<;>simp only[Oper.upon] at h3 ⊢ <;> first | exact h3 | (obtain⟨_,hfz,h3⟩:=h3;exact⟨hfz.size,hfz.defers,h3⟩) | (obtain⟨_,_,h3⟩:=h3;exact h3.elim)
  ·rw[if_neg (by rw[hw];decide)];obtain⟨S',QY,h'⟩:=Zs (e:=.v undef) h1 ZB;exact⟨hC,Ad hg hs hk l _ S' _ w hZ VM h' QY hC⟩
theorem fQA (hg:c.g.Ok){id:Nat}{ops:List Oper}{w:World}{Q:Zg}(Xi:List PanicEntry->World->Prop)(Ly:∀ch S w,Xi ch w->Q (.panic ch) S w)(C:World->Prop)(n:Nat)(plan:List (Bool×Nat))
  (hB:(Region.noSelect ops.toArray&&Nat.beq plan.length n&&rO .any ops.toArray n&&cP .any ops.toArray n plan (Array.replicate ops.toArray.size false))=true) (hC:C w.drew)
  (h:kg {c with named:=1000000} Xi ops C plan S w.drew (λS w=>Yq c ops (ops.drop n) S w (λS w=>Q .normal S w) (λe _ w=>match e with
   | .panic ch=>Xi ch w
   | _=>False))):WV c id ops S w Q:=by
 unfold WV;intro a hf;simp only[JL] at hB;obtain⟨⟨⟨hs,hl⟩,bM⟩,Jq⟩:=hB;have hl:=Vz hl;have hk:=zr bM;have I1:n<=ops.length:=by
  rcases hk with hk | hk
  ·rw[hk];simp
  ·have:=hk.1;simp at this;omega
 refine Code.wp_mono (PanW.imp Ly) (wp_region_any hg.mixed ?_);have pR:HeadInv .any ops.toArray n (Array.replicate ops.toArray.size false):=
  ⟨by simp,λj oj _ hl=>(by rw[getD_replicate_false] at hl;cases hl),λt _ ht=>getD_in (by simpa using ht) (getD_replicate_false _ _)⟩
 have H:=Ad (c:={c with named:=1000000}) hg (Q:=Up c Q) hs hk plan _ S a _ pR Jq h hf hC;have Yp:(ops.drop n).length=ops.toArray.size-n:=by simp
 have H2:=uV (Q:=PanW c.N Xi (Up c Q)) (g:=ops.toArray.size-n) (λKz a' w' hL=>by
  obtain⟨hq,S',QY,YD⟩:=hL;have h2:=jF (c:=c) hg ops _ _ _ _ YD QY;have:=wpAny_of_seq (P:=c.g.P) (md:=.any) (ops:=ops.toArray) (Q':=PanW c.N Xi (Up c Q)) (ops.drop n) n Kz a' w' (λj=>by simp) (by rw[Yp];exact hq) (lW (λe a w hq=>by
   cases e with
   | normal=>exact hq
   | panic ch=>obtain⟨_,hfz,h⟩:=hq;exact⟨hfz.size,hfz.defers,h⟩
   | _=>exact Q8 hq (by rintro⟨_,_,h⟩;exact h)) h2)
  rwa [Yp] at this) _ _ _ _ H
 rw[hl,show n+(ops.toArray.size-n)=ops.toArray.size by simp;omega] at H2;exact H2
end
end
end
section
def Vc (l:List Nat):Int:=if Zl.isPrefixOf l then 1 else if l=Xx then -1 else 0
def dp (ls:List (List Nat)):Int:=(ls.map Vc).sum
theorem aH (l:List Nat)(ls:List (List Nat)):dp (l::ls)=Vc l+dp ls:=by simp[dp]
theorem gp (a b:List (List Nat)):dp (a++b)=dp a+dp b:=by simp[dp]
theorem PE (a:List (List Nat)):dp a.reverse=dp a:=by
 induction a with
 | nil=>rfl
 | cons x a ih=>rw[List.reverse_cons,gp,ih,aH,aH];simp[dp];omega
theorem iL {l:List Nat}(h:ZN l= .txt):Vc l=0/\l≠Xx/\l≠Jd/\Zl.isPrefixOf l=false:=by
 unfold ZN at h;split at h
 ·cases h
 rename_i h1;split at h
 ·cases h
 split at h
 ·cases h
 split at h
 ·cases h
 split at h
 ·cases h
 ·rename_i h4 h5;have h1:Zl.isPrefixOf l=false:=dK.2 h1;refine⟨?_,h5,h4,h1⟩;unfold Vc;rw[if_neg (by rw[h1];decide),if_neg h5]
def kh:List (List Nat)->List (List Nat)->Nat->Nat->Int->Nat
 | x::a,y::b,k,best,o=>if x=y then kh a b (k+1) (if o+Vc x=0 then k+1 else best) (o+Vc x)else best
 | _,_,_,best,_=>best
def ki (a b:List (List Nat))(o:Int)(q:Nat):Prop:=1<=q/\q<=a.length/\q<=b.length/\a.take q=b.take q/\o+dp (a.take q)=0
theorem Fc {x y:List Nat}{a b:List (List Nat)}{o:Int}{q:Nat}(hq:1<=q):ki (x::a) (y::b) o (q+1)↔x=y/\ki a b (o+Vc x) q:=by
 unfold ki;simp only[Xj,jx,List.cons.injEq,aH];constructor
 ·rintro⟨_,h2,h3,⟨rfl,h4⟩,h5⟩;exact⟨rfl,hq,by omega,by omega,h4,by omega⟩
 ·rintro⟨rfl,_,h2,h3,h4,h5⟩;exact⟨by omega,by omega,by omega,⟨rfl,h4⟩,by omega⟩
theorem PF:∀(a b:List (List Nat))(k best:Nat)(o:Int),((∀q,¬ki a b o q)/\kh a b k best o=best)∨∃p,ki a b o p/\(∀q,ki a b o q->q<=p)/\kh a b k best o=k+p
 | [],b,k,best,o=>.inl ⟨λq h=>by have:=h.1;have:=h.2.1;simp at this;omega,by cases b<;>rfl⟩
 | x::a,[],k,best,o=>.inl ⟨λq h=>by have:=h.1;have:=h.2.2.1;simp at this;omega,rfl⟩
 | x::a,y::b,k,best,o=>by
  rw[kh];by_cases Xr:x=y
  ·rw[Qf Xr];have one:ki (x::a) (y::b) o 1↔o+Vc x=0:=by
    unfold ki;simp[Xr,dp]
   rcases PF a b (k+1) (if o+Vc x=0 then k+1 else best) (o+Vc x)with⟨h1,h2⟩ | ⟨p,h1,h2,h3⟩
   ·have lst:∀q,ki (x::a) (y::b) o q->q=1:=λq hq=>by
     have:=hq.1
     match q,hq with
     | 1,_=>rfl
     | q+2,hq=>exact Q8 ((Fc (by omega)).1 hq).2 (h1 _)
    by_cases h0:o+Vc x=0
    ·rw[Qf h0] at h2 ⊢;exact .inr ⟨1,one.2 h0,λq hq=>by rw[lst q hq];exact QC _,h2⟩
    ·rw[if_neg h0] at h2 ⊢;exact .inl ⟨λq hq=>by have:=lst q hq;subst this;exact h0 (one.1 hq),h2⟩
   ·refine .inr ⟨p+1,(Fc h1.1).2 ⟨Xr,h1⟩,λq hq=>?_,by rw[h3];omega⟩
    match q,hq with
    | 0,_=>omega
    | 1,_=>omega
    | q+2,hq=>have:=h2 _ ((Fc (by omega)).1 hq).2;omega
  ·rw[if_neg Xr];refine .inl ⟨λq hq=>?_,rfl⟩
   match q,hq with
   | 0,hq=>exact Q8 hq.1 (by omega)
   | q+1,hq=>have:=hq.2.2.2.1;simp at this;exact Xr this.1
def V0 (a b:List (List Nat)):Nat:=kh a b 0 0 0
theorem Ae (a b:List (List Nat)):V0 a b<=a.length/\V0 a b<=b.length/\a.take (V0 a b)=b.take (V0 a b)/\dp (a.take (V0 a b))=0/\∀q,q<=a.length->q<=b.length->a.take q=b.take q->dp (a.take q)=0->q<=V0 a b:=by
 unfold V0;rcases PF a b 0 0 0 with⟨h1,h2⟩ | ⟨p,h1,h2,h3⟩
 ·rw[h2];refine⟨XJ _,XJ _,rfl,rfl,λq q1 q2 q3 q4=>?_⟩;by_cases h0:q=0
  ·omega
  ·exact Q8 ⟨by omega,q1,q2,q3,by omega⟩ (h1 q)
 ·rw[h3,bQ];obtain⟨p1,p2,p3,p4,p5⟩:=h1;refine⟨p2,p3,p4,by omega,λq q1 q2 q3 q4=>?_⟩;by_cases h0:q=0
  ·omega
  ·exact h2 q ⟨by omega,q1,q2,q3,by omega⟩
def Wx (a b:List (List Nat)):Nat:=V0 a.reverse b.reverse
theorem sJ {α:Type}(a:List α)(q:Nat)(h:q<=a.length):a.reverse.take q=(a.drop (a.length-q)).reverse:=by
 rw[List.take_reverse]
theorem Fd (a b:List (List Nat)):Wx a b<=a.length/\Wx a b<=b.length/\a.drop (a.length-Wx a b)=b.drop (b.length-Wx a b)/\dp (a.drop (a.length-Wx a b))=0/\∀q,q<=a.length->q<=b.length->a.drop (a.length-q)=b.drop (b.length-q)->dp (a.drop (a.length-q))=0->q<=Wx a b:=by
 obtain⟨h1,h2,h3,h4,h5⟩:=Ae a.reverse b.reverse;rw[List.length_reverse] at h1 h2;unfold Wx;rw[sJ _ _ h1,sJ _ _ h2] at h3;rw[sJ _ _ h1,PE] at h4;refine⟨h1,h2,by simpa using h3,h4,λq q1 q2 q3 q4=>h5 q (by simpa using q1) (by simpa using q2) ?_ ?_⟩
 ·rw[sJ _ _ q1,sJ _ _ q2,q3]
 ·rw[sJ _ _ q1,PE];exact q4
def ZA (nm:List (List Nat))(v:Nat)(ng:Bool):List Nat:=Zl++((if ng then [33] else [])++(nm[v]?).getD [])
def Wy (nm:List (List Nat))(v:Nat)(h l:List (List Nat)):List (List Nat):=
 let p:=V0 h l
 let h1:=h.drop p
 let l1:=l.drop p
 let s:=Wx h1 l1
 let h2:=h1.take (h1.length-s)
 let l2:=l1.take (l1.length-s)
 h.take p++((if h2=[] then ZA nm v true::l2 else ZA nm v false::(h2++if l2=[] then [] else Jd::l2))++Xx::h1.drop (h1.length-s))
inductive Tr where
 | nil
 | ln (s:List Nat) (r:Tr)
 | sc (v:Nat) (ng:Bool) (h l r:Tr)
def fl (nm:List (List Nat)):Tr->List (List Nat)
 | .nil=>[]
 | .ln s r=>s::fl nm r
 | .sc v ng h .nil r=>ZA nm v ng::(fl nm h++Xx::fl nm r)
 | .sc v ng h l r=>ZA nm v ng::(fl nm h++Jd::(fl nm l++Xx::fl nm r))
def ap:Tr->Tr->Tr
 | .nil,t=>t
 | .ln s r,t=>.ln s (ap r t)
 | .sc v ng h l r,t=>.sc v ng h l (ap r t)
def J0 (nm:List (List Nat))(l:Tr):List (List Nat):=match l with
 | .nil=>[]
 | l=>Jd::fl nm l
theorem Yl (nm:List (List Nat))(v:Nat)(ng:Bool)(h l r:Tr):fl nm (.sc v ng h l r)=ZA nm v ng::((fl nm h++J0 nm l)++Xx::fl nm r):=by
 cases l<;>simp[fl,J0]
theorem fx (nm:List (List Nat)):∀a b:Tr,fl nm (ap a b)=fl nm a++fl nm b
 | .nil,b=>rfl
 | .ln s r,b=>by rw[ap,fl,fx nm r b]<;>rfl
 | .sc v ng h l r,b=>by rw[ap,Yl,Yl,fx nm r b];simp
def Wt (n:Nat):Tr->Prop
 | .nil=>True
 | .ln s r=>ZN s= .txt/\Wt n r
 | .sc v _ h l r=>v<n/\Wt n h/\Wt n l/\Wt n r
theorem gq {n:Nat}:∀{a b:Tr},Wt n (ap a b)↔Wt n a/\Wt n b
 | .nil,b=>by simp[ap,Wt]
 | .ln s r,b=>by simp[ap,Wt,gq (a:=r) (b:=b),and_assoc]
 | .sc v ng h l r,b=>by simp[ap,Wt,gq (a:=r) (b:=b),and_assoc]
theorem py (nm:List (List Nat))(v:Nat)(ng:Bool):Vc (ZA nm v ng)=1:=by
 unfold Vc ZA;rw[Qf (by simp[Zl,List.isPrefixOf])]
theorem sK:Vc Jd=0:=by decide
theorem vJ:Vc Xx= -1:=by decide
theorem iM (nm:List (List Nat)){n:Nat}:∀{t:Tr},Wt n t->dp (fl nm t)=0/\∀k,0<=dp ((fl nm t).take k)
 | .nil,_=>⟨rfl,λk=>by simp[fl,dp]⟩
 | .ln s r,h=>by
  obtain⟨h1,h2⟩:=iM nm (t:=r) h.2;have e:=(iL h.1).1;refine⟨by rw[fl,aH,e,h1];rfl,λk=>?_⟩;cases k with
  | zero=>simp[dp]
  | succ k=>rw[fl,jx,aH,e];have:=h2 k;omega
 | .sc v ng h l r,hw=>by
  obtain⟨_,w1,w2,w3⟩:=hw;obtain⟨a1,a2⟩:=iM nm w1;obtain⟨b1,b2⟩:=iM nm w2;obtain⟨c1,c2⟩:=iM nm w3;have e1:dp (J0 nm l)=0:=by
   cases l with
   | nil=>rfl
   | _=>rw[J0,aH,sK,b1];rfl;exactλe=>by cases e
  have e2:∀k,0<=dp ((J0 nm l).take k):=λk=>by
   cases k with
   | zero=>simp[dp]
   | succ k=>
    cases l with
    | nil=>simp[J0,dp]
    | _=>
     rw[J0,jx,aH,sK]
     ·have:=b2 k;omega
     ·exactλe=>by cases e
  rw[Yl];refine⟨by rw[aH,gp,gp,aH,py,vJ,a1,e1,c1];rfl,λk=>?_⟩;cases k with
  | zero=>simp[dp]
  | succ k=>
   rw[jx,aH,py,rx,rx,gp,gp];have h1:=a2 k;have h2:=e2 (k-(fl nm h).length);generalize k-(fl nm h++J0 nm l).length=q;cases q with
   | zero=>simp only[List.take_zero];show 0<=_+(_+_+dp []);simp only[dp,yI,List.sum_nil];simp only[dp] at h1 h2;omega
   | succ q=>rw[jx,aH,vJ];have:=c2 q;omega
deriving instance DecidableEq for Dir
def ZT:List Nat->List (List Nat)
 | []=>[[]]
 | b::l=>if b=10 then [10]::ZT l else match ZT l with
  | []=>[[b]]
  | s::ls=>(b::s)::ls
theorem Fe:∀l,ZT l≠ []
 | []=>by simp[ZT]
 | b::l=>by
  unfold ZT;split
  ·simp
  ·split<;>simp
theorem Af:∀l,(ZT l).length=l.count 10+1
 | []=>rfl
 | b::l=>by
  have ih:=Af l;unfold ZT;split
  ·rename_i h;subst h;simp[ih]
  ·rename_i h;rw[List.count_cons_of_ne h];split
   ·rename_i e;exact Q8 e (Fe l)
   ·rename_i e;rw[e] at ih;exact ih
theorem Ag:∀{l},10∉l->ZT l=[l]
 | [],_=>rfl
 | b::l,h=>by
  simp only[QZ,not_or] at h;unfold ZT;rw[if_neg (λe=>h.1 e.symm),Ag h.2]
def Wz (l:List Nat):List Nat:=l.takeWhile (λb=>b !=10)
theorem fQB {l:List Nat}(h:10∈l):(Wz l).length<l.length:=by
 unfold Wz;induction l with
 | nil=>cases h
 | cons b l ih=>
  by_cases hb:b=10
  ·subst hb;simp
  ·have h1:(b !=10)=true:=by simpa using hb
   rw[Wj,Qf h1];simp only[Xj,Nat.add_lt_add_iff_right];exact ih ((QZ.1 h).resolve_left (λe=>hb e.symm))
theorem Ff:∀{l},10∈l->ZT l=l.take ((Wz l).length+1)::ZT (l.drop ((Wz l).length+1))
 | [],h=>by cases h
 | b::l,h=>by
  by_cases hb:b=10
  ·subst hb;rw[ZT,Qf rfl];have e:Wz (10::l)=[]:=by simp[Wz]
   rw[e]<;>rfl
  ·have h1:(b !=10)=true:=by simpa using hb
   have e:Wz (b::l)=b::Wz l:=by unfold Wz;rw[Wj,Qf h1]
   have ih:=Ff ((QZ.1 h).resolve_left (λe=>hb e.symm));rw[ZT,if_neg hb,ih,e]<;>rfl
theorem PG:∀{l},(∀x∈l,x<256)->∀s∈ZT l,(∀x∈s,x<256)/\s.length<=l.length
 | [],_,s,hs=>by
  have:s=[]:=by simpa [ZT] using hs
  subst this;exact⟨(λx hx=>by cases hx),QC _⟩
 | b::l,h,s,hs=>by
  have ih:=PG (l:=l) (λx hx=>h x (by simp[hx]));unfold ZT at hs;split at hs
  ·rcases QZ.1 hs with rfl | hs
   ·exact⟨by decide,by simp⟩
   ·exact⟨(ih s hs).1,Nat.le_succ_of_le (ih s hs).2⟩
  ·split at hs
   ·rename_i e;exact Q8 e (Fe l)
   ·rename_i t ts e;rw[e] at ih;rcases QZ.1 hs with rfl | hs
    ·have:=ih t (by simp);exact⟨λx hx=>(QZ.1 hx).elim (λe=>e▸h b (by simp)) (this.1 x),by simp;exact this.2⟩
    ·have:=ih s (by simp[hs]);exact⟨this.1,Nat.le_succ_of_le this.2⟩
def W8 (l:List Nat):List (List Nat):=if(ZT l).getLast? =some [] then(ZT l).dropLast else ZT l
theorem PH:∀{l},cd l->ZT l=(QT l).map (·++ [10])++ [[]]
 | [],_=>rfl
 | b::l,h=>by
  have hl:cd l:=by
   cases l with
   | nil=>exact .inl rfl
   | cons c l=>right;rcases h with h | h;cases h;simpa using h
  have ih:=PH hl;unfold ZT QT;by_cases hb:b=10
  ·subst hb;rw[Qf rfl,Qf rfl,ih]<;>rfl
  ·rw[if_neg hb,if_neg hb,ih];cases KC:QT l with
   | nil=>
    have:=W6 hl;rw[KC] at this;have:l=[]:=this.symm;subst this;rcases h with h | h
    ·cases h
    ·simp at h;exact Q8 h hb
   | cons t ls=>rfl
theorem vK {l:List Nat}(h:cd l):W8 l=(QT l).map (·++ [10]):=by
 unfold W8;rw[PH h,Qf (by simp)];simp
def KW (s:List Nat):Bool:=Zl.isPrefixOf s||pElif.isPrefixOf s||pInc.isPrefixOf s||decide (s=Jd++ [10])||decide (s=Xx++ [10])
theorem vL:∀{p r:List Nat},10∉p->p.isPrefixOf (r++ [10])=p.isPrefixOf r
 | [],r,_=>by simp
 | a::p,[],h=>by
  simp only[QZ,not_or] at h;have:(a==10)=false:=by simpa using λe:a=10=>h.1 e.symm
  simp[List.isPrefixOf,this]
 | a::p,b::r,h=>by
  simp only[QZ,not_or] at h;simp only[Jb,List.isPrefixOf,vL h.2]
theorem iN (r:List Nat):KW (r++ [10])=decide (ZN r≠ .txt):=by
 unfold KW;rw[vL (by decide),vL (by decide),vL (by decide)];have e1:∀k:List Nat,decide (r++ [10]=k++ [10])=decide (r=k):=λk=>by simp
 rw[e1,e1];unfold ZN;by_cases h1:Zl.isPrefixOf r=true
 ·rw[Qf h1,h1];simp
 by_cases h2:pInc.isPrefixOf r=true
 ·rw[if_neg h1,Qf h2,h2];simp
 by_cases h3:pElif.isPrefixOf r=true
 ·rw[if_neg h1,if_neg h2,Qf h3,h3];simp
 by_cases h4:r=Jd
 ·rw[if_neg h1,if_neg h2,if_neg h3,Qf h4,XR h4];simp
 by_cases h5:r=Xx
 ·rw[if_neg h1,if_neg h2,if_neg h3,if_neg h4,Qf h5,XR h5];simp
 rw[if_neg h1,if_neg h2,if_neg h3,if_neg h4,if_neg h5,dK.2 h1,dK.2 h2,dK.2 h3,X4 h4,X4 h5];simp
def Ve (l:List Nat):Bool:=aG l&&(QT l).all (λs=>decide (ZN s= .txt))
theorem fQC (ls:List (List Nat)):((ls.map (·++ [10])).any KW)= !(ls.all (λs=>decide (ZN s= .txt))):=by
 induction ls with
 | nil=>rfl
 | cons s ls ih=>
  rw[Y0,List.any_cons,yH,ih,iN,Bool.not_and];congr 1;by_cases h:ZN s= .txt<;>simp[h]
theorem Fg (r:List Nat):Zl.isPrefixOf (r++ [10])=Zl.isPrefixOf r:=vL (by decide)
theorem fQD (l:List Nat)(w:World)(hl:∀x∈l,x<256):
  Fn Tryz.prog 209 [.string (Qe l),.string (Qe [10])] w (λv w'=>v= .int .i64 (gn 10 l)/\w=w'):=by
 refine QD (c:=cQ2) Qa Tryz.func209 rfl rfl rfl ?_;have h:=Tryz.stringslite_Index_one (Qe l) (UInt8.ofNat 10) w;rw[vH,Ac (by decide) hl] at h;refine call (vI h) ?_;rintro _ _ ⟨rfl,rfl⟩;exact⟨rfl,rfl⟩
theorem Fh (l p:List Nat)(w:World)(hl:∀x∈l,x<256)(hp:∀x∈p,x<256):
  Fn Tryz.prog 96 [.string (Qe l),.string (Qe p)] w (λv w'=>v= .bool (p.isPrefixOf l)/\w=w'):=by
 refine QD (c:=c96) Qa Tryz.func96 rfl rfl rfl ?_;refine call (NG l p w hl hp) ?_;rintro _ _ ⟨rfl,rfl⟩;exact⟨rfl,rfl⟩
theorem PI (ds:List (List Nat))(n i:Nat)(s:List Nat)(hi:ds.length=i)(hn:i<n):
  (XW ds++List.replicate (n-i) (Value.string ⟨#[]⟩)).set i (.string (Qe s))=XW (ds++ [s])++List.replicate (n-(i+1)) (Value.string ⟨#[]⟩):=by
 have hl:(XW ds).length=i:=by rw[bn,hi]
 rw[List.set_append_right _ _ (by omega),hl,yG,show n-i=(n-(i+1))+1 by omega,Mr,List.set_cons_zero];simp[XW]
def Sn (w:World)(A:Option Addr)(n c:Nat)(cs:List Value):Prop:=Sl w 1 A n c cs/\(0<n->∃g o,A=some ⟨g,o,none⟩)
theorem Sn.ext {w w':World}{A:Option Addr}{n c:Nat}{cs:List Value}(h:Sn w A n c cs)(k:Ext w w'):Sn w' A n c cs:=⟨h.1.ext k,h.2⟩
theorem fQE (l:List Nat)(w:World)(hl:∀x∈l,x<256)(Xd:l.length<=1000000000):
  Fn Tryz.prog 153 [.string (Qe l),.string (Qe [10]),.int .i64 1,.int .i64 (-1)] w (λu w'=>∃A c,u= .slice A (ZT l).length c/\Ext w w'/\Sn w' A (ZT l).length c (XW (ZT l))):=by
 have Jq:=Af l;have jm:l.count 10<=l.length:=List.count_le_length;have Xu:=XF l;refine QD (c:={cQv with cuts:=[]}) Qa Tryz.func153 rfl rfl rfl ?_;refine XB (by decide) ?_;refine Q5 rfl ?_;refine XH (by decide) ?_;refine call (PC l 10 w hl (by decide)) ?_;rintro _ _ ⟨rfl,rfl⟩;refine Qi ((l.count 10+1:Nat):Int) (by show((_:Nat):Int)+1=_;omega) (by omega) ?_;refine Qi ((l.length+1:Nat):Int) (by rw[Xu];omega) (by omega) ?_;refine norm (m:=((l.count 10+1:Nat):Int)) (by split<;>omega) ?_;refine zo Qa rfl rfl rfl rfl rfl rfl rfl rfl (by show 16*(l.count 10+1)<=_;omega) (by unfold maxLen;omega) (λw1 Qd Q3 Qh=>?_);refine Qi ((l.count 10:Nat):Int) (by omega) (by omega) ?_;generalize Lz:l.count 10=cn at*;refine loop Qa [10,0] (λs:Nat×List (List Nat)×List Nat=>[.int .i64 s.1,.string (Qe s.2.2)]) (λs w'=>Mod (·=w.heap.size) w1 w'/\s.1<=cn/\s.2.1.length=s.1/\ZT l=s.2.1++ZT s.2.2/\(∀x∈s.2.2,x<256)/\s.2.2.length<=l.length/\Blk w' w.heap.size 9 (XW s.2.1++List.replicate (cn+1-s.1) (Value.string ⟨#[]⟩))) (λs _=>cn-s.1) (0,[],l) rfl ⟨Mod.refl _ _,XJ _,rfl,rfl,hl,QC _,Qh⟩ ?_;rintro⟨i,ds,r⟩ w2 ⟨m3,hi,ii,Kp,i9,jp,Qw⟩;simp only at hi ii Kp i9 jp Qw;have QX:=XF r;have Bn:=QN List.length Kp;rw[Qu,Jq,ii] at Bn;refine Qy (λc1=>?_) (λc1=>?_)
 ·have Xe:i<cn:=by simp only at c1;omega
  have hm:10∈r:=Classical.byContradiction (λhh=>by rw[Ag hh] at Bn;simp at Bn;omega);have hhd:=fQB hm;have e1:gn 10 r=((Wz r).length:Nat):=by unfold gn Wz;rw[Qf hm]
  have x9:=fQD r w2 i9;rw[e1] at x9;refine call x9 ?_;rintro _ _ ⟨rfl,rfl⟩;refine Q9 (by omega) ?_;refine Qi (((Wz r).length+1:Nat):Int) (by omega) (by omega) ?_;refine Ke (v':=.string (Qe (r.take ((Wz r).length+1)))) ⟨by omega,by omega,by rw[QX];omega⟩ (by rw[KN];rfl) ?_;refine index (j:=i) (by omega) ?_;refine XP Qw (by rw[Qu,bn,List.length_replicate];omega) (λw3 ZU Qt=>?_);rw[PI ds (cn+1) i _ ii (by omega)] at Qt;refine Qi (((Wz r).length+1:Nat):Int) (by have:(Qe [10]).size=1:=rfl;omega) (by omega) ?_;refine Ke (v':=.string (Qe (r.drop ((Wz r).length+1)))) ⟨by omega,by rw[QX];omega,by rw[QX];omega⟩ (by
   rw[KN,QX];show Value.string (Qe ((r.take r.length).drop _))=_;rw[Jm (QC _)];rfl) ?_
  refine Qi ((i+1:Nat):Int) (by show((i:Nat):Int)+1=_;omega) (by omega) ?_;refine⟨(i+1,ds++ [r.take ((Wz r).length+1)],r.drop ((Wz r).length+1)),rfl,⟨m3.trans ZU (λi hi=>.inl hi),Xe,by simp[ii],?_,λx hx=>i9 x (aZ hx),by simp only[Y3];omega,Qt⟩,by show cn-(i+1)<cn-i;omega⟩;simp only;rw[Kp,Ff hm];simp
 ·have Xe:i=cn:=by simp only at c1;omega
  subst Xe;have Xf:10∉r:=λhm=>by have h1:=Af r;have:=List.count_pos_iff.2 hm;omega
  refine index (j:=i) (by omega) ?_;refine XP Qw (by rw[Qu,bn,List.length_replicate];omega) (λw3 ZU Qt=>?_);rw[PI ds (i+1) i _ ii (by omega)] at Qt;refine Qi ((i+1:Nat):Int) (by show((i:Nat):Int)+1=_;omega) (by omega) ?_;refine jI Qa rfl rfl rfl rfl rfl rfl (QC _) ?_;have e2:ZT l=ds++ [r]:=by rw[Kp,Ag Xf]
  have Dh:=Sl.own (sz:=1) (n:=i+1) (c:=i+1) Qt (QC _) (by unfold maxLen;omega) (by rw[Qu,bn,Qu,ii];simp);rw[yG,List.replicate_zero,YH,ir,Jm (by rw[bn,Qu,ii];simp)] at Dh;refine⟨_,_,by rw[Jq],(m3.trans ZU (λi hi=>.inl hi)).ext Qd (λi hi=>by omega),?_⟩;rw[Jq,e2];exact⟨Dh,λ_=>⟨_,_,rfl⟩⟩
theorem fQF (l:List Nat)(w:World)(hl:∀x∈l,x<256)(Xd:l.length<=1000000000):
  Fn Tryz.prog 95 [.string (Qe l),.string (Qe [10])] w (λu w'=>∃A c,u= .slice A (ZT l).length c/\Ext w w'/\Sn w' A (ZT l).length c (XW (ZT l))):=by
 refine QD (c:={c95 with cuts:=[]}) Qa Tryz.func95 rfl rfl rfl ?_;refine call (fQE l w hl Xd) ?_;rintro _ w1 ⟨A,c,rfl,Qd,KR⟩;exact⟨A,c,rfl,Qd,KR⟩
def sL (w:World)(u:Value)(ls:List (List Nat))(w':World):Prop:=∃A c,u= .slice A ls.length c/\Ext w w'/\Sn w' A ls.length c (XW ls)
theorem Ai (l:List Nat)(w:World)(hl:∀x∈l,x<256)(Xd:l.length<=1000000000):
  Fn Tryz.prog 46 [.string (Qe l)] w (λu w'=>sL w u (W8 l) w'):=by
 have Jq:=Af l;have jm:l.count 10<=l.length:=List.count_le_length;refine QD (c:={c46 with cuts:=[]}) Qa Tryz.func46 rfl rfl rfl ?_;refine call (fQF l w hl Xd) ?_;rintro _ w1 ⟨A,c,rfl,Qd,KR⟩;have ZO:=KR.1.le;refine Qi (((ZT l).length-1:Nat):Int) (by omega) (by omega) ?_;obtain⟨z,hz⟩:∃z,(ZT l).getLast? =some z:=⟨_,List.getLast?_eq_some_getLast (Fe l)⟩
 have WQ:(ZT l)[(ZT l).length-1]? =some z:=by rw[<-lP];exact hz
 refine X5 KR.1 (by omega) (λad u hA hu QE=>?_);rw[lZ WQ] at hu;cases hu;refine load QE ?_;have VJ:=(PG hl z (QO WQ)).1;by_cases h0:z=[]
 ·subst h0;refine Xa rfl ?_;refine Qi (((ZT l).length-1:Nat):Int) (by omega) (by omega) ?_;refine jI Qa rfl rfl rfl rfl rfl rfl (by omega) ?_;have e:W8 l=(ZT l).dropLast:=by unfold W8;rw[Qf hz]
  have h2:=KR.1.take (m:=(ZT l).length-1) (by omega);refine⟨A,c,by rw[e,List.length_dropLast],Qd,?_⟩;rw[e,List.length_dropLast];have e3:XW (ZT l).dropLast=(XW (ZT l)).take (((ZT l).length-1)*1):=by
   rw[ir,List.dropLast_eq_take];simp[XW,List.map_take]
  rw[e3];exact⟨h2,λh0=>KR.2 (by omega)⟩
 ·refine Q9 (λe=>h0 (Jc VJ (by simp) e)) ?_;have e:W8 l=ZT l:=by unfold W8;rw[if_neg (λhh=>h0 (Option.some.inj (hz.symm.trans hh)))]
  exact⟨A,c,by rw[e],Qd,by rw[e];exact KR⟩
theorem fQG (x z:Bool)(w:World):Fn Tryz.prog 170 [.bool x,.bool false,.bool z] w (λv w'=>v= .bool (Ki 4 x z)/\w=w'):=by
 refine QD (c:={cQJ with cuts:=[]}) Qa Tryz.func170 rfl rfl rfl ?_;cases x with
 | true=>
  refine Xa rfl ?_;refine Q5 rfl ?_;refine Q5 rfl ?_;exact⟨rfl,rfl⟩
 | false=>
  refine Q5 rfl ?_;refine Xa rfl ?_;exact⟨by cases z<;>rfl,rfl⟩
structure CPz where
 ox:Nat
 mx:Nat
 lx:Nat
 ax:Nat
 bx:Nat
 pb:Nat
 km:Nat
 mm:Nat
 D:AD
def CPz.caps (p:CPz):List Value:=[VP.ptr p.ox,VP.ptr p.mx,VP.ptr p.lx,VP.ptr p.ax,VP.ptr p.bx]
def CPz.clo (p:CPz):Value:=.func (.func 188) #[] #[VP.ptr p.ox,VP.ptr p.mx,VP.ptr p.lx,VP.ptr p.ax,VP.ptr p.bx]
def CPz.lC (p:CPz):List Value:=[.slice p.D.A p.D.n p.D.c,.int .i64 p.D.ra,.slice none 0 0,.int .i64 0,.slice p.D.B p.D.m p.D.d,.int .i64 p.D.rb]
structure CKz (w:World) (base:Nat) (p:CPz):Prop where
 hF:p.D.op=4
 oxb:Blk w p.ox 205 [.func (.func 170) #[] #[]]
 mxb:Blk w p.mx 272 [.map (some p.mm)]
 lxb:Blk w p.lx 204 p.lC
 axb:Blk w p.ax 273 [p.clo]
 bxb:Blk w p.bx 174 [VP.ptr p.pb]
 as_:SB w p.D.A p.D.n p.D.c p.D.a
 bs:SB w p.D.B p.D.m p.D.d p.D.b
 off:∀k,k=p.ox∨k=p.mx∨k=p.lx∨k=p.ax∨k=p.bx->k<base/\k≠p.pb/\k≠p.km/\k≠p.mm
 rowA:∀ad,p.D.A=some ad->0<p.D.n->ad.block<base/\ad.block≠p.pb/\ad.block≠p.km/\ad.block≠p.mm
 rowB:∀ad,p.D.B=some ad->0<p.D.m->ad.block<base/\ad.block≠p.pb/\ad.block≠p.km/\ad.block≠p.mm
def CSz (p:CPz)(NA:Option Addr):Nat->Prop:=λk=>k=p.mm∨BS p.pb p.km NA k
theorem CSz.moved {w:World}{p:CPz}{A A':Option Addr}(h:Moved w A A'):∀k,CSz p A' k->CSz p A k∨w.heap.size<=k:=by
 rintro k (rfl | hk)
 ·exact .inl (.inl rfl)
 ·rcases BS.moved h k hk with h | h
  ·exact .inl (.inr h)
  ·exact .inr h
theorem CSz.trans {w w1 w2:World}{p:CPz}{A A1:Option Addr}(hm:Mod (CSz p A) w w1)(hv:Moved w A A1)(h:Mod (CSz p A1) w1 w2):Mod (CSz p A) w w2:=hm.trans h (CSz.moved hv)
theorem CSz.no {p:CPz}{base:Nat}{NA:Option Addr}(hr:∀i,Qj NA i->base<=i){k:Nat}(h:k<base/\k≠p.pb/\k≠p.km/\k≠p.mm):¬CSz p NA k:=λe=>by
 obtain⟨h1,h2,h3,h4⟩:=h;rcases e with e | e | e | e
 ·exact h4 e
 ·exact h2 e
 ·exact h3 e
 ·have:=hr k e;omega
theorem CKz.mod {w w':World}{base:Nat}{p:CPz}{NA:Option Addr}(h:CKz w base p)(hr:∀i,Qj NA i->base<=i)(hm:Mod (CSz p NA) w w'):CKz w' base p:=by
 have k:=λk hk=>CSz.no (p:=p) hr (h.off k hk)
 refine⟨h.hF,h.oxb.mod hm (k _ (by simp)),h.mxb.mod hm (k _ (by simp)),h.lxb.mod hm (k _ (by simp)),h.axb.mod hm (k _ (by simp)),h.bxb.mod hm (k _ (by simp)),⟨h.as_.1.modS hm ?_,h.as_.2⟩,⟨h.bs.1.modS hm ?_,h.bs.2⟩,h.off,h.rowA,h.rowB⟩
 ·rintro h0 i ⟨ad,e,rfl⟩;exact CSz.no hr (h.rowA ad e h0)
 ·rintro h0 i ⟨ad,e,rfl⟩;exact CSz.no hr (h.rowB ad e h0)
theorem CKz.ext {w w':World}{base:Nat}{p:CPz}(h:CKz w base p)(k:Ext w w'):CKz w' base p:=
 h.mod (NA:=none) (λi hi=>by obtain⟨_,e,_⟩:=hi;cases e) (Mod.of_ext _ k)
structure CStz (w:World) (base:Nat) (p:CPz) (NA:Option Addr) (nc:Nat) (st:List Br×List Tr3):Prop where
 bd:Bd w base p.pb p.km NA nc st.1
 memo:∃m,MapQ bt w p.mm m/\∀x y:Int,Xv ((x,0,y):I3) m=iK st.2 x y
 lt:p.mm<base/\p.mm≠p.pb/\p.mm≠p.km
theorem CStz.ext {w w':World}{base:Nat}{p:CPz}{NA:Option Addr}{nc:Nat}{st:List Br×List Tr3}(h:CStz w base p NA nc st)(k:Ext w w'):CStz w' base p NA nc st:=
 ⟨h.bd.ext k,let ⟨m,h1,h2⟩:=h.memo;⟨m,h1.ext k,h2⟩,h.lt⟩
def fQH (w:World)(base:Nat)(p:CPz)(NA:Option Addr)(st:List Br×List Tr3)(w':World):Prop:=∃NA' nc',CStz w' base p NA' nc' st/\Mod (CSz p NA) w w'/\Moved w NA NA'
theorem PJ (base:Nat)(p:CPz)(ha:Vo p.D.a)(hb:Vo p.D.b)(dD:p.D.n<=1000000000000/\p.D.m<=1000000000000):∀(m:Nat)(x y:Int)(st:List Br×List Tr3)(NA:Option Addr)(nc:Nat)(w:World),
  CKz w base p->CStz w base p NA nc st->0<=x->0<=y->x+y<m->x<p.D.n+2->y<p.D.m+2->(Xp p.D.a p.D.b p.D.op m x y st).2.1.length<=100000000000->
  Fn Tryz.prog 188 (bt (x,0,y)::p.caps) w (λv w'=>v= .int .i64 (Xp p.D.a p.D.b p.D.op m x y st).1/\fQH w base p NA (Xp p.D.a p.D.b p.D.op m x y st).2 w')
 | 0,x,y,st,NA,nc,w,_,_,x0,y0,hm,_,_,_=>by omega
 | m+1,x,y,st,NA,nc,w,hK,hS,x0,y0,hm,hx,hy,Xy=>by
  have ih:=PJ base p ha hb dD m;have KU:p.D.a.length=p.D.n:=hK.as_.2;have eU:p.D.b.length=p.D.m:=hK.bs.2;have lv:=hS.bd.top;have Lp:∀i,Qj NA i->base<=i:=λi hi=>(hS.bd.own.rows i hi).1
  refine QD (c:={Ny with cuts:=[1]}) Qa Tryz.func188 rfl rfl rfl ?_;refine new (λw1 Qd Q3 Qh=>?_)
  replace Qh:Blk w1 w.heap.size 242 (cZ (x,0,y)):=Qh;have J8:=hK.ext Qd;have KR:=hS.ext Qd;have oB:w.heap.size<w1.heap.size:=by omega
  refine iD [] Qa [] (λ_:Unit=>[]) (λ_ w'=>w1=w'/\¬(x<2/\y<2)) ?_ ?_
  ·refine index (j:=0) (by decide) ?_;refine Qp Qh rfl ?_;refine Qy (λc1=>?_) (λc1=>?_)
   ·refine index (j:=1) (by decide) ?_;refine Qp Qh rfl ?_;refine XH (show(0:Int)<2 by decide) ?_;refine index (j:=2) (by decide) ?_;refine Qp Qh rfl ?_;refine Qy (λc2=>?_) (λc2=>?_)
    ·refine Qx J8.oxb rfl ?_;refine index (j:=0) (by decide) ?_;refine Qp Qh rfl ?_;refine index (j:=1) (by decide) ?_;refine Qp Qh rfl ?_;refine index (j:=2) (by decide) ?_;refine Qp Qh rfl ?_;rw[jV ⟨c1,c2⟩,Pj x0 c1 y0 c2,hK.hF];refine call (fQG (decide (x=1)) (decide (y=1)) w1) ?_;rintro v _ ⟨rfl,rfl⟩;cases Ki 4 (decide (x=1)) (decide (y=1))with
     | true=>
      refine Xa rfl ?_;exact⟨rfl,NA,nc,KR,Mod.of_ext _ Qd,Moved.refl _ _⟩
     | false=>
      refine Q5 rfl ?_;exact⟨rfl,NA,nc,KR,Mod.of_ext _ Qd,Moved.refl _ _⟩
    ·exact⟨(),rfl,rfl,λhh=>c2 hh.2⟩
   ·exact⟨(),rfl,rfl,λhh=>c1 hh.1⟩
  rintro⟨⟩ _ ⟨rfl,Xr⟩;obtain⟨mq,dC,K7⟩:=KR.memo;refine Qx J8.mxb rfl ?_;refine Qs Qh rfl ?_;refine En (kv:=bt) (a:=((x,0,y):I3)) Qa rfl rfl rfl rfl zY rfl rfl dC ?_;cases k:st.2.find? (λt=>decide (t.1=x/\t.2.1=y))with
  | some t=>
   have dE:Xv ((x,0,y):I3) mq=some (.int .i64 t.2.2):=by rw[K7,iK,k]<;>rfl
   refine Xa (by rw[dE];rfl) ?_;rw[jW Xr k];exact⟨by rw[dE];rfl,NA,nc,KR,Mod.of_ext _ Qd,Moved.refl _ _⟩
  | none=>
  have dE:Xv ((x,0,y):I3) mq=none:=by rw[K7,iK,k]<;>rfl
  refine Q5 (by rw[dE];rfl) ?_;have Zv:min (Ql p.D.a x) (Ql p.D.b y)<64:=by
   by_cases c:x<2
   ·have:=W4 hb (n:=y) (λc2=>Xr ⟨c,c2⟩) (by omega);rw[ZW];split<;>omega
   ·have:=W4 ha (n:=x) c (by omega);rw[ZW];split<;>omega
  have Lq:SB w1 none 0 0 []:=SlS.nil _;have qL:∀w',Ext w1 w'->∀(j:Nat) (v:Value),p.lC[j]? =some v->w'.cell? ((⟨p.lx,0,none⟩:Addr).add j)=some v:=λw' Qb j v hj=>by rw[(J8.lxb.ext Qb).cell];exact hj
  have qN:∀w',Ext w1 w'->∀(j:Nat) (v:Value),(cZ (x,0,y))[j]? =some v->w'.cell? ((⟨w.heap.size,0,none⟩:Addr).add j)=some v:=λw' Qb j v hj=>by rw[(Qh.ext Qb).cell];exact hj
  refine XC Qa (Ext w1) 17 [(true,0),(true,1),(true,2),(true,3),(true,5),(true,6),(true,7),(true,8),(true,10),(true,11),(true,12),(true,13),(false,4),(false,9),(false,14),(true,15),(true,16)] (by kernel_rfl) (Ext.drew w1) ?_;refine JO (j:=0) (by decide) ?_;refine Xq (vs:=[.slice p.D.A p.D.n p.D.c,.int .i64 p.D.ra]) rfl (λw' Qb j v hj=>by
   rw[add_add,(J8.lxb.ext Qb).cell]
   match j,hj with
   | 0,hj=>exact hj
   | 1,hj=>exact hj) ?_
  refine index (j:=0) (by decide) ?_;refine QH (v:=.int .i64 x) (λw' Qb=>qN w' Qb 0 _ rfl) ?_;refine JO (j:=1) (by decide) ?_;refine Xq (vs:=[.slice none 0 0,.int .i64 0]) rfl (λw' Qb j v hj=>by
   rw[add_add,(J8.lxb.ext Qb).cell]
   match j,hj with
   | 0,hj=>exact hj
   | 1,hj=>exact hj) ?_
  refine index (j:=1) (by decide) ?_;refine QH (v:=.int .i64 0) (λw' Qb=>qN w' Qb 1 _ rfl) ?_;refine JO (j:=2) (by decide) ?_;refine Xq (vs:=[.slice p.D.B p.D.m p.D.d,.int .i64 p.D.rb]) rfl (λw' Qb j v hj=>by
   rw[add_add,(J8.lxb.ext Qb).cell]
   match j,hj with
   | 0,hj=>exact hj
   | 1,hj=>exact hj) ?_
  refine index (j:=2) (by decide) ?_;refine QH (v:=.int .i64 y) (λw' Qb=>qN w' Qb 2 _ rfl) ?_;refine call (cS p.D.A p.D.n p.D.c p.D.ra x p.D.a _ (J8.as_.ext (Ext.drew w1)) (by omega)) ?_;rintro u w2 ⟨rfl,Qg⟩;have Xs:=(Ext.drew w1).trans Qg;refine⟨Xs,?_⟩;refine call (cS none 0 0 0 0 [] _ (Lq.ext Xs) (by simp)) ?_;rintro u w3 ⟨rfl,Qk⟩;have XK:=Xs.trans Qk;refine⟨XK,?_⟩;refine call (cS p.D.B p.D.m p.D.d p.D.rb y p.D.b _ (J8.bs.ext XK) (by omega)) ?_;rintro u w4 ⟨rfl,Qq⟩;have J7:=XK.trans Qq;refine⟨J7,?_⟩;have wy:Ql [] 0=64:=rfl;rw[wy];have Lt: -9223372036854775808<=min (Ql p.D.a x) (Ql p.D.b y):=by
   have pos:∀{d:List Br},Vo d->∀{n:Int},n<d.length+2->0<=Ql d n:=λ{d} hd {n} hn=>by
    by_cases h2:n<2
    ·rw[gl h2];omega
    ·obtain⟨z,hz⟩:=Y8 h2 hn;rw[cW h2 hz];exact(hd.2 _ _ hz).1
   have p1:=pos ha (n:=x) (by omega);have p2:=pos hb (n:=y) (by omega);rw[ZW];split<;>omega
  have G0:(if Ql p.D.b y<(if(64:Int)<Ql p.D.a x then 64 else Ql p.D.a x)then Ql p.D.b y else(if(64:Int)<Ql p.D.a x then 64 else Ql p.D.a x))=min (Ql p.D.a x) (Ql p.D.b y):=by
   rw[ZW] at Zv ⊢;split at Zv<;>(try split)<;>(try split)<;>(try split)<;>omega
  refine norm (m:=min (Ql p.D.a x) (Ql p.D.b y)) G0 ?_;rw[jX Xr k _ rfl] at Xy ⊢;generalize xS:min (Ql p.D.a x) (Ql p.D.b y)=v at*;have Q4:=Qh.ext J7;have VL:=J8.ext J7;have WG:=KR.ext J7;have XL:=Qd.trans J7;have G3:=J7.size;refine new (λw5 Qv KJ G4=>?_);refine new (λw6 Xh em G5=>?_);have Xz:=Qv.trans Xh;have G6:=G4.ext Xh;have Xo:=Q4.ext Xz;have bE:=VL.ext Xz;have i6:=WG.ext Xz;have XM:=XL.trans Xz;obtain⟨s1,s2,s3,s4,s5⟩:=Y7 ha (n:=x) x0 Zv;obtain⟨t1,t2,t3,t4,t5⟩:=Y7 hb (n:=y) y0 Zv;refine loop Qa [64] (λs:Nat=>[.int .i64 s]) (λs w'=>Mod (λi=>i=w4.heap.size∨i=w5.heap.size) w6 w'/\s<=3/\Blk w' w4.heap.size 242 (cZ (if 0<s then(Qm p.D.a x v).1 else 0,0,if 2<s then(Qm p.D.b y v).1 else 0))/\Blk w' w5.heap.size 242 (cZ (if 0<s then(Qm p.D.a x v).2 else 0,0,if 2<s then(Qm p.D.b y v).2 else 0))) (λs _=>3-s) 0 rfl ⟨Mod.refl _ _,XJ _,G6,G5⟩ ?_;rintro s w7 ⟨Xb,pY,ew,cr⟩;have hbz:base<=w4.heap.size:=by have:=Qd.size;omega
  have TF:w5.heap.size=w4.heap.size+1:=KJ;have xT:w.heap.size<w4.heap.size:=by omega
  have xU:∀k,k<w4.heap.size->¬(k=w4.heap.size∨k=w5.heap.size):=λk hk e=>by omega
  have hlx:=hK.off p.lx (by simp);have Q2:Ext w w7:=Xb.ext XM (λi hi=>by omega);have tG:Ext w1 w7:=Xb.ext (J7.trans Xz) (λi hi=>by omega);have V7:Ext w4 w7:=Xb.ext Xz (λi hi=>by omega);have Q6:=Q4.ext V7;have WI:=VL.ext V7;have XX:=WG.ext V7;have WJ:=Xb.size;have nLX:=xU p.lx (by omega);have nB:=xU w.heap.size xT;have h0:Qm [] 0 v=(0,0):=by unfold Qm;rw[Qf (show Ql [] 0≠v by rw[wy];omega)]
  by_cases hs:s<3
  ·rcases(show s=0∨s=1∨s=2 by omega)with rfl | rfl | rfl
   ·refine XH (show((0:Nat):Int)<3 by decide) ?_;refine XC Qa (Mod (λi=>i=w4.heap.size∨i=w5.heap.size) w7) 17 [(true,0),(true,1),(true,2),(true,3),(true,4),(true,5),(true,6),(true,7),(true,8),(false,9),(true,10),(true,11),(true,12),(true,13),(false,14),(true,15),(false,16)] (by kernel_rfl) (Mod.of_ext _ (Ext.drew w7)) ?_;refine JO (j:=0) (by decide) ?_;refine Xq (vs:=[.slice p.D.A p.D.n p.D.c,.int .i64 p.D.ra]) rfl (λw' Qb j v hj=>by
     rw[add_add,(WI.lxb.mod Qb nLX).cell]
     match j,hj with
     | 0,hj=>exact hj
     | 1,hj=>exact hj) ?_
    refine index (j:=0) (by decide) ?_;refine QH (v:=.int .i64 x) (λw' Qb=>by rw[(Q6.mod Qb nB).cell];rfl) ?_;refine call (iJ p.D.A p.D.n p.D.c p.D.ra x v p.D.a _ (WI.as_.ext (Ext.drew w7)) (by omega) Zv) ?_;rintro u w8 ⟨rfl,Q0⟩;have Kg:=(Ext.drew w7).trans Q0;refine⟨Mod.of_ext _ Kg,?_⟩;refine index (j:=0) (by decide) ?_;refine XP (ew.ext Kg) (by simp) (λw9 Ze gN=>?_);have K5:Mod (λi=>i=w4.heap.size∨i=w5.heap.size) w7 w9:=(Mod.of_ext _ Kg).trans Ze (λi hi=>.inl (.inl hi));refine⟨K5,?_⟩;have et:=K5.size;refine index (j:=0) (by decide) ?_;refine XP (((cr.ext Kg).mod Ze (by show¬w5.heap.size=w4.heap.size;omega))) (by simp) (λQJ Zp ez=>?_);have WM:Mod (λi=>i=w4.heap.size∨i=w5.heap.size) w7 QJ:=K5.trans Zp (λi hi=>.inl (.inr hi));refine⟨WM,?_⟩;have eA:=gN.mod Zp (by show¬w4.heap.size=w5.heap.size;omega);refine Qi ((1:Nat):Int) (by decide) (by decide) ?_;exact⟨1,rfl,⟨Xb.trans WM (λi hi=>.inl hi),by decide,eA,ez⟩,by show 3-1<3-0;decide⟩
   ·refine XH (show((1:Nat):Int)<3 by decide) ?_;refine XC Qa (Mod (λi=>i=w4.heap.size∨i=w5.heap.size) w7) 17 [(true,0),(true,1),(true,2),(true,3),(true,4),(true,5),(true,6),(true,7),(true,8),(false,9),(true,10),(true,11),(true,12),(true,13),(false,14),(true,15),(false,16)] (by kernel_rfl) (Mod.of_ext _ (Ext.drew w7)) ?_;refine JO (j:=1) (by decide) ?_;refine Xq (vs:=[.slice none 0 0,.int .i64 0]) rfl (λw' Qb j v hj=>by
     rw[add_add,(WI.lxb.mod Qb nLX).cell]
     match j,hj with
     | 0,hj=>exact hj
     | 1,hj=>exact hj) ?_
    refine index (j:=1) (by decide) ?_;refine QH (v:=.int .i64 0) (λw' Qb=>by rw[(Q6.mod Qb nB).cell];rfl) ?_;refine call (iJ none 0 0 0 0 v [] _ (SlS.nil _) (by decide) Zv) ?_;rintro u w8 ⟨rfl,Q0⟩;have Kg:=(Ext.drew w7).trans Q0;refine⟨Mod.of_ext _ Kg,?_⟩;refine index (j:=1) (by decide) ?_;refine XP (ew.ext Kg) (by simp) (λw9 Ze gN=>?_);have K5:Mod (λi=>i=w4.heap.size∨i=w5.heap.size) w7 w9:=(Mod.of_ext _ Kg).trans Ze (λi hi=>.inl (.inl hi));refine⟨K5,?_⟩;have et:=K5.size;refine index (j:=1) (by decide) ?_;refine XP (((cr.ext Kg).mod Ze (by show¬w5.heap.size=w4.heap.size;omega))) (by simp) (λQJ Zp ez=>?_);have WM:Mod (λi=>i=w4.heap.size∨i=w5.heap.size) w7 QJ:=K5.trans Zp (λi hi=>.inl (.inr hi));refine⟨WM,?_⟩;have eA:=gN.mod Zp (by show¬w4.heap.size=w5.heap.size;omega);refine Qi ((2:Nat):Int) (by decide) (by decide) ?_;rw[h0] at eA ez;exact⟨2,rfl,⟨Xb.trans WM (λi hi=>.inl hi),by decide,eA,ez⟩,by show 3-2<3-1;decide⟩
   ·refine XH (show((2:Nat):Int)<3 by decide) ?_;refine XC Qa (Mod (λi=>i=w4.heap.size∨i=w5.heap.size) w7) 17 [(true,0),(true,1),(true,2),(true,3),(true,4),(true,5),(true,6),(true,7),(true,8),(false,9),(true,10),(true,11),(true,12),(true,13),(false,14),(true,15),(false,16)] (by kernel_rfl) (Mod.of_ext _ (Ext.drew w7)) ?_;refine JO (j:=2) (by decide) ?_;refine Xq (vs:=[.slice p.D.B p.D.m p.D.d,.int .i64 p.D.rb]) rfl (λw' Qb j v hj=>by
     rw[add_add,(WI.lxb.mod Qb nLX).cell]
     match j,hj with
     | 0,hj=>exact hj
     | 1,hj=>exact hj) ?_
    refine index (j:=2) (by decide) ?_;refine QH (v:=.int .i64 y) (λw' Qb=>by rw[(Q6.mod Qb nB).cell];rfl) ?_;refine call (iJ p.D.B p.D.m p.D.d p.D.rb y v p.D.b _ (WI.bs.ext (Ext.drew w7)) (by omega) Zv) ?_;rintro u w8 ⟨rfl,Q0⟩;have Kg:=(Ext.drew w7).trans Q0;refine⟨Mod.of_ext _ Kg,?_⟩;refine index (j:=2) (by decide) ?_;refine XP (ew.ext Kg) (by simp) (λw9 Ze gN=>?_);have K5:Mod (λi=>i=w4.heap.size∨i=w5.heap.size) w7 w9:=(Mod.of_ext _ Kg).trans Ze (λi hi=>.inl (.inl hi));refine⟨K5,?_⟩;have et:=K5.size;refine index (j:=2) (by decide) ?_;refine XP (((cr.ext Kg).mod Ze (by show¬w5.heap.size=w4.heap.size;omega))) (by simp) (λQJ Zp ez=>?_);have WM:Mod (λi=>i=w4.heap.size∨i=w5.heap.size) w7 QJ:=K5.trans Zp (λi hi=>.inl (.inr hi));refine⟨WM,?_⟩;have eA:=gN.mod Zp (by show¬w4.heap.size=w5.heap.size;omega);refine Qi ((3:Nat):Int) (by decide) (by decide) ?_;exact⟨3,rfl,⟨Xb.trans WM (λi hi=>.inl hi),by decide,eA,ez⟩,by show 3-3<3-2;decide⟩
  ·have:s=3:=by omega
   subst this;refine Q9 (show¬((3:Nat):Int)<3 by decide) ?_
   replace ew:Blk w7 w4.heap.size 242 (cZ ((Qm p.D.a x v).1,0,(Qm p.D.b y v).1)):=ew
   replace cr:Blk w7 w5.heap.size 242 (cZ ((Qm p.D.a x v).2,0,(Qm p.D.b y v).2)):=cr;have eV:Ql p.D.a x=v∨Ql p.D.b y=v:=by rw[<-xS,ZW];split<;>simp
   have dec:(Qm p.D.a x v).1+(Qm p.D.b y v).1<x+y/\(Qm p.D.a x v).2+(Qm p.D.b y v).2<x+y:=by
    rcases eV with e | e
    ·have:=s5 e;omega
    ·have:=t5 e;omega
   have G7:=sH ha hb p.D.op m (Qm p.D.a x v).1 (Qm p.D.b y v).1 st s1 t1 (by omega) (by omega);have G8:=sH ha hb p.D.op m (Qm p.D.a x v).2 (Qm p.D.b y v).2 (Xp p.D.a p.D.b p.D.op m (Qm p.D.a x v).1 (Qm p.D.b y v).1 st).2 s3 t3 (by omega) (by omega);have mo2:=mj p.D.a p.D.b p.D.op m (Qm p.D.a x v).2 (Qm p.D.b y v).2 (Xp p.D.a p.D.b p.D.op m (Qm p.D.a x v).1 (Qm p.D.b y v).1 st).2;have c1:=ih (Qm p.D.a x v).1 (Qm p.D.b y v).1 st NA nc w7 WI XX s1 t1 (by omega) (by omega) (by omega);have c2:=λN1 n1 w' h1 h2=>ih (Qm p.D.a x v).2 (Qm p.D.b y v).2 (Xp p.D.a p.D.b p.D.op m (Qm p.D.a x v).1 (Qm p.D.b y v).1 st).2 N1 n1 w' h1 h2 s3 t3 (by omega) (by omega) (by omega)
   generalize (Xp p.D.a p.D.b p.D.op m (Qm p.D.a x v).1 (Qm p.D.b y v).1 st)=r0 at*;generalize (Xp p.D.a p.D.b p.D.op m (Qm p.D.a x v).2 (Qm p.D.b y v).2 r0.2)=r1 at*;have ul:=vj ⟨v,r0.1,r1.1⟩ r1.2.1;have ul2:(ZR ⟨v,r0.1,r1.1⟩ r1.2.1).1.length<=r1.2.1.length+1:=by
    unfold ZR;split
    ·exact yL _
    ·split
     ·exact yL _
     ·simp
   simp only at Xy;refine Qx WI.axb rfl ?_;refine Qs ew rfl ?_;refine call (c1 (by omega)) ?_;rintro _ QG ⟨rfl,N1,n1,p7,ZV,wz⟩;have G9:=cr.lt;have i7:=hS.bd.own.rows;obtain⟨l1,l2,l3⟩:=hS.lt;obtain⟨b1,b2,b3⟩:=hS.bd.lt;have new:∀k,w.heap.size<=k->¬CSz p NA k:=λk hk e=>by
    rcases e with e | e | e | e
    ·omega
    ·omega
    ·omega
    ·have:=(i7 k e).2;omega
   have eB:=WI.mod Lp ZV;have Ha:=cr.mod ZV (new _ (by omega));have ZZ:=Q6.mod ZV (new _ (QC _));have bA:∀i,Qj N1 i->base<=i:=λi hi=>(p7.bd.own.rows i hi).1
   have wA:∀k,w.heap.size<=k->k<w7.heap.size->¬CSz p N1 k:=λk hk h7 e=>by
    rcases CSz.moved wz k e with e | e
    ·exact new k hk e
    ·omega
   have tH:=ZV.size;have Lu:=Q6.lt;refine XC Qa (Mod (CSz p N1) QG) 8 [(true,0),(true,1),(true,2),(true,3),(true,4),(false,5),(false,6),(true,7)] (by kernel_rfl) (Mod.of_ext _ (Ext.drew QG)) ?_;have nof:=λk hk=>CSz.no (p:=p) bA (eB.off k hk)
   refine QH (v:=VP.ptr p.pb) (λw' Qb=>by rw[(eB.bxb.mod Qb (nof _ (by simp))).cell0];rfl) ?_;refine QH (v:=p.clo) (λw' Qb=>by rw[(eB.axb.mod Qb (nof _ (by simp))).cell0];rfl) ?_;refine Xq (vs:=cZ ((Qm p.D.a x v).2,0,(Qm p.D.b y v).2)) rfl (λw' Qb j v hj=>by rw[(Ha.mod Qb (wA _ (by omega) G9)).cell];exact hj) ?_;refine call (c2 N1 n1 _ (eB.ext (Ext.drew QG)) (p7.ext (Ext.drew QG)) (by omega)) ?_;rintro _ Xg ⟨rfl,N2,n2,aL,Vr,tC⟩;have kP:Mod (CSz p N1) QG Xg:=(Mod.of_ext _ (Ext.drew QG)).trans Vr (λi hi=>.inl hi);have wB:Moved QG N1 N2:=tC.back (Ext.drew QG).size;refine⟨kP,?_⟩;have ah:∀i,Qj N2 i->base<=i:=λi hi=>(aL.bd.own.rows i hi).1
   refine call (Ph base p.pb p.km N2 n2 r1.2.1 ⟨v,r0.1,r1.1⟩ Xg aL.bd (by omega)) ?_;rintro _ X2 ⟨rfl,N3,n3,ct,Kf,Hd⟩;have He:Mod (CSz p N2) Xg X2:=Kf.mono (λi hi=>.inl (.inr hi));have kQ:Mod (CSz p N1) QG X2:=CSz.trans kP wB He;refine⟨kQ,?_⟩;have jQC:=eB.mod bA kP;have Hf:=eB.mod bA kQ;have K2:=ZZ.mod kQ (wA _ (QC _) Lu);obtain⟨Hg,wi,Hh⟩:=aL.memo;have Hi:MapQ bt X2 p.mm Hg:=wi.mod Kf (λe=>by
    rcases e with e | e | e
    ·exact l2 e
    ·exact l3 e
    ·have:=ah _ e;omega)
   refine Qx Hf.mxb rfl ?_;refine Qs K2 rfl ?_;refine rT (kv:=bt) (a:=((x,0,y):I3)) Qa rfl rfl rfl rfl zY rfl rfl rfl Hi (λZi KP jQD Hj=>?_);have ZQ:∀k,k≠p.mm->¬(k=p.mm):=λk h=>h
   obtain⟨d1,d2,d3⟩:=ct.lt;have Hk:∀i,Qj N3 i->base<=i:=λi hi=>(ct.own.rows i hi).1
   obtain⟨kq,Lv,xV⟩:=ct.known;have Hl:Bd Zi base p.pb p.km N3 n3 (ZR ⟨v,r0.1,r1.1⟩ r1.2.1).1:=⟨ct.blk.mod KP (λe=>l2 e.symm),ct.own.mod KP (λi hi e=>by have:=Hk i hi;have e':i=p.mm:=e;omega),⟨kq,Lv.mod KP (λe=>l3 e.symm),xV⟩,ct.lt,Zf ct.top KP.size⟩
   have Hm:Mod (CSz p NA) w w7:=Mod.of_ext _ Q2;have jQE:Moved w NA NA:=Moved.refl _ _;have wC:Mod (CSz p NA) w QG:=Hm.trans ZV (λi hi=>.inl hi);have wD:Moved w NA N1:=wz.back Q2.size;have Ho:Mod (CSz p NA) w X2:=CSz.trans wC wD kQ;have m7:Mod (CSz p NA) w Zi:=Ho.trans KP (λi hi=>.inl (.inl hi));have Hp:Moved w NA N3:=wD.trans (wB.trans Hd kP.size) wC.size;refine⟨rfl,N3,n3,⟨Hl,⟨_,Hj,λx' y'=>?_⟩,hS.lt⟩,m7,Hp⟩;have Xf:r1.2.2.find? (λt=>decide (t.1=x/\t.2.1=y))=none:=by
    rw[uC];intro t ht hh;simp only[Vl] at hh;rcases G8 t ht with h1 | h1
    ·rcases G7 t h1 with h2 | h2
     ·have:=uC.1 k t h2;simp only[Vl] at this;exact this hh
     ·omega
    ·omega
   rw[aC,Hh,iK,iK,List.find?_append];by_cases Yc:(x',y')=(x,y)
   ·cases Yc;rw[Qf rfl,Xf];simp
   ·rw[if_neg (λe=>Yc (by cases e;rfl))];have: [(x,y,(ZR ⟨v,r0.1,r1.1⟩ r1.2.1).2)].find? (λt:Tr3=>decide (t.1=x'/\t.2.1=y'))=none:=by
     rw[DI]
     ·rfl
     ·simp only[Vl];exactλe=>Yc (by rw[e.1,e.2])
    rw[this];simp
theorem fQI (A:Option Addr)(n c:Nat)(a:List Br)(ra:Int)(B:Option Addr)(m d:Nat)(b:List Br)(rb:Int)(w:World)(h:SB w A n c a)(h':SB w B m d b)(ha:Vo a)(hb:Vo b)(r0:0<=ra)(r1:ra<n+2)(s0:0<=rb)(s1:rb<m+2)(hn:n<=1000000000000)(hm:m<=1000000000000)
  (Xy:(jY a ra b rb 4).2.1.length<=100000000000):
  Fn Tryz.prog 128 [.agg #[.slice A n c,.int .i64 ra,.slice none 0 0,.int .i64 0,.slice B m d,.int .i64 rb],.func (.func 170) #[] #[]] w (vh w (VE a ra b rb 4)):=by
 have KU:=h.2;have eU:=h'.2;refine QD (c:={Nw with cuts:=[]}) Qa Tryz.func128 rfl rfl rfl ?_;refine new (λw1 Qd Q3 Qh=>?_);refine new (λw2 Qg Zb Qw=>?_);refine new (λw3 Qk JI Qt=>?_);refine call (Pm w3) ?_;rintro _ w4 ⟨rfl,Qq,KY,Q4,kR⟩;refine new (λw5 Qv KJ QK=>?_);refine XP (j:=0) QK (by decide) (λw6 KZ Xo=>?_);have Xz:Ext w4 w6:=KZ.ext Qv (λi hi=>by omega);refine rS Qa bt rfl ?_;intro w7 Q2 WJ Hq;refine new (λw8 Q0 VJ Xt=>?_);refine XP (j:=0) Xt (by decide) (λw9 Ze JT=>?_);have Yn:Ext w7 w9:=Ze.ext Q0 (λi hi=>by omega);refine new (λQJ ZJ wv Km=>?_);refine XP (j:=0) Km (by decide) (λQG ZV ZZ=>?_);have z6:=KZ.size;have z9:=Ze.size;have Bk:=ZV.size;have fI:Ext w9 QG:=ZV.ext ZJ (λi hi=>by omega);have kS:Ext w6 QG:=(Q2.trans Yn).trans fI;have cv:Ext w4 QG:=Xz.trans kS;have KQ:=Qq;have kT:Ext w3 QG:=Qq.trans cv;have YS:Ext w QG:=((Qd.trans Qg).trans Qk).trans kT
 let D:AD:=⟨A,n,c,a,ra,B,m,d,b,rb,4⟩
 let p:CPz:=⟨w1.heap.size,w7.heap.size,w.heap.size,w9.heap.size,w4.heap.size,w3.heap.size+1,w3.heap.size,w6.heap.size,D⟩
 have wF:=ZZ.lt;have hK:CKz QG QG.heap.size p:=by
  refine⟨rfl,Qw.ext (Qk.trans kT),JT.ext fI,Qh.ext ((Qg.trans Qk).trans kT),ZZ,Xo.ext kS,h.ext YS,h'.ext YS,λk hk=>?_,λad e h0=>?_,λad e h0=>?_⟩
  ·simp only[p] at hk ⊢;rcases hk with rfl | rfl | rfl | rfl | rfl<;>omega
  ·have:=SB.lt h ad e h0;simp only[p];omega
  ·have:=SB.lt h' ad e h0;simp only[p];omega
 have hS:CStz QG QG.heap.size p none 0 ([],[]):=by
  refine⟨⟨Q4.ext cv,Own.nil _ _ _ _,⟨[],kR.ext cv,λ_=>rfl⟩,?_,QC _⟩,⟨[],Hq.ext (Yn.trans fI),λ_ _=>rfl⟩,?_⟩
  ·simp only[p];omega
  ·simp only[p];omega
 have Xf:∀i,Qj none i->QG.heap.size<=i:=λi hi=>by obtain⟨_,e,_⟩:=hi;cases e
 have nof:=λk hk=>CSz.no (p:=p) Xf (hK.off k hk)
 refine XC Qa (Mod (CSz p none) QG) 14 [(true,0),(true,1),(true,2),(true,3),(true,4),(true,5),(true,6),(true,7),(true,8),(true,9),(true,10),(true,11),(false,12),(false,13)] (by kernel_rfl) (Mod.of_ext _ (Ext.drew QG)) ?_;refine QH (v:=VP.ptr p.pb) (λw' Qb=>by rw[(hK.bxb.mod Qb (nof _ (by simp))).cell0];rfl) ?_;refine QH (v:=p.clo) (λw' Qb=>by rw[(hK.axb.mod Qb (nof _ (by simp))).cell0];rfl) ?_;refine JO (j:=0) (by decide) ?_;refine QH (v:=.int .i64 ra) (λw' Qb=>by rw[add_add,(hK.lxb.mod Qb (nof _ (by simp))).cell];rfl) ?_;refine JO (j:=1) (by decide) ?_;refine QH (v:=.int .i64 0) (λw' Qb=>by rw[add_add,(hK.lxb.mod Qb (nof _ (by simp))).cell];rfl) ?_;refine JO (j:=2) (by decide) ?_;refine QH (v:=.int .i64 rb) (λw' Qb=>by rw[add_add,(hK.lxb.mod Qb (nof _ (by simp))).cell];rfl) ?_;have inv:=vl ha hb 4 (ra.toNat+rb.toNat+1) ra rb ([],[]) ⟨λj x hx=>by simp at hx,λt ht=>by simp at ht⟩ r0 s0 (by omega) (by omega);refine call (PJ QG.heap.size p ha hb ⟨hn,hm⟩ (ra.toNat+rb.toNat+1) ra rb ([],[]) none 0 _ (hK.ext (Ext.drew QG)) (hS.ext (Ext.drew QG)) r0 s0 (by omega) r1 s1 Xy) ?_;rintro _ Xg ⟨rfl,NA,nc,aL,Ht,tC⟩;have Vr:Mod (CSz p none) QG Xg:=(Mod.of_ext _ (Ext.drew QG)).trans Ht (λi hi=>.inl hi);refine⟨Vr,?_⟩;have jQF:(Xp a b 4 (ra.toNat+rb.toNat+1) ra rb ([],[])).2.1.length<=100000000000:=Xy;have wG:SB Xg NA _ nc _:=⟨aL.bd.own.sl,rfl⟩
 refine call (ED p.pb (.map (some p.km)) NA _ nc _ _ Xg aL.bd.blk wG inv.1.1 (by show(Xp a b 4 (ra.toNat+rb.toNat+1) ra rb ([],[])).2.1.length<=_;omega) inv.2.1 inv.2.2 (SB.lt wG)) ?_;rintro _ X2 ⟨OA,k,oc,rfl,XK,wI,gJ⟩;have Kf:Mod (CSz p none) QG X2:=Vr.trans (Mod.of_ext (CSz p none) XK) (λi hi=>.inl hi);refine⟨Kf,?_⟩;have nres:¬CSz p none w2.heap.size:=CSz.no (p:=p) Xf (by simp only[p];omega);have K2:=(Qt.ext kT).mod Kf nres;refine Qz K2 rfl (sc rfl) (λZi ep _ JU=>?_);have KP:Mod (·=w2.heap.size) X2 Zi:=mQW ep rfl;refine Qs JU rfl ?_;have p8:Ext w X2:=Kf.ext YS (λi hi=>by
  rcases hi with e | e | e | ⟨_,e,_⟩
  ·simp only[p] at e;omega
  ·simp only[p] at e;omega
  ·simp only[p] at e;omega
  ·cases e)
 have TG:=Vr.size;have nr:∀i,Qj OA i->¬i=w2.heap.size:=λi hi e=>by have:=gJ i hi;omega
 refine⟨OA,k,oc,rfl,KP.ext p8 (λi hi=>by omega),⟨wI.1.modS KP (λ_ i hi=>nr i hi),wI.2⟩,λi hi=>by have:=gJ i hi;have:=YS.size;omega⟩
end
section
section
structure RP where
 r:Nat
 q:Nat
 nq:Nat
 NA:Option Addr
 nn:Nat
 nc:Nat
 nm:List (List Nat)
 FA:Option Addr
 nf:Nat
 cf:Nat
 fs:List (List Nat×List Nat)
def gr (x:List Nat×List Nat):List Value:=[.string (Qe x.1),.string (Qe x.2)]
theorem Fi (x:List Nat×List Nat):(gr x).length=2:=rfl
structure FileOk (x:List Nat×List Nat):Prop where
 n8:∀b∈x.1,b<256
 t8:∀b∈x.2,b<256
 nl:x.1.length<=9223372036854775807
 tl:x.2.length<=1048576
 ok:cd x.2
structure RPok (w0:World) (p:RP):Prop where
 nms:Sl w0 1 p.NA p.nn p.nc (XW p.nm)
 nmb:Ks p.nm
 nmk:p.nm.length<=12
 fls:SlS gr 2 w0 p.FA p.nf p.cf p.fs
 flb:∀x∈p.fs,FileOk x
 nqm:MapAt VV w0 p.nq (Yr (p.fs.map (·.1)) 0 [])
structure RM where
 OA:Option Addr
 oc:Nat
 BA:Option Addr
 bc:Nat
 L:List DV
 pa:Value
 T:Nat->Prop
structure RV where
 d:Nat
 fl:Nat
 ln:Nat
 rd:List Nat
 g:Gs
def mA (x:Sg×DV):List Value:=[.int .i64 x.1.f,.int .i64 x.1.t,.int .i64 x.1.fl,.int .i64 x.1.at_,.slice x.2.A x.2.n x.2.c,.int .i64 x.2.r]
theorem fQJ (x:Sg×DV):(mA x).length=6:=rfl
def cg (l:List Sg)(L:List DV):List Value:=(l.zip L).flatMap mA
abbrev kj (p:RP)(m:RM)(v:RV):List Value:=[.slice p.NA p.nn p.nc,.slice p.FA p.nf p.cf,.map (some p.nq),.map (some p.q),.int .i64 v.d,m.pa,.slice m.BA v.g.tx.length m.bc,.slice m.OA v.g.sg.length m.oc,.bool v.g.fr,.int .i64 v.fl,.int .i64 v.ln]
def RS (p:RP)(m:RM):Nat->Prop:=λk=>k=p.r∨k=p.q∨Qj m.OA k∨Qj m.BA k
def TS (p:RP)(m:RM):Nat->Prop:=λk=>RS p m k∨m.T k
structure Rr (w0 w:World) (base:Nat) (p:RP) (m:RM) (v:RV):Prop where
 e0:Ext w0 w
 lor:w0.heap.size<=p.r
 loq:w0.heap.size<=p.q
 rb:p.r<base
 qb:p.q<base
 ne:p.r≠p.q
 top:base<=w.heap.size
 pa:m.pa= .pointer none∨m.pa= .pointer (some (JQ p.r 5))
 blk:Blk w p.r 157 (kj p m v)
 txt:Own w base 5 1 m.BA v.g.tx.length m.bc (Jt v.g.tx)
 out:Own w base 48 6 m.OA v.g.sg.length m.oc (cg v.g.sg m.L)
 len:m.L.length=v.g.sg.length
 dgs:∀(j:Nat) (s:Sg) (x:DV),v.g.sg[j]? =some s->m.L[j]? =some x->DgO w (TS p m) p.nm.length x s.o
 rdm:∃mp,MapAt aE w p.q mp/\(mp.map (·.1)).Nodup/\∀n:Nat,Xv (n:Int) mp=if n∈v.rd then some (.bool true)else none
 tl:v.g.tx.length<=1048576
 sl:v.g.sg.length<=65536
 b8:∀x∈v.g.tx,x<256
 nf:v.g.fr=false->v.g.sg≠ []∨v.rd=[]
 tt:∀i,m.T i->i<w.heap.size
section
variable {w0 w w':World} {base:Nat} {p:RP} {m:RM} {v:RV}
theorem Rr.lo (h:Rr w0 w base p m v):∀i,RS p m i->w0.heap.size<=i:=λi hi=>by
 have:=h.lor;have:=h.loq;have:=h.rb;rcases hi with rfl | rfl | hi | hi
 ·assumption
 ·assumption
 ·have:=(h.out.rows i hi).1;omega
 ·have:=(h.txt.rows i hi).1;omega
theorem Rr.hi (h:Rr w0 w base p m v):∀i,RS p m i->i<w.heap.size:=λi hi=>by
 have:=h.rb;have:=h.qb;have:=h.top;rcases hi with rfl | rfl | hi | hi
 ·omega
 ·omega
 ·exact(h.out.rows i hi).2
 ·exact(h.txt.rows i hi).2
theorem Rr.ext (h:Rr w0 w base p m v)(k:Ext w w'):Rr w0 w' base p m v:=
 ⟨h.e0.trans k,h.lor,h.loq,h.rb,h.qb,h.ne,Zf h.top k.size,h.pa,h.blk.ext k,h.txt.ext k,h.out.ext k,h.len,λj s x h1 h2=>(h.dgs j s x h1 h2).ext k,let ⟨mp,h1,h2⟩:=h.rdm;⟨mp,h1.ext k,h2⟩,h.tl,h.sl,h.b8,h.nf,λi hi=>VQ (h.tt i hi) k.size⟩
theorem RS.moved {m':RM}(h1:Moved w m.OA m'.OA)(h2:Moved w m.BA m'.BA):∀k,RS p m' k->RS p m k∨w.heap.size<=k:=by
 rintro k (rfl | rfl | hk | hk)
 ·exact .inl (.inl rfl)
 ·exact .inl (.inr (.inl rfl))
 ·rcases h1.rows k hk with h | h
  ·exact .inl (.inr (.inr (.inl h)))
  ·exact .inr h
 ·rcases h2.rows k hk with h | h
  ·exact .inl (.inr (.inr (.inr h)))
  ·exact .inr h
theorem TS.moved {m':RM}(hT:m'.T=m.T)(h1:Moved w m.OA m'.OA)(h2:Moved w m.BA m'.BA):∀k,TS p m' k->TS p m k∨w.heap.size<=k:=by
 rintro k (hk | hk)
 ·rcases RS.moved (p:=p) h1 h2 k hk with h | h
  ·exact .inl (.inl h)
  ·exact .inr h
 ·exact .inl (.inr (by rw[<-hT];exact hk))
theorem Rr.hiT (h:Rr w0 w base p m v):∀i,TS p m i->i<w.heap.size:=λi hi=>hi.elim (h.hi i) (h.tt i)
theorem Rr.nrow (h:Rr w0 w base p m v):¬Qj m.OA p.r/\¬Qj m.BA p.r:=by
 have:=h.rb;exact⟨λhi=>by have:=(h.out.rows _ hi).1;omega,λhi=>by have:=(h.txt.rows _ hi).1;omega⟩
theorem Rr.put (h:Rr w0 w base p m v){v':RV}(hm:Mod (·=p.r) w w')(hB:Blk w' p.r 157 (kj p m v'))(h1:v'.g.tx=v.g.tx)(h2:v'.g.sg=v.g.sg)(h3:v'.rd=v.rd)(h4:v'.g.fr=false->v'.g.sg≠ []∨v'.rd=[]):Rr w0 w' base p m v':=by
 have hE:=hm.ext h.e0 (λi hi=>by subst hi;exact h.lor);refine⟨hE,h.lor,h.loq,h.rb,h.qb,h.ne,Zf h.top hm.size,h.pa,hB,?_,?_,by rw[h2];exact h.len,λj s x hs hx=>?_,?_,by rw[h1];exact h.tl,by rw[h2];exact h.sl,by rw[h1];exact h.b8,h4,λi hi=>VQ (h.tt i hi) hm.size⟩
 ·rw[h1];exact h.txt.mod hm (λi hi e=>by subst e;exact h.nrow.2 hi)
 ·rw[h2];exact h.out.mod hm (λi hi e=>by subst e;exact h.nrow.1 hi)
 ·rw[h2] at hs;exact(h.dgs j s x hs hx).keep hm (λi hi=>.inl (.inl (.inl hi)))
 ·obtain⟨mp,k1,k2⟩:=h.rdm;rw[h3];exact⟨mp,k1.mod hm (λe=>h.ne e.symm),k2⟩
end
def Fj (w0 w:World)(base:Nat)(p:RP)(m:RM)(v:RV)(w':World):Prop:=∃m',m'.T=m.T/\Rr w0 w' base p m' v/\Mod (RS p m) w w'/\Moved w m.OA m'.OA/\Moved w m.BA m'.BA
def fy (e f l:Int):List PanicEntry:=[{v:=.iface 160 (.agg #[.int .i64 e,.int .i64 f,.int .i64 l]),recovered:=false}]
section
variable {w0:World} {base:Nat} {p:RP} {m:RM} {v:RV}
theorem W9 (e:Int)(w:World)(h:Rr w0 w base p m v):
  FnP Tryz.prog 148 [.pointer (some ⟨p.r,0,none⟩),.int .i64 e] w (λ_ _=>False) (λch w'=>ch=fy e v.fl v.ln/\Ext w w'):=by
 refine aB (c:={cQs with cuts:=[]}) Qa Tryz.func148 rfl rfl rfl ?_;have hB:=h.blk;refine oY Qa 12 (by kernel_rfl) ?_;refine QH (v:=.int .i64 v.fl) (λw' Qb=>by subst Qb;rw[(hB.ext (Ext.drew w)).cell];rfl) ?_;refine QH (v:=.int .i64 v.ln) (λw' Qb=>by subst Qb;rw[(hB.ext (Ext.drew w)).cell];rfl) ?_;exact pf rfl rfl ⟨rfl,Ext.drew w⟩
theorem Aj (x:DV)(w:World):Fn Tryz.prog 202 [.pointer (some ⟨p.r,0,none⟩),Xm x.A x.n x.c x.r,.int .i64 0] w (λu w'=>u=Xm x.A x.n x.c x.r/\Ext w w'):=by
 refine QD (c:={cQY with cuts:=[]}) Qa Tryz.func202 rfl rfl rfl ?_;refine new (λw1 Qd Q3 Qh=>?_);refine new (λw2 Qg Zb Qw=>?_);refine Wo rfl ?_;refine Qs (Qh.ext Qg) rfl ?_;refine Qz Qw rfl (sc rfl) (λw3 ZY _ Qt=>?_);have Qk:Ext w1 w3:=X9 Qg Qw ZY;refine Qs Qt rfl ?_;exact⟨rfl,Qd.trans Qk⟩
def PK (w:World)(k:Nat)(o:BF)(u:Value)(w':World):Prop:=∃x:DV,u=Xm x.A x.n x.c x.r/\Ext w w'/\SB w' x.A x.n x.c x.nd/\Set1 k x.nd x.r o/\∀i,Qj x.A i->w.heap.size<=i
theorem PL (s:List Nat)(w:World)(hP:RPok w0 p)(h:Rr w0 w base p m v)(h8:∀x∈s,x<256)(hl:s.length<=1000000000000):
  FnP Tryz.prog 144 [.pointer (some ⟨p.r,0,none⟩),.string (Qe s)] w (λu w'=>∃o,Yu p.nm s= .ok o/\PK w p.nm.length o u w') (λch w'=>∃e,Yu p.nm s= .error e/\ch=fy e v.fl v.ln/\Ext w w'):=by
 refine aB (c:={cQo with cuts:=[]}) Qa Tryz.func144 rfl rfl rfl ?_;refine new (λw1 Qd Q3 Qh=>?_);refine Qx (h.blk.ext Qd) rfl ?_;refine call (N4 p.nm p.NA p.nn p.nc s w1 ((hP.nms.ext h.e0).ext Qd) hP.nmb h8 hl) ?_;rw[eQ7];have lB:Yu p.nm s=match j7 p.nm s with
  | .ok t=>.ok (evF t)
  | .error e=>.error (if e=2 then 2 else 71):=rfl
 cases eL:j7 p.nm s with
 | ok t=>
  rw[eL] at lB;obtain⟨k1,k2,k3⟩:=eQ8 eL;rintro _ w2 ⟨G,mg,cG,rfl,Qg,hG⟩;have hk:=hP.nmk;refine Kc rfl ?_;refine call (fQk G mg cG _ p.nm.length hk w2 hG (O4 (k2.mono (by omega)) k3) (sE t _ 0 k2)) ?_;rintro _ w3 ⟨D,md,cD,nd,r,rfl,Qk,hD,hS,hR⟩;rw[EV] at hS;refine call (Aj ⟨D,md,cD,nd,r⟩ w3) ?_;rintro _ w4 ⟨rfl,Qq⟩;have J7:=(Qg.trans Qk).trans Qq;refine Qz (Qh.ext J7) rfl (sc rfl) (λw5 Jw _ QK=>?_);have Z1:Mod (·=w.heap.size) w4 w5:=mQW Jw rfl;refine Qs QK rfl ?_;have Zb:=Qg.size;exact⟨_,lB,⟨D,md,cD,nd,r⟩,rfl,Z1.ext (Qd.trans J7) (λi hi=>by omega),SB.mod (hD.ext Qq) Z1 (λi hi e=>by have:=hR i hi;omega),hS,λi hi=>by have:=hR i hi;omega⟩
 | error e=>
  rw[eL] at lB;rintro _ w2 ⟨G,mg,cG,rfl,Qg,hG⟩;have Xs:=Qd.trans Qg;have h2:=h.ext Xs;rcases eQ9 eL with rfl | rfl | rfl | rfl
  ·refine XB (by decide) ?_;refine XB (by decide) ?_;refine XO (W9 71 w2 h2) (λ_ _ hf=>hf.elim) ?_;rintro ch w3 ⟨rfl,Qk⟩;exact⟨_,lB,rfl,Xs.trans Qk⟩
  ·refine XB (by decide) ?_;refine Kc rfl ?_;refine XO (W9 2 w2 h2) (λ_ _ hf=>hf.elim) ?_;rintro ch w3 ⟨rfl,Qk⟩;exact⟨_,lB,rfl,Xs.trans Qk⟩
  ·refine XB (by decide) ?_;refine XB (by decide) ?_;refine XO (W9 71 w2 h2) (λ_ _ hf=>hf.elim) ?_;rintro ch w3 ⟨rfl,Qk⟩;exact⟨_,lB,rfl,Xs.trans Qk⟩
  ·refine XB (by decide) ?_;refine XB (by decide) ?_;refine XO (W9 71 w2 h2) (λ_ _ hf=>hf.elim) ?_;rintro ch w3 ⟨rfl,Qk⟩;exact⟨_,lB,rfl,Xs.trans Qk⟩
theorem PM (k:Nat)(hk:k<=12)(x y:DV)(o o':BF)(w:World)(hx:SB w x.A x.n x.c x.nd)(hxs:Set1 k x.nd x.r o)(hy:SB w y.A y.n y.c y.nd)(fN:Set1 k y.nd y.r o'):
  Fn Tryz.prog 146 [.pointer (some ⟨p.r,0,none⟩),Xm x.A x.n x.c x.r,Xm y.A y.n y.c y.r] w (λu w'=>∃a b:DV,u= .tuple #[Xm a.A a.n a.c a.r,Xm b.A b.n b.c b.r]/\Ext w w'/\SB w' a.A a.n a.c a.nd/\Set1 k a.nd a.r (JE o o')/\(∀i,Qj a.A i->w.heap.size<=i)/\SB w' b.A b.n b.c b.nd/\Set1 k b.nd b.r (Yk o o')/\∀i,Qj b.A i->w.heap.size<=i):=by
 refine QD (c:={cQq with cuts:=[]}) Qa Tryz.func146 rfl rfl rfl ?_;refine new (λw1 Qd Q3 Qh=>?_);refine new (λw2 Qg Zb Qw=>?_);refine new (λw3 Qk JI Qt=>?_);refine new (λw4 Qq KY Q4=>?_);have KQ:=Qk.trans Qq;have Jj:=Qg.trans KQ;have XL:=Qd.trans Jj;refine Qs (Qh.ext Jj) rfl ?_;refine Qs (Qw.ext KQ) rfl ?_;have hx4:=hx.ext XL;have Hv:=hy.ext XL;refine call (vE x.A x.n x.c x.nd x.r y.A y.n y.c y.nd y.r w4 hx4 Hv) ?_;rw[gm hk hxs fN 0];have c1:Set1 k _ _ (JE o o'):=(dS hxs fN 0).congr (λe=>by simp[Ki]);generalize VE x.nd x.r y.nd y.r 0=D at*;obtain⟨D1,D2⟩:=D;rintro _ w5 ⟨PA,pn,pc,rfl,Qv,p9,aO⟩;refine call (Aj ⟨PA,pn,pc,D1,D2⟩ w5) ?_;rintro _ w6 ⟨rfl,Xh⟩;have Xz:=Qv.trans Xh;refine Qz ((Qt.ext Qq).ext Xz) rfl (sc rfl) (λw7 Zu _ Q6=>?_);have Xb:Mod (·=w2.heap.size) w6 w7:=mQW Zu rfl;have XM:=XL.trans Xz;have K4:Ext w w7:=Xb.ext XM (λi hi=>by omega);have n12:¬w.heap.size=w2.heap.size:=by omega
 have Bp:¬w1.heap.size=w2.heap.size:=by omega
 have ni:=((Qh.ext Jj).ext Xz).mod Xb n12;have jQH:=((Qw.ext KQ).ext Xz).mod Xb Bp;have jQI:=(Q4.ext Xz).mod Xb (by show¬w3.heap.size=w2.heap.size;omega);have kV:=SB.mod (p9.ext Xh) Xb (λi hi e=>by have:=aO i hi;omega);refine XC Qa (Ext w7) 12 [(true,0),(true,1),(true,2),(true,3),(false,4),(true,5),(true,6),(false,7),(false,8),(true,9),(true,10),(false,11)] (by kernel_rfl) (Ext.drew w7) ?_;refine Xq (vs:=x.cells) rfl (λw' Qb j u hj=>by rw[(ni.ext Qb).cell];exact hj) ?_;refine Xq (vs:=y.cells) rfl (λw' Qb j u hj=>by rw[(jQH.ext Qb).cell];exact hj) ?_;have hd:=Ext.drew w7;refine call (E6 y.A y.n y.c y.nd y.r _ ((hy.ext K4).ext hd)) ?_;have c0:Set1 k [] 0 (λ_=>false):=br k false;rw[gm hk fN c0 3];have c2:Set1 k _ _ (λe=> !o' e):=(dS fN c0 3).congr (λe=>by simp[Ki]);generalize VE y.nd y.r [] 0 3=F at*;obtain⟨F1,F2⟩:=F;rintro _ w8 ⟨QA,qn,qc,rfl,Q0,hQ8,nh⟩;refine⟨hd.trans Q0,?_⟩;refine call (Aj ⟨QA,qn,qc,F1,F2⟩ w8) ?_;rintro _ w9 ⟨rfl,XE⟩;have Yn:=(hd.trans Q0).trans XE;refine⟨Yn,?_⟩;refine call (vE x.A x.n x.c x.nd x.r QA qn qc F1 F2 w9 ((hx.ext K4).ext Yn) (hQ8.ext XE)) ?_;rw[gm hk hxs c2 0];have c3:Set1 k _ _ (Yk o o'):=(dS hxs c2 0).congr (λe=>by simp[Ki]);generalize VE x.nd x.r F1 F2 0=G at*;obtain⟨G1,G2⟩:=G;rintro _ QJ ⟨RA,rn,rc,rfl,ZJ,jQJ,wK⟩;refine⟨Yn.trans ZJ,?_⟩;refine call (Aj ⟨RA,rn,rc,G1,G2⟩ QJ) ?_;rintro _ QG ⟨rfl,J9⟩;have gP:=(Yn.trans ZJ).trans J9;refine⟨gP,?_⟩;refine Qz (jQI.ext gP) rfl (sc rfl) (λXg qa _ Vg=>?_);have Vr:Mod (·=w3.heap.size) QG Xg:=mQW qa rfl;have tJ:Ext w Xg:=Vr.ext (K4.trans gP) (λi hi=>by omega);have TJ:=(Q6.ext gP).mod Vr (by show¬w2.heap.size=w3.heap.size;omega);have WJ:=K4.size;have et:=Yn.size;have jQK:=Vr.size;have lQR:=gP.size;have TI:=Xz.size;have lQS:=Xb.size;have jQL:=SB.mod (kV.ext gP) Vr (λi hi e=>by have:=aO i hi;omega);have GP:=SB.mod (jQJ.ext J9) Vr (λi hi e=>by have:=wK i hi;omega);have tK:=Ext.drew Xg;have TK:¬w3.heap.size=w2.heap.size:=by omega
 refine XC Qa (λw'=>Mod (λi=>i=w2.heap.size∨i=w3.heap.size) Xg w'/\Blk w' w2.heap.size 32 (⟨PA,pn,pc,D1,D2⟩:DV).cells/\Blk w' w3.heap.size 32 (⟨RA,rn,rc,G1,G2⟩:DV).cells) 4 [(true,0),(true,1),(false,2),(false,3)] (by kernel_rfl) ⟨Mod.of_ext _ tK,TJ.ext tK,Vg.ext tK⟩ ?_;refine Xq (vs:=(⟨PA,pn,pc,D1,D2⟩:DV).cells) rfl (λw' Qb j u hj=>by rw[Qb.2.1.cell];exact hj) ?_;refine Xq (vs:=(⟨RA,rn,rc,G1,G2⟩:DV).cells) rfl (λw' Qb j u hj=>by rw[Qb.2.2.cell];exact hj) ?_;refine Qz (TJ.ext tK) rfl (sc rfl) (λX2 wM _ K2=>?_);have Kf:Mod (·=w2.heap.size) Xg.drew X2:=mQW wM rfl;have TL:Mod (λi=>i=w2.heap.size∨i=w3.heap.size) Xg X2:=(Mod.of_ext _ tK).trans Kf (λi hi=>.inl (.inl hi));have TM:=(Vg.ext tK).mod Kf TK;refine⟨⟨TL,K2,TM⟩,?_⟩;refine Qz TM rfl (sc rfl) (λZi ep _ JU=>?_);have KP:Mod (·=w3.heap.size) X2 Zi:=mQW ep rfl;have TN:=K2.mod KP (λe=>TK e.symm);have m7:=TL.trans KP (λi hi=>.inl (.inr hi));refine⟨⟨m7,TN,JU⟩,?_⟩;refine Qs TN rfl ?_;refine Qs JU rfl ?_;have Bq:Ext w Zi:=m7.ext tJ (λi hi=>by rcases hi with rfl | rfl<;>omega);exact⟨⟨PA,pn,pc,D1,D2⟩,⟨RA,rn,rc,G1,G2⟩,rfl,Bq,SB.mod jQL m7 (λi hi e=>by have:=aO i hi;omega),c1,λi hi=>by have:=aO i hi;have:=XL.size;omega,
  SB.mod GP m7 (λi hi e=>by have:=wK i hi;omega),c3,λi hi=>by have:=wK i hi;omega⟩
theorem PN (w:World)(h:Rr w0 w base p m v)(hd:v.d<=64):
  FnP Tryz.prog 145 [.pointer (some ⟨p.r,0,none⟩)] w (λ_ w'=>v.d≠64/\Rr w0 w' base p m {v with d:=v.d+1}/\Mod (·=p.r) w w') (λch w'=>v.d=64/\ch=fy 2 v.fl v.ln/\Ext w w'):=by
 refine aB (c:={cQp with cuts:=[]}) Qa Tryz.func145 rfl rfl rfl ?_;refine Qp h.blk rfl ?_;refine Zh (λh1=>?_) (λh1=>?_)
 ·refine XO (W9 2 w h) (λ_ _ hf=>hf.elim) ?_;rintro ch w1 ⟨rfl,Qd⟩;exact⟨by omega,rfl,Qd⟩
 ·refine Qp h.blk rfl ?_;refine Qi ((v.d+1:Nat):Int) (by show((v.d:Nat):Int)+1=_;omega) (by omega) ?_;refine XP h.blk (show 4<11 by decide) (λw1 d8 Qh=>?_);exact⟨λe=>h1 (by omega),h.put d8 Qh rfl rfl rfl h.nf,d8⟩
theorem fQK (ix:List Nat->Option Nat)(rd s:List Nat):cY ix rd s=if s.length<2∨s.head? ≠some 34∨s.getLast? ≠some 34∨s.count 34≠2 then .error 71 else match ix ((s.drop 1).take (s.length-2))with
  | none=>.error 73
  | some n=>if n∈rd then .error 73 else .ok n:=rfl
theorem Ak {ix:List Nat->Option Nat}{rd s:List Nat}(h:s.length<2∨s.head? ≠some 34∨s.getLast? ≠some 34∨s.count 34≠2):cY ix rd s= .error 71:=Qf h
theorem fQL {p:RP}(hP:RPok w0 p):Ks (p.fs.map (·.1)):=λs hs=>by
 obtain⟨x,hx,rfl⟩:=Z4.1 hs;exact⟨(hP.flb x hx).n8,(hP.flb x hx).nl⟩
theorem fQM {α:Type} [DecidableEq α]{kv:α->Value}{c:Cx}{o:Oper}{S:Env}{t ke e:Nat}{r rk re:TyRow}{x y:Operand}{q:Nat}{mm:List (α×Value)}{a:α}{C:World->Prop}{K:Env->Prop}(hg:c.g.Ok)(ho:o.op= .lookup t x y true)(hr:QU c.g.tys t=some r)(hd:r.d= .map ke e)(aS:QU c.g.tys ke=some rk)(X7:QU c.g.tys e=some re)(hk:KeyV rk.d kv)
  (hx:S.ev x=some (.map (some q))) (hy:S.ev y=some (kv a)) (hm:∀w,C w->MapAt kv w q mm) {v':Value} {b:Bool} (hv:(Xv a mm).getD re.z=v') (hb:(Xv a mm).isSome=b) (k:Xk c S o.dst (.v (.tuple #[v',.bool b])) K):bU c o S C K:=by
 subst hv hb;refine bQJ (v:=.tuple #[(Xv a mm).getD re.z,.bool (Xv a mm).isSome]) (λb w hf hw=>?_) k;have e1:=hf.ev hx;have e2:=hf.ev hy;have:=Eg (w:=w) (a:=a) hg hr hd aS X7 hk (hm w hw) true;simp only[execOp,ho,e1,e2];simp only[Sem.run_bind,this,Result.andThen_ok];cases Xv a mm<;>simp
theorem fQN (s:List Nat)(w:World)(hP:RPok w0 p)(h:Rr w0 w base p m v)(h8:∀x∈s,x<256)(hl:s.length<=1000000000000):
  FnP Tryz.prog 147 [.pointer (some ⟨p.r,0,none⟩),.string (Qe s)] w (λu w'=>∃n:Nat,cY (Jo (p.fs.map (·.1))) v.rd s= .ok n/\u= .int .i64 n/\Ext w w') (λch w'=>∃e,cY (Jo (p.fs.map (·.1))) v.rd s= .error e/\ch=fy e v.fl v.ln/\Ext w w'):=by
 refine aB (c:={cQr with cuts:=[]}) Qa Tryz.func147 rfl rfl rfl ?_;have Xu:=XF s;have bK:=Wp h8;refine Qy (λh1=>?_) (λh1=>?_)
 ·have hs:s.length<2:=by rw[Xu] at h1;omega
  refine XO (W9 71 w h) (λ_ _ hf=>hf.elim) ?_;rintro ch w1 ⟨rfl,Qd⟩;exact⟨_,Ak (.inl hs),rfl,Qd⟩
 have hs:¬s.length<2:=by rw[Xu] at h1;omega
 refine cO (j:=0) (by omega) (λx hx nU=>?_);rw[bK] at hx;have aQE:s.head? =some x:=by rw[aQ3];exact hx
 refine bg (λh2=>?_) (λh2=>?_)
 ·refine XO (W9 71 w h) (λ_ _ hf=>hf.elim) ?_;rintro ch w1 ⟨rfl,Qd⟩;exact⟨_,Ak (.inr (.inl (by rw[aQE];intro e;cases e;exact h2 rfl))),rfl,Qd⟩
 have jQM:x=34:=by omega
 refine Qi ((s.length-1:Nat):Int) (by rw[Xu];omega) (by omega) ?_;refine cO (j:=s.length-1) (by omega) (λy hy hyl=>?_);rw[bK] at hy;have od:s.getLast? =some y:=by rw[lP];exact hy
 refine bg (λh3=>?_) (λh3=>?_)
 ·refine XO (W9 71 w h) (λ_ _ hf=>hf.elim) ?_;rintro ch w1 ⟨rfl,Qd⟩;exact⟨_,Ak (.inr (.inr (.inl (by rw[od];intro e;cases e;exact h3 rfl)))),rfl,Qd⟩
 have jQN:y=34:=by omega
 refine call (PC s 34 w h8 (by decide)) ?_;rintro _ _ ⟨rfl,rfl⟩;refine bg (λh4=>?_) (λh4=>?_)
 ·refine XO (W9 71 w h) (λ_ _ hf=>hf.elim) ?_;rintro ch w1 ⟨rfl,Qd⟩;exact⟨_,Ak (.inr (.inr (.inr (by omega)))),rfl,Qd⟩
 have I9:¬(s.length<2∨s.head? ≠some 34∨s.getLast? ≠some 34∨s.count 34≠2):=by
  rintro(h | h | h | h)
  ·exact hs h
  ·rw[aQE,jQM] at h;exact h rfl
  ·rw[od,jQN] at h;exact h rfl
  ·omega
 have ij:cY (Jo (p.fs.map (·.1))) v.rd s=match Jo (p.fs.map (·.1)) ((s.drop 1).take (s.length-2))with
  | none=>.error 73
  | some n=>if n∈v.rd then .error 73 else .ok n:=if_neg I9
 have hn8:∀b∈(s.drop 1).take (s.length-2),b<256:=λb hb=>h8 b (aZ (fa hb))
 have WT:=Ew (fQL hP) _ hn8;have hB:=h.blk;refine XC Qa (Ext w) 15 [(true,0),(true,1),(true,2),(true,3),(true,4),(true,5),(true,6),(true,7),(true,8),(true,9),(true,10),(true,11),(true,12),(true,13),(true,14)] (by kernel_rfl) (Ext.drew w) ?_;refine QH (v:=.map (some p.nq)) (λw' Qb=>by rw[(hB.ext Qb).cell];rfl) ?_;refine Qi ((s.length-1:Nat):Int) (by rw[Xu];omega) (by omega) ?_;refine Ke (v':=.string (Qe ((s.drop 1).take (s.length-2)))) ⟨by omega,by omega,by rw[Xu];omega⟩ ?_ ?_
 ·rw[KN];simp only[fc,Int.toNat_one];rw[f9];congr 3
 generalize xG:(s.drop 1).take (s.length-2)=nm at*;refine fQM (kv:=VV) (a:=Qe nm) (v':=.int .i64 ((Jo (p.fs.map (·.1)) nm).getD 0:Nat)) (b:=(Jo (p.fs.map (·.1)) nm).isSome) Qa rfl rfl rfl rfl rfl mQX rfl rfl (λw' Qb=>(hP.nqm.ext h.e0).ext Qb) (by rw[WT];cases Jo (p.fs.map (·.1)) nm<;>rfl) (by rw[WT];cases Jo (p.fs.map (·.1)) nm<;>rfl) ?_;have Qd:=Ext.drew w;have tm:=h.ext Qd;obtain⟨mp,k1,k2,k3⟩:=tm.rdm;cases Kb:Jo (p.fs.map (·.1)) nm with
 | none=>
  rw[Kb] at ij;refine Xa rfl ?_;refine XO (W9 73 _ tm) (λ_ _ hf=>hf.elim) ?_;rintro ch w1 ⟨rfl,Qg⟩;exact⟨_,ij,rfl,Qd.trans Qg⟩
 | some n=>
  rw[Kb] at ij;simp only at ij;refine Q5 rfl ?_;refine Qp tm.blk rfl ?_;refine EC (kv:=aE) (a:=(n:Int)) (v:=.bool (decide (n∈v.rd))) Qa rfl rfl rfl rfl rfl (KeyV.int .i64) rfl rfl k1 (by rw[k3 n];by_cases hm:n∈v.rd<;>simp[hm]) ?_;by_cases hm:n∈v.rd
  ·rw[Qf hm] at ij;refine XH hm ?_;refine XO (W9 73 _ tm) (λ_ _ hf=>hf.elim) ?_;rintro ch w1 ⟨rfl,Qg⟩;exact⟨_,ij,rfl,Qd.trans Qg⟩
  ·rw[if_neg hm] at ij;refine Q9 hm ?_;exact⟨n,ij,rfl,Qd⟩
end
end
section
theorem fQO {α:Type}{f:α->List Value}(hf:∀x,∀u∈f x,Jz u=true)(l:List α):∀u∈l.flatMap f,Jz u=true:=λu hu=>by
 obtain⟨x,_,hx⟩:=ga.1 hu;exact hf x u hx
theorem fQP (x:Br):∀u∈x.cells,Jz u=true:=sc rfl
theorem fQQ (k:Nat)(hk:k<=12)(x:DV)(o:BF)(w:World)(hx:SB w x.A x.n x.c x.nd)(hs:Set1 k x.nd x.r o):
  Fn Tryz.prog 206 [Xm x.A x.n x.c x.r] w (PK w k o):=by
 have Xd:=hx.2;have hl:=hs.len hk;refine QD (c:={cQ1 with cuts:=[]}) Qa Tryz.func206 rfl rfl rfl ?_;refine new (λw1 Qd Q3 Qh=>?_);refine new (λw2 Qg Zb Qw=>?_);have Q7:=Qd.trans Qg;have Vg:=Qh.ext Qg;refine XC Qa (Ext w2) 6 [(true,0),(true,1),(true,3),(true,4),(false,2),(true,5)] (by kernel_rfl) (Ext.drew w2) ?_;refine QH (v:=.slice x.A x.n x.c) (λw' Qb=>by rw[(Vg.ext Qb).cell];rfl) ?_;refine QH (v:=.int .i64 x.r) (λw' Qb=>by rw[(Vg.ext Qb).cell];rfl) ?_;have hd:=Ext.drew w2;have hz:=hd.size;refine JB (base:=w2.drew.heap.size) Qa rfl rfl rfl rfl rfl (by decide) rfl rfl ⟨_,rfl⟩ rfl rfl (Own.nil _ _ _ _) ((hx.ext Q7).ext hd).1 (fQO fQP _) (by unfold maxLen;omega) (by show(0+x.n)*24<=_;omega) (QC _) ?_;intro A' c' w3 XD mT A0;have Vt:Ext w2 w3:=XD.ext hd (λi hi=>by obtain⟨_,e,_⟩:=hi;cases e);refine⟨Vt,?_⟩;refine Qz (Qw.ext Vt) rfl (sc rfl) (λw4 cq _ Q4=>?_);have KH:Mod (·=w1.heap.size) w3 w4:=mQW cq rfl;refine Qs Q4 rfl ?_;have nV:∀i,Qj A' i->w2.heap.size<=i:=λi hi=>by have:=(mT.rows i hi).1;omega
 refine⟨⟨A',0+x.n,c',x.nd,x.r⟩,rfl,KH.ext (Q7.trans Vt) (λi hi=>by omega),?_,hs,λi hi=>by have:=nV i hi;have:=Q7.size;omega⟩;refine SB.mod ⟨?_,by show x.nd.length=0+x.n;omega⟩ KH (λi hi e=>by have:=nV i hi;omega);simpa using mT.sl
theorem Fk {l:List Sg}{L:List DV}(h:L.length=l.length)(s:Sg)(x:DV):cg (l++ [s]) (L++ [x])=cg l L++mA (s,x):=by
 unfold cg;rw[List.zip_append h.symm];simp
theorem PO {l:List Sg}{L:List DV}(h:L.length=l.length):(cg l L).length=l.length*6:=by
 unfold cg;rw[cQ fQJ];simp[h]
theorem fQR (x:Sg×DV):∀u∈mA x,Jz u=true:=sc rfl
theorem PP {w:World}{base e sz n c j:Nat}{a:Addr}{xs:List Value}{v:Value}{K:World->Prop}(h:Own w base e sz (some a) n c xs)(hn:0<n)(hj:j<n*sz)
  (k:∀w1,Mod (Qj (some a)) w w1->Own w1 base e sz (some a) n c (xs.set j v)->K w1):gc w (a.add j) v K:=by
 have _:=hn;have hr:=h.row;have Xd:=hr.1;rcases hr.2 with⟨hv,_⟩ | ⟨g,cap,ZD,hv,hb,hg,lu,cB,Zc,qK⟩
 ·cases hv
 ·cases hv;have hB:Blk w g e ZD.toList:=by unfold Blk;rw[hg]
  have hjc:j<ZD.toList.length:=by
   have:ZD.size=c*sz:=Zc;have h2:n*sz<=c*sz:=Y1 _ lu;simp only[Array.length_toList];omega
  refine XP hB hjc (λw1 hm Qh=>k w1 (hm.mono (λi hi=>.inl ⟨_,rfl,hi.symm⟩)) ⟨⟨by rw[dG];exact Xd,.inr ⟨g,c,(ZD.toList.set j v).toArray,rfl,hb,Qh,lu,cB,by simpa using Zc,?_⟩⟩⟩);have ht:ZD.toList.take (n*sz)=xs:=qK;show((ZD.toList.set j v).toArray.toList).take (n*sz)=xs.set j v;rw[<-ht];simp only[List.take_set]
theorem fQS {l:List Sg}{L:List DV}(h:L.length=l.length)(s:Sg)(x:DV)(t:Nat):(cg (l++ [s]) (L++ [x])).set (l.length*6+1) (.int .i64 t)=cg (l++ [{s with t:=t}]) (L++ [x]):=by
 rw[Fk h,Fk h,List.set_append_right _ _ (by rw[PO h];omega),PO h];congr 1;rw[show l.length*6+1-l.length*6=1 by omega]<;>rfl
theorem fQT {a b:List Nat}(ha:∀x∈a,x<256)(hb:∀x∈b,x<256):∀x∈a++b,x<256:=λx hx=>by
 rcases Xw.1 hx with h | h
 ·exact ha x h
 ·exact hb x h
section
variable {w0:World} {base:Nat} {p:RP}
theorem PQ {s:List Nat}{fl at_:Nat}{k:BF}{g:Gs}(h:1048576<g.tx.length+s.length∨(g.fr=true/\g.sg.length=65536)):VZ s fl at_ k g=none:=Qf h
theorem fQU {s:List Nat}{fl at_:Nat}{k:BF}{g:Gs}(h:¬(1048576<g.tx.length+s.length∨(g.fr=true/\g.sg.length=65536))):VZ s fl at_ k g=some ⟨g.tx++s,my (g.tx.length+s.length) (if g.fr then g.sg++ [⟨g.tx.length,0,fl,at_,k⟩] else g.sg),false⟩:=if_neg h
theorem fQV:vF 157 11 5:=by unfold vF;kernel_rfl
theorem Rr.app {m:RM}{v v':RV}{w w1 w2:World}(h:Rr w0 w base p m v)(s:Sg)(x:DV){A':Option Addr}{c':Nat}(Zo:Mod (Qj m.OA) w w1)(ho:Own w1 base 48 6 A' (v.g.sg.length+1) c' (cg v.g.sg m.L++mA (s,x)))(hv:Moved w m.OA A')(XQ:Mod (·=p.r) w1 w2)
  (hx:DgO w (TS p m) p.nm.length x s.o) (hl:v.g.sg.length<65536) (e1:v'.g.tx=v.g.tx) (e2:v'.g.sg=v.g.sg++ [s]) (e3:v'.rd=v.rd) (hB:Blk w2 p.r 157 (kj p {m with OA:=A',oc:=c',L:=m.L++ [x]} v')):Rr w0 w2 base p {m with OA:=A',oc:=c',L:=m.L++ [x]} v':=by
 have QX:=TS.moved (p:=p) (m:=m) (m':={m with OA:=A',oc:=c',L:=m.L++ [x]}) rfl hv (Moved.refl w m.BA);have ZQ:Mod (RS p m) w w2:=(Zo.mono (S':=RS p m) (λi hi=>.inl (.inr (.inr (.inl hi))))).trans XQ (λi hi=>.inl (.inl hi));have Dc:∀i,Qj A' i->¬i=p.r:=λi hi e=>by subst e;have:=(ho.rows _ hi).1;have:=h.rb;omega
 have Xu:=h.top;have Q3:=Zo.size;have Zb:=XQ.size;refine⟨ZQ.ext h.e0 h.lo,h.lor,h.loq,h.rb,h.qb,h.ne,by omega,h.pa,hB,?_,?_,?_,?_,?_,by rw[e1];exact h.tl,?_,by rw[e1];exact h.b8,λ_=>.inl (by rw[e2];simp),λi hi=>VQ (h.tt i hi) (by omega)⟩
 ·rw[e1];exact(h.txt.mod Zo (λi hi hj=>h.txt.apart h.out (by decide) hi hj)).mod XQ (λi hi e=>by subst e;exact h.nrow.2 hi)
 ·rw[e2];have:=ho.mod XQ Dc;rw[Fk h.len,Qu];exact this
 ·rw[e2];show(m.L++ [x]).length=_;rw[Qu,Qu,h.len]<;>rfl
 ·rw[e2];intro j s1 x1 bF ei;have ei:(m.L++ [x])[j]? =some x1:=ei;rcases pq bF with⟨hj,bF⟩ | ⟨hj,bF⟩
  ·rw[Wh (by rw[h.len];exact hj)] at ei;exact(h.dgs j s1 x1 bF ei).step (ZQ.mono (λi hi=>.inl (.inl hi))) QX
  ·rw[YI (by rw[h.len];exact hj),h.len] at ei;obtain⟨h0,rfl⟩:=j6 bF;obtain⟨_,rfl⟩:=j6 ei;exact hx.step (ZQ.mono (λi hi=>.inl (.inl hi))) QX
 ·obtain⟨mp,k1,k2⟩:=h.rdm;rw[e3];exact⟨mp,(k1.mod Zo (k1.apart h.out)).mod XQ (λe=>h.ne e.symm),k2⟩
 ·rw[e2,Qu];simp;omega
theorem fQW {l:List Sg}{L:List DV}(h:L.length=l.length)(hn:l≠ []):∃l' s L' x,l=l'++ [s]/\L=L'++ [x]/\L'.length=l'.length:=by
 rcases oK l with rfl | ⟨l',s,rfl⟩
 ·exact Q8 rfl hn
 rcases oK L with rfl | ⟨L',x,rfl⟩
 ·simp at h
 ·exact⟨l',s,L',x,by simp,by simp,by simpa using h⟩
theorem add_fn (m:RM)(v:RV)(s:List Nat)(at_:Nat)(k:DV)(o:BF)(w:World)(hP:RPok w0 p)(h:Rr w0 w base p m v)(hk:DgO w (RS p m) p.nm.length k o)(h8:∀x∈s,x<256)(C6:s.length<=1048577)(lQc:v.rd≠ []):
  FnP Tryz.prog 150 [.pointer (some ⟨p.r,0,none⟩),.string (Qe s),.int .i64 at_,Xm k.A k.n k.c k.r] w (λ_ w'=>∃g',VZ s v.fl at_ o v.g=some g'/\Fj w0 w base p m {v with g:=g'} w') (λch w'=>VZ s v.fl at_ o v.g=none/\ch=fy 2 v.fl v.ln/\Ext w w'):=by
 have qU:=XF s;have YE:=h.tl;have mQH:=h.sl;refine aB (c:={cQu with cuts:=[2,4]}) Qa Tryz.func150 rfl rfl rfl ?_;refine new (λw1 Qd Q3 Qh=>?_);have h1:=h.ext Qd;refine call (fQn p.r 157 5 (kj p m v) m.BA m.bc v.g.tx.length w1 h1.blk rfl) ?_;rintro _ _ ⟨rfl,rfl⟩;refine Nd [] Qa (λw2=>w1=w2/\¬(1048576<v.g.tx.length+s.length∨(v.g.fr=true/\v.g.sg.length=65536))) ?_ ?_
 ·refine Qi ((v.g.tx.length+s.length:Nat):Int) (by rw[qU];omega) (by omega) ?_;refine Qy (λc1=>?_) (λc1=>?_)
  ·refine XO (W9 2 w1 h1) (λ_ _ hf=>hf.elim) ?_;rintro ch w2 ⟨rfl,Qg⟩;exact⟨PQ (.inl (by omega)),rfl,Qd.trans Qg⟩
  refine Qp h1.blk rfl ?_;refine Wn (λf1=>?_) (λf1=>?_)
  ·refine Qp h1.blk rfl ?_;refine Zh (λc2=>?_) (λc2=>?_)
   ·refine XO (W9 2 w1 h1) (λ_ _ hf=>hf.elim) ?_;rintro ch w2 ⟨rfl,Qg⟩;exact⟨PQ (.inr ⟨f1,by omega⟩),rfl,Qd.trans Qg⟩
   ·exact⟨rfl,rfl,by omega⟩
  ·exact⟨rfl,rfl,by rw[f1];intro hh;rcases hh with hh | ⟨hh,_⟩;omega;cases hh⟩
 rintro _ ⟨rfl,qO⟩;have lQd:=fQU (s:=s) (fl:=v.fl) (at_:=at_) (k:=o) (g:=v.g) qO;refine Nd [] Qa (Fj w0 w1 base p m {v with g:=⟨v.g.tx,if v.g.fr then v.g.sg++ [⟨v.g.tx.length,0,v.fl,at_,o⟩] else v.g.sg,false⟩}) ?_ ?_
 ·refine Qp h1.blk rfl ?_;refine Wn (λf1=>?_) (λf1=>?_)
  ·have f1:v.g.fr=true:=f1;have Di:v.g.sg.length<65536:=by
    rcases Nat.lt_or_ge v.g.sg.length 65536 with hh | hh
    ·exact hh
    ·exact Q8 (Or.inr ⟨f1,by omega⟩) qO
   have lD:=h.hi;have lz:¬RS p m w.heap.size:=λhh=>by have:=lD _ hh;omega
   have nrow:=h.nrow;refine XC Qa (Mod (Qj m.OA) w1) 18 [(true,0),(true,1),(true,2),(true,3),(true,4),(true,5),(true,6),(true,7),(true,8),(true,9),(true,10),(true,11),(false,12),(true,13),(false,14),(false,15),(true,16),(true,17)] (by kernel_rfl) (Mod.of_ext _ (Ext.drew w1)) ?_;refine QH (v:=.slice m.OA v.g.sg.length m.oc) (λw' Qb=>by rw[(h1.blk.mod Qb nrow.1).cell];rfl) ?_;refine QH (v:=.int .i64 v.fl) (λw' Qb=>by rw[(h1.blk.mod Qb nrow.1).cell];rfl) ?_;refine Xq (vs:=k.cells) rfl (λw' Qb j u hj=>by rw[(Qh.mod Qb (λhh=>lz (.inr (.inr (.inl hh))))).cell];exact hj) ?_;have hd:=Ext.drew w1;have Bs:=hk.ext Qd;refine call (fQQ p.nm.length hP.nmk k o w1.drew (Bs.sb.ext hd) Bs.st) ?_;rintro _ w2 ⟨x,rfl,Qg,GF,hxs,Dd⟩;have Xs:=hd.trans Qg;refine⟨Mod.of_ext _ Xs,?_⟩;refine XI Qa [mA (⟨v.g.tx.length,0,v.fl,at_,o⟩,x)] rfl rfl rfl rfl rfl ⟨rfl,rfl,⟨⟩⟩ rfl (λcs hh=>by simp only[QL] at hh;subst hh;rfl) rfl (by decide) (by decide) ?_;intro w3 Qk JI Qt;have XK:=Xs.trans Qk;refine⟨Mod.of_ext _ XK,?_⟩;have h3:=h1.ext XK;have pY:Sl w3 6 (some ⟨w2.heap.size,0,none⟩) 1 1 (mA (⟨v.g.tx.length,0,v.fl,at_,o⟩,x)):=Sl.own (sz:=6) (n:=1) Qt (QC _) (by decide) (by simp[mA]);refine JB Qa rfl rfl rfl rfl rfl (by decide) rfl rfl ⟨_,rfl⟩ rfl rfl h3.out pY (fQR _) (by unfold maxLen;omega) (by show(v.g.sg.length+1)*64<=_;omega) h3.top ?_;intro A' c' w4 X1 pZ Bt;refine⟨(Mod.of_ext (Qj m.OA) XK).trans X1 (λi hi=>.inl hi),?_⟩;refine XP (h3.blk.mod X1 nrow.1) (show 7<11 by decide) (λw5 XS QK=>?_);refine XP QK (show 8<11 by decide) (λw6 Ym Xo=>?_);have TO:Mod (·=p.r) w4 w6:=XS.trans Ym (λi hi=>.inl hi);have jQO:=h1.hiT;have xO:DgO w3 (TS p m) p.nm.length x o:=(DgO.new (S:=TS p m) GF hxs Dd (λi hi=>by have:=jQO i hi;have:=hd.size;omega)).ext Qk;have hx3:DgO w3 (TS p m) p.nm.length x (⟨v.g.tx.length,0,v.fl,at_,o⟩:Sg).o:=xO;rw[f1,Qf rfl];refine⟨rfl,⟨{m with OA:=A',oc:=c',L:=m.L++ [x]},rfl,h3.app ⟨v.g.tx.length,0,v.fl,at_,o⟩ x X1 pZ Bt TO hx3 Di rfl rfl rfl ?_,?_,Bt.back XK.size,Moved.refl _ _⟩⟩
   ·have e:(v.g.sg++ [(⟨v.g.tx.length,0,v.fl,at_,o⟩:Sg)]).length=v.g.sg.length+1:=by simp
    show Blk w6 p.r 157 [.slice p.NA p.nn p.nc,.slice p.FA p.nf p.cf,.map (some p.nq),.map (some p.q),.int .i64 v.d,m.pa,.slice m.BA v.g.tx.length m.bc,.slice A' (v.g.sg++ [(⟨v.g.tx.length,0,v.fl,at_,o⟩:Sg)]).length c',.bool false,.int .i64 v.fl,.int .i64 v.ln];rw[e];exact Xo
   ·exact((Mod.of_ext (RS p m) XK).trans X1 (λi hi=>.inl (.inr (.inr (.inl hi))))).trans TO (λi hi=>.inl (.inl hi))
  ·have f1:v.g.fr=false:=f1;have e:({v with g:=⟨v.g.tx,if v.g.fr then v.g.sg++ [⟨v.g.tx.length,0,v.fl,at_,o⟩] else v.g.sg,false⟩}:RV)=v:=by
    obtain⟨d,fl,ln,rd,⟨tx,sg,fr⟩⟩:=v;simp only at f1;subst f1;rfl
   rw[e];exact⟨rfl,m,rfl,h1,Mod.refl _ _,Moved.refl _ _,Moved.refl _ _⟩
 rintro w2 ⟨m2,Wb,h2,XQ,J2,AZ⟩;generalize lQT:(if v.g.fr then v.g.sg++ [(⟨v.g.tx.length,0,v.fl,at_,o⟩:Sg)] else v.g.sg)=YT at*;have QQ:YT≠ []:=(h2.nf rfl).resolve_right lQc;have J3:=h2.sl;simp only at J3;obtain⟨l',s0,L',x0,e1,e2,e3⟩:=fQW (l:=YT) h2.len QQ;have iX:0<YT.length:=yO.2 QQ;obtain⟨oa,Vx,_⟩:=h2.out.sl.at_ iX;have Vx:m2.OA=some oa:=Vx;have lQe:vF 157 (kj p m2 {v with g:=⟨v.g.tx,YT,false⟩}).length 5:=by rw[show(kj p m2 {v with g:=⟨v.g.tx,YT,false⟩}).length=11 from rfl];exact fQV
 refine call (fQm base p.r 157 5 m2.pa (kj p m2 {v with g:=⟨v.g.tx,YT,false⟩}) m2.BA m2.bc v.g.tx (Qe s) w2 lQe (show 6<11 by decide) h2.pa h2.blk rfl rfl h2.txt h2.rb h2.top (by rw[qU];omega)) ?_;rintro _ w3 ⟨B',b',Qt,wN,XD,am⟩;rw[qU,Wp h8] at wN;rw[qU] at Qt;have TP:=h2.nrow;have TR:Own w3 base 48 6 m2.OA YT.length m2.oc (cg YT m2.L):=h2.out.mod XD (λi hi hj=>by
  rcases hj with rfl | hj
  ·exact TP.1 hi
  ·exact h2.out.apart h2.txt (by decide) hi hj)
 have hd:=Ext.drew w3;have TT:=Qt.ext hd;refine oY Qa 16 (by kernel_rfl) ?_;refine QH (v:=.slice m2.OA YT.length m2.oc) (λw' Qb=>by subst Qb;rw[TT.cell];rfl) ?_;refine QH (v:=.slice m2.OA YT.length m2.oc) (λw' Qb=>by subst Qb;rw[TT.cell];rfl) ?_;refine Qi ((YT.length-1:Nat):Int) (by omega) (by omega) ?_;refine Qi ((v.g.tx.length+s.length:Nat):Int) (by rw[qU];omega) (by omega) ?_;rw[Vx];refine JO (j:=YT.length-1) (by omega) ?_;have TU:=TR.ext hd;rw[Vx] at TU;have ZO:YT.length=l'.length+1:=by rw[e1];simp
 show gc _ ((oa.add ((YT.length-1)*6)).add 1) _ _;rw[add_add];refine PP TU iX (by omega) (λw4 X1 Hw=>?_);have QE:(cg YT m2.L).set ((YT.length-1)*6+1) (.int .i64 ((v.g.tx.length+s.length:Nat):Int))=cg (my (v.g.tx.length+s.length) YT) m2.L:=by
  have e:(l'++ [s0]).length-1=l'.length:=by simp
  rw[e1,e2,kc,e,fQS e3]
 rw[QE] at Hw;have wO:(my (v.g.tx.length+s.length) YT).length=YT.length:=by rw[e1,kc];simp
 have wQ:Mod (Qj m2.OA) w3 w4:=by rw[Vx];exact(Mod.of_ext _ hd).trans X1 (λi hi=>.inl hi)
 have lQf:∀i,Qj B' i->¬Qj m2.OA i:=λi hi hj=>TR.apart wN (by decide) hj hi
 have hall:Mod (RS p m2) w2 w4:=(XD.mono (S':=RS p m2) (λi hi=>by
   rcases hi with rfl | hi
   ·exact .inl (.inl rfl)
   ·exact .inl (.inr (.inr (.inr hi))))).trans wQ (λi hi=>.inl (.inr (.inr (.inl hi))))
 have JI:=XD.size;have KY:=wQ.size;have lQU:=h2.top;refine⟨_,lQd,{m2 with BA:=B',bc:=b',pa:=.pointer (some (JQ p.r 5))},Wb,⟨hall.ext h2.e0 h2.lo,h2.lor,h2.loq,h2.rb,h2.qb,h2.ne,by omega,.inr rfl,?_,?_,?_,?_,?_,?_,?_,?_,?_,λ_=>?_,λi hi=>VQ (h2.tt i hi) (by omega)⟩,?_,?_,?_⟩
 all_goals try simp only
 ·have e:(v.g.tx++s).length=v.g.tx.length+s.length:=by simp
  show Blk w4 p.r 157 [.slice p.NA p.nn p.nc,.slice p.FA p.nf p.cf,.map (some p.nq),.map (some p.q),.int .i64 v.d,.pointer (some (JQ p.r 5)),.slice B' (v.g.tx++s).length b',.slice m2.OA (my (v.g.tx.length+s.length) YT).length m2.oc,.bool false,.int .i64 v.fl,.int .i64 v.ln];rw[e,wO];exact Qt.mod wQ TP.1
 ·rw[Qu];exact wN.mod wQ lQf
 ·rw[wO];rw[<-Vx] at Hw;exact Hw
 ·rw[wO];exact h2.len
 ·intro j s1 x1 bF ei;have QX:=TS.moved (p:=p) (m:=m2) (m':={m2 with BA:=B',bc:=b',pa:=.pointer (some (JQ p.r 5))}) rfl (Moved.refl w2 m2.OA) am;have key:∃s2,YT[j]? =some s2/\s2.o=s1.o:=by
   rw[e1,kc] at bF;rw[e1];rcases pq bF with⟨hj,bF⟩ | ⟨hj,bF⟩
   ·exact⟨s1,by rw[Wh hj];exact bF,rfl⟩
   ·obtain⟨h0,rfl⟩:=j6 bF;exact⟨s0,by rw[YI hj,h0];rfl,rfl⟩
  obtain⟨s2,kG,lB⟩:=key;rw[<-lB];exact(h2.dgs j s2 x1 kG ei).step (hall.mono (λi hi=>.inl (.inl hi))) QX
 ·obtain⟨mp,k1,k2⟩:=h2.rdm;refine⟨mp,(k1.mod XD (λhj=>?_)).mod wQ (k1.apart h2.out),k2⟩;rcases hj with e | hj
  ·exact h2.ne e.symm
  ·exact k1.apart h2.txt hj
 ·rw[Qu];omega
 ·rw[wO];exact J3
 ·exact fQT h.b8 h8
 ·exact .inl (by rw[<-yO,wO];exact iX)
 ·exact(((Mod.of_ext (RS p m) Qd).trans XQ (λi hi=>.inl hi)).trans hall (λi hi=>by
   rcases RS.moved (p:=p) J2 AZ i hi with hh | hh
   ·exact .inl hh
   ·exact .inr (by have:=Qd.size;omega)))
 ·exact J2.back Qd.size
 ·exact(AZ.trans am XQ.size).back Qd.size
end
end
section
theorem Rr.modT {w0 w w':World}{base:Nat}{p:RP}{m:RM}{v:RV}{U T':Nat->Prop}(h:Rr w0 w base p m v)(hm:Mod U w w')(hU:∀i,U i->m.T i)(av:∀i,U i->¬RS p m i)(ik:∀i,U i->w0.heap.size<=i)(hT:∀i,T' i->m.T i∨w.heap.size<=i)(Xc:∀i,T' i->i<w'.heap.size):
  Rr w0 w' base p {m with T:=T'} v:=
 ⟨hm.ext h.e0 ik,h.lor,h.loq,h.rb,h.qb,h.ne,Zf h.top hm.size,h.pa,h.blk.mod hm (λhu=>av _ hu (.inl rfl)),h.txt.mod hm (λi hi hu=>av _ hu (.inr (.inr (.inr hi)))),h.out.mod hm (λi hi hu=>av _ hu (.inr (.inr (.inl hi)))),h.len,
  λj s x h1 h2=>(h.dgs j s x h1 h2).step (hm.mono (λi hi=>.inl (.inr (hU i hi)))) (λi hi=>hi.elim (λhr=>.inl (.inl hr)) (λht=>(hT i ht).elim (λh=>.inl (.inr h)) .inr)),
  let ⟨mp,h1,h2⟩:=h.rdm;⟨mp,h1.mod hm (λhu=>av _ hu (.inr (.inl rfl))),h2⟩,h.tl,h.sl,h.b8,h.nf,Xc⟩
theorem fQX {j m:Nat}{vs l:List Value}(h:j+vs.length<=m)(hm:m<=l.length):(KV j vs l).take m=KV j vs (l.take m):=by
 have hx:(l.take m).length=m:=by rw[Ye];omega
 rw[iF j vs l (by omega),iF j vs (l.take m) (by omega)];rw[rx,rx,Qu,Ye];rw[yP,Jm (l:=vs) (by omega),yP];rw[show min m j=j by omega,show min j m=j by omega,f9];congr 2;omega
theorem Fl {P:Program}{w:World}{base e sz n c j:Nat}{a:Addr}{xs vs:List Value}{K:World->Prop}(h:Own w base e sz (some a) n c xs)(hj:j+vs.length<=n*sz)(fO:∀u∈vs,Jz u=true)
  (k:∀w1,Mod (Qj (some a)) w w1->Own w1 base e sz (some a) n c (KV j vs xs)->K w1):jz P w (a.add j) vs K:=by
 have hr:=h.row;have Xd:=hr.1;rcases hr.2 with⟨hv,_⟩ | ⟨g,cap,ZD,hv,hb,hg,lu,cB,Zc,qK⟩
 ·cases hv
 ·cases hv;have hB:Blk w g e ZD.toList:=by unfold Blk;rw[hg]
  have jm:ZD.toList.length=c*sz:=by simpa using Zc
  have h2:n*sz<=c*sz:=Y1 _ lu;refine jM hB (by omega) fO (λw1 hm _ Qh=>k w1 (mQW hm ⟨_,rfl,rfl⟩) ⟨⟨by rw[Ng _ _ _ (by omega)];exact Xd,.inr ⟨g,c,(KV j vs ZD.toList).toArray,rfl,hb,Qh,lu,cB,?_,?_⟩⟩⟩)
  ·have:=Ng j vs ZD.toList (by omega);simp only[List.size_toArray];omega
  ·have ht:ZD.toList.take (n*sz)=xs:=qK;show((KV j vs ZD.toList).toArray.toList).take (n*sz)=_;rw[<-ht,<-fQX hj (by omega)]
theorem PS {w:World}{base e sz n c o i:Nat}{a:Addr}{xs:List Value}{u:Value}{K:Value->Prop}(h:Own w base e sz (some a) n c xs)(hn:0<n)(hv:xs[o+i]? =some u)(k:K u):gb w ((a.add o).add i) K:=by
 obtain⟨ad,e1,hc⟩:=h.sl.at_ hn;cases e1;exact load (by rw[add_add];exact hc _ _ hv) k
theorem vM {w:World}{base e sz n c o i:Nat}{a:Addr}{xs:List Value}{u:Value}(h:Own w base e sz (some a) n c xs)(hn:0<n)(hv:xs[o+i]? =some u):w.cell? ((a.add o).add i)=some u:=by
 obtain⟨ad,e1,hc⟩:=h.sl.at_ hn;cases e1;rw[add_add];exact hc _ _ hv
structure SeV where
 s:Se
 x:DV
 y:DV
def SeV.cells (z:SeV):List Value:=[.slice z.x.A z.x.n z.x.c,.int .i64 z.x.r,.slice z.y.A z.y.n z.y.c,.int .i64 z.y.r,.bool z.s.ot,.int .i64 z.s.ln]
theorem fQY (z:SeV):z.cells.length=6:=rfl
theorem fQZ (z:SeV):∀u∈z.cells,Jz u=true:=sc rfl
abbrev WA:TypeId:=232
theorem vN {pre:List Value}{z:SeV}{i:Nat}{u:Value}(h:z.cells[i]? =some u):(pre++z.cells)[pre.length+i]? =some u:=by rw[YI (by omega)];rw[show pre.length+i-pre.length=i by omega];exact h
theorem fQ0 {pre:List Value}{z:SeV}{i:Nat}{u:Value}:(pre++z.cells).set (pre.length+i) u=pre++z.cells.set i u:=by rw[List.set_append_right _ _ (by omega)];rw[show pre.length+i-pre.length=i by omega]
theorem PU (vs:List Value)(i:Nat)(z:List Value):∀(pre:List Value),KV (pre.length+i) vs (pre++z)=pre++KV i vs z
 | []=>by simp
 | a::pre=>by
  rw[Xj,show pre.length+1+i=(pre.length+i)+1 by omega];show a::KV (pre.length+i) vs (pre++z)=_;rw[PU vs i z pre]<;>rfl
section
variable {w0:World} {base:Nat} {p:RP}
def fQ1 (w:World)(k:Nat)(nm:List (List Nat))(base n c:Nat)(a:Addr)(pre:List Value)(z:SeV)(q7:Bool)(s:List Nat)(u:Value)(w':World):Prop:=
 z.s.ot=false/\Mod (Qj (some a)) w w'/\if q7 then u=Xm z.y.A z.y.n z.y.c z.y.r/\Own w' base WA 6 (some a) n c (pre++(⟨{z.s with ot:=true},z.x,z.y⟩:SeV).cells)
  else∃(o:BF) (b d:DV),Yu nm s= .ok o/\u=Xm b.A b.n b.c b.r/\SB w' b.A b.n b.c b.nd/\Set1 k b.nd b.r (JE z.s.re o)/\(∀i,Qj b.A i->w.heap.size<=i)/\SB w' d.A d.n d.c d.nd/\Set1 k d.nd d.r (Yk z.s.re o)/\(∀i,Qj d.A i->w.heap.size<=i)/\
   Own w' base WA 6 (some a) n c (pre++(⟨{z.s with re:=Yk z.s.re o},z.x,d⟩:SeV).cells)
theorem PV (m:RM)(v:RV)(a:Addr)(n c:Nat)(pre:List Value)(z:SeV)(q7:Bool)(s:List Nat)(w:World)(hP:RPok w0 p)(h:Rr w0 w base p m v)(ho:Own w base WA 6 (some a) n c (pre++z.cells))(hT:∀i,Qj (some a) i->m.T i)(ug:pre.length+6=n*6)
  (hy:DgO w (TS p m) p.nm.length z.y z.s.re) (h8:∀x∈s,x<256) (hl:s.length<=1000000000000) (gQ:w0.heap.size<=base):
  FnP Tryz.prog 149 [.pointer (some ⟨p.r,0,none⟩),.pointer (some (a.add pre.length)),.bool q7,.string (Qe s)] w (fQ1 w p.nm.length p.nm base n c a pre z q7 s)
   (λch w'=>∃e,(z.s.ot=true/\e=71∨z.s.ot=false/\q7=false/\Yu p.nm s= .error e)/\ch=fy e v.fl v.ln/\Mod (Qj (some a)) w w'):=by
 have iX:0<n:=by omega
 have YY:Qj (some a) a.block:=⟨a,rfl,rfl⟩
 have av:∀i,Qj (some a) i->¬RS p m i:=λi hi hr=>by
  have hb:=(ho.rows i hi).1;have:=h.rb;have:=h.qb;rcases hr with rfl | rfl | hr | hr
  ·omega
  ·omega
  ·exact ho.apart h.out (by decide) hi hr
  ·exact ho.apart h.txt (by decide) hi hr
 have ik:∀i,Qj (some a) i->w0.heap.size<=i:=λi hi=>by have:=(ho.rows i hi).1;omega
 refine aB (c:={cQt with cuts:=[]}) Qa Tryz.func149 rfl rfl rfl ?_;refine new (λw1 Qd Q3 Qh=>?_);have dq:=ho.ext Qd;have h1:=h.ext Qd;refine PS dq iX (vN (i:=4) (u:=.bool z.s.ot) rfl) ?_;refine Wn (λht=>?_) (λht=>?_)
 ·refine XO (W9 71 w1 h1) (λ_ _ hf=>hf.elim) ?_;rintro ch w2 ⟨rfl,Qg⟩;exact⟨71,.inl ⟨ht,rfl⟩,rfl,Mod.of_ext _ (Qd.trans Qg)⟩
 have ht:z.s.ot=false:=ht;have yget:∀(i:Nat) (u:Value),z.y.cells[i]? =some u->z.cells[2+i]? =some u:=λi u hi=>match i,hi with
  | 0,hi=>hi
  | 1,hi=>hi
  | _+2,hi=>nomatch hi
 refine Kr (vs:=z.y.cells) rfl (λi u hi=>?_) ?_
 ·show w1.cell? (((a.add pre.length).add 2).add i)=some u;rw[add_add];exact vM dq iX (vN (yget i u hi))
 refine new (λw2 Qg Zb Qw=>?_);have fE:=dq.ext Qg;have h2:=h1.ext Qg;refine Qz Qw rfl (sc rfl) (λw3 ZY JI Qt=>?_);have XK:Ext w1 w3:=X9 Qg Qw ZY;have wN:=dq.ext XK;have h3:=h1.ext XK;show gc w3 ((a.add pre.length).add 4) _ _;rw[add_add];refine PP wN iX (by omega) (λw4 X1 wS=>?_);rw[fQ0] at wS;have wS:Own w4 base WA 6 (some a) n c (pre++(⟨{z.s with ot:=q7},z.x,z.y⟩:SeV).cells):=wS;have QW:=Qd.trans XK;have aK:Mod (Qj (some a)) w w4:=(Mod.of_ext _ QW).trans X1 (λi hi=>.inl hi);have h4:Rr w0 w4 base p m v:=h3.modT X1 hT av ik (λi hi=>.inl hi) (λi hi=>VQ (h3.tt i hi) X1.size);have Bu:¬Qj (some a) w.heap.size:=λhi=>by have:=(ho.rows _ hi).2;omega
 have Hx:¬Qj (some a) w1.heap.size:=λhi=>by have:=(ho.rows _ hi).2;omega
 have Hy:=XK.size;have JU:=(Qh.ext XK).mod X1 Bu;have iY:=Qt.mod X1 Hx;have KY:=X1.size;cases q7 with
 | true=>
  refine Q5 rfl ?_;refine Qs iY rfl ?_;refine Qz JU rfl (sc rfl) (λw5 Jw _ QK=>?_);have Z1:Mod (·=w.heap.size) w4 w5:=mQW Jw rfl;refine Qs QK rfl ?_;exact⟨ht,aK.trans Z1 (λi hi=>.inr (by omega)),rfl,wS.mod Z1 (λi hi e=>by subst e;exact Bu hi)⟩
 | false=>
  refine Xa rfl ?_;have Kq:z.cells=(⟨{z.s with ot:=false},z.x,z.y⟩:SeV).cells:=by
   obtain⟨⟨ou,re,ot,ln⟩,x,y⟩:=z;simp only at ht;subst ht;rfl
  have hoC:∀w',Mod (·=w1.heap.size) w4 w'->Own w' base WA 6 (some a) n c (pre++z.cells):=λw' Qb=>by
   rw[Kq];exact wS.mod Qb (λi hi e=>by subst e;exact Hx hi)
  refine fQA Qa (λch w'=>∃e,(z.s.ot=true/\e=71∨z.s.ot=false/\false=false/\Yu p.nm s= .error e)/\ch=fy e v.fl v.ln/\Mod (Qj (some a)) w w') (λch S w' hp=>hp) (Mod (·=w1.heap.size) w4) 14 [(true,0),(true,1),(true,2),(true,3),(true,4),(true,5),(true,6),(true,7),(false,8),(false,9),(true,10),(true,11),(true,12),(false,13)] (by kernel_rfl) (Mod.of_ext _ (Ext.drew w4)) ?_;refine Xq (vs:=z.y.cells) rfl (λw' Qb i u hi=>?_) ?_
  ·show w'.cell? (((a.add pre.length).add 2).add i)=some u;rw[add_add];exact vM (hoC w' Qb) iX (vN (yget i u hi))
  have hd:=Ext.drew w4;refine XO (PL s w4.drew hP (h4.ext hd) h8 hl) ?_ ?_
  rotate_left
  ·rintro ch w5 ⟨e,he,rfl,Qv⟩;exact⟨e,.inr ⟨ht,rfl,he⟩,rfl,aK.trans (Mod.of_ext _ (hd.trans Qv)) (λi hi=>.inl hi)⟩
  rintro _ w5 ⟨o,he,t,rfl,Qv,ht5,fL,Dg⟩;have an:=hd.trans Qv;have Hv:SB w4 z.y.A z.y.n z.y.c z.y.nd:=SB.modo (hy.sb.ext QW) X1 (λad e h0 hi=>hy.off ad e h0 (.inr (hT _ hi)));refine⟨Mod.of_ext _ an,?_⟩;refine call (PM p.nm.length hP.nmk z.y t z.s.re o w5 (Hv.ext an) hy.st ht5 fL) ?_;rintro _ w6 ⟨b,d,rfl,Xh,hb6,ya,oe,hd6,ii,bO⟩;have Xz:=an.trans Xh;have TI:=Xz.size;have TF:=an.size;refine⟨Mod.of_ext _ Xz,?_⟩;refine Qz (iY.ext Xz) rfl (sc rfl) (λw7 Zu _ Q6=>?_);have Xb:Mod (·=w1.heap.size) w6 w7:=mQW Zu rfl;have tz:Mod (·=w1.heap.size) w4 w7:=(Mod.of_ext _ Xz).trans Xb (λi hi=>.inl hi);refine⟨tz,?_⟩;have Hz:=hoC w7 tz;show jz _ w7 ((a.add pre.length).add 2) _ _;rw[add_add];refine Fl Hz (by show pre.length+2+2<=_;omega) (sc rfl) (λw8 JH Bv=>?_);rw[PU] at Bv;have Bv:Own w8 base WA 6 (some a) n c (pre++(⟨{z.s with re:=Yk z.s.re o},z.x,d⟩:SeV).cells):=Bv;have jQP:=Q6.mod JH Hx;refine Qs jQP rfl ?_;have qd:=((JU.ext Xz).mod Xb (by show¬w.heap.size=w1.heap.size;omega)).mod JH Bu;refine Qz qd rfl (sc rfl) (λw9 eC _ JT=>?_);have Ze:Mod (·=w.heap.size) w8 w9:=mQW eC rfl;refine Qs JT rfl ?_;have lQV:=aK.size;have keep:∀x:DV,(∀i,Qj x.A i->w5.heap.size<=i)->SB w6 x.A x.n x.c x.nd->SB w9 x.A x.n x.c x.nd:=λx hr hx=>
   SB.mod (SB.mod (SB.mod hx Xb (λi hi e=>by have:=hr i hi;omega)) JH (λi hi hj=>by have:=hr i hi;have:=(ho.rows i hj).2;omega)) Ze (λi hi e=>by have:=hr i hi;omega)
  have hall:Mod (Qj (some a)) w w9:=((aK.trans tz (λi hi=>.inr (by omega))).trans JH (λi hi=>.inl hi)).trans Ze (λi hi=>.inr (by omega));refine⟨ht,hall,o,b,d,he,rfl,keep b oe hb6,ya,λi hi=>by have:=oe i hi;omega,keep d bO hd6,ii,λi hi=>by have:=bO i hi;omega,Bv.mod Ze (λi hi e=>by subst e;exact Bu hi)⟩
end
end
end
section
section
theorem fQ2 (l:List Nat)(w:World)(hl:∀x∈l,x<256)(Xd:l.length<=1000000000000):
  Fn Tryz.prog 143 [.string (Qe l),.string (Qe [32])] w (λv w'=>v= .tuple #[.string (Qe (JF l)),.string (Qe (if 32∈l then Vb l else [])),.bool (decide (32∈l))]/\Ext w w'):=
 (fQu l w hl Xd).mono λv w' h=>by
  obtain⟨h1,h2⟩:=h;refine⟨?_,h2⟩;rw[h1];by_cases hm:32∈l
  ·rw[Qf hm,Qf hm,XR hm]
  ·rw[if_neg hm,if_neg hm,X4 hm,Fa hm]
section
variable {nm:List (List Nat)} {fl d0:Nat} {inc:List Nat->Nat->Nat->BF->Gs->Except Pl Gs} {s:List Nat} {ls:List (List Nat)} {ln at_:Nat} {k:BF} {op:List Se} {g:Gs} {r:List Nat}
theorem Fo (h:ZN s= .ifd r):ZS nm fl d0 inc (s::ls) ln at_ k op g=match Yu nm r with
   | .error e=>.error ⟨e,fl,((ln+1:Nat):Int)⟩
   | .ok d=>if d0+op.length=64 then .error ⟨2,fl,((ln+1:Nat):Int)⟩else ZS nm fl d0 inc ls (ln+1) (at_+s.length+1) (JE k d) (⟨k,Yk k d,false,ln+1⟩::op) {g with fr:=true}:=by
 rw[ZS.eq_def];simp only[h]<;>rfl
theorem Am (h:ZN s= .inc r):ZS nm fl d0 inc (s::ls) ln at_ k op g=match inc r (ln+1) (d0+op.length) k g with
   | .error p=>.error p
   | .ok g'=>ZS nm fl d0 inc ls (ln+1) (at_+s.length+1) k op {g' with fr:=true}:=by
 rw[ZS.eq_def];simp only[h]<;>rfl
theorem Fp (h:ZN s= .elif r):ZS nm fl d0 inc (s::ls) ln at_ k op g=match op with
   | []=>.error ⟨72,fl,((ln+1:Nat):Int)⟩
   | x::aT=>if x.ot then .error ⟨71,fl,((ln+1:Nat):Int)⟩else match Yu nm r with
    | .error e=>.error ⟨e,fl,((ln+1:Nat):Int)⟩
    | .ok d=>ZS nm fl d0 inc ls (ln+1) (at_+s.length+1) (JE x.re d) ({x with re:=Yk x.re d}::aT) {g with fr:=true}:=by
 rw[ZS.eq_def];simp only[h]<;>rfl
theorem Fq (h:ZN s= .els):ZS nm fl d0 inc (s::ls) ln at_ k op g=match op with
   | []=>.error ⟨72,fl,((ln+1:Nat):Int)⟩
   | x::aT=>if x.ot then .error ⟨71,fl,((ln+1:Nat):Int)⟩else ZS nm fl d0 inc ls (ln+1) (at_+s.length+1) x.re ({x with ot:=true}::aT) {g with fr:=true}:=by
 rw[ZS.eq_def];simp only[h]<;>rfl
theorem PW (h:ZN s= .en):ZS nm fl d0 inc (s::ls) ln at_ k op g=match op with
   | []=>.error ⟨72,fl,((ln+1:Nat):Int)⟩
   | x::aT=>ZS nm fl d0 inc ls (ln+1) (at_+s.length+1) x.ou aT {g with fr:=true}:=by
 rw[ZS.eq_def];simp only[h]<;>rfl
theorem mB (h:ZN s= .txt):ZS nm fl d0 inc (s::ls) ln at_ k op g=match VZ (s++ [10]) fl at_ k g with
   | none=>.error ⟨2,fl,((ln+1:Nat):Int)⟩
   | some g'=>ZS nm fl d0 inc ls (ln+1) (at_+s.length+1) k op g':=by
 rw[ZS.eq_def];simp only[h]<;>rfl
end
theorem Own.take {w:World}{base e sz n c k:Nat}{A:Option Addr}{cs:List Value}(h:Own w base e sz A n c cs)(hk:k<=n):Own w base e sz A k c (cs.take (k*sz)):=by
 have hr:=h.row;have hl:=hr.1;have Xl:k*sz<=n*sz:=Y1 _ hk;refine⟨⟨by rw[Ye];omega,?_⟩⟩;rcases hr.2 with⟨hv,hx⟩ | ⟨g,cap,ZD,hv,hb,hg,lu,cB,Zc,qK⟩
 ·cases hv;obtain rfl:k=0:=by omega
  exact .inl ⟨rfl,by simp⟩
 ·cases hv;refine .inr ⟨g,c,ZD,rfl,hb,hg,by omega,cB,Zc,?_⟩;have ht:ZD.toList.take (n*sz)=cs:=qK;rw[<-ht,yP,oH Xl]
theorem Fr {ix:List Nat->Option Nat}{rd s:List Nat}{n:Nat}(h:cY ix rd s= .ok n):n∉rd/\∃t,ix t=some n:=by
 unfold cY at h;split at h
 ·cases h
 split at h
 ·cases h
 ·rename_i m hm;split at h
  ·cases h
  ·rename_i hn;cases h;exact⟨hn,_,hm⟩
structure LS where
 k:DV
 o:BF
 z:List SeV
 m:RM
 g:Gs
 ln:Nat
 at_:Nat
 ls:List (List Nat)
 A:Option Addr
 c:Nat
def V3 (z:List SeV):List Value:=z.flatMap SeV.cells
theorem An (z:List SeV):(V3 z).length=z.length*6:=cQ fQY z
theorem mC (z:List SeV)(x:SeV):V3 (z++ [x])=V3 z++x.cells:=by simp[V3]
def Jh (p:RP)(m:RM)(A:Option Addr)(bk:Nat):Nat->Prop:=λi=>RS p m i∨Qj A i∨i=bk
abbrev pz:=List Nat->Nat->Nat->BF->Gs->Except Pl Gs
structure FrI (w0 w:World) (base:Nat) (p:RP) (m:RM) (v:RV) (n bk:Nat) (text:List Nat) (inc:pz) (res:Except Pl Gs) (s:LS) (w':World):Prop where
 rr:Rr w0 w' base p s.m ⟨v.d+s.z.length,n,s.ln,n::v.rd,s.g⟩
 tt:s.m.T=λi=>m.T i∨Qj s.A i∨i=bk
 kb:Blk w' bk 32 s.k.cells
 kd:DgO w' (TS p s.m) p.nm.length s.k s.o
 ow:Own w' base WA 6 s.A s.z.length s.c (V3 s.z)
 zx:∀z∈s.z,DgO w' (TS p s.m) p.nm.length z.x z.s.ou
 zy:∀z∈s.z,DgO w' (TS p s.m) p.nm.length z.y z.s.re
 dr:text.drop s.at_=Qo s.ls
 al:s.at_+(Qo s.ls).length=text.length
 li:dU s.ls
 rs:ZS p.nm n v.d inc s.ls s.ln s.at_ s.o (s.z.reverse.map (·.s)) s.g=res
 mw:Mod (RS p m) w w'
 ma:Moved w m.OA s.m.OA
 mb:Moved w m.BA s.m.BA
 nw:∀i,Qj s.A i->w.heap.size<=i
 dl:v.d+s.z.length<=64
 lb:s.ln+s.ls.length<=1048576
section
variable {w0 w w' K6:World} {base:Nat} {p:RP} {m:RM} {v:RV} {n bk:Nat} {text:List Nat} {inc:pz} {res:Except Pl Gs} {s s':LS}
theorem FrI.sub (h:FrI w0 w base p m v n bk text inc res s w'):∀i,Jh p s.m s.A bk i->TS p s.m i:=λi hi=>by
 rcases hi with hi | hi | hi
 ·exact .inl hi
 ·exact .inr (by rw[h.tt];exact .inr (.inl hi))
 ·exact .inr (by rw[h.tt];exact .inr (.inr hi))
theorem FrI.kp (h:FrI w0 w base p m v n bk text inc res s w')(hm:Mod (Jh p s.m s.A bk) w' K6)(tt:s'.m.T=λi=>m.T i∨Qj s'.A i∨i=bk)(hA:Moved w' s.A s'.A)(hO:Moved w' s.m.OA s'.m.OA)(hB:Moved w' s.m.BA s'.m.BA){x:DV}{o:BF}(hx:DgO w' (TS p s.m) p.nm.length x o):DgO K6 (TS p s'.m) p.nm.length x o:=
 hx.step (hm.mono (λi hi=>.inl (h.sub i hi))) (λi hi=>by
  rcases hi with hi | hi
  ·rcases RS.moved (p:=p) hO hB i hi with h1 | h1
   ·exact .inl (.inl h1)
   ·exact .inr h1
  ·rw[tt] at hi;rcases hi with hi | hi | hi
   ·exact .inl (.inr (by rw[h.tt];exact .inl hi))
   ·rcases hA.rows i hi with h1 | h1
    ·exact .inl (.inr (by rw[h.tt];exact .inr (.inl h1)))
    ·exact .inr h1
   ·exact .inl (.inr (by rw[h.tt];exact .inr (.inr hi))))
theorem FrI.mw' (h:FrI w0 w base p m v n bk text inc res s w')(ji:w.heap.size<=bk)(hm:Mod (Jh p s.m s.A bk) w' K6):Mod (RS p m) w K6:=
 h.mw.trans hm (λi hi=>by
  rcases hi with hi | hi | hi
  ·exact RS.moved (p:=p) h.ma h.mb i hi
  ·exact .inr (h.nw i hi)
  ·exact .inr (by omega))
theorem FrI.go (h:FrI w0 w base p m v n bk text inc res s w')(ji:w.heap.size<=bk)(hm:Mod (Jh p s.m s.A bk) w' K6)(rr:Rr w0 K6 base p s'.m ⟨v.d+s'.z.length,n,s'.ln,n::v.rd,s'.g⟩)(tt:s'.m.T=λi=>m.T i∨Qj s'.A i∨i=bk)(hA:Moved w' s.A s'.A)(hO:Moved w' s.m.OA s'.m.OA)(hB:Moved w' s.m.BA s'.m.BA)
  (kb:Blk K6 bk 32 s'.k.cells) (kd:DgO K6 (TS p s'.m) p.nm.length s'.k s'.o) (ow:Own K6 base WA 6 s'.A s'.z.length s'.c (V3 s'.z)) (zx:∀z∈s'.z,DgO K6 (TS p s'.m) p.nm.length z.x z.s.ou) (zy:∀z∈s'.z,DgO K6 (TS p s'.m) p.nm.length z.y z.s.re)
  {l:List Nat} (KC:s.ls=l::s'.ls) (dE:s'.at_=s.at_+l.length+1) (rs:ZS p.nm n v.d inc s'.ls s'.ln s'.at_ s'.o (s'.z.reverse.map (·.s)) s'.g=res) (dl:v.d+s'.z.length<=64) (jo:s'.ln=s.ln+1):FrI w0 w base p m v n bk text inc res s' K6:=by
 have bO:=h.dr;have KU:=h.al;have up:=h.lb;have yb:=h.li;rw[KC,Wu] at bO KU;rw[KC] at up yb;have hz:=h.mw.size;refine⟨rr,tt,kb,kd,ow,zx,zy,?_,?_,λt ht=>yb t (by simp[ht]),rs,h.mw' ji hm,h.ma.trans hO hz,h.mb.trans hB hz,λi hi=>?_,dl,?_⟩
 ·rw[dE,show s.at_+l.length+1=s.at_+(l.length+1) by omega,<-oG,bO,<-oG,List.drop_left' rfl]<;>rfl
 ·rw[dE];simp only[Qu,Xj] at KU;omega
 ·rcases hA.rows i hi with h1 | h1
  ·exact h.nw i h1
  ·omega
 ·rw[jo];simp only[Xj] at up;omega
theorem FrI.line (h:FrI w0 w base p m v n bk text inc res s w')(ht:text.length<=1048576){l:List Nat}{ls:List (List Nat)}(KC:s.ls=l::ls):10∉l/\s.at_+l.length+1<=text.length/\text.drop s.at_=l++10::Qo ls/\(text.drop s.at_).take l.length=l/\(text.drop s.at_).take (l.length+1)=l++ [10]:=by
 have bO:=h.dr;have KU:=h.al;have yb:=h.li;have _:=ht;rw[KC,Wu] at bO KU;rw[KC] at yb;simp only[Qu,Xj] at KU;refine⟨yb l (by simp),by omega,bO,by rw[bO];exact List.take_left' rfl,?_⟩;rw[bO,show l++10::Qo ls=(l++ [10])++Qo ls by simp];exact List.take_left' (by simp)
theorem Rr.putq (h:Rr w0 w base p m v){v':RV}(hm:Mod (λi=>i=p.r∨i=p.q) w w')(hB:Blk w' p.r 157 (kj p m v'))(h1:v'.g.tx=v.g.tx)(h2:v'.g.sg=v.g.sg)(h4:v'.g.fr=false->v'.g.sg≠ []∨v'.rd=[])
  (hq:∃mp,MapAt aE w' p.q mp/\(mp.map (·.1)).Nodup/\∀n:Nat,Xv (n:Int) mp=if n∈v'.rd then some (.bool true)else none):Rr w0 w' base p m v':=by
 have hE:=hm.ext h.e0 (λi hi=>by rcases hi with rfl | rfl;exact h.lor;exact h.loq);have eD:=h.rb;have hb2:=h.qb;refine⟨hE,h.lor,h.loq,h.rb,h.qb,h.ne,Zf h.top hm.size,h.pa,hB,?_,?_,by rw[h2];exact h.len,λj s x hs hx=>?_,hq,by rw[h1];exact h.tl,by rw[h2];exact h.sl,by rw[h1];exact h.b8,h4,λi hi=>VQ (h.tt i hi) hm.size⟩
 ·rw[h1];exact h.txt.mod hm (λi hi e=>by have:=(h.txt.rows i hi).1;rcases e with rfl | rfl<;>omega)
 ·rw[h2];exact h.out.mod hm (λi hi e=>by have:=(h.out.rows i hi).1;rcases e with rfl | rfl<;>omega)
 ·rw[h2] at hs;exact(h.dgs j s x hs hx).keep hm (λi hi=>.inl (.inl (hi.elim .inl (λe=>.inr (.inl e)))))
end
end
section
def mD (p:RP)(f n:Nat)(rd:List Nat):pz:=λr ln d k g=>match cY (Jo (p.fs.map (·.1))) (n::rd) r with
 | .error e=>.error ⟨e,n,ln⟩
 | .ok m=>if d=64 then .error ⟨2,n,ln⟩else aF p.nm p.fs f (n::rd) (d+1) m k g
def fQ3 (w0:World)(base:Nat)(p:RP)(f:Nat):Prop:=∀(m:RM)(v:RV)(n:Nat)(k:DV)(o:BF)(w:World),Rr w0 w base p m v->DgO w (TS p m) p.nm.length k o->n<p.fs.length->n∉v.rd->v.d<=64->65<=f+v.d->
 FnP Tryz.prog 92 [.pointer (some ⟨p.r,0,none⟩),.int .i64 n,Xm k.A k.n k.c k.r] w (λ_ w'=>∃g',aF p.nm p.fs f v.rd v.d n o v.g= .ok g'/\Fj w0 w base p m {v with g:=g'} w') (λch w'=>∃q,aF p.nm p.fs f v.rd v.d n o v.g= .error q/\ch=fy q.e q.f q.l/\Mod (RS p m) w w')
set_option maxRecDepth 2000 in
theorem PX (w0:World)(base:Nat)(p:RP)(hP:RPok w0 p)(gQ:w0.heap.size<=base):∀f,fQ3 w0 base p f
 | 0=>λm v n k o w h hk hn hr hd hf=>Q8 hf (by omega)
 | f+1=>λm v n k o w h hk hn hr hd hf=>by
  have ih:=PX w0 base p hP gQ f;have hx:p.fs[n]? =some p.fs[n]:=Xn hn;have yd:=hP.flb _ (My hn);have lQg:aF p.nm p.fs (f+1) v.rd v.d n o v.g=ZS p.nm n v.d (mD p f n v.rd) (QT (p.fs[n].2)) 0 0 o [] {v.g with fr:=true}:=by
   rw[aF,hx]<;>rfl
  generalize ay:aF p.nm p.fs (f+1) v.rd v.d n o v.g=res at*;generalize Dj:p.fs[n].2=text at*;have dk:∀x∈text,x<256:=by rw[<-Dj];exact yd.t8
  have YE:text.length<=1048576:=by rw[<-Dj];exact yd.tl
  have LB:Qo (QT text)=text:=W6 (by rw[<-Dj];exact yd.ok);have dF:=hP.fls.2;refine aB (c:={c92 with cuts:=[]}) Qa Tryz.func92 rfl rfl rfl ?_;refine new (λw1 Qd Q3 Qh=>?_)
  let m1:RM:={m with T:=λi=>m.T i∨Qj (none:Option Addr) i∨i=w.heap.size}
  have xQ:=h.tt;have h1:Rr w0 w1 base p m1 v:=h.modT (U:=λ_=>False) (Mod.of_ext _ Qd) (λi hi=>hi.elim) (λi hi=>hi.elim) (λi hi=>hi.elim) (λi hi=>by
    rcases hi with hi | hi | hi
    ·exact .inl hi
    ·obtain⟨_,e,_⟩:=hi;cases e
    ·exact .inr (by omega)) (λi hi=>by
    rcases hi with hi | hi | hi
    ·have:=xQ i hi;omega
    ·obtain⟨_,e,_⟩:=hi;cases e
    ·omega)
  refine XC Qa (Ext w1) 10 [(true,0),(true,1),(true,2),(true,3),(true,4),(true,5),(true,6),(true,7),(true,8),(true,9)] (by kernel_rfl) (Ext.drew w1) ?_;refine QH (v:=.int .i64 v.fl) (λw' Qb=>by rw[(h1.blk.ext Qb).cell];rfl) ?_;refine QH (v:=.int .i64 v.ln) (λw' Qb=>by rw[(h1.blk.ext Qb).cell];rfl) ?_;have Yz:=Ext.drew w1;have h2:=h1.ext Yz;have Qw:=Qh.ext Yz;generalize w1.drew=w2 at*;obtain⟨mp,uk,hnd,q9⟩:=h2.rdm;refine Qp h2.blk rfl ?_;refine jN (kv:=aE) (a:=(n:Int)) Qa rfl rfl rfl rfl rfl (KeyV.int .i64) rfl rfl rfl uk (λw3 ZY JI XD=>?_);have ZU:Mod (·=p.q) w2 w3:=mQW ZY rfl;have jQQ:((Zd (n:Int) (Value.bool true) mp).map (·.1)).Nodup:=(Py _ _ _ hnd).1;have jQR:∀j:Nat,Xv (j:Int) (Zd (n:Int) (Value.bool true) mp)=if j∈n::v.rd then some (.bool true)else none:=λj=>by
   rw[aC];by_cases hj:j=n
   ·subst hj;simp
   ·rw[if_neg (λe=>hj (by omega)),q9 j];simp[hj]
  have oe:=h2.blk.mod ZU h2.ne;refine XP oe (show 9<11 by decide) (λw4 X1 Q4=>?_);refine XP Q4 (show 10<11 by decide) (λw5 XS QK=>?_);refine XP QK (show 8<11 by decide) (λw6 Ym Xo=>?_);have TV:Mod (·=p.r) w3 w6:=(X1.trans XS (λi hi=>.inl hi)).trans Ym (λi hi=>.inl hi);have Bw:Mod (λi=>i=p.r∨i=p.q) w2 w6:=(ZU.mono (S':=λi=>i=p.r∨i=p.q) (λi hi=>.inl (.inr hi))).trans TV (λi hi=>.inl (.inl hi));have h6:Rr w0 w6 base p m1 ⟨v.d,n,0,n::v.rd,{v.g with fr:=true}⟩:=h2.putq Bw Xo rfl rfl (λe=>by cases e) ⟨_,XD.mod TV (λe=>h2.ne e.symm),jQQ,jQR⟩;have ji:¬(w.heap.size=p.r∨w.heap.size=p.q):=λe=>by have:=h.rb;have:=h.qb;have:=h.top;rcases e with e | e<;>omega
  have lQh:=Qw.mod Bw ji;have XM:Mod (RS p m) w w6:=((Mod.of_ext (RS p m) Qd).trans (Mod.of_ext (RS p m) Yz) (λi hi=>.inl hi)).trans (Bw.mono (S':=RS p m) (λi hi=>.inl (hi.elim .inl (λe=>.inr (.inl e))))) (λi hi=>.inl hi);refine Qp Xo rfl ?_;refine Zw Fi (hP.fls.ext h6.e0) rfl (by omega) (λpp x Yc hc=>?_);obtain rfl:p.fs[n]=x:=Option.some.inj (hx.symm.trans Yc);refine load (hc 1 _ rfl) ?_;rw[Dj];have Bs:DgO w1 (TS p m1) p.nm.length k o:=hk.step (Mod.of_ext _ Qd) (λi hi=>by
   rcases hi with hi | hi | hi | hi
   ·exact .inl (.inl hi)
   ·exact .inl (.inr hi)
   ·obtain⟨_,e,_⟩:=hi;cases e
   ·exact .inr (by omega))
  have HB:DgO w6 (TS p m1) p.nm.length k o:=(Bs.ext Yz).keep Bw (λi hi=>.inl (.inl (hi.elim .inl (λe=>.inr (.inl e)))));have ly:(QT text).length<=text.length:=by have:=vy (QT text);rw[LB] at this;exact this
  refine loop Qa [8,10] (λs:LS=>[.slice s.A s.z.length s.c,.int .i64 s.at_]) (λs w'=>FrI w0 w base p m v n w.heap.size text (mD p f n v.rd) res s w') (λs _=>s.ls.length) ⟨k,o,[],m1,{v.g with fr:=true},0,0,QT text,none,0⟩ rfl
   ⟨h6,rfl,lQh,HB,Own.nil _ _ _ _,(λz hz=>by cases hz),(λz hz=>by cases hz),(by rw[LB];rfl),(by rw[LB];simp),mv text,lQg.symm,XM,Moved.refl _ _,Moved.refl _ _,(λi hi=>by obtain⟨_,e,_⟩:=hi;cases e),hd,(by show 0+(QT text).length<=_;omega)⟩ ?_
  rintro s w7 hI;have h7:=hI.rr;have KU:=hI.al;refine Qy (λc1=>?_) (λc1=>?_)
  rotate_left
  ·have KC:s.ls=[]:=by
    have hs:=XF text;have:=vy s.ls;exact aA (by omega)
   have h7z:=hI.rr;have QX:=hI.rs;rw[KC] at QX;refine Qy (λhz=>?_) (λhz=>?_)
   ·obtain⟨z',x,Kq⟩:∃z' x,s.z=z'++ [x]:=by
     rcases oK s.z with h0 | ⟨z',x,h0⟩
     ·rw[h0] at hz;exact Q8 hz (by decide)
     ·exact⟨z',x,by rw[h0];simp⟩
    have uq:s.z.length=z'.length+1:=by rw[Kq];simp
    have lF:s.z.reverse.map (·.s)=x.s::z'.reverse.map (·.s):=by rw[Kq];simp
    obtain⟨oa,Vx,_⟩:=hI.ow.sl.at_ (by omega:0<s.z.length);have Hz:Own w7 base WA 6 (some oa) s.z.length s.c (V3 z'++x.cells):=by rw[<-Vx,<-mC,<-Kq];exact hI.ow
    have Yp:=hI.dl;refine Qi ((z'.length:Nat):Int) (by omega) (by omega) ?_;rw[Vx];refine JO (j:=z'.length) (by omega) ?_;rw[show z'.length*6=(V3 z').length from (An z').symm];refine PS Hz (by omega) (vN (i:=5) (u:=.int .i64 x.s.ln) rfl) ?_;refine XP h7.blk (show 10<11 by decide) (λw8 JH Xt=>?_);have h8:Rr w0 w8 base p s.m ⟨v.d+s.z.length,n,x.s.ln,n::v.rd,s.g⟩:=h7.put JH Xt rfl rfl rfl h7.nf;refine XO (W9 72 w8 h8) (λ_ _ hf=>hf.elim) ?_;rintro ch w9 ⟨rfl,XE⟩;refine⟨⟨72,n,x.s.ln⟩,?_,rfl,hI.mw' (QC _) ((JH.mono (S':=Jh p s.m s.A w.heap.size) (λi hi=>.inl (.inl (.inl hi)))).trans (Mod.of_ext _ XE) (λi hi=>.inl hi))⟩;rw[<-QX,ZS.eq_def,lF]
   ·have kW:s.z=[]:=aA (by omega);obtain⟨mq,k1,k2,k3⟩:=h7.rdm;refine Qp h7.blk rfl ?_;refine fQp (kv:=aE) (a:=(n:Int)) Qa rfl rfl rfl rfl rfl (KeyV.int .i64) rfl rfl k1 (λw8 ZC VJ JH=>?_);refine XP (h7.blk.mod ZC h7.ne) (show 9<11 by decide) (λw9 Yy JT=>?_);refine XP JT (show 10<11 by decide) (λQJ Jk Km=>?_);refine XP Km (show 8<11 by decide) (λQG kX ZZ=>?_);have TW:Mod (·=p.r) w8 QG:=(Yy.trans Jk (λi hi=>.inl hi)).trans kX (λi hi=>.inl hi);have HC:Mod (λi=>i=p.r∨i=p.q) w7 QG:=(ZC.mono (S':=λi=>i=p.r∨i=p.q) (λi hi=>.inl (.inr hi))).trans TW (λi hi=>.inl (.inl hi));have eE:v.d+s.z.length=v.d:=by rw[kW]<;>rfl
    rw[eE] at ZZ;have ZK:Rr w0 QG base p s.m ⟨v.d,v.fl,v.ln,v.rd,{s.g with fr:=true}⟩:=h7.putq HC ZZ rfl rfl (λe=>by cases e) ⟨_,JH.mod TW (λe=>h7.ne e.symm),(k2.sublist ((Pv (n:Int) mq).map _)),λj=>by
     rw[Px _ _ _ k2];by_cases hj:j=n
     ·subst hj;rw[Qf rfl,if_neg hr]
     ·rw[if_neg (λe=>hj (by omega)),k3 j];simp[hj]⟩
    have XY:Rr w0 QG base p {s.m with T:=m.T} ⟨v.d,v.fl,v.ln,v.rd,{s.g with fr:=true}⟩:=ZK.modT (U:=λ_=>False) (Mod.refl _ _) (λi hi=>hi.elim) (λi hi=>hi.elim) (λi hi=>hi.elim) (λi hi=>.inl (by rw[hI.tt];exact .inl hi)) (λi hi=>by
     have:=xQ i hi;have:=hI.mw.size;have:=HC.size;omega)
    refine⟨{s.g with fr:=true},?_,{s.m with T:=m.T},rfl,XY,hI.mw' (QC _) (HC.mono (λi hi=>.inl (.inl (hi.elim .inl (λe=>.inr (.inl e)))))),hI.ma,hI.mb⟩;rw[<-QX,ZS.eq_def,kW]<;>rfl
  ·cases KC:s.ls with
   | nil=>
    have hs:=XF text;rw[KC] at KU;have:(Qo ([]:List (List Nat))).length=0:=rfl;omega
   | cons l ls=>
    obtain⟨l1,l2,l3,l4,l5⟩:=hI.line YE KC;have Xu:=XF text;have fJ:∀x∈l,x<256:=λx hx=>dk x (aZ (by rw[l3];simp[hx]:x∈text.drop s.at_))
    have up:=hI.lb;refine Ke (v':=.string (Qe (text.drop s.at_))) ⟨by omega,by rw[Xu];omega,by rw[Xu];omega⟩ ?_ ?_
    ·rw[KN,Xu];simp only[fc];rw[Jm (QC _)]
    refine call (E9 (text.drop s.at_) 10 w7 (λx hx=>dk x (aZ hx)) (by decide)) ?_;rintro _ _ ⟨rfl,rfl⟩;have Kb:gn 10 (text.drop s.at_)=(l.length:Nat):=by
     unfold gn;rw[Qf (by rw[l3];simp),l3,List.takeWhile_append_of_pos (λx hx=>by simpa using λe=>l1 (by rw[<-e];exact hx))];simp
    rw[Kb];refine Qi ((s.at_+l.length:Nat):Int) (by show((s.at_:Nat):Int)+_=_;omega) (by omega) ?_;refine Qi ((s.at_+l.length+1:Nat):Int) (by omega) (by omega) ?_;refine Qi ((s.at_+l.length:Nat):Int) (by omega) (by omega) ?_;refine Ke (v':=.string (Qe l)) ⟨by omega,by omega,by rw[Xu];omega⟩ ?_ ?_
    ·rw[KN];simp only[fc];rw[f9,show s.at_+l.length-s.at_=l.length by omega,l4]
    refine Qp h7.blk rfl ?_;refine Qi ((s.ln+1:Nat):Int) (by show((s.ln:Nat):Int)+1=_;omega) (by omega) ?_;refine XP h7.blk (show 10<11 by decide) (λw8 JH Xt=>?_);have h8:Rr w0 w8 base p s.m ⟨v.d+s.z.length,n,s.ln+1,n::v.rd,s.g⟩:=h7.put JH Xt rfl rfl rfl h7.nf;refine call (fQ2 l w8 fJ (by omega)) ?_;rintro _ w9 ⟨rfl,XE⟩;have h9:=h8.ext XE;have jq:w.heap.size<=w.heap.size:=QC _;have eF:Mod (Jh p s.m s.A w.heap.size) w7 w9:=(JH.mono (S':=Jh p s.m s.A w.heap.size) (λi hi=>.inl (.inl (.inl hi)))).trans (Mod.of_ext _ XE) (λi hi=>.inl hi);have npr:¬w.heap.size=p.r:=λe=>ji (.inl e)
    have bG:Blk w9 w.heap.size 32 s.k.cells:=(hI.kb.mod JH npr).ext XE;have qe:∀{x:DV} {o:BF},DgO w7 (TS p s.m) p.nm.length x o->DgO w9 (TS p s.m) p.nm.length x o:=λhx=>hI.kp eF hI.tt (Moved.refl _ _) (Moved.refl _ _) (Moved.refl _ _) hx
    have dt:=qe hI.kd;have nopr:∀i,Qj s.A i->¬i=p.r:=λi hi e=>by have:=(hI.ow.rows i hi).1;have:=h7.rb;omega
    have Wc:Own w9 base WA 6 s.A s.z.length s.c (V3 s.z):=(hI.ow.mod JH nopr).ext XE;have QX:=hI.rs;rw[KC] at QX;have nY:(((Qe (JF l)).size:Int)<(Qe l).size)↔32∈l:=by rw[XF,XF,<-PD];omega
    have Yp:=hI.dl;have lQW:l.length<=1048576:=by omega
    have lQX:=eF.size;have lQY:=hI.mw.size;have Xi:∀(q:Pl) (ch:List PanicEntry) (w':World),res= .error q->ch=fy q.e q.f q.l->Mod (Jh p s.m s.A w.heap.size) w9 w'->∃q,res= .error q/\ch=fy q.e q.f q.l/\Mod (RS p m) w w':=λq ch w' h1 h2 h3=>⟨q,h1,h2,hI.mw' jq (eF.trans h3 (λi hi=>.inl hi))⟩
    have LC:∀i,Qj s.A i->w0.heap.size<=i:=λi hi=>by have:=(Wc.rows i hi).1;omega
    have og:∀i,Qj s.A i->¬RS p s.m i:=λi hi hr=>by
     have hb:=(Wc.rows i hi).1;have:=h9.rb;have:=h9.qb;rcases hr with rfl | rfl | hr | hr
     ·omega
     ·omega
     ·exact Wc.apart h9.out (by decide) hi hr
     ·exact Wc.apart h9.txt (by decide) hi hr
    have ye:∀i,Qj s.A i->s.m.T i:=λi hi=>by rw[hI.tt];exact .inr (.inl hi)
    have nbk:¬RS p s.m w.heap.size:=λhr=>by
     have:=h.rb;have:=h.qb;have:=h.top;rcases hr with e | e | hr | hr
     ·omega
     ·omega
     ·exact bG.apart h9.out (by decide) hr
     ·exact bG.apart h9.txt (by decide) hr
    have hhA:∀i,Qj s.A i->i<w9.heap.size:=λi hi=>(Wc.rows i hi).2
    have nbA:¬Qj s.A w.heap.size:=bG.apart Wc (by decide);have nprA:¬Qj s.A p.r:=λhi=>nopr _ hi rfl
    by_cases P1:JF l=mz/\32∈l
    ·have X3:=fQv P1.1 P1.2;rw[Qf P1.2];have i9:∀x∈Vb l,x<256:=λx hx=>fJ x (aZ hx)
     have jp:(Vb l).length<=1000000000000:=by unfold Vb;rw[Y3];omega
     refine XH (by rw[P1.1];rfl) ?_;refine XH (nY.2 P1.2) ?_;refine XO (PL (Vb l) w9 hP h9 i9 jp) ?_ ?_
     rotate_left
     ·rintro ch QJ ⟨e,he,rfl,ZJ⟩;refine Xi ⟨e,n,((s.ln+1:Nat):Int)⟩ _ QJ ?_ rfl (Mod.of_ext _ ZJ);rw[<-QX,Fo X3,he]
     rintro _ QJ ⟨d,he,t,rfl,ZJ,jQS,fL,Dg⟩;refine new (λQG J9 tH ZZ=>?_);refine Qz ZZ rfl (sc rfl) (λXg qa _ Vg=>?_);have tL:Ext QJ Xg:=X9 J9 ZZ qa;have qf:=ZJ.trans tL;have XY:=h9.ext qf;have lQZ:=qf.size;have jQT:=ZJ.size;refine XO (PN Xg XY Yp) ?_ ?_
     rotate_left
     ·rintro ch X2 ⟨gR,rfl,XK⟩;refine Xi ⟨2,n,((s.ln+1:Nat):Int)⟩ _ X2 ?_ rfl (Mod.of_ext _ (qf.trans XK));have gR:v.d+(s.z.reverse.map (·.s)).length=64:=by simpa using gR
      rw[<-QX,Fo X3,he];simp only[Qf gR]
     rintro _ X2 ⟨qg,KL,bH⟩;have qg:¬v.d+s.z.length=64:=qg;have TX:=(bG.ext qf).mod bH npr;have n10r:¬QJ.heap.size=p.r:=λe=>by have:=h9.rb;have:=h9.top;omega
     have jQU:=Vg.mod bH n10r;refine Qs TX rfl ?_;refine Qs jQU rfl ?_;have HD:=(dt.ext qf).keep bH (λi hi=>.inl (.inl (.inl hi)));have jQV:SB X2 t.A t.n t.c t.nd:=SB.mod (jQS.ext tL) bH (λi hi e=>by have:=Dg i hi;have:=h9.rb;have:=h9.top;omega);refine call (PM p.nm.length hP.nmk s.k t s.o d X2 HD.sb HD.st jQV fL) ?_;rintro _ Zi ⟨a,b,rfl,J7,jQW,has,xN,jQX,ya,oe⟩;refine new (λKw V6 lQ0 tM=>?_);refine new (λao V8 jQY YU=>?_);have tN:=V6.trans V8;refine Qz (tM.ext V8) rfl (sc rfl) (λVu HE _ ni=>?_);have qh:Mod (·=Zi.heap.size) ao Vu:=mQW HE rfl;have nj:Ext Zi Vu:=qh.ext tN (λi hi=>by omega);refine Qz (YU.mod qh (by show¬Kw.heap.size=Zi.heap.size;omega)) rfl (sc rfl) (λVh jQZ _ qd=>?_);have wU:Mod (·=Kw.heap.size) Vu Vh:=mQW jQZ rfl;have TY:Ext Zi Vh:=wU.ext nj (λi hi=>by omega);have jQ0:=ni.mod wU (by show¬Zi.heap.size=Kw.heap.size;omega);have np:=J7.trans TY;have aq:=KL.ext np;have Bx:=TX.ext np;have lQ1:=HD.ext np;have jQ1:=(Wc.ext qf).mod bH nopr;have jQ2:=jQ1.ext np;have hd:=Ext.drew Vh;have lQ2:=np.size;have lQ3:=bH.size;have lQ4:=J7.size;have lQ5:=tN.size;have n15A:¬Qj s.A Kw.heap.size:=λhi=>by have:=hhA _ hi;omega
     refine XC Qa (Mod (Qj s.A) Vh) 11 [(true,0),(true,1),(true,2),(true,3),(true,4),(true,5),(true,6),(true,7),(false,8),(false,9),(true,10)] (by kernel_rfl) (Mod.of_ext _ hd) ?_;refine Xq (vs:=s.k.cells) rfl (λw' Qb j u hj=>by rw[(Bx.mod Qb nbA).cell];exact hj) ?_;refine Xq (vs:=b.cells) rfl (λw' Qb j u hj=>by rw[(qd.mod Qb n15A).cell];exact hj) ?_;refine QH (v:=.int .i64 ((s.ln+1:Nat):Int)) (λw' Qb=>by rw[(aq.blk.mod Qb nprA).cell];rfl) ?_
     let zn:SeV:=⟨⟨s.o,Yk s.o d,false,s.ln+1⟩,s.k,b⟩
     refine XI Qa [zn.cells] rfl rfl rfl rfl rfl ⟨rfl,rfl,⟨⟩⟩ rfl (λcs hh=>by simp only[QL] at hh;subst hh;rfl) rfl (by decide) (by decide) ?_;intro bI kY TZ wV;have qi:=hd.trans kY;refine⟨Mod.of_ext _ qi,?_⟩;have jQ3:Sl bI 6 (some ⟨Vh.drew.heap.size,0,none⟩) 1 1 zn.cells:=Sl.own (sz:=6) (n:=1) wV (QC _) (by decide) (by simp[SeV.cells]);refine JB Qa rfl rfl rfl rfl rfl (by decide) rfl rfl ⟨_,rfl⟩ rfl rfl (jQ2.ext qi) jQ3 (fQZ zn) (by unfold maxLen;omega) (by show(s.z.length+1)*80<=_;omega) (aq.ext qi).top ?_;intro A' c' YB By Bz BB;have qj:Mod (Qj s.A) Vh YB:=(Mod.of_ext (Qj s.A) qi).trans By (λi hi=>.inl hi);refine⟨qj,?_⟩;have n14A:¬Qj s.A Zi.heap.size:=λhi=>by have:=hhA _ hi;omega
     refine Qs (jQ0.mod qj n14A) rfl ?_;refine Qz (Bx.mod qj nbA) rfl (sc rfl) (λgS wW _ tO=>?_);have ja:Mod (·=w.heap.size) YB gS:=mQW wW rfl;have jQ4:Mod (Jh p s.m s.A w.heap.size) Vh gS:=(qj.mono (S':=Jh p s.m s.A w.heap.size) (λi hi=>.inl (.inr (.inl hi)))).trans ja (λi hi=>.inl (.inr (.inr hi)));have T0:=qj.size;have du:Rr w0 YB base p {s.m with T:=λi=>m.T i∨Qj A' i∨i=w.heap.size} ⟨v.d+s.z.length+1,n,s.ln+1,n::v.rd,s.g⟩:=aq.modT qj ye og LC (λi hi=>by
       rcases hi with hi | hi | hi
       ·exact .inl (by rw[hI.tt];exact .inl hi)
       ·rcases BB.rows i hi with h1 | h1
        ·exact .inl (by rw[hI.tt];exact .inr (.inl h1))
        ·exact .inr (by have:=qi.size;omega)
       ·exact .inl (by rw[hI.tt];exact .inr (.inr hi))) (λi hi=>by
       rcases hi with hi | hi | hi
       ·have:=xQ i hi;omega
       ·exact(Bz.rows i hi).2
       ·have:=Bx.lt;omega)
     have eG:Rr w0 gS base p {s.m with T:=λi=>m.T i∨Qj A' i∨i=w.heap.size} ⟨v.d+s.z.length+1,n,s.ln+1,n::v.rd,s.g⟩:=du.modT ja (λi hi=>.inr (.inr hi)) (λi hi=>by subst hi;exact nbk) (λi hi=>by have:=h.e0.size;omega) (λi hi=>.inl hi) (λi hi=>VQ (du.tt i hi) ja.size);refine XP eG.blk (show 8<11 by decide) (λaP BC qk=>?_);have jb:Rr w0 aP base p {s.m with T:=λi=>m.T i∨Qj A' i∨i=w.heap.size} ⟨v.d+s.z.length+1,n,s.ln+1,n::v.rd,{s.g with fr:=true}⟩:=eG.put BC qk rfl rfl rfl (λe=>by cases e);have aQF:Mod (Jh p s.m s.A w.heap.size) w9 Vh:=((Mod.of_ext _ qf).trans (bH.mono (S':=Jh p s.m s.A w.heap.size) (λi hi=>.inl (.inl (.inl hi)))) (λi hi=>.inl hi)).trans (Mod.of_ext _ np) (λi hi=>.inl hi);have aQG:Mod (Jh p s.m s.A w.heap.size) Vh aP:=jQ4.trans BC (λi hi=>.inl (.inl (.inl hi)));have aQH:Mod (Jh p s.m s.A w.heap.size) w7 aP:=(eF.trans aQF (λi hi=>.inl hi)).trans aQG (λi hi=>.inl hi);have aQI:Moved w7 s.A A':=BB.back (by have:=eF.size;have:=aQF.size;have:=qi.size;omega);have mQI:(λi=>m.T i∨Qj A' i∨i=w.heap.size)=(λi=>m.T i∨Qj A' i∨i=w.heap.size):=rfl
     let s':LS:=⟨a,JE s.o d,s.z++ [zn],{s.m with T:=λi=>m.T i∨Qj A' i∨i=w.heap.size},{s.g with fr:=true},s.ln+1,s.at_+l.length+1,ls,A',c'⟩
     have kp:∀{x:DV} {o:BF},DgO w7 (TS p s.m) p.nm.length x o->DgO aP (TS p s'.m) p.nm.length x o:=λhx=>hI.kp (s':=s') aQH rfl aQI (Moved.refl _ _) (Moved.refl _ _) hx
     have yf:(s.z++ [zn]).length=s.z.length+1:=by simp
     have lQi:∀i,TS p s.m i->i<X2.heap.size:=λi hi=>by
      have:=h9.hiT i hi;omega
     have fresh:∀(x:DV) (ox:BF),(∀i,Qj x.A i->X2.heap.size<=i)->SB Zi x.A x.n x.c x.nd->Set1 p.nm.length x.nd x.r ox->DgO aP (TS p s'.m) p.nm.length x ox:=λx ox hr hx hs=>by
      have e1:DgO Vh (TS p s.m) p.nm.length x ox:=⟨hx.ext TY,hs,λad e _ hh=>by have:=hr _ ⟨ad,e,rfl⟩;have:=lQi _ hh;omega⟩
      exact e1.step (aQG.mono (λi hi=>.inl (hI.sub i hi))) (λi hi=>by
       rcases hi with hi | hi
       ·exact .inl (.inl hi)
       ·rcases hi with hi | hi | hi
        ·exact .inl (.inr (by rw[hI.tt];exact .inl hi))
        ·rcases BB.rows i hi with h1 | h1
         ·exact .inl (.inr (by rw[hI.tt];exact .inr (.inl h1)))
         ·exact .inr (by have:=qi.size;omega)
        ·exact .inl (.inr (by rw[hI.tt];exact .inr (.inr hi))))
     refine⟨s',?_,?_,?_⟩
     ·show Has _ _;have e:(((s.z++ [zn]).length:Nat):Int)=((s.z.length+1:Nat):Int):=by rw[yf]
      simp only[s',yf];rfl
     ·refine hI.go (s':=s') jq aQH ?_ rfl aQI (Moved.refl _ _) (Moved.refl _ _) ?_ ?_ ?_ ?_ ?_ KC rfl ?_ ?_ rfl
      ·show Rr w0 aP base p _ ⟨v.d+(s.z++ [zn]).length,n,s.ln+1,n::v.rd,{s.g with fr:=true}⟩;rw[yf];exact jb
      ·exact tO.mod BC npr
      ·exact fresh a _ xN jQW has
      ·show Own aP base WA 6 A' (s.z++ [zn]).length c' (V3 (s.z++ [zn]));rw[yf,mC];exact(Bz.mod ja (λi hi e=>by subst e;exact(Bx.mod qj nbA).apart Bz (by decide) hi)).mod BC (λi hi e=>by subst e;have:=(Bz.rows _ hi).1;have:=h.rb;omega)
      ·intro z hz;simp only[s',Xw,QL] at hz;rcases hz with hz | rfl
       ·exact kp (hI.zx z hz)
       ·exact kp hI.kd
      ·intro z hz;simp only[s',Xw,QL] at hz;rcases hz with hz | rfl
       ·exact kp (hI.zy z hz)
       ·exact fresh b _ oe jQX ya
      ·have gR:¬v.d+(s.z.reverse.map (·.s)).length=64:=by simpa using qg
       rw[Fo X3,he] at QX;simp only[if_neg gR] at QX;rw[<-QX];simp[s',zn]
      ·show v.d+(s.z++ [zn]).length<=64;rw[yf];omega
     ·show ls.length<(l::ls).length;simp
    have Jr:v.d+(s.z.reverse.map (·.s)).length=v.d+s.z.length:=by simp
    have i9:∀x∈Vb l,x<256:=λx hx=>fJ x (aZ hx)
    have jp:(Vb l).length<=1000000000000:=by unfold Vb;rw[Y3];omega
    by_cases P2:JF l=px/\32∈l
    ·have X3:=fQw P2.1 P2.2;rw[Qf P2.2];refine Q9 (by rw[P2.1];decide) ?_;refine XH (by rw[P2.1];rfl) ?_;refine XH (nY.2 P2.2) ?_;refine XO (fQN (Vb l) w9 hP h9 i9 jp) ?_ ?_
     rotate_left
     ·rintro ch QJ ⟨e,he,rfl,ZJ⟩;refine Xi ⟨e,n,((s.ln+1:Nat):Int)⟩ _ QJ ?_ rfl (Mod.of_ext _ ZJ);rw[<-QX,Am X3];have hi:mD p f n v.rd (Vb l) (s.ln+1) (v.d+(s.z.reverse.map (·.s)).length) s.o s.g= .error ⟨e,n,((s.ln+1:Nat):Int)⟩:=by
       unfold mD;rw[show cY (Jo (p.fs.map (·.1))) (n::v.rd) (Vb l)= .error e from he]
      rw[hi]
     rintro _ QJ ⟨n',he,rfl,ZJ⟩;have he:cY (Jo (p.fs.map (·.1))) (n::v.rd) (Vb l)= .ok n':=he;have XN:=h9.ext ZJ;refine XO (PN QJ XN Yp) ?_ ?_
     rotate_left
     ·rintro ch QG ⟨gR,rfl,J9⟩;refine Xi ⟨2,n,((s.ln+1:Nat):Int)⟩ _ QG ?_ rfl (Mod.of_ext _ (ZJ.trans J9));have gR:v.d+(s.z.reverse.map (·.s)).length=64:=by simpa using gR
      rw[<-QX,Am X3];have hi:mD p f n v.rd (Vb l) (s.ln+1) (v.d+(s.z.reverse.map (·.s)).length) s.o s.g= .error ⟨2,n,((s.ln+1:Nat):Int)⟩:=by
       unfold mD;rw[he];simp only[Qf gR]
      rw[hi]
     rintro _ QG ⟨qg,ZK,kX⟩;have qg:¬v.d+s.z.length=64:=qg;have gR:¬v.d+(s.z.reverse.map (·.s)).length=64:=by simpa using qg
     have T3:=(bG.ext ZJ).mod kX npr;refine Qs T3 rfl ?_;obtain⟨ui,tn,yg⟩:=Fr he;have Kn:n'<p.fs.length:=by have:=j8 yg;simpa using this
     have jQ5:=(dt.ext ZJ).keep kX (λi hi=>.inl (.inl (.inl hi)));have ij:∀R,aF p.nm p.fs f (n::v.rd) (v.d+s.z.length+1) n' s.o s.g=R->mD p f n v.rd (Vb l) (s.ln+1) (v.d+(s.z.reverse.map (·.s)).length) s.o s.g=R:=λR hR=>by
      unfold mD;rw[he];simp only[if_neg gR];rw[Jr];exact hR
     have LD:Mod (Jh p s.m s.A w.heap.size) w9 QG:=(Mod.of_ext _ ZJ).trans (kX.mono (S':=Jh p s.m s.A w.heap.size) (λi hi=>.inl (.inl (.inl hi)))) (λi hi=>.inl hi);refine XO (ih s.m ⟨v.d+s.z.length+1,n,s.ln+1,n::v.rd,s.g⟩ n' s.k s.o QG ZK jQ5 Kn ui (by show v.d+s.z.length+1<=64;omega) (by show 65<=f+(v.d+s.z.length+1);omega)) ?_ ?_
     rotate_left
     ·rintro ch Xg ⟨q,hq,rfl,YC⟩;refine Xi q _ Xg ?_ rfl (LD.trans YC (λi hi=>.inl (.inl hi)));rw[<-QX,Am X3,ij _ hq]
     rintro _ Xg ⟨g',Vw,m',fT,XY,YC,jQ6,jQ7⟩;refine Qp XY.blk rfl ?_;refine Qi ((v.d+s.z.length:Nat):Int) (by show((v.d+s.z.length+1:Nat):Int)-1=_;omega) (by omega) ?_;refine XP XY.blk (show 4<11 by decide) (λX2 bH K2=>?_);have KL:Rr w0 X2 base p m' ⟨v.d+s.z.length,n,s.ln+1,n::v.rd,g'⟩:=XY.put bH K2 rfl rfl rfl XY.nf;refine XP KL.blk (show 8<11 by decide) (λZi BD JU=>?_);have Vv:Rr w0 Zi base p m' ⟨v.d+s.z.length,n,s.ln+1,n::v.rd,{g' with fr:=true}⟩:=KL.put BD JU rfl rfl rfl (λe=>by cases e);have HF:Mod (·=p.r) Xg Zi:=bH.trans BD (λi hi=>.inl hi);have lQj:Mod (Jh p s.m s.A w.heap.size) w9 Zi:=(LD.trans YC (λi hi=>.inl (.inl hi))).trans HF (λi hi=>.inl (.inl (.inl hi)));have aQJ:Mod (Jh p s.m s.A w.heap.size) w7 Zi:=eF.trans lQj (λi hi=>.inl hi);have hzm:=LD.size;have KI:Moved w7 s.m.OA m'.OA:=jQ6.back (by omega);have dv:Moved w7 s.m.BA m'.BA:=jQ7.back (by omega)
     let s':LS:=⟨s.k,s.o,s.z,m',{g' with fr:=true},s.ln+1,s.at_+l.length+1,ls,s.A,s.c⟩
     have Wb:s'.m.T=λi=>m.T i∨Qj s'.A i∨i=w.heap.size:=by show m'.T=_;rw[fT,hI.tt]
     have kp:∀{x:DV} {o:BF},DgO w7 (TS p s.m) p.nm.length x o->DgO Zi (TS p s'.m) p.nm.length x o:=λhx=>hI.kp (s':=s') aQJ Wb (Moved.refl _ _) KI dv hx
     have jQ8:Own Zi base WA 6 s.A s.z.length s.c (V3 s.z):=((((Wc.ext ZJ).mod kX nopr).mod YC og).mod HF nopr)
     have jQ9:=(T3.mod YC nbk).mod HF npr;refine⟨s',rfl,?_,?_⟩
     ·refine hI.go (s':=s') jq aQJ Vv Wb (Moved.refl _ _) KI dv jQ9 (kp hI.kd) jQ8 (λz hz=>kp (hI.zx z hz)) (λz hz=>kp (hI.zy z hz)) KC rfl ?_ Yp rfl;rw[Am X3,ij _ Vw] at QX;exact QX
     ·show ls.length<(l::ls).length;simp
    by_cases P3:JF l=sI/\32∈l
    ·have X3:=fQx P3.1 P3.2;rw[Qf P3.2];refine Q9 (by rw[P3.1];decide) ?_;refine Q9 (by rw[P3.1];decide) ?_;refine XH (by rw[P3.1];rfl) ?_;refine XH (nY.2 P3.2) ?_;refine Zh (λhz=>?_) (λhz=>?_)
     ·have kW:s.z=[]:=aA (by omega);refine XO (W9 72 w9 h9) (λ_ _ hf=>hf.elim) ?_;rintro ch QJ ⟨rfl,ZJ⟩;refine Xi ⟨72,n,((s.ln+1:Nat):Int)⟩ _ QJ ?_ rfl (Mod.of_ext _ ZJ);rw[<-QX,Fp X3,kW]<;>rfl
     obtain⟨z',x,Kq⟩:∃z' x,s.z=z'++ [x]:=by
      rcases oK s.z with h0 | ⟨z',x,h0⟩
      ·exact Q8 (by rw[h0];rfl) hz
      ·exact⟨z',x,by rw[h0];simp⟩
     have uq:s.z.length=z'.length+1:=by rw[Kq];simp
     have lF:s.z.reverse.map (·.s)=x.s::z'.reverse.map (·.s):=by rw[Kq];simp
     obtain⟨oa,Vx,_⟩:=Wc.sl.at_ (by omega:0<s.z.length);have om:Qj (some oa)=Qj s.A:=by rw[Vx]
     have wX:Own w9 base WA 6 (some oa) s.z.length s.c (V3 z'++x.cells):=by rw[<-Vx,<-mC,<-Kq];exact Wc
     have eW:x∈s.z:=by rw[Kq];simp
     have Yc:=qe (hI.zx x eW);have Xr:=qe (hI.zy x eW);have Jq:=An z';have Dk:∀i,TS p s.m i->i<w9.heap.size:=h9.hiT
     refine Qi ((z'.length:Nat):Int) (by omega) (by omega) ?_;rw[Vx];refine JO (j:=z'.length) (by omega) ?_;rw[show z'.length*6=(V3 z').length from Jq.symm];refine Q9 (λe=>by have e2:l=Xx:=Jc fJ (by decide) e;have:=P3.2;rw[e2] at this;exact Q8 this (by decide)) ?_;have yh:decide (Qe l=(⟨#[35,101,108,115,101]⟩:ByteArray))=false:=X4 (λe=>by have e2:l=Jd:=Jc fJ (by decide) e;have:=P3.2;rw[e2] at this;exact Q8 this (by decide));refine XO (PV s.m ⟨v.d+s.z.length,n,s.ln+1,n::v.rd,s.g⟩ oa s.z.length s.c (V3 z') x (decide (Qe l=(⟨#[35,101,108,115,101]⟩:ByteArray))) (Vb l) w9 hP h9 wX (by rw[om];exact ye) (by rw[Jq];omega) Xr i9 jp gQ) ?_ ?_
     rotate_left
     ·rintro ch QJ ⟨e,he,rfl,Jk⟩;refine Xi ⟨e,n,((s.ln+1:Nat):Int)⟩ _ QJ ?_ rfl (Jk.mono (λi hi=>.inl (.inr (.inl (by rw[<-om];exact hi)))));rw[yh] at he;rw[<-QX,Fp X3,lF];rcases he with⟨h1,rfl⟩ | ⟨h1,_,h3⟩
      ·simp only[h1,if_true]
      ·simp only[h1,h3];rfl
     rintro u QJ ⟨nX,Jk,ay⟩;rw[yh,if_neg (by decide)] at ay;obtain⟨o',b,d',eN,rfl,qm,ya,oe,kQa,ii,bO,HG⟩:=ay
     let zn:SeV:=⟨{x.s with re:=Yk x.s.re o'},x.x,d'⟩
     let nk:DV:=b
     let no:BF:=JE x.s.re o'
     rw[om] at Jk;have HH:=bG.mod Jk nbA;have XN:Rr w0 QJ base p s.m ⟨v.d+s.z.length,n,s.ln+1,n::v.rd,s.g⟩:=h9.modT Jk ye og LC (λi hi=>.inl hi) (λi hi=>VQ (h9.tt i hi) Jk.size);refine Qz HH rfl (sc rfl) (λQG wY _ ZZ=>?_);have ZV:Mod (·=w.heap.size) QJ QG:=mQW wY rfl;have ZK:Rr w0 QG base p s.m ⟨v.d+s.z.length,n,s.ln+1,n::v.rd,s.g⟩:=XN.modT ZV (λi hi=>by rw[hI.tt];exact .inr (.inr hi)) (λi hi=>by subst hi;exact nbk) (λi hi=>by have:=h.e0.size;omega) (λi hi=>.inl hi) (λi hi=>VQ (XN.tt i hi) ZV.size);refine XP ZK.blk (show 8<11 by decide) (λXg YC Vg=>?_);have XY:Rr w0 Xg base p s.m ⟨v.d+s.z.length,n,s.ln+1,n::v.rd,{s.g with fr:=true}⟩:=ZK.put YC Vg rfl rfl rfl (λe=>by cases e);have yi:Mod (Jh p s.m s.A w.heap.size) QJ Xg:=(ZV.mono (S':=Jh p s.m s.A w.heap.size) (λi hi=>.inl (.inr (.inr hi)))).trans YC (λi hi=>.inl (.inl (.inl hi)));have yj:Mod (Jh p s.m s.A w.heap.size) w9 Xg:=(Jk.mono (S':=Jh p s.m s.A w.heap.size) (λi hi=>.inl (.inr (.inl hi)))).trans yi (λi hi=>.inl hi);have oq:Mod (Jh p s.m s.A w.heap.size) w7 Xg:=eF.trans yj (λi hi=>.inl hi);have Vk:(z'++ [zn]).length=s.z.length:=by rw[uq];simp
     let s':LS:=⟨nk,no,z'++ [zn],s.m,{s.g with fr:=true},s.ln+1,s.at_+l.length+1,ls,s.A,s.c⟩
     have kp:∀{x:DV} {o:BF},DgO w7 (TS p s.m) p.nm.length x o->DgO Xg (TS p s'.m) p.nm.length x o:=λhx=>hI.kp (s':=s') oq hI.tt (Moved.refl _ _) (Moved.refl _ _) (Moved.refl _ _) hx
     have fresh:∀(x:DV) (ox:BF),(∀i,Qj x.A i->w9.heap.size<=i)->SB QJ x.A x.n x.c x.nd->Set1 p.nm.length x.nd x.r ox->DgO Xg (TS p s'.m) p.nm.length x ox:=λx ox hr hx hs=>by
      have e1:DgO QJ (TS p s.m) p.nm.length x ox:=⟨hx,hs,λad e _ hh=>by have:=hr _ ⟨ad,e,rfl⟩;have:=Dk _ hh;omega⟩
      exact e1.step (yi.mono (λi hi=>.inl (hI.sub i hi))) (λi hi=>.inl hi)
     refine⟨s',?_,?_,?_⟩
     ·show Has _ _;simp only[s',Vk];rw[Vx]<;>rfl
     ·refine hI.go (s':=s') jq oq ?_ hI.tt (Moved.refl _ _) (Moved.refl _ _) (Moved.refl _ _) ?_ ?_ ?_ ?_ ?_ KC rfl ?_ ?_ rfl
      ·show Rr w0 Xg base p _ ⟨v.d+(z'++ [zn]).length,n,s.ln+1,n::v.rd,{s.g with fr:=true}⟩;rw[Vk];exact XY
      ·exact ZZ.mod YC npr
      ·exact fresh b _ oe qm ya
      ·show Own Xg base WA 6 s.A (z'++ [zn]).length s.c (V3 (z'++ [zn]));rw[Vk,mC];have HI:Own QJ base WA 6 s.A s.z.length s.c (V3 z'++zn.cells):=by rw[Vx];exact HG
       exact(HI.mod ZV (λi hi e=>by subst e;exact nbA hi)).mod YC nopr
      ·intro z hz;simp only[s',Xw,QL] at hz;rcases hz with hz | rfl
       ·exact kp (hI.zx z (by rw[Kq];simp[hz]))
       ·exact kp (hI.zx x eW)
      ·intro z hz;simp only[s',Xw,QL] at hz;rcases hz with hz | rfl
       ·exact kp (hI.zy z (by rw[Kq];simp[hz]))
       ·exact fresh d' _ bO kQa ii
      ·rw[Fp X3,lF] at QX;simp only[nX,eN] at QX;rw[<-QX];simp[s',zn,no,nX]
      ·show v.d+(z'++ [zn]).length<=64;rw[Vk];omega
     ·show ls.length<(l::ls).length;simp
    have lQk:=fQy P1 P2 P3;by_cases nt:l=Jd
    ·have X3:ZN l= .els:=by rw[nt]<;>rfl
     have Xf:32∉l:=by rw[nt];decide
     have Jy:JF l=Jd:=by rw[Fa Xf,nt]
     rw[if_neg Xf];refine Q9 (by rw[Jy];decide) ?_;refine Q9 (by rw[Jy];decide) ?_;refine Q9 (by rw[Jy];decide) ?_;refine XH (by rw[nt];rfl) ?_;refine Zh (λhz=>?_) (λhz=>?_)
     ·have kW:s.z=[]:=aA (by omega);refine XO (W9 72 w9 h9) (λ_ _ hf=>hf.elim) ?_;rintro ch QJ ⟨rfl,ZJ⟩;refine Xi ⟨72,n,((s.ln+1:Nat):Int)⟩ _ QJ ?_ rfl (Mod.of_ext _ ZJ);rw[<-QX,Fq X3,kW]<;>rfl
     obtain⟨z',x,Kq⟩:∃z' x,s.z=z'++ [x]:=by
      rcases oK s.z with h0 | ⟨z',x,h0⟩
      ·exact Q8 (by rw[h0];rfl) hz
      ·exact⟨z',x,by rw[h0];simp⟩
     have uq:s.z.length=z'.length+1:=by rw[Kq];simp
     have lF:s.z.reverse.map (·.s)=x.s::z'.reverse.map (·.s):=by rw[Kq];simp
     obtain⟨oa,Vx,_⟩:=Wc.sl.at_ (by omega:0<s.z.length);have om:Qj (some oa)=Qj s.A:=by rw[Vx]
     have wX:Own w9 base WA 6 (some oa) s.z.length s.c (V3 z'++x.cells):=by rw[<-Vx,<-mC,<-Kq];exact Wc
     have eW:x∈s.z:=by rw[Kq];simp
     have Yc:=qe (hI.zx x eW);have Xr:=qe (hI.zy x eW);have Jq:=An z';have Dk:∀i,TS p s.m i->i<w9.heap.size:=h9.hiT
     refine Qi ((z'.length:Nat):Int) (by omega) (by omega) ?_;rw[Vx];refine JO (j:=z'.length) (by omega) ?_;rw[show z'.length*6=(V3 z').length from Jq.symm];refine Q9 (by rw[nt];decide) ?_;have yh:decide (Qe l=(⟨#[35,101,108,115,101]⟩:ByteArray))=true:=XR (by rw[nt];rfl);refine XO (PV s.m ⟨v.d+s.z.length,n,s.ln+1,n::v.rd,s.g⟩ oa s.z.length s.c (V3 z') x (decide (Qe l=(⟨#[35,101,108,115,101]⟩:ByteArray))) [] w9 hP h9 wX (by rw[om];exact ye) (by rw[Jq];omega) Xr (λx hx=>by cases hx) (by decide) gQ) ?_ ?_
     rotate_left
     ·rintro ch QJ ⟨e,he,rfl,Jk⟩;refine Xi ⟨e,n,((s.ln+1:Nat):Int)⟩ _ QJ ?_ rfl (Jk.mono (λi hi=>.inl (.inr (.inl (by rw[<-om];exact hi)))));rw[yh] at he;rw[<-QX,Fq X3,lF];rcases he with⟨h1,rfl⟩ | ⟨_,h2,_⟩
      ·simp only[h1,if_true]
      ·cases h2
     rintro u QJ ⟨nX,Jk,ay⟩;rw[yh,Qf rfl] at ay;obtain⟨rfl,HG⟩:=ay
     let zn:SeV:=⟨{x.s with ot:=true},x.x,x.y⟩
     let nk:DV:=x.y
     let no:BF:=x.s.re
     rw[om] at Jk;have HH:=bG.mod Jk nbA;have XN:Rr w0 QJ base p s.m ⟨v.d+s.z.length,n,s.ln+1,n::v.rd,s.g⟩:=h9.modT Jk ye og LC (λi hi=>.inl hi) (λi hi=>VQ (h9.tt i hi) Jk.size);refine Qz HH rfl (sc rfl) (λQG wY _ ZZ=>?_);have ZV:Mod (·=w.heap.size) QJ QG:=mQW wY rfl;have ZK:Rr w0 QG base p s.m ⟨v.d+s.z.length,n,s.ln+1,n::v.rd,s.g⟩:=XN.modT ZV (λi hi=>by rw[hI.tt];exact .inr (.inr hi)) (λi hi=>by subst hi;exact nbk) (λi hi=>by have:=h.e0.size;omega) (λi hi=>.inl hi) (λi hi=>VQ (XN.tt i hi) ZV.size);refine XP ZK.blk (show 8<11 by decide) (λXg YC Vg=>?_);have XY:Rr w0 Xg base p s.m ⟨v.d+s.z.length,n,s.ln+1,n::v.rd,{s.g with fr:=true}⟩:=ZK.put YC Vg rfl rfl rfl (λe=>by cases e);have yi:Mod (Jh p s.m s.A w.heap.size) QJ Xg:=(ZV.mono (S':=Jh p s.m s.A w.heap.size) (λi hi=>.inl (.inr (.inr hi)))).trans YC (λi hi=>.inl (.inl (.inl hi)));have yj:Mod (Jh p s.m s.A w.heap.size) w9 Xg:=(Jk.mono (S':=Jh p s.m s.A w.heap.size) (λi hi=>.inl (.inr (.inl hi)))).trans yi (λi hi=>.inl hi);have oq:Mod (Jh p s.m s.A w.heap.size) w7 Xg:=eF.trans yj (λi hi=>.inl hi);have Vk:(z'++ [zn]).length=s.z.length:=by rw[uq];simp
     let s':LS:=⟨nk,no,z'++ [zn],s.m,{s.g with fr:=true},s.ln+1,s.at_+l.length+1,ls,s.A,s.c⟩
     have kp:∀{x:DV} {o:BF},DgO w7 (TS p s.m) p.nm.length x o->DgO Xg (TS p s'.m) p.nm.length x o:=λhx=>hI.kp (s':=s') oq hI.tt (Moved.refl _ _) (Moved.refl _ _) (Moved.refl _ _) hx
     have fresh:∀(x:DV) (ox:BF),(∀i,Qj x.A i->w9.heap.size<=i)->SB QJ x.A x.n x.c x.nd->Set1 p.nm.length x.nd x.r ox->DgO Xg (TS p s'.m) p.nm.length x ox:=λx ox hr hx hs=>by
      have e1:DgO QJ (TS p s.m) p.nm.length x ox:=⟨hx,hs,λad e _ hh=>by have:=hr _ ⟨ad,e,rfl⟩;have:=Dk _ hh;omega⟩
      exact e1.step (yi.mono (λi hi=>.inl (hI.sub i hi))) (λi hi=>.inl hi)
     refine⟨s',?_,?_,?_⟩
     ·show Has _ _;simp only[s',Vk];rw[Vx]<;>rfl
     ·refine hI.go (s':=s') jq oq ?_ hI.tt (Moved.refl _ _) (Moved.refl _ _) (Moved.refl _ _) ?_ ?_ ?_ ?_ ?_ KC rfl ?_ ?_ rfl
      ·show Rr w0 Xg base p _ ⟨v.d+(z'++ [zn]).length,n,s.ln+1,n::v.rd,{s.g with fr:=true}⟩;rw[Vk];exact XY
      ·exact ZZ.mod YC npr
      ·exact kp (hI.zy x eW)
      ·show Own Xg base WA 6 s.A (z'++ [zn]).length s.c (V3 (z'++ [zn]));rw[Vk,mC];have HI:Own QJ base WA 6 s.A s.z.length s.c (V3 z'++zn.cells):=by rw[Vx];exact HG
       exact(HI.mod ZV (λi hi e=>by subst e;exact nbA hi)).mod YC nopr
      ·intro z hz;simp only[s',Xw,QL] at hz;rcases hz with hz | rfl
       ·exact kp (hI.zx z (by rw[Kq];simp[hz]))
       ·exact kp (hI.zx x eW)
      ·intro z hz;simp only[s',Xw,QL] at hz;rcases hz with hz | rfl
       ·exact kp (hI.zy z (by rw[Kq];simp[hz]))
       ·exact kp (hI.zy x eW)
      ·rw[Fq X3,lF] at QX;simp only[nX] at QX;rw[<-QX];simp[s',zn,no]
      ·show v.d+(z'++ [zn]).length<=64;rw[Vk];omega
     ·show ls.length<(l::ls).length;simp
    by_cases nu:l=Xx
    ·have X3:ZN l= .en:=by rw[nu]<;>rfl
     have Xf:32∉l:=by rw[nu];decide
     have Jy:JF l=Xx:=by rw[Fa Xf,nu]
     refine Q9 (by rw[Jy];decide) ?_;refine Q9 (by rw[Jy];decide) ?_;refine Q9 (by rw[Jy];decide) ?_;refine Q9 (by rw[nu];decide) ?_;refine XH (by rw[nu];rfl) ?_;refine Zh (λhz=>?_) (λhz=>?_)
     ·have kW:s.z=[]:=aA (by omega);refine XO (W9 72 w9 h9) (λ_ _ hf=>hf.elim) ?_;rintro ch QJ ⟨rfl,ZJ⟩;refine Xi ⟨72,n,((s.ln+1:Nat):Int)⟩ _ QJ ?_ rfl (Mod.of_ext _ ZJ);rw[<-QX,PW X3,kW]<;>rfl
     obtain⟨z',x,Kq⟩:∃z' x,s.z=z'++ [x]:=by
      rcases oK s.z with h0 | ⟨z',x,h0⟩
      ·exact Q8 (by rw[h0];rfl) hz
      ·exact⟨z',x,by rw[h0];simp⟩
     have uq:s.z.length=z'.length+1:=by rw[Kq];simp
     have lF:s.z.reverse.map (·.s)=x.s::z'.reverse.map (·.s):=by rw[Kq];simp
     obtain⟨oa,Vx,_⟩:=Wc.sl.at_ (by omega:0<s.z.length);have om:Qj (some oa)=Qj s.A:=by rw[Vx]
     have wX:Own w9 base WA 6 (some oa) s.z.length s.c (V3 z'++x.cells):=by rw[<-Vx,<-mC,<-Kq];exact Wc
     have eW:x∈s.z:=by rw[Kq];simp
     have Yc:=qe (hI.zx x eW);have Xr:=qe (hI.zy x eW);have Jq:=An z';have Dk:∀i,TS p s.m i->i<w9.heap.size:=h9.hiT
     refine Qi ((z'.length:Nat):Int) (by omega) (by omega) ?_;rw[Vx];refine JO (j:=z'.length) (by omega) ?_;rw[show z'.length*6=(V3 z').length from Jq.symm];refine XH (by rw[nu];rfl) ?_;refine Kr (vs:=x.x.cells) rfl (λi u hi=>?_) ?_
     ·show w9.cell? (((oa.add (V3 z').length).add 0).add i)=some u;rw[add_add];refine vM wX (by omega) (vN ?_)
      match i,hi with
      | 0,hi=>exact hi
      | 1,hi=>exact hi
      | _+2,hi=>exact nomatch hi
     refine Qz bG rfl (sc rfl) (λQJ kZ _ Km=>?_);have Zp:Mod (·=w.heap.size) w9 QJ:=mQW kZ rfl;have XN:Rr w0 QJ base p s.m ⟨v.d+s.z.length,n,s.ln+1,n::v.rd,s.g⟩:=h9.modT Zp (λi hi=>by rw[hI.tt];exact .inr (.inr hi)) (λi hi=>by subst hi;exact nbk) (λi hi=>by have:=h.e0.size;omega) (λi hi=>.inl hi) (λi hi=>VQ (h9.tt i hi) Zp.size);refine Qi ((z'.length:Nat):Int) (by omega) (by omega) ?_;refine jI (h:=z'.length) Qa rfl rfl rfl rfl rfl rfl (by have:=Wc.sl.le;omega) ?_;refine Qp XN.blk rfl ?_;refine Qi ((v.d+z'.length:Nat):Int) (by show((v.d+s.z.length:Nat):Int)-1=_;omega) (by omega) ?_;refine XP XN.blk (show 4<11 by decide) (λQG kX ZZ=>?_);have ZK:Rr w0 QG base p s.m ⟨v.d+z'.length,n,s.ln+1,n::v.rd,s.g⟩:=XN.put kX ZZ rfl rfl rfl XN.nf;refine XP ZK.blk (show 8<11 by decide) (λXg YC Vg=>?_);have XY:Rr w0 Xg base p s.m ⟨v.d+z'.length,n,s.ln+1,n::v.rd,{s.g with fr:=true}⟩:=ZK.put YC Vg rfl rfl rfl (λe=>by cases e);have HJ:Mod (·=p.r) QJ Xg:=kX.trans YC (λi hi=>.inl hi);have yj:Mod (Jh p s.m s.A w.heap.size) w9 Xg:=(Zp.mono (S':=Jh p s.m s.A w.heap.size) (λi hi=>.inl (.inr (.inr hi)))).trans HJ (λi hi=>.inl (.inl (.inl hi)));have oq:Mod (Jh p s.m s.A w.heap.size) w7 Xg:=eF.trans yj (λi hi=>.inl hi)
     let s':LS:=⟨x.x,x.s.ou,z',s.m,{s.g with fr:=true},s.ln+1,s.at_+l.length+1,ls,s.A,s.c⟩
     have kp:∀{x:DV} {o:BF},DgO w7 (TS p s.m) p.nm.length x o->DgO Xg (TS p s'.m) p.nm.length x o:=λhx=>hI.kp (s':=s') oq hI.tt (Moved.refl _ _) (Moved.refl _ _) (Moved.refl _ _) hx
     refine⟨s',?_,?_,?_⟩
     ·show Has _ _;simp only[s'];rw[Vx]<;>rfl
     ·refine hI.go (s':=s') jq oq XY hI.tt (Moved.refl _ _) (Moved.refl _ _) (Moved.refl _ _) (Km.mod HJ npr) (kp (hI.zx x eW)) ?_ (λz hz=>kp (hI.zx z (by rw[Kq];simp[show z∈z' from hz]))) (λz hz=>kp (hI.zy z (by rw[Kq];simp[show z∈z' from hz]))) KC rfl ?_ ?_ rfl
      ·have ht:=Wc.take (k:=z'.length) (by omega);rw[Kq,mC,List.take_left' (by rw[Jq])] at ht;exact(ht.mod Zp (λi hi e=>by subst e;exact nbA hi)).mod HJ nopr
      ·rw[PW X3,lF] at QX;rw[<-QX]
      ·show v.d+z'.length<=64;omega
     ·show ls.length<(l::ls).length;simp
    have X3:ZN l= .txt:=by rw[lQk,if_neg nt,if_neg nu]
    have BG:¬Qe l=(⟨#[35,101,108,115,101]⟩:ByteArray):=λe=>nt (Jc fJ (by decide) e)
    have BH:¬Qe l=(⟨#[35,101,110,100]⟩:ByteArray):=λe=>nu (Jc fJ (by decide) e)
    have nv:∀x∈JF l,x<256:=λx hx=>fJ x ((DD _).subset hx)
    by_cases q1:JF l=mz
    ·refine XH (by rw[q1];rfl) ?_;refine Q9 (λe=>P1 ⟨q1,nY.1 e⟩) ?_;refine Q9 (by rw[q1];decide) ?_;refine Q9 (by rw[q1];decide) ?_;refine Q9 BG ?_;refine Q9 BH ?_;have JW:=Ext.drew w9;refine oY Qa 7 (by kernel_rfl) ?_;refine Ke (v':=.string (Qe (l++ [10]))) ⟨by omega,by omega,by rw[Xu];omega⟩ ?_ ?_
     ·rw[KN];simp only[fc];rw[f9,show s.at_+l.length+1-s.at_=l.length+1 by omega,l5]
     refine Xq (vs:=s.k.cells) rfl (λw' Qb j u hj=>by subst Qb;rw[(bG.ext JW).cell];exact hj) ?_;have rg:=h9.ext JW;have rh:DgO w9.drew (RS p s.m) p.nm.length s.k s.o:=⟨dt.sb.ext JW,dt.st,λad e h0 hh=>dt.off ad e h0 (.inl hh)⟩
     refine XO (add_fn s.m ⟨v.d+s.z.length,n,s.ln+1,n::v.rd,s.g⟩ (l++ [10]) s.at_ s.k s.o w9.drew hP rg rh (λx hx=>by
      rcases Xw.1 hx with hx | hx
      ·exact fJ x hx
      ·simp only[QL] at hx;omega) (by rw[Qu];simp;omega) (MB _ _)) ?_ ?_
     rotate_left
     ·rintro ch QJ ⟨hg,rfl,ZJ⟩;refine Xi ⟨2,n,((s.ln+1:Nat):Int)⟩ _ QJ ?_ rfl (Mod.of_ext _ (JW.trans ZJ));rw[<-QX,mB X3,show VZ (l++ [10]) n s.at_ s.o s.g=none from hg]
     rintro _ QJ ⟨g',Vw,m',fT,XN,Jk,qp,qq⟩;have ri:Mod (Jh p s.m s.A w.heap.size) w9 QJ:=(Mod.of_ext _ JW).trans Jk (λi hi=>.inl (.inl hi));have il:Mod (Jh p s.m s.A w.heap.size) w7 QJ:=eF.trans ri (λi hi=>.inl hi);have yk:=JW.size;have KI:Moved w7 s.m.OA m'.OA:=qp.back (by omega);have dv:Moved w7 s.m.BA m'.BA:=qq.back (by omega)
     let s':LS:=⟨s.k,s.o,s.z,m',g',s.ln+1,s.at_+l.length+1,ls,s.A,s.c⟩
     have Wb:s'.m.T=λi=>m.T i∨Qj s'.A i∨i=w.heap.size:=by show m'.T=_;rw[fT,hI.tt]
     have kp:∀{x:DV} {o:BF},DgO w7 (TS p s.m) p.nm.length x o->DgO QJ (TS p s'.m) p.nm.length x o:=λhx=>hI.kp (s':=s') il Wb (Moved.refl _ _) KI dv hx
     refine⟨s',rfl,?_,?_⟩
     ·refine hI.go (s':=s') jq il XN Wb (Moved.refl _ _) KI dv ((bG.ext JW).mod Jk nbk) (kp hI.kd) ((Wc.ext JW).mod Jk og) (λz hz=>kp (hI.zx z hz)) (λz hz=>kp (hI.zy z hz)) KC rfl ?_ Yp rfl;rw[mB X3,show VZ (l++ [10]) n s.at_ s.o s.g=some g' from Vw] at QX;exact QX
     ·show ls.length<(l::ls).length;simp
    refine Q9 (λe=>q1 (Jc nv (by decide) e)) ?_;by_cases q2:JF l=px
    ·refine XH (by rw[q2];rfl) ?_;refine Q9 (λe=>P2 ⟨q2,nY.1 e⟩) ?_;refine Q9 (by rw[q2];decide) ?_;refine Q9 BG ?_;refine Q9 BH ?_;have JW:=Ext.drew w9;refine oY Qa 7 (by kernel_rfl) ?_;refine Ke (v':=.string (Qe (l++ [10]))) ⟨by omega,by omega,by rw[Xu];omega⟩ ?_ ?_
     ·rw[KN];simp only[fc];rw[f9,show s.at_+l.length+1-s.at_=l.length+1 by omega,l5]
     refine Xq (vs:=s.k.cells) rfl (λw' Qb j u hj=>by subst Qb;rw[(bG.ext JW).cell];exact hj) ?_;have rg:=h9.ext JW;have rh:DgO w9.drew (RS p s.m) p.nm.length s.k s.o:=⟨dt.sb.ext JW,dt.st,λad e h0 hh=>dt.off ad e h0 (.inl hh)⟩
     refine XO (add_fn s.m ⟨v.d+s.z.length,n,s.ln+1,n::v.rd,s.g⟩ (l++ [10]) s.at_ s.k s.o w9.drew hP rg rh (λx hx=>by
      rcases Xw.1 hx with hx | hx
      ·exact fJ x hx
      ·simp only[QL] at hx;omega) (by rw[Qu];simp;omega) (MB _ _)) ?_ ?_
     rotate_left
     ·rintro ch QJ ⟨hg,rfl,ZJ⟩;refine Xi ⟨2,n,((s.ln+1:Nat):Int)⟩ _ QJ ?_ rfl (Mod.of_ext _ (JW.trans ZJ));rw[<-QX,mB X3,show VZ (l++ [10]) n s.at_ s.o s.g=none from hg]
     rintro _ QJ ⟨g',Vw,m',fT,XN,Jk,qp,qq⟩;have ri:Mod (Jh p s.m s.A w.heap.size) w9 QJ:=(Mod.of_ext _ JW).trans Jk (λi hi=>.inl (.inl hi));have il:Mod (Jh p s.m s.A w.heap.size) w7 QJ:=eF.trans ri (λi hi=>.inl hi);have yk:=JW.size;have KI:Moved w7 s.m.OA m'.OA:=qp.back (by omega);have dv:Moved w7 s.m.BA m'.BA:=qq.back (by omega)
     let s':LS:=⟨s.k,s.o,s.z,m',g',s.ln+1,s.at_+l.length+1,ls,s.A,s.c⟩
     have Wb:s'.m.T=λi=>m.T i∨Qj s'.A i∨i=w.heap.size:=by show m'.T=_;rw[fT,hI.tt]
     have kp:∀{x:DV} {o:BF},DgO w7 (TS p s.m) p.nm.length x o->DgO QJ (TS p s'.m) p.nm.length x o:=λhx=>hI.kp (s':=s') il Wb (Moved.refl _ _) KI dv hx
     refine⟨s',rfl,?_,?_⟩
     ·refine hI.go (s':=s') jq il XN Wb (Moved.refl _ _) KI dv ((bG.ext JW).mod Jk nbk) (kp hI.kd) ((Wc.ext JW).mod Jk og) (λz hz=>kp (hI.zx z hz)) (λz hz=>kp (hI.zy z hz)) KC rfl ?_ Yp rfl;rw[mB X3,show VZ (l++ [10]) n s.at_ s.o s.g=some g' from Vw] at QX;exact QX
     ·show ls.length<(l::ls).length;simp
    refine Q9 (λe=>q2 (Jc nv (by decide) e)) ?_;by_cases q3:JF l=sI
    ·refine XH (by rw[q3];rfl) ?_;refine Q9 (λe=>P3 ⟨q3,nY.1 e⟩) ?_;refine Q9 BG ?_;refine Q9 BH ?_;have JW:=Ext.drew w9;refine oY Qa 7 (by kernel_rfl) ?_;refine Ke (v':=.string (Qe (l++ [10]))) ⟨by omega,by omega,by rw[Xu];omega⟩ ?_ ?_
     ·rw[KN];simp only[fc];rw[f9,show s.at_+l.length+1-s.at_=l.length+1 by omega,l5]
     refine Xq (vs:=s.k.cells) rfl (λw' Qb j u hj=>by subst Qb;rw[(bG.ext JW).cell];exact hj) ?_;have rg:=h9.ext JW;have rh:DgO w9.drew (RS p s.m) p.nm.length s.k s.o:=⟨dt.sb.ext JW,dt.st,λad e h0 hh=>dt.off ad e h0 (.inl hh)⟩
     refine XO (add_fn s.m ⟨v.d+s.z.length,n,s.ln+1,n::v.rd,s.g⟩ (l++ [10]) s.at_ s.k s.o w9.drew hP rg rh (λx hx=>by
      rcases Xw.1 hx with hx | hx
      ·exact fJ x hx
      ·simp only[QL] at hx;omega) (by rw[Qu];simp;omega) (MB _ _)) ?_ ?_
     rotate_left
     ·rintro ch QJ ⟨hg,rfl,ZJ⟩;refine Xi ⟨2,n,((s.ln+1:Nat):Int)⟩ _ QJ ?_ rfl (Mod.of_ext _ (JW.trans ZJ));rw[<-QX,mB X3,show VZ (l++ [10]) n s.at_ s.o s.g=none from hg]
     rintro _ QJ ⟨g',Vw,m',fT,XN,Jk,qp,qq⟩;have ri:Mod (Jh p s.m s.A w.heap.size) w9 QJ:=(Mod.of_ext _ JW).trans Jk (λi hi=>.inl (.inl hi));have il:Mod (Jh p s.m s.A w.heap.size) w7 QJ:=eF.trans ri (λi hi=>.inl hi);have yk:=JW.size;have KI:Moved w7 s.m.OA m'.OA:=qp.back (by omega);have dv:Moved w7 s.m.BA m'.BA:=qq.back (by omega)
     let s':LS:=⟨s.k,s.o,s.z,m',g',s.ln+1,s.at_+l.length+1,ls,s.A,s.c⟩
     have Wb:s'.m.T=λi=>m.T i∨Qj s'.A i∨i=w.heap.size:=by show m'.T=_;rw[fT,hI.tt]
     have kp:∀{x:DV} {o:BF},DgO w7 (TS p s.m) p.nm.length x o->DgO QJ (TS p s'.m) p.nm.length x o:=λhx=>hI.kp (s':=s') il Wb (Moved.refl _ _) KI dv hx
     refine⟨s',rfl,?_,?_⟩
     ·refine hI.go (s':=s') jq il XN Wb (Moved.refl _ _) KI dv ((bG.ext JW).mod Jk nbk) (kp hI.kd) ((Wc.ext JW).mod Jk og) (λz hz=>kp (hI.zx z hz)) (λz hz=>kp (hI.zy z hz)) KC rfl ?_ Yp rfl;rw[mB X3,show VZ (l++ [10]) n s.at_ s.o s.g=some g' from Vw] at QX;exact QX
     ·show ls.length<(l::ls).length;simp
    ·refine Q9 (λe=>q3 (Jc nv (by decide) e)) ?_;refine Q9 BG ?_;refine Q9 BH ?_;have JW:=Ext.drew w9;refine oY Qa 7 (by kernel_rfl) ?_;refine Ke (v':=.string (Qe (l++ [10]))) ⟨by omega,by omega,by rw[Xu];omega⟩ ?_ ?_
     ·rw[KN];simp only[fc];rw[f9,show s.at_+l.length+1-s.at_=l.length+1 by omega,l5]
     refine Xq (vs:=s.k.cells) rfl (λw' Qb j u hj=>by subst Qb;rw[(bG.ext JW).cell];exact hj) ?_;have rg:=h9.ext JW;have rh:DgO w9.drew (RS p s.m) p.nm.length s.k s.o:=⟨dt.sb.ext JW,dt.st,λad e h0 hh=>dt.off ad e h0 (.inl hh)⟩
     refine XO (add_fn s.m ⟨v.d+s.z.length,n,s.ln+1,n::v.rd,s.g⟩ (l++ [10]) s.at_ s.k s.o w9.drew hP rg rh (λx hx=>by
      rcases Xw.1 hx with hx | hx
      ·exact fJ x hx
      ·simp only[QL] at hx;omega) (by rw[Qu];simp;omega) (MB _ _)) ?_ ?_
     rotate_left
     ·rintro ch QJ ⟨hg,rfl,ZJ⟩;refine Xi ⟨2,n,((s.ln+1:Nat):Int)⟩ _ QJ ?_ rfl (Mod.of_ext _ (JW.trans ZJ));rw[<-QX,mB X3,show VZ (l++ [10]) n s.at_ s.o s.g=none from hg]
     rintro _ QJ ⟨g',Vw,m',fT,XN,Jk,qp,qq⟩;have ri:Mod (Jh p s.m s.A w.heap.size) w9 QJ:=(Mod.of_ext _ JW).trans Jk (λi hi=>.inl (.inl hi));have il:Mod (Jh p s.m s.A w.heap.size) w7 QJ:=eF.trans ri (λi hi=>.inl hi);have yk:=JW.size;have KI:Moved w7 s.m.OA m'.OA:=qp.back (by omega);have dv:Moved w7 s.m.BA m'.BA:=qq.back (by omega)
     let s':LS:=⟨s.k,s.o,s.z,m',g',s.ln+1,s.at_+l.length+1,ls,s.A,s.c⟩
     have Wb:s'.m.T=λi=>m.T i∨Qj s'.A i∨i=w.heap.size:=by show m'.T=_;rw[fT,hI.tt]
     have kp:∀{x:DV} {o:BF},DgO w7 (TS p s.m) p.nm.length x o->DgO QJ (TS p s'.m) p.nm.length x o:=λhx=>hI.kp (s':=s') il Wb (Moved.refl _ _) KI dv hx
     refine⟨s',rfl,?_,?_⟩
     ·refine hI.go (s':=s') jq il XN Wb (Moved.refl _ _) KI dv ((bG.ext JW).mod Jk nbk) (kp hI.kd) ((Wc.ext JW).mod Jk og) (λz hz=>kp (hI.zx z hz)) (λz hz=>kp (hI.zy z hz)) KC rfl ?_ Yp rfl;rw[mB X3,show VZ (l++ [10]) n s.at_ s.o s.g=some g' from Vw] at QX;exact QX
     ·show ls.length<(l::ls).length;simp
end
end
section
section
structure FileB (x:List Nat×List Nat):Prop where
 n8:∀b∈x.1,b<256
 t8:∀b∈x.2,b<256
 nl:x.1.length<=9223372036854775807
 tl:x.2.length<=9223372036854775807
def mE (q:Pl):List Value:=[.int .i64 q.e,.int .i64 q.f,.int .i64 q.l]
def plO (o:Option Pl):Pl:=o.getD ⟨0,0,0⟩
def badB (b:Nat):Bool:=decide (b<32)||b==34||b==127
theorem fQ4 (s:List Nat):pw s=(decide (s≠ []) && !(s.any badB)):=by
 unfold pw;congr 1;rw[List.any_eq_not_all_not,Bool.not_not];congr 1;funext b;unfold badB;have e:decide (32<=b)= !decide (b<32):=by by_cases h:b<32<;>simp[h]<;>omega
 rw[e];by_cases h1:b=34<;>by_cases h2:b=127<;>by_cases h3:b<32<;>simp[h1,h2,h3,bne]
def aa (x:List Nat×List Nat)(seen:List (List Nat)):Bool:=decide (x.1=[])||decide (x.1∈seen)||(decide (x.2≠ [])&&x.2.getLast? !=some 10)
theorem Ao (x:List Nat×List Nat)(seen:List (List Nat)):(aa x seen||x.1.any badB)=true↔¬(pw x.1=true/\x.1∉seen/\aG x.2=true):=by
 rw[fQ4];unfold aa aG;by_cases h1:x.1=[]<;>by_cases h2:x.1∈seen<;>by_cases h3:x.2=[]<;>by_cases h4:x.2.getLast? =some 10<;>simp[h1,h2,h3,h4]
structure CkI (w0:World) (q:Nat) (fs:List (List Nat×List Nat)) (res:Option Pl) (i:Nat) (w:World):Prop where
 e:Ext w0 w
 mp:∃m,MapAt VV w q m/\∀s:List Nat,(∀x∈s,x<256)->Xv (Qe s) m=if s∈(fs.take i).map (·.1)then some (.bool true)else none
 rs:dV (fs.drop i) ((fs.take i).map (·.1)) i=res
 le:i<=fs.length
 qo:w0.heap.size<=q
theorem CkI.ext {w0 w w':World}{q:Nat}{fs:List (List Nat×List Nat)}{res:Option Pl}{i:Nat}(h:CkI w0 q fs res i w)(k:Ext w w'):CkI w0 q fs res i w':=⟨h.e.trans k,let ⟨m,h1,h2⟩:=h.mp;⟨m,h1.ext k,h2⟩,h.rs,h.le,h.qo⟩
theorem fQ5 (fs:List (List Nat×List Nat))(FA:Option Addr)(nf cf:Nat)(w:World)(h:SlS gr 2 w FA nf cf fs)(hb:∀x∈fs,FileB x)(hnf:nf<=1000000000000):
  Fn Tryz.prog 90 [.slice FA nf cf] w (λu w'=>u= .agg (mE (plO (Wv fs))).toArray/\Ext w w'):=by
 have Xd:=h.2;refine QD (c:={c90 with cuts:=[]}) Qa Tryz.func90 rfl rfl rfl ?_;refine new (λw1 Qd Q3 Qh=>?_);refine Qy (λc1=>?_) (λc1=>?_)
 ·refine Qz Qh rfl (sc rfl) (λw2 gE _ Qw=>?_);refine Qs Qw rfl ?_;refine⟨?_,X9 Qd Qh gE⟩;unfold Wv;rw[Qf (by omega)]<;>rfl
 have K8:Wv fs=dV fs [] 0:=by unfold Wv;rw[if_neg (by omega)]
 refine uW Qa VV rfl (λw2 Qg Zb XQ=>?_);have Q7:=Qd.trans Qg;refine loop Qa [15] (λi:Nat=>[.int .i64 i]) (λi w'=>CkI w1 w1.heap.size fs (Wv fs) i w') (λi _=>fs.length-i) 0 rfl ⟨Qg,⟨[],XQ,λs _=>by simp[Xv]⟩,by rw[K8];rfl,XJ _,QC _⟩ ?_;rintro i w3 hI;have QW:Ext w w3:=Qd.trans hI.e;refine Qy (λc2=>?_) (λc2=>?_)
 ·have hi:i<nf:=by omega
  refine Zw Fi (h.ext QW) rfl hi (λpp x hx hc=>?_);refine Kr (vs:=gr x) rfl hc ?_;refine new (λw4 Qq KY Q4=>?_);refine Qz Q4 rfl (sc rfl) (λw5 Jw _ QK=>?_);have J6:Ext w3 w5:=X9 Qq Q4 Jw;have wZ:=hI.ext J6;obtain⟨m,XS,q9⟩:=wZ.mp;have Ja:=hb x (QO hx);have az:=XF x.1;have fL:=XF x.2;have KB:=Ja.nl;refine Qp QK rfl ?_;by_cases p1:x.1=[]
  ·refine XH (by rw[p1];rfl) ?_;refine Qp QK rfl ?_;have e0:aa x ((fs.take i).map (·.1))=true:=by simp[aa,p1]
   refine loop Qa [47,6] (λs:Nat×Bool=>[.int .i64 s.1,.bool s.2]) (λs w'=>Ext w5 w'/\s.1<=x.1.length/\s.2=(aa x ((fs.take i).map (·.1))||(x.1.take s.1).any badB)) (λs _=>x.1.length-s.1) (0,true) rfl ⟨Ext.refl _,XJ _,by rw[e0];simp⟩ ?_;rintro⟨k,b⟩ w6 ⟨Zy,hk,Vj⟩;simp only at hk Vj;have JJ:=wZ.ext Zy;have Xo:=QK.ext Zy;refine Qy (λc3=>?_) (λc3=>?_)
   ·have Jl:k<x.1.length:=by rw[az] at c3;simp only at c3;omega
    obtain⟨y,hy⟩:∃y,x.1[k]? =some y:=⟨_,Xn Jl⟩
    have cI:(x.1.take (k+1)).any badB=((x.1.take k).any badB||badB y):=by
     rw[VT,hy];simp
    have fin:∀b',b'=(b||badB y)->b'=(aa x ((fs.take i).map (·.1))||(x.1.take (k+1)).any badB):=λb' e=>by rw[e,Vj,cI,DK]
    cases b with
    | true=>
     refine Xa rfl ?_;refine Qi ((k+1:Nat):Int) (by show((k:Nat):Int)+1=_;omega) (by omega) ?_;exact⟨(k+1,true),rfl,⟨Zy,Jl,fin true rfl⟩,by show x.1.length-(k+1)<x.1.length-k;omega⟩
    | false=>
     have idx:∀K:Int->Prop,K (y:Int)->dM (Qe x.1) ((k:Nat):Int) K:=λK hK=>by
      refine cO (by rw[az];exact Jl) (λz hz _=>?_);rw[Wp Ja.n8,hy] at hz;cases hz;exact hK
     refine Q5 rfl ?_;refine Qp Xo rfl ?_;refine idx _ ?_;refine Qy (λd1=>?_) (λd1=>?_)
     ·refine Qi ((k+1:Nat):Int) (by show((k:Nat):Int)+1=_;omega) (by omega) ?_;exact⟨(k+1,true),rfl,⟨Zy,Jl,fin true (by
                                have:y<32:=by omega
                                simp[badB,this])⟩,by show x.1.length-(k+1)<x.1.length-k;omega⟩
     refine Qp Xo rfl ?_;refine idx _ ?_;refine Zh (λd2=>?_) (λd2=>?_)
     ·refine Qi ((k+1:Nat):Int) (by show((k:Nat):Int)+1=_;omega) (by omega) ?_;exact⟨(k+1,true),rfl,⟨Zy,Jl,fin true (by
                                have:y=34:=by omega
                                simp[badB,this])⟩,by show x.1.length-(k+1)<x.1.length-k;omega⟩
     refine Qp Xo rfl ?_;refine idx _ ?_;refine Qi ((k+1:Nat):Int) (by show((k:Nat):Int)+1=_;omega) (by omega) ?_;refine⟨(k+1,((y:Int)==127)),rfl,⟨Zy,Jl,fin _ ?_⟩,by show x.1.length-(k+1)<x.1.length-k;omega⟩;have n1:¬y<32:=by omega
     have n2:¬y=34:=by omega
     by_cases n3:y=127
     ·subst n3;rfl
     ·have:((y:Int)==127)=false:=by simp;omega
      rw[this];simp[badB,n1,n2,n3]
   ·have Jl:k=x.1.length:=by rw[az] at c3;simp only at c3;omega
    subst Jl;rw[rA] at Vj;have hall:=Ao x ((fs.take i).map (·.1));have im:fs.drop i=x::fs.drop (i+1):=by
     rw[bR (by omega)];congr 1;exact Option.some.inj ((Xn (by omega)).symm.trans hx)
    have QX:=JJ.rs;rw[im,dV] at QX;have YU:=((Qh.ext hI.e).ext J6).ext Zy;refine Wn (λd1=>?_) (λd1=>?_)
    ·have d1:b=true:=d1;rw[Qf (hall.1 (by rw[<-Vj,d1]))] at QX;refine Qz YU rfl (sc rfl) (λw7 Zu _ Q6=>?_);refine Qs Q6 rfl ?_;have Xb:Mod (·=w.heap.size) w6 w7:=mQW Zu rfl;exact⟨by rw[<-QX];rfl,Xb.ext (Qd.trans JJ.e) (λi hi=>by omega)⟩
    have d1:b=false:=d1;have Zq:=λhh=>(hall.2 hh).symm.trans (Vj.symm.trans d1)
    rw[if_neg (λhh=>by have:=Zq hh;cases this)] at QX;refine Qp Xo rfl ?_;refine Qy (λd2=>?_) (λd2=>?_)
    ·rw[Qf (by omega)] at QX;refine Qz YU rfl (sc rfl) (λw7 Zu _ Q6=>?_);refine Qs Q6 rfl ?_;have Xb:Mod (·=w.heap.size) w6 w7:=mQW Zu rfl;exact⟨by rw[<-QX];rfl,Xb.ext (Qd.trans JJ.e) (λi hi=>by omega)⟩
    rw[if_neg (by omega)] at QX;refine Qp Xo rfl ?_;have Ym:=XS.ext Zy;refine jN (kv:=VV) (a:=Qe x.1) Qa rfl rfl rfl rfl rfl mQX rfl rfl rfl Ym (λw7 Zu WJ J5=>?_);have Xb:Mod (·=w1.heap.size) w6 w7:=mQW Zu rfl;refine Qi ((i+1:Nat):Int) (by show((i:Nat):Int)+1=_;omega) (by omega) ?_;have YX:(fs.take (i+1)).map (·.1)=(fs.take i).map (·.1)++ [x.1]:=by rw[VT,hx];simp
    refine⟨i+1,rfl,⟨Xb.ext JJ.e (λi hi=>by omega),⟨_,J5,λs hs=>?_⟩,by rw[YX];exact QX,by omega,QC _⟩,by show fs.length-(i+1)<fs.length-i;omega⟩;rw[aC,YX];by_cases aU:s=x.1
    ·subst aU;simp
    ·rw[if_neg (λe=>aU (Jc hs Ja.n8 e)),q9 s hs];simp[aU]
  refine Q9 (λe=>p1 (Jc Ja.n8 (by simp) e)) ?_;refine Qp QK rfl ?_;refine EC (kv:=VV) (a:=Qe x.1) (v:=.bool (decide (x.1∈(fs.take i).map (·.1)))) Qa rfl rfl rfl rfl rfl mQX rfl rfl XS (by
   rw[q9 x.1 Ja.n8];by_cases hm:x.1∈(fs.take i).map (·.1)
   ·rw[Qf hm,XR hm]<;>rfl
   ·rw[if_neg hm,X4 hm];rfl) ?_
  by_cases p2:x.1∈(fs.take i).map (·.1)
  ·refine XH p2 ?_;refine Qp QK rfl ?_;have e0:aa x ((fs.take i).map (·.1))=true:=by unfold aa;rw[XR p2];simp
   refine loop Qa [47,6] (λs:Nat×Bool=>[.int .i64 s.1,.bool s.2]) (λs w'=>Ext w5 w'/\s.1<=x.1.length/\s.2=(aa x ((fs.take i).map (·.1))||(x.1.take s.1).any badB)) (λs _=>x.1.length-s.1) (0,true) rfl ⟨Ext.refl _,XJ _,by rw[e0];simp⟩ ?_;rintro⟨k,b⟩ w6 ⟨Zy,hk,Vj⟩;simp only at hk Vj;have JJ:=wZ.ext Zy;have Xo:=QK.ext Zy;refine Qy (λc3=>?_) (λc3=>?_)
   ·have Jl:k<x.1.length:=by rw[az] at c3;simp only at c3;omega
    obtain⟨y,hy⟩:∃y,x.1[k]? =some y:=⟨_,Xn Jl⟩
    have cI:(x.1.take (k+1)).any badB=((x.1.take k).any badB||badB y):=by
     rw[VT,hy];simp
    have fin:∀b',b'=(b||badB y)->b'=(aa x ((fs.take i).map (·.1))||(x.1.take (k+1)).any badB):=λb' e=>by rw[e,Vj,cI,DK]
    cases b with
    | true=>
     refine Xa rfl ?_;refine Qi ((k+1:Nat):Int) (by show((k:Nat):Int)+1=_;omega) (by omega) ?_;exact⟨(k+1,true),rfl,⟨Zy,Jl,fin true rfl⟩,by show x.1.length-(k+1)<x.1.length-k;omega⟩
    | false=>
     have idx:∀K:Int->Prop,K (y:Int)->dM (Qe x.1) ((k:Nat):Int) K:=λK hK=>by
      refine cO (by rw[az];exact Jl) (λz hz _=>?_);rw[Wp Ja.n8,hy] at hz;cases hz;exact hK
     refine Q5 rfl ?_;refine Qp Xo rfl ?_;refine idx _ ?_;refine Qy (λd1=>?_) (λd1=>?_)
     ·refine Qi ((k+1:Nat):Int) (by show((k:Nat):Int)+1=_;omega) (by omega) ?_;exact⟨(k+1,true),rfl,⟨Zy,Jl,fin true (by
                                have:y<32:=by omega
                                simp[badB,this])⟩,by show x.1.length-(k+1)<x.1.length-k;omega⟩
     refine Qp Xo rfl ?_;refine idx _ ?_;refine Zh (λd2=>?_) (λd2=>?_)
     ·refine Qi ((k+1:Nat):Int) (by show((k:Nat):Int)+1=_;omega) (by omega) ?_;exact⟨(k+1,true),rfl,⟨Zy,Jl,fin true (by
                                have:y=34:=by omega
                                simp[badB,this])⟩,by show x.1.length-(k+1)<x.1.length-k;omega⟩
     refine Qp Xo rfl ?_;refine idx _ ?_;refine Qi ((k+1:Nat):Int) (by show((k:Nat):Int)+1=_;omega) (by omega) ?_;refine⟨(k+1,((y:Int)==127)),rfl,⟨Zy,Jl,fin _ ?_⟩,by show x.1.length-(k+1)<x.1.length-k;omega⟩;have n1:¬y<32:=by omega
     have n2:¬y=34:=by omega
     by_cases n3:y=127
     ·subst n3;rfl
     ·have:((y:Int)==127)=false:=by simp;omega
      rw[this];simp[badB,n1,n2,n3]
   ·have Jl:k=x.1.length:=by rw[az] at c3;simp only at c3;omega
    subst Jl;rw[rA] at Vj;have hall:=Ao x ((fs.take i).map (·.1));have im:fs.drop i=x::fs.drop (i+1):=by
     rw[bR (by omega)];congr 1;exact Option.some.inj ((Xn (by omega)).symm.trans hx)
    have QX:=JJ.rs;rw[im,dV] at QX;have YU:=((Qh.ext hI.e).ext J6).ext Zy;refine Wn (λd1=>?_) (λd1=>?_)
    ·have d1:b=true:=d1;rw[Qf (hall.1 (by rw[<-Vj,d1]))] at QX;refine Qz YU rfl (sc rfl) (λw7 Zu _ Q6=>?_);refine Qs Q6 rfl ?_;have Xb:Mod (·=w.heap.size) w6 w7:=mQW Zu rfl;exact⟨by rw[<-QX];rfl,Xb.ext (Qd.trans JJ.e) (λi hi=>by omega)⟩
    have d1:b=false:=d1;have Zq:=λhh=>(hall.2 hh).symm.trans (Vj.symm.trans d1)
    rw[if_neg (λhh=>by have:=Zq hh;cases this)] at QX;refine Qp Xo rfl ?_;refine Qy (λd2=>?_) (λd2=>?_)
    ·rw[Qf (by omega)] at QX;refine Qz YU rfl (sc rfl) (λw7 Zu _ Q6=>?_);refine Qs Q6 rfl ?_;have Xb:Mod (·=w.heap.size) w6 w7:=mQW Zu rfl;exact⟨by rw[<-QX];rfl,Xb.ext (Qd.trans JJ.e) (λi hi=>by omega)⟩
    rw[if_neg (by omega)] at QX;refine Qp Xo rfl ?_;have Ym:=XS.ext Zy;refine jN (kv:=VV) (a:=Qe x.1) Qa rfl rfl rfl rfl rfl mQX rfl rfl rfl Ym (λw7 Zu WJ J5=>?_);have Xb:Mod (·=w1.heap.size) w6 w7:=mQW Zu rfl;refine Qi ((i+1:Nat):Int) (by show((i:Nat):Int)+1=_;omega) (by omega) ?_;have YX:(fs.take (i+1)).map (·.1)=(fs.take i).map (·.1)++ [x.1]:=by rw[VT,hx];simp
    refine⟨i+1,rfl,⟨Xb.ext JJ.e (λi hi=>by omega),⟨_,J5,λs hs=>?_⟩,by rw[YX];exact QX,by omega,QC _⟩,by show fs.length-(i+1)<fs.length-i;omega⟩;rw[aC,YX];by_cases aU:s=x.1
    ·subst aU;simp
    ·rw[if_neg (λe=>aU (Jc hs Ja.n8 e)),q9 s hs];simp[aU]
  refine Q9 p2 ?_;refine Qp QK rfl ?_;by_cases p3:x.2=[]
  ·refine Q5 (by rw[p3];rfl) ?_;refine Qp QK rfl ?_;have e0:aa x ((fs.take i).map (·.1))=false:=by unfold aa;rw[X4 p1,X4 p2,p3]<;>rfl
   refine loop Qa [47,6] (λs:Nat×Bool=>[.int .i64 s.1,.bool s.2]) (λs w'=>Ext w5 w'/\s.1<=x.1.length/\s.2=(aa x ((fs.take i).map (·.1))||(x.1.take s.1).any badB)) (λs _=>x.1.length-s.1) (0,false) rfl ⟨Ext.refl _,XJ _,by rw[e0];simp⟩ ?_;rintro⟨k,b⟩ w6 ⟨Zy,hk,Vj⟩;simp only at hk Vj;have JJ:=wZ.ext Zy;have Xo:=QK.ext Zy;refine Qy (λc3=>?_) (λc3=>?_)
   ·have Jl:k<x.1.length:=by rw[az] at c3;simp only at c3;omega
    obtain⟨y,hy⟩:∃y,x.1[k]? =some y:=⟨_,Xn Jl⟩
    have cI:(x.1.take (k+1)).any badB=((x.1.take k).any badB||badB y):=by
     rw[VT,hy];simp
    have fin:∀b',b'=(b||badB y)->b'=(aa x ((fs.take i).map (·.1))||(x.1.take (k+1)).any badB):=λb' e=>by rw[e,Vj,cI,DK]
    cases b with
    | true=>
     refine Xa rfl ?_;refine Qi ((k+1:Nat):Int) (by show((k:Nat):Int)+1=_;omega) (by omega) ?_;exact⟨(k+1,true),rfl,⟨Zy,Jl,fin true rfl⟩,by show x.1.length-(k+1)<x.1.length-k;omega⟩
    | false=>
     have idx:∀K:Int->Prop,K (y:Int)->dM (Qe x.1) ((k:Nat):Int) K:=λK hK=>by
      refine cO (by rw[az];exact Jl) (λz hz _=>?_);rw[Wp Ja.n8,hy] at hz;cases hz;exact hK
     refine Q5 rfl ?_;refine Qp Xo rfl ?_;refine idx _ ?_;refine Qy (λd1=>?_) (λd1=>?_)
     ·refine Qi ((k+1:Nat):Int) (by show((k:Nat):Int)+1=_;omega) (by omega) ?_;exact⟨(k+1,true),rfl,⟨Zy,Jl,fin true (by
                                have:y<32:=by omega
                                simp[badB,this])⟩,by show x.1.length-(k+1)<x.1.length-k;omega⟩
     refine Qp Xo rfl ?_;refine idx _ ?_;refine Zh (λd2=>?_) (λd2=>?_)
     ·refine Qi ((k+1:Nat):Int) (by show((k:Nat):Int)+1=_;omega) (by omega) ?_;exact⟨(k+1,true),rfl,⟨Zy,Jl,fin true (by
                                have:y=34:=by omega
                                simp[badB,this])⟩,by show x.1.length-(k+1)<x.1.length-k;omega⟩
     refine Qp Xo rfl ?_;refine idx _ ?_;refine Qi ((k+1:Nat):Int) (by show((k:Nat):Int)+1=_;omega) (by omega) ?_;refine⟨(k+1,((y:Int)==127)),rfl,⟨Zy,Jl,fin _ ?_⟩,by show x.1.length-(k+1)<x.1.length-k;omega⟩;have n1:¬y<32:=by omega
     have n2:¬y=34:=by omega
     by_cases n3:y=127
     ·subst n3;rfl
     ·have:((y:Int)==127)=false:=by simp;omega
      rw[this];simp[badB,n1,n2,n3]
   ·have Jl:k=x.1.length:=by rw[az] at c3;simp only at c3;omega
    subst Jl;rw[rA] at Vj;have hall:=Ao x ((fs.take i).map (·.1));have im:fs.drop i=x::fs.drop (i+1):=by
     rw[bR (by omega)];congr 1;exact Option.some.inj ((Xn (by omega)).symm.trans hx)
    have QX:=JJ.rs;rw[im,dV] at QX;have YU:=((Qh.ext hI.e).ext J6).ext Zy;refine Wn (λd1=>?_) (λd1=>?_)
    ·have d1:b=true:=d1;rw[Qf (hall.1 (by rw[<-Vj,d1]))] at QX;refine Qz YU rfl (sc rfl) (λw7 Zu _ Q6=>?_);refine Qs Q6 rfl ?_;have Xb:Mod (·=w.heap.size) w6 w7:=mQW Zu rfl;exact⟨by rw[<-QX];rfl,Xb.ext (Qd.trans JJ.e) (λi hi=>by omega)⟩
    have d1:b=false:=d1;have Zq:=λhh=>(hall.2 hh).symm.trans (Vj.symm.trans d1)
    rw[if_neg (λhh=>by have:=Zq hh;cases this)] at QX;refine Qp Xo rfl ?_;refine Qy (λd2=>?_) (λd2=>?_)
    ·rw[Qf (by omega)] at QX;refine Qz YU rfl (sc rfl) (λw7 Zu _ Q6=>?_);refine Qs Q6 rfl ?_;have Xb:Mod (·=w.heap.size) w6 w7:=mQW Zu rfl;exact⟨by rw[<-QX];rfl,Xb.ext (Qd.trans JJ.e) (λi hi=>by omega)⟩
    rw[if_neg (by omega)] at QX;refine Qp Xo rfl ?_;have Ym:=XS.ext Zy;refine jN (kv:=VV) (a:=Qe x.1) Qa rfl rfl rfl rfl rfl mQX rfl rfl rfl Ym (λw7 Zu WJ J5=>?_);have Xb:Mod (·=w1.heap.size) w6 w7:=mQW Zu rfl;refine Qi ((i+1:Nat):Int) (by show((i:Nat):Int)+1=_;omega) (by omega) ?_;have YX:(fs.take (i+1)).map (·.1)=(fs.take i).map (·.1)++ [x.1]:=by rw[VT,hx];simp
    refine⟨i+1,rfl,⟨Xb.ext JJ.e (λi hi=>by omega),⟨_,J5,λs hs=>?_⟩,by rw[YX];exact QX,by omega,QC _⟩,by show fs.length-(i+1)<fs.length-i;omega⟩;rw[aC,YX];by_cases aU:s=x.1
    ·subst aU;simp
    ·rw[if_neg (λe=>aU (Jc hs Ja.n8 e)),q9 s hs];simp[aU]
  ·have n3:¬Qe x.2=(⟨#[]⟩:ByteArray):=λe=>p3 (Jc Ja.t8 (by simp) e)
   refine Xa (by simp[n3]) ?_;refine Qp QK rfl ?_;refine Qp QK rfl ?_;have YE:=Ja.tl;have jl:0<x.2.length:=yO.2 p3;refine Qi ((x.2.length-1:Nat):Int) (by rw[fL];omega) (by omega) ?_;refine cO (j:=x.2.length-1) (by omega) (λz hz VJ=>?_);rw[Wp Ja.t8] at hz;have od:x.2.getLast? =some z:=by rw[lP];exact hz
   refine Qp QK rfl ?_;have e0:aa x ((fs.take i).map (·.1))=((z:Int) !=10):=by
    unfold aa;rw[X4 p1,X4 p2,XR p3,od];by_cases XN:z=10
    ·subst XN;decide
    ·have e1:((z:Int) !=10)=true:=by simp;omega
     rw[e1];simp[XN]
   refine loop Qa [47,6] (λs:Nat×Bool=>[.int .i64 s.1,.bool s.2]) (λs w'=>Ext w5 w'/\s.1<=x.1.length/\s.2=(aa x ((fs.take i).map (·.1))||(x.1.take s.1).any badB)) (λs _=>x.1.length-s.1) (0,((z:Int) !=10)) rfl ⟨Ext.refl _,XJ _,by rw[e0];simp⟩ ?_;rintro⟨k,b⟩ w6 ⟨Zy,hk,Vj⟩;simp only at hk Vj;have JJ:=wZ.ext Zy;have Xo:=QK.ext Zy;refine Qy (λc3=>?_) (λc3=>?_)
   ·have Jl:k<x.1.length:=by rw[az] at c3;simp only at c3;omega
    obtain⟨y,hy⟩:∃y,x.1[k]? =some y:=⟨_,Xn Jl⟩
    have cI:(x.1.take (k+1)).any badB=((x.1.take k).any badB||badB y):=by
     rw[VT,hy];simp
    have fin:∀b',b'=(b||badB y)->b'=(aa x ((fs.take i).map (·.1))||(x.1.take (k+1)).any badB):=λb' e=>by rw[e,Vj,cI,DK]
    cases b with
    | true=>
     refine Xa rfl ?_;refine Qi ((k+1:Nat):Int) (by show((k:Nat):Int)+1=_;omega) (by omega) ?_;exact⟨(k+1,true),rfl,⟨Zy,Jl,fin true rfl⟩,by show x.1.length-(k+1)<x.1.length-k;omega⟩
    | false=>
     have idx:∀K:Int->Prop,K (y:Int)->dM (Qe x.1) ((k:Nat):Int) K:=λK hK=>by
      refine cO (by rw[az];exact Jl) (λz hz _=>?_);rw[Wp Ja.n8,hy] at hz;cases hz;exact hK
     refine Q5 rfl ?_;refine Qp Xo rfl ?_;refine idx _ ?_;refine Qy (λd1=>?_) (λd1=>?_)
     ·refine Qi ((k+1:Nat):Int) (by show((k:Nat):Int)+1=_;omega) (by omega) ?_;exact⟨(k+1,true),rfl,⟨Zy,Jl,fin true (by
                                have:y<32:=by omega
                                simp[badB,this])⟩,by show x.1.length-(k+1)<x.1.length-k;omega⟩
     refine Qp Xo rfl ?_;refine idx _ ?_;refine Zh (λd2=>?_) (λd2=>?_)
     ·refine Qi ((k+1:Nat):Int) (by show((k:Nat):Int)+1=_;omega) (by omega) ?_;exact⟨(k+1,true),rfl,⟨Zy,Jl,fin true (by
                                have:y=34:=by omega
                                simp[badB,this])⟩,by show x.1.length-(k+1)<x.1.length-k;omega⟩
     refine Qp Xo rfl ?_;refine idx _ ?_;refine Qi ((k+1:Nat):Int) (by show((k:Nat):Int)+1=_;omega) (by omega) ?_;refine⟨(k+1,((y:Int)==127)),rfl,⟨Zy,Jl,fin _ ?_⟩,by show x.1.length-(k+1)<x.1.length-k;omega⟩;have n1:¬y<32:=by omega
     have n2:¬y=34:=by omega
     by_cases n3:y=127
     ·subst n3;rfl
     ·have:((y:Int)==127)=false:=by simp;omega
      rw[this];simp[badB,n1,n2,n3]
   ·have Jl:k=x.1.length:=by rw[az] at c3;simp only at c3;omega
    subst Jl;rw[rA] at Vj;have hall:=Ao x ((fs.take i).map (·.1));have im:fs.drop i=x::fs.drop (i+1):=by
     rw[bR (by omega)];congr 1;exact Option.some.inj ((Xn (by omega)).symm.trans hx)
    have QX:=JJ.rs;rw[im,dV] at QX;have YU:=((Qh.ext hI.e).ext J6).ext Zy;refine Wn (λd1=>?_) (λd1=>?_)
    ·have d1:b=true:=d1;rw[Qf (hall.1 (by rw[<-Vj,d1]))] at QX;refine Qz YU rfl (sc rfl) (λw7 Zu _ Q6=>?_);refine Qs Q6 rfl ?_;have Xb:Mod (·=w.heap.size) w6 w7:=mQW Zu rfl;exact⟨by rw[<-QX];rfl,Xb.ext (Qd.trans JJ.e) (λi hi=>by omega)⟩
    have d1:b=false:=d1;have Zq:=λhh=>(hall.2 hh).symm.trans (Vj.symm.trans d1)
    rw[if_neg (λhh=>by have:=Zq hh;cases this)] at QX;refine Qp Xo rfl ?_;refine Qy (λd2=>?_) (λd2=>?_)
    ·rw[Qf (by omega)] at QX;refine Qz YU rfl (sc rfl) (λw7 Zu _ Q6=>?_);refine Qs Q6 rfl ?_;have Xb:Mod (·=w.heap.size) w6 w7:=mQW Zu rfl;exact⟨by rw[<-QX];rfl,Xb.ext (Qd.trans JJ.e) (λi hi=>by omega)⟩
    rw[if_neg (by omega)] at QX;refine Qp Xo rfl ?_;have Ym:=XS.ext Zy;refine jN (kv:=VV) (a:=Qe x.1) Qa rfl rfl rfl rfl rfl mQX rfl rfl rfl Ym (λw7 Zu WJ J5=>?_);have Xb:Mod (·=w1.heap.size) w6 w7:=mQW Zu rfl;refine Qi ((i+1:Nat):Int) (by show((i:Nat):Int)+1=_;omega) (by omega) ?_;have YX:(fs.take (i+1)).map (·.1)=(fs.take i).map (·.1)++ [x.1]:=by rw[VT,hx];simp
    refine⟨i+1,rfl,⟨Xb.ext JJ.e (λi hi=>by omega),⟨_,J5,λs hs=>?_⟩,by rw[YX];exact QX,by omega,QC _⟩,by show fs.length-(i+1)<fs.length-i;omega⟩;rw[aC,YX];by_cases aU:s=x.1
    ·subst aU;simp
    ·rw[if_neg (λe=>aU (Jc hs Ja.n8 e)),q9 s hs];simp[aU]
 ·have hi:i=fs.length:=by have:=hI.le;omega
  have QX:=hI.rs;rw[hi,List.drop_length,dV] at QX;refine Qz (Qh.ext hI.e) rfl (sc rfl) (λw4 cq _ Q4=>?_);refine Qs Q4 rfl ?_;have KH:Mod (·=w.heap.size) w3 w4:=mQW cq rfl;exact⟨by rw[<-QX];rfl,KH.ext QW (λi hi=>by omega)⟩
end
section
theorem sM {P:Program}{ops:Array Oper}{rest:List Nat}{i:Nat}{o:Oper}{Q:Exit->Act->List Frame->World->Prop}{a:Act}{cs cs':List Frame}{w:World}{v:Value}{d:Nat}(hi:ops[i]? =some o)(h1:o.op= .call ⟨.builtin .recover, #[], #[]⟩)(hd:o.dst=some d)(hg:o.guard=none)
  (Lf:recoverD cs=some (v,cs')∨(recoverD cs=none/\v= .nilIface/\cs'=cs)) (h:wpOpsS P ops Q rest (a.put (some d) v) cs' w):wpOpsS P ops Q (i::rest) a cs w:=by
 have e1:(execOp a.eval o).run P w= .ok .recover w:=by
  simp only[execOp,h1,resolve,invoke,builtin];simp
 unfold wpOpsS;rw[hi];simp only;rw[Qf (by simp[Region.wanted,hg]),e1,hd];rcases Lf with hr | ⟨hr,rfl,rfl⟩
 ·simp only[hr];exact h
 ·simp only[hr];exact h
theorem Jp {c:Cx}(hg:c.g.Ok){P:Program}(hP:c.g.P=P){ops:Array Oper}{rest:List Nat}{i:Nat}{o:Oper}{Q:Exit->Act->List Frame->World->Prop}{a:Act}{cs:List Frame}{w:World}{S:Env}{K:Env->World->Prop}(hi:ops[i]? =some o)(Kx:o.guard=none)(hf:Fits c.N S a)
  (h:dN c o S w K (λ_ _ _=>False)) (hk:∀S' a' w',Fits c.N S' a'->K S' w'->wpOpsS P ops Q rest a' cs w'):wpOpsS P ops Q (i::rest) a cs w:=by
 subst hP;have h1:=rH hg h hf;unfold wpOpsS;rw[hi];simp only;rw[Qf (by simp[Region.wanted,Kx])];have h2:=Oper.wp_mono (K':=λa' w'=>wpOpsS c.g.P ops Q rest a' cs w') (λa' w' ⟨S',QY,hK⟩=>hk _ _ _ QY hK) h1;unfold Oper.wp at h2;generalize (execOp a.eval o).run c.g.P w=r at*;cases r with
 | ok n w'=>
  cases n<;>simp only[Oper.upon] at h2 ⊢ <;> first | exact h2 | exact h2.elim | skip
  exact h2.mono λe K6 he=>by
   cases e with
   | returned v=>exact he
   | panicked ch=>obtain⟨_,_,he⟩:=he;exact he.elim
   | outgrown=>obtain⟨_,_,_,_,he⟩:=he;exact he.elim
 | halt x w'=>cases x<;>simp only[Oper.upon] at h2 ⊢ <;> first | exact h2 | (obtain⟨_,_,h2⟩:=h2;exact h2.elim) | (obtain⟨_,_,_,_,h2⟩:=h2;exact h2.elim)
theorem fQ6 {c:Cx}{o:Oper}{S:Env}{w:World}{K:Env->World->Prop}{Q:Zg}{x:Operand}{tx t:Nat}{fs:Array Field}{v:Value}{r:TyRow}(hg:c.g.Ok)(ho:o.op= .typeAssert x tx t true)(hr:QU c.g.tys t=some r)(hd:r.d= .struct fs)(hx:S.ev x=some (.iface t v))
  (kk:Xk c S o.dst (.v (.tuple #[v,.bool true])) (λS=>K S w)):X8 c o S w K Q:=by
 have Q1:=(hg.row hr).1;rw[hd] at Q1;refine Js (w':=w) (v:=.tuple #[v,.bool true]) (λa hf=>?_) kk;have e1:=hf.ev hx;simp only[execOp,ho,e1];simp[Instr.typeAssert,ZL Q1]
theorem fQ7 {c:Cx}{o:Oper}{S:Env}{w:World}{K:Env->World->Prop}{Q:Zg}{x:Operand}{tx t:Nat}{fs:Array Field}{r:TyRow}(hg:c.g.Ok)(ho:o.op= .typeAssert x tx t true)(hr:QU c.g.tys t=some r)(hd:r.d= .struct fs)(hx:S.ev x=some .nilIface)
  (kk:Xk c S o.dst (.v (.tuple #[r.z,.bool false])) (λS=>K S w)):X8 c o S w K Q:=by
 obtain⟨Q1,i,hi,_,_,hz⟩:=hg.row hr;rw[hd] at Q1;refine Js (w':=w) (v:=.tuple #[r.z,.bool false]) (λa hf=>?_) kk;have e1:=hf.ev hx;simp only[execOp,ho,e1];simp[Instr.typeAssert,ZL Q1,zeroValue,typeInfo,hi,hz]
def fQ8 (f e:Nat)(q:Pl)(w w':World):Prop:=Blk w' f 41 [.string (Qe []),.slice none 0 0]/\Blk w' e 93 (mE q)/\Mod (λi=>i=f∨i=e) w w'
theorem fQ9 (f e:Nat)(q:Pl)(w:World)(T4 T5:List Value)(Xy:T4.length=2)(J3:T5.length=3)(QQ:f≠e)(hf:Blk w f 41 T4)(he:Blk w e 93 T5):
  CallsD Tryz.prog 91 #[.pointer (some ⟨f,0,none⟩),.pointer (some ⟨e,0,none⟩)] (.panicking (fy q.e q.f q.l)) w
   (λen u' w'=>∃v,en= .returned v/\settle u'= .returning/\fQ8 f e q w w'):=by
 refine callsD_of_wpS Tryz.func91 rfl λc₀ cs hu=>?_
 have JY:=fj (N:=Tryz.f91.ntmps) [.pointer (some ⟨f,0,none⟩),.pointer (some ⟨e,0,none⟩)] (fZ rfl) [(0,.v (.pointer (some ⟨f,0,none⟩))),(1,.v (.pointer (some ⟨e,0,none⟩)))] (by
  intro k x hk
  match k,hk with
  | 0,hk=>cases hk;rfl
  | 1,hk=>cases hk;rfl
  | k+2,hk=>exact nomatch (show(none:Option Ent)=some x from hk))
 have JS:=JY.put (d:=5) (by decide) (.v (.iface 160 (.agg #[.int .i64 q.e,.int .i64 q.f,.int .i64 q.l])));refine wpS_seq (wpS_region ?_);show wpOpsS _ _ _ [0,1,2,3,4,5,6,7] _ _ _;refine sM (o:=_) (cs':={c₀ with mode:=.panicking [{v:=.iface 160 (.agg #[.int .i64 q.e,.int .i64 q.f,.int .i64 q.l]),recovered:=true}]}::cs) (v:=.iface 160 (.agg #[.int .i64 q.e,.int .i64 q.f,.int .i64 q.l])) (d:=5) rfl rfl rfl rfl (.inl (by simp[recoverD,hu,fy])) ?_;generalize aV:Act.put _ (some 5) _=act;have gT:Fits WY.N [(5,.v (.iface 160 (.agg #[.int .i64 q.e,.int .i64 q.f,.int .i64 q.l]))),(0,.v (.pointer (some ⟨f,0,none⟩))),(1,.v (.pointer (some ⟨e,0,none⟩)))] act:=by rw[<-aV];exact JS
 clear aV JS JY;generalize Zr: #[_,_,_,_,_,_,_,_]=xa;have h1:=(QN (λ(x:Array Oper)=>x[1]?) Zr).symm;have h2:=(QN (λ(x:Array Oper)=>x[2]?) Zr).symm;have h3:=(QN (λ(x:Array Oper)=>x[3]?) Zr).symm;have h4:=(QN (λ(x:Array Oper)=>x[4]?) Zr).symm;have h5:=(QN (λ(x:Array Oper)=>x[5]?) Zr).symm;have h6:=(QN (λ(x:Array Oper)=>x[6]?) Zr).symm;have h7:=(QN (λ(x:Array Oper)=>x[7]?) Zr).symm;clear Zr;refine Jp (c:=WY) Qa rfl h1 rfl gT (K:=λS' w'=>S'=[(6,Ent.v (.tuple #[.agg #[.int .i64 q.e,.int .i64 q.f,.int .i64 q.l],.bool true])),(5,.v (.iface 160 (.agg #[.int .i64 q.e,.int .i64 q.f,.int .i64 q.l]))),(0,.v (.pointer (some ⟨f,0,none⟩))),(1,.v (.pointer (some ⟨e,0,none⟩)))]/\w=w') (fQ6 Qa rfl rfl rfl rfl ⟨rfl,rfl⟩) ?_;rintro _ a1 _ ZB ⟨rfl,rfl⟩;refine Jp (c:=WY) Qa rfl h2 rfl ZB (K:=λS' w'=>S'=_/\w=w') ⟨rfl,rfl⟩ ?_;rintro _ a2 _ ZI ⟨rfl,rfl⟩;refine Jp (c:=WY) Qa rfl h3 rfl ZI (K:=λS' w'=>S'=_/\w=w') ⟨rfl,rfl⟩ ?_;rintro _ a3 _ gU ⟨rfl,rfl⟩;refine Jp (c:=WY) Qa rfl h4 rfl gU (K:=λS' w'=>S'=_/\w=w') ⟨rfl,rfl⟩ ?_;rintro _ a4 _ gV ⟨rfl,rfl⟩;refine Jp (c:=WY) Qa rfl h5 rfl gV (K:=λS' w'=>S'=(2,.v (.pointer (some ⟨w.heap.size,0,none⟩)))::_/\Ext w w'/\w'.heap.size=w.heap.size+1/\∃ps:List Value,Blk w' w.heap.size 160 ps/\ps.length=3) (new (λw1 Qd Q3 Qh=>⟨rfl,Qd,Q3,_,Qh,rfl⟩)) ?_;rintro _ a5 w5 JS ⟨rfl,Qv,KJ,ps,QK,bJ⟩;refine Jp (c:=WY) Qa rfl h6 rfl JS (K:=λS' w'=>S'=_/\Ext w w'/\w.heap.size+1<=w'.heap.size/\Blk w' w.heap.size 160 (mE q)) (Qz QK (by rw[bJ];rfl) (sc rfl) (λw6 WE em Xo=>⟨rfl,X9 Qv QK WE,by omega,Xo⟩)) ?_;rintro _ a6 w6 bB ⟨rfl,Xh,em,Xo⟩;refine Jp (c:=WY) Qa rfl h7 rfl bB (K:=λS' w'=>S'=_/\w6=w') ⟨rfl,rfl⟩ ?_;rintro _ a7 _ HK ⟨rfl,rfl⟩;unfold wpOpsS;refine me (c:=WY) Qa rfl HK ?_;refine Xa rfl ?_;have nf:f≠w.heap.size:=λe=>by have:=hf.lt;omega
 have ne:e≠w.heap.size:=λe=>by have:=he.lt;omega
 have kQb:=hf.ext Xh;have kQc:=he.ext Xh;refine XC Qa (λw'=>Mod (λi=>i=f∨i=e) w6 w') 5 [(true,0),(true,1),(true,2),(false,3),(false,4)] (by kernel_rfl) (Mod.of_ext _ (Ext.drew w6)) ?_;refine Xq (vs:=mE q) rfl (λw' Qb j u hj=>by rw[add_add,(Xo.mod Qb (λhh=>hh.elim (λe=>nf e.symm) (λe=>ne e.symm))).cell];simpa using hj) ?_;have hd:=Ext.drew w6;refine Qz (kQb.ext hd) (by rw[Xy];rfl) (sc rfl) (λw8 YQ _ Xt=>?_);have ZC:Mod (·=f) w6.drew w8:=mQW YQ rfl;have xb:Mod (λi=>i=f∨i=e) w6 w8:=(Mod.of_ext _ hd).trans ZC (λi hi=>.inl (.inl hi));refine⟨xb,?_⟩;refine Qz ((kQc.ext hd).mod ZC (λhh=>QQ hh.symm)) (by rw[J3];rfl) (sc rfl) (λw9 eC _ JT=>?_);have Ze:Mod (·=e) w8 w9:=mQW eC rfl;have T6:Mod (λi=>i=f∨i=e) w6 w9:=xb.trans Ze (λi hi=>.inl (.inr hi));refine⟨T6,?_⟩;exact⟨_,rfl,rfl,Xt.mod Ze QQ,JT,(Mod.of_ext _ Xh).trans T6 (λi hi=>.inl hi)⟩
theorem gQa (f e:Nat)(w:World):
  CallsD Tryz.prog 91 #[.pointer (some ⟨f,0,none⟩),.pointer (some ⟨e,0,none⟩)] .returning w
   (λen u' w'=>∃v,en= .returned v/\settle u'= .returning/\Ext w w'):=by
 refine callsD_of_wpS Tryz.func91 rfl λc₀ cs hu=>?_
 have JY:=fj (N:=Tryz.f91.ntmps) [.pointer (some ⟨f,0,none⟩),.pointer (some ⟨e,0,none⟩)] (fZ rfl) [(0,.v (.pointer (some ⟨f,0,none⟩))),(1,.v (.pointer (some ⟨e,0,none⟩)))] (by
  intro k x hk
  match k,hk with
  | 0,hk=>cases hk;rfl
  | 1,hk=>cases hk;rfl
  | k+2,hk=>exact nomatch (show(none:Option Ent)=some x from hk))
 have JS:=JY.put (d:=5) (by decide) (.v .nilIface);refine wpS_seq (wpS_region ?_);show wpOpsS _ _ _ [0,1,2,3,4,5,6,7] _ _ _;refine sM (o:=_) (cs':={c₀ with mode:=.returning}::cs) (v:=.nilIface) (d:=5) rfl rfl rfl rfl (.inr ⟨by simp[recoverD,hu],rfl,by rw[<-hu]⟩) ?_;generalize aV:Act.put _ (some 5) _=act;have gT:Fits WY.N [(5,.v .nilIface),(0,.v (.pointer (some ⟨f,0,none⟩))),(1,.v (.pointer (some ⟨e,0,none⟩)))] act:=by rw[<-aV];exact JS
 clear aV JS JY;generalize Zr: #[_,_,_,_,_,_,_,_]=xa;have h1:=(QN (λ(x:Array Oper)=>x[1]?) Zr).symm;have h2:=(QN (λ(x:Array Oper)=>x[2]?) Zr).symm;have h3:=(QN (λ(x:Array Oper)=>x[3]?) Zr).symm;have h4:=(QN (λ(x:Array Oper)=>x[4]?) Zr).symm;have h5:=(QN (λ(x:Array Oper)=>x[5]?) Zr).symm;have h6:=(QN (λ(x:Array Oper)=>x[6]?) Zr).symm;have h7:=(QN (λ(x:Array Oper)=>x[7]?) Zr).symm;clear Zr;refine Jp (c:=WY) Qa rfl h1 rfl gT (K:=λS' w'=>S'=_/\w=w') (fQ7 Qa rfl rfl rfl rfl ⟨rfl,rfl⟩) ?_;rintro _ a1 _ ZB ⟨rfl,rfl⟩;refine Jp (c:=WY) Qa rfl h2 rfl ZB (K:=λS' w'=>S'=_/\w=w') ⟨rfl,rfl⟩ ?_;rintro _ a2 _ ZI ⟨rfl,rfl⟩;refine Jp (c:=WY) Qa rfl h3 rfl ZI (K:=λS' w'=>S'=_/\w=w') ⟨rfl,rfl⟩ ?_;rintro _ a3 _ gU ⟨rfl,rfl⟩;refine Jp (c:=WY) Qa rfl h4 rfl gU (K:=λS' w'=>S'=_/\w=w') ⟨rfl,rfl⟩ ?_;rintro _ a4 _ gV ⟨rfl,rfl⟩;refine Jp (c:=WY) Qa rfl h5 rfl gV (K:=λS' w'=>S'=(2,.v (.pointer (some ⟨w.heap.size,0,none⟩)))::_/\Ext w w'/\w'.heap.size=w.heap.size+1/\∃ps:List Value,Blk w' w.heap.size 160 ps/\ps.length=3) (new (λw1 Qd Q3 Qh=>⟨rfl,Qd,Q3,_,Qh,rfl⟩)) ?_;rintro _ a5 w5 JS ⟨rfl,Qv,KJ,ps,QK,bJ⟩;refine Jp (c:=WY) Qa rfl h6 rfl JS (K:=λS' w'=>S'=_/\Ext w w') (Qz QK (by rw[bJ];rfl) (sc rfl) (λw6 WE em Xo=>⟨rfl,X9 Qv QK WE⟩)) ?_;rintro _ a6 w6 bB ⟨rfl,Xh⟩;refine Jp (c:=WY) Qa rfl h7 rfl bB (K:=λS' w'=>S'=_/\w6=w') ⟨rfl,rfl⟩ ?_;rintro _ a7 _ HK ⟨rfl,rfl⟩;unfold wpOpsS;refine me (c:=WY) Qa rfl HK ?_;refine Q5 rfl ?_;exact⟨_,rfl,rfl,Xh⟩
end
section
theorem gQb {nm:List (List Nat)}(hb:Ks nm):(cR nm Y5).2=if ZM nm then 0 else 1:=by
 by_cases h:ZM nm=true
 ·rw[Qf h,show Y5=ZG nm 0 (.c true) from rfl,eQP h (eQQ hb h) (.c true) trivial (by decide)]
 ·rw[if_neg h];unfold cR;rw[if_neg h]
structure SgIn (w:World) (k:Nat) (A:Option Addr) (n c:Nat) (sg:List Sg) (L:List DV):Prop where
 sl:Sl w 6 A n c (cg sg L)
 n:sg.length=n
 len:L.length=sg.length
 dg:∀(j:Nat) (s:Sg) (x:DV),sg[j]? =some s->L[j]? =some x->SB w x.A x.n x.c x.nd/\Set1 k x.nd x.r s.o
theorem SgIn.ext {w w':World}{k:Nat}{A:Option Addr}{n c:Nat}{sg:List Sg}{L:List DV}(h:SgIn w k A n c sg L)(hE:Ext w w'):SgIn w' k A n c sg L:=⟨h.sl.ext hE,h.n,h.len,λj s x h1 h2=>⟨(h.dg j s x h1 h2).1.ext hE,(h.dg j s x h1 h2).2⟩⟩
structure GsOk (g:Gs):Prop where
 b8:∀x∈g.tx,x<256
 tl:g.tx.length<=1048576
 sl:g.sg.length<=65536
abbrev PY (tx:List Nat)(A:Option Addr)(n c:Nat):Value:=.agg #[.string (Qe tx),.slice A n c]
def gQc (k:Nat)(w:World)(r:Except Pl Gs)(u:Value)(w':World):Prop:=Ext w w'/\match r with
 | .error q=>u= .tuple #[PY [] none 0 0,.agg (mE q).toArray]
 | .ok g=>GsOk g/\∃A c L,u= .tuple #[PY g.tx A g.sg.length c,.agg (mE ⟨0,0,0⟩).toArray]/\SgIn w' k A g.sg.length c g.sg L
theorem PZ:∀(l:List (List Nat×List Nat))(seen:List (List Nat))(i:Nat)(q:Pl),dV l seen i=some q->q.e≠0
 | [],_,_,_,h=>by cases h
 | x::l,seen,i,q,h=>by
  unfold dV at h;split at h
  ·cases h;exact(by decide:(70:Int)≠0)
  split at h
  ·cases h;exact(by decide:(2:Int)≠0)
  ·exact PZ l _ _ q h
theorem P0 {fs:List (List Nat×List Nat)}{q:Pl}(h:Wv fs=some q):q.e≠0:=by
 unfold Wv at h;split at h
 ·cases h;decide
 ·exact PZ _ _ _ _ h
theorem Aq:∀(l:List (List Nat×List Nat))(seen:List (List Nat))(i:Nat),dV l seen i=none->∀x∈l,pw x.1=true/\aG x.2=true/\x.2.length<=1048576
 | [],_,_,_,x,hx=>by cases hx
 | y::l,seen,i,h,x,hx=>by
  unfold dV at h;split at h
  ·cases h
  split at h
  ·cases h
  ·rename_i h1 h2;have h1:=Decidable.not_not.1 h1;rcases QZ.1 hx with rfl | hx
   ·exact⟨h1.1,h1.2.2,by omega⟩
   ·exact Aq l _ _ h x hx
theorem mF {l:List Nat}(h:aG l=true):cd l:=by
 unfold aG at h;rw[Bool.or_eq_true] at h;rcases h with h | h
 ·exact .inl (a8 h)
 ·exact .inr (by simpa using h)
theorem gQd {fs:List (List Nat×List Nat)}(h:Wv fs=none)(hb:∀x∈fs,FileB x):fs.length<=256/\∀x∈fs,FileOk x:=by
 unfold Wv at h;split at h
 ·cases h
 ·rename_i hl;refine⟨by omega,λx hx=>?_⟩;obtain⟨h1,h2,h3⟩:=Aq _ _ _ h x hx;have lz:=hb x hx;exact⟨lz.n8,lz.t8,lz.nl,h3,mF h2⟩
theorem gQe {w7 w':World}{nq:Nat}{m:List (ByteArray×Value)}(h:w7.heap.size=nq+1)(hm:Mod (·=nq) w7 w')(hq:MapAt VV w' nq m):∃w0,Ext w0 w'/\w0.heap.size=nq+1/\MapAt VV w0 nq m/\∀w,Ext w w7->w.heap.size<=nq->Ext w w0:=by
 obtain⟨bs,ck,hl,hb⟩:=hq.ex;refine⟨{w7 with heap:=w7.heap.setIfInBounds nq (.map (XT VV m bs).toArray ck)},⟨hm.os,hm.tape,hm.output,?_,λi hi _=>?_⟩,by simp[h],⟨bs,ck,hl,?_⟩,λw hE ZO=>⟨hE.os,hE.tape,hE.output,?_,λi hi hn=>?_⟩⟩
 ·simpa using hm.size
 ·simp only[Array.size_setIfInBounds] at hi;simp only[Dy];by_cases e:nq=i
  ·subst e;rw[Qf rfl,Qf (by omega),hb]
  ·rw[if_neg e];exact hm.block i hi (λe2=>e e2.symm)
 ·simp[h]
 ·simpa using hE.size
 ·simp only[Dy];rw[if_neg (by omega)];exact hE.block i hi hn
theorem P4 (nm:List (List Nat))(NA:Option Addr)(nn nc:Nat)(fs:List (List Nat×List Nat))(FA:Option Addr)(nf cf:Nat)(root:List Nat)(w:World)(hN:Sl w 1 NA nn nc (XW nm))(VO:Ks nm)(hk:nm.length<=12)(hF:SlS gr 2 w FA nf cf fs)(Dl:∀x∈fs,FileB x)(hnf:nf<=1000000000000)(i9:∀x∈root,x<256):
  Fn Tryz.prog 43 [.slice NA nn nc,.slice FA nf cf,.string (Qe root)] w (gQc nm.length w (Ww nm fs root)):=by
 refine vg (c:={c43 with cuts:=[]}) Qa Tryz.func43 rfl rfl rfl ?_;refine ZE (Zt Qa ?_);refine new (λw1 Qd Q3 Qh=>?_);refine new (λw2 Qg Zb Qw=>?_);have Q7:=Qd.trans Qg;refine ZE (Zt Qa ?_);refine call (N4 nm NA nn nc Y5 w2 (hN.ext Q7) VO (by decide) (by decide)) ?_;rintro _ w3 ⟨G,mg,cG,rfl,Qk,hG⟩;have QW:=Q7.trans Qk;have Dm:=(Qh.ext Qg).ext Qk;have hBp:=Qw.ext Qk;have QQ:w1.heap.size≠w.heap.size:=by omega
 have eL:=gQb VO;have Wg:Ww nm fs root=if ZM nm=false then .error ⟨30, -1,0⟩else match Wv fs with
  | some p=>.error p
  | none=>match Jo (fs.map (·.1)) root with
   | none=>.error ⟨73, -1,0⟩
   | some n=>aF nm fs 65 [] 0 n (λ_=>true) ⟨[],[],false⟩:=rfl
 rw[eL];cases Zq:ZM nm with
 | false=>
  rw[Qf Zq] at Wg;refine rL (by decide) ?_;refine Qz Dm rfl (sc rfl) (λw4 cq _ Q4=>?_);have KH:Mod (·=w.heap.size) w3 w4:=mQW cq rfl;refine Qz (hBp.mod KH QQ) rfl (sc rfl) (λw5 Jw _ QK=>?_);have Z1:Mod (·=w1.heap.size) w4 w5:=mQW Jw rfl;refine iH Qa rfl (.inl rfl) ?_;refine Qs (Q4.mod Z1 QQ.symm) rfl ?_;refine Qs QK rfl ?_;rw[Wg];exact⟨Z1.ext (KH.ext QW (λi hi=>by omega)) (λi hi=>by omega),rfl⟩
 | true=>
  rw[if_neg (by rw[Zq];decide)] at Wg;refine Wo rfl ?_;refine ZE (Zt Qa ?_);refine call (fQ5 fs FA nf cf w3 (hF.ext QW) Dl hnf) ?_;rintro _ w4 ⟨rfl,Qq⟩;refine new (λw5 Qv KJ QK=>?_);refine Qz QK rfl (sc rfl) (λw6 WE _ Xo=>?_);have Xz:Ext w4 w6:=X9 Qv QK WE;have KS:=Qq.trans Xz;have XM:=QW.trans KS;have T7:=Dm.ext KS;have T8:=hBp.ext KS;refine Qp Xo rfl ?_;cases K8:Wv fs with
  | some q=>
   rw[K8] at Wg Xo;refine rL (P0 K8) ?_;have n4:¬w4.heap.size=w.heap.size:=by have:=Qk.size;have:=Qq.size;omega
   have n41:¬w4.heap.size=w1.heap.size:=by have:=Qq.size;have:=Qk.size;omega
   have hd:=Ext.drew w6;refine XC Qa (λw'=>Mod (λi=>i=w.heap.size∨i=w1.heap.size) w6 w') 4 [(true,0),(true,1),(false,2),(false,3)] (by kernel_rfl) (Mod.of_ext _ hd) ?_;refine Xq (vs:=mE q) rfl (λw' Qb j u hj=>by rw[(Xo.mod Qb (λhh=>hh.elim n4 n41)).cell];exact hj) ?_;refine Qz (T7.ext hd) rfl (sc rfl) (λw7 Zu _ Q6=>?_);have Xb:Mod (·=w.heap.size) w6.drew w7:=mQW Zu rfl;have T9:Mod (λi=>i=w.heap.size∨i=w1.heap.size) w6 w7:=(Mod.of_ext _ hd).trans Xb (λi hi=>.inl (.inl hi));refine⟨T9,?_⟩;refine Qz ((T8.ext hd).mod Xb QQ) rfl (sc rfl) (λw8 YQ _ Xt=>?_);have ZC:Mod (·=w1.heap.size) w7 w8:=mQW YQ rfl;have xb:=T9.trans ZC (λi hi=>.inl (.inr hi));refine⟨xb,?_⟩;refine iH Qa rfl (.inl rfl) ?_;refine Qs (Q6.mod ZC QQ.symm) rfl ?_;refine Qs Xt rfl ?_;rw[Wg];exact⟨xb.ext XM (λi hi=>by rcases hi with rfl | rfl<;>omega),rfl⟩
  | none=>
  rw[K8] at Wg;refine Wo rfl ?_;obtain⟨Ka,yd⟩:=gQd K8 Dl;have Xd:=hF.2;refine ZE (Zt Qa ?_);refine uW Qa VV rfl (λw7 Q2 WJ J5=>?_);refine uW Qa aE rfl (λw8 Q0 VJ JH=>?_);refine new (λw9 XE et JT=>?_);have Yn:=Q0.trans XE;have ny:=Q2.trans Yn;have Ua:=XM.trans ny;have BI:=JH.ext XE;have Gv:=J5.ext Yn;have lQl:Ks (fs.map (·.1)):=λs hs=>by
   obtain⟨x,hx,rfl⟩:=Z4.1 hs;exact⟨(Dl x hx).n8,(Dl x hx).nl⟩
  have nrq:¬w8.heap.size=w6.heap.size:=by omega
  refine ZE (Zt Qa ?_);refine loop Qa [40] (λi:Nat=>[.int .i64 i]) (λi w'=>Mod (·=w6.heap.size) w9 w'/\MapAt VV w' w6.heap.size (Yr ((fs.map (·.1)).take i) 0 [])/\i<=fs.length) (λi _=>fs.length-i) 0 rfl ⟨Mod.refl _ _,Gv,XJ _⟩ ?_;rintro i QJ ⟨Zp,Jk,lQ6⟩;refine Qy (λc2=>?_) (λc2=>?_)
  ·have hi:i<nf:=by omega
   have nz:Ext w QJ:=Zp.ext Ua (λi hi=>by have:=XM.size;omega);refine Zw Fi (hF.ext nz) rfl hi (λpp x hx hc=>?_);refine Kr (vs:=gr x) rfl hc ?_;refine new (λQG J9 tH ZZ=>?_);refine Qz ZZ rfl (sc rfl) (λXg qa _ Vg=>?_);have tL:Ext QJ Xg:=X9 J9 ZZ qa;have hd:=Ext.drew Xg;have hBr:=((JT.mod Zp nrq).ext tL).ext hd;refine oY Qa 7 (by kernel_rfl) ?_;refine QH (v:=.map (some w6.heap.size)) (λw' Qb=>by subst Qb;rw[hBr.cell];rfl) ?_;refine QH (v:=.string (Qe x.1)) (λw' Qb=>by subst Qb;rw[(Vg.ext hd).cell];rfl) ?_;refine jN (kv:=VV) (a:=Qe x.1) Qa rfl rfl rfl rfl rfl mQX rfl rfl rfl ((Jk.ext tL).ext hd) (λX2 wM Hy bH=>?_);have Kf:Mod (·=w6.heap.size) Xg.drew X2:=mQW wM rfl;refine Qi ((i+1:Nat):Int) (by show((i:Nat):Int)+1=_;omega) (by omega) ?_;refine⟨i+1,rfl,⟨(Zp.trans (Mod.of_ext (·=w6.heap.size) (tL.trans hd)) (λi hi=>.inl hi)).trans Kf (λi hi=>.inl hi),?_,by omega⟩,by show fs.length-(i+1)<fs.length-i;omega⟩;rw[NQ (s:=x.1) (by rw[VR,hx];rfl)];exact bH
  have hie:i=fs.length:=by omega
  rw[hie,Jm (by simp)] at Jk;have WM:Mod (·=w6.heap.size) w7 QJ:=(Mod.of_ext _ Yn).trans Zp (λi hi=>.inl hi);obtain⟨w0,tu,hws,hwm,hwe⟩:=gQe WJ WM Jk;have Ub:=JT.mod Zp nrq;have WT:=Ew lQl root i9;have nr6:¬w.heap.size=w6.heap.size:=by have:=KS.size;have:=Qk.size;omega
  have kQd:¬w1.heap.size=w6.heap.size:=by have:=KS.size;have:=Qk.size;omega
  have Uc:=(T7.ext ny).mod Zp nr6;have Ud:=(T8.ext ny).mod Zp kQd;have nz:Ext w QJ:=Zp.ext Ua (λi hi=>by have:=XM.size;omega);refine ZE (Zt Qa ?_);refine Qp Ub rfl ?_;refine u9 (kv:=VV) (a:=Qe root) (v:=.int .i64 ((Jo (fs.map (·.1)) root).getD 0:Nat)) (b:=(Jo (fs.map (·.1)) root).isSome) Qa rfl rfl rfl rfl rfl mQX rfl rfl Jk (by rw[WT];cases Jo (fs.map (·.1)) root<;>rfl) (by rw[WT];cases Jo (fs.map (·.1)) root<;>rfl) ?_;refine ZE (Zt Qa ?_);cases Kb:Jo (fs.map (·.1)) root with
  | none=>
   rw[Kb] at Wg;refine Xa rfl ?_;refine Qz Uc rfl (sc rfl) (λQG wY _ ZZ=>?_);have ZV:Mod (·=w.heap.size) QJ QG:=mQW wY rfl;refine Qz (Ud.mod ZV QQ) rfl (sc rfl) (λXg qa _ Vg=>?_);have Vr:Mod (·=w1.heap.size) QG Xg:=mQW qa rfl;refine iH Qa rfl (.inl rfl) ?_;refine Qs (ZZ.mod Vr QQ.symm) rfl ?_;refine Qs Vg rfl ?_;rw[Wg];exact⟨Vr.ext (ZV.ext nz (λi hi=>by omega)) (λi hi=>by omega),rfl⟩
  | some n=>
  rw[Kb] at Wg;simp only at Wg;refine Q5 rfl ?_;have KB:n<fs.length:=by have:=j8 Kb;simpa using this
  refine ZE (vf Qa rfl rfl rfl rfl ⟨_,_,_,_,rfl,rfl,?_⟩);refine ZE (Zt Qa ?_);refine call (ce true QJ) ?_;rintro _ QG ⟨rfl,J9⟩
  let p:RP:=⟨w8.heap.size,w7.heap.size,w6.heap.size,NA,nn,nc,nm,FA,nf,cf,fs⟩
  let m:RM:=⟨none,0,none,0,[],.pointer none,λi=>i=w.heap.size∨i=w1.heap.size⟩
  let v:RV:=⟨0,0,0,[],⟨[],[],false⟩⟩
  have kQe:Ext w6 w0:=hwe w6 Q2 (QC _);have Ue:Ext w w0:=XM.trans kQe;have hP:RPok w0 p:=⟨hN.ext Ue,VO,hk,hF.ext Ue,yd,hwm⟩
  have tH:=J9.size;have jQT:=Zp.size;have ZK:Rr w0 QG QG.heap.size p m v:=by
   refine⟨tu.trans J9,?_,?_,?_,?_,?_,QC _,.inl rfl,Ub.ext J9,Own.nil _ _ _ _,Own.nil _ _ _ _,rfl,(λj s x hs=>by simp[v] at hs),?_,(XJ _),(XJ _),(λx hx=>by cases hx),(λ_=>.inr rfl),(λi hi=>by
    have:=KS.size;have:=Qk.size;rcases hi with hi | hi<;>rw[hi]<;>omega)⟩
   ·show w0.heap.size<=w8.heap.size;omega
   ·show w0.heap.size<=w7.heap.size;omega
   ·show w8.heap.size<QG.heap.size;omega
   ·show w7.heap.size<QG.heap.size;omega
   ·show w8.heap.size≠w7.heap.size;omega
   ·refine⟨[],(BI.mod Zp (by show¬w7.heap.size=w6.heap.size;omega)).ext J9,by simp,λn=>by simp[Xv,v]⟩
  have kQf:DgO QG (TS p m) p.nm.length ⟨none,0,0,[],1⟩ (λ_=>true):=⟨SlS.nil _,br _ true,λad e=>by cases e⟩
  have kQg:w0.heap.size<=QG.heap.size:=(tu.trans J9).size;have qV:∀i,RS p m i->i=w8.heap.size∨i=w7.heap.size:=λi hi=>by
   rcases hi with hi | hi | ⟨_,e,_⟩ | ⟨_,e,_⟩
   ·exact .inl hi
   ·exact .inr hi
   ·cases e
   ·cases e
  have kQh:=Uc.ext J9;have kQi:=Ud.ext J9;have lQ7:=KS.size;have pY:=Qk.size;have keep:∀w',Mod (RS p m) QG w'->Ext w w'/\Blk w' w.heap.size 41 (JN (.agg #[.string ByteArray.empty,.slice none 0 0]))/\Blk w' w1.heap.size 93 (mE ⟨0,0,0⟩):=λw' hm=>by
   refine⟨hm.ext (nz.trans J9) (λi hi=>?_),kQh.mod hm (λhi=>?_),kQi.mod hm (λhi=>?_)⟩
   ·have:=XM.size;rcases qV i hi with rfl | rfl<;>omega
   ·rcases qV _ hi with e | e<;>omega
   ·rcases qV _ hi with e | e<;>omega
  refine XO (PX w0 QG.heap.size p hP kQg 65 m v n ⟨none,0,0,[],1⟩ (λ_=>true) QG ZK kQf KB (λhh=>by cases hh) (XJ _) (QC _)) ?_ ?_
  rotate_left
  ·rintro ch Xg ⟨q,hq,rfl,YC⟩;have hq:aF nm fs 65 [] 0 n (λ_=>true) ⟨[],[],false⟩= .error q:=hq;rw[hq] at Wg;obtain⟨Xs,HL,HM⟩:=keep Xg YC;refine W0 Qa rfl rfl (args:= #[.pointer (some ⟨w.heap.size,0,none⟩),.pointer (some ⟨w1.heap.size,0,none⟩)]) (by simp) ((fQ9 _ _ q Xg _ _ rfl rfl QQ.symm HL HM).mono ?_);rintro e u' X2 ⟨v,rfl,HN,gJ⟩;refine⟨v,rfl,HN,?_⟩;refine Qs gJ.1 rfl ?_;refine Qs gJ.2.1 rfl ?_;rw[Wg];exact⟨gJ.2.2.ext Xs (λi hi=>by rcases hi with rfl | rfl<;>omega),rfl⟩
  rintro _ Xg ⟨g',Vw,m',fT,XY,YC,_,_⟩;have Vw:aF nm fs 65 [] 0 n (λ_=>true) ⟨[],[],false⟩= .ok g':=Vw;rw[Vw] at Wg;obtain⟨Xs,HL,HM⟩:=keep Xg YC;refine ZE (Zt Qa ?_);have nb:=XY.nrow.2;have lQ8:=XY.rb;have lQ9:=XY.top;have jp:∀i,Qj m'.BA i->QG.heap.size<=i:=λi hi=>(XY.txt.rows i hi).1
  have nprs:¬(Qj m'.BA w8.heap.size∨w8.heap.size=w.heap.size∨w8.heap.size=w1.heap.size):=λhh=>by
   rcases hh with hh | hh | hh
   ·exact nb hh
   ·omega
   ·omega
  have hd:=Ext.drew Xg;refine XC Qa (Mod (λi=>Qj m'.BA i∨i=w.heap.size∨i=w1.heap.size) Xg) 12 [(true,0),(true,1),(true,2),(true,4),(true,5),(true,6),(true,7),(true,9),(false,3),(true,8),(false,10),(false,11)] (by kernel_rfl) (Mod.of_ext _ hd) ?_;refine QH (v:=.slice m'.OA g'.sg.length m'.oc) (λw' Qb=>by rw[(XY.blk.mod Qb nprs).cell];rfl) ?_;have YE:=XY.tl;refine call (fQo QG.heap.size w8.heap.size 157 5 (kj p m' {v with g:=g'}) m'.BA m'.bc g'.tx Xg.drew (XY.blk.ext hd) rfl (XY.txt.ext hd) XY.b8 (by simp only at YE;omega)) ?_;rintro _ X2 ⟨rfl,bH⟩;have Kf:Mod (λi=>Qj m'.BA i∨i=w.heap.size∨i=w1.heap.size) Xg X2:=(Mod.of_ext _ hd).trans bH (λi hi=>.inl (.inl hi));refine⟨Kf,?_⟩;have nsB:¬Qj m'.BA w.heap.size:=λhh=>by have:=jp _ hh;omega
  have npB:¬Qj m'.BA w1.heap.size:=λhh=>by have:=jp _ hh;omega
  refine Qz ((HL.ext hd).mod bH nsB) rfl (sc rfl) (λZi ep _ JU=>?_);have KP:Mod (·=w.heap.size) X2 Zi:=mQW ep rfl;have Uf:=Kf.trans KP (λi hi=>.inl (.inr (.inl hi)));refine⟨Uf,?_⟩;refine Qz (((HM.ext hd).mod bH npB).mod KP QQ) rfl (sc rfl) (λKw kQj _ tM=>?_);have Ug:Mod (·=w1.heap.size) Zi Kw:=mQW kQj rfl;have BJ:=Uf.trans Ug (λi hi=>.inl (.inr (.inr hi)));refine⟨BJ,?_⟩;have HO:=JU.mod Ug QQ.symm;refine Zt Qa ?_;refine fq Qa rfl rfl (.inl rfl) (args:= #[.pointer (some ⟨w.heap.size,0,none⟩),.pointer (some ⟨w1.heap.size,0,none⟩)]) (by simp) ((gQa _ _ Kw).mono ?_);rintro e u' ao ⟨u,rfl,HP,V8⟩;refine⟨u,rfl,HP,?_⟩;refine Qs (HO.ext V8) rfl ?_;refine Qs (tM.ext V8) rfl ?_;rw[Wg];have V6:Ext w Kw:=BJ.ext Xs (λi hi=>by
   rcases hi with hi | rfl | rfl
   ·have:=jp _ hi;omega
   ·exact QC _
   ·omega)
  have nO:∀i,Qj m'.OA i->¬(Qj m'.BA i∨i=w.heap.size∨i=w1.heap.size):=λi hi hh=>by
   have:=(XY.out.rows i hi).1;rcases hh with hh | rfl | rfl
   ·exact XY.out.apart XY.txt (by decide) hi hh
   ·omega
   ·omega
  refine⟨V6.trans V8,⟨XY.b8,XY.tl,XY.sl⟩,m'.OA,m'.oc,m'.L,rfl,SgIn.ext ⟨(XY.out.mod BJ nO).sl,rfl,XY.len,λj s x h1 h2=>?_⟩ V8⟩;have ym:=XY.dgs j s x h1 h2;refine⟨SB.modo ym.sb BJ (λad e h0 hh=>?_),ym.st⟩;rcases hh with hh | hh | hh
  ·exact ym.off ad e h0 (.inl (.inr (.inr (.inr hh))))
  ·exact ym.off ad e h0 (.inr (by rw[fT];exact .inl hh))
  ·exact ym.off ad e h0 (.inr (by rw[fT];exact .inr hh))
end
def gt (c:Nat):Nat->Bool:=λi=>decide (c/2^i % 2=1)
theorem gQf (x:Nat)(hx:x<18446744073709551616):IntKind.u64.wrap ((BitVec.ofInt 64 (x:Int) &&& BitVec.ofInt 64 1).toNat)=((x % 2:Nat):Int):=by
 have e:(BitVec.ofInt 64 (x:Int) &&& BitVec.ofInt 64 1).toNat=x % 2:=by
  rw[BitVec.ofInt_natCast,show BitVec.ofInt 64 1=BitVec.ofNat 64 1 from rfl,BitVec.toNat_and,BitVec.toNat_ofNat,BitVec.toNat_ofNat];rw[iq (by omega),show 1 % 2^64=1 by decide,Nat.and_one_is_mod]
 rw[e];rcases(show x % 2=0∨x % 2=1 by omega)with h | h<;>rw[h]<;>decide
def Ar (l:List Bool):List Value:=l.map Value.bool
theorem gQg {l:List Bool}{j:Nat}{b:Bool}(h:l[j]? =some b):(Ar l)[j]? =some (.bool b):=by simp[Ar,h]
structure FhI (w0:World) (g:Nat) (f:List Fz) (e:Nat->Bool) (n s:Nat) (L:List Bool) (w:World):Prop where
 m:Mod (·=g) w0 w
 blk:Blk w g 4 (Ar L)
 len:L.length=n
 got:∀j,j<s->∃t,RepF f t j/\L[j]? =some (evF t e)
 rest:∀j,s<=j->j<n->L[j]? =some false
theorem FhI.ext {w0 w w':World}{g:Nat}{f:List Fz}{e:Nat->Bool}{n s:Nat}{L:List Bool}(h:FhI w0 g f e n s L w)(k1:Ext w w'):FhI w0 g f e n s L w':=
 ⟨h.m.trans (Mod.of_ext (·=g) k1) (λ_ hi=>.inl hi),h.blk.ext k1,h.len,h.got,h.rest⟩
theorem FhI.at_ {w0 w:World}{g:Nat}{f:List Fz}{e:Nat->Bool}{n s:Nat}{L:List Bool}(h:FhI w0 g f e n s L w){j:Nat}(hj:j<s){t:Fm}(ht:RepF f t j):(Ar L)[j]? =some (.bool (evF t e)):=by
 obtain⟨u,h1,h2⟩:=h.got j hj;rw[mQY ht h1];exact gQg h2
def As (l:List Nat)(k:Nat):Bool:=decide (k/8<l.length)&&decide ((l[k/8]?.getD 0)/2^(k % 8) % 2=1)
def ci (l:List Nat):Nat->Nat->Nat->(Nat->Bool)->Bool
 | 0,_,k,_=>As l k
 | d+1,v,k,e=>if e v then ci l d (v+1) (k+2^v) e else ci l d (v+1) k e
theorem At {nd:List Br}(hw:W3 nd){k:Nat}(hk:VIn k nd)(h0:∀b∈nd,0<=b.v){e e':Nat->Bool}(h:∀i,i<k->e i=e' i):∀(m:Nat)(n:Int),n.toNat<m->n<nd.length+2->ev nd n e=ev nd n e'
 | 0,n,hm,_=>by omega
 | m+1,n,hm,hn=>by
  by_cases h2:n<2
  ·rw[JD h2,JD h2]
  obtain⟨b,hb⟩:=Y8 h2 hn;obtain⟨b3,b4,b5,b6⟩:=hw _ _ hb;have ur:=QO hb;have hv:=hk b ur;have eu:=h0 b ur;rw[bZ hw h2 hb,bZ hw h2 hb,At hw hk h0 h m b.h (by omega) (by omega),At hw hk h0 h m b.l (by omega) (by omega),h b.v.toNat (by omega)]
theorem Set1.ext {k:Nat}{nd:List Br}{r:Int}{o:(Nat->Bool)->Bool}(hS:Set1 k nd r o){e e':Nat->Bool}(h:∀i,i<k->e i=e' i):o e=o e':=by
 rw[<-hS.mean e,<-hS.mean e'];refine At hS.vd.wf hS.vin (λb hb=>?_) h (r.toNat+1) r (by omega) hS.vd.2.2.1;obtain⟨j,hj,rfl⟩:=DF.1 hb;exact(hS.vd.1 j _ (Xn hj)).1
end
section
def fz (w:World)(k:Nat)(o:(Nat->Bool)->Bool)(v:Value)(w':World):Prop:=∃A n c nd r,v=Xm A n c r/\Ext w w'/\SB w' A n c nd/\Set1 k nd r o/\∀i,Qj A i->w.heap.size<=i
def vO (w:World)(k:Nat)(o:(Nat->Bool)->Bool)(v:Value)(w':World):Prop:=∃A n c nd r,v= .tuple #[Xm A n c r,.int .i64 0]/\Ext w w'/\SB w' A n c nd/\Set1 k nd r o/\∀i,Qj A i->w.heap.size<=i
theorem Av (b:Bool)(w:World):Fn Tryz.prog 29 [.bool b] w (λv w'=>v=Xm none 0 0 (if b then 1 else 0)/\Ext w w'):=by
 refine QD (c:={c29 with cuts:=[]}) Qa Tryz.func29 rfl rfl rfl ?_;refine new (λw1 Qd Q3 Qh=>?_);cases b with
 | true=>
  refine Xa rfl ?_;refine Qz Qh rfl (sc rfl) (λw3 ZY _ Qt=>?_);refine Qs Qt rfl ?_;exact⟨rfl,X9 Qd Qh ZY⟩
 | false=>
  refine Q5 rfl ?_;refine Qz Qh rfl (sc rfl) (λw3 ZY _ Qt=>?_);refine Qs Qt rfl ?_;exact⟨rfl,X9 Qd Qh ZY⟩
section
variable {k:Nat} (hk:k<=12)
include hk
theorem Fs {a b:List Br}{ra rb:Int}{o o':(Nat->Bool)->Bool}(A:Option Addr)(n c:Nat)(B:Option Addr)(m d:Nat)(op:Int)(ho:op≠3/\op≠4)(w:World)(h:SB w A n c a)(h':SB w B m d b)(s:Set1 k a ra o)(s':Set1 k b rb o'):
  Fn Tryz.prog 58 [Xm A n c ra,Xm B m d rb,.int .i64 op] w (fz w k (λe=>Ki op (o e) (o' e))):=by
 have l1:=s.len hk;have l2:=s'.len hk;have KU:=h.2;have eU:=h'.2;have hb2:=EO s.vd s'.vd op;have xW:(a.length+2)*(b.length+2)<=4098*4098:=Nat.mul_le_mul (by omega) (by omega);refine(eQp A n c a ra B m d b rb op w h h' s.vd.dok s'.vd.dok s.vd.2.1 (by have:=s.vd.2.2.1;omega) s'.vd.2.1 (by have:=s'.vd.2.2.1;omega) (by omega) (by omega) (by omega) (by omega) ho).mono ?_;rintro v w' ⟨OA,q,oc,rfl,hE,hO,hR⟩;exact⟨OA,q,oc,_,_,rfl,hE,hO,dS s s' op,hR⟩
theorem P5 {a b:List Br}{ra rb:Int}{o o':(Nat->Bool)->Bool}(A:Option Addr)(n c:Nat)(B:Option Addr)(m d:Nat)(w:World)(h:SB w A n c a)(h':SB w B m d b)(s:Set1 k a ra o)(s':Set1 k b rb o'):
  Fn Tryz.prog 66 [Xm A n c ra,Xm B m d rb] w (fz w k (λe=>Ki 1 (o e) (o' e))):=by
 refine QD (c:={c66 with cuts:=[]}) Qa Tryz.func66 rfl rfl rfl ?_;refine new (λw1 Qd Q3 Qh=>?_);refine new (λw2 Qg Zb Qw=>?_);refine new (λw3 Qk JI Qt=>?_);have QW:=(Qd.trans Qg).trans Qk;refine Qs ((Qh.ext Qg).ext Qk) rfl ?_;refine Qs (Qw.ext Qk) rfl ?_;refine call (Fs hk A n c B m d 1 (by decide) w3 (h.ext QW) (h'.ext QW) s s') ?_;rintro _ w4 ⟨PA,q,pc,nd,r,rfl,Qq,d9,WG,bC⟩;refine Qz (Qt.ext Qq) rfl (sc rfl) (λw5 Jw _ QK=>?_);have Z1:Mod (·=w2.heap.size) w4 w5:=mQW Jw rfl;refine Qs QK rfl ?_;exact⟨PA,q,pc,nd,r,rfl,Z1.ext (QW.trans Qq) (λi hi=>by omega),d9.mod Z1 (λi hi e=>by have:=bC i hi;omega),WG,λi hi=>by have:=bC i hi;omega⟩
theorem P6 {a b:List Br}{ra rb:Int}{o o':(Nat->Bool)->Bool}(A:Option Addr)(n c:Nat)(B:Option Addr)(m d:Nat)(w:World)(h:SB w A n c a)(h':SB w B m d b)(s:Set1 k a ra o)(s':Set1 k b rb o'):
  Fn Tryz.prog 22 [Xm A n c ra,Xm B m d rb] w (fz w k (λe=>Ki 0 (o e) (o' e))):=by
 refine QD (c:={c22 with cuts:=[]}) Qa Tryz.func22 rfl rfl rfl ?_;refine new (λw1 Qd Q3 Qh=>?_);refine new (λw2 Qg Zb Qw=>?_);refine new (λw3 Qk JI Qt=>?_);have QW:=(Qd.trans Qg).trans Qk;refine Qs ((Qh.ext Qg).ext Qk) rfl ?_;refine Qs (Qw.ext Qk) rfl ?_;refine call (Fs hk A n c B m d 0 (by decide) w3 (h.ext QW) (h'.ext QW) s s') ?_;rintro _ w4 ⟨PA,q,pc,nd,r,rfl,Qq,d9,WG,bC⟩;refine Qz (Qt.ext Qq) rfl (sc rfl) (λw5 Jw _ QK=>?_);have Z1:Mod (·=w2.heap.size) w4 w5:=mQW Jw rfl;refine Qs QK rfl ?_;exact⟨PA,q,pc,nd,r,rfl,Z1.ext (QW.trans Qq) (λi hi=>by omega),d9.mod Z1 (λi hi e=>by have:=bC i hi;omega),WG,λi hi=>by have:=bC i hi;omega⟩
theorem gQh {a:List Br}{ra:Int}{o:(Nat->Bool)->Bool}(A:Option Addr)(n c:Nat)(w:World)(h:SB w A n c a)(s:Set1 k a ra o):
  Fn Tryz.prog 59 [Xm A n c ra] w (fz w k (λe=> !o e)):=by
 refine QD (c:={c59 with cuts:=[]}) Qa Tryz.func59 rfl rfl rfl ?_;refine new (λw1 Qd Q3 Qh=>?_);refine new (λw2 Qg Zb Qw=>?_);have Q7:=Qd.trans Qg;have Vg:=Qh.ext Qg;refine XC Qa (Ext w2) 3 [(true,0),(false,1),(false,2)] (by kernel_rfl) (Ext.drew w2) ?_;refine Xq (vs:=[.slice A n c,.int .i64 ra]) rfl (λw' Qb j v hj=>by have:=(Vg.ext Qb).cell j;rw[this];exact hj) ?_;refine call (Av true _) ?_;rintro _ w3 ⟨rfl,Qk⟩;have Vt:=(Ext.drew w2).trans Qk;refine⟨Vt,?_⟩;have s1:Set1 k [] 1 (λ_=>true):=br k true;refine call (Fs hk A n c none 0 0 2 (by decide) w3 (h.ext (Q7.trans Vt)) (SlS.nil _) s s1) ?_;rintro _ w4 ⟨PA,q,pc,nd,r,rfl,Qq,d9,WG,bC⟩;have Jj:=Vt.trans Qq;refine⟨Jj,?_⟩;have hz:=(Q7.trans Vt).size;refine Qz (Qw.ext Jj) rfl (sc rfl) (λw5 Jw _ QK=>?_);have Z1:Mod (·=w1.heap.size) w4 w5:=mQW Jw rfl;refine Qs QK rfl ?_;have Uh:=Vt.size;exact⟨PA,q,pc,nd,r,rfl,Z1.ext (Q7.trans Jj) (λi hi=>by omega),d9.mod Z1 (λi hi e=>by have:=bC i hi;omega),WG.congr (λe=>by cases o e<;>rfl),λi hi=>by have:=bC i hi;omega⟩
theorem gQi {a b:List Br}{ra rb:Int}{o o':(Nat->Bool)->Bool}(A:Option Addr)(n c:Nat)(B:Option Addr)(m d:Nat)(w:World)(h:SB w A n c a)(h':SB w B m d b)(s:Set1 k a ra o)(s':Set1 k b rb o'):
  Fn Tryz.prog 23 [Xm A n c ra,Xm B m d rb] w (fz w k (λe=>o e && !o' e)):=by
 refine QD (c:={c23 with cuts:=[]}) Qa Tryz.func23 rfl rfl rfl ?_;refine new (λw1 Qd Q3 Qh=>?_);refine new (λw2 Qg Zb Qw=>?_);refine new (λw3 Qk JI Qt=>?_);have QW:=(Qd.trans Qg).trans Qk;have K2:=(Qh.ext Qg).ext Qk;have mZ:=Qw.ext Qk;refine XC Qa (Ext w3) 4 [(true,0),(true,1),(false,2),(false,3)] (by kernel_rfl) (Ext.drew w3) ?_;refine Xq (vs:=[.slice A n c,.int .i64 ra]) rfl (λw' Qb j v hj=>by have:=(K2.ext Qb).cell j;rw[this];exact hj) ?_;refine Xq (vs:=[.slice B m d,.int .i64 rb]) rfl (λw' Qb j v hj=>by have:=(mZ.ext Qb).cell j;rw[this];exact hj) ?_;refine call (gQh hk B m d _ (h'.ext (QW.trans (Ext.drew w3))) s') ?_;rintro _ w4 ⟨QA,q1,qc,nd1,r1,rfl,Qq,hQ4,hT4,_⟩;have KQ:=(Ext.drew w3).trans Qq;refine⟨KQ,?_⟩;refine call (P6 hk A n c QA q1 qc w4 (h.ext (QW.trans KQ)) hQ4 s hT4) ?_;rintro _ w5 ⟨PA,q,pc,nd,r,rfl,Qv,p9,gI,aO⟩;have J6:=KQ.trans Qv;refine⟨J6,?_⟩;have mQa:=KQ.size;refine Qz (Qt.ext J6) rfl (sc rfl) (λw6 WE _ Xo=>?_);have KZ:Mod (·=w2.heap.size) w5 w6:=mQW WE rfl;refine Qs Xo rfl ?_;exact⟨PA,q,pc,nd,r,rfl,KZ.ext (QW.trans J6) (λi hi=>by omega),p9.mod KZ (λi hi e=>by have:=aO i hi;omega),gI.congr (λe=>by simp[Ki]),λi hi=>by have:=aO i hi;omega⟩
end
theorem Ft {k v:Nat}(hv:v<k)(hk:k<=64):Set1 k [⟨(v:Nat),0,1⟩] 2 (λe=>e v):=⟨zT (by omega) (by omega),λb hb=>by simp only[QL] at hb;subst hb;show((v:Nat):Int)<k;omega,λe=>by
 rw[bZ (zT (k:=((v:Nat):Int)) (by omega) (by omega)).wf (by decide) (b:=⟨(v:Nat),0,1⟩) rfl,JD (by simp),JD (by simp)];cases h:e v<;>simp[h]⟩
end
noncomputable section
section
structure Sx where
 f:Int
 t:Int
 fl:Int
 at_:Int
 x:DV
def Sx.cells (y:Sx):List Value:=[.int .i64 y.f,.int .i64 y.t,.int .i64 y.fl,.int .i64 y.at_,.slice y.x.A y.x.n y.x.c,.int .i64 y.x.r]
theorem Aw (y:Sx):y.cells.length=6:=rfl
structure SX (w:World) (A:Option Addr) (n c:Nat) (L:List Sx):Prop where
 sl:SlS Sx.cells 6 w A n c L
 dg:∀y∈L,SB w y.x.A y.x.n y.x.c y.x.nd
theorem SX.ext {w w':World}{A:Option Addr}{n c:Nat}{L:List Sx}(h:SX w A n c L)(k:Ext w w'):SX w' A n c L:=⟨h.sl.ext k,λy hy=>(h.dg y hy).ext k⟩
def gQj (tx:List Nat)(at_:Int)(y:Sx):Prop:=y.f=at_/\at_<y.t/\y.t<=tx.length/\tx[(y.t-1).toNat]? =some 10/\XG y.x.nd y.x.r=0/\0<=y.fl/\0<=y.at_/\y.at_<=1048576-(y.t-y.f)
def P7 (tx:List Nat):Int->List Sx->Prop
 | at_,[]=>at_=tx.length
 | at_,y::L=>gQj tx at_ y/\P7 tx y.t L
open Classical in
def gQk (tx:List Nat)(L:List Sx):Int:=if 1048576<tx.length∨65536<L.length then 2 else if P7 tx 0 L then 0 else 70
end
section
end
section
abbrev I2:=Int×Int
abbrev gu:I2->Value:=λt=>.agg #[.int .i64 t.1,.int .i64 t.2]
theorem gQl (a b:I2)(n:Nat)(w:World):(Op.equalIn (n+2) 253 (gu a) (gu b)).run Tryz.prog w= .ok (decide (a=b)) w:=by
 obtain⟨i,hi⟩:=Mz.1 (show(Tryz.prog.info? 3).isSome=true by kernel_rfl);obtain⟨a0,a1⟩:=a;obtain⟨b0,b1⟩:=b;have e:=run_equalIn_array (w:=w) (n+1) #[.int .i64 a0,.int .i64 a1] #[.int .i64 b0,.int .i64 b1] Tryz.underlying253 hi;rw[zX,show List.range 2=[0,1] from rfl] at e;refine e.trans ?_;have p0:∀x y:Int,(part 3 #[Value.int .i64 x,.int .i64 y] (0*1)).run Tryz.prog w= .ok (.int .i64 x) w:=λx y=>bS k3 rfl w
 have p1:∀x y:Int,(part 3 #[Value.int .i64 x,.int .i64 y] (1*1)).run Tryz.prog w= .ok (.int .i64 y) w:=λx y=>bS k3 rfl w
 have dd:decide ((a0,a1)=(b0,b1))=(a0==b0&&a1==b1):=by
  by_cases h0:a0=b0<;>by_cases h1:a1=b1<;>simp[h0,h1]
 rw[dd];simp only[Op.eqItems,Sem.run_bind,p0,Result.andThen_ok,vD];cases h0:a0==b0 with
 | false=>simp
 | true=>
  simp only[Bool.not_true,Mu,if_false,Sem.run_bind,p1,Result.andThen_ok,vD,dH];cases h1:a1==b1<;>simp
theorem gQm (b:Bool)(a:I2)(n:Nat)(w:World):(Instr.checkKey b (n+2) 253 (gu a)).run Tryz.prog w= .ok () w:=by
 obtain⟨i,hi⟩:=Mz.1 (show(Tryz.prog.info? 3).isSome=true by kernel_rfl);have p0:∀x y:Int,(part 3 #[Value.int .i64 x,.int .i64 y] 0).run Tryz.prog w= .ok (.int .i64 x) w:=λx y=>bS k3 rfl w
 have p1:∀x y:Int,(part 3 #[Value.int .i64 x,.int .i64 y] 1).run Tryz.prog w= .ok (.int .i64 y) w:=λx y=>bS k3 rfl w
 have hz:(sizeOf 3).run Tryz.prog w= .ok 1 w:=by rw[<-zX];exact Go.run_sizeOf w hi
 simp[Instr.checkKey,ZL Tryz.underlying253,ZL Tryz.underlying3,hz,p0,p1,Std.Legacy.Range.forIn_eq_forIn_range',Std.Legacy.Range.size,List.range'_succ]
theorem Ax:KeyQ Tryz.prog 253 gu:=
 mQ1 Tryz.underlying253 (λa b w=>gQl a b 9998 w) (λb a w=>gQm b a 9998 w) (λa=>by simp[Instr.sameBits])
def dW (a:List Br)(x:Int)(b:List Br)(y:Int):Prop:=∃e,ev a x e=true/\ev b y e=true
theorem P8 {a:List Br}(h:Rd0 a){x:Int}(h0:0<=x)(h1:x<a.length+2)(hx:x≠0):∃e,ev a x e=true:=by
 apply Classical.byContradiction;intro hn;refine hx (inj h h0 (by decide) h1 (by omega) (λe=>?_));have e1:ev a 0 e=false:=by rw[JD (by decide)]<;>rfl
 rw[e1];cases hc:ev a x e with
 | false=>rfl
 | true=>exact Q8 ⟨e,hc⟩ hn
theorem gQn {a b:List Br}(ha:Rd0 a)(hb:Rd0 b){x y:Int}(x0:0<=x)(x1:x<a.length+2)(y0:0<=y)(y1:y<b.length+2){v:Int}(hv:v=min (Ql a x) (Ql b y))(er:v<64):
  dW a x b y↔dW a (Qm a x v).1 b (Qm b y v).1∨dW a (Qm a x v).2 b (Qm b y v).2:=by
 have l1:v<=Ql a x:=by rw[hv,ZW];split<;>omega
 have l2:v<=Ql b y:=by rw[hv,ZW];split<;>omega
 obtain⟨p1,p2,p3,p4,p5⟩:=sm ha x0 x1 l1 er;obtain⟨q1,q2,q3,q4,q5⟩:=sm hb y0 y1 l2 er;have v0:0<=v:=by
  have:=ha.lvl0 x1;have:=hb.lvl0 y1;rw[hv,ZW];split<;>omega
 constructor
 ·rintro⟨e,e1,e2⟩;rw[p1] at e1;rw[q1] at e2;cases he:e v.toNat with
  | true=>rw[he,Qf rfl] at e1 e2;exact .inr ⟨e,e1,e2⟩
  | false=>rw[he,if_neg (by decide)] at e1 e2;exact .inl ⟨e,e1,e2⟩
 ·rintro(⟨e,e1,e2⟩ | ⟨e,e1,e2⟩)
  ·refine⟨Yg e v.toNat false,?_,?_⟩
   ·rw[p1,show Yg e v.toNat false v.toNat=false from Qf rfl,if_neg (by decide),cX ha v.toNat false e _ _ (dI _) p4 (by omega)];exact e1
   ·rw[q1,show Yg e v.toNat false v.toNat=false from Qf rfl,if_neg (by decide),cX hb v.toNat false e _ _ (dI _) q4 (by omega)];exact e2
  ·refine⟨Yg e v.toNat true,?_,?_⟩
   ·rw[p1,show Yg e v.toNat true v.toNat=true from Qf rfl,Qf rfl,cX ha v.toNat true e _ _ (dI _) p5 (by omega)];exact e1
   ·rw[q1,show Yg e v.toNat true v.toNat=true from Qf rfl,Qf rfl,cX hb v.toNat true e _ _ (dI _) q5 (by omega)];exact e2
structure MP where
 D:DV
 E:DV
 bo:Nat
 sx:Nat
 ax:Nat
 bx:Nat
 cx:Nat
 q:Nat
def MP.caps (p:MP):List Value:=[VP.ptr p.bo,VP.ptr p.sx,VP.ptr p.ax,VP.ptr p.bx,VP.ptr p.cx]
def MP.clo (p:MP):Value:=.func (.func 166) #[] #[VP.ptr p.bo,VP.ptr p.sx,VP.ptr p.ax,VP.ptr p.bx,VP.ptr p.cx]
structure MK (w:World) (p:MP):Prop where
 bob:Blk w p.bo 4 [.bool true]
 sxb:Blk w p.sx 251 [.map (some p.q)]
 axb:Blk w p.ax 32 p.D.cells
 bxb:Blk w p.bx 32 p.E.cells
 cxb:Blk w p.cx 252 [p.clo]
 as_:SB w p.D.A p.D.n p.D.c p.D.nd
 bs:SB w p.E.A p.E.n p.E.c p.E.nd
 off:p.bo≠p.q/\p.sx≠p.q/\p.ax≠p.q/\p.bx≠p.q/\p.cx≠p.q
 rowA:∀ad,p.D.A=some ad->0<p.D.n->ad.block≠p.q
 rowB:∀ad,p.E.A=some ad->0<p.E.n->ad.block≠p.q
theorem MK.mod {w w':World}{p:MP}(h:MK w p)(hm:Mod (·=p.q) w w'):MK w' p:=by
 obtain⟨o1,o2,o3,o4,o5⟩:=h.off;refine⟨h.bob.mod hm o1,h.sxb.mod hm o2,h.axb.mod hm o3,h.bxb.mod hm o4,h.cxb.mod hm o5,⟨h.as_.1.modS hm ?_,h.as_.2⟩,⟨h.bs.1.modS hm ?_,h.bs.2⟩,h.off,h.rowA,h.rowB⟩
 ·rintro h0 i ⟨ad,e,rfl⟩;exact h.rowA ad e h0
 ·rintro h0 i ⟨ad,e,rfl⟩;exact h.rowB ad e h0
theorem MK.ext {w w':World}{p:MP}(h:MK w p)(k:Ext w w'):MK w' p:=h.mod (Mod.of_ext _ k)
def mG (w:World)(q:Nat)(S:List I2):Prop:=∃m,MapQ gu w q m/\∀t,(Xv t m).getD (.bool false)= .bool (decide (t∈S))
def MtC (p:MP)(x y:Int)(S:List I2)(w:World)(v:Value)(w':World):Prop:=
 Mod (·=p.q) w w'/\∃r:Bool,v= .bool r/\(r=true->dW p.D.nd x p.E.nd y)/\(r=false->¬dW p.D.nd x p.E.nd y/\∃S',mG w' p.q S'/\∀t∈S',t∈S∨¬dW p.D.nd t.1 p.E.nd t.2)
theorem P9 (p:MP)(ha:Rd0 p.D.nd)(hb:Rd0 p.E.nd):∀(k:Nat)(x y:Int)(S:List I2)(w:World),
  MK w p->mG w p.q S->(∀t∈S,t.1+t.2<=x+y->¬dW p.D.nd t.1 p.E.nd t.2)->0<=x->0<=y->x<p.D.n+2->y<p.E.n+2->x+y<k->
  Fn Tryz.prog 166 (.int .i64 x:: .int .i64 y::p.caps) w (MtC p x y S w)
 | 0,x,y,_,_,_,_,_,x0,y0,_,_,hk=>by omega
 | k+1,x,y,S,w,hK,hS,Xf,x0,y0,hx,hy,hk=>by
  have ih:=P9 p ha hb k;have KU:p.D.nd.length=p.D.n:=hK.as_.2;have eU:p.E.nd.length=p.E.n:=hK.bs.2;refine QD (c:={Nx with cuts:=[]}) Qa Tryz.func166 rfl rfl rfl ?_;refine Zh (λc1=>?_) (λc1=>?_)
  ·exact⟨Mod.refl _ _,false,rfl,λh=>(by cases h),λ_=>⟨(λ⟨e,e1,_⟩=>by rw[c1,JD (by decide)] at e1;cases e1),S,hS,λt ht=>.inl ht⟩⟩
  refine Qy (λc2=>?_) (λc2=>?_)
  ·refine Qx hK.bob rfl ?_;by_cases y1:y=1
   ·subst y1;refine Q5 rfl ?_;refine XH c2 ?_;refine⟨Mod.refl _ _,true,rfl,λ_=>?_,λh=>by cases h⟩;obtain⟨e,he⟩:=P8 ha x0 (by omega) c1;exact⟨e,he,by rw[JD (by decide)];rfl⟩
   ·have HQ:y=0:=by omega
    subst HQ;refine Xa rfl ?_;exact⟨Mod.refl _ _,false,rfl,λh=>(by cases h),λ_=>⟨(λ⟨e,_,e1⟩=>by rw[JD (by decide)] at e1;cases e1),S,hS,λt ht=>.inl ht⟩⟩
  refine Q9 c2 ?_;obtain⟨mq,dC,K7⟩:=hS;refine Qx hK.sxb rfl ?_;refine EE (kv:=gu) (a:=((x,y):I2)) Qa rfl rfl rfl rfl Ax rfl rfl dC (K7 (x,y)) ?_;refine Qy (λc3=>?_) (λc3=>?_)
  ·exact⟨Mod.refl _ _,false,rfl,λh=>(by cases h),λ_=>⟨Xf (x,y) c3 (lN _),S,⟨mq,dC,K7⟩,λt ht=>.inl ht⟩⟩
  refine Qx hK.sxb rfl ?_;refine rT (kv:=gu) (a:=((x,y):I2)) Qa rfl rfl rfl rfl Ax rfl rfl rfl dC (λw1 d8 Q3 nA=>?_);have J8:=hK.mod d8;have KR:mG w1 p.q ((x,y)::S):=⟨_,nA,λt=>by
   rw[aC];by_cases ht:t=(x,y)
   ·subst ht;simp
   ·rw[if_neg ht,K7 t];simp[ht]⟩
  have Zv:min (Ql p.D.nd x) (Ql p.E.nd y)<64:=by
   have:=W4 hb.dok (n:=y) c2 (by omega);rw[ZW];split<;>omega
  have Bc:=ha.lvl0 (n:=x) (by omega);have Xy:=hb.lvl0 (n:=y) (by omega);refine XC Qa (Ext w1) 8 [(true,0),(true,1),(true,3),(true,4),(false,2),(false,5),(true,6),(true,7)] (by kernel_rfl) (Ext.drew w1) ?_;refine Xq (vs:=p.D.cells) rfl (λw' Qb j v hj=>by rw[(J8.axb.ext Qb).cell];exact hj) ?_;refine Xq (vs:=p.E.cells) rfl (λw' Qb j v hj=>by rw[(J8.bxb.ext Qb).cell];exact hj) ?_;refine call (cS p.D.A p.D.n p.D.c p.D.r x p.D.nd _ (J8.as_.ext (Ext.drew w1)) (by omega)) ?_;rintro u w2 ⟨rfl,Qg⟩;have Xs:=(Ext.drew w1).trans Qg;refine⟨Xs,?_⟩;refine call (cS p.E.A p.E.n p.E.c p.E.r y p.E.nd _ (J8.bs.ext Xs) (by omega)) ?_;rintro u w3 ⟨rfl,Qk⟩;have XK:=Xs.trans Qk;refine⟨XK,?_⟩;have nN:(if Ql p.E.nd y<Ql p.D.nd x then Ql p.E.nd y else Ql p.D.nd x)=min (Ql p.D.nd x) (Ql p.E.nd y):=by
   rw[ZW];split<;>split<;>omega
  refine norm (m:=min (Ql p.D.nd x) (Ql p.E.nd y)) nN ?_;have rj:=gQn ha hb x0 (by omega) y0 (by omega) (rfl:min (Ql p.D.nd x) (Ql p.E.nd y)=_) Zv;have eV:Ql p.D.nd x=min (Ql p.D.nd x) (Ql p.E.nd y)∨Ql p.E.nd y=min (Ql p.D.nd x) (Ql p.E.nd y):=by rw[ZW];split<;>simp
  generalize xS:min (Ql p.D.nd x) (Ql p.E.nd y)=v at*;obtain⟨s1,s2,s3,s4,s5⟩:=Y7 ha.dok (n:=x) x0 Zv;obtain⟨t1,t2,t3,t4,t5⟩:=Y7 hb.dok (n:=y) y0 Zv;have dec:(Qm p.D.nd x v).1+(Qm p.E.nd y v).1<x+y/\(Qm p.D.nd x v).2+(Qm p.E.nd y v).2<x+y:=by
   rcases eV with e | e
   ·have:=s5 e;omega
   ·have:=t5 e;omega
  have eo:=J8.ext XK;refine Qs eo.axb rfl ?_;refine call (iJ p.D.A p.D.n p.D.c p.D.r x v p.D.nd _ eo.as_ (by omega) Zv) ?_;rintro u w4 ⟨rfl,Qq⟩;have VL:=eo.ext Qq;refine Qs VL.bxb rfl ?_;refine call (iJ p.E.A p.E.n p.E.c p.E.r y v p.E.nd _ VL.bs (by omega) Zv) ?_;rintro u w5 ⟨rfl,Qv⟩;have iZ:=VL.ext Qv;have V6:=(XK.trans Qq).trans Qv;have Z1:Mod (·=p.q) w w5:=d8.trans (Mod.of_ext (·=p.q) V6) (λi hi=>.inl hi);have gI:mG w5 p.q ((x,y)::S):=let ⟨m,k1,k2⟩:=KR;⟨m,k1.ext V6,k2⟩;refine Qx iZ.cxb rfl ?_;refine call (ih (Qm p.D.nd x v).1 (Qm p.E.nd y v).1 ((x,y)::S) w5 iZ gI (λt ht ZO=>by
   rcases QZ.1 ht with rfl | ht
   ·exact Q8 ZO (by simp only;omega)
   ·exact Xf t ht (by omega)) s1 t1 (by omega) (by omega) (by omega)) ?_
  rintro _ w6 ⟨KZ,r0,rfl,wh,gW⟩;have xd:Mod (·=p.q) w w6:=Z1.trans KZ (λi hi=>.inl hi);cases r0 with
  | true=>
   refine Xa rfl ?_;exact⟨xd,true,rfl,λ_=>rj.2 (.inl (wh rfl)),λh=>by cases h⟩
  | false=>
   obtain⟨n0,S6,i6,xe⟩:=gW rfl;refine Q5 rfl ?_;have bE:=iZ.mod KZ;refine Qx bE.cxb rfl ?_;refine call (ih (Qm p.D.nd x v).2 (Qm p.E.nd y v).2 S6 w6 bE i6 (λt ht ZO=>by
    rcases xe t ht with ht | ht
    ·rcases QZ.1 ht with rfl | ht
     ·exact Q8 ZO (by simp only;omega)
     ·exact Xf t ht (by omega)
    ·exact ht) s3 t3 (by omega) (by omega) (by omega)) ?_
   rintro _ w7 ⟨Xb,r1,rfl,m0,ZB⟩;have HS:Mod (·=p.q) w w7:=xd.trans Xb (λi hi=>.inl hi);refine⟨HS,r1,rfl,λh=>rj.2 (.inr (m0 h)),λh=>?_⟩;obtain⟨n1,S7,XX,HT⟩:=ZB h;have nn:¬dW p.D.nd x p.E.nd y:=λhh=>(rj.1 hh).elim n0 n1
   refine⟨nn,S7,XX,λt ht=>?_⟩;rcases HT t ht with ht | ht
   ·rcases xe t ht with ht | ht
    ·rcases QZ.1 ht with rfl | ht
     ·exact .inr nn
     ·exact .inl ht
    ·exact .inr ht
   ·exact .inr ht
theorem gQo (A:Option Addr)(n c:Nat)(a:List Br)(ra:Int)(B:Option Addr)(m d:Nat)(b:List Br)(rb:Int)(w:World)(h:SB w A n c a)(h':SB w B m d b)(ha:VD a ra)(hb:VD b rb):
  Fn Tryz.prog 112 [Xm A n c ra,Xm B m d rb,.bool true] w (λu w'=>∃r:Bool,u= .bool r/\Ext w w'/\(r=true↔dW a ra b rb)):=by
 have KU:=h.2;have eU:=h'.2;refine QD (c:={Nv with cuts:=[]}) Qa Tryz.func112 rfl rfl rfl ?_;refine new (λw1 Qd Q3 Qh=>?_);refine new (λw2 Qg Zb Qw=>?_);refine new (λw3 Qk JI Qt=>?_);have QW:=(Qd.trans Qg).trans Qk;refine rS Qa gu rfl ?_;intro w4 Qq KY HU;refine new (λw5 Qv KJ QK=>?_);refine KE QK (by decide) (λw6 KZ Xo=>?_);have Xz:Ext w4 w6:=KZ.ext Qv (λi hi=>by omega);refine new (λw7 Q2 WJ Q6=>?_);refine KE Q6 (by decide) (λw8 ZC Xt=>?_);have aQ:Ext w6 w8:=ZC.ext Q2 (λi hi=>by omega);have jd:=Xz.trans aQ;have YV:=Qq.trans jd;have YR:=QW.trans YV;have z6:=Xz.size
 let p:MP:=⟨⟨A,n,c,a,ra⟩,⟨B,m,d,b,rb⟩,w2.heap.size,w4.heap.size,w.heap.size,w1.heap.size,w6.heap.size,w3.heap.size⟩
 have hK:MK w8 p:=by
  refine⟨Qt.ext YV,Xo.ext aQ,Qh.ext ((Qg.trans Qk).trans YV),Qw.ext (Qk.trans YV),Xt,h.ext YR,h'.ext YR,?_,λad e h0=>?_,λad e h0=>?_⟩
  ·simp only[p];omega
  ·have:=SB.lt h ad e h0;simp only[p];omega
  ·have:=SB.lt h' ad e h0;simp only[p];omega
 refine Qx hK.cxb rfl ?_;refine Qp hK.axb rfl ?_;refine Qp hK.bxb rfl ?_;refine call (P9 p ha.rd0 hb.rd0 (ra.toNat+rb.toNat+1) ra rb [] w8 hK ⟨[],HU.ext jd,λt=>rfl⟩ (λt ht=>by cases ht) ha.2.1 hb.2.1 (by have:=ha.2.2.1;simp only[p];omega) (by have:=hb.2.2.1;simp only[p];omega) (by have:=ha.2.1;have:=hb.2.1;omega)) ?_;rintro _ w9 ⟨Ze,r,rfl,h1,h2⟩;refine⟨r,rfl,Ze.ext YR (λi hi=>by simp only[p] at hi;have:=QW.size;omega),⟨h1,λhh=>?_⟩⟩;cases r with
 | true=>rfl
 | false=>exact Q8 hh (h2 rfl).1
open Classical in
def pA (a:List Br)(ra:Int)(b:List Br)(rb:Int):Bool:=decide (XG a ra=0/\XG b rb=0/\¬dW a ra b rb)
open Classical in
theorem Ra {a:List Br}{ra:Int}{b:List Br}{rb:Int}:pA a ra b rb=true↔XG a ra=0/\XG b rb=0/\¬dW a ra b rb:=by unfold pA;exact decide_eq_true_iff
theorem Rb {a:List Br}{ra:Int}{b:List Br}{rb:Int}(h:XG a ra=0/\XG b rb=0/\¬dW a ra b rb):pA a ra b rb=true:=Ra.2 h
theorem Fu {a:List Br}{ra:Int}{b:List Br}{rb:Int}(h:¬(XG a ra=0/\XG b rb=0/\¬dW a ra b rb)):pA a ra b rb=false:=by
 cases hh:pA a ra b rb with
 | false=>rfl
 | true=>exact Q8 (Ra.1 hh) h
theorem Rc (A:Option Addr)(n c:Nat)(a:List Br)(ra:Int)(B:Option Addr)(m d:Nat)(b:List Br)(rb:Int)(w:World)(h:SB w A n c a)(h':SB w B m d b):
  Fn Tryz.prog 97 [Xm A n c ra,Xm B m d rb] w (λu w'=>u= .bool (pA a ra b rb)/\Ext w w'):=by
 refine QD (c:={c97 with cuts:=[]}) Qa Tryz.func97 rfl rfl rfl ?_;refine new (λw1 Qd Q3 Qh=>?_);refine new (λw2 Qg Zb Qw=>?_);have Q7:=Qd.trans Qg;refine Qs (Qh.ext Qg) rfl ?_;refine Qs Qw rfl ?_;refine XI Qa [(⟨A,n,c,a,ra⟩:DV).cells,(⟨B,m,d,b,rb⟩:DV).cells] rfl rfl rfl rfl rfl ⟨rfl,rfl,rfl,rfl,⟨⟩⟩ rfl (λcs h=>by simp only[QZ,Jf,Jn] at h;rcases h with rfl | rfl<;>rfl) rfl (by decide) (by decide) ?_;intro w5 Qv KJ QK;have JV:=Q7.trans Qv;have hL:SlS DV.cells 2 w5 (some ⟨w2.heap.size,0,none⟩) 2 2 [⟨A,n,c,a,ra⟩,⟨B,m,d,b,rb⟩]:=⟨Sl.own (sz:=2) (n:=2) QK (QC _) (by decide) (by simp[DV.cells]),rfl⟩
 refine call (zW _ 2 2 _ w5 hL (λx hx=>by
  simp only[QZ,Jf,Jn] at hx;rcases hx with rfl | rfl
  ·exact h.ext JV
  ·exact h'.ext JV)) ?_
 rintro v w6 ⟨rfl,Xh⟩;have XM:=JV.trans Xh;have ef:bY [(⟨A,n,c,a,ra⟩:DV),⟨B,m,d,b,rb⟩]=if XG a ra≠0 then XG a ra else if XG b rb≠0 then XG b rb else 0:=rfl
 have gW:bY [(⟨A,n,c,a,ra⟩:DV),⟨B,m,d,b,rb⟩]=0↔XG a ra=0/\XG b rb=0:=by
  rw[ef];by_cases h1:XG a ra=0
  ·rw[if_neg (λhh=>hh h1)];by_cases h2:XG b rb=0
   ·rw[if_neg (λhh=>hh h2)];simp[h1,h2]
   ·rw[Qf h2];simp[h2]
  ·rw[Qf h1];simp[h1]
 refine Zh (λc1=>?_) (λc1=>?_)
 ·obtain⟨ca,cb⟩:=gW.1 c1;refine Qs ((Qh.ext Qg).ext (Qv.trans Xh)) rfl ?_;refine Qs (Qw.ext (Qv.trans Xh)) rfl ?_;refine call (gQo A n c a ra B m d b rb w6 (h.ext XM) (h'.ext XM) (fw.1 ca).2 (fw.1 cb).2) ?_;rintro _ w7 ⟨r,rfl,Q2,hr⟩;refine⟨?_,XM.trans Q2⟩;cases r with
  | true=>rw[Fu (λhh=>hh.2.2 (hr.1 rfl))]<;>rfl
  | false=>rw[Rb ⟨ca,cb,λhh=>by have:=hr.2 hh;cases this⟩];rfl
 ·exact⟨by rw[Fu (λhh=>c1 (gW.2 ⟨hh.1,hh.2.1⟩))],XM⟩
def ixV (l:List Nat):List Value:=l.map (λ(i:Nat)=>Value.int .i64 i)
end
section
def dX (a:List Br)(x:Int)(b:List Br)(y:Int):Prop:=∃e,ev a x e=true/\ev b y e=false
theorem gQp {a b:List Br}(ha:Rd0 a)(hb:Rd0 b){x y:Int}(x0:0<=x)(x1:x<a.length+2)(y0:0<=y)(y1:y<b.length+2){v:Int}(hv:v=min (Ql a x) (Ql b y))(er:v<64):
  dX a x b y↔dX a (Qm a x v).1 b (Qm b y v).1∨dX a (Qm a x v).2 b (Qm b y v).2:=by
 have l1:v<=Ql a x:=by rw[hv,ZW];split<;>omega
 have l2:v<=Ql b y:=by rw[hv,ZW];split<;>omega
 obtain⟨p1,p2,p3,p4,p5⟩:=sm ha x0 x1 l1 er;obtain⟨q1,q2,q3,q4,q5⟩:=sm hb y0 y1 l2 er;have v0:0<=v:=by
  have:=ha.lvl0 x1;have:=hb.lvl0 y1;rw[hv,ZW];split<;>omega
 constructor
 ·rintro⟨e,e1,e2⟩;rw[p1] at e1;rw[q1] at e2;cases he:e v.toNat with
  | true=>rw[he,Qf rfl] at e1 e2;exact .inr ⟨e,e1,e2⟩
  | false=>rw[he,if_neg (by decide)] at e1 e2;exact .inl ⟨e,e1,e2⟩
 ·rintro(⟨e,e1,e2⟩ | ⟨e,e1,e2⟩)
  ·refine⟨Yg e v.toNat false,?_,?_⟩
   ·rw[p1,show Yg e v.toNat false v.toNat=false from Qf rfl,if_neg (by decide),cX ha v.toNat false e _ _ (dI _) p4 (by omega)];exact e1
   ·rw[q1,show Yg e v.toNat false v.toNat=false from Qf rfl,if_neg (by decide),cX hb v.toNat false e _ _ (dI _) q4 (by omega)];exact e2
  ·refine⟨Yg e v.toNat true,?_,?_⟩
   ·rw[p1,show Yg e v.toNat true v.toNat=true from Qf rfl,Qf rfl,cX ha v.toNat true e _ _ (dI _) p5 (by omega)];exact e1
   ·rw[q1,show Yg e v.toNat true v.toNat=true from Qf rfl,Qf rfl,cX hb v.toNat true e _ _ (dI _) q5 (by omega)];exact e2
structure MPn where
 D:DV
 E:DV
 bo:Nat
 sx:Nat
 ax:Nat
 bx:Nat
 cx:Nat
 q:Nat
def MPn.caps (p:MPn):List Value:=[VP.ptr p.bo,VP.ptr p.sx,VP.ptr p.ax,VP.ptr p.bx,VP.ptr p.cx]
def MPn.clo (p:MPn):Value:=.func (.func 166) #[] #[VP.ptr p.bo,VP.ptr p.sx,VP.ptr p.ax,VP.ptr p.bx,VP.ptr p.cx]
structure MKn (w:World) (p:MPn):Prop where
 bob:Blk w p.bo 4 [.bool false]
 sxb:Blk w p.sx 251 [.map (some p.q)]
 axb:Blk w p.ax 32 p.D.cells
 bxb:Blk w p.bx 32 p.E.cells
 cxb:Blk w p.cx 252 [p.clo]
 as_:SB w p.D.A p.D.n p.D.c p.D.nd
 bs:SB w p.E.A p.E.n p.E.c p.E.nd
 off:p.bo≠p.q/\p.sx≠p.q/\p.ax≠p.q/\p.bx≠p.q/\p.cx≠p.q
 rowA:∀ad,p.D.A=some ad->0<p.D.n->ad.block≠p.q
 rowB:∀ad,p.E.A=some ad->0<p.E.n->ad.block≠p.q
theorem MKn.mod {w w':World}{p:MPn}(h:MKn w p)(hm:Mod (·=p.q) w w'):MKn w' p:=by
 obtain⟨o1,o2,o3,o4,o5⟩:=h.off;refine⟨h.bob.mod hm o1,h.sxb.mod hm o2,h.axb.mod hm o3,h.bxb.mod hm o4,h.cxb.mod hm o5,⟨h.as_.1.modS hm ?_,h.as_.2⟩,⟨h.bs.1.modS hm ?_,h.bs.2⟩,h.off,h.rowA,h.rowB⟩
 ·rintro h0 i ⟨ad,e,rfl⟩;exact h.rowA ad e h0
 ·rintro h0 i ⟨ad,e,rfl⟩;exact h.rowB ad e h0
theorem MKn.ext {w w':World}{p:MPn}(h:MKn w p)(k:Ext w w'):MKn w' p:=h.mod (Mod.of_ext _ k)
def gQq (p:MPn)(x y:Int)(S:List I2)(w:World)(v:Value)(w':World):Prop:=
 Mod (·=p.q) w w'/\∃r:Bool,v= .bool r/\(r=true->dX p.D.nd x p.E.nd y)/\(r=false->¬dX p.D.nd x p.E.nd y/\∃S',mG w' p.q S'/\∀t∈S',t∈S∨¬dX p.D.nd t.1 p.E.nd t.2)
theorem Re (p:MPn)(ha:Rd0 p.D.nd)(hb:Rd0 p.E.nd):∀(k:Nat)(x y:Int)(S:List I2)(w:World),
  MKn w p->mG w p.q S->(∀t∈S,t.1+t.2<=x+y->¬dX p.D.nd t.1 p.E.nd t.2)->0<=x->0<=y->x<p.D.n+2->y<p.E.n+2->x+y<k->
  Fn Tryz.prog 166 (.int .i64 x:: .int .i64 y::p.caps) w (gQq p x y S w)
 | 0,x,y,_,_,_,_,_,x0,y0,_,_,hk=>by omega
 | k+1,x,y,S,w,hK,hS,Xf,x0,y0,hx,hy,hk=>by
  have ih:=Re p ha hb k;have KU:p.D.nd.length=p.D.n:=hK.as_.2;have eU:p.E.nd.length=p.E.n:=hK.bs.2;refine QD (c:={Nx with cuts:=[]}) Qa Tryz.func166 rfl rfl rfl ?_;refine Zh (λc1=>?_) (λc1=>?_)
  ·exact⟨Mod.refl _ _,false,rfl,λh=>(by cases h),λ_=>⟨(λ⟨e,e1,_⟩=>by rw[c1,JD (by decide)] at e1;cases e1),S,hS,λt ht=>.inl ht⟩⟩
  refine Qy (λc2=>?_) (λc2=>?_)
  ·refine Qx hK.bob rfl ?_;by_cases y1:y=1
   ·subst y1;refine Xa rfl ?_;exact⟨Mod.refl _ _,false,rfl,λh=>(by cases h),λ_=>⟨(λ⟨e,_,e1⟩=>by rw[JD (by decide)] at e1;cases e1),S,hS,λt ht=>.inl ht⟩⟩
   ·have HQ:y=0:=by omega
    subst HQ;refine Q5 rfl ?_;refine XH c2 ?_;refine⟨Mod.refl _ _,true,rfl,λ_=>?_,λh=>by cases h⟩;obtain⟨e,he⟩:=P8 ha x0 (by omega) c1;exact⟨e,he,by rw[JD (by decide)];rfl⟩
  refine Q9 c2 ?_;obtain⟨mq,dC,K7⟩:=hS;refine Qx hK.sxb rfl ?_;refine EE (kv:=gu) (a:=((x,y):I2)) Qa rfl rfl rfl rfl Ax rfl rfl dC (K7 (x,y)) ?_;refine Qy (λc3=>?_) (λc3=>?_)
  ·exact⟨Mod.refl _ _,false,rfl,λh=>(by cases h),λ_=>⟨Xf (x,y) c3 (lN _),S,⟨mq,dC,K7⟩,λt ht=>.inl ht⟩⟩
  refine Qx hK.sxb rfl ?_;refine rT (kv:=gu) (a:=((x,y):I2)) Qa rfl rfl rfl rfl Ax rfl rfl rfl dC (λw1 d8 Q3 nA=>?_);have J8:=hK.mod d8;have KR:mG w1 p.q ((x,y)::S):=⟨_,nA,λt=>by
   rw[aC];by_cases ht:t=(x,y)
   ·subst ht;simp
   ·rw[if_neg ht,K7 t];simp[ht]⟩
  have Zv:min (Ql p.D.nd x) (Ql p.E.nd y)<64:=by
   have:=W4 hb.dok (n:=y) c2 (by omega);rw[ZW];split<;>omega
  have Bc:=ha.lvl0 (n:=x) (by omega);have Xy:=hb.lvl0 (n:=y) (by omega);refine XC Qa (Ext w1) 8 [(true,0),(true,1),(true,3),(true,4),(false,2),(false,5),(true,6),(true,7)] (by kernel_rfl) (Ext.drew w1) ?_;refine Xq (vs:=p.D.cells) rfl (λw' Qb j v hj=>by rw[(J8.axb.ext Qb).cell];exact hj) ?_;refine Xq (vs:=p.E.cells) rfl (λw' Qb j v hj=>by rw[(J8.bxb.ext Qb).cell];exact hj) ?_;refine call (cS p.D.A p.D.n p.D.c p.D.r x p.D.nd _ (J8.as_.ext (Ext.drew w1)) (by omega)) ?_;rintro u w2 ⟨rfl,Qg⟩;have Xs:=(Ext.drew w1).trans Qg;refine⟨Xs,?_⟩;refine call (cS p.E.A p.E.n p.E.c p.E.r y p.E.nd _ (J8.bs.ext Xs) (by omega)) ?_;rintro u w3 ⟨rfl,Qk⟩;have XK:=Xs.trans Qk;refine⟨XK,?_⟩;have nN:(if Ql p.E.nd y<Ql p.D.nd x then Ql p.E.nd y else Ql p.D.nd x)=min (Ql p.D.nd x) (Ql p.E.nd y):=by
   rw[ZW];split<;>split<;>omega
  refine norm (m:=min (Ql p.D.nd x) (Ql p.E.nd y)) nN ?_;have rj:=gQp ha hb x0 (by omega) y0 (by omega) (rfl:min (Ql p.D.nd x) (Ql p.E.nd y)=_) Zv;have eV:Ql p.D.nd x=min (Ql p.D.nd x) (Ql p.E.nd y)∨Ql p.E.nd y=min (Ql p.D.nd x) (Ql p.E.nd y):=by rw[ZW];split<;>simp
  generalize xS:min (Ql p.D.nd x) (Ql p.E.nd y)=v at*;obtain⟨s1,s2,s3,s4,s5⟩:=Y7 ha.dok (n:=x) x0 Zv;obtain⟨t1,t2,t3,t4,t5⟩:=Y7 hb.dok (n:=y) y0 Zv;have dec:(Qm p.D.nd x v).1+(Qm p.E.nd y v).1<x+y/\(Qm p.D.nd x v).2+(Qm p.E.nd y v).2<x+y:=by
   rcases eV with e | e
   ·have:=s5 e;omega
   ·have:=t5 e;omega
  have eo:=J8.ext XK;refine Qs eo.axb rfl ?_;refine call (iJ p.D.A p.D.n p.D.c p.D.r x v p.D.nd _ eo.as_ (by omega) Zv) ?_;rintro u w4 ⟨rfl,Qq⟩;have VL:=eo.ext Qq;refine Qs VL.bxb rfl ?_;refine call (iJ p.E.A p.E.n p.E.c p.E.r y v p.E.nd _ VL.bs (by omega) Zv) ?_;rintro u w5 ⟨rfl,Qv⟩;have iZ:=VL.ext Qv;have V6:=(XK.trans Qq).trans Qv;have Z1:Mod (·=p.q) w w5:=d8.trans (Mod.of_ext (·=p.q) V6) (λi hi=>.inl hi);have gI:mG w5 p.q ((x,y)::S):=let ⟨m,k1,k2⟩:=KR;⟨m,k1.ext V6,k2⟩;refine Qx iZ.cxb rfl ?_;refine call (ih (Qm p.D.nd x v).1 (Qm p.E.nd y v).1 ((x,y)::S) w5 iZ gI (λt ht ZO=>by
   rcases QZ.1 ht with rfl | ht
   ·exact Q8 ZO (by simp only;omega)
   ·exact Xf t ht (by omega)) s1 t1 (by omega) (by omega) (by omega)) ?_
  rintro _ w6 ⟨KZ,r0,rfl,wh,gW⟩;have xd:Mod (·=p.q) w w6:=Z1.trans KZ (λi hi=>.inl hi);cases r0 with
  | true=>
   refine Xa rfl ?_;exact⟨xd,true,rfl,λ_=>rj.2 (.inl (wh rfl)),λh=>by cases h⟩
  | false=>
   obtain⟨n0,S6,i6,xe⟩:=gW rfl;refine Q5 rfl ?_;have bE:=iZ.mod KZ;refine Qx bE.cxb rfl ?_;refine call (ih (Qm p.D.nd x v).2 (Qm p.E.nd y v).2 S6 w6 bE i6 (λt ht ZO=>by
    rcases xe t ht with ht | ht
    ·rcases QZ.1 ht with rfl | ht
     ·exact Q8 ZO (by simp only;omega)
     ·exact Xf t ht (by omega)
    ·exact ht) s3 t3 (by omega) (by omega) (by omega)) ?_
   rintro _ w7 ⟨Xb,r1,rfl,m0,ZB⟩;have HS:Mod (·=p.q) w w7:=xd.trans Xb (λi hi=>.inl hi);refine⟨HS,r1,rfl,λh=>rj.2 (.inr (m0 h)),λh=>?_⟩;obtain⟨n1,S7,XX,HT⟩:=ZB h;have nn:¬dX p.D.nd x p.E.nd y:=λhh=>(rj.1 hh).elim n0 n1
   refine⟨nn,S7,XX,λt ht=>?_⟩;rcases HT t ht with ht | ht
   ·rcases xe t ht with ht | ht
    ·rcases QZ.1 ht with rfl | ht
     ·exact .inr nn
     ·exact .inl ht
    ·exact .inr ht
   ·exact .inr ht
theorem gQr (A:Option Addr)(n c:Nat)(a:List Br)(ra:Int)(B:Option Addr)(m d:Nat)(b:List Br)(rb:Int)(w:World)(h:SB w A n c a)(h':SB w B m d b)(ha:VD a ra)(hb:VD b rb):
  Fn Tryz.prog 112 [Xm A n c ra,Xm B m d rb,.bool false] w (λu w'=>∃r:Bool,u= .bool r/\Ext w w'/\(r=true↔dX a ra b rb)):=by
 have KU:=h.2;have eU:=h'.2;refine QD (c:={Nv with cuts:=[]}) Qa Tryz.func112 rfl rfl rfl ?_;refine new (λw1 Qd Q3 Qh=>?_);refine new (λw2 Qg Zb Qw=>?_);refine new (λw3 Qk JI Qt=>?_);have QW:=(Qd.trans Qg).trans Qk;refine rS Qa gu rfl ?_;intro w4 Qq KY HU;refine new (λw5 Qv KJ QK=>?_);refine KE QK (by decide) (λw6 KZ Xo=>?_);have Xz:Ext w4 w6:=KZ.ext Qv (λi hi=>by omega);refine new (λw7 Q2 WJ Q6=>?_);refine KE Q6 (by decide) (λw8 ZC Xt=>?_);have aQ:Ext w6 w8:=ZC.ext Q2 (λi hi=>by omega);have jd:=Xz.trans aQ;have YV:=Qq.trans jd;have YR:=QW.trans YV;have z6:=Xz.size
 let p:MPn:=⟨⟨A,n,c,a,ra⟩,⟨B,m,d,b,rb⟩,w2.heap.size,w4.heap.size,w.heap.size,w1.heap.size,w6.heap.size,w3.heap.size⟩
 have hK:MKn w8 p:=by
  refine⟨Qt.ext YV,Xo.ext aQ,Qh.ext ((Qg.trans Qk).trans YV),Qw.ext (Qk.trans YV),Xt,h.ext YR,h'.ext YR,?_,λad e h0=>?_,λad e h0=>?_⟩
  ·simp only[p];omega
  ·have:=SB.lt h ad e h0;simp only[p];omega
  ·have:=SB.lt h' ad e h0;simp only[p];omega
 refine Qx hK.cxb rfl ?_;refine Qp hK.axb rfl ?_;refine Qp hK.bxb rfl ?_;refine call (Re p ha.rd0 hb.rd0 (ra.toNat+rb.toNat+1) ra rb [] w8 hK ⟨[],HU.ext jd,λt=>rfl⟩ (λt ht=>by cases ht) ha.2.1 hb.2.1 (by have:=ha.2.2.1;simp only[p];omega) (by have:=hb.2.2.1;simp only[p];omega) (by have:=ha.2.1;have:=hb.2.1;omega)) ?_;rintro _ w9 ⟨Ze,r,rfl,h1,h2⟩;refine⟨r,rfl,Ze.ext YR (λi hi=>by simp only[p] at hi;have:=QW.size;omega),⟨h1,λhh=>?_⟩⟩;cases r with
 | true=>rfl
 | false=>exact Q8 hh (h2 rfl).1
open Classical in
def gv (a:List Br)(ra:Int)(b:List Br)(rb:Int):Bool:=decide (XG a ra=0/\XG b rb=0/\¬dX a ra b rb)
open Classical in
theorem Fv {a:List Br}{ra:Int}{b:List Br}{rb:Int}:gv a ra b rb=true↔XG a ra=0/\XG b rb=0/\¬dX a ra b rb:=by unfold gv;exact decide_eq_true_iff
theorem gQs {a:List Br}{ra:Int}{b:List Br}{rb:Int}(h:XG a ra=0/\XG b rb=0/\¬dX a ra b rb):gv a ra b rb=true:=Fv.2 h
theorem Rf {a:List Br}{ra:Int}{b:List Br}{rb:Int}(h:¬(XG a ra=0/\XG b rb=0/\¬dX a ra b rb)):gv a ra b rb=false:=by
 cases hh:gv a ra b rb with
 | false=>rfl
 | true=>exact Q8 (Fv.1 hh) h
theorem Rg (A:Option Addr)(n c:Nat)(a:List Br)(ra:Int)(B:Option Addr)(m d:Nat)(b:List Br)(rb:Int)(w:World)(h:SB w A n c a)(h':SB w B m d b):
  Fn Tryz.prog 62 [Xm A n c ra,Xm B m d rb] w (λu w'=>u= .bool (gv a ra b rb)/\Ext w w'):=by
 refine QD (c:={c62 with cuts:=[]}) Qa Tryz.func62 rfl rfl rfl ?_;refine new (λw1 Qd Q3 Qh=>?_);refine new (λw2 Qg Zb Qw=>?_);have Q7:=Qd.trans Qg;refine Qs (Qh.ext Qg) rfl ?_;refine Qs Qw rfl ?_;refine XI Qa [(⟨A,n,c,a,ra⟩:DV).cells,(⟨B,m,d,b,rb⟩:DV).cells] rfl rfl rfl rfl rfl ⟨rfl,rfl,rfl,rfl,⟨⟩⟩ rfl (λcs h=>by simp only[QZ,Jf,Jn] at h;rcases h with rfl | rfl<;>rfl) rfl (by decide) (by decide) ?_;intro w5 Qv KJ QK;have JV:=Q7.trans Qv;have hL:SlS DV.cells 2 w5 (some ⟨w2.heap.size,0,none⟩) 2 2 [⟨A,n,c,a,ra⟩,⟨B,m,d,b,rb⟩]:=⟨Sl.own (sz:=2) (n:=2) QK (QC _) (by decide) (by simp[DV.cells]),rfl⟩
 refine call (zW _ 2 2 _ w5 hL (λx hx=>by
  simp only[QZ,Jf,Jn] at hx;rcases hx with rfl | rfl
  ·exact h.ext JV
  ·exact h'.ext JV)) ?_
 rintro v w6 ⟨rfl,Xh⟩;have XM:=JV.trans Xh;have ef:bY [(⟨A,n,c,a,ra⟩:DV),⟨B,m,d,b,rb⟩]=if XG a ra≠0 then XG a ra else if XG b rb≠0 then XG b rb else 0:=rfl
 have gW:bY [(⟨A,n,c,a,ra⟩:DV),⟨B,m,d,b,rb⟩]=0↔XG a ra=0/\XG b rb=0:=by
  rw[ef];by_cases h1:XG a ra=0
  ·rw[if_neg (λhh=>hh h1)];by_cases h2:XG b rb=0
   ·rw[if_neg (λhh=>hh h2)];simp[h1,h2]
   ·rw[Qf h2];simp[h2]
  ·rw[Qf h1];simp[h1]
 refine Zh (λc1=>?_) (λc1=>?_)
 ·obtain⟨ca,cb⟩:=gW.1 c1;refine Qs ((Qh.ext Qg).ext (Qv.trans Xh)) rfl ?_;refine Qs (Qw.ext (Qv.trans Xh)) rfl ?_;refine call (gQr A n c a ra B m d b rb w6 (h.ext XM) (h'.ext XM) (fw.1 ca).2 (fw.1 cb).2) ?_;rintro _ w7 ⟨r,rfl,Q2,hr⟩;refine⟨?_,XM.trans Q2⟩;cases r with
  | true=>rw[Rf (λhh=>hh.2.2 (hr.1 rfl))]<;>rfl
  | false=>rw[gQs ⟨ca,cb,λhh=>by have:=hr.2 hh;cases this⟩];rfl
 ·exact⟨by rw[Rf (λhh=>c1 (gW.2 ⟨hh.1,hh.2.1⟩))],XM⟩
end
theorem Ay (l:List Nat)(w:World)(hl:∀x∈l,x<256):
  Fn Tryz.prog 47 [.string (Qe l)] w (λu w'=>u= .bool (KW l)/\Ext w w'):=by
 refine QD (c:={c47 with cuts:=[]}) Qa Tryz.func47 rfl rfl rfl ?_;refine XI Qa ([Zl,pElif,pInc].map (λs=>[Value.string (Qe s)])) rfl rfl rfl rfl rfl ⟨rfl,rfl,rfl,rfl,rfl,rfl,⟨⟩⟩ rfl (λcs h=>by simp only[Z4] at h;obtain⟨s,_,rfl⟩:=h;rfl) rfl (by decide) (by decide) ?_;intro w1 Qd Q3 Qh;refine loop Qa [7] (λi:Nat=>[.int .i64 i]) (λi w'=>w1=w'/\i<=3/\([Zl,pElif,pInc].take i).any (λp=>p.isPrefixOf l)=false) (λi _=>3-i) 0 rfl ⟨rfl,XJ _,rfl⟩ ?_;rintro i _ ⟨rfl,hi,Xf⟩;by_cases h3:i<3
 ·refine XH (show((i:Nat):Int)<3 by omega) ?_;obtain⟨p,hp⟩:∃p,([Zl,pElif,pInc]:List (List Nat))[i]? =some p:=⟨_,Xn (show i<3 from h3)⟩
  have hp8:∀x∈p,x<256:=by
   have:∀q∈([Zl,pElif,pInc]:List (List Nat)),∀x∈q,x<256:=by decide
   exact this p (QO hp)
  refine index (j:=i) h3 ?_;refine Qp (v:=.string (Qe p)) Qh (by
   rcases(show i=0∨i=1∨i=2 by omega)with rfl | rfl | rfl<;>(cases hp;rfl)) ?_
  refine call (Fh l p w1 hl hp8) ?_;rintro _ _ ⟨rfl,rfl⟩;refine Wn (λd1=>?_) (λd1=>?_)
  ·refine⟨?_,Qd⟩;have d1:p.isPrefixOf l=true:=d1;have hm:=QO hp;simp only[QZ,Jf,Jn] at hm;unfold KW;rcases hm with rfl | rfl | rfl<;>rw[d1]<;>simp
  ·have d1:p.isPrefixOf l=false:=d1;refine Qi ((i+1:Nat):Int) (by show((i:Nat):Int)+1=_;omega) (by omega) ?_;refine⟨i+1,rfl,⟨rfl,by omega,?_⟩,by show 3-(i+1)<3-i;omega⟩;rw[VT,hp,List.any_append,Xf];simp[d1]
 ·have hi3:i=3:=by omega
  subst hi3;refine Q9 (by decide) ?_;have Xf:(Zl.isPrefixOf l||(pElif.isPrefixOf l||(pInc.isPrefixOf l||false)))=false:=Xf;simp only[Bool.or_eq_false_iff] at Xf;obtain⟨n1,n2,n3,_⟩:=Xf;have e:KW l=(decide (l=Jd++ [10])||decide (l=Xx++ [10])):=by unfold KW;rw[n1,n2,n3]<;>rfl
  have q1:(Qe l=(Qe (Jd++ [10])))↔l=Jd++ [10]:=⟨λhh=>Jc hl (by decide) hh,λhh=>by rw[hh]⟩
  have q2:(Qe l=(Qe (Xx++ [10])))↔l=Xx++ [10]:=⟨λhh=>Jc hl (by decide) hh,λhh=>by rw[hh]⟩
  by_cases c1:l=Jd++ [10]
  ·refine XH (q1.2 c1) ?_;exact⟨by rw[e,XR c1];rfl,Qd⟩
  ·refine Q9 (λhh=>c1 (q1.1 hh)) ?_;refine⟨?_,Qd⟩;rw[e,X4 c1,Bool.false_or];by_cases c2:l=Xx++ [10]
   ·rw[XR c2];exact QN Value.bool (XR (q2.2 c2))
   ·rw[X4 c2];exact QN Value.bool (X4 (λhh=>c2 (q2.1 hh)))
theorem gQt (l:List Nat)(w:World)(hl:∀x∈l,x<256)(Xd:l.length<=1000000000000):
  Fn Tryz.prog 168 [.string (Qe l),.string (Qe [10])] w (λv w'=>v= .bool (l.getLast? ==some 10)/\w=w'):=by
 have Xu:=XF l;refine QD (c:=cQH) Qa Tryz.func168 rfl rfl rfl ?_;have h1:(Qe [10]).size=1:=rfl;refine Qy (λc1=>?_) (λc1=>?_)
 ·have jl:1<=l.length:=by omega
  refine Qi ((l.length-1:Nat):Int) (by omega) (by omega) ?_;refine Ke (v':=.string (Qe (l.drop (l.length-1)))) ⟨by omega,by rw[Xu];omega,by rw[Xu];omega⟩ (by
   rw[KN,Xu];show Value.string (Qe ((l.take l.length).drop _))=_;rw[Jm (QC _)];rfl) ?_
  refine⟨?_,rfl⟩;obtain⟨a,b,rfl⟩:∃a b,l=a++ [b]:=by
   rcases oK l with e | ⟨a,b,e⟩
   ·subst e;simp at jl
   ·exact⟨a,b,by rw[e,List.concat_eq_append]⟩
  have e1:(a++ [b]).drop ((a++ [b]).length-1)=[b]:=by simp
  rw[e1];have hb:b<256:=hl b (by simp);rw[List.getLast?_concat];by_cases qm:b=10
  ·subst qm;simp
  ·have:¬Qe [b]=Qe [10]:=λhh=>qm (by
    have:=Jc (l:=[b]) (m:=[10]) (by simpa using hb) (by decide) hh;simpa using this)
   simp[this,qm]
 ·have Bc:l=[]:=aA (by omega);subst Bc;exact⟨rfl,rfl⟩
theorem gQu (l:List Nat)(w:World)(hl:∀x∈l,x<256)(Xd:l.length<=1000000000000):
  Fn Tryz.prog 113 [.string (Qe l),.string (Qe [10])] w (λv w'=>v= .bool (l.getLast? ==some 10)/\w=w'):=by
 refine QD (c:=bQ6) Qa Tryz.func113 rfl rfl rfl ?_;refine call (gQt l w hl Xd) ?_;rintro _ _ ⟨rfl,rfl⟩;exact⟨rfl,rfl⟩
end
section
variable {nm:List (List Nat)} {n:Nat}
theorem gQv {l:Tr}(w:Wt n l):dp (J0 nm l)=0/\∀k,0<=dp ((J0 nm l).take k):=by
 obtain⟨b1,b2⟩:=iM nm w;cases l with
 | nil=>exact⟨rfl,λk=>by simp[J0,dp]⟩
 | _=>
  rw[J0]
  ·refine⟨by rw[aH,sK,b1];rfl,λk=>?_⟩;cases k with
   | zero=>simp[dp]
   | succ k=>rw[jx,aH,sK];have:=b2 k;omega
  ·exactλe=>by cases e
theorem gQw {h l:Tr}(w:Wt n h)(w':Wt n l):dp (fl nm h++J0 nm l)=0/\∀k,0<=dp ((fl nm h++J0 nm l).take k):=by
 obtain⟨a1,a2⟩:=iM nm w;obtain⟨b1,b2⟩:=gQv (nm:=nm) w';refine⟨by rw[gp,a1,b1];rfl,λk=>?_⟩;rw[rx,gp];have:=a2 k;have:=b2 (k-(fl nm h).length);omega
theorem sN:∀{t:Tr},Wt n t->∀A B,fl nm t=A++B->dp A=0->∃a b,t=ap a b/\fl nm a=A/\fl nm b=B
 | t,_,[],B,h,_=>⟨.nil,t,rfl,rfl,by simpa using h⟩
 | .nil,_,x::A,B,h,_=>by cases h
 | .ln s r,w,x::A,B,h,h0=>by
  rw[fl,Jb] at h;obtain⟨rfl,h'⟩:=List.cons.inj h;rw[aH,(iL w.1).1] at h0;obtain⟨a,b,rfl,h1,h2⟩:=sN w.2 A B h' (by omega);exact⟨.ln s a,b,rfl,by rw[fl,h1],h2⟩
 | .sc v ng h l r,w,x::A,B,hf,h0=>by
  obtain⟨_,w1,w2,w3⟩:=w;rw[Yl,Jb] at hf;obtain⟨rfl,QY⟩:=List.cons.inj hf;rw[aH,py] at h0;obtain⟨d1,d2⟩:=gQw (nm:=nm) w1 w2;rcases List.append_eq_append_iff.1 QY with⟨a',rfl,ha⟩ | ⟨c',hc,rfl⟩
  ·cases a' with
   | nil=>rw[YH] at h0;omega
   | cons y a'=>
    rw[Jb] at ha;obtain⟨rfl,qT⟩:=List.cons.inj ha;rw[gp,aH,vJ] at h0;obtain⟨a,b,rfl,h1,h2⟩:=sN w3 a' B qT (by omega);exact⟨.sc v ng h l a,b,rfl,by rw[Yl,h1],h2⟩
  ·have:=d2 A.length;rw[hc,List.take_left] at this;omega
def vP (nm:List (List Nat))(n:Nat):Prop:=∀v v' ng ng',v<n->v'<n->ZA nm v ng=ZA nm v' ng'->v=v'/\ng=ng'
theorem Rh (l:Tr)(z:List (List Nat)):(l= .nil/\J0 nm l++Xx::z=Xx::z)∨(l≠ .nil/\J0 nm l++Xx::z=Jd::(fl nm l++Xx::z)):=by
 cases l with
 | nil=>exact .inl ⟨rfl,rfl⟩
 | _=>exact .inr ⟨(by intro e;cases e),by simp[J0]⟩
theorem kn (hI:vP nm n):∀{a:Tr},Wt n a->∀{a':Tr},Wt n a'->∀{x x':List Nat}{y y':List (List Nat)},(x=Jd∨x=Xx)->(x'=Jd∨x'=Xx)->fl nm a++x::y=fl nm a'++x'::y'->a=a'/\x=x'/\y=y'
 | .nil,_,.nil,_,x,x',y,y',_,_,h=>by obtain⟨h1,h2⟩:=List.cons.inj h;exact⟨rfl,h1,h2⟩
 | .nil,_,.ln s r,w,x,x',y,y',hx,_,h=>by
  have h:=(List.cons.inj h).1;subst h;have:=iL w.1;rcases hx with e | e
  ·exact Q8 e this.2.2.1
  ·exact Q8 e this.2.1
 | .nil,_,.sc v ng p q r,w,x,x',y,y',hx,_,h=>by
  rw[Yl] at h;have h:=(List.cons.inj h).1;have e:=py nm v ng;rw[<-h] at e;rcases hx with rfl | rfl
  ·rw[sK] at e;cases e
  ·rw[vJ] at e;cases e
 | .ln s r,w,.nil,_,x,x',y,y',_,hx,h=>by
  have h:=(List.cons.inj h).1;subst h;have:=iL w.1;rcases hx with e | e
  ·exact Q8 e this.2.2.1
  ·exact Q8 e this.2.1
 | .ln s r,w,.ln s' r',w',x,x',y,y',hx,KA,h=>by
  rw[fl,fl,Jb,Jb] at h;obtain⟨rfl,h'⟩:=List.cons.inj h;obtain⟨rfl,h1,h2⟩:=kn hI w.2 w'.2 hx KA h';exact⟨rfl,h1,h2⟩
 | .ln s r,w,.sc v ng p q r',w',x,x',y,y',_,_,h=>by
  rw[fl,Yl] at h;have h:=(List.cons.inj h).1;have e:=(iL w.1).1;rw[h,py] at e;cases e
 | .sc v ng p q r,w,.nil,_,x,x',y,y',_,hx,h=>by
  rw[Yl] at h;have h:=(List.cons.inj h).1;have e:=py nm v ng;rw[h] at e;rcases hx with rfl | rfl
  ·rw[sK] at e;cases e
  ·rw[vJ] at e;cases e
 | .sc v ng p q r',w,.ln s r,w',x,x',y,y',_,_,h=>by
  rw[fl,Yl] at h;have h:=(List.cons.inj h).1;have e:=(iL w'.1).1;rw[<-h,py] at e;cases e
 | .sc v ng p q r,w,.sc v' ng' p' q' r',w',x,x',y,y',hx,KA,h=>by
  rw[Yl,Yl,Jb,Jb] at h;obtain⟨h0,hq⟩:=List.cons.inj h;obtain⟨e0,e0'⟩:=hI v v' ng ng' w.1 w'.1 h0;subst e0 e0';rw[Je,Je,Je,Je,Jb,Jb] at hq;rcases Rh (nm:=nm) q (fl nm r++x::y)with⟨e1,e2⟩ | ⟨e1,e2⟩<;>rcases Rh (nm:=nm) q' (fl nm r'++x'::y')with⟨f1,f2⟩ | ⟨f1,f2⟩<;>rw[e2,f2] at hq
  ·obtain⟨k1,_,k2⟩:=kn hI w.2.1 w'.2.1 (.inr rfl) (.inr rfl) hq;obtain⟨k3,h1,h2⟩:=kn hI w.2.2.2 w'.2.2.2 hx KA k2;exact⟨by rw[k1,k3,e1,f1],h1,h2⟩
  ·obtain⟨_,e,_⟩:=kn hI w.2.1 w'.2.1 (.inr rfl) (.inl rfl) hq;exact Q8 e (by decide)
  ·obtain⟨_,e,_⟩:=kn hI w.2.1 w'.2.1 (.inl rfl) (.inr rfl) hq;exact Q8 e (by decide)
  ·obtain⟨k1,_,k2⟩:=kn hI w.2.1 w'.2.1 (.inl rfl) (.inl rfl) hq;obtain⟨k3,_,k4⟩:=kn hI w.2.2.1 w'.2.2.1 (.inr rfl) (.inr rfl) k2;obtain⟨k5,h1,h2⟩:=kn hI w.2.2.2 w'.2.2.2 hx KA k4;exact⟨by rw[k1,k3,k5],h1,h2⟩
theorem Fw (hI:vP nm n){a a':Tr}(w:Wt n a)(w':Wt n a')(h:fl nm a=fl nm a'):a=a':=
 (kn hI w w' (x:=Xx) (x':=Xx) (y:=[]) (y':=[]) (.inr rfl) (.inr rfl) (by rw[h])).1
def iO (v:Nat)(h l e:Tr):Tr:=match h with
 | .nil=>.sc v true l .nil e
 | h=>.sc v false h l e
theorem pB {v:Nat}{h l e:Tr}(hh:h≠ .nil):iO v h l e= .sc v false h l e:=by
 cases h with
 | nil=>exact Q8 rfl hh
 | _=>rfl
theorem ko {l:Tr}(hh:l≠ .nil):J0 nm l=Jd::fl nm l:=by
 cases l with
 | nil=>exact Q8 rfl hh
 | _=>rfl
def Az (a b:List (List Nat)):Prop:=∀s,ZN s= .txt->¬(a.head? =some s/\b.head? =some s)/\¬(a.getLast? =some s/\b.getLast? =some s)
theorem vQ {t:Tr}:fl nm t=[]↔t= .nil:=by
 cases t with
 | nil=>simp[fl]
 | ln s r=>simp[fl]
 | sc v ng h l r=>rw[Yl];simp
theorem gQx (hI:vP nm n){v:Nat}{H L:Tr}(wH:Wt n H)(wL:Wt n L)(QQ:fl nm H≠fl nm L):
  ∃P H2 L2 E,H=ap P (ap H2 E)/\L=ap P (ap L2 E)/\Wy nm v (fl nm H) (fl nm L)=fl nm (ap P (iO v H2 L2 E))/\(H2≠ .nil∨L2≠ .nil)/\Az (fl nm H2) (fl nm L2):=by
 obtain⟨p1,p2,p3,p4,p5⟩:=Ae (fl nm H) (fl nm L);generalize hp:V0 (fl nm H) (fl nm L)=p at*;obtain⟨P,H1,rfl,a1,a2⟩:=sN wH _ _ (eZ p (fl nm H)).symm p4;obtain⟨P',L1,rfl,b1,b2⟩:=sN wL _ _ (eZ p (fl nm L)).symm (by rw[<-p3];exact p4);obtain⟨wP,HV⟩:=gq.1 wH;obtain⟨wP',HW⟩:=gq.1 wL;have hPP:P=P':=Fw hI wP wP' (by rw[a1,b1,p3]);subst hPP;have hPl:(fl nm P).length=p:=by rw[a1,Ye];omega
 obtain⟨s1,s2,s3,s4,s5⟩:=Fd (fl nm H1) (fl nm L1);have hj:Wy nm v (fl nm (ap P H1)) (fl nm (ap P L1))=fl nm P++((if(fl nm H1).take ((fl nm H1).length-Wx (fl nm H1) (fl nm L1))=[] then ZA nm v true::(fl nm L1).take ((fl nm L1).length-Wx (fl nm H1) (fl nm L1))else ZA nm v false::((fl nm H1).take ((fl nm H1).length-Wx (fl nm H1) (fl nm L1))++if(fl nm L1).take ((fl nm L1).length-Wx (fl nm H1) (fl nm L1))=[] then [] else Jd::(fl nm L1).take ((fl nm L1).length-Wx (fl nm H1) (fl nm L1))))++Xx::(fl nm H1).drop ((fl nm H1).length-Wx (fl nm H1) (fl nm L1))):=by
  unfold Wy;simp only[hp];rw[<-a1,<-a2,<-b2]
 generalize Wx (fl nm H1) (fl nm L1)=s at*;have e1:dp ((fl nm H1).take ((fl nm H1).length-s))=0:=by
  have:=(iM nm HV).1;rw[<-eZ ((fl nm H1).length-s) (fl nm H1),gp,s4] at this;omega
 have e2:dp ((fl nm L1).take ((fl nm L1).length-s))=0:=by
  have:=(iM nm HW).1;rw[<-eZ ((fl nm L1).length-s) (fl nm L1),gp,<-s3,s4] at this;omega
 obtain⟨H2,E,rfl,c1,c2⟩:=sN HV _ _ (eZ ((fl nm H1).length-s) (fl nm H1)).symm e1;obtain⟨L2,E',rfl,d1,d2⟩:=sN HW _ _ (eZ ((fl nm L1).length-s) (fl nm L1)).symm e2;obtain⟨wH2,wE⟩:=gq.1 HV;obtain⟨wL2,wE'⟩:=gq.1 HW;have hEE:E=E':=Fw hI wE wE' (by rw[c2,d2,s3]);subst hEE;have hEl:(fl nm E).length=s:=by rw[c2,Y3];omega
 refine⟨P,H2,L2,E,rfl,rfl,?_,?_,λx hx=>⟨λhh=>?_,λhh=>?_⟩⟩
 ·rw[hj,<-c1,<-c2,<-d1,fx];congr 1;by_cases e1:H2= .nil
  ·subst e1;rw[Qf (vQ.2 rfl),iO,Yl];simp[J0]
  ·rw[if_neg (λe=>e1 (vQ.1 e)),pB e1,Yl];by_cases e2:L2= .nil
   ·subst e2;rw[Qf (vQ.2 rfl)];simp[J0]
   ·rw[if_neg (λe=>e2 (vQ.1 e)),ko e2];simp
 ·by_cases h:H2= .nil
  ·right
   intro h';subst h h';exact QQ rfl
  ·exact .inl h
 ·obtain⟨h1,h2⟩:=hh;have:=p5 (p+1);cases hq:fl nm H2 with
  | nil=>rw[hq] at h1;cases h1
  | cons y A=>
   cases hq':fl nm L2 with
   | nil=>rw[hq'] at h2;cases h2
   | cons y' A'=>
    rw[hq] at h1;rw[hq'] at h2;cases h1;cases h2;rw[fx,fx,fx,fx,hq,hq',<-hPl] at this;have t1:∀z:List (List Nat),(fl nm P++(x::z)).take ((fl nm P).length+1)=fl nm P++ [x]:=λz=>by rw[rx];simp[Jm]
    rw[Jb,Jb,t1,t1,gp,(iM nm wP).1] at this;have:=this (by simp) (by simp) rfl (by simp[dp,(iL hx).1]);omega
 ·obtain⟨h1,h2⟩:=hh;have:=s5 (s+1);rcases oK (fl nm H2)with hq | ⟨A,y,hq⟩
  ·rw[hq] at h1;cases h1
  rcases oK (fl nm L2)with hq' | ⟨A',y',hq'⟩
  ·rw[hq'] at h2;cases h2
  rw[List.concat_eq_append] at hq hq';rw[hq] at h1;rw[hq'] at h2;simp only[List.getLast?_concat,Option.some.injEq] at h1 h2;subst h1 h2;rw[fx,fx,hq,hq'] at this;have t1:∀z:List (List Nat),(z++ [y']++fl nm E).drop ((z++ [y']++fl nm E).length-(s+1))=y'::fl nm E:=λz=>by
   rw[Je,show(z++([y']++fl nm E)).length-(s+1)=z.length by simp only[Qu,Xj,Z5];omega,rB];rfl
  rw[t1,t1,aH,(iL hx).1,(iM nm wE).1] at this;have:=this (by simp only[Qu,Xj,Z5];omega) (by simp only[Qu,Xj,Z5];omega) rfl rfl;omega
end
section
variable {nm:List (List Nat)} {n:Nat}
def VG (e:Nat->Bool):Tr->List (List Nat)
 | .nil=>[]
 | .ln s r=>s::VG e r
 | .sc v ng h l r=>(if(e v !=ng)=true then VG e h else VG e l)++VG e r
theorem pC (e:Nat->Bool):∀a b:Tr,VG e (ap a b)=VG e a++VG e b
 | .nil,b=>rfl
 | .ln s r,b=>by rw[ap,VG,VG,pC e r b]<;>rfl
 | .sc v ng h l r,b=>by rw[ap,VG,VG,pC e r b];simp
theorem gQy (e:Nat->Bool)(v:Nat)(h l r:Tr):VG e (iO v h l r)=(if e v=true then VG e h else VG e l)++VG e r:=by
 by_cases hh:h= .nil
 ·subst hh;show(if(e v !=true)=true then VG e l else [])++VG e r=(if e v=true then [] else VG e l)++VG e r;generalize e v=b;cases b<;>rfl
 ·rw[pB hh];show(if(e v !=false)=true then VG e h else VG e l)++VG e r=_;generalize e v=b;cases b<;>rfl
def WB (nm:List (List Nat)):Tr->Prop
 | .nil=>True
 | .ln _ r=>WB nm r
 | .sc _ _ h l r=>h≠ .nil/\(l≠ .nil->Az (fl nm h) (fl nm l))/\WB nm h/\WB nm l/\WB nm r
theorem pD:∀{a b:Tr},WB nm (ap a b)↔WB nm a/\WB nm b
 | .nil,b=>by simp[ap,WB]
 | .ln s r,b=>by simp[ap,WB,pD (a:=r) (b:=b)]
 | .sc v ng h l r,b=>by simp[ap,WB,pD (a:=r) (b:=b),and_assoc]
theorem gQz {v:Nat}{h l r:Tr}(h1:h≠ .nil∨l≠ .nil)(h2:Az (fl nm h) (fl nm l))(h3:WB nm h)(h4:WB nm l)(h5:WB nm r):WB nm (iO v h l r):=by
 by_cases hh:h= .nil
 ·subst hh;exact⟨h1.resolve_left (λe=>e rfl),λe=>Q8 rfl e,h4,trivial,h5⟩
 ·rw[pB hh];exact⟨hh,λ_=>h2,h3,h4,h5⟩
def dT:Tr->Nat
 | .nil=>0
 | .ln _ r=>dT r
 | .sc _ _ h l r=>max (1+max (dT h) (dT l)) (dT r)
theorem vR:∀a b:Tr,dT (ap a b)=max (dT a) (dT b)
 | .nil,b=>by simp[ap,dT]
 | .ln s r,b=>by rw[ap,dT,dT,vR r b]
 | .sc v ng h l r,b=>by rw[ap,dT,dT,vR r b,Nat.max_assoc]
theorem gQA (v:Nat)(h l r:Tr):dT (iO v h l r)<=max (1+max (dT h) (dT l)) (dT r):=by
 by_cases hh:h= .nil
 ·subst hh;show max (1+max (dT l) 0) (dT r)<=_;simp only[dT];omega
 ·rw[pB hh];exact QC _
def bu (P:List Nat->Prop):Tr->Prop
 | .nil=>True
 | .ln s r=>P s/\bu P r
 | .sc _ _ h l r=>bu P h/\bu P l/\bu P r
theorem pE {P:List Nat->Prop}:∀{a b:Tr},bu P (ap a b)↔bu P a/\bu P b
 | .nil,b=>by simp[ap,bu]
 | .ln s r,b=>by simp[ap,bu,pE (a:=r) (b:=b),and_assoc]
 | .sc v ng h l r,b=>by simp[ap,bu,pE (a:=r) (b:=b),and_assoc]
theorem gQB {P:List Nat->Prop}{v:Nat}{h l r:Tr}(h1:bu P h)(h2:bu P l)(h3:bu P r):bu P (iO v h l r):=by
 by_cases hh:h= .nil
 ·subst hh;exact⟨h2,trivial,h3⟩
 ·rw[pB hh];exact⟨h1,h2,h3⟩
theorem gQC {v:Nat}{h l r:Tr}(h0:v<n)(h1:Wt n h)(h2:Wt n l)(h3:Wt n r):Wt n (iO v h l r):=by
 by_cases hh:h= .nil
 ·subst hh;exact⟨h0,h2,trivial,h3⟩
 ·rw[pB hh];exact⟨h0,h1,h2,h3⟩
theorem gQD (v:Nat)(h l r:Tr):(fl nm (iO v h l r)).length<=(fl nm h).length+(fl nm l).length+(fl nm r).length+3:=by
 by_cases hh:h= .nil
 ·subst hh;rw[iO,Yl];simp[J0,fl];omega
 ·rw[pB hh,Yl];by_cases hl:l= .nil
  ·subst hl;simp[J0,fl];omega
  ·rw[ko hl];simp;omega
def iP:List (List Nat)->Tr
 | []=>.nil
 | s::l=>.ln s (iP l)
theorem Fx:∀l:List (List Nat),fl nm (iP l)=l
 | []=>rfl
 | s::l=>by rw[iP,fl,Fx l]
theorem Ri (e:Nat->Bool):∀l:List (List Nat),VG e (iP l)=l
 | []=>rfl
 | s::l=>by rw[iP,VG,Ri e l]
theorem Rj:∀l:List (List Nat),WB nm (iP l)
 | []=>trivial
 | s::l=>Rj l
theorem Rk:∀l:List (List Nat),dT (iP l)=0
 | []=>rfl
 | s::l=>Rk l
theorem Rl:∀{l:List (List Nat)},(∀s∈l,ZN s= .txt)->Wt n (iP l)
 | [],_=>trivial
 | s::l,h=>⟨h s (by simp),Rl (λt ht=>h t (by simp[ht]))⟩
theorem Rm {P:List Nat->Prop}:∀{l:List (List Nat)},(∀s∈l,P s)->bu P (iP l)
 | [],_=>trivial
 | s::l,h=>⟨h s (by simp),Rm (λt ht=>h t (by simp[ht]))⟩
def XV (nm:List (List Nat))(f:Nat->List Nat):Nat->Nat->List Nat->List (List Nat)
 | 0,_,l=>QT (f (l.headD 0))
 | k+1,v,l=>if∀c∈l,f c=f (l.headD 0)then QT (f (l.headD 0))else
  if l.filter (λc=> !c.testBit v)=[]∨l.filter (λc=>c.testBit v)=[] then XV nm f k (v+1) l else
  if XV nm f k (v+1) (l.filter (λc=>c.testBit v))=XV nm f k (v+1) (l.filter (λc=> !c.testBit v))then XV nm f k (v+1) (l.filter (λc=>c.testBit v))else
  Wy nm v (XV nm f k (v+1) (l.filter (λc=>c.testBit v))) (XV nm f k (v+1) (l.filter (λc=> !c.testBit v)))
theorem sS {l:List Nat}(h:l≠ []):l.headD 0∈l:=by
 cases l with
 | nil=>exact Q8 rfl h
 | cons a l=>simp
theorem vS {f:Nat->List Nat}{l:List Nat}(hl:l≠ []){t:List Nat}(h:∀c∈l,f c=t):∀k v,XV nm f k v l=QT t:=by
 have h0:=h _ (sS hl);intro k v;cases k with
 | zero=>rw[XV,h0]
 | succ k=>rw[XV,Qf (λc hc=>by rw[h c hc,h0]),h0]
theorem pF {f:Nat->List Nat}{l:List Nat}(hl:l≠ [])(k v:Nat):XV nm f (k+1) v l=
  if l.filter (λc=> !c.testBit v)=[]∨l.filter (λc=>c.testBit v)=[] then XV nm f k (v+1) l else
  if XV nm f k (v+1) (l.filter (λc=>c.testBit v))=XV nm f k (v+1) (l.filter (λc=> !c.testBit v))then XV nm f k (v+1) (l.filter (λc=>c.testBit v))else
  Wy nm v (XV nm f k (v+1) (l.filter (λc=>c.testBit v))) (XV nm f k (v+1) (l.filter (λc=> !c.testBit v))):=by
 by_cases hc:∀c∈l,f c=f (l.headD 0)
 ·rw[vS hl hc,vS hl hc];split
  ·rfl
  ·rename_i h;have h1:l.filter (λc=> !c.testBit v)≠ []:=λe=>h (.inl e)
   have h2:l.filter (λc=>c.testBit v)≠ []:=λe=>h (.inr e)
   rw[vS h1 (λc hm=>hc c (JZ.1 hm).1),vS h2 (λc hm=>hc c (JZ.1 hm).1),Qf rfl]
 ·rw[XV,if_neg hc]
def gQE (t:List Nat):Prop:=∀s∈QT t,ZN s= .txt
def Apt (l:List Nat)(v k:Nat):Prop:=∀c∈l,∀c'∈l,(∀i,v<=i->i<v+k->c.testBit i=c'.testBit i)->c=c'
theorem Apt.sub {l m:List Nat}{v k:Nat}(h:Apt l v (k+1))(hm:∀c∈m,c∈l)(he:∀c∈m,∀c'∈m,c.testBit v=c'.testBit v):Apt m (v+1) k:=λc hc c' Z2 hb=>h c (hm c hc) c' (hm c' Z2) (λi h1 h2=>by
 by_cases e:i=v
 ·subst e;exact he c hc c' Z2
 ·exact hb i (by omega) (by omega))
theorem AA (hI:vP nm n){f:Nat->List Nat}{P:List Nat->Prop}{M:Nat}:∀(k v:Nat)(l:List Nat),v+k<=n->l≠ []->Apt l v k->(∀c∈l,gQE (f c)/\(∀s∈QT (f c),P s)/\(QT (f c)).length<=M)->
  ∃T,XV nm f k v l=fl nm T/\Wt n T/\WB nm T/\dT T<=k/\bu P T/\(fl nm T).length+3<=l.length*(M+3)/\∀c∈l,VG (λi=>c.testBit i) T=QT (f c)
 | 0,v,l,hv,hl,ha,hp=>by
  have h0:=hp _ (sS hl);have hall:∀c∈l,c=l.headD 0:=λc hc=>ha c hc _ (sS hl) (λi h1 h2=>by omega)
  refine⟨iP (QT (f (l.headD 0))),by rw[Fx,XV],Rl h0.1,Rj _,by rw[Rk];exact QC _,Rm h0.2.1,?_,λc hc=>by rw[Ri,hall c hc]⟩;rw[Fx];have:1<=l.length:=yO.2 hl;have:=Y1 (M+3) this;have:=h0.2.2;omega
 | k+1,v,l,hv,hl,ha,hp=>by
  rw[pF hl];split
  ·rename_i h;have he:∀c∈l,∀c'∈l,c.testBit v=c'.testBit v:=by
    rcases h with h | h
    ·have:=yQ.1 h;intro c hc c' Z2;have h1:=this c hc;have h2:=this c' Z2;simp at h1 h2;rw[h1,h2]
    ·have:=yQ.1 h;intro c hc c' Z2;have h1:=this c hc;have h2:=this c' Z2;simp at h1 h2;rw[h1,h2]
   obtain⟨T,h1,h2,h3,h4,h5⟩:=AA hI (P:=P) (M:=M) k (v+1) l (by omega) hl (ha.sub (λc hc=>hc) he) hp;exact⟨T,h1,h2,h3,by omega,h5⟩
  ·rename_i h;have n1:l.filter (λc=> !c.testBit v)≠ []:=λe=>h (.inl e)
   have n2:l.filter (λc=>c.testBit v)≠ []:=λe=>h (.inr e)
   have m1:∀c∈l.filter (λc=> !c.testBit v),c∈l/\c.testBit v=false:=λc hc=>by have:=JZ.1 hc;exact⟨this.1,by simpa using this.2⟩
   have m2:∀c∈l.filter (λc=>c.testBit v),c∈l/\c.testBit v=true:=λc hc=>by have:=JZ.1 hc;exact⟨this.1,by simpa using this.2⟩
   have Xd:(l.filter (λc=>c.testBit v)).length+(l.filter (λc=> !c.testBit v)).length=l.length:=by
    clear h hl ha hp n1 n2 m1 m2;induction l with
    | nil=>rfl
    | cons a l ih=>by_cases e:a.testBit v=true<;>simp[uE,e]<;>omega
   obtain⟨L,a1,a2,a3,a4,a5,a6,a7⟩:=AA hI (P:=P) (M:=M) k (v+1) _ (by omega) n1 (ha.sub (λc hc=>(m1 c hc).1) (λc hc c' Z2=>by rw[(m1 c hc).2,(m1 c' Z2).2])) (λc hc=>hp c (m1 c hc).1);obtain⟨H,b1,b2,b3,b4,b5,b6,b7⟩:=AA hI (P:=P) (M:=M) k (v+1) _ (by omega) n2 (ha.sub (λc hc=>(m2 c hc).1) (λc hc c' Z2=>by rw[(m2 c hc).2,(m2 c' Z2).2])) (λc hc=>hp c (m2 c hc).1);rw[a1,b1];have xW:l.length*(M+3)=(l.filter (λc=>c.testBit v)).length*(M+3)+(l.filter (λc=> !c.testBit v)).length*(M+3):=by rw[<-rv,Xd]
   split
   ·rename_i e;have hHL:H=L:=Fw hI b2 a2 e;subst hHL;refine⟨H,rfl,b2,b3,by omega,b5,by omega,λc hc=>?_⟩;cases hb:c.testBit v with
    | true=>exact b7 c (JZ.2 ⟨hc,hb⟩)
    | false=>exact a7 c (JZ.2 ⟨hc,by simp[hb]⟩)
   ·rename_i e;obtain⟨Q,H2,L2,E,rfl,rfl,hj,QQ,aW⟩:=gQx hI (v:=v) b2 a2 e;obtain⟨q1,q2⟩:=gq.1 b2;obtain⟨q2,q3⟩:=gq.1 q2;obtain⟨_,r2⟩:=gq.1 a2;obtain⟨r2,_⟩:=gq.1 r2;obtain⟨s1,s2⟩:=pD.1 b3;obtain⟨s2,s3⟩:=pD.1 s2;obtain⟨_,t2⟩:=pD.1 a3;obtain⟨t2,_⟩:=pD.1 t2;obtain⟨u1,u2⟩:=pE.1 b5;obtain⟨u2,u3⟩:=pE.1 u2;obtain⟨_,w2⟩:=pE.1 a5;obtain⟨w2,_⟩:=pE.1 w2;rw[vR,vR] at a4 b4;rw[fx,fx,Qu,Qu] at a6 b6;rw[hj];refine⟨_,rfl,gq.2 ⟨q1,gQC (by omega) q2 r2 q3⟩,pD.2 ⟨s1,gQz QQ aW s2 t2 s3⟩,?_,pE.2 ⟨u1,gQB u2 w2 u3⟩,?_,λc hc=>?_⟩
    ·rw[vR];have:=gQA v H2 L2 E;omega
    ·rw[fx,Qu];have:=gQD (nm:=nm) v H2 L2 E;omega
    ·rw[pC,gQy];cases hb:c.testBit v with
     | true=>
      have:=b7 c (JZ.2 ⟨hc,hb⟩);rw[pC,pC] at this;rw[Qf rfl];exact this
     | false=>
      have:=a7 c (JZ.2 ⟨hc,by simp[hb]⟩);rw[pC,pC] at this;rw[if_neg (by decide)];exact this
end
end Go.Proofs.YtjabbbcdgmlojaaGreatDoor
